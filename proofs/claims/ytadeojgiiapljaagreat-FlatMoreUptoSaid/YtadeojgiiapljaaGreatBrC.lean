/- FlatMore: the walk. -/
import Derived.Test.YtadeojgiiapljaaGreatBrB
set_option linter.unusedSimpArgs false
set_option linter.unusedVariables false
namespace Go.Proofs.YtadeojgiiapljaaGreat.Im
open Go
open Go.ChangeShapes Go.WideShapes Go.ChangeAt Go.RowKit
set_option maxRecDepth 100000
theorem cells_eq {v w : Value} (h : v.cells = #[v]) (q : v.cells.toList = [w]) : v = w := by
  rw [h] at q; cases q; rfl
/-- FlatMore answers true, and leaves what was. -/
theorem walk3 {base : Nat} {H : Type} {enc : TypeId × Value → H} {W : World} {v0 v1 v2 v3 v4 v5 : Value} {d0 d1 d2 d3 d4 d5 : DataW H} {p0 p1 p2 p3 p4 p5 : List MemPlace}
    (k0 : Value.okWide Tryz.prog W .any base 25 v0) (k1 : Value.okWide Tryz.prog W .any base 26 v1) (k2 : Value.okWide Tryz.prog W .any base 27 v2) (k3 : Value.okWide Tryz.prog W .any base 28 v3) (k4 : Value.okWide Tryz.prog W .any base 3 v4) (k5 : Value.okWide Tryz.prog W .any base 3 v5)
    (h0 : DataW.Trod enc Tryz.prog W 0 (fun _ => true) true 25 v0 d0 p0) (h1 : DataW.Trod enc Tryz.prog W 0 (fun _ => true) true 26 v1 d1 p1) (h2 : DataW.Trod enc Tryz.prog W 0 (fun _ => true) true 27 v2 d2 p2) (h3 : DataW.Trod enc Tryz.prog W 0 (fun _ => true) true 28 v3 d3 p3)
    (h4 : DataW.Trod enc Tryz.prog W 0 (fun _ => true) true 3 v4 d4 p4) (h5 : DataW.Trod enc Tryz.prog W 0 (fun _ => true) true 3 v5 d5 p5) (hb : Rows.uptoBulkAll [d0, d1, d2, d3, d4, d5] ≤ 1048576) :
    Calls Tryz.prog 3 #[v0, v1, v2, v3, v4, v5] W fun e W' => e = .returned (.bool true) ∧ Below W.heap.size W W' := by
  have b0 := bulk_mem (List.mem_of_getElem? (rfl : [d0, d1, d2, d3, d4, d5][0]? = some d0))
  have b2 := bulk_mem (List.mem_of_getElem? (rfl : [d0, d1, d2, d3, d4, d5][2]? = some d2))
  have b3 := bulk_mem (List.mem_of_getElem? (rfl : [d0, d1, d2, d3, d4, d5][3]? = some d3))
  obtain ⟨f0, t0⟩ := h0
  obtain ⟨f1, t1⟩ := h1
  obtain ⟨f2, t2⟩ := h2
  obtain ⟨f3, t3⟩ := h3
  obtain ⟨f4, t4⟩ := h4
  obtain ⟨f5, t5⟩ := h5
  obtain ⟨K, hK, hK'⟩ : ∃ K, 1048576 ≤ K ∧ K ≤ 1999999 := ⟨1048576, by decide, by decide⟩
  obtain ⟨ivs, f, c0, e0⟩ := flat_bridge (K := K) t0 (by omega) (by omega)
  obtain ⟨w1, iv1, l1, q1, c1, e1, _⟩ := words_bridge t1
  obtain ⟨w2, iv2, l2, q2, c2, e2, n2⟩ := regs_bridge t2 (by omega)
  obtain ⟨w3, iv3, l3, q3, c3, e3, n3⟩ := ws_bridge t3 (by omega)
  obtain ⟨n4, q4, _, _⟩ := int_bridge Tryz.underlying3 t4
  obtain ⟨n5, q5, _, _⟩ := int_bridge Tryz.underlying3 t5
  have q1 := cells_eq (cells_slice Tryz.underlying26 k1) q1
  have q2 := cells_eq (cells_slice Tryz.underlying27 k2) q2
  have q3 := cells_eq (cells_slice Tryz.underlying28 k3) q3
  have q4 := cells_eq (cells_num Tryz.underlying3 k4) q4
  have q5 := cells_eq (cells_num Tryz.underlying3 k5) q5
  subst q1 q2 q3 q4 q5
  have k0' : ∃ cs, v0 = .agg cs := by
    unfold Value.okWide at k0
    rw [Tryz.underlying25] at k0
    obtain ⟨cs, h, _⟩ := k0
    exact ⟨cs, h⟩
  obtain ⟨cs, rfl⟩ := k0'
  have c0' : CR W (.agg ivs) (.agg cs) := by
    have := vrels_of c0
    exact .agg this.1 this.2
  have hargs : VRels (fun _ => none) (CW W) [.agg ivs, iv1, iv2, iv3, .int .i64 n4, .int .i64 n5] #[.agg cs, v1, v2, v3, .int .i64 n4, .int .i64 n5] :=
    vrels_of (.cons c0' (.cons c1 (.cons c2 (.cons c3 (.cons (.int _ _) (.one (.int _ _)))))))
  obtain ⟨h2, hr, _⟩ := G3_at (k := K) (fuel := n4) (more := n5) ⟨0, []⟩ e0 e1 e2 e3 (by omega) (by omega) hK'
  refine ((s3 s7 K).ok _ _ ⟨0, []⟩ W _ _ _ h2 (rel0 W) hargs hr).mono ?_
  rintro e w' ⟨x, φ', C', rfl, hx, ex, _⟩
  cases hx
  exact ⟨rfl, ex.os, ex.tape, ex.output, ex.size, fun k hk => ex.keep k hk fun b p hb => by cases hb⟩
end Go.Proofs.YtadeojgiiapljaaGreat.Im
namespace Go.Proofs.YtadeojgiiapljaaGreat.flatMore
open Go
open Go.ChangeShapes Go.WideShapes Go.ChangeAt Go.RowKit Im
theorem own : ownKnob Tryz.prog.godebug = none := by kernel_rfl
set_option maxRecDepth 100000 in
theorem contract (H : Type) (enc : TypeId × Value → H) (W : World) (base : Nat) (args : Array Value) (ds gs : List (DataW H)) (before : List MemPlace)
    (hval : ∀ (j : Nat) t v, Tryz.f3.params[j]? = some t → args[j]? = some v → Value.okWide Tryz.prog W .any base t v)
    (hW : DataW.Whole enc Tryz.prog Tryz.f3.params.toList Rows.flatMoreSpec.vars false W args.toList ds gs before) (hk : Rows.uptoSmall H (ds ++ gs) = true) :
    Calls Tryz.prog 3 args W fun e W' => ∃ v, e = .returned v ∧ Rows.flatMoreSpec.post enc Tryz.prog Tryz.f3 false true false false W args v W' := by
  have hW' := hW
  obtain ⟨p, q, hA0, hV, rfl, hfz, hnd⟩ := hW
  have hA : DataW.TrodAll enc Tryz.prog W 0 (fun _ => true) true Tryz.f3.params.toList args.toList ds p := hA0
  rw [Tryz.params3] at hA hval
  obtain ⟨v0, vs0, d0, ds0, p0, q0, hargs, rfl, rfl, h0, r0⟩ := trodAll_cons hA
  obtain ⟨v1, vs1, d1, ds1, p1, q1, rfl, rfl, rfl, h1, r1⟩ := trodAll_cons r0
  obtain ⟨v2, vs2, d2, ds2, p2, q2, rfl, rfl, rfl, h2, r2⟩ := trodAll_cons r1
  obtain ⟨v3, vs3, d3, ds3, p3, q3, rfl, rfl, rfl, h3, r3⟩ := trodAll_cons r2
  obtain ⟨v4, vs4, d4, ds4, p4, q4, rfl, rfl, rfl, h4, r4⟩ := trodAll_cons r3
  obtain ⟨v5, vs5, d5, ds5, p5, q5, rfl, rfl, rfl, h5, r5⟩ := trodAll_cons r4
  obtain ⟨rfl, rfl, rfl⟩ := trodAll_nil r5
  obtain rfl : args = #[v0, v1, v2, v3, v4, v5] := by cases args; simp_all
  obtain ⟨rfl, rfl⟩ := trodVars_none hV
  have hk' : Rows.uptoSmall H [d0, d1, d2, d3, d4, d5] = true := by rw [List.append_nil] at hk; exact hk
  have hb : Rows.uptoBulkAll [d0, d1, d2, d3, d4, d5] ≤ 1048576 := of_decide_eq_true hk'
  refine (walk3 (base := base) (hval 0 25 v0 rfl rfl) (hval 1 26 v1 rfl rfl) (hval 2 27 v2 rfl rfl) (hval 3 28 v3 rfl rfl) (hval 4 3 v4 rfl rfl) (hval 5 3 v5 rfl rfl) h0 h1 h2 h3 h4 h5 hb).mono fun e W' ⟨he, hg⟩ => ?_
  subst he
  have hlt := hW'.lt
  refine ⟨_, rfl, _, _, _, [], _, [], hW', ?_, trodAll_below read3 hg read3p hA0 (fun x hx => hlt x (List.mem_append_left _ hx)) (fun x hx => by simpa using hlt x (List.mem_append_left _ hx)), rfl, kept_below hg _, fun h => by cases h⟩
  exact trodAll_cons_mk (shut_bool Tryz.underlying4 _) trodAll_mk0
set_option maxRecDepth 100000 in
theorem lifted (os : Os) (started : os.Started) (H : Type) (enc : TypeId × Value → H) (F : Stop.Interp) :
    ReturnsInHanded {} Tryz.checked os 3 .any ((Rows.OpenSpec.upto Rows.flatMoreSpec).pre6 enc Tryz.prog Tryz.f3 Rows.flatMoreUptoRow.domain false) (((Rows.OpenSpec.upto Rows.flatMoreSpec).at F).post enc Tryz.prog Tryz.f3 false true false false) := by
  refine returnsInHanded_of_cond (C := Tryz.checked) (s := Rows.OpenSpec.upto Rows.flatMoreSpec) (k := Rows.uptoSmall) rfl own started (by kernel_rfl) Tryz.func3
    (OpenSpec.witness (enc := enc) (C := Tryz.checked) (s := Rows.OpenSpec.upto Rows.flatMoreSpec) (k := Rows.uptoSmall) rfl false ⟨#[], #[.agg #[.int .i64 0, .slice none 0 0, .slice none 0 0, .int .i64 0, .slice none 0 0], .slice none 0 0, .slice none 0 0, .slice none 0 0, .int .i64 0, .int .i64 0], []⟩ 8 (by kernel_rfl) (by kernel_rfl) (by kernel_rfl)
      (x := ([.agg [.lit (.int .i64 0), .nil, .nil, .lit (.int .i64 0), .nil], .nil, .nil, .nil, .lit (.int .i64 0), .lit (.int .i64 0)], [], [])) (by kernel_rfl) rfl (by kernel_rfl)) ?_
  intro W base args ds gs before hval hW _ hk _
  exact contract H enc W base args ds gs before hval hW hk
theorem proved : Rows.FlatMoreUptoSaid :=
  OpenClaim.holds_of_cond 3 Tryz.f3 rfl rfl rfl rfl rfl rfl rfl ⟨rfl, rfl, rfl, rfl, rfl⟩ rfl rfl rfl rfl rfl (by kernel_rfl) Tryz.func3 (by kernel_rfl)
    (of_decide_eq_true (by kernel_rfl)) (by unfold Func.isWrapper; first | (rw [if_pos (by decide +kernel)]; kernel_rfl) | (rw [if_neg (by decide +kernel)]; exact ⟨rfl, rfl⟩))
    (fun os started H enc _ F => lifted os started H enc F)
end Go.Proofs.YtadeojgiiapljaaGreat.flatMore
