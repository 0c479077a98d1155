/- mufflelaw15.FlatMore. -/
import Derived.Test.YtadeojgiiapljaaGreatCpC
import Derived.Test.YtadeojgiiapljaaGreatMmB
set_option linter.unusedSimpArgs false
set_option linter.unusedVariables false
namespace Go.Proofs.YtadeojgiiapljaaGreat.Im
open Go
set_option maxHeartbeats 1000000
def F7 : List IV → M IV := fun args h => match args with
  | [] => .ok (.bool true) h
  | _ => .fail
noncomputable def O3 (k : Nat) : Orc := ocons 5 (rd (g5 k)) (ocons 6 (rd (g6 k)) (ocons 7 F7 (ocons 8 G8 (ocons 9 (G9 k) (ocons 10 G10 (ocons 11 (G11 200) (ocons 12 (G12 200) (ocons 13 G13 onil))))))))
noncomputable def G3 (k : Nat) : List IV → M IV := bodyI T0 (O3 k) 0 ic3
theorem rd5 {k : Nat} {v : IV} {f : FlatT} (hv : decFlat k v = some f) (h : IHeap) : rd (g5 k) [v] h = .ok (.bool (fewB f)) h := by simp [rd, g5, hv, okO]
theorem rd6 {k : Nat} {v : IV} {f : FlatT} (hv : decFlat k v = some f) (h : IHeap) : rd (g6 k) [v] h = .ok (.bool (mayB f)) h := by simp [rd, g6, hv, okO]
theorem StrStay.fr9 {bb : Nat} {h h' : IHeap} {cells : List IV} (f : Fr9 bb h h') (hb : h.get bb = some (.row cells)) (hs : ∀ z, IV.str z ∉ cells) : StrStay h h' := fun b cs hg hz => by
  obtain ⟨z, hz⟩ := hz
  refine f.2 b (get_lt hg) ?_
  rintro rfl
  rw [hb] at hg; cases hg
  exact hs z hz
theorem MemR.fr9 {h h' : IHeap} {mb bb mb1 bb1 : Nat} {bs bs1 : List Int} {l l1 : List Reg} (m : MemR h mb bb bs l) (m1 : MemR h mb1 bb1 bs1 l1) (f : Fr9 bb1 h h') (hne : mb ≠ bb1 ∧ bb ≠ bb1) : MemR h' mb bb bs l := by
  obtain ⟨u, hm⟩ := m.mrow
  exact m.stay (f.2 _ (get_lt hm) hne.1) (f.2 _ (get_lt m.bytes.1) hne.2) (StrStay.fr9 f m1.bytes.1 (no_str_u8 _))
/-- What a run gives back. -/
structure RunRes (f : FlatT) (as_ bs : List Int) (regs : List Reg) (fuel : Nat) (h0 h : IHeap) (o : Out) (lb : Option Nat) (cs : List IV) (rv : IV) : Prop where
  run : Run ⟨evalW, regs, 49152⟩ fuel (.lst f.code) (startS f as_ bs) o
  ret : o.en = none → RetIn h h0.n rv (f.rets.map o.st.v)
  nil : o.en ≠ none → rv = .nils
  lk : LkV h h0.n lb cs o.L
theorem RunRes.one {f : FlatT} {as_ bs : List Int} {regs : List Reg} {fuel : Nat} {h0 h : IHeap} {o : Out} {lb : Option Nat} {cs : List IV} {rv : IV} (r : RunRes f as_ bs regs fuel h0 h o lb cs rv) : rv.one = true := by
  cases he : o.en with
  | none => exact (r.ret he).one
  | some e => rw [r.nil (by rw [he]; simp)]; rfl
theorem RunRes.mono {f : FlatT} {as_ bs : List Int} {regs : List Reg} {fuel : Nat} {h0 h h' : IHeap} {o : Out} {lb : Option Nat} {cs : List IV} {rv : IV} (r : RunRes f as_ bs regs fuel h0 h o lb cs rv) (hs : ∀ b, h0.n ≤ b → b < h.n → h'.get b = h.get b) : RunRes f as_ bs regs fuel h0 h' o lb cs rv :=
  ⟨r.run, fun he => (r.ret he).mono (Nat.le_refl _) fun b hb hlt _ => hs b hb hlt, r.nil, r.lk.mono (Nat.le_refl _) hs⟩
/-- The words that are given back, if the run has ended. -/
theorem RunRes.words {f : FlatT} {as_ bs : List Int} {regs : List Reg} {fuel : Nat} {h0 h : IHeap} {o : Out} {lb : Option Nat} {cs : List IV} {rv : IV} (r : RunRes f as_ bs regs fuel h0 h o lb cs rv) : RetIn h 0 rv (if o.en = none then f.rets.map o.st.v else []) := by
  by_cases he : o.en = none
  · rw [if_pos he]; exact (r.ret he).mono (Nat.zero_le _) fun _ _ _ _ => rfl
  · rw [if_neg he]; exact .inl ⟨r.nil he, rfl⟩
set_option maxRecDepth 100000 in
theorem G3_at {k : Nat} {v av lv wv : IV} {f : FlatT} {as_ : List Int} {regs : List Reg} {ws : List (List Int)} {fuel more : Int} (h : IHeap) (hv : decFlat k v = some f) (ha : decInts .u64 av = some as_) (hl : decRegs lv = some regs) (hw : decWs wv = some ws)
    (sl : regs.length < 4000000) (sw : ws.length < 4000000) (hk : k ≤ 1999999) : ∃ h2, G3 k [v, av, lv, wv, .int .i64 fuel, .int .i64 more] h = .ok (.bool true) h2 ∧ Grow h h2 := by
  have hv0 := hv
  obtain ⟨p, r, c, rfl, hat⟩ := decFlat_some hv
  have op := decInts_one hat.params
  have or := decInts_one hat.rets
  have oc := dec_one hat.code
  have lp := decInts_len hat.params
  have la := decInts_len ha
  have ll := decRegs_len hl
  have o5 : O3 k 5 = rd (g5 k) := rfl
  have o6 : O3 k 6 = rd (g6 k) := rfl
  have o7 : O3 k 7 = F7 := rfl
  have o8 : O3 k 8 = G8 := rfl
  have o9 : O3 k 9 = G9 k := rfl
  have o10 : O3 k 10 = G10 := rfl
  have o11 : O3 k 11 = G11 200 := rfl
  have o12 : O3 k 12 = G12 200 := rfl
  have o13 : O3 k 13 = G13 := rfl
  have r5 := fun hh => rd5 hv hh
  have r6 := fun hh => rd6 hv hh
  have r7 : ∀ hh, F7 [] hh = .ok (.bool true) hh := fun _ => rfl
  have g1 := Grow.push h (.row [.int .i64 f.vars, p, r, .int .i64 f.frame, c])
  unfold G3
  rw [body_eq rfl rfl rfl (by decide)]
  cases hq1 : fewB f
  case false => exact ⟨_, by simp only [ss, hps, Nat.reduceEqDiff, Nat.reduceLT, Nat.reduceAdd, Nat.reduceLeDiff, Int.reduceLT, Int.reduceLE, Int.reduceEq, reduceIte, ic3, rowIf_ok, op, or, oc, o5, r5, hq1, o7, r7], g1⟩
  by_cases q2 : fuel < 0
  case pos => exact ⟨_, by simp only [ss, hps, Nat.reduceEqDiff, Nat.reduceLT, Nat.reduceAdd, Nat.reduceLeDiff, Int.reduceLT, Int.reduceLE, Int.reduceEq, reduceIte, ic3, rowIf_ok, op, or, oc, o5, r5, hq1, q2, o7, r7], g1⟩
  by_cases q3 : 2000 < fuel
  case pos => exact ⟨_, by simp only [ss, hps, Nat.reduceEqDiff, Nat.reduceLT, Nat.reduceAdd, Nat.reduceLeDiff, Int.reduceLT, Int.reduceLE, Int.reduceEq, reduceIte, ic3, rowIf_ok, op, or, oc, o5, r5, hq1, q2, q3, o7, r7], g1⟩
  by_cases q4 : more < 0
  case pos => exact ⟨_, by simp only [ss, hps, Nat.reduceEqDiff, Nat.reduceLT, Nat.reduceAdd, Nat.reduceLeDiff, Int.reduceLT, Int.reduceLE, Int.reduceEq, reduceIte, ic3, rowIf_ok, op, or, oc, o5, r5, hq1, q2, q3, q4, o7, r7], g1⟩
  by_cases q5 : 2000 < more
  case pos => exact ⟨_, by simp only [ss, hps, Nat.reduceEqDiff, Nat.reduceLT, Nat.reduceAdd, Nat.reduceLeDiff, Int.reduceLT, Int.reduceLE, Int.reduceEq, reduceIte, ic3, rowIf_ok, op, or, oc, o5, r5, hq1, q2, q3, q4, q5, o7, r7], g1⟩
  by_cases q6 : (16 : Int) < (regs.length : Int)
  case pos => exact ⟨_, by simp only [ss, hps, Nat.reduceEqDiff, Nat.reduceLT, Nat.reduceAdd, Nat.reduceLeDiff, Int.reduceLT, Int.reduceLE, Int.reduceEq, reduceIte, ic3, rowIf_ok, op, or, oc, o5, r5, hq1, q2, q3, q4, q5, ll, q6, o7, r7], g1⟩
  by_cases q7 : 5000 < f.vars
  case pos => exact ⟨_, by simp only [ss, hps, Nat.reduceEqDiff, Nat.reduceLT, Nat.reduceAdd, Nat.reduceLeDiff, Int.reduceLT, Int.reduceLE, Int.reduceEq, reduceIte, ic3, rowIf_ok, op, or, oc, o5, r5, hq1, q2, q3, q4, q5, ll, q6, q7, o7, r7], g1⟩
  cases hm8 : mayB f
  case false => exact ⟨_, by simp only [ss, hps, Nat.reduceEqDiff, Nat.reduceLT, Nat.reduceAdd, Nat.reduceLeDiff, Int.reduceLT, Int.reduceLE, Int.reduceEq, reduceIte, ic3, rowIf_ok, op, or, oc, o5, r5, hq1, q2, q3, q4, q5, ll, q6, q7, o6, r6, hm8, o7, r7], g1⟩
  by_cases q9 : (as_.length : Int) = f.params.length
  case neg => exact ⟨_, by simp only [ss, hps, Nat.reduceEqDiff, Nat.reduceLT, Nat.reduceAdd, Nat.reduceLeDiff, Int.reduceLT, Int.reduceLE, Int.reduceEq, reduceIte, ic3, rowIf_ok, op, or, oc, o5, r5, hq1, q2, q3, q4, q5, ll, q6, q7, o6, r6, hm8, la, lp, q9, o7, r7], g1⟩
  by_cases q10 : RegsOk regs ∧ FitsOk regs ws
  case neg =>
    have r8 := fun hh => G8_no hl hw sl sw q10 hh
    exact ⟨_, by simp only [ss, hps, Nat.reduceEqDiff, Nat.reduceLT, Nat.reduceAdd, Nat.reduceLeDiff, Int.reduceLT, Int.reduceLE, Int.reduceEq, reduceIte, ic3, rowIf_ok, op, or, oc, o5, r5, hq1, q2, q3, q4, q5, ll, q6, q7, o6, r6, hm8, la, lp, q9, o8, r8, extractV, List.getElem?_cons_succ, List.getElem?_cons_zero, o7, r7], g1⟩
  obtain ⟨fu, rfl⟩ : ∃ n : Nat, fuel = n := ⟨fuel.toNat, by omega⟩
  obtain ⟨mo, rfl⟩ : ∃ n : Nat, more = n := ⟨more.toNat, by omega⟩
  have w1 : IntKind.i64.wrap ((fu : Int) + (mo : Int)) = ((fu + mo : Nat) : Int) := by rw [wrap_i64 (by omega) (by omega)]; simp
  have hlen : as_.length = f.params.length := by omega
  obtain ⟨mb1, bb1, wb1, h2, e8, g2, m2, hmb1, hbb1⟩ := G8_ok hl hw sw q10.1 q10.2 (h.push (.row [.int .i64 f.vars, p, r, .int .i64 f.frame, c]))
  obtain ⟨mb2, bb2, wb2, h3, e8', g3, m3, hmb2, hbb2⟩ := G8_ok hl hw sw q10.1 q10.2 h2
  have m2' := m2.grow g3
  have lbb1 := get_lt m2.bytes.1
  have lbb2 := get_lt m3.bytes.1
  obtain ⟨o1, lb1, cs1, rv1, h4, e9, run1, rt1, nl1, lk1, f4⟩ := G9_at (fuel := fu) hv hm8 hk ha hlen m2' (by omega)
  have R1 : RunRes f as_ (fillA regs ws ws.length) regs fu h3 h4 o1 lb1 cs1 rv1 := ⟨run1, rt1, nl1, lk1⟩
  have m4 := m3.fr9 m2' f4 ⟨by omega, by omega⟩
  have rr1 := R1.one
  have rc1 := cells_one rr1
  have vo1 := vOf_one lb1 cs1
  have vc1 := cells_one vo1
  obtain ⟨o2, lb2, cs2, rv2, h6, e9', run2, rt2, nl2, lk2, f6⟩ := G9_at (fuel := fu + mo) (h := h4.push (.row [rv1, vOf lb1 cs1, .int .i64 o1.st.steps, .int .i64 (o1.en.getD 0)])) hv hm8 hk ha hlen (m4.grow (Grow.push _ _)) (by omega)
  have R2 : RunRes f as_ (fillA regs ws ws.length) regs (fu + mo) (h4.push (.row [rv1, vOf lb1 cs1, .int .i64 o1.st.steps, .int .i64 (o1.en.getD 0)])) h6 o2 lb2 cs2 rv2 := ⟨run2, rt2, nl2, lk2⟩
  have rr2 := R2.one
  have rc2 := cells_one rr2
  have vo2 := vOf_one lb2 cs2
  have vc2 := cells_one vo2
  have hfn4 := f4.1
  have hfn6 := f6.1
  have hg2n := g2.1
  have hg3n := g3.1
  simp only [push_n] at hg2n hfn6 hbb1 hmb1
  have hx2 : h2.get h.n = some (.row [.int .i64 f.vars, p, r, .int .i64 f.frame, c]) := g2.get get_push_new
  have hx3 := g3.get hx2
  have hx4 : h4.get h.n = some (.row [.int .i64 f.vars, p, r, .int .i64 f.frame, c]) := by rw [f4.2 h.n (by omega) (by omega)]; exact hx3
  have hy6 : h6.get h4.n = some (.row [rv1, vOf lb1 cs1, .int .i64 o1.st.steps, .int .i64 (o1.en.getD 0)]) := by rw [f6.2 h4.n (by simp) (by omega)]; exact get_push_new
  have n1 : (h.n = h4.n) = False := eq_false (by omega)
  have n2 : (h4.n = h6.n) = False := eq_false (by omega)
  have hle := run1.le (Nat.le_add_right fu mo) (Nat.zero_le _) o2 run2
  have hst1 := run1.steps (Nat.zero_le _)
  have hst2 := run2.steps (Nat.zero_le _)
  have cS : ((fu : Int) < (o1.st.steps : Int)) = False := eq_false (by have := hst1.1; omega)
  have hcn1 := run1.cnt
  have hcn2 := run2.cnt
  have hdp1 := run1.deep
  have hdp2 := run2.deep
  simp only [Task.extra, Task.dp, startS] at hcn1 hcn2 hdp1 hdp2
  have hfew := hq1
  simp only [fewB, Bool.and_eq_true, decide_eq_true_eq] at hfew
  have s1 := hst1.1
  have s2 := hst2.1
  have g7 : Grow h6 (h6.push (.row [rv2, vOf lb2 cs2, .int .i64 o2.st.steps, .int .i64 (o2.en.getD 0)])) := Grow.push _ _
  have R1' : RunRes f as_ (fillA regs ws ws.length) regs fu h3 (h6.push (.row [rv2, vOf lb2 cs2, .int .i64 o2.st.steps, .int .i64 (o2.en.getD 0)])) o1 lb1 cs1 rv1 := R1.mono fun b hb hlt => by rw [get_push_old (by omega), f6.2 b (by simp; omega) (by omega), get_push_old hlt]
  have R2' := R2.mono (h' := h6.push (.row [rv2, vOf lb2 cs2, .int .i64 o2.st.steps, .int .i64 (o2.en.getD 0)])) fun b _ hlt => get_push_old hlt
  have gAll : Grow h (h6.push (.row [rv2, vOf lb2 cs2, .int .i64 o2.st.steps, .int .i64 (o2.en.getD 0)])) := by
    refine ⟨by simp; omega, fun b hb => ?_⟩
    rw [get_push_old (by omega), f6.2 b (by simp; omega) (by omega), get_push_old (by omega), f4.2 b (by omega) (by omega), g3.2 b (by omega), g2.2 b (by simp; omega), get_push_old hb]
  by_cases hE : o1.en.getD 0 = 7
  · have hen : o1.en = some 7 := by
      cases he : o1.en with
      | none => rw [he] at hE; cases hE
      | some e => rw [he] at hE; simp at hE; rw [hE]
    have hrv1 := nl1 (by rw [hen]; simp)
    subst hrv1
    have hbeg : flatL o1.L <+: flatL o2.L := by
      rcases hle with e | ⟨_, hb⟩
      · rw [e]; exact List.prefix_rfl
      · exact hb
    obtain ⟨x1, h8, e12, sn1, g8⟩ := flatAll 200 (vOf lb1 cs1) o1.L _ (by omega) (by omega) R1'.lk.lv
    obtain ⟨x2, h9, e12', sn2, g9⟩ := flatAll 200 (vOf lb2 cs2) o2.L h8 (by omega) (by omega) (R2'.lk.lv.grow g8)
    have S1 := sn1.seen.grow g9
    have S2 := sn2.seen
    have l1 := S1.len
    have l2 := S2.len
    have hll := hbeg.length_le
    obtain ⟨u, hu, S3⟩ := S2.to hll
    have htk : (flatL o2.L).take (flatL o1.L).length = flatL o1.L := (List.prefix_iff_eq_take.1 hbeg).symm
    rw [htk] at S3
    have hfl1 := flatL_len o1.L
    have e13 := G13_at S1 S3 (by omega)
    have hz7 : (h6.push (.row [rv2, vOf lb2 cs2, .int .i64 o2.st.steps, .int .i64 (o2.en.getD 0)])).get h6.n = some (.row [rv2, vOf lb2 cs2, .int .i64 o2.st.steps, .int .i64 (o2.en.getD 0)]) := get_push_new
    have hz8 := g8.get hz7
    have hz9 := g9.get hz8
    have hy7 := g7.get hy6
    have hy8 := g8.get hy7
    have hy9 := g9.get hy8
    have hll' : (((flatL o1.L).length : Int) ≤ ((flatL o2.L).length : Int)) = True := eq_true (by omega)
    refine ⟨h9, ?_, (gAll.trans g8).trans g9⟩
    simp only [hE] at e9 e9' hy6 hy9
    simp only [ss, hps, Nat.reduceEqDiff, Nat.reduceLT, Nat.reduceAdd, Nat.reduceLeDiff, Int.reduceLT, Int.reduceLE, Int.reduceEq, reduceIte, ic3, ds, rowIf_ok, op, or, oc, o5, r5, hq1, q2, q3, q4, q5, ll, q6, q7, o6, r6, hm8, la, lp, q9, o8, e8, e8', extractV, List.getElem?_cons_succ, List.getElem?_cons_zero, hx3, hx4, o9, e9, rr1, rc1, vo1, vc1, setCells, set_push_at, n1, w1, e9', rr2, rc2, vo2, vc2, hy6, n2, cS, hE, o12, e12, hz8, e12', hy9, l1, l2, hll', hu, o13, e13, o7, r7, cells_nils, cast0]
  · have hoo : o1 = o2 := by
      rcases hle with e | ⟨e, _⟩
      · exact e
      · rw [e] at hE; exact absurd rfl hE
    subst hoo
    have e10 := G10_at R1'.words R2'.words (by split <;> simp; have := hfew.2; omega)
    obtain ⟨h8, e11, g8⟩ := sameAll 200 _ _ o1.L _ (by omega) (by omega) R1'.lk.lv R2'.lk.lv
    refine ⟨h8, ?_, gAll.trans g8⟩
    simp only [ss, hps, Nat.reduceEqDiff, Nat.reduceLT, Nat.reduceAdd, Nat.reduceLeDiff, Int.reduceLT, Int.reduceLE, Int.reduceEq, reduceIte, ic3, ds, rowIf_ok, op, or, oc, o5, r5, hq1, q2, q3, q4, q5, ll, q6, q7, o6, r6, hm8, la, lp, q9, o8, e8, e8', extractV, List.getElem?_cons_succ, List.getElem?_cons_zero, hx3, hx4, o9, e9, rr1, rc1, vo1, vc1, setCells, set_push_at, n1, w1, e9', rr2, rc2, vo2, vc2, hy6, n2, cS, hE, o10, e10, o11, e11, o7, r7]
end Go.Proofs.YtadeojgiiapljaaGreat.Im
