/- muffleref03.Fits; mem.may, mem.end. -/
import Derived.Test.YtadeojgiiapljaaGreatIcA
import Derived.Test.YtadeojgiiapljaaGreatIcB
import Derived.Test.YtadeojgiiapljaaGreatRgA
set_option linter.unusedSimpArgs false
set_option linter.unusedVariables false
namespace Go.Proofs.YtadeojgiiapljaaGreat.Im
open Go
set_option maxHeartbeats 8000000
def decWl : List IV → Nat → Option (List (List Int))
  | _, 0 => some []
  | [], _ + 1 => none
  | c :: cs, n + 1 => match decInts .u64 c, decWl cs n with
    | some w, some ws => if w.length < 4000000 then some (w :: ws) else none
    | _, _ => none
def decWs : IV → Option (List (List Int))
  | .nils => some []
  | .cslice cells len => decWl cells len
  | _ => none
theorem decWl_get : ∀ {n : Nat} {cells : List IV} {l : List (List Int)}, decWl cells n = some l → l.length = n ∧ n ≤ cells.length ∧ ∀ (i : Nat) (x : List Int), l[i]? = some x → x.length < 4000000 ∧ ∃ c rest, cells.drop i = c :: rest ∧ decInts .u64 c = some x
  | 0, cells, l, h => by simp [decWl] at h; subst h; simp
  | n + 1, [], l, h => by simp [decWl] at h
  | n + 1, c :: cs, l, h => by
    simp only [decWl] at h
    split at h
    · rename_i w ws hw hws
      split at h
      · rename_i hl
        cases h
        obtain ⟨h1, h2, h3⟩ := decWl_get hws
        refine ⟨by simp [h1], by simp; omega, fun i x hi => ?_⟩
        cases i with
        | zero => simp at hi; subst hi; exact ⟨hl, c, cs, rfl, hw⟩
        | succ i => simp at hi; simpa using h3 i x hi
      · cases h
    · cases h
theorem decWs_len {v : IV} {l : List (List Int)} (h : decWs v = some l) : slenV v = some l.length := by
  unfold decWs at h
  split at h
  · cases h; rfl
  · have := (decWl_get h).1
    simp [slenV, sliceLen, this]
  · cases h
theorem decWs_at {v : IV} {l : List (List Int)} (h : decWs v = some l) {i : Nat} {x : List Int} (hi : l[i]? = some x) : x.length < 4000000 ∧ ∃ c rest, iaddrV 1 v i = some (.cptr (c :: rest)) ∧ decInts .u64 c = some x := by
  unfold decWs at h
  split at h
  · cases h; simp at hi
  · obtain ⟨h1, h2, h3⟩ := decWl_get h
    obtain ⟨r1, c, rest, h4, h5⟩ := h3 i x hi
    have hlt := (List.getElem?_eq_some_iff.1 hi).1
    refine ⟨r1, c, rest, ?_, h5⟩
    simp only [iaddrV]
    rw [if_pos ⟨by omega, by omega, by simp; omega⟩]
    simp [h4]
  · cases h
def FitsOk (l : List Reg) (ws : List (List Int)) : Prop := l.map Reg.size = ws.map fun w => (w.length : Int)
instance (l : List Reg) (ws : List (List Int)) : Decidable (FitsOk l ws) := by unfold FitsOk; infer_instance
theorem FitsOk.len {l : List Reg} {ws : List (List Int)} (h : FitsOk l ws) : l.length = ws.length := by
  have := congrArg List.length h; simpa using this
theorem FitsOk.at {l : List Reg} {ws : List (List Int)} (h : FitsOk l ws) {i : Nat} {x : Reg} {w : List Int} (hx : l[i]? = some x) (hw : ws[i]? = some w) : x.size = w.length := by
  have := congrArg (fun z => z[i]?) h
  simpa [hx, hw] using this
theorem fits_of {l : List Reg} {ws : List (List Int)} (h : l.length = ws.length) (ha : ∀ i x w, i < l.length → l[i]? = some x → ws[i]? = some w → x.size = w.length) : FitsOk l ws := by
  refine List.ext_getElem (by simp [h]) fun i h1 h2 => ?_
  simp at h1 h2 ⊢
  exact ha i l[i] ws[i] h1 (by simp [h1]) (by simp [h2])

theorem b33 {O : Orc} {v u : IV} {l : List Reg} {ws : List (List Int)} {h : IHeap} (hv : decRegs v = some l) (hu : decWs u = some ws) (sl : l.length < 4000000) (sw : ws.length < 4000000) :
    (ix O 4000010 ic33.body (startI 0 [v, u]) h).sat (fun x e h' => x = .ret ∧ e.get 4 = some (.bool (decide (FitsOk l ws))) ∧ h' = h) (fun _ _ _ => False) := by
  have lv := decRegs_len hv
  have lu := decWs_len hu
  have no : ∀ {e : Env}, ¬ FitsOk l ws → e.get 4 = some (.bool false) → e.get 4 = some (.bool (decide (FitsOk l ws))) := fun hn he => by rw [he, decide_eq_false hn]
  have yes : ∀ {e : Env}, FitsOk l ws → e.get 4 = some (.bool true) → e.get 4 = some (.bool (decide (FitsOk l ws))) := fun hn he => by rw [he, decide_eq_true hn]
  unfold ic33
  simp only [start_cons, start_nil]
  refine sat_seq ?_
  simp only [ss, hps, Nat.reduceEqDiff, Nat.reduceLT, Nat.reduceAdd, Nat.reduceLeDiff, Int.reduceLT, Int.reduceLE, Int.reduceEq, reduceIte]
  refine sat_next (sat_seq (sat_seq ?_))
  by_cases c1 : (l.length : Int) = ws.length
  case neg =>
    simp only [ss, hps, Nat.reduceEqDiff, Nat.reduceLT, Nat.reduceAdd, Nat.reduceLeDiff, Int.reduceLT, Int.reduceLE, Int.reduceEq, reduceIte, lv, lu, c1]
    refine sat_next (sat_condK ?_)
    simp only [ss, hps, Nat.reduceEqDiff, Nat.reduceLT, Nat.reduceAdd, Nat.reduceLeDiff, Int.reduceLT, Int.reduceLE, Int.reduceEq, reduceIte]
    exact ⟨rfl, no (fun hh => c1 (by have := hh.len; omega)) (by simp only [ss, hps, Nat.reduceEqDiff, Nat.reduceLT, Nat.reduceAdd, Nat.reduceLeDiff, Int.reduceLT, Int.reduceLE, Int.reduceEq, reduceIte]), rfl⟩
  simp only [ss, hps, Nat.reduceEqDiff, Nat.reduceLT, Nat.reduceAdd, Nat.reduceLeDiff, Int.reduceLT, Int.reduceLE, Int.reduceEq, reduceIte, lv, lu, c1]
  refine sat_next (sat_condK ?_)
  simp only [ss, hps, Nat.reduceEqDiff, Nat.reduceLT, Nat.reduceAdd, Nat.reduceLeDiff, Int.reduceLT, Int.reduceLE, Int.reduceEq, reduceIte]
  refine sat_next (sat_seq (sat_seq ?_))
  simp only [ss, hps, Nat.reduceEqDiff, Nat.reduceLT, Nat.reduceAdd, Nat.reduceLeDiff, Int.reduceLT, Int.reduceLE, Int.reduceEq, reduceIte]
  refine sat_next (sat_block (sat_loop (fun m e h' => ∃ i, i + m = l.length ∧ e.get 5 = some (.int .i64 i) ∧ (∀ j x w, j < i → l[j]? = some x → ws[j]? = some w → x.size = w.length) ∧ h' = h) l.length (by omega) ?_ ?_))
  · refine ⟨0, by omega, ?_, fun j x w hj => by omega, rfl⟩
    simp [get_put, puto_some]
  · rintro m e h' ⟨i, hi, h5, hgood, rfl⟩ hf
    have h0 := hf 0 rfl
    have h1 := hf 1 rfl
    simp only [ss, hps, Nat.reduceEqDiff, Nat.reduceLT, Nat.reduceAdd, Nat.reduceLeDiff, Int.reduceLT, Int.reduceLE, Int.reduceEq, reduceIte, get_put, puto_some] at h0 h1
    clear hf
    refine sat_seq (sat_seq ?_)
    simp only [ss, hps, Nat.reduceEqDiff, Nat.reduceLT, Nat.reduceAdd, Nat.reduceLeDiff, Int.reduceLT, Int.reduceLE, Int.reduceEq, reduceIte, h5, h0, lv]
    refine sat_next (sat_condK ?_)
    simp only [ss, hps, Nat.reduceEqDiff, Nat.reduceLT, Nat.reduceAdd, Nat.reduceLeDiff, Int.reduceLT, Int.reduceLE, Int.reduceEq, reduceIte]
    refine sat_condD (fun hlt => ?_) (fun hge => ?_)
    · have hlt : i < l.length := by omega
      obtain ⟨x, hx⟩ := get_len hlt
      obtain ⟨w, hw⟩ := get_len (show i < ws.length by omega)
      obtain ⟨_, _, _, rest, hia⟩ := decRegs_at hv hx
      obtain ⟨_, c, rest', hib, hc⟩ := decWs_at hu hw
      have lc := decInts_len hc
      have w3 : IntKind.i64.wrap ((i : Int) + 1) = ((i + 1 : Nat) : Int) := by rw [wrap_i64 (by omega) (by omega)]; simp
      refine sat_skip ?_
      by_cases q : (w.length : Int) = x.size
      case neg =>
        simp only [ss, hps, Nat.reduceEqDiff, Nat.reduceLT, Nat.reduceAdd, Nat.reduceLeDiff, Int.reduceLT, Int.reduceLE, Int.reduceEq, reduceIte, ds, h5, h0, h1, hia, hib, lc, q]
        exact fun _ => ⟨rfl, no (fun hh => q (by have := hh.at hx hw; omega)) (by simp only [ss, hps, Nat.reduceEqDiff, Nat.reduceLT, Nat.reduceAdd, Nat.reduceLeDiff, Int.reduceLT, Int.reduceLE, Int.reduceEq, reduceIte]), rfl⟩
      simp only [ss, hps, Nat.reduceEqDiff, Nat.reduceLT, Nat.reduceAdd, Nat.reduceLeDiff, Int.reduceLT, Int.reduceLE, Int.reduceEq, reduceIte, ds, h5, h0, h1, hia, hib, lc, q]
      refine sat_again (m - 1) (by omega) ⟨i + 1, by omega, by simp only [ss, hps, Nat.reduceEqDiff, Nat.reduceLT, Nat.reduceAdd, Nat.reduceLeDiff, Int.reduceLT, Int.reduceLE, Int.reduceEq, reduceIte, w3], ?_, rfl⟩
      intro j y z hj hy hz
      by_cases e1 : j < i
      · exact hgood j y z e1 hy hz
      · have : j = i := by omega
        subst this; rw [hx] at hy; rw [hw] at hz; cases hy; cases hz; exact q.symm
    · have hge : i = l.length := by omega
      subst hge
      refine sat_brk fun hf2 => sat_next (sat_seq ?_)
      simp only [ss, hps, Nat.reduceEqDiff, Nat.reduceLT, Nat.reduceAdd, Nat.reduceLeDiff, Int.reduceLT, Int.reduceLE, Int.reduceEq, reduceIte]
      exact sat_next (sat_ret ⟨rfl, yes (fits_of (by omega) hgood) (by simp only [ss, hps, Nat.reduceEqDiff, Nat.reduceLT, Nat.reduceAdd, Nat.reduceLeDiff, Int.reduceLT, Int.reduceLE, Int.reduceEq, reduceIte]), rfl⟩)
def g33 : List IV → Option IV
  | [v, u] => match decRegs v, decWs u with
    | some l, some ws => if l.length < 4000000 ∧ ws.length < 4000000 then some (.bool (decide (FitsOk l ws))) else none
    | _, _ => none
  | _ => none
theorem s33 : Sim Tryz.prog 33 (rd g33) := by
  refine Sim.rd ⟨Tryz.f33, Tryz.func33, rfl, by decide⟩ fun args v h hg => ?_
  unfold g33 at hg
  split at hg
  · split at hg
    · rename_i hv hu
      split at hg
      · rename_i hl
        cases hg
        obtain ⟨h2, h3, h4⟩ := rd_done (R := fun h' => h' = h) rfl rfl rfl (by decide) (b33 (O := onil) (h := h) hv hu hl.1 hl.2) rfl
        exact ⟨_, body_sim onil_sim cc33 _, h2, h3, h4 ▸ Grow.refl h, fun _ => rfl⟩
      · cases hg
    · cases hg
  · cases hg

/-! ### mem.may, mem.end: of one that may be -/
def decReg1 : IV → Option Reg
  | .agg [.str s, .int .i64 a, .int .i64 z, .bool b] => if (⟨s, a, z, b⟩ : Reg).Ok then some ⟨s, a, z, b⟩ else none
  | _ => none
def g178 : List IV → Option IV
  | [v] => (decReg1 v).map fun _ => .bool true
  | _ => none
def g179 : List IV → Option IV
  | [v] => (decReg1 v).map fun r => .int .i64 (r.addr + 8 * r.size)
  | _ => none
theorem decReg1_some {v : IV} {r : Reg} (h : decReg1 v = some r) : v = .agg [.str r.name, .int .i64 r.addr, .int .i64 r.size, .bool r.secret] ∧ r.Ok := by
  unfold decReg1 at h
  split at h
  · split at h
    · rename_i hok; cases h; exact ⟨rfl, hok⟩
    · cases h
  · cases h
theorem rd178 {r : Reg} (h : r.Ok) (hh : IHeap) : rd g178 [.agg [.str r.name, .int .i64 r.addr, .int .i64 r.size, .bool r.secret]] hh = .ok (.bool true) hh := by
  have h' : (⟨r.name, r.addr, r.size, r.secret⟩ : Reg).Ok := h
  simp only [rd, g178, decReg1, if_pos h']; rfl
theorem rd179 {r : Reg} (h : r.Ok) (hh : IHeap) : rd g179 [.agg [.str r.name, .int .i64 r.addr, .int .i64 r.size, .bool r.secret]] hh = .ok (.int .i64 (r.addr + 8 * r.size)) hh := by
  have h' : (⟨r.name, r.addr, r.size, r.secret⟩ : Reg).Ok := h
  simp only [rd, g179, decReg1, if_pos h']; rfl
theorem s178 : Sim Tryz.prog 178 (rd g178) := by
  refine Sim.rd ⟨Tryz.f178, Tryz.func178, rfl, by decide⟩ fun args v h hg => ?_
  unfold g178 at hg
  split at hg
  · simp only [Option.map_eq_some_iff] at hg
    obtain ⟨r, hr, rfl⟩ := hg
    obtain ⟨rfl, hok⟩ := decReg1_some hr
    refine ⟨_, body_sim onil_sim cc178 0, h.push (.row [.str r.name, .int .i64 r.addr, .int .i64 r.size, .bool r.secret]), ?_, Grow.push _ _, fun _ => rfl⟩
    rw [body_eq rfl rfl rfl (by decide)]
    obtain ⟨k1, k2, k3, k4, k5, k6, k7⟩ := hok
    have w1 : IntKind.i64.wrap (8 * r.size) = 8 * r.size := wrap_i64 (by omega) (by omega)
    have w2 : IntKind.i64.wrap (49152 - 8 * r.size) = 49152 - 8 * r.size := wrap_i64 (by omega) (by omega)
    have k1' : (1 : Int) ≤ r.name.size := by omega
    have k2' : (r.name.size : Int) ≤ 16 := by omega
    simp only [ss, hps, Nat.reduceEqDiff, Nat.reduceLT, Nat.reduceAdd, Nat.reduceLeDiff, Int.reduceLT, Int.reduceLE, Int.reduceEq, reduceIte, ic178, ds, rowIf_ok, one_str, k1', k2', k3, k4, k5, k6, k7, w1, w2]
  · cases hg
theorem s179 : Sim Tryz.prog 179 (rd g179) := by
  refine Sim.rd ⟨Tryz.f179, Tryz.func179, rfl, by decide⟩ fun args v h hg => ?_
  unfold g179 at hg
  split at hg
  · simp only [Option.map_eq_some_iff] at hg
    obtain ⟨r, hr, rfl⟩ := hg
    obtain ⟨rfl, hok⟩ := decReg1_some hr
    refine ⟨_, body_sim onil_sim cc179 0, h.push (.row [.str r.name, .int .i64 r.addr, .int .i64 r.size, .bool r.secret]), ?_, Grow.push _ _, fun _ => rfl⟩
    rw [body_eq rfl rfl rfl (by decide)]
    obtain ⟨k1, k2, k3, k4, k5, k6, k7⟩ := hok
    have w1 : IntKind.i64.wrap (8 * r.size) = 8 * r.size := wrap_i64 (by omega) (by omega)
    have w2 : IntKind.i64.wrap (r.addr + 8 * r.size) = r.addr + 8 * r.size := wrap_i64 (by omega) (by omega)
    simp only [ss, hps, Nat.reduceEqDiff, Nat.reduceLT, Nat.reduceAdd, Nat.reduceLeDiff, Int.reduceLT, Int.reduceLE, Int.reduceEq, reduceIte, ic179, ds, rowIf_ok, one_str, w1, w2]
  · cases hg
end Go.Proofs.YtadeojgiiapljaaGreat.Im
namespace Go.Proofs.YtadeojgiiapljaaGreat.Im
open Go
set_option maxHeartbeats 8000000
theorem decRs_take : ∀ {n : Nat} {cells : List IV} {l : List Reg} {i : Nat}, decRs cells n = some l → i ≤ n → decRs cells i = some (l.take i)
  | n, cells, l, 0, h, hi => by simp [decRs]
  | 0, cells, l, i + 1, h, hi => by omega
  | n + 1, cells, l, i + 1, h, hi => by
    unfold decRs at h
    split at h
    · rename_i h0; cases h0
    · rename_i s a z b cs m heq
      cases heq
      split at h
      · rename_i hc
        simp only [Option.map_eq_some_iff] at h
        obtain ⟨l', hl', rfl⟩ := h
        have ih := decRs_take hl' (show i ≤ n by omega)
        simp only [decRs, if_pos hc, ih]
        simp
      · cases h
    · cases h
theorem decRegs_to {v : IV} {l : List Reg} (h : decRegs v = some l) {i : Nat} (hi : i ≤ l.length) : ∃ u, sliceToV v i = some u ∧ decRegs u = some (l.take i) := by
  unfold decRegs at h
  split at h
  · cases h
    simp at hi; subst hi
    exact ⟨.nils, rfl, rfl⟩
  · rename_i cells len
    have hl := (decRs_get h).1
    refine ⟨.cslice cells i, ?_, ?_⟩
    · simp only [sliceToV]; rw [if_pos ⟨by omega, by omega⟩]; simp
    · simp only [decRegs]; exact decRs_take h (by omega)
  · cases h
theorem sat_scope {O : Orc} {fuel : Nat} {a : IC} {e : Env} {h : IHeap} {Q : IExit → Env → IHeap → Prop} {X : IV → Env → IHeap → Prop} (hq : (ix O fuel a e h).sat Q X) : (ix O fuel (.scope a) e h).sat Q X := hq
/-- A range loop is left at its head. -/
theorem sat_brk1 {O : Orc} {fuel : Nat} {b : IC} {id : Nat} {c : IC} {e0 : Env} {I : Nat → Env → IHeap → Prop} {m : Nat} {Q : IExit → Env → IHeap → Prop} {X X' X'' : IV → Env → IHeap → Prop} {e : Env} {h : IHeap}
    (hq : (∀ t, c.wr t = false → e.get t = e0.get t) → (CRes.ok .normal e h).sat Q X) : (ix O fuel (.exit id) e h).sat (seqQ O fuel b (loopQ c e0 I m (blockQ id Q)) X') X'' := sat_brk hq

theorem b124 {O : Orc} (h178 : O 178 = rd g178) (h179 : O 179 = rd g179) {v : IV} {l : List Reg} {h : IHeap} (hv : decRegs v = some l) (hok : RegsOk l) :
    (ix O 100 ic124.body (startI 0 [v]) h).sat (fun x e h' => x = .ret ∧ e.get 2 = some (.bool true) ∧ Grow h h') (fun _ _ _ => False) := by
  have lv := decRegs_len hv
  have h16 := hok.1
  unfold ic124
  simp only [start_cons, start_nil]
  refine sat_seq ?_
  simp only [ss, hps, Nat.reduceEqDiff, Nat.reduceLT, Nat.reduceAdd, Nat.reduceLeDiff, Int.reduceLT, Int.reduceLE, Int.reduceEq, reduceIte]
  refine sat_next (sat_scope (sat_seq (sat_seq ?_)))
  have c1 : ¬ (16 : Int) < l.length := by omega
  simp only [ss, hps, Nat.reduceEqDiff, Nat.reduceLT, Nat.reduceAdd, Nat.reduceLeDiff, Int.reduceLT, Int.reduceLE, Int.reduceEq, reduceIte, lv, c1]
  refine sat_next (sat_condK ?_)
  simp only [ss, hps, Nat.reduceEqDiff, Nat.reduceLT, Nat.reduceAdd, Nat.reduceLeDiff, Int.reduceLT, Int.reduceLE, Int.reduceEq, reduceIte]
  refine sat_next (sat_seq ?_)
  simp only [ss, hps, Nat.reduceEqDiff, Nat.reduceLT, Nat.reduceAdd, Nat.reduceLeDiff, Int.reduceLT, Int.reduceLE, Int.reduceEq, reduceIte]
  refine sat_next (sat_seq (sat_skip (sat_seq (sat_seq ?_))))
  simp only [ss, hps, Nat.reduceEqDiff, Nat.reduceLT, Nat.reduceAdd, Nat.reduceLeDiff, Int.reduceLT, Int.reduceLE, Int.reduceEq, reduceIte, lv]
  refine sat_next (sat_block (sat_loop (fun m e h' => ∃ i, i + m = l.length ∧ e.get 13 = some (.int .i64 i) ∧ e.get 3 = some (.bool true) ∧ Grow h h') l.length (by omega) ?_ ?_))
  · refine ⟨0, by omega, ?_, ?_, Grow.refl h⟩ <;> simp [get_put, puto_some]
  · rintro m e h' ⟨i, hi, h13, h3, hg⟩ hf
    have h0 := hf 0 rfl
    have h11 := hf 11 rfl
    have h12 := hf 12 rfl
    simp only [ss, hps, Nat.reduceEqDiff, Nat.reduceLT, Nat.reduceAdd, Nat.reduceLeDiff, Int.reduceLT, Int.reduceLE, Int.reduceEq, reduceIte, get_put, puto_some] at h0 h11 h12
    clear hf
    refine sat_seq ?_
    simp only [ss, hps, Nat.reduceEqDiff, Nat.reduceLT, Nat.reduceAdd, Nat.reduceLeDiff, Int.reduceLT, Int.reduceLE, Int.reduceEq, reduceIte, h13, h12]
    refine sat_next (sat_seq (sat_condK ?_))
    simp only [ss, hps, Nat.reduceEqDiff, Nat.reduceLT, Nat.reduceAdd, Nat.reduceLeDiff, Int.reduceLT, Int.reduceLE, Int.reduceEq, reduceIte]
    refine sat_condD (fun hlt => ?_) (fun hge => ?_)
    · have hlt : i < l.length := by omega
      obtain ⟨x, hx⟩ := get_len hlt
      obtain ⟨_, _, _, rest, hia⟩ := decRegs_at hv hx
      have xok := hok.2.1 x (mem_of_get hx)
      have oneStr := one_str x.name
      have hg2 := grow_push hg (.row [.str x.name, .int .i64 x.addr, .int .i64 x.size, .bool x.secret])
      obtain ⟨u, hu, hdu⟩ := decRegs_to hv (show i ≤ l.length by omega)
      have lu : slenV u = some i := by rw [decRegs_len hdu]; simp; omega
      have r178 := fun hh => rd178 xok hh
      refine sat_skip (sat_seq (sat_block (sat_seq ?_)))
      simp only [ss, hps, Nat.reduceEqDiff, Nat.reduceLT, Nat.reduceAdd, Nat.reduceLeDiff, Int.reduceLT, Int.reduceLE, Int.reduceEq, reduceIte, ds, h13, h11, hia, oneStr]
      refine sat_next (sat_seq (sat_seq ?_))
      simp only [ss, hps, Nat.reduceEqDiff, Nat.reduceLT, Nat.reduceAdd, Nat.reduceLeDiff, Int.reduceLT, Int.reduceLE, Int.reduceEq, reduceIte, r178, h178]
      refine sat_next (sat_seq ?_)
      simp only [ss, hps, Nat.reduceEqDiff, Nat.reduceLT, Nat.reduceAdd, Nat.reduceLeDiff, Int.reduceLT, Int.reduceLE, Int.reduceEq, reduceIte]
      refine sat_next (sat_condK ?_)
      simp only [ss, hps, Nat.reduceEqDiff, Nat.reduceLT, Nat.reduceAdd, Nat.reduceLeDiff, Int.reduceLT, Int.reduceLE, Int.reduceEq, reduceIte]
      refine sat_next (sat_seq ?_)
      simp only [ss, hps, Nat.reduceEqDiff, Nat.reduceLT, Nat.reduceAdd, Nat.reduceLeDiff, Int.reduceLT, Int.reduceLE, Int.reduceEq, reduceIte, h0, hu, lu]
      refine sat_next (sat_block (sat_loop (fun m' e' h'' => ∃ n, n + m' = i ∧ e'.get 26 = some (.int .i64 n) ∧ Grow h h'' ∧ h''.get h'.n = some (.row [.str x.name, .int .i64 x.addr, .int .i64 x.size, .bool x.secret]) ∧ h'.n < h''.n ∧ e'.get 3 = some (.bool true)) i (by omega) ?_ ?_))
      · refine ⟨0, by omega, ?_, hg2, ?_, ?_, ?_⟩
        · simp [get_put, puto_some]
        · simp [get_push_eq]
        · simp
        · simp [get_put, puto_some]
      · rintro m' e' h'' ⟨n, hn, j26, hg3, hrow, hlt3, j3⟩ hf'
        have j5 := hf' 5 rfl
        have j24 := hf' 24 rfl
        have j25 := hf' 25 rfl
        simp only [ss, hps, Nat.reduceEqDiff, Nat.reduceLT, Nat.reduceAdd, Nat.reduceLeDiff, Int.reduceLT, Int.reduceLE, Int.reduceEq, reduceIte, get_put, puto_some, h0] at j5 j24 j25
        clear hf'
        refine sat_seq ?_
        simp only [ss, hps, Nat.reduceEqDiff, Nat.reduceLT, Nat.reduceAdd, Nat.reduceLeDiff, Int.reduceLT, Int.reduceLE, Int.reduceEq, reduceIte, j26, j25]
        refine sat_next (sat_seq (sat_condK ?_))
        simp only [ss, hps, Nat.reduceEqDiff, Nat.reduceLT, Nat.reduceAdd, Nat.reduceLeDiff, Int.reduceLT, Int.reduceLE, Int.reduceEq, reduceIte]
        refine sat_condD (fun hlt' => ?_) (fun hge' => ?_)
        · have hlt' : n < i := by omega
          obtain ⟨y, hy⟩ := get_len (show n < l.length by omega)
          obtain ⟨_, _, _, rest', hib⟩ := decRegs_at hdu (show (l.take i)[n]? = some y by rw [List.getElem?_take_of_lt hlt']; exact hy)
          have yok := hok.2.1 y (mem_of_get hy)
          have hap := hok.apart hlt' hx hy
          have oneStr' := one_str y.name
          have r179x := fun hh => rd179 xok hh
          have r179y := fun hh => rd179 yok hh
          have w4 : IntKind.i64.wrap ((n : Int) + 1) = ((n + 1 : Nat) : Int) := by rw [wrap_i64 (by omega) (by omega)]; simp
          have e1 : ¬ x.name.toList = y.name.toList := fun hh => hap.1 hh.symm
          have hne : (h'.n = h''.n) = False := by simp; omega
          have hg4 := grow_push hg3 (.row [.str y.name, .int .i64 y.addr, .int .i64 y.size, .bool y.secret])
          have fin : ∀ {e1 : Env} {X : IV → Env → IHeap → Prop} {cc : IC} {e0 : Env} {Q : IExit → Env → IHeap → Prop}, e1.get 26 = some (.int .i64 (n + 1 : Nat)) → e1.get 3 = some (.bool true) →
              (CRes.ok .normal e1 (h''.push (.row [.str y.name, .int .i64 y.addr, .int .i64 y.size, .bool y.secret]))).sat (loopQ cc e0 (fun m' e' h'' => ∃ n, n + m' = i ∧ e'.get 26 = some (.int .i64 n) ∧ Grow h h'' ∧ h''.get h'.n = some (.row [.str x.name, .int .i64 x.addr, .int .i64 x.size, .bool x.secret]) ∧ h'.n < h''.n ∧ e'.get 3 = some (.bool true)) m' Q) X := by
            intro e1 X cc e0 Q he he3
            refine sat_again (m' - 1) (by omega) ⟨n + 1, by omega, he, hg4, ?_, by simp; omega, he3⟩
            rw [get_push_old hlt3]; exact hrow
          refine sat_skip ?_
          by_cases e2 : x.addr < y.addr + 8 * y.size
          · have e3 : ¬ y.addr < x.addr + 8 * x.size := fun hh => hap.2 ⟨hh, e2⟩
            simp only [ss, hps, Nat.reduceEqDiff, Nat.reduceLT, Nat.reduceAdd, Nat.reduceLeDiff, Int.reduceLT, Int.reduceLE, Int.reduceEq, reduceIte, ds, j26, j24, j5, hib, hrow, hne, oneStr', e1, h179, r179x, r179y, e2, e3, w4]
            exact fin (by simp only [ss, hps, Nat.reduceEqDiff, Nat.reduceLT, Nat.reduceAdd, Nat.reduceLeDiff, Int.reduceLT, Int.reduceLE, Int.reduceEq, reduceIte]) (by simp only [ss, hps, Nat.reduceEqDiff, Nat.reduceLT, Nat.reduceAdd, Nat.reduceLeDiff, Int.reduceLT, Int.reduceLE, Int.reduceEq, reduceIte, j3])
          · simp only [ss, hps, Nat.reduceEqDiff, Nat.reduceLT, Nat.reduceAdd, Nat.reduceLeDiff, Int.reduceLT, Int.reduceLE, Int.reduceEq, reduceIte, ds, j26, j24, j5, hib, hrow, hne, oneStr', e1, h179, r179y, e2, w4]
            exact fin (by simp only [ss, hps, Nat.reduceEqDiff, Nat.reduceLT, Nat.reduceAdd, Nat.reduceLeDiff, Int.reduceLT, Int.reduceLE, Int.reduceEq, reduceIte]) (by simp only [ss, hps, Nat.reduceEqDiff, Nat.reduceLT, Nat.reduceAdd, Nat.reduceLeDiff, Int.reduceLT, Int.reduceLE, Int.reduceEq, reduceIte, j3])
        · have hge' : n = i := by omega
          subst hge'
          refine sat_brk fun hf2 => sat_blk (sat_next ?_)
          have i13 := hf2 13 rfl
          simp only [ss, hps, Nat.reduceEqDiff, Nat.reduceLT, Nat.reduceAdd, Nat.reduceLeDiff, Int.reduceLT, Int.reduceLE, Int.reduceEq, reduceIte, get_put, puto_some, h13] at i13
          have w3 : IntKind.i64.wrap ((n : Int) + 1) = ((n + 1 : Nat) : Int) := by rw [wrap_i64 (by omega) (by omega)]; simp
          simp only [ss, hps, Nat.reduceEqDiff, Nat.reduceLT, Nat.reduceAdd, Nat.reduceLeDiff, Int.reduceLT, Int.reduceLE, Int.reduceEq, reduceIte, i13, w3]
          exact sat_again (m - 1) (by omega) ⟨n + 1, by omega, by simp only [ss, hps, Nat.reduceEqDiff, Nat.reduceLT, Nat.reduceAdd, Nat.reduceLeDiff, Int.reduceLT, Int.reduceLE, Int.reduceEq, reduceIte], by simp only [ss, hps, Nat.reduceEqDiff, Nat.reduceLT, Nat.reduceAdd, Nat.reduceLeDiff, Int.reduceLT, Int.reduceLE, Int.reduceEq, reduceIte, j3], hg3⟩
    · refine sat_brk fun hf2 => sat_next (sat_seq ?_)
      simp only [ss, hps, Nat.reduceEqDiff, Nat.reduceLT, Nat.reduceAdd, Nat.reduceLeDiff, Int.reduceLT, Int.reduceLE, Int.reduceEq, reduceIte, h3]
      exact sat_next (sat_ret ⟨rfl, by simp only [ss, hps, Nat.reduceEqDiff, Nat.reduceLT, Nat.reduceAdd, Nat.reduceLeDiff, Int.reduceLT, Int.reduceLE, Int.reduceEq, reduceIte], hg⟩)
def g124 : List IV → Option IV
  | [v] => match decRegs v with
    | some l => if RegsOk l then some (.bool true) else none
    | none => none
  | _ => none
theorem rd124 {v : IV} {l : List Reg} (hv : decRegs v = some l) (hok : RegsOk l) (h : IHeap) : rd g124 [v] h = .ok (.bool true) h := by
  simp [rd, g124, hv, hok, okO]
theorem s124 : Sim Tryz.prog 124 (rd g124) := by
  refine Sim.rd ⟨Tryz.f124, Tryz.func124, rfl, by decide⟩ fun args v h hg => ?_
  unfold g124 at hg
  split at hg
  · split at hg
    · rename_i hv
      split at hg
      · rename_i hl
        cases hg
        obtain ⟨h2, h3, h4⟩ := rd_done rfl rfl rfl (by decide) (b124 (O := ocons 178 (rd g178) (ocons 179 (rd g179) onil)) (h := h) rfl rfl hv hl) rfl
        exact ⟨_, body_sim (ocons_sim s178 (ocons_sim s179 onil_sim)) cc124 _, h2, h3, h4, fun _ => rfl⟩
      · cases hg
    · cases hg
  · cases hg
end Go.Proofs.YtadeojgiiapljaaGreat.Im
