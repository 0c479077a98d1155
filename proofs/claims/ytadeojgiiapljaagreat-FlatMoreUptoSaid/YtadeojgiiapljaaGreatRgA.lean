/- Regions; muffleref03.May. -/
import Derived.Test.YtadeojgiiapljaaGreatImC
import Derived.Test.YtadeojgiiapljaaGreatNdD
set_option linter.unusedSimpArgs false
set_option linter.unusedVariables false
namespace Go.Proofs.YtadeojgiiapljaaGreat.Im
open Go
set_option maxHeartbeats 8000000
structure Reg where
  name : ByteArray
  addr : Int
  size : Int
  secret : Bool
def Reg.cells (r : Reg) : List IV := [.str r.name, .int .i64 r.addr, .int .i64 r.size, .bool r.secret]
def decRs : List IV → Nat → Option (List Reg)
  | _, 0 => some []
  | .str s :: .int .i64 a :: .int .i64 z :: .bool b :: cs, n + 1 => if i64ok a && i64ok z && decide (s.size < 4000000) then (decRs cs n).map (⟨s, a, z, b⟩ :: ·) else none
  | _, _ + 1 => none
def decRegs : IV → Option (List Reg)
  | .nils => some []
  | .cslice cells len => decRs cells len
  | _ => none
theorem decRs_get : ∀ {n : Nat} {cells : List IV} {l : List Reg}, decRs cells n = some l → l.length = n ∧ n * 4 ≤ cells.length ∧ ∀ (i : Nat) (x : Reg), l[i]? = some x → i64ok x.addr = true ∧ i64ok x.size = true ∧ x.name.size < 4000000 ∧ ∃ rest, cells.drop (i * 4) = .str x.name :: .int .i64 x.addr :: .int .i64 x.size :: .bool x.secret :: rest
  | 0, cells, l, h => by simp [decRs] at h; subst h; simp
  | n + 1, cells, l, h => by
    unfold decRs at h
    split at h
    · rename_i h0; cases h0
    · rename_i s a z b cs m heq
      cases heq
      split at h
      · rename_i hc
        simp only [Bool.and_eq_true, decide_eq_true_eq] at hc
        simp only [Option.map_eq_some_iff] at h
        obtain ⟨l', hl', rfl⟩ := h
        obtain ⟨h1, h2, h3⟩ := decRs_get hl'
        refine ⟨by simp [h1], by simp; omega, ?_⟩
        intro i x hi
        cases i with
        | zero => simp at hi; subst hi; exact ⟨hc.1.1, hc.1.2, hc.2, cs, rfl⟩
        | succ i =>
          simp at hi
          obtain ⟨r1, r2, r3, rest, hrest⟩ := h3 i x hi
          refine ⟨r1, r2, r3, rest, ?_⟩
          rw [← hrest, Nat.succ_mul]; simp
      · cases h
    · cases h
theorem decRegs_len {v : IV} {l : List Reg} (h : decRegs v = some l) : slenV v = some l.length := by
  unfold decRegs at h
  split at h
  · cases h; rfl
  · have := (decRs_get h).1
    simp [slenV, sliceLen, this]
  · cases h
theorem decRegs_one {v : IV} {l : List Reg} (h : decRegs v = some l) : v.one = true := by
  unfold decRegs at h
  split at h <;> first | rfl | cases h
theorem decRegs_at {v : IV} {l : List Reg} (h : decRegs v = some l) {i : Nat} {x : Reg} (hi : l[i]? = some x) : i64ok x.addr = true ∧ i64ok x.size = true ∧ x.name.size < 4000000 ∧ ∃ rest, iaddrV 4 v i = some (.cptr (.str x.name :: .int .i64 x.addr :: .int .i64 x.size :: .bool x.secret :: rest)) := by
  unfold decRegs at h
  split at h
  · cases h; simp at hi
  · obtain ⟨h1, h2, h3⟩ := decRs_get h
    obtain ⟨r1, r2, r3, rest, h4⟩ := h3 i x hi
    have hlt := (List.getElem?_eq_some_iff.1 hi).1
    refine ⟨r1, r2, r3, rest, ?_⟩
    simp only [iaddrV]
    rw [if_pos ⟨by omega, by omega, by simp; omega⟩]
    simp [h4]
  · cases h
/-- May one be? -/
def Reg.Ok (r : Reg) : Prop := 1 ≤ r.name.size ∧ r.name.size ≤ 16 ∧ 1 ≤ r.size ∧ r.size ≤ 512 ∧ 0 ≤ r.addr ∧ r.addr.tmod 8 = 0 ∧ r.addr ≤ 49152 - 8 * r.size
instance (r : Reg) : Decidable r.Ok := by unfold Reg.Ok; infer_instance
/-- y lies ahead of x in the list. -/
def Reg.Apart (y x : Reg) : Prop := y.name.toList ≠ x.name.toList ∧ ¬ (y.addr < x.addr + 8 * x.size ∧ x.addr < y.addr + 8 * y.size)
instance (y x : Reg) : Decidable (y.Apart x) := by unfold Reg.Apart; infer_instance
def RegsOk (l : List Reg) : Prop := l.length ≤ 16 ∧ (∀ r ∈ l, r.Ok) ∧ l.Pairwise Reg.Apart
instance (l : List Reg) : Decidable (RegsOk l) := by unfold RegsOk; infer_instance
theorem regs_of {l : List Reg} (h0 : l.length ≤ 16) (h : ∀ i x, i < l.length → l[i]? = some x → x.Ok ∧ ∀ k y, k < i → l[k]? = some y → y.Apart x) : RegsOk l := by
  refine ⟨h0, ?_, ?_⟩
  · intro r hr
    obtain ⟨j, hj, rfl⟩ := List.getElem_of_mem hr
    exact (h j l[j] hj (by simp [hj])).1
  · refine List.pairwise_iff_getElem.2 fun a b ha hb hab => ?_
    exact (h b l[b] hb (by simp [hb])).2 a l[a] hab (by simp [ha])
theorem RegsOk.apart {l : List Reg} (h : RegsOk l) {i k : Nat} {x y : Reg} (hk : k < i) (hx : l[i]? = some x) (hy : l[k]? = some y) : y.Apart x := by
  obtain ⟨a1, a2⟩ := List.getElem?_eq_some_iff.1 hx
  obtain ⟨b1, b2⟩ := List.getElem?_eq_some_iff.1 hy
  have := (List.pairwise_iff_getElem.1 h.2.2) k i b1 a1 hk
  rwa [a2, b2] at this

theorem b32 {O : Orc} {v : IV} {l : List Reg} {h : IHeap} (hv : decRegs v = some l) (sl : l.length < 4000000) :
    (ix O 4000010 ic32.body (startI 0 [v]) h).sat (fun x e h' => x = .ret ∧ e.get 2 = some (.bool (decide (RegsOk l))) ∧ Grow h h') (fun _ _ _ => False) := by
  have lv := decRegs_len hv
  have no : ∀ {e : Env}, ¬ RegsOk l → e.get 2 = some (.bool false) → e.get 2 = some (.bool (decide (RegsOk l))) := fun hn he => by rw [he, decide_eq_false hn]
  have yes : ∀ {e : Env}, RegsOk l → e.get 2 = some (.bool true) → e.get 2 = some (.bool (decide (RegsOk l))) := fun hn he => by rw [he, decide_eq_true hn]
  unfold ic32
  simp only [start_cons, start_nil]
  refine sat_seq ?_
  simp only [ss, hps, Nat.reduceEqDiff, Nat.reduceLT, Nat.reduceAdd, Nat.reduceLeDiff, Int.reduceLT, Int.reduceLE, Int.reduceEq, reduceIte]
  refine sat_next (sat_seq (sat_seq ?_))
  by_cases c1 : (16 : Int) < l.length
  · simp only [ss, hps, Nat.reduceEqDiff, Nat.reduceLT, Nat.reduceAdd, Nat.reduceLeDiff, Int.reduceLT, Int.reduceLE, Int.reduceEq, reduceIte, lv, c1]
    refine sat_next (sat_condK ?_)
    simp only [ss, hps, Nat.reduceEqDiff, Nat.reduceLT, Nat.reduceAdd, Nat.reduceLeDiff, Int.reduceLT, Int.reduceLE, Int.reduceEq, reduceIte]
    exact ⟨rfl, no (fun hh => by have := hh.1; omega) (by simp only [ss, hps, Nat.reduceEqDiff, Nat.reduceLT, Nat.reduceAdd, Nat.reduceLeDiff, Int.reduceLT, Int.reduceLE, Int.reduceEq, reduceIte]), Grow.refl h⟩
  simp only [ss, hps, Nat.reduceEqDiff, Nat.reduceLT, Nat.reduceAdd, Nat.reduceLeDiff, Int.reduceLT, Int.reduceLE, Int.reduceEq, reduceIte, lv, c1]
  refine sat_next (sat_condK ?_)
  simp only [ss, hps, Nat.reduceEqDiff, Nat.reduceLT, Nat.reduceAdd, Nat.reduceLeDiff, Int.reduceLT, Int.reduceLE, Int.reduceEq, reduceIte]
  refine sat_next (sat_seq (sat_seq ?_))
  simp only [ss, hps, Nat.reduceEqDiff, Nat.reduceLT, Nat.reduceAdd, Nat.reduceLeDiff, Int.reduceLT, Int.reduceLE, Int.reduceEq, reduceIte]
  refine sat_next (sat_block (sat_loop (fun m e h' => ∃ i, i + m = l.length ∧ e.get 3 = some (.int .i64 i) ∧ (∀ j x, j < i → l[j]? = some x → x.Ok ∧ ∀ k y, k < j → l[k]? = some y → y.Apart x) ∧ Grow h h') l.length (by omega) ?_ ?_))
  · refine ⟨0, by omega, ?_, fun j x hj => by omega, Grow.refl h⟩
    simp [get_put, puto_some]
  · rintro m e h' ⟨i, hi, h3, hgood, hg⟩ hf
    have h0 := hf 0 rfl
    simp only [ss, hps, Nat.reduceEqDiff, Nat.reduceLT, Nat.reduceAdd, Nat.reduceLeDiff, Int.reduceLT, Int.reduceLE, Int.reduceEq, reduceIte, get_put, puto_some] at h0
    clear hf
    refine sat_seq (sat_seq ?_)
    simp only [ss, hps, Nat.reduceEqDiff, Nat.reduceLT, Nat.reduceAdd, Nat.reduceLeDiff, Int.reduceLT, Int.reduceLE, Int.reduceEq, reduceIte, h3, h0, lv]
    refine sat_next (sat_condK ?_)
    simp only [ss, hps, Nat.reduceEqDiff, Nat.reduceLT, Nat.reduceAdd, Nat.reduceLeDiff, Int.reduceLT, Int.reduceLE, Int.reduceEq, reduceIte]
    refine sat_condD (fun hlt => ?_) (fun hge => ?_)
    · have hlt : i < l.length := by omega
      obtain ⟨x, hx⟩ := get_len hlt
      obtain ⟨r1, r2, r3, rest, hia⟩ := decRegs_at hv hx
      have r1 := i64b r1
      have r2 := i64b r2
      have oneStr := one_str x.name
      have hg2 := grow_push hg (.row [.str x.name, .int .i64 x.addr, .int .i64 x.size, .bool x.secret])
      have w3 : IntKind.i64.wrap ((i : Int) + 1) = ((i + 1 : Nat) : Int) := by rw [wrap_i64 (by omega) (by omega)]; simp
      refine sat_skip (sat_seq (sat_block (sat_seq ?_)))
      simp only [ss, hps, Nat.reduceEqDiff, Nat.reduceLT, Nat.reduceAdd, Nat.reduceLeDiff, Int.reduceLT, Int.reduceLE, Int.reduceEq, reduceIte, ds, h3, h0, hia, oneStr]
      refine sat_next (sat_seq (sat_seq ?_))
      have bad : ¬ x.Ok → ¬ RegsOk l := fun hn hh => hn (hh.2.1 x (mem_of_get hx))
      by_cases d1 : (x.name.size : Int) < 1
      · simp only [ss, hps, Nat.reduceEqDiff, Nat.reduceLT, Nat.reduceAdd, Nat.reduceLeDiff, Int.reduceLT, Int.reduceLE, Int.reduceEq, reduceIte, ds, d1]
        refine sat_next (sat_condK ?_)
        simp only [ss, hps, Nat.reduceEqDiff, Nat.reduceLT, Nat.reduceAdd, Nat.reduceLeDiff, Int.reduceLT, Int.reduceLE, Int.reduceEq, reduceIte]
        exact fun _ => ⟨rfl, no (bad fun hh => by have := hh.1; omega) (by simp only [ss, hps, Nat.reduceEqDiff, Nat.reduceLT, Nat.reduceAdd, Nat.reduceLeDiff, Int.reduceLT, Int.reduceLE, Int.reduceEq, reduceIte]), hg2⟩
      by_cases d2 : (16 : Int) < x.name.size
      · simp only [ss, hps, Nat.reduceEqDiff, Nat.reduceLT, Nat.reduceAdd, Nat.reduceLeDiff, Int.reduceLT, Int.reduceLE, Int.reduceEq, reduceIte, ds, d1, d2]
        refine sat_next (sat_condK ?_)
        simp only [ss, hps, Nat.reduceEqDiff, Nat.reduceLT, Nat.reduceAdd, Nat.reduceLeDiff, Int.reduceLT, Int.reduceLE, Int.reduceEq, reduceIte]
        exact fun _ => ⟨rfl, no (bad fun hh => by have := hh.2.1; omega) (by simp only [ss, hps, Nat.reduceEqDiff, Nat.reduceLT, Nat.reduceAdd, Nat.reduceLeDiff, Int.reduceLT, Int.reduceLE, Int.reduceEq, reduceIte]), hg2⟩
      by_cases d3 : x.size < 1
      · simp only [ss, hps, Nat.reduceEqDiff, Nat.reduceLT, Nat.reduceAdd, Nat.reduceLeDiff, Int.reduceLT, Int.reduceLE, Int.reduceEq, reduceIte, ds, d1, d2, d3]
        refine sat_next (sat_condK ?_)
        simp only [ss, hps, Nat.reduceEqDiff, Nat.reduceLT, Nat.reduceAdd, Nat.reduceLeDiff, Int.reduceLT, Int.reduceLE, Int.reduceEq, reduceIte]
        exact fun _ => ⟨rfl, no (bad fun hh => by have := hh.2.2.1; omega) (by simp only [ss, hps, Nat.reduceEqDiff, Nat.reduceLT, Nat.reduceAdd, Nat.reduceLeDiff, Int.reduceLT, Int.reduceLE, Int.reduceEq, reduceIte]), hg2⟩
      by_cases d4 : 512 < x.size
      · simp only [ss, hps, Nat.reduceEqDiff, Nat.reduceLT, Nat.reduceAdd, Nat.reduceLeDiff, Int.reduceLT, Int.reduceLE, Int.reduceEq, reduceIte, ds, d1, d2, d3, d4]
        refine sat_next (sat_condK ?_)
        simp only [ss, hps, Nat.reduceEqDiff, Nat.reduceLT, Nat.reduceAdd, Nat.reduceLeDiff, Int.reduceLT, Int.reduceLE, Int.reduceEq, reduceIte]
        exact fun _ => ⟨rfl, no (bad fun hh => by have := hh.2.2.2.1; omega) (by simp only [ss, hps, Nat.reduceEqDiff, Nat.reduceLT, Nat.reduceAdd, Nat.reduceLeDiff, Int.reduceLT, Int.reduceLE, Int.reduceEq, reduceIte]), hg2⟩
      by_cases d5 : x.addr < 0
      · simp only [ss, hps, Nat.reduceEqDiff, Nat.reduceLT, Nat.reduceAdd, Nat.reduceLeDiff, Int.reduceLT, Int.reduceLE, Int.reduceEq, reduceIte, ds, d1, d2, d3, d4, d5]
        refine sat_next (sat_condK ?_)
        simp only [ss, hps, Nat.reduceEqDiff, Nat.reduceLT, Nat.reduceAdd, Nat.reduceLeDiff, Int.reduceLT, Int.reduceLE, Int.reduceEq, reduceIte]
        exact fun _ => ⟨rfl, no (bad fun hh => by have := hh.2.2.2.2.1; omega) (by simp only [ss, hps, Nat.reduceEqDiff, Nat.reduceLT, Nat.reduceAdd, Nat.reduceLeDiff, Int.reduceLT, Int.reduceLE, Int.reduceEq, reduceIte]), hg2⟩
      by_cases d6 : x.addr.tmod 8 = 0
      case neg =>
        simp only [ss, hps, Nat.reduceEqDiff, Nat.reduceLT, Nat.reduceAdd, Nat.reduceLeDiff, Int.reduceLT, Int.reduceLE, Int.reduceEq, reduceIte, ds, d1, d2, d3, d4, d5, d6]
        refine sat_next (sat_condK ?_)
        simp only [ss, hps, Nat.reduceEqDiff, Nat.reduceLT, Nat.reduceAdd, Nat.reduceLeDiff, Int.reduceLT, Int.reduceLE, Int.reduceEq, reduceIte]
        exact fun _ => ⟨rfl, no (bad fun hh => d6 hh.2.2.2.2.2.1) (by simp only [ss, hps, Nat.reduceEqDiff, Nat.reduceLT, Nat.reduceAdd, Nat.reduceLeDiff, Int.reduceLT, Int.reduceLE, Int.reduceEq, reduceIte]), hg2⟩
      have w1 : IntKind.i64.wrap (8 * x.size) = 8 * x.size := wrap_i64 (by omega) (by omega)
      have w2 : IntKind.i64.wrap (49152 - 8 * x.size) = 49152 - 8 * x.size := wrap_i64 (by omega) (by omega)
      by_cases d7 : 49152 - 8 * x.size < x.addr
      · simp only [ss, hps, Nat.reduceEqDiff, Nat.reduceLT, Nat.reduceAdd, Nat.reduceLeDiff, Int.reduceLT, Int.reduceLE, Int.reduceEq, reduceIte, ds, d1, d2, d3, d4, d5, d6, w1, w2, d7]
        refine sat_next (sat_condK ?_)
        simp only [ss, hps, Nat.reduceEqDiff, Nat.reduceLT, Nat.reduceAdd, Nat.reduceLeDiff, Int.reduceLT, Int.reduceLE, Int.reduceEq, reduceIte]
        exact fun _ => ⟨rfl, no (bad fun hh => by have := hh.2.2.2.2.2.2; omega) (by simp only [ss, hps, Nat.reduceEqDiff, Nat.reduceLT, Nat.reduceAdd, Nat.reduceLeDiff, Int.reduceLT, Int.reduceLE, Int.reduceEq, reduceIte]), hg2⟩
      have hok : x.Ok := ⟨by omega, by omega, by omega, by omega, by omega, d6, by omega⟩
      simp only [ss, hps, Nat.reduceEqDiff, Nat.reduceLT, Nat.reduceAdd, Nat.reduceLeDiff, Int.reduceLT, Int.reduceLE, Int.reduceEq, reduceIte, ds, d1, d2, d3, d4, d5, d6, w1, w2, d7]
      refine sat_next (sat_condK ?_)
      simp only [ss, hps, Nat.reduceEqDiff, Nat.reduceLT, Nat.reduceAdd, Nat.reduceLeDiff, Int.reduceLT, Int.reduceLE, Int.reduceEq, reduceIte]
      refine sat_next (sat_seq ?_)
      simp only [ss, hps, Nat.reduceEqDiff, Nat.reduceLT, Nat.reduceAdd, Nat.reduceLeDiff, Int.reduceLT, Int.reduceLE, Int.reduceEq, reduceIte]
      refine sat_next (sat_block (sat_loop (fun m' e' h'' => ∃ n, n + m' = i ∧ e'.get 5 = some (.int .i64 n) ∧ (∀ n' y, n' < n → l[n']? = some y → y.Apart x) ∧ h'' = h'.push (.row [.str x.name, .int .i64 x.addr, .int .i64 x.size, .bool x.secret])) i (by omega) ?_ ?_))
      · refine ⟨0, by omega, ?_, fun j x hj => by omega, rfl⟩
        simp [get_put, puto_some]
      · rintro m' e' h'' ⟨n, hn, j5, hne, rfl⟩ hf'
        have j0 := hf' 0 rfl
        have j3 := hf' 3 rfl
        have j4 := hf' 4 rfl
        simp only [ss, hps, Nat.reduceEqDiff, Nat.reduceLT, Nat.reduceAdd, Nat.reduceLeDiff, Int.reduceLT, Int.reduceLE, Int.reduceEq, reduceIte, get_put, puto_some, h0, h3] at j0 j3 j4
        clear hf'
        refine sat_seq (sat_seq ?_)
        simp only [ss, hps, Nat.reduceEqDiff, Nat.reduceLT, Nat.reduceAdd, Nat.reduceLeDiff, Int.reduceLT, Int.reduceLE, Int.reduceEq, reduceIte, j5, j3]
        refine sat_next (sat_condK ?_)
        simp only [ss, hps, Nat.reduceEqDiff, Nat.reduceLT, Nat.reduceAdd, Nat.reduceLeDiff, Int.reduceLT, Int.reduceLE, Int.reduceEq, reduceIte]
        refine sat_condD (fun hlt' => ?_) (fun hge' => ?_)
        · have hlt' : n < i := by omega
          obtain ⟨y, hy⟩ := get_len (show n < l.length by omega)
          obtain ⟨_, _, _, rest', hia'⟩ := decRegs_at hv hy
          have hyo := (hgood n y (by omega) hy).1
          have v1 : IntKind.i64.wrap (x.addr + 8 * x.size) = x.addr + 8 * x.size := wrap_i64 (by have := hok.2.2.2.2.2.2; omega) (by have := hok.2.2.2.2.2.2; omega)
          have v2 : IntKind.i64.wrap (8 * y.size) = 8 * y.size := wrap_i64 (by have := hyo.2.2.1; omega) (by have := hyo.2.2.2.1; omega)
          have v3 : IntKind.i64.wrap (y.addr + 8 * y.size) = y.addr + 8 * y.size := wrap_i64 (by have := hyo.2.2.1; have := hyo.2.2.2.2.1; omega) (by have := hyo.2.2.2.2.2.2; omega)
          have bad2 : ¬ y.Apart x → ¬ RegsOk l := fun hn' hh => hn' (hh.apart hlt' hx hy)
          refine sat_skip ?_
          by_cases e1 : y.name.toList = x.name.toList
          · simp only [ss, hps, Nat.reduceEqDiff, Nat.reduceLT, Nat.reduceAdd, Nat.reduceLeDiff, Int.reduceLT, Int.reduceLE, Int.reduceEq, reduceIte, ds, j5, j3, j0, j4, hia', e1]
            exact fun _ _ => ⟨rfl, no (bad2 fun hh => hh.1 e1) (by simp only [ss, hps, Nat.reduceEqDiff, Nat.reduceLT, Nat.reduceAdd, Nat.reduceLeDiff, Int.reduceLT, Int.reduceLE, Int.reduceEq, reduceIte]), hg2⟩
          have w4 : IntKind.i64.wrap ((n : Int) + 1) = ((n + 1 : Nat) : Int) := by rw [wrap_i64 (by omega) (by omega)]; simp
          have step : y.Apart x → ∀ n' z, n' < n + 1 → l[n']? = some z → z.Apart x := by
            intro hap n' z hn' hz
            by_cases e0 : n' < n
            · exact hne n' z e0 hz
            · have : n' = n := by omega
              subst this; rw [hy] at hz; cases hz; exact hap
          by_cases e2 : y.addr < x.addr + 8 * x.size
          · by_cases e3 : x.addr < y.addr + 8 * y.size
            · simp only [ss, hps, Nat.reduceEqDiff, Nat.reduceLT, Nat.reduceAdd, Nat.reduceLeDiff, Int.reduceLT, Int.reduceLE, Int.reduceEq, reduceIte, ds, j5, j3, j0, j4, hia', e1, w1, v1, v2, v3, e2, e3]
              exact fun _ _ => ⟨rfl, no (bad2 fun hh => hh.2 ⟨e2, e3⟩) (by simp only [ss, hps, Nat.reduceEqDiff, Nat.reduceLT, Nat.reduceAdd, Nat.reduceLeDiff, Int.reduceLT, Int.reduceLE, Int.reduceEq, reduceIte]), hg2⟩
            · simp only [ss, hps, Nat.reduceEqDiff, Nat.reduceLT, Nat.reduceAdd, Nat.reduceLeDiff, Int.reduceLT, Int.reduceLE, Int.reduceEq, reduceIte, ds, j5, j3, j0, j4, hia', e1, w1, v1, v2, v3, e2, e3]
              exact sat_again (m' - 1) (by omega) ⟨n + 1, by omega, by simp only [ss, hps, Nat.reduceEqDiff, Nat.reduceLT, Nat.reduceAdd, Nat.reduceLeDiff, Int.reduceLT, Int.reduceLE, Int.reduceEq, reduceIte, w4], step ⟨e1, fun hh => e3 hh.2⟩, rfl⟩
          · simp only [ss, hps, Nat.reduceEqDiff, Nat.reduceLT, Nat.reduceAdd, Nat.reduceLeDiff, Int.reduceLT, Int.reduceLE, Int.reduceEq, reduceIte, ds, j5, j3, j0, j4, hia', e1, w1, v1, v2, v3, e2]
            exact sat_again (m' - 1) (by omega) ⟨n + 1, by omega, by simp only [ss, hps, Nat.reduceEqDiff, Nat.reduceLT, Nat.reduceAdd, Nat.reduceLeDiff, Int.reduceLT, Int.reduceLE, Int.reduceEq, reduceIte, w4], step ⟨e1, fun hh => e2 hh.1⟩, rfl⟩
        · have hge' : n = i := by omega
          subst hge'
          refine sat_brk fun hf2 => sat_blk (sat_next ?_)
          have i3 := hf2 3 rfl
          simp only [ss, hps, Nat.reduceEqDiff, Nat.reduceLT, Nat.reduceAdd, Nat.reduceLeDiff, Int.reduceLT, Int.reduceLE, Int.reduceEq, reduceIte, get_put, puto_some, h3] at i3
          simp only [ss, hps, Nat.reduceEqDiff, Nat.reduceLT, Nat.reduceAdd, Nat.reduceLeDiff, Int.reduceLT, Int.reduceLE, Int.reduceEq, reduceIte, i3]
          refine sat_again (m - 1) (by omega) ⟨n + 1, by omega, by simp only [ss, hps, Nat.reduceEqDiff, Nat.reduceLT, Nat.reduceAdd, Nat.reduceLeDiff, Int.reduceLT, Int.reduceLE, Int.reduceEq, reduceIte, w3], ?_, hg2⟩
          intro j z hj hz
          by_cases e1 : j < n
          · exact hgood j z e1 hz
          · have : j = n := by omega
            subst this; rw [hx] at hz; cases hz
            exact ⟨hok, hne⟩
    · have hge : i = l.length := by omega
      subst hge
      refine sat_brk fun hf2 => sat_next (sat_seq ?_)
      simp only [ss, hps, Nat.reduceEqDiff, Nat.reduceLT, Nat.reduceAdd, Nat.reduceLeDiff, Int.reduceLT, Int.reduceLE, Int.reduceEq, reduceIte]
      refine sat_next (sat_ret ⟨rfl, yes (regs_of (by omega) hgood) (by simp only [ss, hps, Nat.reduceEqDiff, Nat.reduceLT, Nat.reduceAdd, Nat.reduceLeDiff, Int.reduceLT, Int.reduceLE, Int.reduceEq, reduceIte]), hg⟩)
def g32 : List IV → Option IV
  | [v] => match decRegs v with
    | some l => if l.length < 4000000 then some (.bool (decide (RegsOk l))) else none
    | none => none
  | _ => none
theorem s32 : Sim Tryz.prog 32 (rd g32) := by
  refine Sim.rd ⟨Tryz.f32, Tryz.func32, rfl, by decide⟩ fun args v h hg => ?_
  unfold g32 at hg
  split at hg
  · split at hg
    · rename_i hv
      split at hg
      · rename_i hl
        cases hg
        obtain ⟨h2, h3, h4⟩ := rd_done rfl rfl rfl (by decide) (b32 (O := onil) (h := h) hv hl) rfl
        exact ⟨_, body_sim onil_sim cc32 _, h2, h3, h4, fun _ => rfl⟩
      · cases hg
    · cases hg
  · cases hg
end Go.Proofs.YtadeojgiiapljaaGreat.Im
