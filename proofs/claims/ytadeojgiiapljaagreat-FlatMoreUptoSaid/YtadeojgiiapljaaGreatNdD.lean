/- muffleref15.Head. -/
import Derived.Test.YtadeojgiiapljaaGreatNdC
set_option linter.unusedSimpArgs false
set_option linter.unusedVariables false
namespace Go.Proofs.YtadeojgiiapljaaGreat.Im
open Go
set_option maxHeartbeats 8000000
def HeadOk (f : FlatT) : Prop := (0 ≤ f.vars ∧ f.vars ≤ 16384 ∧ 0 ≤ f.frame ∧ f.frame ≤ 8192 ∧ f.frame.tmod 16 = 0 ∧ f.rets.length ≤ 16384) ∧ (∀ p ∈ f.params, 0 ≤ p ∧ p < f.vars) ∧ f.params.Nodup ∧ (∀ p ∈ f.rets, 0 ≤ p ∧ p < f.vars)
instance (f : FlatT) : Decidable (HeadOk f) := by unfold HeadOk; infer_instance
theorem bin_rem16 (k : IntKind) (a : Int) : binI .rem (.int k a) (.int k 16) = some (.int k (a.tmod 16)) := by simp [binI, intArith]
theorem get_len {α : Type} {l : List α} {i : Nat} (h : i < l.length) : ∃ x, l[i]? = some x := ⟨l[i], by simp [h]⟩
theorem mem_of_get {α : Type} {l : List α} {i : Nat} {x : α} (h : l[i]? = some x) : x ∈ l := List.mem_of_getElem? h
theorem b26 {O : Orc} {p r : IV} {f : FlatT} {h : IHeap} (hp : decInts .i64 p = some f.params) (hr : decInts .i64 r = some f.rets) (sp : f.params.length < 4000000) (sr : f.rets.length < 4000000) :
    (ix O 4000010 ic26.body (startI 0 [.int .i64 f.vars, p, r, .int .i64 f.frame]) h).sat (fun x e h' => x = .ret ∧ e.get 8 = some (.bool (decide (HeadOk f))) ∧ h' = h) (fun _ _ _ => False) := by
  have lp := decInts_len hp
  have lr := decInts_len hr
  have no : ∀ {e : Env}, ¬ HeadOk f → e.get 8 = some (.bool false) → e.get 8 = some (.bool (decide (HeadOk f))) := fun hn he => by rw [he, decide_eq_false hn]
  have yes : ∀ {e : Env}, HeadOk f → e.get 8 = some (.bool true) → e.get 8 = some (.bool (decide (HeadOk f))) := fun hn he => by rw [he, decide_eq_true hn]
  unfold ic26
  simp only [start_cons, start_nil]
  refine sat_seq ?_
  simp only [ss, hps, Nat.reduceEqDiff, Nat.reduceLT, Nat.reduceAdd, Nat.reduceLeDiff, Int.reduceLT, Int.reduceLE, Int.reduceEq, reduceIte]
  refine sat_next (sat_seq (sat_seq ?_))
  have e6 : ((f.rets.length : Int) > 16384) = (16384 < f.rets.length) := by simp; omega
  by_cases c1 : f.vars < 0
  · simp only [ss, hps, Nat.reduceEqDiff, Nat.reduceLT, Nat.reduceAdd, Nat.reduceLeDiff, Int.reduceLT, Int.reduceLE, Int.reduceEq, reduceIte, c1]
    refine sat_next (sat_condK ?_)
    simp only [ss, hps, Nat.reduceEqDiff, Nat.reduceLT, Nat.reduceAdd, Nat.reduceLeDiff, Int.reduceLT, Int.reduceLE, Int.reduceEq, reduceIte]
    exact ⟨rfl, no (fun hh => by have := hh.1.1; omega) (by simp only [ss, hps, Nat.reduceEqDiff, Nat.reduceLT, Nat.reduceAdd, Nat.reduceLeDiff, Int.reduceLT, Int.reduceLE, Int.reduceEq, reduceIte]), rfl⟩
  by_cases c2 : 16384 < f.vars
  · simp only [ss, hps, Nat.reduceEqDiff, Nat.reduceLT, Nat.reduceAdd, Nat.reduceLeDiff, Int.reduceLT, Int.reduceLE, Int.reduceEq, reduceIte, c1, c2]
    refine sat_next (sat_condK ?_)
    simp only [ss, hps, Nat.reduceEqDiff, Nat.reduceLT, Nat.reduceAdd, Nat.reduceLeDiff, Int.reduceLT, Int.reduceLE, Int.reduceEq, reduceIte]
    exact ⟨rfl, no (fun hh => by have := hh.1.2.1; omega) (by simp only [ss, hps, Nat.reduceEqDiff, Nat.reduceLT, Nat.reduceAdd, Nat.reduceLeDiff, Int.reduceLT, Int.reduceLE, Int.reduceEq, reduceIte]), rfl⟩
  by_cases c3 : f.frame < 0
  · simp only [ss, hps, Nat.reduceEqDiff, Nat.reduceLT, Nat.reduceAdd, Nat.reduceLeDiff, Int.reduceLT, Int.reduceLE, Int.reduceEq, reduceIte, c1, c2, c3]
    refine sat_next (sat_condK ?_)
    simp only [ss, hps, Nat.reduceEqDiff, Nat.reduceLT, Nat.reduceAdd, Nat.reduceLeDiff, Int.reduceLT, Int.reduceLE, Int.reduceEq, reduceIte]
    exact ⟨rfl, no (fun hh => by have := hh.1.2.2.1; omega) (by simp only [ss, hps, Nat.reduceEqDiff, Nat.reduceLT, Nat.reduceAdd, Nat.reduceLeDiff, Int.reduceLT, Int.reduceLE, Int.reduceEq, reduceIte]), rfl⟩
  by_cases c4 : 8192 < f.frame
  · simp only [ss, hps, Nat.reduceEqDiff, Nat.reduceLT, Nat.reduceAdd, Nat.reduceLeDiff, Int.reduceLT, Int.reduceLE, Int.reduceEq, reduceIte, c1, c2, c3, c4]
    refine sat_next (sat_condK ?_)
    simp only [ss, hps, Nat.reduceEqDiff, Nat.reduceLT, Nat.reduceAdd, Nat.reduceLeDiff, Int.reduceLT, Int.reduceLE, Int.reduceEq, reduceIte]
    exact ⟨rfl, no (fun hh => by have := hh.1.2.2.2.1; omega) (by simp only [ss, hps, Nat.reduceEqDiff, Nat.reduceLT, Nat.reduceAdd, Nat.reduceLeDiff, Int.reduceLT, Int.reduceLE, Int.reduceEq, reduceIte]), rfl⟩
  by_cases c5 : f.frame.tmod 16 = 0
  case neg =>
    simp only [ss, hps, Nat.reduceEqDiff, Nat.reduceLT, Nat.reduceAdd, Nat.reduceLeDiff, Int.reduceLT, Int.reduceLE, Int.reduceEq, reduceIte, c1, c2, c3, c4, bin_rem16, c5]
    refine sat_next (sat_condK ?_)
    simp only [ss, hps, Nat.reduceEqDiff, Nat.reduceLT, Nat.reduceAdd, Nat.reduceLeDiff, Int.reduceLT, Int.reduceLE, Int.reduceEq, reduceIte]
    exact ⟨rfl, no (fun hh => c5 hh.1.2.2.2.2.1) (by simp only [ss, hps, Nat.reduceEqDiff, Nat.reduceLT, Nat.reduceAdd, Nat.reduceLeDiff, Int.reduceLT, Int.reduceLE, Int.reduceEq, reduceIte]), rfl⟩
  by_cases c6 : 16384 < f.rets.length
  · simp only [ss, hps, Nat.reduceEqDiff, Nat.reduceLT, Nat.reduceAdd, Nat.reduceLeDiff, Int.reduceLT, Int.reduceLE, Int.reduceEq, reduceIte, c1, c2, c3, c4, bin_rem16, c5, lr, e6, c6]
    refine sat_next (sat_condK ?_)
    simp only [ss, hps, Nat.reduceEqDiff, Nat.reduceLT, Nat.reduceAdd, Nat.reduceLeDiff, Int.reduceLT, Int.reduceLE, Int.reduceEq, reduceIte]
    exact ⟨rfl, no (fun hh => by have := hh.1.2.2.2.2.2; omega) (by simp only [ss, hps, Nat.reduceEqDiff, Nat.reduceLT, Nat.reduceAdd, Nat.reduceLeDiff, Int.reduceLT, Int.reduceLE, Int.reduceEq, reduceIte]), rfl⟩
  simp only [ss, hps, Nat.reduceEqDiff, Nat.reduceLT, Nat.reduceAdd, Nat.reduceLeDiff, Int.reduceLT, Int.reduceLE, Int.reduceEq, reduceIte, c1, c2, c3, c4, bin_rem16, c5, lr, e6, c6]
  have hd : 0 ≤ f.vars ∧ f.vars ≤ 16384 ∧ 0 ≤ f.frame ∧ f.frame ≤ 8192 ∧ f.frame.tmod 16 = 0 ∧ f.rets.length ≤ 16384 := ⟨by omega, by omega, by omega, by omega, c5, by omega⟩
  refine sat_next (sat_condK ?_)
  simp only [ss, hps, Nat.reduceEqDiff, Nat.reduceLT, Nat.reduceAdd, Nat.reduceLeDiff, Int.reduceLT, Int.reduceLE, Int.reduceEq, reduceIte]
  refine sat_next (sat_seq (sat_seq ?_))
  simp only [ss, hps, Nat.reduceEqDiff, Nat.reduceLT, Nat.reduceAdd, Nat.reduceLeDiff, Int.reduceLT, Int.reduceLE, Int.reduceEq, reduceIte]
  refine sat_next (sat_block (sat_loop (fun m e h' => ∃ i, i + m = f.params.length ∧ e.get 9 = some (.int .i64 i) ∧ (∀ j x, j < i → f.params[j]? = some x → 0 ≤ x ∧ x < f.vars ∧ ∀ n y, n < j → f.params[n]? = some y → y ≠ x) ∧ h' = h) f.params.length (by omega) ?_ ?_))
  · refine ⟨0, by omega, ?_, fun j x hj => by omega, rfl⟩
    simp [get_put, puto_some]
  · rintro m e h' ⟨i, hi, h9, hgood, rfl⟩ hf
    have h0 := hf 0 rfl
    have h1 := hf 1 rfl
    simp only [ss, hps, Nat.reduceEqDiff, Nat.reduceLT, Nat.reduceAdd, Nat.reduceLeDiff, Int.reduceLT, Int.reduceLE, Int.reduceEq, reduceIte, get_put, puto_some] at h0 h1
    clear hf
    refine sat_seq (sat_seq ?_)
    simp only [ss, hps, Nat.reduceEqDiff, Nat.reduceLT, Nat.reduceAdd, Nat.reduceLeDiff, Int.reduceLT, Int.reduceLE, Int.reduceEq, reduceIte, h9, h1, lp]
    refine sat_next (sat_condK ?_)
    simp only [ss, hps, Nat.reduceEqDiff, Nat.reduceLT, Nat.reduceAdd, Nat.reduceLeDiff, Int.reduceLT, Int.reduceLE, Int.reduceEq, reduceIte]
    refine sat_condD (fun hlt => ?_) (fun hge => ?_)
    · have hlt : i < f.params.length := by omega
      obtain ⟨x, hx⟩ := get_len hlt
      obtain ⟨rest, hia⟩ := decInts_at hp hx
      refine sat_skip (sat_seq (sat_block (sat_seq (sat_seq ?_))))
      by_cases d1 : x < 0
      · simp only [ss, hps, Nat.reduceEqDiff, Nat.reduceLT, Nat.reduceAdd, Nat.reduceLeDiff, Int.reduceLT, Int.reduceLE, Int.reduceEq, reduceIte, h9, h1, hia, d1]
        refine sat_next (sat_condK ?_)
        simp only [ss, hps, Nat.reduceEqDiff, Nat.reduceLT, Nat.reduceAdd, Nat.reduceLeDiff, Int.reduceLT, Int.reduceLE, Int.reduceEq, reduceIte]
        refine fun _ => ⟨rfl, no (fun hh => by have := hh.2.1 x (mem_of_get hx); omega) ?_, rfl⟩
        simp only [ss, hps, Nat.reduceEqDiff, Nat.reduceLT, Nat.reduceAdd, Nat.reduceLeDiff, Int.reduceLT, Int.reduceLE, Int.reduceEq, reduceIte]
      by_cases d2 : f.vars ≤ x
      · simp only [ss, hps, Nat.reduceEqDiff, Nat.reduceLT, Nat.reduceAdd, Nat.reduceLeDiff, Int.reduceLT, Int.reduceLE, Int.reduceEq, reduceIte, h9, h1, h0, hia, d1, d2]
        refine sat_next (sat_condK ?_)
        simp only [ss, hps, Nat.reduceEqDiff, Nat.reduceLT, Nat.reduceAdd, Nat.reduceLeDiff, Int.reduceLT, Int.reduceLE, Int.reduceEq, reduceIte]
        refine fun _ => ⟨rfl, no (fun hh => by have := hh.2.1 x (mem_of_get hx); omega) ?_, rfl⟩
        simp only [ss, hps, Nat.reduceEqDiff, Nat.reduceLT, Nat.reduceAdd, Nat.reduceLeDiff, Int.reduceLT, Int.reduceLE, Int.reduceEq, reduceIte]
      simp only [ss, hps, Nat.reduceEqDiff, Nat.reduceLT, Nat.reduceAdd, Nat.reduceLeDiff, Int.reduceLT, Int.reduceLE, Int.reduceEq, reduceIte, h9, h1, h0, hia, d1, d2]
      refine sat_next (sat_condK ?_)
      simp only [ss, hps, Nat.reduceEqDiff, Nat.reduceLT, Nat.reduceAdd, Nat.reduceLeDiff, Int.reduceLT, Int.reduceLE, Int.reduceEq, reduceIte]
      refine sat_next (sat_seq ?_)
      simp only [ss, hps, Nat.reduceEqDiff, Nat.reduceLT, Nat.reduceAdd, Nat.reduceLeDiff, Int.reduceLT, Int.reduceLE, Int.reduceEq, reduceIte]
      refine sat_next (sat_block (sat_loop (fun m' e' h'' => ∃ n, n + m' = i ∧ e'.get 10 = some (.int .i64 n) ∧ (∀ n' y, n' < n → f.params[n']? = some y → y ≠ x) ∧ h'' = h') i (by omega) ?_ ?_))
      · refine ⟨0, by omega, ?_, fun j x hj => by omega, rfl⟩
        simp [get_put, puto_some]
      · rintro m' e' h'' ⟨n, hn, j10, hne, rfl⟩ hf'
        have j1 := hf' 1 rfl
        have j9 := hf' 9 rfl
        simp only [ss, hps, Nat.reduceEqDiff, Nat.reduceLT, Nat.reduceAdd, Nat.reduceLeDiff, Int.reduceLT, Int.reduceLE, Int.reduceEq, reduceIte, get_put, puto_some, h1, h9] at j1 j9
        clear hf'
        refine sat_seq (sat_seq ?_)
        simp only [ss, hps, Nat.reduceEqDiff, Nat.reduceLT, Nat.reduceAdd, Nat.reduceLeDiff, Int.reduceLT, Int.reduceLE, Int.reduceEq, reduceIte, j10, j9]
        refine sat_next (sat_condK ?_)
        simp only [ss, hps, Nat.reduceEqDiff, Nat.reduceLT, Nat.reduceAdd, Nat.reduceLeDiff, Int.reduceLT, Int.reduceLE, Int.reduceEq, reduceIte]
        refine sat_condD (fun hlt' => ?_) (fun hge' => ?_)
        · have hlt' : n < i := by omega
          obtain ⟨y, hy⟩ := get_len (show n < f.params.length by omega)
          obtain ⟨rest', hia'⟩ := decInts_at hp hy
          refine sat_skip (sat_seq (sat_block (sat_seq ?_)))
          simp only [ss, hps, Nat.reduceEqDiff, Nat.reduceLT, Nat.reduceAdd, Nat.reduceLeDiff, Int.reduceLT, Int.reduceLE, Int.reduceEq, reduceIte, j10, j9, j1, hia, hia']
          refine sat_next (sat_condK ?_)
          simp only [ss, hps, Nat.reduceEqDiff, Nat.reduceLT, Nat.reduceAdd, Nat.reduceLeDiff, Int.reduceLT, Int.reduceLE, Int.reduceEq, reduceIte]
          refine sat_condD (fun heq => ?_) (fun hneq => ?_)
          · simp only [ss, hps, Nat.reduceEqDiff, Nat.reduceLT, Nat.reduceAdd, Nat.reduceLeDiff, Int.reduceLT, Int.reduceLE, Int.reduceEq, reduceIte]
            refine fun _ _ => ⟨rfl, no (fun hh => ?_) ?_, rfl⟩
            rotate_left
            · simp only [ss, hps, Nat.reduceEqDiff, Nat.reduceLT, Nat.reduceAdd, Nat.reduceLeDiff, Int.reduceLT, Int.reduceLE, Int.reduceEq, reduceIte]
            · subst heq
              have hnd := hh.2.2.1
              obtain ⟨a1, a2⟩ := List.getElem?_eq_some_iff.1 hx
              obtain ⟨b1, b2⟩ := List.getElem?_eq_some_iff.1 hy
              exact (List.pairwise_iff_getElem.1 hnd) n i b1 a1 hlt' (b2.trans a2.symm)
          · simp only [ss, hps, Nat.reduceEqDiff, Nat.reduceLT, Nat.reduceAdd, Nat.reduceLeDiff, Int.reduceLT, Int.reduceLE, Int.reduceEq, reduceIte]
            refine sat_blk (sat_next ?_)
            simp only [ss, hps, Nat.reduceEqDiff, Nat.reduceLT, Nat.reduceAdd, Nat.reduceLeDiff, Int.reduceLT, Int.reduceLE, Int.reduceEq, reduceIte, j10]
            refine sat_again (m' - 1) (by omega) ⟨n + 1, by omega, ?_, ?_, rfl⟩
            · simp only [ss, hps, Nat.reduceEqDiff, Nat.reduceLT, Nat.reduceAdd, Nat.reduceLeDiff, Int.reduceLT, Int.reduceLE, Int.reduceEq, reduceIte]
              rw [wrap_i64 (by omega) (by omega)]; simp
            · intro n' y' hn' hy'
              by_cases e1 : n' < n
              · exact hne n' y' e1 hy'
              · have : n' = n := by omega
                subst this; rw [hy] at hy'; cases hy'; exact hneq
        · have hge' : n = i := by omega
          subst hge'
          refine sat_brk fun hf2 => sat_blk (sat_next ?_)
          have i9 := hf2 9 rfl
          simp only [ss, hps, Nat.reduceEqDiff, Nat.reduceLT, Nat.reduceAdd, Nat.reduceLeDiff, Int.reduceLT, Int.reduceLE, Int.reduceEq, reduceIte, get_put, puto_some, h9] at i9
          simp only [ss, hps, Nat.reduceEqDiff, Nat.reduceLT, Nat.reduceAdd, Nat.reduceLeDiff, Int.reduceLT, Int.reduceLE, Int.reduceEq, reduceIte, i9]
          refine sat_again (m - 1) (by omega) ⟨n + 1, by omega, ?_, ?_, rfl⟩
          · simp only [ss, hps, Nat.reduceEqDiff, Nat.reduceLT, Nat.reduceAdd, Nat.reduceLeDiff, Int.reduceLT, Int.reduceLE, Int.reduceEq, reduceIte]
            rw [wrap_i64 (by omega) (by omega)]; simp
          · intro j x' hj hx'
            by_cases e1 : j < n
            · exact hgood j x' e1 hx'
            · have : j = n := by omega
              subst this; rw [hx] at hx'; cases hx'
              exact ⟨by omega, by omega, hne⟩
    · have hge : i = f.params.length := by omega
      subst hge
      have hP : (∀ p ∈ f.params, 0 ≤ p ∧ p < f.vars) ∧ f.params.Nodup := by
        constructor
        · intro q hq
          obtain ⟨j, hj, rfl⟩ := List.getElem_of_mem hq
          have := hgood j f.params[j] hj (by simp [hj])
          exact ⟨this.1, this.2.1⟩
        · refine List.pairwise_iff_getElem.2 fun a b ha hb hab => ?_
          exact (hgood b f.params[b] hb (by simp [hb])).2.2 a f.params[a] hab (by simp [ha])
      refine sat_brk fun hf2 => sat_next (sat_seq (sat_seq ?_))
      have i0 := hf2 0 rfl
      have i2 := hf2 2 rfl
      simp only [ss, hps, Nat.reduceEqDiff, Nat.reduceLT, Nat.reduceAdd, Nat.reduceLeDiff, Int.reduceLT, Int.reduceLE, Int.reduceEq, reduceIte, get_put, puto_some] at i0 i2
      simp only [ss, hps, Nat.reduceEqDiff, Nat.reduceLT, Nat.reduceAdd, Nat.reduceLeDiff, Int.reduceLT, Int.reduceLE, Int.reduceEq, reduceIte]
      refine sat_next (sat_block (sat_loop (fun m' e' h'' => ∃ n, n + m' = f.rets.length ∧ e'.get 11 = some (.int .i64 n) ∧ (∀ j x, j < n → f.rets[j]? = some x → 0 ≤ x ∧ x < f.vars) ∧ h'' = h') f.rets.length (by omega) ?_ ?_))
      · refine ⟨0, by omega, ?_, fun j x hj => by omega, rfl⟩
        simp [get_put, puto_some]
      · rintro m' e' h'' ⟨n, hn, j11, hg2, rfl⟩ hf'
        have j0 := hf' 0 rfl
        have j2 := hf' 2 rfl
        simp only [ss, hps, Nat.reduceEqDiff, Nat.reduceLT, Nat.reduceAdd, Nat.reduceLeDiff, Int.reduceLT, Int.reduceLE, Int.reduceEq, reduceIte, get_put, puto_some, i0, i2] at j0 j2
        clear hf'
        refine sat_seq (sat_seq ?_)
        simp only [ss, hps, Nat.reduceEqDiff, Nat.reduceLT, Nat.reduceAdd, Nat.reduceLeDiff, Int.reduceLT, Int.reduceLE, Int.reduceEq, reduceIte, j11, j2, lr]
        refine sat_next (sat_condK ?_)
        simp only [ss, hps, Nat.reduceEqDiff, Nat.reduceLT, Nat.reduceAdd, Nat.reduceLeDiff, Int.reduceLT, Int.reduceLE, Int.reduceEq, reduceIte]
        refine sat_condD (fun hlt' => ?_) (fun hge' => ?_)
        · have hlt' : n < f.rets.length := by omega
          obtain ⟨x, hx⟩ := get_len hlt'
          obtain ⟨rest, hia⟩ := decInts_at hr hx
          refine sat_skip (sat_seq (sat_block (sat_seq ?_)))
          by_cases d1 : x < 0
          · simp only [ss, hps, Nat.reduceEqDiff, Nat.reduceLT, Nat.reduceAdd, Nat.reduceLeDiff, Int.reduceLT, Int.reduceLE, Int.reduceEq, reduceIte, j11, j2, hia, d1]
            refine sat_next (sat_condK ?_)
            simp only [ss, hps, Nat.reduceEqDiff, Nat.reduceLT, Nat.reduceAdd, Nat.reduceLeDiff, Int.reduceLT, Int.reduceLE, Int.reduceEq, reduceIte]
            refine fun _ => ⟨rfl, no (fun hh => by have := hh.2.2.2 x (mem_of_get hx); omega) ?_, rfl⟩
            simp only [ss, hps, Nat.reduceEqDiff, Nat.reduceLT, Nat.reduceAdd, Nat.reduceLeDiff, Int.reduceLT, Int.reduceLE, Int.reduceEq, reduceIte]
          by_cases d2 : f.vars ≤ x
          · simp only [ss, hps, Nat.reduceEqDiff, Nat.reduceLT, Nat.reduceAdd, Nat.reduceLeDiff, Int.reduceLT, Int.reduceLE, Int.reduceEq, reduceIte, j11, j2, j0, hia, d1, d2]
            refine sat_next (sat_condK ?_)
            simp only [ss, hps, Nat.reduceEqDiff, Nat.reduceLT, Nat.reduceAdd, Nat.reduceLeDiff, Int.reduceLT, Int.reduceLE, Int.reduceEq, reduceIte]
            refine fun _ => ⟨rfl, no (fun hh => by have := hh.2.2.2 x (mem_of_get hx); omega) ?_, rfl⟩
            simp only [ss, hps, Nat.reduceEqDiff, Nat.reduceLT, Nat.reduceAdd, Nat.reduceLeDiff, Int.reduceLT, Int.reduceLE, Int.reduceEq, reduceIte]
          simp only [ss, hps, Nat.reduceEqDiff, Nat.reduceLT, Nat.reduceAdd, Nat.reduceLeDiff, Int.reduceLT, Int.reduceLE, Int.reduceEq, reduceIte, j11, j2, j0, hia, d1, d2]
          refine sat_next (sat_condK ?_)
          simp only [ss, hps, Nat.reduceEqDiff, Nat.reduceLT, Nat.reduceAdd, Nat.reduceLeDiff, Int.reduceLT, Int.reduceLE, Int.reduceEq, reduceIte]
          refine sat_blk (sat_next ?_)
          simp only [ss, hps, Nat.reduceEqDiff, Nat.reduceLT, Nat.reduceAdd, Nat.reduceLeDiff, Int.reduceLT, Int.reduceLE, Int.reduceEq, reduceIte, j11]
          refine sat_again (m' - 1) (by omega) ⟨n + 1, by omega, ?_, ?_, rfl⟩
          · simp only [ss, hps, Nat.reduceEqDiff, Nat.reduceLT, Nat.reduceAdd, Nat.reduceLeDiff, Int.reduceLT, Int.reduceLE, Int.reduceEq, reduceIte]
            rw [wrap_i64 (by omega) (by omega)]; simp
          · intro j x' hj hx'
            by_cases e1 : j < n
            · exact hg2 j x' e1 hx'
            · have : j = n := by omega
              subst this; rw [hx] at hx'; cases hx'
              exact ⟨by omega, by omega⟩
        · have hge' : n = f.rets.length := by omega
          subst hge'
          refine sat_brk fun hf3 => sat_next (sat_seq ?_)
          simp only [ss, hps, Nat.reduceEqDiff, Nat.reduceLT, Nat.reduceAdd, Nat.reduceLeDiff, Int.reduceLT, Int.reduceLE, Int.reduceEq, reduceIte]
          refine sat_next (sat_ret ⟨rfl, yes ⟨hd, hP.1, hP.2, fun q hq => ?_⟩ ?_, rfl⟩)
          rotate_left
          · simp only [ss, hps, Nat.reduceEqDiff, Nat.reduceLT, Nat.reduceAdd, Nat.reduceLeDiff, Int.reduceLT, Int.reduceLE, Int.reduceEq, reduceIte]
          · obtain ⟨j, hj, rfl⟩ := List.getElem_of_mem hq
            exact hg2 j f.rets[j] hj (by simp [hj])
end Go.Proofs.YtadeojgiiapljaaGreat.Im
