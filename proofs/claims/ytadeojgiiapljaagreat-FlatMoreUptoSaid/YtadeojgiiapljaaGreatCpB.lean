/- muffleref02.Same, of leakage that is the same. -/
import Derived.Test.YtadeojgiiapljaaGreatCpA
set_option linter.unusedSimpArgs false
set_option linter.unusedVariables false
namespace Go.Proofs.YtadeojgiiapljaaGreat.Im
open Go
set_option maxHeartbeats 1000000
theorem set_push_2 (h : IHeap) (o o2 o' : IObj) : ((h.push o).push o2).set h.n o' = (h.push o').push o2 := by rw [set_push_old _ _ (by simp), set_push_new]
def SameOk (k : Nat) (A : List IV → M IV) : Prop := ∀ (va vb : IV) (L : List RL) (h : IHeap), deepR L ≤ k → cntR L < 4000000 → LvAt h va L → LvAt h vb L → ∃ h', A [va, vb] h = .ok (.bool true) h' ∧ Grow h h'
theorem eqbool_self (b : Bool) : eqboolV true (.bool b) (.bool b) = some (.bool false) := by simp [eqboolV]
theorem RetIn.grow {h h' : IHeap} {n0 : Nat} {v : IV} {ws : List Int} (a : RetIn h n0 v ws) (g : Grow h h') : RetIn h' n0 v ws := a.mono (Nat.le_refl _) fun b _ hlt _ => g.2 b hlt
theorem SubsAt.grow {h h' : IHeap} {v : IV} {subs : List (List RL)} (a : SubsAt h v subs) (g : Grow h h') : SubsAt h' v subs := by
  rcases a with h1 | ⟨sb, u, s, e, e2, h3, h4, h5⟩
  · exact .inl h1
  · exact .inr ⟨sb, u, s, e, e2, g.get h3, h4, h5.grow g⟩
theorem b11 {k : Nat} {A : List IV → M IV} (hA : SameOk k A) {va vb : IV} {L : List RL} {h : IHeap} (hd : deepR L ≤ k + 1) (hcn : cntR L < 4000000) (ha : LvAt h va L) (hb : LvAt h vb L) :
    (ix (ocons 11 A onil) 4000010 ic11.body (startI 0 [va, vb]) h).sat (fun y e h' => y = .ret ∧ e.get 4 = some (.bool true) ∧ Grow h h') (fun _ _ _ => False) := by
  have la := ha.len
  have lb := hb.len
  have o11 : (ocons 11 A onil) 11 = A := rfl
  have hll := cntR_len L
  unfold ic11
  simp only [start_cons, start_nil]
  refine sat_seq ?_
  simp only [ss, hps, Nat.reduceEqDiff, Nat.reduceLT, Nat.reduceAdd, Nat.reduceLeDiff, Int.reduceLT, Int.reduceLE, Int.reduceEq, reduceIte]
  refine sat_next (sat_seq (sat_seq ?_))
  simp only [ss, hps, Nat.reduceEqDiff, Nat.reduceLT, Nat.reduceAdd, Nat.reduceLeDiff, Int.reduceLT, Int.reduceLE, Int.reduceEq, reduceIte, la, lb]
  refine sat_next (sat_condK ?_)
  simp only [ss, hps, Nat.reduceEqDiff, Nat.reduceLT, Nat.reduceAdd, Nat.reduceLeDiff, Int.reduceLT, Int.reduceLE, Int.reduceEq, reduceIte]
  refine sat_next (sat_seq (sat_seq ?_))
  simp only [ss, hps, Nat.reduceEqDiff, Nat.reduceLT, Nat.reduceAdd, Nat.reduceLeDiff, Int.reduceLT, Int.reduceLE, Int.reduceEq, reduceIte]
  refine sat_next (sat_block (sat_loop (fun m e h' => ∃ i, i + m = L.length ∧ e.get 5 = some (.int .i64 i) ∧ Grow h h') L.length (by omega) ?_ ?_))
  · exact ⟨0, by omega, by simp only [ss, hps, Nat.reduceEqDiff, Nat.reduceLT, Nat.reduceAdd, Nat.reduceLeDiff, Int.reduceLT, Int.reduceLE, Int.reduceEq, reduceIte]; rfl, Grow.refl h⟩
  · rintro m e h' ⟨i, hi, h5, g⟩ hf
    have h0 := hf 0 rfl
    have h1 := hf 1 rfl
    simp only [ss, hps, Nat.reduceEqDiff, Nat.reduceLT, Nat.reduceAdd, Nat.reduceLeDiff, Int.reduceLT, Int.reduceLE, Int.reduceEq, reduceIte, get_put, puto_some] at h0 h1
    clear hf
    refine sat_seq (sat_seq ?_)
    simp only [ss, hps, Nat.reduceEqDiff, Nat.reduceLT, Nat.reduceAdd, Nat.reduceLeDiff, Int.reduceLT, Int.reduceLE, Int.reduceEq, reduceIte, h5, h0, la]
    refine sat_next (sat_condK ?_)
    simp only [ss, hps, Nat.reduceEqDiff, Nat.reduceLT, Nat.reduceAdd, Nat.reduceLeDiff, Int.reduceLT, Int.reduceLE, Int.reduceEq, reduceIte]
    refine sat_condD (fun hlt => ?_) (fun hge => ?_)
    · have hlt : i < L.length := by omega
      obtain ⟨x, hx⟩ := get_len hlt
      obtain ⟨b1, c1, c3, e1, l1, _, _, _, _, el1⟩ := (ha.grow g).at_ hx
      obtain ⟨b2, d1, d3, e2, l2, _, _, _, _, el2⟩ := (hb.grow g).at_ hx
      rw [loadN_ptr] at l1 l2
      have w3 : IntKind.i64.wrap ((i : Int) + 1) = ((i + 1 : Nat) : Int) := by rw [wrap_i64 (by omega) (by omega)]; simp
      have oc1 := el1.its.one
      have oc3 := el1.subs.one
      have od1 := el2.its.one
      have od3 := el2.subs.one
      have lc1 := el1.its.len
      have ld1 := el2.its.len
      have lc3 := el1.subs.len
      have ld3 := el2.subs.len
      have eb := eqbool_self x.tk
      have lt1 : ∀ (o : IObj), (((h'.push o).get b1).bind fun o => rowN o (i * 4) 4) = some [.int .i64 x.k, c1, .bool x.tk, c3] := fun o => by
        cases hg : h'.get b1 with
        | none => rw [hg] at l1; cases l1
        | some ob => rw [get_push_old (get_lt hg)]; exact l1
      have lt2 : ∀ (o : IObj), (((h'.push o).get b2).bind fun o => rowN o (i * 4) 4) = some [.int .i64 x.k, d1, .bool x.tk, d3] := fun o => by
        cases hg : h'.get b2 with
        | none => rw [hg] at l2; cases l2
        | some ob => rw [get_push_old (get_lt hg)]; exact l2
      have lt2' : ∀ (o o' : IObj), ((((h'.push o).push o').get b2).bind fun o => rowN o (i * 4) 4) = some [.int .i64 x.k, d1, .bool x.tk, d3] := fun o o' => by
        cases hg : h'.get b2 with
        | none => rw [hg] at l2; cases l2
        | some ob => rw [get_push_old (by have := get_lt hg; simp; omega), get_push_old (get_lt hg)]; exact l2
      have b1n : (b1 = h'.n) = False := eq_false (by cases hg : h'.get b1 with
        | none => rw [hg] at l1; cases l1
        | some ob => have := get_lt hg; omega)
      have b2n : (b2 = h'.n) = False := eq_false (by cases hg : h'.get b2 with
        | none => rw [hg] at l2; cases l2
        | some ob => have := get_lt hg; omega)
      have b1n1 : (b1 = h'.n + 1) = False := eq_false (by cases hg : h'.get b1 with
        | none => rw [hg] at l1; cases l1
        | some ob => have := get_lt hg; omega)
      have b2n1 : (b2 = h'.n + 1) = False := eq_false (by cases hg : h'.get b2 with
        | none => rw [hg] at l2; cases l2
        | some ob => have := get_lt hg; omega)
      refine sat_skip (sat_seq (sat_block (sat_seq ?_)))
      simp only [ss, hps, Nat.reduceEqDiff, Nat.reduceLT, Nat.reduceAdd, Nat.reduceLeDiff, Int.reduceLT, Int.reduceLE, Int.reduceEq, reduceIte, ds, h0, h1, h5, e1, e2, l1, l2, b1n, b2n, b1n1, b2n1, setCells, set_push_at, set_push_2, oc1, oc3, od1, od3]
      have hX : ((h'.push (.row [.int .i64 x.k, c1, .bool x.tk, c3])).push (.row [.int .i64 x.k, d1, .bool x.tk, d3])).get h'.n = some (.row [.int .i64 x.k, c1, .bool x.tk, c3]) := by simp [get_push_eq]
      have hY : ((h'.push (.row [.int .i64 x.k, c1, .bool x.tk, c3])).push (.row [.int .i64 x.k, d1, .bool x.tk, d3])).get (h'.n + 1) = some (.row [.int .i64 x.k, d1, .bool x.tk, d3]) := by simp [get_push_eq]
      have gH : Grow h' ((h'.push (.row [.int .i64 x.k, c1, .bool x.tk, c3])).push (.row [.int .i64 x.k, d1, .bool x.tk, d3])) := (Grow.push _ _).trans (Grow.push _ _)
      generalize (h'.push (.row [.int .i64 x.k, c1, .bool x.tk, c3])).push (.row [.int .i64 x.k, d1, .bool x.tk, d3]) = H2 at *
      refine sat_next (sat_seq (sat_seq ?_))
      simp only [ss, hps, Nat.reduceEqDiff, Nat.reduceLT, Nat.reduceAdd, Nat.reduceLeDiff, Int.reduceLT, Int.reduceLE, Int.reduceEq, reduceIte, hX, hY, eb, lc1, ld1, lc3, ld3]
      refine sat_next (sat_condK ?_)
      simp only [ss, hps, Nat.reduceEqDiff, Nat.reduceLT, Nat.reduceAdd, Nat.reduceLeDiff, Int.reduceLT, Int.reduceLE, Int.reduceEq, reduceIte]
      refine sat_next (sat_seq (sat_seq ?_))
      simp only [ss, hps, Nat.reduceEqDiff, Nat.reduceLT, Nat.reduceAdd, Nat.reduceLeDiff, Int.reduceLT, Int.reduceLE, Int.reduceEq, reduceIte]
      refine sat_next (sat_block (sat_loop (fun m e h'' => ∃ j, j + m = x.its.length ∧ e.get 8 = some (.int .i64 j) ∧ h'' = H2) x.its.length (by have := x.its_len; omega) ?_ ?_))
      · exact ⟨0, by omega, by simp only [ss, hps, Nat.reduceEqDiff, Nat.reduceLT, Nat.reduceAdd, Nat.reduceLeDiff, Int.reduceLT, Int.reduceLE, Int.reduceEq, reduceIte]; rfl, rfl⟩
      · rintro m1 e1' h1' ⟨j, hj, z8, rfl⟩ hf1
        have z6 := hf1 6 rfl
        have z7 := hf1 7 rfl
        simp only [ss, hps, Nat.reduceEqDiff, Nat.reduceLT, Nat.reduceAdd, Nat.reduceLeDiff, Int.reduceLT, Int.reduceLE, Int.reduceEq, reduceIte, get_put, puto_some] at z6 z7
        refine sat_seq (sat_seq ?_)
        simp only [ss, hps, Nat.reduceEqDiff, Nat.reduceLT, Nat.reduceAdd, Nat.reduceLeDiff, Int.reduceLT, Int.reduceLE, Int.reduceEq, reduceIte, z8, z6, hX, lc1]
        refine sat_next (sat_condK ?_)
        simp only [ss, hps, Nat.reduceEqDiff, Nat.reduceLT, Nat.reduceAdd, Nat.reduceLeDiff, Int.reduceLT, Int.reduceLE, Int.reduceEq, reduceIte]
        refine sat_condD (fun hlt1 => ?_) (fun hge1 => ?_)
        · have hlt1 : j < x.its.length := by omega
          obtain ⟨w, hw⟩ := get_len hlt1
          obtain ⟨q1, f1, m1'⟩ := (el1.its.grow gH).at_ hw
          obtain ⟨q2, f2, m2'⟩ := (el2.its.grow gH).at_ hw
          rw [load1_ptr] at m1' m2'
          have hil := x.its_len
          have w4 : IntKind.i64.wrap ((j : Int) + 1) = ((j + 1 : Nat) : Int) := by rw [wrap_i64 (by omega) (by omega)]; simp
          refine sat_skip (sat_seq (sat_block (sat_seq ?_)))
          simp only [ss, hps, Nat.reduceEqDiff, Nat.reduceLT, Nat.reduceAdd, Nat.reduceLeDiff, Int.reduceLT, Int.reduceLE, Int.reduceEq, reduceIte, ds, z6, z7, z8, hX, hY, f1, f2, m1', m2']
          refine sat_next (sat_condK ?_)
          simp only [ss, hps, Nat.reduceEqDiff, Nat.reduceLT, Nat.reduceAdd, Nat.reduceLeDiff, Int.reduceLT, Int.reduceLE, Int.reduceEq, reduceIte]
          refine sat_blk (sat_next ?_)
          simp only [ss, hps, Nat.reduceEqDiff, Nat.reduceLT, Nat.reduceAdd, Nat.reduceLeDiff, Int.reduceLT, Int.reduceLE, Int.reduceEq, reduceIte, z8, w4]
          exact sat_again (m1 - 1) (by omega) ⟨j + 1, by omega, by simp only [ss, hps, Nat.reduceEqDiff, Nat.reduceLT, Nat.reduceAdd, Nat.reduceLeDiff, Int.reduceLT, Int.reduceLE, Int.reduceEq, reduceIte], rfl⟩
        · refine sat_brk fun hf2 => sat_next (sat_seq ?_)
          have i5 := hf2 5 rfl
          have i0 := hf2 0 rfl
          have i1 := hf2 1 rfl
          simp only [ss, hps, Nat.reduceEqDiff, Nat.reduceLT, Nat.reduceAdd, Nat.reduceLeDiff, Int.reduceLT, Int.reduceLE, Int.reduceEq, reduceIte, get_put, puto_some, h0, h1, h5] at i5 i0 i1
          simp only [ss, hps, Nat.reduceEqDiff, Nat.reduceLT, Nat.reduceAdd, Nat.reduceLeDiff, Int.reduceLT, Int.reduceLE, Int.reduceEq, reduceIte]
          refine sat_next (sat_block (sat_loop (fun m e h'' => ∃ j, j + m = x.subs.length ∧ e.get 9 = some (.int .i64 j) ∧ Grow h1' h'') x.subs.length (by have := x.subs_len; omega) ?_ ?_))
          · exact ⟨0, by omega, by simp only [ss, hps, Nat.reduceEqDiff, Nat.reduceLT, Nat.reduceAdd, Nat.reduceLeDiff, Int.reduceLT, Int.reduceLE, Int.reduceEq, reduceIte]; rfl, Grow.refl _⟩
          · rintro m2 e2' h2' ⟨j2, hj2, y9, g2⟩ hf3
            have y6 := hf3 6 rfl
            have y7 := hf3 7 rfl
            simp only [ss, hps, Nat.reduceEqDiff, Nat.reduceLT, Nat.reduceAdd, Nat.reduceLeDiff, Int.reduceLT, Int.reduceLE, Int.reduceEq, reduceIte, get_put, puto_some, z6, z7] at y6 y7
            have hX2 := g2.get hX
            have hY2 := g2.get hY
            refine sat_seq (sat_seq ?_)
            simp only [ss, hps, Nat.reduceEqDiff, Nat.reduceLT, Nat.reduceAdd, Nat.reduceLeDiff, Int.reduceLT, Int.reduceLE, Int.reduceEq, reduceIte, y9, y6, hX2, lc3]
            refine sat_next (sat_condK ?_)
            simp only [ss, hps, Nat.reduceEqDiff, Nat.reduceLT, Nat.reduceAdd, Nat.reduceLeDiff, Int.reduceLT, Int.reduceLE, Int.reduceEq, reduceIte]
            refine sat_condD (fun hlt2 => ?_) (fun hge2 => ?_)
            · have hlt2 : j2 < x.subs.length := by omega
              obtain ⟨w, hw⟩ := get_len hlt2
              obtain ⟨q1, u1, f1, m1', v1⟩ := ((el1.subs.grow gH).grow g2).at_ hw
              obtain ⟨q2, u2, f2, m2', v2⟩ := ((el2.subs.grow gH).grow g2).at_ hw
              rw [load1_ptr] at m1' m2'
              have hsl := x.subs_len
              have w4 : IntKind.i64.wrap ((j2 : Int) + 1) = ((j2 + 1 : Nat) : Int) := by rw [wrap_i64 (by omega) (by omega)]; simp
              obtain ⟨h3, r3, g3⟩ := hA u1 u2 w h2' (by have := RL.deep_subs hw; have := deepR_mem hx; omega) (by have := RL.cnt_subs hw; have := cntR_mem hx; omega) v1 v2
              refine sat_skip (sat_seq (sat_block (sat_seq ?_)))
              simp only [ss, hps, Nat.reduceEqDiff, Nat.reduceLT, Nat.reduceAdd, Nat.reduceLeDiff, Int.reduceLT, Int.reduceLE, Int.reduceEq, reduceIte, ds, y6, y7, y9, hX2, hY2, f1, f2, m1', m2', o11, r3]
              refine sat_next (sat_condK ?_)
              simp only [ss, hps, Nat.reduceEqDiff, Nat.reduceLT, Nat.reduceAdd, Nat.reduceLeDiff, Int.reduceLT, Int.reduceLE, Int.reduceEq, reduceIte]
              refine sat_blk (sat_next ?_)
              simp only [ss, hps, Nat.reduceEqDiff, Nat.reduceLT, Nat.reduceAdd, Nat.reduceLeDiff, Int.reduceLT, Int.reduceLE, Int.reduceEq, reduceIte, y9, w4]
              exact sat_again (m2 - 1) (by omega) ⟨j2 + 1, by omega, by simp only [ss, hps, Nat.reduceEqDiff, Nat.reduceLT, Nat.reduceAdd, Nat.reduceLeDiff, Int.reduceLT, Int.reduceLE, Int.reduceEq, reduceIte], g2.trans g3⟩
            · refine sat_brk fun hf4 => sat_blk (sat_next ?_)
              have k5 := hf4 5 rfl
              simp only [ss, hps, Nat.reduceEqDiff, Nat.reduceLT, Nat.reduceAdd, Nat.reduceLeDiff, Int.reduceLT, Int.reduceLE, Int.reduceEq, reduceIte, get_put, puto_some, i5] at k5
              simp only [ss, hps, Nat.reduceEqDiff, Nat.reduceLT, Nat.reduceAdd, Nat.reduceLeDiff, Int.reduceLT, Int.reduceLE, Int.reduceEq, reduceIte, k5, w3]
              exact sat_again (m - 1) (by omega) ⟨i + 1, by omega, by simp only [ss, hps, Nat.reduceEqDiff, Nat.reduceLT, Nat.reduceAdd, Nat.reduceLeDiff, Int.reduceLT, Int.reduceLE, Int.reduceEq, reduceIte], (g.trans gH).trans g2⟩
    · refine sat_brk fun hf2 => sat_next (sat_seq ?_)
      simp only [ss, hps, Nat.reduceEqDiff, Nat.reduceLT, Nat.reduceAdd, Nat.reduceLeDiff, Int.reduceLT, Int.reduceLE, Int.reduceEq, reduceIte]
      exact sat_next (sat_ret ⟨rfl, by simp only [ss, hps, Nat.reduceEqDiff, Nat.reduceLT, Nat.reduceAdd, Nat.reduceLeDiff, Int.reduceLT, Int.reduceLE, Int.reduceEq, reduceIte], g⟩)
def G11 : Nat → List IV → M IV
  | 0 => bodyI T0 (ocons 11 (fun _ _ => .fail) onil) 4000010 ic11
  | k + 1 => bodyI T0 (ocons 11 (G11 k) onil) 4000010 ic11
theorem s11 : ∀ k, Sim Tryz.prog 11 (G11 k)
  | 0 => body_sim (ocons_sim (Sim.fail 11) onil_sim) cc11 4000010
  | k + 1 => body_sim (ocons_sim (s11 k) onil_sim) cc11 4000010
theorem RL.deep_pos (x : RL) : 1 ≤ x.deep := by cases x <;> simp [RL.deep]
theorem deepR_nil {L : List RL} (h : deepR L ≤ 0) : L = [] := by
  cases L with
  | nil => rfl
  | cons x xs => have := x.deep_pos; simp [deepR] at h; omega
theorem sameOk0 : SameOk 0 (G11 0) := fun va vb L h hd hc ha hb => by
  have e := deepR_nil hd
  subst e
  have la := ha.len
  have lb := hb.len
  have hb' : (ix (ocons 11 (fun _ _ => .fail) onil) 4000010 ic11.body (startI 0 [va, vb]) h).sat (fun y e h' => y = .ret ∧ e.get 4 = some (.bool true) ∧ Grow h h') (fun _ _ _ => False) := by
    unfold ic11
    simp only [start_cons, start_nil]
    refine sat_seq ?_
    simp only [ss, hps, Nat.reduceEqDiff, Nat.reduceLT, Nat.reduceAdd, Nat.reduceLeDiff, Int.reduceLT, Int.reduceLE, Int.reduceEq, reduceIte]
    refine sat_next (sat_seq (sat_seq ?_))
    simp only [ss, hps, Nat.reduceEqDiff, Nat.reduceLT, Nat.reduceAdd, Nat.reduceLeDiff, Int.reduceLT, Int.reduceLE, Int.reduceEq, reduceIte, la, lb]
    refine sat_next (sat_condK ?_)
    simp only [ss, hps, Nat.reduceEqDiff, Nat.reduceLT, Nat.reduceAdd, Nat.reduceLeDiff, Int.reduceLT, Int.reduceLE, Int.reduceEq, reduceIte]
    refine sat_next (sat_seq (sat_seq ?_))
    simp only [ss, hps, Nat.reduceEqDiff, Nat.reduceLT, Nat.reduceAdd, Nat.reduceLeDiff, Int.reduceLT, Int.reduceLE, Int.reduceEq, reduceIte]
    refine sat_next (sat_block (sat_loop (fun m e h' => e.get 5 = some (.int .i64 0) ∧ h' = h) 0 (by omega) ?_ ?_))
    · exact ⟨by simp only [ss, hps, Nat.reduceEqDiff, Nat.reduceLT, Nat.reduceAdd, Nat.reduceLeDiff, Int.reduceLT, Int.reduceLE, Int.reduceEq, reduceIte], rfl⟩
    · rintro m e h' ⟨h5, rfl⟩ hf
      have h0 := hf 0 rfl
      simp only [ss, hps, Nat.reduceEqDiff, Nat.reduceLT, Nat.reduceAdd, Nat.reduceLeDiff, Int.reduceLT, Int.reduceLE, Int.reduceEq, reduceIte, get_put, puto_some] at h0
      refine sat_seq (sat_seq ?_)
      have c0 : ((0 : Int) < (([] : List RL).length : Nat)) = False := by simp
      simp only [ss, hps, Nat.reduceEqDiff, Nat.reduceLT, Nat.reduceAdd, Nat.reduceLeDiff, Int.reduceLT, Int.reduceLE, Int.reduceEq, reduceIte, h5, h0, la, c0]
      refine sat_next (sat_condK ?_)
      simp only [ss, hps, Nat.reduceEqDiff, Nat.reduceLT, Nat.reduceAdd, Nat.reduceLeDiff, Int.reduceLT, Int.reduceLE, Int.reduceEq, reduceIte]
      refine sat_brk fun hf2 => sat_next (sat_seq ?_)
      simp only [ss, hps, Nat.reduceEqDiff, Nat.reduceLT, Nat.reduceAdd, Nat.reduceLeDiff, Int.reduceLT, Int.reduceLE, Int.reduceEq, reduceIte]
      exact sat_next (sat_ret ⟨rfl, by simp only [ss, hps, Nat.reduceEqDiff, Nat.reduceLT, Nat.reduceAdd, Nat.reduceLeDiff, Int.reduceLT, Int.reduceLE, Int.reduceEq, reduceIte], Grow.refl _⟩)
  exact rd_done (F := ic11) rfl rfl rfl (by decide) hb' rfl
theorem sameAll : ∀ k, SameOk k (G11 k)
  | 0 => sameOk0
  | k + 1 => fun va vb L h hd hc ha hb => rd_done (F := ic11) rfl rfl rfl (by decide) (b11 (sameAll k) hd hc ha hb) rfl
end Go.Proofs.YtadeojgiiapljaaGreat.Im
