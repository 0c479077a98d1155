/- muffleref02.Flat. -/
import Derived.Test.YtadeojgiiapljaaGreatCpB
set_option linter.unusedSimpArgs false
set_option linter.unusedVariables false
namespace Go.Proofs.YtadeojgiiapljaaGreat.Im
open Go
set_option maxHeartbeats 1000000
/-- What is seen, in memory of its own. -/
def SeenNew (h : IHeap) (n0 : Nat) (v : IV) (sn : List Sn) : Prop := (v = .nils ∧ sn = []) ∨ ∃ b, v = .aslice b 0 sn.length 3 ∧ n0 ≤ b ∧ h.get b = some (.row (snC sn))
theorem SeenNew.seen {h : IHeap} {n0 : Nat} {v : IV} {sn : List Sn} (a : SeenNew h n0 v sn) : SeenIn h v sn := by
  rcases a with h1 | ⟨b, e, _, hb⟩
  · exact .inl h1
  · exact .inr ⟨b, [], e, by rw [List.append_nil]; exact hb⟩
theorem SeenNew.low {h : IHeap} {n0 n1 : Nat} {v : IV} {sn : List Sn} (a : SeenNew h n0 v sn) (hn : n1 ≤ n0) : SeenNew h n1 v sn := by
  rcases a with h1 | ⟨b, e, hb, hg⟩
  · exact .inl h1
  · exact .inr ⟨b, e, by omega, hg⟩
theorem SeenNew.same {h h' : IHeap} {n0 : Nat} {v : IV} {sn : List Sn} (a : SeenNew h n0 v sn) (g : ∀ b, n0 ≤ b → b < h.n → h'.get b = h.get b) : SeenNew h' n0 v sn := by
  rcases a with h1 | ⟨b, e, hb, hg⟩
  · exact .inl h1
  · exact .inr ⟨b, e, hb, (g b hb (get_lt hg)).trans hg⟩
/-- Appending what is seen, elsewhere in memory. -/
theorem seen_app {h : IHeap} {n0 : Nat} {v x : IV} {sn new : List Sn} {xb cap : Nat} (a : SeenNew h n0 v sn) (hn : n0 ≤ h.n) (hl : sn.length + new.length ≤ 4000000) (hx : (x = .nils ∧ new = []) ∨ (∃ sz, (x = .slice xb 0 new.length cap ∨ x = .aslice xb 0 new.length sz) ∧ h.get xb = some (.row (snC new)) ∧ v ≠ .aslice xb 0 sn.length 3)) :
    ∃ v' h', appendI 3 16 v x h = .ok v' h' ∧ SeenNew h' n0 v' (sn ++ new) ∧ (∀ b, b < n0 → h'.get b = h.get b) ∧ h.n ≤ h'.n ∧ (∀ b, b < h.n → (∀ l, v ≠ .aslice b 0 l 3) → h'.get b = h.get b) := by
  have hnil : ∀ (y : IV), sliceLen y = some 0 → sliceCells h y 3 = some [] → appendI 3 16 v y h = .ok v h := by
    intro y h1 h2
    rcases a with ⟨rfl, _⟩ | ⟨b, rfl, _, _⟩ <;> (simp only [appendI, h1, h2]; simp [sliceLen])
  rcases hx with ⟨rfl, rfl⟩ | ⟨sz, hx, hb, hne⟩
  · exact ⟨v, h, hnil .nils rfl rfl, by rw [List.append_nil]; exact a, fun _ _ => rfl, Nat.le_refl _, fun _ _ _ => rfl⟩
  have e1 : Im.loadN h (.ptr xb 0) (new.length * 3) = some (snC new) := by
    rw [loadN_ptr, hb, Option.bind_some, rowN_row, subL_ok (by rw [snC_len]; omega)]
    simp [List.take_of_length_le (Nat.le_of_eq (snC_len new))]
  have hlen : sliceLen x = some new.length := by rcases hx with rfl | rfl <;> rfl
  have hcel : sliceCells h x 3 = some (snC new) := by rcases hx with rfl | rfl <;> simp only [sliceCells] <;> exact e1
  by_cases h0 : new.length = 0
  · have : new = [] := List.eq_nil_of_length_eq_zero h0
    subst this
    exact ⟨v, h, hnil x hlen hcel, by rw [List.append_nil]; exact a, fun _ _ => rfl, Nat.le_refl _, fun _ _ _ => rfl⟩
  have e4 : ¬ (35184372088832 < (sn.length + new.length) * 16) := by omega
  have e5 : ¬ (35184372088832 < sn.length + new.length) := by omega
  have eo := snC_one new
  rcases a with ⟨rfl, rfl⟩ | ⟨b, rfl, hbn, hg⟩
  · refine ⟨.aslice h.n 0 new.length 3, h.push (.row (snC new)), ?_, .inr ⟨h.n, rfl, hn, get_push_new⟩, fun b hb => get_push_old (by omega), by simp, fun b hb _ => get_push_old hb⟩
    simp only [List.length_nil, Nat.zero_add] at e4 e5
    simp only [appendI, hlen, hcel, eo]
    simp [sliceLen, h0, e4, e5]
    exact List.all_eq_true.1 eo
  · have e2 : Im.loadN h (.ptr b 0) (sn.length * 3) = some (snC sn) := by
      rw [loadN_ptr, hg, Option.bind_some, rowN_row, subL_ok (by rw [snC_len]; omega)]
      simp [List.take_of_length_le (Nat.le_of_eq (snC_len sn))]
    refine ⟨.aslice h.n 0 (sn.length + new.length) 3, (h.set b .dead).push (.row (snC sn ++ snC new)), ?_, .inr ⟨h.n, by simp, hn, ?_⟩, fun c hc => ?_, by simp, fun c hc hne' => ?_⟩
    · simp only [appendI, hlen, hcel, eo]
      simp [sliceLen, h0, e2, e4, e5]
      exact List.all_eq_true.1 eo
    · have : (h.set b .dead).n = h.n := rfl
      rw [← this, get_push_new, snC_app]
    · rw [get_push_old (by simp; omega), get_set_ne (by omega)]
    · rw [get_push_old (by simpa using hc), get_set_ne (by rintro rfl; exact hne' _ rfl)]
theorem flat_parts (x : RL) : x.flat = x.its.map (fun a => (⟨false, false, a⟩ : Sn)) ++ (if x.k = 2 then [⟨true, !x.tk, 0⟩] else []) ++ (x.subs.map flatL).flatten := by
  cases x with
  | line it => cases it <;> simp [RL.flat, RL.its, RL.k, RL.subs]
  | node k t sub => by_cases h : k = 2 <;> simp [RL.flat, RL.its, RL.k, RL.tk, RL.subs, h]
mutual
theorem RL.flat_len : ∀ x : RL, x.flat.length ≤ x.cnt
  | .line none => by simp [RL.flat]
  | .line (some a) => by simp [RL.flat, RL.cnt]
  | .node k t sub => by
    have := flatL_len sub
    simp only [RL.flat, RL.cnt, List.length_append]
    split <;> simp <;> omega
theorem flatL_len : ∀ L : List RL, (flatL L).length ≤ cntR L
  | [] => by simp [flatL]
  | x :: xs => by
    have := x.flat_len
    have := flatL_len xs
    simp only [flatL, cntR, List.length_append]; omega
end
theorem flatL_take_succ {L : List RL} {i : Nat} {x : RL} (h : L[i]? = some x) : flatL (L.take (i + 1)) = flatL (L.take i) ++ x.flat := by
  rw [List.take_add_one, h]
  rw [flatL_append]; simp [flatL]
theorem flatL_take_le (L : List RL) (i : Nat) : (flatL (L.take i)).length ≤ (flatL L).length := by
  have : flatL L = flatL (L.take i) ++ flatL (L.drop i) := by rw [← flatL_append, List.take_append_drop]
  rw [this]; simp
theorem seen_one {h : IHeap} {n0 : Nat} {v : IV} {sn : List Sn} (s : Sn) (a : SeenNew h n0 v sn) (hn : n0 ≤ h.n) (hl : sn.length < 3000000) :
    ∃ v' h', appendI 3 16 v (.slice h.n 0 1 1) (h.push (.row [.bool s.jump, .bool s.taken, .int .u64 s.addr])) = .ok v' h' ∧ SeenNew h' n0 v' (sn ++ [s]) ∧ (∀ b, b < n0 → h'.get b = h.get b) ∧ h.n ≤ h'.n := by
  have a' : SeenNew (h.push (.row [.bool s.jump, .bool s.taken, .int .u64 s.addr])) n0 v sn := a.same fun b _ hlt => get_push_old hlt
  have hne : v ≠ .aslice h.n 0 sn.length 3 := by
    rcases a with ⟨rfl, _⟩ | ⟨b, rfl, _, hg⟩
    · simp
    · intro he
      have := get_lt hg
      injection he with e1
      omega
  obtain ⟨v', h', e1, e2, e3, e4, _⟩ := seen_app (new := [s]) (xb := h.n) (cap := 1) a' (by simp; omega) (by simp; omega) (.inr ⟨0, .inl rfl, by rw [get_push_new]; rfl, hne⟩)
  exact ⟨v', h', e1, e2, fun b hb => by rw [e3 b hb, get_push_old (by omega)], by have := e4; simp at this; omega⟩
def FlatOk (k : Nat) (A : List IV → M IV) : Prop := ∀ (va : IV) (L : List RL) (h : IHeap), deepR L < k → cntR L < 1000000 → LvAt h va L → ∃ v h', A [va] h = .ok v h' ∧ SeenNew h' h.n v (flatL L) ∧ Grow h h'
def R12 : IC := match ic12.body with
  | .seq _ (.seq _ (.seq (.seq _ (.block _ (.loop (.seq _ (.seq (.block _ (.seq _ (.seq _ r))) _))))) _)) => r
  | _ => .skip
theorem subs12 {k : Nat} {A : List IV → M IV} (hA : FlatOk k A) {va : IV} {L : List RL} {h : IHeap} (hd : deepR L ≤ k) (hcn : cntR L < 1000000) (ha : LvAt h va L) {i : Nat} {x : RL} (hx : L[i]? = some x) {e : Env} {h9 : IHeap} {v9 : IV} {sn : List Sn}
    (z0 : e.get 0 = some va) (z4 : e.get 4 = some (.int .i64 i)) (z3 : e.get 3 = some v9) (hs : SeenNew h9 h.n v9 sn) (g : Grow h h9) (hsl : sn.length ≤ 2000000) :
    (ix (ocons 12 A onil) 4000010 R12 e h9).sat (fun y e' h' => y = .normal ∧ ∃ v, e'.get 3 = some v ∧ SeenNew h' h.n v (sn ++ (x.subs.map flatL).flatten) ∧ Grow h h') (fun _ _ _ => False) := by
  have o12 : (ocons 12 A onil) 12 = A := rfl
  unfold R12 ic12
  refine sat_seq ?_
  simp only [ss, hps, Nat.reduceEqDiff, Nat.reduceLT, Nat.reduceAdd, Nat.reduceLeDiff, Int.reduceLT, Int.reduceLE, Int.reduceEq, reduceIte]
  refine sat_next (sat_block (sat_loop (fun m e' h' => ∃ j v, j + m = x.subs.length ∧ e'.get 6 = some (.int .i64 j) ∧ e'.get 3 = some v ∧ SeenNew h' h.n v (sn ++ ((x.subs.take j).map flatL).flatten) ∧ Grow h h') x.subs.length (by have := x.subs_len; omega) ?_ ?_))
  · exact ⟨0, v9, by omega, by simp only [ss, hps, Nat.reduceEqDiff, Nat.reduceLT, Nat.reduceAdd, Nat.reduceLeDiff, Int.reduceLT, Int.reduceLE, Int.reduceEq, reduceIte]; rfl, by simp only [ss, hps, Nat.reduceEqDiff, Nat.reduceLT, Nat.reduceAdd, Nat.reduceLeDiff, Int.reduceLT, Int.reduceLE, Int.reduceEq, reduceIte, z3], by simpa using hs, g⟩
  · rintro m e1 h1 ⟨j, v1, hj, y6, y3, hs1, g1⟩ hf
    have y0 := hf 0 rfl
    have y4 := hf 4 rfl
    simp only [ss, hps, Nat.reduceEqDiff, Nat.reduceLT, Nat.reduceAdd, Nat.reduceLeDiff, Int.reduceLT, Int.reduceLE, Int.reduceEq, reduceIte, get_put, puto_some, z0, z4] at y0 y4
    clear hf
    have hla := ha.grow g1
    obtain ⟨b, c1, c3, ia, _, l0, l1, l2, l3, el⟩ := hla.at_ hx
    have lc3 := el.subs.len
    rw [load1_ptr] at l3
    refine sat_seq (sat_seq ?_)
    simp only [ss, hps, Nat.reduceEqDiff, Nat.reduceLT, Nat.reduceAdd, Nat.reduceLeDiff, Int.reduceLT, Int.reduceLE, Int.reduceEq, reduceIte, y6, y0, y4, ia, l3, lc3]
    refine sat_next (sat_condK ?_)
    simp only [ss, hps, Nat.reduceEqDiff, Nat.reduceLT, Nat.reduceAdd, Nat.reduceLeDiff, Int.reduceLT, Int.reduceLE, Int.reduceEq, reduceIte]
    have hsl1 := x.subs_len
    refine sat_condD (fun hlt1 => ?_) (fun hge1 => ?_)
    · have hlt1 : j < x.subs.length := by omega
      obtain ⟨w, hw⟩ := get_len hlt1
      obtain ⟨q1, u1, f1, m1', v2⟩ := el.subs.at_ hw
      rw [load1_ptr] at m1'
      have j0 : j = 0 := by omega
      subst j0
      have w4 : IntKind.i64.wrap (((0 : Nat) : Int) + 1) = ((1 : Nat) : Int) := rfl
      have hcs := RL.cnt_subs hw
      have hcm := cntR_mem hx
      obtain ⟨r, h2, r2, hr2, g2⟩ := hA u1 w h1 (by have := RL.deep_subs hw; have := deepR_mem hx; omega) (by omega) v2
      have hfw := flatL_len w
      have hs1' := hs1.same fun c _ hlt => g2.2 c hlt
      have g12 := g1.trans g2
      have happ : ∃ v' h', appendI 3 16 v1 r h2 = .ok v' h' ∧ SeenNew h' h.n v' ((sn ++ ((x.subs.take 0).map flatL).flatten) ++ flatL w) ∧ (∀ b, b < h.n → h'.get b = h2.get b) ∧ h2.n ≤ h'.n := by
        rcases hr2 with ⟨rfl, hn⟩ | ⟨rb, rfl, hrb, hrg⟩
        · obtain ⟨v', h', q1, q2, q3, q4, _⟩ := seen_app (new := flatL w) (x := .nils) (xb := 0) (cap := 0) hs1' g12.1 (by simp; omega) (.inl ⟨rfl, hn⟩)
          exact ⟨v', h', q1, q2, q3, q4⟩
        · have hne : v1 ≠ .aslice rb 0 (sn ++ ((x.subs.take 0).map flatL).flatten).length 3 := by
            rcases hs1 with ⟨rfl, _⟩ | ⟨b', rfl, _, hg⟩
            · simp
            · intro he
              have := get_lt hg
              injection he with e1
              omega
          obtain ⟨v', h', q1, q2, q3, q4, _⟩ := seen_app (new := flatL w) (xb := rb) (cap := 0) hs1' g12.1 (by simp; omega) (.inr ⟨3, .inr rfl, hrg, hne⟩)
          exact ⟨v', h', q1, q2, q3, q4⟩
      obtain ⟨v', h3, ea, hs3, hsm, hn3⟩ := happ
      refine sat_skip (sat_seq (sat_block ?_))
      simp only [ss, hps, Nat.reduceEqDiff, Nat.reduceLT, Nat.reduceAdd, Nat.reduceLeDiff, Int.reduceLT, Int.reduceLE, Int.reduceEq, reduceIte, y3, y0, y4, y6, ia, l3, f1, m1', o12, r2, ea]
      refine sat_blk (sat_next ?_)
      simp only [ss, hps, Nat.reduceEqDiff, Nat.reduceLT, Nat.reduceAdd, Nat.reduceLeDiff, Int.reduceLT, Int.reduceLE, Int.reduceEq, reduceIte, y6, w4]
      refine sat_again (m - 1) (by omega) ⟨1, v', by omega, by simp only [ss, hps, Nat.reduceEqDiff, Nat.reduceLT, Nat.reduceAdd, Nat.reduceLeDiff, Int.reduceLT, Int.reduceLE, Int.reduceEq, reduceIte], by simp only [ss, hps, Nat.reduceEqDiff, Nat.reduceLT, Nat.reduceAdd, Nat.reduceLeDiff, Int.reduceLT, Int.reduceLE, Int.reduceEq, reduceIte], ?_, ⟨by have := g12.1; omega, fun c hc => by rw [hsm c hc, g12.2 c hc]⟩⟩
      have : ((x.subs.take 1).map flatL).flatten = ((x.subs.take 0).map flatL).flatten ++ flatL w := by
        rw [List.take_add_one, hw]; simp
      rw [this, ← List.append_assoc]; exact hs3
    · have hge1 : j = x.subs.length := by omega
      subst hge1
      rw [List.take_length] at hs1
      exact sat_brk (X := fun _ _ _ => False) fun _ => ⟨rfl, v1, by simp only [ss, hps, Nat.reduceEqDiff, Nat.reduceLT, Nat.reduceAdd, Nat.reduceLeDiff, Int.reduceLT, Int.reduceLE, Int.reduceEq, reduceIte, y3], hs1, g1⟩
theorem sat_inc {Q : IExit → Env → IHeap → Prop} {X : IV → Env → IHeap → Prop} {e : Env} {h : IHeap} (hq : (CRes.ok .normal e h).sat Q X) : Q .normal e h := hq
theorem b12 {k : Nat} {A : List IV → M IV} (hA : FlatOk k A) {va : IV} {L : List RL} {h : IHeap} (hd : deepR L ≤ k) (hcn : cntR L < 1000000) (ha : LvAt h va L) :
    (ix (ocons 12 A onil) 4000010 ic12.body (startI 0 [va]) h).sat (fun y e h' => y = .ret ∧ ∃ v, e.get 2 = some v ∧ SeenNew h' h.n v (flatL L) ∧ Grow h h') (fun _ _ _ => False) := by
  have la := ha.len
  have o12 : (ocons 12 A onil) 12 = A := rfl
  have hll := cntR_len L
  have hfl := flatL_len L
  unfold ic12
  simp only [start_cons, start_nil]
  refine sat_seq ?_
  simp only [ss, hps, Nat.reduceEqDiff, Nat.reduceLT, Nat.reduceAdd, Nat.reduceLeDiff, Int.reduceLT, Int.reduceLE, Int.reduceEq, reduceIte]
  refine sat_next (sat_seq ?_)
  simp only [ss, hps, Nat.reduceEqDiff, Nat.reduceLT, Nat.reduceAdd, Nat.reduceLeDiff, Int.reduceLT, Int.reduceLE, Int.reduceEq, reduceIte]
  refine sat_next (sat_seq (sat_seq ?_))
  simp only [ss, hps, Nat.reduceEqDiff, Nat.reduceLT, Nat.reduceAdd, Nat.reduceLeDiff, Int.reduceLT, Int.reduceLE, Int.reduceEq, reduceIte]
  refine sat_next (sat_block (sat_loop (fun m e h' => ∃ i v, i + m = L.length ∧ e.get 4 = some (.int .i64 i) ∧ e.get 3 = some v ∧ SeenNew h' h.n v (flatL (L.take i)) ∧ Grow h h') L.length (by omega) ?_ ?_))
  · exact ⟨0, .nils, by omega, by simp only [ss, hps, Nat.reduceEqDiff, Nat.reduceLT, Nat.reduceAdd, Nat.reduceLeDiff, Int.reduceLT, Int.reduceLE, Int.reduceEq, reduceIte]; rfl, by simp only [ss, hps, Nat.reduceEqDiff, Nat.reduceLT, Nat.reduceAdd, Nat.reduceLeDiff, Int.reduceLT, Int.reduceLE, Int.reduceEq, reduceIte], .inl ⟨rfl, by simp [flatL]⟩, Grow.refl h⟩
  · rintro m e h1 ⟨i, v, hi, h4, h3, hs, g⟩ hf
    have h0 := hf 0 rfl
    simp only [ss, hps, Nat.reduceEqDiff, Nat.reduceLT, Nat.reduceAdd, Nat.reduceLeDiff, Int.reduceLT, Int.reduceLE, Int.reduceEq, reduceIte, get_put, puto_some] at h0
    clear hf
    refine sat_seq (sat_seq ?_)
    simp only [ss, hps, Nat.reduceEqDiff, Nat.reduceLT, Nat.reduceAdd, Nat.reduceLeDiff, Int.reduceLT, Int.reduceLE, Int.reduceEq, reduceIte, h4, h0, la]
    refine sat_next (sat_condK ?_)
    simp only [ss, hps, Nat.reduceEqDiff, Nat.reduceLT, Nat.reduceAdd, Nat.reduceLeDiff, Int.reduceLT, Int.reduceLE, Int.reduceEq, reduceIte]
    refine sat_condD (fun hlt => ?_) (fun hge => ?_)
    · have hlt : i < L.length := by omega
      obtain ⟨x, hx⟩ := get_len hlt
      have hpx := flat_parts x
      have htk := flatL_take_succ hx
      have htl := flatL_take_le L (i + 1)
      have hxl : (flatL (L.take i)).length + x.flat.length ≤ cntR L := by
        have : (flatL (L.take (i + 1))).length = (flatL (L.take i)).length + x.flat.length := by rw [htk]; simp
        omega
      have w3 : IntKind.i64.wrap ((i : Int) + 1) = ((i + 1 : Nat) : Int) := by rw [wrap_i64 (by omega) (by omega)]; simp
      refine sat_skip (sat_seq (sat_block (sat_seq (sat_seq ?_))))
      simp only [ss, hps, Nat.reduceEqDiff, Nat.reduceLT, Nat.reduceAdd, Nat.reduceLeDiff, Int.reduceLT, Int.reduceLE, Int.reduceEq, reduceIte]
      refine sat_next (sat_block (sat_loop (fun m e h' => ∃ j v, j + m = x.its.length ∧ e.get 5 = some (.int .i64 j) ∧ e.get 3 = some v ∧ SeenNew h' h.n v (flatL (L.take i) ++ (x.its.take j).map (fun a => (⟨false, false, a⟩ : Sn))) ∧ Grow h h') x.its.length (by have := x.its_len; omega) ?_ ?_))
      · exact ⟨0, v, by omega, by simp only [ss, hps, Nat.reduceEqDiff, Nat.reduceLT, Nat.reduceAdd, Nat.reduceLeDiff, Int.reduceLT, Int.reduceLE, Int.reduceEq, reduceIte]; rfl, by simp only [ss, hps, Nat.reduceEqDiff, Nat.reduceLT, Nat.reduceAdd, Nat.reduceLeDiff, Int.reduceLT, Int.reduceLE, Int.reduceEq, reduceIte, h3], by simpa using hs, g⟩
      · rintro m1 e1 h1' ⟨j, v1, hj, z5, z3, hs1, g1⟩ hf1
        have z0 := hf1 0 rfl
        have z4 := hf1 4 rfl
        simp only [ss, hps, Nat.reduceEqDiff, Nat.reduceLT, Nat.reduceAdd, Nat.reduceLeDiff, Int.reduceLT, Int.reduceLE, Int.reduceEq, reduceIte, get_put, puto_some, h0, h4] at z0 z4
        have hla := ha.grow g1
        obtain ⟨b, c1, c3, ia, _, l0, l1, l2, l3, el⟩ := hla.at_ hx
        have lc1 := el.its.len
        rw [load1_ptr] at l0 l1 l2 l3
        refine sat_seq (sat_seq ?_)
        simp only [ss, hps, Nat.reduceEqDiff, Nat.reduceLT, Nat.reduceAdd, Nat.reduceLeDiff, Int.reduceLT, Int.reduceLE, Int.reduceEq, reduceIte, z5, z0, z4, ia, l1, lc1]
        refine sat_next (sat_condK ?_)
        simp only [ss, hps, Nat.reduceEqDiff, Nat.reduceLT, Nat.reduceAdd, Nat.reduceLeDiff, Int.reduceLT, Int.reduceLE, Int.reduceEq, reduceIte]
        refine sat_condD (fun hlt1 => ?_) (fun hge1 => ?_)
        · have hlt1 : j < x.its.length := by omega
          have hil := x.its_len
          obtain ⟨w, hw⟩ := get_len hlt1
          obtain ⟨q1, f1, m1'⟩ := el.its.at_ hw
          rw [load1_ptr] at m1'
          have w4 : IntKind.i64.wrap ((j : Int) + 1) = ((j + 1 : Nat) : Int) := by rw [wrap_i64 (by omega) (by omega)]; simp
          obtain ⟨v2, h2', ea, hs2, hsm, hn2⟩ := seen_one ⟨false, false, w⟩ hs1 g1.1 (by simp; omega)
          simp only at ea
          refine sat_skip (sat_seq (sat_block ?_))
          simp only [ss, hps, Nat.reduceEqDiff, Nat.reduceLT, Nat.reduceAdd, Nat.reduceLeDiff, Int.reduceLT, Int.reduceLE, Int.reduceEq, reduceIte, z3, z0, z4, z5, ia, l1, f1, m1', rowIf_ok, setCells, ea]
          refine sat_blk (sat_next ?_)
          simp only [ss, hps, Nat.reduceEqDiff, Nat.reduceLT, Nat.reduceAdd, Nat.reduceLeDiff, Int.reduceLT, Int.reduceLE, Int.reduceEq, reduceIte, z5, w4]
          refine sat_again (m1 - 1) (by omega) ⟨j + 1, v2, by omega, by simp only [ss, hps, Nat.reduceEqDiff, Nat.reduceLT, Nat.reduceAdd, Nat.reduceLeDiff, Int.reduceLT, Int.reduceLE, Int.reduceEq, reduceIte], by simp only [ss, hps, Nat.reduceEqDiff, Nat.reduceLT, Nat.reduceAdd, Nat.reduceLeDiff, Int.reduceLT, Int.reduceLE, Int.reduceEq, reduceIte], ?_, ⟨by have := g1.1; omega, fun c hc => by rw [hsm c hc, g1.2 c hc]⟩⟩
          have : (x.its.take (j + 1)).map (fun a => (⟨false, false, a⟩ : Sn)) = (x.its.take j).map (fun a => (⟨false, false, a⟩ : Sn)) ++ [⟨false, false, w⟩] := by rw [List.take_add_one, hw]; simp
          rw [this, ← List.append_assoc]; exact hs2
        · have hge1 : j = x.its.length := by omega
          subst hge1
          rw [List.take_length] at hs1
          refine sat_brk fun hf2 => sat_next (sat_seq (sat_seq ?_))
          have l0' : ((h1'.get b).bind fun o => rowAt o (i * 4 + 0)) = some (.int .i64 x.k) := l0
          have hit : (x.its.map (fun a => (⟨false, false, a⟩ : Sn))).length ≤ 1 := by simpa using x.its_len
          simp only [ss, hps, Nat.reduceEqDiff, Nat.reduceLT, Nat.reduceAdd, Nat.reduceLeDiff, Int.reduceLT, Int.reduceLE, Int.reduceEq, reduceIte, z0, z4, ia, l0']
          refine sat_next (sat_condK ?_)
          simp only [ss, hps, Nat.reduceEqDiff, Nat.reduceLT, Nat.reduceAdd, Nat.reduceLeDiff, Int.reduceLT, Int.reduceLE, Int.reduceEq, reduceIte]
          refine sat_condD (fun hk => ?_) (fun hk => ?_)
          · obtain ⟨v2, h2', ea, hs2, hsm, hn2⟩ := seen_one ⟨true, !x.tk, 0⟩ hs1 g1.1 (by simp at hit ⊢; omega)
            simp only at ea
            have g2' : Grow h h2' := ⟨by have := g1.1; omega, fun c hc => by rw [hsm c hc, g1.2 c hc]⟩
            simp only [ss, hps, Nat.reduceEqDiff, Nat.reduceLT, Nat.reduceAdd, Nat.reduceLeDiff, Int.reduceLT, Int.reduceLE, Int.reduceEq, reduceIte, z0, z3, z4, ia, l2, rowIf_ok, setCells, ea]
            refine sat_next ?_
            refine sat_mono (sat_lv (show (ix (ocons 12 A onil) 4000010 R12 _ _).sat _ _ from subs12 hA hd hcn ha hx (by simp only [ss, hps, Nat.reduceEqDiff, Nat.reduceLT, Nat.reduceAdd, Nat.reduceLeDiff, Int.reduceLT, Int.reduceLE, Int.reduceEq, reduceIte, z0]) (by simp only [ss, hps, Nat.reduceEqDiff, Nat.reduceLT, Nat.reduceAdd, Nat.reduceLeDiff, Int.reduceLT, Int.reduceLE, Int.reduceEq, reduceIte, z4]) (by simp only [ss, hps, Nat.reduceEqDiff, Nat.reduceLT, Nat.reduceAdd, Nat.reduceLeDiff, Int.reduceLT, Int.reduceLE, Int.reduceEq, reduceIte, z3]) hs2 g2' (by simp at hit ⊢; omega))) ?_ (fun _ _ _ h => h.elim)
            rintro y e2 h2 ⟨⟨rfl, v2, e3, hs2, g2⟩, hlv⟩
            have k4 := hlv 4 rfl
            simp only [ss, hps, Nat.reduceEqDiff, Nat.reduceLT, Nat.reduceAdd, Nat.reduceLeDiff, Int.reduceLT, Int.reduceLE, Int.reduceEq, reduceIte, z4] at k4
            refine sat_inc (sat_blk (sat_next ?_))
            simp only [ss, hps, Nat.reduceEqDiff, Nat.reduceLT, Nat.reduceAdd, Nat.reduceLeDiff, Int.reduceLT, Int.reduceLE, Int.reduceEq, reduceIte, k4, w3]
            refine sat_again (m - 1) (by omega) ⟨i + 1, v2, by omega, by simp only [ss, hps, Nat.reduceEqDiff, Nat.reduceLT, Nat.reduceAdd, Nat.reduceLeDiff, Int.reduceLT, Int.reduceLE, Int.reduceEq, reduceIte], by simp only [ss, hps, Nat.reduceEqDiff, Nat.reduceLT, Nat.reduceAdd, Nat.reduceLeDiff, Int.reduceLT, Int.reduceLE, Int.reduceEq, reduceIte, e3], ?_, g2⟩
            rw [htk, hpx]
            simpa [hk] using hs2
          · refine sat_skip ?_
            refine sat_mono (sat_lv (show (ix (ocons 12 A onil) 4000010 R12 _ _).sat _ _ from subs12 hA hd hcn ha hx (by simp only [ss, hps, Nat.reduceEqDiff, Nat.reduceLT, Nat.reduceAdd, Nat.reduceLeDiff, Int.reduceLT, Int.reduceLE, Int.reduceEq, reduceIte, z0]) (by simp only [ss, hps, Nat.reduceEqDiff, Nat.reduceLT, Nat.reduceAdd, Nat.reduceLeDiff, Int.reduceLT, Int.reduceLE, Int.reduceEq, reduceIte, z4]) (by simp only [ss, hps, Nat.reduceEqDiff, Nat.reduceLT, Nat.reduceAdd, Nat.reduceLeDiff, Int.reduceLT, Int.reduceLE, Int.reduceEq, reduceIte, z3]) hs1 g1 (by simp at hit ⊢; omega))) ?_ (fun _ _ _ h => h.elim)
            rintro y e2 h2 ⟨⟨rfl, v2, e3, hs2, g2⟩, hlv⟩
            have k4 := hlv 4 rfl
            simp only [ss, hps, Nat.reduceEqDiff, Nat.reduceLT, Nat.reduceAdd, Nat.reduceLeDiff, Int.reduceLT, Int.reduceLE, Int.reduceEq, reduceIte, z4] at k4
            refine sat_inc (sat_blk (sat_next ?_))
            simp only [ss, hps, Nat.reduceEqDiff, Nat.reduceLT, Nat.reduceAdd, Nat.reduceLeDiff, Int.reduceLT, Int.reduceLE, Int.reduceEq, reduceIte, k4, w3]
            refine sat_again (m - 1) (by omega) ⟨i + 1, v2, by omega, by simp only [ss, hps, Nat.reduceEqDiff, Nat.reduceLT, Nat.reduceAdd, Nat.reduceLeDiff, Int.reduceLT, Int.reduceLE, Int.reduceEq, reduceIte], by simp only [ss, hps, Nat.reduceEqDiff, Nat.reduceLT, Nat.reduceAdd, Nat.reduceLeDiff, Int.reduceLT, Int.reduceLE, Int.reduceEq, reduceIte, e3], ?_, g2⟩
            rw [htk, hpx]
            simpa [hk] using hs2
    · refine sat_brk fun hf2 => sat_next (sat_seq ?_)
      have hge : i = L.length := by omega
      subst hge
      rw [List.take_length] at hs
      simp only [ss, hps, Nat.reduceEqDiff, Nat.reduceLT, Nat.reduceAdd, Nat.reduceLeDiff, Int.reduceLT, Int.reduceLE, Int.reduceEq, reduceIte, h3]
      exact sat_next (sat_ret ⟨rfl, v, by simp only [ss, hps, Nat.reduceEqDiff, Nat.reduceLT, Nat.reduceAdd, Nat.reduceLeDiff, Int.reduceLT, Int.reduceLE, Int.reduceEq, reduceIte], hs, g⟩)
def G12 : Nat → List IV → M IV
  | 0 => fun _ _ => .fail
  | k + 1 => bodyI T0 (ocons 12 (G12 k) onil) 4000010 ic12
theorem s12 : ∀ k, Sim Tryz.prog 12 (G12 k)
  | 0 => Sim.fail 12
  | k + 1 => body_sim (ocons_sim (s12 k) onil_sim) cc12 4000010
theorem flatAll : ∀ k, FlatOk k (G12 k)
  | 0 => fun va L h hd => by omega
  | k + 1 => fun va L h hd hc ha => by
    show ∃ v h', bodyI T0 (ocons 12 (G12 k) onil) 4000010 ic12 [va] h = .ok v h' ∧ SeenNew h' h.n v (flatL L) ∧ Grow h h'
    rw [body_eq rfl rfl rfl (by decide)]
    rcases sat_inv (b12 (flatAll k) (by omega) hc ha) with ⟨y, e, h', h1, rfl, v, h2, h3, h4⟩ | ⟨_, _, _, _, hf⟩
    · refine ⟨v, h', ?_, h3, h4⟩
      rw [h1]
      simp only [ss, hps, Nat.reduceEqDiff, Nat.reduceLT, Nat.reduceAdd, Nat.reduceLeDiff, Int.reduceLT, Int.reduceLE, Int.reduceEq, reduceIte, ic12, h2]
    · exact hf.elim
end Go.Proofs.YtadeojgiiapljaaGreat.Im
