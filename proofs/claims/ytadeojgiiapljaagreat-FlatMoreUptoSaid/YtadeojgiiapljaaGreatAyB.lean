/- flat.May, where it says yes: lists of nodes. -/
import Derived.Test.YtadeojgiiapljaaGreatAyA
set_option linter.unusedSimpArgs false
set_option linter.unusedVariables false
namespace Go.Proofs.YtadeojgiiapljaaGreat.Im
open Go
set_option maxHeartbeats 1000000
noncomputable def G127 : List IV → M IV := bodyI T0 O127 0 ic127
theorem s127 : Sim Tryz.prog 127 G127 := body_sim O127_sim cc127 0
/-- Only the asking's own block has changed. -/
def AsFr (ab : Nat) (h h' : IHeap) : Prop := h.n ≤ h'.n ∧ ∀ b, b < h.n → b ≠ ab → h'.get b = h.get b
theorem AsFr.refl (ab : Nat) (h : IHeap) : AsFr ab h h := ⟨Nat.le_refl _, fun _ _ _ => rfl⟩
theorem AsFr.trans {ab : Nat} {h h1 h2 : IHeap} (a : AsFr ab h h1) (b : AsFr ab h1 h2) : AsFr ab h h2 := ⟨Nat.le_trans a.1 b.1, fun c hc hne => (b.2 c (Nat.lt_of_lt_of_le hc a.1) hne).trans (a.2 c hc hne)⟩
theorem AsFr.grow {ab : Nat} {h h2 : IHeap} (g : Grow h h2) : AsFr ab h h2 := ⟨g.1, fun b hb _ => g.2 b hb⟩
theorem AsFr.set (ab : Nat) (h : IHeap) (o : IObj) : AsFr ab h (h.set ab o) := ⟨Nat.le_refl _, fun b _ hne => get_set_ne hne⟩
def AskOk (k : Nat) (A : List IV → M IV) : Prop := ∀ (v : IV) (l : List Nd) (vars : Int) (deep nodes ab : Nat) (h : IHeap), decNds k v = some l → okL vars deep l = true → small l = true → nodes + cntL l ≤ 16384 → deep + k ≤ 2000000 → h.get ab = some (.row [.int .i64 vars, .int .i64 nodes]) →
  ∃ h', A [.ptr ab 0, v, .int .i64 deep] h = .ok (.bool true) h' ∧ h'.get ab = some (.row [.int .i64 vars, .int .i64 (nodes + cntL l : Nat)]) ∧ AsFr ab h h'
noncomputable def O72 (A : List IV → M IV) : Orc := ocons 68 F68 (ocons 127 G127 (ocons 72 A onil))
theorem eqflat_sameN (x1 x2 x3 x4 x5 x6 x7 : Int) (x8 : Bool) : eqflatV true [false, false, false, false, false, false, false, true] (.agg [.int .i64 x1, .int .i64 x2, .int .i64 x3, .int .i64 x4, .int .i64 x5, .int .i64 x6, .int .u64 x7, .bool x8])
    (.agg [.int .i64 x1, .int .i64 x2, .int .i64 x3, .int .i64 x4, .int .i64 x5, .int .i64 x6, .int .u64 x7, .bool x8]) = some (.bool false) := by
  have := eqFlat_ins ⟨x1, x2, x3, x4, x5, x6, x7, x8⟩ ⟨x1, x2, x3, x4, x5, x6, x7, x8⟩
  simp only [In8.cells] at this
  simp only [eqflatV, this, decide_true, Option.map_some]
  rfl
theorem b72 {k : Nat} {A : List IV → M IV} (hA : AskOk k A) {v : IV} {l : List Nd} {vars : Int} {deep nodes ab : Nat} {h : IHeap} (hv : decNds (k + 1) v = some l) (hok : okL vars deep l = true) (hs : small l = true) (hn : nodes + cntL l ≤ 16384) (hd : deep + (k + 1) ≤ 2000000) (ha : h.get ab = some (.row [.int .i64 vars, .int .i64 nodes])) :
    (ix (O72 A) 4000010 ic72.body (startI 0 [.ptr ab 0, v, .int .i64 deep]) h).sat (fun y e h' => y = .ret ∧ e.get 6 = some (.bool true) ∧ (h'.get ab = some (.row [.int .i64 vars, .int .i64 (nodes + cntL l : Nat)]) ∧ AsFr ab h h')) (fun _ _ _ => False) := by
  have lv := decNds_len hv
  have sm : l.length < 4000000 := by have := cntL_length l; simp [small] at hs; omega
  have hcs : cntL l < 4000000 := by simpa [small] using hs
  have o68 : O72 A 68 = F68 := rfl
  have o127 : O72 A 127 = G127 := rfl
  have o72 : O72 A 72 = A := rfl
  have hlt := get_lt ha
  simp only [okL, Bool.and_eq_true] at hok
  obtain ⟨htop, hall⟩ := hok
  unfold ic72
  simp only [start_cons, start_nil]
  refine sat_seq ?_
  simp only [ss, hps, Nat.reduceEqDiff, Nat.reduceLT, Nat.reduceAdd, Nat.reduceLeDiff, Int.reduceLT, Int.reduceLE, Int.reduceEq, reduceIte]
  refine sat_next (sat_seq (sat_seq ?_))
  have htest : (((0 : Int) < l.length) = True ∧ ((65 : Int) < deep) = False) ∨ ((0 : Int) < l.length) = False := by
    simp only [topOk, Bool.or_eq_true, decide_eq_true_eq] at htop
    rcases htop with h0 | h0
    · right; exact eq_false (by omega)
    · by_cases hl : l.length = 0
      · right; exact eq_false (by omega)
      · left; exact ⟨eq_true (by omega), eq_false (by omega)⟩
  have body : ∀ e0 : Env, e0.get 0 = some (.ptr ab 0) → e0.get 1 = some v → e0.get 2 = some (.int .i64 deep) → (ix (O72 A) 4000010 (match ic72.body with | .seq _ (.seq _ r) => r | _ => .skip) e0 h).sat (fun y e h' => y = .ret ∧ e.get 6 = some (.bool true) ∧ (h'.get ab = some (.row [.int .i64 vars, .int .i64 (nodes + cntL l : Nat)]) ∧ AsFr ab h h')) (fun _ _ _ => False) := by
    intro e0 z0 z1 z2
    unfold ic72
    refine sat_seq (sat_seq ?_)
    simp only [ss, hps, Nat.reduceEqDiff, Nat.reduceLT, Nat.reduceAdd, Nat.reduceLeDiff, Int.reduceLT, Int.reduceLE, Int.reduceEq, reduceIte, z1, lv]
    refine sat_next (sat_block (sat_loop (fun m e h' => ∃ i, i + m = l.length ∧ e.get 18 = some (.int .i64 i) ∧ h'.get ab = some (.row [.int .i64 vars, .int .i64 (nodes + cntL (l.take i) : Nat)]) ∧ AsFr ab h h') l.length (by omega) ?_ ?_))
    · exact ⟨0, by omega, by simp only [ss, hps, Nat.reduceEqDiff, Nat.reduceLT, Nat.reduceAdd, Nat.reduceLeDiff, Int.reduceLT, Int.reduceLE, Int.reduceEq, reduceIte]; rfl, by simpa [cntL] using ha, AsFr.refl _ _⟩
    · rintro m e h' ⟨i, hi, h18, hab, hfr⟩ hf
      have h0 := hf 0 rfl
      have h2 := hf 2 rfl
      have h16 := hf 16 rfl
      have h17 := hf 17 rfl
      simp only [ss, hps, Nat.reduceEqDiff, Nat.reduceLT, Nat.reduceAdd, Nat.reduceLeDiff, Int.reduceLT, Int.reduceLE, Int.reduceEq, reduceIte, get_put, puto_some, z0, z2] at h0 h2 h16 h17
      clear hf
      refine sat_seq ?_
      simp only [ss, hps, Nat.reduceEqDiff, Nat.reduceLT, Nat.reduceAdd, Nat.reduceLeDiff, Int.reduceLT, Int.reduceLE, Int.reduceEq, reduceIte, h18, h17]
      refine sat_next (sat_seq (sat_condK ?_))
      simp only [ss, hps, Nat.reduceEqDiff, Nat.reduceLT, Nat.reduceAdd, Nat.reduceLeDiff, Int.reduceLT, Int.reduceLE, Int.reduceEq, reduceIte]
      refine sat_condD (fun hlt' => ?_) (fun hge => ?_)
      · have hlt' : i < l.length := by omega
        obtain ⟨nd, hnd⟩ := get_len hlt'
        obtain ⟨a, b, c, rest, hia, hat⟩ := decNds_node hv hnd
        have hndok := (okAll_iff vars deep l).1 hall nd (mem_of_get hnd)
        obtain ⟨sa, sb, sc⟩ := small_sub hcs hnd
        have oa := dec_one hat.ahead
        have ob := dec_one hat.body
        have oc := dec_one hat.els
        have la := decNds_len hat.ahead
        have lb := decNds_len hat.body
        have lc := decNds_len hat.els
        have hc1 := cntL_take_succ hnd
        have hc2 := cntL_take_le l (i + 1)
        have hc3 := nd.cnt_eq
        have hablt := get_lt hab
        have hcl : (nd.cells a b c).all (·.one) = true := by simp [Nd.cells, IV.one, oa, ob, oc]; exact ⟨oa, ob, oc⟩
        have w3 : IntKind.i64.wrap ((i : Int) + 1) = ((i + 1 : Nat) : Int) := by rw [wrap_i64 (by omega) (by omega)]; simp
        have w4 : IntKind.i64.wrap (((nodes + cntL (l.take i) : Nat) : Int) + 1) = ((nodes + cntL (l.take i) + 1 : Nat) : Int) := by rw [wrap_i64 (by omega) (by omega)]; simp
        have w5 : IntKind.i64.wrap ((deep : Int) + 1) = ((deep + 1 : Nat) : Int) := by rw [wrap_i64 (by omega) (by omega)]; simp
        have c1 : ((16384 : Int) < ((nodes + cntL (l.take i) + 1 : Nat) : Int)) = False := by simp; omega
        have n1 : (ab = h'.n) = False := by simp; omega
        have n2 : (h'.n = ab) = False := by simp; omega
        have hfin : ∀ (h5 : IHeap), h5.get ab = some (.row [.int .i64 vars, .int .i64 (nodes + cntL (l.take i) + nd.cnt : Nat)]) → AsFr ab h' h5 → h5.get ab = some (.row [.int .i64 vars, .int .i64 (nodes + cntL (l.take (i + 1)) : Nat)]) ∧ AsFr ab h h5 := by
          intro h5 q1 q2
          refine ⟨?_, hfr.trans q2⟩
          rw [q1, hc1, Nat.add_assoc]
        have g2 : AsFr ab h' ((h'.push (.row (nd.cells a b c))).set ab (.row [.int .i64 vars, .int .i64 (nodes + cntL (l.take i) + 1 : Nat)])) := (AsFr.grow (Grow.push _ _)).trans (AsFr.set _ _ _)
        have hab2 : ((h'.push (.row (nd.cells a b c))).set ab (.row [.int .i64 vars, .int .i64 (nodes + cntL (l.take i) + 1 : Nat)])).get ab = some (.row [.int .i64 vars, .int .i64 (nodes + cntL (l.take i) + 1 : Nat)]) := get_set_same (by rw [get_push_old hablt]; exact hab)
        have hx2 : ((h'.push (.row (nd.cells a b c))).set ab (.row [.int .i64 vars, .int .i64 (nodes + cntL (l.take i) + 1 : Nat)])).get h'.n = some (.row (nd.cells a b c)) := by rw [get_set_ne (by omega)]; exact get_push_new
        refine sat_skip (sat_seq (sat_block (sat_seq ?_)))
        simp only [ss, hps, Nat.reduceEqDiff, Nat.reduceLT, Nat.reduceAdd, Nat.reduceLeDiff, Int.reduceLT, Int.reduceLE, Int.reduceEq, reduceIte, h18, h16, hia, Nd.cells, rowIf_ok, oa, ob, oc, setCells, set_push_at]
        refine sat_next (sat_seq ?_)
        simp only [ss, hps, Nat.reduceEqDiff, Nat.reduceLT, Nat.reduceAdd, Nat.reduceLeDiff, Int.reduceLT, Int.reduceLE, Int.reduceEq, reduceIte, h0, nilchk_ptr, n1, hab, w4, setCells]
        refine sat_next (sat_seq (sat_seq ?_))
        simp only [Nd.cells] at hab2 hx2 g2
        simp only [ss, hps, Nat.reduceEqDiff, Nat.reduceLT, Nat.reduceAdd, Nat.reduceLeDiff, Int.reduceLT, Int.reduceLE, Int.reduceEq, reduceIte, h0, nilchk_ptr, hab2, c1]
        refine sat_next (sat_condK ?_)
        simp only [ss, hps, Nat.reduceEqDiff, Nat.reduceLT, Nat.reduceAdd, Nat.reduceLeDiff, Int.reduceLT, Int.reduceLE, Int.reduceEq, reduceIte]
        refine sat_next (sat_seq ?_)
        simp only [ss, hps, Nat.reduceEqDiff, Nat.reduceLT, Nat.reduceAdd, Nat.reduceLeDiff, Int.reduceLT, Int.reduceLE, Int.reduceEq, reduceIte, hx2]
        refine sat_next ?_
        generalize IHeap.set (IHeap.push h' _) ab _ = H at *
        by_cases k1 : nd.kind = 1
        · rw [Nd.ok_eq, if_pos k1] at hndok
          simp only [Bool.and_eq_true, decide_eq_true_eq] at hndok
          obtain ⟨⟨hio, hco⟩, hlens⟩ := hndok
          obtain ⟨h5, e127, g5⟩ := b127 (x := nd.ins) hab2 hio
          simp only [In8.cells] at e127
          have o127' : ∀ ax hh, G127 ax hh = bodyI T0 O127 0 ic127 ax hh := fun _ _ => rfl
          have hx5 := g5.get hx2
          have la0 : nd.ahead.length = 0 := by omega
          have lb0 : nd.body.length = 0 := by omega
          have lc0 : nd.els.length = 0 := by omega
          rw [la0] at la; rw [lb0] at lb; rw [lc0] at lc
          have wz1 : IntKind.i64.wrap (((0 : Nat) : Int) + ((0 : Nat) : Int)) = 0 := rfl
          have wz2 : IntKind.i64.wrap ((0 : Int) + ((0 : Nat) : Int)) = 0 := rfl
          simp only [ss, hps, Nat.reduceEqDiff, Nat.reduceLT, Nat.reduceAdd, Nat.reduceLeDiff, Int.reduceLT, Int.reduceLE, Int.reduceEq, reduceIte, k1, h0, hx2, hx5, o127, o127', e127, hco, la, lb, lc, wz1, wz2]
          refine sat_blk (sat_next ?_)
          simp only [ss, hps, Nat.reduceEqDiff, Nat.reduceLT, Nat.reduceAdd, Nat.reduceLeDiff, Int.reduceLT, Int.reduceLE, Int.reduceEq, reduceIte, h18, w3]
          refine sat_again (m - 1) (by omega) ⟨i + 1, by omega, by simp only [ss, hps, Nat.reduceEqDiff, Nat.reduceLT, Nat.reduceAdd, Nat.reduceLeDiff, Int.reduceLT, Int.reduceLE, Int.reduceEq, reduceIte], hfin h5 ?_ ?_⟩
          · have : nd.cnt = 1 := by
              rw [hc3, List.eq_nil_of_length_eq_zero la0, List.eq_nil_of_length_eq_zero lb0, List.eq_nil_of_length_eq_zero lc0]; rfl
            rw [this]
            exact g5.get hab2
          · exact g2.trans (AsFr.grow g5)
        · have k23 : nd.kind = 2 ∨ nd.kind = 3 := by
            rw [Nd.ok_eq, if_neg k1] at hndok
            split at hndok
            · assumption
            · cases hndok
          rw [Nd.ok_eq, if_neg k1, if_pos k23] at hndok
          simp only [Bool.and_eq_true, decide_eq_true_eq] at hndok
          obtain ⟨⟨⟨⟨⟨⟨hins, hc0⟩, hcv⟩, hel⟩, hka⟩, hkb⟩, hkc⟩ := hndok
          have r68 := F68_at (n := nd.cond) hab2
          have hisN : isN nd.cond vars = true := isN_iff.2 ⟨hc0, hcv⟩
          rw [hisN] at r68
          obtain ⟨h5, e5, ab5, f5⟩ := hA a nd.ahead vars (deep + 1) (nodes + cntL (l.take i) + 1) ab _ hat.ahead hka sa (by omega) (by omega) hab2
          obtain ⟨h6, e6, ab6, f6⟩ := hA b nd.body vars (deep + 1) (nodes + cntL (l.take i) + 1 + cntL nd.ahead) ab _ hat.body hkb sb (by omega) (by omega) ab5
          obtain ⟨h7, e7, ab7, f7⟩ := hA c nd.els vars (deep + 1) (nodes + cntL (l.take i) + 1 + cntL nd.ahead + cntL nd.body) ab _ hat.els hkc sc (by omega) (by omega) ab6
          have hx5 := (f5.2 h'.n (get_lt hx2) (by omega)).trans hx2
          have hx6 := (f6.2 h'.n (get_lt hx5) (by omega)).trans hx5
          have hz : nd.ins.kind = 0 ∧ nd.ins.op = 0 ∧ nd.ins.d = 0 ∧ nd.ins.a = 0 ∧ nd.ins.b = 0 ∧ nd.ins.c = 0 ∧ nd.ins.word = 0 ∧ nd.ins.stack = false := by rw [hins]; exact ⟨rfl, rfl, rfl, rfl, rfl, rfl, rfl, rfl⟩
          obtain ⟨z1', z2', z3', z4', z5', z6', z7', z8'⟩ := hz
          simp only [z1', z2', z3', z4', z5', z6', z7', z8'] at *
          have hfin' := hfin h7 (by rw [ab7, hc3]; congr 5; omega) (((g2.trans f5).trans f6).trans f7)
          rcases k23 with k2 | k3
          · simp only [ss, hps, Nat.reduceEqDiff, Nat.reduceLT, Nat.reduceAdd, Nat.reduceLeDiff, Int.reduceLT, Int.reduceLE, Int.reduceEq, reduceIte, k2, h0, h2, hx2, hx5, hx6, o68, r68, o72, e5, e6, e7, w5, eqflat_sameN]
            refine sat_blk (sat_next ?_)
            simp only [ss, hps, Nat.reduceEqDiff, Nat.reduceLT, Nat.reduceAdd, Nat.reduceLeDiff, Int.reduceLT, Int.reduceLE, Int.reduceEq, reduceIte, h18, w3]
            exact sat_again (m - 1) (by omega) ⟨i + 1, by omega, by simp only [ss, hps, Nat.reduceEqDiff, Nat.reduceLT, Nat.reduceAdd, Nat.reduceLeDiff, Int.reduceLT, Int.reduceLE, Int.reduceEq, reduceIte], hfin'⟩
          · have le0 : nd.els.length = 0 := by
              simp only [Bool.or_eq_true, decide_eq_true_eq] at hel
              rcases hel with h | h
              · exact absurd k3 h
              · exact h
            rw [le0] at lc
            have c0 : ((0 : Int) < ((0 : Nat) : Int)) = False := by simp
            simp only [ss, hps, Nat.reduceEqDiff, Nat.reduceLT, Nat.reduceAdd, Nat.reduceLeDiff, Int.reduceLT, Int.reduceLE, Int.reduceEq, reduceIte, k3, h0, h2, hx2, hx5, hx6, lc, c0, o68, r68, o72, e5, e6, e7, w5, eqflat_sameN]
            refine sat_blk (sat_next ?_)
            simp only [ss, hps, Nat.reduceEqDiff, Nat.reduceLT, Nat.reduceAdd, Nat.reduceLeDiff, Int.reduceLT, Int.reduceLE, Int.reduceEq, reduceIte, h18, w3]
            exact sat_again (m - 1) (by omega) ⟨i + 1, by omega, by simp only [ss, hps, Nat.reduceEqDiff, Nat.reduceLT, Nat.reduceAdd, Nat.reduceLeDiff, Int.reduceLT, Int.reduceLE, Int.reduceEq, reduceIte], hfin'⟩
      · have hge : i = l.length := by omega
        subst hge
        refine sat_brk fun hf2 => sat_next (sat_seq ?_)
        simp only [ss, hps, Nat.reduceEqDiff, Nat.reduceLT, Nat.reduceAdd, Nat.reduceLeDiff, Int.reduceLT, Int.reduceLE, Int.reduceEq, reduceIte]
        refine sat_next (sat_ret ⟨rfl, by simp only [ss, hps, Nat.reduceEqDiff, Nat.reduceLT, Nat.reduceAdd, Nat.reduceLeDiff, Int.reduceLT, Int.reduceLE, Int.reduceEq, reduceIte], ?_, hfr⟩)
        rw [List.take_length] at hab; exact hab
  rcases htest with ⟨t1, t2⟩ | t1
  · simp only [ss, hps, Nat.reduceEqDiff, Nat.reduceLT, Nat.reduceAdd, Nat.reduceLeDiff, Int.reduceLT, Int.reduceLE, Int.reduceEq, reduceIte, lv, t1, t2]
    refine sat_next (sat_condK ?_)
    simp only [ss, hps, Nat.reduceEqDiff, Nat.reduceLT, Nat.reduceAdd, Nat.reduceLeDiff, Int.reduceLT, Int.reduceLE, Int.reduceEq, reduceIte]
    exact sat_next (body _ (by simp only [ss, hps, Nat.reduceEqDiff, Nat.reduceLT, Nat.reduceAdd, Nat.reduceLeDiff, Int.reduceLT, Int.reduceLE, Int.reduceEq, reduceIte]) (by simp only [ss, hps, Nat.reduceEqDiff, Nat.reduceLT, Nat.reduceAdd, Nat.reduceLeDiff, Int.reduceLT, Int.reduceLE, Int.reduceEq, reduceIte]) (by simp only [ss, hps, Nat.reduceEqDiff, Nat.reduceLT, Nat.reduceAdd, Nat.reduceLeDiff, Int.reduceLT, Int.reduceLE, Int.reduceEq, reduceIte]))
  · simp only [ss, hps, Nat.reduceEqDiff, Nat.reduceLT, Nat.reduceAdd, Nat.reduceLeDiff, Int.reduceLT, Int.reduceLE, Int.reduceEq, reduceIte, lv, t1]
    refine sat_next (sat_condK ?_)
    simp only [ss, hps, Nat.reduceEqDiff, Nat.reduceLT, Nat.reduceAdd, Nat.reduceLeDiff, Int.reduceLT, Int.reduceLE, Int.reduceEq, reduceIte]
    exact sat_next (body _ (by simp only [ss, hps, Nat.reduceEqDiff, Nat.reduceLT, Nat.reduceAdd, Nat.reduceLeDiff, Int.reduceLT, Int.reduceLE, Int.reduceEq, reduceIte]) (by simp only [ss, hps, Nat.reduceEqDiff, Nat.reduceLT, Nat.reduceAdd, Nat.reduceLeDiff, Int.reduceLT, Int.reduceLE, Int.reduceEq, reduceIte]) (by simp only [ss, hps, Nat.reduceEqDiff, Nat.reduceLT, Nat.reduceAdd, Nat.reduceLeDiff, Int.reduceLT, Int.reduceLE, Int.reduceEq, reduceIte]))
end Go.Proofs.YtadeojgiiapljaaGreat.Im
