/- mem.New, mem.Of. -/
import Derived.Test.YtadeojgiiapljaaGreatMmA
import Derived.Test.YtadeojgiiapljaaGreatRgB
import Derived.Test.YtadeojgiiapljaaGreatRnA
set_option linter.unusedSimpArgs false
set_option linter.unusedVariables false
namespace Go.Proofs.YtadeojgiiapljaaGreat.Im
open Go
set_option maxHeartbeats 1000000
theorem decRs_one : ∀ {n : Nat} {cells : List IV} {l : List Reg}, decRs cells n = some l → (cells.take (n * 4)).all (·.one) = true
  | 0, cells, l, h => by simp
  | n + 1, cells, l, h => by
    unfold decRs at h
    split at h
    · rename_i h0; cases h0
    · rename_i s a z b cs m heq
      cases heq
      split at h
      · simp only [Option.map_eq_some_iff] at h
        obtain ⟨l', hl', rfl⟩ := h
        have ih := decRs_one hl'
        have : (n + 1) * 4 = n * 4 + 1 + 1 + 1 + 1 := by omega
        rw [this]
        simp only [List.take_succ_cons, List.all_cons, ih]; rfl
      · cases h
    · cases h
theorem rowReg {n : Nat} {cells : List IV} {l : List Reg} (h : decRs cells n = some l) {i : Nat} {x : Reg} (hi : l[i]? = some x) :
    i * 4 + 4 ≤ n * 4 ∧ ((cells.take (n * 4)).drop (i * 4)).take 4 = x.cells ∧ (cells.take (n * 4))[i * 4 + 1]? = some (.int .i64 x.addr) := by
  obtain ⟨h1, h2, h3⟩ := decRs_get h
  obtain ⟨_, _, _, rest, hr⟩ := h3 i x hi
  have hlt := (List.getElem?_eq_some_iff.1 hi).1
  have h4 : i * 4 + 4 ≤ n * 4 := by omega
  refine ⟨h4, ?_, ?_⟩
  · rw [List.drop_take, List.take_take, hr]
    have : min 4 (n * 4 - i * 4) = 4 := by omega
    rw [this]; rfl
  · rw [List.getElem?_take_of_lt (by omega)]
    have : cells[i * 4 + 1]? = (cells.drop (i * 4))[1]? := by rw [List.getElem?_drop]
    rw [this, hr]; rfl
/-- A copy of regions. -/
theorem RIn.clone {h : IHeap} {b n : Nat} {cells : List IV} {l : List Reg} (hc : decRs cells n = some l) (hb : h.get b = some (.row (cells.take (n * 4)))) : RIn h (.aslice b 0 n 4) l := by
  obtain ⟨h1, h2, _⟩ := decRs_get hc
  refine ⟨by rw [h1]; rfl, fun i x hi => ?_⟩
  obtain ⟨h3, h4, h5⟩ := rowReg hc hi
  have hlt := (List.getElem?_eq_some_iff.1 hi).1
  refine ⟨.ptr b (i * 4), ?_, ?_, .ptr b (i * 4 + 1), rfl, ?_⟩
  · rw [iaddr_asl, if_pos (by omega)]; simp
  · have hL : i * 4 + 4 ≤ (cells.take (n * 4)).length := by simp; omega
    rw [loadN_ptr, hb, Option.bind_some, rowN_row, subL_ok hL, h4]
  · rw [load1_ptr, hb, Option.bind_some, rowAt_row, h5]
theorem RIn.none (h : IHeap) (b : Nat) : RIn h (.slice b 0 0 0) [] := ⟨rfl, fun i x hi => by simp at hi⟩
theorem RIn.nils (h : IHeap) : RIn h .nils [] := ⟨rfl, fun i x hi => by simp at hi⟩
theorem app_const {h : IHeap} {s : IV} {cells : List IV} {n bytes sz : Nat} (hs : s = .nils ∨ ∃ b, s = .slice b 0 0 0 ∧ h.get b = some (.row [])) (hz : 0 < sz) (hn : 0 < n) (hl : n * sz ≤ cells.length) (hb : n * bytes ≤ 2 ^ 45) (hb2 : n ≤ 2 ^ 45) (ho : (cells.take (n * sz)).all (·.one) = true) :
    appendI sz bytes s (.cslice cells n) h = .ok (.aslice h.n 0 n sz) (h.push (.row (cells.take (n * sz)))) := by
  have e1 : Im.loadN h (.cptr cells) (n * sz) = some (cells.take (n * sz)) := by simp [Im.loadN, hl]
  have e2 : ¬ n = 0 := by omega
  have e3 : ¬ sz = 0 := by omega
  have e4 : ¬ (n * bytes > 2 ^ 45) := by omega
  have e5 : ¬ (n > 2 ^ 45) := by omega
  rcases hs with rfl | ⟨b, rfl, hg⟩
  · simp only [appendI, sliceLen, sliceCells, e1, e2, e3, if_false, Nat.zero_add, ho, e4, e5, decide_false, Bool.or_false, Bool.not_true, Bool.false_eq_true]
  · simp only [appendI, sliceLen, sliceCells, e1, e2, e3, if_false, Nat.zero_add, ho, e4, e5, decide_false, Bool.or_false, Bool.not_true, Bool.false_eq_true]
    have e6 : ¬ n ≤ 0 := by omega
    have e7 : Im.loadN h (.ptr b 0) (0 * sz) = some [] := by rw [loadN_ptr, hg]; simp [rowN, subL]
    simp only [e6, if_false, e7, List.nil_append]
def G121 : List IV → M IV := bodyI T0 onil 0 ic121
theorem s121 : Sim Tryz.prog 121 G121 := body_sim onil_sim cc121 0
theorem isnil_csl (n : Bool) (cs : List IV) (l : Nat) : isnilV n .slice (.cslice cs l) = some (.bool (if n then !false else false)) := rfl
theorem G121_at {v : IV} {l : List Reg} (hv : decRegs v = some l) (hl : l.length ≤ 16) (h : IHeap) : ∃ u h2, G121 [v] h = .ok u h2 ∧ Grow h h2 ∧ RIn h2 u l ∧ u.one = true := by
  unfold G121
  unfold decRegs at hv
  split at hv
  · cases hv
    refine ⟨.nils, h, ?_, Grow.refl h, RIn.nils h, rfl⟩
    rw [body_eq rfl rfl rfl (by decide)]
    simp only [ss, hps, Nat.reduceEqDiff, Nat.reduceLT, Nat.reduceAdd, Nat.reduceLeDiff, Int.reduceLT, Int.reduceLE, Int.reduceEq, reduceIte, ic121, isnil_nils]
  · rename_i cells n
    obtain ⟨h1, h2, _⟩ := decRs_get hv
    by_cases hn : n = 0
    · subst hn
      have : l = [] := List.eq_nil_of_length_eq_zero h1
      subst this
      refine ⟨.slice h.n 0 0 0, h.push (.row []), ?_, Grow.push _ _, RIn.none _ _, rfl⟩
      have e1 : appendI 4 40 (.slice h.n 0 0 0) (.cslice cells 0) (h.push (.row [])) = .ok (.slice h.n 0 0 0) (h.push (.row [])) := by
        simp [appendI, sliceLen, sliceCells, Im.loadN]
      rw [body_eq rfl rfl rfl (by decide)]
      simp only [ss, hps, Nat.reduceEqDiff, Nat.reduceLT, Nat.reduceAdd, Nat.reduceLeDiff, Int.reduceLT, Int.reduceLE, Int.reduceEq, reduceIte, ic121, isnil_csl, rowIf_ok, e1]
    · have e1 := app_const (h := h.push (.row [])) (s := .slice h.n 0 0 0) (cells := cells) (n := n) (bytes := 40) (sz := 4) (.inr ⟨h.n, rfl, by simp [get_push_eq]⟩) (by omega) (by omega) h2 (by omega) (by omega) (decRs_one hv)
      refine ⟨.aslice (h.n + 1) 0 n 4, (h.push (.row [])).push (.row (cells.take (n * 4))), ?_, (Grow.push _ _).trans (Grow.push _ _), RIn.clone hv (by simp [get_push_eq]), rfl⟩
      rw [body_eq rfl rfl rfl (by decide)]
      simp only [ss, hps, Nat.reduceEqDiff, Nat.reduceLT, Nat.reduceAdd, Nat.reduceLeDiff, Int.reduceLT, Int.reduceLE, Int.reduceEq, reduceIte, ic121, isnil_csl, rowIf_ok, e1]
  · cases hv

/-! ### New -/
theorem rv_rep (O : Orc) (e : Env) (h : IHeap) (n : Nat) (z : IV) : runV O (.rep n z) e h = okO (some (.agg (List.replicate n z))) h := rfl
def zeros : List Int := List.replicate 65536 0
theorem zeros_len : zeros.length = 65536 := List.length_replicate
theorem zeros_map : zeros.map u8 = List.replicate 65536 (.int .u8 0) := by unfold zeros; rw [List.map_replicate]; rfl
theorem rowIf_zeros : rowIf (List.replicate 65536 (.int .u8 0)) = some (.row (zeros.map u8)) := by
  rw [zeros_map]
  refine rowIf_ok ?_
  rw [List.all_eq_true]
  intro x hx
  rw [List.eq_of_mem_replicate hx]; rfl
noncomputable def G65 : List IV → M IV := bodyI T0 (ocons 124 (rd g124) (ocons 121 G121 onil)) 0 ic65
theorem s65 : Sim Tryz.prog 65 G65 := body_sim (ocons_sim s124 (ocons_sim s121 onil_sim)) cc65 0
theorem G65_at {v : IV} {l : List Reg} (hv : decRegs v = some l) (hl : RegsOk l) (h : IHeap) : ∃ mb bb h2, G65 [v] h = .ok (.tup [.ptr mb 0, .int .i64 0]) h2 ∧ Grow h h2 ∧ MemR h2 mb bb zeros l ∧ h.n ≤ mb ∧ h.n ≤ bb := by
  obtain ⟨u, h2, e1, g1, r1, o1⟩ := G121_at hv hl.1 h
  have o124 : (ocons 124 (rd g124) (ocons 121 G121 onil)) 124 = rd g124 := rfl
  have o121 : (ocons 124 (rd g124) (ocons 121 G121 onil)) 121 = G121 := rfl
  have r124 := fun hh => rd124 hv hl hh
  have gg := g1.1
  refine ⟨h2.n + 1, h2.n, (h2.push (.row (zeros.map u8))).push (.row [u, .ptr h2.n 0]), ?_, (g1.trans (Grow.push _ _)).trans (Grow.push _ _), ⟨⟨u, ⟨?_, ?_, zeros_len⟩, (r1.grow (Grow.push _ _)).grow (Grow.push _ _)⟩, hl⟩, by omega, by omega⟩
  · unfold G65
    rw [body_eq rfl rfl rfl (by decide)]
    have ou := cells_one o1
    simp only [ss, hps, Nat.reduceEqDiff, Nat.reduceLT, Nat.reduceAdd, Nat.reduceLeDiff, Int.reduceLT, Int.reduceLE, Int.reduceEq, reduceIte, ic65, o124, r124, o121, e1, rv_rep, rowIf_zeros, rowIf_ok, o1, ou, cells_ptr, setCells]
  · simp [get_push_eq]
  · simp [get_push_eq]
end Go.Proofs.YtadeojgiiapljaaGreat.Im
namespace Go.Proofs.YtadeojgiiapljaaGreat.Im
open Go
set_option maxHeartbeats 1000000
/-- Rows that hold a text stay. -/
def StrStay (h h' : IHeap) : Prop := ∀ b cells, h.get b = some (.row cells) → (∃ s, IV.str s ∈ cells) → h'.get b = h.get b
theorem StrStay.refl (h : IHeap) : StrStay h h := fun _ _ _ _ => rfl
theorem StrStay.trans {h h1 h2 : IHeap} (a : StrStay h h1) (b : StrStay h1 h2) : StrStay h h2 := fun x c hx hs => (b x c ((a x c hx hs).trans hx) hs).trans (a x c hx hs)
theorem StrStay.grow {h h2 : IHeap} (g : Grow h h2) : StrStay h h2 := fun b _ hb _ => g.2 b (get_lt hb)
theorem StrStay.set {h : IHeap} {b : Nat} {cells : List IV} (hb : h.get b = some (.row cells)) (hn : ∀ s, IV.str s ∉ cells) (o : IObj) : StrStay h (h.set b o) := fun c cs hc hs => by
  obtain ⟨s, hs⟩ := hs
  refine get_set_ne ?_
  rintro rfl
  rw [hb] at hc; cases hc
  exact hn s hs
theorem RIn.stay {h h' : IHeap} {u : IV} {l : List Reg} (a : RIn h u l) (st : StrStay h h') : RIn h' u l := by
  refine ⟨a.len, fun i x hx => ?_⟩
  obtain ⟨p, h1, h2, q, h3, h4⟩ := a.at_ i x hx
  have key : ∀ b o, p = .ptr b o → h'.get b = h.get b := by
    rintro b o rfl
    rw [loadN_ptr] at h2
    simp only [Option.bind_eq_some_iff] at h2
    obtain ⟨ob, hg, hr⟩ := h2
    cases ob with
    | row cells =>
      refine st b cells hg ⟨x.name, ?_⟩
      simp only [rowN_row, subL_eq] at hr
      split at hr
      · have hr := Option.some.inj hr
        have : IV.str x.name ∈ (cells.drop o).take 4 := by rw [hr]; simp [Reg.cells]
        exact List.mem_of_mem_drop (List.mem_of_mem_take this)
      · cases hr
    | map es c => cases hr
    | dead => cases hr
  have h2' : Im.loadN h' p 4 = some x.cells := by
    cases p <;> try (exact h2)
    rename_i b o
    rw [loadN_ptr] at h2 ⊢
    rw [key b o rfl]; exact h2
  refine ⟨p, h1, h2', q, h3, ?_⟩
  cases p <;> simp only [faddrV] at h3 <;> try (cases h3; done)
  · rename_i b o
    cases h3
    rw [load1_ptr] at h4 ⊢
    rw [key b o rfl]; exact h4
  · split at h3
    · cases h3; exact h4
    · cases h3
theorem no_str_u8 (bs : List Int) (s : ByteArray) : IV.str s ∉ bs.map u8 := by simp [u8]
theorem MemAt.set {h : IHeap} {mb bb : Nat} {u : IV} {bs B : List Int} (m : MemAt h mb u bb bs) (hB : B.length = 65536) : MemAt (h.set bb (.row (B.map u8))) mb u bb B :=
  ⟨by rw [get_set_ne m.ne]; exact m.m, get_set_same m.b, hB⟩
theorem MemR.set {h : IHeap} {mb bb : Nat} {bs B : List Int} {l : List Reg} (m : MemR h mb bb bs l) (hB : B.length = 65536) : MemR (h.set bb (.row (B.map u8))) mb bb B l := by
  obtain ⟨⟨u, h1, h2⟩, h3⟩ := m
  exact ⟨⟨u, h1.set hB, h2.stay (StrStay.set h1.b (no_str_u8 bs) _)⟩, h3⟩
theorem MemR.bytes {h : IHeap} {mb bb : Nat} {bs : List Int} {l : List Reg} (m : MemR h mb bb bs l) : h.get bb = some (.row (bs.map u8)) ∧ bs.length = 65536 := by
  obtain ⟨⟨u, h1, h2⟩, h3⟩ := m
  exact ⟨h1.b, h1.len⟩

/-- What words fill. -/
def fillW (bs : List Int) (a : Nat) (w : List Int) : Nat → List Int
  | 0 => bs
  | k + 1 => putN (fillW bs a w k) (a + 8 * k) (w.getD k 0) 8
theorem fillW_len (bs : List Int) (a : Nat) (w : List Int) : ∀ k, (fillW bs a w k).length = bs.length
  | 0 => rfl
  | k + 1 => by simp [fillW, putN_len, fillW_len bs a w k]
def noReg : Reg := ⟨⟨#[]⟩, 0, 0, false⟩
def fillA (l : List Reg) (ws : List (List Int)) : Nat → List Int
  | 0 => zeros
  | i + 1 => fillW (fillA l ws i) (l.getD i noReg).addr.toNat (ws.getD i []) (ws.getD i []).length
theorem fillA_len (l : List Reg) (ws : List (List Int)) : ∀ k, (fillA l ws k).length = 65536
  | 0 => zeros_len
  | k + 1 => by simp [fillA, fillW_len, fillA_len l ws k]

theorem b34 {O : Orc} (h65 : O 65 = G65) (h66 : O 66 = G66) {v u : IV} {l : List Reg} {ws : List (List Int)} {h : IHeap} (hv : decRegs v = some l) (hu : decWs u = some ws) (hok : RegsOk l) (hfit : FitsOk l ws) :
    (ix O 4000010 ic34.body (startI 0 [v, u]) h).sat (fun y e h' => y = .ret ∧ ∃ mb bb, e.get 4 = some (.ptr mb 0) ∧ e.get 5 = some (.int .i64 0) ∧ Grow h h' ∧ MemR h' mb bb (fillA l ws ws.length) l ∧ h.n ≤ mb ∧ h.n ≤ bb) (fun _ _ _ => False) := by
  obtain ⟨mb, bb, h2, e65, g2, m2, hmb, hbb⟩ := G65_at hv hok h
  have lv := decRegs_len hv
  have lu := decWs_len hu
  have hlen := hfit.len
  have h16 := hok.1
  unfold ic34
  simp only [start_cons, start_nil]
  refine sat_seq ?_
  simp only [ss, hps, Nat.reduceEqDiff, Nat.reduceLT, Nat.reduceAdd, Nat.reduceLeDiff, Int.reduceLT, Int.reduceLE, Int.reduceEq, reduceIte]
  refine sat_next (sat_seq ?_)
  simp only [ss, hps, Nat.reduceEqDiff, Nat.reduceLT, Nat.reduceAdd, Nat.reduceLeDiff, Int.reduceLT, Int.reduceLE, Int.reduceEq, reduceIte, h65, e65, extract_0, extract_1]
  refine sat_next (sat_seq (sat_seq ?_))
  have c1 : ((ws.length : Int) = l.length) = True := by simp [hlen]
  simp only [ss, hps, Nat.reduceEqDiff, Nat.reduceLT, Nat.reduceAdd, Nat.reduceLeDiff, Int.reduceLT, Int.reduceLE, Int.reduceEq, reduceIte, lv, lu, c1]
  refine sat_next (sat_condK ?_)
  simp only [ss, hps, Nat.reduceEqDiff, Nat.reduceLT, Nat.reduceAdd, Nat.reduceLeDiff, Int.reduceLT, Int.reduceLE, Int.reduceEq, reduceIte]
  refine sat_next (sat_seq (sat_seq ?_))
  simp only [ss, hps, Nat.reduceEqDiff, Nat.reduceLT, Nat.reduceAdd, Nat.reduceLeDiff, Int.reduceLT, Int.reduceLE, Int.reduceEq, reduceIte, lu]
  refine sat_next (sat_block (sat_loop (fun m e h' => ∃ i, i + m = ws.length ∧ e.get 28 = some (.int .i64 i) ∧ h' = h2.set bb (.row ((fillA l ws i).map u8))) ws.length (by omega) ?_ ?_))
  · refine ⟨0, by omega, by simp [get_put, puto_some], ?_⟩
    exact (set_same m2.bytes.1).symm
  · rintro m e h' ⟨i, hi, h28, hh⟩ hf
    have h0 := hf 0 rfl
    have h1 := hf 1 rfl
    have h6 := hf 6 rfl
    have h26 := hf 26 rfl
    have h27 := hf 27 rfl
    simp only [ss, hps, Nat.reduceEqDiff, Nat.reduceLT, Nat.reduceAdd, Nat.reduceLeDiff, Int.reduceLT, Int.reduceLE, Int.reduceEq, reduceIte, get_put, puto_some] at h0 h1 h6 h26 h27
    refine sat_seq ?_
    simp only [ss, hps, Nat.reduceEqDiff, Nat.reduceLT, Nat.reduceAdd, Nat.reduceLeDiff, Int.reduceLT, Int.reduceLE, Int.reduceEq, reduceIte, h28, h27]
    refine sat_next (sat_seq (sat_condK ?_))
    simp only [ss, hps, Nat.reduceEqDiff, Nat.reduceLT, Nat.reduceAdd, Nat.reduceLeDiff, Int.reduceLT, Int.reduceLE, Int.reduceEq, reduceIte]
    refine sat_condD (fun hlt => ?_) (fun hge => ?_)
    · have hlt : i < ws.length := by omega
      obtain ⟨x, hx⟩ := get_len (show i < l.length by omega)
      obtain ⟨w, hw⟩ := get_len hlt
      obtain ⟨_, _, _, rest, hia⟩ := decRegs_at hv hx
      obtain ⟨hwl, c, rest', hib, hc⟩ := decWs_at hu hw
      have lc := decInts_len hc
      have hsz := hfit.at hx hw
      obtain ⟨k1, k2, k3, k4, k5, k6, k7⟩ := hok.2.1 x (mem_of_get hx)
      have q : ((w.length : Int) = x.size) = True := by simp [hsz]
      obtain ⟨a, ha⟩ : ∃ a : Nat, x.addr = a := ⟨x.addr.toNat, by omega⟩
      refine sat_skip (sat_seq (sat_block (sat_seq ?_)))
      simp only [ss, hps, Nat.reduceEqDiff, Nat.reduceLT, Nat.reduceAdd, Nat.reduceLeDiff, Int.reduceLT, Int.reduceLE, Int.reduceEq, reduceIte, h28, h26, hib]
      refine sat_next (sat_seq (sat_seq ?_))
      simp only [ss, hps, Nat.reduceEqDiff, Nat.reduceLT, Nat.reduceAdd, Nat.reduceLeDiff, Int.reduceLT, Int.reduceLE, Int.reduceEq, reduceIte, h0, hia, lc, q]
      refine sat_next (sat_condK ?_)
      simp only [ss, hps, Nat.reduceEqDiff, Nat.reduceLT, Nat.reduceAdd, Nat.reduceLeDiff, Int.reduceLT, Int.reduceLE, Int.reduceEq, reduceIte]
      refine sat_next (sat_seq ?_)
      simp only [ss, hps, Nat.reduceEqDiff, Nat.reduceLT, Nat.reduceAdd, Nat.reduceLeDiff, Int.reduceLT, Int.reduceLE, Int.reduceEq, reduceIte, lc]
      refine sat_next (sat_block (sat_loop (fun m' e' h'' => ∃ k, k + m' = w.length ∧ e'.get 43 = some (.int .i64 k) ∧ h'' = h2.set bb (.row ((fillW (fillA l ws i) a w k).map u8))) w.length (by omega) ?_ ?_))
      · exact ⟨0, by omega, by simp [get_put, puto_some], hh⟩
      · rintro m' e' h'' ⟨k, hk, j43, hh'⟩ hf'
        have j0 := hf' 0 rfl
        have j6 := hf' 6 rfl
        have j8 := hf' 8 rfl
        have j41 := hf' 41 rfl
        have j42 := hf' 42 rfl
        simp only [ss, hps, Nat.reduceEqDiff, Nat.reduceLT, Nat.reduceAdd, Nat.reduceLeDiff, Int.reduceLT, Int.reduceLE, Int.reduceEq, reduceIte, get_put, puto_some, h0, h6] at j0 j6 j8 j41 j42
        refine sat_seq ?_
        simp only [ss, hps, Nat.reduceEqDiff, Nat.reduceLT, Nat.reduceAdd, Nat.reduceLeDiff, Int.reduceLT, Int.reduceLE, Int.reduceEq, reduceIte, j43, j42]
        refine sat_next (sat_seq (sat_condK ?_))
        simp only [ss, hps, Nat.reduceEqDiff, Nat.reduceLT, Nat.reduceAdd, Nat.reduceLeDiff, Int.reduceLT, Int.reduceLE, Int.reduceEq, reduceIte]
        refine sat_condD (fun hlt' => ?_) (fun hge' => ?_)
        · have hlt' : k < w.length := by omega
          obtain ⟨z, hz⟩ := get_len hlt'
          obtain ⟨rest2, hic⟩ := decInts_at hc hz
          have hzd : w.getD k 0 = z := by simp [List.getD, hz]
          have w2 : IntKind.i64.wrap (8 * (k : Int)) = 8 * k := wrap_i64 (by omega) (by omega)
          have w3 : IntKind.i64.wrap ((a : Int) + 8 * k) = ((a + 8 * k : Nat) : Int) := by rw [wrap_i64 (by omega) (by omega)]; simp
          have w4 : IntKind.i64.wrap ((k : Int) + 1) = ((k + 1 : Nat) : Int) := by rw [wrap_i64 (by omega) (by omega)]; simp
          have hm := m2.set (B := fillW (fillA l ws i) a w k) (by rw [fillW_len, fillA_len])
          rw [← hh'] at hm
          obtain ⟨⟨u', hu', _⟩, _⟩ := hm
          have r66 := G66_at (a := a + 8 * k) (x := z) hu' (by omega)
          rw [hh', set_set] at r66
          refine sat_skip (sat_seq (sat_block (sat_seq ?_)))
          simp only [ss, hps, Nat.reduceEqDiff, Nat.reduceLT, Nat.reduceAdd, Nat.reduceLeDiff, Int.reduceLT, Int.reduceLE, Int.reduceEq, reduceIte, j43, j41, hic]
          refine sat_next ?_
          simp only [ss, hps, Nat.reduceEqDiff, Nat.reduceLT, Nat.reduceAdd, Nat.reduceLeDiff, Int.reduceLT, Int.reduceLE, Int.reduceEq, reduceIte, j6, j0, j8, hia, ha, w2, w3, h66, hh', r66]
          refine sat_blk (sat_next ?_)
          simp only [ss, hps, Nat.reduceEqDiff, Nat.reduceLT, Nat.reduceAdd, Nat.reduceLeDiff, Int.reduceLT, Int.reduceLE, Int.reduceEq, reduceIte, j43, w4]
          exact sat_again (m' - 1) (by omega) ⟨k + 1, by omega, by simp only [ss, hps, Nat.reduceEqDiff, Nat.reduceLT, Nat.reduceAdd, Nat.reduceLeDiff, Int.reduceLT, Int.reduceLE, Int.reduceEq, reduceIte], by rw [fillW, hzd]⟩
        · have hge' : k = w.length := by omega
          subst hge'
          refine sat_brk fun hf2 => sat_blk (sat_next ?_)
          have i28 := hf2 28 rfl
          simp only [ss, hps, Nat.reduceEqDiff, Nat.reduceLT, Nat.reduceAdd, Nat.reduceLeDiff, Int.reduceLT, Int.reduceLE, Int.reduceEq, reduceIte, get_put, puto_some, h28] at i28
          have w3 : IntKind.i64.wrap ((i : Int) + 1) = ((i + 1 : Nat) : Int) := by rw [wrap_i64 (by omega) (by omega)]; simp
          simp only [ss, hps, Nat.reduceEqDiff, Nat.reduceLT, Nat.reduceAdd, Nat.reduceLeDiff, Int.reduceLT, Int.reduceLE, Int.reduceEq, reduceIte, i28, w3]
          refine sat_again (m - 1) (by omega) ⟨i + 1, by omega, by simp only [ss, hps, Nat.reduceEqDiff, Nat.reduceLT, Nat.reduceAdd, Nat.reduceLeDiff, Int.reduceLT, Int.reduceLE, Int.reduceEq, reduceIte], ?_⟩
          have e1 : l.getD i noReg = x := by simp [List.getD, hx]
          have e2 : ws.getD i [] = w := by simp [List.getD, hw]
          rw [fillA, e1, e2, hh', ha]; rfl
    · have hge : i = ws.length := by omega
      subst hge
      refine sat_brk fun hf2 => sat_next (sat_seq ?_)
      simp only [ss, hps, Nat.reduceEqDiff, Nat.reduceLT, Nat.reduceAdd, Nat.reduceLeDiff, Int.reduceLT, Int.reduceLE, Int.reduceEq, reduceIte, h6]
      refine sat_next (sat_ret ⟨rfl, mb, bb, by simp only [ss, hps, Nat.reduceEqDiff, Nat.reduceLT, Nat.reduceAdd, Nat.reduceLeDiff, Int.reduceLT, Int.reduceLE, Int.reduceEq, reduceIte], by simp only [ss, hps, Nat.reduceEqDiff, Nat.reduceLT, Nat.reduceAdd, Nat.reduceLeDiff, Int.reduceLT, Int.reduceLE, Int.reduceEq, reduceIte], ?_, ?_, hmb, hbb⟩)
      · rw [hh]
        exact ⟨g2.1, fun b hb => by rw [get_set_ne (by omega)]; exact g2.2 b hb⟩
      · rw [hh]; exact m2.set (fillA_len _ _ _)
noncomputable def G34 : List IV → M IV := bodyI T0 (ocons 65 G65 (ocons 66 G66 onil)) 4000010 ic34
theorem s34 : Sim Tryz.prog 34 G34 := body_sim (ocons_sim s65 (ocons_sim s66 onil_sim)) cc34 4000010
theorem G34_at {v u : IV} {l : List Reg} {ws : List (List Int)} (h : IHeap) (hv : decRegs v = some l) (hu : decWs u = some ws) (hok : RegsOk l) (hfit : FitsOk l ws) :
    ∃ mb bb h', G34 [v, u] h = .ok (.tup [.ptr mb 0, .int .i64 0]) h' ∧ Grow h h' ∧ MemR h' mb bb (fillA l ws ws.length) l ∧ h.n ≤ mb ∧ h.n ≤ bb := by
  unfold G34
  rw [body_eq rfl rfl rfl (by decide)]
  rcases sat_inv (b34 (O := ocons 65 G65 (ocons 66 G66 onil)) (h := h) rfl rfl hv hu hok hfit) with ⟨x, e, h', h1, rfl, mb, bb, h2, h3, h4, h5, h6, h7⟩ | ⟨_, _, _, _, hf⟩
  · refine ⟨mb, bb, h', ?_, h4, h5, h6, h7⟩
    rw [h1]
    simp only [ss, hps, Nat.reduceEqDiff, Nat.reduceLT, Nat.reduceAdd, Nat.reduceLeDiff, Int.reduceLT, Int.reduceLE, Int.reduceEq, reduceIte, ic34, h2, h3]
  · exact hf.elim
end Go.Proofs.YtadeojgiiapljaaGreat.Im
namespace Go.Proofs.YtadeojgiiapljaaGreat.Im
open Go
set_option maxHeartbeats 1000000
/-- The reference's memory. -/
structure WAt (h : IHeap) (wb : Nat) (u : IV) (sb : Nat) (bs : List Int) : Prop where
  m : h.get wb = some (.row [u, .slice sb 0 65536 65536])
  b : h.get sb = some (.row (bs.map u8))
  len : bs.length = 65536
theorem WAt.ne {h : IHeap} {wb sb : Nat} {u : IV} {bs : List Int} (hm : WAt h wb u sb bs) : wb ≠ sb := by
  rintro rfl
  have h1 := hm.m; rw [hm.b] at h1
  have h2 : bs.map u8 = [u, .slice wb 0 65536 65536] := by injection h1 with h1; injection h1
  have h3 := congrArg List.length h2
  simp [hm.len] at h3
theorem WAt.set {h : IHeap} {wb sb : Nat} {u : IV} {bs B : List Int} (m : WAt h wb u sb bs) (hB : B.length = 65536) : WAt (h.set sb (.row (B.map u8))) wb u sb B :=
  ⟨by rw [get_set_ne m.ne]; exact m.m, get_set_same m.b, hB⟩
theorem mk_zeros (O : Orc) (e : Env) (h : IHeap) : runV O (.mkslice [.int .u8 0] 1 (.c (.int .i64 65536)) (.c (.int .i64 65536))) e h = .ok (.slice h.n 0 65536 65536) (h.push (.row (zeros.map u8))) := by
  have e1 : (List.replicate (65536 : Int).toNat [IV.int IntKind.u8 0]).flatten = zeros.map u8 := by
    rw [zeros_map]
    have : ∀ n : Nat, (List.replicate n [IV.int IntKind.u8 0]).flatten = List.replicate n (IV.int IntKind.u8 0) := by
      intro n; induction n with
      | zero => rfl
      | succ n ih => rw [List.replicate_succ, List.flatten_cons, ih]; rfl
    exact this 65536
  simp only [rv_mkslice, ev_c, bindR_some, intV_int, e1]
  rw [if_pos (by decide)]; rfl
theorem apps {h : IHeap} {v : IV} {l : List Reg} (hv : decRegs v = some l) (hl : l.length ≤ 16) : ∃ u h2, appendI 4 40 .nils v h = .ok u h2 ∧ Grow h h2 ∧ RIn h2 u l ∧ u.one = true := by
  unfold decRegs at hv
  split at hv
  · cases hv
    exact ⟨.nils, h, by simp [appendI, sliceLen, sliceCells], Grow.refl h, RIn.nils h, rfl⟩
  · rename_i cells n
    obtain ⟨h1, h2, _⟩ := decRs_get hv
    by_cases hn : n = 0
    · subst hn
      have : l = [] := List.eq_nil_of_length_eq_zero h1
      subst this
      exact ⟨.nils, h, by simp [appendI, sliceLen, sliceCells, Im.loadN], Grow.refl h, RIn.nils h, rfl⟩
    · exact ⟨.aslice h.n 0 n 4, h.push (.row (cells.take (n * 4))), app_const (.inl rfl) (by omega) (by omega) h2 (by omega) (by omega) (decRs_one hv), Grow.push _ _, RIn.clone hv (by simp [get_push_eq]), rfl⟩
  · cases hv
def G35 : List IV → M IV := bodyI T0 onil 0 ic35
theorem s35 : Sim Tryz.prog 35 G35 := body_sim onil_sim cc35 0
theorem G35_at {v : IV} {l : List Reg} (hv : decRegs v = some l) (hl : l.length ≤ 16) (h : IHeap) : ∃ wb u h2, G35 [v] h = .ok (.ptr wb 0) h2 ∧ Grow h h2 ∧ WAt h2 wb u h.n zeros ∧ RIn h2 u l := by
  obtain ⟨u, h2, e1, g1, r1, o1⟩ := apps (h := h.push (.row (zeros.map u8))) hv hl
  have ou := cells_one o1
  have hz : (h.push (.row (zeros.map u8))).get h.n = some (.row (zeros.map u8)) := by simp [get_push_eq]
  have hz2 := g1.get hz
  have hlt := get_lt hz2
  refine ⟨h2.n, u, h2.push (.row [u, .slice h.n 0 65536 65536]), ?_, ((Grow.push _ _).trans g1).trans (Grow.push _ _), ⟨by simp [get_push_eq], ?_, zeros_len⟩, r1.grow (Grow.push _ _)⟩
  · unfold G35
    rw [body_eq rfl rfl rfl (by decide)]
    simp only [ss, hps, Nat.reduceEqDiff, Nat.reduceLT, Nat.reduceAdd, Nat.reduceLeDiff, Int.reduceLT, Int.reduceLE, Int.reduceEq, reduceIte, ic35, ↓mk_zeros, e1, rowIf_ok, o1, ou, cells_sl, setCells]
  · rw [get_push_old hlt]; exact hz2
theorem b67 {O : Orc} {h : IHeap} {wb sb a : Nat} {u : IV} {bs : List Int} {x : Int} (hm : WAt h wb u sb bs) (ha : a + 8 ≤ 65536) :
    (ix O 100 ic67.body (startI 0 [.ptr wb 0, .int .i64 (a : Int), .int .u64 x]) h).sat (fun y e h' => y = .normal ∧ h' = h.set sb (.row ((putN bs a x 8).map u8))) (fun _ _ _ => False) := by
  unfold ic67
  simp only [start_cons, start_nil]
  refine sat_seq ?_
  simp only [ss, hps, Nat.reduceEqDiff, Nat.reduceLT, Nat.reduceAdd, Nat.reduceLeDiff, Int.reduceLT, Int.reduceLE, Int.reduceEq, reduceIte]
  refine sat_next (sat_block (sat_loop (fun m e h' => ∃ i, i + m = 8 ∧ e.get 6 = some (.int .i64 i) ∧ h' = h.set sb (.row ((putN bs a x i).map u8))) 8 (by omega) ?_ ?_))
  · refine ⟨0, by omega, by simp [get_put, puto_some], ?_⟩
    exact (set_same hm.b).symm
  · rintro m e h' ⟨i, hi, h6, hh⟩ hf
    have h0 := hf 0 rfl
    have h1 := hf 1 rfl
    have h2 := hf 2 rfl
    simp only [ss, hps, Nat.reduceEqDiff, Nat.reduceLT, Nat.reduceAdd, Nat.reduceLeDiff, Int.reduceLT, Int.reduceLE, Int.reduceEq, reduceIte, get_put, puto_some] at h0 h1 h2
    clear hf
    have gm : h'.get wb = some (.row [u, .slice sb 0 65536 65536]) := by rw [hh, get_set_ne hm.ne]; exact hm.m
    have gb : h'.get sb = some (.row ((putN bs a x i).map u8)) := by rw [hh]; exact get_set_same hm.b
    refine sat_seq (sat_seq ?_)
    simp only [ss, hps, Nat.reduceEqDiff, Nat.reduceLT, Nat.reduceAdd, Nat.reduceLeDiff, Int.reduceLT, Int.reduceLE, Int.reduceEq, reduceIte, h6]
    refine sat_next (sat_condK ?_)
    simp only [ss, hps, Nat.reduceEqDiff, Nat.reduceLT, Nat.reduceAdd, Nat.reduceLeDiff, Int.reduceLT, Int.reduceLE, Int.reduceEq, reduceIte]
    refine sat_condD (fun hlt => ?_) (fun hge => ?_)
    · have hlt : i < 8 := by omega
      have w1 : IntKind.i64.wrap ((a : Int) + i) = ((a + i : Nat) : Int) := by rw [wrap_i64 (by omega) (by omega)]; simp
      have w2 : IntKind.i64.wrap (8 * (i : Int)) = ((8 * i : Nat) : Int) := by rw [wrap_i64 (by omega) (by omega)]; simp
      have w2' : IntKind.u64.wrap ((8 * i : Nat) : Int) = ((8 * i : Nat) : Int) := by rw [wrap_u64 (by omega) (by omega)]
      have w3 : IntKind.i64.wrap ((i : Int) + 1) = ((i + 1 : Nat) : Int) := by rw [wrap_i64 (by omega) (by omega)]; simp
      have hlt' : a + i < 65536 := by omega
      have hL : (List.map u8 (putN bs a x i)).length = 65536 := by simp [putN_len, hm.len]
      have hle : a + i + 1 ≤ 65536 := by omega
      have hb8 : IntKind.u64.bits = 64 := rfl
      refine sat_skip ?_
      simp only [ss, hps, Nat.reduceEqDiff, Nat.reduceLT, Nat.reduceAdd, Nat.reduceLeDiff, Int.reduceLT, Int.reduceLE, Int.reduceEq, reduceIte, h6, h0, h1, h2, gm, gb, w1, w2, w2', w3, hlt', bin_shr, nilchk_ptr, conv_int, hL, hle]
      refine sat_again (m - 1) (by omega) ⟨i + 1, by omega, by simp only [ss, hps, Nat.reduceEqDiff, Nat.reduceLT, Nat.reduceAdd, Nat.reduceLeDiff, Int.reduceLT, Int.reduceLE, Int.reduceEq, reduceIte], ?_⟩
      have : [IV.int IntKind.u8 (IntKind.u8.wrap (x.fdiv (2 ^ min (8 * i) IntKind.u64.bits)))] = [u8 (byteOf x i)] := rfl
      rw [this, setCells_one (by simp [putN_len, hm.len]; omega), hh, set_set]; rfl
    · have hge : i = 8 := by omega
      subst hge
      exact sat_brk (X := fun _ _ _ => False) fun _ => ⟨rfl, hh⟩
def G67 : List IV → M IV := bodyI T0 onil 100 ic67
theorem s67 : Sim Tryz.prog 67 G67 := body_sim onil_sim cc67 100
theorem G67_at {h : IHeap} {wb sb a : Nat} {u : IV} {bs : List Int} {x : Int} (hm : WAt h wb u sb bs) (ha : a + 8 ≤ 65536) : G67 [.ptr wb 0, .int .i64 (a : Int), .int .u64 x] h = .ok (.tup []) (h.set sb (.row ((putN bs a x 8).map u8))) := by
  obtain ⟨h', h1, h2⟩ := unit_done (T := T0) rfl rfl rfl (by decide) rfl (b67 (O := onil) hm ha)
  rw [h2] at h1; exact h1
theorem b36 {O : Orc} (h67 : O 67 = G67) {h : IHeap} {wb sb : Nat} {u v : IV} {l : List Reg} {ws : List (List Int)} {bs : List Int} (hm : WAt h wb u sb bs) (hr : RIn h u l) (hu : decWs v = some ws) (hok : RegsOk l) (hfit : FitsOk l ws) :
    (ix O 4000010 ic36.body (startI 0 [.ptr wb 0, v]) h).sat (fun y e h' => y = .normal ∧ ∃ B : List Int, B.length = 65536 ∧ h' = h.set sb (.row (B.map u8))) (fun _ _ _ => False) := by
  have lu := decWs_len hu
  have hlen := hfit.len
  have h16 := hok.1
  unfold ic36
  simp only [start_cons, start_nil]
  refine sat_seq ?_
  simp only [ss, hps, Nat.reduceEqDiff, Nat.reduceLT, Nat.reduceAdd, Nat.reduceLeDiff, Int.reduceLT, Int.reduceLE, Int.reduceEq, reduceIte]
  refine sat_next (sat_block (sat_loop (fun m e h' => ∃ i, i + m = ws.length ∧ e.get 4 = some (.int .i64 i) ∧ ∃ B : List Int, B.length = 65536 ∧ h' = h.set sb (.row (B.map u8))) ws.length (by omega) ?_ ?_))
  · refine ⟨0, by omega, by simp [get_put, puto_some], bs, hm.len, ?_⟩
    exact (set_same hm.b).symm
  · rintro m e h' ⟨i, hi, h4, B, hB, hh⟩ hf
    have h0 := hf 0 rfl
    have h1 := hf 1 rfl
    simp only [ss, hps, Nat.reduceEqDiff, Nat.reduceLT, Nat.reduceAdd, Nat.reduceLeDiff, Int.reduceLT, Int.reduceLE, Int.reduceEq, reduceIte, get_put, puto_some] at h0 h1
    refine sat_seq (sat_seq ?_)
    simp only [ss, hps, Nat.reduceEqDiff, Nat.reduceLT, Nat.reduceAdd, Nat.reduceLeDiff, Int.reduceLT, Int.reduceLE, Int.reduceEq, reduceIte, h4, h1, lu]
    refine sat_next (sat_condK ?_)
    simp only [ss, hps, Nat.reduceEqDiff, Nat.reduceLT, Nat.reduceAdd, Nat.reduceLeDiff, Int.reduceLT, Int.reduceLE, Int.reduceEq, reduceIte]
    refine sat_condD (fun hlt => ?_) (fun hge => ?_)
    · have hlt : i < ws.length := by omega
      obtain ⟨x, hx⟩ := get_len (show i < l.length by omega)
      obtain ⟨w, hw⟩ := get_len hlt
      obtain ⟨hwl, c, rest', hib, hc⟩ := decWs_at hu hw
      have lc := decInts_len hc
      have hsz := hfit.at hx hw
      obtain ⟨k1, k2, k3, k4, k5, k6, k7⟩ := hok.2.1 x (mem_of_get hx)
      obtain ⟨a, ha⟩ : ∃ a : Nat, x.addr = a := ⟨x.addr.toNat, by omega⟩
      refine sat_skip (sat_seq (sat_block (sat_seq ?_)))
      simp only [ss, hps, Nat.reduceEqDiff, Nat.reduceLT, Nat.reduceAdd, Nat.reduceLeDiff, Int.reduceLT, Int.reduceLE, Int.reduceEq, reduceIte]
      refine sat_next (sat_block (sat_loop (fun m' e' h'' => ∃ k, k + m' = w.length ∧ e'.get 5 = some (.int .i64 k) ∧ ∃ B : List Int, B.length = 65536 ∧ h'' = h.set sb (.row (B.map u8))) w.length (by omega) ?_ ?_))
      · exact ⟨0, by omega, by simp [get_put, puto_some], B, hB, hh⟩
      · rintro m' e' h'' ⟨k, hk, j5, B', hB', hh'⟩ hf'
        have j0 := hf' 0 rfl
        have j1 := hf' 1 rfl
        have j4 := hf' 4 rfl
        simp only [ss, hps, Nat.reduceEqDiff, Nat.reduceLT, Nat.reduceAdd, Nat.reduceLeDiff, Int.reduceLT, Int.reduceLE, Int.reduceEq, reduceIte, get_put, puto_some, h0, h1, h4] at j0 j1 j4
        refine sat_seq (sat_seq ?_)
        simp only [ss, hps, Nat.reduceEqDiff, Nat.reduceLT, Nat.reduceAdd, Nat.reduceLeDiff, Int.reduceLT, Int.reduceLE, Int.reduceEq, reduceIte, j5, j1, j4, hib, lc]
        refine sat_next (sat_condK ?_)
        simp only [ss, hps, Nat.reduceEqDiff, Nat.reduceLT, Nat.reduceAdd, Nat.reduceLeDiff, Int.reduceLT, Int.reduceLE, Int.reduceEq, reduceIte]
        refine sat_condD (fun hlt' => ?_) (fun hge' => ?_)
        · have hlt' : k < w.length := by omega
          obtain ⟨z, hz⟩ := get_len hlt'
          obtain ⟨rest2, hic⟩ := decInts_at hc hz
          have w2 : IntKind.i64.wrap (8 * (k : Int)) = 8 * k := wrap_i64 (by omega) (by omega)
          have w3 : IntKind.i64.wrap ((a : Int) + 8 * k) = ((a + 8 * k : Nat) : Int) := by rw [wrap_i64 (by omega) (by omega)]; simp
          have w4 : IntKind.i64.wrap ((k : Int) + 1) = ((k + 1 : Nat) : Int) := by rw [wrap_i64 (by omega) (by omega)]; simp
          have hm2 := hm.set hB'
          rw [← hh'] at hm2
          have gm := hm2.m
          have hr2 := hr.stay (StrStay.set hm.b (no_str_u8 bs) (.row (B'.map u8)))
          rw [← hh'] at hr2
          obtain ⟨p, hp, _, q, hq, hl1⟩ := hr2.at_ i x hx
          rw [ha] at hl1
          have r67 := G67_at (a := a + 8 * k) (x := z) hm2 (by omega)
          refine sat_skip (sat_seq (sat_block ?_))
          simp only [ss, hps, Nat.reduceEqDiff, Nat.reduceLT, Nat.reduceAdd, Nat.reduceLeDiff, Int.reduceLT, Int.reduceLE, Int.reduceEq, reduceIte, ds, j5, j0, j1, j4, hib, hic, gm, nilchk_ptr, hp, hq, hl1, w2, w3, h67, r67]
          refine sat_blk (sat_next ?_)
          simp only [ss, hps, Nat.reduceEqDiff, Nat.reduceLT, Nat.reduceAdd, Nat.reduceLeDiff, Int.reduceLT, Int.reduceLE, Int.reduceEq, reduceIte, j5, w4]
          refine sat_again (m' - 1) (by omega) ⟨k + 1, by omega, by simp only [ss, hps, Nat.reduceEqDiff, Nat.reduceLT, Nat.reduceAdd, Nat.reduceLeDiff, Int.reduceLT, Int.reduceLE, Int.reduceEq, reduceIte], putN B' (a + 8 * k) z 8, by rw [putN_len]; exact hB', ?_⟩
          rw [hh', set_set]
        · have hge' : k = w.length := by omega
          subst hge'
          refine sat_brk fun hf2 => sat_blk (sat_next ?_)
          have i4 := hf2 4 rfl
          simp only [ss, hps, Nat.reduceEqDiff, Nat.reduceLT, Nat.reduceAdd, Nat.reduceLeDiff, Int.reduceLT, Int.reduceLE, Int.reduceEq, reduceIte, get_put, puto_some, h4] at i4
          have w3 : IntKind.i64.wrap ((i : Int) + 1) = ((i + 1 : Nat) : Int) := by rw [wrap_i64 (by omega) (by omega)]; simp
          simp only [ss, hps, Nat.reduceEqDiff, Nat.reduceLT, Nat.reduceAdd, Nat.reduceLeDiff, Int.reduceLT, Int.reduceLE, Int.reduceEq, reduceIte, i4, w3]
          exact sat_again (m - 1) (by omega) ⟨i + 1, by omega, by simp only [ss, hps, Nat.reduceEqDiff, Nat.reduceLT, Nat.reduceAdd, Nat.reduceLeDiff, Int.reduceLT, Int.reduceLE, Int.reduceEq, reduceIte], B', hB', hh'⟩
    · exact sat_brk (X := fun _ _ _ => False) fun _ => ⟨rfl, B, hB, hh⟩
def G36 : List IV → M IV := bodyI T0 (ocons 67 G67 onil) 4000010 ic36
theorem s36 : Sim Tryz.prog 36 G36 := body_sim (ocons_sim s67 onil_sim) cc36 4000010
theorem G36_at {h : IHeap} {wb sb : Nat} {u v : IV} {l : List Reg} {ws : List (List Int)} {bs : List Int} (hm : WAt h wb u sb bs) (hr : RIn h u l) (hu : decWs v = some ws) (hok : RegsOk l) (hfit : FitsOk l ws) :
    ∃ B : List Int, G36 [.ptr wb 0, v] h = .ok (.tup []) (h.set sb (.row (B.map u8))) := by
  obtain ⟨h', h1, B, _, h2⟩ := unit_done (T := T0) rfl rfl rfl (by decide) rfl (b36 (O := ocons 67 G67 onil) rfl hm hr hu hok hfit)
  rw [h2] at h1; exact ⟨B, h1⟩
/-! ### regions -/
noncomputable def O8 : Orc := ocons 32 (rd g32) (ocons 33 (rd g33) (ocons 34 G34 (ocons 35 G35 (ocons 36 G36 onil))))
theorem O8_sim : ∀ g, Sim Tryz.prog g (O8 g) := ocons_sim s32 (ocons_sim s33 (ocons_sim s34 (ocons_sim s35 (ocons_sim s36 onil_sim))))
noncomputable def G8 : List IV → M IV := bodyI T0 O8 0 ic8
theorem s8 : Sim Tryz.prog 8 G8 := body_sim O8_sim cc8 0
theorem rd32 {v : IV} {l : List Reg} (hv : decRegs v = some l) (hl : l.length < 4000000) (h : IHeap) : rd g32 [v] h = .ok (.bool (decide (RegsOk l))) h := by
  simp [rd, g32, hv, hl, okO]
theorem rd33 {v u : IV} {l : List Reg} {ws : List (List Int)} (hv : decRegs v = some l) (hu : decWs u = some ws) (sl : l.length < 4000000) (sw : ws.length < 4000000) (h : IHeap) : rd g33 [v, u] h = .ok (.bool (decide (FitsOk l ws))) h := by
  simp [rd, g33, hv, hu, sl, sw, okO]
theorem G8_no {v u : IV} {l : List Reg} {ws : List (List Int)} (hv : decRegs v = some l) (hu : decWs u = some ws) (sl : l.length < 4000000) (sw : ws.length < 4000000) (hn : ¬ (RegsOk l ∧ FitsOk l ws)) (h : IHeap) : G8 [v, u] h = .ok (.tup [.nilp, .nilp, .bool false]) h := by
  unfold G8
  rw [body_eq rfl rfl rfl (by decide)]
  have o32 : O8 32 = rd g32 := rfl
  have o33 : O8 33 = rd g33 := rfl
  have r32 := rd32 hv sl h
  have r33 := rd33 hv hu sl sw h
  by_cases q1 : RegsOk l
  · have q2 : ¬ FitsOk l ws := fun hh => hn ⟨q1, hh⟩
    simp only [ss, hps, Nat.reduceEqDiff, Nat.reduceLT, Nat.reduceAdd, Nat.reduceLeDiff, Int.reduceLT, Int.reduceLE, Int.reduceEq, reduceIte, ic8, o32, o33, r32, r33, q1, q2]
  · simp only [ss, hps, Nat.reduceEqDiff, Nat.reduceLT, Nat.reduceAdd, Nat.reduceLeDiff, Int.reduceLT, Int.reduceLE, Int.reduceEq, reduceIte, ic8, o32, o33, r32, r33, q1]
theorem G8_ok {v u : IV} {l : List Reg} {ws : List (List Int)} (hv : decRegs v = some l) (hu : decWs u = some ws) (sw : ws.length < 4000000) (hok : RegsOk l) (hfit : FitsOk l ws) (h : IHeap) :
    ∃ mb bb wb h', G8 [v, u] h = .ok (.tup [.ptr mb 0, .ptr wb 0, .bool true]) h' ∧ Grow h h' ∧ MemR h' mb bb (fillA l ws ws.length) l ∧ h.n ≤ mb ∧ h.n ≤ bb := by
  have h16 := hok.1
  have o32 : O8 32 = rd g32 := rfl
  have o33 : O8 33 = rd g33 := rfl
  have o34 : O8 34 = G34 := rfl
  have o35 : O8 35 = G35 := rfl
  have o36 : O8 36 = G36 := rfl
  have r32 := rd32 hv (by omega) h
  have r33 := rd33 hv hu (by omega) sw h
  obtain ⟨mb, bb, h1, e1, g1, m1, hmb, hbb⟩ := G34_at h hv hu hok hfit
  obtain ⟨wb, u', h2, e2, g2, w2, r2⟩ := G35_at hv h16 h1
  obtain ⟨B, e3⟩ := G36_at w2 r2 hu hok hfit
  have g3 : Grow h1 (h2.set h1.n (.row (B.map u8))) := ⟨g2.1, fun b hb => by rw [get_set_ne (by omega)]; exact g2.2 b hb⟩
  refine ⟨mb, bb, wb, _, ?_, g1.trans g3, m1.grow g3, hmb, hbb⟩
  unfold G8
  rw [body_eq rfl rfl rfl (by decide)]
  simp only [ss, hps, Nat.reduceEqDiff, Nat.reduceLT, Nat.reduceAdd, Nat.reduceLeDiff, Int.reduceLT, Int.reduceLE, Int.reduceEq, reduceIte, ic8, o32, o33, o34, o35, o36, r32, r33, hok, hfit, e1, e2, e3, extract_0, extract_1, isnil_ptr]
end Go.Proofs.YtadeojgiiapljaaGreat.Im
