/- muffleref15.Deep. -/
import Derived.Test.YtadeojgiiapljaaGreatIcA
import Derived.Test.YtadeojgiiapljaaGreatIcB
import Derived.Test.YtadeojgiiapljaaGreatNdA
import Derived.Test.YtadeojgiiapljaaGreatNdB
set_option linter.unusedSimpArgs false
set_option linter.unusedVariables false
namespace Go.Proofs.YtadeojgiiapljaaGreat.Im
open Go
set_option maxHeartbeats 8000000
mutual
def Nd.deep : Nd → Nat
  | .mk _ _ _ a b e => 1 + max (deepL a) (max (deepL b) (deepL e))
def deepL : List Nd → Nat
  | [] => 0
  | x :: xs => max x.deep (deepL xs)
end
theorem Nd.deep_eq (x : Nd) : x.deep = 1 + max (deepL x.ahead) (max (deepL x.body) (deepL x.els)) := by cases x; simp [Nd.deep, Nd.ahead, Nd.body, Nd.els]
theorem deepL_take_succ {l : List Nd} {i : Nat} {x : Nd} (h : l[i]? = some x) : deepL (l.take (i + 1)) = max (deepL (l.take i)) x.deep := by
  induction l generalizing i with
  | nil => simp at h
  | cons y ys ih =>
    cases i with
    | zero => simp at h; subst h; simp [deepL]
    | succ i => simp at h; simp [deepL, ih h, Nat.max_assoc]
mutual
theorem Nd.deep_le : ∀ x : Nd, x.deep ≤ x.cnt
  | .mk _ _ _ a b e => by
    have h1 := deepL_le a
    have h2 := deepL_le b
    have h3 := deepL_le e
    simp only [Nd.deep, Nd.cnt]; omega
theorem deepL_le : ∀ l : List Nd, deepL l ≤ cntL l
  | [] => by simp [deepL]
  | x :: xs => by
    have h1 := Nd.deep_le x
    have h2 := deepL_le xs
    simp only [deepL, cntL]; omega
end
def g24 (k : Nat) : List IV → Option IV
  | [v] => match decNds k v with
    | some l => if small l then some (.int .i64 (deepL l)) else none
    | none => none
  | _ => none
theorem rd24 {k : Nat} {v : IV} {l : List Nd} (hv : decNds k v = some l) (hs : small l = true) (h : IHeap) : rd (g24 k) [v] h = .ok (.int .i64 (deepL l)) h := by
  simp [rd, g24, hv, hs, okO]
theorem dec_one {k : Nat} {v : IV} {l : List Nd} (hv : decNds k v = some l) : v.one = true := by
  cases k with
  | zero => cases hv
  | succ k => simp only [decNds] at hv; split at hv <;> first | rfl | cases hv
theorem grow_push {h h' : IHeap} (g : Grow h h') (o : IObj) : Grow h (h'.push o) := g.trans (Grow.push _ _)

/-- From a body's run to the function's. -/
theorem rd_done {T : FuncId → Option IFunc} {O : Orc} {fuel t : Nat} {F : IFunc} {args : List IV} {h : IHeap} {v : IV} {R : IHeap → Prop} (hn : args.length = F.nparams) (hr : F.recT = none) (hd : F.body.wr DK = false) (hp : F.nparams ≤ DK)
    (hb : (ix O fuel F.body (startI 0 args) h).sat (fun x e h' => x = .ret ∧ e.get t = some v ∧ R h') (fun _ _ _ => False)) (hres : F.results = [.tmp t]) : ∃ h2, bodyI T O fuel F args h = .ok v h2 ∧ R h2 := by
  have hb' : (ix O fuel F.body (startI 0 args) h).sat (fun x e h' => (∀ id, x ≠ .exit id) ∧ ∃ r, doneI F e h' = .ok r h' ∧ (r = v ∧ R h')) (fun _ _ _ => False) := by
    refine sat_mono hb ?_ (fun _ _ _ h => h)
    rintro x e h' ⟨rfl, he, hR⟩
    exact ⟨by simp, v, by simp [doneI, hres, resultI, he, one?], rfl, hR⟩
  rcases body_ok hn hr hd hp hb' with ⟨r, h', h1, rfl, h2⟩ | ⟨_, _, _, hf⟩
  · exact ⟨h', h1, h2⟩
  · exact hf.elim
def hereD (x : Nd) (k : Nat) : Nat := if k = 0 then 1 else if k = 1 then 1 + deepL x.ahead else if k = 2 then 1 + max (deepL x.ahead) (deepL x.body) else x.deep
theorem hereD_le (x : Nd) (k : Nat) : hereD x k ≤ x.deep := by
  have := x.deep_eq
  unfold hereD; split <;> try split <;> try split
  all_goals omega
theorem b24 (k : Nat) (v : IV) (l : List Nd) (h : IHeap) (hv : decNds (k + 1) v = some l) (hs : small l = true) (O : Orc) (hO : O 24 = rd (g24 k)) :
    (ix O (l.length + 10) ic24.body (startI 0 [v]) h).sat (fun x e h' => x = .ret ∧ e.get 2 = some (.int .i64 (deepL l)) ∧ Grow h h') (fun _ _ _ => False) := by
  have hc : cntL l < 4000000 := by simpa [small] using hs
  have hlen := decNds_len hv
  unfold ic24
  simp only [start_cons, start_nil]
  refine sat_seq ?_
  simp only [ss, hps, Nat.reduceEqDiff, Nat.reduceLT, Nat.reduceAdd, Nat.reduceLeDiff, Int.reduceLT, Int.reduceLE, Int.reduceEq, reduceIte]
  refine sat_next (sat_seq ?_)
  simp only [ss, hps, Nat.reduceEqDiff, Nat.reduceLT, Nat.reduceAdd, Nat.reduceLeDiff, Int.reduceLT, Int.reduceLE, Int.reduceEq, reduceIte]
  refine sat_next (sat_seq (sat_seq ?_))
  simp only [ss, hps, Nat.reduceEqDiff, Nat.reduceLT, Nat.reduceAdd, Nat.reduceLeDiff, Int.reduceLT, Int.reduceLE, Int.reduceEq, reduceIte]
  refine sat_next (sat_block (sat_loop (fun m e h' => ∃ i, i + m = l.length ∧ e.get 4 = some (.int .i64 i) ∧ e.get 3 = some (.int .i64 (deepL (l.take i))) ∧ Grow h h') l.length (by omega) ?_ ?_))
  · refine ⟨0, by omega, ?_, ?_, Grow.refl h⟩ <;> simp [get_put, deepL, puto_some]
  · rintro m e h' ⟨i, hi, h4, h3, hg⟩ hf
    have h0 := hf 0 rfl
    simp [get_put, puto_some] at h0
    clear hf
    refine sat_seq (sat_seq ?_)
    simp only [ss, hps, Nat.reduceEqDiff, Nat.reduceLT, Nat.reduceAdd, Nat.reduceLeDiff, Int.reduceLT, Int.reduceLE, Int.reduceEq, reduceIte, h4, h3, h0, hlen]
    refine sat_next (sat_condK ?_)
    simp only [ss, hps, Nat.reduceEqDiff, Nat.reduceLT, Nat.reduceAdd, Nat.reduceLeDiff, Int.reduceLT, Int.reduceLE, Int.reduceEq, reduceIte]
    refine sat_condD (fun hlt => ?_) (fun hge => ?_)
    · have hlt : i < l.length := by omega
      obtain ⟨x, hx⟩ : ∃ x, l[i]? = some x := ⟨l[i], by simp [hlt]⟩
      obtain ⟨a, b, c, rest, hia, hat⟩ := decNds_node hv hx
      obtain ⟨sa, sb, sc⟩ := small_sub hc hx
      have h1 := deepL_take_succ hx
      have h5 := x.deep_eq
      have h6 := cntL_length l
      have h7 := deepL_le (l.take i)
      have h8 := cntL_take_le l i
      have h9 := x.deep_le
      have h10 := cntL_take_succ hx
      have h11 := cntL_take_le l (i + 1)
      have ha := fun hh => rd24 hat.ahead sa hh
      have hb := fun hh => rd24 hat.body sb hh
      have he := fun hh => rd24 hat.els sc hh
      have oa := dec_one hat.ahead
      have ob := dec_one hat.body
      have oc := dec_one hat.els
      refine sat_skip (sat_seq (sat_block (sat_seq ?_)))
      simp only [ss, hps, Nat.reduceEqDiff, Nat.reduceLT, Nat.reduceAdd, Nat.reduceLeDiff, Int.reduceLT, Int.reduceLE, Int.reduceEq, reduceIte]
      refine sat_next (sat_seq ?_)
      simp only [ss, hps, Nat.reduceEqDiff, Nat.reduceLT, Nat.reduceAdd, Nat.reduceLeDiff, Int.reduceLT, Int.reduceLE, Int.reduceEq, reduceIte, h4, h3, h0, hia, Nd.cells, cells_one oa, cells_one ob, cells_one oc, oa, ob, oc, setCells, rowIf_ok]
      refine sat_next (sat_seq (sat_seq ?_))
      simp only [ss, hps, Nat.reduceEqDiff, Nat.reduceLT, Nat.reduceAdd, Nat.reduceLeDiff, Int.reduceLT, Int.reduceLE, Int.reduceEq, reduceIte]
      have hg2 := grow_push hg (.row [a, b, c])
      refine sat_next (sat_block (sat_loop (fun m e h'' => ∃ k, k + m = 3 ∧ e.get 7 = some (.int .i64 k) ∧ e.get 5 = some (.int .i64 (hereD x k : Int)) ∧ h'' = h'.push (.row [a, b, c])) 3 (by omega) ?_ ?_))
      · refine ⟨0, by omega, ?_, ?_, rfl⟩ <;> simp [get_put, puto_some, hereD]
      · rintro m' e' h'' ⟨k', hk, j7, j5, rfl⟩ hf'
        have j6 := hf' 6 rfl
        simp [get_put, puto_some] at j6
        clear hf'
        refine sat_seq (sat_seq ?_)
        simp only [ss, hps, Nat.reduceEqDiff, Nat.reduceLT, Nat.reduceAdd, Nat.reduceLeDiff, Int.reduceLT, Int.reduceLE, Int.reduceEq, reduceIte, j7, j5, j6]
        refine sat_next (sat_condK ?_)
        simp only [ss, hps, Nat.reduceEqDiff, Nat.reduceLT, Nat.reduceAdd, Nat.reduceLeDiff, Int.reduceLT, Int.reduceLE, Int.reduceEq, reduceIte]
        refine sat_condD (fun hlt' => ?_) (fun hge' => ?_)
        · have hlt' : k' < 3 := by omega
          obtain ⟨y, ly, hget, hdy, hsy, hhere⟩ : ∃ y ly, ([a, b, c] : List IV)[k']? = some y ∧ decNds k y = some ly ∧ small ly = true ∧ hereD x (k' + 1) = max (hereD x k') (1 + deepL ly) := by
            obtain rfl | rfl | rfl : k' = 0 ∨ k' = 1 ∨ k' = 2 := by omega
            · exact ⟨a, _, rfl, hat.ahead, sa, by simp [hereD]⟩
            · exact ⟨b, _, rfl, hat.body, sb, by simp [hereD] <;> omega⟩
            · exact ⟨c, _, rfl, hat.els, sc, by simp [hereD] <;> omega⟩
          have hdl := hereD_le x k'
          have hdl' := hereD_le x (k' + 1)
          have hy := fun hh => rd24 hdy hsy hh
          refine sat_skip (sat_seq (sat_block (sat_seq ?_)))
          simp only [ss, hps, Nat.reduceEqDiff, Nat.reduceLT, Nat.reduceAdd, Nat.reduceLeDiff, Int.reduceLT, Int.reduceLE, Int.reduceEq, reduceIte, j7, j5, j6, hget, hlt', hO, hy]
          refine sat_next (sat_seq ?_)
          simp only [ss, hps, Nat.reduceEqDiff, Nat.reduceLT, Nat.reduceAdd, Nat.reduceLeDiff, Int.reduceLT, Int.reduceLE, Int.reduceEq, reduceIte, j7, j5, j6]
          rw [wrap_i64 (x := 1 + (deepL ly : Int)) (by omega) (by omega)]
          refine sat_next (sat_condK ?_)
          simp only [ss, hps, Nat.reduceEqDiff, Nat.reduceLT, Nat.reduceAdd, Nat.reduceLeDiff, Int.reduceLT, Int.reduceLE, Int.reduceEq, reduceIte]
          refine sat_condD (fun hgt => ?_) (fun hle => ?_)
          · simp only [ss, hps, Nat.reduceEqDiff, Nat.reduceLT, Nat.reduceAdd, Nat.reduceLeDiff, Int.reduceLT, Int.reduceLE, Int.reduceEq, reduceIte]
            refine sat_blk (sat_next ?_)
            simp only [ss, hps, Nat.reduceEqDiff, Nat.reduceLT, Nat.reduceAdd, Nat.reduceLeDiff, Int.reduceLT, Int.reduceLE, Int.reduceEq, reduceIte, j7]
            refine sat_again (m' - 1) (by omega) ⟨k' + 1, by omega, ?_, ?_, rfl⟩
            · simp only [ss, hps, Nat.reduceEqDiff, Nat.reduceLT, Nat.reduceAdd, Nat.reduceLeDiff, Int.reduceLT, Int.reduceLE, Int.reduceEq, reduceIte]
              rw [wrap_i64 (by omega) (by omega)]; simp
            · simp only [ss, hps, Nat.reduceEqDiff, Nat.reduceLT, Nat.reduceAdd, Nat.reduceLeDiff, Int.reduceLT, Int.reduceLE, Int.reduceEq, reduceIte]
              rw [hhere]; congr 2; omega
          · simp only [ss, hps, Nat.reduceEqDiff, Nat.reduceLT, Nat.reduceAdd, Nat.reduceLeDiff, Int.reduceLT, Int.reduceLE, Int.reduceEq, reduceIte]
            refine sat_blk (sat_next ?_)
            simp only [ss, hps, Nat.reduceEqDiff, Nat.reduceLT, Nat.reduceAdd, Nat.reduceLeDiff, Int.reduceLT, Int.reduceLE, Int.reduceEq, reduceIte, j7]
            refine sat_again (m' - 1) (by omega) ⟨k' + 1, by omega, ?_, ?_, rfl⟩
            · simp only [ss, hps, Nat.reduceEqDiff, Nat.reduceLT, Nat.reduceAdd, Nat.reduceLeDiff, Int.reduceLT, Int.reduceLE, Int.reduceEq, reduceIte]
              rw [wrap_i64 (by omega) (by omega)]; simp
            · simp only [ss, hps, Nat.reduceEqDiff, Nat.reduceLT, Nat.reduceAdd, Nat.reduceLeDiff, Int.reduceLT, Int.reduceLE, Int.reduceEq, reduceIte, j5]
              rw [hhere]; congr 2; omega
        · have hk3 : k' = 3 := by omega
          subst hk3
          refine sat_brk fun hf2 => sat_next (sat_seq ?_)
          have i3 := hf2 3 rfl
          have i4 := hf2 4 rfl
          simp only [ss, hps, Nat.reduceEqDiff, Nat.reduceLT, Nat.reduceAdd, Nat.reduceLeDiff, Int.reduceLT, Int.reduceLE, Int.reduceEq, reduceIte, get_put, puto_some] at i3 i4
          have j5 : e'.get 5 = some (.int .i64 (x.deep : Int)) := j5
          simp only [ss, hps, Nat.reduceEqDiff, Nat.reduceLT, Nat.reduceAdd, Nat.reduceLeDiff, Int.reduceLT, Int.reduceLE, Int.reduceEq, reduceIte, j5, i3, h3]
          refine sat_next (sat_condK ?_)
          simp only [ss, hps, Nat.reduceEqDiff, Nat.reduceLT, Nat.reduceAdd, Nat.reduceLeDiff, Int.reduceLT, Int.reduceLE, Int.reduceEq, reduceIte]
          refine sat_condD (fun hgt => ?_) (fun hle => ?_)
          · simp only [ss, hps, Nat.reduceEqDiff, Nat.reduceLT, Nat.reduceAdd, Nat.reduceLeDiff, Int.reduceLT, Int.reduceLE, Int.reduceEq, reduceIte, j5]
            refine sat_blk (sat_next ?_)
            simp only [ss, hps, Nat.reduceEqDiff, Nat.reduceLT, Nat.reduceAdd, Nat.reduceLeDiff, Int.reduceLT, Int.reduceLE, Int.reduceEq, reduceIte, i4, h4]
            refine sat_again (m - 1) (by omega) ⟨i + 1, by omega, ?_, ?_, hg2⟩
            · simp only [ss, hps, Nat.reduceEqDiff, Nat.reduceLT, Nat.reduceAdd, Nat.reduceLeDiff, Int.reduceLT, Int.reduceLE, Int.reduceEq, reduceIte]
              rw [wrap_i64 (by omega) (by omega)]; simp
            · simp only [ss, hps, Nat.reduceEqDiff, Nat.reduceLT, Nat.reduceAdd, Nat.reduceLeDiff, Int.reduceLT, Int.reduceLE, Int.reduceEq, reduceIte]
              rw [h1]; congr 2; omega
          · simp only [ss, hps, Nat.reduceEqDiff, Nat.reduceLT, Nat.reduceAdd, Nat.reduceLeDiff, Int.reduceLT, Int.reduceLE, Int.reduceEq, reduceIte]
            refine sat_blk (sat_next ?_)
            simp only [ss, hps, Nat.reduceEqDiff, Nat.reduceLT, Nat.reduceAdd, Nat.reduceLeDiff, Int.reduceLT, Int.reduceLE, Int.reduceEq, reduceIte, i4, h4]
            refine sat_again (m - 1) (by omega) ⟨i + 1, by omega, ?_, ?_, hg2⟩
            · simp only [ss, hps, Nat.reduceEqDiff, Nat.reduceLT, Nat.reduceAdd, Nat.reduceLeDiff, Int.reduceLT, Int.reduceLE, Int.reduceEq, reduceIte]
              rw [wrap_i64 (by omega) (by omega)]; simp
            · simp only [ss, hps, Nat.reduceEqDiff, Nat.reduceLT, Nat.reduceAdd, Nat.reduceLeDiff, Int.reduceLT, Int.reduceLE, Int.reduceEq, reduceIte, i3, h3]
              rw [h1]; congr 2; omega
    · have hge : i = l.length := by omega
      refine sat_brk fun _ => sat_next (sat_seq ?_)
      simp only [ss, hps, Nat.reduceEqDiff, Nat.reduceLT, Nat.reduceAdd, Nat.reduceLeDiff, Int.reduceLT, Int.reduceLE, Int.reduceEq, reduceIte, h3]
      refine sat_next (sat_ret ⟨rfl, ?_, hg⟩)
      simp only [ss, hps, Nat.reduceEqDiff, Nat.reduceLT, Nat.reduceAdd, Nat.reduceLeDiff, Int.reduceLT, Int.reduceLE, Int.reduceEq, reduceIte, hge, List.take_length]

theorem s24 : ∀ k, Sim Tryz.prog 24 (rd (g24 k))
  | 0 => Sim.fail_of 24 fun args h => by
    unfold rd g24; split <;> simp [decNds, okO]
  | k + 1 => by
    refine Sim.rd ⟨Tryz.f24, Tryz.func24, rfl, by decide⟩ fun args v h hg => ?_
    unfold g24 at hg
    split at hg
    case h_2 => cases hg
    rename_i u
    split at hg
    case h_2 => cases hg
    rename_i l hv
    split at hg
    case isFalse => cases hg
    rename_i hs
    cases hg
    have hb := b24 k u l h hv hs (ocons 24 (rd (g24 k)) onil) rfl
    obtain ⟨h2, h3, h4⟩ := rd_done rfl rfl rfl (by decide) hb rfl
    exact ⟨_, body_sim (ocons_sim (s24 k) onil_sim) cc24 (l.length + 10), h2, h3, h4, fun _ => rfl⟩
end Go.Proofs.YtadeojgiiapljaaGreat.Im
namespace Go.Proofs.YtadeojgiiapljaaGreat.Im
open Go
set_option maxHeartbeats 8000000
def rangeOk : IntKind → Int → Bool
  | .i64, x => i64ok x
  | .u64, x => u64ok x
  | _, _ => false
def decIs (k : IntKind) : List IV → Nat → Option (List Int)
  | _, 0 => some []
  | .int k' n :: cs, m + 1 => if k' = k && rangeOk k n then (decIs k cs m).map (n :: ·) else none
  | _, _ + 1 => none
/-- Numbers in constant memory. -/
def decInts (k : IntKind) : IV → Option (List Int)
  | .nils => some []
  | .cslice cells len => decIs k cells len
  | _ => none
theorem decIs_get {k : IntKind} : ∀ {n : Nat} {cells : List IV} {l : List Int}, decIs k cells n = some l → l.length = n ∧ n ≤ cells.length ∧ (∀ x ∈ l, rangeOk k x = true) ∧ ∀ (i : Nat) (x : Int), l[i]? = some x → ∃ rest, cells.drop i = .int k x :: rest
  | 0, cells, l, h => by simp [decIs] at h; subst h; simp
  | n + 1, [], l, h => by simp [decIs] at h
  | n + 1, c :: cs, l, h => by
    cases c <;> simp only [decIs] at h <;> try (cases h; done)
    rename_i k' v
    split at h
    · rename_i hc
      simp only [Bool.and_eq_true, decide_eq_true_eq] at hc
      obtain ⟨rfl, hr⟩ := hc
      simp only [Option.map_eq_some_iff] at h
      obtain ⟨l', hl', rfl⟩ := h
      obtain ⟨h1, h2, h3, h4⟩ := decIs_get hl'
      refine ⟨by simp [h1], by simp; omega, ?_, ?_⟩
      · intro x hx
        rcases List.mem_cons.1 hx with rfl | hx
        · exact hr
        · exact h3 x hx
      · intro i x hi
        cases i with
        | zero => simp at hi; subst hi; exact ⟨cs, rfl⟩
        | succ i => simp at hi; obtain ⟨rest, hrest⟩ := h4 i x hi; exact ⟨rest, by simpa using hrest⟩
    · cases h
theorem decInts_len {k : IntKind} {v : IV} {l : List Int} (h : decInts k v = some l) : slenV v = some l.length := by
  unfold decInts at h
  split at h
  · cases h; rfl
  · have := (decIs_get h).1
    simp [slenV, sliceLen, this]
  · cases h
theorem decInts_one {k : IntKind} {v : IV} {l : List Int} (h : decInts k v = some l) : v.one = true := by
  unfold decInts at h
  split at h <;> first | rfl | cases h
theorem decInts_at {k : IntKind} {v : IV} {l : List Int} (h : decInts k v = some l) {i : Nat} {x : Int} (hi : l[i]? = some x) : ∃ rest, iaddrV 1 v i = some (.cptr (.int k x :: rest)) := by
  unfold decInts at h
  split at h
  · cases h; simp at hi
  · obtain ⟨h1, h2, _, h3⟩ := decIs_get h
    obtain ⟨rest, h4⟩ := h3 i x hi
    have hlt := (List.getElem?_eq_some_iff.1 hi).1
    refine ⟨rest, ?_⟩
    simp only [iaddrV]
    rw [if_pos ⟨by omega, by omega, by simp; omega⟩]
    simp [h4]
  · cases h
theorem decInts_range {k : IntKind} {v : IV} {l : List Int} (h : decInts k v = some l) : ∀ x ∈ l, rangeOk k x = true := by
  unfold decInts at h
  split at h
  · cases h; simp
  · exact (decIs_get h).2.2.1
  · cases h

/-! ### few -/
structure FlatT where
  vars : Int
  params : List Int
  rets : List Int
  frame : Int
  code : List Nd
structure FlatAt (k : Nat) (f : FlatT) (p r c : IV) : Prop where
  params : decInts .i64 p = some f.params
  rets : decInts .i64 r = some f.rets
  code : decNds k c = some f.code
  rv : i64ok f.vars = true
  rf : i64ok f.frame = true
  sm : small f.code = true
  sp : f.params.length < 4000000
  sr : f.rets.length < 4000000
def decFlat (k : Nat) : IV → Option FlatT
  | .agg [.int .i64 vars, p, r, .int .i64 frame, c] => match decInts .i64 p, decInts .i64 r, decNds k c with
    | some p, some r, some c => if i64ok vars && i64ok frame && small c && decide (p.length < 4000000) && decide (r.length < 4000000) then some ⟨vars, p, r, frame, c⟩ else none
    | _, _, _ => none
  | _ => none
theorem decFlat_some {k : Nat} {v : IV} {f : FlatT} (h : decFlat k v = some f) : ∃ p r c, v = .agg [.int .i64 f.vars, p, r, .int .i64 f.frame, c] ∧ FlatAt k f p r c := by
  unfold decFlat at h
  split at h
  · rename_i vars p r frame c
    split at h
    · rename_i hp hr hc
      split at h
      · rename_i hok
        simp only [Bool.and_eq_true, decide_eq_true_eq] at hok
        cases h
        exact ⟨p, r, c, rfl, hp, hr, hc, hok.1.1.1.1, hok.1.1.1.2, hok.1.1.2, hok.1.2, hok.2⟩
      · cases h
    · cases h
  · cases h
def fewB (f : FlatT) : Bool := decide (deepL f.code ≤ 70) && decide (cntL f.code ≤ 2000) && decide (f.params.length ≤ 200) && decide (f.rets.length ≤ 200)
def g25 (k : Nat) : List IV → Option IV
  | [v] => match decNds k v with
    | some l => if small l then some (.int .i64 (cntL l)) else none
    | none => none
  | _ => none
theorem F25_rd (k : Nat) : F25 k = rd (g25 k) := by
  funext args h
  unfold F25 rd g25
  split
  · rename_i v
    simp only
    cases hd : decNds k v with
    | none => simp [okO]
    | some l => by_cases hs : small l = true <;> simp [hs, okO]
  · rename_i hno
    split
    · rename_i v; exact absurd rfl (hno v)
    · rfl
theorem s25' (k : Nat) : Sim Tryz.prog 25 (rd (g25 k)) := by rw [← F25_rd]; exact s25 k
theorem rd25 {k : Nat} {v : IV} {l : List Nd} (hv : decNds k v = some l) (hs : small l = true) (h : IHeap) : rd (g25 k) [v] h = .ok (.int .i64 (cntL l)) h := by
  simp [rd, g25, hv, hs, okO]
def g5 (k : Nat) : List IV → Option IV
  | [v] => (decFlat k v).map fun f => .bool (fewB f)
  | _ => none
theorem cast_le (n m : Nat) : ((n : Int) ≤ (m : Int)) = (n ≤ m) := by simp
theorem b5 {k : Nat} {O : Orc} (h24 : O 24 = rd (g24 k)) (h25 : O 25 = rd (g25 k)) {v : IV} {f : FlatT} (hv : decFlat k v = some f) {h : IHeap} : ∃ h2, bodyI T0 O 0 ic5 [v] h = .ok (.bool (fewB f)) h2 ∧ Grow h h2 := by
  obtain ⟨p, r, c, rfl, hat⟩ := decFlat_some hv
  refine ⟨h.push (.row [.int .i64 f.vars, p, r, .int .i64 f.frame, c]), ?_, Grow.push _ _⟩
  rw [body_eq rfl rfl rfl (by decide)]
  have op := decInts_one hat.params
  have or := decInts_one hat.rets
  have oc := dec_one hat.code
  have lp := decInts_len hat.params
  have lr := decInts_len hat.rets
  have hd := fun hh => rd24 hat.code hat.sm hh
  have hcn := fun hh => rd25 hat.code hat.sm hh
  have e1 : ((deepL f.code : Int) ≤ 70) = (deepL f.code ≤ 70) := by simp; omega
  have e2 : ((cntL f.code : Int) ≤ 2000) = (cntL f.code ≤ 2000) := by simp; omega
  have e3 : ((f.params.length : Int) ≤ 200) = (f.params.length ≤ 200) := by simp; omega
  have e4 : ((f.rets.length : Int) ≤ 200) = (f.rets.length ≤ 200) := by simp; omega
  by_cases q1 : deepL f.code ≤ 70
  case neg => simp only [ss, hps, Nat.reduceEqDiff, Nat.reduceLT, Nat.reduceAdd, Nat.reduceLeDiff, Int.reduceLT, Int.reduceLE, Int.reduceEq, reduceIte, ic5, fewB, op, or, oc, lp, lr, hd, hcn, h24, h25, rowIf_ok, e1, e2, e3, e4, q1]
  by_cases q2 : cntL f.code ≤ 2000
  case neg => simp only [ss, hps, Nat.reduceEqDiff, Nat.reduceLT, Nat.reduceAdd, Nat.reduceLeDiff, Int.reduceLT, Int.reduceLE, Int.reduceEq, reduceIte, ic5, fewB, op, or, oc, lp, lr, hd, hcn, h24, h25, rowIf_ok, e1, e2, e3, e4, q1, q2]
  by_cases q3 : f.params.length ≤ 200
  case neg => simp only [ss, hps, Nat.reduceEqDiff, Nat.reduceLT, Nat.reduceAdd, Nat.reduceLeDiff, Int.reduceLT, Int.reduceLE, Int.reduceEq, reduceIte, ic5, fewB, op, or, oc, lp, lr, hd, hcn, h24, h25, rowIf_ok, e1, e2, e3, e4, q1, q2, q3]
  simp only [ss, hps, Nat.reduceEqDiff, Nat.reduceLT, Nat.reduceAdd, Nat.reduceLeDiff, Int.reduceLT, Int.reduceLE, Int.reduceEq, reduceIte, ic5, fewB, op, or, oc, lp, lr, hd, hcn, h24, h25, rowIf_ok, e1, e2, e3, e4, q1, q2, q3]
theorem s5 (k : Nat) : Sim Tryz.prog 5 (rd (g5 k)) := by
  refine Sim.rd ⟨Tryz.f5, Tryz.func5, rfl, by decide⟩ fun args v h hg => ?_
  unfold g5 at hg
  split at hg
  · simp only [Option.map_eq_some_iff] at hg
    obtain ⟨f, hf, rfl⟩ := hg
    obtain ⟨h2, h3, h4⟩ := b5 (k := k) (O := ocons 24 (rd (g24 k)) (ocons 25 (rd (g25 k)) onil)) rfl rfl hf
    exact ⟨_, body_sim (ocons_sim (s24 k) (ocons_sim (s25' k) onil_sim)) cc5 0, _, h3, h4, fun _ => rfl⟩
  · cases hg
end Go.Proofs.YtadeojgiiapljaaGreat.Im
