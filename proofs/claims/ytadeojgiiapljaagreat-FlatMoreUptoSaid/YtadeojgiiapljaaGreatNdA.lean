/- Code as trees. -/
import Derived.Test.YtadeojgiiapljaaGreatIcA
import Derived.Test.YtadeojgiiapljaaGreatIcB
import Derived.Test.YtadeojgiiapljaaGreatImC
set_option linter.unusedSimpArgs false
set_option linter.unusedVariables false
namespace Go.Proofs.YtadeojgiiapljaaGreat.Im
open Go

/-- An instruction. -/
structure In8 where
  kind : Int
  op : Int
  d : Int
  a : Int
  b : Int
  c : Int
  word : Int
  stack : Bool
  deriving DecidableEq
def In8.cells (x : In8) : List IV := [.int .i64 x.kind, .int .i64 x.op, .int .i64 x.d, .int .i64 x.a, .int .i64 x.b, .int .i64 x.c, .int .u64 x.word, .bool x.stack]
inductive Nd where
  | mk (kind : Int) (ins : In8) (cond : Int) (ahead body els : List Nd)
def Nd.kind : Nd → Int | .mk k _ _ _ _ _ => k
def Nd.ins : Nd → In8 | .mk _ x _ _ _ _ => x
def Nd.cond : Nd → Int | .mk _ _ c _ _ _ => c
def Nd.ahead : Nd → List Nd | .mk _ _ _ a _ _ => a
def Nd.body : Nd → List Nd | .mk _ _ _ _ b _ => b
def Nd.els : Nd → List Nd | .mk _ _ _ _ _ e => e

def i64ok (x : Int) : Bool := decide (-9223372036854775808 ≤ x) && decide (x < 9223372036854775808)
def u64ok (x : Int) : Bool := decide (0 ≤ x) && decide (x < 18446744073709551616)

def decNd (dec : IV → Option (List Nd)) : List IV → Option Nd
  | [.int .i64 k, .int .i64 x1, .int .i64 x2, .int .i64 x3, .int .i64 x4, .int .i64 x5, .int .i64 x6, .int .u64 x7, .bool x8, .int .i64 c, a, b, e] =>
    if i64ok k && i64ok x1 && i64ok x2 && i64ok x3 && i64ok x4 && i64ok x5 && i64ok x6 && u64ok x7 && i64ok c then
    match dec a, dec b, dec e with
    | some a, some b, some e => some (.mk k ⟨x1, x2, x3, x4, x5, x6, x7, x8⟩ c a b e)
    | _, _, _ => none
    else none
  | _ => none
def decL (dec : IV → Option (List Nd)) : List IV → Nat → Option (List Nd)
  | _, 0 => some []
  | cells, n + 1 => match decNd dec (cells.take 13), decL dec (cells.drop 13) n with
    | some x, some xs => some (x :: xs)
    | _, _ => none
/-- The trees that constant memory has, at most k deep. -/
def decNds : Nat → IV → Option (List Nd)
  | 0, _ => none
  | k + 1, v => match v with
    | .nils => some []
    | .cslice cells len => decL (decNds k) cells len
    | _ => none

/-- A node's cells. -/
def Nd.cells (x : Nd) (a b e : IV) : List IV := [.int .i64 x.kind, .int .i64 x.ins.kind, .int .i64 x.ins.op, .int .i64 x.ins.d, .int .i64 x.ins.a, .int .i64 x.ins.b, .int .i64 x.ins.c, .int .u64 x.ins.word, .bool x.ins.stack, .int .i64 x.cond, a, b, e]
structure NdAt (k : Nat) (x : Nd) (a b e : IV) : Prop where
  ahead : decNds k a = some x.ahead
  body : decNds k b = some x.body
  els : decNds k e = some x.els
  rk : i64ok x.kind = true
  rc : i64ok x.cond = true
  r1 : i64ok x.ins.kind = true
  r2 : i64ok x.ins.op = true
  r3 : i64ok x.ins.d = true
  r4 : i64ok x.ins.a = true
  r5 : i64ok x.ins.b = true
  r6 : i64ok x.ins.c = true
  r7 : u64ok x.ins.word = true

theorem decNd_some {k : Nat} {cells : List IV} {x : Nd} (h : decNd (decNds k) cells = some x) : ∃ a b e, cells = x.cells a b e ∧ NdAt k x a b e := by
  unfold decNd at h
  split at h
  · split at h
    · rename_i hr
      simp only [Bool.and_eq_true] at hr
      split at h
      · rename_i ha hb he
        cases h
        exact ⟨_, _, _, rfl, ha, hb, he, hr.1.1.1.1.1.1.1.1, hr.2, hr.1.1.1.1.1.1.1.2, hr.1.1.1.1.1.1.2, hr.1.1.1.1.1.2, hr.1.1.1.1.2, hr.1.1.1.2, hr.1.1.2, hr.1.2⟩
      · cases h
    · cases h
  · cases h
theorem decL_get {k : Nat} : ∀ {n : Nat} {cells : List IV} {l : List Nd}, decL (decNds k) cells n = some l → l.length = n ∧ n * 13 ≤ cells.length ∧ ∀ (i : Nat) (x : Nd), l[i]? = some x → ∃ a b e rest, cells.drop (i * 13) = x.cells a b e ++ rest ∧ NdAt k x a b e
  | 0, cells, l, h => by simp [decL] at h; subst h; simp
  | n + 1, cells, l, h => by
    simp only [decL] at h
    split at h
    · rename_i x xs hx hxs
      cases h
      obtain ⟨h1, h2, h3⟩ := decL_get hxs
      obtain ⟨a, b, e, hc, hat⟩ := decNd_some hx
      have hlen : (cells.take 13).length = 13 := by rw [hc]; rfl
      have hl : 13 ≤ cells.length := by simp at hlen; omega
      refine ⟨by simp [h1], by simp at h2; omega, fun i y hy => ?_⟩
      cases i with
      | zero =>
        simp at hy; subst hy
        refine ⟨a, b, e, cells.drop 13, ?_, hat⟩
        rw [← hc]; simp
      | succ i =>
        simp at hy
        obtain ⟨a', b', e', rest, h4, h5⟩ := h3 i y hy
        refine ⟨a', b', e', rest, ?_, h5⟩
        rw [← h4, List.drop_drop]; congr 1; omega
    · cases h
theorem decNds_len {k : Nat} {v : IV} {l : List Nd} (h : decNds k v = some l) : slenV v = some l.length := by
  cases k with
  | zero => cases h
  | succ k =>
    simp only [decNds] at h
    split at h
    · cases h; rfl
    · have := (decL_get h).1
      simp [slenV, sliceLen, this]
    · cases h
theorem decNds_node {k : Nat} {v : IV} {l : List Nd} (h : decNds (k + 1) v = some l) {i : Nat} {x : Nd} (hi : l[i]? = some x) : ∃ a b e rest, iaddrV 13 v i = some (.cptr (x.cells a b e ++ rest)) ∧ NdAt k x a b e := by
  simp only [decNds] at h
  split at h
  · cases h; simp at hi
  · obtain ⟨h1, h2, h3⟩ := decL_get h
    obtain ⟨a, b, e, rest, h4, h5⟩ := h3 i x hi
    have hlt := (List.getElem?_eq_some_iff.1 hi).1
    refine ⟨a, b, e, rest, ?_, h5⟩
    simp only [iaddrV]
    rw [if_pos ⟨by omega, by omega, by simp; omega⟩]
    simp [h4]
  · cases h

/-! ### How many nodes there are -/
mutual
def Nd.cnt : Nd → Nat
  | .mk _ _ _ a b e => 1 + cntL a + cntL b + cntL e
def cntL : List Nd → Nat
  | [] => 0
  | x :: xs => x.cnt + cntL xs
end
theorem Nd.cnt_eq (x : Nd) : x.cnt = 1 + cntL x.ahead + cntL x.body + cntL x.els := by cases x; simp [Nd.cnt, Nd.ahead, Nd.body, Nd.els]
theorem cntL_take_succ {l : List Nd} {i : Nat} {x : Nd} (h : l[i]? = some x) : cntL (l.take (i + 1)) = cntL (l.take i) + x.cnt := by
  induction l generalizing i with
  | nil => simp at h
  | cons y ys ih =>
    cases i with
    | zero => simp at h; subst h; simp [cntL]
    | succ i => simp at h; simp [cntL, ih h]; omega
theorem cntL_take_le (l : List Nd) (i : Nat) : cntL (l.take i) ≤ cntL l := by
  induction l generalizing i with
  | nil => simp
  | cons y ys ih =>
    cases i with
    | zero => simp [cntL]
    | succ i => simp [cntL]; exact ih i
theorem cntL_length (l : List Nd) : l.length ≤ cntL l := by
  induction l with
  | nil => simp [cntL]
  | cons y ys ih => simp [cntL]; have := y.cnt_eq; omega
/-- Trees that aren't too large. -/
def small (l : List Nd) : Bool := decide (cntL l < 4000000)

def F25 (k : Nat) : List IV → M IV := fun args h => match args with
  | [v] => match decNds k v with
    | some l => if small l then .ok (.int .i64 (cntL l)) h else .fail
    | none => .fail
  | _ => .fail
end Go.Proofs.YtadeojgiiapljaaGreat.Im
namespace Go.Proofs.YtadeojgiiapljaaGreat.Im
open Go

theorem i64b {x : Int} (h : i64ok x = true) : -9223372036854775808 ≤ x ∧ x < 9223372036854775808 := by simpa [i64ok] using h
theorem small_sub {x : Nd} {l : List Nd} {i : Nat} (hs : cntL l < 4000000) (h : l[i]? = some x) : small x.ahead = true ∧ small x.body = true ∧ small x.els = true := by
  have h1 := cntL_take_succ h
  have h2 := cntL_take_le l (i + 1)
  have h3 := x.cnt_eq
  simp only [small, decide_eq_true_eq]
  omega
theorem F25_at {k : Nat} {v : IV} {l : List Nd} (hv : decNds k v = some l) (hs : small l = true) (h : IHeap) : F25 k [v] h = .ok (.int .i64 (cntL l)) h := by
  simp [F25, hv, hs]

/-- From a body's run to the function's. -/
theorem reader_done {T : FuncId → Option IFunc} {O : Orc} {fuel t : Nat} {F : IFunc} {args : List IV} {h : IHeap} {v : IV} {h2 : IHeap} (hn : args.length = F.nparams) (hr : F.recT = none) (hd : F.body.wr DK = false) (hp : F.nparams ≤ DK)
    (hb : (ix O fuel F.body (startI 0 args) h).sat (fun x e h' => x = .ret ∧ e.get t = some v ∧ h' = h2) (fun _ _ _ => False)) (hres : F.results = [.tmp t]) : bodyI T O fuel F args h = .ok v h2 := by
  have hb' : (ix O fuel F.body (startI 0 args) h).sat (fun x e h' => (∀ id, x ≠ .exit id) ∧ ∃ r, doneI F e h' = .ok r h' ∧ (r = v ∧ h' = h2)) (fun _ _ _ => False) := by
    refine sat_mono hb ?_ (fun _ _ _ h => h)
    rintro x e h' ⟨rfl, he, rfl⟩
    exact ⟨by simp, v, by simp [doneI, hres, resultI, he, one?], rfl, rfl⟩
  rcases body_ok hn hr hd hp hb' with ⟨r, h', h1, rfl, rfl⟩ | ⟨_, _, _, hf⟩
  · exact h1
  · exact hf.elim

theorem b25 (k : Nat) (v : IV) (l : List Nd) (h : IHeap) (hv : decNds (k + 1) v = some l) (hs : small l = true) (O : Orc) (hO : O 25 = F25 k) :
    (ix O (l.length + 2) ic25.body (startI 0 [v]) h).sat (fun x e h' => x = .ret ∧ e.get 2 = some (.int .i64 (cntL l)) ∧ h' = h) (fun _ _ _ => False) := by
  have hc : cntL l < 4000000 := by simpa [small] using hs
  have hlen := decNds_len hv
  unfold ic25
  simp only [start_cons, start_nil]
  refine sat_seq ?_
  simp only [regs, rvs, vals, nds]
  refine sat_next (sat_seq ?_)
  simp only [regs, rvs, vals, nds]
  refine sat_next (sat_seq (sat_seq ?_))
  simp only [regs, rvs, vals, nds]
  refine sat_next (sat_block (sat_loop (fun m e h' => ∃ i, i + m = l.length ∧ e.get 4 = some (.int .i64 i) ∧ e.get 3 = some (.int .i64 (cntL (l.take i))) ∧ h' = h) l.length (by omega) ?_ ?_))
  · refine ⟨0, by omega, ?_, ?_, rfl⟩ <;> simp [get_put, cntL, puto_some]
  · rintro m e h' ⟨i, hi, h4, h3, rfl⟩ hf
    have h0 := hf 0 rfl
    simp [get_put, puto_some] at h0
    clear hf
    refine sat_seq (sat_seq ?_)
    simp only [regs, rvs, vals, nds, h4, h3, h0, hlen, mores, Nat.reduceEqDiff, reduceIte]
    refine sat_next (sat_cond (v := decide (i < l.length)) ?_ ?_ ?_)
    · simp [get_put, ev_t, puto_some]
    · intro hlt
      have hlt : i < l.length := by simpa using hlt
      obtain ⟨x, hx⟩ : ∃ x, l[i]? = some x := ⟨l[i], by simp [hlt]⟩
      obtain ⟨a, b, c, rest, hia, hat⟩ := decNds_node hv hx
      obtain ⟨sa, sb, sc⟩ := small_sub hc hx
      have h1 := cntL_take_succ hx
      have h2 := cntL_take_le l (i + 1)
      have h5 := x.cnt_eq
      have h6 := cntL_length l
      have ha := F25_at hat.ahead sa h'
      have hb := F25_at hat.body sb h'
      have he := F25_at hat.els sc h'
      refine sat_skip (sat_seq (sat_block (sat_seq ?_)))
      simp only [regs, rvs, vals, nds, clss, pvs, h4, h3, h0, hlen, mores, Nat.reduceEqDiff, reduceIte, hia, Nd.cells, drops, hO, ha, hb, he, Nat.reduceLT, Nat.reduceAdd]
      refine sat_next ?_
      simp only [regs, rvs, vals, nds, Nat.reduceEqDiff, reduceIte]
      refine sat_blk (sat_next ?_)
      simp only [regs, rvs, vals, nds, h4, mores, Nat.reduceEqDiff, reduceIte]
      refine sat_again (m - 1) (by omega) ⟨i + 1, by omega, ?_, ?_, rfl⟩
      · simp only [get_put, Nat.reduceEqDiff, reduceIte]
        rw [wrap_i64 (by omega) (by omega)]; simp
      · simp only [get_put, Nat.reduceEqDiff, reduceIte]
        rw [wrap_i64 (x := (cntL (l.take i) : Int) + 1) (by omega) (by omega), wrap_i64 (x := (cntL (l.take i) : Int) + 1 + cntL x.ahead) (by omega) (by omega), wrap_i64 (x := (cntL (l.take i) : Int) + 1 + cntL x.ahead + cntL x.body) (by omega) (by omega), wrap_i64 (by omega) (by omega), h1, h5]
        congr 2; omega
    · intro hge
      have hge : i = l.length := by simp at hge; omega
      refine sat_brk fun _ => sat_next (sat_seq ?_)
      simp only [regs, rvs, vals, nds, h3, mores, Nat.reduceEqDiff, reduceIte]
      refine sat_next (sat_ret ⟨rfl, ?_, rfl⟩)
      simp only [get_put, Nat.reduceEqDiff, reduceIte, hge, List.take_length]

theorem s25 : ∀ k, Sim Tryz.prog 25 (F25 k)
  | 0 => by
    refine Sim.reader ?_ fun args h => .inl ?_
    · exact ⟨Tryz.f25, Tryz.func25, rfl, by decide⟩
    · unfold F25; split <;> simp [decNds]
  | k + 1 => by
    have ih := s25 k
    refine Sim.reader ⟨Tryz.f25, Tryz.func25, rfl, by decide⟩ fun args h => ?_
    by_cases hg : ∃ v l, args = [v] ∧ decNds (k + 1) v = some l ∧ small l = true
    · obtain ⟨v, l, rfl, hv, hs⟩ := hg
      refine .inr ⟨_, body_sound (T := T0) (fun f F h => by cases h) (ocons_sim ih onil_sim) mixed (fuel := l.length + 2) cc25, .int .i64 (cntL l), h, F25_at hv hs h, ?_, Grow.refl h, fun r => rfl⟩
      have hb := b25 k v l h hv hs (ocons 25 (F25 k) onil) rfl
      exact reader_done rfl rfl rfl (by decide) hb rfl
    · refine .inl ?_
      unfold F25
      split
      · rename_i v
        split
        · rename_i l hv
          by_cases hs : small l = true
          · exact absurd ⟨v, l, rfl, hv, hs⟩ hg
          · rw [if_neg hs]
        · rfl
      · rfl
end Go.Proofs.YtadeojgiiapljaaGreat.Im
namespace Go.Proofs.YtadeojgiiapljaaGreat.Im
open Go
def isN (n vars : Int) : Bool := decide (0 ≤ n) && decide (n < vars)
def g122 : List IV → Option IV
  | [.int .i64 n, .int .i64 m] => some (.bool (isN n m))
  | _ => none
theorem b122 {O : Orc} {n m : Int} {h : IHeap} : bodyI T0 O 0 ic122 [.int .i64 n, .int .i64 m] h = .ok (.bool (isN n m)) h := by
  rw [body_eq rfl rfl rfl (by decide)]
  by_cases h1 : 0 ≤ n <;> by_cases h2 : n < m <;> simp only [ss, hps, Nat.reduceEqDiff, Nat.reduceLT, Nat.reduceAdd, Nat.reduceLeDiff, Int.reduceLT, Int.reduceLE, Int.reduceEq, reduceIte, ic122, h1, h2, isN, Bool.and_false]
theorem s122 : Sim Tryz.prog 122 (rd g122) := by
  refine Sim.rd ⟨Tryz.f122, Tryz.func122, rfl, by decide⟩ fun args v h hg => ?_
  unfold g122 at hg
  split at hg
  · cases hg; exact ⟨_, body_sim onil_sim cc122 0, _, b122 , Grow.refl h, fun _ => rfl⟩
  · cases hg

def args07 (op : Int) : Int := if op < 1 ∨ 21 < op then -1 else if op ≤ 2 then 0 else if op ≤ 5 then 1 else if op = 21 then 3 else 2
def g177 : List IV → Option IV
  | [.int .i64 op] => some (.int .i64 (args07 op))
  | _ => none
theorem b177 {O : Orc} {op : Int} {h : IHeap} : bodyI T0 O 0 ic177 [.int .i64 op] h = .ok (.int .i64 (args07 op)) h := by
  rw [body_eq rfl rfl rfl (by decide)]
  by_cases h1 : op < 1
  · simp only [ss, hps, Nat.reduceEqDiff, Nat.reduceLT, Nat.reduceAdd, Nat.reduceLeDiff, Int.reduceLT, Int.reduceLE, Int.reduceEq, reduceIte, ic177, h1, args07, true_or]
  by_cases h2 : 21 < op
  · simp only [ss, hps, Nat.reduceEqDiff, Nat.reduceLT, Nat.reduceAdd, Nat.reduceLeDiff, Int.reduceLT, Int.reduceLE, Int.reduceEq, reduceIte, ic177, h1, h2, args07, or_true]
  by_cases h3 : op ≤ 2
  · simp only [ss, hps, Nat.reduceEqDiff, Nat.reduceLT, Nat.reduceAdd, Nat.reduceLeDiff, Int.reduceLT, Int.reduceLE, Int.reduceEq, reduceIte, ic177, h1, h2, h3, args07, or_false]
  by_cases h4 : op ≤ 5
  · simp only [ss, hps, Nat.reduceEqDiff, Nat.reduceLT, Nat.reduceAdd, Nat.reduceLeDiff, Int.reduceLT, Int.reduceLE, Int.reduceEq, reduceIte, ic177, h1, h2, h3, h4, args07, or_false]
  by_cases h5 : op = 21
  · simp only [ss, hps, Nat.reduceEqDiff, Nat.reduceLT, Nat.reduceAdd, Nat.reduceLeDiff, Int.reduceLT, Int.reduceLE, Int.reduceEq, reduceIte, ic177, h1, h2, h3, h4, h5, args07, or_false]
  · simp only [ss, hps, Nat.reduceEqDiff, Nat.reduceLT, Nat.reduceAdd, Nat.reduceLeDiff, Int.reduceLT, Int.reduceLE, Int.reduceEq, reduceIte, ic177, h1, h2, h3, h4, h5, args07, or_false]
theorem s177 : Sim Tryz.prog 177 (rd g177) := by
  refine Sim.rd ⟨Tryz.f177, Tryz.func177, rfl, by decide⟩ fun args v h hg => ?_
  unfold g177 at hg
  split at hg
  · cases hg; exact ⟨_, body_sim onil_sim cc177 0, _, b177 , Grow.refl h, fun _ => rfl⟩
  · cases hg

def arity15 (op : Int) : Int := if op < 4 ∨ 21 < op then 0 else args07 op
def g123 : List IV → Option IV
  | [.int .i64 op] => some (.int .i64 (arity15 op))
  | _ => none
theorem rd177 (op : Int) (h : IHeap) : rd g177 [.int .i64 op] h = .ok (.int .i64 (args07 op)) h := rfl
theorem rd122 (n m : Int) (h : IHeap) : rd g122 [.int .i64 n, .int .i64 m] h = .ok (.bool (isN n m)) h := rfl
theorem b123 {O : Orc} (h177 : O 177 = rd g177) {op : Int} {h : IHeap} : bodyI T0 O 0 ic123 [.int .i64 op] h = .ok (.int .i64 (arity15 op)) h := by
  rw [body_eq rfl rfl rfl (by decide)]
  by_cases h1 : op < 4
  · simp only [ss, hps, Nat.reduceEqDiff, Nat.reduceLT, Nat.reduceAdd, Nat.reduceLeDiff, Int.reduceLT, Int.reduceLE, Int.reduceEq, reduceIte, ic123, h1, arity15, true_or]
  by_cases h2 : 21 < op
  · simp only [ss, hps, Nat.reduceEqDiff, Nat.reduceLT, Nat.reduceAdd, Nat.reduceLeDiff, Int.reduceLT, Int.reduceLE, Int.reduceEq, reduceIte, ic123, h1, h2, arity15, or_true]
  simp only [ss, hps, Nat.reduceEqDiff, Nat.reduceLT, Nat.reduceAdd, Nat.reduceLeDiff, Int.reduceLT, Int.reduceLE, Int.reduceEq, reduceIte, ic123, h1, h2, arity15, or_false, h177, rd177]
theorem s123 : Sim Tryz.prog 123 (rd g123) := by
  refine Sim.rd ⟨Tryz.f123, Tryz.func123, rfl, by decide⟩ fun args v h hg => ?_
  unfold g123 at hg
  split at hg
  · cases hg; exact ⟨_, body_sim (ocons_sim s177 onil_sim) cc123 0, _, b123 rfl, Grow.refl h, fun _ => rfl⟩
  · cases hg
end Go.Proofs.YtadeojgiiapljaaGreat.Im
