/- What a run leaves: counts, depths, parts. -/
import Derived.Test.YtadeojgiiapljaaGreatRnE
set_option linter.unusedSimpArgs false
set_option linter.unusedVariables false
namespace Go.Proofs.YtadeojgiiapljaaGreat.Im
open Go
set_option maxHeartbeats 1000000
mutual
def RL.cnt : RL → Nat
  | .line _ => 1
  | .node _ _ sub => 1 + cntR sub
def cntR : List RL → Nat
  | [] => 0
  | x :: xs => x.cnt + cntR xs
end
mutual
def RL.deep : RL → Nat
  | .line _ => 1
  | .node _ _ sub => 1 + deepR sub
def deepR : List RL → Nat
  | [] => 0
  | x :: xs => max x.deep (deepR xs)
end
theorem cntR_app (a b : List RL) : cntR (a ++ b) = cntR a + cntR b := by
  induction a with
  | nil => simp [cntR]
  | cons x xs ih => simp only [List.cons_append, cntR, ih]; omega
theorem deepR_app (a b : List RL) : deepR (a ++ b) = max (deepR a) (deepR b) := by
  induction a with
  | nil => simp [deepR]
  | cons x xs ih => simp only [List.cons_append, deepR, ih]; omega
theorem cntR_len (a : List RL) : a.length ≤ cntR a := by
  induction a with
  | nil => simp [cntR]
  | cons x xs ih => cases x <;> simp [cntR, RL.cnt] <;> omega
def Task.extra : Task → Nat
  | .br _ _ => 1
  | _ => 0
def Task.dp : Task → Nat
  | .lst l => 2 * deepL l
  | .br n els => max (2 * deepL n.ahead) (1 + max (2 * deepL n.body) (2 * deepL els))
  | .lp n => max (2 * deepL n.ahead) (1 + 2 * deepL n.body)
theorem Run.cnt {c : Cfg} {left : Nat} {t : Task} {s : St} {o : Out} (h : Run c left t s o) : cntR o.L + s.steps ≤ o.st.steps + t.extra := by
  have tk : ∀ s : St, s.tick.steps = s.steps + 1 := fun _ => rfl
  induction h with
  | nil => simp [cntR]
  | out h => simp [cntR]
  | ins h hk hi hr ih => have := ins1_steps hi; rw [tk] at this; simp only [cntR, RL.cnt, Task.extra] at *; omega
  | insX h hk hi => simp [cntR, tk]; omega
  | ife h hk hb he hr ih1 ih2 => simp only [cntR_app, Task.extra, tk] at *; omega
  | ifeX h hk hb he ih1 => simp only [Task.extra, tk] at *; omega
  | loop h hk hb he hr ih1 ih2 => simp only [cntR, RL.cnt, Task.extra, tk] at *; omega
  | loopX h hk hb he ih1 => simp only [cntR, RL.cnt, Task.extra, tk] at *; omega
  | brX ha he ih => simp only [Task.extra] at *; omega
  | brT ha he ht hr ih1 ih2 => simp only [cntR_app, cntR, RL.cnt, Task.extra] at *; omega
  | brF ha he ht hr ih1 ih2 => simp only [cntR_app, cntR, RL.cnt, Task.extra] at *; omega
  | lpO h => simp [cntR]
  | lpX h hb he ih1 => simp only [Task.extra, tk] at *; omega
  | lpE h hb he ht ih1 => simp only [Task.extra, tk] at *; omega
  | lpM h hb he ht hr ih1 ih2 => simp only [cntR_app, Task.extra, tk] at *; omega
theorem Run.deep {c : Cfg} {left : Nat} {t : Task} {s : St} {o : Out} (h : Run c left t s o) : deepR o.L ≤ t.dp := by
  have dc : ∀ (n : Nd) (l : List Nd), deepL (n :: l) = max n.deep (deepL l) := fun _ _ => by simp [deepL]
  have dd := fun n : Nd => n.deep_eq
  have d0 : deepL [] = 0 := by simp [deepL]
  induction h with
  | nil => simp [deepR]
  | out h => simp [deepR]
  | @ins n l s s1 it o h hk hi hr ih => simp only [deepR, RL.deep, Task.dp, dc] at *; have := dd n; omega
  | insX h hk hi => simp [deepR]
  | @ife n l s o1 o h hk hb he hr ih1 ih2 => simp only [deepR_app, Task.dp, dc] at *; have := dd n; omega
  | @ifeX n l s o1 h hk hb he ih1 => simp only [Task.dp, dc] at *; have := dd n; omega
  | @loop n l s o1 o h hk hb he hr ih1 ih2 => simp only [deepR, RL.deep, Task.dp, dc] at *; have := dd n; omega
  | @loopX n l s o1 h hk hb he ih1 => simp only [deepR, RL.deep, Task.dp, dc] at *; have := dd n; omega
  | brX ha he ih => simp only [Task.dp] at *; omega
  | brT ha he ht hr ih1 ih2 => simp only [deepR_app, deepR, RL.deep, Task.dp] at *; omega
  | brF ha he ht hr ih1 ih2 => simp only [deepR_app, deepR, RL.deep, Task.dp] at *; omega
  | lpO h => simp [deepR]
  | lpX h hb he ih1 => simp only [Task.dp, d0] at *; omega
  | lpE h hb he ht ih1 => simp only [Task.dp, d0] at *; omega
  | lpM h hb he ht hr ih1 ih2 => simp only [deepR_app, Task.dp, d0] at *; omega
/-! ### Parts of leakage in memory -/
def RL.k : RL → Int | .line _ => 1 | .node k _ _ => k
def RL.its : RL → List Int | .line it => it.toList | .node _ _ _ => []
def RL.tk : RL → Bool | .line _ => false | .node _ t _ => t
def RL.subs : RL → List (List RL) | .line _ => [] | .node _ _ s => [s]
/-- A list of leaks, as a value. -/
structure LvAt (h : IHeap) (v : IV) (L : List RL) : Prop where
  ex : ∃ lb cs, v = vOf lb cs ∧ (∀ b, lb = some b → h.get b = some (.row cs)) ∧ (lb = none → cs = []) ∧ cs.length % 4 = 0 ∧ LkAt h (fun _ => True) cs L
def SubsAt (h : IHeap) (v : IV) (subs : List (List RL)) : Prop := (v = .nils ∧ subs = []) ∨ ∃ sb u s, v = .slice sb 0 1 1 ∧ subs = [s] ∧ h.get sb = some (.row [u]) ∧ u.one = true ∧ LvAt h u s
structure ElAt (h : IHeap) (x : RL) (c1 c3 : IV) : Prop where
  its : RetIn h 0 c1 x.its
  subs : SubsAt h c3 x.subs
theorem LkAt.el {h : IHeap} {cs : List IV} {L : List RL} (a : LkAt h (fun _ => True) cs L) : ∀ {i : Nat} {x : RL}, L[i]? = some x → ∃ c1 c3, (cs.drop (i * 4)).take 4 = [.int .i64 x.k, c1, .bool x.tk, c3] ∧ ElAt h x c1 c3 := by
  induction a with
  | nil => intro i x hx; simp at hx
  | line0 t ih =>
    intro i x hx
    cases i with
    | zero => simp at hx; subst hx; exact ⟨.nils, .nils, rfl, ⟨.inl ⟨rfl, rfl⟩, .inl ⟨rfl, rfl⟩⟩⟩
    | succ i =>
      simp at hx
      obtain ⟨c1, c3, h1, h2⟩ := ih hx
      refine ⟨c1, c3, ?_, h2⟩
      rw [← h1, Nat.succ_mul]; rfl
  | line1 hp hb t ih =>
    rename_i cs L b a
    intro i x hx
    cases i with
    | zero => simp at hx; subst hx; exact ⟨.aslice b 0 1 1, .nils, rfl, ⟨.inr ⟨b, rfl, Nat.zero_le _, hb⟩, .inl ⟨rfl, rfl⟩⟩⟩
    | succ i =>
      simp at hx
      obtain ⟨c1, c3, h1, h2⟩ := ih hx
      refine ⟨c1, c3, ?_, h2⟩
      rw [← h1, Nat.succ_mul]; rfl
  | node hp ho hl ht t ih1 ih2 =>
    rename_i cs cs1 L sub sb k tk lb
    intro i x hx
    cases i with
    | zero => simp at hx; subst hx; exact ⟨.nils, .slice sb 0 1 1, rfl, ⟨.inl ⟨rfl, rfl⟩, .inr ⟨sb, vOf lb cs1, sub, rfl, rfl, ho.cell', vOf_one _ _, ⟨lb, cs1, rfl, ho.row, ho.none, ho.len, ht⟩⟩⟩⟩
    | succ i =>
      simp at hx
      obtain ⟨c1, c3, h1, h2⟩ := ih2 hx
      refine ⟨c1, c3, ?_, h2⟩
      rw [← h1, Nat.succ_mul]; rfl
theorem LvAt.len {h : IHeap} {v : IV} {L : List RL} (a : LvAt h v L) : slenV v = some L.length := by
  obtain ⟨lb, cs, rfl, h1, h2, h3, h4⟩ := a.ex
  have := h4.len
  cases lb with
  | none =>
    have := h2 rfl
    subst this
    have : L.length = 0 := by simp at h4 ⊢; cases h4; rfl
    rw [this]; rfl
  | some b => simp only [vOf, slen_asl]; congr 1; omega
theorem LvAt.at_ {h : IHeap} {v : IV} {L : List RL} (a : LvAt h v L) {i : Nat} {x : RL} (hx : L[i]? = some x) : ∃ b c1 c3, iaddrV 4 v i = some (.ptr b (i * 4)) ∧ Im.loadN h (.ptr b (i * 4)) 4 = some [.int .i64 x.k, c1, .bool x.tk, c3] ∧
    Im.load1 h (.ptr b (i * 4)) = some (.int .i64 x.k) ∧ Im.load1 h (.ptr b (i * 4 + 1)) = some c1 ∧ Im.load1 h (.ptr b (i * 4 + 2)) = some (.bool x.tk) ∧ Im.load1 h (.ptr b (i * 4 + 3)) = some c3 ∧ ElAt h x c1 c3 := by
  obtain ⟨lb, cs, rfl, h1, h2, h3, h4⟩ := a.ex
  have hl := h4.len
  have hlt := (List.getElem?_eq_some_iff.1 hx).1
  cases lb with
  | none => have := h2 rfl; subst this; simp at hl; omega
  | some b =>
    have hb := h1 b rfl
    obtain ⟨c1, c3, e, he⟩ := h4.el hx
    have at_ : ∀ j, j < 4 → cs[i * 4 + j]? = ([.int .i64 x.k, c1, .bool x.tk, c3] : List IV)[j]? := fun j hj => by
      rw [← e, List.getElem?_take_of_lt hj, List.getElem?_drop]
    refine ⟨b, c1, c3, ?_, ?_, ?_, ?_, ?_, ?_, he⟩
    · simp only [vOf]; rw [iaddr_asl, if_pos (by omega)]; simp
    · rw [loadN_ptr, hb, Option.bind_some, rowN_row, subL_ok (by omega), e]
    · rw [load1_ptr, hb, Option.bind_some, rowAt_row]; exact at_ 0 (by omega)
    · rw [load1_ptr, hb, Option.bind_some, rowAt_row]; exact at_ 1 (by omega)
    · rw [load1_ptr, hb, Option.bind_some, rowAt_row]; exact at_ 2 (by omega)
    · rw [load1_ptr, hb, Option.bind_some, rowAt_row]; exact at_ 3 (by omega)
theorem RetIn.len {h : IHeap} {n0 : Nat} {v : IV} {ws : List Int} (a : RetIn h n0 v ws) : slenV v = some ws.length := by
  rcases a with ⟨rfl, rfl⟩ | ⟨b, rfl, _⟩ <;> rfl
theorem RetIn.at_ {h : IHeap} {n0 : Nat} {v : IV} {ws : List Int} (a : RetIn h n0 v ws) {i : Nat} {w : Int} (hw : ws[i]? = some w) : ∃ b, iaddrV 1 v i = some (.ptr b i) ∧ Im.load1 h (.ptr b i) = some (.int .u64 w) := by
  have hlt := (List.getElem?_eq_some_iff.1 hw).1
  rcases a with ⟨rfl, rfl⟩ | ⟨b, rfl, _, hb⟩
  · simp at hw
  · refine ⟨b, ?_, ?_⟩
    · rw [iaddr_asl, if_pos hlt]; simp
    · rw [load1_ptr, hb, Option.bind_some, rowAt_row]; simp [hw, u64v]
theorem SubsAt.len {h : IHeap} {v : IV} {subs : List (List RL)} (a : SubsAt h v subs) : slenV v = some subs.length := by
  rcases a with ⟨rfl, rfl⟩ | ⟨sb, u, s, rfl, rfl, _⟩ <;> rfl
theorem SubsAt.at_ {h : IHeap} {v : IV} {subs : List (List RL)} (a : SubsAt h v subs) {i : Nat} {s : List RL} (hs : subs[i]? = some s) : ∃ b u, iaddrV 1 v i = some (.ptr b i) ∧ Im.load1 h (.ptr b i) = some u ∧ LvAt h u s := by
  rcases a with ⟨rfl, rfl⟩ | ⟨sb, u, s', rfl, rfl, hb, _, hl⟩
  · simp at hs
  · have : i = 0 := by have := (List.getElem?_eq_some_iff.1 hs).1; simpa using this
    subst this
    simp at hs; subst hs
    refine ⟨sb, u, ?_, ?_, hl⟩
    · rw [iaddr_sl, if_pos (by omega)]
    · rw [load1_ptr, hb]; rfl
theorem SubsAt.one {h : IHeap} {v : IV} {subs : List (List RL)} (a : SubsAt h v subs) : v.one = true := by
  rcases a with ⟨rfl, _⟩ | ⟨sb, u, s', rfl, _⟩ <;> rfl
theorem LkAt.grow {h h' : IHeap} {P : Nat → Prop} {cs : List IV} {L : List RL} (a : LkAt h P cs L) (g : Grow h h') : LkAt h' P cs L := a.mono fun b hb hlt => ⟨hb, g.2 b hlt⟩
theorem LvAt.grow {h h' : IHeap} {v : IV} {L : List RL} (a : LvAt h v L) (g : Grow h h') : LvAt h' v L := by
  obtain ⟨lb, cs, e, h1, h2, h3, h4⟩ := a.ex
  exact ⟨lb, cs, e, fun b hb => g.get (h1 b hb), h2, h3, h4.grow g⟩
theorem LkV.lv {h : IHeap} {n0 : Nat} {lb : Option Nat} {cs : List IV} {L : List RL} (a : LkV h n0 lb cs L) : LvAt h (vOf lb cs) L :=
  ⟨lb, cs, rfl, fun b hb => (a.row b hb).1, a.none, a.len, a.lk.mono fun _ _ _ => ⟨trivial, rfl⟩⟩
theorem RL.deep_subs {x : RL} {i : Nat} {s : List RL} (h : x.subs[i]? = some s) : deepR s + 1 ≤ x.deep := by
  cases x with
  | line it => simp [RL.subs] at h
  | node k t sub => cases i <;> simp [RL.subs] at h; subst h; simp [RL.deep]; omega
theorem RL.cnt_subs {x : RL} {i : Nat} {s : List RL} (h : x.subs[i]? = some s) : cntR s + 1 ≤ x.cnt := by
  cases x with
  | line it => simp [RL.subs] at h
  | node k t sub => cases i <;> simp [RL.subs] at h; subst h; simp [RL.cnt]; omega
theorem RL.its_len (x : RL) : x.its.length ≤ 1 := by
  cases x with
  | line it => cases it <;> simp [RL.its]
  | node k t sub => simp [RL.its]
theorem RL.subs_len (x : RL) : x.subs.length ≤ 1 := by
  cases x <;> simp [RL.subs]
theorem deepR_mem {L : List RL} {i : Nat} {x : RL} (h : L[i]? = some x) : x.deep ≤ deepR L := by
  induction L generalizing i with
  | nil => simp at h
  | cons y ys ih =>
    cases i with
    | zero => simp at h; subst h; simp [deepR]; omega
    | succ i => simp at h; have := ih h; simp [deepR]; omega
theorem cntR_mem {L : List RL} {i : Nat} {x : RL} (h : L[i]? = some x) : x.cnt ≤ cntR L := by
  induction L generalizing i with
  | nil => simp at h
  | cons y ys ih =>
    cases i with
    | zero => simp at h; subst h; simp [cntR]
    | succ i => simp at h; have := ih h; simp [cntR]; omega
end Go.Proofs.YtadeojgiiapljaaGreat.Im
namespace Go.Proofs.YtadeojgiiapljaaGreat.Im
open Go
set_option maxHeartbeats 1000000
theorem b10 {O : Orc} {h : IHeap} {n0 n1 : Nat} {va vb : IV} {ws : List Int} (ha : RetIn h n0 va ws) (hb : RetIn h n1 vb ws) (hl : ws.length < 4000000) :
    (ix O 4000010 ic10.body (startI 0 [va, vb]) h).sat (fun y e h' => y = .ret ∧ e.get 4 = some (.bool true) ∧ h' = h) (fun _ _ _ => False) := by
  have la := ha.len
  have lb := hb.len
  unfold ic10
  simp only [start_cons, start_nil]
  refine sat_seq ?_
  simp only [ss, hps, Nat.reduceEqDiff, Nat.reduceLT, Nat.reduceAdd, Nat.reduceLeDiff, Int.reduceLT, Int.reduceLE, Int.reduceEq, reduceIte]
  refine sat_next (sat_seq (sat_seq ?_))
  simp only [ss, hps, Nat.reduceEqDiff, Nat.reduceLT, Nat.reduceAdd, Nat.reduceLeDiff, Int.reduceLT, Int.reduceLE, Int.reduceEq, reduceIte, la, lb]
  refine sat_next (sat_condK ?_)
  simp only [ss, hps, Nat.reduceEqDiff, Nat.reduceLT, Nat.reduceAdd, Nat.reduceLeDiff, Int.reduceLT, Int.reduceLE, Int.reduceEq, reduceIte]
  refine sat_next (sat_seq (sat_seq ?_))
  simp only [ss, hps, Nat.reduceEqDiff, Nat.reduceLT, Nat.reduceAdd, Nat.reduceLeDiff, Int.reduceLT, Int.reduceLE, Int.reduceEq, reduceIte]
  refine sat_next (sat_block (sat_loop (fun m e h' => ∃ i, i + m = ws.length ∧ e.get 5 = some (.int .i64 i) ∧ h' = h) ws.length (by omega) ?_ ?_))
  · exact ⟨0, by omega, by simp only [ss, hps, Nat.reduceEqDiff, Nat.reduceLT, Nat.reduceAdd, Nat.reduceLeDiff, Int.reduceLT, Int.reduceLE, Int.reduceEq, reduceIte]; rfl, rfl⟩
  · rintro m e h' ⟨i, hi, h5, rfl⟩ hf
    have h0 := hf 0 rfl
    have h1 := hf 1 rfl
    simp only [ss, hps, Nat.reduceEqDiff, Nat.reduceLT, Nat.reduceAdd, Nat.reduceLeDiff, Int.reduceLT, Int.reduceLE, Int.reduceEq, reduceIte, get_put, puto_some] at h0 h1
    clear hf
    refine sat_seq (sat_seq ?_)
    simp only [ss, hps, Nat.reduceEqDiff, Nat.reduceLT, Nat.reduceAdd, Nat.reduceLeDiff, Int.reduceLT, Int.reduceLE, Int.reduceEq, reduceIte, h5, h0, la]
    refine sat_next (sat_condK ?_)
    simp only [ss, hps, Nat.reduceEqDiff, Nat.reduceLT, Nat.reduceAdd, Nat.reduceLeDiff, Int.reduceLT, Int.reduceLE, Int.reduceEq, reduceIte]
    refine sat_condD (fun hlt => ?_) (fun hge => ?_)
    · have hlt : i < ws.length := by omega
      obtain ⟨w, hw⟩ := get_len hlt
      obtain ⟨b1, e1, l1⟩ := ha.at_ hw
      obtain ⟨b2, e2, l2⟩ := hb.at_ hw
      rw [load1_ptr] at l1 l2
      have w3 : IntKind.i64.wrap ((i : Int) + 1) = ((i + 1 : Nat) : Int) := by rw [wrap_i64 (by omega) (by omega)]; simp
      refine sat_skip (sat_seq (sat_block (sat_seq ?_)))
      simp only [ss, hps, Nat.reduceEqDiff, Nat.reduceLT, Nat.reduceAdd, Nat.reduceLeDiff, Int.reduceLT, Int.reduceLE, Int.reduceEq, reduceIte, ds, h0, h1, h5, e1, e2, l1, l2]
      refine sat_next (sat_condK ?_)
      simp only [ss, hps, Nat.reduceEqDiff, Nat.reduceLT, Nat.reduceAdd, Nat.reduceLeDiff, Int.reduceLT, Int.reduceLE, Int.reduceEq, reduceIte]
      refine sat_blk (sat_next ?_)
      simp only [ss, hps, Nat.reduceEqDiff, Nat.reduceLT, Nat.reduceAdd, Nat.reduceLeDiff, Int.reduceLT, Int.reduceLE, Int.reduceEq, reduceIte, h5, w3]
      exact sat_again (m - 1) (by omega) ⟨i + 1, by omega, by simp only [ss, hps, Nat.reduceEqDiff, Nat.reduceLT, Nat.reduceAdd, Nat.reduceLeDiff, Int.reduceLT, Int.reduceLE, Int.reduceEq, reduceIte], rfl⟩
    · refine sat_brk fun hf2 => sat_next (sat_seq ?_)
      simp only [ss, hps, Nat.reduceEqDiff, Nat.reduceLT, Nat.reduceAdd, Nat.reduceLeDiff, Int.reduceLT, Int.reduceLE, Int.reduceEq, reduceIte]
      exact sat_next (sat_ret ⟨rfl, by simp only [ss, hps, Nat.reduceEqDiff, Nat.reduceLT, Nat.reduceAdd, Nat.reduceLeDiff, Int.reduceLT, Int.reduceLE, Int.reduceEq, reduceIte], rfl⟩)
def G10 : List IV → M IV := bodyI T0 onil 4000010 ic10
theorem s10 : Sim Tryz.prog 10 G10 := body_sim onil_sim cc10 4000010
theorem G10_at {h : IHeap} {n0 n1 : Nat} {va vb : IV} {ws : List Int} (ha : RetIn h n0 va ws) (hb : RetIn h n1 vb ws) (hl : ws.length < 4000000) : G10 [va, vb] h = .ok (.bool true) h := by
  obtain ⟨h2, h3, rfl⟩ := rd_done (T := T0) (R := fun h' => h' = h) rfl rfl rfl (by decide) (b10 (O := onil) ha hb hl) rfl
  exact h3
/-! ### What is seen -/
def Sn.cells (s : Sn) : List IV := [.bool s.jump, .bool s.taken, .int .u64 s.addr]
def snC : List Sn → List IV
  | [] => []
  | s :: ss => s.cells ++ snC ss
theorem snC_len : ∀ l : List Sn, (snC l).length = l.length * 3
  | [] => rfl
  | s :: ss => by simp [snC, Sn.cells, snC_len ss]; omega
theorem snC_app : ∀ a b : List Sn, snC (a ++ b) = snC a ++ snC b
  | [], b => rfl
  | s :: ss, b => by simp [snC, snC_app ss b]
theorem snC_at : ∀ {l : List Sn} {i : Nat} {s : Sn} (rest : List IV), l[i]? = some s → ((snC l ++ rest).drop (i * 3)).take 3 = s.cells
  | [], i, s, rest, h => by simp at h
  | x :: xs, 0, s, rest, h => by simp at h; subst h; rfl
  | x :: xs, i + 1, s, rest, h => by
    have := snC_at (l := xs) (i := i) rest (by simpa using h)
    rw [← this, Nat.succ_mul]; rfl
theorem snC_one : ∀ l : List Sn, (snC l).all (·.one) = true
  | [] => rfl
  | s :: ss => by rw [snC, List.all_append, snC_one ss]; rfl
/-- What is seen, in memory. -/
def SeenIn (h : IHeap) (v : IV) (sn : List Sn) : Prop := (v = .nils ∧ sn = []) ∨ ∃ b rest, v = .aslice b 0 sn.length 3 ∧ h.get b = some (.row (snC sn ++ rest))
theorem SeenIn.len {h : IHeap} {v : IV} {sn : List Sn} (a : SeenIn h v sn) : slenV v = some sn.length := by
  rcases a with ⟨rfl, rfl⟩ | ⟨b, rest, rfl, _⟩ <;> rfl
theorem SeenIn.one {h : IHeap} {v : IV} {sn : List Sn} (a : SeenIn h v sn) : v.one = true := by
  rcases a with ⟨rfl, rfl⟩ | ⟨b, rest, rfl, _⟩ <;> rfl
theorem SeenIn.at_ {h : IHeap} {v : IV} {sn : List Sn} (a : SeenIn h v sn) {i : Nat} {s : Sn} (hs : sn[i]? = some s) : ∃ b, iaddrV 3 v i = some (.ptr b (i * 3)) ∧ Im.loadN h (.ptr b (i * 3)) 3 = some s.cells := by
  have hlt := (List.getElem?_eq_some_iff.1 hs).1
  rcases a with ⟨rfl, rfl⟩ | ⟨b, rest, rfl, hb⟩
  · simp at hs
  · refine ⟨b, ?_, ?_⟩
    · rw [iaddr_asl, if_pos hlt]; simp
    · rw [loadN_ptr, hb, Option.bind_some, rowN_row, subL_ok (by simp [snC_len]; omega), snC_at rest hs]
theorem SeenIn.to {h : IHeap} {v : IV} {sn : List Sn} (a : SeenIn h v sn) {n : Nat} (hn : n ≤ sn.length) : ∃ u, sliceToV v (n : Int) = some u ∧ SeenIn h u (sn.take n) := by
  rcases a with ⟨rfl, rfl⟩ | ⟨b, rest, rfl, hb⟩
  · have : n = 0 := by simpa using hn
    subst this
    exact ⟨.nils, rfl, .inl ⟨rfl, rfl⟩⟩
  · refine ⟨.aslice b 0 n 3, ?_, .inr ⟨b, snC (sn.drop n) ++ rest, ?_, ?_⟩⟩
    · simp only [sliceToV]; rw [if_pos ⟨by omega, by omega⟩]; simp
    · rw [List.length_take]; congr 1; omega
    · rw [hb, ← List.append_assoc, ← snC_app, List.take_append_drop]
theorem SeenIn.grow {h h' : IHeap} {v : IV} {sn : List Sn} (a : SeenIn h v sn) (g : Grow h h') : SeenIn h' v sn := by
  rcases a with h1 | ⟨b, rest, e, hb⟩
  · exact .inl h1
  · exact .inr ⟨b, rest, e, g.get hb⟩
theorem eqflat_sn (s : Sn) : eqflatV true [true, true, false] (.agg s.cells) (.agg s.cells) = some (.bool false) := by
  simp [eqflatV, eqFlat, Sn.cells]
theorem b13 {O : Orc} {h : IHeap} {va vb : IV} {sn : List Sn} (ha : SeenIn h va sn) (hb : SeenIn h vb sn) (hl : sn.length < 4000000) :
    (ix O 4000010 ic13.body (startI 0 [va, vb]) h).sat (fun y e h' => y = .ret ∧ e.get 4 = some (.bool true) ∧ h' = h) (fun _ _ _ => False) := by
  have la := ha.len
  have lb := hb.len
  unfold ic13
  simp only [start_cons, start_nil]
  refine sat_seq ?_
  simp only [ss, hps, Nat.reduceEqDiff, Nat.reduceLT, Nat.reduceAdd, Nat.reduceLeDiff, Int.reduceLT, Int.reduceLE, Int.reduceEq, reduceIte]
  refine sat_next (sat_seq (sat_seq ?_))
  simp only [ss, hps, Nat.reduceEqDiff, Nat.reduceLT, Nat.reduceAdd, Nat.reduceLeDiff, Int.reduceLT, Int.reduceLE, Int.reduceEq, reduceIte, la, lb]
  refine sat_next (sat_condK ?_)
  simp only [ss, hps, Nat.reduceEqDiff, Nat.reduceLT, Nat.reduceAdd, Nat.reduceLeDiff, Int.reduceLT, Int.reduceLE, Int.reduceEq, reduceIte]
  refine sat_next (sat_seq (sat_seq ?_))
  simp only [ss, hps, Nat.reduceEqDiff, Nat.reduceLT, Nat.reduceAdd, Nat.reduceLeDiff, Int.reduceLT, Int.reduceLE, Int.reduceEq, reduceIte]
  refine sat_next (sat_block (sat_loop (fun m e h' => ∃ i, i + m = sn.length ∧ e.get 5 = some (.int .i64 i) ∧ h' = h) sn.length (by omega) ?_ ?_))
  · exact ⟨0, by omega, by simp only [ss, hps, Nat.reduceEqDiff, Nat.reduceLT, Nat.reduceAdd, Nat.reduceLeDiff, Int.reduceLT, Int.reduceLE, Int.reduceEq, reduceIte]; rfl, rfl⟩
  · rintro m e h' ⟨i, hi, h5, rfl⟩ hf
    have h0 := hf 0 rfl
    have h1 := hf 1 rfl
    simp only [ss, hps, Nat.reduceEqDiff, Nat.reduceLT, Nat.reduceAdd, Nat.reduceLeDiff, Int.reduceLT, Int.reduceLE, Int.reduceEq, reduceIte, get_put, puto_some] at h0 h1
    clear hf
    refine sat_seq (sat_seq ?_)
    simp only [ss, hps, Nat.reduceEqDiff, Nat.reduceLT, Nat.reduceAdd, Nat.reduceLeDiff, Int.reduceLT, Int.reduceLE, Int.reduceEq, reduceIte, h5, h0, la]
    refine sat_next (sat_condK ?_)
    simp only [ss, hps, Nat.reduceEqDiff, Nat.reduceLT, Nat.reduceAdd, Nat.reduceLeDiff, Int.reduceLT, Int.reduceLE, Int.reduceEq, reduceIte]
    refine sat_condD (fun hlt => ?_) (fun hge => ?_)
    · have hlt : i < sn.length := by omega
      obtain ⟨w, hw⟩ := get_len hlt
      obtain ⟨b1, e1, l1⟩ := ha.at_ hw
      obtain ⟨b2, e2, l2⟩ := hb.at_ hw
      rw [loadN_ptr] at l1 l2
      have w3 : IntKind.i64.wrap ((i : Int) + 1) = ((i + 1 : Nat) : Int) := by rw [wrap_i64 (by omega) (by omega)]; simp
      have ef := eqflat_sn w
      refine sat_skip (sat_seq (sat_block (sat_seq ?_)))
      simp only [ss, hps, Nat.reduceEqDiff, Nat.reduceLT, Nat.reduceAdd, Nat.reduceLeDiff, Int.reduceLT, Int.reduceLE, Int.reduceEq, reduceIte, ds, h0, h1, h5, e1, e2, l1, l2, ef]
      refine sat_next (sat_condK ?_)
      simp only [ss, hps, Nat.reduceEqDiff, Nat.reduceLT, Nat.reduceAdd, Nat.reduceLeDiff, Int.reduceLT, Int.reduceLE, Int.reduceEq, reduceIte]
      refine sat_blk (sat_next ?_)
      simp only [ss, hps, Nat.reduceEqDiff, Nat.reduceLT, Nat.reduceAdd, Nat.reduceLeDiff, Int.reduceLT, Int.reduceLE, Int.reduceEq, reduceIte, h5, w3]
      exact sat_again (m - 1) (by omega) ⟨i + 1, by omega, by simp only [ss, hps, Nat.reduceEqDiff, Nat.reduceLT, Nat.reduceAdd, Nat.reduceLeDiff, Int.reduceLT, Int.reduceLE, Int.reduceEq, reduceIte], rfl⟩
    · refine sat_brk fun hf2 => sat_next (sat_seq ?_)
      simp only [ss, hps, Nat.reduceEqDiff, Nat.reduceLT, Nat.reduceAdd, Nat.reduceLeDiff, Int.reduceLT, Int.reduceLE, Int.reduceEq, reduceIte]
      exact sat_next (sat_ret ⟨rfl, by simp only [ss, hps, Nat.reduceEqDiff, Nat.reduceLT, Nat.reduceAdd, Nat.reduceLeDiff, Int.reduceLT, Int.reduceLE, Int.reduceEq, reduceIte], rfl⟩)
def G13 : List IV → M IV := bodyI T0 onil 4000010 ic13
theorem s13 : Sim Tryz.prog 13 G13 := body_sim onil_sim cc13 4000010
theorem G13_at {h : IHeap} {va vb : IV} {sn : List Sn} (ha : SeenIn h va sn) (hb : SeenIn h vb sn) (hl : sn.length < 4000000) : G13 [va, vb] h = .ok (.bool true) h := by
  obtain ⟨h2, h3, rfl⟩ := rd_done (T := T0) (R := fun h' => h' = h) rfl rfl rfl (by decide) (b13 (O := onil) ha hb hl) rfl
  exact h3
end Go.Proofs.YtadeojgiiapljaaGreat.Im
