/- The run of code, plainly: a relation; more steps go on where fewer end. -/
import Derived.Test.YtadeojgiiapljaaGreatMmB
import Derived.Test.YtadeojgiiapljaaGreatRnA
import Derived.Test.YtadeojgiiapljaaGreatWdA
set_option linter.unusedSimpArgs false
set_option linter.unusedVariables false
namespace Go.Proofs.YtadeojgiiapljaaGreat.Im
open Go
structure St where
  vs : List Int
  bs : List Int
  steps : Nat
def St.v (s : St) (i : Int) : Int := s.vs.getD i.toNat 0
def St.setv (s : St) (i : Int) (x : Int) : St := ⟨s.vs.set i.toNat x, s.bs, s.steps⟩
def St.tick (s : St) : St := ⟨s.vs, s.bs, s.steps + 1⟩
/-- Leakage of a run. -/
inductive RL where
  | line (item : Option Int)
  | node (k : Int) (t : Bool) (sub : List RL)
structure Out where
  st : St
  L : List RL
  tk : Bool
  en : Option Int
inductive Task where
  | lst (l : List Nd)
  | br (n : Nd) (els : List Nd)
  | lp (n : Nd)
structure Cfg where
  E : Int → Int → Int → Int → Int
  regs : List Reg
  stack : Int
/-- An instruction: its item, and the state behind it; none: bounds. -/
def ins1 (c : Cfg) (x : In8) (s : St) : Option (Option Int × St) :=
  if x.kind = 1 then some (none, s.setv x.d x.word)
  else if x.kind = 2 then some (none, s.setv x.d (s.v x.a))
  else if x.kind = 3 then some (none, s.setv x.d (c.E x.op (s.v x.a) (s.v x.b) (s.v x.c)))
  else if x.kind = 4 then (if askE c.regs (addrV x c.stack s.vs) = 0 then some (some (addrV x c.stack s.vs), s.setv x.d (getN s.bs (addrV x c.stack s.vs).toNat 8)) else none)
  else (if askE c.regs (addrV x c.stack s.vs) = 0 then some (some (addrV x c.stack s.vs), ⟨s.vs, putN s.bs (addrV x c.stack s.vs).toNat (s.v x.b) 8, s.steps⟩) else none)
theorem ins1_steps {c : Cfg} {x : In8} {s s' : St} {it : Option Int} (h : ins1 c x s = some (it, s')) : s'.steps = s.steps := by
  unfold ins1 at h
  repeat' split at h
  all_goals (first | cases h; rfl | cases h)
inductive Run (c : Cfg) (left : Nat) : Task → St → Out → Prop
  | nil {s : St} : Run c left (.lst []) s ⟨s, [], false, none⟩
  | out {n : Nd} {l : List Nd} {s : St} (h : s.steps = left) : Run c left (.lst (n :: l)) s ⟨s, [], false, some 7⟩
  | ins {n : Nd} {l : List Nd} {s s1 : St} {it : Option Int} {o : Out} (h : s.steps ≠ left) (hk : n.kind = 1) (hi : ins1 c n.ins s.tick = some (it, s1)) (hr : Run c left (.lst l) s1 o) : Run c left (.lst (n :: l)) s ⟨o.st, .line it :: o.L, false, o.en⟩
  | insX {n : Nd} {l : List Nd} {s : St} (h : s.steps ≠ left) (hk : n.kind = 1) (hi : ins1 c n.ins s.tick = none) : Run c left (.lst (n :: l)) s ⟨s.tick, [], false, some 14⟩
  | ife {n : Nd} {l : List Nd} {s : St} {o1 o : Out} (h : s.steps ≠ left) (hk : n.kind = 2) (hb : Run c left (.br n n.els) s.tick o1) (he : o1.en = none) (hr : Run c left (.lst l) o1.st o) : Run c left (.lst (n :: l)) s ⟨o.st, o1.L ++ o.L, false, o.en⟩
  | ifeX {n : Nd} {l : List Nd} {s : St} {o1 : Out} (h : s.steps ≠ left) (hk : n.kind = 2) (hb : Run c left (.br n n.els) s.tick o1) (he : o1.en ≠ none) : Run c left (.lst (n :: l)) s ⟨o1.st, o1.L, false, o1.en⟩
  | loop {n : Nd} {l : List Nd} {s : St} {o1 o : Out} (h : s.steps ≠ left) (hk : n.kind = 3) (hb : Run c left (.lp n) s.tick o1) (he : o1.en = none) (hr : Run c left (.lst l) o1.st o) : Run c left (.lst (n :: l)) s ⟨o.st, .node 3 false o1.L :: o.L, false, o.en⟩
  | loopX {n : Nd} {l : List Nd} {s : St} {o1 : Out} (h : s.steps ≠ left) (hk : n.kind = 3) (hb : Run c left (.lp n) s.tick o1) (he : o1.en ≠ none) : Run c left (.lst (n :: l)) s ⟨o1.st, [.node 3 false o1.L], false, o1.en⟩
  | brX {n : Nd} {els : List Nd} {s : St} {o1 : Out} (ha : Run c left (.lst n.ahead) s o1) (he : o1.en ≠ none) : Run c left (.br n els) s ⟨o1.st, o1.L, false, o1.en⟩
  | brT {n : Nd} {els : List Nd} {s : St} {o1 o : Out} (ha : Run c left (.lst n.ahead) s o1) (he : o1.en = none) (ht : o1.st.v n.cond ≠ 0) (hr : Run c left (.lst n.body) o1.st o) : Run c left (.br n els) s ⟨o.st, o1.L ++ [.node 2 true o.L], true, o.en⟩
  | brF {n : Nd} {els : List Nd} {s : St} {o1 o : Out} (ha : Run c left (.lst n.ahead) s o1) (he : o1.en = none) (ht : o1.st.v n.cond = 0) (hr : Run c left (.lst els) o1.st o) : Run c left (.br n els) s ⟨o.st, o1.L ++ [.node 2 false o.L], false, o.en⟩
  | lpO {n : Nd} {s : St} (h : s.steps = left) : Run c left (.lp n) s ⟨s, [], false, some 7⟩
  | lpX {n : Nd} {s : St} {o1 : Out} (h : s.steps ≠ left) (hb : Run c left (.br n []) s.tick o1) (he : o1.en ≠ none) : Run c left (.lp n) s ⟨o1.st, o1.L, false, o1.en⟩
  | lpE {n : Nd} {s : St} {o1 : Out} (h : s.steps ≠ left) (hb : Run c left (.br n []) s.tick o1) (he : o1.en = none) (ht : o1.tk = false) : Run c left (.lp n) s ⟨o1.st, o1.L, false, none⟩
  | lpM {n : Nd} {s : St} {o1 o : Out} (h : s.steps ≠ left) (hb : Run c left (.br n []) s.tick o1) (he : o1.en = none) (ht : o1.tk = true) (hr : Run c left (.lp n) o1.st o) : Run c left (.lp n) s ⟨o.st, o1.L ++ o.L, false, o.en⟩
theorem Run.steps {c : Cfg} {left : Nat} {t : Task} {s : St} {o : Out} (h : Run c left t s o) : s.steps ≤ left → o.st.steps ≤ left ∧ s.steps ≤ o.st.steps := by
  have tk : ∀ s : St, s.tick.steps = s.steps + 1 := fun _ => rfl
  induction h with
  | nil => intro hs; exact ⟨hs, Nat.le_refl _⟩
  | out h => intro hs; exact ⟨hs, Nat.le_refl _⟩
  | ins h hk hi hr ih => intro hs; have := ins1_steps hi; rw [tk] at this; have := ih (by omega); constructor <;> simp only <;> omega
  | insX h hk hi => intro hs; simp only [tk]; omega
  | ife h hk hb he hr ih1 ih2 => intro hs; simp only [tk] at ih1; have := ih1 (by omega); have := ih2 this.1; constructor <;> simp only <;> omega
  | ifeX h hk hb he ih1 => intro hs; simp only [tk] at ih1; have := ih1 (by omega); constructor <;> simp only <;> omega
  | loop h hk hb he hr ih1 ih2 => intro hs; simp only [tk] at ih1; have := ih1 (by omega); have := ih2 this.1; constructor <;> simp only <;> omega
  | loopX h hk hb he ih1 => intro hs; simp only [tk] at ih1; have := ih1 (by omega); constructor <;> simp only <;> omega
  | brX ha he ih => intro hs; exact ih hs
  | brT ha he ht hr ih1 ih2 => intro hs; have := ih1 hs; have := ih2 this.1; constructor <;> simp only <;> omega
  | brF ha he ht hr ih1 ih2 => intro hs; have := ih1 hs; have := ih2 this.1; constructor <;> simp only <;> omega
  | lpO h => intro hs; exact ⟨hs, Nat.le_refl _⟩
  | lpX h hb he ih1 => intro hs; simp only [tk] at ih1; have := ih1 (by omega); constructor <;> simp only <;> omega
  | lpE h hb he ht ih1 => intro hs; simp only [tk] at ih1; have := ih1 (by omega); constructor <;> simp only <;> omega
  | lpM h hb he ht hr ih1 ih2 => intro hs; simp only [tk] at ih1; have := ih1 (by omega); have := ih2 this.1; constructor <;> simp only <;> omega
/-- What is seen of leakage: a jump, or an address. -/
structure Sn where
  jump : Bool
  taken : Bool
  addr : Int
mutual
def RL.flat : RL → List Sn
  | .line none => []
  | .line (some a) => [⟨false, false, a⟩]
  | .node k t sub => (if k = 2 then [⟨true, !t, 0⟩] else []) ++ flatL sub
def flatL : List RL → List Sn
  | [] => []
  | x :: xs => x.flat ++ flatL xs
end
theorem flatL_append (a b : List RL) : flatL (a ++ b) = flatL a ++ flatL b := by
  induction a with
  | nil => simp [flatL]
  | cons x xs ih => simp [flatL, ih]
theorem flatL_one (x : RL) : flatL [x] = x.flat := by simp [flatL]
theorem flat_node (k : Int) (t : Bool) (sub : List RL) : (RL.node k t sub).flat = (if k = 2 then [⟨true, !t, 0⟩] else []) ++ flatL sub := by simp [RL.flat]
def Beg (a b : List RL) : Prop := flatL a <+: flatL b
theorem Beg.nil (b : List RL) : Beg [] b := by simp [Beg, flatL]
theorem Beg.more {a b : List RL} (h : Beg a b) (d : List RL) : Beg a (b ++ d) := by
  unfold Beg at *; rw [flatL_append]; exact h.trans (List.prefix_append _ _)
theorem Beg.app (p : List RL) {a b : List RL} (h : Beg a b) : Beg (p ++ a) (p ++ b) := by
  unfold Beg at *; rw [flatL_append, flatL_append]; exact (List.prefix_append_right_inj _).2 h
theorem Beg.cons (x : RL) {a b : List RL} (h : Beg a b) : Beg (x :: a) (x :: b) := Beg.app [x] h
theorem Beg.node {k : Int} {t : Bool} {a b : List RL} (h : Beg a b) : Beg [.node k t a] [.node k t b] := by
  unfold Beg at *; rw [flatL_one, flatL_one, flat_node, flat_node]; exact (List.prefix_append_right_inj _).2 h
/-- The same, or a beginning. -/
def Le (o1 o2 : Out) : Prop := o1 = o2 ∨ (o1.en = some 7 ∧ Beg o1.L o2.L)
theorem Run.le {c : Cfg} {l1 l2 : Nat} (hl : l1 ≤ l2) {t : Task} {s : St} {o1 : Out} (h : Run c l1 t s o1) : s.steps ≤ l1 → ∀ o2, Run c l2 t s o2 → Le o1 o2 := by
  have tk : ∀ s : St, s.tick.steps = s.steps + 1 := fun _ => rfl
  induction h with
  | nil => intro hs o2 h2; cases h2; exact .inl rfl
  | out h => intro hs o2 h2; exact .inr ⟨rfl, Beg.nil _⟩
  | ins h hk hi hr ih =>
    intro hs o2 h2
    have hst := ins1_steps hi
    cases h2 with
    | out h' => omega
    | ins h' hk' hi' hr' =>
      rw [hi] at hi'; cases hi'
      rcases ih (by rw [hst, tk]; omega) _ hr' with e | ⟨e, b⟩
      · left; rw [e]
      · exact .inr ⟨e, b.cons _⟩
    | insX h' hk' hi' => rw [hi] at hi'; cases hi'
    | ife h' hk' => omega
    | ifeX h' hk' => omega
    | loop h' hk' => omega
    | loopX h' hk' => omega
  | insX h hk hi =>
    intro hs o2 h2
    cases h2 with
    | out h' => omega
    | ins h' hk' hi' hr' => rw [hi] at hi'; cases hi'
    | insX h' hk' hi' => exact .inl rfl
    | ife h' hk' => omega
    | ifeX h' hk' => omega
    | loop h' hk' => omega
    | loopX h' hk' => omega
  | ife h hk hb he hr ih1 ih2 =>
    intro hs o2 h2
    have hst := hb.steps (by rw [tk]; omega)
    cases h2 with
    | out h' => omega
    | ins h' hk' => omega
    | insX h' hk' => omega
    | ife h' hk' hb' he' hr' =>
      rcases ih1 (by rw [tk]; omega) _ hb' with e | ⟨e, _⟩
      · subst e
        rcases ih2 hst.1 _ hr' with e | ⟨e, b⟩
        · left; rw [e]
        · exact .inr ⟨e, b.app _⟩
      · rw [he] at e; cases e
    | ifeX h' hk' hb' he' =>
      rcases ih1 (by rw [tk]; omega) _ hb' with e | ⟨e, _⟩
      · subst e; exact absurd he he'
      · rw [he] at e; cases e
    | loop h' hk' => omega
    | loopX h' hk' => omega
  | ifeX h hk hb he ih1 =>
    intro hs o2 h2
    cases h2 with
    | out h' => omega
    | ins h' hk' => omega
    | insX h' hk' => omega
    | ife h' hk' hb' he' hr' =>
      rcases ih1 (by rw [tk]; omega) _ hb' with e | ⟨e, b⟩
      · subst e; exact absurd he' he
      · exact .inr ⟨e, b.more _⟩
    | ifeX h' hk' hb' he' =>
      rcases ih1 (by rw [tk]; omega) _ hb' with e | ⟨e, b⟩
      · left; rw [e]
      · exact .inr ⟨e, b⟩
    | loop h' hk' => omega
    | loopX h' hk' => omega
  | loop h hk hb he hr ih1 ih2 =>
    intro hs o2 h2
    have hst := hb.steps (by rw [tk]; omega)
    cases h2 with
    | out h' => omega
    | ins h' hk' => omega
    | insX h' hk' => omega
    | loop h' hk' hb' he' hr' =>
      rcases ih1 (by rw [tk]; omega) _ hb' with e | ⟨e, _⟩
      · subst e
        rcases ih2 hst.1 _ hr' with e | ⟨e, b⟩
        · left; rw [e]
        · exact .inr ⟨e, b.cons _⟩
      · rw [he] at e; cases e
    | loopX h' hk' hb' he' =>
      rcases ih1 (by rw [tk]; omega) _ hb' with e | ⟨e, _⟩
      · subst e; exact absurd he he'
      · rw [he] at e; cases e
    | ife h' hk' => omega
    | ifeX h' hk' => omega
  | loopX h hk hb he ih1 =>
    intro hs o2 h2
    cases h2 with
    | out h' => omega
    | ins h' hk' => omega
    | insX h' hk' => omega
    | loop h' hk' hb' he' hr' =>
      rcases ih1 (by rw [tk]; omega) _ hb' with e | ⟨e, b⟩
      · subst e; exact absurd he' he
      · exact .inr ⟨e, (Beg.node b).more _⟩
    | loopX h' hk' hb' he' =>
      rcases ih1 (by rw [tk]; omega) _ hb' with e | ⟨e, b⟩
      · left; rw [e]
      · exact .inr ⟨e, Beg.node b⟩
    | ife h' hk' => omega
    | ifeX h' hk' => omega
  | brX ha he ih =>
    intro hs o2 h2
    cases h2 with
    | brX ha' he' =>
      rcases ih hs _ ha' with e | ⟨e, b⟩
      · left; rw [e]
      · exact .inr ⟨e, b⟩
    | brT ha' he' ht' hr' =>
      rcases ih hs _ ha' with e | ⟨e, b⟩
      · subst e; exact absurd he' he
      · exact .inr ⟨e, b.more _⟩
    | brF ha' he' ht' hr' =>
      rcases ih hs _ ha' with e | ⟨e, b⟩
      · subst e; exact absurd he' he
      · exact .inr ⟨e, b.more _⟩
  | brT ha he ht hr ih1 ih2 =>
    intro hs o2 h2
    have hst := ha.steps hs
    cases h2 with
    | brX ha' he' =>
      rcases ih1 hs _ ha' with e | ⟨e, b⟩
      · subst e; exact absurd he he'
      · rw [he] at e; cases e
    | brT ha' he' ht' hr' =>
      rcases ih1 hs _ ha' with e | ⟨e, b⟩
      · subst e
        rcases ih2 hst.1 _ hr' with e | ⟨e, b⟩
        · left; rw [e]
        · exact .inr ⟨e, (Beg.node b).app _⟩
      · rw [he] at e; cases e
    | brF ha' he' ht' hr' =>
      rcases ih1 hs _ ha' with e | ⟨e, b⟩
      · subst e; exact absurd ht' ht
      · rw [he] at e; cases e
  | brF ha he ht hr ih1 ih2 =>
    intro hs o2 h2
    have hst := ha.steps hs
    cases h2 with
    | brX ha' he' =>
      rcases ih1 hs _ ha' with e | ⟨e, b⟩
      · subst e; exact absurd he he'
      · rw [he] at e; cases e
    | brF ha' he' ht' hr' =>
      rcases ih1 hs _ ha' with e | ⟨e, b⟩
      · subst e
        rcases ih2 hst.1 _ hr' with e | ⟨e, b⟩
        · left; rw [e]
        · exact .inr ⟨e, (Beg.node b).app _⟩
      · rw [he] at e; cases e
    | brT ha' he' ht' hr' =>
      rcases ih1 hs _ ha' with e | ⟨e, b⟩
      · subst e; exact absurd ht ht'
      · rw [he] at e; cases e
  | lpO h => intro hs o2 h2; exact .inr ⟨rfl, Beg.nil _⟩
  | lpX h hb he ih1 =>
    intro hs o2 h2
    cases h2 with
    | lpO h' => omega
    | lpX h' hb' he' =>
      rcases ih1 (by rw [tk]; omega) _ hb' with e | ⟨e, b⟩
      · left; rw [e]
      · exact .inr ⟨e, b⟩
    | lpE h' hb' he' ht' =>
      rcases ih1 (by rw [tk]; omega) _ hb' with e | ⟨e, b⟩
      · subst e; exact absurd he' he
      · exact .inr ⟨e, b⟩
    | lpM h' hb' he' ht' hr' =>
      rcases ih1 (by rw [tk]; omega) _ hb' with e | ⟨e, b⟩
      · subst e; exact absurd he' he
      · exact .inr ⟨e, b.more _⟩
  | lpE h hb he ht ih1 =>
    intro hs o2 h2
    cases h2 with
    | lpO h' => omega
    | lpX h' hb' he' =>
      rcases ih1 (by rw [tk]; omega) _ hb' with e | ⟨e, b⟩
      · subst e; exact absurd he he'
      · rw [he] at e; cases e
    | lpE h' hb' he' ht' =>
      rcases ih1 (by rw [tk]; omega) _ hb' with e | ⟨e, b⟩
      · left; rw [e]
      · rw [he] at e; cases e
    | lpM h' hb' he' ht' hr' =>
      rcases ih1 (by rw [tk]; omega) _ hb' with e | ⟨e, b⟩
      · subst e; rw [ht] at ht'; cases ht'
      · rw [he] at e; cases e
  | lpM h hb he ht hr ih1 ih2 =>
    intro hs o2 h2
    have hst := hb.steps (by rw [tk]; omega)
    cases h2 with
    | lpO h' => omega
    | lpX h' hb' he' =>
      rcases ih1 (by rw [tk]; omega) _ hb' with e | ⟨e, b⟩
      · subst e; exact absurd he he'
      · rw [he] at e; cases e
    | lpE h' hb' he' ht' =>
      rcases ih1 (by rw [tk]; omega) _ hb' with e | ⟨e, b⟩
      · subst e; rw [ht] at ht'; cases ht'
      · rw [he] at e; cases e
    | lpM h' hb' he' ht' hr' =>
      rcases ih1 (by rw [tk]; omega) _ hb' with e | ⟨e, b⟩
      · subst e
        rcases ih2 hst.1 _ hr' with e | ⟨e, b⟩
        · left; rw [e]
        · exact .inr ⟨e, b.app _⟩
      · rw [he] at e; cases e
end Go.Proofs.YtadeojgiiapljaaGreat.Im
namespace Go.Proofs.YtadeojgiiapljaaGreat.Im
open Go
set_option maxHeartbeats 1000000
/-- A run's blocks, and what doesn't change. -/
structure Cx where
  rb : Nat
  vb : Nat
  n : Nat
  mb : Nat
  bb : Nat
  left : Nat
  regs : List Reg
  stack : Int
def Cx.c (x : Cx) : Cfg := ⟨evalW, x.regs, x.stack⟩
structure RSt (x : Cx) (h : IHeap) (s : St) (errno : Int) : Prop where
  r : h.get x.rb = some (runRow x.vb x.n x.mb x.stack x.left s.steps errno)
  v : h.get x.vb = some (.row (s.vs.map u64v))
  vn : s.vs.length = x.n
  m : MemR h x.mb x.bb s.bs x.regs
theorem row_ne {h : IHeap} {a b : Nat} {x y : List IV} (ha : h.get a = some (.row x)) (hb : h.get b = some (.row y)) (hn : x ≠ y) : a ≠ b := by
  rintro rfl; rw [ha] at hb; exact hn (IObj.row.inj (Option.some.inj hb))
theorem RSt.rv {x : Cx} {h : IHeap} {s : St} {e : Int} (a : RSt x h s e) : x.rb ≠ x.vb := by
  refine row_ne a.r a.v fun hh => ?_
  cases hs : s.vs with
  | nil => rw [hs] at hh; cases hh
  | cons y ys => rw [hs] at hh; simp [u64v] at hh
theorem RSt.rbb {x : Cx} {h : IHeap} {s : St} {e : Int} (a : RSt x h s e) : x.rb ≠ x.bb := by
  obtain ⟨hb, hl⟩ := a.m.bytes
  refine row_ne a.r hb fun hh => ?_
  have := congrArg List.length hh
  simp [hl] at this
theorem RSt.vbb {x : Cx} {h : IHeap} {s : St} {e : Int} (a : RSt x h s e) (hn : 0 < x.n) : x.vb ≠ x.bb := by
  obtain ⟨hb, hl⟩ := a.m.bytes
  refine row_ne a.v hb fun hh => ?_
  cases hs : s.vs with
  | nil => have := a.vn; rw [hs] at this; simp at this; omega
  | cons y ys =>
    rw [hs] at hh
    cases ht : s.bs with
    | nil => rw [ht] at hl; simp at hl
    | cons z zs => rw [ht] at hh; simp [u64v, u8] at hh
/-- Where leaked lines are laid: a slice of them in a cell. -/
structure OutAt (h : IHeap) (ob : Nat) (lb : Option Nat) (cs : List IV) : Prop where
  cell : h.get ob = some (.row [match lb with | some b => .aslice b 0 (cs.length / 4) 4 | none => .nils])
  row : ∀ b, lb = some b → h.get b = some (.row cs)
  none : lb = none → cs = []
  len : cs.length % 4 = 0
theorem OutAt.lt {h : IHeap} {ob : Nat} {lb : Option Nat} {cs : List IV} (o : OutAt h ob lb cs) : ob < h.n := get_lt o.cell
inductive LkAt (h : IHeap) (P : Nat → Prop) : List IV → List RL → Prop
  | nil : LkAt h P [] []
  | line0 {cs : List IV} {L : List RL} (t : LkAt h P cs L) : LkAt h P (lineC .nils ++ cs) (.line none :: L)
  | line1 {cs : List IV} {L : List RL} {b : Nat} {a : Int} (hp : P b) (hb : h.get b = some (.row [.int .u64 a])) (t : LkAt h P cs L) : LkAt h P (lineC (.aslice b 0 1 1) ++ cs) (.line (some a) :: L)
  | node {cs cs1 : List IV} {L sub : List RL} {sb : Nat} {k : Int} {tk : Bool} {lb : Option Nat} (hp : P sb) (ho : OutAt h sb lb cs1) (hl : ∀ b, lb = some b → P b) (ht : LkAt h P cs1 sub) (t : LkAt h P cs L) :
      LkAt h P ([.int .i64 k, .nils, .bool tk, .slice sb 0 1 1] ++ cs) (.node k tk sub :: L)
theorem OutAt.mono {h h' : IHeap} {ob : Nat} {lb : Option Nat} {cs : List IV} (o : OutAt h ob lb cs) (h1 : h'.get ob = h.get ob) (h2 : ∀ b, lb = some b → h'.get b = h.get b) : OutAt h' ob lb cs :=
  ⟨h1.trans o.cell, fun b hb => (h2 b hb).trans (o.row b hb), o.none, o.len⟩
theorem LkAt.mono {h h' : IHeap} {P Q : Nat → Prop} {cs : List IV} {L : List RL} (a : LkAt h P cs L) (hm : ∀ b, P b → b < h.n → Q b ∧ h'.get b = h.get b) : LkAt h' Q cs L := by
  induction a with
  | nil => exact .nil
  | line0 t ih => exact .line0 ih
  | line1 hp hb t ih => obtain ⟨q, e⟩ := hm _ hp (get_lt hb); exact .line1 q (e.trans hb) ih
  | node hp ho hl ht t ih1 ih2 =>
    obtain ⟨q, e⟩ := hm _ hp ho.lt
    exact .node q (ho.mono e fun b hb => (hm b (hl b hb) (get_lt (ho.row b hb))).2) (fun b hb => (hm b (hl b hb) (get_lt (ho.row b hb))).1) ih1 ih2
theorem LkAt.app {h : IHeap} {P : Nat → Prop} {cs cs' : List IV} {L L' : List RL} (a : LkAt h P cs L) (b : LkAt h P cs' L') : LkAt h P (cs ++ cs') (L ++ L') := by
  induction a with
  | nil => exact b
  | line0 t ih => rw [List.append_assoc]; exact .line0 ih
  | line1 hp hb t ih => rw [List.append_assoc]; exact .line1 hp hb ih
  | node hp ho hl ht t ih1 ih2 => rw [List.append_assoc]; exact .node hp ho hl ht ih2
theorem LkAt.len {h : IHeap} {P : Nat → Prop} {cs : List IV} {L : List RL} (a : LkAt h P cs L) : cs.length = 4 * L.length := by
  induction a with
  | nil => rfl
  | line0 t ih => simp [lineC, ih]; omega
  | line1 hp hb t ih => simp [lineC, ih]; omega
  | node hp ho hl ht t ih1 ih2 => simp [ih2]; omega
theorem LkAt.one {h : IHeap} {P : Nat → Prop} {cs : List IV} {L : List RL} (a : LkAt h P cs L) : cs.all (·.one) = true := by
  induction a with
  | nil => rfl
  | line0 t ih => rw [List.all_append, ih]; rfl
  | line1 hp hb t ih => rw [List.all_append, ih]; rfl
  | node hp ho hl ht t ih1 ih2 => rw [List.all_append, ih2]; rfl
/-- What may change. -/
structure Fr (x : Cx) (ob : Nat) (lb : Option Nat) (h h' : IHeap) : Prop where
  n : h.n ≤ h'.n
  same : ∀ b, b < h.n → b ≠ x.rb → b ≠ x.vb → b ≠ x.bb → b ≠ ob → lb ≠ some b → h'.get b = h.get b
theorem Fr.refl (x : Cx) (ob : Nat) (lb : Option Nat) (h : IHeap) : Fr x ob lb h h := ⟨Nat.le_refl _, fun _ _ _ _ _ _ _ => rfl⟩
/-- A new one of what is laid there, or the elder one. -/
def NewLb (h : IHeap) (lb lb' : Option Nat) : Prop := lb' = lb ∨ ∃ b, lb' = some b ∧ h.n ≤ b
theorem Fr.trans {x : Cx} {ob : Nat} {lb lb1 : Option Nat} {h h1 h2 : IHeap} (a : Fr x ob lb h h1) (b : Fr x ob lb1 h1 h2) (hl : NewLb h lb lb1) : Fr x ob lb h h2 :=
  ⟨Nat.le_trans a.n b.n, fun c hc n1 n2 n3 n4 n5 => by
    rw [b.same c (Nat.lt_of_lt_of_le hc a.n) n1 n2 n3 n4 ?_, a.same c hc n1 n2 n3 n4 n5]
    rcases hl with e | ⟨d, e, hd⟩
    · rw [e]; exact n5
    · rw [e]; intro he; cases he; omega⟩
theorem Fr.grow {x : Cx} {ob : Nat} {lb : Option Nat} {h h' : IHeap} (g : Grow h h') : Fr x ob lb h h' := ⟨g.1, fun b hb _ _ _ _ _ => g.2 b hb⟩
/-- Behind a piece of a run, begun at h and s, with cs laid. -/
structure Post (x : Cx) (ob : Nat) (lb : Option Nat) (cs : List IV) (h : IHeap) (s : St) (errno : Int) (d : Nat) (o : Out) (h' : IHeap) (lb' : Option Nat) (cs' : List IV) : Prop where
  st : RSt x h' o.st (o.en.getD errno)
  out : OutAt h' ob lb' (cs ++ cs')
  lk : LkAt h' (fun b => h.n ≤ b ∧ lb' ≠ some b) cs' o.L
  fr : Fr x ob lb h h'
  new : NewLb h lb lb'
  slow : cs'.length + 4 * s.steps ≤ 4 * o.st.steps + d
theorem NewLb.trans {h h1 : IHeap} {lb lb1 lb2 : Option Nat} (a : NewLb h lb lb1) (b : NewLb h1 lb1 lb2) (hn : h.n ≤ h1.n) : NewLb h lb lb2 := by
  rcases b with e | ⟨d, e, hd⟩
  · rw [e]; exact a
  · exact .inr ⟨d, e, Nat.le_trans hn hd⟩
theorem RSt.lts {x : Cx} {h : IHeap} {s : St} {e : Int} (a : RSt x h s e) : x.rb < h.n ∧ x.vb < h.n ∧ x.bb < h.n := ⟨get_lt a.r, get_lt a.v, get_lt a.m.bytes.1⟩
theorem Post.trans {x : Cx} {ob : Nat} {lb lb1 lb2 : Option Nat} {cs cs1 cs2 : List IV} {h h1 h2 : IHeap} {s : St} {errno : Int} {o1 o2 : Out} (hr : RSt x h s errno) (ho : ob < h.n)
    {d1 d2 : Nat} (a : Post x ob lb cs h s errno d1 o1 h1 lb1 cs1) (b : Post x ob lb1 (cs ++ cs1) h1 o1.st errno d2 o2 h2 lb2 cs2) (tk : Bool) :
    Post x ob lb cs h s errno (d1 + d2) ⟨o2.st, o1.L ++ o2.L, tk, o2.en⟩ h2 lb2 (cs1 ++ cs2) := by
  obtain ⟨l1, l2, l3⟩ := hr.lts
  refine ⟨b.st, by rw [← List.append_assoc]; exact b.out, (a.lk.mono fun c hc hlt => ?_).app (b.lk.mono fun c hc hlt => ⟨⟨Nat.le_trans a.fr.n hc.1, hc.2⟩, rfl⟩), a.fr.trans b.fr a.new, a.new.trans b.new a.fr.n, ?_⟩
  · refine ⟨⟨hc.1, ?_⟩, b.fr.same c hlt (by omega) (by omega) (by omega) (by omega) hc.2⟩
    rcases b.new with e | ⟨d, e, hd⟩
    · rw [e]; exact hc.2
    · rw [e]; intro he; cases he; omega
  · have := a.slow; have := b.slow; simp only [List.length_append]; omega
/-! ### kinds -/
def mapputV (ks : Bool) (m k v : IV) (h : IHeap) : Res IV := match m with
  | .map b => okH (putI h ks b k v)
  | _ => .fail
theorem rv_mapput (O : Orc) (e : Env) (h : IHeap) (ks : Bool) (m k v : IArg) : runV O (.mapput ks m k v) e h = bindR (m.ev e) fun m => bindR (k.ev e) fun k => bindR (v.ev e) fun v => mapputV ks m k v h := by
  simp only [runV, opAct]
  cases m.ev e with
  | none => rfl
  | some m =>
    cases k.ev e with
    | none => cases m <;> rfl
    | some k =>
      cases v.ev e with
      | none => cases m <;> rfl
      | some v =>
        cases m <;> simp only [bindR, mapputV, okH]
        split <;> simp_all
theorem put_push {h : IHeap} {es : List IEntry} {c : Nat} {ks : Bool} {k v : IV} (hk : keyOk ks k = true) (hf : findI k es 0 = some none) : mapputV ks (.map h.n) k v (h.push (.map es c)) = .ok .undef (h.push (.map (es ++ [⟨k, v, c⟩]) (c + 1))) := by
  have hg : (h.push (.map es c)).get h.n = some (.map es c) := get_push_new
  simp only [mapputV, putI, hk, hg, hf, Bool.not_true, Bool.false_eq_true, if_false, set_push_new, okH]
def kindsM : List IEntry := [⟨.int .i64 1, .func (.func 128) [] [], 0⟩, ⟨.int .i64 2, .func (.func 129) [] [], 1⟩, ⟨.int .i64 3, .func (.func 130) [] [], 2⟩]
def G75 : List IV → M IV := bodyI T0 onil 0 ic75
theorem s75 : Sim Tryz.prog 75 G75 := body_sim onil_sim cc75 0
theorem G75_at (h : IHeap) : G75 [] h = .ok (.map h.n) (h.push (.map kindsM 3)) := by
  have e1 : mapputV false (.map h.n) (.int .i64 1) (.func (.func 128) [] []) (h.push (.map [] 0)) = _ := put_push rfl rfl
  have e2 : mapputV false (.map h.n) (.int .i64 2) (.func (.func 129) [] []) (h.push (.map [⟨.int .i64 1, .func (.func 128) [] [], 0⟩] 1)) = _ := put_push rfl rfl
  have e3 : mapputV false (.map h.n) (.int .i64 3) (.func (.func 130) [] []) (h.push (.map [⟨.int .i64 1, .func (.func 128) [] [], 0⟩, ⟨.int .i64 2, .func (.func 129) [] [], 1⟩] 2)) = _ := put_push rfl rfl
  simp only [List.nil_append, List.cons_append, Nat.reduceAdd, Nat.zero_add] at e1 e2 e3
  unfold G75
  rw [body_eq rfl rfl rfl (by decide)]
  simp only [ss, hps, Nat.reduceEqDiff, Nat.reduceLT, Nat.reduceAdd, Nat.reduceLeDiff, Int.reduceLT, Int.reduceLE, Int.reduceEq, reduceIte, ic75, rv_mapput, e1, e2, e3, kindsM]
theorem kinds_look {h : IHeap} {b : Nat} (hb : h.get b = some (.map kindsM 3)) {k : Int} (hk : k = 1 ∨ k = 2 ∨ k = 3) : lookupI h false .nilf (.map b) (.int .i64 k) false = some (.func (.func (127 + k.toNat)) [] []) := by
  rcases hk with rfl | rfl | rfl <;> simp [lookupI, hb, keyOk, kindsM, findI, keyIs]
end Go.Proofs.YtadeojgiiapljaaGreat.Im
