/- Laws for runs over unknown values. -/
import Derived.Test.YtadeojgiiapljaaGreatImB
import Derived.Test.YtadeojgiiapljaaGreatProg
import Derived.KernelRfl
set_option linter.unusedSimpArgs false
set_option linter.unusedVariables false
namespace Go.Proofs.YtadeojgiiapljaaGreat.Im
open Go

/-- What is asked of an ending. -/
def CRes.sat (Q : IExit → Env → IHeap → Prop) (X : IV → Env → IHeap → Prop) : CRes → Prop
  | .ok x e h => Q x e h
  | .panic v e h => X v e h
  | .fail => False
theorem sat_ok {Q : IExit → Env → IHeap → Prop} {X : IV → Env → IHeap → Prop} {x : IExit} {e : Env} {h : IHeap} : (CRes.ok x e h).sat Q X = Q x e h := rfl
theorem sat_panic {Q : IExit → Env → IHeap → Prop} {X : IV → Env → IHeap → Prop} {v : IV} {e : Env} {h : IHeap} : (CRes.panic v e h).sat Q X = X v e h := rfl
theorem sat_mono {Q Q' : IExit → Env → IHeap → Prop} {X X' : IV → Env → IHeap → Prop} {r : CRes} (h : r.sat Q X) (hQ : ∀ x e h, Q x e h → Q' x e h) (hX : ∀ v e h, X v e h → X' v e h) : r.sat Q' X' := by
  cases r <;> simp only [CRes.sat] at h ⊢
  · exact hQ _ _ _ h
  · exact hX _ _ _ h
theorem sat_bind {r : CRes} {k : IExit → Env → IHeap → CRes} {Q : IExit → Env → IHeap → Prop} {X : IV → Env → IHeap → Prop} (h : r.sat (fun x e h => (k x e h).sat Q X) X) : (r.bind k).sat Q X := by
  cases r <;> exact h
theorem sat_inv {Q : IExit → Env → IHeap → Prop} {X : IV → Env → IHeap → Prop} {r : CRes} (h : r.sat Q X) : (∃ x e h, r = .ok x e h ∧ Q x e h) ∨ (∃ v e h, r = .panic v e h ∧ X v e h) := by
  cases r <;> simp only [CRes.sat] at h
  · exact .inl ⟨_, _, _, rfl, h⟩
  · exact .inr ⟨_, _, _, rfl, h⟩

section
variable {O : Orc} {fuel : Nat} {Q : IExit → Env → IHeap → Prop} {X : IV → Env → IHeap → Prop} {a b : IC} {e : Env} {h : IHeap}
/-- Behind a. -/
def seqQ (O : Orc) (fuel : Nat) (b : IC) (Q : IExit → Env → IHeap → Prop) (X : IV → Env → IHeap → Prop) : IExit → Env → IHeap → Prop
  | .normal, e, h => (ix O fuel b e h).sat Q X
  | .exit id, e, h => Q (.exit id) e h
  | .ret, e, h => Q .ret e h
theorem sat_seq (h1 : (ix O fuel a e h).sat (seqQ O fuel b Q X) X) : (ix O fuel (.seq a b) e h).sat Q X := by
  simp only [ix]
  refine sat_bind (sat_mono h1 (fun x e h hq => ?_) (fun _ _ _ h => h))
  cases x <;> exact hq
def blockQ (id : Nat) (Q : IExit → Env → IHeap → Prop) : IExit → Env → IHeap → Prop
  | .exit i, e, h => if i = id then Q .normal e h else Q (.exit i) e h
  | .normal, e, h => Q .normal e h
  | .ret, e, h => Q .ret e h
theorem sat_block {id : Nat} (h1 : (ix O fuel a e h).sat (blockQ id Q) X) : (ix O fuel (.block id a) e h).sat Q X := by
  simp only [ix]
  refine sat_bind (sat_mono h1 (fun x e h hq => ?_) (fun _ _ _ h => h))
  cases x with
  | normal => simpa [CRes.sat, blockQ] using hq
  | exit i =>
    simp only [blockQ] at hq
    by_cases hi : i = id
    · subst hi; simpa [CRes.sat] using hq
    · have : ¬ (IExit.exit i = IExit.exit id) := by simpa using hi
      simp only [this, hi, if_false] at hq ⊢; exact hq
  | ret => simpa [CRes.sat, blockQ] using hq
theorem sat_cond {c : IArg} {v : Bool} (hv : c.ev e = some (.bool v)) (ht : v = true → (ix O fuel a e h).sat Q X) (hf : v = false → (ix O fuel b e h).sat Q X) : (ix O fuel (.cond c a b) e h).sat Q X := by
  simp only [ix, hv]
  cases v
  · exact hf rfl
  · exact ht rfl
end

/-! ### What code leaves alone -/
def IOper.wr (o : IOper) (t : Nat) : Bool := o.dst == some t || (match o.op with | .deferc _ => Nat.beq t DK | _ => false)
def IC.wr : IC → Nat → Bool
  | .skip, _ => false
  | .reg ops, t => ops.any (·.wr t)
  | .draw ds, t => ds.any fun d => d.o.dst == some t
  | .seq a b, t => a.wr t || b.wr t
  | .cond _ a b, t => a.wr t || b.wr t
  | .block _ a, t => a.wr t
  | .loop a, t => a.wr t
  | .scope a, t => a.wr t
  | .exit _, _ => false
  | .ret, _ => false

def CRes.leaves (e : Env) (wr : Nat → Bool) : CRes → Prop
  | .ok _ e' _ => ∀ t, wr t = false → e'.get t = e.get t
  | .panic _ e' _ => ∀ t, wr t = false → e'.get t = e.get t
  | .fail => True
theorem leaves_puto {e : Env} {d : Option Nat} {v : IV} {t : Nat} (h : (d == some t) = false) : (e.puto d v).get t = e.get t := by
  cases d with
  | none => rfl
  | some u =>
    simp only [Env.puto, get_put]
    rw [if_neg]; rintro rfl; simp at h
theorem reg_leaves {O : Orc} : ∀ (ops : List IOper) (e : Env) (h : IHeap), (ix.regI O ops e h).leaves e (fun t => ops.any (·.wr t))
  | [], e, h => fun t _ => rfl
  | o :: os, e, h => by
    have key : ∀ (e1 : Env) (h1 : IHeap), (∀ t, o.wr t = false → e1.get t = e.get t) → (ix.regI O os e1 h1).leaves e (fun t => (o :: os).any (·.wr t)) := by
      intro e1 h1 he
      have ih := reg_leaves (O := O) os e1 h1
      cases hr : ix.regI O os e1 h1 with
      | ok x e2 h2 =>
        rw [hr] at ih
        intro t ht
        simp only [List.any_cons, Bool.or_eq_false_iff] at ht
        exact (ih t ht.2).trans (he t ht.1)
      | panic v e2 h2 =>
        rw [hr] at ih
        intro t ht
        simp only [List.any_cons, Bool.or_eq_false_iff] at ht
        exact (ih t ht.2).trans (he t ht.1)
      | fail => trivial
    have hput : ∀ v t, o.wr t = false → (e.puto o.dst v).get t = e.get t := fun v t ht => by
      unfold IOper.wr at ht
      rw [Bool.or_eq_false_iff] at ht
      exact leaves_puto ht.1
    unfold ix.regI
    split
    · split
      · rename_i x hop
        split
        · split
          · refine key _ _ fun t ht => ?_
            unfold IOper.wr at ht
            rw [hop, Bool.or_eq_false_iff] at ht
            simp only [get_put]
            rw [if_neg]
            rintro rfl
            simp at ht
          · trivial
        · trivial
      · split
        · exact key _ _ (hput _)
        · exact fun _ _ => rfl
        · trivial
    · exact key _ _ (hput _)
    · trivial
theorem draw_leaves {O : Orc} : ∀ (ds : List DOper) (k : Nat) (ps : List (DOper × IV)) (e : Env) (h : IHeap) (e' : Env) (h' : IHeap), drawI O ds k ps e h = .ok e' h' → ∀ t, (ds.any fun d => d.o.dst == some t) = false → e'.get t = e.get t
  | [], k, ps, e, h, e', h', hr, t, ht => by simp [drawI] at hr; rw [hr.1]
  | d :: ds, k, ps, e, h, e', h', hr, t, ht => by
    simp only [List.any_cons, Bool.or_eq_false_iff] at ht
    unfold drawI at hr
    split at hr
    · exact (draw_leaves ds _ _ _ _ _ _ hr t ht.2).trans (leaves_puto ht.1)
    · split at hr
      · split at hr
        · exact (draw_leaves ds _ _ _ _ _ _ hr t ht.2).trans (leaves_puto ht.1)
        · cases hr
      · split at hr
        · exact (draw_leaves ds _ _ _ _ _ _ hr t ht.2).trans (leaves_puto ht.1)
        · cases hr
      · split at hr
        · exact (draw_leaves ds _ _ _ _ _ _ hr t ht.2).trans (leaves_puto ht.1)
        · cases hr
      · split at hr
        · split at hr
          · exact (draw_leaves ds _ _ _ _ _ _ hr t ht.2).trans (leaves_puto ht.1)
          · cases hr
        · cases hr
        · cases hr
    · cases hr
theorem bind_leaves {e : Env} {wr : Nat → Bool} {r : CRes} {k : IExit → Env → IHeap → CRes} (h : r.leaves e wr) (hk : ∀ x e1 h1, r = .ok x e1 h1 → (k x e1 h1).leaves e1 wr) : (r.bind k).leaves e wr := by
  cases r with
  | ok x e1 h1 =>
    have := hk x e1 h1 rfl
    simp only [CRes.bind]
    cases hr : k x e1 h1 with
    | ok y e2 h2 => rw [hr] at this; exact fun t ht => (this t ht).trans (h t ht)
    | panic v e2 h2 => rw [hr] at this; exact fun t ht => (this t ht).trans (h t ht)
    | fail => trivial
  | panic v e1 h1 => exact h
  | fail => trivial
theorem CRes.leaves_mono {e : Env} {wr wr' : Nat → Bool} {r : CRes} (h : r.leaves e wr) (hw : ∀ t, wr' t = false → wr t = false) : r.leaves e wr' := by
  cases r with
  | ok x e1 h1 => exact fun t ht => h t (hw t ht)
  | panic v e1 h1 => exact fun t ht => h t (hw t ht)
  | fail => trivial
theorem ix_leaves {O : Orc} {fuel : Nat} : ∀ (c : IC) (e : Env) (h : IHeap), (ix O fuel c e h).leaves e c.wr
  | .skip, e, h => fun _ _ => rfl
  | .reg ops, e, h => reg_leaves ops e h
  | .draw ds, e, h => by
    simp only [ix]
    split
    · rename_i hr
      exact fun t ht => draw_leaves ds _ _ _ _ _ _ hr t ht
    · intro t ht
      rw [get_less, if_neg]
      have : (IC.draw ds).wr t = ds.any (writes · t) := rfl
      rw [← this, ht]; simp
    · trivial
  | .seq a b, e, h => by
    simp only [ix]
    refine bind_leaves (CRes.leaves_mono (ix_leaves a e h) fun t ht => (by simp only [IC.wr, Bool.or_eq_false_iff] at ht; exact ht.1)) fun x e1 h1 _ => ?_
    cases x with
    | normal => exact CRes.leaves_mono (ix_leaves b e1 h1) fun t ht => by simp only [IC.wr, Bool.or_eq_false_iff] at ht; exact ht.2
    | exit id => exact fun _ _ => rfl
    | ret => exact fun _ _ => rfl
  | .cond c a b, e, h => by
    simp only [ix]
    split
    · exact CRes.leaves_mono (ix_leaves a e h) fun t ht => by simp only [IC.wr, Bool.or_eq_false_iff] at ht; exact ht.1
    · exact CRes.leaves_mono (ix_leaves b e h) fun t ht => by simp only [IC.wr, Bool.or_eq_false_iff] at ht; exact ht.2
    · trivial
  | .block id a, e, h => by
    simp only [ix]
    refine bind_leaves (ix_leaves a e h) fun x e1 h1 _ => ?_
    split <;> exact fun _ _ => rfl
  | .loop a, e, h => by
    simp only [ix]
    have key : ∀ (n : Nat) (e : Env) (h : IHeap), (loopI (ix O fuel a) n e h).leaves e (IC.loop a).wr := by
      intro n
      induction n with
      | zero => intro e h; trivial
      | succ n ih =>
        intro e h
        simp only [loopI]
        refine bind_leaves (ix_leaves a e h) fun x e1 h1 _ => ?_
        cases x with
        | normal => exact ih e1 h1
        | exit id => exact fun _ _ => rfl
        | ret => exact fun _ _ => rfl
    exact key fuel e h
  | .scope a, e, h => ix_leaves a e h
  | .exit id, e, h => fun _ _ => rfl
  | .ret, e, h => fun _ _ => rfl

/-- Loops: I, at a measure that falls; what the body doesn't set stays as it was. -/
def loopQ (c : IC) (e0 : Env) (I : Nat → Env → IHeap → Prop) (m : Nat) (Q : IExit → Env → IHeap → Prop) : IExit → Env → IHeap → Prop
  | .normal, e, h => ∃ m', m' < m ∧ I m' e h
  | .exit id, e, h => (∀ t, c.wr t = false → e.get t = e0.get t) → Q (.exit id) e h
  | .ret, e, h => (∀ t, c.wr t = false → e.get t = e0.get t) → Q .ret e h
theorem sat_loop {O : Orc} {fuel : Nat} {Q : IExit → Env → IHeap → Prop} {X : IV → Env → IHeap → Prop} {c : IC} {e0 : Env} {h0 : IHeap} (I : Nat → Env → IHeap → Prop) (m0 : Nat) (hm : m0 < fuel) (hI : I m0 e0 h0)
    (step : ∀ m e h, I m e h → (∀ t, c.wr t = false → e.get t = e0.get t) → (ix O fuel c e h).sat (loopQ c e0 I m Q) (fun v e h => (∀ t, c.wr t = false → e.get t = e0.get t) → X v e h)) : (ix O fuel (.loop c) e0 h0).sat Q X := by
  simp only [ix]
  have key : ∀ (n m : Nat) (e : Env) (h : IHeap), m < n → I m e h → (∀ t, c.wr t = false → e.get t = e0.get t) → (loopI (ix O fuel c) n e h).sat Q X := by
    intro n
    induction n with
    | zero => intro m e h hm; omega
    | succ n ih =>
      intro m e h hm hI he
      simp only [loopI]
      have hs := step m e h hI he
      have hl := ix_leaves (O := O) (fuel := fuel) c e h
      cases hr : ix O fuel c e h with
      | ok x e1 h1 =>
        rw [hr] at hs hl
        have he1 : ∀ t, c.wr t = false → e1.get t = e0.get t := fun t ht => (hl t ht).trans (he t ht)
        cases x with
        | normal =>
          obtain ⟨m', hm', hI'⟩ := hs
          exact ih m' e1 h1 (by omega) hI' he1
        | exit id => exact hs he1
        | ret => exact hs he1
      | panic v e1 h1 =>
        rw [hr] at hs hl
        exact hs fun t ht => (hl t ht).trans (he t ht)
      | fail => rw [hr] at hs; exact hs.elim
  exact key fuel m0 e0 h0 hm hI fun _ _ => rfl

/-! ### Functions -/
/-- A body that ends and gives back v. -/
theorem body_ok {T : FuncId → Option IFunc} {O : Orc} {fuel : Nat} {F : IFunc} {args : List IV} {h : IHeap} {R : IV → IHeap → Prop} {X : IV → IHeap → Prop} (hn : args.length = F.nparams) (hr : F.recT = none) (hd : F.body.wr DK = false) (hp : F.nparams ≤ DK)
    (hb : (ix O fuel F.body (startI 0 args) h).sat (fun x e h' => (∀ id, x ≠ .exit id) ∧ ∃ v, doneI F e h' = .ok v h' ∧ R v h') (fun v _ h' => X v h')) :
    (∃ v h', bodyI T O fuel F args h = .ok v h' ∧ R v h') ∨ (∃ v h', bodyI T O fuel F args h = .panic v h' ∧ X v h') := by
  unfold bodyI
  have hc : ¬ ((args.length ≠ F.nparams || F.recT.isSome) = true) := by simp [hn, hr]
  rw [if_neg hc]
  have hs : (startI 0 args).get DK = none := by
    rw [get_start]
    simp only [Nat.zero_le, if_true, Nat.sub_zero]
    exact List.getElem?_eq_none (by omega)
  have hl := ix_leaves (O := O) (fuel := fuel) F.body (startI 0 args) h
  cases hres : ix O fuel F.body (startI 0 args) h with
  | ok x e h' =>
    rw [hres] at hb hl
    obtain ⟨hx, v, hv, hR⟩ := hb
    have hdk : e.get DK = none := by rw [hl DK hd, hs]
    left
    cases x with
    | exit id => exact absurd rfl (hx id)
    | normal => simp only [hdk]; exact ⟨v, h', hv, hR⟩
    | ret => simp only [hdk]; exact ⟨v, h', hv, hR⟩
  | panic v e h' =>
    rw [hres] at hb hl
    have hdk : e.get DK = none := by rw [hl DK hd, hs]
    right
    simp only [hdk]
    exact ⟨v, h', rfl, hb⟩
  | fail => rw [hres] at hb; exact hb.elim

mutual
theorem IV.beq_self : ∀ v : IV, IV.beq v v = true
  | .bool b => by simp [IV.beq]
  | .int k n => by simp [IV.beq]
  | .str s => by simp [IV.beq]
  | .nilp => by simp [IV.beq]
  | .ptr b o => by simp [IV.beq]
  | .cptr cs => by simp [IV.beq, IV.beqs_self cs]
  | .nils => by simp [IV.beq]
  | .slice b o l c => by simp [IV.beq]
  | .aslice b o l c => by simp [IV.beq]
  | .cslice cs n => by simp [IV.beq, IV.beqs_self cs]
  | .nilm => by simp [IV.beq]
  | .map b => by simp [IV.beq]
  | .func f a c => by simp [IV.beq, IV.beqs_self a, IV.beqs_self c]
  | .nilf => by simp [IV.beq]
  | .iface t v => by simp [IV.beq, IV.beq_self v]
  | .nili => by simp [IV.beq]
  | .agg cs => by simp [IV.beq, IV.beqs_self cs]
  | .tup cs => by simp [IV.beq, IV.beqs_self cs]
theorem IV.beqs_self : ∀ vs : List IV, IV.beqs vs vs = true
  | [] => by simp [IV.beqs]
  | v :: vs => by simp [IV.beqs, IV.beq_self v, IV.beqs_self vs]
end
end Go.Proofs.YtadeojgiiapljaaGreat.Im
namespace Go.Proofs.YtadeojgiiapljaaGreat.Im
open Go

def iaddrV (sz : Nat) : IV → Int → Option IV
  | .slice b off len _, n => if 0 ≤ n ∧ n < len then some (.ptr b (off + n.toNat * sz)) else none
  | .aslice b off len _, n => if 0 ≤ n ∧ n < len then some (.ptr b (off + n.toNat * sz)) else none
  | .cslice cells len, n => if 0 ≤ n ∧ n < len ∧ n.toNat * sz ≤ cells.length then some (.cptr (cells.drop (n.toNat * sz))) else none
  | _, _ => none
def iaddrP (len sz : Nat) : IV → Int → Option IV
  | .ptr b off, n => if 0 ≤ n ∧ n < len then some (.ptr b (off + n.toNat * sz)) else none
  | _, _ => none
def iaddrO : Option Nat → Nat → IV → Int → Option IV
  | none => iaddrV
  | some len => iaddrP len
def faddrV (off : Nat) : IV → Option IV
  | .ptr b o => some (.ptr b (o + off))
  | .cptr cells => if off ≤ cells.length then some (.cptr (cells.drop off)) else none
  | _ => none
def fieldV (off : Nat) : Option Nat → IV → Option IV
  | none, .agg cs => cs[off]?
  | some n, .agg cs => if off + n ≤ cs.length then some (.agg ((cs.drop off).take n)) else none
  | _, _ => none
def nilchkV : IV → Option IV
  | .ptr b o => some (.ptr b o)
  | .cptr c => some (.cptr c)
  | _ => none
def pickV : IV → Option IV → Option IV → Option IV
  | .bool true, a, _ => a
  | .bool false, _, b => b
  | _, _, _ => none
def intV : IV → Option Int
  | .int _ n => some n
  | _ => none
def sliceToV : IV → Int → Option IV
  | .nils, n => if n = 0 then some .nils else none
  | .slice b off _ cap, n => if 0 ≤ n ∧ n ≤ cap then some (.slice b off n.toNat cap) else none
  | .aslice b off len sz, n => if 0 ≤ n ∧ n ≤ len then some (.aslice b off n.toNat sz) else none
  | .cslice cells len, n => if 0 ≤ n ∧ n ≤ len then some (.cslice cells n.toNat) else none
  | _, _ => none
def sliceArrV (n sz : Nat) : IV → Int → Int → Option IV
  | .ptr b off, l, u => match bounds n l u with
    | some (l, u) => some (.slice b (if n = l then off else off + l * sz) (u - l) (n - l))
    | none => none
  | _, _, _ => none
def eqflatV (neg : Bool) (ks : List Bool) : IV → IV → Option IV
  | .agg a, .agg b => (eqFlat ks a b).map fun b => .bool (if neg then !b else b)
  | _, _ => none
def eqboolV (neg : Bool) : IV → IV → Option IV
  | .bool a, .bool b => some (.bool (if neg then !(a == b) else a == b))
  | _, _ => none
def convV (k : IntKind) : IV → Option IV
  | .int _ n => some (.int k (k.wrap n))
  | _ => none
def idxstrV : IV → Int → Option IV
  | .str s, n => if 0 ≤ n then (s[n.toNat]?).map fun b => .int .u8 b.toNat else none
  | _, _ => none
def tassertV (t : TypeId) (zero : IV) : IV → Option IV
  | .nili => some (.tup [zero, .bool false])
  | .iface u v => if u = t then some (.tup [v, .bool true]) else some (.tup [zero, .bool false])
  | _ => none
def extractV (i : Nat) : IV → Option IV
  | .tup vs => vs[i]?
  | _ => none
def strlenV : IV → Option Int
  | .str b => some b.size
  | _ => none
def slenV : IV → Option Nat
  | .str _ => none
  | v => sliceLen v
def mmV (max : Bool) : IV → IV → Option IV
  | .int k a, .int _ b => some (.int k (if max then (if b > a then b else a) else (if b < a then b else a)))
  | _, _ => none
def isnilV (neg : Bool) (k : NK) (v : IV) : Option IV := (isNil k v).map fun b => .bool (if neg then !b else b)

def pureV (o : IOp) (e : Env) : Option IV :=
  match o with
  | .mv x => x.ev e
  | .pick c a b => (c.ev e).bind fun v => pickV v (a.ev e) (b.ev e)
  | .build zero ps => (Im.parts e ps).bind fun vs => (fillI zero vs).map .agg
  | .rep n z => some (.agg (List.replicate n z))
  | .nilchk x => (x.ev e).bind nilchkV
  | .bin op x y => (x.ev e).bind fun a => (y.ev e).bind fun b => binI op a b
  | .isnil neg k x => (x.ev e).bind fun v => isnilV neg k v
  | .eqflat neg ks x y => (x.ev e).bind fun a => (y.ev e).bind fun b => eqflatV neg ks a b
  | .eqbool neg x y => (x.ev e).bind fun a => (y.ev e).bind fun b => eqboolV neg a b
  | .un op x => (x.ev e).bind fun v => unI op v
  | .conv k x => (x.ev e).bind fun v => convV k v
  | .mkiface t x => (x.ev e).bind fun v => some (.iface t v)
  | .mkfunc fn first captured => (evs e first).bind fun a => (evs e captured).bind fun b => some (.func fn a b)
  | .sliceTo x hi => (x.ev e).bind fun v => (hi.ev e).bind fun u => (intV u).bind fun n => sliceToV v n
  | .sliceArr n sz x lo hi => (x.ev e).bind fun v => (oint e 0 lo).bind fun l => (oint e n hi).bind fun u => sliceArrV n sz v l u
  | .faddr off x => (x.ev e).bind fun v => faddrV off v
  | .field off n x => (x.ev e).bind fun v => fieldV off n v
  | .iaddr len sz x i => (i.ev e).bind fun u => (intV u).bind fun n => (x.ev e).bind fun v => iaddrO len sz v n
  | .idxstr x i => (x.ev e).bind fun v => (i.ev e).bind fun u => (intV u).bind fun n => idxstrV v n
  | .tassert t zero x => (x.ev e).bind fun v => tassertV t zero v
  | .extract i x => (x.ev e).bind fun v => extractV i v
  | .len s x => (x.ev e).bind fun v => if s then (strlenV v).map fun n => .int .i64 n else (slenV v).map fun (n : Nat) => IV.int .i64 (n : Int)
  | .mm max x y => (x.ev e).bind fun a => (y.ev e).bind fun b => mmV max a b
  | _ => none
theorem opPure_eq (o : IOp) (e : Env) : opPure o e = pureV o e := by
  cases o <;> simp only [opPure, pureV]
  case pick c a b =>
    cases c.ev e
    · rfl
    · rename_i v; cases v <;> try rfl
      rename_i b; cases b <;> rfl
  case build z ps => cases Im.parts e ps <;> simp
  case nilchk x => cases hx : x.ev e <;> simp [nilchkV]; rename_i v; cases v <;> simp [nilchkV]
  case bin op x y => cases x.ev e <;> cases y.ev e <;> simp
  case isnil neg k x => cases x.ev e <;> simp [isnilV]
  case eqflat neg ks x y => cases x.ev e <;> cases y.ev e <;> simp; rename_i a b; cases a <;> cases b <;> simp [eqflatV]
  case eqbool neg x y => cases x.ev e <;> cases y.ev e <;> simp; rename_i a b; cases a <;> cases b <;> simp [eqboolV]
  case un op x => cases x.ev e <;> simp
  case conv k x => cases x.ev e <;> simp; rename_i v; cases v <;> simp [convV]
  case mkiface t x => cases x.ev e <;> simp
  case mkfunc f a c => cases evs e a <;> cases evs e c <;> simp
  case sliceTo x hi => cases x.ev e <;> cases hi.ev e <;> simp; rename_i a b; cases a <;> cases b <;> simp [sliceToV, intV]
  case sliceArr n sz x lo hi => cases x.ev e <;> cases oint e 0 lo <;> cases oint e n hi <;> simp; rename_i a b c; cases a <;> simp [sliceArrV]; cases bounds n b c <;> rfl
  case faddr off x => cases x.ev e <;> simp; rename_i v; cases v <;> simp [faddrV]
  case field off n x => cases x.ev e <;> simp; rename_i v; cases v <;> cases n <;> simp [fieldV]
  case iaddr len sz x i =>
    cases i.ev e
    · rfl
    · rename_i u
      cases u <;> try rfl
      cases x.ev e
      · cases len <;> rfl
      · rename_i v
        cases len <;> cases v <;> rfl
  case idxstr x i => cases x.ev e <;> cases i.ev e <;> simp; rename_i a b; cases a <;> cases b <;> simp [idxstrV, intV]
  case tassert t z x => cases x.ev e <;> simp; rename_i v; cases v <;> simp [tassertV]
  case extract i x => cases x.ev e <;> simp; rename_i v; cases v <;> simp [extractV]
  case len s x => cases x.ev e <;> simp; rename_i v; cases s <;> cases v <;> simp [strlenV, slenV, sliceLen]
  case mm m x y => cases x.ev e <;> cases y.ev e <;> simp; rename_i a b; cases a <;> cases b <;> simp [mmV]

def readV (o : IOp) (e : Env) (h : IHeap) : Option IV :=
  match o with
  | .load1 x => (x.ev e).bind fun v => Im.load1 h v
  | .loadN n x => (x.ev e).bind fun v => (Im.loadN h v n).map .agg
  | .lookup ks zero m k ok => (m.ev e).bind fun m => (k.ev e).bind fun k => lookupI h ks zero m k ok
  | _ => none
theorem opRead_eq (o : IOp) (e : Env) (h : IHeap) : opRead o e h = readV o e h := by
  cases o <;> simp only [opRead, readV]
  case load1 x => cases x.ev e <;> simp
  case loadN n x => cases x.ev e <;> simp
  case lookup ks z m k ok => cases m.ev e <;> cases k.ev e <;> simp

/-- New memory. -/
def newR (obj : Option IObj) (mk : Nat → IV) (h : IHeap) : Res IV :=
  match obj with
  | some o => .ok (mk h.n) (h.push o)
  | none => .fail
theorem newR_some (o : IObj) (mk : Nat → IV) (h : IHeap) : newR (some o) mk h = .ok (mk h.n) (h.push o) := rfl
/-- What there is, or a failure. -/
def okO (v : Option IV) (h : IHeap) : Res IV :=
  match v with
  | some v => .ok v h
  | none => .fail
theorem okO_some (v : IV) (h : IHeap) : okO (some v) h = .ok v h := rfl
def okH (h : Option IHeap) : Res IV :=
  match h with
  | some h => .ok .undef h
  | none => .fail
theorem okH_some (h : IHeap) : okH (some h) = .ok .undef h := rfl
def rowIf (cells : List IV) : Option IObj := if cells.all (·.one) then some (.row cells) else none
def callV (O : Orc) (f : IV) (args : List IV) : M IV := fun h => match callee f args with
  | some (f, args) => O f args h
  | none => .fail
def panicV : IV → M IV := fun v h => match v with
  | .iface t v => .panic (.iface t v) h
  | _ => .fail
def bindR {α : Type} (v : Option α) (f : α → Res IV) : Res IV :=
  match v with
  | some a => f a
  | none => .fail
theorem bindR_some {α : Type} (a : α) (f : α → Res IV) : bindR (some a) f = f a := rfl
def sizeIs (n : Nat) (v : IV) (r : Res IV) : Res IV := if v.cells.length = n then r else .fail

/-- An operation. -/
def runV (O : Orc) (o : IOp) (e : Env) (h : IHeap) : Res IV :=
  match o with
  | .load1 x => okO (readV (.load1 x) e h) h
  | .loadN n x => okO (readV (.loadN n x) e h) h
  | .lookup ks z m k ok => okO (readV (.lookup ks z m k ok) e h) h
  | .new cells => .ok (.ptr h.n 0) (h.push (.row cells))
  | .box x => bindR (x.ev e) fun v => newR (rowIf v.cells) (fun b => .ptr b 0) h
  | .bslice zero len ps => bindR (Im.parts e ps) fun vs => bindR (fillI zero vs) fun cells => newR (rowIf cells) (fun b => .slice b 0 len len) h
  | .mkmap => .ok (.map h.n) (h.push (.map [] 0))
  | .mkslice zero bytes len cap => bindR (len.ev e) fun l => bindR (intV l) fun l => bindR (cap.ev e) fun c => bindR (intV c) fun c =>
      if 0 ≤ l ∧ l ≤ c ∧ c * bytes ≤ 2 ^ 45 ∧ c ≤ 2 ^ 45 then .ok (.slice h.n 0 l.toNat c.toNat) (h.push (.row (List.replicate c.toNat zero).flatten)) else .fail
  | .store n a x => bindR (a.ev e) fun a => bindR (x.ev e) fun v => sizeIs n v (okH (storeN h a v.cells))
  | .append sz bytes s x => bindR (s.ev e) fun s => bindR (x.ev e) fun x => appendI sz bytes s x h
  | .call f args => bindR (f.ev e) fun f => bindR (evs e args) fun args => callV O f args h
  | .panic x => bindR (x.ev e) fun v => panicV v h
  | .strbytes x => opAct O (.strbytes x) e h
  | .mapput ks m k v => opAct O (.mapput ks m k v) e h
  | .mapentry ks z m k => opAct O (.mapentry ks z m k) e h
  | .entrystore m s v => opAct O (.entrystore m s v) e h
  | .deferc x => .fail
  | o => okO (pureV o e) h
theorem opI_eq (O : Orc) (o : IOp) (e : Env) (h : IHeap) : opI O o e h = runV O o e h := by
  cases o <;> simp only [opI, IOp.cls, runV, opPure_eq, opRead_eq]
  case new cells => simp [opNew]
  case mkmap => simp [opNew]
  case box x =>
    simp only [opNew]
    cases x.ev e with
    | none => rfl
    | some v =>
      simp only [bindR, rowIf]
      by_cases hc : (v.cells.all fun x => x.one) = true
      · rw [if_pos hc, if_pos hc]; rfl
      · rw [if_neg hc, if_neg hc]; rfl
  case bslice z l ps =>
    simp only [opNew]
    cases Im.parts e ps with
    | none => rfl
    | some vs =>
      simp only [bindR]
      cases fillI z vs with
      | none => rfl
      | some cells =>
        simp only [rowIf]
        by_cases hc : (cells.all fun x => x.one) = true
        · rw [if_pos hc, if_pos hc]; rfl
        · rw [if_neg hc, if_neg hc]; rfl
  case mkslice z b l c =>
    simp only [opNew]
    cases l.ev e <;> cases c.ev e <;> simp [bindR]
    · rename_i v; cases v <;> simp [intV]
    · rename_i v u
      cases v <;> cases u <;> simp only [intV] <;> try rfl
      split
      · rename_i hs; split at hs
        · cases hs; rename_i hc; rw [if_pos hc]
        · cases hs
      · rename_i hs; split at hs
        · cases hs
        · rename_i hc; rw [if_neg hc]
  case store n a x =>
    simp only [opAct]
    cases a.ev e with
    | none => rfl
    | some a =>
      cases x.ev e with
      | none => rfl
      | some v =>
        simp only [bindR, sizeIs]
        split
        · cases storeN h a v.cells <;> rfl
        · rfl
  case append sz bt s x => simp only [opAct]; cases s.ev e <;> cases x.ev e <;> rfl
  case call f az => simp only [opAct]; cases f.ev e <;> cases evs e az <;> rfl
  case panic x =>
    simp only [opAct]
    cases x.ev e with
    | none => rfl
    | some v => cases v <;> rfl
  case deferc x => simp only [opAct]
  all_goals (first | rfl | (unfold okO; split <;> simp_all))
end Go.Proofs.YtadeojgiiapljaaGreat.Im
namespace Go.Proofs.YtadeojgiiapljaaGreat.Im
open Go

def guardV : Option IV → Bool → Option Bool
  | some (.bool c), b => some (c == b)
  | some (.tup []), _ => some false
  | _, _ => none
theorem wanted_some (t : Nat) (b : Bool) (e : Env) : wantedI (some (t, b)) e = guardV (e.get t) b := by
  simp only [wantedI]
  cases e.get t with
  | none => rfl
  | some v =>
    cases v <;> try rfl
    rename_i vs; cases vs <;> rfl
theorem guardV_bool (c b : Bool) : guardV (some (.bool c)) b = some (c == b) := rfl
theorem guardV_undef (b : Bool) : guardV (some .undef) b = some false := rfl

/-- Behind an operation of a region. -/
def regK (O : Orc) (d : Option Nat) (os : List IOper) (e : Env) : Res IV → CRes
  | .ok v h => ix.regI O os (e.puto d v) h
  | .panic v h => .panic v e h
  | .fail => .fail
theorem regK_ok (O : Orc) (d : Option Nat) (os : List IOper) (e : Env) (v : IV) (h : IHeap) : regK O d os e (.ok v h) = ix.regI O os (e.puto d v) h := rfl
theorem regK_panic (O : Orc) (d : Option Nat) (os : List IOper) (e : Env) (v : IV) (h : IHeap) : regK O d os e (.panic v h) = .panic v e h := rfl
def regG (O : Orc) (d : Option Nat) (op : IOp) (os : List IOper) (e : Env) (h : IHeap) : Option Bool → CRes
  | some true => regK O d os e (runV O op e h)
  | some false => ix.regI O os (e.puto d .undef) h
  | none => .fail
theorem regG_true (O : Orc) (d : Option Nat) (op : IOp) (os : List IOper) (e : Env) (h : IHeap) : regG O d op os e h (some true) = regK O d os e (runV O op e h) := rfl
theorem regG_false (O : Orc) (d : Option Nat) (op : IOp) (os : List IOper) (e : Env) (h : IHeap) : regG O d op os e h (some false) = ix.regI O os (e.puto d .undef) h := rfl
theorem ix_reg (O : Orc) (fuel : Nat) (os : List IOper) (e : Env) (h : IHeap) : ix O fuel (.reg os) e h = ix.regI O os e h := rfl
theorem regI_nil (O : Orc) (e : Env) (h : IHeap) : ix.regI O [] e h = .ok .normal e h := rfl
def IOp.isDefer : IOp → Bool
  | .deferc _ => true
  | _ => false
theorem regI_step (O : Orc) {op : IOp} (hd : op.isDefer = false) (d : Option Nat) (os : List IOper) (e : Env) (h : IHeap) : ix.regI O (⟨d, op, none⟩ :: os) e h = regK O d os e (runV O op e h) := by
  rw [← opI_eq]
  unfold ix.regI
  simp only [wantedI]
  split
  · rename_i x; cases hd
  · cases opI O op e h <;> rfl
theorem regI_guard (O : Orc) {op : IOp} (hd : op.isDefer = false) (d : Option Nat) (t : Nat) (b : Bool) (os : List IOper) (e : Env) (h : IHeap) : ix.regI O (⟨d, op, some (t, b)⟩ :: os) e h = regG O d op os e h (guardV (e.get t) b) := by
  rw [ix.regI, wanted_some]
  cases guardV (e.get t) b with
  | none => rfl
  | some c =>
    cases c
    · rfl
    · simp only [regG]
      rw [← opI_eq]
      split
      · rename_i x; cases hd
      · cases opI O op e h <;> rfl

/-! ### Regions that draw -/
def ix_drawK (ds : List DOper) (e : Env) : Res Env → CRes
  | .ok e h => .ok .normal e h
  | .panic v h => .panic v (e.less ds) h
  | .fail => .fail
theorem ix_draw (O : Orc) (fuel : Nat) (ds : List DOper) (e : Env) (h : IHeap) : ix O fuel (.draw ds) e h = ix_drawK ds e (drawI O ds 0 [] e h) := by
  simp only [ix]
  cases drawI O ds 0 [] e h <;> rfl
theorem drawK_ok (ds : List DOper) (e e' : Env) (h : IHeap) : ix_drawK ds e (.ok e' h) = .ok .normal e' h := rfl
theorem drawI_nil (O : Orc) (k : Nat) (ps : List (DOper × IV)) (e : Env) (h : IHeap) : drawI O [] k ps e h = .ok e h := rfl
def bindD (v : Option IV) (f : IV → Res Env) : Res Env :=
  match v with
  | some v => f v
  | none => .fail
theorem bindD_some (v : IV) (f : IV → Res Env) : bindD (some v) f = f v := rfl
def newD (f : IV → IHeap → Res Env) : Res IV → Res Env
  | .ok v h => f v h
  | _ => .fail
theorem newD_ok (v : IV) (h : IHeap) (f : IV → IHeap → Res Env) : newD f (.ok v h) = f v h := rfl
def actD (e : Env) (k : Nat) (ps : List (DOper × IV)) (f : IV → IHeap → Res Env) : Res IV → Res Env
  | .ok v h => if stillI e h k ps then f v h else .fail
  | .panic v h => .panic v h
  | .fail => .fail
theorem actD_ok (e : Env) (k : Nat) (ps : List (DOper × IV)) (v : IV) (h : IHeap) (f : IV → IHeap → Res Env) : actD e k ps f (.ok v h) = if stillI e h k ps then f v h else .fail := rfl
def guardD (d : Option Nat) (ds : List DOper) (O : Orc) (act : Bool) (k : Nat) (ps : List (DOper × IV)) (e : Env) (h : IHeap) (r : Res Env) : Option Bool → Res Env
  | some true => r
  | some false => drawI O ds (if act then k + 1 else k) ps (e.puto d .undef) h
  | none => .fail
section
variable (O : Orc) {op : IOp} (i hi : Nat) (d : Option Nat) (ds : List DOper) (k : Nat) (ps : List (DOper × IV)) (e : Env) (h : IHeap)
theorem drawI_pure (hc : op.cls = .pure) : drawI O (⟨i, hi, ⟨d, op, none⟩⟩ :: ds) k ps e h = bindD (pureV op e) fun v => drawI O ds k ps (e.puto d v) h := by
  rw [drawI]; simp only [wantedI, hc, opPure_eq]; cases pureV op e <;> rfl
theorem drawI_read (hc : op.cls = .read) : drawI O (⟨i, hi, ⟨d, op, none⟩⟩ :: ds) k ps e h = bindD (readV op e h) fun v => drawI O ds k (if k < hi then (⟨i, hi, ⟨d, op, none⟩⟩, v) :: ps else ps) (e.puto d v) h := by
  rw [drawI]; simp only [wantedI, hc, opRead_eq]; cases readV op e h <;> rfl
theorem drawI_new (hc : op.cls = .new) : drawI O (⟨i, hi, ⟨d, op, none⟩⟩ :: ds) k ps e h = newD (fun v h => drawI O ds k ps (e.puto d v) h) (runV O op e h) := by
  rw [drawI, ← opI_eq]; simp only [wantedI, hc, opI]
  cases opNew op e with
  | none => rfl
  | some x => rfl
theorem drawI_act (hc : op.cls = .act) : drawI O (⟨i, hi, ⟨d, op, none⟩⟩ :: ds) k ps e h = actD e (k + 1) ps (fun v h => drawI O ds (k + 1) ps (e.puto d v) h) (runV O op e h) := by
  rw [drawI, ← opI_eq]; simp only [wantedI, hc, opI]
  cases opAct O op e h <;> rfl
theorem still_nil : stillI e h k [] = true := rfl
theorem still_cons {o : IOper} {v : IV} : stillI e h k ((⟨i, hi, o⟩, v) :: ps) = ((decide (hi < k) || (match readV o.op e h with | some u => IV.beq u v | none => false)) && stillI e h k ps) := by
  rw [stillI]; simp only [opRead_eq]; rfl
end

/-! ### Values -/
theorem ev_t (t : Nat) (e : Env) : (IArg.t t).ev e = e.get t := rfl
theorem ev_c (v : IV) (e : Env) : (IArg.c v).ev e = some v := rfl
theorem evs_nil (e : Env) : evs e [] = some [] := rfl
def consO : Option IV → Option (List IV) → Option (List IV)
  | some v, some vs => some (v :: vs)
  | _, _ => none
theorem evs_cons (e : Env) (a : IArg) (az : List IArg) : evs e (a :: az) = consO (a.ev e) (evs e az) := by
  simp only [evs]; cases a.ev e <;> cases evs e az <;> rfl
theorem consO_some (v : IV) (vs : List IV) : consO (some v) (some vs) = some (v :: vs) := rfl
theorem puto_some (e : Env) (t : Nat) (v : IV) : e.puto (some t) v = e.put t v := rfl
theorem puto_none (e : Env) (v : IV) : e.puto none v = e := rfl
theorem parts_nil (e : Env) : Im.parts e [] = some [] := rfl
def consP (o s : Nat) : Option IV → Option (List (Nat × Nat × IV)) → Option (List (Nat × Nat × IV))
  | some v, some vs => some ((o, s, v) :: vs)
  | _, _ => none
theorem parts_cons (e : Env) (o s : Nat) (a : IArg) (ps : List (Nat × Nat × IArg)) : Im.parts e ((o, s, a) :: ps) = consP o s (a.ev e) (Im.parts e ps) := by
  simp only [Im.parts]; cases a.ev e <;> cases Im.parts e ps <;> rfl
theorem consP_some (o s : Nat) (v : IV) (vs : List (Nat × Nat × IV)) : consP o s (some v) (some vs) = some ((o, s, v) :: vs) := rfl
section
variable (k : IntKind) (a b : Int)
theorem bin_add : binI .add (.int k a) (.int k b) = some (.int k (k.wrap (a + b))) := by simp [binI, intArith]
theorem bin_sub : binI .sub (.int k a) (.int k b) = some (.int k (k.wrap (a - b))) := by simp [binI, intArith]
theorem bin_mul : binI .mul (.int k a) (.int k b) = some (.int k (k.wrap (a * b))) := by simp [binI, intArith]
theorem bin_rem : binI .rem (.int k a) (.int k b) = if b = 0 then none else some (.int k (a.tmod b)) := by simp [binI, intArith]
theorem bin_quo : binI .quo (.int k a) (.int k b) = if b = 0 then none else some (.int k (k.wrap (a.tdiv b))) := by simp [binI, intArith]
theorem bin_eql : binI .eql (.int k a) (.int k b) = some (.bool (decide (a = b))) := by simp [binI, intArith, BEq.beq]
theorem bin_neq : binI .neq (.int k a) (.int k b) = some (.bool (decide (a ≠ b))) := by simp [binI, intArith, bne, BEq.beq]
theorem bin_lss : binI .lss (.int k a) (.int k b) = some (.bool (decide (a < b))) := by simp [binI, intArith]
theorem bin_leq : binI .leq (.int k a) (.int k b) = some (.bool (decide (a ≤ b))) := by simp [binI, intArith]
theorem bin_gtr : binI .gtr (.int k a) (.int k b) = some (.bool (decide (a > b))) := by simp [binI, intArith]
theorem bin_geq : binI .geq (.int k a) (.int k b) = some (.bool (decide (a ≥ b))) := by simp [binI, intArith]
theorem un_not (b : Bool) : unI .not (.bool b) = some (.bool !b) := rfl
theorem intV_int : intV (.int k a) = some a := rfl
theorem pickV_true (x y : Option IV) : pickV (.bool true) x y = x := rfl
theorem pickV_false (x y : Option IV) : pickV (.bool false) x y = y := rfl
theorem wrap_i64 {x : Int} (h0 : -9223372036854775808 ≤ x) (h1 : x < 9223372036854775808) : IntKind.i64.wrap x = x := by
  simp only [IntKind.wrap, IntKind.bits, IntKind.signed]
  simp
  omega
theorem wrap_u64 {x : Int} (h0 : 0 ≤ x) (h1 : x < 18446744073709551616) : IntKind.u64.wrap x = x := by
  simp only [IntKind.wrap, IntKind.bits, IntKind.signed]
  simp
  omega
theorem callV_fn (O : Orc) (f : FuncId) (first cap args : List IV) (h : IHeap) : callV O (.func (.func f) first cap) args h = O f (first ++ args ++ cap) h := rfl
end
end Go.Proofs.YtadeojgiiapljaaGreat.Im
namespace Go.Proofs.YtadeojgiiapljaaGreat.Im
open Go
section
variable (O : Orc) (e : Env) (h : IHeap)
theorem rv_mv (x : IArg) : runV O (.mv x) e h = okO (x.ev e) h := rfl
theorem rv_pick (c a b : IArg) : runV O (.pick c a b) e h = okO ((c.ev e).bind fun v => pickV v (a.ev e) (b.ev e)) h := rfl
theorem rv_build (z : List IV) (ps : List (Nat × Nat × IArg)) : runV O (.build z ps) e h = okO ((Im.parts e ps).bind fun vs => (fillI z vs).map .agg) h := rfl
theorem rv_nilchk (x : IArg) : runV O (.nilchk x) e h = okO ((x.ev e).bind nilchkV) h := rfl
theorem rv_bin (op : BinOp) (x y : IArg) : runV O (.bin op x y) e h = okO ((x.ev e).bind fun a => (y.ev e).bind fun b => binI op a b) h := rfl
theorem rv_isnil (n : Bool) (k : NK) (x : IArg) : runV O (.isnil n k x) e h = okO ((x.ev e).bind fun v => isnilV n k v) h := rfl
theorem rv_eqflat (n : Bool) (ks : List Bool) (x y : IArg) : runV O (.eqflat n ks x y) e h = okO ((x.ev e).bind fun a => (y.ev e).bind fun b => eqflatV n ks a b) h := rfl
theorem rv_eqbool (n : Bool) (x y : IArg) : runV O (.eqbool n x y) e h = okO ((x.ev e).bind fun a => (y.ev e).bind fun b => eqboolV n a b) h := rfl
theorem rv_un (op : UnOp) (x : IArg) : runV O (.un op x) e h = okO ((x.ev e).bind fun v => unI op v) h := rfl
theorem rv_conv (k : IntKind) (x : IArg) : runV O (.conv k x) e h = okO ((x.ev e).bind fun v => convV k v) h := rfl
theorem rv_mkiface (t : TypeId) (x : IArg) : runV O (.mkiface t x) e h = okO ((x.ev e).bind fun v => some (.iface t v)) h := rfl
theorem rv_mkfunc (fn : Fn) (a c : List IArg) : runV O (.mkfunc fn a c) e h = okO ((evs e a).bind fun a => (evs e c).bind fun b => some (.func fn a b)) h := rfl
theorem rv_sliceTo (x hi : IArg) : runV O (.sliceTo x hi) e h = okO ((x.ev e).bind fun v => (hi.ev e).bind fun u => (intV u).bind fun n => sliceToV v n) h := rfl
theorem rv_sliceArr (n sz : Nat) (x : IArg) (lo hi : Option IArg) : runV O (.sliceArr n sz x lo hi) e h = okO ((x.ev e).bind fun v => (oint e 0 lo).bind fun l => (oint e n hi).bind fun u => sliceArrV n sz v l u) h := rfl
theorem rv_faddr (off : Nat) (x : IArg) : runV O (.faddr off x) e h = okO ((x.ev e).bind fun v => faddrV off v) h := rfl
theorem rv_field (off : Nat) (n : Option Nat) (x : IArg) : runV O (.field off n x) e h = okO ((x.ev e).bind fun v => fieldV off n v) h := rfl
theorem rv_iaddr (len : Option Nat) (sz : Nat) (x i : IArg) : runV O (.iaddr len sz x i) e h = okO ((i.ev e).bind fun u => (intV u).bind fun n => (x.ev e).bind fun v => iaddrO len sz v n) h := rfl
theorem rv_idxstr (x i : IArg) : runV O (.idxstr x i) e h = okO ((x.ev e).bind fun v => (i.ev e).bind fun u => (intV u).bind fun n => idxstrV v n) h := rfl
theorem rv_tassert (t : TypeId) (z : IV) (x : IArg) : runV O (.tassert t z x) e h = okO ((x.ev e).bind fun v => tassertV t z v) h := rfl
theorem rv_extract (i : Nat) (x : IArg) : runV O (.extract i x) e h = okO ((x.ev e).bind fun v => extractV i v) h := rfl
theorem rv_strlen (x : IArg) : runV O (.len true x) e h = okO ((x.ev e).bind fun v => (strlenV v).map fun n => .int .i64 n) h := rfl
theorem rv_slen (x : IArg) : runV O (.len false x) e h = okO ((x.ev e).bind fun v => (slenV v).map fun (n : Nat) => IV.int .i64 (n : Int)) h := rfl
theorem rv_mm (m : Bool) (x y : IArg) : runV O (.mm m x y) e h = okO ((x.ev e).bind fun a => (y.ev e).bind fun b => mmV m a b) h := rfl
theorem rv_load1 (x : IArg) : runV O (.load1 x) e h = okO ((x.ev e).bind fun v => Im.load1 h v) h := rfl
theorem rv_loadN (n : Nat) (x : IArg) : runV O (.loadN n x) e h = okO ((x.ev e).bind fun v => (Im.loadN h v n).map .agg) h := rfl
theorem rv_lookup (ks : Bool) (z : IV) (m k : IArg) (ok : Bool) : runV O (.lookup ks z m k ok) e h = okO ((m.ev e).bind fun m => (k.ev e).bind fun k => lookupI h ks z m k ok) h := rfl
theorem rv_new (cells : List IV) : runV O (.new cells) e h = .ok (.ptr h.n 0) (h.push (.row cells)) := rfl
theorem rv_box (x : IArg) : runV O (.box x) e h = bindR (x.ev e) fun v => newR (rowIf v.cells) (fun b => .ptr b 0) h := rfl
theorem rv_bslice (z : List IV) (len : Nat) (ps : List (Nat × Nat × IArg)) : runV O (.bslice z len ps) e h = bindR (Im.parts e ps) fun vs => bindR (fillI z vs) fun cells => newR (rowIf cells) (fun b => .slice b 0 len len) h := rfl
theorem rv_mkmap : runV O .mkmap e h = .ok (.map h.n) (h.push (.map [] 0)) := rfl
theorem rv_mkslice (z : List IV) (bytes : Nat) (len cap : IArg) : runV O (.mkslice z bytes len cap) e h = bindR (len.ev e) fun l => bindR (intV l) fun l => bindR (cap.ev e) fun c => bindR (intV c) fun c =>
      if 0 ≤ l ∧ l ≤ c ∧ c * bytes ≤ 2 ^ 45 ∧ c ≤ 2 ^ 45 then .ok (.slice h.n 0 l.toNat c.toNat) (h.push (.row (List.replicate c.toNat z).flatten)) else .fail := rfl
theorem rv_store (n : Nat) (a x : IArg) : runV O (.store n a x) e h = bindR (a.ev e) fun a => bindR (x.ev e) fun v => sizeIs n v (okH (storeN h a v.cells)) := rfl
theorem rv_append (sz bytes : Nat) (s x : IArg) : runV O (.append sz bytes s x) e h = bindR (s.ev e) fun s => bindR (x.ev e) fun x => appendI sz bytes s x h := rfl
theorem rv_call (f : IArg) (args : List IArg) : runV O (.call f args) e h = bindR (f.ev e) fun f => bindR (evs e args) fun args => callV O f args h := rfl
theorem rv_panic (x : IArg) : runV O (.panic x) e h = bindR (x.ev e) fun v => panicV v h := rfl
end
theorem rvs : (type_of% @rv_mv) ∧ (type_of% @rv_pick) ∧ (type_of% @rv_build) ∧ (type_of% @rv_nilchk) ∧ (type_of% @rv_bin) ∧ (type_of% @rv_isnil) ∧ (type_of% @rv_eqflat) ∧ (type_of% @rv_eqbool) ∧ (type_of% @rv_un) ∧ (type_of% @rv_conv) ∧
    (type_of% @rv_mkiface) ∧ (type_of% @rv_mkfunc) ∧ (type_of% @rv_sliceTo) ∧ (type_of% @rv_sliceArr) ∧ (type_of% @rv_faddr) ∧ (type_of% @rv_field) ∧ (type_of% @rv_iaddr) ∧ (type_of% @rv_idxstr) ∧ (type_of% @rv_tassert) ∧ (type_of% @rv_extract) ∧
    (type_of% @rv_strlen) ∧ (type_of% @rv_slen) ∧ (type_of% @rv_mm) ∧ (type_of% @rv_load1) ∧ (type_of% @rv_loadN) ∧ (type_of% @rv_lookup) ∧ (type_of% @rv_new) ∧ (type_of% @rv_box) ∧ (type_of% @rv_bslice) ∧ (type_of% @rv_mkmap) ∧
    (type_of% @rv_mkslice) ∧ (type_of% @rv_store) ∧ (type_of% @rv_append) ∧ (type_of% @rv_call) ∧ (type_of% @rv_panic) :=
  ⟨@rv_mv, @rv_pick, @rv_build, @rv_nilchk, @rv_bin, @rv_isnil, @rv_eqflat, @rv_eqbool, @rv_un, @rv_conv, @rv_mkiface, @rv_mkfunc, @rv_sliceTo, @rv_sliceArr, @rv_faddr, @rv_field, @rv_iaddr, @rv_idxstr, @rv_tassert, @rv_extract,
    @rv_strlen, @rv_slen, @rv_mm, @rv_load1, @rv_loadN, @rv_lookup, @rv_new, @rv_box, @rv_bslice, @rv_mkmap, @rv_mkslice, @rv_store, @rv_append, @rv_call, @rv_panic⟩
theorem load1_cptr (h : IHeap) (v : IV) (vs : List IV) : Im.load1 h (.cptr (v :: vs)) = some v := rfl
theorem iaddrO_none (sz : Nat) : iaddrO none sz = iaddrV sz := rfl
theorem iaddrO_some (len sz : Nat) : iaddrO (some len) sz = iaddrP len sz := rfl
theorem beq_true (v : IV) : IV.beq v v = true := IV.beq_self v
theorem regs : (type_of% @ix_reg) ∧ (type_of% @regI_nil) ∧ (type_of% @regI_step) ∧ (type_of% @regI_guard) ∧ (type_of% @regK_ok) ∧ (type_of% @regG_true) ∧ (type_of% @regG_false) ∧ (type_of% @ix_draw) ∧ (type_of% @drawK_ok) ∧ (type_of% @drawI_nil) ∧
    (type_of% @drawI_pure) ∧ (type_of% @drawI_read) ∧ (type_of% @drawI_new) ∧ (type_of% @drawI_act) ∧ (type_of% @bindD_some) ∧ (type_of% @newD_ok) ∧ (type_of% @actD_ok) ∧ (type_of% @still_nil) ∧ (type_of% @still_cons) ∧ (type_of% @beq_true) :=
  ⟨@ix_reg, @regI_nil, @regI_step, @regI_guard, @regK_ok, @regG_true, @regG_false, @ix_draw, @drawK_ok, @drawI_nil, @drawI_pure, @drawI_read, @drawI_new, @drawI_act, @bindD_some, @newD_ok, @actD_ok, @still_nil, @still_cons, @beq_true⟩
theorem vals : (type_of% @ev_t) ∧ (type_of% @ev_c) ∧ (type_of% @evs_nil) ∧ (type_of% @evs_cons) ∧ (type_of% @consO_some) ∧ (type_of% @puto_some) ∧ (type_of% @puto_none) ∧ (type_of% @parts_nil) ∧ (type_of% @parts_cons) ∧ (type_of% @consP_some) ∧
    (type_of% @bin_add) ∧ (type_of% @bin_sub) ∧ (type_of% @bin_mul) ∧ (type_of% @bin_eql) ∧ (type_of% @bin_neq) ∧ (type_of% @bin_lss) ∧ (type_of% @bin_leq) ∧ (type_of% @bin_gtr) ∧ (type_of% @bin_geq) ∧ (type_of% @un_not) ∧ (type_of% @intV_int) ∧ (type_of% @pickV_true) ∧ (type_of% @pickV_false) ∧
    (type_of% @callV_fn) ∧ (type_of% @okO_some) ∧ (type_of% @okH_some) ∧ (type_of% @newR_some) ∧ (type_of% @get_put) ∧ (type_of% @guardV_bool) ∧ (type_of% @guardV_undef) ∧ (type_of% @load1_cptr) ∧ (type_of% @iaddrO_none) ∧ (type_of% @iaddrO_some) :=
  ⟨@ev_t, @ev_c, @evs_nil, @evs_cons, @consO_some, @puto_some, @puto_none, @parts_nil, @parts_cons, @consP_some, @bin_add, @bin_sub, @bin_mul, @bin_eql, @bin_neq, @bin_lss, @bin_leq, @bin_gtr, @bin_geq, @un_not, @intV_int, @pickV_true, @pickV_false,
    @callV_fn, @okO_some, @okH_some, @newR_some, @get_put, @guardV_bool, @guardV_undef, @load1_cptr, @iaddrO_none, @iaddrO_some⟩
theorem nds : (∀ (x : IArg), (IOp.mv x).isDefer = false) ∧ (∀ (a b c : IArg), (IOp.pick a b c).isDefer = false) ∧ (∀ (z : List IV) (ps : List (Nat × Nat × IArg)), (IOp.build z ps).isDefer = false) ∧ (∀ (n : Nat) (z : IV), (IOp.rep n z).isDefer = false) ∧ (∀ (x : IArg), (IOp.nilchk x).isDefer = false) ∧ (∀ (o : BinOp) (x y : IArg), (IOp.bin o x y).isDefer = false) ∧ (∀ (n : Bool) (k : NK) (x : IArg), (IOp.isnil n k x).isDefer = false) ∧ (∀ (n : Bool) (k : List Bool) (x y : IArg), (IOp.eqflat n k x y).isDefer = false) ∧ (∀ (n : Bool) (x y : IArg), (IOp.eqbool n x y).isDefer = false) ∧ (∀ (o : UnOp) (x : IArg), (IOp.un o x).isDefer = false) ∧ (∀ (k : IntKind) (x : IArg), (IOp.conv k x).isDefer = false) ∧ (∀ (t : TypeId) (x : IArg), (IOp.mkiface t x).isDefer = false) ∧ (∀ (f : Fn) (a c : List IArg), (IOp.mkfunc f a c).isDefer = false) ∧ (∀ (x y : IArg), (IOp.sliceTo x y).isDefer = false) ∧ (∀ (n s : Nat) (x : IArg) (a b : Option IArg), (IOp.sliceArr n s x a b).isDefer = false) ∧ (∀ (o : Nat) (x : IArg), (IOp.faddr o x).isDefer = false) ∧ (∀ (o : Nat) (n : Option Nat) (x : IArg), (IOp.field o n x).isDefer = false) ∧ (∀ (n : Option Nat) (s : Nat) (x y : IArg), (IOp.iaddr n s x y).isDefer = false) ∧ (∀ (x y : IArg), (IOp.idxstr x y).isDefer = false) ∧ (∀ (t : TypeId) (z : IV) (x : IArg), (IOp.tassert t z x).isDefer = false) ∧ (∀ (n : Nat) (x : IArg), (IOp.extract n x).isDefer = false) ∧ (∀ (b : Bool) (x : IArg), (IOp.len b x).isDefer = false) ∧ (∀ (b : Bool) (x y : IArg), (IOp.mm b x y).isDefer = false) ∧ (∀ (x : IArg), (IOp.load1 x).isDefer = false) ∧ (∀ (n : Nat) (x : IArg), (IOp.loadN n x).isDefer = false) ∧ (∀ (b : Bool) (z : IV) (x y : IArg) (c : Bool), (IOp.lookup b z x y c).isDefer = false) ∧ (∀ (z : List IV), (IOp.new z).isDefer = false) ∧ (∀ (x : IArg), (IOp.box x).isDefer = false) ∧ (∀ (z : List IV) (n : Nat) (ps : List (Nat × Nat × IArg)), (IOp.bslice z n ps).isDefer = false) ∧ ((IOp.mkmap).isDefer = false) ∧ (∀ (z : List IV) (n : Nat) (x y : IArg), (IOp.mkslice z n x y).isDefer = false) ∧ (∀ (n : Nat) (x y : IArg), (IOp.store n x y).isDefer = false) ∧ (∀ (b : Bool) (x y z : IArg), (IOp.mapput b x y z).isDefer = false) ∧ (∀ (b : Bool) (z : IV) (x y : IArg), (IOp.mapentry b z x y).isDefer = false) ∧ (∀ (x y z : IArg), (IOp.entrystore x y z).isDefer = false) ∧ (∀ (n m : Nat) (x y : IArg), (IOp.append n m x y).isDefer = false) ∧ (∀ (x : IArg), (IOp.strbytes x).isDefer = false) ∧ (∀ (x : IArg) (l : List IArg), (IOp.call x l).isDefer = false) ∧ (∀ (x : IArg), (IOp.panic x).isDefer = false) :=
  ⟨fun _ => rfl, fun _ _ _ => rfl, fun _ _ => rfl, fun _ _ => rfl, fun _ => rfl, fun _ _ _ => rfl, fun _ _ _ => rfl, fun _ _ _ _ => rfl, fun _ _ _ => rfl, fun _ _ => rfl, fun _ _ => rfl, fun _ _ => rfl, fun _ _ _ => rfl, fun _ _ => rfl, fun _ _ _ _ _ => rfl, fun _ _ => rfl, fun _ _ _ => rfl, fun _ _ _ _ => rfl, fun _ _ => rfl, fun _ _ _ => rfl, fun _ _ => rfl, fun _ _ => rfl, fun _ _ _ => rfl, fun _ => rfl, fun _ _ => rfl, fun _ _ _ _ _ => rfl, fun _ => rfl, fun _ => rfl, fun _ _ _ => rfl, rfl, fun _ _ _ _ => rfl, fun _ _ _ => rfl, fun _ _ _ _ => rfl, fun _ _ _ _ => rfl, fun _ _ _ => rfl, fun _ _ _ _ => rfl, fun _ => rfl, fun _ _ => rfl, fun _ => rfl⟩
theorem clss : (∀ (x : IArg), (IOp.mv x).cls = .pure) ∧ (∀ (a b c : IArg), (IOp.pick a b c).cls = .pure) ∧ (∀ (z : List IV) (ps : List (Nat × Nat × IArg)), (IOp.build z ps).cls = .pure) ∧ (∀ (n : Nat) (z : IV), (IOp.rep n z).cls = .pure) ∧ (∀ (x : IArg), (IOp.nilchk x).cls = .pure) ∧ (∀ (o : BinOp) (x y : IArg), (IOp.bin o x y).cls = .pure) ∧ (∀ (n : Bool) (k : NK) (x : IArg), (IOp.isnil n k x).cls = .pure) ∧ (∀ (n : Bool) (k : List Bool) (x y : IArg), (IOp.eqflat n k x y).cls = .pure) ∧ (∀ (n : Bool) (x y : IArg), (IOp.eqbool n x y).cls = .pure) ∧ (∀ (o : UnOp) (x : IArg), (IOp.un o x).cls = .pure) ∧ (∀ (k : IntKind) (x : IArg), (IOp.conv k x).cls = .pure) ∧ (∀ (t : TypeId) (x : IArg), (IOp.mkiface t x).cls = .pure) ∧ (∀ (f : Fn) (a c : List IArg), (IOp.mkfunc f a c).cls = .pure) ∧ (∀ (x y : IArg), (IOp.sliceTo x y).cls = .pure) ∧ (∀ (n s : Nat) (x : IArg) (a b : Option IArg), (IOp.sliceArr n s x a b).cls = .pure) ∧ (∀ (o : Nat) (x : IArg), (IOp.faddr o x).cls = .pure) ∧ (∀ (o : Nat) (n : Option Nat) (x : IArg), (IOp.field o n x).cls = .pure) ∧ (∀ (n : Option Nat) (s : Nat) (x y : IArg), (IOp.iaddr n s x y).cls = .pure) ∧ (∀ (x y : IArg), (IOp.idxstr x y).cls = .pure) ∧ (∀ (t : TypeId) (z : IV) (x : IArg), (IOp.tassert t z x).cls = .pure) ∧ (∀ (n : Nat) (x : IArg), (IOp.extract n x).cls = .pure) ∧ (∀ (b : Bool) (x : IArg), (IOp.len b x).cls = .pure) ∧ (∀ (b : Bool) (x y : IArg), (IOp.mm b x y).cls = .pure) ∧ (∀ (x : IArg), (IOp.load1 x).cls = .read) ∧ (∀ (n : Nat) (x : IArg), (IOp.loadN n x).cls = .read) ∧ (∀ (b : Bool) (z : IV) (x y : IArg) (c : Bool), (IOp.lookup b z x y c).cls = .read) ∧ (∀ (z : List IV), (IOp.new z).cls = .new) ∧ (∀ (x : IArg), (IOp.box x).cls = .new) ∧ (∀ (z : List IV) (n : Nat) (ps : List (Nat × Nat × IArg)), (IOp.bslice z n ps).cls = .new) ∧ ((IOp.mkmap).cls = .new) ∧ (∀ (z : List IV) (n : Nat) (x y : IArg), (IOp.mkslice z n x y).cls = .new) ∧ (∀ (n : Nat) (x y : IArg), (IOp.store n x y).cls = .act) ∧ (∀ (b : Bool) (x y z : IArg), (IOp.mapput b x y z).cls = .act) ∧ (∀ (b : Bool) (z : IV) (x y : IArg), (IOp.mapentry b z x y).cls = .act) ∧ (∀ (x y z : IArg), (IOp.entrystore x y z).cls = .act) ∧ (∀ (n m : Nat) (x y : IArg), (IOp.append n m x y).cls = .act) ∧ (∀ (x : IArg), (IOp.strbytes x).cls = .act) ∧ (∀ (x : IArg) (l : List IArg), (IOp.call x l).cls = .act) ∧ (∀ (x : IArg), (IOp.panic x).cls = .act) :=
  ⟨fun _ => rfl, fun _ _ _ => rfl, fun _ _ => rfl, fun _ _ => rfl, fun _ => rfl, fun _ _ _ => rfl, fun _ _ _ => rfl, fun _ _ _ _ => rfl, fun _ _ _ => rfl, fun _ _ => rfl, fun _ _ => rfl, fun _ _ => rfl, fun _ _ _ => rfl, fun _ _ => rfl, fun _ _ _ _ _ => rfl, fun _ _ => rfl, fun _ _ _ => rfl, fun _ _ _ _ => rfl, fun _ _ => rfl, fun _ _ _ => rfl, fun _ _ => rfl, fun _ _ => rfl, fun _ _ _ => rfl, fun _ => rfl, fun _ _ => rfl, fun _ _ _ _ _ => rfl, fun _ => rfl, fun _ => rfl, fun _ _ _ => rfl, rfl, fun _ _ _ _ => rfl, fun _ _ _ => rfl, fun _ _ _ _ => rfl, fun _ _ _ _ => rfl, fun _ _ _ => rfl, fun _ _ _ _ => rfl, fun _ => rfl, fun _ _ => rfl, fun _ => rfl⟩
theorem pv_mv (e : Env) (x : IArg) : pureV (.mv x) e = x.ev e := rfl
theorem pv_pick (e : Env) (c a b : IArg) : pureV (.pick c a b) e = (c.ev e).bind fun v => pickV v (a.ev e) (b.ev e) := rfl
theorem pv_build (e : Env) (z : List IV) (ps : List (Nat × Nat × IArg)) : pureV (.build z ps) e = (Im.parts e ps).bind fun vs => (fillI z vs).map .agg := rfl
theorem pv_nilchk (e : Env) (x : IArg) : pureV (.nilchk x) e = (x.ev e).bind nilchkV := rfl
theorem pv_bin (e : Env) (op : BinOp) (x y : IArg) : pureV (.bin op x y) e = (x.ev e).bind fun a => (y.ev e).bind fun b => binI op a b := rfl
theorem pv_isnil (e : Env) (n : Bool) (k : NK) (x : IArg) : pureV (.isnil n k x) e = (x.ev e).bind fun v => isnilV n k v := rfl
theorem pv_eqflat (e : Env) (n : Bool) (ks : List Bool) (x y : IArg) : pureV (.eqflat n ks x y) e = (x.ev e).bind fun a => (y.ev e).bind fun b => eqflatV n ks a b := rfl
theorem pv_eqbool (e : Env) (n : Bool) (x y : IArg) : pureV (.eqbool n x y) e = (x.ev e).bind fun a => (y.ev e).bind fun b => eqboolV n a b := rfl
theorem pv_un (e : Env) (op : UnOp) (x : IArg) : pureV (.un op x) e = (x.ev e).bind fun v => unI op v := rfl
theorem pv_conv (e : Env) (k : IntKind) (x : IArg) : pureV (.conv k x) e = (x.ev e).bind fun v => convV k v := rfl
theorem pv_mkiface (e : Env) (t : TypeId) (x : IArg) : pureV (.mkiface t x) e = (x.ev e).bind fun v => some (.iface t v) := rfl
theorem pv_mkfunc (e : Env) (fn : Fn) (a c : List IArg) : pureV (.mkfunc fn a c) e = (evs e a).bind fun a => (evs e c).bind fun b => some (.func fn a b) := rfl
theorem pv_sliceTo (e : Env) (x hi : IArg) : pureV (.sliceTo x hi) e = (x.ev e).bind fun v => (hi.ev e).bind fun u => (intV u).bind fun n => sliceToV v n := rfl
theorem pv_sliceArr (e : Env) (n sz : Nat) (x : IArg) (lo hi : Option IArg) : pureV (.sliceArr n sz x lo hi) e = (x.ev e).bind fun v => (oint e 0 lo).bind fun l => (oint e n hi).bind fun u => sliceArrV n sz v l u := rfl
theorem pv_faddr (e : Env) (off : Nat) (x : IArg) : pureV (.faddr off x) e = (x.ev e).bind fun v => faddrV off v := rfl
theorem pv_field (e : Env) (off : Nat) (n : Option Nat) (x : IArg) : pureV (.field off n x) e = (x.ev e).bind fun v => fieldV off n v := rfl
theorem pv_iaddr (e : Env) (len : Option Nat) (sz : Nat) (x i : IArg) : pureV (.iaddr len sz x i) e = (i.ev e).bind fun u => (intV u).bind fun n => (x.ev e).bind fun v => iaddrO len sz v n := rfl
theorem pv_idxstr (e : Env) (x i : IArg) : pureV (.idxstr x i) e = (x.ev e).bind fun v => (i.ev e).bind fun u => (intV u).bind fun n => idxstrV v n := rfl
theorem pv_tassert (e : Env) (t : TypeId) (z : IV) (x : IArg) : pureV (.tassert t z x) e = (x.ev e).bind fun v => tassertV t z v := rfl
theorem pv_extract (e : Env) (i : Nat) (x : IArg) : pureV (.extract i x) e = (x.ev e).bind fun v => extractV i v := rfl
theorem pv_strlen (e : Env) (x : IArg) : pureV (.len true x) e = (x.ev e).bind fun v => (strlenV v).map fun n => .int .i64 n := rfl
theorem pv_slen (e : Env) (x : IArg) : pureV (.len false x) e = (x.ev e).bind fun v => (slenV v).map fun (n : Nat) => IV.int .i64 (n : Int) := rfl
theorem pv_mm (e : Env) (m : Bool) (x y : IArg) : pureV (.mm m x y) e = (x.ev e).bind fun a => (y.ev e).bind fun b => mmV m a b := rfl
theorem dv_load1 (e : Env) (h : IHeap) (x : IArg) : readV (.load1 x) e h = (x.ev e).bind fun v => Im.load1 h v := rfl
theorem dv_loadN (e : Env) (h : IHeap) (n : Nat) (x : IArg) : readV (.loadN n x) e h = (x.ev e).bind fun v => (Im.loadN h v n).map .agg := rfl
theorem dv_lookup (e : Env) (h : IHeap) (ks : Bool) (z : IV) (m k : IArg) (ok : Bool) : readV (.lookup ks z m k ok) e h = (m.ev e).bind fun m => (k.ev e).bind fun k => lookupI h ks z m k ok := rfl
theorem pvs : (type_of% @pv_mv) ∧ (type_of% @pv_pick) ∧ (type_of% @pv_build) ∧ (type_of% @pv_nilchk) ∧ (type_of% @pv_bin) ∧ (type_of% @pv_isnil) ∧ (type_of% @pv_eqflat) ∧ (type_of% @pv_eqbool) ∧ (type_of% @pv_un) ∧ (type_of% @pv_conv) ∧ (type_of% @pv_mkiface) ∧ (type_of% @pv_mkfunc) ∧ (type_of% @pv_sliceTo) ∧ (type_of% @pv_sliceArr) ∧ (type_of% @pv_faddr) ∧ (type_of% @pv_field) ∧ (type_of% @pv_iaddr) ∧ (type_of% @pv_idxstr) ∧ (type_of% @pv_tassert) ∧ (type_of% @pv_extract) ∧ (type_of% @pv_strlen) ∧ (type_of% @pv_slen) ∧ (type_of% @pv_mm) ∧ (type_of% @dv_load1) ∧ (type_of% @dv_loadN) ∧ (type_of% @dv_lookup) :=
  ⟨@pv_mv, @pv_pick, @pv_build, @pv_nilchk, @pv_bin, @pv_isnil, @pv_eqflat, @pv_eqbool, @pv_un, @pv_conv, @pv_mkiface, @pv_mkfunc, @pv_sliceTo, @pv_sliceArr, @pv_faddr, @pv_field, @pv_iaddr, @pv_idxstr, @pv_tassert, @pv_extract, @pv_strlen, @pv_slen, @pv_mm, @dv_load1, @dv_loadN, @dv_lookup⟩
theorem sat_okI {Q : IExit → Env → IHeap → Prop} {X : IV → Env → IHeap → Prop} {x : IExit} {e : Env} {h : IHeap} (hq : Q x e h) : (CRes.ok x e h).sat Q X := hq
theorem sat_next {O : Orc} {fuel : Nat} {b : IC} {Q : IExit → Env → IHeap → Prop} {X : IV → Env → IHeap → Prop} {e : Env} {h : IHeap} (hq : (ix O fuel b e h).sat Q X) : (CRes.ok .normal e h).sat (seqQ O fuel b Q X) X := hq
theorem sat_skip {O : Orc} {fuel : Nat} {b : IC} {Q : IExit → Env → IHeap → Prop} {X : IV → Env → IHeap → Prop} {e : Env} {h : IHeap} (hq : (ix O fuel b e h).sat Q X) : (ix O fuel .skip e h).sat (seqQ O fuel b Q X) X := hq
/-! ### What is not gone into -/
@[congr] theorem bindD_congr {a b : Option IV} {f : IV → Res Env} (h : a = b) : bindD a f = bindD b f := by rw [h]
@[congr] theorem newD_congr {a b : Res IV} {f : IV → IHeap → Res Env} (h : a = b) : newD f a = newD f b := by rw [h]
@[congr] theorem actD_congr {e : Env} {k : Nat} {ps : List (DOper × IV)} {a b : Res IV} {f : IV → IHeap → Res Env} (h : a = b) : actD e k ps f a = actD e k ps f b := by rw [h]
@[congr] theorem bindR_congr {α : Type} {a b : Option α} {f : α → Res IV} (h : a = b) : bindR a f = bindR b f := by rw [h]
@[congr] theorem regK_congr {O : Orc} {d : Option Nat} {os : List IOper} {e : Env} {a b : Res IV} (h : a = b) : regK O d os e a = regK O d os e b := by rw [h]
@[congr] theorem regG_congr {O : Orc} {d : Option Nat} {op : IOp} {os : List IOper} {e : Env} {hh : IHeap} {a b : Option Bool} (h : a = b) : regG O d op os e hh a = regG O d op os e hh b := by rw [h]
@[congr] theorem drawK_congr {ds : List DOper} {e : Env} {a b : Res Env} (h : a = b) : ix_drawK ds e a = ix_drawK ds e b := by rw [h]
@[congr] theorem sat_congr {Q : IExit → Env → IHeap → Prop} {X : IV → Env → IHeap → Prop} {a b : CRes} (h : a = b) : CRes.sat Q X a = CRes.sat Q X b := by rw [h]
@[congr] theorem regI_congr {O : Orc} {os : List IOper} {e : Env} {h : IHeap} : ix.regI O os e h = ix.regI O os e h := rfl
@[congr] theorem drawI_congr {O : Orc} {ds : List DOper} {k : Nat} {ps : List (DOper × IV)} {e : Env} {h : IHeap} : drawI O ds k ps e h = drawI O ds k ps e h := rfl
@[congr] theorem runV_congr {O : Orc} {op : IOp} {e : Env} {h : IHeap} : runV O op e h = runV O op e h := rfl
@[congr] theorem get_congr {e : Env} {t : Nat} : e.get t = e.get t := rfl

def dropI : Nat → List IV → Option IV
  | 0, cs => some (.cptr cs)
  | n + 1, _ :: cs => dropI n cs
  | _ + 1, [] => none
theorem dropI_eq : ∀ (n : Nat) (cs : List IV), dropI n cs = if n ≤ cs.length then some (.cptr (cs.drop n)) else none
  | 0, cs => by simp [dropI]
  | n + 1, [] => by simp [dropI]
  | n + 1, c :: cs => by simp [dropI, dropI_eq n cs]
theorem faddr_cptr (off : Nat) (cs : List IV) : faddrV off (.cptr cs) = dropI off cs := by rw [dropI_eq]; rfl
theorem faddr_ptr (off b o : Nat) : faddrV off (.ptr b o) = some (.ptr b (o + off)) := rfl
theorem dropI_0 (cs : List IV) : dropI 0 (cs) = some (.cptr cs) := rfl
theorem dropI_1 (a0 : IV) (cs : List IV) : dropI 1 (a0 :: cs) = some (.cptr cs) := rfl
theorem dropI_2 (a0 a1 : IV) (cs : List IV) : dropI 2 (a0 :: a1 :: cs) = some (.cptr cs) := rfl
theorem dropI_3 (a0 a1 a2 : IV) (cs : List IV) : dropI 3 (a0 :: a1 :: a2 :: cs) = some (.cptr cs) := rfl
theorem dropI_4 (a0 a1 a2 a3 : IV) (cs : List IV) : dropI 4 (a0 :: a1 :: a2 :: a3 :: cs) = some (.cptr cs) := rfl
theorem dropI_5 (a0 a1 a2 a3 a4 : IV) (cs : List IV) : dropI 5 (a0 :: a1 :: a2 :: a3 :: a4 :: cs) = some (.cptr cs) := rfl
theorem dropI_6 (a0 a1 a2 a3 a4 a5 : IV) (cs : List IV) : dropI 6 (a0 :: a1 :: a2 :: a3 :: a4 :: a5 :: cs) = some (.cptr cs) := rfl
theorem dropI_7 (a0 a1 a2 a3 a4 a5 a6 : IV) (cs : List IV) : dropI 7 (a0 :: a1 :: a2 :: a3 :: a4 :: a5 :: a6 :: cs) = some (.cptr cs) := rfl
theorem dropI_8 (a0 a1 a2 a3 a4 a5 a6 a7 : IV) (cs : List IV) : dropI 8 (a0 :: a1 :: a2 :: a3 :: a4 :: a5 :: a6 :: a7 :: cs) = some (.cptr cs) := rfl
theorem dropI_9 (a0 a1 a2 a3 a4 a5 a6 a7 a8 : IV) (cs : List IV) : dropI 9 (a0 :: a1 :: a2 :: a3 :: a4 :: a5 :: a6 :: a7 :: a8 :: cs) = some (.cptr cs) := rfl
theorem dropI_10 (a0 a1 a2 a3 a4 a5 a6 a7 a8 a9 : IV) (cs : List IV) : dropI 10 (a0 :: a1 :: a2 :: a3 :: a4 :: a5 :: a6 :: a7 :: a8 :: a9 :: cs) = some (.cptr cs) := rfl
theorem dropI_11 (a0 a1 a2 a3 a4 a5 a6 a7 a8 a9 a10 : IV) (cs : List IV) : dropI 11 (a0 :: a1 :: a2 :: a3 :: a4 :: a5 :: a6 :: a7 :: a8 :: a9 :: a10 :: cs) = some (.cptr cs) := rfl
theorem dropI_12 (a0 a1 a2 a3 a4 a5 a6 a7 a8 a9 a10 a11 : IV) (cs : List IV) : dropI 12 (a0 :: a1 :: a2 :: a3 :: a4 :: a5 :: a6 :: a7 :: a8 :: a9 :: a10 :: a11 :: cs) = some (.cptr cs) := rfl
theorem dropI_13 (a0 a1 a2 a3 a4 a5 a6 a7 a8 a9 a10 a11 a12 : IV) (cs : List IV) : dropI 13 (a0 :: a1 :: a2 :: a3 :: a4 :: a5 :: a6 :: a7 :: a8 :: a9 :: a10 :: a11 :: a12 :: cs) = some (.cptr cs) := rfl
theorem dropI_14 (a0 a1 a2 a3 a4 a5 a6 a7 a8 a9 a10 a11 a12 a13 : IV) (cs : List IV) : dropI 14 (a0 :: a1 :: a2 :: a3 :: a4 :: a5 :: a6 :: a7 :: a8 :: a9 :: a10 :: a11 :: a12 :: a13 :: cs) = some (.cptr cs) := rfl
theorem dropI_15 (a0 a1 a2 a3 a4 a5 a6 a7 a8 a9 a10 a11 a12 a13 a14 : IV) (cs : List IV) : dropI 15 (a0 :: a1 :: a2 :: a3 :: a4 :: a5 :: a6 :: a7 :: a8 :: a9 :: a10 :: a11 :: a12 :: a13 :: a14 :: cs) = some (.cptr cs) := rfl
theorem dropI_16 (a0 a1 a2 a3 a4 a5 a6 a7 a8 a9 a10 a11 a12 a13 a14 a15 : IV) (cs : List IV) : dropI 16 (a0 :: a1 :: a2 :: a3 :: a4 :: a5 :: a6 :: a7 :: a8 :: a9 :: a10 :: a11 :: a12 :: a13 :: a14 :: a15 :: cs) = some (.cptr cs) := rfl
theorem drops : (type_of% @faddr_cptr) ∧ (type_of% @faddr_ptr) ∧ (type_of% @dropI_0) ∧ (type_of% @dropI_1) ∧ (type_of% @dropI_2) ∧ (type_of% @dropI_3) ∧ (type_of% @dropI_4) ∧ (type_of% @dropI_5) ∧ (type_of% @dropI_6) ∧ (type_of% @dropI_7) ∧ (type_of% @dropI_8) ∧ (type_of% @dropI_9) ∧ (type_of% @dropI_10) ∧ (type_of% @dropI_11) ∧ (type_of% @dropI_12) ∧ (type_of% @dropI_13) ∧ (type_of% @dropI_14) ∧ (type_of% @dropI_15) ∧ (type_of% @dropI_16) ∧ (type_of% @List.cons_append.{0}) ∧ (type_of% @List.nil_append.{0}) :=
  ⟨@faddr_cptr, @faddr_ptr, @dropI_0, @dropI_1, @dropI_2, @dropI_3, @dropI_4, @dropI_5, @dropI_6, @dropI_7, @dropI_8, @dropI_9, @dropI_10, @dropI_11, @dropI_12, @dropI_13, @dropI_14, @dropI_15, @dropI_16, @List.cons_append, @List.nil_append⟩
theorem mores : (type_of% @bindR_some) ∧ (type_of% @Option.bind_some.{0, 0}) ∧ (type_of% @Option.map_some.{0, 0}) ∧ (type_of% @Bool.and_true) ∧ (type_of% @Bool.or_true) ∧ (type_of% @List.append_nil.{0}) :=
  ⟨@bindR_some, @Option.bind_some, @Option.map_some, @Bool.and_true, @Bool.or_true, @List.append_nil⟩
theorem sat_blk {id : Nat} {Q : IExit → Env → IHeap → Prop} {X : IV → Env → IHeap → Prop} {e : Env} {h : IHeap} (hq : (CRes.ok .normal e h).sat Q X) : (CRes.ok .normal e h).sat (blockQ id Q) X := hq
theorem sat_again {c : IC} {e0 : Env} {I : Nat → Env → IHeap → Prop} {m : Nat} {Q : IExit → Env → IHeap → Prop} {X : IV → Env → IHeap → Prop} {e : Env} {h : IHeap} (m' : Nat) (hm : m' < m) (hI : I m' e h) : (CRes.ok .normal e h).sat (loopQ c e0 I m Q) X := ⟨m', hm, hI⟩
/-- A loop is left. -/
theorem sat_brk {O : Orc} {fuel : Nat} {b : IC} {id : Nat} {c : IC} {e0 : Env} {I : Nat → Env → IHeap → Prop} {m : Nat} {Q : IExit → Env → IHeap → Prop} {X X' X'' : IV → Env → IHeap → Prop} {e : Env} {h : IHeap}
    (hq : (∀ t, c.wr t = false → e.get t = e0.get t) → (CRes.ok .normal e h).sat Q X) : (ix O fuel (.exit id) e h).sat (seqQ O fuel b (loopQ c e0 I m (blockQ id Q)) X') X'' := by
  show (∀ t, c.wr t = false → e.get t = e0.get t) → blockQ id Q (.exit id) e h
  intro hf
  simp only [blockQ, if_true]
  exact hq hf
theorem sat_ret {O : Orc} {fuel : Nat} {Q : IExit → Env → IHeap → Prop} {X : IV → Env → IHeap → Prop} {e : Env} {h : IHeap} (hq : Q .ret e h) : (ix O fuel .ret e h).sat Q X := hq
theorem bindR_some' {α : Type} (a : α) (f : α → Res IV) : bindR (some a) f = f a := rfl
theorem start_nil (i : Nat) : startI i [] = [] := rfl
theorem start_cons (i : Nat) (v : IV) (vs : List IV) : startI i (v :: vs) = (startI (i + 1) vs).put i v := rfl
end Go.Proofs.YtadeojgiiapljaaGreat.Im
namespace Go.Proofs.YtadeojgiiapljaaGreat.Im
open Go

def seqK (O : Orc) (fuel : Nat) (b : IC) : CRes → CRes
  | .ok .normal e h => ix O fuel b e h
  | r => r
@[congr] theorem seqK_congr {O : Orc} {fuel : Nat} {b : IC} {r r' : CRes} (h : r = r') : seqK O fuel b r = seqK O fuel b r' := by rw [h]
@[congr] theorem ix_congr {O : Orc} {fuel : Nat} {c : IC} {e : Env} {h : IHeap} : ix O fuel c e h = ix O fuel c e h := rfl
section
variable (O : Orc) (fuel : Nat) (a b : IC) (e : Env) (h : IHeap) (v : IV) (i : Nat)
theorem ix_seq' : ix O fuel (.seq a b) e h = seqK O fuel b (ix O fuel a e h) := by
  simp only [ix]; cases ix O fuel a e h with
  | ok x e1 h1 => cases x <;> rfl
  | panic v e1 h1 => rfl
  | fail => rfl
theorem seqK_ok : seqK O fuel b (.ok .normal e h) = ix O fuel b e h := rfl
theorem seqK_ret : seqK O fuel b (.ok .ret e h) = .ok .ret e h := rfl
theorem seqK_exit : seqK O fuel b (.ok (.exit i) e h) = .ok (.exit i) e h := rfl
theorem seqK_panic : seqK O fuel b (.panic v e h) = .panic v e h := rfl
def condK (a b : IC) : Option IV → CRes
  | some (.bool true) => ix O fuel a e h
  | some (.bool false) => ix O fuel b e h
  | _ => .fail
theorem ix_cond' (c : IArg) : ix O fuel (.cond c a b) e h = condK O fuel e h a b (c.ev e) := by
  simp only [ix, condK]; rfl
theorem condK_true : condK O fuel e h a b (some (.bool true)) = ix O fuel a e h := rfl
theorem condK_false : condK O fuel e h a b (some (.bool false)) = ix O fuel b e h := rfl
def blockK (id : Nat) : CRes → CRes
  | .ok (.exit i) e h => if i = id then .ok .normal e h else .ok (.exit i) e h
  | r => r
theorem ix_block' (id : Nat) : ix O fuel (.block id a) e h = blockK id (ix O fuel a e h) := by
  simp only [ix]; cases ix O fuel a e h with
  | ok x e1 h1 =>
    cases x with
    | normal => rfl
    | ret => rfl
    | exit i =>
      simp only [CRes.bind, blockK]
      by_cases hi : i = id
      · subst hi; simp
      · simp [hi]
  | panic v e1 h1 => rfl
  | fail => rfl
theorem blockK_normal (id : Nat) : blockK id (.ok .normal e h) = .ok .normal e h := rfl
theorem blockK_ret (id : Nat) : blockK id (.ok .ret e h) = .ok .ret e h := rfl
theorem blockK_exit (id : Nat) : blockK id (.ok (.exit i) e h) = if i = id then .ok .normal e h else .ok (.exit i) e h := rfl
theorem blockK_panic (id : Nat) : blockK id (.panic v e h) = .panic v e h := rfl
theorem ix_skip' : ix O fuel .skip e h = .ok .normal e h := rfl
theorem ix_exit' : ix O fuel (.exit i) e h = .ok (.exit i) e h := rfl
theorem ix_ret' : ix O fuel .ret e h = .ok .ret e h := rfl
theorem ix_scope' : ix O fuel (.scope a) e h = ix O fuel a e h := rfl
end
@[congr] theorem condK_congr {O : Orc} {fuel : Nat} {e : Env} {h : IHeap} {a b : IC} {r r' : Option IV} (hr : r = r') : condK O fuel e h a b r = condK O fuel e h a b r' := by rw [hr]
theorem runs : (type_of% @ix_seq') ∧ (type_of% @seqK_ok) ∧ (type_of% @seqK_ret) ∧ (type_of% @seqK_exit) ∧ (type_of% @seqK_panic) ∧ (type_of% @ix_cond') ∧ (type_of% @condK_true) ∧ (type_of% @condK_false) ∧ (type_of% @ix_block') ∧ (type_of% @blockK_normal) ∧ (type_of% @blockK_ret) ∧ (type_of% @blockK_exit) ∧ (type_of% @blockK_panic) ∧
    (type_of% @ix_skip') ∧ (type_of% @ix_exit') ∧ (type_of% @ix_ret') ∧ (type_of% @ix_scope') :=
  ⟨@ix_seq', @seqK_ok, @seqK_ret, @seqK_exit, @seqK_panic, @ix_cond', @condK_true, @condK_false, @ix_block', @blockK_normal, @blockK_ret, @blockK_exit, @blockK_panic, @ix_skip', @ix_exit', @ix_ret', @ix_scope'⟩

/-- Behind the body. -/
def endK (F : IFunc) : CRes → Res IV
  | .ok .normal e h => doneI F e h
  | .ok .ret e h => doneI F e h
  | .panic v _ h => .panic v h
  | _ => .fail
theorem body_eq {T : FuncId → Option IFunc} {O : Orc} {fuel : Nat} {F : IFunc} {args : List IV} {h : IHeap} (hn : args.length = F.nparams) (hr : F.recT = none) (hd : F.body.wr DK = false) (hp : F.nparams ≤ DK) :
    bodyI T O fuel F args h = endK F (ix O fuel F.body (startI 0 args) h) := by
  have hs : (startI 0 args).get DK = none := by
    rw [get_start]
    simp only [Nat.zero_le, if_true, Nat.sub_zero]
    exact List.getElem?_eq_none (by omega)
  unfold bodyI
  rw [if_neg (by simp [hn, hr])]
  have hl := ix_leaves (O := O) (fuel := fuel) F.body (startI 0 args) h
  cases hres : ix O fuel F.body (startI 0 args) h with
  | ok x e h' =>
    rw [hres] at hl
    have hdk : e.get DK = none := by rw [hl DK hd, hs]
    cases x with
    | exit id => rfl
    | normal => simp only [hdk]; rfl
    | ret => simp only [hdk]; rfl
  | panic v e h' =>
    rw [hres] at hl
    have hdk : e.get DK = none := by rw [hl DK hd, hs]
    simp only [hdk]; rfl
  | fail => rfl
def resK : Option IV → Option (List IV) → Option (List IV)
  | some v, some vs => some (v :: vs)
  | _, _ => none
theorem res_nil (e : Env) (h : IHeap) : resultI e h [] = some [] := rfl
theorem res_tmp (e : Env) (h : IHeap) (t : Nat) (rs : List IResult) : resultI e h (.tmp t :: rs) = resK (e.get t) (resultI e h rs) := by
  simp only [resultI]; cases e.get t <;> cases resultI e h rs <;> rfl
theorem res_cell1 (e : Env) (h : IHeap) (t : Nat) (rs : List IResult) : resultI e h (.cell1 t :: rs) = resK ((e.get t).bind (Im.load1 h)) (resultI e h rs) := by
  simp only [resultI]; cases e.get t with
  | none => cases resultI e h rs <;> rfl
  | some p => simp only [Option.bind_some]; cases Im.load1 h p <;> cases resultI e h rs <;> rfl
theorem res_cellN (e : Env) (h : IHeap) (t n : Nat) (rs : List IResult) : resultI e h (.cellN t n :: rs) = resK ((e.get t).bind fun p => (Im.loadN h p n).map .agg) (resultI e h rs) := by
  simp only [resultI]; cases e.get t with
  | none => cases resultI e h rs <;> rfl
  | some p => simp only [Option.bind_some]; cases Im.loadN h p n <;> cases resultI e h rs <;> rfl
theorem resK_some (v : IV) (vs : List IV) : resK (some v) (some vs) = some (v :: vs) := rfl
def doneK (h : IHeap) : Option (List IV) → Res IV
  | some vs => .ok (one? vs) h
  | none => .fail
theorem done_eq (F : IFunc) (e : Env) (h : IHeap) : doneI F e h = doneK h (resultI e h F.results) := by
  simp only [doneI, doneK]; rfl
theorem doneK_some (h : IHeap) (vs : List IV) : doneK h (some vs) = .ok (one? vs) h := rfl
theorem endK_ret (F : IFunc) (e : Env) (h : IHeap) : endK F (.ok .ret e h) = doneK h (resultI e h F.results) := by rw [← done_eq]; rfl
theorem endK_normal (F : IFunc) (e : Env) (h : IHeap) : endK F (.ok .normal e h) = doneK h (resultI e h F.results) := by rw [← done_eq]; rfl
theorem endK_panic (F : IFunc) (v : IV) (e : Env) (h : IHeap) : endK F (.panic v e h) = .panic v h := rfl
theorem one_one (v : IV) : one? [v] = v := rfl
theorem one_none : one? [] = .tup [] := rfl
theorem one_more (v u : IV) (vs : List IV) : one? (v :: u :: vs) = .tup (v :: u :: vs) := rfl
@[congr] theorem endK_congr {F : IFunc} {r r' : CRes} (h : r = r') : endK F r = endK F r' := by rw [h]
theorem bodys : (type_of% @start_nil) ∧ (type_of% @start_cons) ∧ (type_of% @endK_ret) ∧ (type_of% @endK_normal) ∧ (type_of% @endK_panic) ∧ (type_of% @res_nil) ∧ (type_of% @res_tmp) ∧ (type_of% @res_cell1) ∧ (type_of% @res_cellN) ∧ (type_of% @resK_some) ∧ (type_of% @doneK_some) ∧ (type_of% @one_one) ∧ (type_of% @one_none) ∧ (type_of% @one_more) :=
  ⟨@start_nil, @start_cons, @endK_ret, @endK_normal, @endK_panic, @res_nil, @res_tmp, @res_cell1, @res_cellN, @resK_some, @doneK_some, @one_one, @one_none, @one_more⟩
theorem ge_le (a b : Int) : (a ≥ b) = (b ≤ a) := rfl
theorem gt_lt (a b : Int) : (a > b) = (b < a) := rfl
theorem decide_T : decide True = true := rfl
theorem decide_F : decide False = false := rfl
theorem bools : (type_of% @decide_T) ∧ (type_of% @decide_F) ∧ ((true == true) = true) ∧ ((false == false) = true) ∧ ((true == false) = false) ∧ ((false == true) = false) ∧ ((!true) = false) ∧ ((!false) = true) ∧ (type_of% @ge_le) ∧ (type_of% @gt_lt) ∧ (type_of% @ne_eq.{1}) ∧ (type_of% not_true_eq_false) ∧ (type_of% not_false_eq_true) ∧ (type_of% Bool.false_and) ∧ (type_of% Bool.true_and) ∧ (type_of% Bool.and_false) ∧ (type_of% Bool.or_false) ∧ (type_of% Bool.true_or) ∧ (type_of% Bool.false_or) ∧ (type_of% Bool.false_eq_true) ∧ (type_of% Bool.true_eq_false) ∧ ((true = true) = True) ∧ ((false = false) = True) :=
  ⟨decide_T, decide_F, rfl, rfl, rfl, rfl, rfl, rfl, ge_le, gt_lt, @ne_eq, not_true_eq_false, not_false_eq_true, Bool.false_and, Bool.true_and, Bool.and_false, Bool.or_false, Bool.true_or, Bool.false_or, Bool.false_eq_true, Bool.true_eq_false, eq_self _, eq_self _⟩

theorem ss : (type_of% runs) ∧ (type_of% bodys) ∧ (type_of% regs) ∧ (type_of% rvs) ∧ (type_of% vals) ∧ (type_of% nds) ∧ (type_of% mores) ∧ (type_of% bools) ∧ (type_of% clss) ∧ (type_of% pvs) ∧ (type_of% drops) := ⟨runs, bodys, regs, rvs, vals, nds, mores, bools, clss, pvs, drops⟩
/-- A function of constant memory and numbers alone, that only reads. -/
def rd (g : List IV → Option IV) : List IV → M IV := fun args h => okO (g args) h
theorem rd_at {g : List IV → Option IV} {args : List IV} {v : IV} (hg : g args = some v) (h : IHeap) : rd g args h = .ok v h := by simp [rd, hg, okO]
theorem Sim.rd {P : Program} {f : FuncId} {g : List IV → Option IV} (he : Enters P f) (H : ∀ args v h, g args = some v → ∃ G, Sim P f G ∧ ∃ h2, G args h = .ok v h2 ∧ Grow h h2 ∧ ∀ r, v.ren r = v) : Sim P f (rd g) := by
  refine Sim.reader he fun args h => ?_
  cases hg : g args with
  | none => exact .inl (by simp [Im.rd, hg, okO])
  | some v =>
    obtain ⟨G, hS, h2, h3, h4, h5⟩ := H args v h hg
    exact .inr ⟨G, hS, v, h2, rd_at hg h, h3, h4, h5⟩
theorem mixed : Tryz.prog.follows .mixedOrders = true := by kernel_rfl
def T0 : FuncId → Option IFunc := fun _ => none
theorem body_sim {O : Orc} (hO : ∀ g, Sim Tryz.prog g (O g)) {f : FuncId} {F : IFunc} (hF : Compiled Tryz.prog f F) (fuel : Nat) : Sim Tryz.prog f (bodyI T0 O fuel F) :=
  body_sound (T := T0) (fun f F h => by cases h) hO mixed hF
theorem Sim.fail_of (f : FuncId) {F : List IV → M IV} (h : ∀ args h, F args h = .fail) : Sim Tryz.prog f F := by
  have : F = fun _ _ => .fail := by funext args hh; exact h args hh
  rw [this]; exact Sim.fail f
theorem oc_same (f : FuncId) (F : List IV → M IV) (O : Orc) : ocons f F O f = F := by
  unfold ocons
  have : Nat.beq f f = true := Nat.beq_refl f
  rw [this]; rfl
theorem oc_ne {f g : FuncId} (h : Nat.beq g f = false) (F : List IV → M IV) (O : Orc) : ocons f F O g = O g := by
  unfold ocons; rw [h]; rfl
end Go.Proofs.YtadeojgiiapljaaGreat.Im
namespace Go.Proofs.YtadeojgiiapljaaGreat.Im
open Go

def rowAt : IObj → Nat → Option IV
  | .row cells, off => cells[off]?
  | _, _ => none
def subL (off n : Nat) (cells : List IV) : Option (List IV) := if off + n ≤ cells.length then some ((cells.drop off).take n) else none
def rowN : IObj → Nat → Nat → Option (List IV)
  | .row cells, off, n => subL off n cells
  | _, _, _ => none
def rowSet : IObj → Nat → List IV → Option IObj
  | .row cells, off, vs => if off + vs.length ≤ cells.length && vs.all (·.one) then some (.row (setCells cells off vs)) else none
  | _, _, _ => none
theorem load1_ptr (h : IHeap) (b off : Nat) : Im.load1 h (.ptr b off) = (h.get b).bind fun o => rowAt o off := by
  simp only [Im.load1]; cases h.get b with
  | none => rfl
  | some o => cases o <;> rfl
theorem loadN_ptr (h : IHeap) (b off n : Nat) : Im.loadN h (.ptr b off) n = (h.get b).bind fun o => rowN o off n := by
  simp only [Im.loadN]; cases h.get b with
  | none => rfl
  | some o => cases o <;> rfl
theorem storeN_ptr (h : IHeap) (b off : Nat) (vs : List IV) : storeN h (.ptr b off) vs = (h.get b).bind fun o => (rowSet o off vs).map fun o' => h.set b o' := by
  simp only [storeN]; cases h.get b with
  | none => rfl
  | some o =>
    cases o with
    | row cells => simp only [Option.bind_some, rowSet]; split <;> rfl
    | map es c => rfl
    | dead => rfl
theorem set_push_new (h : IHeap) (o o' : IObj) : (h.push o).set h.n o' = h.push o' := by
  simp [IHeap.push, IHeap.set]
theorem set_push_old {h : IHeap} {b : Nat} (o o' : IObj) (hb : b < h.n) : (h.push o).set b o' = (h.set b o').push o := by
  simp only [IHeap.push, IHeap.set, hb, if_true, show b < h.n + 1 by omega]
  have : h.n + 1 - 1 - b = (h.n - 1 - b) + 1 := by omega
  rw [this]; rfl
theorem set_n' (h : IHeap) (b : Nat) (o : IObj) : (h.set b o).n = h.n := rfl
theorem push_n' (h : IHeap) (o : IObj) : (h.push o).n = h.n + 1 := rfl
theorem get_push_lt {h : IHeap} {b : Nat} (o : IObj) (hb : b < h.n) : (h.push o).get b = h.get b := get_push_old hb
theorem get_push_eq (h : IHeap) (o : IObj) (b : Nat) : (h.push o).get b = if b = h.n then some o else h.get b := get_push
theorem rowAt_row (cells : List IV) (off : Nat) : rowAt (.row cells) off = cells[off]? := rfl
theorem rowN_row (cells : List IV) (off n : Nat) : rowN (.row cells) off n = subL off n cells := rfl
theorem subL_ok {off n : Nat} {cells : List IV} (h : off + n ≤ cells.length) : subL off n cells = some ((cells.drop off).take n) := by simp [subL, h]
theorem rowSet_ok {cells vs : List IV} {off : Nat} (h : off + vs.length ≤ cells.length) (ho : vs.all (·.one) = true) : rowSet (.row cells) off vs = some (.row (setCells cells off vs)) := by
  simp only [rowSet, ho, Bool.and_true, h, decide_true, if_true]
theorem n_ne (n k : Nat) : (n = n + (k + 1)) = False := by simp
theorem n_ne' (n k : Nat) : (n + (k + 1) = n) = False := by simp
theorem n_ne1 (n : Nat) : (n = n + 1) = False := by simp
theorem n_ne2 (n : Nat) : (n = n + 2) = False := by simp
theorem n_ne3 (n : Nat) : (n = n + 3) = False := by simp
theorem n_ne4 (n : Nat) : (n = n + 4) = False := by simp
theorem n_ne5 (n : Nat) : (n = n + 5) = False := by simp
theorem rowIf_ok {cells : List IV} (h : cells.all (·.one) = true) : rowIf cells = some (.row cells) := by simp only [rowIf, h, if_true]
theorem cells_agg (cs : List IV) : (IV.agg cs).cells = cs := rfl
theorem cells_int (k : IntKind) (n : Int) : (IV.int k n).cells = [.int k n] := rfl
theorem cells_bool (b : Bool) : (IV.bool b).cells = [.bool b] := rfl
theorem cells_one {v : IV} (h : v.one = true) : v.cells = [v] := by cases v <;> simp_all [IV.one, IV.cells]
theorem one_int (k : IntKind) (n : Int) : (IV.int k n).one = true := rfl
theorem one_bool (b : Bool) : (IV.bool b).one = true := rfl
theorem one_str (s : ByteArray) : (IV.str s).one = true := rfl
theorem one_ptr (b o : Nat) : (IV.ptr b o).one = true := rfl
theorem one_nilp : IV.nilp.one = true := rfl
theorem one_nils : IV.nils.one = true := rfl
theorem one_slice (b o l c : Nat) : (IV.slice b o l c).one = true := rfl
theorem one_aslice (b o l c : Nat) : (IV.aslice b o l c).one = true := rfl
theorem one_cslice (cs : List IV) (l : Nat) : (IV.cslice cs l).one = true := rfl
theorem one_func (f : Fn) (a c : List IV) : (IV.func f a c).one = true := rfl
theorem sizeIs_eq {n : Nat} {v : IV} {r : Res IV} (h : v.cells.length = n) : sizeIs n v r = r := by simp [sizeIs, h]
theorem set_all (cells vs : List IV) (h : vs.length = cells.length) : setCells cells 0 vs = vs := by simp [setCells, h]
theorem ones : (type_of% @one_int) ∧ (type_of% @one_bool) ∧ (type_of% @one_str) ∧ (type_of% @one_ptr) ∧ (type_of% @one_nilp) ∧ (type_of% @one_nils) ∧ (type_of% @one_slice) ∧ (type_of% @one_aslice) ∧ (type_of% @one_cslice) ∧ (type_of% @one_func) ∧ (type_of% @cells_agg) ∧ (type_of% @cells_int) ∧ (type_of% @cells_bool) ∧
    (type_of% @List.all_cons.{0}) ∧ (type_of% @List.all_nil.{0}) ∧ (type_of% @List.length_cons.{0}) ∧ (type_of% @List.length_nil.{0}) ∧ (type_of% @List.getElem?_cons_succ.{0}) ∧ (type_of% @List.getElem?_cons_zero.{0}) ∧ (type_of% @List.drop_succ_cons.{0}) ∧ (type_of% @List.take_succ_cons.{0}) ∧ (type_of% @List.drop_zero.{0}) ∧ (type_of% @List.take_zero.{0}) :=
  ⟨@one_int, @one_bool, @one_str, @one_ptr, @one_nilp, @one_nils, @one_slice, @one_aslice, @one_cslice, @one_func, @cells_agg, @cells_int, @cells_bool, @List.all_cons, @List.all_nil, @List.length_cons, @List.length_nil, @List.getElem?_cons_succ, @List.getElem?_cons_zero, @List.drop_succ_cons, @List.take_succ_cons, @List.drop_zero, @List.take_zero⟩
theorem iaddr_sl (sz b off len cap i : Nat) : iaddrV sz (.slice b off len cap) (i : Int) = if i < len then some (.ptr b (off + i * sz)) else none := by
  simp only [iaddrV]; by_cases h : i < len <;> simp [h]
theorem iaddr_asl (sz b off len s i : Nat) : iaddrV sz (.aslice b off len s) (i : Int) = if i < len then some (.ptr b (off + i * sz)) else none := by
  simp only [iaddrV]; by_cases h : i < len <;> simp [h]
theorem slen_sl (b off len cap : Nat) : slenV (.slice b off len cap) = some len := rfl
theorem slen_asl (b off len s : Nat) : slenV (.aslice b off len s) = some len := rfl
theorem slen_nils : slenV .nils = some 0 := rfl
theorem heaps : (type_of% @iaddr_sl) ∧ (type_of% @iaddr_asl) ∧ (type_of% @slen_sl) ∧ (type_of% @slen_asl) ∧ (type_of% @slen_nils) ∧ (type_of% @Nat.mul_one) ∧ (type_of% @load1_ptr) ∧ (type_of% @loadN_ptr) ∧ (type_of% @storeN_ptr) ∧ (type_of% @set_push_new) ∧ (type_of% @set_n') ∧ (type_of% @push_n') ∧ (type_of% @get_push_eq) ∧ (type_of% @rowAt_row) ∧ (type_of% @rowN_row) ∧ (type_of% @n_ne1) ∧ (type_of% @n_ne2) ∧ (type_of% @n_ne3) ∧ (type_of% @n_ne4) ∧ (type_of% @n_ne5) :=
  ⟨@iaddr_sl, @iaddr_asl, @slen_sl, @slen_asl, @slen_nils, @Nat.mul_one, @load1_ptr, @loadN_ptr, @storeN_ptr, @set_push_new, @set_n', @push_n', @get_push_eq, @rowAt_row, @rowN_row, @n_ne1, @n_ne2, @n_ne3, @n_ne4, @n_ne5⟩
theorem fill_nil (cells : List IV) : fillI cells [] = some cells := rfl
theorem fill_cons (cells : List IV) (off sz : Nat) (v : IV) (rest : List (Nat × Nat × IV)) : fillI cells ((off, sz, v) :: rest) = if v.cells.length = sz ∧ off + sz ≤ cells.length then fillI (setCells cells off v.cells) rest else none := by
  simp only [fillI, Bool.and_eq_true, decide_eq_true_eq]
theorem eq_selfT {α : Type} (a : α) : (a = a) = True := eq_self a
theorem le_selfT (a : Nat) : (a ≤ a) = True := by simp
theorem fills : (type_of% @fill_nil) ∧ (type_of% @fill_cons) ∧ (type_of% @eq_selfT) ∧ (type_of% @le_selfT) ∧ (type_of% true_and) ∧ (type_of% and_true) ∧ (type_of% @set_all) := ⟨@fill_nil, @fill_cons, @eq_selfT, @le_selfT, true_and, and_true, @set_all⟩
theorem loadC_1 (h : IHeap) (a0 : IV) (cs : List IV) : Im.loadN h (.cptr (a0 :: cs)) 1 = some [a0] := by simp [Im.loadN]
theorem loadC_2 (h : IHeap) (a0 a1 : IV) (cs : List IV) : Im.loadN h (.cptr (a0 :: a1 :: cs)) 2 = some [a0, a1] := by simp [Im.loadN]
theorem loadC_3 (h : IHeap) (a0 a1 a2 : IV) (cs : List IV) : Im.loadN h (.cptr (a0 :: a1 :: a2 :: cs)) 3 = some [a0, a1, a2] := by simp [Im.loadN]
theorem loadC_4 (h : IHeap) (a0 a1 a2 a3 : IV) (cs : List IV) : Im.loadN h (.cptr (a0 :: a1 :: a2 :: a3 :: cs)) 4 = some [a0, a1, a2, a3] := by simp [Im.loadN]
theorem loadC_5 (h : IHeap) (a0 a1 a2 a3 a4 : IV) (cs : List IV) : Im.loadN h (.cptr (a0 :: a1 :: a2 :: a3 :: a4 :: cs)) 5 = some [a0, a1, a2, a3, a4] := by simp [Im.loadN]
theorem loadC_6 (h : IHeap) (a0 a1 a2 a3 a4 a5 : IV) (cs : List IV) : Im.loadN h (.cptr (a0 :: a1 :: a2 :: a3 :: a4 :: a5 :: cs)) 6 = some [a0, a1, a2, a3, a4, a5] := by simp [Im.loadN]
theorem loadC_7 (h : IHeap) (a0 a1 a2 a3 a4 a5 a6 : IV) (cs : List IV) : Im.loadN h (.cptr (a0 :: a1 :: a2 :: a3 :: a4 :: a5 :: a6 :: cs)) 7 = some [a0, a1, a2, a3, a4, a5, a6] := by simp [Im.loadN]
theorem loadC_8 (h : IHeap) (a0 a1 a2 a3 a4 a5 a6 a7 : IV) (cs : List IV) : Im.loadN h (.cptr (a0 :: a1 :: a2 :: a3 :: a4 :: a5 :: a6 :: a7 :: cs)) 8 = some [a0, a1, a2, a3, a4, a5, a6, a7] := by simp [Im.loadN]
theorem loadC_9 (h : IHeap) (a0 a1 a2 a3 a4 a5 a6 a7 a8 : IV) (cs : List IV) : Im.loadN h (.cptr (a0 :: a1 :: a2 :: a3 :: a4 :: a5 :: a6 :: a7 :: a8 :: cs)) 9 = some [a0, a1, a2, a3, a4, a5, a6, a7, a8] := by simp [Im.loadN]
theorem loadC_10 (h : IHeap) (a0 a1 a2 a3 a4 a5 a6 a7 a8 a9 : IV) (cs : List IV) : Im.loadN h (.cptr (a0 :: a1 :: a2 :: a3 :: a4 :: a5 :: a6 :: a7 :: a8 :: a9 :: cs)) 10 = some [a0, a1, a2, a3, a4, a5, a6, a7, a8, a9] := by simp [Im.loadN]
theorem loadC_11 (h : IHeap) (a0 a1 a2 a3 a4 a5 a6 a7 a8 a9 a10 : IV) (cs : List IV) : Im.loadN h (.cptr (a0 :: a1 :: a2 :: a3 :: a4 :: a5 :: a6 :: a7 :: a8 :: a9 :: a10 :: cs)) 11 = some [a0, a1, a2, a3, a4, a5, a6, a7, a8, a9, a10] := by simp [Im.loadN]
theorem loadC_12 (h : IHeap) (a0 a1 a2 a3 a4 a5 a6 a7 a8 a9 a10 a11 : IV) (cs : List IV) : Im.loadN h (.cptr (a0 :: a1 :: a2 :: a3 :: a4 :: a5 :: a6 :: a7 :: a8 :: a9 :: a10 :: a11 :: cs)) 12 = some [a0, a1, a2, a3, a4, a5, a6, a7, a8, a9, a10, a11] := by simp [Im.loadN]
theorem loadC_13 (h : IHeap) (a0 a1 a2 a3 a4 a5 a6 a7 a8 a9 a10 a11 a12 : IV) (cs : List IV) : Im.loadN h (.cptr (a0 :: a1 :: a2 :: a3 :: a4 :: a5 :: a6 :: a7 :: a8 :: a9 :: a10 :: a11 :: a12 :: cs)) 13 = some [a0, a1, a2, a3, a4, a5, a6, a7, a8, a9, a10, a11, a12] := by simp [Im.loadN]
theorem loadC_14 (h : IHeap) (a0 a1 a2 a3 a4 a5 a6 a7 a8 a9 a10 a11 a12 a13 : IV) (cs : List IV) : Im.loadN h (.cptr (a0 :: a1 :: a2 :: a3 :: a4 :: a5 :: a6 :: a7 :: a8 :: a9 :: a10 :: a11 :: a12 :: a13 :: cs)) 14 = some [a0, a1, a2, a3, a4, a5, a6, a7, a8, a9, a10, a11, a12, a13] := by simp [Im.loadN]
theorem loadC_15 (h : IHeap) (a0 a1 a2 a3 a4 a5 a6 a7 a8 a9 a10 a11 a12 a13 a14 : IV) (cs : List IV) : Im.loadN h (.cptr (a0 :: a1 :: a2 :: a3 :: a4 :: a5 :: a6 :: a7 :: a8 :: a9 :: a10 :: a11 :: a12 :: a13 :: a14 :: cs)) 15 = some [a0, a1, a2, a3, a4, a5, a6, a7, a8, a9, a10, a11, a12, a13, a14] := by simp [Im.loadN]
theorem loadC_16 (h : IHeap) (a0 a1 a2 a3 a4 a5 a6 a7 a8 a9 a10 a11 a12 a13 a14 a15 : IV) (cs : List IV) : Im.loadN h (.cptr (a0 :: a1 :: a2 :: a3 :: a4 :: a5 :: a6 :: a7 :: a8 :: a9 :: a10 :: a11 :: a12 :: a13 :: a14 :: a15 :: cs)) 16 = some [a0, a1, a2, a3, a4, a5, a6, a7, a8, a9, a10, a11, a12, a13, a14, a15] := by simp [Im.loadN]
theorem loadCs : (type_of% @loadC_1) ∧ (type_of% @loadC_2) ∧ (type_of% @loadC_3) ∧ (type_of% @loadC_4) ∧ (type_of% @loadC_5) ∧ (type_of% @loadC_6) ∧ (type_of% @loadC_7) ∧ (type_of% @loadC_8) ∧ (type_of% @loadC_9) ∧ (type_of% @loadC_10) ∧ (type_of% @loadC_11) ∧ (type_of% @loadC_12) ∧ (type_of% @loadC_13) ∧ (type_of% @loadC_14) ∧ (type_of% @loadC_15) ∧ (type_of% @loadC_16) :=
  ⟨@loadC_1, @loadC_2, @loadC_3, @loadC_4, @loadC_5, @loadC_6, @loadC_7, @loadC_8, @loadC_9, @loadC_10, @loadC_11, @loadC_12, @loadC_13, @loadC_14, @loadC_15, @loadC_16⟩
theorem subL_eq (off n : Nat) (cells : List IV) : subL off n cells = if off + n ≤ cells.length then some ((cells.drop off).take n) else none := rfl
theorem rowSet_eq (cells vs : List IV) (off : Nat) : rowSet (.row cells) off vs = if off + vs.length ≤ cells.length && vs.all (·.one) then some (.row (setCells cells off vs)) else none := rfl
theorem hps : (type_of% loadCs) ∧ (type_of% @subL_eq) ∧ (type_of% @rowSet_eq) ∧ (type_of% @sizeIs_eq) ∧ (type_of% heaps) ∧ (type_of% ones) ∧ (type_of% @Nat.zero_add) ∧ (type_of% fills) := ⟨loadCs, @subL_eq, @rowSet_eq, @sizeIs_eq, heaps, ones, @Nat.zero_add, fills⟩
section
variable {O : Orc} {fuel : Nat} {a b : IC} {e : Env} {h : IHeap} {Q : IExit → Env → IHeap → Prop} {X : IV → Env → IHeap → Prop}
theorem sat_condK {c : IArg} (hq : (condK O fuel e h a b (c.ev e)).sat Q X) : (ix O fuel (.cond c a b) e h).sat Q X := by rw [ix_cond']; exact hq
theorem sat_condD {p : Prop} [Decidable p] (ht : p → (ix O fuel a e h).sat Q X) (hf : ¬ p → (ix O fuel b e h).sat Q X) : (condK O fuel e h a b (some (.bool (decide p)))).sat Q X := by
  by_cases hp : p
  · rw [decide_eq_true hp]; exact ht hp
  · rw [decide_eq_false hp]; exact hf hp
theorem sat_condB {v : Bool} (ht : v = true → (ix O fuel a e h).sat Q X) (hf : v = false → (ix O fuel b e h).sat Q X) : (condK O fuel e h a b (some (.bool v))).sat Q X := by
  cases v
  · exact hf rfl
  · exact ht rfl
end
end Go.Proofs.YtadeojgiiapljaaGreat.Im
namespace Go.Proofs.YtadeojgiiapljaaGreat.Im
open Go
def drawG : Option Bool → Res Env → Res Env → Res Env
  | some true, x, _ => x
  | some false, _, y => y
  | none, _, _ => .fail
@[congr] theorem drawG_congr {a b : Option Bool} {x y : Res Env} (h : a = b) : drawG a x y = drawG b x y := by rw [h]
theorem drawG_true (x y : Res Env) : drawG (some true) x y = x := rfl
theorem drawG_false (x y : Res Env) : drawG (some false) x y = y := rfl
section
variable (O : Orc) {op : IOp} (i hi t : Nat) (b : Bool) (d : Option Nat) (ds : List DOper) (k : Nat) (ps : List (DOper × IV)) (e : Env) (h : IHeap)
theorem drawI_pureG (hc : op.cls = .pure) : drawI O (⟨i, hi, ⟨d, op, some (t, b)⟩⟩ :: ds) k ps e h = drawG (guardV (e.get t) b) (bindD (pureV op e) fun v => drawI O ds k ps (e.puto d v) h) (drawI O ds k ps (e.puto d .undef) h) := by
  rw [drawI]; simp only [wanted_some, hc, opPure_eq]
  cases guardV (e.get t) b with
  | none => rfl
  | some c =>
    cases c
    · simp [drawG]
    · simp only [drawG]; cases pureV op e <;> rfl
theorem drawI_readG (hc : op.cls = .read) : drawI O (⟨i, hi, ⟨d, op, some (t, b)⟩⟩ :: ds) k ps e h = drawG (guardV (e.get t) b) (bindD (readV op e h) fun v => drawI O ds k (if k < hi then (⟨i, hi, ⟨d, op, some (t, b)⟩⟩, v) :: ps else ps) (e.puto d v) h) (drawI O ds k ps (e.puto d .undef) h) := by
  rw [drawI]; simp only [wanted_some, hc, opRead_eq]
  cases guardV (e.get t) b with
  | none => rfl
  | some c =>
    cases c
    · simp [drawG]
    · simp only [drawG]; cases readV op e h <;> rfl
theorem drawI_actG (hc : op.cls = .act) : drawI O (⟨i, hi, ⟨d, op, some (t, b)⟩⟩ :: ds) k ps e h = drawG (guardV (e.get t) b) (actD e (k + 1) ps (fun v h => drawI O ds (k + 1) ps (e.puto d v) h) (runV O op e h)) (drawI O ds (k + 1) ps (e.puto d .undef) h) := by
  rw [drawI, ← opI_eq]; simp only [wanted_some, hc, opI]
  cases guardV (e.get t) b with
  | none => rfl
  | some c =>
    cases c
    · simp [drawG]
    · simp only [drawG]; cases opAct O op e h <;> rfl
end
theorem bin_eqlS (a b : ByteArray) : binI .eql (.str a) (.str b) = some (.bool (decide (a.toList = b.toList))) := by
  have : (a.toList == b.toList) = decide (a.toList = b.toList) := by by_cases h : a.toList = b.toList <;> simp [h]
  simp only [binI, this]
theorem strlen_str (s : ByteArray) : strlenV (.str s) = some (s.size : Int) := rfl
theorem bin_rem8 (k : IntKind) (a : Int) : binI .rem (.int k a) (.int k 8) = some (.int k (a.tmod 8)) := by simp [binI, intArith]
theorem cells_str (s : ByteArray) : (IV.str s).cells = [.str s] := rfl
theorem ds : (type_of% @drawG_true) ∧ (type_of% @drawG_false) ∧ (type_of% @drawI_pureG) ∧ (type_of% @drawI_readG) ∧ (type_of% @drawI_actG) ∧ (type_of% @bin_eqlS) ∧ (type_of% @strlen_str) ∧ (type_of% @bin_rem8) ∧ (type_of% @cells_str) :=
  ⟨@drawG_true, @drawG_false, @drawI_pureG, @drawI_readG, @drawI_actG, @bin_eqlS, @strlen_str, @bin_rem8, @cells_str⟩
end Go.Proofs.YtadeojgiiapljaaGreat.Im
