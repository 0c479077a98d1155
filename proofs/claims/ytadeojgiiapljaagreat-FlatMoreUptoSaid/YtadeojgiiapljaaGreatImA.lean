/- The ideal machine: values, heap, operations and code. An ideal run knows no addresses, no growth of capacities and no drawn order. -/
import Derived.Calls
import Derived.Laws.CopyRow
import Derived.Laws.StructEq
set_option linter.unusedSimpArgs false
set_option linter.unusedVariables false
namespace Go.Proofs.YtadeojgiiapljaaGreat.Im

/-- Values. Own memory is a block's number and an offset; constant memory is told by value. -/
inductive IV where
  | bool (b : Bool)
  | int (k : IntKind) (n : Int)
  | str (s : ByteArray)
  | nilp
  | ptr (b off : Nat)
  | cptr (cells : List IV)
  | nils
  | slice (b off len cap : Nat)
  | aslice (b off len sz : Nat)
  | cslice (cells : List IV) (len : Nat)
  | nilm
  | map (b : Nat)
  | func (fn : Fn) (first captured : List IV)
  | nilf
  | iface (t : TypeId) (v : IV)
  | nili
  | agg (cells : List IV)
  | tup (vs : List IV)
  deriving Inhabited

def IV.undef : IV := .tup []
def IV.cells : IV → List IV
  | .agg cs => cs
  | v => [v]
/-- One cell's value. -/
def IV.one : IV → Bool
  | .agg _ | .tup _ => false
  | _ => true

structure IEntry where
  key : IV
  val : IV
  born : Nat
  deriving Inhabited

inductive IObj where
  | row (cells : List IV)
  | map (es : List IEntry) (clock : Nat)
  | dead
  deriving Inhabited

/-- The heap: the newest block first. -/
structure IHeap where
  n : Nat
  l : List IObj

def IHeap.get (h : IHeap) (b : Nat) : Option IObj := if b < h.n then h.l[h.n - 1 - b]? else none
def IHeap.push (h : IHeap) (o : IObj) : IHeap := ⟨h.n + 1, o :: h.l⟩
def IHeap.set (h : IHeap) (b : Nat) (o : IObj) : IHeap := ⟨h.n, if b < h.n then h.l.set (h.n - 1 - b) o else h.l⟩

inductive Res (α : Type) where
  | ok (a : α) (h : IHeap)
  | panic (v : IV) (h : IHeap)
  | fail

def Res.bind {α β : Type} (r : Res α) (f : α → IHeap → Res β) : Res β :=
  match r with
  | .ok a h => f a h
  | .panic v h => .panic v h
  | .fail => .fail

abbrev M (α : Type) := IHeap → Res α

/-- What a call of a function comes to. -/
abbrev Orc := FuncId → List IV → M IV

/-! ### Temporaries -/
abbrev Env := List (Nat × IV)
def Env.get : Env → Nat → Option IV
  | [], _ => none
  | (u, v) :: e, t => if u = t then some v else Env.get e t
def Env.put (e : Env) (t : Nat) (v : IV) : Env := (t, v) :: e

inductive IArg where
  | t (t : Nat)
  | c (v : IV)
  deriving Inhabited
def IArg.ev (e : Env) : IArg → Option IV
  | .t u => e.get u
  | .c v => some v
def evs (e : Env) : List IArg → Option (List IV)
  | [] => some []
  | a :: as => match a.ev e, evs e as with
    | some v, some vs => some (v :: vs)
    | _, _ => none

/-! ### Memory -/
def loadN (h : IHeap) (v : IV) (n : Nat) : Option (List IV) :=
  match v with
  | .ptr b off => match h.get b with
    | some (.row cells) => if off + n ≤ cells.length then some ((cells.drop off).take n) else none
    | _ => none
  | .cptr cells => if n ≤ cells.length then some (cells.take n) else none
  | _ => none
def load1 (h : IHeap) (v : IV) : Option IV :=
  match v with
  | .ptr b off => match h.get b with
    | some (.row cells) => cells[off]?
    | _ => none
  | .cptr cells => cells[0]?
  | _ => none
def setCells (cells : List IV) (off : Nat) (vs : List IV) : List IV := cells.take off ++ vs ++ cells.drop (off + vs.length)
def storeN (h : IHeap) (v : IV) (vs : List IV) : Option IHeap :=
  match v with
  | .ptr b off => match h.get b with
    | some (.row cells) => if off + vs.length ≤ cells.length && vs.all (·.one) then some (h.set b (.row (setCells cells off vs))) else none
    | _ => none
  | _ => none

/-- The n cells of a slice's first elements, of sz cells each. -/
def sliceCells (h : IHeap) (v : IV) (sz : Nat) : Option (List IV) :=
  match v with
  | .nils => some []
  | .slice b off len _ | .aslice b off len _ => loadN h (.ptr b off) (len * sz)
  | .cslice cells len => loadN h (.cptr cells) (len * sz)
  | _ => none
def sliceLen : IV → Option Nat
  | .nils => some 0
  | .slice _ _ len _ | .aslice _ _ len _ | .cslice _ len => some len
  | .str s => some s.size
  | _ => none

def appendI (sz bytes : Nat) (s x : IV) : M IV := fun h =>
  match sliceLen s, sliceLen x, sliceCells h x sz with
  | some sl, some n, some new =>
    if n = 0 then match s with
      | .str _ => .fail
      | .slice _ _ _ cap => if sl ≤ cap then .ok s h else .fail
      | _ => .ok s h
    else if sz = 0 then .fail
    else if (sl + n) * bytes > 2 ^ 45 || sl + n > 2 ^ 45 || !new.all (·.one) then .fail else
    match s with
    | .nils => .ok (.aslice h.n 0 n sz) (h.push (.row new))
    | .slice b off _ cap =>
      if sl + n ≤ cap then match storeN h (.ptr b (off + sl * sz)) new with
        | some h' => .ok (.slice b off (sl + n) cap) h'
        | none => .fail
      else match loadN h (.ptr b off) (sl * sz) with
        | some old => .ok (.aslice h.n 0 (sl + n) sz) (h.push (.row (old ++ new)))
        | none => .fail
    | .aslice b off _ sz' =>
      if sz' ≠ sz then .fail else
      match loadN h (.ptr b off) (sl * sz) with
      | some old => .ok (.aslice h.n 0 (sl + n) sz) ((h.set b .dead).push (.row (old ++ new)))
      | none => .fail
    | _ => .fail
  | _, _, _ => .fail

/-! ### Pure operations -/
def intArith (op : BinOp) (k : IntKind) (x y : Int) : Option IV :=
  match op with
  | .add => some (.int k (k.wrap (x + y)))
  | .sub => some (.int k (k.wrap (x - y)))
  | .mul => some (.int k (k.wrap (x * y)))
  | .quo => if y = 0 then none else some (.int k (k.wrap (x.tdiv y)))
  | .rem => if y = 0 then none else some (.int k (x.tmod y))
  | .and => some (.int k (k.wrap (BitVec.ofInt k.bits x &&& BitVec.ofInt k.bits y).toNat))
  | .or => some (.int k (k.wrap (BitVec.ofInt k.bits x ||| BitVec.ofInt k.bits y).toNat))
  | .xor => some (.int k (k.wrap (BitVec.ofInt k.bits x ^^^ BitVec.ofInt k.bits y).toNat))
  | .eql => some (.bool (x == y))
  | .neq => some (.bool (x != y))
  | .lss => some (.bool (x < y))
  | .leq => some (.bool (x ≤ y))
  | .gtr => some (.bool (x > y))
  | .geq => some (.bool (x ≥ y))
  | _ => none
def binI (op : BinOp) (x y : IV) : Option IV :=
  match op, x, y with
  | .shl, .int k a, .int _ b => if b < 0 then none else some (.int k (k.wrap (a * 2 ^ (min b.toNat k.bits))))
  | .shr, .int k a, .int _ b => if b < 0 then none else some (.int k (a.fdiv (2 ^ (min b.toNat k.bits))))
  | op, .int k a, .int k' b => if k = k' then intArith op k a b else none
  | .eql, .str a, .str b => some (.bool (a.toList == b.toList))
  | .neq, .str a, .str b => some (.bool (!(a.toList == b.toList)))
  | _, _, _ => none
inductive NK where
  | ptr | slice | func | iface
  deriving DecidableEq, Inhabited
/-- x == nil. -/
def isNil : NK → IV → Option Bool
  | .ptr, .nilp | .slice, .nils | .func, .nilf | .iface, .nili => some true
  | .ptr, .ptr .. | .ptr, .cptr _ | .slice, .slice .. | .slice, .aslice .. | .slice, .cslice .. | .func, .func .. | .iface, .iface .. => some false
  | _, _ => none
/-- Two flat values, cell by cell; of each cell: is it a bool? (else: a number). -/
def eqFlat : List Bool → List IV → List IV → Option Bool
  | [], [], [] => some true
  | false :: ks, .int k a :: xs, .int k' b :: ys => if k = k' then (if a == b then eqFlat ks xs ys else (eqFlat ks xs ys).map fun _ => false) else none
  | true :: ks, .bool a :: xs, .bool b :: ys => if a == b then eqFlat ks xs ys else (eqFlat ks xs ys).map fun _ => false
  | _, _, _ => none
def unI (op : UnOp) (x : IV) : Option IV :=
  match op, x with
  | .not, .bool b => some (.bool !b)
  | .neg, .int k n => some (.int k (k.wrap (0 - n)))
  | .xor, .int k n => some (.int k (k.wrap (BitVec.ofInt k.bits (if k.signed then -1 else k.max) ^^^ BitVec.ofInt k.bits n).toNat))
  | _, _ => none

/-- Parts laid into cells. -/
def fillI (cells : List IV) : List (Nat × Nat × IV) → Option (List IV)
  | [] => some cells
  | (off, sz, v) :: rest => if v.cells.length = sz && off + sz ≤ cells.length then fillI (setCells cells off v.cells) rest else none

inductive IOp where
  | mv (x : IArg)
  | pick (c a b : IArg)
  | build (zero : List IV) (parts : List (Nat × Nat × IArg))
  | rep (n : Nat) (z : IV)
  | nilchk (x : IArg)
  | bin (op : BinOp) (x y : IArg)
  | isnil (neg : Bool) (k : NK) (x : IArg)
  | eqflat (neg : Bool) (ks : List Bool) (x y : IArg)
  | eqbool (neg : Bool) (x y : IArg)
  | un (op : UnOp) (x : IArg)
  | conv (k : IntKind) (x : IArg)
  | mkiface (t : TypeId) (x : IArg)
  | mkfunc (fn : Fn) (first captured : List IArg)
  | sliceTo (x hi : IArg)
  | sliceArr (n sz : Nat) (x : IArg) (lo hi : Option IArg)
  | faddr (off : Nat) (x : IArg)
  | field (off : Nat) (n : Option Nat) (x : IArg)
  | iaddr (len : Option Nat) (sz : Nat) (x i : IArg)
  | idxstr (x i : IArg)
  | tassert (t : TypeId) (zero : IV) (x : IArg)
  | extract (i : Nat) (x : IArg)
  | len (str : Bool) (x : IArg)
  | mm (max : Bool) (x y : IArg)
  -- reading
  | load1 (x : IArg)
  | loadN (n : Nat) (x : IArg)
  | lookup (ks : Bool) (zero : IV) (m k : IArg) (commaOk : Bool)
  -- new memory
  | new (cells : List IV)
  | box (x : IArg)
  | bslice (zero : List IV) (len : Nat) (parts : List (Nat × Nat × IArg))
  | mkmap
  | mkslice (zero : List IV) (bytes : Nat) (len cap : IArg)
  -- acting
  | store (n : Nat) (a x : IArg)
  | mapput (ks : Bool) (m k v : IArg)
  | mapentry (ks : Bool) (zero : IV) (m k : IArg)
  | entrystore (m s v : IArg)
  | append (sz bytes : Nat) (s x : IArg)
  | strbytes (x : IArg)
  | call (f : IArg) (args : List IArg)
  | panic (x : IArg)
  | deferc (x : IArg)
  deriving Inhabited

inductive Cls where
  | pure | read | new | act
  deriving DecidableEq
def IOp.cls : IOp → Cls
  | .load1 _ | .loadN .. | .lookup .. => .read
  | .new _ | .box _ | .bslice .. | .mkmap | .mkslice .. => .new
  | .store .. | .mapput .. | .mapentry .. | .entrystore .. | .append .. | .strbytes _ | .call .. | .panic _ | .deferc _ => .act
  | _ => .pure

def parts (e : Env) : List (Nat × Nat × IArg) → Option (List (Nat × Nat × IV))
  | [] => some []
  | (o, s, a) :: ps => match a.ev e, parts e ps with
    | some v, some vs => some ((o, s, v) :: vs)
    | _, _ => none

/-- The bounds of x[lo:hi]. -/
def bounds (cap : Nat) (lo : Int) (hi : Int) : Option (Nat × Nat) := if 0 ≤ lo ∧ lo ≤ hi ∧ hi ≤ cap then some (lo.toNat, hi.toNat) else none
def oint (e : Env) (d : Int) : Option IArg → Option Int
  | none => some d
  | some a => match a.ev e with
    | some (.int _ n) => some n
    | _ => none

/-- A pure operation. -/
def opPure (o : IOp) (e : Env) : Option IV :=
  match o with
  | .mv x => x.ev e
  | .pick c a b => match c.ev e with
    | some (.bool true) => a.ev e
    | some (.bool false) => b.ev e
    | _ => none
  | .build zero ps => match parts e ps with
    | some vs => (fillI zero vs).map .agg
    | none => none
  | .rep n z => some (.agg (List.replicate n z))
  | .nilchk x => match x.ev e with
    | some (.ptr b o) => some (.ptr b o)
    | some (.cptr c) => some (.cptr c)
    | _ => none
  | .bin op x y => match x.ev e, y.ev e with
    | some a, some b => binI op a b
    | _, _ => none
  | .isnil neg k x => match x.ev e with
    | some v => (isNil k v).map fun b => .bool (if neg then !b else b)
    | none => none
  | .eqflat neg ks x y => match x.ev e, y.ev e with
    | some (.agg a), some (.agg b) => (eqFlat ks a b).map fun b => .bool (if neg then !b else b)
    | _, _ => none
  | .eqbool neg x y => match x.ev e, y.ev e with
    | some (.bool a), some (.bool b) => some (.bool (if neg then !(a == b) else a == b))
    | _, _ => none
  | .un op x => match x.ev e with
    | some v => unI op v
    | none => none
  | .conv k x => match x.ev e with
    | some (.int _ n) => some (.int k (k.wrap n))
    | _ => none
  | .mkiface t x => match x.ev e with
    | some v => some (.iface t v)
    | none => none
  | .mkfunc fn first captured => match evs e first, evs e captured with
    | some a, some b => some (.func fn a b)
    | _, _ => none
  | .sliceTo x hi => match x.ev e, hi.ev e with
    | some .nils, some (.int _ n) => if n = 0 then some .nils else none
    | some (.slice b off _ cap), some (.int _ n) => if 0 ≤ n ∧ n ≤ cap then some (.slice b off n.toNat cap) else none
    | some (.aslice b off len sz), some (.int _ n) => if 0 ≤ n ∧ n ≤ len then some (.aslice b off n.toNat sz) else none
    | some (.cslice cells len), some (.int _ n) => if 0 ≤ n ∧ n ≤ len then some (.cslice cells n.toNat) else none
    | _, _ => none
  | .sliceArr n sz x lo hi => match x.ev e, oint e 0 lo, oint e n hi with
    | some (.ptr b off), some l, some u => match bounds n l u with
      | some (l, u) => some (.slice b (if n = l then off else off + l * sz) (u - l) (n - l))
      | none => none
    | _, _, _ => none
  | .faddr off x => match x.ev e with
    | some (.ptr b o) => some (.ptr b (o + off))
    | some (.cptr cells) => if off ≤ cells.length then some (.cptr (cells.drop off)) else none
    | _ => none
  | .field off n x => match x.ev e with
    | some (.agg cs) => match n with
      | none => cs[off]?
      | some n => if off + n ≤ cs.length then some (.agg ((cs.drop off).take n)) else none
    | _ => none
  | .iaddr len sz x i => match i.ev e with
    | some (.int _ n) => match len, x.ev e with
      | some len, some (.ptr b off) => if 0 ≤ n ∧ n < len then some (.ptr b (off + n.toNat * sz)) else none
      | none, some (.slice b off len _) => if 0 ≤ n ∧ n < len then some (.ptr b (off + n.toNat * sz)) else none
      | none, some (.aslice b off len _) => if 0 ≤ n ∧ n < len then some (.ptr b (off + n.toNat * sz)) else none
      | none, some (.cslice cells len) => if 0 ≤ n ∧ n < len ∧ n.toNat * sz ≤ cells.length then some (.cptr (cells.drop (n.toNat * sz))) else none
      | _, _ => none
    | _ => none
  | .idxstr x i => match x.ev e, i.ev e with
    | some (.str s), some (.int _ n) => if 0 ≤ n then (s[n.toNat]?).map fun b => .int .u8 b.toNat else none
    | _, _ => none
  | .tassert t zero x => match x.ev e with
    | some .nili => some (.tup [zero, .bool false])
    | some (.iface u v) => if u = t then some (.tup [v, .bool true]) else some (.tup [zero, .bool false])
    | _ => none
  | .extract i x => match x.ev e with
    | some (.tup vs) => vs[i]?
    | _ => none
  | .len s x => match x.ev e with
    | some (.str b) => if s then some (.int .i64 b.size) else none
    | some v => if s then none else (sliceLen v).map fun n => .int .i64 n
    | none => none
  | .mm max x y => match x.ev e, y.ev e with
    | some (.int k a), some (.int _ b) => some (.int k (if max then (if b > a then b else a) else (if b < a then b else a)))
    | _, _ => none
  | _ => none

/-- Is it the key? -/
def keyIs (a b : IV) : Option Bool :=
  match a, b with
  | .int k a, .int k' b => if k = k' then some (a == b) else none
  | .str a, .str b => some (a == b)
  | _, _ => none
def findI (k : IV) : List IEntry → Nat → Option (Option (Nat × IV))
  | [], _ => some none
  | x :: es, i => match keyIs k x.key with
    | some true => some (some (i, x.val))
    | some false => findI k es (i + 1)
    | none => none
/-- A key of the kind that the map has: a text? (else: a number). -/
def keyOk : Bool → IV → Bool
  | false, .int .. | true, .str _ => true
  | _, _ => false
def lookupI (h : IHeap) (ks : Bool) (zero m k : IV) (commaOk : Bool) : Option IV :=
  if !keyOk ks k then none else
  let es := match m with
    | .nilm => some []
    | .map b => match h.get b with
      | some (.map es _) => some es
      | _ => none
    | _ => none
  match es with
  | none => none
  | some es => match findI k es 0 with
    | none => none
    | some r =>
      let (v, ok) := match r with
        | some (_, v) => (v, true)
        | none => (zero, false)
      some (if commaOk then .tup [v, .bool ok] else v)

/-- A reading operation. -/
def opRead (o : IOp) (e : Env) (h : IHeap) : Option IV :=
  match o with
  | .load1 x => match x.ev e with
    | some v => Im.load1 h v
    | none => none
  | .loadN n x => match x.ev e with
    | some v => (Im.loadN h v n).map .agg
    | none => none
  | .lookup ks zero m k ok => match m.ev e, k.ev e with
    | some m, some k => lookupI h ks zero m k ok
    | _, _ => none
  | _ => none

/-- An operation that makes memory: the new block, and the value as a function of its number. -/
def opNew (o : IOp) (e : Env) : Option (IObj × (Nat → IV)) :=
  match o with
  | .new cells => some (.row cells, fun b => .ptr b 0)
  | .box x => match x.ev e with
    | some v => if v.cells.all (·.one) then some (.row v.cells, fun b => .ptr b 0) else none
    | none => none
  | .bslice zero len ps => match parts e ps with
    | some vs => match fillI zero vs with
      | some cells => if cells.all (·.one) then some (.row cells, fun b => .slice b 0 len len) else none
      | none => none
    | none => none
  | .mkmap => some (.map [] 0, fun b => .map b)
  | .mkslice zero bytes len cap => match len.ev e, cap.ev e with
    | some (.int _ l), some (.int _ c) =>
      if 0 ≤ l ∧ l ≤ c ∧ c * bytes ≤ 2 ^ 45 ∧ c ≤ 2 ^ 45 then some (.row (List.replicate c.toNat zero).flatten, fun b => .slice b 0 l.toNat c.toNat) else none
    | _, _ => none
  | _ => none

def putI (h : IHeap) (ks : Bool) (b : Nat) (k v : IV) : Option IHeap :=
  if !keyOk ks k then none else
  match h.get b with
  | some (.map es clock) => match findI k es 0 with
    | some (some (i, _)) => some (h.set b (.map (es.modify i fun x => { x with key := k, val := v }) clock))
    | some none => some (h.set b (.map (es ++ [⟨k, v, clock⟩]) (clock + 1)))
    | none => none
  | _ => none

/-- A called value. -/
def callee (f : IV) (args : List IV) : Option (FuncId × List IV) :=
  match f with
  | .func (.func f) first captured => some (f, first ++ args ++ captured)
  | _ => none

/-- An acting operation. -/
def opAct (O : Orc) (o : IOp) (e : Env) : M IV := fun h =>
  match o with
  | .store n a x => match a.ev e, x.ev e with
    | some a, some v => if v.cells.length = n then (match storeN h a v.cells with
        | some h' => .ok .undef h'
        | none => .fail) else .fail
    | _, _ => .fail
  | .mapput ks m k v => match m.ev e, k.ev e, v.ev e with
    | some (.map b), some k, some v => match putI h ks b k v with
      | some h' => .ok .undef h'
      | none => .fail
    | _, _, _ => .fail
  | .mapentry ks zero m k => match m.ev e, k.ev e with
    | some (.map b), some k => if !keyOk ks k then .fail else match h.get b with
      | some (.map es clock) => match findI k es 0 with
        | some (some (i, v)) => match es[i]? with
          | some x => .ok (.tup [v, .int .i64 x.born]) (h.set b (.map (es.modify i fun x => { x with key := k }) clock))
          | none => .fail
        | some none => .ok (.tup [zero, .int .i64 clock]) (h.set b (.map (es ++ [⟨k, zero, clock⟩]) (clock + 1)))
        | none => .fail
      | _ => .fail
    | _, _ => .fail
  | .entrystore m s v => match m.ev e, s.ev e, v.ev e with
    | some (.map b), some (.int _ s), some v => match h.get b with
      | some (.map es clock) => match es.findIdx? (fun x => (x.born : Int) == s) with
        | some i => .ok .undef (h.set b (.map (es.modify i fun x => { x with val := v }) clock))
        | none => .fail
      | _ => .fail
    | _, _, _ => .fail
  | .append sz bytes s x => match s.ev e, x.ev e with
    | some s, some x => appendI sz bytes s x h
    | _, _ => .fail
  | .strbytes x => match x.ev e with
    | some (.str s) => .ok (.cslice (s.data.toList.map fun b => .int .u8 b.toNat) s.size) h
    | _ => .fail
  | .call f args => match f.ev e, evs e args with
    | some f, some args => match callee f args with
      | some (f, args) => O f args h
      | none => .fail
    | _, _ => .fail
  | .panic x => match x.ev e with
    | some (.iface t v) => .panic (.iface t v) h
    | _ => .fail
  | _ => .fail

def opI (O : Orc) (o : IOp) (e : Env) : M IV := fun h =>
  match o.cls with
  | .pure => match opPure o e with
    | some v => .ok v h
    | none => .fail
  | .read => match opRead o e h with
    | some v => .ok v h
    | none => .fail
  | .new => match opNew o e with
    | some (b, mk) => .ok (mk h.n) (h.push b)
    | none => .fail
  | .act => opAct O o e h

/-! ### Code -/
structure IOper where
  dst : Option Nat
  op : IOp
  guard : Option (Nat × Bool)   -- the temporary that is asked
  deriving Inhabited

/-- Is an operation done? none: not known. -/
def wantedI (g : Option (Nat × Bool)) (e : Env) : Option Bool :=
  match g with
  | none => some true
  | some (t, want) => match e.get t with
    | some (.bool b) => some (b == want)
    | some (.tup []) => some false
    | _ => none
def Env.puto (e : Env) (d : Option Nat) (v : IV) : Env :=
  match d with
  | some d => e.put d v
  | none => e

/-! ### Equality of values -/
mutual
def IV.beq : IV → IV → Bool
  | .bool a, .bool b => a == b
  | .int k a, .int k' b => k == k' && a == b
  | .str a, .str b => a.data.toList == b.data.toList
  | .nilp, .nilp | .nils, .nils | .nilm, .nilm | .nilf, .nilf | .nili, .nili => true
  | .ptr b o, .ptr b' o' => b == b' && o == o'
  | .cptr a, .cptr b => IV.beqs a b
  | .slice b o l c, .slice b' o' l' c' => b == b' && o == o' && l == l' && c == c'
  | .aslice b o l c, .aslice b' o' l' c' => b == b' && o == o' && l == l' && c == c'
  | .cslice a n, .cslice b m => IV.beqs a b && n == m
  | .map a, .map b => a == b
  | .func f a c, .func g b d => f == g && IV.beqs a b && IV.beqs c d
  | .iface t v, .iface u w => t == u && IV.beq v w
  | .agg a, .agg b => IV.beqs a b
  | .tup a, .tup b => IV.beqs a b
  | _, _ => false
def IV.beqs : List IV → List IV → Bool
  | [], [] => true
  | a :: as, b :: bs => IV.beq a b && IV.beqs as bs
  | _, _ => false
end

/-- An operation of a region that draws its order: its number in the region; how many acting operations may be done ahead of it at most. -/
structure DOper where
  idx : Nat
  hi : Nat
  o : IOper
  deriving Inhabited

/-- What has been read must read so behind an acting operation that may come first. -/
def stillI (e : Env) (h : IHeap) (k : Nat) : List (DOper × IV) → Bool
  | [] => true
  | (d, v) :: ps => (d.hi < k || (match opRead d.o.op e h with
      | some u => IV.beq u v
      | none => false)) && stillI e h k ps

/-- A region that draws its order, in one order: whatever can be done without acting comes first. k: how many acting ones are done. -/
def drawI (O : Orc) : List DOper → Nat → List (DOper × IV) → Env → M Env
  | [], _, _, e => fun h => .ok e h
  | d :: ds, k, ps, e => fun h =>
    match wantedI d.o.guard e with
    | some false => drawI O ds (if d.o.op.cls = .act then k + 1 else k) ps (e.puto d.o.dst .undef) h
    | some true => match d.o.op.cls with
      | .pure => match opPure d.o.op e with
        | some v => drawI O ds k ps (e.puto d.o.dst v) h
        | none => .fail
      | .read => match opRead d.o.op e h with
        | some v => drawI O ds k (if k < d.hi then (d, v) :: ps else ps) (e.puto d.o.dst v) h
        | none => .fail
      | .new => match opNew d.o.op e with
        | some (b, mk) => drawI O ds k ps (e.puto d.o.dst (mk h.n)) (h.push b)
        | none => .fail
      | .act => match opAct O d.o.op e h with
        | .ok v h' => if stillI e h' (k + 1) ps then drawI O ds (k + 1) ps (e.puto d.o.dst v) h' else .fail
        | .panic v h' => .panic v h'
        | .fail => .fail
    | none => .fail

inductive IExit where
  | normal
  | exit (id : Nat)
  | ret
  deriving DecidableEq, Inhabited

inductive IC where
  | skip
  | reg (ops : List IOper)
  | draw (ds : List DOper)
  | seq (a b : IC)
  | cond (c : IArg) (a b : IC)
  | block (id : Nat) (a : IC)
  | loop (a : IC)
  | scope (a : IC)
  | exit (id : Nat)
  | ret
  deriving Inhabited

/-- What code comes to. -/
inductive CRes where
  | ok (x : IExit) (e : Env) (h : IHeap)
  | panic (v : IV) (e : Env) (h : IHeap)
  | fail

def CRes.bind (r : CRes) (f : IExit → Env → IHeap → CRes) : CRes :=
  match r with
  | .ok x e h => f x e h
  | .panic v e h => .panic v e h
  | .fail => .fail

/-- The place in which the deferred call is kept. -/
def DK : Nat := 1000000

/-- An environment without what a region sets. -/
def Env.less (e : Env) : List DOper → Env
  | [] => e
  | d :: ds => match d.o.dst with
    | some t => Env.less (e.filter fun p => p.1 != t) ds
    | none => Env.less e ds

def loopI (body : Env → IHeap → CRes) : Nat → Env → IHeap → CRes
  | 0, _, _ => .fail
  | n + 1, e, h => (body e h).bind fun x e h => match x with
    | .normal => loopI body n e h
    | x => .ok x e h

def ix (O : Orc) (fuel : Nat) : IC → Env → IHeap → CRes
  | .skip, e, h => .ok .normal e h
  | .reg ops, e, h => regI O ops e h
  | .draw ds, e, h => match drawI O ds 0 [] e h with
    | .ok e h => .ok .normal e h
    | .panic v h => .panic v (e.less ds) h
    | .fail => .fail
  | .seq a b, e, h => (ix O fuel a e h).bind fun x e h => match x with
    | .normal => ix O fuel b e h
    | x => .ok x e h
  | .cond c a b, e, h => match c.ev e with
    | some (.bool true) => ix O fuel a e h
    | some (.bool false) => ix O fuel b e h
    | _ => .fail
  | .block id a, e, h => (ix O fuel a e h).bind fun x e h => if x = .exit id then .ok .normal e h else .ok x e h
  | .loop a, e, h => loopI (ix O fuel a) fuel e h
  | .scope a, e, h => ix O fuel a e h
  | .exit id, e, h => .ok (.exit id) e h
  | .ret, e, h => .ok .ret e h
where
  regI (O : Orc) : List IOper → Env → IHeap → CRes
    | [], e, h => .ok .normal e h
    | o :: os, e, h =>
      match wantedI o.guard e with
      | some true => match o.op with
        | .deferc x => match x.ev e, e.get DK with
          | some (.func (.func f) [] caps), none => if o.dst.isNone then regI O os (e.put DK (.func (.func f) [] caps)) h else .fail
          | _, _ => .fail
        | op => match opI O op e h with
          | .ok v h' => regI O os (e.puto o.dst v) h'
          | .panic v h' => .panic v e h'
          | .fail => .fail
      | some false => regI O os (e.puto o.dst .undef) h
      | none => .fail

inductive IResult where
  | tmp (t : Nat)
  | cell1 (t : Nat)
  | cellN (t : Nat) (n : Nat)
  deriving Inhabited

structure IFunc where
  nparams : Nat
  results : List IResult
  recT : Option Nat     -- a deferred function: where its first operation lays what it recovers
  body : IC
  deriving Inhabited

def resultI (e : Env) (h : IHeap) : List IResult → Option (List IV)
  | [] => some []
  | r :: rs =>
    let v := match r with
      | .tmp t => e.get t
      | .cell1 t => match e.get t with
        | some p => load1 h p
        | none => none
      | .cellN t n => match e.get t with
        | some p => (loadN h p n).map .agg
        | none => none
    match v, resultI e h rs with
    | some v, some vs => some (v :: vs)
    | _, _ => none

def one? : List IV → IV
  | [v] => v
  | vs => .tup vs

def startI : Nat → List IV → Env
  | _, [] => []
  | i, v :: vs => (i, v) :: startI (i + 1) vs

/-- What the results are, behind the body. -/
def doneI (F : IFunc) (e : Env) (h : IHeap) : Res IV :=
  match resultI e h F.results with
  | some vs => .ok (one? vs) h
  | none => .fail

/-- A deferred function, called while v is to be recovered (nil: nothing is): what memory is behind it. -/
def deferredI (O : Orc) (fuel : Nat) (G : IFunc) (caps : List IV) (v : IV) (h : IHeap) : Option IHeap :=
  match G.recT with
  | none => none
  | some t =>
    if caps.length = G.nparams && G.results.isEmpty then
    match ix O fuel G.body ((startI 0 caps).put t v) h with
    | .ok .normal e h' | .ok .ret e h' => match e.get DK with
      | none => some h'
      | some _ => none
    | _ => none
    else none

def bodyI (T : FuncId → Option IFunc) (O : Orc) (fuel : Nat) (F : IFunc) (args : List IV) : M IV := fun h =>
  if args.length ≠ F.nparams || F.recT.isSome then .fail else
  match ix O fuel F.body (startI 0 args) h with
  | .ok (.exit _) _ _ => .fail
  | .ok _ e h' => match e.get DK with
    | none => doneI F e h'
    | some (.func (.func g) [] caps) => match T g with
      | some G => match deferredI O fuel G caps .nili h' with
        | some h'' => doneI F e h''
        | none => .fail
      | none => .fail
    | some _ => .fail
  | .panic v e h' => match e.get DK with
    | none => .panic v h'
    | some (.func (.func g) [] caps) => match T g with
      | some G => match deferredI O fuel G caps v h' with
        | some h'' => doneI F e h''
        | none => .fail
      | none => .fail
    | some _ => .fail
  | .fail => .fail

/-- Calls, nested at most n deep; B: what is known of functions by other ways. -/
def icall (T : FuncId → Option IFunc) (B : FuncId → Option (List IV → M IV)) (fuel : Nat) : Nat → Orc
  | 0 => fun _ _ _ => .fail
  | n + 1 => fun f args h => match B f with
    | some G => G args h
    | none => match T f with
      | some F => bodyI T (icall T B fuel n) fuel F args h
      | none => .fail
end Go.Proofs.YtadeojgiiapljaaGreat.Im
namespace Go.Proofs.YtadeojgiiapljaaGreat.Im
open Go

/-- Where a block lies: its block in memory, from which cell on, how many cells there are its own. -/
structure Pl where
  blk : Nat
  off : Nat
  lim : Nat
abbrev Phi := Nat → Option Pl
abbrev Con := Nat → Option (Array Value)

inductive VRel (φ : Phi) (C : Con) : IV → Value → Prop
  | bool (b : Bool) : VRel φ C (.bool b) (.bool b)
  | int (k : IntKind) (n : Int) : VRel φ C (.int k n) (.int k n)
  | str (s : ByteArray) : VRel φ C (.str s) (.string s)
  | nilp : VRel φ C .nilp (.pointer none)
  | ptr {b off : Nat} {p : Pl} (h : φ b = some p) : VRel φ C (.ptr b off) (.pointer (some ⟨p.blk, p.off + off, none⟩))
  | cptr {cells : List IV} {blk o : Nat} {cs : Array Value} (h : C blk = some cs) (hl : o + cells.length ≤ cs.size)
      (hc : ∀ i (hi : i < cells.length), VRel φ C cells[i] (cs.getD (o + i) undef)) : VRel φ C (.cptr cells) (.pointer (some ⟨blk, o, none⟩))
  | nils : VRel φ C .nils (.slice none 0 0)
  | slice {b off len cap : Nat} {p : Pl} (h : φ b = some p) : VRel φ C (.slice b off len cap) (.slice (some ⟨p.blk, p.off + off, none⟩) len cap)
  | aslice {b off len sz cap : Nat} {p : Pl} (h : φ b = some p) (hl : len ≤ cap) (hr : off + cap * sz ≤ p.lim) :
      VRel φ C (.aslice b off len sz) (.slice (some ⟨p.blk, p.off + off, none⟩) len cap)
  | cslice {cells : List IV} {len cap blk o : Nat} {cs : Array Value} (h : C blk = some cs) (hl : o + cells.length ≤ cs.size) (hk : len ≤ cap)
      (hc : ∀ i (hi : i < cells.length), VRel φ C cells[i] (cs.getD (o + i) undef)) : VRel φ C (.cslice cells len) (.slice (some ⟨blk, o, none⟩) len cap)
  | cempty {a : Addr} : VRel φ C (.cslice [] 0) (.slice (some a) 0 0)
  | nilm : VRel φ C .nilm (.map none)
  | map {b : Nat} {p : Pl} (h : φ b = some p) : VRel φ C (.map b) (.map (some p.blk))
  | func {fn : Fn} {a c : List IV} {a' c' : Array Value} (ha : a.length = a'.size) (hc : c.length = c'.size)
      (hra : ∀ i (hi : i < a.length), VRel φ C a[i] (a'.getD i undef)) (hrc : ∀ i (hi : i < c.length), VRel φ C c[i] (c'.getD i undef)) :
      VRel φ C (.func fn a c) (.func fn a' c')
  | nilf : VRel φ C .nilf .nilFunc
  | iface {t : TypeId} {v : IV} {x : Value} (h : VRel φ C v x) : VRel φ C (.iface t v) (.iface t x)
  | nili : VRel φ C .nili .nilIface
  | agg {cs : List IV} {cs' : Array Value} (hl : cs.length = cs'.size) (hr : ∀ i (hi : i < cs.length), VRel φ C cs[i] (cs'.getD i undef)) : VRel φ C (.agg cs) (.agg cs')
  | tup {cs : List IV} {cs' : Array Value} (hl : cs.length = cs'.size) (hr : ∀ i (hi : i < cs.length), VRel φ C cs[i] (cs'.getD i undef)) : VRel φ C (.tup cs) (.tuple cs')

/-- Lists and arrays, one by one. -/
def VRels (φ : Phi) (C : Con) (cs : List IV) (cs' : Array Value) : Prop := cs.length = cs'.size ∧ ∀ i (hi : i < cs.length), VRel φ C cs[i] (cs'.getD i undef)

section
variable {φ φ' : Phi} {C C' : Con}

theorem VRel.mono (hφ : ∀ b p, φ b = some p → φ' b = some p) (hC : ∀ b p, C b = some p → C' b = some p) {v : IV} {x : Value} (h : VRel φ C v x) : VRel φ' C' v x := by
  induction h with
  | bool b => exact .bool b
  | int k n => exact .int k n
  | str s => exact .str s
  | nilp => exact .nilp
  | ptr h => exact .ptr (hφ _ _ h)
  | cptr h hl _ ih => exact .cptr (hC _ _ h) hl ih
  | nils => exact .nils
  | slice h => exact .slice (hφ _ _ h)
  | aslice h hl hr => exact .aslice (hφ _ _ h) hl hr
  | cslice h hl hk _ ih => exact .cslice (hC _ _ h) hl hk ih
  | cempty => exact .cempty
  | nilm => exact .nilm
  | map h => exact .map (hφ _ _ h)
  | func ha hc _ _ i1 i2 => exact .func ha hc i1 i2
  | nilf => exact .nilf
  | iface _ ih => exact .iface ih
  | nili => exact .nili
  | agg hl _ ih => exact .agg hl ih
  | tup hl _ ih => exact .tup hl ih

theorem VRels.mono (hφ : ∀ b p, φ b = some p → φ' b = some p) (hC : ∀ b p, C b = some p → C' b = some p) {v : List IV} {x : Array Value} (h : VRels φ C v x) : VRels φ' C' v x :=
  ⟨h.1, fun i hi => (h.2 i hi).mono hφ hC⟩
theorem VRels.nil : VRels φ C [] #[] := ⟨rfl, fun _ hi => absurd hi (by simp)⟩
theorem VRels.getD {cs : List IV} {cs' : Array Value} (h : VRels φ C cs cs') {i : Nat} {v : IV} (hv : cs[i]? = some v) : ∃ x, cs'[i]? = some x ∧ VRel φ C v x := by
  obtain ⟨hi, rfl⟩ := List.getElem?_eq_some_iff.1 hv
  have hi' : i < cs'.size := h.1 ▸ hi
  refine ⟨cs'[i], by simp [hi'], ?_⟩
  have := h.2 i hi
  simpa [Array.getD, hi'] using this
theorem VRels.of_get {cs : List IV} {cs' : Array Value} (hl : cs.length = cs'.size) (h : ∀ (i : Nat) (v : IV) (x : Value), cs[i]? = some v → cs'[i]? = some x → VRel φ C v x) : VRels φ C cs cs' := by
  refine ⟨hl, fun i hi => ?_⟩
  have hi' : i < cs'.size := hl ▸ hi
  have := h i cs[i] cs'[i] (by simp [hi]) (by simp [hi'])
  simpa [Array.getD, hi'] using this
theorem VRels.get {cs : List IV} {cs' : Array Value} (h : VRels φ C cs cs') {i : Nat} {v : IV} {x : Value} (hv : cs[i]? = some v) (hx : cs'[i]? = some x) : VRel φ C v x := by
  obtain ⟨y, hy, hr⟩ := h.getD hv
  rw [hx] at hy; cases hy; exact hr
theorem VRels.cons {v : IV} {x : Value} {vs : List IV} {xs : List Value} (h : VRel φ C v x) (hs : VRels φ C vs xs.toArray) : VRels φ C (v :: vs) (x :: xs).toArray := by
  refine .of_get (by have := hs.1; simp at this ⊢; exact this) fun i u y hu hy => ?_
  cases i with
  | zero => simp at hu hy; subst hu; subst hy; exact h
  | succ i => simp at hu hy; exact hs.get hu (by simpa using hy)
theorem VRels.append {a b : List IV} {a' b' : Array Value} (ha : VRels φ C a a') (hb : VRels φ C b b') : VRels φ C (a ++ b) (a' ++ b') := by
  refine .of_get (by simp [ha.1, hb.1]) fun i v x hv hx => ?_
  by_cases hi : i < a.length
  · rw [List.getElem?_append_left hi] at hv
    rw [Array.getElem?_append_left (ha.1 ▸ hi)] at hx
    exact ha.get hv hx
  · rw [List.getElem?_append_right (by omega)] at hv
    rw [Array.getElem?_append_right (by rw [← ha.1]; omega), ← ha.1] at hx
    exact hb.get hv hx
theorem VRels.take {a : List IV} {a' : Array Value} (ha : VRels φ C a a') (o n : Nat) : VRels φ C ((a.drop o).take n) (a'.extract o (o + n)) := by
  refine .of_get (by simp [ha.1]; omega) fun i v x hv hx => ?_
  have h1 : i < n := by
    have := (List.getElem?_eq_some_iff.1 hv).1
    simp at this; omega
  rw [List.getElem?_take_of_lt h1, List.getElem?_drop] at hv
  rw [Array.getElem?_extract] at hx
  split at hx
  · exact ha.get hv (by simpa using hx)
  · simp at hx
theorem VRel.cells {v : IV} {x : Value} (h : VRel φ C v x) : VRels φ C v.cells x.cells := by
  cases h with
  | agg hl hr => exact ⟨hl, hr⟩
  | _ =>
    refine ⟨by simp [IV.cells, Value.cells], fun i hi => ?_⟩
    simp [IV.cells] at hi
    subst hi
    simp [IV.cells, Value.cells, Array.getD]
    first
      | exact .bool _ | exact .int _ _ | exact .str _ | exact .nilp | (exact .ptr ‹_›) | (exact .cptr ‹_› ‹_› ‹_›) | exact .nils | exact .slice ‹_› | exact .aslice ‹_› ‹_› ‹_›
      | exact .cslice ‹_› ‹_› ‹_› ‹_› | exact .cempty | exact .nilm | exact .map ‹_› | (exact .func ‹_› ‹_› ‹_› ‹_›) | exact .nilf | exact .iface ‹_› | exact .nili | exact .tup ‹_› ‹_›
theorem VRel.one {v : IV} {x : Value} (h : VRel φ C v x) (ho : v.one = true) : x.cells = #[x] ∧ (∀ c, x ≠ .agg c) ∧ (∀ c, x ≠ .tuple c) := by
  cases h <;> simp [IV.one] at ho <;> simp [Value.cells]
theorem VRel.undef : VRel φ C .undef Go.undef := .tup rfl fun _ hi => absurd hi (by simp)
end

/-! ### The heap -/
section
variable {h : IHeap} {b b' : Nat} {o : IObj}
theorem get_lt (hg : h.get b = some o) : b < h.n := by
  unfold IHeap.get at hg; split at hg
  · assumption
  · cases hg
@[simp] theorem push_n : (h.push o).n = h.n + 1 := rfl
@[simp] theorem set_n : (h.set b o).n = h.n := rfl
theorem get_push_new : (h.push o).get h.n = some o := by simp [IHeap.get, IHeap.push]
theorem get_push_old (hb : b < h.n) : (h.push o).get b = h.get b := by
  unfold IHeap.get IHeap.push
  simp only [hb, if_true]
  rw [if_pos (by omega)]
  have : h.n + 1 - 1 - b = (h.n - 1 - b) + 1 := by omega
  rw [this]; simp
theorem get_push : (h.push o).get b = if b = h.n then some o else h.get b := by
  by_cases hb : b = h.n
  · rw [if_pos hb, hb, get_push_new]
  · rw [if_neg hb]
    by_cases hlt : b < h.n
    · exact get_push_old hlt
    · unfold IHeap.get; rw [if_neg hlt, if_neg]; simp [IHeap.push]; omega
theorem get_set_same {x : IObj} (hg : h.get b = some x) : (h.set b o).get b = some o := by
  have hb := get_lt hg
  unfold IHeap.get at hg ⊢
  unfold IHeap.set
  simp only [hb, if_true] at hg ⊢
  rw [List.getElem?_set_self]
  exact (List.getElem?_eq_some_iff.1 hg).1
theorem get_set_ne (hne : b' ≠ b) : (h.set b o).get b' = h.get b' := by
  unfold IHeap.get IHeap.set
  simp only
  split
  · split
    · rw [List.getElem?_set_ne (by omega)]
    · rfl
  · rfl
theorem get_set {x : IObj} (hg : h.get b = some x) : (h.set b o).get b' = if b' = b then some o else h.get b' := by
  by_cases hb : b' = b
  · rw [if_pos hb, hb]; exact get_set_same hg
  · rw [if_neg hb]; exact get_set_ne hb
end

def Live (h : IHeap) (b : Nat) : Prop := ∃ o, h.get b = some o ∧ o ≠ .dead

structure ERel (φ : Phi) (C : Con) (x : IEntry) (y : MapEntry) : Prop where
  key : VRel φ C x.key y.key
  val : VRel φ C x.val y.val
  born : x.born = y.born
def ERels (φ : Phi) (C : Con) (xs : List IEntry) (ys : Array MapEntry) : Prop := xs.length = ys.size ∧ ∀ (i : Nat) (x : IEntry) (y : MapEntry), xs[i]? = some x → ys[i]? = some y → ERel φ C x y

structure Rel (φ : Phi) (C : Con) (h : IHeap) (w : World) : Prop where
  dom : ∀ b p, φ b = some p → b < h.n ∧ p.blk < w.heap.size
  live : ∀ b p, φ b = some p → Live h b → C p.blk = none
  inj : ∀ b b' p p', φ b = some p → φ b' = some p' → p.blk = p'.blk → Live h b → Live h b' → b = b'
  row : ∀ b p cells, φ b = some p → h.get b = some (.row cells) → ∃ cs E, w.heap[p.blk]? = some (.cells cs E (0, 0)) ∧ p.off + p.lim ≤ cs.size ∧ cells.length ≤ p.lim ∧
    ∀ (i : Nat) (v : IV), cells[i]? = some v → ∃ x, cs[p.off + i]? = some x ∧ VRel φ C v x
  mp : ∀ b p es clock, φ b = some p → h.get b = some (.map es clock) → ∃ es', w.heap[p.blk]? = some (.map es' clock) ∧ ERels φ C es es'
  con : ∀ blk cs, C blk = some cs → ∃ E fz, w.heap[blk]? = some (.cells cs E fz)

structure Ext (φ : Phi) (C : Con) (h : IHeap) (w : World) (φ' : Phi) (C' : Con) (h' : IHeap) (w' : World) : Prop where
  phi : ∀ b p, φ b = some p → φ' b = some p
  con : ∀ b p, C b = some p → C' b = some p
  os : w'.os = w.os
  tape : w'.tape = w.tape
  output : w'.output = w.output
  size : w.heap.size ≤ w'.heap.size
  keep : ∀ blk, blk < w.heap.size → (∀ b p, φ b = some p → Live h b → p.blk ≠ blk) → w'.heap[blk]? = w.heap[blk]?
  own : ∀ b p, φ' b = some p → Live h' b → p.blk < w.heap.size → ∃ b₀ p₀, φ b₀ = some p₀ ∧ Live h b₀ ∧ p₀.blk = p.blk
  n : h.n ≤ h'.n
  out : ∀ b, b < h.n → φ b = none → φ' b = none ∧ h'.get b = h.get b

section
variable {φ φ₁ φ₂ : Phi} {C C₁ C₂ : Con} {h h₁ h₂ : IHeap} {w w₁ w₂ : World}
theorem Ext.refl (φ : Phi) (C : Con) (h : IHeap) (w : World) : Ext φ C h w φ C h w :=
  ⟨fun _ _ x => x, fun _ _ x => x, rfl, rfl, rfl, Nat.le_refl _, fun _ _ _ => rfl, fun b p hb hl _ => ⟨b, p, hb, hl, rfl⟩, Nat.le_refl _, fun _ _ hn => ⟨hn, rfl⟩⟩
theorem Ext.trans (a : Ext φ C h w φ₁ C₁ h₁ w₁) (b : Ext φ₁ C₁ h₁ w₁ φ₂ C₂ h₂ w₂) : Ext φ C h w φ₂ C₂ h₂ w₂ where
  phi := fun x p hx => b.phi _ _ (a.phi _ _ hx)
  con := fun x p hx => b.con _ _ (a.con _ _ hx)
  os := b.os.trans a.os
  tape := b.tape.trans a.tape
  output := b.output.trans a.output
  size := Nat.le_trans a.size b.size
  keep := fun blk hlt hno => by
    rw [b.keep blk (Nat.lt_of_lt_of_le hlt a.size) ?_, a.keep blk hlt hno]
    intro c p hc hl he
    obtain ⟨b₀, p₀, h0, l0, e0⟩ := a.own c p hc hl (he ▸ hlt)
    exact hno b₀ p₀ h0 l0 (e0.trans he)
  own := fun c p hc hl hlt => by
    obtain ⟨b₀, p₀, h0, l0, e0⟩ := b.own c p hc hl (Nat.lt_of_lt_of_le hlt a.size)
    obtain ⟨b₁, p₁, h1, l1, e1⟩ := a.own b₀ p₀ h0 l0 (e0 ▸ hlt)
    exact ⟨b₁, p₁, h1, l1, e1.trans e0⟩
  n := Nat.le_trans a.n b.n
  out := fun x hx hn => by
    obtain ⟨h1, h2⟩ := a.out x hx hn
    obtain ⟨h3, h4⟩ := b.out x (Nat.lt_of_lt_of_le hx a.n) h1
    exact ⟨h3, h4.trans h2⟩
theorem Ext.vrel (a : Ext φ C h w φ₁ C₁ h₁ w₁) {v : IV} {x : Value} (hv : VRel φ C v x) : VRel φ₁ C₁ v x := hv.mono a.phi a.con
theorem Ext.vrels (a : Ext φ C h w φ₁ C₁ h₁ w₁) {v : List IV} {x : Array Value} (hv : VRels φ C v x) : VRels φ₁ C₁ v x := hv.mono a.phi a.con
/-- The count of draws is no matter. -/
theorem Rel.drew (r : Rel φ C h w) (n : Nat) : Rel φ C h { w with drawn := n } := ⟨r.dom, r.live, r.inj, r.row, r.mp, r.con⟩
theorem Ext.drew (φ : Phi) (C : Con) (h : IHeap) (w : World) (n : Nat) : Ext φ C h w φ C h { w with drawn := n } :=
  ⟨fun _ _ x => x, fun _ _ x => x, rfl, rfl, rfl, Nat.le_refl _, fun _ _ _ => rfl, fun b p hb hl _ => ⟨b, p, hb, hl, rfl⟩, Nat.le_refl _, fun _ _ hn => ⟨hn, rfl⟩⟩

/-! ### Loading -/
theorem Rel.load1 (r : Rel φ C h w) {v u : IV} {x : Value} (hv : VRel φ C v x) (hl : Im.load1 h v = some u) : ∃ a y, x = .pointer (some a) ∧ a.spot = none ∧ w.cell? a = some y ∧ VRel φ C u y := by
  cases hv <;> simp [Im.load1] at hl
  case ptr b off p hp =>
    split at hl
    · rename_i cells hg
      obtain ⟨cs, E, hw, _, _, hc⟩ := r.row b p cells hp hg
      obtain ⟨y, hy, hr⟩ := hc off u hl
      exact ⟨_, y, rfl, rfl, by simp [World.cell?, hw, hy], hr⟩
    · cases hl
  case cptr cells blk o cs hC hlen hc =>
    obtain ⟨E, fz, hw⟩ := r.con blk cs hC
    obtain ⟨hi, rfl⟩ := List.getElem?_eq_some_iff.1 hl
    refine ⟨_, cs.getD o undef, rfl, rfl, ?_, by simpa using hc 0 hi⟩
    have : o < cs.size := by omega
    simp [World.cell?, hw, Array.getD, this]
theorem cells_at {w : World} {blk o : Nat} {cs : Array Value} {E : TypeId} {fz : Nat × Nat} (hw : w.heap[blk]? = some (.cells cs E fz)) (i : Nat) (hi : o + i < cs.size) :
    w.cell? (Addr.add ⟨blk, o, none⟩ i) = some (cs[o + i]'hi) := by
  unfold Addr.add
  split
  · rename_i h0; subst h0; have : o < cs.size := by omega
    simp [World.cell?, hw, this]
  · simp [World.cell?, hw, hi]
end
end Go.Proofs.YtadeojgiiapljaaGreat.Im
namespace Go.Proofs.YtadeojgiiapljaaGreat.Im
open Go
section
variable {P : Program} {φ : Phi} {C : Con} {h h' : IHeap} {w : World}

theorem add_at (blk o i : Nat) : Addr.add ⟨blk, o, none⟩ i = ⟨blk, o + i, none⟩ := by
  unfold Addr.add; split <;> simp_all

theorem drop_take_get {α : Type} (l : List α) (o n j : Nat) (hj : j < n) : ((l.drop o).take n)[j]? = l[o + j]? := by
  rw [List.getElem?_take_of_lt hj, List.getElem?_drop]

theorem Rel.loadN (r : Rel φ C h w) {v : IV} {x : Value} {n : Nat} {us : List IV} (hv : VRel φ C v x) (hl : Im.loadN h v n = some us) :
    ∃ a xs, x = .pointer (some a) ∧ us.length = n ∧ VRels φ C us xs ∧ (loadCells a n).run P w = .ok xs w := by
  cases hv <;> simp [Im.loadN] at hl
  case ptr b off p hp =>
    split at hl
    · rename_i cells hg
      split at hl
      · rename_i hle
        cases hl
        obtain ⟨cs, E, hw, hlim, hcl, hc⟩ := r.row b p cells hp hg
        have hlen : ((cells.drop off).take n).length = n := by simp; omega
        refine ⟨_, (cs.extract (p.off + off) (p.off + off + n)), rfl, hlen, ?_, ?_⟩
        · refine .of_get (by simp; omega) fun i u y hu hy => ?_
          have hi : i < n := by have := (List.getElem?_eq_some_iff.1 hu).1; simp at this; omega
          rw [drop_take_get _ _ _ _ hi] at hu
          obtain ⟨z, hz, hr⟩ := hc _ _ hu
          rw [Array.getElem?_extract] at hy
          split at hy
          · rw [show p.off + off + i = p.off + (off + i) by omega] at hy
            rw [hz] at hy; cases hy; exact hr
          · cases hy
        · have := run_loadCells_list (P := P) w ⟨p.blk, p.off + off, none⟩ (cs.extract (p.off + off) (p.off + off + n)).toList (fun j v hj => ?_)
          · rw [show (cs.extract (p.off + off) (p.off + off + n)).toList.length = n by simp; omega] at this
            rw [this]
          · rw [add_at]
            have hj' : (cs.extract (p.off + off) (p.off + off + n))[j]? = some v := by rw [← Array.getElem?_toList]; exact hj
            rw [Array.getElem?_extract] at hj'
            split at hj'
            · simp [World.cell?, hw, hj']
            · cases hj'
      · cases hl
    · cases hl
  case cptr cells blk o cs hC hlen hc =>
    obtain ⟨hle, rfl⟩ := hl
    obtain ⟨E, fz, hw⟩ := r.con blk cs hC
    refine ⟨_, (cs.extract o (o + n)), rfl, by simp; omega, ?_, ?_⟩
    · refine .of_get (by simp; omega) fun i u y hu hy => ?_
      have hi : i < n := by have := (List.getElem?_eq_some_iff.1 hu).1; simp at this; omega
      rw [List.getElem?_take_of_lt hi] at hu
      obtain ⟨hi', rfl⟩ := List.getElem?_eq_some_iff.1 hu
      rw [Array.getElem?_extract] at hy
      split at hy
      · have := hc i hi'
        simp [Array.getD] at this
        obtain ⟨hz, rfl⟩ := Array.getElem?_eq_some_iff.1 hy
        simpa [hz] using this
      · cases hy
    · have := run_loadCells_list (P := P) w ⟨blk, o, none⟩ (cs.extract o (o + n)).toList (fun j v hj => ?_)
      · rw [show (cs.extract o (o + n)).toList.length = n by simp; omega] at this
        rw [this]
      · rw [add_at]
        have hj' : (cs.extract o (o + n))[j]? = some v := by rw [← Array.getElem?_toList]; exact hj
        rw [Array.getElem?_extract] at hj'
        split at hj'
        · simp [World.cell?, hw, hj']
        · cases hj'

/-- A new block: of a row of which a beginning is told. -/
def Phi.put (φ : Phi) (b : Nat) (p : Pl) : Phi := fun x => if x = b then some p else φ x
theorem Phi.put_same (φ : Phi) (b : Nat) (p : Pl) : φ.put b p b = some p := by simp [Phi.put]
theorem Phi.put_ne {φ : Phi} {b x : Nat} {p : Pl} (hne : x ≠ b) : φ.put b p x = φ x := by simp [Phi.put, hne]

theorem live_push_old {o : IObj} {b : Nat} (hb : b < h.n) : Live (h.push o) b ↔ Live h b := by unfold Live; rw [get_push_old hb]

theorem heap_push_old (w : World) (o : Obj) {k : Nat} (hk : k < w.heap.size) : (w.alloc o).heap[k]? = w.heap[k]? := by
  show (w.heap.push o)[k]? = _
  rw [Array.getElem?_push, if_neg (by omega)]
theorem heap_push_new (w : World) (o : Obj) : (w.alloc o).heap[w.heap.size]? = some o := by
  show (w.heap.push o)[w.heap.size]? = _
  simp

/-- The new number means nothing yet. -/
theorem Rel.fresh (r : Rel φ C h w) : φ h.n = none := by
  cases hx : φ h.n with
  | none => rfl
  | some p => exact absurd (r.dom _ _ hx).1 (Nat.lt_irrefl _)

/-- A block that stands for nothing in memory. -/
theorem Rel.pushNone (r : Rel φ C h w) (o : IObj) : Rel φ C (h.push o) w where
  dom := fun b p hb => ⟨Nat.lt_succ_of_lt (r.dom b p hb).1, (r.dom b p hb).2⟩
  live := fun b p hb hl => r.live b p hb ((live_push_old (r.dom b p hb).1).1 hl)
  inj := fun b b' p p' hb hb' he hl hl' => r.inj b b' p p' hb hb' he ((live_push_old (r.dom b p hb).1).1 hl) ((live_push_old (r.dom b' p' hb').1).1 hl')
  row := fun b p cells hb hg => r.row b p cells hb (by rwa [get_push_old (r.dom b p hb).1] at hg)
  mp := fun b p es c hb hg => r.mp b p es c hb (by rwa [get_push_old (r.dom b p hb).1] at hg)
  con := r.con
theorem Ext.pushNone (r : Rel φ C h w) (o : IObj) : Ext φ C h w φ C (h.push o) w where
  phi := fun _ _ x => x
  con := fun _ _ x => x
  os := rfl
  tape := rfl
  output := rfl
  size := Nat.le_refl _
  keep := fun _ _ _ => rfl
  own := fun b p hb hl _ => ⟨b, p, hb, (live_push_old (r.dom b p hb).1).1 hl, rfl⟩
  n := Nat.le_succ _
  out := fun b hb hn => ⟨hn, get_push_old hb⟩

/-- The new number stands for the new block. -/
theorem Rel.alloc (r : Rel φ C h w) (o : Obj) (io : IObj) (lim : Nat)
    (hrow : ∀ cells, io = .row cells → ∃ cs E, o = .cells cs E (0, 0) ∧ lim ≤ cs.size ∧ cells.length ≤ lim ∧ ∀ (i : Nat) (v : IV), cells[i]? = some v → ∃ x, cs[i]? = some x ∧ VRel φ C v x)
    (hmp : ∀ es clock, io = .map es clock → ∃ es', o = .map es' clock ∧ ERels φ C es es') :
    Rel (φ.put h.n ⟨w.heap.size, 0, lim⟩) C (h.push io) (w.alloc o) ∧ Ext φ C h w (φ.put h.n ⟨w.heap.size, 0, lim⟩) C (h.push io) (w.alloc o) := by
  have hf := r.fresh
  have hmono : ∀ b p, φ b = some p → φ.put h.n ⟨w.heap.size, 0, lim⟩ b = some p := fun b p hb => by
    rw [Phi.put_ne]; exact hb; rintro rfl; rw [hf] at hb; cases hb
  have hcase : ∀ b p, φ.put h.n ⟨w.heap.size, 0, lim⟩ b = some p → (b = h.n ∧ p = ⟨w.heap.size, 0, lim⟩) ∨ (b < h.n ∧ φ b = some p) := fun b p hb => by
    by_cases e : b = h.n
    · subst e; rw [Phi.put_same] at hb; cases hb; exact .inl ⟨rfl, rfl⟩
    · rw [Phi.put_ne e] at hb; exact .inr ⟨(r.dom b p hb).1, hb⟩
  have hvr : ∀ {v : IV} {x : Value}, VRel φ C v x → VRel (φ.put h.n ⟨w.heap.size, 0, lim⟩) C v x := fun hv => hv.mono hmono (fun _ _ x => x)
  refine ⟨⟨?_, ?_, ?_, ?_, ?_, ?_⟩, ⟨hmono, fun _ _ x => x, rfl, rfl, rfl, by simp, ?_, ?_, Nat.le_succ _, ?_⟩⟩
  · intro b p hb
    rcases hcase b p hb with ⟨rfl, rfl⟩ | ⟨hlt, hb⟩
    · simp
    · have := r.dom b p hb; simp; omega
  · intro b p hb hl
    rcases hcase b p hb with ⟨rfl, rfl⟩ | ⟨hlt, hb⟩
    · cases hC : C w.heap.size with
      | none => rfl
      | some cs => obtain ⟨E, fz, hw⟩ := r.con _ _ hC; simp at hw
    · exact r.live b p hb ((live_push_old hlt).1 hl)
  · intro b b' p p' hb hb' he hl hl'
    rcases hcase b p hb with ⟨rfl, rfl⟩ | ⟨hlt, hb⟩ <;> rcases hcase b' p' hb' with ⟨rfl, rfl⟩ | ⟨hlt', hb'⟩
    · rfl
    · have := (r.dom b' p' hb').2; simp at he; omega
    · have := (r.dom b p hb).2; simp at he; omega
    · exact r.inj b b' p p' hb hb' he ((live_push_old hlt).1 hl) ((live_push_old hlt').1 hl')
  · intro b p cells hb hg
    rcases hcase b p hb with ⟨rfl, rfl⟩ | ⟨hlt, hb⟩
    · rw [get_push_new] at hg
      cases hg
      obtain ⟨cs, E, rfl, hlim, hcl, hc⟩ := hrow cells rfl
      refine ⟨cs, E, heap_push_new _ _, by simpa using hlim, hcl, fun i v hi => ?_⟩
      obtain ⟨x, hx, hr⟩ := hc i v hi
      exact ⟨x, by simpa using hx, hvr hr⟩
    · rw [get_push_old hlt] at hg
      obtain ⟨cs, E, hw, hlim, hcl, hc⟩ := r.row b p cells hb hg
      refine ⟨cs, E, by rw [heap_push_old w o (r.dom b p hb).2]; exact hw, hlim, hcl, fun i v hi => ?_⟩
      obtain ⟨x, hx, hr⟩ := hc i v hi
      exact ⟨x, hx, hvr hr⟩
  · intro b p es clock hb hg
    rcases hcase b p hb with ⟨rfl, rfl⟩ | ⟨hlt, hb⟩
    · rw [get_push_new] at hg
      cases hg
      obtain ⟨es', rfl, hes⟩ := hmp es clock rfl
      exact ⟨es', heap_push_new _ _, hes.1, fun i x y hx hy => ⟨hvr (hes.2 i x y hx hy).key, hvr (hes.2 i x y hx hy).val, (hes.2 i x y hx hy).born⟩⟩
    · rw [get_push_old hlt] at hg
      obtain ⟨es', hw, hes⟩ := r.mp b p es clock hb hg
      exact ⟨es', by rw [heap_push_old w o (r.dom b p hb).2]; exact hw, hes.1, fun i x y hx hy => ⟨hvr (hes.2 i x y hx hy).key, hvr (hes.2 i x y hx hy).val, (hes.2 i x y hx hy).born⟩⟩
  · intro blk cs hC
    obtain ⟨E, fz, hw⟩ := r.con blk cs hC
    have hlt : blk < w.heap.size := (Array.getElem?_eq_some_iff.1 hw).1
    exact ⟨E, fz, by rw [heap_push_old w o hlt]; exact hw⟩
  · intro blk hlt _
    exact heap_push_old w o hlt
  · intro b p hb hl hlt
    rcases hcase b p hb with ⟨rfl, rfl⟩ | ⟨hb1, hb⟩
    · simp at hlt
    · exact ⟨b, p, hb, (live_push_old hb1).1 hl, rfl⟩
  · intro b hb hn
    exact ⟨by rw [Phi.put_ne (by omega)]; exact hn, get_push_old hb⟩

/-- What stands for a block of the heap is turned, in the heap and in memory. -/
theorem Rel.turn (r : Rel φ C h w) {b : Nat} {p : Pl} {x0 : IObj} (hb : φ b = some p) (hg : h.get b = some x0) (hx0 : x0 ≠ .dead) (io : IObj) (hio : io ≠ .dead) (o : Obj) (w' : World)
    (hos : w'.os = w.os) (htape : w'.tape = w.tape) (hout : w'.output = w.output) (hsize : w'.heap.size = w.heap.size)
    (hnew : w'.heap[p.blk]? = some o) (hold : ∀ k, k ≠ p.blk → w'.heap[k]? = w.heap[k]?)
    (hrow : ∀ cells, io = .row cells → ∃ cs E, o = .cells cs E (0, 0) ∧ p.off + p.lim ≤ cs.size ∧ cells.length ≤ p.lim ∧ ∀ (i : Nat) (v : IV), cells[i]? = some v → ∃ x, cs[p.off + i]? = some x ∧ VRel φ C v x)
    (hmp : ∀ es clock, io = .map es clock → ∃ es', o = .map es' clock ∧ ERels φ C es es') :
    Rel φ C (h.set b io) w' ∧ Ext φ C h w φ C (h.set b io) w' := by
  have hlb : Live h b := ⟨x0, hg, hx0⟩
  have hlive : ∀ b', Live (h.set b io) b' ↔ Live h b' := fun b' => by
    unfold Live
    rw [get_set hg]
    split
    · rename_i e; subst e
      exact ⟨fun _ => hlb, fun _ => ⟨io, rfl, hio⟩⟩
    · rfl
  refine ⟨⟨?_, ?_, ?_, ?_, ?_, ?_⟩, ⟨fun _ _ x => x, fun _ _ x => x, hos, htape, hout, by omega, ?_, ?_, Nat.le_refl _, ?_⟩⟩
  · intro b' p' hb'
    have := r.dom b' p' hb'
    rw [hsize]; exact this
  · exact fun b' p' hb' hl => r.live b' p' hb' ((hlive b').1 hl)
  · exact fun b1 b2 p1 p2 h1 h2 he l1 l2 => r.inj b1 b2 p1 p2 h1 h2 he ((hlive b1).1 l1) ((hlive b2).1 l2)
  · intro b' p' cells hb' hg'
    rw [get_set hg] at hg'
    split at hg'
    · rename_i e; subst e
      rw [hb] at hb'; cases hb'
      cases hg'
      obtain ⟨cs, E, rfl, h1, h2, h3⟩ := hrow cells rfl
      exact ⟨cs, E, hnew, h1, h2, h3⟩
    · rename_i hne
      obtain ⟨cs, E, hw, h1, h2, h3⟩ := r.row b' p' cells hb' hg'
      refine ⟨cs, E, ?_, h1, h2, h3⟩
      rw [hold _ ?_]; exact hw
      intro e
      exact hne (r.inj b' b p' p hb' hb e ⟨_, hg', by simp⟩ hlb)
  · intro b' p' es clock hb' hg'
    rw [get_set hg] at hg'
    split at hg'
    · rename_i e; subst e
      rw [hb] at hb'; cases hb'
      cases hg'
      obtain ⟨es', rfl, hes⟩ := hmp es clock rfl
      exact ⟨es', hnew, hes⟩
    · rename_i hne
      obtain ⟨es', hw, hes⟩ := r.mp b' p' es clock hb' hg'
      refine ⟨es', ?_, hes⟩
      rw [hold _ ?_]; exact hw
      intro e
      exact hne (r.inj b' b p' p hb' hb e ⟨_, hg', by simp⟩ hlb)
  · intro blk cs hC
    obtain ⟨E, fz, hw⟩ := r.con blk cs hC
    refine ⟨E, fz, ?_⟩
    rw [hold blk ?_]; exact hw
    intro e
    have := r.live b p hb hlb
    rw [← e, hC] at this; cases this
  · intro blk hlt hno
    exact hold blk fun e => hno b p hb hlb e.symm
  · intro b' p' hb' hl _
    exact ⟨b', p', hb', (hlive b').1 hl, rfl⟩
  · intro b' hb' hn
    refine ⟨hn, get_set_ne ?_⟩
    rintro rfl; rw [hb] at hn; cases hn

theorem oneCell_of {v : IV} {x : Value} (hv : VRel φ C v x) (ho : v.one = true) : x.oneCell' = true := by
  cases hv <;> simp [IV.one] at ho <;> rfl

theorem Rel.storeN (r : Rel φ C h w) {v : IV} {x : Value} {us : List IV} {ys : Array Value} (hv : VRel φ C v x) (hu : VRels φ C us ys) (hs : Im.storeN h v us = some h') :
    ∃ a w', x = .pointer (some a) ∧ (storeCells a ys.toList).run P w = .ok () w' ∧ Rel φ C h' w' ∧ Ext φ C h w φ C h' w' := by
  cases hv <;> simp [Im.storeN] at hs
  case ptr b off p hp =>
    split at hs
    · rename_i cells hg
      split at hs
      · rename_i hle
        obtain ⟨hle, hone⟩ := hle
        cases hs
        obtain ⟨cs, E, hw, hlim, hcl, hc⟩ := r.row b p cells hp hg
        have hys : us.length = ys.toList.length := by simpa using hu.1
        have hrun := run_storeCells_at (P := P) p.blk (p.off + off) E ys.toList 0 cs w hw (by omega) (fun y hy => by
          obtain ⟨i, hi, rfl⟩ := List.getElem_of_mem hy
          have hi' : i < us.length := by omega
          exact oneCell_of (hu.get (i := i) (List.getElem?_eq_getElem hi') (by simp at hi; simp [hi])) (hone _ (by simp)))
        refine ⟨_, _, rfl, hrun, ?_⟩
        refine r.turn hp hg (by simp) _ (by simp) (.cells _ E (0, 0)) _ rfl rfl rfl (by simp) (setRow_heap w p.blk cs _ E (0, 0) hw) (fun k hk => setRow_other w p.blk k _ hk) ?_ (by simp)
        intro cells' he
        cases he
        refine ⟨_, E, rfl, ?_, ?_, ?_⟩
        · simp; omega
        · simp [setCells]; omega
        · intro i u hiu
          simp only [setCells] at hiu
          simp only [Nat.add_zero]
          by_cases h1 : i < off
          · rw [List.append_assoc, List.getElem?_append_left (by simp; omega), List.getElem?_take_of_lt h1] at hiu
            obtain ⟨y, hy, hr⟩ := hc i u hiu
            refine ⟨y, ?_, hr⟩
            rw [List.getElem?_toArray, List.append_assoc, List.getElem?_append_left (by simp; have := (Array.getElem?_eq_some_iff.1 hy).1; omega), List.getElem?_take_of_lt (by omega)]
            simpa using hy
          · rw [List.append_assoc, List.getElem?_append_right (by simp; omega)] at hiu
            simp at hiu
            rw [show min off cells.length = off by omega] at hiu
            by_cases h2 : i - off < us.length
            · rw [List.getElem?_append_left h2] at hiu
              have hlt : i - off < ys.size := by have := hu.1; omega
              refine ⟨ys[i - off], ?_, hu.get hiu (by simp [hlt])⟩
              rw [List.getElem?_toArray, List.append_assoc, List.getElem?_append_right (by simp; omega)]
              simp
              rw [show min (p.off + off) cs.size = p.off + off by omega, show p.off + i - (p.off + off) = i - off by omega, List.getElem?_append_left (by simpa using hlt)]
              simp [hlt]
            · rw [List.getElem?_append_right (by omega), List.getElem?_drop] at hiu
              rw [show off + us.length + (i - off - us.length) = i by omega] at hiu
              obtain ⟨y, hy, hr⟩ := hc i u hiu
              refine ⟨y, ?_, hr⟩
              rw [List.getElem?_toArray, List.append_assoc, List.getElem?_append_right (by simp; omega)]
              simp
              simp at hys
              rw [show min (p.off + off) cs.size = p.off + off by omega, List.getElem?_append_right (by simp; omega), List.getElem?_drop]
              simp
              rw [show p.off + off + ys.size + (p.off + i - (p.off + off) - ys.size) = p.off + i by omega]
              exact hy
      · cases hs
    · cases hs
end
end Go.Proofs.YtadeojgiiapljaaGreat.Im
namespace Go.Proofs.YtadeojgiiapljaaGreat.Im
open Go

def cval : Value → Option IV
  | .bool b => some (.bool b)
  | .int k n => some (.int k n)
  | .string s => some (.str s)
  | .pointer none => some .nilp
  | .slice none 0 0 => some .nils
  | .map none => some .nilm
  | .nilFunc => some .nilf
  | .nilIface => some .nili
  | _ => none
def cvals : List Value → Option (List IV)
  | [] => some []
  | v :: vs => match cval v, cvals vs with
    | some x, some xs => some (x :: xs)
    | _, _ => none
def carg : Operand → Option IArg
  | .tmp t => if t < DK then some (.t t) else none
  | .const v => (cval v).map .c
  | .func f => some (.c (.func (.func f) [] []))
  | .global _ => none
def cargs : List Operand → Option (List IArg)
  | [] => some []
  | v :: vs => match carg v, cargs vs with
    | some x, some xs => some (x :: xs)
    | _, _ => none
def cargo : Option Operand → Option (Option IArg)
  | none => some none
  | some x => (carg x).map some
/-- A type's zero cells; its zero value. -/
def czs (P : Program) (t : TypeId) : Option (List IV) :=
  match P.info? t with
  | some i => match i.zero with
    | some v => cvals v.cells.toList
    | none => none
  | none => none
def czv (P : Program) (t : TypeId) : Option IV :=
  match P.info? t with
  | some i => match i.zero with
    | some (.agg cs) => (cvals cs.toList).map .agg
    | some v => cval v
    | none => none
  | none => none
def aggT (P : Program) (t : TypeId) : Option Bool :=
  match P.underlying t with
  | some (.struct _) | some (.array ..) => some true
  | some _ => some false
  | none => none
def szT (P : Program) (t : TypeId) : Option Nat := (P.info? t).map (·.size)
def cparts (place : Nat → Option (Nat × Nat)) : List (Nat × Operand) → Option (List (Nat × Nat × IArg))
  | [] => some []
  | (i, x) :: ps => match place i, carg x, cparts place ps with
    | some (o, s), some a, some as => some ((o, s, a) :: as)
    | _, _, _ => none
def placesT (P : Program) : List Field → Option (List (Nat × Nat))
  | [] => some []
  | f :: fs => match szT P f.type, placesT P fs with
    | some s, some ps => some ((f.offset, s) :: ps)
    | _, _ => none
def allIs (z : IV) : List Value → Nat → Bool
  | [], n => n == 0
  | v :: vs, n + 1 => (match cval v with | some u => IV.beq u z | none => false) && allIs z vs n
  | _, 0 => false
/-- The nil that a value of such a type is held against. -/
def nilK : TypeDesc → Option NK
  | .pointer _ => some .ptr
  | .slice _ => some .slice
  | .func .. => some .func
  | .interface _ => some .iface
  | _ => none
def constNil : NK → Operand → Bool
  | .ptr, .const (.pointer none) | .slice, .const (.slice none 0 0) | .func, .const .nilFunc | .iface, .const .nilIface => true
  | _, _ => false
/-- Fields that are numbers and bools, the i-th in the i-th cell: which of them are bools. -/
def flatFs (P : Program) : Nat → List Field → Option (List Bool)
  | _, [] => some []
  | i, f :: fs => if f.offset = i ∧ f.name ≠ "_" then
      (match P.underlying f.type, flatFs P (i + 1) fs with
      | some (.int _), some ks => some (false :: ks)
      | some .bool, some ks => some (true :: ks)
      | _, _ => none) else none
/-- A struct of such fields, compared cell by cell. -/
def flatT (P : Program) (t : TypeId) (fs : Array Field) : Option (List Bool) := if P.stoodInHeld t || P.eqGuardType P.depth t then none else flatFs P 0 fs.toList

def ccall (P : Program) (c : Call) : Option IOp :=
  match c.callee with
  | .value f => match carg f, cargs c.args.toList with
    | some f, some as => some (.call f as)
    | _, _ => none
  | .invoke .. => none
  | .builtin b =>
    match b, c.args.toList, c.argTypes.toList with
    | .append, [s, x], [t, u] => match P.underlying t, carg s, carg x, P.underlying u with
      | some (.slice e), some s, some x, some (.slice _) => match P.info? e, czs P e with
        | some i, some z => if z.length = i.size then some (.append i.size i.bytes s x) else none
        | _, _ => none
      | _, _, _, _ => none
    | .len, [x], [t] => match P.underlying t with
      | some (.slice _) => (carg x).map (.len false)
      | some .string => (carg x).map (.len true)
      | _ => none
    | .max, [x, y], _ => match carg x, carg y with
      | some x, some y => some (.mm true x y)
      | _, _ => none
    | .min, [x, y], _ => match carg x, carg y with
      | some x, some y => some (.mm false x y)
      | _, _ => none
    | _, _, _ => none

def cop (P : Program) : Op → Option IOp
  | .move x | .assign x => (carg x).map .mv
  | .pick c a b => match carg c, carg a, carg b with
    | some c, some a, some b => some (.pick c a b)
    | _, _, _ => none
  | .alloc t => (czs P t).map .new
  | .box _ x => (carg x).map .box
  | .build t ps => match P.underlying t with
    | some (.struct fs) => match czs P t, placesT P fs.toList with
      | some z, some pl => (cparts (fun i => pl[i]?) ps.toList).map (.build z)
      | _, _ => none
    | some (.array n e) => match ps.toList, czs P e with
      | [], some [z] => match P.info? t with
        | some i => match i.zero with
          | some v => if allIs z v.cells.toList n then some (.rep n z) else none
          | none => none
        | none => none
      | _, _ => none
    | _ => none
  | .buildSlice t len ps => match P.underlying t with
    | some (.slice e) => match szT P e, czs P e with
      | some s, some z => if len * s ≤ 2 ^ 24 ∧ z.length = s ∧ (s = 0 → len = 0) then
          (match cparts (fun i => some (i * s, s)) ps.toList with
          | some ps => some (.bslice (List.replicate len z).flatten len ps)
          | none => none) else none
      | _, _ => none
    | _ => none
  | .load t a => match aggT P t, szT P t, carg a with
    | some true, some n, some a => some (.loadN n a)
    | some false, some _, some a => some (.load1 a)
    | _, _, _ => none
  | .store t a x => match szT P t, carg a, carg x with
    | some n, some a, some x => some (.store n a x)
    | _, _, _ => none
  | .nilCheck x => (carg x).map .nilchk
  | .binOp op t x y _ => match carg x, carg y with
    | some a, some b =>
      (match op with
      | .eql | .neq => match P.underlying t with
        | some (.int _) | some .string => some (.bin op a b)
        | some .bool => some (.eqbool (op == .neq) a b)
        | some (.struct fs) => (flatT P t fs).map fun ks => .eqflat (op == .neq) ks a b
        | some d => match nilK d with
          | some k => if constNil k y then some (.isnil (op == .neq) k a) else none
          | none => none
        | none => none
      | op => some (.bin op a b))
    | _, _ => none
  | .unOp op _ x => (carg x).map (.un op)
  | .convert s d x => match P.underlying s, P.underlying d, carg x with
    | some (.int _), some (.int k), some x => some (.conv k x)
    | some .string, some (.slice e), some x => match P.underlying e with
      | some (.int .u8) => some (.strbytes x)
      | _ => none
    | _, _, _ => none
  | .makeInterface t x => match P.underlying t with
    | some (.interface _) => none
    | some _ => (carg x).map (.mkiface t)
    | none => none
  | .makeFunc fn f c => match cargs f.toList, cargs c.toList with
    | some f, some c => some (.mkfunc fn f c)
    | _, _ => none
  | .makeMap _ none => some .mkmap
  | .makeSlice t l c => match P.underlying t, carg l, carg c with
    | some (.slice e), some l, some c => match P.info? e, czs P e with
      | some i, some z => if z.length = i.size ∧ i.size ≠ 0 then some (.mkslice z i.bytes l c) else none
      | _, _ => none
    | _, _, _ => none
  | .slice t x lo hi none => match P.underlying t, carg x, cargo lo, cargo hi with
    | some (.slice e), some x, some none, some (some hi) => match szT P e with
      | some _ => some (.sliceTo x hi)
      | none => none
    | some (.array n e), some x, some lo, some hi => match szT P e with
      | some s => some (.sliceArr n s x lo hi)
      | none => none
    | _, _, _, _ => none
  | .fieldAddr s x f => match P.underlying s, carg x with
    | some (.struct fs), some x => match fs[f]? with
      | some f => match szT P f.type with
        | some n => if n = 0 then none else some (.faddr f.offset x)
        | none => none
      | none => none
    | _, _ => none
  | .field t x f => match P.underlying t, carg x with
    | some (.struct fs), some x => match fs[f]? with
      | some f => match aggT P f.type, szT P f.type with
        | some true, some n => some (.field f.offset (some n) x)
        | some false, _ => some (.field f.offset none x)
        | _, _ => none
      | none => none
    | _, _ => none
  | .indexAddr t x i => match P.underlying t, carg x, carg i with
    | some (.array n e), some x, some i => (szT P e).map fun s => .iaddr (some n) s x i
    | some (.slice e), some x, some i => (szT P e).map fun s => .iaddr none s x i
    | _, _, _ => none
  | .index t x i => match P.underlying t, carg x, carg i with
    | some .string, some x, some i => some (.idxstr x i)
    | _, _, _ => none
  | .lookup t m k ok => match P.underlying t, carg m, carg k with
    | some (.map kt e), some m, some k => match P.underlying kt, czv P e with
      | some (.int _), some z => some (.lookup false z m k ok)
      | some .string, some z => some (.lookup true z m k ok)
      | _, _ => none
    | _, _, _ => none
  | .mapUpdate t m k v | .insert t m k v => match P.underlying t, carg m, carg k, carg v with
    | some (.map kt _), some m, some k, some v => match P.underlying kt with
      | some (.int _) => some (.mapput false m k v)
      | some .string => some (.mapput true m k v)
      | _ => none
    | _, _, _, _ => none
  | .mapEntry t m k => match P.underlying t, carg m, carg k with
    | some (.map kt e), some m, some k => match P.underlying kt, czv P e with
      | some (.int _), some z => some (.mapentry false z m k)
      | some .string, some z => some (.mapentry true z m k)
      | _, _ => none
    | _, _, _ => none
  | .entryStore _ m s v => match carg m, carg s, carg v with
    | some m, some s, some v => some (.entrystore m s v)
    | _, _, _ => none
  | .typeAssert x _ a true => match P.underlying a, carg x, czv P a with
    | some (.interface _), _, _ => none
    | some _, some x, some z => some (.tassert a z x)
    | _, _, _ => none
  | .extract t i => (carg t).map (.extract i)
  | .call c => ccall P c
  | .panic x => (carg x).map .panic
  | _ => none

/-- The temporaries that are known stand in the frame. -/
def EnvRel (φ : Phi) (C : Con) (e : Env) (a : Act) : Prop := ∀ t v, t < DK → e.get t = some v → ∃ x, a.tmps[t]? = some x ∧ VRel φ C v x

section
variable {P : Program} {φ : Phi} {C : Con} {h h' : IHeap} {w : World} {e : Env} {a : Act}

theorem cval_rel {v : Value} {u : IV} (hc : cval v = some u) : VRel φ C u v := by
  unfold cval at hc
  split at hc <;> simp at hc <;> subst hc
  · exact .bool _
  · exact .int _ _
  · exact .str _
  · exact .nilp
  · exact .nils
  · exact .nilm
  · exact .nilf
  · exact .nili
theorem cvals_rel : ∀ {vs : List Value} {us : List IV}, cvals vs = some us → VRels φ C us vs.toArray
  | [], us, hc => by simp [cvals] at hc; subst hc; exact .nil
  | v :: vs, us, hc => by
    simp only [cvals] at hc
    split at hc <;> simp at hc
    rename_i x xs hx hxs
    subst hc
    exact .cons (cval_rel hx) (cvals_rel hxs)
theorem cvals_one : ∀ {vs : List Value} {us : List IV}, cvals vs = some us → us.all (·.one) = true
  | [], us, hc => by simp [cvals] at hc; subst hc; rfl
  | v :: vs, us, hc => by
    simp only [cvals] at hc
    split at hc <;> simp at hc
    rename_i x xs hx hxs
    subst hc
    simp only [List.all_cons, Bool.and_eq_true]
    refine ⟨?_, cvals_one hxs⟩
    unfold cval at hx
    split at hx <;> simp at hx <;> subst hx <;> rfl

theorem carg_rel (he : EnvRel φ C e a) {x : Operand} {i : IArg} {v : IV} (hc : carg x = some i) (hv : i.ev e = some v) : VRel φ C v (a.eval x) := by
  cases x with
  | tmp t =>
    simp only [carg] at hc
    split at hc <;> simp at hc
    subst hc
    rename_i hlt
    obtain ⟨y, hy, hr⟩ := he t v hlt hv
    simpa [Act.eval, Array.getD_eq_getD_getElem?, hy] using hr
  | const u =>
    simp only [carg, Option.map_eq_some_iff] at hc
    obtain ⟨z, hz, rfl⟩ := hc
    simp [IArg.ev] at hv
    subst hv
    exact cval_rel hz
  | func f =>
    simp [carg] at hc
    subst hc
    simp [IArg.ev] at hv
    subst hv
    exact .func rfl rfl (fun _ hi => absurd hi (by simp)) (fun _ hi => absurd hi (by simp))
  | global g => simp [carg] at hc
theorem cargs_rel (he : EnvRel φ C e a) : ∀ {xs : List Operand} {is : List IArg} {vs : List IV}, cargs xs = some is → evs e is = some vs → VRels φ C vs (xs.map a.eval).toArray
  | [], is, vs, hc, hv => by
    simp [cargs] at hc; subst hc
    simp [evs] at hv; subst hv
    exact .nil
  | x :: xs, is, vs, hc, hv => by
    simp only [cargs] at hc
    split at hc <;> simp at hc
    rename_i i is' hi his
    subst hc
    simp only [evs] at hv
    split at hv <;> simp at hv
    rename_i u us hu hus
    subst hv
    simp only [List.map_cons]
    exact .cons (carg_rel he hi hu) (cargs_rel he his hus)

theorem setCells_set (cs : List IV) (k : Nat) (u : IV) (us : List IV) (hk : k < cs.length) : setCells (cs.set k u) (k + 1) us = setCells cs k (u :: us) := by
  have h1 : (cs.set k u).take (k + 1) = cs.take k ++ [u] := by
    rw [List.take_succ_eq_append_getElem (by simpa using hk)]
    simp [List.take_set]
    exact List.set_eq_of_length_le (by simp; omega)
  have h2 : (cs.set k u).drop (k + 1 + us.length) = cs.drop (k + (u :: us).length) := by
    rw [List.drop_set_of_lt (by omega)]
    congr 1
    simp; omega
  simp only [setCells, h1, h2]
  simp
theorem VRels.set_cells {cs : List IV} {ar : Array Value} (hr : VRels φ C cs ar) : ∀ {us : List IV} {ys : List Value} (off j : Nat), VRels φ C us ys.toArray → off + j + us.length ≤ cs.length →
    VRels φ C (setCells cs (off + j) us) ((ys.zipIdx j).foldl (fun acc (c, j) => acc.setIfInBounds (off + j) c) ar) := by
  intro us
  induction us generalizing cs ar with
  | nil =>
    intro ys off j hu hle
    have : ys = [] := by have := hu.1; simp at this; exact List.eq_nil_of_length_eq_zero this.symm
    subst this
    simp [setCells]
    exact hr
  | cons u us ih =>
    intro ys off j hu hle
    obtain ⟨y, ys, rfl⟩ : ∃ y l, ys = y :: l := by
      cases ys with
      | nil => have := hu.1; simp at this
      | cons y l => exact ⟨y, l, rfl⟩
    have h0 : VRel φ C u y := hu.get (i := 0) (by simp) (by simp)
    have hs : VRels φ C us ys.toArray := .of_get (by have := hu.1; simpa using this) fun i v x hv hx => hu.get (i := i + 1) (by simpa using hv) (by simpa using hx)
    simp only [List.zipIdx_cons, List.foldl_cons]
    have hstep : VRels φ C (cs.set (off + j) u) (ar.setIfInBounds (off + j) y) := by
      refine .of_get (by simp [hr.1]) fun i v x hv hx => ?_
      rw [List.getElem?_set] at hv
      rw [Array.getElem?_setIfInBounds] at hx
      split at hv
      · rename_i e1; subst e1
        split at hv <;> simp at hv
        simp only [if_true] at hx
        split at hx <;> simp at hx
        subst hv; subst hx; exact h0
      · rename_i e1
        rw [if_neg e1] at hx
        exact hr.get hv hx
    have := ih hstep (ys := ys) off (j + 1) hs (by simp at hle ⊢; omega)
    have e2 : setCells (cs.set (off + j) u) (off + (j + 1)) us = setCells cs (off + j) (u :: us) := by
      have hlt : off + j < cs.length := by simp at hle; omega
      exact setCells_set cs (off + j) u us hlt
    rw [e2] at this
    exact this
theorem fill_rel {place : Nat → Option (Nat × Nat)} : ∀ {ps : List (Nat × Operand)} {is : List (Nat × Nat × IArg)} {vs : List (Nat × Nat × IV)} {cs out : List IV} {ar : Array Value}, EnvRel φ C e a →
    cparts place ps = some is → parts e is = some vs → VRels φ C cs ar → fillI cs vs = some out →
    ∃ ar', Instr.fill place ar (ps.map fun (i, x) => (i, a.eval x)) = some ar' ∧ VRels φ C out ar'
  | [], is, vs, cs, out, ar, he, hc, hp, hr, hf => by
    simp [cparts] at hc; subst hc
    simp [parts] at hp; subst hp
    simp [fillI] at hf; subst hf
    exact ⟨ar, rfl, hr⟩
  | (i, x) :: ps, is, vs, cs, out, ar, he, hc, hp, hr, hf => by
    simp only [cparts] at hc
    split at hc <;> simp at hc
    rename_i o s ia is' hpl hia his
    subst hc
    simp only [parts] at hp
    split at hp <;> simp at hp
    rename_i v vs' hv hvs
    subst hp
    simp only [fillI] at hf
    split at hf
    case isFalse => cases hf
    rename_i hcond
    simp at hcond
    obtain ⟨h1, h2⟩ := hcond
    have hvr := (carg_rel he hia hv).cells
    have hsz : (a.eval x).cells.size = s := by rw [← hvr.1, h1]
    have := hr.set_cells (us := v.cells) (ys := (a.eval x).cells.toList) o 0 (by simpa using hvr) (by omega)
    obtain ⟨ar', ha', hr'⟩ := fill_rel he his hvs this (by simpa using hf)
    refine ⟨ar', ?_, hr'⟩
    simp only [List.map_cons, Instr.fill, hpl]
    rw [if_neg]
    · rw [← ha']
      congr 1
      rw [← Array.foldl_toList]
      simp
    · simp [hsz]; rw [← hr.1]; omega
end
end Go.Proofs.YtadeojgiiapljaaGreat.Im
namespace Go.Proofs.YtadeojgiiapljaaGreat.Im
open Go
section
variable {P : Program} {φ : Phi} {C : Con} {h h' : IHeap} {e : Env} {a : Act}

/-- Runs without a turn of the world. -/
def Gives (P : Program) (s : Sem Value) (φ : Phi) (C : Con) (v : IV) : Prop := ∀ w : World, ∃ x, s.run P w = .ok x w ∧ VRel φ C v x

theorem run_under {t : TypeId} {d : TypeDesc} (hu : P.underlying t = some d) (w : World) : (underlying t).run P w = .ok d w := run_underlying hu w
theorem run_info {t : TypeId} {i : TypeInfo} (hi : P.info? t = some i) (w : World) : (typeInfo t).run P w = .ok i w := by simp [typeInfo, hi]
theorem run_size {t : TypeId} {n : Nat} (hi : szT P t = some n) (w : World) : (sizeOf t).run P w = .ok n w := by
  simp only [szT, Option.map_eq_some_iff] at hi
  obtain ⟨i, hi, rfl⟩ := hi
  simp [sizeOf, run_info hi]
theorem run_agg {t : TypeId} {b : Bool} (hi : aggT P t = some b) (w : World) : (isAgg t).run P w = .ok b w := by
  unfold aggT at hi
  split at hi <;> simp at hi <;> subst hi <;> rename_i hu
  · simp [isAgg, run_under hu]
  · simp [isAgg, run_under hu]
  · rename_i d h1 h2
    simp only [isAgg, Sem.run_bind, run_under hu, Result.andThen_ok]
    cases d <;> simp_all
theorem czs_run {t : TypeId} {cs : List IV} (hz : czs P t = some cs) : ∃ v i, P.info? t = some i ∧ i.zero = some v ∧ (∀ w, (zeroValue t).run P w = .ok v w) ∧ VRels φ C cs v.cells ∧ cs.all (·.one) = true := by
  unfold czs at hz
  split at hz
  · rename_i i hi
    split at hz
    · rename_i v hv
      exact ⟨v, i, hi, hv, fun w => by simp [zeroValue, run_info hi, hv], by simpa using cvals_rel hz, cvals_one hz⟩
    · cases hz
  · cases hz
theorem czv_run {t : TypeId} {z : IV} (hz : czv P t = some z) : ∃ v, (∀ w, (zeroValue t).run P w = .ok v w) ∧ VRel φ C z v := by
  unfold czv at hz
  split at hz
  · rename_i i hi
    split at hz
    · rename_i cs hv
      simp only [Option.map_eq_some_iff] at hz
      obtain ⟨us, hus, rfl⟩ := hz
      have := cvals_rel (φ := φ) (C := C) hus
      exact ⟨.agg cs, fun w => by simp [zeroValue, run_info hi, hv], .agg (by simpa using this.1) (by simpa using this.2)⟩
    · rename_i _ v _ hv'
      exact ⟨v, fun w => by simp [zeroValue, run_info hi, hv'], cval_rel hz⟩
    · cases hz
  · cases hz

theorem beq_int {k k' : IntKind} {n m : Int} : IV.beq (.int k n) (.int k' m) = (k == k' && n == m) := by simp [IV.beq]

mutual
theorem beq_eq : ∀ {a b : IV}, IV.beq a b = true → a = b
  | .bool a, b, h => by cases b <;> simp [IV.beq] at h; rw [h]
  | .int k n, b, h => by cases b <;> simp [IV.beq] at h; rw [h.1, h.2]
  | .str s, b, h => by
    cases b <;> simp [IV.beq] at h
    rename_i t
    obtain ⟨⟨s⟩⟩ := s
    obtain ⟨⟨t⟩⟩ := t
    simp at h; rw [h]
  | .nilp, b, h => by cases b <;> simp [IV.beq] at h; rfl
  | .ptr .., b, h => by cases b <;> simp [IV.beq] at h; rw [h.1, h.2]
  | .cptr cs, b, h => by cases b <;> simp [IV.beq] at h; rw [beqs_eq h]
  | .nils, b, h => by cases b <;> simp [IV.beq] at h; rfl
  | .slice .., b, h => by cases b <;> simp [IV.beq] at h; rw [h.1.1.1, h.1.1.2, h.1.2, h.2]
  | .aslice .., b, h => by cases b <;> simp [IV.beq] at h; rw [h.1.1.1, h.1.1.2, h.1.2, h.2]
  | .cslice cs n, b, h => by cases b <;> simp [IV.beq] at h; rw [beqs_eq h.1, h.2]
  | .nilm, b, h => by cases b <;> simp [IV.beq] at h; rfl
  | .map _, b, h => by cases b <;> simp [IV.beq] at h; rw [h]
  | .func f a c, b, h => by cases b <;> simp [IV.beq] at h; rw [h.1.1, beqs_eq h.1.2, beqs_eq h.2]
  | .nilf, b, h => by cases b <;> simp [IV.beq] at h; rfl
  | .iface t v, b, h => by cases b <;> simp [IV.beq] at h; rw [h.1, beq_eq h.2]
  | .nili, b, h => by cases b <;> simp [IV.beq] at h; rfl
  | .agg cs, b, h => by cases b <;> simp [IV.beq] at h; rw [beqs_eq h]
  | .tup cs, b, h => by cases b <;> simp [IV.beq] at h; rw [beqs_eq h]
theorem beqs_eq : ∀ {a b : List IV}, IV.beqs a b = true → a = b
  | [], b, h => by cases b <;> simp [IV.beqs] at h; rfl
  | x :: xs, b, h => by
    cases b <;> simp [IV.beqs] at h
    rw [beq_eq h.1, beqs_eq h.2]
end

theorem allIs_rel {z : IV} : ∀ {vs : List Value} {n : Nat}, allIs z vs n = true → VRels φ C (List.replicate n z) vs.toArray
  | [], n, h => by simp [allIs] at h; subst h; exact .nil
  | v :: vs, 0, h => by simp [allIs] at h
  | v :: vs, n + 1, h => by
    simp only [allIs, Bool.and_eq_true] at h
    obtain ⟨h1, h2⟩ := h
    rw [List.replicate_succ]
    refine .cons ?_ (allIs_rel h2)
    split at h1
    · rename_i u hu
      rw [← beq_eq h1]; exact cval_rel hu
    · cases h1

theorem s_pick {c x y : Operand} {ic ix iy : IArg} {v : IV} (he : EnvRel φ C e a) (hc : carg c = some ic) (hx : carg x = some ix) (hy : carg y = some iy)
    (hv : opPure (.pick ic ix iy) e = some v) : Gives P (do pure (if ← asBool (a.eval c) then a.eval x else a.eval y)) φ C v := by
  intro w
  simp only [opPure] at hv
  split at hv
  · rename_i hb
    have hr := carg_rel he hc hb
    generalize a.eval c = cc at hr
    cases hr
    exact ⟨_, by simp [asBool], carg_rel he hx hv⟩
  · rename_i hb
    have hr := carg_rel he hc hb
    generalize a.eval c = cc at hr
    cases hr
    exact ⟨_, by simp [asBool], carg_rel he hy hv⟩
  · cases hv

theorem places_run (w : World) : ∀ {fs : List Field} {pl : List (Nat × Nat)}, placesT P fs = some pl →
    (fs.mapM (m := Sem) fun f => do pure (f.offset, ← sizeOf f.type)).run P w = .ok pl w
  | [], pl, h => by simp [placesT] at h; subst h; rfl
  | f :: fs, pl, h => by
    simp only [placesT] at h
    split at h <;> simp at h
    rename_i s ps hs hps
    subst h
    have ih := places_run w hps
    simp only [List.mapM_cons, Sem.run_bind, run_size hs, Result.andThen_ok, Sem.run_pure, ih]
theorem s_build {t : TypeId} {ps : Array (Nat × Operand)} {fs : Array Field} {z : List IV} {pl : List (Nat × Nat)} {is : List (Nat × Nat × IArg)} {v : IV} (he : EnvRel φ C e a)
    (hu : P.underlying t = some (.struct fs)) (hz : czs P t = some z) (hpl : placesT P fs.toList = some pl) (hp : cparts (fun i => pl[i]?) ps.toList = some is) (hv : opPure (.build z is) e = some v) :
    Gives P (Instr.build t (ps.map fun (i, x) => (i, a.eval x))) φ C v := by
  intro w
  obtain ⟨zv, i, _, _, hzr, hzc, _⟩ := czs_run (P := P) (φ := φ) (C := C) hz
  simp only [opPure] at hv
  split at hv
  · rename_i vs hvs
    simp only [Option.map_eq_some_iff] at hv
    obtain ⟨cells, hf, rfl⟩ := hv
    obtain ⟨ar, har, hr⟩ := fill_rel he hp hvs hzc hf
    refine ⟨.agg ar, ?_, .agg hr.1 hr.2⟩
    have hm : (fs.mapM (m := Sem) fun f => do pure (f.offset, ← sizeOf f.type)).run P w = .ok pl.toArray w := by
      have h2 := places_run w hpl
      rw [Array.mapM_eq_mapM_toList]
      simp only [Sem.run_map, h2, Result.andThen_ok]
    have e1 : (fun (x : Nat) => pl.toArray[x]?) = (fun (i : Nat) => pl[i]?) := by funext i; simp
    simp only [Instr.build, Sem.run_bind, hzr, Result.andThen_ok, run_under hu, hm, Array.toList_map, e1, har, Sem.run_pure]
  · cases hv
theorem s_rep {t e' : TypeId} {n : Nat} {z : IV} {i : TypeInfo} {zv : Value} {v : IV} (hu : P.underlying t = some (.array n e')) (hz : czs P e' = some [z]) (hi : P.info? t = some i) (hzv : i.zero = some zv)
    (ha : allIs z zv.cells.toList n = true) (hv : opPure (.rep n z) e = some v) : Gives P (Instr.build t #[]) φ C v := by
  intro w
  simp [opPure] at hv
  subst hv
  obtain ⟨v1, i1, hi1, _, _, hc1, _⟩ := czs_run (P := P) (φ := φ) (C := C) hz
  have hr := allIs_rel (φ := φ) (C := C) ha
  have hzr : (zeroValue t).run P w = .ok zv w := by simp [zeroValue, run_info hi, hzv]
  refine ⟨.agg zv.cells, ?_, .agg (by simpa using hr.1) (by simpa using hr.2)⟩
  simp only [Instr.build, Sem.run_bind, hzr, Result.andThen_ok, run_under hu, run_size (P := P) (t := e') (n := i1.size) (by simp [szT, hi1])]
  simp [Instr.fill]
theorem s_field {t : TypeId} {x : Operand} {f : Nat} {fs : Array Field} {fd : Field} {ix : IArg} {n : Option Nat} {v : IV} (he : EnvRel φ C e a) (hu : P.underlying t = some (.struct fs)) (hf : fs[f]? = some fd)
    (hx : carg x = some ix) (hn : (∃ m, n = some m ∧ aggT P fd.type = some true ∧ szT P fd.type = some m) ∨ (n = none ∧ aggT P fd.type = some false)) (hv : opPure (.field fd.offset n ix) e = some v) :
    Gives P (Instr.field t (a.eval x) f) φ C v := by
  intro w
  simp only [opPure] at hv
  split at hv
  · rename_i cs hcs
    have hr := carg_rel he hx hcs
    generalize a.eval x = xx at hr
    cases hr
    rename_i ar hl hr
    rcases hn with ⟨m, rfl, hag, hsz⟩ | ⟨rfl, hag⟩
    · simp only at hv
      split at hv <;> simp at hv
      subst hv
      refine ⟨.agg (ar.extract fd.offset (fd.offset + m)), ?_, ?_⟩
      · simp [Instr.field, run_under hu, hf, asAgg, part, run_agg hag, run_size hsz]
      · have := (show VRels φ C cs ar from ⟨hl, hr⟩).take fd.offset m
        exact .agg this.1 this.2
    · simp only at hv
      obtain ⟨y, hy, hyr⟩ := (show VRels φ C cs ar from ⟨hl, hr⟩).getD hv
      exact ⟨y, by simp [Instr.field, run_under hu, hf, asAgg, part, run_agg hag, hy], hyr⟩
  · cases hv

theorem s_binI {op : BinOp} {t : TypeId} {x y : Value} {u v z : IV} (hx : VRel φ C u x) (hy : VRel φ C v y) (hv : binI op u v = some z) : Gives P (binOp op t x y) φ C z := by
  intro w
  unfold binI at hv
  split at hv
  · cases hx; cases hy
    split at hv <;> simp at hv
    subst hv
    rename_i hb
    exact ⟨_, by simp [binOp, Op.shift, hb], .int _ _⟩
  · cases hx; cases hy
    split at hv <;> simp at hv
    subst hv
    rename_i hb
    exact ⟨_, by simp [binOp, Op.shift, hb], .int _ _⟩
  · cases hx; cases hy
    rename_i h1 h2
    split at hv
    case isFalse => cases hv
    rename_i hk
    subst hk
    cases op <;> simp [intArith] at hv <;> first
      | (subst hv; exact ⟨_, by simp [binOp, Op.intArith, Op.intBits, Op.intCmp], .int _ _⟩)
      | (subst hv; exact ⟨_, by simp [binOp, Op.intArith, Op.intBits, Op.intCmp], .bool _⟩)
      | (obtain ⟨hn, rfl⟩ := hv; exact ⟨_, by simp [binOp, Op.intDiv, hn], .int _ _⟩)
      | (exact absurd rfl (h1 _ _ _ _ rfl rfl))
      | (exact absurd rfl (h2 _ _ _ _ rfl rfl))
      | skip
  · cases hx; cases hy
    simp at hv; subst hv
    exact ⟨_, by simp [binOp, Op.stringOp], .bool _⟩
  · cases hx; cases hy
    simp at hv; subst hv
    exact ⟨_, by simp [binOp, Op.stringOp], .bool _⟩
  · cases hv

/-! ### Comparing -/
theorem guard_plain {op : BinOp} {t : TypeId} {x y : Operand} {u v : Value} (w : World) (h : (op ≠ .eql ∧ op ≠ .neq) ∨ u ≠ .nilIface ∧ (∀ c, u ≠ .agg c)) : (eqGuard op t x y u v).run P w = .ok () w := by
  unfold eqGuard
  by_cases ho : op = .eql ∨ op = .neq
  · have h2 := h.resolve_left (by rintro ⟨h1, h2⟩; exact ho.elim h1 h2)
    have e1 : (!(match op with | .eql | .neq => true | _ => false)) = false := by rcases ho with rfl | rfl <;> rfl
    rcases ho with rfl | rfl <;> (simp only [Bool.not_true, Bool.false_eq_true, if_false]; split <;> first | (exact absurd rfl h2.1) | (exact absurd rfl (h2.2 _)) | rfl)
  · cases op <;> simp_all
def nilV : NK → Value
  | .ptr => .pointer none
  | .slice => .slice none 0 0
  | .func => .nilFunc
  | .iface => .nilIface
theorem constNil_eq {k : NK} {y : Value} (h : constNil k (.const y) = true) : y = nilV k := by
  unfold constNil at h
  split at h <;> first
    | (rename_i hy; simp only [Operand.const.injEq] at hy; exact hy)
    | cases h
theorem isnil_run {t : TypeId} {d : TypeDesc} {k : NK} {u : IV} {b : Bool} {xx : Value} (n : Nat) (hx : VRel φ C u xx) (hu : P.underlying t = some d) (hk : nilK d = some k)
    (hb : isNil k u = some b) (w : World) : (Op.equalIn (n + 1) t xx (nilV k)).run P w = .ok b w := by
  cases k
  all_goals
    cases d <;> simp only [nilK, Option.some.injEq, reduceCtorEq] at hk
    cases u <;> simp only [isNil, Option.some.injEq, reduceCtorEq] at hb <;> subst hb <;> cases hx <;> simp only [Op.equalIn, Sem.run_bind, run_under hu, Result.andThen_ok, nilV] <;> rfl
theorem equal_of {t : TypeId} {xx y : Value} {b : Bool} {w : World} (h : ∀ n, (Op.equalIn (n + 1) t xx y).run P w = .ok b w) : (Op.equal t xx y).run P w = .ok b w := by
  simp [Op.equal, Op.maxDepth, h 9999]
theorem bin_eq {op : BinOp} {t : TypeId} {x y : Value} {b : Bool} {w : World} (hop : op = .eql ∨ op = .neq) (hi : ∀ k n, x ≠ .int k n) (hf : ∀ k n, x ≠ .float k n) (hc : ∀ k n m, x ≠ .complex k n m) (hs : ∀ s, x ≠ .string s)
    (h : (Op.equal t x y).run P w = .ok b w) : (binOp op t x y).run P w = .ok (.bool (if op == .neq then !b else b)) w := by
  rcases hop with rfl | rfl
  · have : binOp .eql t x y = (do pure (.bool (← Op.equal t x y))) := by
      unfold binOp
      cases x <;> first | rfl | (exact absurd rfl (hi _ _)) | (exact absurd rfl (hf _ _)) | (exact absurd rfl (hc _ _ _)) | (exact absurd rfl (hs _))
    rw [this]
    simp [h]
  · have : binOp .neq t x y = (do pure (.bool (!(← Op.equal t x y)))) := by
      unfold binOp
      cases x <;> first | rfl | (exact absurd rfl (hi _ _)) | (exact absurd rfl (hf _ _)) | (exact absurd rfl (hc _ _ _)) | (exact absurd rfl (hs _))
    rw [this]
    simp [h]
theorem s_isnil {op : BinOp} {t : TypeId} {d : TypeDesc} {k : NK} {x y : Operand} {u v : IV} (hop : op = .eql ∨ op = .neq) (hx : VRel φ C u (a.eval x)) (hu : P.underlying t = some d) (hk : nilK d = some k)
    (hn : constNil k y = true) (hv : (isNil k u).map (fun b => IV.bool (if op == .neq then !b else b)) = some v) :
    Gives P (do eqGuard op t x y (a.eval x) (a.eval y); binOp op t (a.eval x) (a.eval y)) φ C v := by
  intro w
  simp only [Option.map_eq_some_iff] at hv
  obtain ⟨b, hb, rfl⟩ := hv
  obtain ⟨c, rfl⟩ : ∃ c, y = .const c := by
    unfold constNil at hn; split at hn <;> first | exact ⟨_, rfl⟩ | cases hn
  have hg : (eqGuard op t x (.const c) (a.eval x) (a.eval (.const c))).run P w = .ok () w := by
    unfold eqGuard
    rcases hop with rfl | rfl <;> (simp only [Bool.not_true, Bool.false_eq_true, if_false]; split <;> first | rfl | (simp; done) | skip)
    all_goals
      rename_i h1 h2
      simp only [Act.eval] at h2
      subst h2
      unfold constNil at hn
      split at hn <;> simp_all
  refine ⟨.bool (if op == .neq then !b else b), ?_, .bool _⟩
  simp only [Sem.run_bind, hg, Result.andThen_ok]
  have he := equal_of (fun n => isnil_run n hx hu hk hb w)
  rw [← constNil_eq hn] at he
  have hne : (∀ k n, a.eval x ≠ .int k n) ∧ (∀ k n, a.eval x ≠ .float k n) ∧ (∀ k n m, a.eval x ≠ .complex k n m) ∧ ∀ s, a.eval x ≠ .string s := by
    generalize a.eval x = xx at hx
    cases k <;> cases u <;> simp only [isNil, Option.some.injEq, reduceCtorEq] at hb <;> cases hx <;> simp
  exact bin_eq hop hne.1 hne.2.1 hne.2.2.1 hne.2.2.2 he
theorem s_eqbool {op : BinOp} {t : TypeId} {x y : Operand} {b c : Bool} (hop : op = .eql ∨ op = .neq) (hx : VRel φ C (.bool b) (a.eval x)) (hy : VRel φ C (.bool c) (a.eval y)) (hu : P.underlying t = some .bool) :
    Gives P (do eqGuard op t x y (a.eval x) (a.eval y); binOp op t (a.eval x) (a.eval y)) φ C (.bool (if op == .neq then !(b == c) else b == c)) := by
  intro w
  generalize hxx : a.eval x = xx at hx
  generalize hyy : a.eval y = yy at hy
  cases hx; cases hy
  refine ⟨_, ?_, .bool _⟩
  simp only [Sem.run_bind, guard_plain w (u := .bool b) (.inr ⟨by simp, by simp⟩), Result.andThen_ok]
  exact bin_eq hop (by simp) (by simp) (by simp) (by simp) (equal_of fun n => by simp [Op.equalIn, run_under hu])
/-- Comparing the fields from the k-th on. -/
theorem fields_run (d : Nat) {cs ds : Array Value} (w : World) : ∀ (fs : List Field) (k : Nat) (ks : List Bool) (xs ys : List IV) (b : Bool), flatFs P k fs = some ks →
    (∀ (i : Nat) (v : IV), xs[i]? = some v → ∃ x, cs[k + i]? = some x ∧ VRel φ C v x) → (∀ (i : Nat) (v : IV), ys[i]? = some v → ∃ x, ds[k + i]? = some x ∧ VRel φ C v x) → eqFlat ks xs ys = some b →
      (Op.eqFields (d + 1) cs ds fs).run P w = .ok b w
  | [], k, ks, xs, ys, b, hf, _, _, he => by
    simp [flatFs] at hf; subst hf
    cases xs <;> cases ys <;> simp [eqFlat] at he
    subst he
    simp [Op.eqFields]
  | f :: fs, k, ks, xs, ys, b, hf, hx, hy, he => by
    simp only [flatFs] at hf
    split at hf
    case isFalse => cases hf
    rename_i hcond
    obtain ⟨hoff, hname⟩ := hcond
    have ih := fun ks' xs' ys' b' (e1 : flatFs P (k + 1) fs = some ks') (e2 : ∀ (i : Nat) (v : IV), xs'[i]? = some v → xs[i + 1]? = some v) (e3 : ∀ (i : Nat) (v : IV), ys'[i]? = some v → ys[i + 1]? = some v) h => fields_run d (cs := cs) (ds := ds) w fs (k + 1) ks' xs' ys' b' e1
        (fun i v hv => by have := hx (i + 1) v (e2 i v hv); rwa [show k + (i + 1) = k + 1 + i by omega] at this)
        (fun i v hv => by have := hy (i + 1) v (e3 i v hv); rwa [show k + (i + 1) = k + 1 + i by omega] at this) h
    split at hf
    · rename_i j ks' hu hks
      simp at hf; subst hf
      have hag : aggT P f.type = some false := by unfold aggT; simp [hu]
      rcases xs with _ | ⟨x, xs⟩ <;> rcases ys with _ | ⟨y, ys⟩
      · simp [eqFlat] at he
      · simp [eqFlat] at he
      · cases x <;> simp [eqFlat] at he
      · cases x <;> (try simp [eqFlat] at he) <;> cases y <;> simp only [eqFlat, reduceCtorEq] at he
        rename_i k1 n1 k2 n2
        split at he
        case isFalse => cases he
        rename_i hkk; subst hkk
        obtain ⟨x', hx1, hx2⟩ := hx 0 _ rfl
        obtain ⟨y', hy1, hy2⟩ := hy 0 _ rfl
        cases hx2; cases hy2
        simp only [Nat.add_zero] at hx1 hy1
        simp only [Op.eqFields, if_pos hname, Sem.run_bind]
        simp only [part, Sem.run_bind, run_agg hag, Result.andThen_ok, hoff, hx1, hy1, Bool.false_eq_true, if_false, Sem.run_pure, Op.equalIn, run_under hu, if_true]
        split at he
        · rename_i hn
          simp only [hn, Bool.not_true, Bool.false_eq_true, if_false]
          exact ih ks' xs ys b hks (fun i v hv => by simpa using hv) (fun i v hv => by simpa using hv) he
        · rename_i hn
          simp only [Option.map_eq_some_iff] at he
          obtain ⟨_, _, rfl⟩ := he
          simp [hn]
    · rename_i ks' hu hks
      simp at hf; subst hf
      have hag : aggT P f.type = some false := by unfold aggT; simp [hu]
      rcases xs with _ | ⟨x, xs⟩ <;> rcases ys with _ | ⟨y, ys⟩
      · simp [eqFlat] at he
      · simp [eqFlat] at he
      · cases x <;> simp [eqFlat] at he
      · cases x <;> (try simp [eqFlat] at he) <;> cases y <;> simp only [eqFlat, reduceCtorEq] at he
        obtain ⟨x', hx1, hx2⟩ := hx 0 _ rfl
        obtain ⟨y', hy1, hy2⟩ := hy 0 _ rfl
        cases hx2; cases hy2
        simp only [Nat.add_zero] at hx1 hy1
        simp only [Op.eqFields, if_pos hname, Sem.run_bind]
        simp only [part, Sem.run_bind, run_agg hag, Result.andThen_ok, hoff, hx1, hy1, Bool.false_eq_true, if_false, Sem.run_pure, Op.equalIn, run_under hu, if_true]
        split at he
        · rename_i hn
          simp only [hn, Bool.not_true, Bool.false_eq_true, if_false]
          exact ih ks' xs ys b hks (fun i v hv => by simpa using hv) (fun i v hv => by simpa using hv) he
        · rename_i hn
          simp only [Option.map_eq_some_iff] at he
          obtain ⟨_, _, rfl⟩ := he
          simp [hn]
    · cases hf
theorem s_eqflat {op : BinOp} {t : TypeId} {fs : Array Field} {ks : List Bool} {x y : Operand} {xs ys : List IV} {v : IV} (hop : op = .eql ∨ op = .neq) (hx : VRel φ C (.agg xs) (a.eval x)) (hy : VRel φ C (.agg ys) (a.eval y)) (hu : P.underlying t = some (.struct fs))
    (hf : flatT P t fs = some ks) (hv : (eqFlat ks xs ys).map (fun b => IV.bool (if op == .neq then !b else b)) = some v) :
    Gives P (do eqGuard op t x y (a.eval x) (a.eval y); binOp op t (a.eval x) (a.eval y)) φ C v := by
  intro w
  simp only [Option.map_eq_some_iff] at hv
  obtain ⟨b, hb, rfl⟩ := hv
  generalize a.eval x = xx at hx
  generalize a.eval y = yy at hy
  unfold flatT at hf
  split at hf
  · cases hf
  rename_i hcond
  simp at hcond
  obtain ⟨h1, h2⟩ := hcond
  cases hx; cases hy
  rename_i cs hl hr ds hl' hr'
  have hfo : P.fieldsOf t = fs := by simp [Program.fieldsOf, hu]
  have he : (Op.equal t (.agg cs) (.agg ds)).run P w = .ok b w := by
    have : (Op.equalIn (9998 + 1 + 1) t (.agg cs) (.agg ds)).run P w = .ok b w := by
      rw [run_equalIn_struct w (9998 + 1) t cs ds (by rw [hfo]; exact hu) h1, hfo]
      exact fields_run 9998 w fs.toList 0 ks xs ys b hf (fun i v hv => by simpa using (show VRels φ C xs cs from ⟨hl, hr⟩).getD hv) (fun i v hv => by simpa using (show VRels φ C ys ds from ⟨hl', hr'⟩).getD hv) hb
    simpa [Op.equal, Op.maxDepth] using this
  have hg : (eqGuard op t x y (.agg cs) (.agg ds)).run P w = .ok () w := by
    unfold eqGuard
    rcases hop with rfl | rfl <;> simp [h2]
  refine ⟨_, ?_, .bool _⟩
  simp only [Sem.run_bind, hg, Result.andThen_ok]
  exact bin_eq hop (by simp) (by simp) (by simp) (by simp) he
end
end Go.Proofs.YtadeojgiiapljaaGreat.Im
namespace Go.Proofs.YtadeojgiiapljaaGreat.Im
open Go
section
variable {P : Program} {φ : Phi} {C : Con} {h h' : IHeap} {e : Env} {a : Act}

theorem s_un {op : UnOp} {x : Value} {u v : IV} (hx : VRel φ C u x) (hv : unI op u = some v) : Gives P (Op.unary op x) φ C v := by
  intro w
  unfold unI at hv
  split at hv
  · cases hx; simp at hv; subst hv
    exact ⟨_, by simp [Op.unary], .bool _⟩
  · cases hx; simp at hv; subst hv
    exact ⟨_, by simp [Op.unary, Op.intArith], .int _ _⟩
  · cases hx; simp only [Option.some.injEq] at hv; subst hv
    exact ⟨_, by simp only [Op.unary, Op.intBits]; rfl, .int _ _⟩
  · cases hv

/-- A constant place, further on. -/
theorem cptr_drop {cells : List IV} {blk o n : Nat} {cs : Array Value} (hC : C blk = some cs) (hl : o + cells.length ≤ cs.size) (hc : ∀ i (hi : i < cells.length), VRel φ C cells[i] (cs.getD (o + i) undef))
    (hle : n ≤ cells.length) : VRel φ C (.cptr (cells.drop n)) (.pointer (some ⟨blk, o + n, none⟩)) := by
  refine .cptr hC (by simp; omega) fun i hi => ?_
  simp at hi
  have := hc (n + i) (by omega)
  simpa [Nat.add_assoc] using this

theorem s_faddr {t : TypeId} {f : Nat} {fs : Array Field} {fd : Field} {n : Nat} {x : Operand} {ix : IArg} {v : IV} (he : EnvRel φ C e a) (hu : P.underlying t = some (.struct fs)) (hf : fs[f]? = some fd) (hn : szT P fd.type = some n) (h0 : n ≠ 0)
    (hx : carg x = some ix) (hv : opPure (.faddr fd.offset ix) e = some v) : Gives P (Instr.fieldAt t (a.eval x) f) φ C v := by
  intro w
  simp only [opPure] at hv
  split at hv
  · rename_i b o hb
    simp at hv; subst hv
    have hr := carg_rel he hx hb
    generalize a.eval x = xx at hr
    cases hr
    rename_i p hp
    refine ⟨_, ?_, .ptr hp⟩
    simp [Instr.fieldAt, run_under hu, hf, Instr.sureAddr, fieldPlace, run_size hn, h0, add_at, Nat.add_assoc]
  · rename_i cells hb
    split at hv <;> simp at hv
    rename_i hle
    subst hv
    have hr := carg_rel he hx hb
    generalize a.eval x = xx at hr
    cases hr
    rename_i blk o cs hC hl hc
    refine ⟨_, ?_, cptr_drop hC hl hc hle⟩
    simp [Instr.fieldAt, run_under hu, hf, Instr.sureAddr, fieldPlace, run_size hn, h0, add_at]
  · cases hv

theorem s_iaddr {t el : TypeId} {len : Option Nat} {sz : Nat} {x i : Operand} {ix ii : IArg} {v : IV} (he : EnvRel φ C e a)
    (hu : (∃ n, len = some n ∧ P.underlying t = some (.array n el)) ∨ (len = none ∧ P.underlying t = some (.slice el))) (hs : szT P el = some sz) (hx : carg x = some ix) (hi : carg i = some ii)
    (hv : opPure (.iaddr len sz ix ii) e = some v) : Gives P (Instr.indexAt t (a.eval x) (a.eval i)) φ C v := by
  intro w
  simp only [opPure] at hv
  split at hv
  case h_2 => cases hv
  rename_i k n hn
  have hir := carg_rel he hi hn
  generalize a.eval i = iv at hir
  cases hir
  split at hv
  · rename_i ln b off hb
    split at hv <;> simp at hv
    rename_i hcond
    subst hv
    have hr := carg_rel he hx hb
    generalize a.eval x = xx at hr
    cases hr
    rename_i p hp
    rcases hu with ⟨m, hm, hu⟩ | ⟨hm, _⟩
    · simp at hm; subst hm
      refine ⟨_, ?_, .ptr hp⟩
      simp [Instr.indexAt, asIntOf, run_under hu, Instr.sureAddr, hcond, run_size hs, add_at, Nat.add_assoc]
    · cases hm
  · rename_i b off ln c hb
    split at hv <;> simp at hv
    rename_i hcond
    subst hv
    have hr := carg_rel he hx hb
    generalize a.eval x = xx at hr
    cases hr
    rcases hu with ⟨m, hm, hu⟩ | ⟨_, hu⟩
    · cases hm
    · refine ⟨_, ?_, .ptr ‹_›⟩
      simp [Instr.indexAt, asIntOf, run_under hu, hcond, run_size hs, add_at, Nat.add_assoc]
  · rename_i b off ln c hb
    split at hv <;> simp at hv
    rename_i hcond
    subst hv
    have hr := carg_rel he hx hb
    generalize a.eval x = xx at hr
    cases hr
    rcases hu with ⟨m, hm, hu⟩ | ⟨_, hu⟩
    · cases hm
    · refine ⟨_, ?_, .ptr ‹_›⟩
      simp [Instr.indexAt, asIntOf, run_under hu, hcond, run_size hs, add_at, Nat.add_assoc]
  · rename_i cells ln hb
    split at hv
    case isFalse => cases hv
    rename_i hcond
    simp at hv
    subst hv
    have hr := carg_rel he hx hb
    generalize a.eval x = xx at hr
    cases hr with
    | cslice hC hl hk hc =>
      rcases hu with ⟨m, hm, hu⟩ | ⟨_, hu⟩
      · cases hm
      · refine ⟨_, ?_, cptr_drop hC hl hc hcond.2.2⟩
        simp [Instr.indexAt, asIntOf, run_under hu, hcond, run_size hs, add_at]
    | cempty => exfalso; omega
  · cases hv

theorem s_idx {t : TypeId} {x i : Operand} {ix ii : IArg} {v : IV} (he : EnvRel φ C e a) (hu : P.underlying t = some .string) (hx : carg x = some ix) (hi : carg i = some ii) (hv : opPure (.idxstr ix ii) e = some v) :
    Gives P (Instr.index t (a.eval x) (a.eval i)) φ C v := by
  intro w
  simp only [opPure] at hv
  split at hv
  · rename_i s k n hs hn
    split at hv
    case isFalse => cases hv
    rename_i h0
    simp only [Option.map_eq_some_iff] at hv
    obtain ⟨b, hb, rfl⟩ := hv
    have h1 := carg_rel he hx hs
    have h2 := carg_rel he hi hn
    generalize a.eval x = xx at h1
    generalize a.eval i = ii' at h2
    cases h1; cases h2
    refine ⟨_, ?_, .int _ _⟩
    simp [Instr.index, asIntOf, run_under hu, h0, hb]
  · cases hv

theorem s_sliceTo {t el : TypeId} {x hi : Operand} {ix ih : IArg} {v : IV} (he : EnvRel φ C e a) (hu : P.underlying t = some (.slice el)) (hel : ∃ n, szT P el = some n) (hx : carg x = some ix) (hh : carg hi = some ih)
    (hv : opPure (.sliceTo ix ih) e = some v) : Gives P (Instr.sliceAt t (a.eval x) none (some (a.eval hi)) none) φ C v := by
  intro w
  obtain ⟨sn, hel⟩ := hel
  simp only [opPure] at hv
  split at hv
  · rename_i k n hb hn
    have h1 := carg_rel he hx hb
    have h2 := carg_rel he hh hn
    generalize a.eval x = xx at h1
    generalize a.eval hi = hh' at h2
    cases h1; cases h2
    split at hv <;> simp at hv
    rename_i hc
    subst hv; subst hc
    refine ⟨_, ?_, .nils⟩
    simp [Instr.sliceAt, run_under hu, Instr.slice, Instr.sliceBounds, Instr.sliceBound, asIntOf, run_size hel]
  · rename_i b off ln cap k n hb hn
    have h1 := carg_rel he hx hb
    have h2 := carg_rel he hh hn
    generalize a.eval x = xx at h1
    generalize a.eval hi = hh' at h2
    cases h2
    cases h1 with
    | slice hp =>
    split at hv <;> simp at hv
    rename_i hc
    subst hv
    refine ⟨_, ?_, .slice hp⟩
    simp [Instr.sliceAt, run_under hu, Instr.slice, Instr.sliceBounds, Instr.sliceBound, asIntOf, run_size hel, hc, add_at]
  · rename_i b off ln sz k n hb hn
    have h1 := carg_rel he hx hb
    have h2 := carg_rel he hh hn
    generalize a.eval x = xx at h1
    generalize a.eval hi = hh' at h2
    cases h2
    cases h1 with
    | @aslice _ _ _ _ cap p hp hl hr =>
    split at hv <;> simp at hv
    rename_i hc
    subst hv
    have hc2 : n ≤ (cap : Int) := by omega
    refine ⟨_, ?_, .aslice (cap := cap) hp (by omega) hr⟩
    simp [Instr.sliceAt, run_under hu, Instr.slice, Instr.sliceBounds, Instr.sliceBound, asIntOf, run_size hel, hc.1, hc2, add_at]
  · rename_i cells ln k n hb hn
    have h1 := carg_rel he hx hb
    have h2 := carg_rel he hh hn
    generalize a.eval x = xx at h1
    generalize a.eval hi = hh' at h2
    cases h2
    cases h1 with
    | @cslice _ _ cap blk o cs hC hl hk hcc =>
      split at hv <;> simp at hv
      rename_i hc
      subst hv
      have hc2 : n ≤ (cap : Int) := by omega
      refine ⟨_, ?_, .cslice (cap := cap) hC hl (by omega) hcc⟩
      simp [Instr.sliceAt, run_under hu, Instr.slice, Instr.sliceBounds, Instr.sliceBound, asIntOf, run_size hel, hc.1, hc2, add_at]
    | @cempty a0 =>
      split at hv <;> simp at hv
      rename_i hc
      subst hv
      have hn0 : n = 0 := by omega
      subst hn0
      refine ⟨.slice (some a0) 0 0, ?_, .cempty⟩
      simp [Instr.sliceAt, run_under hu, Instr.slice, Instr.sliceBounds, Instr.sliceBound, asIntOf, run_size hel, Addr.add]
  · cases hv

theorem bound_run {x : Value} {y : Nat} {code : BoundsCode} {k : IntKind} {n : Int} (hx : x = .int k n) (h0 : 0 ≤ n) (h1 : n ≤ y) (w : World) : (Instr.sliceBound x y code).run P w = .ok n.toNat w := by
  subst hx; simp [Instr.sliceBound, asIntOf, h0, h1]
theorem oint_rel {d : Int} {o : Option Operand} {io : Option IArg} {n : Int} (he : EnvRel φ C e a) (hc : cargo o = some io) (hv : oint e d io = some n) : (o = none ∧ n = d) ∨ ∃ x k, o = some x ∧ a.eval x = .int k n := by
  cases o with
  | none => simp [cargo] at hc; subst hc; simp [oint] at hv; exact .inl ⟨rfl, hv.symm⟩
  | some x =>
    simp only [cargo, Option.map_eq_some_iff] at hc
    obtain ⟨ia, hia, rfl⟩ := hc
    simp only [oint] at hv
    split at hv <;> simp at hv
    rename_i k m hm
    subst hv
    have := carg_rel he hia hm
    generalize hx : a.eval x = xx at this
    cases this
    exact .inr ⟨x, k, rfl, hx⟩
theorem s_sliceArr {t el : TypeId} {n sz : Nat} {x : Operand} {lo hi : Option Operand} {ix : IArg} {ilo ihi : Option IArg} {v : IV} (he : EnvRel φ C e a) (hu : P.underlying t = some (.array n el)) (hs : szT P el = some sz) (hx : carg x = some ix)
    (hlo : cargo lo = some ilo) (hhi : cargo hi = some ihi) (hv : opPure (.sliceArr n sz ix ilo ihi) e = some v) : Gives P (Instr.sliceAt t (a.eval x) (lo.map a.eval) (hi.map a.eval) none) φ C v := by
  intro w
  simp only [opPure] at hv
  split at hv
  case h_2 => cases hv
  rename_i b off l u hb hl hh
  unfold bounds at hv
  split at hv
  case h_2 => cases hv
  rename_i l' u' hbd
  split at hbd <;> simp at hbd
  obtain ⟨rfl, rfl⟩ := hbd
  rename_i hc
  obtain ⟨h1, h2, h3⟩ := hc
  simp at hv
  subst hv
  have hr := carg_rel he hx hb
  generalize a.eval x = xx at hr
  cases hr
  rename_i p hp
  have hbs : (Instr.sliceBounds false n n (lo.map a.eval) (hi.map a.eval) none).run P w = .ok (l.toNat, u.toNat, n) w := by
    rcases oint_rel he hlo hl with ⟨rfl, rfl⟩ | ⟨xl, k, rfl, hxl⟩ <;> rcases oint_rel he hhi hh with ⟨rfl, rfl⟩ | ⟨xh, k', rfl, hxh⟩
    · simp [Instr.sliceBounds]
    · simp [Instr.sliceBounds, bound_run hxh (by omega) h3]
    · have := bound_run (P := P) (code := .sliceB) (y := n) hxl h1 (by omega) w
      simp [Instr.sliceBounds, this]
    · have e1 := bound_run (P := P) (code := .sliceAlen) (y := n) hxh (by omega) h3 w
      have e2 := bound_run (P := P) (code := .sliceB) (y := u.toNat) hxl h1 (by omega) w
      simp [Instr.sliceBounds, e1, e2]
  refine ⟨.slice (some ⟨p.blk, p.off + (if n = l.toNat then off else off + l.toNat * sz), none⟩) (u.toNat - l.toNat) (n - l.toNat), ?_, .slice hp⟩
  simp only [Instr.sliceAt, Sem.run_bind, run_under hu, Result.andThen_ok, Instr.sureAddr, Sem.run_pure, hbs, run_size hs]
  by_cases hn : n = l.toNat
  · simp [hn]
  · simp [hn, add_at, Nat.add_assoc]

theorem s_tassert {t u : TypeId} {d : TypeDesc} {x : Operand} {ix : IArg} {z v : IV} (he : EnvRel φ C e a) (hu : P.underlying t = some d) (hd : ∀ m, d ≠ .interface m) (hx : carg x = some ix) (hz : czv P t = some z) (hv : opPure (.tassert t z ix) e = some v) :
    Gives P (Instr.typeAssert (a.eval x) u t true) φ C v := by
  intro w
  obtain ⟨zv, hzr, hzz⟩ := czv_run (P := P) (φ := φ) (C := C) hz
  simp only [opPure] at hv
  have htup : ∀ {a b : IV} {a' b' : Value}, VRel φ C a a' → VRel φ C b b' → VRel φ C (.tup [a, b]) (.tuple #[a', b']) := fun ha hb => by
    refine .tup rfl fun i hi => ?_
    match i, hi with
    | 0, _ => exact ha
    | 1, _ => exact hb
  split at hv
  · rename_i hb
    have hr := carg_rel he hx hb
    generalize a.eval x = xx at hr
    cases hr
    simp at hv; subst hv
    refine ⟨_, ?_, htup hzz (.bool false)⟩
    simp only [Instr.typeAssert, Sem.run_bind, run_under hu, Result.andThen_ok]
    cases d <;> first | (exact absurd rfl (hd _)) | simp [hzr]
  · rename_i t' v' hb
    have hr := carg_rel he hx hb
    generalize a.eval x = xx at hr
    cases hr
    rename_i y hy
    split at hv <;> simp at hv <;> subst hv <;> rename_i ht
    · refine ⟨_, ?_, htup hy (.bool true)⟩
      simp only [Instr.typeAssert, Sem.run_bind, run_under hu, Result.andThen_ok]
      cases d <;> first | (exact absurd rfl (hd _)) | simp [ht]
    · refine ⟨_, ?_, htup hzz (.bool false)⟩
      simp only [Instr.typeAssert, Sem.run_bind, run_under hu, Result.andThen_ok]
      cases d <;> first | (exact absurd rfl (hd _)) | simp [ht, hzr]
  · cases hv

theorem s_len {t ty : TypeId} {str : Bool} {x : Operand} {ix : IArg} {v : IV} (he : EnvRel φ C e a) (hu : (∃ el, P.underlying t = some (.slice el) ∧ str = false) ∨ (P.underlying t = some .string ∧ str = true)) (hx : carg x = some ix)
    (hv : opPure (.len str ix) e = some v) : Gives P (Builtin.len_ #[t] ty #[a.eval x]) φ C v := by
  intro w
  simp only [opPure] at hv
  split at hv
  · rename_i s hb
    have hr := carg_rel he hx hb
    generalize a.eval x = xx at hr
    cases hr
    split at hv <;> simp at hv
    rename_i hs
    subst hv
    rcases hu with ⟨el, hu, rfl⟩ | ⟨hu, _⟩
    · simp at hs
    · exact ⟨_, by simp [Builtin.len_, run_under hu, goInt], .int _ _⟩
  · rename_i u hns hb
    have hr := carg_rel he hx hb
    generalize a.eval x = xx at hr
    split at hv
    · cases hv
    rename_i hs
    simp only [Option.map_eq_some_iff] at hv
    obtain ⟨n, hn, rfl⟩ := hv
    rcases hu with ⟨el, hu, rfl⟩ | ⟨hu, rfl⟩
    · refine ⟨_, ?_, .int _ _⟩
      unfold sliceLen at hn
      split at hn <;> simp at hn <;> cases hr <;> (try subst hn) <;> first | (simp [Builtin.len_, run_under hu, goInt]; done) | (exact absurd rfl (hns _))
    · simp at hs
  · cases hv

theorem s_mm {at_ : Array TypeId} {ty : TypeId} {mx : Bool} {x y : Operand} {ix iy : IArg} {v : IV} (he : EnvRel φ C e a) (hx : carg x = some ix) (hy : carg y = some iy) (hv : opPure (.mm mx ix iy) e = some v) :
    Gives P (if mx then Builtin.max_ at_ ty #[a.eval x, a.eval y] else Builtin.min_ at_ ty #[a.eval x, a.eval y]) φ C v := by
  intro w
  simp only [opPure] at hv
  split at hv
  · rename_i k n k' m hn hm
    simp at hv; subst hv
    have h1 := carg_rel he hx hn
    have h2 := carg_rel he hy hm
    generalize a.eval x = xx at h1
    generalize a.eval y = yy at h2
    cases h1; cases h2
    refine ⟨_, ?_, .int _ _⟩
    cases mx <;> simp [Builtin.max_, Builtin.min_, Builtin.max2, Builtin.min2]
  · cases hv
end
end Go.Proofs.YtadeojgiiapljaaGreat.Im
namespace Go.Proofs.YtadeojgiiapljaaGreat.Im
open Go
section
variable {P : Program} {φ : Phi} {C : Con} {h h' : IHeap} {e : Env} {a : Act}

def GivesN (P : Program) (s : Sem Next) (φ : Phi) (C : Con) (v : IV) : Prop := ∀ w : World, ∃ x, s.run P w = .ok (.value x) w ∧ VRel φ C v x
theorem Gives.next {s : Sem Value} {v : IV} (hg : Gives P s φ C v) : GivesN P (do pure (.value (← s))) φ C v := fun w => by
  obtain ⟨x, hx, hr⟩ := hg w
  exact ⟨x, by simp [hx], hr⟩

theorem call_builtin {c : Call} {b : Builtin} {ty : TypeId} (hb : c.callee = .builtin b) :
    (do let d ← resolve a.eval c ty; invoke d.target d.args : Sem Next) = builtin b c.argTypes ty (c.args.map fun | .const _ => true | _ => false) (c.args.map a.eval) := by
  unfold resolve
  rw [hb]
  rfl

theorem ccall_pure {c : Call} {ty : TypeId} {io : IOp} {v : IV} (he : EnvRel φ C e a) (hc : ccall P c = some io) (hcl : io.cls = .pure) (hv : opPure io e = some v) :
    GivesN P (do let d ← resolve a.eval c ty; invoke d.target d.args) φ C v := by
  obtain ⟨callee, ⟨args⟩, ⟨ats⟩⟩ := c
  unfold ccall at hc
  split at hc
  · split at hc <;> simp at hc
    subst hc; simp [IOp.cls] at hcl
  · cases hc
  · rename_i b hb
    simp only at hb
    subst hb
    simp only at hc
    rw [call_builtin rfl]
    split at hc
    · split at hc
      · split at hc
        · split at hc <;> simp at hc
          subst hc; simp [IOp.cls] at hcl
        · cases hc
      · cases hc
    · simp only [builtin, List.map_toArray, List.map_cons, List.map_nil]
      split at hc
      · rename_i el hu
        simp only [Option.map_eq_some_iff] at hc
        obtain ⟨ix, hix, rfl⟩ := hc
        exact (s_len he (.inl ⟨el, hu, rfl⟩) hix hv).next
      · rename_i hu
        simp only [Option.map_eq_some_iff] at hc
        obtain ⟨ix, hix, rfl⟩ := hc
        exact (s_len he (.inr ⟨hu, rfl⟩) hix hv).next
      · cases hc
    · split at hc <;> simp at hc
      rename_i ix iy hx hy
      subst hc
      simp only [builtin, List.map_toArray, List.map_cons, List.map_nil]
      exact (s_mm (at_ := ⟨ats⟩) (ty := ty) he hx hy hv).next
    · split at hc <;> simp at hc
      rename_i ix iy hx hy
      subst hc
      simp only [builtin, List.map_toArray, List.map_cons, List.map_nil]
      exact (s_mm (at_ := ⟨ats⟩) (ty := ty) he hx hy hv).next
    · cases hc

theorem vpure {x : Value} {v : IV} (hr : VRel φ C v x) : GivesN P (pure (.value x)) φ C v := fun _ => ⟨x, rfl, hr⟩

theorem sound_pure {o : Oper} {io : IOp} {v : IV} (he : EnvRel φ C e a) (hc : cop P o.op = some io) (hcl : io.cls = .pure) (hv : opPure io e = some v) : GivesN P (execOp a.eval o) φ C v := by
  obtain ⟨dst, op, ty, pos, after, guard⟩ := o
  simp only at hc
  cases op with
  | move x =>
    simp only [cop, Option.map_eq_some_iff] at hc
    obtain ⟨ix, hix, rfl⟩ := hc
    exact vpure (carg_rel he hix hv)
  | assign x =>
    simp only [cop, Option.map_eq_some_iff] at hc
    obtain ⟨ix, hix, rfl⟩ := hc
    exact vpure (carg_rel he hix hv)
  | pick c x y =>
    simp only [cop] at hc
    split at hc <;> simp at hc
    rename_i ic ix iy h1 h2 h3
    subst hc
    have := (s_pick (P := P) he h1 h2 h3 hv)
    intro w
    obtain ⟨z, hz, hr⟩ := this w
    refine ⟨z, ?_, hr⟩
    simp only [execOp, Sem.run_bind] at hz ⊢
    revert hz
    generalize (asBool (a.eval c)).run P w = r
    cases r <;> simp
  | alloc t => simp only [cop, Option.map_eq_some_iff] at hc; obtain ⟨_, _, rfl⟩ := hc; simp [IOp.cls] at hcl
  | box t x => simp only [cop, Option.map_eq_some_iff] at hc; obtain ⟨_, _, rfl⟩ := hc; simp [IOp.cls] at hcl
  | build t ps =>
    obtain ⟨ps⟩ := ps
    simp only [cop] at hc
    split at hc
    · rename_i fs hu
      split at hc
      · rename_i z pl hz hpl
        simp only [Option.map_eq_some_iff] at hc
        obtain ⟨is, his, rfl⟩ := hc
        exact (s_build he hu hz hpl his hv).next
      · cases hc
    · rename_i n el hu
      split at hc
      · rename_i z hz
        split at hc
        · rename_i i hi
          split at hc
          · rename_i zv hzv
            split at hc <;> simp at hc
            rename_i hall
            subst hc
            intro w
            obtain ⟨x, hx, hr⟩ := s_rep (φ := φ) (C := C) hu hz hi hzv hall hv w
            exact ⟨x, by simp [execOp, hx], hr⟩
          · cases hc
        · cases hc
      · cases hc
    · cases hc
  | buildSlice t len ps =>
    simp only [cop] at hc
    split at hc
    · split at hc
      · split at hc
        · split at hc <;> simp at hc
          subst hc; simp [IOp.cls] at hcl
        · cases hc
      · cases hc
    · cases hc
  | load t x =>
    simp only [cop] at hc
    split at hc <;> simp at hc <;> subst hc <;> simp [IOp.cls] at hcl
  | store t x y =>
    simp only [cop] at hc
    split at hc <;> simp at hc
    subst hc; simp [IOp.cls] at hcl
  | nilCheck x =>
    simp only [cop, Option.map_eq_some_iff] at hc
    obtain ⟨ix, hix, rfl⟩ := hc
    simp only [opPure] at hv
    intro w
    split at hv
    · rename_i hb
      simp at hv; subst hv
      have hr := carg_rel he hix hb
      generalize hxx : a.eval x = xx at hr
      refine ⟨a.eval x, ?_, by rw [hxx]; exact hr⟩
      cases hr
      simp [execOp, hxx]
    · rename_i hb
      simp at hv; subst hv
      have hr := carg_rel he hix hb
      generalize hxx : a.eval x = xx at hr
      refine ⟨a.eval x, ?_, by rw [hxx]; exact hr⟩
      cases hr
      simp [execOp, hxx]
    · cases hv
  | binOp op t x y yt =>
    simp only [cop] at hc
    split at hc
    case h_2 => cases hc
    rename_i ix iy hx hy
    have hbin : ∀ {z : IV}, opPure (.bin op ix iy) e = some z → ((op ≠ .eql ∧ op ≠ .neq) ∨ (∃ d, P.underlying t = some d ∧ ((∃ k, d = .int k) ∨ d = .string))) → GivesN P (execOp a.eval ⟨dst, .binOp op t x y yt, ty, pos, after, guard⟩) φ C z := by
      intro z hz hop
      simp only [opPure] at hz
      split at hz
      case h_2 => cases hz
      rename_i u v hu hv
      have h1 := carg_rel he hx hu
      have h2 := carg_rel he hy hv
      intro w
      have hg : (eqGuard op t x y (a.eval x) (a.eval y)).run P w = .ok () w := by
        refine guard_plain w (.inr ?_)
        generalize a.eval x = xx at h1
        unfold binI at hz
        split at hz <;> cases h1 <;> first | (simp; done) | cases hz
      obtain ⟨r, hr, hrr⟩ := s_binI (P := P) (t := t) h1 h2 hz w
      exact ⟨r, by simp [execOp, hg, hr], hrr⟩
    split at hc
    · split at hc
      · rename_i k hu; simp at hc; subst hc; exact hbin hv (.inr ⟨_, hu, .inl ⟨_, rfl⟩⟩)
      · rename_i hu; simp at hc; subst hc; exact hbin hv (.inr ⟨_, hu, .inr rfl⟩)
      · rename_i hu
        simp at hc; subst hc
        simp only [opPure] at hv
        split at hv
        case h_2 => cases hv
        rename_i b c hb hcc
        simp only [Option.some.injEq] at hv
        subst hv
        have := (s_eqbool (P := P) (op := .eql) (.inl rfl) (carg_rel he hx hb) (carg_rel he hy hcc) hu).next
        exact this
      · rename_i fs hu
        simp only [Option.map_eq_some_iff] at hc
        obtain ⟨ks, hks, rfl⟩ := hc
        simp only [opPure] at hv
        split at hv
        case h_2 => cases hv
        rename_i xs ys hxs hys
        exact (s_eqflat (P := P) (op := .eql) (.inl rfl) (carg_rel he hx hxs) (carg_rel he hy hys) hu hks hv).next
      · rename_i d _ _ _ _ hu
        split at hc
        case h_2 => cases hc
        rename_i k hk
        split at hc <;> simp at hc
        rename_i hn
        subst hc
        simp only [opPure] at hv
        split at hv
        case h_2 => cases hv
        rename_i u hu'
        exact (s_isnil (P := P) (op := .eql) (.inl rfl) (carg_rel he hx hu') hu hk hn hv).next
      · cases hc
    · split at hc
      · rename_i k hu; simp at hc; subst hc; exact hbin hv (.inr ⟨_, hu, .inl ⟨_, rfl⟩⟩)
      · rename_i hu; simp at hc; subst hc; exact hbin hv (.inr ⟨_, hu, .inr rfl⟩)
      · rename_i hu
        simp at hc; subst hc
        simp only [opPure] at hv
        split at hv
        case h_2 => cases hv
        rename_i b c hb hcc
        simp only [Option.some.injEq] at hv
        subst hv
        have := (s_eqbool (P := P) (op := .neq) (.inr rfl) (carg_rel he hx hb) (carg_rel he hy hcc) hu).next
        exact this
      · rename_i fs hu
        simp only [Option.map_eq_some_iff] at hc
        obtain ⟨ks, hks, rfl⟩ := hc
        simp only [opPure] at hv
        split at hv
        case h_2 => cases hv
        rename_i xs ys hxs hys
        exact (s_eqflat (P := P) (op := .neq) (.inr rfl) (carg_rel he hx hxs) (carg_rel he hy hys) hu hks hv).next
      · rename_i d _ _ _ _ hu
        split at hc
        case h_2 => cases hc
        rename_i k hk
        split at hc <;> simp at hc
        rename_i hn
        subst hc
        simp only [opPure] at hv
        split at hv
        case h_2 => cases hv
        rename_i u hu'
        exact (s_isnil (P := P) (op := .neq) (.inr rfl) (carg_rel he hx hu') hu hk hn hv).next
      · cases hc
    · rename_i h1 h2
      simp at hc; subst hc
      exact hbin hv (.inl ⟨fun h => h1 h, fun h => h2 h⟩)
  | unOp op t x =>
    simp only [cop, Option.map_eq_some_iff] at hc
    obtain ⟨ix, hix, rfl⟩ := hc
    simp only [opPure] at hv
    split at hv
    · rename_i u hu; exact (s_un (carg_rel he hix hu) hv).next
    · cases hv
  | convert s d x =>
    simp only [cop] at hc
    split at hc
    · rename_i k0 k ix hs hd hx
      simp at hc; subst hc
      simp only [opPure] at hv
      split at hv <;> simp at hv
      rename_i kk n hn
      subst hv
      have hr := carg_rel he hx hn
      intro w
      generalize hxx : a.eval x = xx at hr
      cases hr
      refine ⟨_, ?_, .int _ _⟩
      simp [execOp, hxx, convert, run_under hs, run_under hd, Conv.intToInt]
    · split at hc <;> simp at hc
      subst hc; simp [IOp.cls] at hcl
    · cases hc
  | makeInterface t x =>
    simp only [cop] at hc
    split at hc
    · cases hc
    · rename_i d hni hu
      simp only [Option.map_eq_some_iff] at hc
      obtain ⟨ix, hix, rfl⟩ := hc
      simp only [opPure] at hv
      split at hv <;> simp at hv
      rename_i u hu'
      subst hv
      intro w
      refine ⟨_, ?_, .iface (carg_rel he hix hu')⟩
      simp only [execOp, Instr.makeInterface, Sem.run_bind, run_under hu, Result.andThen_ok]
      cases d <;> first | (exact absurd hu (hni _)) | rfl
    · cases hc
  | makeFunc fn f c =>
    obtain ⟨f⟩ := f
    obtain ⟨c⟩ := c
    simp only [cop] at hc
    split at hc <;> simp at hc
    rename_i fi ci h1 h2
    subst hc
    simp only [opPure] at hv
    split at hv <;> simp at hv
    rename_i fv cv h3 h4
    subst hv
    intro w
    have e1 := cargs_rel he h1 h3
    have e2 := cargs_rel he h2 h4
    exact ⟨_, by simp [execOp, Instr.makeFunc], .func e1.1 e2.1 e1.2 e2.2⟩
  | makeMap t r =>
    cases r <;> simp [cop] at hc
    subst hc; simp [IOp.cls] at hcl
  | makeSlice t l c =>
    simp only [cop] at hc
    split at hc
    · split at hc
      · split at hc <;> simp at hc
        subst hc; simp [IOp.cls] at hcl
      · cases hc
    · cases hc
  | slice t x lo hi mx =>
    cases mx with
    | some m => simp [cop] at hc
    | none =>
      simp only [cop] at hc
      split at hc
      · rename_i el ix ih hu hx hlo hhi
        split at hc <;> simp at hc
        rename_i sn hsn
        subst hc
        have e1 : lo = none := by cases lo <;> simp [cargo] at hlo ⊢
        obtain ⟨y, rfl, hy⟩ : ∃ y, hi = some y ∧ carg y = some ih := by cases hi <;> simp [cargo] at hhi; exact ⟨_, rfl, hhi⟩
        subst e1
        exact (s_sliceTo he hu ⟨sn, hsn⟩ hx hy hv).next
      · rename_i n el ix ilo ihi hu hx hlo hhi
        split at hc <;> simp at hc
        rename_i s hs
        subst hc
        exact (s_sliceArr he hu hs hx hlo hhi hv).next
      · cases hc
  | fieldAddr s x f =>
    simp only [cop] at hc
    split at hc
    · rename_i fs ix hu hx
      split at hc
      · rename_i fd hf
        split at hc
        · rename_i n hn
          split at hc <;> simp at hc
          rename_i h0
          subst hc
          exact (s_faddr he hu hf hn h0 hx hv).next
        · cases hc
      · cases hc
    · cases hc
  | field t x f =>
    simp only [cop] at hc
    split at hc
    · rename_i fs ix hu hx
      split at hc
      · rename_i fd hf
        split at hc
        · rename_i n hag hn
          simp at hc; subst hc
          exact (s_field he hu hf hx (.inl ⟨n, rfl, hag, hn⟩) hv).next
        · rename_i hag
          simp at hc; subst hc
          exact (s_field he hu hf hx (.inr ⟨rfl, hag⟩) hv).next
        · cases hc
      · cases hc
    · cases hc
  | indexAddr t x i =>
    simp only [cop] at hc
    split at hc
    · rename_i n el ix ii hu hx hi
      simp only [Option.map_eq_some_iff] at hc
      obtain ⟨s, hs, rfl⟩ := hc
      exact (s_iaddr he (.inl ⟨n, rfl, hu⟩) hs hx hi hv).next
    · rename_i el ix ii hu hx hi
      simp only [Option.map_eq_some_iff] at hc
      obtain ⟨s, hs, rfl⟩ := hc
      exact (s_iaddr he (.inr ⟨rfl, hu⟩) hs hx hi hv).next
    · cases hc
  | index t x i =>
    simp only [cop] at hc
    split at hc <;> simp at hc
    rename_i ix ii hu hx hi
    subst hc
    exact (s_idx he hu hx hi hv).next
  | lookup t m k ok =>
    simp only [cop] at hc
    split at hc
    · split at hc <;> simp at hc <;> subst hc <;> simp [IOp.cls] at hcl
    · cases hc
  | mapUpdate t m k v =>
    simp only [cop] at hc
    split at hc
    · split at hc <;> simp at hc <;> subst hc <;> simp [IOp.cls] at hcl
    · cases hc
  | insert t m k v =>
    simp only [cop] at hc
    split at hc
    · split at hc <;> simp at hc <;> subst hc <;> simp [IOp.cls] at hcl
    · cases hc
  | mapEntry t m k =>
    simp only [cop] at hc
    split at hc
    · split at hc <;> simp at hc <;> subst hc <;> simp [IOp.cls] at hcl
    · cases hc
  | entryStore t m s v =>
    simp only [cop] at hc
    split at hc <;> simp at hc
    subst hc; simp [IOp.cls] at hcl
  | typeAssert x xt as ok =>
    cases ok with
    | false => simp [cop] at hc
    | true =>
      simp only [cop] at hc
      split at hc
      · cases hc
      · rename_i d ix z hni hu hx hz
        simp at hc; subst hc
        exact (s_tassert he hu (fun m hm => hni m hm) hx hz hv).next
      · cases hc
  | extract t i =>
    simp only [cop, Option.map_eq_some_iff] at hc
    obtain ⟨ix, hix, rfl⟩ := hc
    simp only [opPure] at hv
    split at hv
    · rename_i vs hvs
      have hr := carg_rel he hix hvs
      intro w
      generalize hxx : a.eval t = xx at hr
      cases hr with
      | @tup _ cs' hl hr =>
      obtain ⟨y, hy, hyr⟩ := (show VRels φ C vs cs' from ⟨hl, hr⟩).getD hv
      exact ⟨y, by simp [execOp, hxx, Instr.extract, hy], hyr⟩
    · cases hv
  | call c => exact ccall_pure he hc hcl hv
  | panic x => simp only [cop, Option.map_eq_some_iff] at hc; obtain ⟨_, _, rfl⟩ := hc; simp [IOp.cls] at hcl
  | _ => simp [cop] at hc
end
end Go.Proofs.YtadeojgiiapljaaGreat.Im
namespace Go.Proofs.YtadeojgiiapljaaGreat.Im
open Go
section
variable {P : Program} {φ : Phi} {C : Con} {h h' : IHeap} {e : Env} {a : Act} {w : World}

def kindOf : Bool → TypeDesc → Prop
  | false, d => ∃ k, d = .int k
  | true, d => d = .string
theorem sameNow_rel {ks : Bool} {d : TypeDesc} {x y : IV} {x' y' : Value} {b : Bool} (hd : kindOf ks d) (hk : keyOk ks x = true) (hx : VRel φ C x x') (hy : VRel φ C y y') (hb : keyIs x y = some b) : Instr.sameNow d x' y' = some b := by
  cases ks
  · obtain ⟨k, rfl⟩ := hd
    cases x <;> simp [keyOk] at hk
    cases y <;> simp [keyIs] at hb
    cases hx; cases hy
    simp [Instr.sameNow, hb]
  · cases hd
    cases x <;> simp [keyOk] at hk
    cases y <;> simp [keyIs] at hb
    cases hx; cases hy
    simp [Instr.sameNow, hb]
theorem find_rel {ks : Bool} {d : TypeDesc} {x : IV} {x' : Value} (hd : kindOf ks d) (hk : keyOk ks x = true) (hx : VRel φ C x x') : ∀ {es : List IEntry} {es' : List MapEntry} {i : Nat} {r : Option (Nat × IV)},
    es.length = es'.length → (∀ (j : Nat) (p : IEntry) (q : MapEntry), es[j]? = some p → es'[j]? = some q → ERel φ C p q) → findI x es i = some r →
    ∃ r', Instr.findNow d x' es' i = some r' ∧ ((r = none ∧ r' = none) ∨ ∃ j v v', r = some (j, v) ∧ r' = some (j, v') ∧ VRel φ C v v' ∧ i ≤ j ∧ j - i < es.length)
  | [], es', i, r, hl, he, hf => by
    obtain rfl : es' = [] := List.eq_nil_of_length_eq_zero (by simpa using hl.symm)
    simp [findI] at hf
    exact ⟨none, rfl, .inl ⟨hf.symm, rfl⟩⟩
  | p :: es, es', i, r, hl, he, hf => by
    obtain ⟨q, es', rfl⟩ : ∃ q l, es' = q :: l := by
      cases es' with
      | nil => simp at hl
      | cons q l => exact ⟨q, l, rfl⟩
    have h0 := he 0 p q rfl rfl
    simp only [findI] at hf
    split at hf
    · rename_i hb
      simp at hf
      refine ⟨some (i, q.val), ?_, .inr ⟨i, p.val, q.val, hf.symm, rfl, h0.val, Nat.le_refl _, by simp⟩⟩
      simp [Instr.findNow, sameNow_rel hd hk hx h0.key hb]
    · rename_i hb
      obtain ⟨r', hr', hc⟩ := find_rel hd hk hx (es := es) (es' := es') (i := i + 1) (by simpa using hl) (fun j p' q' h1 h2 => he (j + 1) p' q' (by simpa using h1) (by simpa using h2)) hf
      refine ⟨r', ?_, ?_⟩
      · simp [Instr.findNow, sameNow_rel hd hk hx h0.key hb, hr']
      · rcases hc with h | ⟨j, v, v', h1, h2, h3, h4, h5⟩
        · exact .inl h
        · exact .inr ⟨j, v, v', h1, h2, h3, by omega, by simp; omega⟩
    · cases hf
theorem checkKey_run {ks em : Bool} {n : Nat} {t : TypeId} {d : TypeDesc} {v : Value} (hu : P.underlying t = some d) (hd : kindOf ks d) (w : World) : (Instr.checkKey em (n + 1) t v).run P w = .ok () w := by
  cases ks
  · obtain ⟨k, rfl⟩ := hd
    simp [Instr.checkKey, run_under hu]
  · cases hd
    simp [Instr.checkKey, run_under hu]
theorem checkKey_run' {ks em : Bool} {t : TypeId} {d : TypeDesc} {v : Value} (hu : P.underlying t = some d) (hd : kindOf ks d) (w : World) : (Instr.checkKey em 10000 t v).run P w = .ok () w := checkKey_run (n := 9999) hu hd w
theorem findKey_run {ks : Bool} {t : TypeId} {d : TypeDesc} {x : IV} {x' : Value} {es : List IEntry} {es' : Array MapEntry} {r : Option (Nat × IV)} (hu : P.underlying t = some d) (hd : kindOf ks d) (hk : keyOk ks x = true) (hx : VRel φ C x x')
    (he : ERels φ C es es') (hf : findI x es 0 = some r) : ∃ r', (∀ w, (Instr.findKey t x' es'.toList).run P w = .ok r' w) ∧ ((r = none ∧ r' = none) ∨ ∃ j v v', r = some (j, v) ∧ r' = some (j, v') ∧ VRel φ C v v' ∧ j < es.length) := by
  obtain ⟨r', hr', hc⟩ := find_rel hd hk hx (es := es) (es' := es'.toList) (i := 0) (by simpa using he.1) (fun j p q h1 h2 => he.2 j p q h1 (by simpa using h2)) hf
  refine ⟨r', fun w => by simp [Instr.findKey, run_under hu, hr'], ?_⟩
  rcases hc with h | ⟨j, v, v', h1, h2, h3, h4, h5⟩
  · exact .inl h
  · exact .inr ⟨j, v, v', h1, h2, h3, by simpa using h5⟩

theorem getObj_map {r : Nat} {es : Array MapEntry} {c : Nat} (hw : w.heap[r]? = some (.map es c)) : (getObj r).run P w = .ok (.map es c) w := by simp [getObj, Sem.run, hw]
theorem setObj_map {r : Nat} {es : Array MapEntry} {c : Nat} {o : Obj} (hw : w.heap[r]? = some (.map es c)) : (setObj r o).run P w = .ok () { w with heap := w.heap.setIfInBounds r o } := by simp [setObj, Sem.run, hw]

theorem tup2 {u v : IV} {x y : Value} (hu : VRel φ C u x) (hv : VRel φ C v y) : VRel φ C (.tup [u, v]) (.tuple #[x, y]) := by
  refine .tup rfl fun i hi => ?_
  match i, hi with
  | 0, _ => exact hu
  | 1, _ => exact hv

theorem lookup_run (r : Rel φ C h w) {ks : Bool} {t kt el : TypeId} {d : TypeDesc} {z m k v : IV} {m' k' : Value} {ok : Bool} (hu : P.underlying t = some (.map kt el)) (hk : P.underlying kt = some d) (hd : kindOf ks d) (hz : czv P el = some z)
    (hm : VRel φ C m m') (hkr : VRel φ C k k') (hv : lookupI h ks z m k ok = some v) : ∃ x, (Instr.lookup t m' k' ok).run P w = .ok x w ∧ VRel φ C v x := by
  obtain ⟨zv, hzr, hzz⟩ := czv_run (P := P) (φ := φ) (C := C) hz
  unfold lookupI at hv
  split at hv
  · cases hv
  rename_i hko
  simp at hko
  have fin : ∀ (es : List IEntry) (es' : Array MapEntry), ERels φ C es es' → (match findI k es 0 with
      | none => none
      | some r =>
        let (v, b) := match r with | some (_, v) => (v, true) | none => (z, false)
        some (if ok then IV.tup [v, .bool b] else v)) = some v →
      ∃ r', (∀ w, (Instr.findKey kt k' es'.toList).run P w = .ok r' w) ∧ VRel φ C v (match r' with
        | some (_, x) => if ok then .tuple #[x, .bool true] else x
        | none => if ok then .tuple #[zv, .bool false] else zv) := by
    intro es es' hes hv
    split at hv
    · cases hv
    rename_i r hr
    obtain ⟨r', hr', hc⟩ := findKey_run hk hd hko hkr hes hr
    refine ⟨r', hr', ?_⟩
    rcases hc with ⟨rfl, rfl⟩ | ⟨j, u, u', rfl, rfl, hru, _⟩
    · simp at hv
      subst hv
      cases ok
      · exact hzz
      · exact tup2 hzz (.bool _)
    · simp at hv
      subst hv
      cases ok
      · exact hru
      · exact tup2 hru (.bool _)
  have mk : ∀ (es' : Array MapEntry) r', (∀ w, (Instr.findKey kt k' es'.toList).run P w = .ok r' w) → ((∃ b c, m' = .map (some b) ∧ w.heap[b]? = some (.map es' c)) ∨ (m' = .map none ∧ es' = #[])) →
      (Instr.lookup t m' k' ok).run P w = .ok (match r' with
        | some (_, x) => if ok then .tuple #[x, .bool true] else x
        | none => if ok then .tuple #[zv, .bool false] else zv) w := by
    intro es' r' hr' hm
    rcases hm with ⟨b, c, rfl, hw⟩ | ⟨rfl, rfl⟩
    · simp only [Instr.lookup, Sem.run_bind, run_under hu, Result.andThen_ok, getObj_map hw, Sem.run_pure, checkKey_run' hk hd, hr']
      rcases r' with _ | ⟨j, x⟩
      · simp [hzr]
      · simp
    · simp only [Instr.lookup, Sem.run_bind, run_under hu, Result.andThen_ok, Sem.run_pure, checkKey_run' hk hd, hr']
      rcases r' with _ | ⟨j, x⟩
      · simp [hzr]
      · simp
  cases hm with
  | nilm =>
    obtain ⟨r', h1, h2⟩ := fin [] #[] ⟨rfl, fun i p q h1 _ => by simp at h1⟩ hv
    exact ⟨_, mk #[] r' h1 (.inr ⟨rfl, rfl⟩), h2⟩
  | @map b p hp =>
    simp only at hv
    split at hv
    · cases hv
    rename_i es hes
    split at hes
    · rename_i es0 c hg
      cases hes
      obtain ⟨es'', hw, hes''⟩ := r.mp b p _ _ hp hg
      obtain ⟨r', h1, h2⟩ := fin es es'' hes'' hv
      exact ⟨_, mk es'' r' h1 (.inl ⟨_, _, rfl, hw⟩), h2⟩
    · cases hes
  | _ => cases hv

theorem sound_read (r : Rel φ C h w) {o : Oper} {io : IOp} {v : IV} (he : EnvRel φ C e a) (hc : cop P o.op = some io) (hcl : io.cls = .read) (hv : opRead io e h = some v) :
    ∃ x, (execOp a.eval o).run P w = .ok (.value x) w ∧ VRel φ C v x := by
  obtain ⟨dst, op, ty, pos, after, guard⟩ := o
  simp only at hc
  cases op with
  | load t x =>
    simp only [cop] at hc
    split at hc
    · rename_i n ix hag hn hx
      simp at hc; subst hc
      simp only [opRead] at hv
      split at hv
      case h_2 => cases hv
      rename_i u hu
      simp only [Option.map_eq_some_iff] at hv
      obtain ⟨us, hus, rfl⟩ := hv
      obtain ⟨ad, xs, hxx, hlen, hr, hrun⟩ := r.loadN (P := P) (carg_rel he hx hu) hus
      refine ⟨.agg xs, ?_, .agg hr.1 hr.2⟩
      simp [execOp, hxx, Instr.loadAt, Instr.sureAddr, loadVar, run_agg hag, run_size hn, hrun]
    · rename_i n ix hag hn hx
      simp at hc; subst hc
      simp only [opRead] at hv
      split at hv
      case h_2 => cases hv
      rename_i u hu
      obtain ⟨ad, y, hxx, hs, hcell, hr⟩ := r.load1 (carg_rel he hx hu) hv
      refine ⟨y, ?_, hr⟩
      simp [execOp, hxx, Instr.loadAt, Instr.sureAddr, loadVar, run_agg hag, hcell]
    · cases hc
  | lookup t m k ok =>
    simp only [cop] at hc
    split at hc
    case h_2 => cases hc
    rename_i kt el im ik hu hm hk
    split at hc
    · rename_i kk z hkt hz
      simp at hc; subst hc
      simp only [opRead] at hv
      split at hv
      case h_2 => cases hv
      rename_i mv kv hmv hkv
      obtain ⟨x, hx, hr⟩ := lookup_run r (ks := false) hu hkt ⟨kk, rfl⟩ hz (carg_rel he hm hmv) (carg_rel he hk hkv) hv
      exact ⟨x, by simp [execOp, hx], hr⟩
    · rename_i z hkt hz
      simp at hc; subst hc
      simp only [opRead] at hv
      split at hv
      case h_2 => cases hv
      rename_i mv kv hmv hkv
      obtain ⟨x, hx, hr⟩ := lookup_run r (ks := true) hu hkt rfl hz (carg_rel he hm hmv) (carg_rel he hk hkv) hv
      exact ⟨x, by simp [execOp, hx], hr⟩
    · cases hc
  | makeMap t r =>
    cases r <;> simp [cop] at hc
    subst hc; simp [IOp.cls] at hcl
  | slice t x lo hi mx =>
    cases mx with
    | some m => simp [cop] at hc
    | none =>
      simp only [cop] at hc
      split at hc
      · split at hc <;> simp at hc
        subst hc; simp [IOp.cls] at hcl
      · split at hc <;> simp at hc
        subst hc; simp [IOp.cls] at hcl
      · cases hc
  | typeAssert x xt as ok =>
    cases ok with
    | false => simp [cop] at hc
    | true =>
      simp only [cop] at hc
      split at hc <;> simp at hc
      subst hc; simp [IOp.cls] at hcl
  | _ =>
    exfalso
    revert hcl
    simp only [cop, ccall] at hc
    repeat' split at hc
    all_goals first
      | (simp only [Option.some.injEq] at hc; subst hc; simp [IOp.cls]; done)
      | (simp only [Option.map_eq_some_iff] at hc; obtain ⟨_, _, rfl⟩ := hc; simp [IOp.cls]; done)
      | (simp at hc; done)

/-- A value with one cell each, as cells. -/
theorem ones_rel {v : IV} {x : Value} (hv : VRel φ C v x) : ∀ (i : Nat) (u : IV), v.cells[i]? = some u → ∃ y, x.cells[i]? = some y ∧ VRel φ C u y := fun i u hu => hv.cells.getD hu

theorem wrap_small {n : Int} (h0 : 0 ≤ n) (h1 : n < 2 ^ 63) : IntKind.i64.wrap n = n := by
  have e : n % 2 ^ IntKind.i64.bits = n := Int.emod_eq_of_lt h0 (by show n < 2 ^ 64; omega)
  unfold IntKind.wrap
  simp only [e]
  rw [if_neg]
  simp [IntKind.signed, IntKind.bits]
  omega
theorem flat_rep {α : Type} (z : List α) (n i : Nat) (hi : i < n * z.length) : ((List.replicate n z).flatten)[i]? = z[i % z.length]? := by
  induction n generalizing i with
  | zero => simp at hi
  | succ n ih =>
    rw [List.replicate_succ, List.flatten_cons]
    by_cases h : i < z.length
    · rw [List.getElem?_append_left h, Nat.mod_eq_of_lt h]
    · have hi' := hi
      rw [Nat.add_mul, Nat.one_mul] at hi'
      rw [List.getElem?_append_right (by omega), ih _ (by omega)]
      congr 1
      exact (Nat.mod_eq_sub_mod (by omega)).symm
theorem flat_len {α : Type} (z : List α) (n : Nat) : ((List.replicate n z).flatten).length = n * z.length := by
  induction n with
  | zero => simp
  | succ n ih => rw [List.replicate_succ, List.flatten_cons, List.length_append, ih, Nat.succ_mul, Nat.add_comm]
theorem zeros_rel {z : List IV} {zs : Array Value} (hz : VRels φ C z zs) (n : Nat) : VRels φ C (List.replicate n z).flatten ((Array.range (n * z.length)).map (zs[· % zs.size]!)) := by
  refine .of_get (by rw [flat_len]; simp) fun i u y hu hy => ?_
  have hi : i < n * z.length := by
    have := (List.getElem?_eq_some_iff.1 hu).1
    rwa [flat_len] at this
  rw [flat_rep z n i hi] at hu
  have hpos : 0 < z.length := by
    rcases Nat.eq_zero_or_pos z.length with h | h
    · rw [h] at hi; omega
    · exact h
  have hlt : i % z.length < zs.size := by rw [← hz.1]; exact Nat.mod_lt _ hpos
  simp [hi] at hy
  refine hz.get hu ?_
  rw [← hy, ← hz.1]
  simp [hlt]

/-- What is made: the block, and the value. -/
theorem sound_new {o : Oper} {io : IOp} {b : IObj} {mk : Nat → IV} (he : EnvRel φ C e a) (hc : cop P o.op = some io) (hcl : io.cls = .new) (hv : opNew io e = some (b, mk)) :
    ∃ (ob : Obj) (lim : Nat) (mk' : Nat → Value), (∀ w : World, (execOp a.eval o).run P w = .ok (.value (mk' w.heap.size)) (w.alloc ob)) ∧
      (∀ cells, b = .row cells → ∃ cs E, ob = .cells cs E (0, 0) ∧ lim ≤ cs.size ∧ cells.length ≤ lim ∧ ∀ (i : Nat) (v : IV), cells[i]? = some v → ∃ x, cs[i]? = some x ∧ VRel φ C v x) ∧
      (∀ es clock, b = .map es clock → ∃ es', ob = .map es' clock ∧ ERels φ C es es') ∧ b ≠ .dead ∧
      (∀ (φ' : Phi) (C' : Con) n k, φ' n = some ⟨k, 0, lim⟩ → VRel φ' C' (mk n) (mk' k)) := by
  obtain ⟨dst, op, ty, pos, after, guard⟩ := o
  simp only at hc
  have rows : ∀ {cells : List IV} {cs : Array Value} {E : TypeId}, VRels φ C cells cs → ∀ cells', IObj.row cells = .row cells' → ∃ cs' E', Obj.cells cs E (0, 0) = .cells cs' E' (0, 0) ∧ cs.size ≤ cs'.size ∧ cells'.length ≤ cs.size ∧
      ∀ (i : Nat) (v : IV), cells'[i]? = some v → ∃ x, cs'[i]? = some x ∧ VRel φ C v x := by
    intro cells cs E hr cells' he
    cases he
    exact ⟨cs, E, rfl, Nat.le_refl _, by rw [hr.1]; exact Nat.le_refl _, fun i v hv => hr.getD hv⟩
  cases op with
  | alloc t =>
    simp only [cop, Option.map_eq_some_iff] at hc
    obtain ⟨z, hz, rfl⟩ := hc
    simp [opNew] at hv
    obtain ⟨rfl, rfl⟩ := hv
    obtain ⟨zv, i, hi, _, hzr, hzc, _⟩ := czs_run (P := P) (φ := φ) (C := C) hz
    refine ⟨.cells zv.cells t (0, 0), zv.cells.size, fun k => .pointer (some ⟨k, 0, none⟩), fun w => ?_, rows hzc, by simp, by simp, fun φ' C' n k hn => .ptr hn⟩
    simp [execOp, Instr.alloc, hzr, newVar, newRow]
  | box t x =>
    simp only [cop, Option.map_eq_some_iff] at hc
    obtain ⟨ix, hx, rfl⟩ := hc
    simp only [opNew] at hv
    split at hv
    case h_2 => cases hv
    rename_i u hu
    split at hv <;> simp at hv
    obtain ⟨rfl, rfl⟩ := hv
    have hr := (carg_rel he hx hu).cells
    refine ⟨.cells (a.eval x).cells t (0, 0), (a.eval x).cells.size, fun k => .pointer (some ⟨k, 0, none⟩), fun w => ?_, rows hr, by simp, by simp, fun φ' C' n k hn => .ptr hn⟩
    simp [execOp, Instr.box, newVar, newRow]
  | buildSlice t len ps =>
    simp only [cop] at hc
    split at hc
    case h_2 => cases hc
    rename_i el hu
    split at hc
    case h_2 => cases hc
    rename_i s z hs hz
    split at hc
    case isFalse => cases hc
    rename_i hcond
    obtain ⟨hle, hzl, hs0⟩ := hcond
    split at hc <;> simp at hc
    rename_i ips hips
    subst hc
    simp only [opNew] at hv
    split at hv
    case h_2 => cases hv
    rename_i vs hvs
    split at hv
    case h_2 => cases hv
    rename_i cells hcells
    split at hv <;> simp at hv
    obtain ⟨rfl, rfl⟩ := hv
    obtain ⟨zv, i, hi, _, hzr, hzc, _⟩ := czs_run (P := P) (φ := φ) (C := C) hz
    have hzz := zeros_rel hzc len
    rw [hzl] at hzz
    obtain ⟨ar, har, hr⟩ := fill_rel he hips hvs hzz hcells
    have har' : Instr.fill (fun i => some (i * s, s)) ((Array.range (len * s)).map ((if len * s = 0 then #[] else zv.cells)[· % (if len * s = 0 then #[] else zv.cells).size]!)) (ps.map fun (i, x) => (i, a.eval x)).toList = some ar := by
      rw [Array.toList_map]
      by_cases h0 : len * s = 0
      · have em : ∀ f : Nat → Value, (Array.range 0).map f = #[] := fun f => by simp [Array.range]
        simp only [h0, em] at har ⊢
        exact har
      · simp only [h0, if_false]
        exact har
    refine ⟨.cells ar el (0, 0), ar.size, fun k => .slice (some ⟨k, 0, none⟩) len len, fun w => ?_, rows hr, by simp, by simp, fun φ' C' n k hn => by have := VRel.slice (C := C') (off := 0) (len := len) (cap := len) hn; simpa using this⟩
    simp only [execOp, Instr.buildSlice, Sem.run_bind, run_under hu, Result.andThen_ok, run_size hs]
    rw [if_neg (by omega)]
    by_cases h0 : len * s = 0
    · simp only [h0, if_true] at har' ⊢
      simp only [Sem.run_bind, Sem.run_pure, Result.andThen_ok, har', newRow, run_newObj]
      rfl
    · simp only [h0, if_false] at har' ⊢
      simp only [Sem.run_bind, hzr, Sem.run_pure, Result.andThen_ok, har', newRow, run_newObj]
      rfl
  | makeMap t r =>
    cases r with
    | some x => simp [cop] at hc
    | none =>
      simp only [cop, Option.some.injEq] at hc
      subst hc
      simp [opNew] at hv
      obtain ⟨rfl, rfl⟩ := hv
      refine ⟨.map #[] 0, 0, fun k => .map (some k), fun w => ?_, by simp, fun es clock h => ?_, by simp, fun φ' C' n k hn => .map hn⟩
      · simp [execOp, Instr.makeMap, newObj]
        rfl
      · cases h
        exact ⟨#[], rfl, rfl, fun i p q h1 _ => by simp at h1⟩
  | makeSlice t l c =>
    simp only [cop] at hc
    split at hc
    case h_2 => cases hc
    rename_i el il ic hu hl hcc
    split at hc
    case h_2 => cases hc
    rename_i i z hi hz
    split at hc
    case isFalse => cases hc
    rename_i hcond
    obtain ⟨hzl, hs0⟩ := hcond
    simp at hc
    subst hc
    simp only [opNew] at hv
    split at hv
    case h_2 => cases hv
    rename_i k1 ln k2 cp hln hcp
    split at hv <;> simp at hv
    rename_i hcond
    obtain ⟨h1, h2, h3, h4⟩ := hcond
    obtain ⟨rfl, rfl⟩ := hv
    obtain ⟨zv, i', hi', _, hzr, hzc, _⟩ := czs_run (P := P) (φ := φ) (C := C) hz
    have e1 := carg_rel he hl hln
    have e2 := carg_rel he hcc hcp
    have hzz := zeros_rel hzc cp.toNat
    rw [hzl] at hzz
    refine ⟨.cells ((Array.range (cp.toNat * i.size)).map (zv.cells[· % zv.cells.size]!)) el (0, 0), _, fun k => .slice (some ⟨k, 0, none⟩) ln.toNat cp.toNat, fun w => ?_, rows hzz, by simp, by simp,
      fun φ' C' n k hn => by have := VRel.slice (C := C') (off := 0) (len := ln.toNat) (cap := cp.toNat) hn; simpa using this⟩
    generalize hll : a.eval l = ll at e1
    generalize hcv : a.eval c = cv at e2
    cases e1; cases e2
    have wl := wrap_small h1 (by omega : ln < 2 ^ 63)
    have wc := wrap_small (by omega : 0 ≤ cp) (by omega : cp < 2 ^ 63)
    have hb : (i.bytes : Int) * cp ≤ 2 ^ 45 := by rw [Int.mul_comm]; exact h3
    simp only [execOp, Instr.makeSlice, Sem.run_bind, run_under hu, Result.andThen_ok, hll, hcv, asInt, asIntOf, Sem.run_pure, run_info hi, wl, wc]
    rw [if_neg (by simp; omega)]
    simp only [Sem.run_bind, run_askRoom, Result.andThen_ok, run_size (P := P) (t := el) (n := i.size) (by simp [szT, hi])]
    by_cases h0 : cp.toNat * i.size = 0
    · have em : ∀ f : Nat → Value, (Array.range 0).map f = #[] := fun f => by simp [Array.range]
      simp only [h0, if_true, Sem.run_pure, Result.andThen_ok, newRow, Sem.run_bind, run_newObj, em]
      rfl
    · simp only [h0, if_false, Sem.run_bind, hzr, Sem.run_pure, Result.andThen_ok, newRow, run_newObj]
      rfl
  | slice t x lo hi mx =>
    cases mx with
    | some m => simp [cop] at hc
    | none =>
      simp only [cop] at hc
      split at hc
      · split at hc <;> simp at hc
        subst hc; simp [IOp.cls] at hcl
      · split at hc <;> simp at hc
        subst hc; simp [IOp.cls] at hcl
      · cases hc
  | typeAssert x xt as ok =>
    cases ok with
    | false => simp [cop] at hc
    | true =>
      simp only [cop] at hc
      split at hc <;> simp at hc
      subst hc; simp [IOp.cls] at hcl
  | _ =>
    exfalso
    revert hcl
    simp only [cop, ccall] at hc
    repeat' split at hc
    all_goals first
      | (simp only [Option.some.injEq] at hc; subst hc; simp [IOp.cls]; done)
      | (simp only [Option.map_eq_some_iff] at hc; obtain ⟨_, _, rfl⟩ := hc; simp [IOp.cls]; done)
      | (simp at hc; done)
end
end Go.Proofs.YtadeojgiiapljaaGreat.Im
namespace Go.Proofs.YtadeojgiiapljaaGreat.Im
open Go
section
variable {P : Program} {φ : Phi} {C : Con} {h h' : IHeap} {e : Env} {a : Act} {w : World}

theorem growBy_le (need : Nat) : ∀ (r c : Nat), c < need → 256 ≤ c → Builtin.growBy need r c ≤ 2 * need
  | 0, c, hc, _ => by unfold Builtin.growBy; omega
  | r + 1, c, hc, h => by
    unfold Builtin.growBy
    rw [if_neg (by omega)]
    by_cases h2 : c + (c + 768) / 4 < need
    · exact growBy_le need r _ h2 (by omega)
    · cases r with
      | zero => unfold Builtin.growBy; omega
      | succ r => unfold Builtin.growBy; rw [if_pos (by omega)]; omega
theorem nextcap_le (need cap : Nat) (h : cap < need) : Builtin.nextslicecap need cap ≤ 2 * need := by
  unfold Builtin.nextslicecap
  split
  · omega
  · split
    · omega
    · exact growBy_le need 4 cap h (by omega)

/-- The n first elements' cells of a slice. -/
theorem Rel.sliceCells (r : Rel φ C h w) {v : IV} {x : Value} {sz n : Nat} {us : List IV} (hv : VRel φ C v x) (hn : sliceLen v = some n) (hs : Im.sliceCells h v sz = some us) :
    ∃ base cap xs, x = .slice base n cap ∧ us.length = n * sz ∧ VRels φ C us xs ∧ (Builtin.firstCells sz n x).run P w = .ok xs w := by
  cases hv <;> simp only [Im.sliceCells, Option.some.injEq, reduceCtorEq] at hs <;> simp only [sliceLen, Option.some.injEq] at hn <;> subst hn
  case nils => subst hs; exact ⟨none, 0, #[], rfl, by simp, .nil, rfl⟩
  case slice b off len cap p hp =>
    obtain ⟨a, xs, he, hl, hr, hrun⟩ := r.loadN (P := P) (.ptr hp) hs
    cases he
    exact ⟨_, _, xs, rfl, hl, hr, by simpa [Builtin.firstCells] using hrun⟩
  case aslice b off len sz' cap p hp _ _ =>
    obtain ⟨a, xs, he, hl, hr, hrun⟩ := r.loadN (P := P) (.ptr hp) hs
    cases he
    exact ⟨_, _, xs, rfl, hl, hr, by simpa [Builtin.firstCells] using hrun⟩
  case cslice cells len cap blk o cs hC hlen _ hc =>
    obtain ⟨a, xs, he, hl, hr, hrun⟩ := r.loadN (P := P) (.cptr hC hlen hc) hs
    cases he
    exact ⟨_, _, xs, rfl, hl, hr, by simpa [Builtin.firstCells] using hrun⟩
  case cempty a0 =>
    have : us = [] := by simpa [Im.loadN] using hs.symm
    subst this
    exact ⟨_, _, #[], rfl, by simp, .nil, by simp [Builtin.firstCells, loadCells, loadCellsFrom]⟩

theorem live_dead {b b' : Nat} {x : IObj} (hg : h.get b = some x) : Live (h.set b .dead) b' ↔ (b' ≠ b ∧ Live h b') := by
  unfold Live
  rw [get_set hg]
  split
  · rename_i e; subst e
    constructor
    · rintro ⟨o, ho, hne⟩; cases ho; exact absurd rfl hne
    · rintro ⟨hne, _⟩; exact absurd rfl hne
  · rename_i hne
    exact ⟨fun hl => ⟨hne, hl⟩, fun hl => hl.2⟩
/-- A block dies. -/
theorem Rel.kill (r : Rel φ C h w) {b : Nat} {x : IObj} (hg : h.get b = some x) (hm : ∃ p, φ b = some p) : Rel φ C (h.set b .dead) w ∧ Ext φ C h w φ C (h.set b .dead) w := by
  refine ⟨⟨?_, ?_, ?_, ?_, ?_, r.con⟩, ⟨fun _ _ x => x, fun _ _ x => x, rfl, rfl, rfl, Nat.le_refl _, fun _ _ _ => rfl, ?_, Nat.le_refl _, ?_⟩⟩
  · exact r.dom
  · exact fun b' p hp hl => r.live b' p hp ((live_dead hg).1 hl).2
  · exact fun b1 b2 p1 p2 h1 h2 he l1 l2 => r.inj b1 b2 p1 p2 h1 h2 he ((live_dead hg).1 l1).2 ((live_dead hg).1 l2).2
  · intro b' p cells hp hg'
    rw [get_set hg] at hg'
    split at hg'
    · cases hg'
    · exact r.row b' p cells hp hg'
  · intro b' p es c hp hg'
    rw [get_set hg] at hg'
    split at hg'
    · cases hg'
    · exact r.mp b' p es c hp hg'
  · exact fun b' p hp hl _ => ⟨b', p, hp, ((live_dead hg).1 hl).2, rfl⟩
  · intro b' hb' hn
    refine ⟨hn, get_set_ne ?_⟩
    rintro rfl
    obtain ⟨p, hp⟩ := hm
    rw [hp] at hn; cases hn

/-- A new number for what a dead one stood for, from a cell on. -/
theorem Rel.heir (r : Rel φ C h w) {b : Nat} {p : Pl} {off : Nat} {cells : List IV} {cs : Array Value} {E : TypeId} (hp : φ b = some p) (hd : ∀ b' p', φ b' = some p' → Live h b' → p'.blk ≠ p.blk) (hC : C p.blk = none)
    (hw : w.heap[p.blk]? = some (.cells cs E (0, 0))) (hlim : p.off + p.lim ≤ cs.size) (hoff : off ≤ p.lim) (hcl : cells.length ≤ p.lim - off)
    (hc : ∀ (i : Nat) (v : IV), cells[i]? = some v → ∃ x, cs[p.off + off + i]? = some x ∧ VRel φ C v x) :
    Rel (φ.put h.n ⟨p.blk, p.off + off, p.lim - off⟩) C (h.push (.row cells)) w := by
  have hf := r.fresh
  have hmono : ∀ b q, φ b = some q → φ.put h.n ⟨p.blk, p.off + off, p.lim - off⟩ b = some q := fun b q hb => by
    rw [Phi.put_ne]; exact hb; rintro rfl; rw [hf] at hb; cases hb
  have hcase : ∀ b q, φ.put h.n ⟨p.blk, p.off + off, p.lim - off⟩ b = some q → (b = h.n ∧ q = ⟨p.blk, p.off + off, p.lim - off⟩) ∨ (b < h.n ∧ φ b = some q) := fun b q hb => by
    by_cases e : b = h.n
    · subst e; rw [Phi.put_same] at hb; cases hb; exact .inl ⟨rfl, rfl⟩
    · rw [Phi.put_ne e] at hb; exact .inr ⟨(r.dom b q hb).1, hb⟩
  have hvr : ∀ {v : IV} {x : Value}, VRel φ C v x → VRel (φ.put h.n ⟨p.blk, p.off + off, p.lim - off⟩) C v x := fun hv => hv.mono hmono (fun _ _ x => x)
  refine ⟨?_, ?_, ?_, ?_, ?_, r.con⟩
  · intro b' q hb
    rcases hcase b' q hb with ⟨rfl, rfl⟩ | ⟨hlt, hb⟩
    · exact ⟨by simp, (r.dom b p hp).2⟩
    · have := r.dom b' q hb; exact ⟨by simp; omega, this.2⟩
  · intro b' q hb hl
    rcases hcase b' q hb with ⟨rfl, rfl⟩ | ⟨hlt, hb⟩
    · exact hC
    · exact r.live b' q hb ((live_push_old hlt).1 hl)
  · intro b1 b2 p1 p2 h1 h2 he l1 l2
    rcases hcase b1 p1 h1 with ⟨rfl, rfl⟩ | ⟨lt1, h1⟩ <;> rcases hcase b2 p2 h2 with ⟨rfl, rfl⟩ | ⟨lt2, h2⟩
    · rfl
    · exact absurd he.symm (hd b2 p2 h2 ((live_push_old lt2).1 l2))
    · exact absurd he (hd b1 p1 h1 ((live_push_old lt1).1 l1))
    · exact r.inj b1 b2 p1 p2 h1 h2 he ((live_push_old lt1).1 l1) ((live_push_old lt2).1 l2)
  · intro b' q cells' hb hg
    rcases hcase b' q hb with ⟨rfl, rfl⟩ | ⟨hlt, hb⟩
    · rw [get_push_new] at hg
      cases hg
      refine ⟨cs, E, hw, by simp; omega, hcl, fun i v hi => ?_⟩
      obtain ⟨x, hx, hr⟩ := hc i v hi
      exact ⟨x, hx, hvr hr⟩
    · rw [get_push_old hlt] at hg
      obtain ⟨cs', E', hw', h1, h2, h3⟩ := r.row b' q cells' hb hg
      refine ⟨cs', E', hw', h1, h2, fun i v hi => ?_⟩
      obtain ⟨x, hx, hr⟩ := h3 i v hi
      exact ⟨x, hx, hvr hr⟩
  · intro b' q es clock hb hg
    rcases hcase b' q hb with ⟨rfl, rfl⟩ | ⟨hlt, hb⟩
    · rw [get_push_new] at hg; cases hg
    · rw [get_push_old hlt] at hg
      obtain ⟨es', hw', hes⟩ := r.mp b' q es clock hb hg
      exact ⟨es', hw', hes.1, fun i x y hx hy => ⟨hvr (hes.2 i x y hx hy).key, hvr (hes.2 i x y hx hy).val, (hes.2 i x y hx hy).born⟩⟩

/-- Where it grows. -/
theorem append_grow {t u el e2 ty : TypeId} {i : TypeInfo} {z old new : List IV} {ys : Array Value} {base : Option Addr} {sl cap n : Nat} {x : Value} {ols : Array Value}
    (hu : P.underlying t = some (.slice el)) (hu2 : P.underlying u = some (.slice e2)) (hi : P.info? el = some i) (hz : czs P el = some z) (hzl : z.length = i.size)
    (hxl : Builtin.lenOf x = pure n) (hnew : new.length = n * i.size) (hnr : VRels φ C new ys) (hnrun : (Builtin.firstCells i.size n x).run P w.drew = .ok ys w.drew)
    (hold : old.length = sl * i.size) (hor : VRels φ C old ols) (horun : (Builtin.firstCells i.size sl (.slice base sl cap)).run P w.drew = .ok ols w.drew)
    (hgrow : cap < sl + n) (hb : (sl + n) * i.bytes ≤ 2 ^ 45) (hb2 : sl + n ≤ 2 ^ 45) :
    ∃ (newCap : Nat) (cs : Array Value), sl + n ≤ newCap ∧ (Builtin.append_ #[t, u] ty #[.slice base sl cap, x]).run P w = .ok (.slice (some ⟨w.heap.size, 0, none⟩) (sl + n) newCap) (w.drew.alloc (.cells cs el (0, 0)))
      ∧ cs.size = newCap * i.size ∧ ∀ (j : Nat) (v : IV), (old ++ new)[j]? = some v → ∃ y, cs[j]? = some y ∧ VRel φ C v y := by
  obtain ⟨zv, i', hi', _, hzr, hzc, _⟩ := czs_run (P := P) (φ := φ) (C := C) hz
  have hsz : (sizeOf el).run P w = .ok i.size w := run_size (P := P) (by simp [szT, hi]) w
  have hnc := nextcap_le (sl + n) cap hgrow
  have hbytes : Builtin.nextslicecap (sl + n) cap * i.bytes ≤ 2 ^ 46 := by
    calc Builtin.nextslicecap (sl + n) cap * i.bytes ≤ (2 * (sl + n)) * i.bytes := Nat.mul_le_mul_right _ hnc
      _ = 2 * ((sl + n) * i.bytes) := Nat.mul_assoc _ _ _
      _ ≤ 2 ^ 46 := by omega
  let newCap := (Question.appendCap (sl + n) cap el).cut (w.tape w.drawn (.appendCap (sl + n) cap el))
  have hcapge : sl + n ≤ newCap := by show sl + n ≤ sl + n + _; omega
  refine ⟨newCap, ols ++ ys ++ Builtin.zeroCells zv.cells (newCap - (sl + n)), hcapge, ?_, ?_, ?_⟩
  · unfold Builtin.append_
    simp only [List.getElem?_toArray, List.getElem?_cons_zero, List.getElem?_cons_succ, Sem.run_bind, run_under hu, Result.andThen_ok, hsz, run_under hu2, hxl, Sem.run_pure, Bool.false_eq_true, if_false, Bool.not_false, if_true]
    rw [if_neg (by omega)]
    simp only [Sem.run_bind, run_info hi, Result.andThen_ok]
    rw [if_neg (by
      simp only [Bool.false_eq_true, false_or, not_and]
      intro h
      exfalso
      have : (IntKind.i64.max : Int) = 2 ^ 63 - 1 := rfl
      rw [this] at h
      omega)]
    simp only [Sem.run_bind, Sem.run_pure, Result.andThen_ok, run_info hi]
    rw [if_neg (by omega)]
    simp only [Sem.run_bind, run_choose, Question.forced, Bool.false_eq_true, if_false, Result.andThen_ok, run_info hi, run_askRoom]
    have horun' := horun
    have hnrun' := hnrun
    simp only [World.drew_eq, Sem.run_pure, Result.andThen_ok]
    simp only [horun', Result.andThen_ok, hnrun', hzr, newRow, Sem.run_bind, run_newObj, Sem.run_pure]
    rfl
  · simp only [Array.size_append, Builtin.zeroCells]
    rw [← hor.1, ← hnr.1, hold, hnew]
    simp only [Array.size_map, Array.size_range]
    rw [← hzc.1, hzl, ← Nat.add_mul, ← Nat.add_mul]
    congr 1; omega
  · intro j v hj
    obtain ⟨y, hy, hr⟩ := (hor.append hnr).getD hj
    refine ⟨y, ?_, hr⟩
    rw [Array.getElem?_append_left (Array.getElem?_eq_some_iff.1 hy).1]
    exact hy
end
end Go.Proofs.YtadeojgiiapljaaGreat.Im
