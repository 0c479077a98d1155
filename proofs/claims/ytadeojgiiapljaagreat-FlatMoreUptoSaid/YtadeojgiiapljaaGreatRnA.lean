/- The run: its state; end, step. -/
import Derived.Test.YtadeojgiiapljaaGreatIcA
import Derived.Test.YtadeojgiiapljaaGreatIcB
import Derived.Test.YtadeojgiiapljaaGreatMmA
import Derived.Test.YtadeojgiiapljaaGreatNdA
set_option linter.unusedSimpArgs false
set_option linter.unusedVariables false
namespace Go.Proofs.YtadeojgiiapljaaGreat.Im
open Go
set_option maxHeartbeats 1000000
/-- The run's struct. -/
def runRow (vb n mb : Nat) (stack left steps errno : Int) : IObj := .row [.slice vb 0 n n, .ptr mb 0, .int .u64 stack, .int .i64 left, .int .i64 steps, .int .i64 errno]
def G131 : List IV → M IV := bodyI T0 onil 0 ic131
theorem s131 : Sim Tryz.prog 131 G131 := body_sim onil_sim cc131 0
def endV : IV := .iface 116 (.agg [])
theorem G131_at {h : IHeap} {rb vb n mb : Nat} {stack left steps errno e : Int} (hr : h.get rb = some (runRow vb n mb stack left steps errno)) : G131 [.ptr rb 0, .int .i64 e] h = .panic endV (h.set rb (runRow vb n mb stack left steps e)) := by
  unfold G131
  rw [body_eq rfl rfl rfl (by decide)]
  have hr' : h.get rb = some (.row [.slice vb 0 n n, .ptr mb 0, .int .u64 stack, .int .i64 left, .int .i64 steps, .int .i64 errno]) := hr
  simp only [ss, hps, Nat.reduceEqDiff, Nat.reduceLT, Nat.reduceAdd, Nat.reduceLeDiff, Int.reduceLT, Int.reduceLE, Int.reduceEq, reduceIte, ic131, nilchk_ptr, hr', setCells, panicV, endV, runRow, Option.map_some, regK_panic]
def G76 : List IV → M IV := bodyI T0 (ocons 131 G131 onil) 0 ic76
theorem s76 : Sim Tryz.prog 76 G76 := body_sim (ocons_sim s131 onil_sim) cc76 0
theorem G76_end {h : IHeap} {rb vb n mb : Nat} {stack left errno : Int} (hr : h.get rb = some (runRow vb n mb stack left left errno)) : G76 [.ptr rb 0] h = .panic endV (h.set rb (runRow vb n mb stack left left 7)) := by
  unfold G76
  rw [body_eq rfl rfl rfl (by decide)]
  have hr' : h.get rb = some (.row [.slice vb 0 n n, .ptr mb 0, .int .u64 stack, .int .i64 left, .int .i64 left, .int .i64 errno]) := hr
  have r131 := G131_at (e := 7) hr
  have o131 : (ocons 131 G131 onil) 131 = G131 := rfl
  simp only [ss, hps, Nat.reduceEqDiff, Nat.reduceLT, Nat.reduceAdd, Nat.reduceLeDiff, Int.reduceLT, Int.reduceLE, Int.reduceEq, reduceIte, ic76, ds, nilchk_ptr, hr', o131, r131, regK_panic]
theorem G76_at {h : IHeap} {rb vb n mb : Nat} {stack left errno : Int} {steps : Nat} (hr : h.get rb = some (runRow vb n mb stack left steps errno)) (hne : ¬ (steps : Int) = left) (hs : steps < 2000000) : G76 [.ptr rb 0] h = .ok (.tup []) (h.set rb (runRow vb n mb stack left (steps + 1 : Nat) errno)) := by
  unfold G76
  rw [body_eq rfl rfl rfl (by decide)]
  have hr' : h.get rb = some (.row [.slice vb 0 n n, .ptr mb 0, .int .u64 stack, .int .i64 left, .int .i64 steps, .int .i64 errno]) := hr
  have w : IntKind.i64.wrap ((steps : Int) + 1) = ((steps + 1 : Nat) : Int) := by rw [wrap_i64 (by omega) (by omega)]; simp
  simp only [ss, hps, Nat.reduceEqDiff, Nat.reduceLT, Nat.reduceAdd, Nat.reduceLeDiff, Int.reduceLT, Int.reduceLE, Int.reduceEq, reduceIte, ic76, ds, nilchk_ptr, hr', hne, w, setCells, runRow, Option.map_some]
end Go.Proofs.YtadeojgiiapljaaGreat.Im
namespace Go.Proofs.YtadeojgiiapljaaGreat.Im
open Go
set_option maxHeartbeats 1000000
def G104 : List IV → M IV := bodyI T0 onil 0 ic104
theorem s104 : Sim Tryz.prog 104 G104 := body_sim onil_sim cc104 0
theorem isnil_nils (n : Bool) : isnilV n .slice .nils = some (.bool (if n then !true else true)) := rfl
theorem isnil_sl (n : Bool) (b o l c : Nat) : isnilV n .slice (.slice b o l c) = some (.bool (if n then !false else false)) := rfl
theorem G104_nil (h : IHeap) : G104 [.nils] h = .ok .nils h := by
  unfold G104
  rw [body_eq rfl rfl rfl (by decide)]
  simp only [ss, hps, Nat.reduceEqDiff, Nat.reduceLT, Nat.reduceAdd, Nat.reduceLeDiff, Int.reduceLT, Int.reduceLE, Int.reduceEq, reduceIte, ic104, isnil_nils]
theorem G104_one {h : IHeap} {b : Nat} {a : Int} (hb : h.get b = some (.row [.int .u64 a])) : G104 [.slice b 0 1 1] h = .ok (.aslice (h.n + 1) 0 1 1) ((h.push (.row [])).push (.row [.int .u64 a])) := by
  unfold G104
  rw [body_eq rfl rfl rfl (by decide)]
  have hlt := get_lt hb
  have hne : (b = h.n) = False := by simp; omega
  have happ : appendI 1 8 (.slice h.n 0 0 0) (.slice b 0 1 1) (h.push (.row [])) = .ok (.aslice (h.n + 1) 0 1 1) ((h.push (.row [])).push (.row [.int .u64 a])) := by
    simp only [appendI, sliceLen, sliceCells, hps, hne, hb, reduceIte, Option.bind_some, Nat.reduceAdd, Nat.reduceMul, Nat.reduceLeDiff]
    simp
  simp only [ss, hps, Nat.reduceEqDiff, Nat.reduceLT, Nat.reduceAdd, Nat.reduceLeDiff, Int.reduceLT, Int.reduceLE, Int.reduceEq, reduceIte, ic104, isnil_sl, rowIf_ok, happ]
theorem cells_nils : IV.nils.cells = [.nils] := rfl
theorem cells_asl (b o l s : Nat) : (IV.aslice b o l s).cells = [.aslice b o l s] := rfl
theorem cells_sl (b o l s : Nat) : (IV.slice b o l s).cells = [.slice b o l s] := rfl
theorem cells_ptr (b o : Nat) : (IV.ptr b o).cells = [.ptr b o] := rfl
theorem n11 (n : Nat) : n + 1 + 1 = n + 2 := rfl
def G181 : List IV → M IV := bodyI T0 (ocons 104 G104 onil) 0 ic181
theorem s181 : Sim Tryz.prog 181 G181 := body_sim (ocons_sim s104 onil_sim) cc181 0
/-- A line's cells. -/
def lineC (items : IV) : List IV := [.int .i64 1, items, .bool false, .nils]
theorem G181_nil (h : IHeap) : G181 [.nils] h = .ok (.agg (lineC .nils)) (h.push (.row (lineC .nils))) := by
  unfold G181
  rw [body_eq rfl rfl rfl (by decide)]
  have o104 : (ocons 104 G104 onil) 104 = G104 := rfl
  simp only [ss, hps, Nat.reduceEqDiff, Nat.reduceLT, Nat.reduceAdd, Nat.reduceLeDiff, Int.reduceLT, Int.reduceLE, Int.reduceEq, reduceIte, ic181, o104, G104_nil, setCells, lineC, Option.map_some, cells_nils]
theorem G181_one {h : IHeap} {b : Nat} {a : Int} (hb : h.get b = some (.row [.int .u64 a])) : ∃ h2, G181 [.slice b 0 1 1] h = .ok (.agg (lineC (.aslice (h.n + 2) 0 1 1))) h2 ∧ Grow h h2 ∧ h2.get (h.n + 2) = some (.row [.int .u64 a]) ∧ h2.n = h.n + 3 := by
  have hlt := get_lt hb
  have h1 : (h.push (.row [.int .i64 0, .nils, .bool false, .nils])).get b = some (.row [.int .u64 a]) := by rw [get_push_old hlt]; exact hb
  have r104 := G104_one h1
  have g : Grow h (((h.push (.row (lineC (.aslice (h.n + 2) 0 1 1)))).push (.row [])).push (.row [.int .u64 a])) := ((Grow.push _ _).trans (Grow.push _ _)).trans (Grow.push _ _)
  refine ⟨((h.push (.row (lineC (.aslice (h.n + 2) 0 1 1)))).push (.row [])).push (.row [.int .u64 a]), ?_, g, by simp [get_push_eq], by simp⟩
  unfold G181
  rw [body_eq rfl rfl rfl (by decide)]
  have o104 : (ocons 104 G104 onil) 104 = G104 := rfl
  have p1 : ∀ (o o' : IObj) (x y : IObj), (((h.push o).push x).push y).set h.n o' = ((h.push o').push x).push y := by
    intro o o' x y
    rw [set_push_old _ _ (by simp; omega), set_push_old _ _ (by simp), set_push_new]
  simp only [ss, hps, Nat.reduceEqDiff, Nat.reduceLT, Nat.reduceAdd, Nat.reduceLeDiff, Int.reduceLT, Int.reduceLE, Int.reduceEq, reduceIte, ic181, o104, r104, setCells, lineC, Option.map_some, p1, cells_nils, cells_asl, n11]
end Go.Proofs.YtadeojgiiapljaaGreat.Im
namespace Go.Proofs.YtadeojgiiapljaaGreat.Im
open Go
set_option maxHeartbeats 1000000
def u64v (w : Int) : IV := .int .u64 w
def addrA (x : In8) (stack : Int) : Int := if x.stack = true then IntKind.u64.wrap (x.word + stack) else x.word
def addrV (x : In8) (stack : Int) (vs : List Int) : Int := if 0 ≤ x.a then IntKind.u64.wrap (addrA x stack + IntKind.u64.wrap (8 * vs.getD x.a.toNat 0)) else addrA x stack
def G183 : List IV → M IV := bodyI T0 onil 0 ic183
theorem s183 : Sim Tryz.prog 183 G183 := body_sim onil_sim cc183 0
theorem G183_at {h : IHeap} {rb vb n mb : Nat} {stack left steps errno : Int} {x : In8} {vs : List Int} (hr : h.get rb = some (runRow vb n mb stack left steps errno)) (hv : h.get vb = some (.row (vs.map u64v))) (hn : vs.length = n) (ha : x.a < n) :
    G183 [.ptr rb 0, .agg x.cells] h = .ok (.int .u64 (addrV x stack vs)) (h.push (.row x.cells)) := by
  unfold G183
  rw [body_eq rfl rfl rfl (by decide)]
  have hr' : h.get rb = some (.row [.slice vb 0 n n, .ptr mb 0, .int .u64 stack, .int .i64 left, .int .i64 steps, .int .i64 errno]) := hr
  have n1 : (rb = h.n) = False := by have := get_lt hr; simp; omega
  have n2 : (vb = h.n) = False := by have := get_lt hv; simp; omega
  have p8 : ∀ w : Int, binI .mul (.int .u64 8) (.int .u64 w) = some (.int .u64 (IntKind.u64.wrap (8 * w))) := fun w => bin_mul _ _ _
  by_cases q : 0 ≤ x.a
  · obtain ⟨k, hk⟩ : ∃ k : Nat, x.a = k := ⟨x.a.toNat, by omega⟩
    have hkn : k < n := by omega
    have hat : (vs.map u64v)[k]? = some (.int .u64 (vs.getD k 0)) := by simp [u64v, show k < vs.length by omega]
    have q' : (0 : Int) ≤ (k : Int) := by omega
    have ht : (k : Int).toNat = k := by simp
    cases hs : x.stack <;> simp only [ss, hps, Nat.reduceEqDiff, Nat.reduceLT, Nat.reduceAdd, Nat.reduceLeDiff, Int.reduceLT, Int.reduceLE, Int.reduceEq, reduceIte, ic183, ds, In8.cells, nilchk_ptr, hr', hv, n1, n2, rowIf_ok, hk, q', hkn, hat, hs, addrV, addrA, ht]
  · cases hs : x.stack <;> simp only [ss, hps, Nat.reduceEqDiff, Nat.reduceLT, Nat.reduceAdd, Nat.reduceLeDiff, Int.reduceLT, Int.reduceLE, Int.reduceEq, reduceIte, ic183, ds, In8.cells, nilchk_ptr, hr', hv, n1, n2, rowIf_ok, q, hs, addrV, addrA]
end Go.Proofs.YtadeojgiiapljaaGreat.Im
