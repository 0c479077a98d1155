/- flat.May, where it says yes: is, ins. -/
import Derived.Test.YtadeojgiiapljaaGreatIcA
import Derived.Test.YtadeojgiiapljaaGreatIcB
import Derived.Test.YtadeojgiiapljaaGreatNdE
import Derived.Test.YtadeojgiiapljaaGreatRnB
import Derived.Test.YtadeojgiiapljaaGreatWdA
set_option linter.unusedSimpArgs false
set_option linter.unusedVariables false
namespace Go.Proofs.YtadeojgiiapljaaGreat.Im
open Go
set_option maxHeartbeats 1000000
structure AD where
  vars : Int
  nodes : Int
  n : Int
def P68 (args : List IV) (h : IHeap) (d : AD) : Prop := ∃ ab, args = [.ptr ab 0, .int .i64 d.n] ∧ h.get ab = some (.row [.int .i64 d.vars, .int .i64 d.nodes])
noncomputable def F68 := byCh P68 fun d => .bool (isN d.n d.vars)
theorem F68_at {h : IHeap} {ab : Nat} {vars nodes n : Int} (ha : h.get ab = some (.row [.int .i64 vars, .int .i64 nodes])) : F68 [.ptr ab 0, .int .i64 n] h = .ok (.bool (isN n vars)) h := by
  refine byCh_at (P := P68) (d := (⟨vars, nodes, n⟩ : AD)) ⟨ab, rfl, ha⟩ fun d' hd => ?_
  obtain ⟨ab', he, ha'⟩ := hd
  obtain ⟨v', o', n'⟩ := d'
  simp only [List.cons.injEq, IV.ptr.injEq, IV.int.injEq, and_true, true_and] at he
  obtain ⟨rfl, rfl⟩ := he
  rw [ha] at ha'
  simp at ha'
  simp only [ha'.1]
theorem s68 : Sim Tryz.prog 68 F68 := by
  refine Sim.byCh ⟨Tryz.f68, Tryz.func68, rfl, by decide⟩ fun args h d hd => ?_
  obtain ⟨ab, rfl, ha⟩ := hd
  obtain ⟨vars, nodes, n⟩ := d
  simp only at ha
  refine ⟨_, body_sim onil_sim cc68 0, h, ?_, Grow.refl h, fun _ => rfl⟩
  rw [body_eq rfl rfl rfl (by decide)]
  by_cases q : 0 ≤ n
  · simp only [ss, hps, Nat.reduceEqDiff, Nat.reduceLT, Nat.reduceAdd, Nat.reduceLeDiff, Int.reduceLT, Int.reduceLE, Int.reduceEq, reduceIte, ic68, nilchk_ptr, ha, q, isN]
  · simp only [ss, hps, Nat.reduceEqDiff, Nat.reduceLT, Nat.reduceAdd, Nat.reduceLeDiff, Int.reduceLT, Int.reduceLE, Int.reduceEq, reduceIte, ic68, nilchk_ptr, ha, q, isN]
theorem eqflat_same (x1 x2 x3 x4 x5 x6 x7 : Int) (x8 : Bool) : eqflatV false [false, false, false, false, false, false, false, true] (.agg [.int .i64 x1, .int .i64 x2, .int .i64 x3, .int .i64 x4, .int .i64 x5, .int .i64 x6, .int .u64 x7, .bool x8])
    (.agg [.int .i64 x1, .int .i64 x2, .int .i64 x3, .int .i64 x4, .int .i64 x5, .int .i64 x6, .int .u64 x7, .bool x8]) = some (.bool true) := by
  have := eqFlat_ins ⟨x1, x2, x3, x4, x5, x6, x7, x8⟩ ⟨x1, x2, x3, x4, x5, x6, x7, x8⟩
  simp only [In8.cells] at this
  simp only [eqflatV, this, decide_true, Option.map_some]
  rfl
theorem arity15_arity {op : Int} (h : ¬ arity15 op = 0) : arity15 op = arity 0 op := by
  obtain ⟨h4, h21⟩ := arity15_op h
  unfold arity15 args07 arity
  rw [if_neg (by omega), if_neg (by omega), if_neg (by omega)]
  repeat' split
  all_goals omega
noncomputable def O127 : Orc := ocons 68 F68 (ocons 180 (rd g180) onil)
theorem O127_sim : ∀ g, Sim Tryz.prog g (O127 g) := ocons_sim s68 (ocons_sim s180 onil_sim)
theorem b127 {x : In8} {ab : Nat} {vars nodes : Int} {h : IHeap} (ha : h.get ab = some (.row [.int .i64 vars, .int .i64 nodes])) (hi : insOk x vars = true) :
    ∃ h2, bodyI T0 O127 0 ic127 [.ptr ab 0, .agg x.cells] h = .ok (.bool true) h2 ∧ Grow h h2 := by
  obtain ⟨kind, op, d, a, b, c, word, stack⟩ := x
  have o68 : O127 68 = F68 := rfl
  have o180 : O127 180 = rd g180 := rfl
  have hlt := get_lt ha
  have n1 : (ab = h.n) = False := by simp; omega
  have n2 : (ab = h.n + 1) = False := by simp; omega
  have r68 : ∀ (o o' : IObj) (n : Int), F68 [.ptr ab 0, .int .i64 n] ((h.push o).push o') = .ok (.bool (isN n vars)) ((h.push o).push o') := fun o o' n => F68_at (nodes := nodes) (by rw [get_push_old (by simp; omega), get_push_old hlt]; exact ha)
  have r68a : ∀ (o : IObj) (n : Int), F68 [.ptr ab 0, .int .i64 n] (h.push o) = .ok (.bool (isN n vars)) (h.push o) := fun o n => F68_at (nodes := nodes) (by rw [get_push_old hlt]; exact ha)
  unfold insOk at hi
  simp only [Bool.and_eq_true, Bool.or_eq_true, decide_eq_true_eq] at hi
  split at hi
  · rename_i hk; subst hk
    simp only [Bool.and_eq_true, decide_eq_true_eq] at hi
    obtain ⟨⟨⟨⟨⟨hd, rfl⟩, rfl⟩, rfl⟩, rfl⟩, hs⟩ := hi
    have hs : stack = false := by simpa using hs
    subst hs
    refine ⟨(h.push (.row [.int .i64 1, .int .i64 0, .int .i64 d, .int .i64 0, .int .i64 0, .int .i64 0, .int .u64 word, .bool false])).push (.row [.int .i64 1, .int .i64 0, .int .i64 d, .int .i64 0, .int .i64 0, .int .i64 0, .int .u64 word, .bool false]), ?_, (Grow.push _ _).trans (Grow.push _ _)⟩
    rw [body_eq rfl rfl rfl (by decide)]
    simp only [ss, hps, Nat.reduceEqDiff, Nat.reduceLT, Nat.reduceAdd, Nat.reduceLeDiff, Int.reduceLT, Int.reduceLE, Int.reduceEq, reduceIte, ic127, ds, In8.cells, rowIf_ok, o68, r68, r68a, hd, setCells, set_push_at, eqflat_same]
  · split at hi
    · rename_i hk; subst hk
      simp only [Bool.and_eq_true, decide_eq_true_eq] at hi
      obtain ⟨⟨⟨⟨⟨⟨hd, haa⟩, rfl⟩, rfl⟩, rfl⟩, rfl⟩, hs⟩ := hi
      have hs : stack = false := by simpa using hs
      subst hs
      refine ⟨(h.push (.row [.int .i64 2, .int .i64 0, .int .i64 d, .int .i64 a, .int .i64 0, .int .i64 0, .int .u64 0, .bool false])).push (.row [.int .i64 2, .int .i64 0, .int .i64 d, .int .i64 a, .int .i64 0, .int .i64 0, .int .u64 0, .bool false]), ?_, (Grow.push _ _).trans (Grow.push _ _)⟩
      rw [body_eq rfl rfl rfl (by decide)]
      simp only [ss, hps, Nat.reduceEqDiff, Nat.reduceLT, Nat.reduceAdd, Nat.reduceLeDiff, Int.reduceLT, Int.reduceLE, Int.reduceEq, reduceIte, ic127, ds, In8.cells, rowIf_ok, o68, r68, r68a, hd, haa, setCells, set_push_at, eqflat_same]
    · split at hi
      · rename_i hk; subst hk
        split at hi
        · cases hi
        rename_i har
        split at hi
        · cases hi
        rename_i hd
        split at hi
        · cases hi
        rename_i haa
        split at hi
        · cases hi
        rename_i hw
        split at hi
        · cases hi
        rename_i hs
        have hs : stack = false := by simpa using hs
        have hw : word = 0 := by omega
        have hd : isN d vars = true := by simpa using hd
        have haa : isN a vars = true := by simpa using haa
        subst hs; subst hw
        have e15 := arity15_arity har
        rw [e15] at hi har
        have rr : ∀ hh, rd g180 [.int .i64 op] hh = .ok (.int .i64 (arity 0 op)) hh := fun hh => rfl
        simp only [Bool.and_eq_true, Bool.or_eq_true, decide_eq_true_eq] at hi
        obtain ⟨hb, hc⟩ := hi
        have h4 := arity15_op (by rw [e15]; exact har : ¬ arity15 op = 0)
        obtain ⟨ar, har2, ar1, ar3⟩ := arity_nat h4.1 h4.2
        have is0 : isN 0 vars = true := by have := isN_iff.1 hd; exact isN_iff.2 (by omega)
        have c0 : (0 : Int) < arity 0 op := by omega
        refine ⟨(h.push (.row [.int .i64 3, .int .i64 op, .int .i64 d, .int .i64 a, .int .i64 b, .int .i64 c, .int .u64 0, .bool false])).push (.row [.int .i64 3, .int .i64 op, .int .i64 d, .int .i64 a, .int .i64 b, .int .i64 c, .int .u64 0, .bool false]), ?_, (Grow.push _ _).trans (Grow.push _ _)⟩
        rw [body_eq rfl rfl rfl (by decide)]
        rcases hb with ⟨hb1, hb2⟩ | ⟨hb1, rfl⟩
        · rcases hc with ⟨hc1, hc2⟩ | ⟨hc1, rfl⟩
          · simp only [ss, hps, Nat.reduceEqDiff, Nat.reduceLT, Nat.reduceAdd, Nat.reduceLeDiff, Int.reduceLT, Int.reduceLE, Int.reduceEq, reduceIte, ic127, ds, In8.cells, rowIf_ok, o68, r68, r68a, hd, haa, o180, rr, hb1, hb2, hc1, hc2, c0, setCells, set_push_at, eqflat_same]
          · have hc1' : ¬ (2 : Int) < arity 0 op := by omega
            simp only [ss, hps, Nat.reduceEqDiff, Nat.reduceLT, Nat.reduceAdd, Nat.reduceLeDiff, Int.reduceLT, Int.reduceLE, Int.reduceEq, reduceIte, ic127, ds, In8.cells, rowIf_ok, o68, r68, r68a, hd, haa, o180, rr, hb1, hb2, hc1', is0, c0, setCells, set_push_at, eqflat_same]
        · have hb1' : ¬ (1 : Int) < arity 0 op := by omega
          have hc1' : ¬ (2 : Int) < arity 0 op := by omega
          have : c = 0 := by rcases hc with ⟨hc1, _⟩ | ⟨_, h⟩; omega; exact h
          subst this
          simp only [ss, hps, Nat.reduceEqDiff, Nat.reduceLT, Nat.reduceAdd, Nat.reduceLeDiff, Int.reduceLT, Int.reduceLE, Int.reduceEq, reduceIte, ic127, ds, In8.cells, rowIf_ok, o68, r68, r68a, hd, haa, o180, rr, hb1', hc1', is0, c0, setCells, set_push_at, eqflat_same]
      · split at hi
        · rename_i hk; subst hk
          simp only [Bool.and_eq_true, Bool.or_eq_true, decide_eq_true_eq] at hi
          obtain ⟨⟨⟨⟨hd, haa⟩, rfl⟩, rfl⟩, rfl⟩ := hi
          refine ⟨(h.push (.row [.int .i64 4, .int .i64 0, .int .i64 d, .int .i64 a, .int .i64 0, .int .i64 0, .int .u64 word, .bool stack])).push (.row [.int .i64 4, .int .i64 0, .int .i64 d, .int .i64 a, .int .i64 0, .int .i64 0, .int .u64 word, .bool stack]), ?_, (Grow.push _ _).trans (Grow.push _ _)⟩
          rw [body_eq rfl rfl rfl (by decide)]
          by_cases q : a = -1
          · subst q
            simp only [ss, hps, Nat.reduceEqDiff, Nat.reduceLT, Nat.reduceAdd, Nat.reduceLeDiff, Int.reduceLT, Int.reduceLE, Int.reduceEq, reduceIte, ic127, ds, In8.cells, rowIf_ok, o68, r68, r68a, hd, setCells, set_push_at, eqflat_same]
          · have haa : isN a vars = true := by rcases haa with h | h; exact absurd h q; exact h
            simp only [ss, hps, Nat.reduceEqDiff, Nat.reduceLT, Nat.reduceAdd, Nat.reduceLeDiff, Int.reduceLT, Int.reduceLE, Int.reduceEq, reduceIte, ic127, ds, In8.cells, rowIf_ok, o68, r68, r68a, hd, haa, q, setCells, set_push_at, eqflat_same]
        · split at hi
          · rename_i hk; subst hk
            simp only [Bool.and_eq_true, Bool.or_eq_true, decide_eq_true_eq] at hi
            obtain ⟨⟨⟨⟨rfl, haa⟩, hb⟩, rfl⟩, rfl⟩ := hi
            have i0 : isN 0 vars = true := by have := isN_iff.1 hb; exact isN_iff.2 (by omega)
            refine ⟨(h.push (.row [.int .i64 5, .int .i64 0, .int .i64 0, .int .i64 a, .int .i64 b, .int .i64 0, .int .u64 word, .bool stack])).push (.row [.int .i64 5, .int .i64 0, .int .i64 0, .int .i64 a, .int .i64 b, .int .i64 0, .int .u64 word, .bool stack]), ?_, (Grow.push _ _).trans (Grow.push _ _)⟩
            rw [body_eq rfl rfl rfl (by decide)]
            by_cases q : a = -1
            · subst q
              simp only [ss, hps, Nat.reduceEqDiff, Nat.reduceLT, Nat.reduceAdd, Nat.reduceLeDiff, Int.reduceLT, Int.reduceLE, Int.reduceEq, reduceIte, ic127, ds, In8.cells, rowIf_ok, o68, r68, r68a, hb, i0, setCells, set_push_at, eqflat_same]
            · have haa : isN a vars = true := by rcases haa with h | h; exact absurd h q; exact h
              simp only [ss, hps, Nat.reduceEqDiff, Nat.reduceLT, Nat.reduceAdd, Nat.reduceLeDiff, Int.reduceLT, Int.reduceLE, Int.reduceEq, reduceIte, ic127, ds, In8.cells, rowIf_ok, o68, r68, r68a, hb, haa, q, i0, setCells, set_push_at, eqflat_same]
          · cases hi
end Go.Proofs.YtadeojgiiapljaaGreat.Im
