/- muffleref15.Ins. -/
import Derived.Test.YtadeojgiiapljaaGreatIcA
import Derived.Test.YtadeojgiiapljaaGreatIcB
import Derived.Test.YtadeojgiiapljaaGreatNdA
set_option linter.unusedSimpArgs false
set_option linter.unusedVariables false
namespace Go.Proofs.YtadeojgiiapljaaGreat.Im
open Go
set_option maxHeartbeats 8000000
/-- May an instruction be? -/
def insOk (x : In8) (vars : Int) : Bool :=
  if x.kind = 1 then isN x.d vars && decide (x.op = 0) && decide (x.a = 0) && decide (x.b = 0) && decide (x.c = 0) && !x.stack else
  if x.kind = 2 then isN x.d vars && isN x.a vars && decide (x.op = 0) && decide (x.b = 0) && decide (x.c = 0) && decide (x.word = 0) && !x.stack else
  if x.kind = 3 then
    if arity15 x.op = 0 then false else
    if (!isN x.d vars) = true then false else if (!isN x.a vars) = true then false else if ¬ x.word = 0 then false else if x.stack = true then false else
    ((decide (1 < arity15 x.op) && isN x.b vars) || (decide (arity15 x.op = 1) && decide (x.b = 0))) && ((decide (2 < arity15 x.op) && isN x.c vars) || (decide (arity15 x.op < 3) && decide (x.c = 0))) else
  if x.kind = 4 then isN x.d vars && (decide (x.a = -1) || isN x.a vars) && decide (x.op = 0) && decide (x.b = 0) && decide (x.c = 0) else
  if x.kind = 5 then decide (x.d = 0) && (decide (x.a = -1) || isN x.a vars) && isN x.b vars && decide (x.op = 0) && decide (x.c = 0) else false
theorem rd123 (op : Int) (h : IHeap) : rd g123 [.int .i64 op] h = .ok (.int .i64 (arity15 op)) h := rfl
def g62 : List IV → Option IV
  | [.agg [.int .i64 x1, .int .i64 x2, .int .i64 x3, .int .i64 x4, .int .i64 x5, .int .i64 x6, .int .u64 x7, .bool x8], .int .i64 m] => some (.bool (insOk ⟨x1, x2, x3, x4, x5, x6, x7, x8⟩ m))
  | _ => none
theorem b62 {O : Orc} (h122 : O 122 = rd g122) (h123 : O 123 = rd g123) {x1 x2 x3 x4 x5 x6 x7 : Int} {x8 : Bool} {m : Int} {h : IHeap} :
    ∃ h2, bodyI T0 O 0 ic62 [.agg [.int .i64 x1, .int .i64 x2, .int .i64 x3, .int .i64 x4, .int .i64 x5, .int .i64 x6, .int .u64 x7, .bool x8], .int .i64 m] h = .ok (.bool (insOk ⟨x1, x2, x3, x4, x5, x6, x7, x8⟩ m)) h2 ∧ Grow h h2 := by
  refine ⟨h.push (.row [.int .i64 x1, .int .i64 x2, .int .i64 x3, .int .i64 x4, .int .i64 x5, .int .i64 x6, .int .u64 x7, .bool x8]), ?_, Grow.push _ _⟩
  rw [body_eq rfl rfl rfl (by decide)]
  by_cases k1 : x1 = 1
  · subst k1
    cases q1 : isN x3 m
    case false => simp only [ss, hps, Nat.reduceEqDiff, Nat.reduceLT, Nat.reduceAdd, Nat.reduceLeDiff, Int.reduceLT, Int.reduceLE, Int.reduceEq, reduceIte, ic62, insOk, h122, rd122, rowIf_ok, q1]
    by_cases q2 : x2 = 0
    case neg => simp only [ss, hps, Nat.reduceEqDiff, Nat.reduceLT, Nat.reduceAdd, Nat.reduceLeDiff, Int.reduceLT, Int.reduceLE, Int.reduceEq, reduceIte, ic62, insOk, h122, rd122, rowIf_ok, q1, q2]
    by_cases q3 : x4 = 0
    case neg => simp only [ss, hps, Nat.reduceEqDiff, Nat.reduceLT, Nat.reduceAdd, Nat.reduceLeDiff, Int.reduceLT, Int.reduceLE, Int.reduceEq, reduceIte, ic62, insOk, h122, rd122, rowIf_ok, q1, q2, q3]
    by_cases q4 : x5 = 0
    case neg => simp only [ss, hps, Nat.reduceEqDiff, Nat.reduceLT, Nat.reduceAdd, Nat.reduceLeDiff, Int.reduceLT, Int.reduceLE, Int.reduceEq, reduceIte, ic62, insOk, h122, rd122, rowIf_ok, q1, q2, q3, q4]
    by_cases q5 : x6 = 0
    case neg => simp only [ss, hps, Nat.reduceEqDiff, Nat.reduceLT, Nat.reduceAdd, Nat.reduceLeDiff, Int.reduceLT, Int.reduceLE, Int.reduceEq, reduceIte, ic62, insOk, h122, rd122, rowIf_ok, q1, q2, q3, q4, q5]
    simp only [ss, hps, Nat.reduceEqDiff, Nat.reduceLT, Nat.reduceAdd, Nat.reduceLeDiff, Int.reduceLT, Int.reduceLE, Int.reduceEq, reduceIte, ic62, insOk, h122, rd122, rowIf_ok, q1, q2, q3, q4, q5]
  by_cases k2 : x1 = 2
  · subst k2
    cases q1 : isN x3 m
    case false => simp only [ss, hps, Nat.reduceEqDiff, Nat.reduceLT, Nat.reduceAdd, Nat.reduceLeDiff, Int.reduceLT, Int.reduceLE, Int.reduceEq, reduceIte, ic62, insOk, h122, rd122, rowIf_ok, k1, q1]
    cases q2 : isN x4 m
    case false => simp only [ss, hps, Nat.reduceEqDiff, Nat.reduceLT, Nat.reduceAdd, Nat.reduceLeDiff, Int.reduceLT, Int.reduceLE, Int.reduceEq, reduceIte, ic62, insOk, h122, rd122, rowIf_ok, k1, q1, q2]
    by_cases q3 : x2 = 0
    case neg => simp only [ss, hps, Nat.reduceEqDiff, Nat.reduceLT, Nat.reduceAdd, Nat.reduceLeDiff, Int.reduceLT, Int.reduceLE, Int.reduceEq, reduceIte, ic62, insOk, h122, rd122, rowIf_ok, k1, q1, q2, q3]
    by_cases q4 : x5 = 0
    case neg => simp only [ss, hps, Nat.reduceEqDiff, Nat.reduceLT, Nat.reduceAdd, Nat.reduceLeDiff, Int.reduceLT, Int.reduceLE, Int.reduceEq, reduceIte, ic62, insOk, h122, rd122, rowIf_ok, k1, q1, q2, q3, q4]
    by_cases q5 : x6 = 0
    case neg => simp only [ss, hps, Nat.reduceEqDiff, Nat.reduceLT, Nat.reduceAdd, Nat.reduceLeDiff, Int.reduceLT, Int.reduceLE, Int.reduceEq, reduceIte, ic62, insOk, h122, rd122, rowIf_ok, k1, q1, q2, q3, q4, q5]
    by_cases q6 : x7 = 0
    case neg => simp only [ss, hps, Nat.reduceEqDiff, Nat.reduceLT, Nat.reduceAdd, Nat.reduceLeDiff, Int.reduceLT, Int.reduceLE, Int.reduceEq, reduceIte, ic62, insOk, h122, rd122, rowIf_ok, k1, q1, q2, q3, q4, q5, q6]
    simp only [ss, hps, Nat.reduceEqDiff, Nat.reduceLT, Nat.reduceAdd, Nat.reduceLeDiff, Int.reduceLT, Int.reduceLE, Int.reduceEq, reduceIte, ic62, insOk, h122, rd122, rowIf_ok, k1, q1, q2, q3, q4, q5, q6]
  by_cases k3 : x1 = 3
  · subst k3
    by_cases q1 : arity15 x2 = 0
    case pos => simp only [ss, hps, Nat.reduceEqDiff, Nat.reduceLT, Nat.reduceAdd, Nat.reduceLeDiff, Int.reduceLT, Int.reduceLE, Int.reduceEq, reduceIte, ic62, insOk, h122, rd122, h123, rd123, rowIf_ok, k1, k2, q1]
    cases q2 : isN x3 m
    case false => simp only [ss, hps, Nat.reduceEqDiff, Nat.reduceLT, Nat.reduceAdd, Nat.reduceLeDiff, Int.reduceLT, Int.reduceLE, Int.reduceEq, reduceIte, ic62, insOk, h122, rd122, h123, rd123, rowIf_ok, k1, k2, q1, q2]
    cases q3 : isN x4 m
    case false => simp only [ss, hps, Nat.reduceEqDiff, Nat.reduceLT, Nat.reduceAdd, Nat.reduceLeDiff, Int.reduceLT, Int.reduceLE, Int.reduceEq, reduceIte, ic62, insOk, h122, rd122, h123, rd123, rowIf_ok, k1, k2, q1, q2, q3]
    by_cases q4 : x7 = 0
    case neg => simp only [ss, hps, Nat.reduceEqDiff, Nat.reduceLT, Nat.reduceAdd, Nat.reduceLeDiff, Int.reduceLT, Int.reduceLE, Int.reduceEq, reduceIte, ic62, insOk, h122, rd122, h123, rd123, rowIf_ok, k1, k2, q1, q2, q3, q4]
    cases q5 : x8
    case true => simp only [ss, hps, Nat.reduceEqDiff, Nat.reduceLT, Nat.reduceAdd, Nat.reduceLeDiff, Int.reduceLT, Int.reduceLE, Int.reduceEq, reduceIte, ic62, insOk, h122, rd122, h123, rd123, rowIf_ok, k1, k2, q1, q2, q3, q4, q5]
    simp only [ss, hps, Nat.reduceEqDiff, Nat.reduceLT, Nat.reduceAdd, Nat.reduceLeDiff, Int.reduceLT, Int.reduceLE, Int.reduceEq, reduceIte, ic62, insOk, h122, rd122, h123, rd123, rowIf_ok, k1, k2, q1, q2, q3, q4, q5]
    by_cases u1 : 1 < arity15 x2
    · have u3 : ¬ arity15 x2 = 1 := by omega
      cases u2 : isN x5 m
      case false => simp only [ss, hps, Nat.reduceEqDiff, Nat.reduceLT, Nat.reduceAdd, Nat.reduceLeDiff, Int.reduceLT, Int.reduceLE, Int.reduceEq, reduceIte, ic62, insOk, h122, rd122, h123, rd123, rowIf_ok, k1, k2, q1, q2, q3, q4, q5, u1, u3, u2]
      by_cases u5 : 2 < arity15 x2
      · have u7 : ¬ arity15 x2 < 3 := by omega
        cases u6 : isN x6 m <;> simp only [ss, hps, Nat.reduceEqDiff, Nat.reduceLT, Nat.reduceAdd, Nat.reduceLeDiff, Int.reduceLT, Int.reduceLE, Int.reduceEq, reduceIte, ic62, insOk, h122, rd122, h123, rd123, rowIf_ok, k1, k2, q1, q2, q3, q4, q5, u1, u3, u2, u5, u6, u7]
      · have u7 : arity15 x2 < 3 := by omega
        by_cases u8 : x6 = 0 <;> simp only [ss, hps, Nat.reduceEqDiff, Nat.reduceLT, Nat.reduceAdd, Nat.reduceLeDiff, Int.reduceLT, Int.reduceLE, Int.reduceEq, reduceIte, ic62, insOk, h122, rd122, h123, rd123, rowIf_ok, k1, k2, q1, q2, q3, q4, q5, u1, u3, u2, u5, u7, u8]
    · by_cases u3 : arity15 x2 = 1
      · have u5 : ¬ 2 < arity15 x2 := by omega
        have u7 : arity15 x2 < 3 := by omega
        by_cases u4 : x5 = 0
        · by_cases u8 : x6 = 0 <;> simp only [ss, hps, Nat.reduceEqDiff, Nat.reduceLT, Nat.reduceAdd, Nat.reduceLeDiff, Int.reduceLT, Int.reduceLE, Int.reduceEq, reduceIte, ic62, insOk, h122, rd122, h123, rd123, rowIf_ok, k1, k2, q1, q2, q3, q4, q5, u1, u3, u4, u5, u7, u8]
        · simp only [ss, hps, Nat.reduceEqDiff, Nat.reduceLT, Nat.reduceAdd, Nat.reduceLeDiff, Int.reduceLT, Int.reduceLE, Int.reduceEq, reduceIte, ic62, insOk, h122, rd122, h123, rd123, rowIf_ok, k1, k2, q1, q2, q3, q4, q5, u1, u3, u4]
      · simp only [ss, hps, Nat.reduceEqDiff, Nat.reduceLT, Nat.reduceAdd, Nat.reduceLeDiff, Int.reduceLT, Int.reduceLE, Int.reduceEq, reduceIte, ic62, insOk, h122, rd122, h123, rd123, rowIf_ok, k1, k2, q1, q2, q3, q4, q5, u1, u3]
  by_cases k4 : x1 = 4
  · subst k4
    cases q0 : isN x3 m
    case false => simp only [ss, hps, Nat.reduceEqDiff, Nat.reduceLT, Nat.reduceAdd, Nat.reduceLeDiff, Int.reduceLT, Int.reduceLE, Int.reduceEq, reduceIte, ic62, insOk, h122, rd122, rowIf_ok, k1, k2, k3, q0]
    by_cases y : x4 = -1
    · by_cases q1 : x2 = 0
      case neg => simp only [ss, hps, Nat.reduceEqDiff, Nat.reduceLT, Nat.reduceAdd, Nat.reduceLeDiff, Int.reduceLT, Int.reduceLE, Int.reduceEq, reduceIte, ic62, insOk, h122, rd122, rowIf_ok, k1, k2, k3, q0, y, q1]
      by_cases q2 : x5 = 0
      case neg => simp only [ss, hps, Nat.reduceEqDiff, Nat.reduceLT, Nat.reduceAdd, Nat.reduceLeDiff, Int.reduceLT, Int.reduceLE, Int.reduceEq, reduceIte, ic62, insOk, h122, rd122, rowIf_ok, k1, k2, k3, q0, y, q1, q2]
      by_cases q3 : x6 = 0
      case neg => simp only [ss, hps, Nat.reduceEqDiff, Nat.reduceLT, Nat.reduceAdd, Nat.reduceLeDiff, Int.reduceLT, Int.reduceLE, Int.reduceEq, reduceIte, ic62, insOk, h122, rd122, rowIf_ok, k1, k2, k3, q0, y, q1, q2, q3]
      simp only [ss, hps, Nat.reduceEqDiff, Nat.reduceLT, Nat.reduceAdd, Nat.reduceLeDiff, Int.reduceLT, Int.reduceLE, Int.reduceEq, reduceIte, ic62, insOk, h122, rd122, rowIf_ok, k1, k2, k3, q0, y, q1, q2, q3]
    · cases q1 : isN x4 m
      case false => simp only [ss, hps, Nat.reduceEqDiff, Nat.reduceLT, Nat.reduceAdd, Nat.reduceLeDiff, Int.reduceLT, Int.reduceLE, Int.reduceEq, reduceIte, ic62, insOk, h122, rd122, rowIf_ok, k1, k2, k3, q0, y, q1]
      by_cases q2 : x2 = 0
      case neg => simp only [ss, hps, Nat.reduceEqDiff, Nat.reduceLT, Nat.reduceAdd, Nat.reduceLeDiff, Int.reduceLT, Int.reduceLE, Int.reduceEq, reduceIte, ic62, insOk, h122, rd122, rowIf_ok, k1, k2, k3, q0, y, q1, q2]
      by_cases q3 : x5 = 0
      case neg => simp only [ss, hps, Nat.reduceEqDiff, Nat.reduceLT, Nat.reduceAdd, Nat.reduceLeDiff, Int.reduceLT, Int.reduceLE, Int.reduceEq, reduceIte, ic62, insOk, h122, rd122, rowIf_ok, k1, k2, k3, q0, y, q1, q2, q3]
      by_cases q4 : x6 = 0
      case neg => simp only [ss, hps, Nat.reduceEqDiff, Nat.reduceLT, Nat.reduceAdd, Nat.reduceLeDiff, Int.reduceLT, Int.reduceLE, Int.reduceEq, reduceIte, ic62, insOk, h122, rd122, rowIf_ok, k1, k2, k3, q0, y, q1, q2, q3, q4]
      simp only [ss, hps, Nat.reduceEqDiff, Nat.reduceLT, Nat.reduceAdd, Nat.reduceLeDiff, Int.reduceLT, Int.reduceLE, Int.reduceEq, reduceIte, ic62, insOk, h122, rd122, rowIf_ok, k1, k2, k3, q0, y, q1, q2, q3, q4]
  by_cases k5 : x1 = 5
  · subst k5
    by_cases q0 : x3 = 0
    case neg => simp only [ss, hps, Nat.reduceEqDiff, Nat.reduceLT, Nat.reduceAdd, Nat.reduceLeDiff, Int.reduceLT, Int.reduceLE, Int.reduceEq, reduceIte, ic62, insOk, h122, rd122, rowIf_ok, k1, k2, k3, k4, q0]
    by_cases y : x4 = -1
    · cases q1 : isN x5 m
      case false => simp only [ss, hps, Nat.reduceEqDiff, Nat.reduceLT, Nat.reduceAdd, Nat.reduceLeDiff, Int.reduceLT, Int.reduceLE, Int.reduceEq, reduceIte, ic62, insOk, h122, rd122, rowIf_ok, k1, k2, k3, k4, q0, y, q1]
      by_cases q2 : x2 = 0
      case neg => simp only [ss, hps, Nat.reduceEqDiff, Nat.reduceLT, Nat.reduceAdd, Nat.reduceLeDiff, Int.reduceLT, Int.reduceLE, Int.reduceEq, reduceIte, ic62, insOk, h122, rd122, rowIf_ok, k1, k2, k3, k4, q0, y, q1, q2]
      by_cases q3 : x6 = 0
      case neg => simp only [ss, hps, Nat.reduceEqDiff, Nat.reduceLT, Nat.reduceAdd, Nat.reduceLeDiff, Int.reduceLT, Int.reduceLE, Int.reduceEq, reduceIte, ic62, insOk, h122, rd122, rowIf_ok, k1, k2, k3, k4, q0, y, q1, q2, q3]
      simp only [ss, hps, Nat.reduceEqDiff, Nat.reduceLT, Nat.reduceAdd, Nat.reduceLeDiff, Int.reduceLT, Int.reduceLE, Int.reduceEq, reduceIte, ic62, insOk, h122, rd122, rowIf_ok, k1, k2, k3, k4, q0, y, q1, q2, q3]
    · cases q1 : isN x4 m
      case false => simp only [ss, hps, Nat.reduceEqDiff, Nat.reduceLT, Nat.reduceAdd, Nat.reduceLeDiff, Int.reduceLT, Int.reduceLE, Int.reduceEq, reduceIte, ic62, insOk, h122, rd122, rowIf_ok, k1, k2, k3, k4, q0, y, q1]
      cases q2 : isN x5 m
      case false => simp only [ss, hps, Nat.reduceEqDiff, Nat.reduceLT, Nat.reduceAdd, Nat.reduceLeDiff, Int.reduceLT, Int.reduceLE, Int.reduceEq, reduceIte, ic62, insOk, h122, rd122, rowIf_ok, k1, k2, k3, k4, q0, y, q1, q2]
      by_cases q3 : x2 = 0
      case neg => simp only [ss, hps, Nat.reduceEqDiff, Nat.reduceLT, Nat.reduceAdd, Nat.reduceLeDiff, Int.reduceLT, Int.reduceLE, Int.reduceEq, reduceIte, ic62, insOk, h122, rd122, rowIf_ok, k1, k2, k3, k4, q0, y, q1, q2, q3]
      by_cases q4 : x6 = 0
      case neg => simp only [ss, hps, Nat.reduceEqDiff, Nat.reduceLT, Nat.reduceAdd, Nat.reduceLeDiff, Int.reduceLT, Int.reduceLE, Int.reduceEq, reduceIte, ic62, insOk, h122, rd122, rowIf_ok, k1, k2, k3, k4, q0, y, q1, q2, q3, q4]
      simp only [ss, hps, Nat.reduceEqDiff, Nat.reduceLT, Nat.reduceAdd, Nat.reduceLeDiff, Int.reduceLT, Int.reduceLE, Int.reduceEq, reduceIte, ic62, insOk, h122, rd122, rowIf_ok, k1, k2, k3, k4, q0, y, q1, q2, q3, q4]
  simp only [ss, hps, Nat.reduceEqDiff, Nat.reduceLT, Nat.reduceAdd, Nat.reduceLeDiff, Int.reduceLT, Int.reduceLE, Int.reduceEq, reduceIte, ic62, insOk, h122, rd122, rowIf_ok, k1, k2, k3, k4, k5]
theorem s62 : Sim Tryz.prog 62 (rd g62) := by
  refine Sim.rd ⟨Tryz.f62, Tryz.func62, rfl, by decide⟩ fun args v h hg => ?_
  unfold g62 at hg
  split at hg
  · cases hg
    obtain ⟨h2, h3, h4⟩ := b62 (O := ocons 122 (rd g122) (ocons 123 (rd g123) onil)) rfl rfl
    exact ⟨_, body_sim (ocons_sim s122 (ocons_sim s123 onil_sim)) cc62 0, _, h3, h4, fun _ => rfl⟩
  · cases hg
end Go.Proofs.YtadeojgiiapljaaGreat.Im
