/- mem.Stack. -/
import Derived.Test.YtadeojgiiapljaaGreatIcA
import Derived.Test.YtadeojgiiapljaaGreatIcB
import Derived.Test.YtadeojgiiapljaaGreatMmB
set_option linter.unusedSimpArgs false
set_option linter.unusedVariables false
namespace Go.Proofs.YtadeojgiiapljaaGreat.Im
open Go
set_option maxHeartbeats 1000000
theorem oint_none (e : Env) (d : Int) : oint e d none = some d := rfl
theorem oint_c (e : Env) (d : Int) (k : IntKind) (n : Int) : oint e d (some (.c (.int k n))) = some n := rfl
theorem sliceArr_stack (bb : Nat) : sliceArrV 65536 1 (.ptr bb 0) 49152 ((65536 : Nat) : Int) = some (.slice bb 49152 16384 16384) := by
  simp [sliceArrV, bounds]
def G74 : List IV → M IV := bodyI T0 onil 0 ic74
theorem s74 : Sim Tryz.prog 74 G74 := body_sim onil_sim cc74 0
theorem G74_at {h : IHeap} {bb : Nat} {bs : List Int} (hb : h.get bb = some (.row (bs.map u8))) (hl : bs.length = 65536) : ∃ h2, G74 [.slice bb 49152 16384 16384] h = .ok (.aslice (h.n + 1) 0 16384 1) h2 ∧ Grow h h2 := by
  have hlt := get_lt hb
  have e1 : Im.loadN (h.push (.row [])) (.ptr bb 49152) (16384 * 1) = some (((bs.map u8).drop 49152).take 16384) := by
    rw [loadN_ptr, get_push_old hlt, hb, Option.bind_some, rowN_row, subL_ok (by simp [hl])]
  have e2 : (((bs.map u8).drop 49152).take 16384).all (·.one) = true := by
    rw [List.all_eq_true]
    intro x hx
    have := List.mem_of_mem_drop (List.mem_of_mem_take hx)
    simp only [List.mem_map] at this
    obtain ⟨y, _, rfl⟩ := this
    rfl
  have e3 : Im.loadN (h.push (.row [])) (.ptr h.n 0) (0 * 1) = some [] := by rw [loadN_ptr, get_push_new]; simp [rowN, subL]
  generalize ((bs.map u8).drop 49152).take 16384 = new at *
  have e4 : appendI 1 1 (.slice h.n 0 0 0) (.slice bb 49152 16384 16384) (h.push (.row [])) = .ok (.aslice (h.n + 1) 0 16384 1) ((h.push (.row [])).push (.row new)) := by
    simp only [appendI, sliceLen, sliceCells, e1, e2, e3]
    simp
  refine ⟨(h.push (.row [])).push (.row new), ?_, (Grow.push _ _).trans (Grow.push _ _)⟩
  unfold G74
  rw [body_eq rfl rfl rfl (by decide)]
  simp only [ss, hps, Nat.reduceEqDiff, Nat.reduceLT, Nat.reduceAdd, Nat.reduceLeDiff, Int.reduceLT, Int.reduceLE, Int.reduceEq, reduceIte, ic74, isnil_sl, rowIf_ok, e4]
noncomputable def G38 : List IV → M IV := bodyI T0 (ocons 73 F73 (ocons 74 G74 onil)) 0 ic38
theorem s38 : Sim Tryz.prog 38 G38 := body_sim (ocons_sim s73 (ocons_sim s74 onil_sim)) cc38 0
theorem G38_at {h : IHeap} {mb bb : Nat} {bs : List Int} {l : List Reg} (hm : MemR h mb bb bs l) : ∃ b h2, G38 [.ptr mb 0] h = .ok (.aslice b 0 16384 1) h2 ∧ Grow h h2 := by
  obtain ⟨hb, hl⟩ := hm.bytes
  obtain ⟨⟨u, hu, _⟩, _⟩ := hm
  have r73 := F73_at hu.m
  have o73 : (ocons 73 F73 (ocons 74 G74 onil)) 73 = F73 := rfl
  have o74 : (ocons 73 F73 (ocons 74 G74 onil)) 74 = G74 := rfl
  obtain ⟨h2, r74, g⟩ := G74_at hb hl
  have gm := hu.m
  refine ⟨h.n + 1, h2, ?_, g⟩
  unfold G38
  rw [body_eq rfl rfl rfl (by decide)]
  simp only [ss, hps, Nat.reduceEqDiff, Nat.reduceLT, Nat.reduceAdd, Nat.reduceLeDiff, Int.reduceLT, Int.reduceLE, Int.reduceEq, reduceIte, ic38, o73, r73, nilchk_ptr, gm, oint_none, oint_c, sliceArr_stack, o74, r74]
end Go.Proofs.YtadeojgiiapljaaGreat.Im
