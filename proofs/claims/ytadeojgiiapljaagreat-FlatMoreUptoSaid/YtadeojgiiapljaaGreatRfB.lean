/- slices.Values: the rounds. -/
import Derived.RangeFuncNested
import Derived.RangeFuncBound
import Derived.RangeFuncCalls
import Derived.RangeFuncLeaves
import Derived.Shelf.Abstract
import Derived.WalkKit
import Derived.OwnWalkIn
import Derived.TacticsInMore
import Derived.LoopNIn
import Derived.LoopIn
import Derived.Test.YtadeojgiiapljaaGreatProg
namespace Go.Proofs.YtadeojgiiapljaaGreat.Im
open Go Go.Proofs
open Go.RowKit Go.Shelf
attribute [local go_sem] Oper.semAt_some
abbrev Plc := ByteArray × Int × Int
def plV (x : Plc) : Value := .agg #[.string x.1, .int .i64 x.2.1, .int .i64 x.2.2]
/-- The cells of places, from an offset on. -/
def PlcAt (W : World) (b off : Nat) (xs : Nat → Plc) (len : Nat) : Prop := ∀ j, j < len → W.cell? ⟨b, off + j * 3, none⟩ = some (.string (xs j).1) ∧ W.cell? ⟨b, off + j * 3 + 1, none⟩ = some (.int .i64 (xs j).2.1) ∧ W.cell? ⟨b, off + j * 3 + 2, none⟩ = some (.int .i64 (xs j).2.2)
set_option maxRecDepth 100000 in
set_option maxHeartbeats 2000000 in
theorem values1_in (n : Nat) (hn : 1 ≤ n) (l Bs os n₀ b off len cap : Nat) (xs : Nat → Plc) (hreach : len * 32 ≤ 140737488351232) (hb : b < n₀) (J : Nat → World → Prop)
    (hY : ∀ k W, J k W → k < len → YieldAt Fence.wide (n - 1) Tryz.prog l #[plV (xs k)] W fun e W' => e = .returned (.bool true) ∧ J (k + 1) W' ∧ Below n₀ W W')
    (hJa : ∀ k W o, J k W → J k (W.alloc o)) (W : World) (hn₀ : n₀ ≤ W.heap.size) (hBs : W.cell? ⟨Bs, os, none⟩ = some (.slice (some ⟨b, off, none⟩) len cap)) (hc : PlcAt W b off xs len) (h0 : J 0 W) :
    CallsIn Fence.wide n Tryz.prog 154 #[.func (.yield l) #[] #[], .pointer (some ⟨Bs, os, none⟩)] W fun e W' => (∃ v, e = .returned v) ∧ J len W' := by
  refine callsIn_of_wp Tryz.func154 rfl trivial ?_ rfl
  simp only [Tryz.ntmps154, List.size_toArray, List.length_cons, List.length_nil, Nat.reduceAdd, Nat.reduceSub, Array.replicate_succ, Array.replicate_zero, List.push_toArray, List.append_toArray, List.nil_append, List.cons_append]
  gi_wp2
  gi_loopw [7] (fun i wr => ∃ k : Nat, k ≤ len ∧ i = .int .i64 k ∧ J k wr ∧ Below n₀ W wr)
    (fun i _ => len - (intOf i).toNat)
  case atStart => exact ⟨0, Nat.zero_le _, rfl, h0, Below.refl _ _⟩
  case round =>
    obtain ⟨k, hk, rfl, hJs, hnx⟩ := hrel
    by_cases hlt : k < len
    · obtain ⟨c0, c1, c2⟩ := hc k hlt
      have d0 : wr.cell? ⟨b, off + k * 3, none⟩ = some (.string (xs k).1) := (hnx.cell (p := ⟨b, off + k * 3, none⟩) hb).trans c0
      have d1 : wr.cell? ⟨b, off + k * 3 + 1, none⟩ = some (.int .i64 (xs k).2.1) := (hnx.cell (p := ⟨b, off + k * 3 + 1, none⟩) hb).trans c1
      have d2 : wr.cell? ⟨b, off + k * 3 + 2, none⟩ = some (.int .i64 (xs k).2.2) := (hnx.cell (p := ⟨b, off + k * 3 + 2, none⟩) hb).trans c2
      obtain ⟨fn, tmps, assign, body, hy, hR⟩ := hY k _ (hJa k wr (.cells #[.string (xs k).1, .int .i64 (xs k).2.1, .int .i64 (xs k).2.2] 132) hJs) hlt
      dsimp only [plV] at hy
      have hbel : Below n₀ W (wr.alloc (.cells #[.string (xs k).1, .int .i64 (xs k).2.1, .int .i64 (xs k).2.2] 132)) := hnx.alloc (Nat.le_trans hn₀ hnx.size) _
      gi_wp2
      refine hR.mono ?_
      rintro e W3 ⟨rfl, hJ3, hk3⟩
      gi_wp2
      go_roundw
      case rel => exact ⟨k + 1, by omega, by simp, hJ3, hbel.trans hk3⟩
      case measure => simp [intOf]; omega
    · obtain rfl : k = len := by omega
      gi_wp2
      go_end0
      exact ⟨⟨_, rfl⟩, hJs⟩
set_option maxRecDepth 100000 in
set_option maxHeartbeats 2000000 in
theorem values0_in (n : Nat) (l Bs os : Nat) (oa : Option Addr) (J : Nat → World → Prop) (W : World) (hBs : W.cell? ⟨Bs, os, none⟩ = some (.slice oa 0 0)) (h0 : J 0 W) :
    CallsIn Fence.wide n Tryz.prog 154 #[.func (.yield l) #[] #[], .pointer (some ⟨Bs, os, none⟩)] W fun e W' => (∃ v, e = .returned v) ∧ J 0 W' := by
  refine callsIn_of_wp Tryz.func154 rfl trivial ?_ rfl
  simp only [Tryz.ntmps154, List.size_toArray, List.length_cons, List.length_nil, Nat.reduceAdd, Nat.reduceSub, Array.replicate_succ, Array.replicate_zero, List.push_toArray, List.append_toArray, List.nil_append, List.cons_append]
  gi_wp2
  gi_loopw [7] (fun i wr => i = .int .i64 0 ∧ J 0 wr) (fun _ _ => 0)
  case atStart => exact ⟨rfl, h0⟩
  case round =>
    obtain ⟨rfl, hJs⟩ := hrel
    gi_wp2
    go_end0
    exact ⟨⟨_, rfl⟩, hJs⟩
/-- The iterator hands over the places xs 0, .., one by one. -/
def It (n₀ len : Nat) (xs : Nat → Plc) (Bs os : Nat) (W1 : World) : Prop := ∀ (l : Nat) (J : Nat → World → Prop) (W2 : World),
  (∀ k W, J k W → k < len → YieldAt Fence.wide 1 Tryz.prog l #[plV (xs k)] W fun e W' => e = .returned (.bool true) ∧ J (k + 1) W' ∧ Below n₀ W W') → (∀ k W o, J k W → J k (W.alloc o)) → Below n₀ W1 W2 → n₀ ≤ W2.heap.size → J 0 W2 →
    CallsIn Fence.wide 2 Tryz.prog 154 #[.func (.yield l) #[] #[], .pointer (some ⟨Bs, os, none⟩)] W2 fun e W' => (∃ v, e = .returned v) ∧ J len W'
theorem It.nil {n₀ Bs os : Nat} {oa : Option Addr} {xs : Nat → Plc} {W1 : World} (hB : Bs < n₀) (hBs : W1.cell? ⟨Bs, os, none⟩ = some (.slice oa 0 0)) : It n₀ 0 xs Bs os W1 := fun l J W2 _ _ hb _ h0 =>
  values0_in 2 l Bs os oa J W2 ((hb.cell (p := ⟨Bs, os, none⟩) hB).trans hBs) h0
theorem It.some {n₀ Bs os b off len cap : Nat} {xs : Nat → Plc} {W1 : World} (hlen : len < 4000000) (hB : Bs < n₀) (hb : b < n₀) (hBs : W1.cell? ⟨Bs, os, none⟩ = some (.slice (some ⟨b, off, none⟩) len cap)) (hc : PlcAt W1 b off xs len) : It n₀ len xs Bs os W1 := fun l J W2 hY hJa h hn h0 =>
  values1_in 2 (by decide) l Bs os n₀ b off len cap xs (by omega) hb J hY hJa W2 hn ((h.cell (p := ⟨Bs, os, none⟩) hB).trans hBs) (fun j hj => by
    obtain ⟨c0, c1, c2⟩ := hc j hj
    exact ⟨(h.cell (p := ⟨b, off + j * 3, none⟩) hb).trans c0, (h.cell (p := ⟨b, off + j * 3 + 1, none⟩) hb).trans c1, (h.cell (p := ⟨b, off + j * 3 + 2, none⟩) hb).trans c2⟩) h0
end Go.Proofs.YtadeojgiiapljaaGreat.Im
