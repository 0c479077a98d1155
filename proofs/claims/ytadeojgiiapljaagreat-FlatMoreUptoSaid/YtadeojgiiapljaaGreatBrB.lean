/- FlatMore: the contract, and the row. -/
import Derived.Test.YtadeojgiiapljaaGreatBrA
import Derived.Test.YtadeojgiiapljaaGreatFmB
import Derived.WalkKit
import Derived.ProofKit
import Derived.OpenShut
import Derived.JoinedCond
import Derived.ChangeSame
import Derived.WideKeyArgs
set_option linter.unusedSimpArgs false
set_option linter.unusedVariables false
namespace Go.Proofs.YtadeojgiiapljaaGreat.Im
open Go
open Go.ChangeShapes Go.WideShapes Go.ChangeAt Go.RowKit
section
variable {H : Type} {enc : TypeId × Value → H} {P : Program} {W W' : World}
theorem kept_below (hb : Below W.heap.size W W') (may : MemPlace → Prop) : W.keptBut W' may := by
  refine ⟨hb.os, hb.output, fun i hi => ?_⟩
  rw [hb.block i hi]
  cases W.heap[i]? with
  | none => rfl
  | some o => cases o <;> first | exact ⟨rfl, rfl, rfl, fun _ _ => rfl⟩ | exact .inr ⟨rfl, rfl⟩ | rfl
theorem trodAll_below (hl : laidOutB P = true) (hb : Below W.heap.size W W') {sp : Nat → Bool} : ∀ {ts : List TypeId} {vs : List Value} {ds : List (DataW H)} {ps : List MemPlace}, (∀ t ∈ ts, P.readableRec t = true ∧ t < P.types.size) →
    DataW.TrodAll enc P W 0 (fun _ => true) true ts vs ds ps → (∀ p ∈ ps, p.block < W.heap.size) → (∀ p ∈ ps, sp p.block = true) → DataW.TrodAll enc P W' 0 sp true ts vs ds ps
  | [], _, _, _, _, h, _, _ => by
    obtain ⟨rfl, rfl, rfl⟩ := trodAll_nil h
    exact h
  | t :: ts, _, _, _, hr, h, hlt, hs => by
    obtain ⟨v, vs1, d, ds1, p, q, rfl, rfl, rfl, h1, h2⟩ := trodAll_cons h
    refine ⟨p, q, ?_, trodAll_below hl hb (fun t' ht' => hr t' (List.mem_cons_of_mem _ ht')) h2 (fun x hx => hlt x (List.mem_append_right _ hx)) (fun x hx => hs x (List.mem_append_right _ hx)), rfl⟩
    exact WideElems.Trod_stays hl (hr t List.mem_cons_self).1 (hr t List.mem_cons_self).2 h1 (fun x hx => hb.same (hlt x (List.mem_append_left _ hx))) (fun x hx => hs x (List.mem_append_left _ hx))
theorem cells_slice {t e : TypeId} (hu : P.underlying t = some (.slice e)) {r : Go.Reach} {base : Nat} {v : Value} (h : Value.okWide P W r base t v) : v.cells = #[v] := by
  cases v with
  | agg cs => exfalso; simp [Value.okWide, hu, Cell.okWide, Cell.ok] at h
  | _ => rfl
theorem cells_num {t : TypeId} {k : IntKind} (hu : P.underlying t = some (.int k)) {r : Go.Reach} {base : Nat} {v : Value} (h : Value.okWide P W r base t v) : v.cells = #[v] := by
  cases v with
  | agg cs => exfalso; simp [Value.okWide, hu, Cell.okWide, Cell.ok] at h
  | _ => rfl
theorem vrels_of {vs : List IV} {xs : Array Value} (h : CRs W vs xs.toList) : VRels (fun _ => none) (CW W) vs xs := by
  refine ⟨by rw [h.1]; simp, fun i hi => ?_⟩
  obtain ⟨x, h1, h2⟩ := h.2 i _ (List.getElem?_eq_getElem hi)
  have h1' : xs[i]? = some x := by simpa using h1
  rw [Array.getD_eq_getD_getElem?, h1']
  exact h2
end
theorem read3 : laidOutB Tryz.prog = true := by kernel_rfl
theorem read3p : ∀ t ∈ Tryz.f3.params.toList, Tryz.prog.readableRec t = true ∧ t < Tryz.prog.types.size := by
  rw [Tryz.params3]
  intro t ht
  simp only [List.mem_cons, List.not_mem_nil, or_false] at ht
  rcases ht with rfl | rfl | rfl | rfl | rfl | rfl
  · exact ⟨by kernel_rfl, Nat.le_of_ble_eq_true (by kernel_rfl)⟩
  · exact ⟨by kernel_rfl, Nat.le_of_ble_eq_true (by kernel_rfl)⟩
  · exact ⟨by kernel_rfl, Nat.le_of_ble_eq_true (by kernel_rfl)⟩
  · exact ⟨by kernel_rfl, Nat.le_of_ble_eq_true (by kernel_rfl)⟩
  · exact ⟨by kernel_rfl, Nat.le_of_ble_eq_true (by kernel_rfl)⟩
  · exact ⟨by kernel_rfl, Nat.le_of_ble_eq_true (by kernel_rfl)⟩
end Go.Proofs.YtadeojgiiapljaaGreat.Im
