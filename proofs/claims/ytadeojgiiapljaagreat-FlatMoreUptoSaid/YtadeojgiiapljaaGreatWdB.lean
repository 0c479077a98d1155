/- A region that draws its order: every order that keeps the edges, by an invariant. -/
import Derived.Test.YtadeojgiiapljaaGreatImB
import Derived.Test.YtadeojgiiapljaaGreatWdA
import Derived.Orders
import Derived.KernelRfl
set_option linter.unusedSimpArgs false
set_option linter.unusedVariables false
namespace Go.Proofs.YtadeojgiiapljaaGreat.Im
open Go
section
variable {P : Program} {φ : Phi} {C : Con} {h : IHeap} {e : Env} {a : Act} {w : World} {O : Orc} {N : Nat}
theorem getD_set {L : Array Bool} {i j : Nat} (hi : i < L.size) : (L.setIfInBounds i true).getD j true = if i = j then true else L.getD j true := by
  simp only [Array.getD_eq_getD_getElem?, Array.getElem?_setIfInBounds]
  split <;> simp_all
theorem ready_iff {ops : Array Oper} {L : Array Bool} {i : Nat} : i ∈ Region.ready .any ops L ↔ i < ops.size ∧ L.getD i true = false ∧ ∃ o, ops[i]? = some o ∧ ∀ e ∈ o.after.toList, Region.binds .any e = true → L.getD e.on false = true := by
  unfold Region.ready
  simp only [List.mem_filter, List.mem_range, Bool.and_eq_true, Bool.not_eq_true']
  constructor
  · rintro ⟨h1, h2, h3⟩
    refine ⟨h1, h2, ?_⟩
    cases ho : ops[i]? with
    | none => rw [ho] at h3; cases h3
    | some o =>
      rw [ho] at h3
      refine ⟨o, rfl, fun e he hb => ?_⟩
      simp only [Option.map_some, Option.getD_some, Array.all_eq_true'] at h3
      have := h3 e (by simpa using he)
      rw [hb] at this
      simpa using this
  · rintro ⟨h1, h2, o, ho, h3⟩
    refine ⟨h1, h2, ?_⟩
    rw [ho]
    simp only [Option.map_some, Option.getD_some, Array.all_eq_true']
    intro e he
    cases hb : Region.binds .any e
    · rfl
    · simpa using h3 e (by simpa using he) hb
theorem all_listed {ops : Array Oper} (hlow : ∀ (i : Nat) (o : Oper), ops[i]? = some o → ∀ e ∈ o.after.toList, e.on < i) {L : Array Bool} (hs : L.size = ops.size) (hr : Region.ready .any ops L = []) : ∀ i, i < ops.size → L.getD i true = true := by
  intro i
  induction i using Nat.strongRecOn with
  | ind i ih =>
    intro hi
    cases hl : L.getD i true with
    | true => rfl
    | false =>
      exfalso
      have hm : i ∈ Region.ready .any ops L := ready_iff.2 ⟨hi, hl, ops[i], by simp [hi], fun e he hb => by
        have h1 := hlow i ops[i] (by simp [hi]) e he
        have h2 := ih e.on h1 (by omega)
        rw [Array.getD_eq_getD_getElem?, Array.getElem?_eq_getElem (by omega)] at h2 ⊢
        exact h2⟩
      rw [hr] at hm; cases hm
theorem go_inv {ops : Array Oper} {ios : List IOper} (hlow : ∀ (i : Nat) (o : Oper), ops[i]? = some o → ∀ e ∈ o.after.toList, e.on < i) {I : Array Bool → Env → IHeap → Prop}
    (step : ∀ (L : Array Bool) (e : Env) (h : IHeap) (i : Nat), L.size = ops.size → I L e h → i ∈ Region.ready .any ops L → ∃ io v h', ios[i]? = some io ∧ io.guard = none ∧ (∀ x, io.op ≠ .deferc x) ∧ opI O io.op e h = .ok v h' ∧ I (L.setIfInBounds i true) (e.puto io.dst v) h') :
    ∀ (fuel t : Nat) (L : Array Bool) (e : Env) (h : IHeap), L.size = ops.size → L.toList.count false ≤ fuel → I L e h →
      ∃ is', All2 (fun i io => ios[i]? = some io) (Region.linearise.go .any ops fuel t L []) is' ∧ ∃ e' h' L', ix.regI O is' e h = .ok .normal e' h' ∧ I L' e' h' ∧ ∀ i, i < ops.size → L'.getD i true = true
  | 0, t, L, e, h, hs, hc, hI => by
    refine ⟨[], by simp only [Region.linearise.go]; exact .nil, e, h, L, rfl, hI, fun i hi => ?_⟩
    cases hl : L.getD i true with
    | true => rfl
    | false =>
      exfalso
      have : false ∈ L.toList := by
        rw [Array.getD_eq_getD_getElem?, Array.getElem?_eq_getElem (by omega)] at hl
        simp only [Option.getD_some] at hl
        rw [← hl]; simp
      have := List.count_pos_iff.2 this
      omega
  | fuel + 1, t, L, e, h, hs, hc, hI => by
    simp only [Region.linearise.go]
    change ∃ is', All2 _ (match (Region.ready .any ops L)[t % (Region.ready .any ops L).length]? with
      | some i => Region.linearise.go .any ops fuel (t / (Region.ready .any ops L).length) (L.setIfInBounds i true) [i]
      | none => [].reverse) is' ∧ _
    cases hi : (Region.ready .any ops L)[t % (Region.ready .any ops L).length]? with
    | none =>
      have hnil : Region.ready .any ops L = [] := by
        cases hr : Region.ready .any ops L with
        | nil => rfl
        | cons x xs =>
          rw [hr] at hi
          have hlt : t % (x :: xs).length < (x :: xs).length := Nat.mod_lt _ (by simp)
          rw [List.getElem?_eq_getElem hlt] at hi
          cases hi
      exact ⟨[], .nil, e, h, L, rfl, hI, all_listed hlow hs hnil⟩
    | some i =>
      have hm := List.mem_of_getElem? hi
      obtain ⟨io, v, h', h1, h2, h3, h4, h5⟩ := step L e h i hs hI hm
      obtain ⟨g1, g2, _⟩ := ready_iff.1 hm
      have hcnt : (L.setIfInBounds i true).toList.count false ≤ fuel := by
        have hlt : i < L.toList.length := by simp; omega
        rw [Array.toList_setIfInBounds, List.count_set hlt]
        have hv : L.toList[i] = false := by
          rw [Array.getD_eq_getD_getElem?, Array.getElem?_eq_getElem (by omega)] at g2
          simpa using g2
        rw [hv]
        have hpos : 0 < L.toList.count false := List.count_pos_iff.2 (by rw [← hv]; exact List.getElem_mem hlt)
        simp only [beq_self_eq_true, if_true]
        have : ((true == false) = true) = False := by decide
        simp only [this, if_false]
        omega
      obtain ⟨is', k1, e', h'', L', k2, k3, k4⟩ := go_inv hlow step fuel (t / (Region.ready .any ops L).length) (L.setIfInBounds i true) (e.puto io.dst v) h' (by simp; exact hs) hcnt h5
      refine ⟨io :: is', ?_, e', h'', L', ?_, k3, k4⟩
      · simp only []
        rw [linearise_go_acc, List.reverse_singleton, List.singleton_append]
        exact .cons h1 k1
      · have hw : wantedI io.guard e = some true := by rw [h2]; rfl
        simp only [ix.regI, hw]
        cases hop : io.op with
        | deferc x => exact absurd hop (h3 x)
        | _ => rw [hop] at h4; simp only [h4]; exact k2
/-- A region that draws its order, by an invariant over what is done. -/
theorem any_sound (hO : ∀ f, Sim P f (O f)) (hmix : P.follows .mixedOrders = true) {id : Nat} {ops : Array Oper} {ios : List IOper} (hios : copers P N ops ops.toList = some ios) (hlow : ∀ (i : Nat) (o : Oper), ops[i]? = some o → ∀ e ∈ o.after.toList, e.on < i) {I : Array Bool → Env → IHeap → Prop}
    (step : ∀ (L : Array Bool) (e : Env) (h : IHeap) (i : Nat), L.size = ops.size → I L e h → i ∈ Region.ready .any ops L → ∃ io v h', ios[i]? = some io ∧ io.guard = none ∧ (∀ x, io.op ≠ .deferc x) ∧ opI O io.op e h = .ok v h' ∧ I (L.setIfInBounds i true) (e.puto io.dst v) h')
    {Q : Exit → Act → World → Prop} (r : Rel φ C h w) (hf : FRel φ C N e a) (hI : I (Array.replicate ops.size false) e h)
    (hQ : ∀ L' e' h', I L' e' h' → (∀ i, i < ops.size → L'.getD i true = true) → PostC φ C h w N Q (.ok .normal e' h')) : (Code.region id ops true).wp P Q a w :=
  wp_region_draw fun t => by
    simp only [Region.schedule, hmix, Bool.true_or, if_true, Region.linearise]
    obtain ⟨is', k1, e', h', L', k2, k3, k4⟩ := go_inv (ios := ios) hlow step ops.size t (Array.replicate ops.size false) e h (by simp) (by simp) hI
    have hall : All2 (fun i io => ∃ o, ops[i]? = some o ∧ coper P N ops o = some io) (Region.linearise.go .any ops ops.size t (Array.replicate ops.size false) []) is' := by
      clear k2
      revert k1
      generalize Region.linearise.go .any ops ops.size t (Array.replicate ops.size false) [] = is
      intro k1
      induction k1 with
      | nil => exact .nil
      | cons hh _ ih => exact .cons (by obtain ⟨o, h1, h2⟩ := copers_get hios _ _ hh; exact ⟨o, by simpa using h1, h2⟩) ih
    refine reg_sound hO _ is' e φ C h _ a hall (r.drew _) hf ?_
    rw [k2]
    have := hQ L' e' h' k3 k4
    exact PostC.trans (Ext.drew φ C h w _) this
end
end Go.Proofs.YtadeojgiiapljaaGreat.Im
namespace Go.Proofs.YtadeojgiiapljaaGreat.Im
open Go
set_option maxHeartbeats 1000000
set_option maxRecDepth 100000
abbrev fv (k : Nat) : IV := .func (.func k) [] []
def clO (d s k : Nat) : IOper := ⟨some d, .call (.t s) [.c (fv k)], none⟩
def inO (k : Nat) (v : IArg) : IOper := ⟨none, .mapput false (.t 4) (.c (.int .i64 k)) v, none⟩
def ios216 : List IOper := [⟨some 4, .mkmap, none⟩, inO 4 (.c (fv 243)), inO 5 (.c (fv 244))] ++ (List.range 11).flatMap (fun n => [⟨some (5 + 2 * n), .load1 (.t 1), none⟩, clO (6 + 2 * n) (5 + 2 * n) (twoK n), inO (6 + n) (.t (6 + 2 * n))]) ++
  (List.range 4).flatMap (fun m => [⟨some (27 + 2 * m), .mv (.t 2), none⟩, clO (28 + 2 * m) (27 + 2 * m) (257 + m), inO (17 + m) (.t (28 + 2 * m))]) ++ [inO 21 (.c (fv 261)), ⟨some 35, .mv (.t 4), none⟩, ⟨some 0, .mv (.t 35), none⟩]
noncomputable def code216 : Code := match Tryz.f216.body with | some c => c | none => .skip
noncomputable def lft : Code → Code | .seq a _ => a | c => c
noncomputable def rgt : Code → Code | .seq _ b => b | c => c
noncomputable def opsOf : Code → Array Oper | .region _ o _ => o | _ => #[]
noncomputable def ops216 : Array Oper := opsOf (lft (rgt (rgt (rgt code216))))
theorem shape216 : Tryz.f216.body = some (.seq (lft code216) (.seq (lft (rgt code216)) (.seq (lft (rgt (rgt code216))) (.seq (.region 3 ops216 true) .ret)))) := by kernel_rfl
theorem ios216_ok : copers Tryz.prog 36 ops216 ops216.toList = some ios216 := by kernel_rfl
theorem size216 : ops216.size = 51 := by kernel_rfl
def lowB : Nat → List Oper → Bool
  | _, [] => true
  | i, o :: os => o.after.toList.all (fun e => Nat.blt e.on i) && lowB (i + 1) os
theorem lowB_get : ∀ {os : List Oper} {k : Nat}, lowB k os = true → ∀ (i : Nat) (o : Oper), os[i]? = some o → ∀ e ∈ o.after.toList, e.on < k + i
  | o :: os, k, hb, i, o', ho, e, he => by
    simp only [lowB, Bool.and_eq_true, List.all_eq_true] at hb
    cases i with
    | zero => simp at ho; subst ho; have := hb.1 e he; simp [Nat.blt] at this; omega
    | succ i => have := lowB_get hb.2 i o' (by simpa using ho) e he; omega
theorem low216 : lowB 0 ops216.toList = true := by kernel_rfl
def depB (ops : List Oper) (i j : Nat) : Bool := match ops[i]? with
  | some o => o.after.toList.any fun e => Nat.beq e.on j && Region.binds .any e
  | none => false
theorem dep_ready {ops : Array Oper} {L : Array Bool} {i j : Nat} (hd : depB ops.toList i j = true) (hs : L.size = ops.size) (hlow : ∀ (i : Nat) (o : Oper), ops[i]? = some o → ∀ e ∈ o.after.toList, e.on < i) (hr : i ∈ Region.ready .any ops L) : L.getD j true = true := by
  obtain ⟨h1, h2, o, ho, h3⟩ := ready_iff.1 hr
  unfold depB at hd
  rw [show ops.toList[i]? = some o by simpa using ho] at hd
  simp only [List.any_eq_true, Bool.and_eq_true] at hd
  obtain ⟨e, he, hj, hb⟩ := hd
  have hj := Nat.eq_of_beq_eq_true hj
  subst hj
  have hl := h3 e he hb
  have := hlow i o ho e he
  rw [Array.getD_eq_getD_getElem?, Array.getElem?_eq_getElem (by omega)] at hl ⊢
  exact hl
/-- Where the entry of an operation is inserted. -/
def insIdx (k : Nat) : Nat := if k = 4 then 1 else if k = 5 then 2 else if k = 21 then 48 else if k ≤ 16 then 5 + 3 * (k - 6) else 38 + 3 * (k - 17)
theorem kinds216 : ∀ i, i < 51 → i = 0 ∨ (∃ k, k < 22 ∧ 4 ≤ k ∧ i = insIdx k) ∨ (∃ n, n < 11 ∧ i = 3 + 3 * n) ∨ (∃ n, n < 11 ∧ i = 4 + 3 * n) ∨ (∃ m, m < 4 ∧ i = 36 + 3 * m) ∨ (∃ m, m < 4 ∧ i = 37 + 3 * m) ∨ i = 49 ∨ i = 50 := by decide
theorem insIdx_inj : ∀ k, k < 22 → 4 ≤ k → ∀ k', k' < 22 → 4 ≤ k' → insIdx k = insIdx k' → k = k' := by decide
theorem deps216 : ((List.range 11).all fun n => depB ops216.toList (4 + 3 * n) (3 + 3 * n)) = true ∧ ((List.range 11).all fun n => depB ops216.toList (5 + 3 * n) (4 + 3 * n)) = true ∧ ((List.range 4).all fun n => depB ops216.toList (37 + 3 * n) (36 + 3 * n)) = true ∧ ((List.range 4).all fun n => depB ops216.toList (38 + 3 * n) (37 + 3 * n)) = true ∧
    ((List.range 22).all fun k => Nat.blt k 4 || depB ops216.toList (insIdx k) 0) = true ∧ depB ops216.toList 49 0 = true ∧ depB ops216.toList 50 49 = true ∧ depB ops216.toList 50 0 = true := ⟨by kernel_rfl, by kernel_rfl, by kernel_rfl, by kernel_rfl, by kernel_rfl, by kernel_rfl, by kernel_rfl, by kernel_rfl⟩
end Go.Proofs.YtadeojgiiapljaaGreat.Im
