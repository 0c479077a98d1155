/- Appending, all ways. -/
import Derived.Test.YtadeojgiiapljaaGreatImA
import Derived.Orders
import Derived.Scope
import Derived.LoopN
import Derived.Recover
set_option linter.unusedSimpArgs false
set_option linter.unusedVariables false
namespace Go.Proofs.YtadeojgiiapljaaGreat.Im
open Go
section
variable {P : Program} {φ : Phi} {C : Con} {h h' : IHeap} {e : Env} {a : Act} {w : World}

theorem Rel.drew' (r : Rel φ C h w) : Rel φ C h w.drew := r.drew _
theorem Ext.drew' (φ : Phi) (C : Con) (h : IHeap) (w : World) : Ext φ C h w φ C h w.drew := Ext.drew φ C h w _

/-- Where there is room: what is stored. -/
theorem append_room {t u el e2 ty : TypeId} {i : TypeInfo} {ys : Array Value} {base : Option Addr} {sl cap n : Nat} {x : Value} {w' : World}
    (hu : P.underlying t = some (.slice el)) (hu2 : P.underlying u = some (.slice e2)) (hi : P.info? el = some i) (hxl : Builtin.lenOf x = pure n) (hnrun : (Builtin.firstCells i.size n x).run P w = .ok ys w) (hroom : sl + n ≤ cap)
    (hst : ∀ a, base = some a → (storeCells (a.add (sl * i.size)) ys.toList).run P w = .ok () w') (hnone : base = none → w' = w) :
    (Builtin.append_ #[t, u] ty #[.slice base sl cap, x]).run P w = .ok (.slice base (sl + n) cap) w' := by
  have hsz : (sizeOf el).run P w = .ok i.size w := run_size (P := P) (by simp [szT, hi]) w
  unfold Builtin.append_
  simp only [List.getElem?_toArray, List.getElem?_cons_zero, List.getElem?_cons_succ, Sem.run_bind, run_under hu, Result.andThen_ok, hsz, run_under hu2, hxl, Sem.run_pure, Bool.false_eq_true, if_false, Bool.not_false, if_true]
  rw [if_pos hroom]
  simp only [Sem.run_bind, hnrun, Result.andThen_ok]
  cases base with
  | none => simp [hnone rfl]
  | some a => simp [hst a rfl]

theorem lenOf_of {φ : Phi} {C : Con} {v : IV} {x : Value} {n : Nat} {us : List IV} {sz : Nat} (hv : VRel φ C v x) (hn : sliceLen v = some n) (hs : Im.sliceCells h v sz = some us) : Builtin.lenOf x = pure n := by
  cases hv <;> simp only [Im.sliceCells, reduceCtorEq] at hs <;> simp only [sliceLen, Option.some.injEq] at hn <;> subst hn <;> rfl

set_option maxHeartbeats 1000000 in
theorem append_sound (r : Rel φ C h w) {t u el e2 ty : TypeId} {i : TypeInfo} {z : List IV} {s x v : IV} {s' x' : Value} (hu : P.underlying t = some (.slice el)) (hu2 : P.underlying u = some (.slice e2)) (hi : P.info? el = some i) (hz : czs P el = some z)
    (hzl : z.length = i.size) (hs : VRel φ C s s') (hx : VRel φ C x x') (hv : appendI i.size i.bytes s x h = .ok v h') :
    ∃ y w' φ', (Builtin.append_ #[t, u] ty #[s', x']).run P w = .ok y w' ∧ VRel φ' C v y ∧ Ext φ C h w φ' C h' w' ∧ Rel φ' C h' w' := by
  unfold appendI at hv
  split at hv
  case h_2 => cases hv
  rename_i sl n new hsl hn hnew
  have hxl := lenOf_of hx hn hnew
  obtain ⟨xb, xc, ys, hxe, hnl, hnr, hnrun⟩ := r.sliceCells (P := P) hx hn hnew
  obtain ⟨_, _, ys', _, _, hnr', hnrun'⟩ := r.drew'.sliceCells (P := P) hx hn hnew
  split at hv
  · rename_i hn0
    subst hn0
    have hys : ys = #[] := by
      have h1 := hnr.1
      rw [hnl] at h1
      simp at h1
      exact Array.eq_empty_of_size_eq_zero h1.symm
    subst hys
    have key : ∀ (base : Option Addr) (cap : Nat), s' = .slice base sl cap → sl ≤ cap → (Builtin.append_ #[t, u] ty #[s', x']).run P w = .ok s' w := by
      rintro base cap rfl hle
      exact append_room hu hu2 hi hxl hnrun (by omega) (fun a _ => rfl) (fun _ => rfl)
    split at hv
    · cases hv
    · rename_i b off ln cap
      split at hv
      case isFalse => cases hv
      rename_i hle
      cases hv
      refine ⟨s', w, φ, ?_, hs, Ext.refl _ _ _ _, r⟩
      cases hs with
      | slice hp =>
      simp [sliceLen] at hsl; subst hsl
      exact key _ _ rfl hle
    · rename_i hno1 hno2
      cases hv
      refine ⟨s', w, φ, ?_, hs, Ext.refl _ _ _ _, r⟩
      cases hs with
      | str => exact absurd rfl (hno1 _)
      | slice _ => exact absurd rfl (hno2 _ _ _ _)
      | nils => simp only [sliceLen, Option.some.injEq] at hsl; subst hsl; exact key _ _ rfl (Nat.le_refl _)
      | aslice _ hl _ => simp only [sliceLen, Option.some.injEq] at hsl; subst hsl; exact key _ _ rfl hl
      | cslice _ _ hk _ => simp only [sliceLen, Option.some.injEq] at hsl; subst hsl; exact key _ _ rfl hk
      | cempty => simp only [sliceLen, Option.some.injEq] at hsl; subst hsl; exact key _ _ rfl (Nat.le_refl _)
      | _ => simp [sliceLen] at hsl
  rename_i hn0
  split at hv
  · cases hv
  rename_i hsz0
  split at hv
  · cases hv
  rename_i hbig
  simp at hbig
  obtain ⟨⟨hb1, hb2⟩, hone⟩ := hbig
  split at hv
  · -- nil
    cases hv
    cases hs
    simp [sliceLen] at hsl
    subst hsl
    obtain ⟨newCap, cs, hge, hrun, hcs, hcells⟩ := append_grow (φ := φ) (C := C) (sl := 0) (old := []) (ols := #[]) (base := none) (cap := 0) (ty := ty) hu hu2 hi hz hzl hxl hnl hnr' hnrun' (by simp) .nil (by rfl) (by omega) hb1 hb2
    simp only [Nat.zero_add, List.nil_append] at hrun hge hcells
    obtain ⟨r1, e1⟩ := (r.drew').alloc (.cells cs el (0, 0)) (.row new) (newCap * i.size) (fun cells he => by
      cases he
      exact ⟨cs, el, rfl, by rw [hcs]; exact Nat.le_refl _, by rw [hnl]; exact Nat.mul_le_mul_right _ hge, hcells⟩) (by simp)
    refine ⟨_, _, _, hrun, ?_, (Ext.drew' _ _ _ _).trans e1, r1⟩
    have := VRel.aslice (C := C) (off := 0) (len := n) (sz := i.size) (cap := newCap) (Phi.put_same φ h.n ⟨w.heap.size, 0, newCap * i.size⟩) hge (by simp)
    simpa using this
  · -- exact
    rename_i b off ln cap
    cases hs with
    | @slice _ _ _ _ p hp =>
    simp [sliceLen] at hsl
    subst hsl
    split at hv
    · rename_i hroom
      split at hv
      case h_2 => cases hv
      rename_i h1 hst
      cases hv
      obtain ⟨ad, w', he, hrun, r1, e1⟩ := r.storeN (P := P) (.ptr hp) hnr hst
      cases he
      refine ⟨_, w', φ, append_room hu hu2 hi hxl hnrun hroom (fun a ha => ?_) (by simp), .slice hp, e1, r1⟩
      cases ha
      rw [add_at]
      simpa [Nat.add_assoc] using hrun
    · rename_i hroom
      split at hv
      case h_2 => cases hv
      rename_i old hold
      cases hv
      obtain ⟨ad, ols, he, hol, hor, horun⟩ := r.drew'.loadN (P := P) (.ptr hp) hold
      cases he
      obtain ⟨newCap, cs, hge, hrun, hcs, hcells⟩ := append_grow (φ := φ) (C := C) (old := old) (ols := ols) (base := some ⟨p.blk, p.off + off, none⟩) (cap := cap) (ty := ty) hu hu2 hi hz hzl hxl hnl hnr' hnrun' hol hor (by simpa [Builtin.firstCells] using horun) (by omega) hb1 hb2
      obtain ⟨r1, e1⟩ := (r.drew').alloc (.cells cs el (0, 0)) (.row (old ++ new)) (newCap * i.size) (fun cells he => by
        cases he
        exact ⟨cs, el, rfl, by rw [hcs]; exact Nat.le_refl _, by rw [List.length_append, hol, hnl, ← Nat.add_mul]; exact Nat.mul_le_mul_right _ hge, hcells⟩) (by simp)
      refine ⟨_, _, _, hrun, ?_, (Ext.drew' _ _ _ _).trans e1, r1⟩
      have := VRel.aslice (C := C) (off := 0) (len := ln + n) (sz := i.size) (cap := newCap) (Phi.put_same φ h.n ⟨w.heap.size, 0, newCap * i.size⟩) hge (by simp)
      simpa using this
  · -- appended before
    rename_i b off ln sz'
    split at hv
    · cases hv
    rename_i hszeq
    have hszeq : sz' = i.size := by simpa using hszeq
    subst hszeq
    split at hv
    case h_2 => cases hv
    rename_i old hold
    cases hv
    cases hs with
    | @aslice _ _ _ _ cap p hp hlc hlim =>
    simp [sliceLen] at hsl
    subst hsl
    have hold' := hold
    simp only [Im.loadN] at hold'
    split at hold'
    case h_2 => cases hold'
    rename_i cells hg
    split at hold'
    case isFalse => cases hold'
    rename_i hle
    simp at hold'
    obtain ⟨r0, e0⟩ := r.kill hg ⟨p, hp⟩
    obtain ⟨cs, E, hw, hl1, hl2, hcc⟩ := r.row b p cells hp hg
    by_cases hroom : ln + n ≤ cap
    · -- in place
      have hstore := run_storeCells_at (P := P) p.blk (p.off + off + ln * i.size) E ys.toList 0 cs w hw (by
        have h1 := hnr.1
        have h2 : (ln + n) * i.size ≤ cap * i.size := Nat.mul_le_mul_right _ hroom
        rw [Nat.add_mul] at h2
        simp
        omega) (fun y hy => by
          obtain ⟨j, hj, rfl⟩ := List.getElem_of_mem hy
          have hj' : j < new.length := by have := hnr.1; simp at hj; omega
          exact oneCell_of (hnr.get (i := j) (List.getElem?_eq_getElem hj') (by simp at hj; simp [hj])) (hone _ (by simp)))
      have h1 := hnr.1
      have h2 : (ln + n) * i.size ≤ cap * i.size := Nat.mul_le_mul_right _ hroom
      rw [Nat.add_mul] at h2
      -- the world behind, over the heap without the elder block
      obtain ⟨cs2, hcs2⟩ : ∃ cs2 : Array Value, cs2 = (cs.toList.take (p.off + off + ln * i.size + 0) ++ ys.toList ++ cs.toList.drop (p.off + off + ln * i.size + 0 + ys.toList.length)).toArray := ⟨_, rfl⟩
      rw [← hcs2] at hstore
      have hw2 : (w.setRow p.blk cs2).heap[p.blk]? = some (.cells cs2 E (0, 0)) := setRow_heap w p.blk cs cs2 E (0, 0) hw
      have hlb : Live h b := ⟨_, hg, by simp⟩
      have hsize2 : cs2.size = cs.size := by rw [hcs2]; simp; omega
      have hne : ∀ b' p', φ b' = some p' → Live (h.set b .dead) b' → p'.blk ≠ p.blk := by
        intro b' p' hb' hl' he'
        have := (live_dead hg).1 hl'
        exact this.1 (r.inj b' b p' p hb' hp he' this.2 hlb)
      have rd : Rel φ C (h.set b .dead) (w.setRow p.blk cs2) := by
        refine ⟨fun b' p' hb' => by simpa using r0.dom b' p' hb', r0.live, r0.inj, ?_, ?_, ?_⟩
        · intro b' p' cells' hb' hg'
          obtain ⟨cs', E', hw', h3⟩ := r0.row b' p' cells' hb' hg'
          exact ⟨cs', E', by rw [setRow_other _ _ _ _ (hne b' p' hb' ⟨_, hg', by simp⟩)]; exact hw', h3⟩
        · intro b' p' es c hb' hg'
          obtain ⟨es', hw', h3⟩ := r0.mp b' p' es c hb' hg'
          exact ⟨es', by rw [setRow_other _ _ _ _ (hne b' p' hb' ⟨_, hg', by simp⟩)]; exact hw', h3⟩
        · intro blk cs' hC'
          obtain ⟨E', fz, hw'⟩ := r.con blk cs' hC'
          refine ⟨E', fz, ?_⟩
          rw [setRow_other]; exact hw'
          rintro rfl
          rw [r.live b p hp hlb] at hC'; cases hC'
      have hcells : ∀ (j : Nat) (v : IV), (old ++ new)[j]? = some v → ∃ y, cs2[p.off + off + j]? = some y ∧ VRel φ C v y := by
        intro j v hj
        have hol : old.length = ln * i.size := by rw [← hold']; simp; omega
        by_cases hjo : j < ln * i.size
        · rw [List.getElem?_append_left (by omega), ← hold', drop_take_get _ _ _ _ hjo] at hj
          obtain ⟨y, hy, hr⟩ := hcc _ _ hj
          refine ⟨y, ?_, hr⟩
          rw [hcs2, List.getElem?_toArray, List.append_assoc, List.getElem?_append_left (by simp; omega), List.getElem?_take_of_lt (by omega)]
          simpa [Nat.add_assoc] using hy
        · rw [List.getElem?_append_right (by omega), hol] at hj
          have hjl : j - ln * i.size < ys.size := by have := (List.getElem?_eq_some_iff.1 hj).1; omega
          refine ⟨ys[j - ln * i.size], ?_, hnr.get hj (by simp [hjl])⟩
          rw [hcs2, List.getElem?_toArray, List.append_assoc, List.getElem?_append_right (by simp; omega)]
          simp
          rw [show min (p.off + off + ln * i.size) cs.size = p.off + off + ln * i.size by omega, show p.off + off + j - (p.off + off + ln * i.size) = j - ln * i.size by omega, List.getElem?_append_left (by simpa using hjl)]
          simp [hjl]
      have rh := rd.heir (off := off) (cells := old ++ new) hp hne (r.live b p hp hlb) hw2 (by omega) (by omega) (by
        rw [List.length_append, hnl, ← hold']; simp; omega) hcells
      refine ⟨_, _, _, append_room (ty := ty) hu hu2 hi hxl hnrun hroom (fun a ha => ?_) (by simp), ?_, ?_, rh⟩
      · cases ha
        rw [add_at]
        exact hstore
      · have := VRel.aslice (C := C) (off := 0) (len := ln + n) (sz := i.size) (cap := cap) (Phi.put_same φ (h.set b .dead).n ⟨p.blk, p.off + off, p.lim - off⟩) hroom (by simp; omega)
        simpa using this
      · have hn0' : φ (h.set b .dead).n = none := r0.fresh
        refine ⟨fun b' q hb' => ?_, fun _ _ x => x, rfl, rfl, rfl, by simp, ?_, ?_, Nat.le_succ _, ?_⟩
        · rw [Phi.put_ne]; exact hb'
          rintro rfl; rw [hn0'] at hb'; cases hb'
        · intro blk hlt hno
          exact setRow_other _ _ _ _ (fun e => hno b p hp hlb e.symm)
        · intro b' q hb' hl' hlt
          by_cases heq : b' = (h.set b .dead).n
          · subst heq
            rw [Phi.put_same] at hb'
            cases hb'
            exact ⟨b, p, hp, hlb, rfl⟩
          · rw [Phi.put_ne heq] at hb'
            have hlt' := (r0.dom b' q hb').1
            exact ⟨b', q, hb', ((live_dead hg).1 ((live_push_old hlt').1 hl')).2, rfl⟩
        · intro b' hb' hno
          have hbb : b' ≠ b := by rintro rfl; rw [hp] at hno; cases hno
          refine ⟨by rw [Phi.put_ne]; exact hno; simp; omega, ?_⟩
          rw [get_push_old (by simpa using hb'), get_set_ne hbb]
    · -- a new row
      obtain ⟨ad, ols, he, hol, hor, horun⟩ := r.drew'.loadN (P := P) (.ptr hp) hold
      cases he
      obtain ⟨newCap, cs3, hge, hrun, hcs, hcells⟩ := append_grow (φ := φ) (C := C) (old := old) (ols := ols) (base := some ⟨p.blk, p.off + off, none⟩) (cap := cap) (ty := ty) hu hu2 hi hz hzl hxl hnl hnr' hnrun' hol hor (by simpa [Builtin.firstCells] using horun) (by omega) hb1 hb2
      obtain ⟨r1, e1⟩ := (r0.drew').alloc (.cells cs3 el (0, 0)) (.row (old ++ new)) (newCap * i.size) (fun cells he => by
        cases he
        exact ⟨cs3, el, rfl, by rw [hcs]; exact Nat.le_refl _, by rw [List.length_append, hol, hnl, ← Nat.add_mul]; exact Nat.mul_le_mul_right _ hge, hcells⟩) (by simp)
      refine ⟨_, _, _, hrun, ?_, (e0.trans (Ext.drew' _ _ _ _)).trans e1, r1⟩
      have := VRel.aslice (C := C) (off := 0) (len := ln + n) (sz := i.size) (cap := newCap) (Phi.put_same φ (h.set b .dead).n ⟨w.heap.size, 0, newCap * i.size⟩) hge (by simp)
      simpa using this
  · cases hv
end
end Go.Proofs.YtadeojgiiapljaaGreat.Im
namespace Go.Proofs.YtadeojgiiapljaaGreat.Im
open Go
section
variable {P : Program} {φ : Phi} {C : Con} {h h' : IHeap} {e : Env} {a : Act} {w : World}

/-- A function that is entered by a call. -/
def Enters (P : Program) (f : FuncId) : Prop := ∃ fn, P.funcs[f]? = some fn ∧ fn.body.isNone = false ∧ (fn.name == "runtime.NumGoroutine") = false

/-- F tells what a call of f comes to. -/
structure Sim (P : Program) (f : FuncId) (F : List IV → M IV) : Prop where
  enters : (∀ args h, F args h = .fail) ∨ Enters P f
  ok : ∀ (φ : Phi) (C : Con) (h : IHeap) (w : World) (args : List IV) (args' : Array Value) (v : IV) (h' : IHeap), Rel φ C h w → VRels φ C args args' → F args h = .ok v h' →
    Calls P f args' w fun e w' => ∃ x φ' C', e = .returned x ∧ VRel φ' C' v x ∧ Ext φ C h w φ' C' h' w' ∧ Rel φ' C' h' w'
  panic : ∀ (φ : Phi) (C : Con) (h : IHeap) (w : World) (args : List IV) (args' : Array Value) (v : IV) (h' : IHeap), Rel φ C h w → VRels φ C args args' → F args h = .panic v h' →
    Calls P f args' w fun e w' => ∃ x φ' C', e = .panicked [{ v := x, recovered := false }] ∧ VRel φ' C' v x ∧ Ext φ C h w φ' C' h' w' ∧ Rel φ' C' h' w'

/-- An operation comes to r. -/
def Upon (P : Program) (o : Oper) (a : Act) (φ : Phi) (C : Con) (h : IHeap) (w : World) : Res IV → Prop
  | .ok v h' => ∀ (next : Act → World → Prop) (Q : Exit → Act → World → Prop), (∀ x w' φ' C', VRel φ' C' v x → Ext φ C h w φ' C' h' w' → Rel φ' C' h' w' → next (a.put o.dst x) w') → o.wp P a w next Q
  | .panic v h' => ∀ (next : Act → World → Prop) (Q : Exit → Act → World → Prop), (∀ x w' φ' C', VRel φ' C' v x → Ext φ C h w φ' C' h' w' → Rel φ' C' h' w' → Q (.panic [{ v := x, recovered := false }]) a w') → o.wp P a w next Q
  | .fail => True

theorem Upon.value {o : Oper} {v : IV} {h' : IHeap} (hx : ∃ x w' φ' C', (execOp a.eval o).run P w = .ok (.value x) w' ∧ VRel φ' C' v x ∧ Ext φ C h w φ' C' h' w' ∧ Rel φ' C' h' w') : Upon P o a φ C h w (.ok v h') := by
  obtain ⟨x, w', φ', C', hr, h1, h2, h3⟩ := hx
  intro next Q hn
  unfold Oper.wp
  rw [hr]
  exact hn x w' φ' C' h1 h2 h3
theorem Upon.skip {o : Oper} {h' : IHeap} (hx : ∃ w' φ' C', (execOp a.eval o).run P w = .ok .skip w' ∧ Ext φ C h w φ' C' h' w' ∧ Rel φ' C' h' w') : Upon P o a φ C h w (.ok .undef h') := by
  obtain ⟨w', φ', C', hr, h2, h3⟩ := hx
  intro next Q hn
  unfold Oper.wp
  rw [hr]
  exact hn _ w' φ' C' .undef h2 h3

theorem keyIs_eq {ks : Bool} {x y : IV} {x' y' : Value} (hk : keyOk ks x = true) (hx : VRel φ C x x') (hy : VRel φ C y y') (hb : keyIs x y = some true) : Instr.sameBits 10000 y' x' = true := by
  cases ks
  · cases x <;> simp [keyOk] at hk
    cases y <;> simp [keyIs] at hb
    cases hx; cases hy
    simp [Instr.sameBits, hb]
  · cases x <;> simp [keyOk] at hk
    cases y <;> simp [keyIs] at hb
    cases hx; cases hy
    rw [beq_toListBytes] at hb
    simp only [Instr.sameBits]
    rw [beq_toListBytes]
    simp at hb ⊢
    exact hb.symm
theorem findI_key {k : IV} : ∀ {es : List IEntry} {i j : Nat} {v : IV}, findI k es i = some (some (j, v)) → ∃ x, i ≤ j ∧ es[j - i]? = some x ∧ keyIs k x.key = some true ∧ x.val = v
  | [], i, j, v, h => by simp [findI] at h
  | x :: es, i, j, v, h => by
    simp only [findI] at h
    split at h
    · rename_i hb
      simp at h
      obtain ⟨rfl, rfl⟩ := h
      exact ⟨x, Nat.le_refl _, by simp, hb, rfl⟩
    · obtain ⟨y, h1, h2, h3, h4⟩ := findI_key h
      refine ⟨y, by omega, ?_, h3, h4⟩
      rw [show j - i = (j - (i + 1)) + 1 by omega]
      simpa using h2
    · cases h
theorem ERels.modify {es : List IEntry} {es' : Array MapEntry} {f : IEntry → IEntry} {g : MapEntry → MapEntry} (he : ERels φ C es es') (i : Nat) (hfg : ∀ x y, es[i]? = some x → es'[i]? = some y → ERel φ C (f x) (g y)) : ERels φ C (es.modify i f) (es'.modify i g) := by
  refine ⟨by simp [he.1], fun j x y hx hy => ?_⟩
  rw [List.getElem?_modify] at hx
  rw [Array.getElem?_modify] at hy
  by_cases e : i = j
  · subst e
    rw [if_pos rfl] at hy
    simp only [if_true, Option.map_eq_map, Option.map_eq_some_iff] at hx hy
    obtain ⟨x0, hx0, rfl⟩ := hx
    obtain ⟨y0, hy0, rfl⟩ := hy
    exact hfg x0 y0 hx0 hy0
  · rw [if_neg e] at hy
    simp [e] at hx
    exact he.2 j x y hx hy
theorem ERels.push {es : List IEntry} {es' : Array MapEntry} {x : IEntry} {y : MapEntry} (he : ERels φ C es es') (hxy : ERel φ C x y) : ERels φ C (es ++ [x]) (es'.push y) := by
  refine ⟨by simp [he.1], fun j u v hu hv => ?_⟩
  by_cases hj : j < es.length
  · rw [List.getElem?_append_left hj] at hu
    rw [Array.getElem?_push, if_neg (by rw [← he.1]; omega)] at hv
    exact he.2 j u v hu hv
  · rw [List.getElem?_append_right (by omega)] at hu
    have : j - es.length = 0 := by
      have := (List.getElem?_eq_some_iff.1 hu).1
      simp at this; omega
    rw [this] at hu
    simp at hu
    have hj' : j = es'.size := by rw [← he.1]; omega
    rw [Array.getElem?_push, if_pos hj'] at hv
    simp at hv
    subst hu; subst hv; exact hxy

/-- A map's block, turned. -/
theorem Rel.turnMap (r : Rel φ C h w) {b : Nat} {p : Pl} {es es2 : List IEntry} {c c2 : Nat} {es' es2' : Array MapEntry} (hp : φ b = some p) (hg : h.get b = some (.map es c)) (hw : w.heap[p.blk]? = some (.map es' c)) (he : ERels φ C es2 es2') :
    Rel φ C (h.set b (.map es2 c2)) { w with heap := w.heap.setIfInBounds p.blk (.map es2' c2) } ∧ Ext φ C h w φ C (h.set b (.map es2 c2)) { w with heap := w.heap.setIfInBounds p.blk (.map es2' c2) } := by
  have hlt : p.blk < w.heap.size := (r.dom b p hp).2
  refine r.turn hp hg (by simp) _ (by simp) (.map es2' c2) _ rfl rfl rfl (by simp) (by simp [hlt]) (fun k hk => ?_) (by simp) (fun es0 c0 h0 => ?_)
  · show (w.heap.setIfInBounds p.blk _)[k]? = _
    rw [Array.getElem?_setIfInBounds, if_neg (fun e => hk e.symm)]
  · cases h0
    exact ⟨es2', rfl, he⟩

theorem put_run (r : Rel φ C h w) {ks : Bool} {t kt el : TypeId} {d : TypeDesc} {b : Nat} {k v : IV} {m' k' v' : Value} (hu : P.underlying t = some (.map kt el)) (hk : P.underlying kt = some d) (hd : kindOf ks d) (hm : VRel φ C (.map b) m') (hkr : VRel φ C k k') (hvr : VRel φ C v v')
    (hv : putI h ks b k v = some h') : ∃ w', (Instr.mapUpdate t m' k' v').run P w = .ok () w' ∧ Ext φ C h w φ C h' w' ∧ Rel φ C h' w' := by
  unfold putI at hv
  split at hv
  · cases hv
  rename_i hko
  simp at hko
  cases hm with
  | @map _ p hp =>
  split at hv
  case h_2 => cases hv
  rename_i es c hg
  obtain ⟨es', hw, hes⟩ := r.mp b p _ _ hp hg
  split at hv
  · rename_i i v0 hf
    cases hv
    obtain ⟨r', hr', hc⟩ := findKey_run hk hd hko hkr hes hf
    rcases hc with ⟨h1, _⟩ | ⟨j, u, u', h1, rfl, hru, hj⟩
    · cases h1
    cases h1
    obtain ⟨x, _, hx, hkx, _⟩ := findI_key hf
    simp only [Nat.sub_zero] at hx
    obtain ⟨y, hy⟩ : ∃ y, es'[i]? = some y := ⟨es'[i]'(by rw [← hes.1]; exact hj), by simp [← hes.1, hj]⟩
    have hxy := hes.2 i x y hx hy
    obtain ⟨r1, e1⟩ := r.turnMap (c2 := c) hp hg hw (hes.modify (f := fun x => { x with key := k, val := v }) (g := fun e => { e with key := k', val := v' }) i (fun x1 y1 h1 h2 => by
      rw [hx] at h1; rw [hy] at h2; cases h1; cases h2
      exact ⟨hkr, hvr, hxy.born⟩))
    refine ⟨_, ?_, e1, r1⟩
    have hst : (Instr.keyThatStays (((es'[i]?).map (·.key)).getD k') k').run P w = .ok k' w := by
      simp [Instr.keyThatStays, hy, keyIs_eq hko hkr hxy.key hkx]
    simp only [Instr.mapUpdate, Sem.run_bind, run_under hu, Result.andThen_ok, getObj_map hw, checkKey_run' hk hd, hr', hst, setObj_map hw]
  · rename_i hf
    cases hv
    obtain ⟨r', hr', hc⟩ := findKey_run hk hd hko hkr hes hf
    rcases hc with ⟨_, rfl⟩ | ⟨j, u, u', h1, _⟩
    case inr => cases h1
    obtain ⟨r1, e1⟩ := r.turnMap (c2 := c + 1) hp hg hw (hes.push (x := ⟨k, v, c⟩) (y := ⟨k', v', c⟩) ⟨hkr, hvr, rfl⟩)
    refine ⟨_, ?_, e1, r1⟩
    simp only [Instr.mapUpdate, Sem.run_bind, run_under hu, Result.andThen_ok, getObj_map hw, checkKey_run' hk hd, hr', setObj_map hw]
  · cases hv

/-- A text's bytes: a new row that nothing writes. -/
theorem Rel.frozen (r : Rel φ C h w) (o : Obj) (cs : Array Value) (E : TypeId) (fz : Nat × Nat) (ho : o = .cells cs E fz) :
    Rel φ (fun b => if b = w.heap.size then some cs else C b) h (w.alloc o) ∧ Ext φ C h w φ (fun b => if b = w.heap.size then some cs else C b) h (w.alloc o) := by
  have hC : C w.heap.size = none := by
    cases hc : C w.heap.size with
    | none => rfl
    | some x => obtain ⟨E, fz, hw⟩ := r.con _ _ hc; simp at hw
  have hmono : ∀ b p, C b = some p → (fun b => if b = w.heap.size then some cs else C b) b = some p := fun b p hb => by
    show (if b = w.heap.size then some cs else C b) = some p
    rw [if_neg]; exact hb
    rintro rfl; rw [hC] at hb; cases hb
  have hvr : ∀ {v : IV} {x : Value}, VRel φ C v x → VRel φ (fun b => if b = w.heap.size then some cs else C b) v x := fun hv => hv.mono (fun _ _ x => x) hmono
  refine ⟨⟨fun b p hb => ?_, fun b p hb hl => ?_, r.inj, ?_, ?_, ?_⟩, ⟨fun _ _ x => x, hmono, rfl, rfl, rfl, by simp, fun k hk _ => heap_push_old w o hk, fun b p hb hl _ => ⟨b, p, hb, hl, rfl⟩, Nat.le_refl _, fun b _ hn => ⟨hn, rfl⟩⟩⟩
  · have := r.dom b p hb; simp; omega
  · have := r.dom b p hb
    show (if p.blk = w.heap.size then some cs else C p.blk) = none
    rw [if_neg (by omega)]
    exact r.live b p hb hl
  · intro b p cells hb hg
    obtain ⟨cs', E', hw, h1, h2, h3⟩ := r.row b p cells hb hg
    refine ⟨cs', E', by rw [heap_push_old w o (r.dom b p hb).2]; exact hw, h1, h2, fun i v hi => ?_⟩
    obtain ⟨x, hx, hr⟩ := h3 i v hi
    exact ⟨x, hx, hvr hr⟩
  · intro b p es c hb hg
    obtain ⟨es', hw, hes⟩ := r.mp b p es c hb hg
    exact ⟨es', by rw [heap_push_old w o (r.dom b p hb).2]; exact hw, hes.1, fun i x y hx hy => ⟨hvr (hes.2 i x y hx hy).key, hvr (hes.2 i x y hx hy).val, (hes.2 i x y hx hy).born⟩⟩
  · intro blk cs' hcb
    replace hcb : (if blk = w.heap.size then some cs else C blk) = some cs' := hcb
    split at hcb
    · rename_i e; subst e
      cases hcb
      exact ⟨E, fz, by rw [heap_push_new, ho]⟩
    · obtain ⟨E', fz', hw⟩ := r.con blk cs' hcb
      exact ⟨E', fz', by rw [heap_push_old w o (Array.getElem?_eq_some_iff.1 hw).1]; exact hw⟩

theorem freeze_new (w : World) (cs : Array Value) (E : TypeId) (n : Nat) : (w.alloc (.cells cs E (0, 0))).freeze { block := w.heap.size, off := n } 1 = w.alloc (.cells cs E (n, n + 1)) := by
  unfold World.freeze
  simp only [Nat.one_ne_zero, if_false]
  unfold World.alloc
  simp only
  congr 1
  apply Array.ext_getElem?
  intro k
  rw [Array.getElem?_modify]
  by_cases hk : w.heap.size = k
  · subst hk; simp
  · rw [if_neg hk, Array.getElem?_push, Array.getElem?_push, if_neg (fun e => hk e.symm), if_neg (fun e => hk e.symm)]

theorem strbytes_run (r : Rel φ C h w) {s d el : TypeId} {str : ByteArray} (hs : P.underlying s = some .string) (hd : P.underlying d = some (.slice el)) (he : P.underlying el = some (.int .u8)) :
    ∃ x w' C', (convert s d (.string str)).run P w = .ok x w' ∧ VRel φ C' (.cslice (str.data.toList.map fun b => .int .u8 b.toNat) str.size) x ∧ Ext φ C h w φ C' h w' ∧ Rel φ C' h w' := by
  let cap := (Question.appendCap str.size 0 el).cut (w.tape w.drawn (.appendCap str.size 0 el))
  have hge : str.size ≤ cap := by show str.size ≤ str.size + _; omega
  let cs : Array Value := (str.data.map fun b => Value.int .u8 b.toNat) ++ Array.replicate (cap - str.size) (.int .u8 0)
  obtain ⟨r1, e1⟩ := (r.drew').frozen (.cells cs el (cs.size, cs.size + 1)) cs el _ rfl
  refine ⟨.slice (some ⟨w.heap.size, 0, none⟩) str.size cap, _, _, ?_, ?_, (Ext.drew' _ _ _ _).trans e1, r1⟩
  · unfold convert
    simp only [Sem.run_bind, run_under hs, run_under hd, Result.andThen_ok, run_under he]
    unfold Conv.stringToBytes
    have hsh : (w.drew.alloc (.cells cs el (0, 0))).shape? w.heap.size = some (el, cs.size) := by
      unfold World.shape?
      have := heap_push_new w.drew (.cells cs el (0, 0))
      simp only [World.size_drew] at this
      rw [this]
    have hfz := freeze_new w.drew cs el cs.size
    simp only [World.size_drew] at hfz
    simp only [Sem.run_bind, run_choose, Question.forced, Bool.false_eq_true, if_false, Result.andThen_ok, newRow, run_newObj, Sem.run_pure, markStringish, World.drew_eq, World.alloc_eq, World.size_drew, run_shape]
    erw [hsh]
    simp only [run_freeze]
    erw [hfz]
    rfl
  · refine .cslice (blk := w.heap.size) (o := 0) (cs := cs) (by simp) ?_ hge fun i hi => ?_
    · show 0 + _ ≤ cs.size
      simp [cs]
    · simp at hi
      have : cs[i]? = some (.int .u8 (str.data[i]'(by simpa using hi)).toNat) := by
        show (_ ++ _)[i]? = _
        rw [Array.getElem?_append_left (by simpa using hi)]
        simp [hi]
      simp [Array.getD_eq_getD_getElem?, this]
      exact .int _ _
end
end Go.Proofs.YtadeojgiiapljaaGreat.Im
namespace Go.Proofs.YtadeojgiiapljaaGreat.Im
open Go
section
variable {P : Program} {φ : Phi} {C : Con} {h h' : IHeap} {e : Env} {a : Act} {w : World} {O : Orc}

theorem sound_call (r : Rel φ C h w) (hO : ∀ f, Sim P f (O f)) {o : Oper} {c : Call} {fo : Operand} {fi : IArg} {is : List IArg} {fv : IV} {av : List IV} {g : FuncId} {args : List IV} (he : EnvRel φ C e a) (ho : o.op = .call c) (hcal : c.callee = .value fo)
    (hf : carg fo = some fi) (ha : cargs c.args.toList = some is) (hfv : fi.ev e = some fv) (hav : evs e is = some av) (hg : callee fv av = some (g, args)) : Upon P o a φ C h w (O g args h) := by
  unfold callee at hg
  split at hg
  case h_2 => cases hg
  rename_i g' first captured
  cases hg
  have hfr := carg_rel he hf hfv
  have har := cargs_rel he ha hav
  have hfe : ∃ f' c', a.eval fo = .func (.func g) f' c' ∧ VRels φ C first f' ∧ VRels φ C captured c' := by
    generalize a.eval fo = x at hfr
    cases hfr with
    | func h1 h2 h3 h4 => exact ⟨_, _, rfl, ⟨h1, h3⟩, ⟨h2, h4⟩⟩
  obtain ⟨f', c', hfe, hf1, hc1⟩ := hfe
  have hargs : VRels φ C (first ++ av ++ captured) (f' ++ c.args.map a.eval ++ c') := (hf1.append (by
    have : (c.args.map a.eval) = (c.args.toList.map a.eval).toArray := by rw [← Array.toList_map, Array.toArray_toList]
    rw [this]; exact har)).append hc1
  rcases (hO g).enters with hfail | ⟨fn, hfn, hbody, hname⟩
  · rw [hfail]; trivial
  have hrun : (execOp a.eval o).run P w = .ok (.enter g (f' ++ c.args.map a.eval ++ c')) w := by
    unfold execOp
    rw [ho]
    simp only [Sem.run_bind]
    unfold resolve
    rw [hcal]
    simp only [hfe, Deferred.ofValue, Sem.run_pure, Result.andThen_ok]
    have hname' : fn.name ≠ "runtime.NumGoroutine" := by simpa using hname
    have hbody' : fn.body ≠ none := by intro h; simp [h] at hbody
    simp [invoke, callFunc, hfn, hname', hbody']
  cases hres : O g (first ++ av ++ captured) h with
  | ok v h' =>
    intro next Q hn
    unfold Oper.wp
    rw [hrun]
    refine ((hO g).ok φ C h w _ _ v h' r hargs hres).mono ?_
    rintro e w' ⟨x, φ', C', rfl, h1, h2, h3⟩
    exact hn x w' φ' C' h1 h2 h3
  | panic v h' =>
    intro next Q hn
    unfold Oper.wp
    rw [hrun]
    refine ((hO g).panic φ C h w _ _ v h' r hargs hres).mono ?_
    rintro e w' ⟨x, φ', C', rfl, h1, h2, h3⟩
    exact hn x w' φ' C' h1 h2 h3
  | fail => trivial

theorem store_run (r : Rel φ C h w) {t : TypeId} {n : Nat} {x y : Value} {u v : IV} (hn : szT P t = some n) (hx : VRel φ C u x) (hy : VRel φ C v y) (hlen : v.cells.length = n) (hs : storeN h u v.cells = some h') :
    ∃ w', (Instr.storeAt t x y).run P w = .ok () w' ∧ Ext φ C h w φ C h' w' ∧ Rel φ C h' w' := by
  obtain ⟨ad, w', rfl, hrun, r1, e1⟩ := r.storeN (P := P) hx hy.cells hs
  refine ⟨w', ?_, e1, r1⟩
  simp only [Instr.storeAt, Instr.sureAddr, Sem.run_bind, Sem.run_pure, Result.andThen_ok, storeVar, run_size hn]
  rw [if_neg (by rw [← hy.cells.1, hlen]; simp)]
  exact hrun

theorem cls_act_call {c : Call} {io : IOp} (hc : ccall P c = some io) (hcl : io.cls = .act) :
    (∃ fo fi is, c.callee = .value fo ∧ carg fo = some fi ∧ cargs c.args.toList = some is ∧ io = .call fi is) ∨
    (∃ s x t u el e2 i z is ix, c.callee = .builtin .append ∧ c.args.toList = [s, x] ∧ c.argTypes.toList = [t, u] ∧ P.underlying t = some (.slice el) ∧ P.underlying u = some (.slice e2) ∧ P.info? el = some i ∧ czs P el = some z ∧ z.length = i.size ∧
      carg s = some is ∧ carg x = some ix ∧ io = .append i.size i.bytes is ix) := by
  unfold ccall at hc
  split at hc
  · rename_i fo hcal
    split at hc <;> simp at hc
    rename_i fi is h1 h2
    exact .inl ⟨_, fi, is, hcal, h1, h2, hc.symm⟩
  · cases hc
  · rename_i b hcal
    split at hc
    · rename_i s x t u ha ht
      split at hc
      · rename_i el is ix e2 hu hs hx hu2
        split at hc
        · rename_i i z hi hz
          split at hc <;> simp at hc
          rename_i hl
          exact .inr ⟨s, x, t, u, el, e2, i, z, is, ix, hcal, ha, ht, hu, hu2, hi, hz, hl, hs, hx, hc.symm⟩
        · cases hc
      · cases hc
    · split at hc
      · simp only [Option.map_eq_some_iff] at hc; obtain ⟨_, _, rfl⟩ := hc; simp [IOp.cls] at hcl
      · simp only [Option.map_eq_some_iff] at hc; obtain ⟨_, _, rfl⟩ := hc; simp [IOp.cls] at hcl
      · cases hc
    · split at hc <;> simp at hc
      subst hc; simp [IOp.cls] at hcl
    · split at hc <;> simp at hc
      subst hc; simp [IOp.cls] at hcl
    · cases hc

theorem sound_act (r : Rel φ C h w) (hO : ∀ f, Sim P f (O f)) {o : Oper} {io : IOp} (he : EnvRel φ C e a) (hc : cop P o.op = some io) (hcl : io.cls = .act) : Upon P o a φ C h w (opAct O io e h) := by
  cases hop : o.op with
  | store t x y =>
    rw [hop] at hc
    simp only [cop] at hc
    split at hc <;> simp at hc
    rename_i n ix iy hn hx hy
    subst hc
    simp only [opAct]
    split
    case h_2 => trivial
    rename_i u v hu hv
    split
    case isFalse => trivial
    rename_i hlen
    split
    case h_2 => trivial
    rename_i h1 hs
    obtain ⟨w', hrun, e1, r1⟩ := store_run r hn (carg_rel he hx hu) (carg_rel he hy hv) hlen hs
    refine Upon.skip ⟨w', φ, C, ?_, e1, r1⟩
    unfold execOp; rw [hop]; simp [hrun]
  | mapUpdate t m k v =>
    rw [hop] at hc
    simp only [cop] at hc
    split at hc
    case h_2 => cases hc
    rename_i kt el im ik iv hu hm hk hv
    have key : ∀ ks d, P.underlying kt = some d → kindOf ks d → Upon P o a φ C h w (opAct O (.mapput ks im ik iv) e h) := by
      intro ks d hkt hd
      simp only [opAct]
      split
      case h_2 => trivial
      rename_i b kv vv hb hkv hvv
      split
      case h_2 => trivial
      rename_i h1 hp
      obtain ⟨w', hrun, e1, r1⟩ := put_run (P := P) r hu hkt hd (carg_rel he hm hb) (carg_rel he hk hkv) (carg_rel he hv hvv) hp
      refine Upon.skip ⟨w', φ, C, ?_, e1, r1⟩
      unfold execOp; rw [hop]; simp [hrun]
    split at hc <;> simp at hc <;> subst hc
    · rename_i kk hkt; exact key false _ hkt ⟨_, rfl⟩
    · rename_i hkt; exact key true _ hkt rfl
  | insert t m k v =>
    rw [hop] at hc
    simp only [cop] at hc
    split at hc
    case h_2 => cases hc
    rename_i kt el im ik iv hu hm hk hv
    have key : ∀ ks d, P.underlying kt = some d → kindOf ks d → Upon P o a φ C h w (opAct O (.mapput ks im ik iv) e h) := by
      intro ks d hkt hd
      simp only [opAct]
      split
      case h_2 => trivial
      rename_i b kv vv hb hkv hvv
      split
      case h_2 => trivial
      rename_i h1 hp
      obtain ⟨w', hrun, e1, r1⟩ := put_run (P := P) r hu hkt hd (carg_rel he hm hb) (carg_rel he hk hkv) (carg_rel he hv hvv) hp
      refine Upon.skip ⟨w', φ, C, ?_, e1, r1⟩
      unfold execOp; rw [hop]; simp [hrun]
    split at hc <;> simp at hc <;> subst hc
    · rename_i kk hkt; exact key false _ hkt ⟨_, rfl⟩
    · rename_i hkt; exact key true _ hkt rfl
  | mapEntry t m k =>
    rw [hop] at hc
    simp only [cop] at hc
    split at hc
    case h_2 => cases hc
    rename_i kt el im ik hu hm hk
    have key : ∀ ks d z, P.underlying kt = some d → kindOf ks d → czv P el = some z → Upon P o a φ C h w (opAct O (.mapentry ks z im ik) e h) := by
      intro ks d z hkt hd hz
      obtain ⟨zv, hzr, hzz⟩ := czv_run (P := P) (φ := φ) (C := C) hz
      simp only [opAct]
      split
      case h_2 => trivial
      rename_i b kv hb hkv
      split
      · trivial
      rename_i hko
      simp at hko
      have hbr := carg_rel he hm hb
      have hkr := carg_rel he hk hkv
      generalize hmm : a.eval m = mm at hbr
      cases hbr with
      | @map _ p hp =>
      split
      case h_2 => trivial
      rename_i es c hg
      obtain ⟨es', hw, hes⟩ := r.mp b p _ _ hp hg
      split
      · rename_i i v0 hf
        split
        case h_2 => trivial
        rename_i x hx
        obtain ⟨r', hr', hc⟩ := findKey_run hkt hd hko hkr hes hf
        rcases hc with ⟨h1, _⟩ | ⟨j, u, u', h1, rfl, hru, hj⟩
        · cases h1
        cases h1
        obtain ⟨x0, _, hx0, hkx, _⟩ := findI_key hf
        simp only [Nat.sub_zero] at hx0
        rw [hx] at hx0; cases hx0
        obtain ⟨y, hy⟩ : ∃ y, es'[i]? = some y := ⟨es'[i]'(by rw [← hes.1]; exact hj), by simp [← hes.1, hj]⟩
        have hxy := hes.2 i x y hx hy
        obtain ⟨r1, e1⟩ := r.turnMap (c2 := c) hp hg hw (hes.modify (f := fun x => { x with key := kv }) (g := fun e => { e with key := a.eval k }) i (fun x1 y1 h1 h2 => by
          rw [hx] at h1; rw [hy] at h2; cases h1; cases h2
          exact ⟨hkr, hxy.val, hxy.born⟩))
        have hst : (Instr.keyThatStays y.key (a.eval k)).run P w = .ok (a.eval k) w := by
          simp [Instr.keyThatStays, keyIs_eq hko hkr hxy.key hkx]
        refine Upon.value ⟨_, _, φ, C, ?_, tup2 hru (.int _ _), e1, r1⟩
        unfold execOp; rw [hop]
        simp only [hmm, Sem.run_bind]
        simp only [Instr.mapEntry, Sem.run_bind, run_under hu, Result.andThen_ok, getObj_map hw, checkKey_run' hkt hd, hr', hy, Option.map_some, Option.getD_some, hst, setObj_map hw, Sem.run_pure, goInt, hxy.born]
      · rename_i hf
        obtain ⟨r', hr', hc⟩ := findKey_run hkt hd hko hkr hes hf
        rcases hc with ⟨_, rfl⟩ | ⟨j, u, u', h1, _⟩
        case inr => cases h1
        obtain ⟨r1, e1⟩ := r.turnMap (c2 := c + 1) hp hg hw (hes.push (x := ⟨kv, z, c⟩) (y := ⟨a.eval k, zv, c⟩) ⟨hkr, hzz, rfl⟩)
        refine Upon.value ⟨_, _, φ, C, ?_, tup2 hzz (.int _ _), e1, r1⟩
        unfold execOp; rw [hop]
        simp only [hmm, Sem.run_bind]
        simp only [Instr.mapEntry, Sem.run_bind, run_under hu, Result.andThen_ok, getObj_map hw, checkKey_run' hkt hd, hr', hzr, setObj_map hw, Sem.run_pure, goInt]
      · trivial
    split at hc <;> simp at hc <;> subst hc
    · rename_i kk z hkt hz; exact key false _ z hkt ⟨_, rfl⟩ hz
    · rename_i z hkt hz; exact key true _ z hkt rfl hz
  | entryStore t m s v =>
    rw [hop] at hc
    simp only [cop] at hc
    split at hc <;> simp at hc
    rename_i im is iv hm hs hv
    subst hc
    simp only [opAct]
    split
    case h_2 => trivial
    rename_i b k sn vv hb hsn hvv
    split
    case h_2 => trivial
    rename_i es c hg
    split
    case h_2 => trivial
    rename_i i hi
    have hbr := carg_rel he hm hb
    have hsr := carg_rel he hs hsn
    have hvr := carg_rel he hv hvv
    generalize hmm : a.eval m = mm at hbr
    generalize hss : a.eval s = ss at hsr
    cases hsr
    cases hbr with
    | @map _ p hp =>
    obtain ⟨es', hw, hes⟩ := r.mp b p _ _ hp hg
    have hfi : es'.findIdx? (fun e => (e.born : Int) == sn) = some i := by
      have hl : es'.toList.findIdx? (fun e => (e.born : Int) == sn) = some i := by
        have : ∀ (l : List IEntry) (l' : List MapEntry) (k : Nat), l.length = l'.length → (∀ (j : Nat) (x : IEntry) (y : MapEntry), l[j]? = some x → l'[j]? = some y → x.born = y.born) → l.findIdx? (fun x => (x.born : Int) == sn) = some k → l'.findIdx? (fun x => (x.born : Int) == sn) = some k := by
          intro l
          induction l with
          | nil => intro l' k _ _ h; simp at h
          | cons x l ih =>
            intro l' k hl hb h
            cases l' with
            | nil => simp at hl
            | cons y l' =>
              have h0 := hb 0 x y rfl rfl
              rw [List.findIdx?_cons] at h ⊢
              rw [← h0]
              split at h
              · rename_i hx; rw [if_pos hx]; exact h
              · rename_i hx
                rw [if_neg hx]
                simp only [Option.map_eq_some_iff] at h ⊢
                obtain ⟨k', hk', rfl⟩ := h
                exact ⟨k', ih l' k' (by simpa using hl) (fun j x y h1 h2 => hb (j + 1) x y (by simpa using h1) (by simpa using h2)) hk', rfl⟩
        exact this es es'.toList i (by simpa using hes.1) (fun j x y h1 h2 => (hes.2 j x y h1 (by simpa using h2)).born) hi
      have := List.findIdx?_toArray (fun e : MapEntry => (e.born : Int) == sn) es'.toList
      rw [Array.toArray_toList] at this
      rw [this]; exact hl
    obtain ⟨r1, e1⟩ := r.turnMap (c2 := c) hp hg hw (hes.modify (f := fun x => { x with val := vv }) (g := fun e => { e with val := a.eval v }) i (fun x1 y1 h1 h2 => by
      have := hes.2 i x1 y1 h1 h2
      exact ⟨this.key, hvr, this.born⟩))
    refine Upon.skip ⟨_, φ, C, ?_, e1, r1⟩
    unfold execOp; rw [hop]
    simp only [hmm, hss, Sem.run_bind]
    simp only [Instr.entryStore, Sem.run_bind, Result.andThen_ok, getObj_map hw, asInt, asIntOf, Sem.run_pure, hfi, setObj_map hw]
  | convert s d x =>
    rw [hop] at hc
    simp only [cop] at hc
    split at hc
    · simp at hc; subst hc; simp [IOp.cls] at hcl
    · rename_i el ix hs hd hx
      split at hc <;> simp at hc
      rename_i hel
      subst hc
      simp only [opAct]
      split
      case h_2 => trivial
      rename_i str hstr
      have hr := carg_rel he hx hstr
      generalize hxx : a.eval x = xx at hr
      cases hr
      obtain ⟨y, w', C', hrun, h1, h2, h3⟩ := strbytes_run (P := P) (str := str) r hs hd hel
      refine Upon.value ⟨y, w', φ, C', ?_, h1, h2, h3⟩
      unfold execOp; rw [hop]; simp [hxx, hrun]
    · cases hc
  | call c =>
    rw [hop] at hc
    rcases cls_act_call hc hcl with ⟨fo, fi, is, h1, h2, h3, rfl⟩ | ⟨s, x, t, u, el, e2, i, z, is, ix, h1, h2, h3, h4, h5, h6, h7, h8, h9, h10, rfl⟩
    · simp only [opAct]
      split
      case h_2 => trivial
      rename_i fv av hfv hav
      split
      case h_2 => trivial
      rename_i g args hg
      exact sound_call r hO he hop h1 h2 h3 hfv hav hg
    · simp only [opAct]
      split
      case h_2 => trivial
      rename_i sv xv hsv hxv
      cases hres : appendI i.size i.bytes sv xv h with
      | ok v h' =>
        obtain ⟨y, w', φ', hrun, k1, k2, k3⟩ := append_sound (P := P) (ty := o.type) r h4 h5 h6 h7 h8 (carg_rel he h9 hsv) (carg_rel he h10 hxv) hres
        refine Upon.value ⟨y, w', φ', C, ?_, k1, k2, k3⟩
        unfold execOp; rw [hop]
        simp only
        rw [call_builtin h1]
        have e1 : c.args.map a.eval = #[a.eval s, a.eval x] := by
          have : c.args = #[s, x] := by rw [← Array.toArray_toList (xs := c.args), h2]
          rw [this]; simp
        have e2 : c.argTypes = #[t, u] := by rw [← Array.toArray_toList (xs := c.argTypes), h3]
        simp [builtin, e1, e2, hrun]
      | panic v h' =>
        exfalso
        unfold appendI at hres
        repeat' split at hres
        all_goals cases hres
      | fail => trivial
  | panic x =>
    rw [hop] at hc
    simp only [cop, Option.map_eq_some_iff] at hc
    obtain ⟨ix, hx, rfl⟩ := hc
    simp only [opAct]
    split
    case h_2 => trivial
    rename_i t v hv
    have hr := carg_rel he hx hv
    intro next Q hn
    generalize hxx : a.eval x = xx at hr
    cases hr with
    | @iface _ _ y hy =>
    have hrun : (execOp a.eval o).run P w = .halt (.panic (.iface t y)) w := by
      unfold execOp; rw [hop]; simp [hxx, Instr.panic]
    unfold Oper.wp
    rw [hrun]
    exact hn _ w φ C (.iface hy) (Ext.refl _ _ _ _) r
  | makeMap t rr => cases rr <;> simp [hop, cop] at hc; subst hc; simp [IOp.cls] at hcl
  | slice t x lo hi mx =>
    rw [hop] at hc
    cases mx with
    | some m => simp [cop] at hc
    | none =>
      simp only [cop] at hc
      split at hc
      · split at hc <;> simp at hc
        subst hc; simp [IOp.cls] at hcl
      · split at hc <;> simp at hc
        subst hc; simp [IOp.cls] at hcl
      · cases hc
  | typeAssert x xt as ok =>
    rw [hop] at hc
    cases ok with
    | false => simp [cop] at hc
    | true =>
      simp only [cop] at hc
      split at hc <;> simp at hc
      subst hc; simp [IOp.cls] at hcl
  | _ =>
    exfalso
    rw [hop] at hc
    revert hcl
    simp only [cop] at hc
    repeat' split at hc
    all_goals first
      | (simp only [Option.some.injEq] at hc; subst hc; simp [IOp.cls]; done)
      | (simp only [Option.map_eq_some_iff] at hc; obtain ⟨_, _, rfl⟩ := hc; simp [IOp.cls]; done)
      | (simp at hc; done)
end
end Go.Proofs.YtadeojgiiapljaaGreat.Im
namespace Go.Proofs.YtadeojgiiapljaaGreat.Im
open Go

/-- An operation of a region, with its place and guard, of a frame of N temporaries. -/
def coper (P : Program) (N : Nat) (ops : Array Oper) (o : Oper) : Option IOper :=
  match (match o.op with
    | .defer c => match c.callee, c.args.toList with
      | .value f, [] => (carg f).map .deferc
      | _, _ => none
    | op => cop P op), (match o.guard with
    | none => some none
    | some (j, want) => match (ops[j]?).bind (·.dst) with
      | some t => if t < DK then some (some (t, want)) else none
      | none => none) with
  | some io, some g => match o.dst with
    | none => some ⟨none, io, g⟩
    | some t => if t < N ∧ t < DK then some ⟨some t, io, g⟩ else none
  | _, _ => none

/-- Two lists, one by one. -/
inductive All2 {α β : Type} (R : α → β → Prop) : List α → List β → Prop
  | nil : All2 R [] []
  | cons {a : α} {b : β} {as : List α} {bs : List β} (h : R a b) (t : All2 R as bs) : All2 R (a :: as) (b :: bs)

/-- The deferred call. -/
def DRel (φ : Phi) (C : Con) (e : Env) (ds : List Deferred) : Prop :=
  match e.get DK with
  | none => ds = []
  | some v => ∃ g caps caps', v = .func (.func g) [] caps ∧ ds = [{ target := .fn (.func g) caps', args := #[] }] ∧ VRels φ C caps caps'
structure FRel (φ : Phi) (C : Con) (N : Nat) (e : Env) (a : Act) : Prop where
  env : EnvRel φ C e a
  size : a.tmps.size = N
  defers : DRel φ C e a.defers

def IExit.to : IExit → Exit
  | .normal => .normal
  | .exit id => .exit id
  | .ret => .ret

/-- What is asked of the ending. -/
def PostC (φ : Phi) (C : Con) (h : IHeap) (w : World) (N : Nat) (Q : Exit → Act → World → Prop) : CRes → Prop
  | .ok x e' h' => ∀ φ' C' a' w', Ext φ C h w φ' C' h' w' → Rel φ' C' h' w' → FRel φ' C' N e' a' → Q x.to a' w'
  | .panic v e' h' => ∀ φ' C' a' w' y, Ext φ C h w φ' C' h' w' → Rel φ' C' h' w' → FRel φ' C' N e' a' → VRel φ' C' v y → Q (.panic [{ v := y, recovered := false }]) a' w'
  | .fail => False

section
variable {P : Program} {φ φ' : Phi} {C C' : Con} {h h' : IHeap} {e : Env} {a : Act} {w w' : World} {O : Orc} {N : Nat}

theorem get_put {e : Env} {t u : Nat} {v : IV} : (e.put t v).get u = if t = u then some v else e.get u := rfl
theorem DRel.mono {ds : List Deferred} (hd : DRel φ C e ds) (hx : Ext φ C h w φ' C' h' w') : DRel φ' C' e ds := by
  unfold DRel at hd ⊢
  split at hd
  · exact hd
  · obtain ⟨g, c, c', h1, h2, h3⟩ := hd
    exact ⟨g, c, c', h1, h2, hx.vrels h3⟩
theorem EnvRel.mono (hd : EnvRel φ C e a) (hx : Ext φ C h w φ' C' h' w') : EnvRel φ' C' e a := fun t v ht hv => by
  obtain ⟨x, h1, h2⟩ := hd t v ht hv
  exact ⟨x, h1, hx.vrel h2⟩
theorem FRel.mono (hf : FRel φ C N e a) (hx : Ext φ C h w φ' C' h' w') : FRel φ' C' N e a := ⟨hf.env.mono hx, hf.size, hf.defers.mono hx⟩
theorem EnvRel.put {t : Nat} {v : IV} {x : Value} (he : EnvRel φ C e a) (ht : t < a.tmps.size) (hv : VRel φ C v x) : EnvRel φ C (e.put t v) (a.put (some t) x) := by
  intro u y hu hy
  rw [get_put] at hy
  simp only [Act.put]
  split at hy
  · rename_i heq; subst heq
    cases hy
    exact ⟨x, by simp [ht], hv⟩
  · rename_i hne
    obtain ⟨z, hz, hr⟩ := he u y hu hy
    exact ⟨z, by rw [Array.getElem?_setIfInBounds, if_neg hne]; exact hz, hr⟩
theorem FRel.puto {d : Option Nat} {v : IV} {x : Value} (hf : FRel φ C N e a) (hd : ∀ t, d = some t → t < N ∧ t < DK) (hv : VRel φ C v x) : FRel φ C N (e.puto d v) (a.put d x) := by
  cases d with
  | none => exact hf
  | some t =>
    obtain ⟨h1, h2⟩ := hd t rfl
    refine ⟨hf.env.put (by rw [hf.size]; exact h1) hv, by simp [Act.put, hf.size], ?_⟩
    have := hf.defers
    unfold DRel at this ⊢
    simp only [Env.puto, get_put]
    rw [if_neg (by omega)]
    exact this

theorem coper_dst {ops : Array Oper} {o : Oper} {io : IOper} (hc : coper P N ops o = some io) : io.dst = o.dst ∧ ∀ t, io.dst = some t → t < N ∧ t < DK := by
  unfold coper at hc
  split at hc
  · split at hc
    · rename_i hd; cases hc; exact ⟨hd.symm, by simp⟩
    · rename_i t hd
      split at hc <;> simp at hc
      rename_i hlt
      subst hc
      exact ⟨hd.symm, by rintro u hu; cases hu; exact hlt⟩
  · cases hc
theorem wanted_of {ops : Array Oper} {o : Oper} {io : IOper} {b : Bool} (hc : coper P N ops o = some io) (he : EnvRel φ C e a) (hw : wantedI io.guard e = some b) : Region.wanted o (yielded ops a.tmps) = b := by
  unfold coper at hc
  have key : ∀ g, (match o.guard with
    | none => some none
    | some (j, want) => match (ops[j]?).bind (·.dst) with
      | some t => if t < DK then some (some (t, want)) else none
      | none => none) = some g → wantedI g e = some b → Region.wanted o (yielded ops a.tmps) = b := by
    intro g hg hw
    unfold Region.wanted
    split at hg
    · rename_i hgd
      cases hg
      rw [hgd]
      simpa [wantedI] using hw
    · rename_i j want hgd
      split at hg
      case h_2 => cases hg
      rename_i t ht
      split at hg <;> simp at hg
      rename_i hlt
      subst hg
      rw [hgd]
      simp only [wantedI] at hw
      simp only
      split at hw
      · rename_i bb hbb
        obtain ⟨x, hx, hr⟩ := he t _ hlt hbb
        cases hr
        simp at hw
        rw [← hw]
        simp [yielded, ht, hx]
      · rename_i hbb
        obtain ⟨x, hx, hr⟩ := he t _ hlt hbb
        cases hr
        simp at hw
        subst hw
        simp [yielded, ht, hx]
      · cases hw
  split at hc
  · rename_i iop g hop hg
    have hg' : io.guard = g := by
      split at hc
      · cases hc; rfl
      · split at hc <;> simp at hc
        rw [← hc]
    rw [hg'] at hw
    exact key g hg hw
  · cases hc
theorem coper_op {ops : Array Oper} {o : Oper} {io : IOper} (hc : coper P N ops o = some io) : (cop P o.op = some io.op ∧ ∀ x, io.op ≠ .deferc x) ∨ (∃ c f fi, o.op = .defer c ∧ c.callee = .value f ∧ c.args.toList = [] ∧ carg f = some fi ∧ io.op = .deferc fi) := by
  unfold coper at hc
  split at hc
  · rename_i iop g hop hg
    have hio : io.op = iop := by
      split at hc
      · cases hc; rfl
      · split at hc <;> simp at hc
        rw [← hc]
    rw [hio]
    split at hop
    · rename_i c hod
      split at hop
      · rename_i f hcal hargs
        simp only [Option.map_eq_some_iff] at hop
        obtain ⟨fi, hfi, rfl⟩ := hop
        exact .inr ⟨c, f, fi, hod, hcal, hargs, hfi, rfl⟩
      · cases hop
    · refine .inl ⟨hop, fun x hx => ?_⟩
      rw [hx] at hop
      revert hop
      generalize o.op = op
      intro hop
      cases op with
      | makeMap t r => cases r <;> simp [cop] at hop
      | slice t x lo hi mx =>
        cases mx with
        | some m => simp [cop] at hop
        | none => simp only [cop] at hop; (repeat' split at hop) <;> simp at hop
      | typeAssert x xt as ok =>
        cases ok with
        | false => simp [cop] at hop
        | true => simp only [cop] at hop; (repeat' split at hop) <;> simp at hop
      | _ => simp only [cop, ccall] at hop; (repeat' split at hop) <;> simp at hop
  · cases hc

/-- One operation that does not defer, in any order: what it comes to. -/
theorem sound_op (r : Rel φ C h w) (hO : ∀ f, Sim P f (O f)) {o : Oper} {io : IOp} (he : EnvRel φ C e a) (hc : cop P o.op = some io) : Upon P o a φ C h w (opI O io e h) := by
  unfold opI
  split
  · rename_i hcl
    split
    · rename_i v hv
      obtain ⟨x, hx, hr⟩ := sound_pure he hc hcl hv w
      exact Upon.value ⟨x, w, φ, C, hx, hr, Ext.refl _ _ _ _, r⟩
    · trivial
  · rename_i hcl
    split
    · rename_i v hv
      obtain ⟨x, hx, hr⟩ := sound_read r he hc hcl hv
      exact Upon.value ⟨x, w, φ, C, hx, hr, Ext.refl _ _ _ _, r⟩
    · trivial
  · rename_i hcl
    split
    · rename_i b mk hv
      obtain ⟨ob, lim, mk', hrun, h1, h2, _, h3⟩ := sound_new he hc hcl hv
      obtain ⟨r1, e1⟩ := r.alloc ob b lim h1 h2
      exact Upon.value ⟨_, _, _, C, hrun w, h3 _ C h.n w.heap.size (Phi.put_same _ _ _), e1, r1⟩
    · trivial
  · rename_i hcl
    exact sound_act r hO he hc hcl

theorem reg_sound (hO : ∀ f, Sim P f (O f)) {ops : Array Oper} {Q : Exit → Act → World → Prop} : ∀ (is : List Nat) (ios : List IOper) (e : Env) (φ : Phi) (C : Con) (h : IHeap) (w : World) (a : Act),
    (All2 (fun i io => ∃ o, ops[i]? = some o ∧ coper P N ops o = some io) is ios) → Rel φ C h w → FRel φ C N e a → PostC φ C h w N Q (ix.regI O ios e h) → wpOps P ops Q is a w
  | [], ios, e, φ, C, h, w, a, hf, r, hfr, hp => by
    cases hf
    exact hp φ C a w (Ext.refl _ _ _ _) r hfr
  | i :: is, ios, e, φ, C, h, w, a, hf, r, hfr, hp => by
    cases hf with
    | @cons _ io _ ios' h1 hrest =>
    obtain ⟨o, ho, hc⟩ := h1
    obtain ⟨hd1, hd2⟩ := coper_dst hc
    simp only [wpOps, ho]
    simp only [ix.regI] at hp
    split at hp
    · rename_i hw
      have hwant := wanted_of hc hfr.env hw
      rw [if_pos hwant]
      left
      rcases coper_op hc with ⟨hcop, hnd⟩ | ⟨c, f, fi, hod, hcal, hargs, hfi, hio⟩
      · have hup := sound_op (w := w) (a := a) r hO hfr.env hcop
        have hp' : PostC φ C h w N Q (match opI O io.op e h with
            | .ok v h' => ix.regI O ios' (e.puto io.dst v) h'
            | .panic v h' => .panic v e h'
            | .fail => .fail) := by
          split at hp
          · rename_i x hx; exact absurd hx (hnd x)
          · exact hp
        clear hp
        cases hres : opI O io.op e h with
        | ok v h' =>
          rw [hres] at hup hp'
          refine hup _ _ fun x w' φ' C' hx hext hrel => ?_
          rw [← hd1]
          refine reg_sound hO is ios' _ φ' C' h' w' _ hrest hrel ((hfr.mono hext).puto hd2 hx) ?_
          revert hp'
          simp only
          cases ix.regI O ios' (e.puto io.dst v) h' with
          | ok x' e' h'' => exact fun hp φ'' C'' a'' w'' e1 => hp φ'' C'' a'' w'' (hext.trans e1)
          | panic v' e' h'' => exact fun hp φ'' C'' a'' w'' y e1 => hp φ'' C'' a'' w'' y (hext.trans e1)
          | fail => exact fun hp => hp
        | panic v h' =>
          rw [hres] at hup hp'
          refine hup _ _ fun x w' φ' C' hx hext hrel => ?_
          exact hp' φ' C' a w' x hext hrel (hfr.mono hext) hx
        | fail => rw [hres] at hp'; exact hp'.elim
      · rw [hio] at hp
        simp only at hp
        split at hp
        case h_2 => exact hp.elim
        rename_i g caps hfv hdk
        split at hp
        case isFalse => exact hp.elim
        rename_i hnone
        have hdst : o.dst = none := by rw [← hd1]; simpa using hnone
        have hfvr := carg_rel hfr.env hfi hfv
        have hfe : ∃ c', a.eval f = .func (.func g) #[] c' ∧ VRels φ C caps c' := by
          generalize a.eval f = x at hfvr
          cases hfvr with
          | @func _ _ _ a' c' h1 h2 h3 h4 =>
            refine ⟨c', ?_, ⟨h2, h4⟩⟩
            have : a' = #[] := Array.eq_empty_of_size_eq_zero (by simpa using h1.symm)
            rw [this]
        obtain ⟨c', hfe, hcr⟩ := hfe
        have hargs' : c.args = #[] := by rw [← Array.toArray_toList (xs := c.args), hargs]
        have hrun : (execOp a.eval o).run P w = .ok (.defer { target := .fn (.func g) c', args := #[] }) w := by
          unfold execOp
          rw [hod]
          simp only [Sem.run_bind]
          unfold resolve
          rw [hcal]
          simp [hfe, Deferred.ofValue, hargs']
        unfold Oper.wp
        rw [hrun]
        simp only [Oper.upon, hdst, Act.put]
        refine reg_sound hO is ios' _ φ C h w _ hrest r ⟨?_, hfr.size, ?_⟩ hp
        · intro t v ht hv
          rw [get_put, if_neg (by omega)] at hv
          exact hfr.env t v ht hv
        · have := hfr.defers
          unfold DRel at this ⊢
          rw [hdk] at this
          simp only [get_put, if_true]
          simp only at this
          exact ⟨g, caps, c', rfl, by rw [this], hcr⟩
    · rename_i hw
      have hwant := wanted_of hc hfr.env hw
      rw [if_neg (by simp [hwant])]
      rw [← hd1]
      exact reg_sound hO is ios' _ φ C h w _ hrest r (hfr.puto hd2 .undef) hp
    · exact hp.elim
end
end Go.Proofs.YtadeojgiiapljaaGreat.Im
namespace Go.Proofs.YtadeojgiiapljaaGreat.Im
open Go

def IOp.args : IOp → List IArg
  | .mv x | .nilchk x | .isnil _ _ x | .un _ x | .conv _ x | .mkiface _ x | .faddr _ x | .field _ _ x | .tassert _ _ x | .extract _ x | .len _ x | .load1 x | .loadN _ x | .box x | .strbytes x | .panic x | .deferc x => [x]
  | .pick c a b => [c, a, b]
  | .build _ ps | .bslice _ _ ps => ps.map (·.2.2)
  | .rep .. | .new _ | .mkmap => []
  | .bin _ x y | .eqflat _ _ x y | .eqbool _ x y | .sliceTo x y | .iaddr _ _ x y | .idxstr x y | .mm _ x y | .lookup _ _ x y _ | .mkslice _ _ x y | .store _ x y | .mapentry _ _ x y | .append _ _ x y => [x, y]
  | .mkfunc _ f c => f ++ c
  | .sliceArr _ _ x lo hi => x :: (lo.toList ++ hi.toList)
  | .mapput _ x y z | .entrystore x y z => [x, y, z]
  | .call f as => f :: as
def tempsOf : List IArg → List Nat
  | [] => []
  | .t t :: as => t :: tempsOf as
  | .c _ :: as => tempsOf as
def IOper.temps (o : IOper) : List Nat := tempsOf o.op.args ++ (match o.guard with | some (t, _) => [t] | none => [])

section
variable {e e' : Env} {h : IHeap} {O : Orc}
theorem evs_congr : ∀ {as : List IArg}, (∀ x ∈ as, x.ev e = x.ev e') → evs e as = evs e' as
  | [], _ => rfl
  | a :: as, h => by
    have ih : evs e as = evs e' as := evs_congr (fun x hx => h x (by simp [hx]))
    simp only [evs, h a (by simp), ih]
theorem parts_congr : ∀ {ps : List (Nat × Nat × IArg)}, (∀ x ∈ ps.map (·.2.2), x.ev e = x.ev e') → parts e ps = parts e' ps
  | [], _ => rfl
  | (o, s, a) :: ps, h => by
    have ih : parts e ps = parts e' ps := parts_congr (fun x hx => h x (by simp at hx ⊢; exact .inr hx))
    simp only [parts, h a (by simp), ih]
theorem oint_congr {d : Int} {o : Option IArg} (h : ∀ x ∈ o.toList, x.ev e = x.ev e') : oint e d o = oint e' d o := by
  cases o with
  | none => rfl
  | some a => simp only [oint, h a (by simp)]
theorem op_congr {o : IOp} (h : ∀ x ∈ o.args, x.ev e = x.ev e') : opPure o e = opPure o e' ∧ (∀ hh, opRead o e hh = opRead o e' hh) ∧ opNew o e = opNew o e' ∧ (∀ hh, opAct O o e hh = opAct O o e' hh) := by
  cases o with
  | build z ps => refine ⟨?_, fun _ => rfl, rfl, fun _ => rfl⟩; simp only [opPure, parts_congr h]
  | bslice z l ps => refine ⟨rfl, fun _ => rfl, ?_, fun _ => rfl⟩; simp only [opNew, parts_congr h]
  | mkfunc fn f c =>
    refine ⟨?_, fun _ => rfl, rfl, fun _ => rfl⟩
    simp only [opPure, evs_congr (as := f) (fun x hx => h x (by simp [IOp.args, hx])), evs_congr (as := c) (fun x hx => h x (by simp [IOp.args, hx]))]
  | sliceArr n s x lo hi =>
    refine ⟨?_, fun _ => rfl, rfl, fun _ => rfl⟩
    simp only [opPure, h x (by simp [IOp.args]), oint_congr (o := lo) (fun y hy => h y (by simp only [IOp.args, List.mem_cons, List.mem_append]; exact .inr (.inl hy))), oint_congr (o := hi) (fun y hy => h y (by simp only [IOp.args, List.mem_cons, List.mem_append]; exact .inr (.inr hy)))]
  | call f as =>
    refine ⟨rfl, fun _ => rfl, rfl, fun hh => ?_⟩
    simp only [opAct, h f (by simp [IOp.args]), evs_congr (as := as) (fun x hx => h x (by simp [IOp.args, hx]))]
  | _ =>
    simp only [IOp.args, List.mem_cons, List.not_mem_nil, or_false, forall_eq_or_imp, forall_eq] at h
    refine ⟨?_, fun hh => ?_, ?_, fun hh => ?_⟩ <;> simp only [opPure, opRead, opNew, opAct, h]
theorem args_temps {e e' : Env} : ∀ {as : List IArg}, (∀ t ∈ tempsOf as, e.get t = e'.get t) → ∀ x ∈ as, x.ev e = x.ev e'
  | [], _, x, hx => by simp at hx
  | .t t :: as, h, x, hx => by
    rcases List.mem_cons.1 hx with rfl | hx
    · exact h t (by simp [tempsOf])
    · exact args_temps (as := as) (fun u hu => h u (by simp [tempsOf, hu])) x hx
  | .c v :: as, h, x, hx => by
    rcases List.mem_cons.1 hx with rfl | hx
    · rfl
    · exact args_temps (as := as) (fun u hu => h u (by simpa [tempsOf] using hu)) x hx
theorem oper_congr {o : IOper} (h : ∀ t ∈ o.temps, e.get t = e'.get t) : (∀ x ∈ o.op.args, x.ev e = x.ev e') ∧ wantedI o.guard e = wantedI o.guard e' := by
  refine ⟨args_temps fun t ht => h t (by simp [IOper.temps, ht]), ?_⟩
  unfold wantedI
  cases hg : o.guard with
  | none => rfl
  | some g =>
    obtain ⟨t, want⟩ := g
    simp only
    rw [h t (by simp [IOper.temps, hg])]

/-- What has been read is read with one block more, too. -/
theorem read_push {o : IOp} {v : IV} {x : IObj} (hr : opRead o e h = some v) : opRead o e (h.push x) = some v := by
  have hg : ∀ {b : Nat} {y : IObj}, h.get b = some y → (h.push x).get b = some y := fun hb => by rw [get_push_old (get_lt hb)]; exact hb
  have h1 : ∀ {v u : IV}, load1 h v = some u → load1 (h.push x) v = some u := by
    intro v u hl
    unfold load1 at hl ⊢
    split at hl
    · split at hl
      · rename_i hb; rw [hg hb]; exact hl
      · cases hl
    · exact hl
    · cases hl
  have h2 : ∀ {v : IV} {n : Nat} {us : List IV}, loadN h v n = some us → loadN (h.push x) v n = some us := by
    intro v n us hl
    unfold loadN at hl ⊢
    split at hl
    · split at hl
      · rename_i hb; rw [hg hb]; exact hl
      · cases hl
    · exact hl
    · cases hl
  cases o <;> simp only [opRead, reduceCtorEq] at hr
  · simp only [opRead]
    split at hr
    · exact h1 hr
    · cases hr
  · simp only [opRead]
    split at hr
    · simp only [Option.map_eq_some_iff] at hr ⊢
      obtain ⟨us, hus, rfl⟩ := hr
      exact ⟨us, h2 hus, rfl⟩
    · cases hr
  · simp only [opRead]
    split at hr
    · rename_i m k hm hk
      unfold lookupI at hr ⊢
      split at hr
      · cases hr
      · rename_i hko
        rw [if_neg hko]
        cases m with
        | map b =>
          simp only at hr ⊢
          cases hb : h.get b with
          | none => rw [hb] at hr; simp at hr
          | some y => rw [hb] at hr; rw [hg hb]; exact hr
        | _ => exact hr
    · cases hr
end

/-! ### Ancestors -/
inductive Anc (ops : Array Oper) (j : Nat) : Nat → Prop
  | edge {i : Nat} {o : Oper} {e : Edge} (ho : ops[i]? = some o) (he : e ∈ o.after) (hb : Region.binds .any e = true) (hj : e.on = j) : Anc ops j i
  | trans {i : Nat} {o : Oper} {e : Edge} (ho : ops[i]? = some o) (he : e ∈ o.after) (hb : Region.binds .any e = true) (h : Anc ops j e.on) : Anc ops j i

def mask (acc : List Nat) (o : Oper) : Nat := o.after.toList.foldl (fun s e => if Region.binds .any e then s ||| 2 ^ e.on ||| acc.getD e.on 0 else s) 0
def masks : List Oper → List Nat → List Nat
  | [], acc => acc
  | o :: os, acc => masks os (acc ++ [mask acc o])

theorem mask_bit {acc : List Nat} {o : Oper} {j : Nat} (h : (mask acc o).testBit j = true) : ∃ e ∈ o.after, Region.binds .any e = true ∧ (e.on = j ∨ (acc.getD e.on 0).testBit j = true) := by
  unfold mask at h
  have key : ∀ (l : List Edge) (s : Nat), (l.foldl (fun s e => if Region.binds .any e then s ||| 2 ^ e.on ||| acc.getD e.on 0 else s) s).testBit j = true →
      s.testBit j = true ∨ ∃ e ∈ l, Region.binds .any e = true ∧ (e.on = j ∨ (acc.getD e.on 0).testBit j = true) := by
    intro l
    induction l with
    | nil => intro s h; exact .inl h
    | cons e l ih =>
      intro s h
      simp only [List.foldl_cons] at h
      rcases ih _ h with h | ⟨e', h1, h2, h3⟩
      · split at h
        · rename_i hb
          rw [Nat.testBit_or, Nat.testBit_or] at h
          simp only [Bool.or_eq_true] at h
          rcases h with (h | h) | h
          · exact .inl h
          · refine .inr ⟨e, by simp, hb, .inl ?_⟩
            rw [Nat.testBit_two_pow] at h
            simpa using h
          · exact .inr ⟨e, by simp, hb, .inr h⟩
        · exact .inl h
      · exact .inr ⟨e', by simp [h1], h2, h3⟩
  rcases key _ _ h with h | ⟨e, h1, h2, h3⟩
  · simp at h
  · exact ⟨e, by simpa using h1, h2, h3⟩
theorem masks_anc {ops : Array Oper} : ∀ (os : List Oper) (acc : List Nat) (pre : List Oper), ops.toList = pre ++ os → acc.length = pre.length → (∀ i j, (acc.getD i 0).testBit j = true → Anc ops j i) →
    ∀ i j, ((masks os acc).getD i 0).testBit j = true → Anc ops j i
  | [], acc, pre, hp, hl, ha => ha
  | o :: os, acc, pre, hp, hl, ha => by
    intro i j
    refine masks_anc os (acc ++ [mask acc o]) (pre ++ [o]) (by simp [hp]) (by simp [hl]) (fun i j h => ?_) i j
    rw [List.getD_eq_getElem?_getD] at h
    by_cases hi : i < acc.length
    · rw [List.getElem?_append_left hi, ← List.getD_eq_getElem?_getD] at h; exact ha i j h
    · by_cases hi2 : i = acc.length
      · subst hi2
        rw [List.getElem?_append_right (Nat.le_refl _)] at h
        simp at h
        obtain ⟨e, h1, h2, h3⟩ := mask_bit h
        have ho : ops[acc.length]? = some o := by
          rw [← Array.getElem?_toList, hp, hl]
          simp
        rcases h3 with h3 | h3
        · exact .edge ho h1 h2 h3
        · exact .trans ho h1 h2 (ha _ _ h3)
      · rw [List.getElem?_eq_none (by simp; omega)] at h
        simp at h
theorem anc_listed {ops : Array Oper} {listed : Array Bool} {j : Nat} (hdc : ∀ i o, ops[i]? = some o → listed.getD i true = true → ∀ e ∈ o.after, Region.binds .any e = true → listed.getD e.on false = true) :
    ∀ {i : Nat}, Anc ops j i → (∀ o, ops[i]? = some o → ∀ e ∈ o.after, Region.binds .any e = true → listed.getD e.on false = true) → listed.getD j false = true := by
  intro i h
  induction h with
  | edge ho he hb hj => intro hr; subst hj; exact hr _ ho _ he hb
  | @trans i o e ho he hb hanc ih =>
    intro hr
    refine ih fun o' ho' => hdc _ o' ho' ?_
    have := hr o ho e he hb
    rcases Nat.lt_or_ge e.on listed.size with hlt | hge
    · simpa [Array.getD, hlt] using this
    · simp [Array.getD, Nat.not_lt.2 hge] at this
end Go.Proofs.YtadeojgiiapljaaGreat.Im
namespace Go.Proofs.YtadeojgiiapljaaGreat.Im
open Go

def bit (m : List Nat) (i j : Nat) : Bool := (m.getD i 0).testBit j
def isAct (d : DOper) : Bool := d.o.op.cls == .act
def writes (d : DOper) (t : Nat) : Bool := d.o.dst == some t
/-- The acting operation behind which a reading one can't be. -/
def hiOk (m : List Nat) (i hi : Nat) : Nat → List DOper → Bool
  | _, [] => true
  | k, x :: xs => if isAct x then (if k = hi then bit m x.idx i else hiOk m i hi (k + 1) xs) else hiOk m i hi k xs
/-- May the order be? acc: what is done; k: how many of it act. -/
def dcheck (m : List Nat) : List DOper → Nat → List DOper → Bool
  | _, _, [] => true
  | acc, k, d :: ds =>
    acc.all (fun x => !isAct x || bit m d.idx x.idx) &&
    acc.all (fun x => d.o.temps.all fun t => !writes x t || bit m d.idx x.idx) &&
    (d :: ds).all (fun x => d.o.temps.all fun t => !writes x t) &&
    acc.all (fun x => match d.o.dst with | some t => !writes x t | none => true) &&
    (isAct d || (d.o.op.cls != .read || (hiOk m d.idx d.hi k ds && decide (k ≤ d.hi)))) &&
    (match d.o.op with | .deferc _ => false | _ => true) &&
    dcheck m (d :: acc) (if isAct d then k + 1 else k) ds
def nodupB : List Nat → Bool
  | [] => true
  | x :: xs => !xs.contains x && nodupB xs
/-- Of a region: each operation once, none ahead of what it waits for. -/
def drawOk (P : Program) (N : Nat) (ops : Array Oper) (ds : List DOper) : Bool :=
  dcheck (masks ops.toList []) [] 0 ds && nodupB (ds.map (·.idx)) && ds.all (fun d => decide (d.idx < ops.size)) && (List.range ops.size).all (fun i => ds.any (fun d => d.idx == i)) &&
  (ops.toList.zipIdx.all fun (o, i) => o.after.toList.all fun e => !Region.binds .any e || decide (e.on < i))

section
variable {m : List Nat}
theorem dcheck_cons {acc : List DOper} {k : Nat} {d : DOper} {ds : List DOper} (h : dcheck m acc k (d :: ds) = true) :
    (∀ x ∈ acc, isAct x = true → bit m d.idx x.idx = true) ∧ (∀ x ∈ acc, ∀ t ∈ d.o.temps, writes x t = true → bit m d.idx x.idx = true) ∧ (∀ x ∈ d :: ds, ∀ t ∈ d.o.temps, writes x t = false) ∧
    (∀ x ∈ acc, ∀ t, d.o.dst = some t → writes x t = false) ∧ (isAct d = false → d.o.op.cls = .read → hiOk m d.idx d.hi k ds = true ∧ k ≤ d.hi) ∧ (∀ x, d.o.op ≠ .deferc x) ∧
    dcheck m (d :: acc) (if isAct d then k + 1 else k) ds = true := by
  unfold dcheck at h
  simp only [Bool.and_eq_true, List.all_eq_true] at h
  obtain ⟨⟨⟨⟨⟨⟨h1, h2⟩, h3⟩, h4⟩, h5⟩, h6⟩, h7⟩ := h
  refine ⟨fun x hx ha => ?_, fun x hx t ht hw => ?_, fun x hx t ht => ?_, fun x hx t ht => ?_, fun ha hr => ?_, fun x hx => ?_, h7⟩
  · have := h1 x hx; simpa [ha] using this
  · have := h2 x hx t ht; simpa [hw] using this
  · have := h3 x hx t ht; simpa using this
  · have := h4 x hx; rw [ht] at this; simpa using this
  · simpa [ha, hr] using h5
  · rw [hx] at h6; cases h6
theorem dcheck_act : ∀ {ds acc : List DOper} {k : Nat}, dcheck m acc k ds = true → ∀ x ∈ acc, isAct x = true → ∀ d ∈ ds, bit m d.idx x.idx = true
  | [], _, _, _, _, _, _, _, hd => by cases hd
  | d :: ds, acc, k, h, x, hx, ha, y, hy => by
    obtain ⟨h1, _, _, _, _, _, h7⟩ := dcheck_cons h
    rcases List.mem_cons.1 hy with rfl | hy
    · exact h1 x hx ha
    · exact dcheck_act h7 x (by simp [hx]) ha y hy
/-- Who reads what another one writes waits for it. -/
theorem dcheck_reads : ∀ {ds acc : List DOper} {k : Nat}, dcheck m acc k ds = true → ∀ d ∈ ds, ∀ x, (x ∈ acc ∨ x ∈ ds) → ∀ t ∈ d.o.temps, writes x t = true → bit m d.idx x.idx = true
  | [], _, _, _, _, hd, _, _, _, _, _ => by cases hd
  | d :: ds, acc, k, h, y, hy, x, hx, t, ht, hw => by
    obtain ⟨_, h2, h3, _, _, _, h7⟩ := dcheck_cons h
    rcases List.mem_cons.1 hy with rfl | hy
    · rcases hx with hx | hx
      · exact h2 x hx t ht hw
      · rw [h3 x hx t ht] at hw; cases hw
    · refine dcheck_reads h7 y hy x ?_ t ht hw
      rcases hx with hx | hx
      · exact .inl (by simp [hx])
      · rcases List.mem_cons.1 hx with rfl | hx
        · exact .inl (by simp)
        · exact .inr hx
theorem dcheck_defer : ∀ {ds acc : List DOper} {k : Nat}, dcheck m acc k ds = true → ∀ d ∈ ds, ∀ x, d.o.op ≠ .deferc x
  | [], _, _, _, _, hd => by cases hd
  | d :: ds, acc, k, h, y, hy => by
    obtain ⟨_, _, _, _, _, h6, h7⟩ := dcheck_cons h
    rcases List.mem_cons.1 hy with rfl | hy
    · exact h6
    · exact dcheck_defer h7 y hy
theorem nodupB_ok : ∀ {l : List Nat}, nodupB l = true → l.Nodup
  | [], _ => .nil
  | x :: xs, h => by
    simp only [nodupB, Bool.and_eq_true] at h
    refine List.nodup_cons.2 ⟨?_, nodupB_ok h.2⟩
    simpa using h.1
end

theorem get_filter (f : Nat → Bool) (t : Nat) : ∀ (e : Env), Env.get (e.filter fun p => f p.1) t = if f t then e.get t else none
  | [] => by simp [Env.get]
  | (u, v) :: e => by
    rw [List.filter_cons]
    have ih := get_filter f t e
    by_cases hf : f u
    · simp only [hf, if_true, Env.get]
      by_cases hu : u = t
      · subst hu; simp [hf]
      · simp only [hu, if_false]; exact ih
    · simp only [hf, Env.get]
      by_cases hu : u = t
      · subst hu; simp only [hf] at ih ⊢; simpa using ih
      · simp only [hu, if_false]; simpa using ih
theorem get_less (t : Nat) : ∀ (ds : List DOper) (e : Env), (e.less ds).get t = if ds.any (writes · t) then none else e.get t
  | [], e => by simp [Env.less]
  | d :: ds, e => by
    unfold Env.less
    cases hd : d.o.dst with
    | none =>
      simp only [List.any_cons, writes, hd]
      rw [get_less t ds e]
      simp [writes]
    | some u =>
      simp only [List.any_cons, writes, hd]
      rw [get_less t ds _, get_filter (fun x => x != u) t e]
      by_cases hu : t = u
      · subst hu; simp
      · have h1 : (t != u) = true := by simpa using hu
        have h2 : (some u == some t) = false := by simpa using fun e => hu e.symm
        simp [h1, h2, writes]

def unl (listed : Array Bool) : Nat → Nat
  | 0 => 0
  | n + 1 => unl listed n + if listed.getD n true = false then 1 else 0
theorem unl_set {listed : Array Bool} {i : Nat} (hi : listed.getD i true = false) : ∀ n, unl (listed.setIfInBounds i true) n + (if i < n then 1 else 0) = unl listed n
  | 0 => by simp [unl]
  | n + 1 => by
    have ih := unl_set hi n
    simp only [unl]
    by_cases hin : i = n
    · subst hin
      have hlt : i < listed.size := by
        rcases Nat.lt_or_ge i listed.size with h | h
        · exact h
        · simp [Array.getD, Nat.not_lt.2 h] at hi
      simp only [Nat.lt_irrefl, if_false] at ih
      have : (listed.setIfInBounds i true).getD i true = true := by simp [Array.getD, hlt]
      simp only [this, hi]
      simp
      omega
    · rw [getD_set_ne true hin]
      by_cases hlt : i < n
      · have e1 : i < n + 1 := by omega
        simp only [hlt, e1, if_true] at ih ⊢
        omega
      · have e1 : ¬ i < n + 1 := by omega
        simp only [hlt, e1, if_false] at ih ⊢
        omega
theorem unl_zero {listed : Array Bool} : ∀ {n : Nat}, unl listed n = 0 → ∀ i, i < n → listed.getD i true = true
  | 0, _, i, hi => by omega
  | n + 1, h, i, hi => by
    simp only [unl] at h
    by_cases hin : i = n
    · subst hin
      cases hb : listed.getD i true
      · simp [hb] at h
      · rfl
    · exact unl_zero (n := n) (by omega) i (by omega)

section
variable {P : Program} {φ φ' φ₀ : Phi} {C C' C₀ : Con} {h h' h₀ G : IHeap} {e e' e₀ : Env} {a a₀ : Act} {w w' w₀ : World} {O : Orc} {N : Nat} {ops : Array Oper}

/-- What is done in the one order and not yet in ours: the value v; the block b. -/
structure PendOk (m : List Nat) (e : Env) (G : IHeap) (φ : Phi) (n₀ k : Nat) (rest : List DOper) (d : DOper) (v : IV) (b : Option Nat) : Prop where
  na : isAct d = false
  dst : ∀ t, d.o.dst = some t → e.get t = some v
  val : (wantedI d.o.guard e = some false ∧ v = .undef ∧ b = none) ∨ (wantedI d.o.guard e = some true ∧
    ((d.o.op.cls = .pure ∧ opPure d.o.op e = some v ∧ b = none) ∨
     (d.o.op.cls = .read ∧ opRead d.o.op e G = some v ∧ b = none) ∨
     (d.o.op.cls = .new ∧ ∃ obj mk c, opNew d.o.op e = some (obj, mk) ∧ v = mk c ∧ b = some c ∧ G.get c = some obj ∧ φ c = none ∧ n₀ ≤ c)))
  hi : d.o.op.cls = .read → hiOk m d.idx d.hi k rest = true ∧ k ≤ d.hi
  fresh : ∀ x ∈ rest, ∀ t ∈ d.o.temps, writes x t = false

def Pn (acc : List DOper) (listed : Array Bool) (d : DOper) : Prop := d ∈ acc ∧ listed.getD d.idx true = false

/-- What is known of the region. -/
structure DFix (P : Program) (N : Nat) (ops : Array Oper) (m : List Nat) (ds : List DOper) : Prop where
  anc : ∀ i j, bit m i j = true → Anc ops j i
  reads : ∀ d ∈ ds, ∀ x ∈ ds, ∀ t ∈ d.o.temps, writes x t = true → bit m d.idx x.idx = true
  uniq : ∀ d ∈ ds, ∀ x ∈ ds, d.idx = x.idx → d = x
  lt : ∀ d ∈ ds, d.idx < ops.size
  all : ∀ i, i < ops.size → ∃ d ∈ ds, d.idx = i
  op : ∀ d ∈ ds, ∃ o, ops[d.idx]? = some o ∧ coper P N ops o = some d.o
  nodefer : ∀ d ∈ ds, ∀ x, d.o.op ≠ .deferc x
  before : ∀ i o, ops[i]? = some o → ∀ e ∈ o.after, Region.binds .any e = true → e.on < i

/-- The state: the one order stands ahead of 'rest'. -/
structure DInv (O : Orc) (N : Nat) (ops : Array Oper) (m : List Nat) (ds : List DOper) (R : Res Env) (φ₀ : Phi) (C₀ : Con) (h₀ : IHeap) (w₀ : World) (a₀ : Act) (e₀ : Env)
    (V : Nat → IV) (B : Nat → Option Nat) (acc : List DOper) (k : Nat) (rest : List DOper) (listed : Array Bool) (φ : Phi) (C : Con) (G : IHeap) (e : Env) (a : Act) (w : World) : Prop where
  rel : Rel φ C G w
  ext : Ext φ₀ C₀ h₀ w₀ φ C G w
  pend : ∀ d, Pn acc listed d → PendOk m e G φ h₀.n k rest d (V d.idx) (B d.idx)
  blocks : ∀ d d' c, Pn acc listed d → Pn acc listed d' → B d.idx = some c → B d'.idx = some c → d.idx = d'.idx
  known : ∀ t v, t < DK → (∀ d, Pn acc listed d → writes d t = false) → e.get t = some v → ∃ x, a.tmps[t]? = some x ∧ VRel φ C v x
  size : a.tmps.size = N
  defers : a.defers = a₀.defers
  e0 : ∀ t, (∀ d ∈ ds, writes d t = false) → e.get t = e₀.get t
  run : ∃ ps, drawI O rest k ps e G = R ∧ ∀ d, Pn acc listed d → d.o.op.cls = .read → wantedI d.o.guard e = some true → k < d.hi → (d, V d.idx) ∈ ps
  chk : dcheck m acc k rest = true
  split : ∀ x, x ∈ ds ↔ x ∈ acc ∨ x ∈ rest
  apart : ∀ x ∈ acc, ∀ y ∈ rest, x.idx ≠ y.idx
  rnodup : (rest.map (·.idx)).Nodup
  lsize : listed.size = ops.size
  lrest : ∀ d ∈ rest, listed.getD d.idx true = false
  down : ∀ i o, ops[i]? = some o → listed.getD i true = true → ∀ e ∈ o.after, Region.binds .any e = true → listed.getD e.on false = true

theorem cls_cases (d : DOper) (h : isAct d = false) : d.o.op.cls = .pure ∨ d.o.op.cls = .read ∨ d.o.op.cls = .new := by
  unfold isAct at h
  cases hc : d.o.op.cls <;> simp_all

/-- The pending ones are as they were, over what doesn't touch them. -/
theorem PendOk.step {m : List Nat} {n₀ k k' : Nat} {rest rest' : List DOper} {d : DOper} {v : IV} {b : Option Nat} (h : PendOk m e G φ n₀ k rest d v b) (he : ∀ t ∈ d.o.temps, e'.get t = e.get t)
    (hdst : ∀ t, d.o.dst = some t → e'.get t = e.get t) (hread : ∀ u, opRead d.o.op e G = some u → d.o.op.cls = .read → wantedI d.o.guard e = some true → v = u → opRead d.o.op e h' = some u)
    (hnew : ∀ c obj, b = some c → φ c = none → n₀ ≤ c → G.get c = some obj → φ' c = none ∧ h'.get c = some obj) (hhi : d.o.op.cls = .read → hiOk m d.idx d.hi k' rest' = true ∧ k' ≤ d.hi) (hsub : ∀ x ∈ rest', x ∈ rest) :
    PendOk m e' h' φ' n₀ k' rest' d v b := by
  obtain ⟨hargs, hw⟩ := oper_congr (e := e') (e' := e) he
  obtain ⟨c1, c2, c3, _⟩ := op_congr (O := fun _ _ _ => .fail) hargs
  refine ⟨h.na, fun t ht => by rw [hdst t ht]; exact h.dst t ht, ?_, hhi, fun x hx => h.fresh x (hsub x hx)⟩
  rw [hw]
  rcases h.val with h1 | ⟨h1, h2 | h2 | ⟨h2, obj, mk, c, h3, h4, h5, h6, h7, h8⟩⟩
  · exact .inl h1
  · exact .inr ⟨h1, .inl ⟨h2.1, by rw [c1]; exact h2.2.1, h2.2.2⟩⟩
  · exact .inr ⟨h1, .inr (.inl ⟨h2.1, by rw [c2]; exact hread v h2.2.1 h2.1 h1 rfl, h2.2.2⟩)⟩
  · obtain ⟨k1, k2⟩ := hnew c obj h5 h7 h8 h6
    exact .inr ⟨h1, .inr (.inr ⟨h2, obj, mk, c, by rw [c3]; exact h3, h4, h5, k2, k1, h8⟩)⟩

/-- The one order goes on till its next acting operation. -/
theorem DInv.advance {m : List Nat} {ds : List DOper} {R : Res Env} (hR : R ≠ .fail) (F : DFix P N ops m ds) : ∀ {rest acc : List DOper} {k : Nat} {V : Nat → IV} {B : Nat → Option Nat} {listed : Array Bool} {φ : Phi} {C : Con} {G : IHeap} {e : Env} {a : Act} {w : World},
    DInv O N ops m ds R φ₀ C₀ h₀ w₀ a₀ e₀ V B acc k rest listed φ C G e a w → ∃ V' B' acc' k' rest' G' e', DInv O N ops m ds R φ₀ C₀ h₀ w₀ a₀ e₀ V' B' acc' k' rest' listed φ C G' e' a w ∧ ∀ x xs, rest' = x :: xs → isAct x = true
  | [], acc, k, V, B, listed, φ, C, G, e, a, w, I => ⟨V, B, acc, k, [], G, e, I, by simp⟩
  | d :: rest, acc, k, V, B, listed, φ, C, G, e, a, w, I => by
    by_cases hact : isAct d = true
    · exact ⟨V, B, acc, k, d :: rest, G, e, I, fun x xs h => by cases h; exact hact⟩
    have hna : isAct d = false := by simpa using hact
    obtain ⟨ps, hrun, hps⟩ := I.run
    obtain ⟨k1, k2, k3, k4, k5, k6, k7⟩ := dcheck_cons I.chk
    rw [hna] at k7
    simp only [Bool.false_eq_true, if_false] at k7
    have hdin : d ∈ ds := (I.split d).2 (.inr (by simp))
    -- one step, with value v, block b, heap G1
    have step : ∀ (v : IV) (b : Option Nat) (G1 : IHeap) (ps1 : List (DOper × IV)), Rel φ C G1 w → Ext φ C G w φ C G1 w → (∀ o u, opRead o e G = some u → opRead o e G1 = some u) → (∀ c obj, G.get c = some obj → G1.get c = some obj) →
        drawI O rest k ps1 (e.puto d.o.dst v) G1 = R → (∀ x, x ∈ ps → x ∈ ps1) → (d.o.op.cls = .read → wantedI d.o.guard e = some true → k < d.hi → (d, v) ∈ ps1) →
        ((wantedI d.o.guard e = some false ∧ v = .undef ∧ b = none) ∨ (wantedI d.o.guard e = some true ∧
          ((d.o.op.cls = .pure ∧ opPure d.o.op e = some v ∧ b = none) ∨ (d.o.op.cls = .read ∧ opRead d.o.op e G1 = some v ∧ b = none) ∨
           (d.o.op.cls = .new ∧ ∃ obj mk c, opNew d.o.op e = some (obj, mk) ∧ v = mk c ∧ b = some c ∧ G1.get c = some obj ∧ φ c = none ∧ h₀.n ≤ c)))) →
        (∀ c, b = some c → G.n ≤ c) →
        ∃ V' B' acc' k' rest' G' e', DInv O N ops m ds R φ₀ C₀ h₀ w₀ a₀ e₀ V' B' acc' k' rest' listed φ C G' e' a w ∧ ∀ x xs, rest' = x :: xs → isAct x = true := by
      intro v b G1 ps1 hrel hext hread hget hrun1 hps1 hd1 hval hb
      have hget' : ∀ t, (d.o.dst ≠ some t) → (e.puto d.o.dst v).get t = e.get t := by
        intro t ht
        cases hdd : d.o.dst with
        | none => rfl
        | some u => simp only [Env.puto, get_put]; rw [if_neg]; rintro rfl; exact ht hdd
      have hown : ∀ t ∈ d.o.temps, d.o.dst ≠ some t := by
        intro t ht hh
        have := k3 d (by simp) t ht
        simp [writes, hh] at this
      have hpend : ∀ x, Pn (d :: acc) listed x → PendOk m (e.puto d.o.dst v) G1 φ h₀.n k rest x (if x.idx = d.idx then v else V x.idx) (if x.idx = d.idx then b else B x.idx) := by
        rintro x ⟨hx, hxl⟩
        rcases List.mem_cons.1 hx with rfl | hx
        · simp only [if_true]
          obtain ⟨hargs, hw⟩ := oper_congr (o := x.o) (e := e.puto x.o.dst v) (e' := e) (fun t ht => hget' t (hown t ht))
          obtain ⟨c1, c2, c3, _⟩ := op_congr (O := fun _ _ _ => .fail) hargs
          refine ⟨hna, fun t ht => by rw [ht]; simp [Env.puto, get_put], ?_, fun hr => k5 hna hr, fun y hy t ht => k3 y (by simp [hy]) t ht⟩
          rw [hw, c1, c2, c3]
          exact hval
        · have hne : x.idx ≠ d.idx := I.apart x hx d (by simp)
          rw [if_neg hne, if_neg hne]
          have hp := I.pend x ⟨hx, hxl⟩
          refine hp.step (fun t ht => hget' t fun hh => ?_) (fun t ht => hget' t fun hh => ?_) (fun u hu _ _ _ => hread _ u hu) (fun c obj _ h1 _ h3 => ⟨h1, hget c obj h3⟩) (fun hr => ?_) (fun y hy => by simp [hy])
          · have := hp.fresh d (by simp) t ht
            simp [writes, hh] at this
          · have := k4 x hx t hh
            simp [writes, ht] at this
          · have := hp.hi hr
            simp only [hiOk, hna, Bool.false_eq_true, if_false] at this
            exact this
      refine DInv.advance hR F (V := fun i => if i = d.idx then v else V i) (B := fun i => if i = d.idx then b else B i) (rest := rest) (acc := d :: acc) (k := k) (G := G1) (e := e.puto d.o.dst v) ?_
      refine ⟨hrel, I.ext.trans hext, hpend, ?_, ?_, I.size, I.defers, ?_, ?_, k7, ?_, ?_, ?_, I.lsize, fun x hx => I.lrest x (by simp [hx]), I.down⟩
      · rintro x y c ⟨hx, hxl⟩ ⟨hy, hyl⟩ h1 h2
        replace h1 : (if x.idx = d.idx then b else B x.idx) = some c := h1
        replace h2 : (if y.idx = d.idx then b else B y.idx) = some c := h2
        by_cases e1 : x.idx = d.idx <;> by_cases e2 : y.idx = d.idx
        · rw [e1, e2]
        · rw [if_pos e1] at h1; rw [if_neg e2] at h2
          have hy' : y ∈ acc := by rcases List.mem_cons.1 hy with rfl | h; exact absurd rfl e2; exact h
          have hp := (I.pend y ⟨hy', hyl⟩).val
          have hge := hb c h1
          rcases hp with ⟨_, _, h⟩ | ⟨_, ⟨_, _, h⟩ | ⟨_, _, h⟩ | ⟨_, obj, mk, c', _, _, h, hg, _⟩⟩
          · rw [h] at h2; cases h2
          · rw [h] at h2; cases h2
          · rw [h] at h2; cases h2
          · rw [h] at h2; cases h2; have := get_lt hg; omega
        · rw [if_neg e1] at h1; rw [if_pos e2] at h2
          have hx' : x ∈ acc := by rcases List.mem_cons.1 hx with rfl | h; exact absurd rfl e1; exact h
          have hp := (I.pend x ⟨hx', hxl⟩).val
          have hge := hb c h2
          rcases hp with ⟨_, _, h⟩ | ⟨_, ⟨_, _, h⟩ | ⟨_, _, h⟩ | ⟨_, obj, mk, c', _, _, h, hg, _⟩⟩
          · rw [h] at h1; cases h1
          · rw [h] at h1; cases h1
          · rw [h] at h1; cases h1
          · rw [h] at h1; cases h1; have := get_lt hg; omega
        · rw [if_neg e1] at h1; rw [if_neg e2] at h2
          have hx' : x ∈ acc := by rcases List.mem_cons.1 hx with rfl | h; exact absurd rfl e1; exact h
          have hy' : y ∈ acc := by rcases List.mem_cons.1 hy with rfl | h; exact absurd rfl e2; exact h
          exact I.blocks x y c ⟨hx', hxl⟩ ⟨hy', hyl⟩ h1 h2
      · intro t u ht hno hu
        have hdw := hno d ⟨by simp, I.lrest d (by simp)⟩
        rw [hget' t (fun hh => by simp [writes, hh] at hdw)] at hu
        exact I.known t u ht (fun x hx => hno x ⟨by simp [hx.1], hx.2⟩) hu
      · intro t hno
        have hdw := hno d hdin
        rw [hget' t (fun hh => by simp [writes, hh] at hdw)]
        exact I.e0 t hno
      · refine ⟨ps1, hrun1, ?_⟩
        rintro x ⟨hx, hxl⟩ hr hw hk
        rcases List.mem_cons.1 hx with rfl | hx
        · simp only [if_true]
          obtain ⟨_, hww⟩ := oper_congr (o := x.o) (e := e.puto x.o.dst v) (e' := e) (fun t ht => hget' t (hown t ht))
          rw [hww] at hw
          exact hd1 hr hw hk
        · have hne : x.idx ≠ d.idx := I.apart x hx d (by simp)
          simp only [hne, if_false]
          have hp := I.pend x ⟨hx, hxl⟩
          obtain ⟨_, hww⟩ := oper_congr (o := x.o) (e := e.puto d.o.dst v) (e' := e) (fun t ht => hget' t fun hh => by
            have := hp.fresh d (by simp) t ht
            simp [writes, hh] at this)
          rw [hww] at hw
          exact hps1 _ (hps x ⟨hx, hxl⟩ hr hw hk)
      · intro x
        rw [I.split x]
        simp only [List.mem_cons]
        constructor
        · rintro (h | h | h)
          · exact .inl (.inr h)
          · exact .inl (.inl h)
          · exact .inr h
        · rintro ((h | h) | h)
          · exact .inr (.inl h)
          · exact .inl h
          · exact .inr (.inr h)
      · intro x hx y hy
        rcases List.mem_cons.1 hx with rfl | hx
        · have := I.rnodup
          simp only [List.map_cons, List.nodup_cons] at this
          intro he
          exact this.1 (by rw [he]; exact List.mem_map.2 ⟨y, hy, rfl⟩)
        · exact I.apart x hx y (by simp [hy])
      · have := I.rnodup
        simp only [List.map_cons, List.nodup_cons] at this
        exact this.2
    unfold drawI at hrun
    split at hrun
    · rename_i hw
      have hcl : d.o.op.cls ≠ .act := by simpa [isAct] using hna
      rw [if_neg hcl] at hrun
      exact step .undef none G ps I.rel (Ext.refl _ _ _ _) (fun _ _ h => h) (fun _ _ h => h) hrun (fun _ h => h) (fun _ h => by rw [hw] at h; cases h) (.inl ⟨hw, rfl, rfl⟩) (by simp)
    · rename_i hw
      split at hrun
      · rename_i hcl
        split at hrun
        · rename_i v hv
          exact step v none G ps I.rel (Ext.refl _ _ _ _) (fun _ _ h => h) (fun _ _ h => h) hrun (fun _ h => h) (fun h => by rw [hcl] at h; cases h) (.inr ⟨hw, .inl ⟨hcl, hv, rfl⟩⟩) (by simp)
        · exact absurd hrun.symm hR
      · rename_i hcl
        split at hrun
        · rename_i v hv
          refine step v none G _ I.rel (Ext.refl _ _ _ _) (fun _ _ h => h) (fun _ _ h => h) hrun (fun x h => ?_) (fun _ _ hk => by rw [if_pos hk]; simp) (.inr ⟨hw, .inr (.inl ⟨hcl, hv, rfl⟩)⟩) (by simp)
          split
          · simp [h]
          · exact h
        · exact absurd hrun.symm hR
      · rename_i hcl
        split at hrun
        · rename_i b mk hv
          exact step (mk G.n) (some G.n) (G.push b) ps (I.rel.pushNone b) (Ext.pushNone I.rel b) (fun _ _ h => read_push h) (fun c obj hc => by rw [get_push_old (get_lt hc)]; exact hc) hrun (fun _ h => h) (fun h => by rw [hcl] at h; cases h)
            (.inr ⟨hw, .inr (.inr ⟨hcl, b, mk, G.n, hv, rfl, rfl, get_push_new, I.rel.fresh, I.ext.n⟩)⟩) (by rintro c h; cases h; exact Nat.le_refl _)
        · exact absurd hrun.symm hR
      · rename_i hcl
        simp [isAct, hcl] at hna
    · exact absurd hrun.symm hR
end
end Go.Proofs.YtadeojgiiapljaaGreat.Im
namespace Go.Proofs.YtadeojgiiapljaaGreat.Im
open Go
section
variable {P : Program} {φ φ' φ₀ : Phi} {C C' C₀ : Con} {h h' h₀ G : IHeap} {e e' e₀ : Env} {a a₀ : Act} {w w' w₀ : World} {O : Orc} {N : Nat} {ops : Array Oper} {m : List Nat} {ds : List DOper} {R : Res Env} {Q : Exit → Act → World → Prop}
  {V : Nat → IV} {B : Nat → Option Nat} {acc rest : List DOper} {k : Nat} {listed : Array Bool}

/-- What is asked of the ending of a region. -/
def PostR (φ : Phi) (C : Con) (h : IHeap) (w : World) (N : Nat) (a₀ : Act) (e₀ : Env) (ds : List DOper) (Q : Exit → Act → World → Prop) : Res Env → Prop
  | .ok e' h' => ∀ φ' C' a' w', Ext φ C h w φ' C' h' w' → Rel φ' C' h' w' → EnvRel φ' C' e' a' → a'.tmps.size = N → a'.defers = a₀.defers → (∀ t, (∀ d ∈ ds, writes d t = false) → e'.get t = e₀.get t) → Q .normal a' w'
  | .panic v h' => ∀ φ' C' a' w' y, Ext φ C h w φ' C' h' w' → Rel φ' C' h' w' → EnvRel φ' C' (e₀.less ds) a' → a'.tmps.size = N → a'.defers = a₀.defers → VRel φ' C' v y → Q (.panic [{ v := y, recovered := false }]) a' w'
  | .fail => False

/-- The frame as far as it is known: without what is pending. -/
def kenv (acc : List DOper) (listed : Array Bool) (e : Env) : Env := e.filter fun p => !(acc.any fun d => !listed.getD d.idx true && writes d p.1)
theorem get_kenv (t : Nat) : (kenv acc listed e).get t = if acc.any (fun d => !listed.getD d.idx true && writes d t) then none else e.get t := by
  unfold kenv
  rw [get_filter (fun u => !(acc.any fun d => !listed.getD d.idx true && writes d u)) t e]
  cases acc.any (fun d => !listed.getD d.idx true && writes d t) <;> simp
theorem DInv.env (I : DInv O N ops m ds R φ₀ C₀ h₀ w₀ a₀ e₀ V B acc k rest listed φ C G e a w) : EnvRel φ C (kenv acc listed e) a := by
  intro t v ht hv
  rw [get_kenv] at hv
  split at hv
  · cases hv
  rename_i hno
  refine I.known t v ht (fun d hd => ?_) hv
  cases hw : writes d t
  · rfl
  · exact absurd (List.any_eq_true.2 ⟨d, hd.1, by simp only [hd.2, hw]; rfl⟩) hno

/-- What an operation that stands ready reads is known. -/
theorem DInv.temps (I : DInv O N ops m ds R φ₀ C₀ h₀ w₀ a₀ e₀ V B acc k rest listed φ C G e a w) (F : DFix P N ops m ds) {d : DOper} (hd : d ∈ ds)
    (hr : ∀ o, ops[d.idx]? = some o → ∀ e ∈ o.after, Region.binds .any e = true → listed.getD e.on false = true) : ∀ t ∈ d.o.temps, (kenv acc listed e).get t = e.get t := by
  intro t ht
  rw [get_kenv]
  split
  · rename_i hany
    obtain ⟨x, hx, hb⟩ := List.any_eq_true.1 hany
    simp only [Bool.and_eq_true, Bool.not_eq_true'] at hb
    have hbit := F.reads d hd x ((I.split x).2 (.inl hx)) t ht hb.2
    have := anc_listed I.down (F.anc _ _ hbit) hr
    exfalso
    have hlt : x.idx < listed.size := by rw [I.lsize]; exact F.lt x ((I.split x).2 (.inl hx))
    simp [Array.getD, hlt] at this hb
    rw [this] at hb
    simp at hb
  · rfl

theorem listed_dir {j : Nat} (hj : j < listed.size) (h : listed.getD j false = true) : listed.getD j true = true := by simpa [Array.getD, hj] using h

/-- Listing one more. -/
theorem down_set {i : Nat} {o : Oper} (hdown : ∀ i o, ops[i]? = some o → listed.getD i true = true → ∀ e ∈ o.after, Region.binds .any e = true → listed.getD e.on false = true) (ho : ops[i]? = some o)
    (hr : ∀ e ∈ o.after, Region.binds .any e = true → listed.getD e.on false = true) : ∀ j o', ops[j]? = some o' → (listed.setIfInBounds i true).getD j true = true → ∀ e ∈ o'.after, Region.binds .any e = true → (listed.setIfInBounds i true).getD e.on false = true := by
  intro j o' ho' hj e he hb
  by_cases hji : i = j
  · subst hji
    rw [ho] at ho'; cases ho'
    exact getD_set_true (hr e he hb)
  · rw [getD_set_ne true hji] at hj
    exact getD_set_true (hdown j o' ho' hj e he hb)

theorem wanted_eq {d : DOper} {o : Oper} (hc : coper P N ops o = some d.o) (hr : ∀ t ∈ d.o.temps, e'.get t = e.get t) (he : EnvRel φ C e' a) {b : Bool} (hw : wantedI d.o.guard e = some b) : Region.wanted o (yielded ops a.tmps) = b := by
  obtain ⟨_, h2⟩ := oper_congr (o := d.o) hr
  exact wanted_of hc he (by rw [h2]; exact hw)

theorem Rel.adopt (r : Rel φ C G w) {b : Nat} {io : IObj} (hg : G.get b = some io) (hn : φ b = none) (o : Obj) (lim : Nat)
    (hrow : ∀ cells, io = .row cells → ∃ cs E, o = .cells cs E (0, 0) ∧ lim ≤ cs.size ∧ cells.length ≤ lim ∧ ∀ (i : Nat) (v : IV), cells[i]? = some v → ∃ x, cs[i]? = some x ∧ VRel φ C v x)
    (hmp : ∀ es clock, io = .map es clock → ∃ es', o = .map es' clock ∧ ERels φ C es es') : Rel (φ.put b ⟨w.heap.size, 0, lim⟩) C G (w.alloc o) := by
  have hmono : ∀ x p, φ x = some p → φ.put b ⟨w.heap.size, 0, lim⟩ x = some p := fun x p hx => by
    rw [Phi.put_ne]; exact hx; rintro rfl; rw [hn] at hx; cases hx
  have hcase : ∀ x p, φ.put b ⟨w.heap.size, 0, lim⟩ x = some p → (x = b ∧ p = ⟨w.heap.size, 0, lim⟩) ∨ φ x = some p := fun x p hx => by
    by_cases e : x = b
    · subst e; rw [Phi.put_same] at hx; cases hx; exact .inl ⟨rfl, rfl⟩
    · rw [Phi.put_ne e] at hx; exact .inr hx
  have hvr : ∀ {v : IV} {x : Value}, VRel φ C v x → VRel (φ.put b ⟨w.heap.size, 0, lim⟩) C v x := fun hv => hv.mono hmono (fun _ _ x => x)
  refine ⟨?_, ?_, ?_, ?_, ?_, ?_⟩
  · intro x p hx
    rcases hcase x p hx with ⟨rfl, rfl⟩ | hx
    · exact ⟨get_lt hg, by simp⟩
    · have := r.dom x p hx; exact ⟨this.1, by simp; omega⟩
  · intro x p hx hl
    rcases hcase x p hx with ⟨rfl, rfl⟩ | hx
    · cases hC : C w.heap.size with
      | none => rfl
      | some cs => obtain ⟨E, fz, hw⟩ := r.con _ _ hC; simp at hw
    · exact r.live x p hx hl
  · intro x y p q hx hy he lx ly
    rcases hcase x p hx with ⟨e1, rfl⟩ | hx1 <;> rcases hcase y q hy with ⟨e2, rfl⟩ | hy1
    · rw [e1, e2]
    · have := (r.dom y q hy1).2; simp at he; omega
    · have := (r.dom x p hx1).2; simp at he; omega
    · exact r.inj x y p q hx1 hy1 he lx ly
  · intro x p cells hx hgx
    rcases hcase x p hx with ⟨rfl, rfl⟩ | hx
    · rw [hg] at hgx; cases hgx
      obtain ⟨cs, E, rfl, hlim, hcl, hc⟩ := hrow cells rfl
      refine ⟨cs, E, heap_push_new _ _, by simpa using hlim, hcl, fun i v hi => ?_⟩
      obtain ⟨y, hy, hr⟩ := hc i v hi
      exact ⟨y, by simpa using hy, hvr hr⟩
    · obtain ⟨cs, E, hw, hlim, hcl, hc⟩ := r.row x p cells hx hgx
      refine ⟨cs, E, by rw [heap_push_old w o (r.dom x p hx).2]; exact hw, hlim, hcl, fun i v hi => ?_⟩
      obtain ⟨y, hy, hr⟩ := hc i v hi
      exact ⟨y, hy, hvr hr⟩
  · intro x p es clock hx hgx
    rcases hcase x p hx with ⟨rfl, rfl⟩ | hx
    · rw [hg] at hgx; cases hgx
      obtain ⟨es', rfl, hes⟩ := hmp es clock rfl
      exact ⟨es', heap_push_new _ _, hes.1, fun i x y hx hy => ⟨hvr (hes.2 i x y hx hy).key, hvr (hes.2 i x y hx hy).val, (hes.2 i x y hx hy).born⟩⟩
    · obtain ⟨es', hw, hes⟩ := r.mp x p es clock hx hgx
      exact ⟨es', by rw [heap_push_old w o (r.dom x p hx).2]; exact hw, hes.1, fun i x y hx hy => ⟨hvr (hes.2 i x y hx hy).key, hvr (hes.2 i x y hx hy).val, (hes.2 i x y hx hy).born⟩⟩
  · intro blk cs hC
    obtain ⟨E, fz, hw⟩ := r.con blk cs hC
    exact ⟨E, fz, by rw [heap_push_old w o (Array.getElem?_eq_some_iff.1 hw).1]; exact hw⟩
theorem Ext.adopt (x : Ext φ₀ C₀ h₀ w₀ φ C G w) (r : Rel φ C G w) {b : Nat} (hb : h₀.n ≤ b) (hn : φ b = none) (o : Obj) (lim : Nat) : Ext φ₀ C₀ h₀ w₀ (φ.put b ⟨w.heap.size, 0, lim⟩) C G (w.alloc o) where
  phi := fun y p hy => by
    rw [Phi.put_ne]; exact x.phi y p hy
    rintro rfl; have := x.phi y p hy; rw [hn] at this; cases this
  con := x.con
  os := x.os
  tape := x.tape
  output := x.output
  size := by have := x.size; simp; omega
  keep := fun k hk hno => by rw [heap_push_old w o (Nat.lt_of_lt_of_le hk x.size)]; exact x.keep k hk hno
  own := fun y p hy hl hlt => by
    by_cases e : y = b
    · subst e; rw [Phi.put_same] at hy; cases hy
      have := x.size; simp at hlt; omega
    · rw [Phi.put_ne e] at hy; exact x.own y p hy hl hlt
  n := x.n
  out := fun y hy hyn => by
    have := x.out y hy hyn
    exact ⟨by rw [Phi.put_ne (by omega)]; exact this.1, this.2⟩

/-- A pending operation is done: its value is what it was in the one order. -/
theorem DInv.take (I : DInv O N ops m ds R φ₀ C₀ h₀ w₀ a₀ e₀ V B acc k rest listed φ C G e a w) (F : DFix P N ops m ds) {d : DOper} (hp : Pn acc listed d) {x : Value} {φ' : Phi} {w' : World} (hr : Rel φ' C G w') (hx : Ext φ₀ C₀ h₀ w₀ φ' C G w')
    (hmono : ∀ b p, φ b = some p → φ' b = some p) (hother : ∀ c, φ c = none → B d.idx ≠ some c → φ' c = none) (hv : VRel φ' C (V d.idx) x) {o : Oper} (ho : ops[d.idx]? = some o) (hc : coper P N ops o = some d.o)
    (hrd : ∀ e ∈ o.after, Region.binds .any e = true → listed.getD e.on false = true) :
    DInv O N ops m ds R φ₀ C₀ h₀ w₀ a₀ e₀ V B acc k rest (listed.setIfInBounds d.idx true) φ' C G e (a.put o.dst x) w' := by
  obtain ⟨hd1, hd2⟩ := coper_dst hc
  have hdds : d ∈ ds := (I.split d).2 (.inl hp.1)
  have hsub : ∀ y, Pn acc (listed.setIfInBounds d.idx true) y → Pn acc listed y ∧ y.idx ≠ d.idx := by
    rintro y ⟨hy, hyl⟩
    by_cases hyd : y.idx = d.idx
    · rw [hyd] at hyl
      have hlt : d.idx < listed.size := by rw [I.lsize]; exact F.lt d hdds
      simp [Array.getD, hlt] at hyl
    · rw [getD_set_ne true (fun h => hyd h.symm)] at hyl
      exact ⟨⟨hy, hyl⟩, hyd⟩
  have hvr : ∀ {v : IV} {x : Value}, VRel φ C v x → VRel φ' C v x := fun h => h.mono hmono (fun _ _ x => x)
  refine ⟨hr, hx, ?_, ?_, ?_, ?_, ?_, I.e0, ?_, I.chk, I.split, I.apart, I.rnodup, by simp [I.lsize], ?_, down_set I.down ho hrd⟩
  · intro y hy
    obtain ⟨hy1, hyd⟩ := hsub y hy
    refine (I.pend y hy1).step (fun _ _ => rfl) (fun _ _ => rfl) (fun u hu _ _ _ => hu) (fun c obj hyb h1 h2 h3 => ?_) (I.pend y hy1).hi (fun _ h => h)
    exact ⟨hother c h1 fun hb => hyd (I.blocks y d c hy1 hp hyb hb), h3⟩
  · exact fun y z c hy hz => I.blocks y z c (hsub y hy).1 (hsub z hz).1
  · intro t v ht hno hv'
    by_cases htd : d.o.dst = some t
    · have hdst := (I.pend d hp).dst t htd
      rw [hdst] at hv'
      cases hv'
      rw [← hd1, htd]
      exact ⟨x, by simp [Act.put, I.size, (hd2 t htd).1], hv⟩
    · obtain ⟨y, hy, hyr⟩ := I.known t v ht (fun z hz => by
        by_cases hzd : z.idx = d.idx
        · have : z = d := F.uniq z ((I.split z).2 (.inl hz.1)) d hdds hzd
          subst this
          simpa [writes] using htd
        · exact hno z ⟨hz.1, by rw [getD_set_ne true (fun h => hzd h.symm)]; exact hz.2⟩) hv'
      refine ⟨y, ?_, hvr hyr⟩
      rw [← hd1]
      cases hdd : d.o.dst with
      | none => exact hy
      | some u =>
        simp only [Act.put]
        rw [Array.getElem?_setIfInBounds, if_neg]
        · exact hy
        · rintro rfl; exact htd hdd
  · rw [← I.size]; cases o.dst <;> simp [Act.put]
  · rw [← I.defers]; cases o.dst <;> rfl
  · obtain ⟨ps, h1, h2⟩ := I.run
    exact ⟨ps, h1, fun y hy => h2 y (hsub y hy).1⟩
  · intro y hy
    have hne := I.apart d hp.1 y hy
    rw [getD_set_ne true hne]
    exact I.lrest y hy

/-- An acting operation is done, in both. -/
theorem DInv.act {d : DOper} (I : DInv O N ops m ds R φ₀ C₀ h₀ w₀ a₀ e₀ V B acc k (d :: rest) listed φ C G e a w) (F : DFix P N ops m ds) (hact : isAct d = true) {x : Value} {v : IV} {φ' : Phi} {C' : Con} {G' : IHeap} {w' : World} {ps : List (DOper × IV)}
    (hr : Rel φ' C' G' w') (hx : Ext φ C G w φ' C' G' w') (hv : VRel φ' C' v x) {o : Oper} (ho : ops[d.idx]? = some o) (hc : coper P N ops o = some d.o)
    (hrd : ∀ e ∈ o.after, Region.binds .any e = true → listed.getD e.on false = true) (hrun : drawI O rest (k + 1) ps (e.puto d.o.dst v) G' = R)
    (hps : ∀ y, Pn acc listed y → y.o.op.cls = .read → wantedI y.o.guard e = some true → k < y.hi → (y, V y.idx) ∈ ps ∧ opRead y.o.op e G' = some (V y.idx)) :
    DInv O N ops m ds R φ₀ C₀ h₀ w₀ a₀ e₀ V B (d :: acc) (k + 1) rest (listed.setIfInBounds d.idx true) φ' C' G' (e.puto d.o.dst v) (a.put o.dst x) w' := by
  obtain ⟨hd1, hd2⟩ := coper_dst hc
  have hdin : d ∈ ds := (I.split d).2 (.inr (by simp))
  obtain ⟨k1, k2, k3, k4, k5, k6, k7⟩ := dcheck_cons I.chk
  rw [hact] at k7
  simp only [if_true] at k7
  have hsub : ∀ y, Pn (d :: acc) (listed.setIfInBounds d.idx true) y → Pn acc listed y ∧ y.idx ≠ d.idx := by
    rintro y ⟨hy, hyl⟩
    by_cases hyd : y.idx = d.idx
    · rw [hyd] at hyl
      have hlt : d.idx < listed.size := by rw [I.lsize]; exact F.lt d hdin
      simp [Array.getD, hlt] at hyl
    · rw [getD_set_ne true (fun h => hyd h.symm)] at hyl
      rcases List.mem_cons.1 hy with rfl | hy
      · exact absurd rfl hyd
      · exact ⟨⟨hy, hyl⟩, hyd⟩
  have hget' : ∀ t, (d.o.dst ≠ some t) → (e.puto d.o.dst v).get t = e.get t := by
    intro t ht
    cases hdd : d.o.dst with
    | none => rfl
    | some u => simp only [Env.puto, get_put]; rw [if_neg]; rintro rfl; exact ht hdd
  -- who may come behind is told by hiOk
  have hlater : ∀ y, Pn acc listed y → y.o.op.cls = .read → k ≠ y.hi := by
    intro y hy hyr hke
    have := (I.pend y hy).hi hyr
    simp only [hiOk, hact, if_true, hke] at this
    have hl := anc_listed I.down (F.anc _ _ this.1) (fun o' ho' => by rw [ho] at ho'; cases ho'; exact hrd)
    have hlt : y.idx < listed.size := by rw [I.lsize]; exact F.lt y ((I.split y).2 (.inl hy.1))
    have := listed_dir hlt hl
    rw [hy.2] at this; cases this
  have hcong : ∀ y, Pn acc listed y → ∀ t ∈ y.o.temps, (e.puto d.o.dst v).get t = e.get t := by
    intro y hy t ht
    refine hget' t fun hh => ?_
    have := (I.pend y hy).fresh d (by simp) t ht
    simp [writes, hh] at this
  refine ⟨hr, I.ext.trans hx, ?_, ?_, ?_, ?_, ?_, ?_, ?_, k7, ?_, ?_, ?_, by simp [I.lsize], ?_, down_set I.down ho hrd⟩
  · intro y hy
    obtain ⟨hy1, hyd⟩ := hsub y hy
    have hp := I.pend y hy1
    refine hp.step (hcong y hy1) (fun t ht => hget' t fun hh => ?_) (fun u hu hyr hyw hvu => ?_) (fun c obj _ h1 _ h3 => ?_) (fun hyr => ?_) (fun z hz => by simp [hz])
    · have := k4 y hy1.1 t hh
      simp [writes, ht] at this
    · have hk : k < y.hi := by have := (hp.hi hyr).2; have := hlater y hy1 hyr; omega
      rw [← hvu]; exact (hps y hy1 hyr hyw hk).2
    · have := hx.out c (get_lt h3) h1
      exact ⟨this.1, by rw [this.2]; exact h3⟩
    · have h1 := hp.hi hyr
      have h2 := hlater y hy1 hyr
      simp only [hiOk, hact, if_true, if_neg h2] at h1
      exact ⟨h1.1, by have := h1.2; omega⟩
  · exact fun y z c hy hz => I.blocks y z c (hsub y hy).1 (hsub z hz).1
  · intro t u ht hno hu
    by_cases htd : d.o.dst = some t
    · rw [htd] at hu
      simp only [Env.puto, get_put, if_true] at hu
      cases hu
      rw [← hd1, htd]
      exact ⟨x, by simp [Act.put, I.size, (hd2 t htd).1], hv⟩
    · rw [hget' t htd] at hu
      obtain ⟨y, hy, hyr⟩ := I.known t u ht (fun z hz => hno z ⟨by simp [hz.1], by
        rw [getD_set_ne true (fun h => I.apart z hz.1 d (by simp) h.symm)]; exact hz.2⟩) hu
      refine ⟨y, ?_, hx.vrel hyr⟩
      rw [← hd1]
      cases hdd : d.o.dst with
      | none => exact hy
      | some u =>
        simp only [Act.put]
        rw [Array.getElem?_setIfInBounds, if_neg]
        · exact hy
        · rintro rfl; exact htd hdd
  · rw [← I.size]; cases o.dst <;> simp [Act.put]
  · rw [← I.defers]; cases o.dst <;> rfl
  · intro t hno
    have hdw := hno d hdin
    rw [hget' t (fun hh => by simp [writes, hh] at hdw)]
    exact I.e0 t hno
  · refine ⟨ps, hrun, fun y hy hyr hyw hk => ?_⟩
    obtain ⟨hy1, hyd⟩ := hsub y hy
    obtain ⟨_, hww⟩ := oper_congr (o := y.o) (hcong y hy1)
    rw [hww] at hyw
    exact (hps y hy1 hyr hyw (by omega)).1
  · intro y
    rw [I.split y]
    simp only [List.mem_cons]
    constructor
    · rintro (h | h | h)
      · exact .inl (.inr h)
      · exact .inl (.inl h)
      · exact .inr h
    · rintro ((h | h) | h)
      · exact .inr (.inl h)
      · exact .inl h
      · exact .inr (.inr h)
  · have hnd := I.rnodup
    simp only [List.map_cons, List.nodup_cons] at hnd
    intro y hy z hz
    rcases List.mem_cons.1 hy with rfl | hy
    · intro he
      exact hnd.1 (by rw [he]; exact List.mem_map.2 ⟨z, hz, rfl⟩)
    · exact I.apart y hy z (by simp [hz])
  · have := I.rnodup
    simp only [List.map_cons, List.nodup_cons] at this
    exact this.2
  · have hnd := I.rnodup
    simp only [List.map_cons, List.nodup_cons] at hnd
    intro y hy
    have hne : d.idx ≠ y.idx := fun he => hnd.1 (by rw [he]; exact List.mem_map.2 ⟨y, hy, rfl⟩)
    rw [getD_set_ne true hne]
    exact I.lrest y (by simp [hy])

theorem still_mem {e : Env} {h : IHeap} {k : Nat} {d : DOper} {v : IV} : ∀ {ps : List (DOper × IV)}, stillI e h k ps = true → (d, v) ∈ ps → ¬ d.hi < k → opRead d.o.op e h = some v
  | [], _, hm, _ => by cases hm
  | (d', v') :: ps, hs, hm, hk => by
    simp only [stillI, Bool.and_eq_true] at hs
    rcases List.mem_cons.1 hm with h | h
    · cases h
      have h1 := hs.1
      rw [Bool.or_eq_true] at h1
      rcases h1 with h1 | h1
      · exact absurd (by simpa using h1) hk
      · split at h1
        · rename_i u hu
          rw [← beq_eq h1]; exact hu
        · cases h1
    · exact still_mem hs.2 h hk

theorem draw_any (hO : ∀ f, Sim P f (O f)) (hR : R ≠ .fail) (F : DFix P N ops m ds) (hQ : PostR φ₀ C₀ h₀ w₀ N a₀ e₀ ds Q R) : ∀ (fuel : Nat) {V : Nat → IV} {B : Nat → Option Nat} {acc : List DOper} {k : Nat} {rest : List DOper} {listed : Array Bool} {φ : Phi} {C : Con} {G : IHeap} {e : Env} {a : Act} {w : World},
    unl listed ops.size ≤ fuel → DInv O N ops m ds R φ₀ C₀ h₀ w₀ a₀ e₀ V B acc k rest listed φ C G e a w → (∀ x xs, rest = x :: xs → isAct x = true) → wpAny P .any ops Q fuel listed a w := by
  intro fuel
  -- the end: all is listed
  have fin : ∀ {V : Nat → IV} {B : Nat → Option Nat} {acc : List DOper} {k : Nat} {rest : List DOper} {listed : Array Bool} {φ : Phi} {C : Con} {G : IHeap} {e : Env} {a : Act} {w : World}, unl listed ops.size = 0 →
      DInv O N ops m ds R φ₀ C₀ h₀ w₀ a₀ e₀ V B acc k rest listed φ C G e a w → Q .normal a w := by
    intro V B acc k rest listed φ C G e a w hu I
    have hall := unl_zero hu
    have hrest : rest = [] := by
      cases rest with
      | nil => rfl
      | cons d ds' =>
        have h1 := I.lrest d (by simp)
        rw [hall d.idx (F.lt d ((I.split d).2 (.inr (by simp))))] at h1
        cases h1
    subst hrest
    obtain ⟨ps, hrun, _⟩ := I.run
    unfold drawI at hrun
    rw [← hrun] at hQ
    refine hQ φ C a w I.ext I.rel ?_ I.size I.defers I.e0
    intro t v ht hv
    refine I.known t v ht (fun d hd => ?_) hv
    have := hall d.idx (F.lt d ((I.split d).2 (.inl hd.1)))
    rw [hd.2] at this; cases this
  -- something can be done
  have some_ready : ∀ {listed : Array Bool}, unl listed ops.size ≠ 0 → Region.ready .any ops listed ≠ [] := by
    intro listed hu hre
    have : ∃ i, i < ops.size ∧ listed.getD i true = false := by
      refine Classical.byContradiction fun hno => hu ?_
      have hall : ∀ i, i < ops.size → listed.getD i true = true := fun i hi => by
        cases hb : listed.getD i true
        · exact absurd ⟨i, hi, hb⟩ hno
        · rfl
      have : ∀ n, n ≤ ops.size → unl listed n = 0 := by
        intro n
        induction n with
        | zero => intro _; rfl
        | succ n ih =>
          intro hn
          simp only [unl, ih (by omega), hall n (by omega)]
          rfl
      exact this _ (Nat.le_refl _)
    obtain ⟨i, hi, hl⟩ := this
    have key : ∀ n, ∀ i, i ≤ n → i < ops.size → listed.getD i true = false → False := by
      intro n
      induction n with
      | zero =>
        intro i hin hi hl
        have hi0 : i = 0 := by omega
        have hm : i ∈ Region.ready .any ops listed := mem_ready.2 ⟨hl, ops[i], by simp [hi], fun e he hb => by
          have := F.before i ops[i] (by simp [hi]) e he hb
          omega⟩
        rw [hre] at hm; cases hm
      | succ n ih =>
        intro i hin hi hl
        have hm : i ∈ Region.ready .any ops listed := mem_ready.2 ⟨hl, ops[i], by simp [hi], fun e he hb => by
          have hlt := F.before i ops[i] (by simp [hi]) e he hb
          cases hle : listed.getD e.on true
          · exact (ih e.on (by omega) (by omega) hle).elim
          · rcases Nat.lt_or_ge e.on listed.size with hs | hs
            · simpa [Array.getD, hs] using hle
            · exfalso
              have : i < listed.size := by
                rcases Nat.lt_or_ge i listed.size with h | h
                · exact h
                · simp [Array.getD, Nat.not_lt.2 h] at hl
              omega⟩
        rw [hre] at hm; cases hm
    exact key i i (Nat.le_refl _) hi hl
  induction fuel with
  | zero =>
    intro V B acc k rest listed φ C G e a w hu I _
    have hu0 : unl listed ops.size = 0 := by omega
    refine ⟨?_, fin hu0 I⟩
    cases hr : Region.ready .any ops listed with
    | nil => rfl
    | cons i l =>
      exfalso
      have hm : i ∈ Region.ready .any ops listed := by rw [hr]; simp
      obtain ⟨hl, o, ho, _⟩ := mem_ready.1 hm
      have := unl_zero hu0 i (Array.getElem?_eq_some_iff.1 ho).1
      rw [hl] at this; cases this
  | succ fuel ih =>
    intro V B acc k rest listed φ C G e a w hu I hhead
    refine ⟨fun hre => ?_, fun i hi => ?_⟩
    · by_cases hu0 : unl listed ops.size = 0
      · exact fin hu0 I
      · exact absurd hre (some_ready hu0)
    obtain ⟨hl, o, ho, hrd⟩ := mem_ready.1 hi
    have hilt : i < ops.size := (Array.getElem?_eq_some_iff.1 ho).1
    have hu' : unl (listed.setIfInBounds i true) ops.size ≤ fuel := by
      have := unl_set hl ops.size
      rw [if_pos hilt] at this
      omega
    obtain ⟨d, hd, rfl⟩ := F.all i hilt
    obtain ⟨o', ho', hc⟩ := F.op d hd
    rw [ho] at ho'; cases ho'
    have htemps := I.temps F hd (fun o' ho' => by rw [ho] at ho'; cases ho'; exact hrd)
    have henv := I.env
    obtain ⟨hargs, hwcong⟩ := oper_congr htemps
    obtain ⟨hd1, hd2⟩ := coper_dst hc
    have hcop : cop P o.op = some d.o.op := by
      rcases coper_op hc with h | ⟨_, _, fi, _, _, _, _, h⟩
      · exact h.1
      · exact absurd h (F.nodefer d hd fi)
    unfold wpOp
    rw [ho]
    simp only
    rcases (I.split d).1 hd with hacc | hrest
    · -- it is pending
      have hp : Pn acc listed d := ⟨hacc, hl⟩
      obtain ⟨c1, c2, c3, c4⟩ := op_congr (O := O) hargs
      have hpd := I.pend d hp
      rcases hpd.val with ⟨hw, hv, _⟩ | ⟨hw, hcase⟩
      · have hwant := wanted_of hc henv (by rw [hwcong]; exact hw)
        rw [if_neg (by simp [hwant])]
        refine ih hu' (I.take F hp I.rel I.ext (fun _ _ h => h) (fun _ h _ => h) (by rw [hv]; exact .undef) ho hc hrd) hhead
      · have hwant := wanted_of hc henv (by rw [hwcong]; exact hw)
        rw [if_pos hwant]
        left
        rcases hcase with ⟨hcl, hv, _⟩ | ⟨hcl, hv, _⟩ | ⟨hcl, obj, mk, b, hv, hvb, hB, hg, hn, hn0⟩
        · obtain ⟨x, hx, hxr⟩ := sound_pure (P := P) henv hcop hcl (by rw [c1]; exact hv) w
          unfold Oper.wp
          rw [hx]
          exact ih hu' (I.take F hp I.rel I.ext (fun _ _ h => h) (fun _ h _ => h) hxr ho hc hrd) hhead
        · obtain ⟨x, hx, hxr⟩ := sound_read I.rel henv hcop hcl (by rw [c2]; exact hv)
          unfold Oper.wp
          rw [hx]
          exact ih hu' (I.take F hp I.rel I.ext (fun _ _ h => h) (fun _ h _ => h) hxr ho hc hrd) hhead
        · obtain ⟨ob, lim, mk', hrun, h1, h2, _, h3⟩ := sound_new (P := P) henv hcop hcl (by rw [c3]; exact hv)
          unfold Oper.wp
          rw [hrun w]
          refine ih hu' (I.take F hp (I.rel.adopt hg hn ob lim h1 h2) (I.ext.adopt I.rel hn0 hn ob lim) (fun y p hy => ?_) (fun c hc hne => ?_) ?_ ho hc hrd) hhead
          · rw [Phi.put_ne]; exact hy
            rintro rfl; rw [hn] at hy; cases hy
          · rw [Phi.put_ne]; exact hc
            rintro rfl; exact hne hB
          · rw [hvb]; exact h3 _ C b w.heap.size (Phi.put_same _ _ _)
    · -- it is the next acting one
      obtain ⟨x, xs, rfl⟩ : ∃ x xs, rest = x :: xs := by
        cases rest with
        | nil => cases hrest
        | cons x xs => exact ⟨x, xs, rfl⟩
      have hact := hhead x xs rfl
      have hxd : d = x := by
        rcases List.mem_cons.1 hrest with h | h
        · exact h
        exfalso
        obtain ⟨_, _, _, _, _, _, k7⟩ := dcheck_cons I.chk
        have hb := dcheck_act k7 x (by simp) hact d h
        have hl2 := anc_listed I.down (F.anc _ _ hb) (fun o' ho' => by rw [ho] at ho'; cases ho'; exact hrd)
        have hxin : x ∈ ds := (I.split x).2 (.inr (by simp))
        have := listed_dir (by rw [I.lsize]; exact F.lt x hxin) hl2
        rw [I.lrest x (by simp)] at this; cases this
      subst hxd
      obtain ⟨ps, hrun, hps⟩ := I.run
      have hcl : d.o.op.cls = .act := by simpa [isAct] using hact
      obtain ⟨_, _, _, c4⟩ := op_congr (O := O) hargs
      unfold drawI at hrun
      split at hrun
      · rename_i hw
        have hwant := wanted_of hc henv (by rw [hwcong]; exact hw)
        rw [if_neg (by simp [hwant])]
        rw [if_pos hcl] at hrun
        have I1 := I.act F hact I.rel (Ext.refl _ _ _ _) (.undef) ho hc hrd hrun (fun y hy hyr hyw hk => ⟨hps y hy hyr hyw hk, by
          rcases (I.pend y hy).val with ⟨h, _⟩ | ⟨_, ⟨h, _⟩ | ⟨_, h, _⟩ | ⟨h, _⟩⟩
          · rw [hyw] at h; cases h
          · rw [hyr] at h; cases h
          · exact h
          · rw [hyr] at h; cases h⟩)
        obtain ⟨V', B', acc', k', rest', G', e', I2, hh⟩ := I1.advance hR F
        exact ih hu' I2 hh
      · rename_i hw
        have hwant := wanted_of hc henv (by rw [hwcong]; exact hw)
        rw [if_pos hwant]
        left
        rw [hcl] at hrun
        simp only at hrun
        have hup := sound_act (w := w) (a := a) I.rel hO henv hcop hcl
        rw [c4] at hup
        cases hres : opAct O d.o.op e G with
        | ok v h' =>
          rw [hres] at hup hrun
          simp only at hrun
          split at hrun
          case isFalse => exact absurd hrun.symm hR
          rename_i hst
          refine hup _ _ fun y w' φ' C' hy hext hrel => ?_
          have I1 := I.act F hact hrel hext hy ho hc hrd hrun (fun y hy hyr hyw hk => ⟨hps y hy hyr hyw hk, still_mem hst (hps y hy hyr hyw hk) (by omega)⟩)
          obtain ⟨V', B', acc', k', rest', G', e', I2, hh⟩ := I1.advance hR F
          exact ih hu' I2 hh
        | panic v h' =>
          rw [hres] at hup hrun
          simp only at hrun
          refine hup _ _ fun y w' φ' C' hy hext hrel => ?_
          rw [← hrun] at hQ
          refine hQ φ' C' a w' y (I.ext.trans hext) hrel ?_ I.size I.defers hy
          intro t u ht hu
          rw [get_less] at hu
          split at hu
          · cases hu
          rename_i hno
          have hnow : ∀ z ∈ ds, writes z t = false := fun z hz => by
            cases hwz : writes z t
            · rfl
            · exact absurd (List.any_eq_true.2 ⟨z, hz, hwz⟩) hno
          rw [← I.e0 t hnow] at hu
          obtain ⟨z, hz, hzr⟩ := I.known t u ht (fun z hz => hnow z ((I.split z).2 (.inl hz.1))) hu
          exact ⟨z, hz, hext.vrel hzr⟩
        | fail => rw [hres] at hrun; exact absurd hrun.symm hR
      · exact absurd hrun.symm hR

theorem draw_fix (hok : drawOk P N ops ds = true) (hop : ∀ d ∈ ds, ∃ o, ops[d.idx]? = some o ∧ coper P N ops o = some d.o) : DFix P N ops (masks ops.toList []) ds := by
  unfold drawOk at hok
  simp only [Bool.and_eq_true] at hok
  obtain ⟨⟨⟨⟨h1, h2⟩, h3⟩, h4⟩, h5⟩ := hok
  have hnd := nodupB_ok h2
  refine ⟨fun i j hb => masks_anc (ops := ops) ops.toList [] [] rfl rfl (fun i j h => by simp at h) i j hb, fun d hd x hx t ht hw => dcheck_reads h1 d hd x (.inr hx) t ht hw, ?_, ?_, ?_, hop, fun d hd => dcheck_defer h1 d hd, ?_⟩
  · intro d hd x hx he
    obtain ⟨i, hi, rfl⟩ := List.getElem_of_mem hd
    obtain ⟨j, hj, rfl⟩ := List.getElem_of_mem hx
    have : i = j := by
      have h := List.pairwise_iff_getElem.1 hnd
      rcases Nat.lt_trichotomy i j with hlt | rfl | hlt
      · exact absurd (by rw [List.getElem_map, List.getElem_map]; exact he) (h i j (by simpa using hi) (by simpa using hj) hlt)
      · rfl
      · exact absurd (by rw [List.getElem_map, List.getElem_map]; exact he.symm) (h j i (by simpa using hj) (by simpa using hi) hlt)
    subst this; rfl
  · intro d hd
    have := List.all_eq_true.1 h3 d hd
    simpa using this
  · intro i hi
    have := List.all_eq_true.1 h4 i (List.mem_range.2 hi)
    obtain ⟨d, hd, hb⟩ := List.any_eq_true.1 this
    exact ⟨d, hd, by simpa using hb⟩
  · intro i o ho e he hb
    have hm : (o, i) ∈ ops.toList.zipIdx := by
      rw [List.mem_zipIdx_iff_getElem?]
      simpa using ho
    have := List.all_eq_true.1 h5 (o, i) hm
    have := List.all_eq_true.1 this e (by simpa using he)
    simpa [hb] using this

theorem draw_wpAny (hO : ∀ f, Sim P f (O f)) {e : Env} {φ : Phi} {C : Con} {h : IHeap} {w : World} {a : Act} (hok : drawOk P N ops ds = true) (hop : ∀ d ∈ ds, ∃ o, ops[d.idx]? = some o ∧ coper P N ops o = some d.o)
    (r : Rel φ C h w) (hf : FRel φ C N e a) (hR : drawI O ds 0 [] e h ≠ .fail) (hQ : PostR φ C h w N a e ds Q (drawI O ds 0 [] e h)) : wpAny P .any ops Q ops.size (Array.replicate ops.size false) a { w with drawn := w.drawn + 1 } := by
  have F := draw_fix hok hop
  have hok' := hok
  unfold drawOk at hok'
  simp only [Bool.and_eq_true] at hok'
  have hl : ∀ i, i < ops.size → (Array.replicate ops.size false).getD i true = false := fun i hi => by simp [Array.getD, hi]
  have I : DInv O N ops (masks ops.toList []) ds (drawI O ds 0 [] e h) φ C h w a e (fun _ => .undef) (fun _ => none) [] 0 ds (Array.replicate ops.size false) φ C h e a { w with drawn := w.drawn + 1 } := by
    refine ⟨r.drew _, Ext.drew _ _ _ _ _, ?_, ?_, ?_, hf.size, rfl, fun _ _ => rfl, ⟨[], rfl, ?_⟩, hok'.1.1.1.1, fun x => by simp, by simp, nodupB_ok hok'.1.1.1.2, by simp, fun d hd => hl d.idx (F.lt d hd), ?_⟩
    · rintro d ⟨hd, _⟩; cases hd
    · rintro d d' c ⟨hd, _⟩; cases hd
    · exact fun t v ht _ hv => hf.env t v ht hv
    · rintro d ⟨hd, _⟩; cases hd
    · intro i o ho hl'
      have := (Array.getElem?_eq_some_iff.1 ho).1
      rw [hl i this] at hl'; cases hl'
  obtain ⟨V', B', acc', k', rest', G', e', I2, hh⟩ := I.advance hR F
  refine draw_any hO hR F hQ ops.size ?_ I2 hh
  have : ∀ n, unl (Array.replicate ops.size false) n ≤ n := by
    intro n
    induction n with
    | zero => exact Nat.le_refl _
    | succ n ih => simp only [unl]; split <;> omega
  exact this _
theorem draw_sound (hO : ∀ f, Sim P f (O f)) (hmix : P.follows .mixedOrders = true) {id : Nat} {e : Env} {φ : Phi} {C : Con} {h : IHeap} {w : World} {a : Act} (hok : drawOk P N ops ds = true) (hop : ∀ d ∈ ds, ∃ o, ops[d.idx]? = some o ∧ coper P N ops o = some d.o)
    (r : Rel φ C h w) (hf : FRel φ C N e a) (hR : drawI O ds 0 [] e h ≠ .fail) (hQ : PostR φ C h w N a e ds Q (drawI O ds 0 [] e h)) : (Code.region id ops true).wp P Q a w :=
  wp_region_any hmix (draw_wpAny hO hok hop r hf hR hQ)

/-! ### A last operation behind all others -/
/-- The last operation waits for all others; no other one waits for a later one, or asks it. -/
def tailOk (l : List Oper) (o : Oper) : Bool :=
  (l.zipIdx.all fun (x, i) => (x.after.toList.all fun e => !Region.binds .any e || decide (e.on < i)) && (match x.guard with | some (j, _) => decide (j < l.length) | none => true)) &&
  ((List.range l.length).all fun j => o.after.toList.any fun e => Region.binds .any e && e.on == j) && o.after.toList.all fun e => !Region.binds .any e || decide (e.on < l.length)
/-- What is asked behind the others. -/
def PostT (P : Program) (ops : Array Oper) (Q : Exit → Act → World → Prop) (n : Nat) : Exit → Act → World → Prop
  | .normal, a, w => wpOp P ops Q n (Q .normal) a w
  | x, a, w => Q x a w

theorem ready_all {os : Array Oper} (hb : ∀ (i : Nat) (o : Oper), os[i]? = some o → ∀ e ∈ o.after, Region.binds .any e = true → e.on < i) {l : Array Bool} (hs : l.size = os.size) (hr : Region.ready .any os l = []) : ∀ i, i < os.size → l.getD i true = true := by
  have key : ∀ n, ∀ i, i ≤ n → i < os.size → l.getD i true = false → False := by
    intro n
    induction n with
    | zero =>
      intro i hin hi hl
      have hi0 : i = 0 := by omega
      have hm : i ∈ Region.ready .any os l := mem_ready.2 ⟨hl, os[i], by simp [hi], fun e he hbb => by
        have := hb i os[i] (by simp [hi]) e he hbb
        omega⟩
      rw [hr] at hm; cases hm
    | succ n ih =>
      intro i hin hi hl
      have hm : i ∈ Region.ready .any os l := mem_ready.2 ⟨hl, os[i], by simp [hi], fun e he hbb => by
        have hlt := hb i os[i] (by simp [hi]) e he hbb
        cases hle : l.getD e.on true
        · exact (ih e.on (by omega) (by omega) hle).elim
        · have hs' : e.on < l.size := by omega
          simpa [Array.getD, hs'] using hle⟩
      rw [hr] at hm; cases hm
  intro i hi
  cases hc : l.getD i true
  · exact (key i i (Nat.le_refl _) hi hc).elim
  · rfl

theorem wpOp_tail {os : Array Oper} {o : Oper} {K K' : Act → World → Prop} {i : Nat} (hi : i < os.size) (hg : ∀ (i : Nat) (x : Oper) (j : Nat) (b : Bool), os[i]? = some x → x.guard = some (j, b) → j < os.size) (hK : ∀ a w, K a w → K' a w) {a : Act} {w : World}
    (h : wpOp P os (PostT P (os.push o) Q os.size) i K a w) : wpOp P (os.push o) Q i K' a w := by
  have hget : ∀ j, j < os.size → (os.push o)[j]? = os[j]? := fun j hj => by simp [Array.getElem?_push, Nat.ne_of_lt hj]
  unfold wpOp at *
  rw [hget i hi]
  cases hx : os[i]? with
  | none => rw [hx] at h; exact hK _ _ h
  | some x =>
    rw [hx] at h
    simp only at h ⊢
    have hw : Region.wanted x (yielded (os.push o) a.tmps) = Region.wanted x (yielded os a.tmps) := by
      unfold Region.wanted
      cases hgd : x.guard with
      | none => rfl
      | some g => obtain ⟨j, b⟩ := g; simp only [yielded, hget j (hg i x j b hx hgd)]
    rw [hw]
    split
    · rename_i hwt
      rw [if_pos hwt] at h
      refine h.imp (fun h => ?_) (fun h => ⟨h.1, ?_⟩)
      · unfold Oper.wp at *
        generalize (execOp a.eval x).run P w = r at *
        cases r with
        | ok n w' =>
          cases n <;> simp only [Oper.upon] at h ⊢ <;>
            first
              | exact hK _ _ h
              | exact Calls.mono h (fun e w'' he => by cases e <;> first | exact hK _ _ he | exact he)
              | exact Rows.mono h (fun _ _ he => hK _ _ he)
        | halt x w' => cases x <;> simp only [Oper.upon] at h ⊢ <;> exact h
      · exact h.2
    · rename_i hwt
      rw [if_neg hwt] at h
      exact hK _ _ h

theorem wpAny_tail {os : Array Oper} {o : Oper} (hb : ∀ (i : Nat) (o : Oper), os[i]? = some o → ∀ e ∈ o.after, Region.binds .any e = true → e.on < i) (hg : ∀ (i : Nat) (x : Oper) (j : Nat) (b : Bool), os[i]? = some x → x.guard = some (j, b) → j < os.size)
    (hall : ∀ j, j < os.size → ∃ e ∈ o.after, Region.binds .any e = true ∧ e.on = j) (hlt : ∀ e ∈ o.after, Region.binds .any e = true → e.on < os.size) :
    ∀ (fuel : Nat) {l : Array Bool} {a : Act} {w : World}, l.size = os.size → wpAny P .any os (PostT P (os.push o) Q os.size) fuel l a w → wpAny P .any (os.push o) Q (fuel + 1) (l.push false) a w := by
  have hget : ∀ j, j < os.size → (os.push o)[j]? = os[j]? := fun j hj => by simp [Array.getElem?_push, Nat.ne_of_lt hj]
  have hgl : ∀ {l : Array Bool} (b d : Bool) (i : Nat), l.size = os.size → i < os.size → (l.push b).getD i d = l.getD i d := fun {l} b d i hs hi => by
    have h1 : i < l.size := by omega
    have h2 : i < (l.push b).size := by simp; omega
    simp [Array.getD, h1, h2, Array.getElem_push, Nat.lt_succ_of_lt h1]
  have hgn : ∀ {l : Array Bool} (b d : Bool), l.size = os.size → (l.push b).getD os.size d = b := fun {l} b d hs => by
    rw [← hs]; simp [Array.getD]
  have hdir : ∀ {l : Array Bool} (i : Nat) (d : Bool), l.size = os.size → i < os.size → l.getD i d = l.getD i true := fun {l} i d hs hi => by
    have h1 : i < l.size := by omega
    simp [Array.getD, h1]
  have hfin : ∀ (fuel : Nat) {l : Array Bool} {a : Act} {w : World}, l.size = os.size → (∀ i, i < os.size → l.getD i true = true) → Q .normal a w → wpAny P .any (os.push o) Q fuel (l.push true) a w := by
    intro fuel l a w hs hl hq
    have hr : Region.ready .any (os.push o) (l.push true) = [] := by
      refine List.eq_nil_iff_forall_not_mem.2 fun i hi => ?_
      obtain ⟨h1, x, h2, _⟩ := mem_ready.1 hi
      have hi' : i < os.size + 1 := by simpa using (Array.getElem?_eq_some_iff.1 h2).1
      rcases Nat.lt_or_ge i os.size with h | h
      · rw [hgl true true i hs h, hl i h] at h1; cases h1
      · have : i = os.size := by omega
        subst this
        rw [hgn true true hs] at h1; cases h1
    cases fuel with
    | zero => exact ⟨hr, hq⟩
    | succ f => exact ⟨fun _ => hq, fun i hi => by rw [hr] at hi; cases hi⟩
  have hlast : ∀ (fuel : Nat) {l : Array Bool} {a : Act} {w : World}, l.size = os.size → Region.ready .any os l = [] → PostT P (os.push o) Q os.size .normal a w → wpAny P .any (os.push o) Q (fuel + 1) (l.push false) a w := by
    intro fuel l a w hs hr hq
    have hl := ready_all hb hs hr
    refine ⟨fun hn => ?_, fun i hi => ?_⟩
    · exfalso
      have hm : os.size ∈ Region.ready .any (os.push o) (l.push false) := mem_ready.2 ⟨hgn false true hs, o, by simp, fun e he hbb => by
        have := hlt e he hbb
        rw [hgl false false _ hs this, hdir _ _ hs this]; exact hl _ this⟩
      rw [hn] at hm; cases hm
    · obtain ⟨h1, x, h2, _⟩ := mem_ready.1 hi
      have hi' : i < os.size + 1 := by simpa using (Array.getElem?_eq_some_iff.1 h2).1
      rcases Nat.lt_or_ge i os.size with h | h
      · rw [hgl false true i hs h, hl i h] at h1; cases h1
      · have : i = os.size := by omega
        subst this
        refine wpOp_mono (fun a w hq => ?_) hq
        have : (l.push false).setIfInBounds os.size true = l.push true := by rw [← hs]; apply Array.ext'; simp
        rw [this]
        exact hfin fuel hs hl hq
  intro fuel
  induction fuel with
  | zero =>
    intro l a w hs h
    exact hlast 0 hs h.1 h.2
  | succ fuel ih =>
    intro l a w hs h
    by_cases hr : Region.ready .any os l = []
    · exact hlast _ hs hr (h.1 hr)
    obtain ⟨i0, hi0⟩ := List.exists_mem_of_ne_nil _ hr
    obtain ⟨h1, x, h2, h3⟩ := mem_ready.1 hi0
    have hi0' := (Array.getElem?_eq_some_iff.1 h2).1
    have up : ∀ i, i ∈ Region.ready .any os l → i ∈ Region.ready .any (os.push o) (l.push false) := by
      intro i hi
      obtain ⟨h1, x, h2, h3⟩ := mem_ready.1 hi
      have hi' := (Array.getElem?_eq_some_iff.1 h2).1
      refine mem_ready.2 ⟨by rw [hgl false true i hs hi']; exact h1, x, by rw [hget i hi']; exact h2, fun e he hbb => ?_⟩
      have := hb i x h2 e he hbb
      rw [hgl false false _ hs (by omega)]
      exact h3 e he hbb
    have hup := up i0 hi0
    refine ⟨fun hn => (by rw [hn] at hup; cases hup), fun i hi => ?_⟩
    obtain ⟨g1, y, g2, g3⟩ := mem_ready.1 hi
    have hi' : i < os.size + 1 := by simpa using (Array.getElem?_eq_some_iff.1 g2).1
    rcases Nat.lt_or_ge i os.size with hin | hin
    · have hmem : i ∈ Region.ready .any os l := by
        rw [hget i hin] at g2
        refine mem_ready.2 ⟨by rw [← hgl false true i hs hin]; exact g1, y, g2, fun e he hbb => ?_⟩
        have := hb i y g2 e he hbb
        rw [← hgl false false _ hs (by omega)]
        exact g3 e he hbb
      refine wpOp_tail hin hg (fun a w hK => ?_) (h.2 i hmem)
      have : (l.push false).setIfInBounds i true = (l.setIfInBounds i true).push false := by
        have : i < l.size := by omega
        apply Array.ext'; simp [List.set_append, this]
      rw [this]
      exact ih (by simp [hs]) hK
    · exfalso
      have : i = os.size := by omega
      subst this
      simp at g2; subst g2
      obtain ⟨e, he, hbb, heq⟩ := hall i0 hi0'
      have := g3 e he hbb
      rw [heq, hgl false false _ hs hi0', hdir _ _ hs hi0', h1] at this
      cases this

theorem tail_sound (hO : ∀ f, Sim P f (O f)) (hmix : P.follows .mixedOrders = true) {id : Nat} {o : Oper} {io : IOper} {e : Env} {φ : Phi} {C : Con} {h : IHeap} {w : World} {a : Act} (ht : tailOk ops.toList o = true) (hok : drawOk P N ops ds = true)
    (hop : ∀ d ∈ ds, ∃ o, ops[d.idx]? = some o ∧ coper P N ops o = some d.o) (hio : coper P N (ops.push o) o = some io)
    (r : Rel φ C h w) (hf : FRel φ C N e a) (hR : drawI O ds 0 [] e h ≠ .fail) (hQ : PostR φ C h w N a e ds (PostT P (ops.push o) Q ops.size) (drawI O ds 0 [] e h)) : (Code.region id (ops.push o) true).wp P Q a w := by
  refine wp_region_any hmix ?_
  have h0 := draw_wpAny (Q := PostT P (ops.push o) Q ops.size) hO hok hop r hf hR hQ
  unfold tailOk at ht
  simp only [Bool.and_eq_true] at ht
  obtain ⟨⟨t1, t2⟩, t3⟩ := ht
  have hsz : (ops.push o).size = ops.size + 1 := by simp
  have hrep : Array.replicate (ops.push o).size false = (Array.replicate ops.size false).push false := by rw [hsz, Array.replicate_succ]
  rw [hrep, hsz]
  refine wpAny_tail ?_ ?_ ?_ ?_ ops.size (by simp) h0
  · intro i x hx y hy hbb
    have hm : (x, i) ∈ ops.toList.zipIdx := by rw [List.mem_zipIdx_iff_getElem?]; simpa using hx
    have := List.all_eq_true.1 t1 (x, i) hm
    simp only [Bool.and_eq_true] at this
    have := List.all_eq_true.1 this.1 y (by simpa using hy)
    simpa [hbb] using this
  · intro i x j b hx hgd
    have hm : (x, i) ∈ ops.toList.zipIdx := by rw [List.mem_zipIdx_iff_getElem?]; simpa using hx
    have := List.all_eq_true.1 t1 (x, i) hm
    simp only [Bool.and_eq_true, hgd] at this
    simpa using this.2
  · intro j hj
    have := List.all_eq_true.1 t2 j (List.mem_range.2 (by simpa using hj))
    obtain ⟨y, hy, hbb⟩ := List.any_eq_true.1 this
    simp only [Bool.and_eq_true] at hbb
    exact ⟨y, by simpa using hy, hbb.1, by simpa using hbb.2⟩
  · intro y hy hbb
    have := List.all_eq_true.1 t3 y (by simpa using hy)
    simpa [hbb] using this
end
end Go.Proofs.YtadeojgiiapljaaGreat.Im
namespace Go.Proofs.YtadeojgiiapljaaGreat.Im
open Go

/-! ### The one order of a region that draws -/
def copers (P : Program) (N : Nat) (ops : Array Oper) : List Oper → Option (List IOper)
  | [] => some []
  | o :: os => match coper P N ops o, copers P N ops os with
    | some i, some is => some (i :: is)
    | _, _ => none
def readyI (ops : List Oper) (done : Nat) (i : Nat) : Bool :=
  !done.testBit i && (match ops[i]? with
    | some o => o.after.toList.all fun e => !Region.binds .any e || done.testBit e.on
    | none => false)
/-- First what doesn't act. -/
def orderI (ops : List Oper) (acts : List Bool) (n : Nat) : Nat → Nat → List Nat
  | 0, _ => []
  | f + 1, done =>
    let rs := (List.range n).filter (readyI ops done)
    match rs.find? (fun i => !acts.getD i true) with
    | some i => i :: orderI ops acts n f (done ||| 2 ^ i)
    | none => match rs with
      | i :: _ => i :: orderI ops acts n f (done ||| 2 ^ i)
      | [] => []
/-- How many act ahead of the first acting one that waits for i. -/
def hiI (m : List Nat) (acts : List Bool) (i : Nat) : Nat → List Nat → Nat
  | _, [] => 1000000
  | k, x :: xs => if acts.getD x true then (if bit m x i then k else hiI m acts i (k + 1) xs) else hiI m acts i k xs
def mkDs (ios : List IOper) (m : List Nat) (acts : List Bool) (all : List Nat) : List Nat → Option (List DOper)
  | [] => some []
  | i :: is => match ios[i]?, mkDs ios m acts all is with
    | some io, some ds => some (⟨i, if io.op.cls = .read then hiI m acts i 0 all else 0, io⟩ :: ds)
    | _, _ => none
def canon (P : Program) (N : Nat) (ops : Array Oper) : Option (List DOper) :=
  match copers P N ops ops.toList with
  | none => none
  | some ios =>
    let acts := ios.map fun o => o.op.cls == .act
    let all := orderI ops.toList acts ops.size ops.size 0
    match mkDs ios (masks ops.toList []) acts all all with
    | some ds => if drawOk P N ops ds then some ds else none
    | none => none

def ccode (P : Program) (N : Nat) : Code → Option IC
  | .skip | .label _ => some .skip
  | .region _ ops false => (copers P N ops ops.toList).map .reg
  | .region _ ops true => match canon P N ops with
    | some ds => some (.draw ds)
    | none => match ops.back? with
      | some o => match canon P N ops.pop, coper P N ops o with
        | some ds, some io => if tailOk ops.pop.toList o then some (.seq (.draw ds) (.reg [io])) else none
        | _, _ => none
      | none => none
  | .seq a b => match ccode P N a, ccode P N b with
    | some a, some b => some (.seq a b)
    | _, _ => none
  | .cond c a b => match carg c, ccode P N a, ccode P N b with
    | some c, some a, some b => some (.cond c a b)
    | _, _, _ => none
  | .block id a => (ccode P N a).map (.block id)
  | .loop a => (ccode P N a).map .loop
  | .scope a => (ccode P N a).map .scope
  | .exit id => some (.exit id)
  | .ret => some .ret
  | _ => none

section
variable {P : Program} {φ φ' : Phi} {C C' : Con} {h h' : IHeap} {e e' : Env} {a a' : Act} {w w' : World} {O : Orc} {N fuel : Nat} {Q : Exit → Act → World → Prop}

theorem copers_get {ops : Array Oper} : ∀ {os : List Oper} {ios : List IOper}, copers P N ops os = some ios → ∀ (i : Nat) (io : IOper), ios[i]? = some io → ∃ o, os[i]? = some o ∧ coper P N ops o = some io
  | [], ios, hc, i, io, hi => by simp [copers] at hc; subst hc; simp at hi
  | o :: os, ios, hc, i, io, hi => by
    simp only [copers] at hc
    split at hc <;> simp at hc
    rename_i x xs hx hxs
    subst hc
    cases i with
    | zero => simp at hi; subst hi; exact ⟨o, rfl, hx⟩
    | succ i => simpa using copers_get hxs i io (by simpa using hi)
theorem copers_all {ops : Array Oper} : ∀ {os : List Oper} {ios : List IOper} (k : Nat), copers P N ops os = some ios → (∀ (i : Nat) (o : Oper), os[i]? = some o → ops[k + i]? = some o) → All2 (fun i io => ∃ o, ops[i]? = some o ∧ coper P N ops o = some io) (List.range' k os.length) ios
  | [], ios, k, hc, _ => by simp [copers] at hc; subst hc; exact .nil
  | o :: os, ios, k, hc, hk => by
    simp only [copers] at hc
    split at hc <;> simp at hc
    rename_i x xs hx hxs
    subst hc
    rw [List.length_cons, List.range'_succ]
    exact .cons ⟨o, hk 0 o rfl, hx⟩ (copers_all (k + 1) hxs fun i o ho => by have := hk (i + 1) o (by simpa using ho); rwa [show k + 1 + i = k + (i + 1) by omega])
theorem mkDs_op {ios : List IOper} {m : List Nat} {acts : List Bool} {all : List Nat} : ∀ {is : List Nat} {ds : List DOper}, mkDs ios m acts all is = some ds → ∀ d ∈ ds, ios[d.idx]? = some d.o
  | [], ds, h, d, hd => by simp [mkDs] at h; subst h; cases hd
  | i :: is, ds, h, d, hd => by
    simp only [mkDs] at h
    split at h <;> simp at h
    rename_i io ds' hio hds
    subst h
    rcases List.mem_cons.1 hd with rfl | hd
    · exact hio
    · exact mkDs_op hds d hd
theorem canon_ok {ops : Array Oper} {ds : List DOper} (hc : canon P N ops = some ds) : drawOk P N ops ds = true ∧ ∀ d ∈ ds, ∃ o, ops[d.idx]? = some o ∧ coper P N ops o = some d.o := by
  unfold canon at hc
  split at hc
  · cases hc
  rename_i ios hios
  simp only at hc
  split at hc
  · rename_i ds' hds
    split at hc <;> simp at hc
    rename_i hok
    subst hc
    refine ⟨hok, fun d hd => ?_⟩
    obtain ⟨o, ho, hco⟩ := copers_get hios d.idx d.o (mkDs_op hds d hd)
    exact ⟨o, by simpa using ho, hco⟩
  · cases hc

theorem PostC.trans {r : CRes} (hx : Ext φ C h w φ' C' h' w') (hp : PostC φ C h w N Q r) : PostC φ' C' h' w' N Q r := by
  cases r with
  | ok x e1 h1 => exact fun φ'' C'' a'' w'' e => hp φ'' C'' a'' w'' (hx.trans e)
  | panic v e1 h1 => exact fun φ'' C'' a'' w'' y e => hp φ'' C'' a'' w'' y (hx.trans e)
  | fail => exact hp

theorem code_sound (hO : ∀ f, Sim P f (O f)) (hmix : P.follows .mixedOrders = true) : ∀ (c : Code) {ic : IC} {e : Env} {φ : Phi} {C : Con} {h : IHeap} {w : World} {a : Act} {Q : Exit → Act → World → Prop}, ccode P N c = some ic → Rel φ C h w → FRel φ C N e a →
    PostC φ C h w N Q (ix O fuel ic e h) → c.wp P Q a w := by
  intro c
  induction c with
  | skip =>
    intro ic e φ C h w a Q hc r hf hp
    simp [ccode] at hc; subst hc
    exact wp_skip (hp φ C a w (Ext.refl _ _ _ _) r hf)
  | label l =>
    intro ic e φ C h w a Q hc r hf hp
    simp [ccode] at hc; subst hc
    exact wp_label (hp φ C a w (Ext.refl _ _ _ _) r hf)
  | exit id =>
    intro ic e φ C h w a Q hc r hf hp
    simp [ccode] at hc; subst hc
    exact wp_exit (hp φ C a w (Ext.refl _ _ _ _) r hf)
  | ret =>
    intro ic e φ C h w a Q hc r hf hp
    simp [ccode] at hc; subst hc
    exact wp_ret (hp φ C a w (Ext.refl _ _ _ _) r hf)
  | region id ops draw =>
    intro ic e φ C h w a Q hc r hf hp
    cases draw with
    | false =>
      simp only [ccode, Option.map_eq_some_iff] at hc
      obtain ⟨ios, hios, rfl⟩ := hc
      refine wp_region ?_
      have hall := copers_all 0 hios (fun i o ho => by simpa using ho)
      rw [show List.range ops.size = List.range' 0 ops.toList.length by rw [List.range_eq_range']; simp]
      exact reg_sound hO _ ios e φ C h w a hall r hf hp
    | true =>
      have core : ∀ {os : Array Oper} {ds : List DOper}, canon P N os = some ds → (∀ d ∈ ds, ∃ o, os[d.idx]? = some o ∧ coper P N os o = some d.o) → ∀ {Q : Exit → Act → World → Prop}, PostC φ C h w N Q (match drawI O ds 0 [] e h with
          | .ok e' h' => .ok .normal e' h'
          | .panic v h' => .panic v (e.less ds) h'
          | .fail => .fail) → drawI O ds 0 [] e h ≠ .fail ∧ PostR φ C h w N a e ds Q (drawI O ds 0 [] e h) := by
        intro os ds hds hop Q hp
        have hno : ∀ d ∈ ds, ∀ t, d.o.dst = some t → t < N ∧ t < DK := fun d hd t ht => by
          obtain ⟨o, _, hco⟩ := hop d hd
          exact (coper_dst hco).2 t ht
        have hdk : ∀ d ∈ ds, writes d DK = false := fun d hd => by
          unfold writes
          cases hdd : d.o.dst with
          | none => rfl
          | some t => have := hno d hd t hdd; simp; omega
        have hR : drawI O ds 0 [] e h ≠ .fail := by
          intro hR; rw [hR] at hp; exact hp
        refine ⟨hR, ?_⟩
        cases hres : drawI O ds 0 [] e h with
        | ok e' h' =>
          rw [hres] at hp
          intro φ' C' a' w' h1 h2 h3 h4 h5 h6
          refine hp φ' C' a' w' h1 h2 ⟨h3, h4, ?_⟩
          have := hf.defers.mono h1
          unfold DRel at this ⊢
          rw [h6 DK hdk, h5]
          exact this
        | panic v h' =>
          rw [hres] at hp
          intro φ' C' a' w' y h1 h2 h3 h4 h5 h6
          refine hp φ' C' a' w' y h1 h2 ⟨h3, h4, ?_⟩ h6
          have := hf.defers.mono h1
          unfold DRel at this ⊢
          rw [get_less, if_neg, h5]
          · exact this
          · intro hany
            obtain ⟨d, hd, hb⟩ := List.any_eq_true.1 hany
            rw [hdk d hd] at hb; cases hb
        | fail => exact hR hres
      simp only [ccode] at hc
      split at hc
      · rename_i ds hds
        cases hc
        obtain ⟨hok, hop⟩ := canon_ok hds
        obtain ⟨hR, hpr⟩ := core hds hop (Q := Q) hp
        exact draw_sound hO hmix hok hop r hf hR hpr
      · split at hc
        case h_2 => cases hc
        rename_i o hback
        split at hc
        case h_2 => cases hc
        rename_i ds io hds hio
        split at hc
        case isFalse => cases hc
        rename_i htail
        cases hc
        obtain ⟨hok, hop⟩ := canon_ok hds
        have hops : ops = ops.pop.push o := by
          rw [Array.back?_eq_getElem?] at hback
          obtain ⟨hlt, rfl⟩ := Array.getElem?_eq_some_iff.1 hback
          apply Array.ext
          · simp; omega
          · intro i h1 h2
            simp only [Array.getElem_push, Array.size_pop, Array.getElem_pop]
            split
            · rfl
            · have : i = ops.size - 1 := by omega
              subst this; rfl
        generalize hos : ops.pop = os at *
        subst hops
        have hp' : PostC φ C h w N (PostT P (os.push o) Q os.size) (match drawI O ds 0 [] e h with
          | .ok e' h' => .ok .normal e' h'
          | .panic v h' => .panic v (e.less ds) h'
          | .fail => .fail) := by
          simp only [ix] at hp
          cases hres : drawI O ds 0 [] e h with
          | ok e' h' =>
            rw [hres] at hp
            simp only [CRes.bind] at hp
            intro φ' C' a' w' hx hr hf'
            have := reg_sound (Q := Q) hO [os.size] [io] e' φ' C' h' w' a' (.cons ⟨o, by simp, hio⟩ .nil) hr hf' (PostC.trans hx hp)
            rw [wpOps_cons] at this
            exact this
          | panic v h' =>
            rw [hres] at hp
            exact hp
          | fail => rw [hres] at hp; exact hp
        obtain ⟨hR, hpr⟩ := core hds hop hp'
        exact tail_sound hO hmix htail hok hop hio r hf hR hpr
  | seq x y ihx ihy =>
    intro ic e φ C h w a Q hc r hf hp
    simp only [ccode] at hc
    split at hc <;> simp at hc
    rename_i ia ib ha hb
    subst hc
    simp only [ix] at hp
    refine wp_seq (ihx ha r hf ?_)
    cases hres : ix O fuel ia e h with
    | ok xx e1 h1 =>
      rw [hres] at hp
      simp only [CRes.bind] at hp
      intro φ' C' a' w' hx hr hf'
      cases xx with
      | normal => exact ihy hb hr hf' (PostC.trans hx hp)
      | exit id => exact hp φ' C' a' w' hx hr hf'
      | ret => exact hp φ' C' a' w' hx hr hf'
    | panic v e1 h1 =>
      rw [hres] at hp
      exact hp
    | fail => rw [hres] at hp; exact hp
  | cond c x y ihx ihy =>
    intro ic e φ C h w a Q hc r hf hp
    simp only [ccode] at hc
    split at hc <;> simp at hc
    rename_i ci ia ib hci ha hb
    subst hc
    simp only [ix] at hp
    split at hp
    · rename_i hv
      have hr := carg_rel hf.env hci hv
      generalize hcc : a.eval c = cc at hr
      cases hr
      exact wp_cond_true hcc (ihx ha r hf hp)
    · rename_i hv
      have hr := carg_rel hf.env hci hv
      generalize hcc : a.eval c = cc at hr
      cases hr
      exact wp_cond_false hcc (ihy hb r hf hp)
    · exact hp.elim
  | block id c ih =>
    intro ic e φ C h w a Q hc r hf hp
    simp only [ccode, Option.map_eq_some_iff] at hc
    obtain ⟨ia, ha, rfl⟩ := hc
    simp only [ix] at hp
    refine wp_block (ih ha r hf ?_)
    cases hres : ix O fuel ia e h with
    | ok xx e1 h1 =>
      rw [hres] at hp
      simp only [CRes.bind] at hp
      intro φ' C' a' w' hx hr hf'
      cases xx with
      | normal =>
        simp only [reduceCtorEq, if_false] at hp
        exact hp φ' C' a' w' hx hr hf'
      | exit id' =>
        simp only [IExit.to, Exit.inBlock]
        by_cases hid : id' = id
        · subst hid
          simp only [if_true] at hp ⊢
          exact hp φ' C' a' w' hx hr hf'
        · rw [if_neg (by simpa using hid)] at hp
          rw [if_neg hid]
          exact hp φ' C' a' w' hx hr hf'
      | ret =>
        simp only [reduceCtorEq, if_false] at hp
        exact hp φ' C' a' w' hx hr hf'
    | panic v e1 h1 => rw [hres] at hp; exact hp
    | fail => rw [hres] at hp; exact hp
  | loop c ih =>
    intro ic e φ C h w a Q hc r hf hp
    simp only [ccode, Option.map_eq_some_iff] at hc
    obtain ⟨ia, ha, rfl⟩ := hc
    simp only [ix] at hp
    have key : ∀ (n : Nat) {e : Env} {φ : Phi} {C : Con} {h : IHeap} {w : World} {a : Act}, Rel φ C h w → FRel φ C N e a → PostC φ C h w N Q (loopI (ix O fuel ia) n e h) → Code.rounds P c Q n a w := by
      intro n
      induction n with
      | zero => intro e φ C h w a r hf hp; exact hp
      | succ n ihn =>
        intro e φ C h w a r hf hp
        rw [rounds_succ]
        simp only [loopI] at hp
        refine ih ha r hf ?_
        cases hres : ix O fuel ia e h with
        | ok xx e1 h1 =>
          rw [hres] at hp
          simp only [CRes.bind] at hp
          intro φ' C' a' w' hx hr hf'
          cases xx with
          | normal => exact ihn hr hf' (PostC.trans hx hp)
          | exit id => exact hp φ' C' a' w' hx hr hf'
          | ret => exact hp φ' C' a' w' hx hr hf'
        | panic v e1 h1 => rw [hres] at hp; exact hp
        | fail => rw [hres] at hp; exact hp
    exact wp_loop_rounds fuel (key fuel r hf hp)
  | scope c ih =>
    intro ic e φ C h w a Q hc r hf hp
    simp only [ccode, Option.map_eq_some_iff] at hc
    obtain ⟨ia, ha, rfl⟩ := hc
    simp only [ix] at hp
    refine wp_scope_straight (ih ha r hf ?_)
    cases hres : ix O fuel ia e h with
    | ok xx e1 h1 =>
      rw [hres] at hp
      intro φ' C' a' w' hx hr hf'
      cases xx <;> exact hp φ' C' a' w' hx hr hf'
    | panic v e1 h1 => rw [hres] at hp; exact hp
    | fail => rw [hres] at hp; exact hp.elim
  | rangeFunc f ps x y => intro ic e φ C h w a Q hc; simp [ccode] at hc
  | goto l => intro ic e φ C h w a Q hc; simp [ccode] at hc
  | refuse s => intro ic e φ C h w a Q hc; simp [ccode] at hc
end
end Go.Proofs.YtadeojgiiapljaaGreat.Im
namespace Go.Proofs.YtadeojgiiapljaaGreat.Im
open Go

def cres (P : Program) : List ResultVar → Option (List IResult)
  | [] => some []
  | .tmp t :: rs => match cres P rs with
    | some is => if t < DK then some (.tmp t :: is) else none
    | none => none
  | .cell t ty :: rs => match aggT P ty, szT P ty, cres P rs with
    | some true, some n, some is => if t < DK then some (.cellN t n :: is) else none
    | some false, some _, some is => if t < DK then some (.cell1 t :: is) else none
    | _, _, _ => none

/-- A function, translated; d: is it a deferred one, which recovers first? -/
def cfunc (P : Program) (fn : Func) (d : Bool) : Option IFunc :=
  if fn.name == "runtime.NumGoroutine" then none else
  if fn.params.size + fn.nfree ≤ fn.ntmps ∧ fn.ntmps < DK then
    match fn.body, cres P fn.results.toList with
    | some c, some rs =>
      if d then
        match c with
        | .seq (.region _ ops false) rest => match ops.toList with
          | [o] => match o.op, o.dst, o.guard with
            | .call cl, some t, none => match cl.callee, cl.args.toList with
              | .builtin .recover, [] => if t < fn.ntmps ∧ fn.params.size + fn.nfree ≤ t then (ccode P fn.ntmps rest).map fun b => ⟨fn.params.size + fn.nfree, rs, some t, b⟩ else none
              | _, _ => none
            | _, _, _ => none
          | _ => none
        | _ => none
      else (ccode P fn.ntmps c).map fun b => ⟨fn.params.size + fn.nfree, rs, none, b⟩
    | _, _ => none
  else none

def Compiled (P : Program) (f : FuncId) (F : IFunc) : Prop := ∃ fn, P.funcs[f]? = some fn ∧ cfunc P fn F.recT.isSome = some F

section
variable {P : Program} {φ φ' : Phi} {C C' : Con} {h h' : IHeap} {e e' : Env} {a a' : Act} {w w' : World} {O : Orc} {N fuel : Nat}

theorem cfunc_ok {fn : Func} {F : IFunc} (hc : cfunc P fn F.recT.isSome = some F) : fn.name ≠ "runtime.NumGoroutine" ∧ F.nparams ≤ fn.ntmps ∧ fn.ntmps < DK ∧ cres P fn.results.toList = some F.results ∧
    ∃ c, fn.body = some c ∧ ((F.recT = none ∧ ccode P fn.ntmps c = some F.body) ∨ ∃ t id ops o rest cl, F.recT = some t ∧ c = .seq (.region id ops false) rest ∧ ops.toList = [o] ∧ o.op = .call cl ∧ o.dst = some t ∧ o.guard = none ∧ cl.callee = .builtin .recover ∧ cl.args.toList = [] ∧ t < fn.ntmps ∧ F.nparams ≤ t ∧
      ccode P fn.ntmps rest = some F.body) := by
  unfold cfunc at hc
  split at hc
  · cases hc
  rename_i hname
  split at hc
  case isFalse => cases hc
  rename_i hle
  split at hc
  case h_2 => cases hc
  rename_i c rs hbody hrs
  refine ⟨by simpa using hname, ?_⟩
  split at hc
  · rename_i hd
    split at hc
    case h_2 => cases hc
    rename_i id ops rest
    split at hc
    case h_2 => cases hc
    rename_i o hops
    split at hc
    case h_2 => cases hc
    rename_i cl t hop hdst hgd
    split at hc
    case h_2 => cases hc
    rename_i hcal hargs
    split at hc
    case isFalse => cases hc
    rename_i ht
    simp only [Option.map_eq_some_iff] at hc
    obtain ⟨b, hb, rfl⟩ := hc
    exact ⟨hle.1, hle.2, hrs, _, hbody, .inr ⟨t, id, ops, o, rest, cl, rfl, rfl, hops, hop, hdst, hgd, hcal, hargs, ht.1, ht.2, hb⟩⟩
  · simp only [Option.map_eq_some_iff] at hc
    obtain ⟨b, hb, rfl⟩ := hc
    exact ⟨hle.1, hle.2, hrs, _, hbody, .inl ⟨rfl, hb⟩⟩

theorem get_start : ∀ (k : Nat) (vs : List IV) (t : Nat), (startI k vs).get t = if k ≤ t then vs[t - k]? else none
  | k, [], t => by simp [startI, Env.get]
  | k, v :: vs, t => by
    simp only [startI, Env.get]
    rw [get_start (k + 1) vs t]
    by_cases hk : k = t
    · subst hk; simp
    · rw [if_neg hk]
      by_cases hle : k ≤ t
      · rw [if_pos hle, if_pos (by omega)]
        rw [show t - k = (t - (k + 1)) + 1 by omega]
        simp
      · rw [if_neg hle, if_neg (by omega)]
theorem start_rel {args : List IV} {args' : Array Value} (hr : VRels φ C args args') (hn : args.length ≤ N) (hN : N < DK) : FRel φ C N (startI 0 args) { tmps := args' ++ Array.replicate (N - args'.size) undef, defers := [] } := by
  refine ⟨?_, ?_, ?_⟩
  · intro t v ht hv
    rw [get_start] at hv
    simp only [Nat.zero_le, if_true, Nat.sub_zero] at hv
    obtain ⟨x, hx, hxr⟩ := hr.getD hv
    refine ⟨x, ?_, hxr⟩
    simp only
    rw [Array.getElem?_append_left (Array.getElem?_eq_some_iff.1 hx).1]
    exact hx
  · simp only [Array.size_append, Array.size_replicate]
    rw [← hr.1]; omega
  · unfold DRel
    rw [get_start]
    simp only [Nat.zero_le, if_true, Nat.sub_zero]
    rw [List.getElem?_eq_none (by omega)]
    trivial

theorem results_run (r : Rel φ C h w) (he : EnvRel φ C e a) {fn : Func} {rs : List IResult} {vs : List IV} (hc : cres P fn.results.toList = some rs) (hv : resultI e h rs = some vs) :
    ∃ x, (results fn a.tmps).run P w = .ok x w ∧ VRel φ C (one? vs) x := by
  have key : ∀ (l : List ResultVar) (rs : List IResult) (vs : List IV), cres P l = some rs → resultI e h rs = some vs →
      ∃ xs : List Value, (l.mapM (m := Sem) fun | .tmp t => pure (a.tmps.getD t undef) | .cell c t => do loadVar t (← asAddr (a.tmps.getD c undef))).run P w = .ok xs w ∧ VRels φ C vs xs.toArray := by
    intro l
    induction l with
    | nil =>
      intro rs vs hc hv
      simp [cres] at hc; subst hc
      simp [resultI] at hv; subst hv
      exact ⟨[], rfl, .nil⟩
    | cons rv l ih =>
      intro rs vs hc hv
      have fin : ∀ (r0 : IResult) (rs' : List IResult) (v : IV) (vs' : List IV) (x : Value), rs = r0 :: rs' → cres P l = some rs' → vs = v :: vs' → resultI e h rs' = some vs' → VRel φ C v x →
          ((match rv with | .tmp t => pure (a.tmps.getD t undef) | .cell c t => do loadVar t (← asAddr (a.tmps.getD c undef)) : Sem Value)).run P w = .ok x w →
          ∃ xs : List Value, ((rv :: l).mapM (m := Sem) fun | .tmp t => pure (a.tmps.getD t undef) | .cell c t => do loadVar t (← asAddr (a.tmps.getD c undef))).run P w = .ok xs w ∧ VRels φ C vs xs.toArray := by
        intro r0 rs' v vs' x _ h2 h3 h4 h5 h6
        obtain ⟨xs, hxs, hr⟩ := ih rs' vs' h2 h4
        refine ⟨x :: xs, ?_, by rw [h3]; exact .cons h5 hr⟩
        simp only [List.mapM_cons, Sem.run_bind, hxs, Result.andThen_ok, Sem.run_pure]
        cases rv with
        | tmp t => simp only at h6 ⊢; rw [h6]; simp only [Result.andThen_ok, hxs]
        | cell c t => simp only [Sem.run_bind] at h6 ⊢; rw [h6]; simp only [Result.andThen_ok, hxs]
      cases rv with
      | tmp t =>
        simp only [cres] at hc
        split at hc
        case h_2 => cases hc
        rename_i is his
        split at hc <;> simp at hc
        rename_i hlt
        subst hc
        simp only [resultI] at hv
        split at hv <;> simp at hv
        rename_i v vs' hv1 hv2
        subst hv
        obtain ⟨x, hx, hxr⟩ := he t v hlt hv1
        exact fin _ is v vs' x rfl his rfl hv2 hxr (by simp [Array.getD_eq_getD_getElem?, hx])
      | cell c ty =>
        simp only [cres] at hc
        split at hc
        · rename_i n is hag hn his
          split at hc <;> simp at hc
          rename_i hlt
          subst hc
          simp only [resultI] at hv
          split at hv <;> simp at hv
          rename_i v vs' hv1 hv2
          subst hv
          split at hv1
          case h_2 => cases hv1
          rename_i p hp
          simp only [Option.map_eq_some_iff] at hv1
          obtain ⟨us, hus, rfl⟩ := hv1
          obtain ⟨y, hy, hyr⟩ := he c p hlt hp
          obtain ⟨ad, xs, rfl, hlen, hxr, hrun⟩ := r.loadN (P := P) hyr hus
          refine fin _ is _ vs' (.agg xs) rfl his rfl hv2 (.agg hxr.1 hxr.2) ?_
          simp [Array.getD_eq_getD_getElem?, hy, asAddr, loadVar, run_agg hag, run_size hn, hrun]
        · rename_i n is hag hn his
          split at hc <;> simp at hc
          rename_i hlt
          subst hc
          simp only [resultI] at hv
          split at hv <;> simp at hv
          rename_i v vs' hv1 hv2
          subst hv
          split at hv1
          case h_2 => cases hv1
          rename_i p hp
          obtain ⟨y, hy, hyr⟩ := he c p hlt hp
          obtain ⟨ad, z, rfl, _, hcell, hzr⟩ := r.load1 hyr hv1
          refine fin _ is _ vs' z rfl his rfl hv2 hzr ?_
          simp [Array.getD_eq_getD_getElem?, hy, asAddr, loadVar, run_agg hag, hcell]
        · cases hc
  obtain ⟨xs, hrun, hr⟩ := key _ rs vs hc hv
  have hm : (fn.results.mapM (m := Sem) fun | .tmp t => pure (a.tmps.getD t undef) | .cell c t => do loadVar t (← asAddr (a.tmps.getD c undef))).run P w = .ok xs.toArray w := by
    rw [Array.mapM_eq_mapM_toList]
    simp only [Sem.run_map]
    rw [hrun]; rfl
  unfold results
  simp only [Sem.run_bind]
  have hm' := hm
  refine ⟨if h : xs.toArray.size = 1 then xs.toArray[0] else .tuple xs.toArray, ?_, ?_⟩
  · erw [hm']
    simp only [Result.andThen_ok, Sem.run_pure]
  · match vs, xs, hr with
    | [], [], hr => simp [one?]; exact .tup hr.1 hr.2
    | [v], [x], hr => simp [one?]; exact hr.get (i := 0) rfl rfl
    | v :: v2 :: vs, x :: x2 :: xs, hr => simp [one?]; exact .tup (by simpa using hr.1) (by simpa using hr.2)
    | [], x :: xs, hr => have hl := hr.1; simp at hl
    | v :: vs, [], hr => have hl := hr.1; simp at hl
    | [v], x :: x2 :: xs, hr => have hl := hr.1; simp at hl
    | v :: v2 :: vs, [x], hr => have hl := hr.1; simp at hl

/-- A deferred function that recovers first. -/
theorem deferred_sound (hO : ∀ f, Sim P f (O f)) (hmix : P.follows .mixedOrders = true) {g : FuncId} {G : IFunc} (hG : Compiled P g G) {caps : List IV} {caps' : Array Value} {v : IV} {x : Value} (r : Rel φ C h w) (hcaps : VRels φ C caps caps')
    (hd : deferredI O fuel G caps v h = some h') {u u' : FrameMode} (hx : VRel φ C v x)
    (hu : (u = .returning ∧ x = .nilIface ∧ u' = .returning) ∨ ∃ c, u = .panicking [{ v := x, recovered := false }] ∧ u' = .panicking [{ v := x, recovered := true }] ∧ c = ())
    (R : Ending → FrameMode → World → Prop) (hR : ∀ y w' φ' C', Ext φ C h w φ' C' h' w' → Rel φ' C' h' w' → R (.returned y) u' w') : CallsD P g caps' u w R := by
  obtain ⟨fn, hfn, hcf⟩ := hG
  obtain ⟨_, hle, hN, hres, c, hbody, hcase⟩ := cfunc_ok hcf
  unfold deferredI at hd
  split at hd
  · cases hd
  rename_i t ht
  rcases hcase with ⟨hnone, _⟩ | ⟨t', id, ops, o, rest, cl, ht', rfl, hops, hop, hdst, hgd, hcal, hargs, htN, htn, hcc⟩
  · rw [hnone] at ht; cases ht
  rw [ht'] at ht; cases ht
  split at hd
  case isFalse => cases hd
  rename_i hcond
  simp only [Bool.and_eq_true, decide_eq_true_eq] at hcond
  obtain ⟨hlen, hempty⟩ := hcond
  have hrs0 : G.results = [] := by simpa using hempty
  have hops' : ops = #[o] := by rw [← Array.toArray_toList (xs := ops), hops]
  have hargs' : cl.args = #[] := by rw [← Array.toArray_toList (xs := cl.args), hargs]
  have hstart := start_rel (N := fn.ntmps) hcaps (by omega) hN
  refine callsD_of_wpS hfn hbody fun c₀ cs hmode => ?_
  refine wpS_seq (wpS_region ?_)
  have hrec : (execOp (Act.eval { tmps := caps' ++ Array.replicate (fn.ntmps - caps'.size) undef, defers := [] }) o).run P w = .ok .recover w := by
    unfold execOp
    rw [hop]
    simp only
    rw [call_builtin hcal]
    rfl
  let a0 : Act := { tmps := caps' ++ Array.replicate (fn.ntmps - caps'.size) undef, defers := [] }
  have hput : FRel φ C fn.ntmps ((startI 0 caps).put t v) (a0.put (some t) x) := hstart.puto (d := some t) (fun u hu => by cases hu; exact ⟨htN, by omega⟩) hx
  -- the rest of the body, with the caller in mode u'
  have main : rest.wp P (fun e a' w' => bodyPostS P fn c₀ cs R e a' ({ c₀ with mode := u' } :: cs) w') (a0.put (some t) x) w := by
    refine code_sound (fuel := fuel) hO hmix rest hcc r hput ?_
    have fin : ∀ (xx : IExit) (e1 : Env), (xx = .normal ∨ xx = .ret) → ∀ h1, (match e1.get DK with | none => some h1 | some _ => none) = some h' → PostC φ C h w fn.ntmps (fun e a' w' => bodyPostS P fn c₀ cs R e a' ({ c₀ with mode := u' } :: cs) w') (.ok xx e1 h1) := by
      intro xx e1 hxx h1 hdk
      split at hdk
      case h_2 => cases hdk
      rename_i hdk'
      cases hdk
      intro φ' C' a' w' hext hrel hf'
      have hdf : a'.defers = [] := by
        have := hf'.defers
        unfold DRel at this
        rw [hdk'] at this
        exact this
      obtain ⟨y, hy, _⟩ := results_run (P := P) (fn := fn) (rs := G.results) (vs := []) hrel hf'.env hres (by rw [hrs0]; rfl)
      rcases hxx with rfl | rfl
      · exact ⟨hdf, u', rfl, y, hy, hR y w' φ' C' hext hrel⟩
      · exact ⟨hdf, u', rfl, y, hy, hR y w' φ' C' hext hrel⟩
    split at hd
    · rename_i e1 h1 hres1
      rw [hres1]; exact fin .normal e1 (.inl rfl) h1 hd
    · rename_i e1 h1 hres1
      rw [hres1]; exact fin .ret e1 (.inr rfl) h1 hd
    · cases hd
  have hrange : List.range ops.size = [0] := by rw [hops']; rfl
  rw [hrange]
  have h0 : ops[0]? = some o := by rw [hops']; rfl
  have hw : Region.wanted o (yielded ops a0.tmps) = true := by unfold Region.wanted; rw [hgd]
  simp only [wpOpsS, h0]
  rw [if_pos hw, hrec]
  simp only
  rcases hu with ⟨rfl, rfl, rfl⟩ | ⟨_, rfl, rfl, _⟩
  · have hrd : recoverD (c₀ :: cs) = none := by simp [recoverD, hmode]
    rw [hrd]
    simp only [Exit.thenS, hdst]
    refine wpS_of_wp ?_
    have hc0 : ({ c₀ with mode := .returning } : Frame) = c₀ := by rw [← hmode]
    rw [hc0] at main
    exact main
  · have hrd : recoverD (c₀ :: cs) = some (x, { c₀ with mode := .panicking [{ v := x, recovered := true }] } :: cs) := by simp [recoverD, hmode]
    rw [hrd]
    simp only [Exit.thenS, hdst]
    exact wpS_of_wp main

theorem body_sound {T : FuncId → Option IFunc} (hT : ∀ f F, T f = some F → Compiled P f F) (hO : ∀ f, Sim P f (O f)) (hmix : P.follows .mixedOrders = true) {f : FuncId} {F : IFunc} (hF : Compiled P f F) : Sim P f (bodyI T O fuel F) := by
  obtain ⟨fn, hfn, hcf⟩ := hF
  obtain ⟨hname, hle, hN, hres, c, hbody, hcase⟩ := cfunc_ok hcf
  have henters : Enters P f := ⟨fn, hfn, by rw [hbody]; rfl, by simpa using hname⟩
  have hcode : F.recT = none → ccode P fn.ntmps c = some F.body := by
    intro hn
    rcases hcase with ⟨_, h⟩ | ⟨t, id, ops, o, rest, cl, ht, _⟩
    · exact h
    · rw [hn] at ht; cases ht
  -- what is left to do behind the body: the deferred call, the results
  have leave : ∀ {φ : Phi} {C : Con} {h : IHeap} {w : World} {e : Env} {a : Act} {hh : IHeap} {v : IV} {R : Ending → World → Prop}, Rel φ C h w → FRel φ C fn.ntmps e a →
      doneI F e hh = .ok v hh → hh = h → (∀ x, VRel φ C v x → R (.returned x) w) → e.get DK = none → Leaves P fn a.tmps R a.defers .returning w := by
    intro φ C h w e a hh v R r hf hdone hhe hR hdk
    subst hhe
    have hdf : a.defers = [] := by have := hf.defers; unfold DRel at this; rw [hdk] at this; exact this
    rw [hdf]
    unfold doneI at hdone
    split at hdone <;> simp at hdone
    rename_i vs hvs
    obtain ⟨x, hx, hxr⟩ := results_run (P := P) (fn := fn) r hf.env hres hvs
    subst hdone
    exact ⟨x, hx, hR x hxr⟩
  have leaveD : ∀ {φ : Phi} {C : Con} {h : IHeap} {w : World} {e : Env} {a : Act} {h2 : IHeap} {v pv : IV} {px : Value} {R : Ending → World → Prop} {u u' : FrameMode} {g : FuncId} {caps : List IV} {G : IFunc}, Rel φ C h w → FRel φ C fn.ntmps e a →
      e.get DK = some (.func (.func g) [] caps) → T g = some G → deferredI O fuel G caps pv h = some h2 → doneI F e h2 = .ok v h2 → VRel φ C pv px →
      ((u = .returning ∧ px = .nilIface ∧ u' = .returning) ∨ ∃ c, u = .panicking [{ v := px, recovered := false }] ∧ u' = .panicking [{ v := px, recovered := true }] ∧ c = ()) →
      (∀ x w' φ' C', VRel φ' C' v x → Ext φ C h w φ' C' h2 w' → Rel φ' C' h2 w' → R (.returned x) w') → Leaves P fn a.tmps R a.defers u w := by
    intro φ C h w e a h2 v pv px R u u' g caps G r hf hdk hTg hd hdone hpx hu hR
    have hdr := hf.defers
    unfold DRel at hdr
    rw [hdk] at hdr
    obtain ⟨g', caps0, caps', heq, hds, hcr⟩ := hdr
    cases heq
    rw [hds]
    obtain ⟨gfn, hgfn, hgc⟩ := hT g G hTg
    obtain ⟨hgname, _, _, _, gc, hgbody, _⟩ := cfunc_ok hgc
    refine leaves_cons (f := g) (args := caps') (by rcases hu with ⟨rfl, _⟩ | ⟨_, rfl, _⟩ <;> simp) ?_ ?_
    · simp [invoke, callFunc, hgfn, hgname, hgbody]
    · refine deferred_sound hO hmix ⟨gfn, hgfn, hgc⟩ r hcr hd hpx hu _ fun y w' φ' C' hext hrel => ?_
      have hset : settle u' = .returning := by rcases hu with ⟨_, _, rfl⟩ | ⟨_, _, rfl, _⟩ <;> rfl
      show Leaves P fn a.tmps R [] (settle u') w'
      rw [hset]
      unfold doneI at hdone
      split at hdone <;> simp at hdone
      rename_i vs hvs
      obtain ⟨x, hx, hxr⟩ := results_run (P := P) (fn := fn) hrel (hf.mono hext).env hres hvs
      subst hdone
      exact ⟨x, hx, hR x w' φ' C' hxr hext hrel⟩
  refine ⟨.inr henters, ?_, ?_⟩
  · intro φ C h w args args' v h' r hargs hok
    unfold bodyI at hok
    by_cases hcond : args.length ≠ F.nparams || F.recT.isSome
    · rw [if_pos hcond] at hok; cases hok
    rw [if_neg hcond] at hok
    simp only [ne_eq, decide_not, Bool.or_eq_true, Bool.not_eq_true', decide_eq_false_iff_not, not_or, Decidable.not_not, Bool.not_eq_true, Option.isSome_eq_false_iff, Option.isNone_iff_eq_none] at hcond
    obtain ⟨hlen, hrec⟩ := hcond
    have hstart := start_rel (N := fn.ntmps) hargs (by omega) hN
    refine calls_of_wp_defers hfn hbody (code_sound (fuel := fuel) hO hmix c (hcode hrec) r hstart ?_)
    split at hok
    · cases hok
    · rename_i xx e1 h1 hno hres1
      rw [hres1]
      have hxx : xx = .normal ∨ xx = .ret := by
        cases xx with
        | normal => exact .inl rfl
        | ret => exact .inr rfl
        | exit id => exact absurd rfl (hno id)
      have post : ∀ φ' C' a' w', Ext φ C h w φ' C' h1 w' → Rel φ' C' h1 w' → FRel φ' C' fn.ntmps e1 a' →
          Leaves P fn a'.tmps (fun e w' => ∃ x φ' C', e = .returned x ∧ VRel φ' C' v x ∧ Ext φ C h w φ' C' h' w' ∧ Rel φ' C' h' w') a'.defers .returning w' := by
        intro φ' C' a' w' hext hrel hf'
        split at hok
        · rename_i hdk
          have hh : h1 = h' := by unfold doneI at hok; split at hok <;> simp at hok; exact hok.2
          subst hh
          exact leave hrel hf' hok rfl (fun x hx => ⟨x, φ', C', rfl, hx, hext, hrel⟩) hdk
        · rename_i g caps hdk
          split at hok
          case h_2 => cases hok
          rename_i G hTg
          split at hok
          case h_2 => cases hok
          rename_i h2 hd
          have hh : h2 = h' := by unfold doneI at hok; split at hok <;> simp at hok; exact hok.2
          subst hh
          exact leaveD hrel hf' hdk hTg hd hok (.nili) (.inl ⟨rfl, rfl, rfl⟩) (fun x w'' φ'' C'' hx he hr => ⟨x, φ'', C'', rfl, hx, hext.trans he, hr⟩)
        · cases hok
      rcases hxx with rfl | rfl
      · exact post
      · exact post
    · rename_i pv e1 h1 hres1
      rw [hres1]
      intro φ' C' a' w' y hext hrel hf' hy
      split at hok
      · cases hok
      · rename_i g caps hdk
        split at hok
        case h_2 => cases hok
        rename_i G hTg
        split at hok
        case h_2 => cases hok
        rename_i h2 hd
        have hh : h2 = h' := by unfold doneI at hok; split at hok <;> simp at hok; exact hok.2
        subst hh
        exact leaveD hrel hf' hdk hTg hd hok hy (.inr ⟨(), rfl, rfl, rfl⟩) (fun x w'' φ'' C'' hx he hr => ⟨x, φ'', C'', rfl, hx, hext.trans he, hr⟩)
      · cases hok
    · cases hok
  · intro φ C h w args args' v h' r hargs hok
    unfold bodyI at hok
    by_cases hcond : args.length ≠ F.nparams || F.recT.isSome
    · rw [if_pos hcond] at hok; cases hok
    rw [if_neg hcond] at hok
    simp only [ne_eq, decide_not, Bool.or_eq_true, Bool.not_eq_true', decide_eq_false_iff_not, not_or, Decidable.not_not, Bool.not_eq_true, Option.isSome_eq_false_iff, Option.isNone_iff_eq_none] at hcond
    obtain ⟨hlen, hrec⟩ := hcond
    have hstart := start_rel (N := fn.ntmps) hargs (by omega) hN
    refine calls_of_wp_defers hfn hbody (code_sound (fuel := fuel) hO hmix c (hcode hrec) r hstart ?_)
    split at hok
    · cases hok
    · exfalso
      split at hok
      · unfold doneI at hok; split at hok <;> cases hok
      · split at hok
        · split at hok
          · unfold doneI at hok; split at hok <;> cases hok
          · cases hok
        · cases hok
      · cases hok
    · rename_i pv e1 h1 hres1
      rw [hres1]
      intro φ' C' a' w' y hext hrel hf' hy
      split at hok
      · rename_i hdk
        cases hok
        have hdf : a'.defers = [] := by have := hf'.defers; unfold DRel at this; rw [hdk] at this; exact this
        show Leaves P fn a'.tmps _ a'.defers (.panicking [_]) w'
        rw [hdf]
        exact ⟨y, φ', C', rfl, hy, hext, hrel⟩
      · exfalso
        split at hok
        · split at hok
          · unfold doneI at hok; split at hok <;> cases hok
          · cases hok
        · cases hok
      · cases hok
    · cases hok

theorem Sim.fail (f : FuncId) : Sim P f (fun _ _ => .fail) := ⟨.inl fun _ _ => rfl, by intros; contradiction, by intros; contradiction⟩
/-- Calls, nested. B: what is known otherwise. -/
theorem icall_sound {T : FuncId → Option IFunc} {B : FuncId → Option (List IV → M IV)} (hT : ∀ f F, T f = some F → Compiled P f F) (hB : ∀ f G, B f = some G → Sim P f G) (hmix : P.follows .mixedOrders = true) (fuel : Nat) : ∀ (n : Nat) (f : FuncId), Sim P f (icall T B fuel n f)
  | 0, f => Sim.fail f
  | n + 1, f => by
    have ih := icall_sound hT hB hmix fuel n
    cases hb : B f with
    | some G =>
      have : icall T B fuel (n + 1) f = G := by funext args h; simp [icall, hb]
      rw [this]; exact hB f G hb
    | none =>
      cases ht : T f with
      | some F =>
        have : icall T B fuel (n + 1) f = bodyI T (icall T B fuel n) fuel F := by funext args h; simp [icall, hb, ht]
        rw [this]; exact body_sound hT ih hmix (hT f F ht)
      | none =>
        have : icall T B fuel (n + 1) f = fun _ _ => .fail := by funext args h; simp [icall, hb, ht]
        rw [this]; exact Sim.fail f
end
end Go.Proofs.YtadeojgiiapljaaGreat.Im
namespace Go.Proofs.YtadeojgiiapljaaGreat.Im
open Go

mutual
def IV.ren (r : Nat → Nat) : IV → IV
  | .ptr b o => .ptr (r b) o
  | .slice b o l c => .slice (r b) o l c
  | .aslice b o l s => .aslice (r b) o l s
  | .map b => .map (r b)
  | .cptr cs => .cptr (IV.rens r cs)
  | .cslice cs n => .cslice (IV.rens r cs) n
  | .func f a c => .func f (IV.rens r a) (IV.rens r c)
  | .iface t v => .iface t (IV.ren r v)
  | .agg cs => .agg (IV.rens r cs)
  | .tup cs => .tup (IV.rens r cs)
  | .bool b => .bool b
  | .int k n => .int k n
  | .str s => .str s
  | .nilp => .nilp
  | .nils => .nils
  | .nilm => .nilm
  | .nilf => .nilf
  | .nili => .nili
def IV.rens (r : Nat → Nat) : List IV → List IV
  | [] => []
  | v :: vs => IV.ren r v :: IV.rens r vs
end
theorem rens_length (r : Nat → Nat) : ∀ vs, (IV.rens r vs).length = vs.length
  | [] => by simp [IV.rens]
  | v :: vs => by simp [IV.rens, rens_length r vs]
theorem rens_get (r : Nat → Nat) : ∀ (vs : List IV) (i : Nat), (IV.rens r vs)[i]? = (vs[i]?).map (IV.ren r)
  | [], i => by simp [IV.rens]
  | v :: vs, 0 => by simp [IV.rens]
  | v :: vs, i + 1 => by simp [IV.rens, rens_get r vs i]
theorem rens_map (r : Nat → Nat) : ∀ (vs : List IV), IV.rens r vs = vs.map (IV.ren r)
  | [] => by simp [IV.rens]
  | v :: vs => by simp [IV.rens, rens_map r vs]
def IObj.ren (r : Nat → Nat) : IObj → IObj
  | .row cells => .row (IV.rens r cells)
  | .map es clock => .map (es.map fun x => ⟨x.key.ren r, x.val.ren r, x.born⟩) clock
  | .dead => .dead

section
variable {φ φ' ψ : Phi} {C C' : Con} {r : Nat → Nat}
mutual
theorem VRel.unren : ∀ (v : IV) {x : Value}, VRel φ C (v.ren r) x → VRel (fun b => φ (r b)) C v x
  | .ptr b o, x, h => by simp only [IV.ren] at h; cases h with | ptr h => exact .ptr h
  | .slice b o l c, x, h => by simp only [IV.ren] at h; cases h with | slice h => exact .slice h
  | .aslice b o l s, x, h => by simp only [IV.ren] at h; cases h with | aslice h h1 h2 => exact .aslice h h1 h2
  | .map b, x, h => by simp only [IV.ren] at h; cases h with | map h => exact .map h
  | .cptr cs, x, h => by
    simp only [IV.ren] at h
    cases h with
    | cptr hb hl hc =>
      rw [rens_length] at hl
      refine .cptr hb hl fun i hi => ?_
      have h1 := hc i (by rw [rens_length]; exact hi)
      exact VRels.unren cs i hi h1
  | .cslice cs n, x, h => by
    simp only [IV.ren] at h
    generalize hr : IV.rens r cs = rs at h
    cases h with
    | cempty =>
      cases cs with
      | nil => exact .cempty
      | cons _ _ => simp [IV.rens] at hr
    | cslice hb hl hk hc =>
      subst hr
      rw [rens_length] at hl
      refine .cslice hb hl hk fun i hi => ?_
      have h1 := hc i (by rw [rens_length]; exact hi)
      exact VRels.unren cs i hi h1
  | .func f a c, x, h => by
    simp only [IV.ren] at h
    cases h with
    | func ha hc hra hrc =>
      rw [rens_length] at ha hc
      exact .func ha hc (fun i hi => VRels.unren a i hi (hra i (by rw [rens_length]; exact hi))) (fun i hi => VRels.unren c i hi (hrc i (by rw [rens_length]; exact hi)))
  | .iface t v, x, h => by
    simp only [IV.ren] at h
    cases h with
    | iface h => exact .iface (VRel.unren v h)
  | .agg cs, x, h => by
    simp only [IV.ren] at h
    cases h with
    | agg hl hr =>
      rw [rens_length] at hl
      exact .agg hl fun i hi => VRels.unren cs i hi (hr i (by rw [rens_length]; exact hi))
  | .tup cs, x, h => by
    simp only [IV.ren] at h
    cases h with
    | tup hl hr =>
      rw [rens_length] at hl
      exact .tup hl fun i hi => VRels.unren cs i hi (hr i (by rw [rens_length]; exact hi))
  | .bool b, x, h => by simp only [IV.ren] at h; cases h; exact .bool b
  | .int k n, x, h => by simp only [IV.ren] at h; cases h; exact .int k n
  | .str s, x, h => by simp only [IV.ren] at h; cases h; exact .str s
  | .nilp, x, h => by simp only [IV.ren] at h; cases h; exact .nilp
  | .nils, x, h => by simp only [IV.ren] at h; cases h; exact .nils
  | .nilm, x, h => by simp only [IV.ren] at h; cases h; exact .nilm
  | .nilf, x, h => by simp only [IV.ren] at h; cases h; exact .nilf
  | .nili, x, h => by simp only [IV.ren] at h; cases h; exact .nili
theorem VRels.unren : ∀ (vs : List IV) (i : Nat) (hi : i < vs.length) {x : Value} {hi' : i < (IV.rens r vs).length}, VRel φ C (IV.rens r vs)[i] x → VRel (fun b => φ (r b)) C vs[i] x
  | [], i, hi, x, hi', h => by simp at hi
  | v :: vs, 0, hi, x, hi', h => VRel.unren v (by simpa [IV.rens] using h)
  | v :: vs, i + 1, hi, x, hi', h => by
    have := VRels.unren vs i (by simpa using hi) (x := x) (hi' := by rw [rens_length]; simpa using hi) (by simpa [IV.rens] using h)
    simpa using this
end

/-- What is related in two ways. -/
theorem VRel.both (hψ : ∀ b p, φ b = some p → ψ b = φ' b) {v : IV} {x y : Value} (h : VRel φ C v x) (h' : VRel φ' C' v y) : VRel ψ C' v y := by
  induction h generalizing y with
  | bool b => cases h'; exact .bool b
  | int k n => cases h'; exact .int k n
  | str s => cases h'; exact .str s
  | nilp => cases h'; exact .nilp
  | ptr h => cases h' with | ptr h2 => exact .ptr (by rw [hψ _ _ h]; exact h2)
  | cptr h hl _ ih => cases h' with | cptr h2 hl2 hc2 => exact .cptr h2 hl2 fun i hi => ih i hi (hc2 i hi)
  | nils => cases h'; exact .nils
  | slice h => cases h' with | slice h2 => exact .slice (by rw [hψ _ _ h]; exact h2)
  | aslice h hl hr => cases h' with | aslice h2 a b => exact .aslice (by rw [hψ _ _ h]; exact h2) a b
  | cslice h hl hk _ ih => cases h' with | cslice h2 hl2 hk2 hc2 => exact .cslice h2 hl2 hk2 (fun i hi => ih i hi (hc2 i hi)) | cempty => exact .cempty
  | cempty => cases h' with | cslice h2 hl2 hk2 hc2 => exact .cslice h2 hl2 hk2 (fun i hi => by simp at hi) | cempty => exact .cempty
  | nilm => cases h'; exact .nilm
  | map h => cases h' with | map h2 => exact .map (by rw [hψ _ _ h]; exact h2)
  | func ha hc _ _ i1 i2 => cases h' with | func ha' hc' h1 h2 => exact .func ha' hc' (fun i hi => i1 i hi (h1 i hi)) (fun i hi => i2 i hi (h2 i hi))
  | nilf => cases h'; exact .nilf
  | iface _ ih => cases h' with | iface h2 => exact .iface (ih h2)
  | nili => cases h'; exact .nili
  | agg hl _ ih => cases h' with | agg hl2 h2 => exact .agg hl2 fun i hi => ih i hi (h2 i hi)
  | tup hl _ ih => cases h' with | tup hl2 h2 => exact .tup hl2 fun i hi => ih i hi (h2 i hi)
end

/-- A block is named in a value. -/
inductive Occ (y : Nat) : IV → Prop
  | ptr (o : Nat) : Occ y (.ptr y o)
  | slice (o l c : Nat) : Occ y (.slice y o l c)
  | aslice (o l s : Nat) : Occ y (.aslice y o l s)
  | map : Occ y (.map y)
  | agg {cs : List IV} {c : IV} (h : c ∈ cs) (hc : Occ y c) : Occ y (.agg cs)
  | tup {cs : List IV} {c : IV} (h : c ∈ cs) (hc : Occ y c) : Occ y (.tup cs)
  | cap {fn : Fn} {a c : List IV} {v : IV} (h : v ∈ c) (hv : Occ y v) : Occ y (.func fn a c)
  | first {fn : Fn} {a c : List IV} {v : IV} (h : v ∈ a) (hv : Occ y v) : Occ y (.func fn a c)
  | iface {t : TypeId} {v : IV} (hv : Occ y v) : Occ y (.iface t v)
theorem Occ.phi {φ : Phi} {C : Con} {y : Nat} {v : IV} (o : Occ y v) : ∀ {x : Value}, VRel φ C v x → φ y ≠ none := by
  induction o with
  | ptr o => intro x h; cases h with | ptr h => simp [h]
  | slice o l c => intro x h; cases h with | slice h => simp [h]
  | aslice o l c => intro x h; cases h with | aslice h => simp [h]
  | map => intro x h; cases h with | map h => simp [h]
  | agg h _ ih => intro x hx; cases hx with | agg hl hr => obtain ⟨i, hi, rfl⟩ := List.getElem_of_mem h; exact ih (hr i hi)
  | tup h _ ih => intro x hx; cases hx with | tup hl hr => obtain ⟨i, hi, rfl⟩ := List.getElem_of_mem h; exact ih (hr i hi)
  | cap h _ ih => intro x hx; cases hx with | func _ _ _ hr => obtain ⟨i, hi, rfl⟩ := List.getElem_of_mem h; exact ih (hr i hi)
  | first h _ ih => intro x hx; cases hx with | func _ _ hr _ => obtain ⟨i, hi, rfl⟩ := List.getElem_of_mem h; exact ih (hr i hi)
  | iface _ ih => intro x hx; cases hx with | iface h => exact ih h
/-- A block that the arguments lead to. -/
inductive Reach (h : IHeap) (args : List IV) : Nat → Prop
  | arg {y : Nat} {v : IV} (hv : v ∈ args) (ho : Occ y v) : Reach h args y
  | row {b y : Nat} {cells : List IV} {v : IV} (hb : Reach h args b) (hg : h.get b = some (.row cells)) (hv : v ∈ cells) (ho : Occ y v) : Reach h args y
theorem Reach.phi {φ : Phi} {C : Con} {h : IHeap} {w : World} {args : List IV} {args' : Array Value} (r : Rel φ C h w) (ha : VRels φ C args args') {y : Nat} (hr : Reach h args y) : φ y ≠ none := by
  induction hr with
  | arg hv ho => obtain ⟨i, hi, rfl⟩ := List.getElem_of_mem hv; exact ho.phi (ha.2 i hi)
  | row hb hg hv ho ih =>
    rename_i b y cells v
    cases hp : φ b with
    | none => exact absurd hp ih
    | some p =>
      obtain ⟨cs, E, _, _, _, hc⟩ := r.row b p cells hp hg
      obtain ⟨i, hi, rfl⟩ := List.getElem_of_mem hv
      obtain ⟨x, _, hx⟩ := hc i cells[i] (by simp [hi])
      exact ho.phi hx

/-- h1 tells of h2 what counts, by other numbers. -/
structure Ren (args : List IV) (h : IHeap) (r : Nat → Nat) (h1 h2 : IHeap) : Prop where
  n1 : h.n ≤ h1.n
  old : ∀ b, b < h.n → r b = b
  new : ∀ b, h.n ≤ b → h.n ≤ r b
  out : ∀ b, h1.n ≤ b → h2.n ≤ r b
  inj : ∀ b c, b < h1.n → c < h1.n → r b = r c → b = c
  obj : ∀ b o, h1.get b = some o → o = .dead ∨ h2.get (r b) = some (o.ren r) ∨ (b < h.n ∧ h.get b = some o ∧ h2.get b = some o)
  reach : ∀ b, b < h.n → h1.get b = h.get b ∨ Reach h args b

section
variable {P : Program} {φ φ' : Phi} {C C' : Con} {h h1 h2 : IHeap} {w w' : World} {args : List IV} {args' : Array Value} {r : Nat → Nat}
theorem Ren.live (hr : Ren args h r h1 h2) {b : Nat} (hl : Live h1 b) : Live h2 (r b) := by
  obtain ⟨o, ho, hd⟩ := hl
  rcases hr.obj b o ho with h | h | ⟨hb, _, h⟩
  · exact absurd h hd
  · refine ⟨_, h, ?_⟩
    cases o <;> simp [IObj.ren] at hd ⊢
  · rw [hr.old b hb]; exact ⟨o, h, hd⟩
theorem Ren.rel (hr : Ren args h r h1 h2) (rl : Rel φ C h w) (x : Ext φ C h w φ' C' h2 w') (rl' : Rel φ' C' h2 w') : Rel (fun b => φ' (r b)) C' h1 w' := by
  have hlt : ∀ b p, φ' (r b) = some p → b < h1.n := fun b p hb => by
    rcases Nat.lt_or_ge b h1.n with h | h
    · exact h
    · have := (rl'.dom _ _ hb).1; have := hr.out b h; omega
  have hboth : ∀ b p, φ b = some p → φ' (r b) = φ' b := fun b p hb => by rw [hr.old b (rl.dom b p hb).1]
  have hphi : ∀ b p, b < h.n → φ' b = some p → φ b = some p := fun b p hb hp => by
    cases hq : φ b with
    | none => have := (x.out b hb hq).1; rw [this] at hp; cases hp
    | some q => have := x.phi b q hq; rw [this] at hp; cases hp; rfl
  refine ⟨fun b p hb => ⟨hlt b p hb, (rl'.dom _ _ hb).2⟩, fun b p hb hl => rl'.live _ _ hb (hr.live hl), ?_, ?_, ?_, rl'.con⟩
  · intro b c p q hb hc he lb lc
    exact hr.inj b c (hlt b p hb) (hlt c q hc) (rl'.inj _ _ p q hb hc he (hr.live lb) (hr.live lc))
  · intro b p cells hb hg
    rcases hr.obj b _ hg with h | h | ⟨hbn, ho, h⟩
    · cases h
    · obtain ⟨cs, E, h1, h2, h3, h4⟩ := rl'.row _ p _ hb h
      rw [rens_length] at h3
      refine ⟨cs, E, h1, h2, h3, fun i v hv => ?_⟩
      obtain ⟨y, hy, hyr⟩ := h4 i (v.ren r) (by rw [rens_get, hv]; rfl)
      exact ⟨y, hy, VRel.unren v hyr⟩
    · rw [hr.old b hbn] at hb
      have hq := hphi b p hbn hb
      obtain ⟨cs, E, h1, h2, h3, h4⟩ := rl'.row _ p _ hb h
      obtain ⟨cs0, E0, _, _, _, h40⟩ := rl.row _ p _ hq ho
      refine ⟨cs, E, h1, h2, h3, fun i v hv => ?_⟩
      obtain ⟨y, hy, hyr⟩ := h4 i v hv
      obtain ⟨y0, _, hyr0⟩ := h40 i v hv
      exact ⟨y, hy, VRel.both (ψ := fun b => φ' (r b)) hboth hyr0 hyr⟩
  · intro b p es clock hb hg
    rcases hr.obj b _ hg with h | h | ⟨hbn, ho, h⟩
    · cases h
    · obtain ⟨es', h1, h2, h3⟩ := rl'.mp _ p _ _ hb h
      refine ⟨es', h1, by simpa using h2, fun i x y hx hy => ?_⟩
      have := h3 i ⟨x.key.ren r, x.val.ren r, x.born⟩ y (by simp [hx]) hy
      exact ⟨VRel.unren _ this.key, VRel.unren _ this.val, this.born⟩
    · rw [hr.old b hbn] at hb
      have hq := hphi b p hbn hb
      obtain ⟨es', h1, h2, h3⟩ := rl'.mp _ p _ _ hb h
      obtain ⟨es0, _, h20, h30⟩ := rl.mp _ p _ _ hq ho
      refine ⟨es', h1, h2, fun i x y hx hy => ?_⟩
      have k1 := h3 i x y hx hy
      obtain ⟨hi, rfl⟩ := List.getElem?_eq_some_iff.1 hx
      have k0 := h30 i es[i] es0[i] (by simp [hi]) (by simp [h20 ▸ hi])
      exact ⟨VRel.both (ψ := fun b => φ' (r b)) hboth k0.key k1.key, VRel.both (ψ := fun b => φ' (r b)) hboth k0.val k1.val, k1.born⟩
theorem Ren.ext (hr : Ren args h r h1 h2) (rl : Rel φ C h w) (ha : VRels φ C args args') (x : Ext φ C h w φ' C' h2 w') (rl' : Rel φ' C' h2 w') : Ext φ C h w (fun b => φ' (r b)) C' h1 w' where
  phi := fun b p hb => by rw [hr.old b (rl.dom b p hb).1]; exact x.phi b p hb
  con := x.con
  os := x.os
  tape := x.tape
  output := x.output
  size := x.size
  keep := x.keep
  own := fun b p hb hl hlt => x.own _ p hb (hr.live hl) hlt
  n := hr.n1
  out := fun b hb hn => by
    refine ⟨by rw [hr.old b hb]; exact (x.out b hb hn).1, ?_⟩
    rcases hr.reach b hb with h | h
    · exact h
    · exact absurd hn (h.phi rl ha)

def ResRen (args : List IV) (h : IHeap) : Res IV → Res IV → Prop
  | .ok v h1, .ok v2 h2 => ∃ r, v2 = v.ren r ∧ Ren args h r h1 h2
  | .panic v h1, .panic v2 h2 => ∃ r, v2 = v.ren r ∧ Ren args h r h1 h2
  | .fail, _ => True
  | _, _ => False
theorem Sim.conseq {f : FuncId} {F : List IV → M IV} (he : Enters P f) (hG : ∀ args h, F args h = .fail ∨ ∃ G, Sim P f G ∧ ResRen args h (F args h) (G args h)) : Sim P f F := by
  refine ⟨.inr he, ?_, ?_⟩
  · intro φ C h w args args' v h1 rl ha hF
    rcases hG args h with h | ⟨G, hS, hR⟩
    · rw [h] at hF; cases hF
    rw [hF] at hR
    cases hg : G args h with
    | ok v2 h2 =>
      rw [hg] at hR
      obtain ⟨r, rfl, hr⟩ := hR
      refine (hS.ok φ C h w args args' _ h2 rl ha hg).mono ?_
      rintro e w' ⟨x, φ', C', rfl, h1, h2, h3⟩
      exact ⟨x, fun b => φ' (r b), C', rfl, VRel.unren v h1, hr.ext rl ha h2 h3, hr.rel rl h2 h3⟩
    | panic v2 h2 => rw [hg] at hR; exact hR.elim
    | fail => rw [hg] at hR; exact hR.elim
  · intro φ C h w args args' v h1 rl ha hF
    rcases hG args h with h | ⟨G, hS, hR⟩
    · rw [h] at hF; cases hF
    rw [hF] at hR
    cases hg : G args h with
    | panic v2 h2 =>
      rw [hg] at hR
      obtain ⟨r, rfl, hr⟩ := hR
      refine (hS.panic φ C h w args args' _ h2 rl ha hg).mono ?_
      rintro e w' ⟨x, φ', C', rfl, h1, h2, h3⟩
      exact ⟨x, fun b => φ' (r b), C', rfl, VRel.unren v h1, hr.ext rl ha h2 h3, hr.rel rl h2 h3⟩
    | ok v2 h2 => rw [hg] at hR; exact hR.elim
    | fail => rw [hg] at hR; exact hR.elim

/-- A heap that has grown. -/
def Grow (h h2 : IHeap) : Prop := h.n ≤ h2.n ∧ ∀ b, b < h.n → h2.get b = h.get b
theorem Grow.refl (h : IHeap) : Grow h h := ⟨Nat.le_refl _, fun _ _ => rfl⟩
theorem Grow.trans {h h1 h2 : IHeap} (a : Grow h h1) (b : Grow h1 h2) : Grow h h2 := ⟨Nat.le_trans a.1 b.1, fun x hx => (b.2 x (Nat.lt_of_lt_of_le hx a.1)).trans (a.2 x hx)⟩
theorem Grow.push (h : IHeap) (o : IObj) : Grow h (h.push o) := ⟨by simp, fun b hb => get_push_old hb⟩
/-- The numbers that drop what is new. -/
def dropR (n m : Nat) (b : Nat) : Nat := if b < n then b else b + m
theorem Grow.ren (args : List IV) {h h2 : IHeap} (g : Grow h h2) : Ren args h (dropR h.n h2.n) h h2 where
  n1 := Nat.le_refl _
  old := fun b hb => by simp [dropR, hb]
  new := fun b hb => by unfold dropR; split <;> omega
  out := fun b hb => by unfold dropR; split <;> omega
  inj := fun b c hb hc he => by simpa [dropR, hb, hc] using he
  obj := fun b o hb => .inr (.inr ⟨get_lt hb, hb, by rw [g.2 b (get_lt hb)]; exact hb⟩)
  reach := fun b _ => .inl rfl
/-- A function that only reads, and gives back a value without memory. -/
theorem Sim.reader {f : FuncId} {F : List IV → M IV} (he : Enters P f) (hG : ∀ args h, F args h = .fail ∨ ∃ G, Sim P f G ∧ ∃ v h2, F args h = .ok v h ∧ G args h = .ok v h2 ∧ Grow h h2 ∧ ∀ r, v.ren r = v) : Sim P f F := by
  refine Sim.conseq he fun args h => ?_
  rcases hG args h with h | ⟨G, hS, v, h2, h3, h4, h5, h6⟩
  · exact .inl h
  · refine .inr ⟨G, hS, ?_⟩
    rw [h3, h4]
    exact ⟨_, (h6 _).symm, h5.ren args⟩
end

/-! ### What calls come to: a list -/
def ocons (f : FuncId) (F : List IV → M IV) (O : Orc) : Orc := fun g => bif Nat.beq g f then F else O g
def onil : Orc := fun _ _ _ => .fail
theorem onil_sim {P : Program} : ∀ g, Sim P g (onil g) := fun g => Sim.fail g
theorem ocons_sim {P : Program} {f : FuncId} {F : List IV → M IV} {O : Orc} (hf : Sim P f F) (hO : ∀ g, Sim P g (O g)) : ∀ g, Sim P g (ocons f F O g) := by
  intro g
  unfold ocons
  cases hb : Nat.beq g f
  · exact hO g
  · have := Nat.eq_of_beq_eq_true hb
    subst this; exact hf
end Go.Proofs.YtadeojgiiapljaaGreat.Im
