/- slices.AppendSeq over slices.Values, on the ideal machine. -/
import Derived.Test.YtadeojgiiapljaaGreatKnA
import Derived.Test.YtadeojgiiapljaaGreatRfC
set_option linter.unusedSimpArgs false
set_option linter.unusedVariables false
namespace Go.Proofs.YtadeojgiiapljaaGreat.Im
open Go
open Go.RowKit
set_option maxHeartbeats 1000000
section
variable {φ : Phi} {C : Con} {h : IHeap} {w w' : World}
theorem Rel.below (r : Rel φ C h w) (hb : Below w.heap.size w w') : Rel φ C h w' := r.other hb.size fun blk hh => by
  refine hb.block blk ?_
  rcases hh with ⟨b, p, h1, _, rfl⟩ | hc
  · exact (r.dom b p h1).2
  · cases hcc : C blk with
    | none => exact absurd hcc hc
    | some cs => obtain ⟨E, fz, h1⟩ := r.con blk cs hcc; exact (Array.getElem?_eq_some_iff.1 h1).1
theorem Ext.below (r : Rel φ C h w) (hb : Below w.heap.size w w') : Ext φ C h w φ C h w' :=
  ⟨fun _ _ x => x, fun _ _ x => x, hb.os, hb.tape, hb.output, hb.size, fun blk hlt _ => hb.block blk hlt, fun b p h1 h2 _ => ⟨b, p, h1, h2, rfl⟩, Nat.le_refl _, fun _ _ hn => ⟨hn, rfl⟩⟩
/-- A new row is taken in. -/
theorem Rel.takeIn (r : Rel φ C h w) (hb : Below w.heap.size w w') {blk off lim : Nat} {cs : Array Value} {E : TypeId} {cells : List IV} (hblk : w.heap.size ≤ blk) (hw : w'.heap[blk]? = some (Obj.cells cs E (0, 0))) (hlim : off + lim ≤ cs.size) (hcl : cells.length ≤ lim)
    (hc : ∀ (i : Nat) (v : IV), cells[i]? = some v → ∃ x, cs[off + i]? = some x ∧ VRel φ C v x) :
    Rel (φ.put h.n ⟨blk, off, lim⟩) C (h.push (.row cells)) w' ∧ Ext φ C h w (φ.put h.n ⟨blk, off, lim⟩) C (h.push (.row cells)) w' := by
  have r' := r.below hb
  have hf := r.fresh
  have hmono : ∀ b p, φ b = some p → φ.put h.n ⟨blk, off, lim⟩ b = some p := fun b p hb => by
    rw [Phi.put_ne]; exact hb; rintro rfl; rw [hf] at hb; cases hb
  have hcase : ∀ b p, φ.put h.n ⟨blk, off, lim⟩ b = some p → (b = h.n ∧ p = ⟨blk, off, lim⟩) ∨ (b < h.n ∧ φ b = some p) := fun b p hb => by
    by_cases e : b = h.n
    · subst e; rw [Phi.put_same] at hb; cases hb; exact .inl ⟨rfl, rfl⟩
    · rw [Phi.put_ne e] at hb; exact .inr ⟨(r.dom b p hb).1, hb⟩
  have hvr : ∀ {v : IV} {x : Value}, VRel φ C v x → VRel (φ.put h.n ⟨blk, off, lim⟩) C v x := fun hv => hv.mono hmono (fun _ _ x => x)
  have hblt : blk < w'.heap.size := (Array.getElem?_eq_some_iff.1 hw).1
  refine ⟨⟨?_, ?_, ?_, ?_, ?_, ?_⟩, ⟨hmono, fun _ _ x => x, hb.os, hb.tape, hb.output, hb.size, fun k hk _ => hb.block k hk, ?_, Nat.le_succ _, ?_⟩⟩
  · intro b p hb
    rcases hcase b p hb with ⟨rfl, rfl⟩ | ⟨hlt, hb⟩
    · exact ⟨by simp, hblt⟩
    · have := r'.dom b p hb; simp; omega
  · intro b p hb hl
    rcases hcase b p hb with ⟨rfl, rfl⟩ | ⟨hlt, hb⟩
    · cases hC : C blk with
      | none => rfl
      | some cs' => obtain ⟨E, fz, hw⟩ := r.con _ _ hC; have := (Array.getElem?_eq_some_iff.1 hw).1; omega
    · exact r.live b p hb ((live_push_old hlt).1 hl)
  · intro b b' p p' hb hb' he hl hl'
    rcases hcase b p hb with ⟨rfl, rfl⟩ | ⟨hlt, hb⟩ <;> rcases hcase b' p' hb' with ⟨rfl, rfl⟩ | ⟨hlt', hb'⟩
    · rfl
    · have := (r.dom b' p' hb').2; simp at he; omega
    · have := (r.dom b p hb).2; simp at he; omega
    · exact r.inj b b' p p' hb hb' he ((live_push_old hlt).1 hl) ((live_push_old hlt').1 hl')
  · intro b p cells' hb hg
    rcases hcase b p hb with ⟨rfl, rfl⟩ | ⟨hlt, hb⟩
    · rw [get_push_new] at hg
      cases hg
      refine ⟨cs, E, hw, hlim, hcl, fun i v hi => ?_⟩
      obtain ⟨x, hx, hr⟩ := hc i v hi
      exact ⟨x, hx, hvr hr⟩
    · rw [get_push_old hlt] at hg
      obtain ⟨cs, E, hw, hlim, hcl, hc⟩ := r'.row b p cells' hb hg
      refine ⟨cs, E, hw, hlim, hcl, fun i v hi => ?_⟩
      obtain ⟨x, hx, hr⟩ := hc i v hi
      exact ⟨x, hx, hvr hr⟩
  · intro b p es clock hb hg
    rcases hcase b p hb with ⟨rfl, rfl⟩ | ⟨hlt, hb⟩
    · rw [get_push_new] at hg; cases hg
    · rw [get_push_old hlt] at hg
      obtain ⟨es', hw, hes⟩ := r'.mp b p es clock hb hg
      exact ⟨es', hw, hes.1, fun i x y hx hy => ⟨hvr (hes.2 i x y hx hy).key, hvr (hes.2 i x y hx hy).val, (hes.2 i x y hx hy).born⟩⟩
  · exact r'.con
  · intro b p hb hl hlt
    rcases hcase b p hb with ⟨rfl, rfl⟩ | ⟨hlt', hb⟩
    · simp only at hlt; omega
    · exact ⟨b, p, hb, (live_push_old hlt').1 hl, rfl⟩
  · intro b hb hn
    refine ⟨?_, get_push_old hb⟩
    rw [Phi.put_ne (by omega)]; exact hn
/-- A slice's cells in memory. -/
theorem Rel.cellsAt (r : Rel φ C h w) {v : IV} {x : Value} {n : Nat} {cells : List IV} (hv : VRel φ C v x) (hn : sliceLen v = some n) (hs : Im.sliceCells h v 3 = some cells) : cells.length = n * 3 ∧
    (((∃ oa, x = .slice oa 0 0) ∧ n = 0) ∨ ∃ blk off cap cs E fz, x = .slice (some ⟨blk, off, none⟩) n cap ∧ w.heap[blk]? = some (Obj.cells cs E fz) ∧ ∀ (i : Nat) (u : IV), cells[i]? = some u → ∃ y, cs[off + i]? = some y ∧ VRel φ C u y) := by
  have own : ∀ {b off n : Nat} {p : Pl}, φ b = some p → Im.loadN h (.ptr b off) (n * 3) = some cells → cells.length = n * 3 ∧ ∃ cs E fz, w.heap[p.blk]? = some (Obj.cells cs E fz) ∧ ∀ (i : Nat) (u : IV), cells[i]? = some u → ∃ y, cs[p.off + off + i]? = some y ∧ VRel φ C u y := fun {b off n p} hp hl => by
    simp only [Im.loadN] at hl
    split at hl
    case h_2 => cases hl
    rename_i row hg
    split at hl <;> cases hl
    rename_i hle
    obtain ⟨cs, E, h1, h2, h3, h4⟩ := r.row b p row hp hg
    refine ⟨by simp; omega, cs, E, _, h1, fun i u hu => ?_⟩
    rw [List.getElem?_take] at hu
    split at hu
    case isFalse => cases hu
    rw [List.getElem?_drop] at hu
    obtain ⟨y, h5, h6⟩ := h4 _ u hu
    exact ⟨y, by rw [Nat.add_assoc]; exact h5, h6⟩
  cases hv with
  | nils => simp only [Im.sliceCells, Option.some.injEq] at hs; simp only [sliceLen, Option.some.injEq] at hn; subst hs; subst hn; exact ⟨rfl, .inl ⟨⟨none, rfl⟩, rfl⟩⟩
  | @slice b off len cap p hp =>
    simp only [sliceLen, Option.some.injEq] at hn; subst hn
    simp only [Im.sliceCells] at hs
    obtain ⟨g1, cs, E, fz, g2, g3⟩ := own hp hs
    exact ⟨g1, .inr ⟨_, _, cap, cs, E, fz, rfl, g2, g3⟩⟩
  | @aslice b off len sz cap p hp hl hr =>
    simp only [sliceLen, Option.some.injEq] at hn; subst hn
    simp only [Im.sliceCells] at hs
    obtain ⟨g1, cs, E, fz, g2, g3⟩ := own hp hs
    exact ⟨g1, .inr ⟨_, _, cap, cs, E, fz, rfl, g2, g3⟩⟩
  | @cslice cells0 len cap blk o cs hC hl hk hc =>
    simp only [sliceLen, Option.some.injEq] at hn; subst hn
    simp only [Im.sliceCells, Im.loadN] at hs
    split at hs <;> cases hs
    rename_i hle
    obtain ⟨E, fz, h1⟩ := r.con blk cs hC
    refine ⟨by simp; omega, .inr ⟨blk, o, cap, cs, E, fz, rfl, h1, fun i u hu => ?_⟩⟩
    rw [List.getElem?_take] at hu
    split at hu
    case isFalse => cases hu
    obtain ⟨hi, rfl⟩ := List.getElem?_eq_some_iff.1 hu
    refine ⟨cs.getD (o + i) undef, ?_, hc i hi⟩
    have hlt : o + i < cs.size := by omega
    rw [Array.getD_eq_getD_getElem?, Array.getElem?_eq_getElem hlt]; rfl
  | @cempty a0 =>
    simp only [sliceLen, Option.some.injEq] at hn; subst hn
    have : cells = [] := by simpa [Im.sliceCells, Im.loadN] using hs.symm
    subst this
    exact ⟨rfl, .inl ⟨⟨some a0, rfl⟩, rfl⟩⟩
  | _ => simp [Im.sliceCells] at hs
theorem flI_cons (x : Plc) (ys : Nat → Plc) : ∀ m, flI (fun j => if j = 0 then x else ys (j - 1)) (m + 1) = plI x ++ flI ys m
  | 0 => by simp [flI]
  | m + 1 => by
    rw [flI, flI_cons x ys m, List.append_assoc]
    simp only [flI]
    rw [if_neg (by omega)]; rfl
theorem plc_of : ∀ {cells : List IV}, plcB cells = true → ∃ xs m, cells = flI xs m
  | [], _ => ⟨fun _ => ⟨⟨#[]⟩, 0, 0⟩, 0, rfl⟩
  | .str s :: .int .i64 a :: .int .i64 b :: r, h => by
    obtain ⟨xs, m, rfl⟩ := plc_of (cells := r) h
    exact ⟨_, m + 1, (flI_cons ⟨s, a, b⟩ xs m).symm⟩
theorem flI_get (xs : Nat → Plc) : ∀ (m j t : Nat), j < m → t < 3 → (flI xs m)[j * 3 + t]? = (plI (xs j))[t]?
  | m + 1, j, t, hj, ht => by
    simp only [flI]
    by_cases hjm : j < m
    · rw [List.getElem?_append_left (by rw [flI_len]; omega)]; exact flI_get xs m j t hjm ht
    · have : j = m := by omega
      subst this
      rw [List.getElem?_append_right (by rw [flI_len]; omega), flI_len]
      congr 1; omega
theorem plcAt_of {blk off m : Nat} {cs : Array Value} {E : TypeId} {fz : Nat × Nat} {xs : Nat → Plc} (h1 : w.heap[blk]? = some (Obj.cells cs E fz)) (h2 : ∀ (i : Nat) (u : IV), (flI xs m)[i]? = some u → ∃ y, cs[off + i]? = some y ∧ VRel φ C u y) : PlcAt w blk off xs m := fun j hj => by
  have a0 := flI_get xs m j 0 hj (by decide)
  have a1 := flI_get xs m j 1 hj (by decide)
  have a2 := flI_get xs m j 2 hj (by decide)
  obtain ⟨y0, b0, c0⟩ := h2 _ _ a0
  obtain ⟨y1, b1, c1⟩ := h2 _ _ a1
  obtain ⟨y2, b2, c2⟩ := h2 _ _ a2
  cases c0; cases c1; cases c2
  refine ⟨?_, ?_, ?_⟩
  · simp only [World.cell?, h1]; simpa using b0
  · simp only [World.cell?, h1]; rw [show off + j * 3 + 1 = off + (j * 3 + 1) by omega]; simpa using b1
  · simp only [World.cell?, h1]; rw [show off + j * 3 + 2 = off + (j * 3 + 2) by omega]; simpa using b2
end
theorem len_of_cells {h : IHeap} {v : IV} {sz : Nat} {cells : List IV} (hs : sliceCells h v sz = some cells) : ∃ n, sliceLen v = some n := by
  cases v <;> simp [sliceCells, sliceLen] at hs ⊢
theorem arr2 {args : Array Value} (h : args.size = 2) : args = #[args.getD 0 undef, args.getD 1 undef] := by
  apply Array.ext
  · simp [h]
  · intro i h1 h2
    have : i = 0 ∨ i = 1 := by omega
    rcases this with rfl | rfl <;> simp [Array.getD_eq_getD_getElem?, h]
theorem arr1 {args : Array Value} (h : args.size = 1) : args = #[args.getD 0 undef] := by
  apply Array.ext
  · simp [h]
  · intro i h1 h2
    have : i = 0 := by omega
    subst this; simp [Array.getD_eq_getD_getElem?, h]
theorem args202 {φ : Phi} {C : Con} {b o : Nat} {args' : Array Value} (ha : VRels φ C [.nils, .func (.func 154) [] [.ptr b o]] args') : ∃ p, φ b = some p ∧ args' = #[.slice none 0 0, .func (.func 154) #[] #[.pointer (some ⟨p.blk, p.off + o, none⟩)]] := by
  have hs : args'.size = 2 := by have := ha.1; simpa using this.symm
  have e0 := ha.2 0 (by simp)
  have e1 := ha.2 1 (by simp)
  rw [arr2 hs]
  generalize args'.getD 0 undef = x0 at e0 ⊢
  generalize args'.getD 1 undef = x1 at e1 ⊢
  simp only [List.getElem_cons_zero, List.getElem_cons_succ] at e0 e1
  cases e0
  cases e1 with
  | @func fn fa fc a' c' h1 h2 h3 h4 =>
    have ha' : a' = #[] := by have := h1; simp at this; exact Array.eq_empty_of_size_eq_zero this.symm
    subst ha'
    have hc' : c'.size = 1 := by simpa using h2.symm
    have e2 := h4 0 (by simp)
    rw [arr1 hc']
    generalize c'.getD 0 undef = y at e2 ⊢
    simp only [List.getElem_cons_zero] at e2
    cases e2 with
    | ptr hp => exact ⟨_, hp, rfl⟩
theorem s202 : Sim Tryz.prog 202 F202 := by
  have hen : Enters Tryz.prog 202 := ⟨Tryz.f202, Tryz.func202, rfl, by decide⟩
  refine ⟨.inr hen, ?_, ?_⟩
  · intro φ C h w args args' v h' r hargs hF
    unfold F202 at hF
    split at hF
    case h_2 => cases hF
    rename_i b o
    split at hF
    case h_2 => cases hF
    rename_i sv hl1
    obtain ⟨p, hp, rfl⟩ := args202 hargs
    -- the box
    simp only [Im.load1] at hl1
    split at hl1
    case h_2 => cases hl1
    rename_i row hg
    obtain ⟨csb, Eb, b1, b2, b3, b4⟩ := r.row b p row hp hg
    obtain ⟨x, hx, hxr⟩ := b4 o sv hl1
    have hBlt : p.blk < w.heap.size := (r.dom b p hp).2
    have hbox : w.cell? ⟨p.blk, p.off + o, none⟩ = some x := by simp only [World.cell?, b1]; simpa using hx
    have main : ∀ cells, sliceCells h sv 3 = some cells → plcB cells = true → cells.length < 12000000 → ∃ xs m, cells = flI xs m ∧ m < 4000000 ∧ It w.heap.size m xs p.blk (p.off + o) w := by
      intro cells hc hpb hlen
      obtain ⟨n, hn⟩ := len_of_cells hc
      obtain ⟨xs, m, rfl⟩ := plc_of hpb
      obtain ⟨c1, c2⟩ := r.cellsAt hxr hn hc
      rw [flI_len] at c1 hlen
      have hm : m = n := by omega
      subst hm
      refine ⟨xs, m, rfl, by omega, ?_⟩
      rcases c2 with ⟨⟨oa, rfl⟩, rfl⟩ | ⟨blk, off, cap, cs, E, fz, rfl, d1, d2⟩
      · exact It.nil hBlt hbox
      · exact It.some (by omega) hBlt (Array.getElem?_eq_some_iff.1 d1).1 hbox (plcAt_of d1 d2)
    split at hF
    · rename_i hc
      cases hF
      obtain ⟨xs, m, e1, e2, e3⟩ := main [] hc rfl (by decide)
      have hm : m = 0 := by have := congrArg List.length e1; rw [flI_len] at this; simp at this; omega
      subst hm
      refine (calls202 _ _ 0 xs e2 w e3).mono ?_
      rintro e w' ⟨v, rfl, hb, hgot⟩
      rcases hgot with ⟨_, rfl⟩ | ⟨_, _, _, _, _, h0, _⟩
      · exact ⟨_, φ, C, rfl, .nils, Ext.below r hb, r.below hb⟩
      · omega
    · rename_i cells hne hc
      split at hF <;> cases hF
      rename_i hcond
      obtain ⟨xs, m, rfl, e2, e3⟩ := main cells hc hcond.1 hcond.2
      refine (calls202 _ _ m xs e2 w e3).mono ?_
      rintro e w' ⟨v, rfl, hb, hgot⟩
      rcases hgot with ⟨rfl, rfl⟩ | ⟨blk, off, cap, cs, E, g0, rfl, g1, g2, g3, g4, g5⟩
      · exact absurd rfl hne
      · have hdiv : (flI xs m).length / 3 = m := by rw [flI_len]; omega
        rw [hdiv]
        obtain ⟨r', ex⟩ := r.takeIn hb (lim := cap * 3) g1 g2 g4 (by rw [flI_len]; omega) (g5.rel fun v hv => flI_plain hv)
        exact ⟨_, _, C, rfl, VRel.aslice (off := 0) (Phi.put_same _ _ _) g3 (by simp), ex, r'⟩
    · cases hF
  · intro φ C h w args args' v h' r hargs hF
    unfold F202 at hF
    (repeat' split at hF) <;> cases hF
end Go.Proofs.YtadeojgiiapljaaGreat.Im
