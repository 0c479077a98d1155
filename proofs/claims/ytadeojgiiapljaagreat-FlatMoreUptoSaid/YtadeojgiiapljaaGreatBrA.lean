/- The arguments' readings as constant memory of the ideal machine. -/
import Derived.Test.YtadeojgiiapljaaGreatImB
import Derived.Test.YtadeojgiiapljaaGreatNdC
import Derived.Test.YtadeojgiiapljaaGreatRgB
import GoSem.ClaimChange
import Derived.Test.YtadeojgiiapljaaGreatRows
set_option linter.unusedSimpArgs false
set_option linter.unusedVariables false
namespace Go.Proofs.YtadeojgiiapljaaGreat.Im
open Go
/-- All cells, as constants. -/
def CW (W : World) : Con := fun blk => match W.heap[blk]? with
  | some (.cells cs _ _) => some cs
  | _ => none
theorem CW_at {W : World} {b : Nat} {cs : Array Value} {E : TypeId} {fz : Nat × Nat} (h : W.heap[b]? = some (Obj.cells cs E fz)) : CW W b = some cs := by unfold CW; rw [h]
theorem rel0 (W : World) : Rel (fun _ => none) (CW W) ⟨0, []⟩ W := by
  refine ⟨fun _ _ hb => (by cases hb), fun _ _ hb => (by cases hb), fun _ _ _ _ hb => (by cases hb), fun _ _ _ hb => (by cases hb), fun _ _ _ _ hb => (by cases hb), fun blk cs hc => ?_⟩
  unfold CW at hc
  split at hc
  · rename_i E fz h; cases hc; exact ⟨E, fz, h⟩
  · cases hc
abbrev CR (W : World) (v : IV) (x : Value) : Prop := VRel (fun _ => none) (CW W) v x
/-- Cells, one by one. -/
def CRs (W : World) (vs : List IV) (xs : List Value) : Prop := vs.length = xs.length ∧ ∀ (i : Nat) (v : IV), vs[i]? = some v → ∃ x, xs[i]? = some x ∧ CR W v x
theorem CRs.nil {W : World} : CRs W [] [] := ⟨rfl, fun i v h => by simp at h⟩
theorem CRs.cons {W : World} {v : IV} {x : Value} {vs : List IV} {xs : List Value} (h : CR W v x) (t : CRs W vs xs) : CRs W (v :: vs) (x :: xs) := by
  refine ⟨by simp [t.1], fun i u hu => ?_⟩
  cases i with
  | zero => cases hu; exact ⟨x, rfl, h⟩
  | succ i => exact t.2 i u (by simpa using hu)
theorem CRs.one {W : World} {v : IV} {x : Value} (h : CR W v x) : CRs W [v] [x] := .cons h .nil
theorem CRs.append {W : World} {vs us : List IV} {xs ys : List Value} (h : CRs W vs xs) (t : CRs W us ys) : CRs W (vs ++ us) (xs ++ ys) := by
  refine ⟨by simp [h.1, t.1], fun i u hu => ?_⟩
  by_cases hi : i < vs.length
  · rw [List.getElem?_append_left hi] at hu
    obtain ⟨x, h1, h2⟩ := h.2 i u hu
    exact ⟨x, by rw [List.getElem?_append_left (by rw [← h.1]; exact hi)]; exact h1, h2⟩
  · rw [List.getElem?_append_right (by omega)] at hu
    obtain ⟨x, h1, h2⟩ := t.2 _ u hu
    exact ⟨x, by rw [List.getElem?_append_right (by rw [← h.1]; omega), ← h.1]; exact h1, h2⟩
theorem mapM_get {α β : Type} {f : α → Option β} : ∀ {l : List α} {ys : List β}, l.mapM f = some ys → ys.length = l.length ∧ ∀ (i : Nat) (x : α), l[i]? = some x → ∃ y, ys[i]? = some y ∧ f x = some y
  | [], ys, h => by
    simp at h; subst h
    exact ⟨rfl, fun i x hx => by simp at hx⟩
  | a :: l, ys, h => by
    rw [List.mapM_cons] at h
    cases ha : f a with
    | none => rw [ha] at h; cases h
    | some b =>
      rw [ha] at h
      cases hl : l.mapM f with
      | none => rw [hl] at h; cases h
      | some bs =>
        rw [hl] at h
        cases h
        obtain ⟨h1, h2⟩ := mapM_get hl
        refine ⟨by simp [h1], fun i x hx => ?_⟩
        cases i with
        | zero => cases hx; exact ⟨b, rfl, ha⟩
        | succ i => exact h2 i x (by simpa using hx)
theorem range_get {β : Type} {f : Nat → Option β} {n : Nat} {ys : List β} (h : (List.range n).mapM f = some ys) : ys.length = n ∧ ∀ i, i < n → ∃ y, ys[i]? = some y ∧ f i = some y := by
  obtain ⟨h1, h2⟩ := mapM_get h
  rw [List.length_range] at h1
  exact ⟨h1, fun i hi => h2 i i (by simp [hi])⟩
/-- Cells that are read. -/
theorem cells_get {W : World} {b n : Nat} {a : Addr} {cs : List Value} (h : W.cells? b a n = some cs) : cs.length = n ∧ (0 < n → a.spot = none ∧ ∃ cells E fz, W.heap[a.block]? = some (Obj.cells cells E fz) ∧ ∀ j, j < n → cells[a.off + j]? = cs[j]?) := by
  unfold World.cells? at h
  split at h
  case isFalse => cases h
  obtain ⟨h1, h2⟩ := range_get h
  refine ⟨h1, fun hn => ?_⟩
  obtain ⟨y0, e0, f0⟩ := h2 0 hn
  have ha : a.add 0 = a := by simp [Addr.add]
  rw [ha] at f0
  unfold World.cell? at f0
  split at f0
  case h_2 => cases f0
  rename_i cells E fz hb
  split at f0
  · cases f0
  rename_i hs
  have hs' : a.spot = none := by simpa using hs
  refine ⟨hs', cells, E, fz, hb, fun j hj => ?_⟩
  obtain ⟨y, e1, f1⟩ := h2 j hj
  rw [e1]
  by_cases hj0 : j = 0
  · subst hj0; rw [ha] at f1; unfold World.cell? at f1; rw [hb] at f1; simpa [hs'] using f1
  · have haj : a.add j = { a with off := a.off + j, spot := none } := by simp [Addr.add, hj0]
    rw [haj] at f1; unfold World.cell? at f1
    simp only [hb] at f1
    simpa using f1
section
variable {H : Type} {enc : TypeId × Value → H} {P : Program} {W : World} {sp : Nat → Bool} {held : Bool}
/-- A slice's elements, each as constant cells. -/
theorem slice_bridge {t e : TypeId} {sz fuel : Nat} {Good : DataW H → List IV → Prop} (hsl : P.underlying t = some (.slice e)) (hsz : P.cellsOf e = sz) (hpos : 0 < sz)
    (helem : ∀ cs d ps, DataW.trod enc P W 0 (fun _ => true) held fuel e cs = some (d, ps) → cs.length = sz → ∃ ivs, CRs W ivs cs ∧ Good d ivs)
    {cs : List Value} {d : DataW H} {ps : List MemPlace} (h : DataW.trod enc P W 0 (fun _ => true) held (fuel + 1) t cs = some (d, ps)) :
    (∃ v, cs = [v] ∧ ((v = .slice none 0 0 ∧ d = .nil) ∨ ∃ (elems rest : List (DataW H)) (ivss : List (List IV)), d = .slice elems rest ∧ ivss.length = elems.length ∧ CR W (.cslice ivss.flatten elems.length) v ∧ (∀ ivs ∈ ivss, ivs.length = sz) ∧ ∀ (i : Nat) (x : DataW H), elems[i]? = some x → ∃ ivs, ivss[i]? = some ivs ∧ Good x ivs)) := by
  unfold DataW.trod at h
  rw [hsl] at h
  match cs, h with
  | [.slice none 0 0], h => cases h; exact ⟨_, rfl, .inl ⟨rfl, rfl⟩⟩
  | [.slice (some a) len cap], h =>
    simp only at h
    split at h
    case isFalse => cases h
    rename_i hc
    obtain ⟨_, hle, _⟩ := hc
    rw [hsz] at h
    cases hel : (List.range len).mapM (fun i => (W.cells? 0 (a.add (i * sz)) sz).bind (DataW.trod enc P W 0 (fun _ => true) held fuel e)) with
    | none => rw [hel] at h; cases h
    | some elems =>
    rw [hel] at h
    simp only [Option.bind_some] at h
    cases hsr : (List.range (cap - len)).mapM (fun j => (W.cells? 0 (a.add ((len + j) * sz)) sz).bind (DataW.trod enc P W 0 (fun _ => true) held fuel e)) with
    | none => simp only [if_true] at h; rw [hsr] at h; cases h
    | some rest =>
    simp only [if_true] at h
    rw [hsr] at h
    simp only [Option.map_some, Option.some.injEq, Prod.mk.injEq] at h
    obtain ⟨rfl, _⟩ := h
    obtain ⟨l1, l2⟩ := range_get hel
    obtain ⟨r1, r2⟩ := range_get hsr
    -- each element
    have each : ∀ i, i < len → ∃ x cs', elems[i]? = some x ∧ W.cells? 0 (a.add (i * sz)) sz = some cs' ∧ ∃ ivs, CRs W ivs cs' ∧ Good x.1 ivs := fun i hi => by
      obtain ⟨x, e1, e2⟩ := l2 i hi
      cases hcs : W.cells? 0 (a.add (i * sz)) sz with
      | none => rw [hcs] at e2; cases e2
      | some cs' =>
        rw [hcs] at e2
        obtain ⟨ivs, g1, g2⟩ := helem cs' x.1 x.2 e2 (cells_get hcs).1
        exact ⟨x, cs', e1, rfl, ivs, g1, g2⟩
    have pick : ∀ m, m ≤ len → ∃ ivss : List (List IV), ivss.length = m ∧ (∀ ivs ∈ ivss, ivs.length = sz) ∧ ∀ i, i < m → ∃ x cs' ivs, elems[i]? = some x ∧ W.cells? 0 (a.add (i * sz)) sz = some cs' ∧ ivss[i]? = some ivs ∧ CRs W ivs cs' ∧ Good x.1 ivs := by
      intro m
      induction m with
      | zero => exact fun _ => ⟨[], rfl, fun _ h => (by cases h), fun i hi => (by omega)⟩
      | succ m ih =>
        intro hm
        obtain ⟨ivss, g1, g2, g3⟩ := ih (by omega)
        obtain ⟨x, cs', e1, e2, ivs, e3, e4⟩ := each m (by omega)
        refine ⟨ivss ++ [ivs], by simp [g1], fun u hu => ?_, fun i hi => ?_⟩
        · rcases List.mem_append.1 hu with hu | hu
          · exact g2 u hu
          · simp at hu; subst hu; rw [e3.1]; exact (cells_get e2).1
        · by_cases him : i < m
          · obtain ⟨x', cs'', ivs', f1, f2, f3, f4⟩ := g3 i him
            exact ⟨x', cs'', ivs', f1, f2, by rw [List.getElem?_append_left (by omega)]; exact f3, f4⟩
          · have : i = m := by omega
            subst this
            exact ⟨x, cs', ivs, e1, e2, by rw [List.getElem?_append_right (by omega), g1]; simp, e3, e4⟩
    obtain ⟨ivss, g1, g2, g3⟩ := pick len (Nat.le_refl _)
    refine ⟨_, rfl, .inr ⟨elems.map (·.1), rest.map (·.1), ivss, rfl, by simp [g1, l1], ?_, g2, fun i x hx => ?_⟩⟩
    · rw [List.length_map, l1]
      by_cases hcap : cap = 0
      · have : len = 0 := by omega
        subst this; subst hcap
        have : ivss = [] := List.eq_nil_of_length_eq_zero g1
        subst this
        exact .cempty
      · -- the block
        have hblk : a.spot = none ∧ ∃ cells E fz, W.heap[a.block]? = some (Obj.cells cells E fz) := by
          by_cases hlen : 0 < len
          · obtain ⟨_, cs', _, _, f2, _⟩ := g3 0 hlen
            obtain ⟨s1, c1, E, fz, s2, _⟩ := (cells_get f2).2 hpos
            simp [Addr.add] at s1 s2
            exact ⟨s1, c1, E, fz, s2⟩
          · obtain ⟨y, e1, e2⟩ := r2 0 (by omega)
            cases hcs : W.cells? 0 (a.add ((len + 0) * sz)) sz with
            | none => rw [hcs] at e2; cases e2
            | some cs' =>
              obtain ⟨s1, c1, E, fz, s2, _⟩ := (cells_get hcs).2 hpos
              have : len = 0 := by omega
              subst this
              simp [Addr.add] at s1 s2
              exact ⟨s1, c1, E, fz, s2⟩
        obtain ⟨hsp, cells, E, fz, hb⟩ := hblk
        have hfl : ∀ (q : Nat) (v : IV), ivss.flatten[q]? = some v → ∃ y, cells[a.off + q]? = some y ∧ CR W v y := by
          have gen : ∀ (l : List (List IV)) (i0 : Nat), (∀ u ∈ l, u.length = sz) → (∀ j ivs, l[j]? = some ivs → ivss[i0 + j]? = some ivs) → ∀ (q : Nat) (v : IV), l.flatten[q]? = some v → ∃ y, cells[a.off + (i0 * sz + q)]? = some y ∧ CR W v y := by
            intro l
            induction l with
            | nil => intro i0 _ _ q v hq; simp at hq
            | cons u l ih =>
              intro i0 hl hg q v hq
              have hu : u.length = sz := hl u List.mem_cons_self
              rw [List.flatten_cons] at hq
              by_cases hlt : q < sz
              · rw [List.getElem?_append_left (by omega)] at hq
                have hi0 : ivss[i0]? = some u := by simpa using hg 0 u rfl
                have hi0lt : i0 < len := by rw [← g1]; exact (List.getElem?_eq_some_iff.1 hi0).1
                obtain ⟨x', cs', ivs', f1, f2, f3, f4, f5⟩ := g3 i0 hi0lt
                rw [hi0] at f3; cases f3
                obtain ⟨y, y1, y2⟩ := f4.2 q v hq
                obtain ⟨_, c1, E1, fz1, s2, s3⟩ := (cells_get f2).2 hpos
                have hblk : (a.add (i0 * sz)).block = a.block := by unfold Addr.add; split <;> rfl
                have hoff : (a.add (i0 * sz)).off = a.off + i0 * sz := by unfold Addr.add; split <;> simp_all
                rw [hblk, hb] at s2; cases s2
                have := s3 q hlt
                rw [hoff, y1] at this
                exact ⟨y, by rw [← Nat.add_assoc]; exact this, y2⟩
              · rw [List.getElem?_append_right (by omega)] at hq
                obtain ⟨y, y1, y2⟩ := ih (i0 + 1) (fun u' hu' => hl u' (List.mem_cons_of_mem _ hu')) (fun j ivs hj => by
                  have := hg (j + 1) ivs (by simpa using hj)
                  rwa [show i0 + (j + 1) = i0 + 1 + j by omega] at this) _ v hq
                refine ⟨y, ?_, y2⟩
                rw [hu, show (i0 + 1) * sz = i0 * sz + sz from Nat.succ_mul i0 sz] at y1
                rw [← y1]; congr 2; omega
          intro q v hq
          have := gen ivss 0 g2 (fun j ivs hj => by simpa using hj) q v hq
          simpa using this
        obtain ⟨ab, ao, as_⟩ := a
        simp only at hsp hb hfl
        subst hsp
        have hbound : ao + ivss.flatten.length ≤ cells.size := by
          cases hfe : ivss.flatten.length with
          | zero =>
            -- an offset within the block
            have : ∃ q, cells[ao + q]? ≠ none := by
              by_cases hlen : 0 < len
              · obtain ⟨_, cs', _, _, f2, _⟩ := g3 0 hlen
                obtain ⟨_, c1, E1, fz1, s2, s3⟩ := (cells_get f2).2 hpos
                have s3' := s3 0 hpos
                simp [Addr.add] at s2 s3'
                rw [hb] at s2; cases s2
                refine ⟨0, ?_⟩
                have hl := (cells_get f2).1
                rw [Nat.add_zero, s3']
                intro hh
                have := List.getElem?_eq_none_iff.1 hh
                omega
              · obtain ⟨y, e1, e2⟩ := r2 0 (by omega)
                cases hcs : W.cells? 0 (Addr.add ⟨ab, ao, none⟩ ((len + 0) * sz)) sz with
                | none => rw [hcs] at e2; cases e2
                | some cs' =>
                  obtain ⟨_, c1, E1, fz1, s2, s3⟩ := (cells_get hcs).2 hpos
                  have hl := (cells_get hcs).1
                  have : len = 0 := by omega
                  subst this
                  have s3' := s3 0 hpos
                  simp [Addr.add] at s2 s3'
                  rw [hb] at s2; cases s2
                  refine ⟨0, ?_⟩
                  rw [Nat.add_zero, s3']
                  intro hh
                  have := List.getElem?_eq_none_iff.1 hh
                  omega
            obtain ⟨q, hq⟩ := this
            have : ao + q < cells.size := by
              apply Decidable.byContradiction
              intro hh
              exact hq (Array.getElem?_eq_none_iff.2 (by omega))
            omega
          | succ m =>
            obtain ⟨y, y1, _⟩ := hfl m (ivss.flatten[m]'(by omega)) (List.getElem?_eq_getElem (by omega))
            have := (Array.getElem?_eq_some_iff.1 y1).1
            omega
        refine .cslice (CW_at hb) hbound hle fun i hi => ?_
        obtain ⟨y, y1, y2⟩ := hfl i _ (List.getElem?_eq_getElem hi)
        rw [Array.getD_eq_getD_getElem?, y1]
        exact y2
    · rw [List.getElem?_map, Option.map_eq_some_iff] at hx
      obtain ⟨x', hx', rfl⟩ := hx
      have hi : i < len := by rw [← l1]; exact (List.getElem?_eq_some_iff.1 hx').1
      obtain ⟨x'', cs', ivs, f1, f2, f3, f4, f5⟩ := g3 i hi
      rw [f1] at hx'; cases hx'
      exact ⟨ivs, f3, f5⟩
theorem struct_bridge {t : TypeId} {fs : Array Field} {fuel : Nat} {cs : List Value} {d : DataW H} {ps : List MemPlace} (ht : P.underlying t = some (.struct fs)) (h : DataW.trod enc P W 0 sp held (fuel + 1) t cs = some (d, ps)) :
    cs.length = P.cellsOf t ∧ ∃ xs : List (DataW H × List MemPlace), d = .agg (xs.map (·.1)) ∧ fs.toList.mapM (fun f => DataW.trod enc P W 0 sp held fuel f.type ((cs.drop f.offset).take (P.cellsOf f.type))) = some xs := by
  unfold DataW.trod at h
  rw [ht] at h
  have key : (if cs.length = P.cellsOf t then (fs.toList.mapM fun f => DataW.trod enc P W 0 sp held fuel f.type ((cs.drop f.offset).take (P.cellsOf f.type))).map fun xs => (DataW.agg (xs.map (·.1)), xs.flatMap (·.2)) else none) = some (d, ps) := by
    revert h
    split <;> first | (intro h; simp_all; done) | exact fun h => h | (intro h; simpa using h)
  split at key
  case isFalse => cases key
  rename_i hl
  rw [Option.map_eq_some_iff] at key
  obtain ⟨xs, h1, h2⟩ := key
  cases h2
  exact ⟨hl, xs, rfl, h1⟩
theorem int_bridge {t : TypeId} {k : IntKind} {fuel : Nat} {cs : List Value} {d : DataW H} {ps : List MemPlace} (ht : P.underlying t = some (.int k)) (h : DataW.trod enc P W 0 sp held fuel t cs = some (d, ps)) :
    ∃ n, cs = [.int k n] ∧ k.min ≤ n ∧ n ≤ k.max := by
  cases fuel with
  | zero => simp [DataW.trod] at h
  | succ fuel =>
    unfold DataW.trod at h
    rw [ht] at h
    match cs, h with
    | [.int k' n], h =>
      simp only at h
      split at h
      case isFalse => cases h
      rename_i hc
      obtain ⟨rfl, hw⟩ := hc
      simp [Lit.wf] at hw
      exact ⟨n, rfl, hw⟩
theorem bool_bridge {t : TypeId} {fuel : Nat} {cs : List Value} {d : DataW H} {ps : List MemPlace} (ht : P.underlying t = some .bool) (h : DataW.trod enc P W 0 sp held fuel t cs = some (d, ps)) : ∃ b, cs = [.bool b] := by
  cases fuel with
  | zero => simp [DataW.trod] at h
  | succ fuel =>
    unfold DataW.trod at h
    rw [ht] at h
    match cs, h with
    | [.bool b], h => exact ⟨b, rfl⟩
theorem string_bridge {t : TypeId} {fuel : Nat} {cs : List Value} {d : DataW H} {ps : List MemPlace} (ht : P.underlying t = some .string) (h : DataW.trod enc P W 0 sp held fuel t cs = some (d, ps)) : ∃ s, cs = [.string s] ∧ d = .lit (.string s.data.toList) := by
  cases fuel with
  | zero => simp [DataW.trod] at h
  | succ fuel =>
    unfold DataW.trod at h
    rw [ht] at h
    match cs, h with
    | [.string s], h =>
      simp only at h
      split at h
      case isFalse => cases h
      cases h
      exact ⟨s, rfl, rfl⟩
end
end Go.Proofs.YtadeojgiiapljaaGreat.Im
namespace Go.Proofs.YtadeojgiiapljaaGreat.Im
open Go
theorem i64ok_of {n : Int} (h1 : IntKind.i64.min ≤ n) (h2 : n ≤ IntKind.i64.max) : i64ok n = true := by
  simp [IntKind.min, IntKind.max, IntKind.signed, IntKind.bits] at h1 h2
  simp [i64ok]; omega
theorem u64ok_of {n : Int} (h1 : IntKind.u64.min ≤ n) (h2 : n ≤ IntKind.u64.max) : u64ok n = true := by
  simp [IntKind.min, IntKind.max, IntKind.signed, IntKind.bits] at h1 h2
  simp [u64ok]; omega
theorem rangeOk_of {k : IntKind} (hk : k = .i64 ∨ k = .u64) {n : Int} (h1 : k.min ≤ n) (h2 : n ≤ k.max) : rangeOk k n = true := by
  rcases hk with rfl | rfl
  · exact i64ok_of h1 h2
  · exact u64ok_of h1 h2
section
variable {H : Type} {enc : TypeId × Value → H} {W : World}
theorem bulk_pos (d : DataW H) : 1 ≤ Rows.uptoBulk d := by
  cases d with
  | lit l => cases l <;> simp [Rows.uptoBulk]
  | _ => simp [Rows.uptoBulk]
theorem bulk_mem {d : DataW H} {l : List (DataW H)} (h : d ∈ l) : Rows.uptoBulk d ≤ Rows.uptoBulkAll l := by
  induction l with
  | nil => cases h
  | cons x r ih =>
    simp only [Rows.uptoBulkAll]
    cases List.mem_cons.1 h with
    | inl e => subst e; omega
    | inr e => have := ih e; omega
theorem bulk_len (l : List (DataW H)) : l.length ≤ Rows.uptoBulkAll l := by
  induction l with
  | nil => simp
  | cons x r ih => have := bulk_pos x; simp only [Rows.uptoBulkAll, List.length_cons]; omega
theorem bulk_slice (a b : List (DataW H)) : Rows.uptoBulk (.slice a b) = Rows.uptoBulkAll a + Rows.uptoBulkAll b + 1 := by simp [Rows.uptoBulk]
theorem bulk_agg (a : List (DataW H)) : Rows.uptoBulk (.agg a) = Rows.uptoBulkAll a + 1 := by simp [Rows.uptoBulk]
theorem bulk_nil : Rows.uptoBulk (.nil : DataW H) = 1 := by simp [Rows.uptoBulk]
/-- Element by element. -/
theorem all_good {Good : DataW H → List IV → Prop} : ∀ {elems : List (DataW H)} {ivss : List (List IV)}, ivss.length = elems.length → (∀ (i : Nat) (x : DataW H), elems[i]? = some x → ∃ ivs, ivss[i]? = some ivs ∧ Good x ivs) → All2 Good elems ivss
  | [], [], _, _ => .nil
  | x :: xs, [], h, _ => by cases h
  | [], y :: ys, h, _ => by cases h
  | x :: xs, y :: ys, h, hg => by
    refine .cons ?_ (all_good (by simpa using h) fun i x' hx => ?_)
    · obtain ⟨ivs, h1, h2⟩ := hg 0 x rfl
      cases h1; exact h2
    · obtain ⟨ivs, h1, h2⟩ := hg (i + 1) x' (by simpa using hx)
      exact ⟨ivs, by simpa using h1, h2⟩
theorem ints_all {k : IntKind} {elems : List (DataW H)} {ivss : List (List IV)} (h : All2 (fun (_ : DataW H) ivs => ∃ n, ivs = [.int k n] ∧ rangeOk k n = true) elems ivss) : ∃ l, decIs k ivss.flatten elems.length = some l ∧ l.length = elems.length := by
  induction h with
  | nil => exact ⟨[], rfl, rfl⟩
  | @cons _ _ _ bs h1 _ ih =>
    obtain ⟨n, rfl, hr⟩ := h1
    obtain ⟨l, e1, e2⟩ := ih
    refine ⟨n :: l, ?_, by simp [e2]⟩
    rw [List.flatten_cons, List.length_cons]
    show decIs k (.int k n :: bs.flatten) _ = _
    simp only [decIs, hr, decide_true, Bool.and_true, if_true]
    rw [e1]; rfl
theorem ints_bridge {t e fuel : Nat} {k : IntKind} (hk : k = .i64 ∨ k = .u64) (hsl : Tryz.prog.underlying t = some (.slice e)) (hsz : Tryz.prog.cellsOf e = 1) (he : Tryz.prog.underlying e = some (.int k)) {held : Bool} {cs : List Value} {d : DataW H} {ps : List MemPlace}
    (h : DataW.trod enc Tryz.prog W 0 (fun _ => true) held fuel t cs = some (d, ps)) : ∃ v iv l, cs = [v] ∧ CR W iv v ∧ decInts k iv = some l ∧ l.length < Rows.uptoBulk d := by
  cases fuel with
  | zero => simp [DataW.trod] at h
  | succ fuel =>
    obtain ⟨v, rfl, hc⟩ := slice_bridge (Good := fun _ ivs => ∃ n, ivs = [.int k n] ∧ rangeOk k n = true) hsl hsz (by decide) (fun cs d ps hd hl => by
      obtain ⟨n, rfl, h1, h2⟩ := int_bridge he hd
      exact ⟨[.int k n], .one (.int _ _), n, rfl, rangeOk_of hk h1 h2⟩) h
    rcases hc with ⟨rfl, rfl⟩ | ⟨elems, rest, ivss, rfl, h1, h2, h3, h4⟩
    · exact ⟨_, .nils, [], rfl, .nils, rfl, by rw [bulk_nil]; decide⟩
    · obtain ⟨l, e1, e2⟩ := ints_all (all_good h1 h4)
      refine ⟨v, _, l, rfl, h2, e1, ?_⟩
      rw [e2, bulk_slice]
      have := bulk_len elems
      omega
theorem u26 : Tryz.prog.cellsOf 41 = 1 := by kernel_rfl
theorem c3 : Tryz.prog.cellsOf 3 = 1 := by kernel_rfl
theorem c26 : Tryz.prog.cellsOf 26 = 1 := by kernel_rfl
theorem c128 : Tryz.prog.cellsOf 128 = 4 := by kernel_rfl
theorem c9 : Tryz.prog.cellsOf 9 = 1 := by kernel_rfl
theorem c4 : Tryz.prog.cellsOf 4 = 1 := by kernel_rfl
theorem words_bridge {fuel : Nat} {held : Bool} {cs : List Value} {d : DataW H} {ps : List MemPlace} (h : DataW.trod enc Tryz.prog W 0 (fun _ => true) held fuel 26 cs = some (d, ps)) : ∃ v iv l, cs = [v] ∧ CR W iv v ∧ decInts .u64 iv = some l ∧ l.length < Rows.uptoBulk d :=
  ints_bridge (.inr rfl) Tryz.underlying26 u26 Tryz.underlying41 h
theorem nums_bridge {fuel : Nat} {held : Bool} {cs : List Value} {d : DataW H} {ps : List MemPlace} (h : DataW.trod enc Tryz.prog W 0 (fun _ => true) held fuel 22 cs = some (d, ps)) : ∃ v iv l, cs = [v] ∧ CR W iv v ∧ decInts .i64 iv = some l ∧ l.length < Rows.uptoBulk d :=
  ints_bridge (.inl rfl) Tryz.underlying22 c3 Tryz.underlying3 h
theorem ws_all {B : Nat} {elems : List (DataW H)} {ivss : List (List IV)} (h : All2 (fun (x : DataW H) ivs => ∃ iv l, ivs = [iv] ∧ decInts .u64 iv = some l ∧ l.length < Rows.uptoBulk x) elems ivss) (hb : Rows.uptoBulkAll elems ≤ 1048576) : ∃ l, decWl ivss.flatten elems.length = some l ∧ l.length = elems.length := by
  induction h with
  | nil => exact ⟨[], rfl, rfl⟩
  | @cons _ _ _ bs h1 _ ih =>
    simp only [Rows.uptoBulkAll] at hb
    obtain ⟨iv, w, rfl, hd, hl⟩ := h1
    obtain ⟨l, e1, e2⟩ := ih (by omega)
    refine ⟨w :: l, ?_, by simp [e2]⟩
    rw [List.flatten_cons, List.length_cons]
    show decWl (iv :: bs.flatten) _ = _
    simp only [decWl, hd]
    rw [e1]
    simp only
    rw [if_pos (by omega)]
theorem ws_bridge {fuel : Nat} {held : Bool} {cs : List Value} {d : DataW H} {ps : List MemPlace} (h : DataW.trod enc Tryz.prog W 0 (fun _ => true) held fuel 28 cs = some (d, ps)) (hb : Rows.uptoBulk d ≤ 1048576) : ∃ v iv l, cs = [v] ∧ CR W iv v ∧ decWs iv = some l ∧ l.length < Rows.uptoBulk d := by
  cases fuel with
  | zero => simp [DataW.trod] at h
  | succ fuel =>
    obtain ⟨v, rfl, hc⟩ := slice_bridge (Good := fun x ivs => ∃ iv l, ivs = [iv] ∧ decInts .u64 iv = some l ∧ l.length < Rows.uptoBulk x) Tryz.underlying28 c26 (by decide) (fun cs d ps hd hl => by
      obtain ⟨v, iv, l, rfl, h1, h2, h3⟩ := words_bridge hd
      exact ⟨[iv], .one h1, iv, l, rfl, h2, h3⟩) h
    rcases hc with ⟨rfl, rfl⟩ | ⟨elems, rest, ivss, rfl, h1, h2, h3, h4⟩
    · exact ⟨_, .nils, [], rfl, .nils, rfl, by rw [bulk_nil]; decide⟩
    · rw [bulk_slice] at hb
      obtain ⟨l, e1, e2⟩ := ws_all (B := 0) (all_good h1 h4) (by omega)
      refine ⟨v, _, l, rfl, h2, e1, ?_⟩
      rw [e2, bulk_slice]
      have := bulk_len elems
      omega
end
end Go.Proofs.YtadeojgiiapljaaGreat.Im
namespace Go.Proofs.YtadeojgiiapljaaGreat.Im
open Go
theorem list4 {α : Type} {l : List α} (h : l.length = 4) : ∃ x0 x1 x2 x3, l = [x0, x1, x2, x3] := by
  match l, h with
  | [x0, x1, x2, x3], _ => exact ⟨x0, x1, x2, x3, rfl⟩
theorem list5 {α : Type} {l : List α} (h : l.length = 5) : ∃ x0 x1 x2 x3 x4, l = [x0, x1, x2, x3, x4] := by
  match l, h with
  | [x0, x1, x2, x3, x4], _ => exact ⟨x0, x1, x2, x3, x4, rfl⟩
theorem list6 {α : Type} {l : List α} (h : l.length = 6) : ∃ x0 x1 x2 x3 x4 x5, l = [x0, x1, x2, x3, x4, x5] := by
  match l, h with
  | [x0, x1, x2, x3, x4, x5], _ => exact ⟨x0, x1, x2, x3, x4, x5, rfl⟩
theorem list8 {α : Type} {l : List α} (h : l.length = 8) : ∃ x0 x1 x2 x3 x4 x5 x6 x7, l = [x0, x1, x2, x3, x4, x5, x6, x7] := by
  match l, h with
  | [x0, x1, x2, x3, x4, x5, x6, x7], _ => exact ⟨x0, x1, x2, x3, x4, x5, x6, x7, rfl⟩
theorem list13 {α : Type} {l : List α} (h : l.length = 13) : ∃ x0 x1 x2 x3 x4 x5 x6 x7 x8 x9 x10 x11 x12, l = [x0, x1, x2, x3, x4, x5, x6, x7, x8, x9, x10, x11, x12] := by
  match l, h with
  | [x0, x1, x2, x3, x4, x5, x6, x7, x8, x9, x10, x11, x12], _ => exact ⟨x0, x1, x2, x3, x4, x5, x6, x7, x8, x9, x10, x11, x12, rfl⟩
section
variable {H : Type} {enc : TypeId × Value → H} {W : World} {held : Bool}
theorem reg_bridge {fuel : Nat} {cs : List Value} {d : DataW H} {ps : List MemPlace} (h : DataW.trod enc Tryz.prog W 0 (fun _ => true) held fuel 128 cs = some (d, ps)) :
    ∃ s a z b, CRs W [.str s, .int .i64 a, .int .i64 z, .bool b] cs ∧ i64ok a = true ∧ i64ok z = true ∧ s.size < Rows.uptoBulk d := by
  cases fuel with
  | zero => simp [DataW.trod] at h
  | succ fuel =>
    obtain ⟨hl, xs, rfl, hm⟩ := struct_bridge Tryz.underlying128 h
    rw [c128] at hl
    obtain ⟨m1, m2⟩ := mapM_get hm
    obtain ⟨y0, g0, t0⟩ := m2 0 _ rfl
    obtain ⟨y1, g1, t1⟩ := m2 1 _ rfl
    obtain ⟨y2, g2, t2⟩ := m2 2 _ rfl
    obtain ⟨y3, g3, t3⟩ := m2 3 _ rfl
    simp only at t0 t1 t2 t3
    rw [c9] at t0
    rw [c3] at t1 t2
    rw [c4] at t3
    obtain ⟨x0, x1, x2, x3, rfl⟩ := list4 hl
    obtain ⟨s, e0, hd⟩ := string_bridge Tryz.underlying9 t0
    obtain ⟨a, e1, a1, a2⟩ := int_bridge Tryz.underlying3 t1
    obtain ⟨z, e2, z1, z2⟩ := int_bridge Tryz.underlying3 t2
    obtain ⟨b, e3⟩ := bool_bridge Tryz.underlying4 t3
    cases e0; cases e1; cases e2; cases e3
    refine ⟨s, a, z, b, .cons (.str _) (.cons (.int _ _) (.cons (.int _ _) (.one (.bool _)))), i64ok_of a1 a2, i64ok_of z1 z2, ?_⟩
    rw [bulk_agg]
    have hmem : y0.1 ∈ xs.map (·.1) := List.mem_map.2 ⟨y0, List.mem_of_getElem? g0, rfl⟩
    have := bulk_mem hmem
    rw [hd] at this
    have hb : Rows.uptoBulk (.lit (.string s.data.toList) : DataW H) = s.data.toList.length + 1 := by simp [Rows.uptoBulk]
    have hs : s.data.toList.length = s.size := by rw [Array.length_toList]; rfl
    omega
theorem regs_all {elems : List (DataW H)} {ivss : List (List IV)} (h : All2 (fun (x : DataW H) ivs => ∃ s a z b, ivs = [.str s, .int .i64 a, .int .i64 z, .bool b] ∧ i64ok a = true ∧ i64ok z = true ∧ s.size < Rows.uptoBulk x) elems ivss) (hb : Rows.uptoBulkAll elems ≤ 1048576) : ∃ l, decRs ivss.flatten elems.length = some l ∧ l.length = elems.length := by
  induction h with
  | nil => exact ⟨[], by simp [decRs], rfl⟩
  | @cons _ _ _ bs h1 _ ih =>
    simp only [Rows.uptoBulkAll] at hb
    obtain ⟨s, a, z, b, rfl, ha, hz, hs⟩ := h1
    obtain ⟨l, e1, e2⟩ := ih (by omega)
    refine ⟨⟨s, a, z, b⟩ :: l, ?_, by simp [e2]⟩
    rw [List.flatten_cons, List.length_cons]
    show decRs (.str s :: .int .i64 a :: .int .i64 z :: .bool b :: bs.flatten) _ = _
    have hs' : s.size < 4000000 := by omega
    simp only [decRs, ha, hz, hs', decide_true, Bool.and_true, if_true]
    rw [e1]; rfl
theorem regs_bridge {fuel : Nat} {cs : List Value} {d : DataW H} {ps : List MemPlace} (h : DataW.trod enc Tryz.prog W 0 (fun _ => true) held fuel 27 cs = some (d, ps)) (hb : Rows.uptoBulk d ≤ 1048576) : ∃ v iv l, cs = [v] ∧ CR W iv v ∧ decRegs iv = some l ∧ l.length < Rows.uptoBulk d := by
  cases fuel with
  | zero => simp [DataW.trod] at h
  | succ fuel =>
    obtain ⟨v, rfl, hc⟩ := slice_bridge (Good := fun x ivs => ∃ s a z b, ivs = [.str s, .int .i64 a, .int .i64 z, .bool b] ∧ i64ok a = true ∧ i64ok z = true ∧ s.size < Rows.uptoBulk x) Tryz.underlying27 c128 (by decide) (fun cs d ps hd hl => by
      obtain ⟨s, a, z, b, h1, h2⟩ := reg_bridge hd
      exact ⟨_, h1, s, a, z, b, rfl, h2⟩) h
    rcases hc with ⟨rfl, rfl⟩ | ⟨elems, rest, ivss, rfl, h1, h2, h3, h4⟩
    · exact ⟨_, .nils, [], rfl, .nils, rfl, by rw [bulk_nil]; decide⟩
    · rw [bulk_slice] at hb
      obtain ⟨l, e1, e2⟩ := regs_all (all_good h1 h4) (by omega)
      refine ⟨v, _, l, rfl, h2, e1, ?_⟩
      rw [e2, bulk_slice]
      have := bulk_len elems
      omega
theorem c101 : Tryz.prog.cellsOf 101 = 13 := by kernel_rfl
theorem c99 : Tryz.prog.cellsOf 99 = 8 := by kernel_rfl
theorem c96 : Tryz.prog.cellsOf 96 = 1 := by kernel_rfl
theorem c97 : Tryz.prog.cellsOf 97 = 1 := by kernel_rfl
theorem c84 : Tryz.prog.cellsOf 84 = 1 := by kernel_rfl
theorem c23 : Tryz.prog.cellsOf 23 = 1 := by kernel_rfl
theorem c22 : Tryz.prog.cellsOf 22 = 1 := by kernel_rfl
theorem c25 : Tryz.prog.cellsOf 25 = 5 := by kernel_rfl
theorem ins_bridge {fuel : Nat} {cs : List Value} {d : DataW H} {ps : List MemPlace} (h : DataW.trod enc Tryz.prog W 0 (fun _ => true) held fuel 99 cs = some (d, ps)) :
    ∃ x : In8, CRs W x.cells cs ∧ i64ok x.kind = true ∧ i64ok x.op = true ∧ i64ok x.d = true ∧ i64ok x.a = true ∧ i64ok x.b = true ∧ i64ok x.c = true ∧ u64ok x.word = true := by
  cases fuel with
  | zero => simp [DataW.trod] at h
  | succ fuel =>
    obtain ⟨hl, xs, rfl, hm⟩ := struct_bridge Tryz.underlying99 h
    rw [c99] at hl
    obtain ⟨m1, m2⟩ := mapM_get hm
    obtain ⟨y0, g0, t0⟩ := m2 0 _ rfl
    obtain ⟨y1, g1, t1⟩ := m2 1 _ rfl
    obtain ⟨y2, g2, t2⟩ := m2 2 _ rfl
    obtain ⟨y3, g3, t3⟩ := m2 3 _ rfl
    obtain ⟨y4, g4, t4⟩ := m2 4 _ rfl
    obtain ⟨y5, g5, t5⟩ := m2 5 _ rfl
    obtain ⟨y6, g6, t6⟩ := m2 6 _ rfl
    obtain ⟨y7, g7, t7⟩ := m2 7 _ rfl
    simp only at t0 t1 t2 t3 t4 t5 t6 t7
    rw [c97] at t0
    rw [c84] at t1
    rw [c3] at t2 t3 t4 t5
    rw [u26] at t6
    rw [c4] at t7
    obtain ⟨x0, x1, x2, x3, x4, x5, x6, x7, rfl⟩ := list8 hl
    obtain ⟨v0, e0, p0, q0⟩ := int_bridge Tryz.underlying97 t0
    obtain ⟨v1, e1, p1, q1⟩ := int_bridge Tryz.underlying84 t1
    obtain ⟨v2, e2, p2, q2⟩ := int_bridge Tryz.underlying3 t2
    obtain ⟨v3, e3, p3, q3⟩ := int_bridge Tryz.underlying3 t3
    obtain ⟨v4, e4, p4, q4⟩ := int_bridge Tryz.underlying3 t4
    obtain ⟨v5, e5, p5, q5⟩ := int_bridge Tryz.underlying3 t5
    obtain ⟨v6, e6, p6, q6⟩ := int_bridge Tryz.underlying41 t6
    obtain ⟨v7, e7⟩ := bool_bridge Tryz.underlying4 t7
    cases e0; cases e1; cases e2; cases e3; cases e4; cases e5; cases e6; cases e7
    exact ⟨⟨v0, v1, v2, v3, v4, v5, v6, v7⟩, .cons (.int _ _) (.cons (.int _ _) (.cons (.int _ _) (.cons (.int _ _) (.cons (.int _ _) (.cons (.int _ _) (.cons (.int _ _) (.one (.bool _)))))))), i64ok_of p0 q0, i64ok_of p1 q1, i64ok_of p2 q2, i64ok_of p3 q3, i64ok_of p4 q4, i64ok_of p5 q5, u64ok_of p6 q6⟩
/-- A list of trees, as constants. -/
def NodesOK (enc : TypeId × Value → H) (W : World) (held : Bool) (fuel : Nat) : Prop := ∀ (cs : List Value) (d : DataW H) (ps : List MemPlace), DataW.trod enc Tryz.prog W 0 (fun _ => true) held fuel 23 cs = some (d, ps) →
  ∃ v iv l, cs = [v] ∧ CR W iv v ∧ (∀ k, Rows.uptoBulk d ≤ k → decNds k iv = some l) ∧ cntL l ≤ Rows.uptoBulk d
def NodeOK (enc : TypeId × Value → H) (W : World) (held : Bool) (fuel : Nat) : Prop := ∀ (cs : List Value) (d : DataW H) (ps : List MemPlace), DataW.trod enc Tryz.prog W 0 (fun _ => true) held fuel 101 cs = some (d, ps) →
  ∃ ivs x, CRs W ivs cs ∧ cs.length = 13 ∧ (∀ k, Rows.uptoBulk d ≤ k → decNd (decNds k) ivs = some x) ∧ x.cnt ≤ Rows.uptoBulk d
theorem nodes_all {elems : List (DataW H)} {ivss : List (List IV)} (h : All2 (fun (x : DataW H) ivs => ivs.length = 13 ∧ ∃ nd, (∀ k, Rows.uptoBulk x ≤ k → decNd (decNds k) ivs = some nd) ∧ nd.cnt ≤ Rows.uptoBulk x) elems ivss) : ∃ l, (∀ k, Rows.uptoBulkAll elems ≤ k → decL (decNds k) ivss.flatten elems.length = some l) ∧ cntL l ≤ Rows.uptoBulkAll elems := by
  induction h with
  | nil => exact ⟨[], fun k _ => rfl, by simp [cntL]⟩
  | @cons x ivs _ _ h1 _ ih =>
    obtain ⟨hlen, nd, hd, hc⟩ := h1
    obtain ⟨l, e1, e2⟩ := ih
    simp only [Rows.uptoBulkAll]
    refine ⟨nd :: l, fun k hk => ?_, by simp only [cntL]; omega⟩
    rw [List.flatten_cons, List.length_cons]
    simp only [decL]
    rw [List.take_left' hlen, List.drop_left' hlen, hd k (by omega), e1 k (by omega)]
theorem nodes_step {fuel : Nat} (ih : NodeOK enc W held fuel) : NodesOK enc W held (fuel + 1) := fun cs d ps h => by
  obtain ⟨v, rfl, hc⟩ := slice_bridge (Good := fun x ivs => ivs.length = 13 ∧ ∃ nd, (∀ k, Rows.uptoBulk x ≤ k → decNd (decNds k) ivs = some nd) ∧ nd.cnt ≤ Rows.uptoBulk x) Tryz.underlying23 c101 (by decide) (fun cs d ps hd hl => by
    obtain ⟨ivs, x, h1, h2, h3, h4⟩ := ih cs d ps hd
    exact ⟨ivs, h1, by rw [h1.1, h2], x, h3, h4⟩) h
  rcases hc with ⟨rfl, rfl⟩ | ⟨elems, rest, ivss, rfl, h1, h2, h3, h4⟩
  · refine ⟨_, .nils, [], rfl, .nils, fun k hk => ?_, by simp [cntL]⟩
    rw [bulk_nil] at hk
    cases k with
    | zero => omega
    | succ k => rfl
  · obtain ⟨l, e1, e2⟩ := nodes_all (all_good h1 h4)
    rw [bulk_slice]
    refine ⟨v, _, l, rfl, h2, fun k hk => ?_, by omega⟩
    cases k with
    | zero => omega
    | succ k => exact e1 k (by omega)
theorem node_step {fuel : Nat} (ih : NodesOK enc W held fuel) : NodeOK enc W held (fuel + 1) := fun cs d ps h => by
  obtain ⟨hl, xs, rfl, hm⟩ := struct_bridge Tryz.underlying101 h
  rw [c101] at hl
  obtain ⟨m1, m2⟩ := mapM_get hm
  obtain ⟨y0, g0, t0⟩ := m2 0 _ rfl
  obtain ⟨y1, g1, t1⟩ := m2 1 _ rfl
  obtain ⟨y2, g2, t2⟩ := m2 2 _ rfl
  obtain ⟨y3, g3, t3⟩ := m2 3 _ rfl
  obtain ⟨y4, g4, t4⟩ := m2 4 _ rfl
  obtain ⟨y5, g5, t5⟩ := m2 5 _ rfl
  simp only at t0 t1 t2 t3 t4 t5
  rw [c96] at t0
  rw [c99] at t1
  rw [c3] at t2
  rw [c23] at t3 t4 t5
  obtain ⟨x0, x1, x2, x3, x4, x5, x6, x7, x8, x9, x10, x11, x12, rfl⟩ := list13 hl
  obtain ⟨v0, e0, p0, q0⟩ := int_bridge Tryz.underlying96 t0
  obtain ⟨xi, i1, r1, r2, r3, r4, r5, r6, r7⟩ := ins_bridge t1
  obtain ⟨v2, e2, p2, q2⟩ := int_bridge Tryz.underlying3 t2
  obtain ⟨w3, iv3, l3, e3, f3, d3, n3⟩ := ih _ _ _ t3
  obtain ⟨w4, iv4, l4, e4, f4, d4, n4⟩ := ih _ _ _ t4
  obtain ⟨w5, iv5, l5, e5, f5, d5, n5⟩ := ih _ _ _ t5
  cases e0; cases e2; cases e3; cases e4; cases e5
  obtain ⟨a0, a1, a2, a3, a4, a5, rfl⟩ := list6 m1
  cases g0; cases g1; cases g2; cases g3; cases g4; cases g5
  have hbulk : Rows.uptoBulk (DataW.agg (List.map (·.1) [y0, y1, y2, y3, y4, y5]) : DataW H) = Rows.uptoBulk y0.1 + (Rows.uptoBulk y1.1 + (Rows.uptoBulk y2.1 + (Rows.uptoBulk y3.1 + (Rows.uptoBulk y4.1 + (Rows.uptoBulk y5.1 + 0))))) + 1 := by
    rw [bulk_agg]; rfl
  rw [hbulk]
  refine ⟨[.int .i64 v0] ++ (xi.cells ++ [.int .i64 v2, iv3, iv4, iv5]), .mk v0 xi v2 l3 l4 l5, ?_, rfl, fun k hk => ?_, by simp only [Nd.cnt]; omega⟩
  · have hi : CRs W xi.cells [x1, x2, x3, x4, x5, x6, x7, x8] := i1
    exact .append (.one (.int _ _)) (.append hi (.cons (.int _ _) (.cons f3 (.cons f4 (.one f5)))))
  · obtain ⟨z1, z2, z3, z4, z5, z6, z7, z8⟩ := xi
    simp only [In8.cells, List.cons_append, List.nil_append]
    simp only at r1 r2 r3 r4 r5 r6 r7
    simp only [decNd, r1, r2, r3, r4, r5, r6, r7, i64ok_of p0 q0, i64ok_of p2 q2, Bool.and_self, if_true, d3 k (by omega), d4 k (by omega), d5 k (by omega)]
theorem nodes_ok : ∀ fuel, NodesOK enc W held fuel ∧ NodeOK enc W held fuel
  | 0 => ⟨fun cs d ps h => by simp [DataW.trod] at h, fun cs d ps h => by simp [DataW.trod] at h⟩
  | fuel + 1 => ⟨nodes_step (nodes_ok fuel).2, node_step (nodes_ok fuel).1⟩
/-- A function's data. -/
theorem flat_bridge {fuel K : Nat} {cs : List Value} {d : DataW H} {ps : List MemPlace} (h : DataW.trod enc Tryz.prog W 0 (fun _ => true) held fuel 25 cs = some (d, ps)) (hb : Rows.uptoBulk d ≤ 1048576) (hK : Rows.uptoBulk d ≤ K) :
    ∃ ivs f, CRs W ivs cs ∧ decFlat K (.agg ivs) = some f := by
  cases fuel with
  | zero => simp [DataW.trod] at h
  | succ fuel =>
    obtain ⟨hl, xs, rfl, hm⟩ := struct_bridge Tryz.underlying25 h
    rw [c25] at hl
    obtain ⟨m1, m2⟩ := mapM_get hm
    obtain ⟨y0, g0, t0⟩ := m2 0 _ rfl
    obtain ⟨y1, g1, t1⟩ := m2 1 _ rfl
    obtain ⟨y2, g2, t2⟩ := m2 2 _ rfl
    obtain ⟨y3, g3, t3⟩ := m2 3 _ rfl
    obtain ⟨y4, g4, t4⟩ := m2 4 _ rfl
    simp only at t0 t1 t2 t3 t4
    rw [c3] at t0 t3
    rw [c22] at t1 t2
    rw [c23] at t4
    obtain ⟨x0, x1, x2, x3, x4, rfl⟩ := list5 hl
    obtain ⟨v0, e0, p0, q0⟩ := int_bridge Tryz.underlying3 t0
    obtain ⟨w1, iv1, l1, e1, f1, d1, n1⟩ := nums_bridge t1
    obtain ⟨w2, iv2, l2, e2, f2, d2, n2⟩ := nums_bridge t2
    obtain ⟨v3, e3, p3, q3⟩ := int_bridge Tryz.underlying3 t3
    obtain ⟨w4, iv4, l4, e4, f4, d4, n4⟩ := (nodes_ok fuel).1 _ _ _ t4
    cases e0; cases e1; cases e2; cases e3; cases e4
    rw [bulk_agg] at hb hK
    have b1 := bulk_mem (List.mem_map.2 ⟨y1, List.mem_of_getElem? g1, rfl⟩ : y1.1 ∈ xs.map (·.1))
    have b2 := bulk_mem (List.mem_map.2 ⟨y2, List.mem_of_getElem? g2, rfl⟩ : y2.1 ∈ xs.map (·.1))
    have b4 := bulk_mem (List.mem_map.2 ⟨y4, List.mem_of_getElem? g4, rfl⟩ : y4.1 ∈ xs.map (·.1))
    refine ⟨[.int .i64 v0, iv1, iv2, .int .i64 v3, iv4], ⟨v0, l1, l2, v3, l4⟩, .cons (.int _ _) (.cons f1 (.cons f2 (.cons (.int _ _) (.one f4)))), ?_⟩
    have h1 : l1.length < 4000000 := by omega
    have h2 : l2.length < 4000000 := by omega
    have h4 : cntL l4 < 4000000 := by omega
    simp only [decFlat, d1, d2, d4 K (by omega), i64ok_of p0 q0, i64ok_of p3 q3, small, h1, h2, h4, decide_true, Bool.and_self, if_true]
end
end Go.Proofs.YtadeojgiiapljaaGreat.Im
