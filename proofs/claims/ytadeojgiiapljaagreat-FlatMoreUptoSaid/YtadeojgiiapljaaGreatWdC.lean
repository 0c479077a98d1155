/- word.evals: what holds while the map is built. -/
import Derived.Test.YtadeojgiiapljaaGreatWdB
set_option linter.unusedSimpArgs false
set_option linter.unusedVariables false
namespace Go.Proofs.YtadeojgiiapljaaGreat.Im
open Go
set_option maxHeartbeats 1000000
set_option maxRecDepth 100000
/-- The closure of an operation. -/
def Ent (h : IHeap) (k : Nat) (v : IV) : Prop :=
  (k = 4 → v = fv 243) ∧ (k = 5 → v = fv 244) ∧ (k = 21 → v = fv 261) ∧ (∀ n, n < 11 → k = 6 + n → ∃ b, v = .func (.func 240) [] [.ptr b 0] ∧ h.get b = some (.row [fv (twoK n)])) ∧
    (∀ m, m < 4 → k = 17 + m → ∃ b b2, v = .func (.func 240) [] [.ptr b 0] ∧ h.get b = some (.row [.func (.func 242) [] [.ptr b2 0]]) ∧ h.get b2 = some (.row [fv (257 + m)]))
/-- The rows stay. -/
def RowStay (h h' : IHeap) : Prop := ∀ b cs, h.get b = some (.row cs) → h'.get b = some (.row cs)
theorem Ent.stay {h h' : IHeap} {k : Nat} {v : IV} (he : Ent h k v) (hr : RowStay h h') : Ent h' k v := by
  obtain ⟨h1, h2, h3, h4, h5⟩ := he
  refine ⟨h1, h2, h3, fun n hn hk => ?_, fun m hm hk => ?_⟩
  · obtain ⟨b, e1, e2⟩ := h4 n hn hk; exact ⟨b, e1, hr _ _ e2⟩
  · obtain ⟨b, b2, e1, e2, e3⟩ := h5 m hm hk; exact ⟨b, b2, e1, hr _ _ e2, hr _ _ e3⟩
theorem Grow.rows {h h' : IHeap} (g : Grow h h') : RowStay h h' := fun b cs hb => by rw [g.2 b (get_lt hb)]; exact hb
/-- What an operation of the region leaves in its place. -/
structure J (tb j : Nat) (v : IV) (h : IHeap) : Prop where
  ld : ∀ n, n < 11 → j = 3 + 3 * n → v = fv 239
  cl : ∀ n, n < 11 → j = 4 + 3 * n → Ent h (6 + n) v
  mv : ∀ m, m < 4 → j = 36 + 3 * m → v = .func (.func 241) [] [.ptr tb 0]
  cm : ∀ m, m < 4 → j = 37 + 3 * m → Ent h (17 + m) v
theorem J.stay {tb j : Nat} {v : IV} {h h' : IHeap} (a : J tb j v h) (hr : RowStay h h') : J tb j v h' := ⟨a.ld, fun n h1 h2 => (a.cl n h1 h2).stay hr, a.mv, fun n h1 h2 => (a.cm n h1 h2).stay hr⟩
def dstJ (j : Nat) : Nat := if j ≤ 34 then 5 + 2 * ((j - 3) / 3) + (j - 3) % 3 else 27 + 2 * ((j - 36) / 3) + (j - 36) % 3
/-- The operations that lay a closure. -/
def valJ (j : Nat) : Prop := (∃ n, n < 11 ∧ j = 3 + 3 * n) ∨ (∃ n, n < 11 ∧ j = 4 + 3 * n) ∨ (∃ m, m < 4 ∧ j = 36 + 3 * m) ∨ (∃ m, m < 4 ∧ j = 37 + 3 * m)
theorem dstJ_at {j : Nat} (h : valJ j) : (∀ n, n < 11 → j = 3 + 3 * n → dstJ j = 5 + 2 * n) ∧ (∀ n, n < 11 → j = 4 + 3 * n → dstJ j = 6 + 2 * n) ∧ (∀ n, n < 4 → j = 36 + 3 * n → dstJ j = 27 + 2 * n) ∧ (∀ n, n < 4 → j = 37 + 3 * n → dstJ j = 28 + 2 * n) := by
  unfold dstJ
  refine ⟨fun n hn hj => ?_, fun n hn hj => ?_, fun n hn hj => ?_, fun n hn hj => ?_⟩ <;> split <;> omega
theorem dstJ_rng {j : Nat} (h : valJ j) : 5 ≤ dstJ j ∧ dstJ j ≤ 34 := by
  obtain ⟨a, b, c, d⟩ := dstJ_at h
  rcases h with ⟨n, h1, h2⟩ | ⟨n, h1, h2⟩ | ⟨n, h1, h2⟩ | ⟨n, h1, h2⟩
  · rw [a n h1 h2]; omega
  · rw [b n h1 h2]; omega
  · rw [c n h1 h2]; omega
  · rw [d n h1 h2]; omega
theorem dstJ_inj {i j : Nat} (hi : valJ i) (hj : valJ j) (he : dstJ i = dstJ j) : i = j := by
  obtain ⟨a, b, c, d⟩ := dstJ_at hi
  obtain ⟨a', b', c', d'⟩ := dstJ_at hj
  rcases hi with ⟨n, h1, h2⟩ | ⟨n, h1, h2⟩ | ⟨n, h1, h2⟩ | ⟨n, h1, h2⟩ <;> rcases hj with ⟨n', h1', h2'⟩ | ⟨n', h1', h2'⟩ | ⟨n', h1', h2'⟩ | ⟨n', h1', h2'⟩ <;>
    first
      | (rw [a n h1 h2] at he; first | (rw [a' n' h1' h2'] at he; omega) | (rw [b' n' h1' h2'] at he; omega) | (rw [c' n' h1' h2'] at he; omega) | (rw [d' n' h1' h2'] at he; omega))
      | (rw [b n h1 h2] at he; first | (rw [a' n' h1' h2'] at he; omega) | (rw [b' n' h1' h2'] at he; omega) | (rw [c' n' h1' h2'] at he; omega) | (rw [d' n' h1' h2'] at he; omega))
      | (rw [c n h1 h2] at he; first | (rw [a' n' h1' h2'] at he; omega) | (rw [b' n' h1' h2'] at he; omega) | (rw [c' n' h1' h2'] at he; omega) | (rw [d' n' h1' h2'] at he; omega))
      | (rw [d n h1 h2] at he; first | (rw [a' n' h1' h2'] at he; omega) | (rw [b' n' h1' h2'] at he; omega) | (rw [c' n' h1' h2'] at he; omega) | (rw [d' n' h1' h2'] at he; omega))
abbrev Dn (L : Array Bool) (j : Nat) : Prop := L.getD j true = true
/-- What holds while the region runs. -/
structure Inv (h0 : IHeap) (tb : Nat) (L : Array Bool) (e : Env) (h : IHeap) : Prop where
  grow : Grow h0 h
  e1 : e.get 1 = some (.ptr tb 0)
  e2 : e.get 2 = some (.func (.func 241) [] [.ptr tb 0])
  dk : e.get DK = none
  val : ∀ j, valJ j → Dn L j → ∃ v, e.get (dstJ j) = some v ∧ J tb j v h
  mp : Dn L 0 → ∃ mb es clk, e.get 4 = some (.map mb) ∧ h0.n ≤ mb ∧ h.get mb = some (.map es clk) ∧ (∀ x ∈ es, ∃ k, k < 22 ∧ 4 ≤ k ∧ x.key = .int .i64 (k : Nat) ∧ Dn L (insIdx k) ∧ Ent h k x.val) ∧
    (∀ k, k < 22 → 4 ≤ k → Dn L (insIdx k) → ∃ x ∈ es, x.key = .int .i64 (k : Nat)) ∧ (Dn L 49 → e.get 35 = some (.map mb)) ∧ (Dn L 50 → e.get 0 = some (.map mb))
  dep : (∀ k, k < 22 → 4 ≤ k → Dn L (insIdx k) → Dn L 0) ∧ (Dn L 49 → Dn L 0) ∧ (Dn L 50 → Dn L 49)
theorem insIdx_ne : ∀ k, k < 22 → 4 ≤ k → insIdx k ≠ 0 ∧ insIdx k ≠ 49 ∧ insIdx k ≠ 50 ∧ insIdx k < 51 := by decide
theorem insIdx_val {k : Nat} (h1 : k < 22) (h2 : 4 ≤ k) : ¬ valJ (insIdx k) := by
  unfold valJ insIdx
  rintro (⟨n, _, h⟩ | ⟨n, _, h⟩ | ⟨n, _, h⟩ | ⟨n, _, h⟩) <;> (repeat' split at h) <;> omega
theorem valJ_ne {j : Nat} (h : valJ j) : j ≠ 0 ∧ j ≠ 49 ∧ j ≠ 50 ∧ j < 51 := by
  rcases h with ⟨n, _, h⟩ | ⟨n, _, h⟩ | ⟨n, _, h⟩ | ⟨n, _, h⟩ <;> omega
theorem dn_set {L : Array Bool} {i j : Nat} (hi : i < L.size) : Dn (L.setIfInBounds i true) j ↔ i = j ∨ Dn L j := by
  unfold Dn; rw [getD_set hi]; split <;> simp_all
/-- A closure more. -/
theorem Inv.lay {h0 h h' : IHeap} {tb : Nat} {L : Array Bool} {e : Env} (I : Inv h0 tb L e h) (hs : L.size = 51) {i d : Nat} {v : IV} (hi : valJ i) (hd : dstJ i = d) (hg : Grow h h') (hv : J tb i v h') : Inv h0 tb (L.setIfInBounds i true) (e.put d v) h' := by
  subst hd
  obtain ⟨n0, n1, n2, n3⟩ := valJ_ne hi
  have hlt : i < L.size := by omega
  obtain ⟨r1, r2⟩ := dstJ_rng hi
  have hget : ∀ t, t ≠ dstJ i → (e.put (dstJ i) v).get t = e.get t := fun t ht => by rw [get_put, if_neg (Ne.symm ht)]
  have hins : ∀ k, k < 22 → 4 ≤ k → (Dn (L.setIfInBounds i true) (insIdx k) ↔ Dn L (insIdx k)) := fun k h1 h2 => by
    rw [dn_set hlt]
    constructor
    · rintro (rfl | h)
      · exact absurd hi (insIdx_val h1 h2)
      · exact h
    · exact .inr
  have hdn : ∀ j, j ≠ i → (Dn (L.setIfInBounds i true) j ↔ Dn L j) := fun j hj => by
    rw [dn_set hlt]
    exact ⟨fun h => h.resolve_left (fun hh => hj hh.symm), .inr⟩
  refine ⟨⟨Nat.le_trans I.grow.1 hg.1, fun b hb => by rw [hg.2 b (Nat.lt_of_lt_of_le hb I.grow.1), I.grow.2 b hb]⟩, by rw [hget 1 (by omega)]; exact I.e1, by rw [hget 2 (by omega)]; exact I.e2, by rw [hget DK (by unfold DK; omega)]; exact I.dk, fun j hj hL => ?_, fun hL => ?_, ?_⟩
  · by_cases hji : j = i
    · subst hji; exact ⟨v, by rw [get_put, if_pos rfl], hv⟩
    · obtain ⟨u, hu, hJ⟩ := I.val j hj ((hdn j hji).1 hL)
      exact ⟨u, by rw [hget _ (fun hh => hji (dstJ_inj hj hi hh))]; exact hu, hJ.stay hg.rows⟩
  · obtain ⟨mb, es, clk, m1, m2, m3, m4, m5, m6, m7⟩ := I.mp ((hdn 0 (Ne.symm n0)).1 hL)
    refine ⟨mb, es, clk, by rw [hget 4 (by omega)]; exact m1, m2, by rw [hg.2 mb (get_lt m3)]; exact m3, fun x hx => ?_, fun k k1 k2 hk => m5 k k1 k2 ((hins k k1 k2).1 hk), fun h49 => by rw [hget 35 (by omega)]; exact m6 ((hdn 49 (Ne.symm n1)).1 h49), fun h50 => by rw [hget 0 (by omega)]; exact m7 ((hdn 50 (Ne.symm n2)).1 h50)⟩
    obtain ⟨k, k1, k2, k3, k4, k5⟩ := m4 x hx
    exact ⟨k, k1, k2, k3, (hins k k1 k2).2 k4, k5.stay hg.rows⟩
  · obtain ⟨d1, d2, d3⟩ := I.dep
    refine ⟨fun k k1 k2 hk => (hdn 0 (Ne.symm n0)).2 (d1 k k1 k2 ((hins k k1 k2).1 hk)), fun hh => (hdn 0 (Ne.symm n0)).2 (d2 ((hdn 49 (Ne.symm n1)).1 hh)), fun hh => (hdn 49 (Ne.symm n1)).2 (d3 ((hdn 50 (Ne.symm n2)).1 hh))⟩
theorem find_none {k : Nat} : ∀ {es : List IEntry} (i : Nat), (∀ x ∈ es, ∃ j : Nat, x.key = .int .i64 (j : Nat) ∧ j ≠ k) → findI (.int .i64 (k : Nat)) es i = some none
  | [], i, _ => rfl
  | x :: es, i, hx => by
    obtain ⟨j, h1, h2⟩ := hx x (List.mem_cons_self)
    have hb : ((k : Int) == (j : Int)) = false := by rw [beq_eq_false_iff_ne]; omega
    simp only [findI, keyIs, h1, if_true, hb]
    exact find_none (i + 1) fun y hy => hx y (List.mem_cons_of_mem _ hy)
/-- An entry more. -/
theorem Inv.ins {h0 h : IHeap} {tb : Nat} {L : Array Bool} {e : Env} (I : Inv h0 tb L e h) (hs : L.size = 51) {k : Nat} {v : IV} (h1 : k < 22) (h2 : 4 ≤ k) (hL : L.getD (insIdx k) true = false) (h0d : Dn L 0) (hv : Ent h k v) :
    ∃ mb h', e.get 4 = some (.map mb) ∧ putI h false mb (.int .i64 (k : Nat)) v = some h' ∧ Inv h0 tb (L.setIfInBounds (insIdx k) true) e h' := by
  obtain ⟨n0, n1, n2, n3⟩ := insIdx_ne k h1 h2
  have hlt : insIdx k < L.size := by omega
  obtain ⟨mb, es, clk, m1, m2, m3, m4, m5, m6, m7⟩ := I.mp h0d
  have hf : findI (.int .i64 (k : Nat)) es 0 = some none := find_none 0 fun x hx => by
    obtain ⟨j, k1, k2, k3, k4, k5⟩ := m4 x hx
    refine ⟨j, k3, fun hh => ?_⟩
    subst hh; unfold Dn at k4; rw [hL] at k4; cases k4
  have hrows : RowStay h (h.set mb (.map (es ++ [⟨.int .i64 (k : Nat), v, clk⟩]) (clk + 1))) := fun b cs hb => by
    rw [get_set m3]
    split
    · rename_i hh; subst hh; rw [m3] at hb; cases hb
    · exact hb
  have hgm : (h.set mb (.map (es ++ [⟨.int .i64 (k : Nat), v, clk⟩]) (clk + 1))).get mb = some (.map (es ++ [⟨.int .i64 (k : Nat), v, clk⟩]) (clk + 1)) := by
    rw [get_set m3, if_pos rfl]
  have hdn : ∀ j, j ≠ insIdx k → (Dn (L.setIfInBounds (insIdx k) true) j ↔ Dn L j) := fun j hj => by
    rw [dn_set hlt]
    exact ⟨fun h => h.resolve_left (fun hh => hj hh.symm), .inr⟩
  refine ⟨mb, _, m1, by simp only [putI, keyOk, m3, hf]; rfl, ⟨?_, I.e1, I.e2, I.dk, fun j hj hjL => ?_, fun _ => ⟨mb, _, _, m1, m2, hgm, fun x hx => ?_, fun j j1 j2 hj => ?_, fun hh => m6 ((hdn 49 (Ne.symm n1)).1 hh), fun hh => m7 ((hdn 50 (Ne.symm n2)).1 hh)⟩, ?_⟩⟩
  · refine ⟨by simpa using I.grow.1, fun b hb => ?_⟩
    rw [get_set m3, if_neg (by omega)]; exact I.grow.2 b hb
  · have hne : j ≠ insIdx k := fun hh => insIdx_val h1 h2 (hh ▸ hj)
    obtain ⟨u, hu, hJ⟩ := I.val j hj ((hdn j hne).1 hjL)
    exact ⟨u, hu, hJ.stay hrows⟩
  · rcases List.mem_append.1 hx with hx | hx
    · obtain ⟨j, k1, k2, k3, k4, k5⟩ := m4 x hx
      exact ⟨j, k1, k2, k3, (dn_set hlt).2 (.inr k4), k5.stay hrows⟩
    · simp at hx; subst hx
      exact ⟨k, h1, h2, rfl, (dn_set hlt).2 (.inl rfl), hv.stay hrows⟩
  · by_cases hjk : j = k
    · subst hjk; exact ⟨_, List.mem_append.2 (.inr (List.mem_singleton.2 rfl)), rfl⟩
    · have hne : insIdx j ≠ insIdx k := fun hh => hjk (insIdx_inj j j1 j2 k h1 h2 hh)
      obtain ⟨x, hx, hk⟩ := m5 j j1 j2 ((hdn _ hne).1 hj)
      exact ⟨x, List.mem_append.2 (.inl hx), hk⟩
  · have h0' : Dn (L.setIfInBounds (insIdx k) true) 0 := (dn_set hlt).2 (.inr h0d)
    exact ⟨fun _ _ _ _ => h0', fun _ => h0', fun hh => (hdn 49 (Ne.symm n1)).2 (I.dep.2.2 ((hdn 50 (Ne.symm n2)).1 hh))⟩
end Go.Proofs.YtadeojgiiapljaaGreat.Im
namespace Go.Proofs.YtadeojgiiapljaaGreat.Im
open Go
set_option maxHeartbeats 1000000
set_option maxRecDepth 100000
noncomputable def O216 : Orc := ocons 239 G239 (ocons 241 G241 onil)
theorem O216_ok : ∀ f, Sim Tryz.prog f (O216 f) := ocons_sim s239 (ocons_sim s241 onil_sim)
theorem lt11 {n : Nat} (h : n < 11) : n = 0 ∨ n = 1 ∨ n = 2 ∨ n = 3 ∨ n = 4 ∨ n = 5 ∨ n = 6 ∨ n = 7 ∨ n = 8 ∨ n = 9 ∨ n = 10 := by omega
theorem lt4 {n : Nat} (h : n < 4) : n = 0 ∨ n = 1 ∨ n = 2 ∨ n = 3 := by omega
theorem at_ld (n : Nat) (h : n < 11) : ios216[3 + 3 * n]? = some ⟨some (5 + 2 * n), .load1 (.t 1), none⟩ := by
  rcases lt11 h with rfl | rfl | rfl | rfl | rfl | rfl | rfl | rfl | rfl | rfl | rfl <;> rfl
theorem at_cl (n : Nat) (h : n < 11) : ios216[4 + 3 * n]? = some (clO (6 + 2 * n) (5 + 2 * n) (twoK n)) := by
  rcases lt11 h with rfl | rfl | rfl | rfl | rfl | rfl | rfl | rfl | rfl | rfl | rfl <;> rfl
theorem at_in (n : Nat) (h : n < 11) : ios216[insIdx (6 + n)]? = some (inO (6 + n) (.t (6 + 2 * n))) := by
  rcases lt11 h with rfl | rfl | rfl | rfl | rfl | rfl | rfl | rfl | rfl | rfl | rfl <;> rfl
theorem at_mv (n : Nat) (h : n < 4) : ios216[36 + 3 * n]? = some ⟨some (27 + 2 * n), .mv (.t 2), none⟩ := by
  rcases lt4 h with rfl | rfl | rfl | rfl <;> rfl
theorem at_cm (n : Nat) (h : n < 4) : ios216[37 + 3 * n]? = some (clO (28 + 2 * n) (27 + 2 * n) (257 + n)) := by
  rcases lt4 h with rfl | rfl | rfl | rfl <;> rfl
theorem at_im (n : Nat) (h : n < 4) : ios216[insIdx (17 + n)]? = some (inO (17 + n) (.t (28 + 2 * n))) := by
  rcases lt4 h with rfl | rfl | rfl | rfl <;> rfl
theorem op_ins {O : Orc} {k mb : Nat} {a : IArg} {v : IV} {e : Env} {h h' : IHeap} (h4 : e.get 4 = some (.map mb)) (ha : a.ev e = some v) (hp : putI h false mb (.int .i64 (k : Nat)) v = some h') : opI O (inO k a).op e h = .ok .undef h' := by
  have h4' : IArg.ev e (.t 4) = some (.map mb) := h4
  have hk : IArg.ev e (.c (.int .i64 (k : Nat))) = some (.int .i64 (k : Nat)) := rfl
  show opAct O (.mapput false (.t 4) (.c (.int .i64 (k : Nat))) a) e h = _
  simp only [opAct, h4', hk, ha, hp]
theorem nd_of {L : Array Bool} {j : Nat} (h : L.getD j true = false) : ¬ Dn L j := fun hh => by unfold Dn at hh; rw [h] at hh; cases hh
theorem step216 {h0 : IHeap} {tb : Nat} (htb : h0.get tb = some (.row [fv 239])) : ∀ (L : Array Bool) (e : Env) (h : IHeap) (i : Nat), L.size = ops216.size → Inv h0 tb L e h → i ∈ Region.ready .any ops216 L →
    ∃ io v h', ios216[i]? = some io ∧ io.guard = none ∧ (∀ x, io.op ≠ .deferc x) ∧ opI O216 io.op e h = .ok v h' ∧ Inv h0 tb (L.setIfInBounds i true) (e.puto io.dst v) h' := by
  intro L e h i hs I hr
  have hlow : ∀ (i : Nat) (o : Oper), ops216[i]? = some o → ∀ e ∈ o.after.toList, e.on < i := fun i o ho e he => by
    have := lowB_get low216 i o (by simpa using ho) e he; omega
  obtain ⟨hi, hL, _⟩ := ready_iff.1 hr
  have hdep : ∀ j, depB ops216.toList i j = true → Dn L j := fun j hj => dep_ready hj hs hlow hr
  rw [size216] at hs hi
  have hlt : i < L.size := by omega
  obtain ⟨D1, D2, D3, D4, D5, D6, D7, D8⟩ := deps216
  simp only [List.all_eq_true, List.mem_range] at D1 D2 D3 D4 D5
  have ht : h.get tb = some (.row [fv 239]) := by rw [I.grow.2 tb (get_lt htb)]; exact htb
  have ins : ∀ k a v, k < 22 → 4 ≤ k → i = insIdx k → ios216[insIdx k]? = some (inO k a) → a.ev e = some v → Ent h k v → ∃ io v h', ios216[i]? = some io ∧ io.guard = none ∧ (∀ x, io.op ≠ .deferc x) ∧ opI O216 io.op e h = .ok v h' ∧ Inv h0 tb (L.setIfInBounds i true) (e.puto io.dst v) h' := by
    intro k a v h1 h2 hk ho ha hv
    subst hk
    have hd := D5 k h1
    have : Nat.blt k 4 = false := by cases hb : Nat.blt k 4 with
      | false => rfl
      | true => exfalso; simp [Nat.blt] at hb; omega
    rw [this, Bool.false_or] at hd
    obtain ⟨mb, h', m1, m2, m3⟩ := I.ins hs h1 h2 hL (hdep 0 hd) hv
    exact ⟨_, _, h', ho, rfl, fun x => by simp [inO], op_ins m1 ha m2, m3⟩
  rcases kinds216 i hi with rfl | ⟨k, h1, h2, hk⟩ | ⟨n, hn, rfl⟩ | ⟨n, hn, rfl⟩ | ⟨n, hn, rfl⟩ | ⟨n, hn, rfl⟩ | rfl | rfl
  · refine ⟨⟨some 4, .mkmap, none⟩, .map h.n, h.push (.map [] 0), rfl, rfl, fun x => by simp, rfl, ?_⟩
    have hget : ∀ t, t ≠ 4 → ((e.put 4 (.map h.n)).get t) = e.get t := fun t ht => by rw [get_put, if_neg (Ne.symm ht)]
    have hg := Grow.push h (.map [] 0)
    have hdn : ∀ j, j ≠ 0 → (Dn (L.setIfInBounds 0 true) j ↔ Dn L j) := fun j hj => by
      rw [dn_set hlt]; exact ⟨fun h => h.resolve_left (fun hh => hj hh.symm), .inr⟩
    have hz : Dn (L.setIfInBounds 0 true) 0 := (dn_set hlt).2 (.inl rfl)
    refine ⟨⟨Nat.le_trans I.grow.1 hg.1, fun b hb => by rw [hg.2 b (Nat.lt_of_lt_of_le hb I.grow.1), I.grow.2 b hb]⟩, by rw [Env.puto, hget 1 (by decide)]; exact I.e1, by rw [Env.puto, hget 2 (by decide)]; exact I.e2, by rw [Env.puto, hget DK (by decide)]; exact I.dk, fun j hj hjL => ?_, fun _ => ?_, ?_⟩
    · obtain ⟨u, hu, hJ⟩ := I.val j hj ((hdn j (valJ_ne hj).1).1 hjL)
      have := dstJ_rng hj
      exact ⟨u, by rw [Env.puto, hget _ (by omega)]; exact hu, hJ.stay hg.rows⟩
    · refine ⟨h.n, [], 0, by rw [Env.puto, get_put, if_pos rfl], I.grow.1, by rw [get_push_eq, if_pos rfl], fun x hx => (by cases hx), fun k h1 h2 hk => ?_, fun hh => ?_, fun hh => ?_⟩
      · exact absurd (I.dep.1 k h1 h2 ((hdn _ (insIdx_ne k h1 h2).1).1 hk)) (nd_of hL)
      · exact absurd (I.dep.2.1 ((hdn 49 (by decide)).1 hh)) (nd_of hL)
      · exact absurd (I.dep.2.1 (I.dep.2.2 ((hdn 50 (by decide)).1 hh))) (nd_of hL)
    · exact ⟨fun _ _ _ _ => hz, fun _ => hz, fun hh => (hdn 49 (by decide)).2 (I.dep.2.2 ((hdn 50 (by decide)).1 hh))⟩
  · have hsp : k = 4 ∨ k = 5 ∨ k = 21 ∨ (∃ n, n < 11 ∧ k = 6 + n) ∨ ∃ m, m < 4 ∧ k = 17 + m := by
      rcases Nat.lt_or_ge k 6 with h | h
      · omega
      rcases Nat.lt_or_ge k 17 with h | h
      · exact .inr (.inr (.inr (.inl ⟨k - 6, by omega, by omega⟩)))
      rcases Nat.lt_or_ge k 21 with h | h
      · exact .inr (.inr (.inr (.inr ⟨k - 17, by omega, by omega⟩)))
      · omega
    rcases hsp with rfl | rfl | rfl | ⟨n, hn, rfl⟩ | ⟨m, hm, rfl⟩
    · exact ins 4 (.c (fv 243)) (fv 243) h1 h2 hk rfl rfl ⟨fun _ => rfl, fun h => by omega, fun h => by omega, fun n _ h => by omega, fun n _ h => by omega⟩
    · exact ins 5 (.c (fv 244)) (fv 244) h1 h2 hk rfl rfl ⟨fun h => by omega, fun _ => rfl, fun h => by omega, fun n _ h => by omega, fun n _ h => by omega⟩
    · exact ins 21 (.c (fv 261)) (fv 261) h1 h2 hk rfl rfl ⟨fun h => by omega, fun h => by omega, fun _ => rfl, fun n _ h => by omega, fun n _ h => by omega⟩
    · have hk' : i = 5 + 3 * n := by rw [hk]; unfold insIdx; (repeat' split) <;> omega
      have hv : valJ (4 + 3 * n) := .inr (.inl ⟨n, hn, rfl⟩)
      obtain ⟨u, hu, hJ⟩ := I.val (4 + 3 * n) hv (hdep _ (by rw [hk']; exact D2 n hn))
      rw [(dstJ_at hv).2.1 n hn rfl] at hu
      exact ins _ _ u h1 h2 hk (at_in n hn) hu (hJ.cl n hn rfl)
    · have hk' : i = 38 + 3 * m := by rw [hk]; unfold insIdx; (repeat' split) <;> omega
      have hv : valJ (37 + 3 * m) := .inr (.inr (.inr ⟨m, hm, rfl⟩))
      obtain ⟨u, hu, hJ⟩ := I.val (37 + 3 * m) hv (hdep _ (by rw [hk']; exact D4 m hm))
      rw [(dstJ_at hv).2.2.2 m hm rfl] at hu
      exact ins _ _ u h1 h2 hk (at_im m hm) hu (hJ.cm m hm rfl)
  · have hv : valJ (3 + 3 * n) := .inl ⟨n, hn, rfl⟩
    refine ⟨_, fv 239, h, at_ld n hn, rfl, fun x => by simp, ?_, ?_⟩
    · have e1 := I.e1
      simp only [opI, IOp.cls, opRead, IArg.ev, e1, Im.load1, ht]; rfl
    · exact I.lay hs hv ((dstJ_at hv).1 n hn rfl) (Grow.refl h) ⟨fun _ _ _ => rfl, fun m _ h => by omega, fun m _ h => by omega, fun m _ h => by omega⟩
  · have hv : valJ (4 + 3 * n) := .inr (.inl ⟨n, hn, rfl⟩)
    have hv' : valJ (3 + 3 * n) := .inl ⟨n, hn, rfl⟩
    obtain ⟨u, hu, hJ⟩ := I.val (3 + 3 * n) hv' (hdep _ (D1 n hn))
    rw [(dstJ_at hv').1 n hn rfl] at hu
    have := hJ.ld n hn rfl
    subst this
    refine ⟨_, .func (.func 240) [] [.ptr h.n 0], h.push (.row [fv (twoK n)]), at_cl n hn, rfl, fun x => by simp [clO], ?_, ?_⟩
    · simp only [opI, clO, IOp.cls, opAct, IArg.ev, hu, evs, callee, List.nil_append, List.append_nil]
      exact G239_at _ _ _ h
    · refine I.lay hs hv ((dstJ_at hv).2.1 n hn rfl) (Grow.push h _) ⟨fun m _ h => by omega, fun m hm hh => ?_, fun m _ h => by omega, fun m _ h => by omega⟩
      have : m = n := by omega
      subst this
      exact ⟨fun h => by omega, fun h => by omega, fun h => by omega, fun m' _ hh => ⟨h.n, rfl, (by rw [show m' = m by omega, get_push_eq, if_pos rfl])⟩, fun m' _ h => by omega⟩
  · have hv : valJ (36 + 3 * n) := .inr (.inr (.inl ⟨n, hn, rfl⟩))
    refine ⟨_, .func (.func 241) [] [.ptr tb 0], h, at_mv n hn, rfl, fun x => by simp, ?_, ?_⟩
    · have e2 := I.e2
      simp only [opI, IOp.cls, opPure, IArg.ev, e2]
    · exact I.lay hs hv ((dstJ_at hv).2.2.1 n hn rfl) (Grow.refl h) ⟨fun m _ h => by omega, fun m _ h => by omega, fun _ _ _ => rfl, fun m _ h => by omega⟩
  · have hv : valJ (37 + 3 * n) := .inr (.inr (.inr ⟨n, hn, rfl⟩))
    have hv' : valJ (36 + 3 * n) := .inr (.inr (.inl ⟨n, hn, rfl⟩))
    obtain ⟨u, hu, hJ⟩ := I.val (36 + 3 * n) hv' (hdep _ (D3 n hn))
    rw [(dstJ_at hv').2.2.1 n hn rfl] at hu
    have := hJ.mv n hn rfl
    subst this
    refine ⟨_, .func (.func 240) [] [.ptr (h.n + 1) 0], (h.push (.row [fv (257 + n)])).push (.row [.func (.func 242) [] [.ptr h.n 0]]), at_cm n hn, rfl, fun x => by simp [clO], ?_, ?_⟩
    · simp only [opI, clO, IOp.cls, opAct, IArg.ev, hu, evs, callee, List.nil_append, List.append_nil]
      exact G241_at _ _ _ ht
    · have g1 := Grow.push h (.row [fv (257 + n)])
      have g2 := Grow.push (h.push (.row [fv (257 + n)])) (.row [.func (.func 242) [] [.ptr h.n 0]])
      refine I.lay hs hv ((dstJ_at hv).2.2.2 n hn rfl) ⟨Nat.le_trans g1.1 g2.1, fun b hb => by rw [g2.2 b (Nat.lt_of_lt_of_le hb g1.1), g1.2 b hb]⟩ ⟨fun m _ h => by omega, fun m _ h => by omega, fun m _ h => by omega, fun m hm hh => ?_⟩
      have : m = n := by omega
      subst this
      refine ⟨fun h => by omega, fun h => by omega, fun h => by omega, fun m' _ h => by omega, fun m' _ hh => ?_⟩
      have : m = m' := by omega
      subst this
      refine ⟨h.n + 1, h.n, rfl, by rw [get_push_eq, if_pos (by simp [IHeap.push])], ?_⟩
      rw [get_push_eq, if_neg (by simp [IHeap.push]), get_push_eq, if_pos rfl]
  · obtain ⟨mb, es, clk, m1, m2, m3, m4, m5, m6, m7⟩ := I.mp (hdep 0 D6)
    refine ⟨⟨some 35, .mv (.t 4), none⟩, .map mb, h, rfl, rfl, fun x => by simp, by simp only [opI, IOp.cls, opPure, IArg.ev, m1], ?_⟩
    have hget : ∀ t, t ≠ 35 → ((e.put 35 (.map mb)).get t) = e.get t := fun t ht => by rw [get_put, if_neg (Ne.symm ht)]
    have hdn : ∀ j, j ≠ 49 → (Dn (L.setIfInBounds 49 true) j ↔ Dn L j) := fun j hj => by
      rw [dn_set hlt]; exact ⟨fun h => h.resolve_left (fun hh => hj hh.symm), .inr⟩
    refine ⟨I.grow, by rw [Env.puto, hget 1 (by decide)]; exact I.e1, by rw [Env.puto, hget 2 (by decide)]; exact I.e2, by rw [Env.puto, hget DK (by decide)]; exact I.dk, fun j hj hjL => ?_, fun _ => ?_, ?_⟩
    · obtain ⟨u, hu, hJ⟩ := I.val j hj ((hdn j (valJ_ne hj).2.1).1 hjL)
      have := dstJ_rng hj
      exact ⟨u, by rw [Env.puto, hget _ (by omega)]; exact hu, hJ⟩
    · refine ⟨mb, es, clk, by rw [Env.puto, hget 4 (by decide)]; exact m1, m2, m3, fun x hx => ?_, fun k h1 h2 hk => m5 k h1 h2 ((hdn _ (insIdx_ne k h1 h2).2.1).1 hk), fun _ => by rw [Env.puto, get_put, if_pos rfl], fun hh => by rw [Env.puto, hget 0 (by decide)]; exact m7 ((hdn 50 (by decide)).1 hh)⟩
      obtain ⟨k, k1, k2, k3, k4, k5⟩ := m4 x hx
      exact ⟨k, k1, k2, k3, (dn_set hlt).2 (.inr k4), k5⟩
    · have hz : Dn (L.setIfInBounds 49 true) 0 := (hdn 0 (by decide)).2 (hdep 0 D6)
      exact ⟨fun _ _ _ _ => hz, fun _ => hz, fun _ => (dn_set hlt).2 (.inl rfl)⟩
  · obtain ⟨mb, es, clk, m1, m2, m3, m4, m5, m6, m7⟩ := I.mp (hdep 0 D8)
    have m6' := m6 (hdep 49 D7)
    refine ⟨⟨some 0, .mv (.t 35), none⟩, .map mb, h, rfl, rfl, fun x => by simp, by simp only [opI, IOp.cls, opPure, IArg.ev, m6'], ?_⟩
    have hget : ∀ t, t ≠ 0 → ((e.put 0 (.map mb)).get t) = e.get t := fun t ht => by rw [get_put, if_neg (Ne.symm ht)]
    have hdn : ∀ j, j ≠ 50 → (Dn (L.setIfInBounds 50 true) j ↔ Dn L j) := fun j hj => by
      rw [dn_set hlt]; exact ⟨fun h => h.resolve_left (fun hh => hj hh.symm), .inr⟩
    refine ⟨I.grow, by rw [Env.puto, hget 1 (by decide)]; exact I.e1, by rw [Env.puto, hget 2 (by decide)]; exact I.e2, by rw [Env.puto, hget DK (by decide)]; exact I.dk, fun j hj hjL => ?_, fun _ => ?_, ?_⟩
    · obtain ⟨u, hu, hJ⟩ := I.val j hj ((hdn j (valJ_ne hj).2.2.1).1 hjL)
      have := dstJ_rng hj
      exact ⟨u, by rw [Env.puto, hget _ (by omega)]; exact hu, hJ⟩
    · refine ⟨mb, es, clk, by rw [Env.puto, hget 4 (by decide)]; exact m1, m2, m3, fun x hx => ?_, fun k h1 h2 hk => m5 k h1 h2 ((hdn _ (insIdx_ne k h1 h2).2.2.1).1 hk), fun hh => by rw [Env.puto, hget 35 (by decide)]; exact m6 ((hdn 49 (by decide)).1 hh), fun _ => by rw [Env.puto, get_put, if_pos rfl]⟩
      obtain ⟨k, k1, k2, k3, k4, k5⟩ := m4 x hx
      exact ⟨k, k1, k2, k3, (dn_set hlt).2 (.inr k4), k5⟩
    · have hz : Dn (L.setIfInBounds 50 true) 0 := (hdn 0 (by decide)).2 (hdep 0 D8)
      exact ⟨fun _ _ _ _ => hz, fun _ => hz, fun _ => (hdn 49 (by decide)).2 (hdep 49 D7)⟩
end Go.Proofs.YtadeojgiiapljaaGreat.Im
namespace Go.Proofs.YtadeojgiiapljaaGreat.Im
open Go
set_option maxHeartbeats 1000000
set_option maxRecDepth 100000
/-- The map of word.evals. -/
def Evs (h : IHeap) (mb : Nat) : Prop := ∃ es clk, h.get mb = some (.map es clk) ∧ (∀ x ∈ es, ∃ k, k < 22 ∧ 4 ≤ k ∧ x.key = .int .i64 (k : Nat) ∧ Ent h k x.val) ∧ ∀ k, k < 22 → 4 ≤ k → ∃ x ∈ es, x.key = .int .i64 (k : Nat)
theorem ca216 : ccode Tryz.prog 36 (lft code216) = some (.reg [⟨some 0, .mv (.c .nilm), none⟩]) := by kernel_rfl
theorem cb216 : ccode Tryz.prog 36 (lft (rgt code216)) = some (.reg [⟨some 1, .new [.nilf], none⟩, ⟨none, .store 1 (.t 1) (.c (fv 239)), none⟩]) := by kernel_rfl
theorem cc216 : ccode Tryz.prog 36 (lft (rgt (rgt code216))) = some (.reg [⟨some 3, .mkfunc (.func 241) [] [.t 1], none⟩, ⟨some 2, .mv (.t 3), none⟩]) := by kernel_rfl
theorem n216 : Tryz.f216.ntmps = 36 := by kernel_rfl
theorem r216 : cres Tryz.prog Tryz.f216.results.toList = some [.tmp 0] := by kernel_rfl
theorem low216' : ∀ (i : Nat) (o : Oper), ops216[i]? = some o → ∀ e ∈ o.after.toList, e.on < i := fun i o ho e he => by
  have := lowB_get low216 i o (by simpa using ho) e he; omega
theorem calls216 {φ : Phi} {C : Con} {h : IHeap} {w : World} (r : Rel φ C h w) : Calls Tryz.prog 216 #[] w fun e w' => ∃ x φ' C' h' mb, e = .returned x ∧ VRel φ' C' (.map mb) x ∧ Ext φ C h w φ' C' h' w' ∧ Rel φ' C' h' w' ∧ Grow h h' ∧ Evs h' mb := by
  refine calls_of_wp_defers Tryz.func216 shape216 ?_
  have hst := start_rel (N := 36) (args := []) (args' := #[]) (φ := φ) (C := C) ⟨rfl, fun i hi => by cases hi⟩ (by decide) (by decide)
  rw [n216]
  refine wp_seq (code_sound (fuel := 0) onil_sim mixed _ ca216 r hst ?_)
  have x1 : ix onil 0 (.reg [⟨some 0, .mv (.c .nilm), none⟩]) (startI 0 []) h = .ok .normal [(0, .nilm)] h := rfl
  rw [x1]
  intro φ1 C1 a1 w1 ex1 r1 f1
  refine wp_seq (code_sound (fuel := 0) onil_sim mixed _ cb216 r1 f1 ?_)
  have x2 : ix onil 0 (.reg [⟨some 1, .new [.nilf], none⟩, ⟨none, .store 1 (.t 1) (.c (fv 239)), none⟩]) [(0, .nilm)] h = .ok .normal [(1, .ptr h.n 0), (0, .nilm)] (h.push (.row [fv 239])) := by
    simp only [ss, hps, Nat.reduceEqDiff, Nat.reduceLT, Nat.reduceAdd, Nat.reduceLeDiff, Int.reduceLT, Int.reduceLE, Int.reduceEq, reduceIte]
    rfl
  rw [x2]
  intro φ2 C2 a2 w2 ex2 r2 f2
  refine wp_seq (code_sound (fuel := 0) onil_sim mixed _ cc216 r2 f2 ?_)
  have x3 : ix onil 0 (.reg [⟨some 3, .mkfunc (.func 241) [] [.t 1], none⟩, ⟨some 2, .mv (.t 3), none⟩]) [(1, .ptr h.n 0), (0, .nilm)] (h.push (.row [fv 239])) = .ok .normal [(2, .func (.func 241) [] [.ptr h.n 0]), (3, .func (.func 241) [] [.ptr h.n 0]), (1, .ptr h.n 0), (0, .nilm)] (h.push (.row [fv 239])) := rfl
  rw [x3]
  intro φ3 C3 a3 w3 ex3 r3 f3
  have hg : (h.push (.row [fv 239])).get h.n = some (.row [fv 239]) := get_push_new
  refine wp_seq (any_sound O216_ok mixed ios216_ok low216' (step216 hg) r3 f3 ?_ ?_)
  · have hno : ∀ j, j < 51 → ¬ Dn (Array.replicate ops216.size false) j := fun j hj hh => by
      unfold Dn at hh
      rw [size216, Array.getD_eq_getD_getElem?, Array.getElem?_replicate, if_pos hj] at hh
      cases hh
    exact ⟨Grow.refl _, rfl, rfl, rfl, fun j hj hL => absurd hL (hno j (valJ_ne hj).2.2.2), fun hh => absurd hh (hno 0 (by decide)), fun k k1 k2 hk => absurd hk (hno _ (insIdx_ne k k1 k2).2.2.2), fun hh => absurd hh (hno 49 (by decide)), fun hh => absurd hh (hno 50 (by decide))⟩
  · intro L' e' h' I hall φ4 C4 a4 w4 ex4 r4 f4
    rw [size216] at hall
    obtain ⟨mb, es, clk, m1, m2, m3, m4, m5, m6, m7⟩ := I.mp (hall 0 (by decide))
    have h50 := m7 (hall 50 (by decide))
    refine wp_ret ?_
    have hdf : a4.defers = [] := by have := f4.defers; unfold DRel at this; rw [I.dk] at this; exact this
    show Leaves Tryz.prog Tryz.f216 a4.tmps _ a4.defers .returning w4
    rw [hdf]
    obtain ⟨x, hx, hxr⟩ := results_run (P := Tryz.prog) (fn := Tryz.f216) r4 f4.env r216 (vs := [.map mb]) (by simp only [resultI, h50])
    exact ⟨x, hx, x, φ4, C4, h', mb, rfl, hxr, (ex1.trans (ex2.trans (ex3.trans ex4))), r4, (Grow.push h _).trans I.grow, es, clk, m3, fun y hy => (by
      obtain ⟨k, k1, k2, k3, k4, k5⟩ := m4 y hy
      exact ⟨k, k1, k2, k3, k5⟩), fun k k1 k2 => m5 k k1 k2 (hall _ (insIdx_ne k k1 k2).2.2.2)⟩
end Go.Proofs.YtadeojgiiapljaaGreat.Im
namespace Go.Proofs.YtadeojgiiapljaaGreat.Im
open Go
set_option maxHeartbeats 1000000
set_option maxRecDepth 100000
theorem find_some {P : Nat → IV → Prop} {k : Nat} : ∀ {es : List IEntry} (i : Nat), (∀ x ∈ es, ∃ j : Nat, x.key = .int .i64 (j : Nat) ∧ P j x.val) → (∃ x ∈ es, x.key = .int .i64 (k : Nat)) → ∃ i' v, findI (.int .i64 (k : Nat)) es i = some (some (i', v)) ∧ P k v
  | [], i, _, hx => by obtain ⟨x, hx, _⟩ := hx; cases hx
  | x :: es, i, ha, hx => by
    obtain ⟨j, h1, h2⟩ := ha x (List.mem_cons_self)
    by_cases hjk : j = k
    · subst hjk
      refine ⟨i, x.val, ?_, h2⟩
      simp only [findI, keyIs, h1, if_true, beq_self_eq_true]
    · have hb : ((k : Int) == (j : Int)) = false := by rw [beq_eq_false_iff_ne]; omega
      obtain ⟨y, hy, hk⟩ := hx
      rcases List.mem_cons.1 hy with rfl | hy
      · rw [h1] at hk; exfalso; apply hjk; have := (IV.int.inj hk).2; omega
      · obtain ⟨i', v, e1, e2⟩ := find_some (i + 1) (fun z hz => ha z (List.mem_cons_of_mem _ hz)) ⟨y, hy, hk⟩
        refine ⟨i', v, ?_, e2⟩
        simp only [findI, keyIs, h1, if_true, hb]
        exact e1
theorem Evs.look {h : IHeap} {mb k : Nat} (he : Evs h mb) (h1 : k < 22) (h2 : 4 ≤ k) : ∃ v, lookupI h false .nilf (.map mb) (.int .i64 (k : Nat)) false = some v ∧ Ent h k v := by
  obtain ⟨es, clk, e1, e2, e3⟩ := he
  obtain ⟨i, v, f1, f2⟩ := find_some (P := Ent h) (k := k) (es := es) 0 (fun x hx => by
    obtain ⟨j, _, _, j3, j4⟩ := e2 x hx; exact ⟨j, j3, j4⟩) (e3 k h1 h2)
  refine ⟨v, ?_, f2⟩
  simp only [lookupI, keyOk, e1, f1]; rfl
def G243 : List IV → M IV := bodyI T0 onil 0 ic243
theorem G243_at {h : IHeap} {ab n c : Nat} {x : Int} {rest : List IV} (ha : h.get ab = some (.row (.int .u64 x :: rest))) (hn : 0 < n) : G243 [.slice ab 0 n c] h = .ok (.int .u64 (notW x)) h := by
  unfold G243 notW
  rw [body_eq rfl rfl rfl (by decide)]
  have i0 := iaddr_lit0 1 ab 0 n c hn
  have hu : unI .xor (.int .u64 x) = some (.int .u64 (IntKind.u64.wrap (BitVec.ofInt 64 18446744073709551615 ^^^ BitVec.ofInt 64 x).toNat)) := rfl
  simp only [ss, hps, Nat.reduceEqDiff, Nat.reduceLT, Nat.reduceAdd, Nat.reduceLeDiff, Int.reduceLT, Int.reduceLE, Int.reduceEq, reduceIte, ic243, ha, i0, hu]
/-- The closure found answers. -/
theorem ent_call {h : IHeap} {k : Nat} {v : IV} (he : Ent h k v) (h1 : k < 22) (h2 : 4 ≤ k) {ab n cap : Nat} {xs : List Int} (ha : h.get ab = some (.row (xs.map u64v))) (hn : (n : Int) = arity 0 k) (hl : n ≤ xs.length) :
    ∃ O : Orc, (∀ f, Sim Tryz.prog f (O f)) ∧ ∃ f args, callee v [.slice ab 0 n cap] = some (f, args) ∧ O f args h = .ok (.int .u64 (evalW k (xs.getD 0 0) (xs.getD 1 0) (xs.getD 2 0))) h := by
  obtain ⟨e4, e5, e21, e6, e17⟩ := he
  have hsp : k = 4 ∨ k = 5 ∨ k = 21 ∨ (∃ n, n < 11 ∧ k = 6 + n) ∨ ∃ m, m < 4 ∧ k = 17 + m := by
    rcases Nat.lt_or_ge k 6 with h | h
    · omega
    rcases Nat.lt_or_ge k 17 with h | h
    · exact .inr (.inr (.inr (.inl ⟨k - 6, by omega, by omega⟩)))
    rcases Nat.lt_or_ge k 21 with h | h
    · exact .inr (.inr (.inr (.inr ⟨k - 17, by omega, by omega⟩)))
    · omega
  rcases hsp with rfl | rfl | rfl | ⟨m, hm, rfl⟩ | ⟨m, hm, rfl⟩
  · have : n = 1 := by simp [arity] at hn; omega
    subst this
    match xs, hl with
    | x :: rest, _ =>
      rw [e4 rfl]
      refine ⟨ocons 243 G243 onil, ocons_sim (body_sim onil_sim cc243 0) onil_sim, 243, _, rfl, ?_⟩
      rw [oc_same]
      exact G243_at (rest := rest.map u64v) ha (by decide)
  · have : n = 1 := by simp [arity] at hn; omega
    subst this
    match xs, hl with
    | x :: rest, _ =>
      rw [e5 rfl]
      refine ⟨ocons 244 (bodyI T0 onil 0 ic244) onil, ocons_sim (body_sim onil_sim cc244 0) onil_sim, 244, _, rfl, ?_⟩
      exact b244 (rest := rest.map u64v) ha (by decide)
  · have : n = 3 := by simp [arity] at hn; omega
    subst this
    match xs, hl with
    | x :: y :: z :: rest, _ =>
      rw [e21 rfl]
      refine ⟨ocons 261 (bodyI T0 onil 0 ic261) onil, ocons_sim (body_sim onil_sim cc261 0) onil_sim, 261, _, rfl, ?_⟩
      exact b261 (rest := rest.map u64v) ha (by decide)
  · have hn2 : n = 2 := by
      unfold arity at hn
      rw [if_neg (by omega), if_neg (by omega), if_pos (by omega)] at hn; omega
    subst hn2
    match xs, hl with
    | x :: y :: rest, _ =>
      obtain ⟨b, rfl, hb⟩ := e6 m hm rfl
      refine ⟨ocons 240 (G240 (twoK m) (twoF m)) onil, ocons_sim (s240 (simTwo hm)) onil_sim, 240, _, rfl, ?_⟩
      rw [oc_same]
      have := G240_at (f := twoF m) (c := cap) (x := x) (y := y) (rest := rest.map u64v) hb ha (by decide : 1 < 2)
      rw [List.nil_append]
      refine this.trans ?_
      have hev : evalW ((6 + m : Nat) : Int) x y ((x :: y :: rest).getD 2 0) = twoF m x y := by
        unfold evalW
        rw [if_neg (by omega), if_neg (by omega), if_pos (by omega)]
        rw [show ((6 + m : Nat) : Int) - 6 = (m : Int) by omega, Int.toNat_natCast]
      rw [show (x :: y :: rest).getD 0 0 = x from rfl, show (x :: y :: rest).getD 1 0 = y from rfl, hev]
  · have hn2 : n = 2 := by
      unfold arity at hn
      rw [if_neg (by omega), if_neg (by omega), if_pos (by omega)] at hn; omega
    subst hn2
    match xs, hl with
    | x :: y :: rest, _ =>
      obtain ⟨b, b2, rfl, hb, hb2⟩ := e17 m hm rfl
      refine ⟨ocons 240 (G240i (257 + m) (isF m)) onil, ocons_sim (s240i (simIs hm)) onil_sim, 240, _, rfl, ?_⟩
      rw [oc_same]
      have := G240i_at (f := isF m) (c := cap) (x := x) (y := y) (rest := rest.map u64v) hb hb2 ha (by decide : 1 < 2)
      rw [List.nil_append]
      refine this.trans ?_
      have hev : evalW ((17 + m : Nat) : Int) x y ((x :: y :: rest).getD 2 0) = boolW (isF m x y) := by
        unfold evalW
        rw [if_neg (by omega), if_neg (by omega), if_neg (by omega), if_pos (by omega)]
        rw [show ((17 + m : Nat) : Int) - 17 = (m : Int) by omega, Int.toNat_natCast]
      rw [show (x :: y :: rest).getD 0 0 = x from rfl, show (x :: y :: rest).getD 1 0 = y from rfl, hev]
noncomputable def code182 : Code := match Tryz.f182.body with | some c => c | none => .skip
noncomputable def ops182 : Array Oper := opsOf (lft (rgt (rgt code182)))
theorem shape182 : Tryz.f182.body = some (.seq (lft code182) (.seq (lft (rgt code182)) (.seq (.region 4 ops182 false) .ret))) := by kernel_rfl
theorem n182 : Tryz.f182.ntmps = 22 := by kernel_rfl
theorem r182 : cres Tryz.prog Tryz.f182.results.toList = some [.tmp 4, .tmp 5] := by kernel_rfl
theorem size182 : ops182.size = 7 := by kernel_rfl
def ia182 : IC := .reg [⟨(some 4), .mv (.c (.int .u64 0)), none⟩, ⟨(some 5), .mv (.c (.int .i64 0)), none⟩]
def ib182 : IC := .seq (.reg [⟨(some 7), .mv (.t 0), none⟩, ⟨(some 8), .call (.c (.func (.func 215) [] [])) [(.t 7)], none⟩, ⟨(some 6), .mv (.t 8), none⟩]) (.seq (.reg [
    ⟨(some 9), .mv (.t 6), none⟩,
    ⟨(some 10), .bin .lss (.t 9) (.c (.int .i64 0)), none⟩,
    ⟨(some 11), .mv (.t 10), none⟩,
    ⟨(some 12), .mv (.t 6), some (11, false)⟩,
    ⟨(some 13), .mv (.t 1), some (11, false)⟩,
    ⟨(some 14), .len false (.t 13), some (11, false)⟩,
    ⟨(some 15), .bin .neq (.t 12) (.t 14), some (11, false)⟩,
    ⟨(some 16), .pick (.t 11) (.c (.bool true)) (.t 15), none⟩]) (.cond (.t 16) (.seq (.reg [⟨(some 4), .mv (.c (.int .u64 0)), none⟩, ⟨(some 5), .mv (.c (.int .i64 2)), none⟩]) (.ret)) (.skip)))
def it182 : List IOper := [⟨(some 18), .mv (.t 0), none⟩,
    ⟨(some 19), .lookup false .nilf (.t 17) (.t 18) false, none⟩,
    ⟨(some 20), .mv (.t 1), none⟩,
    ⟨(some 21), .call (.t 19) [(.t 20)], none⟩,
    ⟨(some 4), .mv (.t 21), none⟩,
    ⟨(some 5), .mv (.c (.int .i64 0)), none⟩]
theorem ca182 : ccode Tryz.prog 22 (lft code182) = some ia182 := by kernel_rfl
theorem cb182 : ccode Tryz.prog 22 (lft (rgt code182)) = some ib182 := by kernel_rfl
theorem cd182 : copers Tryz.prog 22 ops182 ops182.toList = some (⟨some 17, .call (.c (fv 216)) [], none⟩ :: it182) := by kernel_rfl
def callOf : Op → Option (FuncId × Nat)
  | .call c => match c.callee with
    | .value (.func f) => some (f, c.args.size)
    | _ => none
  | _ => none
theorem callOf_ok {o : Op} {f : FuncId} (h : callOf o = some (f, 0)) : ∃ c, o = .call c ∧ c.callee = .value (.func f) ∧ c.args = #[] := by
  unfold callOf at h
  split at h
  · rename_i c
    split at h
    · rename_i g hg
      simp at h
      exact ⟨c, rfl, by rw [hg, h.1], h.2⟩
    · cases h
  · cases h
theorem op182 : (match ops182[0]? with | some o => callOf o.op | none => none) = some (216, 0) := by kernel_rfl
/-- Behind the tests. -/
def env182 (e : Env) (n : Nat) (op : Int) (x : IV) : Env := ((((((((((e.put 7 (.int .i64 op)).put 8 (.int .i64 n)).put 6 (.int .i64 n)).put 9 (.int .i64 n)).put 10 (.bool false)).put 11 (.bool false)).put 12 (.int .i64 n)).put 13 x).put 14 (.int .i64 n)).put 15 (.bool false)).put 16 (.bool false)
theorem pre182 {op : Int} {ab n cap : Nat} {h : IHeap} {e : Env} (h1 : 4 ≤ op) (h2 : op ≤ 21) (hn : (n : Int) = arity 0 op) (g0 : e.get 0 = some (.int .i64 op)) (g1 : e.get 1 = some (.slice ab 0 n cap)) :
    ix (ocons 215 (rd g215) onil) 0 ib182 e h = .ok .normal (env182 e n op (.slice ab 0 n cap)) h := by
  have ha : arity (-1) op = n := by
    rw [hn]; unfold arity
    split
    · rfl
    split
    · rfl
    split
    · rfl
    · rw [if_pos (by omega), if_pos (by omega)]
  have hr : rd g215 [.int .i64 op] h = .ok (.int .i64 n) h := by rw [← ha]; rfl
  have o215 : (ocons 215 (rd g215) onil) 215 = rd g215 := rfl
  have hlt : ((n : Int) < 0) = False := by simp
  simp only [ss, hps, Nat.reduceEqDiff, Nat.reduceLT, Nat.reduceAdd, Nat.reduceLeDiff, Int.reduceLT, Int.reduceLE, Int.reduceEq, reduceIte, ib182, o215, hr, hlt, g0, g1, env182]
theorem s182 : Sim Tryz.prog 182 F182 := by
  have hen : Enters Tryz.prog 182 := ⟨Tryz.f182, Tryz.func182, rfl, by decide⟩
  refine ⟨.inr hen, ?_, ?_⟩
  · intro φ C h w args args' v h' r hargs hF
    unfold F182 Im.byCh at hF
    split at hF
    case isFalse => cases hF
    rename_i hx
    have hP := Classical.choose_spec hx
    generalize Classical.choose hx = d at hP hF
    simp only [Res.ok.injEq] at hF
    obtain ⟨rfl, rfl⟩ := hF
    obtain ⟨ab, n, cap, rfl, hrow, p1, p2, p3, p4⟩ := hP
    refine calls_of_wp_defers Tryz.func182 shape182 ?_
    have hst := start_rel (N := 22) hargs (by simp) (by decide)
    rw [n182]
    refine wp_seq (code_sound (fuel := 0) onil_sim mixed _ ca182 r hst ?_)
    have x1 : ix onil 0 ia182 (startI 0 [.int .i64 d.op, .slice ab 0 n cap]) h = .ok .normal [(5, .int .i64 0), (4, .int .u64 0), (0, .int .i64 d.op), (1, .slice ab 0 n cap)] h := rfl
    rw [x1]
    intro φ1 C1 a1 w1 ex1 r1 f1
    refine wp_seq (code_sound (fuel := 0) (ocons_sim s215 onil_sim) mixed _ cb182 r1 f1 ?_)
    rw [pre182 p1 p2 p3 rfl rfl]
    intro φ2 C2 a2 w2 ex2 r2 f2
    have ex12 := ex1.trans ex2
    refine wp_seq (wp_region ?_)
    have hrange : List.range ops182.size = 0 :: [1, 2, 3, 4, 5, 6] := by rw [size182]; rfl
    have hall : All2 (fun i io => ∃ o, ops182[i]? = some o ∧ coper Tryz.prog 22 ops182 o = some io) [1, 2, 3, 4, 5, 6] it182 := by
      have := copers_all (ops := ops182) 0 cd182 (fun i o ho => by simpa using ho)
      rw [show ops182.toList.length = 7 by rw [← size182]; simp] at this
      cases this with
      | cons _ t => exact t
    have h0 : ∃ o, ops182[0]? = some o ∧ coper Tryz.prog 22 ops182 o = some ⟨some 17, .call (.c (fv 216)) [], none⟩ := by
      obtain ⟨o, g1, g2⟩ := copers_get cd182 0 _ rfl
      exact ⟨o, by simpa using g1, g2⟩
    obtain ⟨o, ho, hco⟩ := h0
    have hop := op182
    rw [ho] at hop
    obtain ⟨c, hc1, hc2, hc3⟩ := callOf_ok hop
    rw [hrange, wpOps_cons]
    unfold wpOp
    rw [ho]
    have hwant := wanted_of (b := true) hco f2.env rfl
    simp only [hwant, if_true]
    left
    have hrun : (execOp a2.eval o).run Tryz.prog w2 = .ok (.enter 216 #[]) w2 := by
      unfold execOp
      rw [hc1]
      simp only [Sem.run_bind]
      unfold resolve
      rw [hc2]
      simp only [Act.eval, Deferred.ofValue, Sem.run_pure, Result.andThen_ok, hc3]
      simp [invoke, callFunc, Tryz.func216, shape216, show Tryz.f216.name ≠ "runtime.NumGoroutine" by decide]
    unfold Oper.wp
    rw [hrun]
    refine (calls216 r2).mono ?_
    rintro e w3 ⟨x, φ3, C3, h3, mb, rfl, hx3, ex3, r3, gr3, ev3⟩
    obtain ⟨hd1, hd2⟩ := coper_dst hco
    have f3 := (f2.mono ex3).puto (d := some 17) (fun t ht => by cases ht; exact ⟨by decide, by decide⟩) hx3
    show wpOps Tryz.prog ops182 _ [1, 2, 3, 4, 5, 6] (a2.put o.dst x) w3
    rw [← hd1]
    obtain ⟨k, hk⟩ : ∃ k : Nat, d.op = (k : Int) := ⟨d.op.toNat, by omega⟩
    obtain ⟨op, xs⟩ := d
    simp only at hk hrow p1 p2 p3 p4
    subst hk
    obtain ⟨cv, hcv, hent⟩ := ev3.look (k := k) (by omega) (by omega)
    have hrow3 : h3.get ab = some (.row (xs.map u64v)) := by rw [gr3.2 ab (get_lt hrow)]; exact hrow
    obtain ⟨O, hO, g, ga, hcal, hres⟩ := ent_call hent (by omega) (by omega) (cap := cap) hrow3 p3 p4
    refine reg_sound hO _ it182 _ φ3 C3 h3 w3 _ hall r3 f3 ?_
    generalize hE : Env.puto (env182 _ n (k : Int) (.slice ab 0 n cap)) (some 17) (.map mb) = E at f3
    have g0 : E.get 0 = some (.int .i64 (k : Int)) := by rw [← hE]; rfl
    have g1 : E.get 1 = some (.slice ab 0 n cap) := by rw [← hE]; rfl
    have g17 : E.get 17 = some (.map mb) := by rw [← hE]; rfl
    have gdk : E.get DK = none := by rw [← hE]; rfl
    have hr : ix.regI O it182 E h3 = .ok .normal ((((((E.put 18 (.int .i64 (k : Int))).put 19 cv).put 20 (.slice ab 0 n cap)).put 21 (.int .u64 (evalW k (xs.getD 0 0) (xs.getD 1 0) (xs.getD 2 0)))).put 4 (.int .u64 (evalW k (xs.getD 0 0) (xs.getD 1 0) (xs.getD 2 0)))).put 5 (.int .i64 0)) h3 := by
      have hcv' : callV O cv [.slice ab 0 n cap] h3 = .ok (.int .u64 (evalW k (xs.getD 0 0) (xs.getD 1 0) (xs.getD 2 0))) h3 := by
        simp only [callV, hcal]; exact hres
      simp only [ss, hps, Nat.reduceEqDiff, Nat.reduceLT, Nat.reduceAdd, Nat.reduceLeDiff, Int.reduceLT, Int.reduceLE, Int.reduceEq, reduceIte, it182, g0, g1, g17, hcv, hcv']
    rw [hr]
    intro φ4 C4 a4 w4 ex4 r4 f4
    refine wp_ret ?_
    have hdf : a4.defers = [] := by have := f4.defers; unfold DRel at this; rw [show Env.get ((((((E.put 18 (.int .i64 (k : Int))).put 19 cv).put 20 (.slice ab 0 n cap)).put 21 (.int .u64 (evalW k (xs.getD 0 0) (xs.getD 1 0) (xs.getD 2 0)))).put 4 (.int .u64 (evalW k (xs.getD 0 0) (xs.getD 1 0) (xs.getD 2 0)))).put 5 (.int .i64 0)) DK = none from gdk] at this; exact this
    show Leaves Tryz.prog Tryz.f182 a4.tmps _ a4.defers .returning w4
    rw [hdf]
    obtain ⟨x4, hx4, hxr4⟩ := results_run (P := Tryz.prog) (fn := Tryz.f182) r4 f4.env r182 (vs := [.int .u64 (evalW k (xs.getD 0 0) (xs.getD 1 0) (xs.getD 2 0)), .int .i64 0]) rfl
    have hext := ex12.trans (ex3.trans ex4)
    have hr' := Grow.ren [.int .i64 (k : Int), .slice ab 0 n cap] gr3
    exact ⟨x4, hx4, x4, fun b => φ4 (dropR h.n h3.n b), C4, rfl, VRel.unren (.tup [.int .u64 _, .int .i64 0]) hxr4, hr'.ext r hargs hext r4, hr'.rel r hext r4⟩
  · intro φ C h w args args' v h' r hargs hF
    unfold F182 Im.byCh at hF
    split at hF <;> cases hF
end Go.Proofs.YtadeojgiiapljaaGreat.Im
