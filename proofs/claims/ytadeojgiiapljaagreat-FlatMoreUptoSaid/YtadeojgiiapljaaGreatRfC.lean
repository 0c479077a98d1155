/- slices.AppendSeq: one round's body, on a small ideal heap of its own. -/
import Derived.Test.YtadeojgiiapljaaGreatImC
import Derived.Test.YtadeojgiiapljaaGreatMmA
import Derived.Test.YtadeojgiiapljaaGreatRfA
import Derived.Test.YtadeojgiiapljaaGreatRfB
import Derived.KernelRfl
set_option linter.unusedSimpArgs false
set_option linter.unusedVariables false
namespace Go.Proofs.YtadeojgiiapljaaGreat.Im
open Go
open Go.RowKit
set_option maxHeartbeats 1000000
set_option maxRecDepth 100000
def C00 : Con := fun _ => none
def P00 : Phi := fun _ => none
def plI (x : Plc) : List IV := [.str x.1, .int .i64 x.2.1, .int .i64 x.2.2]
def flI (xs : Nat → Plc) : Nat → List IV
  | 0 => []
  | k + 1 => flI xs k ++ plI (xs k)
theorem flI_len (xs : Nat → Plc) : ∀ k, (flI xs k).length = k * 3
  | 0 => rfl
  | k + 1 => by simp only [flI, List.length_append, flI_len xs k, plI, List.length_cons, List.length_nil]; omega
def Plain : IV → Prop
  | .str _ | .int _ _ => True
  | _ => False
theorem plain_rel {φ φ' : Phi} {C C' : Con} {v : IV} {x : Value} (hp : Plain v) (h : VRel φ C v x) : VRel φ' C' v x := by
  cases h <;> first | exact .str _ | exact .int _ _ | exact hp.elim
theorem plI_plain {x : Plc} {v : IV} (h : v ∈ plI x) : Plain v := by
  simp only [plI, List.mem_cons, List.not_mem_nil, or_false] at h
  rcases h with rfl | rfl | rfl <;> trivial
theorem flI_plain {xs : Nat → Plc} {v : IV} : ∀ {k}, v ∈ flI xs k → Plain v
  | 0, h => by cases h
  | k + 1, h => by
    rcases List.mem_append.1 h with h | h
    · exact flI_plain h
    · exact plI_plain h
/-- The cells of a list stand in a block from an offset on. -/
def Stand (cs : Array Value) (off : Nat) (vs : List IV) : Prop := ∀ (i : Nat) (v : IV), vs[i]? = some v → ∃ x, cs[off + i]? = some x ∧ VRel P00 C00 v x
theorem Stand.rel {φ : Phi} {C : Con} {cs : Array Value} {off : Nat} {vs : List IV} (h : Stand cs off vs) (hp : ∀ v ∈ vs, Plain v) : ∀ (i : Nat) (v : IV), vs[i]? = some v → ∃ x, cs[off + i]? = some x ∧ VRel φ C v x := fun i v hv => by
  obtain ⟨x, h1, h2⟩ := h i v hv
  exact ⟨x, h1, plain_rel (hp v (List.mem_of_getElem? hv)) h2⟩
theorem Stand.of {φ : Phi} {C : Con} {cs : Array Value} {off : Nat} {vs : List IV} (h : ∀ (i : Nat) (v : IV), vs[i]? = some v → ∃ x, cs[off + i]? = some x ∧ VRel φ C v x) (hp : ∀ v ∈ vs, Plain v) : Stand cs off vs := fun i v hv => by
  obtain ⟨x, h1, h2⟩ := h i v hv
  exact ⟨x, h1, plain_rel (hp v (List.mem_of_getElem? hv)) h2⟩
/-- What has been collected when k rounds are over. -/
def Col (n₀ B2 : Nat) (xs : Nat → Plc) (k : Nat) (W : World) : Prop :=
  ∃ cs E sv, W.heap[B2]? = some (.cells cs E (0, 0)) ∧ cs[0]? = some sv ∧ ((k = 0 ∧ sv = .slice none 0 0) ∨ ∃ blk off cap cs2 E2, 0 < k ∧ sv = .slice (some ⟨blk, off, none⟩) k cap ∧ n₀ ≤ blk ∧ blk ≠ B2 ∧
    W.heap[blk]? = some (.cells cs2 E2 (0, 0)) ∧ k ≤ cap ∧ off + cap * 3 ≤ cs2.size ∧ Stand cs2 off (flI xs k))
/-- What is cells stays as it is. -/
def CStay (W W' : World) : Prop := ∀ (b : Nat) (cs : Array Value) (E : TypeId) (f : Nat × Nat), W.heap[b]? = some (Obj.cells cs E f) → W'.heap[b]? = some (Obj.cells cs E f)
theorem Col.keep {n₀ B2 : Nat} {xs : Nat → Plc} {k : Nat} {W W' : World} (h : Col n₀ B2 xs k W) (hc : CStay W W') : Col n₀ B2 xs k W' := by
  obtain ⟨cs, E, sv, h1, h2, h3⟩ := h
  refine ⟨cs, E, sv, hc _ _ _ _ h1, h2, ?_⟩
  rcases h3 with h3 | ⟨blk, off, cap, cs2, E2, g1, g2, g3, g4, g5, g6⟩
  · exact .inl h3
  · exact .inr ⟨blk, off, cap, cs2, E2, g1, g2, g3, g4, hc _ _ _ _ g5, g6⟩
noncomputable def code202 : Code := match Tryz.f202.body with | some c => c | none => .skip
noncomputable def rfOf : Code → Code × Code | .rangeFunc _ _ a b => (a, b) | c => (c, c)
noncomputable def unbl : Code → Code | .block _ c => c | c => c
noncomputable def opsA202 : Array Oper := match unbl (match code202 with | .seq _ (.seq (.seq _ b) _) => b | c => c) with | .rangeFunc _ _ (.region _ o _) _ => o | _ => #[]
noncomputable def opsB202 : Array Oper := match unbl (match code202 with | .seq _ (.seq (.seq _ b) _) => b | c => c) with | .rangeFunc _ _ _ (.block _ (.region _ o _)) => o | _ => #[]
def iosB202 : List IOper := [⟨some 8, .load1 (.t 2), none⟩, ⟨some 9, .loadN 3 (.t 5), none⟩, ⟨some 10, .bslice [.str ⟨#[]⟩, .int .i64 0, .int .i64 0] 1 [(0, 3, .t 9)], none⟩, ⟨some 11, .append 3 32 (.t 8) (.t 10), none⟩, ⟨none, .store 1 (.t 2) (.t 11), none⟩]
theorem iosB202_ok : copers Tryz.prog 13 opsB202 opsB202.toList = some iosB202 := by kernel_rfl
def isDefer : Op → Bool | .defer _ => true | _ => false
theorem nd_of_all {ops : Array Oper} (h : ops.toList.all (fun o => !isDefer o.op) = true) : ∀ (i : Nat) (o : Oper), ops[i]? = some o → ∀ c, o.op ≠ .defer c := fun i o ho c hc => by
  have := List.all_eq_true.1 h o (List.mem_of_getElem? (by simpa using ho : ops.toList[i]? = some o))
  rw [hc] at this; cases this
theorem ndB202 : opsB202.toList.all (fun o => !isDefer o.op) = true := by kernel_rfl
/-- What a round leaves as it was. -/
structure Kept (n₀ : Nat) (W W' : World) : Prop where
  below : Below n₀ W W'
  others : KeepsOthers W W'
theorem app0 {h : IHeap} {g : IHeap} (hg : g.n = h.n + 1) {x : Plc} (hn : g.get h.n = some (.row (plI x))) : appendI 3 32 .nils (.slice h.n 0 1 1) g = .ok (.aslice g.n 0 1 3) (g.push (.row (plI x))) := by
  have e1 : Im.loadN g (.ptr h.n 0) (1 * 3) = some (plI x) := by simp only [Im.loadN, hn]; rfl
  simp only [appendI, sliceLen, sliceCells, e1]
  rfl
theorem app1 {g : IHeap} {b c k : Nat} {old : List IV} {x : Plc} (hn : g.get c = some (.row (plI x))) (hb : g.get b = some (.row old)) (hl : old.length = k * 3) (hk : k < 4000000) : appendI 3 32 (.aslice b 0 k 3) (.slice c 0 1 1) g = .ok (.aslice g.n 0 (k + 1) 3) ((g.set b .dead).push (.row (old ++ plI x))) := by
  have e1 : Im.loadN g (.ptr c 0) (1 * 3) = some (plI x) := by simp only [Im.loadN, hn]; rfl
  have e2 : Im.loadN g (.ptr b 0) (k * 3) = some old := by simp only [Im.loadN, hb]; rw [if_pos (by omega), List.drop_zero, List.take_of_length_le (by omega)]
  have e3 : ¬ ((k + 1) * 32 > 2 ^ 45) := by omega
  have e4 : ¬ (k + 1 > 2 ^ 45) := by omega
  have e5 : (plI x).all (·.one) = true := rfl
  simp only [appendI, sliceLen, sliceCells, e1, e2, e3, e4, e5]
  rfl
end Go.Proofs.YtadeojgiiapljaaGreat.Im
namespace Go.Proofs.YtadeojgiiapljaaGreat.Im
open Go
open Go.RowKit
set_option maxHeartbeats 1000000
set_option maxRecDepth 100000
def three (o0 o1 o2 : IObj) : IHeap := (((⟨0, []⟩ : IHeap).push o0).push o1).push o2
theorem runB {e : Env} {h h2 h2' : IHeap} {sv nv : IV} {x : Plc} (ge2 : e.get 2 = some (.ptr 0 0)) (ge5 : e.get 5 = some (.ptr 2 0)) (hn : h.n = 3) (g0 : h.get 0 = some (.row [sv])) (g2 : h.get 2 = some (.row (plI x))) (ha : appendI 3 32 sv (.slice h.n 0 1 1) (h.push (.row (plI x))) = .ok nv h2) (hs : storeN h2 (.ptr 0 0) [nv] = some h2') (hc : nv.cells = [nv]) :
    ∃ e', ix.regI onil iosB202 e h = .ok .normal e' h2' := by
  have l1 : Im.load1 h (.ptr 0 0) = some sv := by simp only [Im.load1, g0]; rfl
  have l2 : Im.loadN h (.ptr 2 0) 3 = some (plI x) := by simp only [Im.loadN, g2]; rfl
  have hlen : (plI x).length = 3 := rfl
  have hsc : setCells [.str ⟨#[]⟩, .int .i64 0, .int .i64 0] 0 (plI x) = plI x := rfl
  have hrow : rowIf (plI x) = some (.row (plI x)) := rfl
  refine ⟨(((e.put 8 sv).put 9 (.agg (plI x))).put 10 (.slice h.n 0 1 1)).put 11 nv, ?_⟩
  simp only [ss, hps, Nat.reduceEqDiff, Nat.reduceLT, Nat.reduceAdd, Nat.reduceLeDiff, Int.reduceLT, Int.reduceLE, Int.reduceEq, reduceIte, iosB202, ge2, ge5, l1, l2, hlen, hsc, hrow, ha, hc, hs]
theorem three_n (o0 o1 o2 : IObj) : (three o0 o1 o2).n = 3 := rfl
theorem three_0 (o0 o1 o2 : IObj) : (three o0 o1 o2).get 0 = some o0 := rfl
theorem three_1 (o0 o1 o2 : IObj) : (three o0 o1 o2).get 1 = some o1 := rfl
theorem three_2 (o0 o1 o2 : IObj) : (three o0 o1 o2).get 2 = some o2 := rfl
theorem three_lt {o0 o1 o2 o : IObj} {b : Nat} (h : (three o0 o1 o2).get b = some o) : b = 0 ∨ b = 1 ∨ b = 2 := by
  have := get_lt h; rw [three_n] at this; omega
/-- The related blocks of a round. -/
def phi3 (p0 : Pl) (p1 : Option Pl) (p2 : Pl) : Phi := fun b => if b = 0 then some p0 else if b = 1 then p1 else if b = 2 then some p2 else none
theorem rel3 {W : World} {B2 Bx : Nat} {cs csx : Array Value} {E Ex : TypeId} {p1 : Option Pl} {sv : IV} {sv' : Value} {o1 : IObj} {x : Plc} (h0 : W.heap[B2]? = some (Obj.cells cs E (0, 0))) (h0' : cs[0]? = some sv') (hx : W.heap[Bx]? = some (Obj.cells csx Ex (0, 0))) (hx' : Stand csx 0 (plI x)) (hsz : 3 ≤ csx.size) (hne : B2 ≠ Bx)
    (h1 : p1 = none ∧ o1 = .dead ∨ ∃ q cells cs2 E2, p1 = some q ∧ o1 = .row cells ∧ q.blk ≠ B2 ∧ q.blk ≠ Bx ∧ W.heap[q.blk]? = some (Obj.cells cs2 E2 (0, 0)) ∧ q.off + q.lim ≤ cs2.size ∧ cells.length ≤ q.lim ∧ Stand cs2 q.off cells ∧ ∀ v ∈ cells, Plain v)
    (hs : VRel (phi3 ⟨B2, 0, 1⟩ p1 ⟨Bx, 0, 3⟩) C00 sv sv') : Rel (phi3 ⟨B2, 0, 1⟩ p1 ⟨Bx, 0, 3⟩) C00 (three (.row [sv]) o1 (.row (plI x))) W := by
  have lt0 := (Array.getElem?_eq_some_iff.1 h0).1
  have ltx := (Array.getElem?_eq_some_iff.1 hx).1
  have hphi : ∀ b p, phi3 ⟨B2, 0, 1⟩ p1 ⟨Bx, 0, 3⟩ b = some p → (b = 0 ∧ p = ⟨B2, 0, 1⟩) ∨ (b = 1 ∧ p1 = some p) ∨ (b = 2 ∧ p = ⟨Bx, 0, 3⟩) := fun b p hb => by
    unfold phi3 at hb
    split at hb
    · cases hb; exact .inl ⟨by assumption, rfl⟩
    split at hb
    · exact .inr (.inl ⟨by assumption, hb⟩)
    split at hb
    · cases hb; exact .inr (.inr ⟨by assumption, rfl⟩)
    · cases hb
  refine ⟨fun b p hb => ?_, fun b p hb _ => rfl, fun b b' p p' hb hb' he _ _ => ?_, fun b p cells hb hg => ?_, fun b p es c hb hg => ?_, fun blk cs hc => by cases hc⟩
  · rw [three_n]
    rcases hphi b p hb with ⟨rfl, rfl⟩ | ⟨rfl, hp⟩ | ⟨rfl, rfl⟩
    · exact ⟨by decide, lt0⟩
    · rcases h1 with ⟨rfl, _⟩ | ⟨q, _, _, _, rfl, _, _, _, hq, _⟩
      · cases hp
      · cases hp; exact ⟨by decide, (Array.getElem?_eq_some_iff.1 hq).1⟩
    · exact ⟨by decide, ltx⟩
  · rcases hphi b p hb with ⟨rfl, rfl⟩ | ⟨rfl, hp⟩ | ⟨rfl, rfl⟩ <;> rcases hphi b' p' hb' with ⟨rfl, rfl⟩ | ⟨rfl, hp'⟩ | ⟨rfl, rfl⟩ <;> first
      | rfl
      | exact absurd he hne
      | exact absurd he.symm hne
      | (rcases h1 with ⟨rfl, _⟩ | ⟨q, _, _, _, rfl, _, q1, q2, _⟩
         · first | cases hp | cases hp'
         · first | (cases hp; first | exact absurd he q1 | exact absurd he q2) | (cases hp'; first | exact absurd he.symm q1 | exact absurd he.symm q2))
  · rcases hphi b p hb with ⟨rfl, rfl⟩ | ⟨rfl, hp⟩ | ⟨rfl, rfl⟩
    · rw [three_0] at hg; cases hg
      have : 0 < cs.size := (Array.getElem?_eq_some_iff.1 h0').1
      refine ⟨cs, E, h0, by simp only; omega, by simp, fun i v hv => ?_⟩
      cases i with
      | zero => simp at hv; subst hv; exact ⟨sv', by simpa using h0', hs⟩
      | succ i => simp at hv
    · rcases h1 with ⟨rfl, _⟩ | ⟨q, cells', cs2, E2, rfl, rfl, _, _, q3, q4, q5, q6, q7⟩
      · cases hp
      · cases hp; rw [three_1] at hg; cases hg
        exact ⟨cs2, E2, q3, q4, q5, q6.rel q7⟩
    · rw [three_2] at hg; cases hg
      exact ⟨csx, Ex, hx, by simp only; omega, by simp [plI], hx'.rel fun v hv => plI_plain hv⟩
  · rcases hphi b p hb with ⟨rfl, rfl⟩ | ⟨rfl, hp⟩ | ⟨rfl, rfl⟩
    · rw [three_0] at hg; cases hg
    · rcases h1 with ⟨rfl, _⟩ | ⟨q, cells', cs2, E2, rfl, rfl, _⟩
      · cases hp
      · rw [three_1] at hg; cases hg
    · rw [three_2] at hg; cases hg
end Go.Proofs.YtadeojgiiapljaaGreat.Im
namespace Go.Proofs.YtadeojgiiapljaaGreat.Im
open Go
open Go.RowKit
set_option maxHeartbeats 1000000
set_option maxRecDepth 100000
theorem body3 {ro : Option Nat} {n id : Nat} {Q : Exit → Act → World → Prop} {W0 W : World} {a : Act} {xs : Nat → Plc} {k n₀ B2 Bx : Nat} {csx : Array Value} {Ex : TypeId} (hk : k < 4000000) (hcol : Col n₀ B2 xs k W0) (hst : CStay W0 W) (hsize : W0.heap.size ≤ W.heap.size) (hBx : W0.heap.size ≤ Bx) (hB2 : n₀ ≤ B2)
    (hx : W.heap[Bx]? = some (Obj.cells csx Ex (0, 0))) (hxs : 3 ≤ csx.size) (hx' : Stand csx 0 (plI (xs k))) (ht2 : a.tmps[2]? = some (.pointer (some ⟨B2, 0, none⟩))) (ht5 : a.tmps[5]? = some (.pointer (some ⟨Bx, 0, none⟩))) (hsz : a.tmps.size = 13) (hd : a.defers = [])
    (hQ : ∀ a' W', Col n₀ B2 xs (k + 1) W' → Kept n₀ W W' → Q .normal a' W') : (Code.region id opsB202 false).wpIn (FcN ro) n Tryz.prog Q a W := by
  obtain ⟨cs, E, sv', c1, c2, c3⟩ := hcol
  have hB2lt : B2 < W0.heap.size := (Array.getElem?_eq_some_iff.1 c1).1
  have hBxlt : Bx < W.heap.size := (Array.getElem?_eq_some_iff.1 hx).1
  have d1 := hst _ _ _ _ c1
  have hne : B2 ≠ Bx := by omega
  have hfr : ∀ p1, FRel (phi3 ⟨B2, 0, 1⟩ p1 ⟨Bx, 0, 3⟩) C00 13 [(2, .ptr 0 0), (5, .ptr 2 0)] a := fun p1 => by
    refine ⟨fun t v ht hv => ?_, hsz, ?_⟩
    · have : (t = 2 ∧ v = .ptr 0 0) ∨ (t = 5 ∧ v = .ptr 2 0) := by
        simp only [Env.get] at hv
        split at hv
        · cases hv; exact .inl ⟨by omega, rfl⟩
        split at hv
        · cases hv; exact .inr ⟨by omega, rfl⟩
        · cases hv
      rcases this with ⟨rfl, rfl⟩ | ⟨rfl, rfl⟩
      · exact ⟨_, ht2, VRel.ptr (p := ⟨B2, 0, 1⟩) (off := 0) rfl⟩
      · exact ⟨_, ht5, VRel.ptr (p := ⟨Bx, 0, 3⟩) (off := 0) rfl⟩
    · show DRel _ _ [(2, .ptr 0 0), (5, .ptr 2 0)] a.defers
      unfold DRel
      exact hd
  -- what the ending tells
  have fin : ∀ (p1 : Option Pl) (o1 : IObj) (sv : IV) (h2 : IHeap) (φ' : Phi) (C' : Con) (a' : Act) (W' : World), (∀ q, p1 = some q → n₀ ≤ q.blk ∧ ∃ cs2 E2, W.heap[q.blk]? = some (Obj.cells cs2 E2 (0, 0))) →
      h2.get 0 = some (.row [.aslice 4 0 (k + 1) 3]) → h2.get 4 = some (.row (flI xs (k + 1))) →
      Ext (phi3 ⟨B2, 0, 1⟩ p1 ⟨Bx, 0, 3⟩) C00 (three (.row [sv]) o1 (.row (plI (xs k)))) W φ' C' h2 W' → Rel φ' C' h2 W' → Q .normal a' W' := by
    intro p1 o1 sv h2 φ' C' a' W' hp1 g0 g4 ex r'
    have hphi : ∀ b p, phi3 ⟨B2, 0, 1⟩ p1 ⟨Bx, 0, 3⟩ b = some p → n₀ ≤ p.blk ∧ ∃ cs2 E2, W.heap[p.blk]? = some (Obj.cells cs2 E2 (0, 0)) := fun b p hb => by
      unfold phi3 at hb
      split at hb
      · cases hb; exact ⟨hB2, _, _, d1⟩
      split at hb
      · exact hp1 p hb
      split at hb
      · cases hb; exact ⟨(by show n₀ ≤ Bx; omega), _, _, hx⟩
      · cases hb
    obtain ⟨cs', E', q1, q2, q3, q4⟩ := r'.row 0 ⟨B2, 0, 1⟩ _ (ex.phi 0 _ rfl) g0
    obtain ⟨y, hy, hv⟩ := q4 0 _ rfl
    cases hv with
    | @aslice _ _ _ _ cap p hp hl hr =>
    obtain ⟨cs4, E4, w1, w2, w3, w4⟩ := r'.row 4 p _ hp g4
    refine hQ a' W' ⟨cs', E', _, q1, by simpa using hy, .inr ⟨p.blk, p.off + 0, cap, cs4, E4, by omega, rfl, ?_, ?_, w1, hl, by omega, ?_⟩⟩ ⟨⟨ex.os, ex.tape, ex.output, ex.size, fun b hb => ?_⟩, ⟨ex.size, fun b o ho hc => ?_⟩⟩
    · by_cases hlt : p.blk < W.heap.size
      · obtain ⟨b0, p0, e1, _, e3⟩ := ex.own 4 p hp ⟨_, g4, by simp⟩ hlt
        rw [← e3]; exact (hphi b0 p0 e1).1
      · omega
    · intro hh
      have := r'.inj 4 0 p ⟨B2, 0, 1⟩ hp (ex.phi 0 _ rfl) hh ⟨_, g4, by simp⟩ ⟨_, g0, by simp⟩
      cases this
    · exact Stand.of (φ := φ') (C := C') (fun i v hv => by simpa using w4 i v hv) fun v hv => flI_plain hv
    · exact ex.keep b (by omega) fun b0 p0 e1 _ e3 => by have := (hphi b0 p0 e1).1; omega
    · rw [ex.keep b (Array.getElem?_eq_some_iff.1 ho).1 fun b0 p0 e1 _ e3 => ?_]
      · exact ho
      · obtain ⟨_, cs2, E2, e4⟩ := hphi b0 p0 e1
        rw [e3, ho] at e4
        cases e4; cases hc
  rcases c3 with ⟨rfl, rfl⟩ | ⟨blk, off, cap, cs2, E2, g1, rfl, g2, g3, g4, g5, g6, g7⟩
  · have r : Rel (phi3 ⟨B2, 0, 1⟩ none ⟨Bx, 0, 3⟩) C00 (three (.row [.nils]) .dead (.row (plI (xs 0)))) W := rel3 d1 c2 hx hx' hxs hne (.inl ⟨rfl, rfl⟩) .nils
    have ha := app0 (h := three (.row [.nils]) .dead (.row (plI (xs 0)))) (g := (three (.row [.nils]) .dead (.row (plI (xs 0)))).push (.row (plI (xs 0)))) (x := xs 0) rfl rfl
    obtain ⟨e', hrun⟩ := runB (e := [(2, .ptr 0 0), (5, .ptr 2 0)]) (h := three (.row [.nils]) .dead (.row (plI (xs 0)))) rfl rfl rfl rfl rfl ha rfl rfl
    exact region_in onil_sim (nd_of_all ndB202) iosB202_ok r (hfr none) hrun fun φ' C' a' W' ex r' f' => fin none _ _ _ φ' C' a' W' (fun q hq => by cases hq) rfl rfl ex r'
  · have g4' := hst _ _ _ _ g4
    have hblt : blk < W0.heap.size := (Array.getElem?_eq_some_iff.1 g4).1
    have r : Rel (phi3 ⟨B2, 0, 1⟩ (some ⟨blk, off, cap * 3⟩) ⟨Bx, 0, 3⟩) C00 (three (.row [.aslice 1 0 k 3]) (.row (flI xs k)) (.row (plI (xs k)))) W :=
      rel3 d1 c2 hx hx' hxs hne (.inr ⟨⟨blk, off, cap * 3⟩, _, cs2, E2, rfl, rfl, g3, by show blk ≠ Bx; omega, g4', by show off + cap * 3 ≤ _; omega, by rw [flI_len]; show k * 3 ≤ cap * 3; omega, g7, fun v hv => flI_plain hv⟩)
        (VRel.aslice (p := ⟨blk, off, cap * 3⟩) (off := 0) rfl g5 (by simp))
    have ha := app1 (g := (three (.row [.aslice 1 0 k 3]) (.row (flI xs k)) (.row (plI (xs k)))).push (.row (plI (xs k)))) (b := 1) (c := 3) (k := k) (old := flI xs k) (x := xs k) rfl rfl (flI_len xs k) hk
    obtain ⟨e', hrun⟩ := runB (e := [(2, .ptr 0 0), (5, .ptr 2 0)]) (h := three (.row [.aslice 1 0 k 3]) (.row (flI xs k)) (.row (plI (xs k)))) rfl rfl rfl rfl rfl ha rfl rfl
    exact region_in onil_sim (nd_of_all ndB202) iosB202_ok r (hfr _) hrun fun φ' C' a' W' ex r' f' => fin _ _ _ _ φ' C' a' W' (fun q hq => by cases hq; exact ⟨g2, _, _, g4'⟩) rfl rfl ex r'
end Go.Proofs.YtadeojgiiapljaaGreat.Im
namespace Go.Proofs.YtadeojgiiapljaaGreat.Im
open Go Go.Proofs
open Go.RowKit Go.Shelf
attribute [local go_sem] Oper.semAt_some
/-- The loop: whatever the rounds collect has been collected. -/
theorem range202 {a : Act} {assign body : Code} {Q : Exit → Act → World → Prop} {W1 : World} {Bs os len n₀ B2 : Nat} {xs : Nat → Plc} (hlen : len < 4000000) (hn₀ : n₀ ≤ B2) (hIt : It n₀ len xs Bs os W1)
    (hg : a.eval (.tmp 6) = .func (.func 154) #[] #[.pointer (some ⟨Bs, os, none⟩)]) (hsz : a.tmps.size = 13) (h2 : a.tmps[2]? = some (.pointer (some ⟨B2, 0, none⟩)))
    (hA : ∀ (l : Nat) (x : Plc) (W : World) (K : Act → World → Prop), K { tmps := (a.tmps.setIfInBounds 7 (plV x)).setIfInBounds 5 (.pointer (some ⟨W.heap.size, 0, none⟩)), defers := [] } (W.alloc (.cells #[.string x.1, .int .i64 x.2.1, .int .i64 x.2.2] 132)) →
      assign.wpIn (Fence.wide.inRound l) 1 Tryz.prog (Exit.then K (fun _ _ _ => False)) { tmps := a.tmps.setIfInBounds 7 (plV x), defers := [] } W)
    (hB : body = .block 1 (.region 3 opsB202 false)) (hcol : Col n₀ B2 xs 0 W1)
    (hQ : ∀ D W, W1.heap.size ≤ D → W.heap[D]? = some (.deferred (some [])) → Below n₀ W1 W → Col n₀ B2 xs len W → Q .normal { a with defers := { target := .collected D, args := #[] } :: a.defers } W) :
    (Code.rangeFunc (.tmp 6) #[7] assign body).wpIn Fence.wide 3 Tryz.prog Q a W1 := by
  have hB2lt : B2 < W1.heap.size := by obtain ⟨cs, E, sv, h, _⟩ := hcol; exact (Array.getElem?_eq_some_iff.1 h).1
  refine wpIn_rangeFunc ?_
  intro fn _
  obtain ⟨rec, hrec⟩ : ∃ rec : LoopState → Loop, rec = fun st => { state := st, pending := none, fn, tmps := a.tmps, params := #[7], assign, body, defers := W1.heap.size } := ⟨_, rfl⟩
  obtain ⟨W2, hW2⟩ : ∃ W2, (W1.alloc (.deferred (some []))).alloc (.loop (rec .ready)) = W2 := ⟨_, rfl⟩
  have hL2 : W2.heap[W1.heap.size + 1]? = some (.loop (rec .ready)) := by
    rw [← hW2]; have := World.alloc_heap_new (W1.alloc (.deferred (some []))) (.loop (rec .ready)); rwa [World.size_alloc] at this
  have hK2 : W2.heap[W1.heap.size]? = some (.deferred (some [])) := by
    rw [← hW2]; exact (Below.heap_alloc _ _ _ (by simp)).trans (World.alloc_heap_new W1 _)
  have hb2 : Below W1.heap.size W1 W2 := by
    rw [← hW2]; exact ((Below.refl _ W1).alloc (Nat.le_refl _) _).alloc (by simp) _
  refine ⟨W1.heap.size + 1, [{ target := .collected W1.heap.size, args := #[] }], W2, { target := .fn (.func 154) #[.pointer (some ⟨Bs, os, none⟩)], args := #[.func (.yield (W1.heap.size + 1)) #[] #[]] }, W2, 154,
    #[.func (.yield (W1.heap.size + 1)) #[] #[]] ++ #[.pointer (some ⟨Bs, os, none⟩)], W2, ?_, ?_, fun _ _ => trivial, ?_, fun h => by simp [Fence.wide] at h, ?_⟩
  · rw [← hW2, hrec]; exact run_enterLoop_outer _ _ _ _ _
  · simp only [resolve, hg]
    simp [go_sem]
  · have eg := enters_of (P := Tryz.prog) Tryz.func154 (by kernel_rfl) rfl
    simp [invoke, go_sem, eg]
  · have hn2 : n₀ ≤ W1.heap.size := by omega
    refine (hIt (W1.heap.size + 1)
      (fun k W => W.heap[W1.heap.size + 1]? = some (.loop (rec .ready)) ∧ W.heap[W1.heap.size]? = some (.deferred (some [])) ∧ Below n₀ W1 W ∧ Col n₀ B2 xs k W) W2 ?_ ?_ (hb2.mono hn2) (Nat.le_trans hn2 hb2.size) ⟨hL2, hK2, hb2.mono hn2, ?_⟩).mono ?_
    · rintro k W ⟨hl, hk, hbel, hcl⟩ hlt
      have hy := run_yield (P := Tryz.prog) (args := #[plV (xs k)]) hl (by rw [hrec]; rfl)
      rw [hrec] at hy
      refine ⟨fn, _, assign, body, hy, roundIn_of_wpIn trivial ?_⟩
      have hsz2 : B2 < W.heap.size := Nat.lt_of_lt_of_le hB2lt hbel.size
      have hT : ∀ r : Loop, r.params = #[7] → r.tmps = a.tmps → (r.params.zip #[plV (xs k)]).foldl (fun tmps (t, a) => tmps.setIfInBounds t a) r.tmps = a.tmps.setIfInBounds 7 (plV (xs k)) := fun r h1 h2 => by rw [h1, h2]; simp
      rw [hT _ rfl rfl]
      refine hA (W1.heap.size + 1) (xs k) W _ ?_
      have hl1 : (W.alloc (.cells #[.string (xs k).1, .int .i64 (xs k).2.1, .int .i64 (xs k).2.2] 132)).heap[W1.heap.size + 1]? = some (.loop (rec .ready)) := (Below.heap_alloc W _ _ (Array.getElem?_eq_some_iff.1 hl).1).trans hl
      refine ⟨_, run_beginRound hl1 (by rw [hrec]), ?_⟩
      generalize hW3 : (W.alloc (.cells #[.string (xs k).1, .int .i64 (xs k).2.1, .int .i64 (xs k).2.2] 132)) = W3 at hl1 ⊢
      have hs3 : W3.heap.size = W.heap.size + 1 := by rw [← hW3]; simp
      have hnew : W3.heap[W.heap.size]? = some (Obj.cells #[.string (xs k).1, .int .i64 (xs k).2.1, .int .i64 (xs k).2.2] 132 (0, 0)) := by rw [← hW3]; exact World.alloc_heap_new W _
      have hold3 : ∀ i, i < W.heap.size → W3.heap[i]? = W.heap[i]? := fun i hi => by rw [← hW3]; exact Below.heap_alloc W _ i hi
      generalize hW4 : W3.putObj (W1.heap.size + 1) (.loop { rec .ready with state := .busy }) = W4
      have hlsz : W1.heap.size + 1 < W.heap.size := (Array.getElem?_eq_some_iff.1 hl).1
      have hs4 : W4.heap.size = W3.heap.size := by rw [← hW4]; simp
      have hold4 : ∀ i, i ≠ W1.heap.size + 1 → W4.heap[i]? = W3.heap[i]? := fun i hi => by rw [← hW4]; exact World.putObj_heap_other hi
      have hl4 : W4.heap[W1.heap.size + 1]? = some (.loop { rec .ready with state := .busy }) := by rw [← hW4]; exact World.putObj_heap_same (by omega)
      have hbel4 : Below n₀ W W4 := by
        refine ⟨by rw [← hW4, ← hW3]; rfl, by rw [← hW4, ← hW3]; rfl, by rw [← hW4, ← hW3]; rfl, by omega, fun i hi => ?_⟩
        rw [hold4 i (by omega), hold3 i (by omega)]
      rw [hB]
      refine wpIn_block (body3 (ro := some (W1.heap.size + 1)) (W0 := W) (xs := xs) (k := k) (n₀ := n₀) (B2 := B2) (Bx := W.heap.size) (csx := #[.string (xs k).1, .int .i64 (xs k).2.1, .int .i64 (xs k).2.2]) (Ex := 132) (by omega) hcl ?_ (by omega) (Nat.le_refl _) hn₀ ?_ (by simp) ?_ ?_ ?_ ?_ rfl ?_)
      · intro i cs E f hi
        have := (Array.getElem?_eq_some_iff.1 hi).1
        rw [hold4 i (fun hh => by rw [hh, hl] at hi; cases hi), hold3 i this]; exact hi
      · rw [hold4 _ (by omega)]; exact hnew
      · intro i v hv
        match i, hv with
        | 0, hv => cases hv; exact ⟨_, rfl, .str _⟩
        | 1, hv => cases hv; exact ⟨_, rfl, .int _ _⟩
        | 2, hv => cases hv; exact ⟨_, rfl, .int _ _⟩
        | i + 3, hv => cases hv
      · rw [Array.getElem?_setIfInBounds, Array.getElem?_setIfInBounds]; simpa using h2
      · rw [Array.getElem?_setIfInBounds]; simp [hsz]
      · simp [hsz]
      · intro a' W5 hcol5 hkept
        have hl5 := hkept.others.same _ _ hl4 rfl
        refine ⟨_, _, run_endRound none hl5, rfl, ⟨?_, ?_, ?_, ?_⟩, ?_⟩
        · rw [World.putObj_heap_same (Array.getElem?_eq_some_iff.1 hl5).1]
          rw [hrec]; rfl
        · rw [World.putObj_heap_other (by omega)]
          refine hkept.others.same _ _ ?_ rfl
          rw [hold4 _ (by omega), hold3 _ (by omega)]; exact hk
        · refine (hbel.trans (hbel4.trans hkept.below)).trans ((Below.refl n₀ W5).grown (grownBy_putObj' W5 _ _) (by have := hkept.below.size; omega) (fun i e => by cases e; omega))
        · exact hcol5.keep fun i cs E f hi => by
            rw [World.putObj_heap_other (fun hh => by rw [hh, hl5] at hi; cases hi)]; exact hi
        · exact (hbel4.trans hkept.below).trans ((Below.refl n₀ W5).grown (grownBy_putObj' W5 _ _) (by have := hkept.below.size; omega) (fun i e => by cases e; omega))
    · rintro k W o ⟨hl, hk, hbel, hcl⟩
      exact ⟨(Below.heap_alloc W _ _ (Array.getElem?_eq_some_iff.1 hl).1).trans hl, (Below.heap_alloc W _ _ (Array.getElem?_eq_some_iff.1 hk).1).trans hk, hbel.alloc (Nat.le_trans hn2 hbel.size) _, hcl.keep fun i cs E f hi => (Below.heap_alloc W _ _ (Array.getElem?_eq_some_iff.1 hi).1).trans hi⟩
    · exact hcol.keep fun i cs E f hi => (hb2.block i (Array.getElem?_eq_some_iff.1 hi).1).trans hi
    · rintro e W ⟨⟨v, rfl⟩, hl, hk, hbel, hcl⟩
      refine ⟨none, _, by have := run_endLoop (P := Tryz.prog) hl (by rw [hrec]; simp); rw [hrec] at this; exact this, ?_⟩
      refine hQ W1.heap.size _ (Nat.le_refl _) ?_ ?_ ?_
      · rw [World.putObj_heap_other (by omega)]; exact hk
      · exact hbel.trans ((Below.refl n₀ W).grown (grownBy_putObj' W _ _) (by have := hbel.size; omega) (fun i e => by cases e; omega))
      · exact hcl.keep fun i cs E f hi => by
          rw [World.putObj_heap_other (fun hh => by rw [hh, hl] at hi; cases hi)]; exact hi
end Go.Proofs.YtadeojgiiapljaaGreat.Im
namespace Go.Proofs.YtadeojgiiapljaaGreat.Im
open Go Go.Proofs
open Go.RowKit Go.Shelf
attribute [local go_sem] Oper.semAt_some
/-- What the call comes to. -/
def Got (n₀ : Nat) (xs : Nat → Plc) (len : Nat) (v : Value) (W : World) : Prop :=
  (len = 0 ∧ v = .slice none 0 0) ∨ ∃ blk off cap cs E, 0 < len ∧ v = .slice (some ⟨blk, off, none⟩) len cap ∧ n₀ ≤ blk ∧ W.heap[blk]? = some (Obj.cells cs E (0, 0)) ∧ len ≤ cap ∧ off + cap * 3 ≤ cs.size ∧ Stand cs off (flI xs len)
theorem It.later {n₀ len Bs os : Nat} {xs : Nat → Plc} {W W1 : World} (h : It n₀ len xs Bs os W) (hb : Below n₀ W W1) : It n₀ len xs Bs os W1 := fun l J W2 h1 h2 h3 => h l J W2 h1 h2 (hb.trans h3)
set_option maxRecDepth 100000 in
set_option maxHeartbeats 2000000 in
theorem calls202 (Bs os len : Nat) (xs : Nat → Plc) (hlen : len < 4000000) (w : World) (hIt : It w.heap.size len xs Bs os w) :
    Calls Tryz.prog 202 #[.slice none 0 0, .func (.func 154) #[] #[.pointer (some ⟨Bs, os, none⟩)]] w fun e W' => ∃ v, e = .returned v ∧ Below w.heap.size w W' ∧ Got w.heap.size xs len v W' := by
  rw [← callsIn_wide (n := 3)]
  refine callsIn_of_wp_marks Tryz.func202 rfl trivial ?_ rfl
  simp only [Tryz.ntmps202, List.size_toArray, List.length_cons, List.length_nil, Nat.reduceAdd, Nat.reduceSub, Array.replicate_succ, Array.replicate_zero, List.push_toArray, List.append_toArray, List.nil_append, List.cons_append]
  gi_wp2
  have hbel1 : Below w.heap.size w (w.alloc (Obj.cells #[Value.slice none 0 0] 55)) := (Below.refl _ w).alloc (Nat.le_refl _) _
  refine range202 (n₀ := w.heap.size) (B2 := w.heap.size) hlen (Nat.le_refl _) (hIt.later hbel1) rfl rfl rfl ?_ (by kernel_rfl) ⟨#[Value.slice none 0 0], 55, _, World.alloc_heap_new w _, rfl, .inl ⟨rfl, rfl⟩⟩ ?_
  · intro l x W K hK
    unfold plV at *
    gi_wp2
    exact hK
  · intro D W hD hk hbel hcl
    obtain ⟨cs, E, sv, h1, h2, h3⟩ := hcl
    have hcell : W.cell? ⟨w.heap.size, 0, none⟩ = some sv := by simp [World.cell?, h1, h2]
    have hD' : w.heap.size < D := by simp at hD; omega
    gi_wp2
    refine ⟨by simp, .inl ⟨_, _, rfl, run_takeDeferred hk, ?_⟩⟩
    refine ⟨_, results_tmp rfl _ _ _, _, rfl, (hbel1.trans hbel).trans ((Below.refl _ W).grown (grownBy_putObj' W _ _) ?_ (fun i e => by cases e; omega)), ?_⟩
    · have := hbel.size; simp at this; omega
    · rcases h3 with ⟨rfl, rfl⟩ | ⟨blk, off, cap, cs2, E2, g1, rfl, g2, g3, g4, g5⟩
      · exact .inl ⟨rfl, rfl⟩
      · refine .inr ⟨blk, off, cap, cs2, E2, g1, rfl, g2, ?_, g5⟩
        rw [World.putObj_heap_other (fun hh => by rw [hh, hk] at g4; cases g4)]; exact g4
end Go.Proofs.YtadeojgiiapljaaGreat.Im
