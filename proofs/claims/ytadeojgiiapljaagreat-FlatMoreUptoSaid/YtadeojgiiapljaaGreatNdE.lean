/- muffleref15.list. -/
import Derived.Test.YtadeojgiiapljaaGreatNdD
set_option linter.unusedSimpArgs false
set_option linter.unusedVariables false
namespace Go.Proofs.YtadeojgiiapljaaGreat.Im
open Go
set_option maxHeartbeats 8000000
def g26 : List IV → Option IV
  | [.int .i64 vars, p, r, .int .i64 frame] => match decInts .i64 p, decInts .i64 r with
    | some ps, some rs => if ps.length < 4000000 ∧ rs.length < 4000000 then some (.bool (decide (HeadOk ⟨vars, ps, rs, frame, []⟩))) else none
    | _, _ => none
  | _ => none
theorem s26 : Sim Tryz.prog 26 (rd g26) := by
  refine Sim.rd ⟨Tryz.f26, Tryz.func26, rfl, by decide⟩ fun args v h hg => ?_
  unfold g26 at hg
  split at hg
  · split at hg
    · rename_i vars p r frame _ _ ps rs hp hr
      split at hg
      · rename_i hl
        cases hg
        have hb := b26 (O := onil) (f := ⟨vars, ps, rs, frame, []⟩) (h := h) hp hr hl.1 hl.2
        obtain ⟨h2, h3, h4⟩ := rd_done (R := fun h' => h' = h) rfl rfl rfl (by decide) hb rfl
        exact ⟨_, body_sim onil_sim cc26 _, h2, h3, h4 ▸ Grow.refl h, fun _ => rfl⟩
      · cases hg
    · cases hg
  · cases hg

def zeroIns : In8 := ⟨0, 0, 0, 0, 0, 0, 0, false⟩
def topOk (deep n : Nat) : Bool := decide (n = 0) || decide (deep ≤ 65)
mutual
def Nd.ok (vars : Int) : Nat → Nd → Bool
  | deep, .mk kind ins cond a b e =>
    if kind = 1 then insOk ins vars && decide (cond = 0) && decide (a.length + b.length + e.length = 0)
    else if kind = 2 ∨ kind = 3 then decide (ins = zeroIns) && decide (0 ≤ cond) && decide (cond < vars) && (decide (kind ≠ 3) || decide (e.length = 0)) &&
      (topOk (deep + 1) a.length && okAll vars (deep + 1) a) && (topOk (deep + 1) b.length && okAll vars (deep + 1) b) && (topOk (deep + 1) e.length && okAll vars (deep + 1) e)
    else false
def okAll (vars : Int) : Nat → List Nd → Bool
  | _, [] => true
  | deep, x :: xs => x.ok vars deep && okAll vars deep xs
end
/-- May nodes be, so deep? -/
def okL (vars : Int) (deep : Nat) (l : List Nd) : Bool := topOk deep l.length && okAll vars deep l
theorem Nd.ok_eq (vars : Int) (deep : Nat) (x : Nd) : x.ok vars deep =
    if x.kind = 1 then insOk x.ins vars && decide (x.cond = 0) && decide (x.ahead.length + x.body.length + x.els.length = 0)
    else if x.kind = 2 ∨ x.kind = 3 then decide (x.ins = zeroIns) && decide (0 ≤ x.cond) && decide (x.cond < vars) && (decide (x.kind ≠ 3) || decide (x.els.length = 0)) && okL vars (deep + 1) x.ahead && okL vars (deep + 1) x.body && okL vars (deep + 1) x.els
    else false := by
  cases x; unfold Nd.ok okL; rfl
theorem okAll_iff (vars : Int) (deep : Nat) : ∀ l : List Nd, okAll vars deep l = true ↔ ∀ x ∈ l, x.ok vars deep = true
  | [] => by simp [okAll]
  | x :: xs => by simp [okAll, okAll_iff vars deep xs]
theorem eqFlat_ins (x y : In8) : eqFlat [false, false, false, false, false, false, false, true] x.cells y.cells = some (decide (x = y)) := by
  obtain ⟨a1, a2, a3, a4, a5, a6, a7, a8⟩ := x
  obtain ⟨b1, b2, b3, b4, b5, b6, b7, b8⟩ := y
  simp only [In8.cells, eqFlat, if_true, In8.mk.injEq]
  by_cases h1 : a1 = b1 <;> by_cases h2 : a2 = b2 <;> by_cases h3 : a3 = b3 <;> by_cases h4 : a4 = b4 <;> by_cases h5 : a5 = b5 <;> by_cases h6 : a6 = b6 <;> by_cases h7 : a7 = b7 <;> by_cases h8 : a8 = b8 <;> simp [h1, h2, h3, h4, h5, h6, h7, h8]

def g27 (k : Nat) : List IV → Option IV
  | [v, .int .i64 vars, .int .i64 deep] => match decNds k v with
    | some l => if small l ∧ 0 ≤ deep ∧ deep ≤ 100 ∧ i64ok vars then some (.bool (okL vars deep.toNat l)) else none
    | none => none
  | _ => none
theorem rd27 {k : Nat} {v : IV} {l : List Nd} {vars : Int} {deep : Nat} (hv : decNds k v = some l) (hs : small l = true) (hd : deep ≤ 100) (hr : i64ok vars = true) (h : IHeap) : rd (g27 k) [v, .int .i64 vars, .int .i64 deep] h = .ok (.bool (okL vars deep l)) h := by
  have : (deep : Int) ≤ 100 := by omega
  simp [rd, g27, hv, hs, okO, this, hr]
theorem rd62 (x : In8) (vars : Int) (h : IHeap) : rd g62 [.agg x.cells, .int .i64 vars] h = .ok (.bool (insOk x vars)) h := rfl
theorem rd62' (x : In8) (vars : Int) (h : IHeap) : rd g62 [.agg [.int .i64 x.kind, .int .i64 x.op, .int .i64 x.d, .int .i64 x.a, .int .i64 x.b, .int .i64 x.c, .int .u64 x.word, .bool x.stack], .int .i64 vars] h = .ok (.bool (insOk x vars)) h := rfl
theorem eqflat_zero (x : In8) : eqflatV true [false, false, false, false, false, false, false, true] (.agg [.int .i64 x.kind, .int .i64 x.op, .int .i64 x.d, .int .i64 x.a, .int .i64 x.b, .int .i64 x.c, .int .u64 x.word, .bool x.stack])
    (.agg [.int .i64 0, .int .i64 0, .int .i64 0, .int .i64 0, .int .i64 0, .int .i64 0, .int .u64 0, .bool false]) = some (.bool (!decide (x = zeroIns))) := by
  have := eqFlat_ins x zeroIns
  simp only [In8.cells, zeroIns] at this
  simp only [eqflatV, this, zeroIns]; rfl
theorem cast0 : ((0 : Nat) : Int) = 0 := rfl
theorem ok_false {vars : Int} {deep : Nat} {l : List Nd} {i : Nat} {x : Nd} (hx : l[i]? = some x) (h : x.ok vars deep = false) : okL vars deep l = false := by
  unfold okL
  cases ha : okAll vars deep l
  · simp
  · have := (okAll_iff vars deep l).1 ha x (mem_of_get hx); rw [h] at this; cases this
theorem b27 (k : Nat) (v : IV) (l : List Nd) (vars : Int) (deep : Nat) (h : IHeap) (hv : decNds (k + 1) v = some l) (hs : small l = true) (hdp : deep ≤ 100) (hrv : i64ok vars = true) (O : Orc) (h27 : O 27 = rd (g27 k)) (h62 : O 62 = rd g62) :
    (ix O (l.length + 2) ic27.body (startI 0 [v, .int .i64 vars, .int .i64 deep]) h).sat (fun x e h' => x = .ret ∧ e.get 6 = some (.bool (okL vars deep l)) ∧ Grow h h') (fun _ _ _ => False) := by
  have hc : cntL l < 4000000 := by simpa [small] using hs
  have hlen := decNds_len hv
  have hcl := cntL_length l
  have no : ∀ {e : Env}, okL vars deep l = false → e.get 6 = some (.bool false) → e.get 6 = some (.bool (okL vars deep l)) := fun hn he => by rw [he, hn]
  unfold ic27
  simp only [start_cons, start_nil]
  refine sat_seq ?_
  simp only [ss, hps, Nat.reduceEqDiff, Nat.reduceLT, Nat.reduceAdd, Nat.reduceLeDiff, Int.reduceLT, Int.reduceLE, Int.reduceEq, reduceIte]
  refine sat_next (sat_seq (sat_seq ?_))
  by_cases c0 : l.length = 0
  · have : l = [] := List.length_eq_zero_iff.1 c0
    have hlen0 : slenV v = some 0 := by rw [hlen, c0]
    have hok : okL vars deep l = true := by rw [this]; simp [okL, topOk, okAll]
    simp only [ss, hps, Nat.reduceEqDiff, Nat.reduceLT, Nat.reduceAdd, Nat.reduceLeDiff, Int.reduceLT, Int.reduceLE, Int.reduceEq, reduceIte, hlen0, cast0]
    refine sat_next (sat_condK ?_)
    simp only [ss, hps, Nat.reduceEqDiff, Nat.reduceLT, Nat.reduceAdd, Nat.reduceLeDiff, Int.reduceLT, Int.reduceLE, Int.reduceEq, reduceIte]
    refine sat_next (sat_seq (sat_seq ?_))
    simp only [ss, hps, Nat.reduceEqDiff, Nat.reduceLT, Nat.reduceAdd, Nat.reduceLeDiff, Int.reduceLT, Int.reduceLE, Int.reduceEq, reduceIte]
    refine sat_next (sat_block (sat_loop (fun m e h' => m = 0 ∧ e.get 7 = some (.int .i64 0) ∧ h' = h) 0 (by omega) ⟨rfl, by simp [get_put, puto_some], rfl⟩ ?_))
    rintro m e h' ⟨rfl, h7, rfl⟩ hf
    have h0 := hf 0 rfl
    simp only [ss, hps, Nat.reduceEqDiff, Nat.reduceLT, Nat.reduceAdd, Nat.reduceLeDiff, Int.reduceLT, Int.reduceLE, Int.reduceEq, reduceIte, get_put, puto_some] at h0
    clear hf
    refine sat_seq (sat_seq ?_)
    simp only [ss, hps, Nat.reduceEqDiff, Nat.reduceLT, Nat.reduceAdd, Nat.reduceLeDiff, Int.reduceLT, Int.reduceLE, Int.reduceEq, reduceIte, h7, h0, hlen0, cast0]
    refine sat_next (sat_condK ?_)
    simp only [ss, hps, Nat.reduceEqDiff, Nat.reduceLT, Nat.reduceAdd, Nat.reduceLeDiff, Int.reduceLT, Int.reduceLE, Int.reduceEq, reduceIte]
    refine sat_brk fun hf2 => sat_next (sat_seq ?_)
    simp only [ss, hps, Nat.reduceEqDiff, Nat.reduceLT, Nat.reduceAdd, Nat.reduceLeDiff, Int.reduceLT, Int.reduceLE, Int.reduceEq, reduceIte]
    refine sat_next (sat_ret ⟨rfl, ?_, Grow.refl _⟩)
    simp only [ss, hps, Nat.reduceEqDiff, Nat.reduceLT, Nat.reduceAdd, Nat.reduceLeDiff, Int.reduceLT, Int.reduceLE, Int.reduceEq, reduceIte, hok]
  have c0' : (0 : Int) < l.length := by omega
  by_cases c1 : 65 < deep
  · have c1' : (65 : Int) < deep := by omega
    simp only [ss, hps, Nat.reduceEqDiff, Nat.reduceLT, Nat.reduceAdd, Nat.reduceLeDiff, Int.reduceLT, Int.reduceLE, Int.reduceEq, reduceIte, hlen, c0', c1']
    refine sat_next (sat_condK ?_)
    simp only [ss, hps, Nat.reduceEqDiff, Nat.reduceLT, Nat.reduceAdd, Nat.reduceLeDiff, Int.reduceLT, Int.reduceLE, Int.reduceEq, reduceIte]
    exact ⟨rfl, no (by simp [okL, topOk, c0]; omega) (by simp only [ss, hps, Nat.reduceEqDiff, Nat.reduceLT, Nat.reduceAdd, Nat.reduceLeDiff, Int.reduceLT, Int.reduceLE, Int.reduceEq, reduceIte]), Grow.refl h⟩
  have c1' : ¬ (65 : Int) < deep := by omega
  simp only [ss, hps, Nat.reduceEqDiff, Nat.reduceLT, Nat.reduceAdd, Nat.reduceLeDiff, Int.reduceLT, Int.reduceLE, Int.reduceEq, reduceIte, hlen, c0', c1']
  refine sat_next (sat_condK ?_)
  simp only [ss, hps, Nat.reduceEqDiff, Nat.reduceLT, Nat.reduceAdd, Nat.reduceLeDiff, Int.reduceLT, Int.reduceLE, Int.reduceEq, reduceIte]
  refine sat_next (sat_seq (sat_seq ?_))
  simp only [ss, hps, Nat.reduceEqDiff, Nat.reduceLT, Nat.reduceAdd, Nat.reduceLeDiff, Int.reduceLT, Int.reduceLE, Int.reduceEq, reduceIte]
  refine sat_next (sat_block (sat_loop (fun m e h' => ∃ i, i + m = l.length ∧ e.get 7 = some (.int .i64 i) ∧ (∀ j x, j < i → l[j]? = some x → x.ok vars deep = true) ∧ Grow h h') l.length (by omega) ?_ ?_))
  · refine ⟨0, by omega, ?_, fun j x hj => by omega, Grow.refl h⟩
    simp [get_put, puto_some]
  · rintro m e h' ⟨i, hi, h7, hgood, hg⟩ hf
    have h0 := hf 0 rfl
    have h1 := hf 1 rfl
    have h2 := hf 2 rfl
    simp only [ss, hps, Nat.reduceEqDiff, Nat.reduceLT, Nat.reduceAdd, Nat.reduceLeDiff, Int.reduceLT, Int.reduceLE, Int.reduceEq, reduceIte, get_put, puto_some] at h0 h1 h2
    clear hf
    refine sat_seq (sat_seq ?_)
    simp only [ss, hps, Nat.reduceEqDiff, Nat.reduceLT, Nat.reduceAdd, Nat.reduceLeDiff, Int.reduceLT, Int.reduceLE, Int.reduceEq, reduceIte, h7, h0, hlen]
    refine sat_next (sat_condK ?_)
    simp only [ss, hps, Nat.reduceEqDiff, Nat.reduceLT, Nat.reduceAdd, Nat.reduceLeDiff, Int.reduceLT, Int.reduceLE, Int.reduceEq, reduceIte]
    refine sat_condD (fun hlt => ?_) (fun hge => ?_)
    · have hlt : i < l.length := by omega
      obtain ⟨x, hx⟩ := get_len hlt
      obtain ⟨a, b, c, rest, hia, hat⟩ := decNds_node hv hx
      obtain ⟨sa, sb, sc⟩ := small_sub hc hx
      have oa := dec_one hat.ahead
      have ob := dec_one hat.body
      have oc := dec_one hat.els
      have la := decNds_len hat.ahead
      have lb := decNds_len hat.body
      have lc := decNds_len hat.els
      have hla := cntL_length x.ahead
      have hlb := cntL_length x.body
      have hlc := cntL_length x.els
      have sa' : cntL x.ahead < 4000000 := by simpa [small] using sa
      have sb' : cntL x.body < 4000000 := by simpa [small] using sb
      have sc' : cntL x.els < 4000000 := by simpa [small] using sc
      have hxok := x.ok_eq vars deep
      have bad : ∀ {e : Env}, x.ok vars deep = false → e.get 6 = some (.bool false) → e.get 6 = some (.bool (okL vars deep l)) := fun hn he => no (ok_false hx hn) he
      have hg2 := grow_push hg (.row (x.cells a b c))
      have w1 : IntKind.i64.wrap ((x.ahead.length : Int) + x.body.length) = x.ahead.length + x.body.length := wrap_i64 (by omega) (by omega)
      have w2 : IntKind.i64.wrap ((x.ahead.length : Int) + x.body.length + x.els.length) = x.ahead.length + x.body.length + x.els.length := wrap_i64 (by omega) (by omega)
      have w3 : IntKind.i64.wrap ((i : Int) + 1) = ((i + 1 : Nat) : Int) := by rw [wrap_i64 (by omega) (by omega)]; simp
      have hstep : x.ok vars deep = true → ∀ j y, j < i + 1 → l[j]? = some y → y.ok vars deep = true := by
        intro hx1 j y hj hy
        by_cases e1 : j < i
        · exact hgood j y e1 hy
        · have : j = i := by omega
          subst this; rw [hx] at hy; cases hy; exact hx1
      refine sat_skip ?_
      by_cases k1 : x.kind = 1
      · rw [if_pos k1] at hxok
        cases q1 : insOk x.ins vars
        · simp only [ss, hps, Nat.reduceEqDiff, Nat.reduceLT, Nat.reduceAdd, Nat.reduceLeDiff, Int.reduceLT, Int.reduceLE, Int.reduceEq, reduceIte, h7, h0, h1, h2, hia, Nd.cells, oa, ob, oc, la, lb, lc, rd62', h62, h27, eqflat_zero, k1, q1]
          exact fun _ => ⟨rfl, bad (by rw [hxok, q1]; rfl) (by simp only [ss, hps, Nat.reduceEqDiff, Nat.reduceLT, Nat.reduceAdd, Nat.reduceLeDiff, Int.reduceLT, Int.reduceLE, Int.reduceEq, reduceIte]), by rw [← k1]; exact hg2⟩
        by_cases q2 : x.cond = 0
        case neg =>
          simp only [ss, hps, Nat.reduceEqDiff, Nat.reduceLT, Nat.reduceAdd, Nat.reduceLeDiff, Int.reduceLT, Int.reduceLE, Int.reduceEq, reduceIte, h7, h0, h1, h2, hia, Nd.cells, oa, ob, oc, la, lb, lc, rd62', h62, h27, eqflat_zero, k1, q1, q2]
          exact fun _ => ⟨rfl, bad (by rw [hxok, q1]; simp [q2]) (by simp only [ss, hps, Nat.reduceEqDiff, Nat.reduceLT, Nat.reduceAdd, Nat.reduceLeDiff, Int.reduceLT, Int.reduceLE, Int.reduceEq, reduceIte]), by rw [← k1]; exact hg2⟩
        by_cases q3 : (0 : Int) < x.ahead.length + x.body.length + x.els.length
        · simp only [ss, hps, Nat.reduceEqDiff, Nat.reduceLT, Nat.reduceAdd, Nat.reduceLeDiff, Int.reduceLT, Int.reduceLE, Int.reduceEq, reduceIte, h7, h0, h1, h2, hia, Nd.cells, oa, ob, oc, la, lb, lc, rd62', h62, h27, eqflat_zero, k1, q1, q2, w1, w2, q3]
          exact fun _ => ⟨rfl, bad (by rw [hxok, q1, decide_eq_true q2, decide_eq_false (show ¬ x.ahead.length + x.body.length + x.els.length = 0 by omega)]; rfl) (by simp only [ss, hps, Nat.reduceEqDiff, Nat.reduceLT, Nat.reduceAdd, Nat.reduceLeDiff, Int.reduceLT, Int.reduceLE, Int.reduceEq, reduceIte]), by rw [← k1, ← q2]; exact hg2⟩
        · simp only [ss, hps, Nat.reduceEqDiff, Nat.reduceLT, Nat.reduceAdd, Nat.reduceLeDiff, Int.reduceLT, Int.reduceLE, Int.reduceEq, reduceIte, h7, h0, h1, h2, hia, Nd.cells, oa, ob, oc, la, lb, lc, rd62', h62, h27, eqflat_zero, k1, q1, q2, w1, w2, q3]
          exact sat_again (m - 1) (by omega) ⟨i + 1, by omega, by simp only [ss, hps, Nat.reduceEqDiff, Nat.reduceLT, Nat.reduceAdd, Nat.reduceLeDiff, Int.reduceLT, Int.reduceLE, Int.reduceEq, reduceIte, w3], hstep (by rw [hxok, q1, decide_eq_true q2, decide_eq_true (show x.ahead.length + x.body.length + x.els.length = 0 by omega)]; rfl), by rw [← k1, ← q2]; exact hg2⟩
      rw [if_neg k1] at hxok
      have w4 : IntKind.i64.wrap ((deep : Int) + 1) = ((deep + 1 : Nat) : Int) := by rw [wrap_i64 (by omega) (by omega)]; simp
      have ra := fun hh => rd27 (vars := vars) (deep := deep + 1) hat.ahead sa (by omega) hrv hh
      have rb := fun hh => rd27 (vars := vars) (deep := deep + 1) hat.body sb (by omega) hrv hh
      have rc := fun hh => rd27 (vars := vars) (deep := deep + 1) hat.els sc (by omega) hrv hh
      by_cases k2 : x.kind = 2
      · rw [if_pos (by omega)] at hxok
        by_cases q1 : x.ins = zeroIns
        case neg =>
          have q1' := decide_eq_false q1
          simp only [ss, hps, Nat.reduceEqDiff, Nat.reduceLT, Nat.reduceAdd, Nat.reduceLeDiff, Int.reduceLT, Int.reduceLE, Int.reduceEq, reduceIte, h7, h0, h1, h2, hia, Nd.cells, oa, ob, oc, la, lb, lc, rd62', h62, h27, eqflat_zero, k1, k2, w3, w4, ra, rb, rc, q1']
          exact fun _ => ⟨rfl, bad (by rw [hxok, q1']; simp) (by simp only [ss, hps, Nat.reduceEqDiff, Nat.reduceLT, Nat.reduceAdd, Nat.reduceLeDiff, Int.reduceLT, Int.reduceLE, Int.reduceEq, reduceIte]), by rw [← k2]; exact hg2⟩
        have q1' := decide_eq_true q1
        by_cases q2 : x.cond < 0
        · have q2' : decide (0 ≤ x.cond) = false := decide_eq_false (by omega)
          simp only [ss, hps, Nat.reduceEqDiff, Nat.reduceLT, Nat.reduceAdd, Nat.reduceLeDiff, Int.reduceLT, Int.reduceLE, Int.reduceEq, reduceIte, h7, h0, h1, h2, hia, Nd.cells, oa, ob, oc, la, lb, lc, rd62', h62, h27, eqflat_zero, k1, k2, w3, w4, ra, rb, rc, q1', q2]
          exact fun _ => ⟨rfl, bad (by rw [hxok, q2']; simp) (by simp only [ss, hps, Nat.reduceEqDiff, Nat.reduceLT, Nat.reduceAdd, Nat.reduceLeDiff, Int.reduceLT, Int.reduceLE, Int.reduceEq, reduceIte]), by rw [← k2]; exact hg2⟩
        have q2' : decide (0 ≤ x.cond) = true := decide_eq_true (by omega)
        by_cases q3 : vars ≤ x.cond
        · have q3' : decide (x.cond < vars) = false := decide_eq_false (by omega)
          simp only [ss, hps, Nat.reduceEqDiff, Nat.reduceLT, Nat.reduceAdd, Nat.reduceLeDiff, Int.reduceLT, Int.reduceLE, Int.reduceEq, reduceIte, h7, h0, h1, h2, hia, Nd.cells, oa, ob, oc, la, lb, lc, rd62', h62, h27, eqflat_zero, k1, k2, w3, w4, ra, rb, rc, q1', q2, q3]
          exact fun _ => ⟨rfl, bad (by rw [hxok, q3']; simp) (by simp only [ss, hps, Nat.reduceEqDiff, Nat.reduceLT, Nat.reduceAdd, Nat.reduceLeDiff, Int.reduceLT, Int.reduceLE, Int.reduceEq, reduceIte]), by rw [← k2]; exact hg2⟩
        have q3' : decide (x.cond < vars) = true := decide_eq_true (by omega)
        have q4' : (decide (x.kind ≠ 3) || decide (x.els.length = 0)) = true := by rw [decide_eq_true (show x.kind ≠ 3 by omega)]; simp
        cases q5 : okL vars (deep + 1) x.ahead
        · simp only [ss, hps, Nat.reduceEqDiff, Nat.reduceLT, Nat.reduceAdd, Nat.reduceLeDiff, Int.reduceLT, Int.reduceLE, Int.reduceEq, reduceIte, h7, h0, h1, h2, hia, Nd.cells, oa, ob, oc, la, lb, lc, rd62', h62, h27, eqflat_zero, k1, k2, w3, w4, ra, rb, rc, q1', q2, q3, q5]
          exact fun _ => ⟨rfl, bad (by rw [hxok, q5]; simp) (by simp only [ss, hps, Nat.reduceEqDiff, Nat.reduceLT, Nat.reduceAdd, Nat.reduceLeDiff, Int.reduceLT, Int.reduceLE, Int.reduceEq, reduceIte]), by rw [← k2]; exact hg2⟩
        cases q6 : okL vars (deep + 1) x.body
        · simp only [ss, hps, Nat.reduceEqDiff, Nat.reduceLT, Nat.reduceAdd, Nat.reduceLeDiff, Int.reduceLT, Int.reduceLE, Int.reduceEq, reduceIte, h7, h0, h1, h2, hia, Nd.cells, oa, ob, oc, la, lb, lc, rd62', h62, h27, eqflat_zero, k1, k2, w3, w4, ra, rb, rc, q1', q2, q3, q5, q6]
          exact fun _ => ⟨rfl, bad (by rw [hxok, q6]; simp) (by simp only [ss, hps, Nat.reduceEqDiff, Nat.reduceLT, Nat.reduceAdd, Nat.reduceLeDiff, Int.reduceLT, Int.reduceLE, Int.reduceEq, reduceIte]), by rw [← k2]; exact hg2⟩
        cases q7 : okL vars (deep + 1) x.els
        · simp only [ss, hps, Nat.reduceEqDiff, Nat.reduceLT, Nat.reduceAdd, Nat.reduceLeDiff, Int.reduceLT, Int.reduceLE, Int.reduceEq, reduceIte, h7, h0, h1, h2, hia, Nd.cells, oa, ob, oc, la, lb, lc, rd62', h62, h27, eqflat_zero, k1, k2, w3, w4, ra, rb, rc, q1', q2, q3, q5, q6, q7]
          exact fun _ => ⟨rfl, bad (by rw [hxok, q7]; simp) (by simp only [ss, hps, Nat.reduceEqDiff, Nat.reduceLT, Nat.reduceAdd, Nat.reduceLeDiff, Int.reduceLT, Int.reduceLE, Int.reduceEq, reduceIte]), by rw [← k2]; exact hg2⟩
        simp only [ss, hps, Nat.reduceEqDiff, Nat.reduceLT, Nat.reduceAdd, Nat.reduceLeDiff, Int.reduceLT, Int.reduceLE, Int.reduceEq, reduceIte, h7, h0, h1, h2, hia, Nd.cells, oa, ob, oc, la, lb, lc, rd62', h62, h27, eqflat_zero, k1, k2, w3, w4, ra, rb, rc, q1', q2, q3, q5, q6, q7]
        exact sat_again (m - 1) (by omega) ⟨i + 1, by omega, by simp only [ss, hps, Nat.reduceEqDiff, Nat.reduceLT, Nat.reduceAdd, Nat.reduceLeDiff, Int.reduceLT, Int.reduceLE, Int.reduceEq, reduceIte, w3], hstep (by rw [hxok, q1', q2', q3', q4', q5, q6, q7]; rfl), by rw [← k2]; exact hg2⟩
      by_cases k3 : x.kind = 3
      · rw [if_pos (by omega)] at hxok
        by_cases q1 : x.ins = zeroIns
        case neg =>
          have q1' := decide_eq_false q1
          simp only [ss, hps, Nat.reduceEqDiff, Nat.reduceLT, Nat.reduceAdd, Nat.reduceLeDiff, Int.reduceLT, Int.reduceLE, Int.reduceEq, reduceIte, h7, h0, h1, h2, hia, Nd.cells, oa, ob, oc, la, lb, lc, rd62', h62, h27, eqflat_zero, k1, k2, k3, w3, w4, ra, rb, rc, q1']
          exact fun _ => ⟨rfl, bad (by rw [hxok, q1']; simp) (by simp only [ss, hps, Nat.reduceEqDiff, Nat.reduceLT, Nat.reduceAdd, Nat.reduceLeDiff, Int.reduceLT, Int.reduceLE, Int.reduceEq, reduceIte]), by rw [← k3]; exact hg2⟩
        have q1' := decide_eq_true q1
        by_cases q2 : x.cond < 0
        · have q2' : decide (0 ≤ x.cond) = false := decide_eq_false (by omega)
          simp only [ss, hps, Nat.reduceEqDiff, Nat.reduceLT, Nat.reduceAdd, Nat.reduceLeDiff, Int.reduceLT, Int.reduceLE, Int.reduceEq, reduceIte, h7, h0, h1, h2, hia, Nd.cells, oa, ob, oc, la, lb, lc, rd62', h62, h27, eqflat_zero, k1, k2, k3, w3, w4, ra, rb, rc, q1', q2]
          exact fun _ => ⟨rfl, bad (by rw [hxok, q2']; simp) (by simp only [ss, hps, Nat.reduceEqDiff, Nat.reduceLT, Nat.reduceAdd, Nat.reduceLeDiff, Int.reduceLT, Int.reduceLE, Int.reduceEq, reduceIte]), by rw [← k3]; exact hg2⟩
        have q2' : decide (0 ≤ x.cond) = true := decide_eq_true (by omega)
        by_cases q3 : vars ≤ x.cond
        · have q3' : decide (x.cond < vars) = false := decide_eq_false (by omega)
          simp only [ss, hps, Nat.reduceEqDiff, Nat.reduceLT, Nat.reduceAdd, Nat.reduceLeDiff, Int.reduceLT, Int.reduceLE, Int.reduceEq, reduceIte, h7, h0, h1, h2, hia, Nd.cells, oa, ob, oc, la, lb, lc, rd62', h62, h27, eqflat_zero, k1, k2, k3, w3, w4, ra, rb, rc, q1', q2, q3]
          exact fun _ => ⟨rfl, bad (by rw [hxok, q3']; simp) (by simp only [ss, hps, Nat.reduceEqDiff, Nat.reduceLT, Nat.reduceAdd, Nat.reduceLeDiff, Int.reduceLT, Int.reduceLE, Int.reduceEq, reduceIte]), by rw [← k3]; exact hg2⟩
        have q3' : decide (x.cond < vars) = true := decide_eq_true (by omega)
        by_cases q4 : (0 : Int) < x.els.length
        · have q4' : (decide (x.kind ≠ 3) || decide (x.els.length = 0)) = false := by rw [decide_eq_false (show ¬ x.kind ≠ 3 by omega), decide_eq_false (show ¬ x.els.length = 0 by omega)]; rfl
          simp only [ss, hps, Nat.reduceEqDiff, Nat.reduceLT, Nat.reduceAdd, Nat.reduceLeDiff, Int.reduceLT, Int.reduceLE, Int.reduceEq, reduceIte, h7, h0, h1, h2, hia, Nd.cells, oa, ob, oc, la, lb, lc, rd62', h62, h27, eqflat_zero, k1, k2, k3, w3, w4, ra, rb, rc, q1', q2, q3, q4]
          exact fun _ => ⟨rfl, bad (by rw [hxok, q4']; simp) (by simp only [ss, hps, Nat.reduceEqDiff, Nat.reduceLT, Nat.reduceAdd, Nat.reduceLeDiff, Int.reduceLT, Int.reduceLE, Int.reduceEq, reduceIte]), by rw [← k3]; exact hg2⟩
        have q4' : (decide (x.kind ≠ 3) || decide (x.els.length = 0)) = true := by rw [decide_eq_true (show x.els.length = 0 by omega)]; simp
        cases q5 : okL vars (deep + 1) x.ahead
        · simp only [ss, hps, Nat.reduceEqDiff, Nat.reduceLT, Nat.reduceAdd, Nat.reduceLeDiff, Int.reduceLT, Int.reduceLE, Int.reduceEq, reduceIte, h7, h0, h1, h2, hia, Nd.cells, oa, ob, oc, la, lb, lc, rd62', h62, h27, eqflat_zero, k1, k2, k3, w3, w4, ra, rb, rc, q1', q2, q3, q4, q5]
          exact fun _ => ⟨rfl, bad (by rw [hxok, q5]; simp) (by simp only [ss, hps, Nat.reduceEqDiff, Nat.reduceLT, Nat.reduceAdd, Nat.reduceLeDiff, Int.reduceLT, Int.reduceLE, Int.reduceEq, reduceIte]), by rw [← k3]; exact hg2⟩
        cases q6 : okL vars (deep + 1) x.body
        · simp only [ss, hps, Nat.reduceEqDiff, Nat.reduceLT, Nat.reduceAdd, Nat.reduceLeDiff, Int.reduceLT, Int.reduceLE, Int.reduceEq, reduceIte, h7, h0, h1, h2, hia, Nd.cells, oa, ob, oc, la, lb, lc, rd62', h62, h27, eqflat_zero, k1, k2, k3, w3, w4, ra, rb, rc, q1', q2, q3, q4, q5, q6]
          exact fun _ => ⟨rfl, bad (by rw [hxok, q6]; simp) (by simp only [ss, hps, Nat.reduceEqDiff, Nat.reduceLT, Nat.reduceAdd, Nat.reduceLeDiff, Int.reduceLT, Int.reduceLE, Int.reduceEq, reduceIte]), by rw [← k3]; exact hg2⟩
        cases q7 : okL vars (deep + 1) x.els
        · simp only [ss, hps, Nat.reduceEqDiff, Nat.reduceLT, Nat.reduceAdd, Nat.reduceLeDiff, Int.reduceLT, Int.reduceLE, Int.reduceEq, reduceIte, h7, h0, h1, h2, hia, Nd.cells, oa, ob, oc, la, lb, lc, rd62', h62, h27, eqflat_zero, k1, k2, k3, w3, w4, ra, rb, rc, q1', q2, q3, q4, q5, q6, q7]
          exact fun _ => ⟨rfl, bad (by rw [hxok, q7]; simp) (by simp only [ss, hps, Nat.reduceEqDiff, Nat.reduceLT, Nat.reduceAdd, Nat.reduceLeDiff, Int.reduceLT, Int.reduceLE, Int.reduceEq, reduceIte]), by rw [← k3]; exact hg2⟩
        simp only [ss, hps, Nat.reduceEqDiff, Nat.reduceLT, Nat.reduceAdd, Nat.reduceLeDiff, Int.reduceLT, Int.reduceLE, Int.reduceEq, reduceIte, h7, h0, h1, h2, hia, Nd.cells, oa, ob, oc, la, lb, lc, rd62', h62, h27, eqflat_zero, k1, k2, k3, w3, w4, ra, rb, rc, q1', q2, q3, q4, q5, q6, q7]
        exact sat_again (m - 1) (by omega) ⟨i + 1, by omega, by simp only [ss, hps, Nat.reduceEqDiff, Nat.reduceLT, Nat.reduceAdd, Nat.reduceLeDiff, Int.reduceLT, Int.reduceLE, Int.reduceEq, reduceIte, w3], hstep (by rw [hxok, q1', q2', q3', q4', q5, q6, q7]; rfl), by rw [← k3]; exact hg2⟩
      rw [if_neg (by omega)] at hxok
      simp only [ss, hps, Nat.reduceEqDiff, Nat.reduceLT, Nat.reduceAdd, Nat.reduceLeDiff, Int.reduceLT, Int.reduceLE, Int.reduceEq, reduceIte, h7, h0, h1, h2, hia, Nd.cells, oa, ob, oc, la, lb, lc, rd62', h62, h27, eqflat_zero, k1, k2, k3]
      exact fun _ => ⟨rfl, bad hxok (by simp only [ss, hps, Nat.reduceEqDiff, Nat.reduceLT, Nat.reduceAdd, Nat.reduceLeDiff, Int.reduceLT, Int.reduceLE, Int.reduceEq, reduceIte]), hg2⟩
    · have hge : i = l.length := by omega
      subst hge
      refine sat_brk fun hf2 => sat_next (sat_seq ?_)
      simp only [ss, hps, Nat.reduceEqDiff, Nat.reduceLT, Nat.reduceAdd, Nat.reduceLeDiff, Int.reduceLT, Int.reduceLE, Int.reduceEq, reduceIte]
      refine sat_next (sat_ret ⟨rfl, ?_, hg⟩)
      simp only [ss, hps, Nat.reduceEqDiff, Nat.reduceLT, Nat.reduceAdd, Nat.reduceLeDiff, Int.reduceLT, Int.reduceLE, Int.reduceEq, reduceIte]
      have : okL vars deep l = true := by
        unfold okL topOk
        rw [decide_eq_true (show deep ≤ 65 by omega), (okAll_iff vars deep l).2 fun x hx => ?_]
        · simp
        · obtain ⟨j, hj, rfl⟩ := List.getElem_of_mem hx
          exact hgood j l[j] hj (by simp [hj])
      rw [this]
theorem s27 : ∀ k, Sim Tryz.prog 27 (rd (g27 k))
  | 0 => Sim.fail_of 27 fun args h => by
    unfold rd g27; split <;> simp [decNds, okO]
  | k + 1 => by
    refine Sim.rd ⟨Tryz.f27, Tryz.func27, rfl, by decide⟩ fun args v h hg => ?_
    unfold g27 at hg
    split at hg
    case h_2 => cases hg
    rename_i u vars deep
    split at hg
    case h_2 => cases hg
    rename_i l hv
    split at hg
    case isFalse => cases hg
    rename_i hc
    cases hg
    obtain ⟨n, rfl⟩ : ∃ n : Nat, deep = n := ⟨deep.toNat, by omega⟩
    have hb := b27 k u l vars n h hv hc.1 (by omega) hc.2.2.2 (ocons 27 (rd (g27 k)) (ocons 62 (rd g62) onil)) rfl rfl
    obtain ⟨h2, h3, h4⟩ := rd_done rfl rfl rfl (by decide) hb rfl
    exact ⟨_, body_sim (ocons_sim (s27 k) (ocons_sim s62 onil_sim)) cc27 (l.length + 2), h2, h3, h4, fun _ => rfl⟩
end Go.Proofs.YtadeojgiiapljaaGreat.Im
namespace Go.Proofs.YtadeojgiiapljaaGreat.Im
open Go
set_option maxHeartbeats 8000000
def mayB (f : FlatT) : Bool := decide (HeadOk f) && decide (cntL f.code ≤ 16384) && okL f.vars 1 f.code
theorem rd26 {f : FlatT} {p r : IV} (hp : decInts .i64 p = some f.params) (hr : decInts .i64 r = some f.rets) (sp : f.params.length < 4000000) (sr : f.rets.length < 4000000) (h : IHeap) : rd g26 [.int .i64 f.vars, p, r, .int .i64 f.frame] h = .ok (.bool (decide (HeadOk f))) h := by
  simp only [rd, g26, hp, hr]
  rw [if_pos ⟨sp, sr⟩]; rfl
def g6 (k : Nat) : List IV → Option IV
  | [v] => (decFlat k v).map fun f => .bool (mayB f)
  | _ => none
theorem b6 {k : Nat} {O : Orc} (h26 : O 26 = rd g26) (h25 : O 25 = rd (g25 k)) (h27 : O 27 = rd (g27 k)) {v : IV} {f : FlatT} (hv : decFlat k v = some f) {h : IHeap} : ∃ h2, bodyI T0 O 0 ic6 [v] h = .ok (.bool (mayB f)) h2 ∧ Grow h h2 := by
  obtain ⟨p, r, c, rfl, hat⟩ := decFlat_some hv
  refine ⟨h.push (.row [.int .i64 f.vars, p, r, .int .i64 f.frame, c]), ?_, Grow.push _ _⟩
  rw [body_eq rfl rfl rfl (by decide)]
  have op := decInts_one hat.params
  have or := decInts_one hat.rets
  have oc := dec_one hat.code
  have r26 := fun hh => rd26 hat.params hat.rets hat.sp hat.sr hh
  have r25 := fun hh => rd25 hat.code hat.sm hh
  have r27 : ∀ hh, rd (g27 k) [c, .int .i64 f.vars, .int .i64 1] hh = .ok (.bool (okL f.vars 1 f.code)) hh := fun hh => rd27 (deep := 1) hat.code hat.sm (by omega) hat.rv hh
  have e1 : ((cntL f.code : Int) ≤ 16384) = (cntL f.code ≤ 16384) := by simp; omega
  cases q1 : decide (HeadOk f)
  · simp only [ss, hps, Nat.reduceEqDiff, Nat.reduceLT, Nat.reduceAdd, Nat.reduceLeDiff, Int.reduceLT, Int.reduceLE, Int.reduceEq, reduceIte, ic6, mayB, op, or, oc, h26, h25, h27, r26, r25, r27, rowIf_ok, q1]
  by_cases q2 : cntL f.code ≤ 16384
  case neg => simp only [ss, hps, Nat.reduceEqDiff, Nat.reduceLT, Nat.reduceAdd, Nat.reduceLeDiff, Int.reduceLT, Int.reduceLE, Int.reduceEq, reduceIte, ic6, mayB, op, or, oc, h26, h25, h27, r26, r25, r27, rowIf_ok, q1, e1, q2]
  simp only [ss, hps, Nat.reduceEqDiff, Nat.reduceLT, Nat.reduceAdd, Nat.reduceLeDiff, Int.reduceLT, Int.reduceLE, Int.reduceEq, reduceIte, ic6, mayB, op, or, oc, h26, h25, h27, r26, r25, r27, rowIf_ok, q1, e1, q2]
theorem s6 (k : Nat) : Sim Tryz.prog 6 (rd (g6 k)) := by
  refine Sim.rd ⟨Tryz.f6, Tryz.func6, rfl, by decide⟩ fun args v h hg => ?_
  unfold g6 at hg
  split at hg
  · simp only [Option.map_eq_some_iff] at hg
    obtain ⟨f, hf, rfl⟩ := hg
    obtain ⟨h2, h3, h4⟩ := b6 (k := k) (O := ocons 26 (rd g26) (ocons 25 (rd (g25 k)) (ocons 27 (rd (g27 k)) onil))) rfl rfl rfl hf
    exact ⟨_, body_sim (ocons_sim s26 (ocons_sim (s25' k) (ocons_sim (s27 k) onil_sim))) cc6 0, _, h3, h4, fun _ => rfl⟩
  · cases hg
end Go.Proofs.YtadeojgiiapljaaGreat.Im
