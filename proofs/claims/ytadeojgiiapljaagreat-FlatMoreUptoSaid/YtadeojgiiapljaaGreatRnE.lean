/- flat.Run: up to the list. -/
import Derived.Test.YtadeojgiiapljaaGreatIcA
import Derived.Test.YtadeojgiiapljaaGreatIcB
import Derived.Test.YtadeojgiiapljaaGreatRnD
set_option linter.unusedSimpArgs false
set_option linter.unusedVariables false
namespace Go.Proofs.YtadeojgiiapljaaGreat.Im
open Go
set_option maxHeartbeats 1000000
noncomputable def O9 (k : Nat) : Orc := ocons 37 (G37 k) (ocons 38 G38 (ocons 40 (G40 k) onil))
def T9 : FuncId → Option IFunc := fun f => bif Nat.beq f 39 then some ic39 else none
theorem T9_ok : ∀ f F, T9 f = some F → Compiled Tryz.prog f F := by
  intro f F h
  unfold T9 at h
  cases hb : Nat.beq f 39
  · rw [hb] at h; cases h
  · rw [hb] at h; cases h
    have := Nat.eq_of_beq_eq_true hb
    subst this; exact cc39
noncomputable def G9 (k : Nat) : List IV → M IV := bodyI T9 (O9 k) 4000010 ic9
/-- The words at a run's start. -/
def initV (n : Nat) (ps as_ : List Int) : Nat → List Int
  | 0 => List.replicate n 0
  | i + 1 => (initV n ps as_ i).set (ps.getD i 0).toNat (as_.getD i 0)
theorem initV_len (n : Nat) (ps as_ : List Int) : ∀ i, (initV n ps as_ i).length = n
  | 0 => List.length_replicate
  | i + 1 => by simp [initV, initV_len n ps as_ i]
def wordsN (f : FlatT) : Nat := max f.vars.toNat 1
def startS (f : FlatT) (as_ bs : List Int) : St := ⟨initV (wordsN f) f.params as_ f.params.length, bs, 0⟩
theorem flat_reps (n : Nat) : (List.replicate n [IV.int .u64 0]).flatten = (List.replicate n (0 : Int)).map u64v := by
  induction n with
  | zero => rfl
  | succ n ih => rw [List.replicate_succ, List.flatten_cons, ih]; rfl
theorem RSt.set_vs {x : Cx} {h : IHeap} {s : St} {e : Int} (a : RSt x h s e) (hn : 0 < x.n) {vs : List Int} (hl : vs.length = x.n) : RSt x (h.set x.vb (.row (vs.map u64v))) ⟨vs, s.bs, s.steps⟩ e :=
  ⟨by rw [get_set_ne a.rv]; exact a.r, get_set_same a.v, hl, a.m.stay (get_set_ne a.vmb.symm) (get_set_ne (a.vbb hn).symm) (StrStay.set a.v (no_str_u64 _) _)⟩
/-- Words that are given back. -/
def RetIn (h : IHeap) (n0 : Nat) (rv : IV) (ws : List Int) : Prop := (rv = .nils ∧ ws = []) ∨ ∃ b, rv = .aslice b 0 ws.length 1 ∧ n0 ≤ b ∧ h.get b = some (.row (ws.map u64v))
theorem RetIn.one {h : IHeap} {n0 : Nat} {rv : IV} {ws : List Int} (r : RetIn h n0 rv ws) : rv.one = true := by
  rcases r with ⟨rfl, _⟩ | ⟨b, rfl, _⟩ <;> rfl
theorem RetIn.mono {h h' : IHeap} {n0 n1 : Nat} {rv : IV} {ws : List Int} (r : RetIn h n0 rv ws) (hn : n1 ≤ n0) (hs : ∀ b, n0 ≤ b → b < h.n → (∃ cs, h.get b = some (.row cs)) → h'.get b = h.get b) : RetIn h' n1 rv ws := by
  rcases r with h1 | ⟨b, e, hb, hg⟩
  · exact .inl h1
  · exact .inr ⟨b, e, by omega, (hs b hb (get_lt hg) ⟨_, hg⟩).trans hg⟩
theorem ret_app {h : IHeap} {n0 : Nat} {rv : IV} {ws : List Int} {w : Int} (r : RetIn h n0 rv ws) (hw : ws.length ≤ 1000000) (hn : n0 ≤ h.n) :
    ∃ rv' h', appendI 1 8 rv (.slice h.n 0 1 1) (h.push (.row [.int .u64 w])) = .ok rv' h' ∧ RetIn h' n0 rv' (ws ++ [w]) ∧ (∀ b, b < n0 → h'.get b = h.get b) ∧ h.n ≤ h'.n := by
  have e1 : Im.loadN (h.push (.row [.int .u64 w])) (.ptr h.n 0) (1 * 1) = some [.int .u64 w] := by
    rw [loadN_ptr, get_push_new]; rfl
  rcases r with ⟨rfl, rfl⟩ | ⟨b, rfl, hb, hg⟩
  · refine ⟨.aslice (h.n + 1) 0 1 1, (h.push (.row [.int .u64 w])).push (.row [.int .u64 w]), ?_, .inr ⟨h.n + 1, rfl, by omega, by simp [get_push_eq, u64v]⟩, fun b hb => ?_, by simp; omega⟩
    · simp only [appendI, sliceLen, sliceCells, e1]
      simp [IV.one]
    · rw [get_push_old (by simp; omega), get_push_old (by omega)]
  · have hlt := get_lt hg
    have e2 : Im.loadN (h.push (.row [.int .u64 w])) (.ptr b 0) (ws.length * 1) = some (ws.map u64v) := by
      rw [loadN_ptr, get_push_old hlt, hg, Option.bind_some, rowN_row, subL_ok (by simp)]
      simp [List.take_of_length_le]
    refine ⟨.aslice (h.n + 1) 0 (ws.length + 1) 1, ((h.push (.row [.int .u64 w])).set b .dead).push (.row (ws.map u64v ++ [.int .u64 w])), ?_, .inr ⟨h.n + 1, by simp, by omega, ?_⟩, fun c hc => ?_, by simp; omega⟩
    · have e4 : ¬ ((ws.length + 1) * 8 > 2 ^ 45) := by omega
      have e5 : ¬ (ws.length + 1 > 2 ^ 45) := by omega
      simp only [appendI, sliceLen, sliceCells, e1, e2, e4, e5]
      simp [IV.one]
    · have : ((h.push (.row [.int .u64 w])).set b .dead).n = h.n + 1 := rfl
      rw [← this, get_push_new]; simp [u64v]
    · rw [get_push_old (by simp; omega), get_set_ne (by omega), get_push_old (by omega)]
/-- What is leaked, with its slice. -/
structure LkV (h : IHeap) (n0 : Nat) (lb : Option Nat) (cs : List IV) (L : List RL) : Prop where
  row : ∀ b, lb = some b → h.get b = some (.row cs) ∧ n0 ≤ b
  none : lb = none → cs = []
  len : cs.length % 4 = 0
  lk : LkAt h (fun b => n0 ≤ b) cs L
def Fr9 (bb : Nat) (h h' : IHeap) : Prop := h.n ≤ h'.n ∧ ∀ b, b < h.n → b ≠ bb → h'.get b = h.get b
def Q9 (f : FlatT) (as_ bs : List Int) (regs : List Reg) (fuel bb : Nat) (h : IHeap) (y : IExit) (e : Env) (h' : IHeap) : Prop :=
  y = .ret ∧ ∃ sb rp tb, e.get DK = some (.func (.func 39) [] [.ptr sb 0, .ptr rp 0, .ptr tb 0]) ∧ e.get 10 = some (.ptr tb 0) ∧ e.get 11 = some (.int .i64 0) ∧
    ∃ o lb cs rv n1, o.en = none ∧ Run ⟨evalW, regs, 49152⟩ fuel (.lst f.code) (startS f as_ bs) o ∧ h'.get tb = some (.row [rv, vOf lb cs, .int .i64 o.st.steps, .int .i64 0]) ∧ RetIn h' h.n rv (f.rets.map o.st.v) ∧ LkV h' n1 lb cs o.L ∧ Fr9 bb h h' ∧ h.n ≤ n1 ∧ tb < n1
def X9 (f : FlatT) (as_ bs : List Int) (regs : List Reg) (fuel bb : Nat) (h : IHeap) (v : IV) (e : Env) (h' : IHeap) : Prop :=
  v = endV ∧ ∃ sb rp tb, e.get DK = some (.func (.func 39) [] [.ptr sb 0, .ptr rp 0, .ptr tb 0]) ∧ e.get 10 = some (.ptr tb 0) ∧ e.get 11 = some (.int .i64 0) ∧
    ∃ o lb cs rb vb n mb left n1, o.en ≠ none ∧ Run ⟨evalW, regs, 49152⟩ fuel (.lst f.code) (startS f as_ bs) o ∧ h'.get sb = some (.row [vOf lb cs]) ∧ h'.get rp = some (.row [.ptr rb 0]) ∧ h'.get rb = some (runRow vb n mb 49152 left o.st.steps (o.en.getD 0)) ∧
      h'.get tb = some (.row [.nils, .nils, .int .i64 0, .int .i64 0]) ∧ LkV h' n1 lb cs o.L ∧ Fr9 bb h h' ∧ h.n ≤ n1 ∧ tb < n1 ∧ h.n ≤ tb
theorem LkV.mono {h h' : IHeap} {n0 n1 : Nat} {lb : Option Nat} {cs : List IV} {L : List RL} (a : LkV h n1 lb cs L) (hn : n0 ≤ n1) (hs : ∀ b, n1 ≤ b → b < h.n → h'.get b = h.get b) : LkV h' n0 lb cs L :=
  ⟨fun b hb => ⟨(hs b (a.row b hb).2 (get_lt (a.row b hb).1)).trans (a.row b hb).1, by have := (a.row b hb).2; omega⟩, a.none, a.len, a.lk.mono fun b hb hlt => ⟨by omega, hs b hb hlt⟩⟩
theorem appK {O : Orc} {e : Env} {h : IHeap} : True := trivial
def rets9 : IC := match ic9.body with
  | .seq _ (.seq _ (.seq _ (.seq _ (.seq _ (.seq _ (.seq _ (.seq _ r))))))) => r
  | _ => .skip
theorem b9 {k : Nat} {p r c av : IV} {f : FlatT} {as_ bs : List Int} {mb bb fuel : Nat} {regs : List Reg} {h : IHeap} (hv : decFlat k (.agg [.int .i64 f.vars, p, r, .int .i64 f.frame, c]) = some f) (hat : FlatAt k f p r c) (hm : mayB f = true) (hk : k ≤ 1999999)
    (ha : decInts .u64 av = some as_) (hlen : as_.length = f.params.length) (hmem : MemR h mb bb bs regs) (hfu : fuel ≤ 1000000) :
    (ix (O9 k) 4000010 ic9.body (startI 0 [.agg [.int .i64 f.vars, p, r, .int .i64 f.frame, c], av, .ptr mb 0, .int .u64 49152, .int .i64 fuel]) h).sat (Q9 f as_ bs regs fuel bb h) (X9 f as_ bs regs fuel bb h) := by
  have op := decInts_one hat.params
  have or := decInts_one hat.rets
  have oc := dec_one hat.code
  have lp := decInts_len hat.params
  have lr := decInts_len hat.rets
  have la := decInts_len ha
  have o37 : O9 k 37 = G37 k := rfl
  have o38 : O9 k 38 = G38 := rfl
  have o40 : O9 k 40 = G40 k := rfl
  have hm' := hm
  simp only [mayB, Bool.and_eq_true, decide_eq_true_eq] at hm'
  obtain ⟨⟨⟨⟨q1, q2, q3, q4, q5, q6⟩, hpar, hnd, hret⟩, hcnt⟩, hok⟩ := hm'
  have gA : Grow h ((h.push (.row [.int .i64 f.vars, p, r, .int .i64 f.frame, c])).push (.row [.nils, .nils, .int .i64 0, .int .i64 0])) := (Grow.push _ _).trans (Grow.push _ _)
  unfold ic9
  simp only [start_cons, start_nil]
  refine sat_seq ?_
  simp only [ss, hps, Nat.reduceEqDiff, Nat.reduceLT, Nat.reduceAdd, Nat.reduceLeDiff, Int.reduceLT, Int.reduceLE, Int.reduceEq, reduceIte, rowIf_ok, op, or, oc]
  have hx1 : ((h.push (.row [.int .i64 f.vars, p, r, .int .i64 f.frame, c])).push (.row [.nils, .nils, .int .i64 0, .int .i64 0])).get h.n = some (.row [.int .i64 f.vars, p, r, .int .i64 f.frame, c]) := by simp [get_push_eq]
  have ht1 : ((h.push (.row [.int .i64 f.vars, p, r, .int .i64 f.frame, c])).push (.row [.nils, .nils, .int .i64 0, .int .i64 0])).get (h.n + 1) = some (.row [.nils, .nils, .int .i64 0, .int .i64 0]) := by simp [get_push_eq]
  generalize (h.push (.row [.int .i64 f.vars, p, r, .int .i64 f.frame, c])).push (.row [.nils, .nils, .int .i64 0, .int .i64 0]) = h1 at *
  obtain ⟨h2, r37, g2⟩ := G37_at hv hm hk h1
  obtain ⟨sbk, h3, r38, g3⟩ := G38_at (hmem.grow (gA.trans g2))
  have hx2 := g2.get hx1
  have gB := (gA.trans g2).trans g3
  have hx3 := g3.get hx2
  have ht3 := (g2.trans g3).get ht1
  refine sat_next (sat_seq (sat_seq ?_))
  have m16 : ∀ x : Int, binI .rem (.int .u64 x) (.int .u64 16) = some (.int .u64 (x.tmod 16)) := fun x => bin_rem16 _ _
  have t16 : (49152 : Int).tmod 16 = 0 := rfl
  have c1 : ((as_.length : Int) = (f.params.length : Int)) = True := by simp [hlen]
  have c2 : ((fuel : Int) < 0) = False := eq_false (by omega)
  have c3 : ((1000000 : Int) < (fuel : Int)) = False := eq_false (by omega)
  have c4 : (((16384 : Nat) : Int) = 0) = False := eq_false (by omega)
  simp only [ss, hps, Nat.reduceEqDiff, Nat.reduceLT, Nat.reduceAdd, Nat.reduceLeDiff, Int.reduceLT, Int.reduceLE, Int.reduceEq, reduceIte, hx1, o37, r37, la, hx2, lp, c1, o38, r38, c4, m16, t16, c2, c3]
  refine sat_next (sat_condK ?_)
  simp only [ss, hps, Nat.reduceEqDiff, Nat.reduceLT, Nat.reduceAdd, Nat.reduceLeDiff, Int.reduceLT, Int.reduceLE, Int.reduceEq, reduceIte]
  refine sat_next (sat_seq ?_)
  have hN : (if (1 : Int) > f.vars then (1 : Int) else f.vars) = ((wordsN f : Nat) : Int) := by unfold wordsN; split <;> omega
  have hN2 : wordsN f ≤ 16384 := by unfold wordsN; omega
  have hcond : ((0 : Int) ≤ (wordsN f : Int) ∧ (wordsN f : Int) ≤ (wordsN f : Int) ∧ (wordsN f : Int) * ((8 : Nat) : Int) ≤ 2 ^ 45 ∧ (wordsN f : Int) ≤ 2 ^ 45) := ⟨by omega, by omega, by omega, by omega⟩
  have hcT := eq_true hcond
  simp only [ss, hps, Nat.reduceEqDiff, Nat.reduceLT, Nat.reduceAdd, Nat.reduceLeDiff, Int.reduceLT, Int.reduceLE, Int.reduceEq, reduceIte, hx3, mmV, hN, hcT, Int.toNat_natCast, flat_reps, rowIf_ok, setCells, set_push_at, cells_ptr, cells_sl]
  have m3 := (hmem.grow gB)
  have gC : Grow h3 (((h3.push (.row ((List.replicate (wordsN f) (0 : Int)).map u64v))).push (.row [.slice h3.n 0 (wordsN f) (wordsN f), .ptr mb 0, .int .u64 49152, .int .i64 fuel, .int .i64 0, .int .i64 0])).push (.row [.ptr (h3.n + 1) 0])) := ((Grow.push _ _).trans (Grow.push _ _)).trans (Grow.push _ _)
  have hn4 : (((h3.push (.row ((List.replicate (wordsN f) (0 : Int)).map u64v))).push (.row [.slice h3.n 0 (wordsN f) (wordsN f), .ptr mb 0, .int .u64 49152, .int .i64 fuel, .int .i64 0, .int .i64 0])).push (.row [.ptr (h3.n + 1) 0])).n = h3.n + 3 := rfl
  have hv4 : (((h3.push (.row ((List.replicate (wordsN f) (0 : Int)).map u64v))).push (.row [.slice h3.n 0 (wordsN f) (wordsN f), .ptr mb 0, .int .u64 49152, .int .i64 fuel, .int .i64 0, .int .i64 0])).push (.row [.ptr (h3.n + 1) 0])).get h3.n = some (.row ((List.replicate (wordsN f) (0 : Int)).map u64v)) := by simp [get_push_eq]; omega
  have hr4 : (((h3.push (.row ((List.replicate (wordsN f) (0 : Int)).map u64v))).push (.row [.slice h3.n 0 (wordsN f) (wordsN f), .ptr mb 0, .int .u64 49152, .int .i64 fuel, .int .i64 0, .int .i64 0])).push (.row [.ptr (h3.n + 1) 0])).get (h3.n + 1) = some (.row [.slice h3.n 0 (wordsN f) (wordsN f), .ptr mb 0, .int .u64 49152, .int .i64 fuel, .int .i64 0, .int .i64 0]) := by simp [get_push_eq]
  have hp4 : (((h3.push (.row ((List.replicate (wordsN f) (0 : Int)).map u64v))).push (.row [.slice h3.n 0 (wordsN f) (wordsN f), .ptr mb 0, .int .u64 49152, .int .i64 fuel, .int .i64 0, .int .i64 0])).push (.row [.ptr (h3.n + 1) 0])).get (h3.n + 1 + 1) = some (.row [.ptr (h3.n + 1) 0]) := by simp [get_push_eq]
  generalize ((h3.push (.row ((List.replicate (wordsN f) (0 : Int)).map u64v))).push (.row [.slice h3.n 0 (wordsN f) (wordsN f), .ptr mb 0, .int .u64 49152, .int .i64 fuel, .int .i64 0, .int .i64 0])).push (.row [.ptr (h3.n + 1) 0]) = h4 at *
  have n0 : 0 < wordsN f := by unfold wordsN; omega
  have st4 : RSt ⟨h3.n + 1, h3.n, wordsN f, mb, bb, fuel, regs, 49152⟩ h4 ⟨List.replicate (wordsN f) 0, bs, 0⟩ 0 := ⟨hr4, hv4, List.length_replicate, m3.grow gC⟩
  have hx4 := gC.get hx3
  have ht4 := gC.get ht3
  have lx3 := get_lt hx3
  have lt3 := get_lt ht3
  have hx4n : ∀ (vs : List Int), (h4.set h3.n (.row (vs.map u64v))).get h.n = some (.row [.int .i64 f.vars, p, r, .int .i64 f.frame, c]) := fun vs => by rw [get_set_ne (by omega)]; exact hx4
  refine sat_next (sat_seq (sat_seq ?_))
  simp only [ss, hps, Nat.reduceEqDiff, Nat.reduceLT, Nat.reduceAdd, Nat.reduceLeDiff, Int.reduceLT, Int.reduceLE, Int.reduceEq, reduceIte, hx4, lp]
  refine sat_next (sat_block (sat_loop (fun m e h' => ∃ i, i + m = f.params.length ∧ e.get 61 = some (.int .i64 i) ∧ h' = h4.set h3.n (.row ((initV (wordsN f) f.params as_ i).map u64v))) f.params.length (by have := hat.sp; omega) ?_ ?_))
  · refine ⟨0, by omega, by simp only [ss, hps, Nat.reduceEqDiff, Nat.reduceLT, Nat.reduceAdd, Nat.reduceLeDiff, Int.reduceLT, Int.reduceLE, Int.reduceEq, reduceIte]; rfl, ?_⟩
    exact (set_same hv4).symm
  · rintro m e h' ⟨i, hi, h61, hh⟩ hf
    have e1 := hf 1 rfl
    have e5 := hf 5 rfl
    have e10 := hf 10 rfl
    have e11 := hf 11 rfl
    have e12 := hf 12 rfl
    have e59 := hf 59 rfl
    have e60 := hf 60 rfl
    have eDK := hf DK rfl
    simp only [ss, hps, Nat.reduceEqDiff, Nat.reduceLT, Nat.reduceAdd, Nat.reduceLeDiff, Int.reduceLT, Int.reduceLE, Int.reduceEq, reduceIte, get_put, puto_some] at e1 e5 e10 e11 e12 e59 e60
    simp only [ss, hps, Nat.reduceEqDiff, Nat.reduceLT, Nat.reduceAdd, Nat.reduceLeDiff, Int.reduceLT, Int.reduceLE, Int.reduceEq, reduceIte, get_put, puto_some, DK] at eDK
    refine sat_seq ?_
    simp only [ss, hps, Nat.reduceEqDiff, Nat.reduceLT, Nat.reduceAdd, Nat.reduceLeDiff, Int.reduceLT, Int.reduceLE, Int.reduceEq, reduceIte, h61, e60]
    refine sat_next (sat_seq (sat_condK ?_))
    simp only [ss, hps, Nat.reduceEqDiff, Nat.reduceLT, Nat.reduceAdd, Nat.reduceLeDiff, Int.reduceLT, Int.reduceLE, Int.reduceEq, reduceIte]
    have st5 := st4.set_vs n0 (initV_len (wordsN f) f.params as_ i)
    simp only at st5
    rw [← hh] at st5
    refine sat_condD (fun hlt => ?_) (fun hge => ?_)
    · have hlt : i < f.params.length := by omega
      have hsp := hat.sp
      obtain ⟨x, hx⟩ := get_len hlt
      obtain ⟨w, hw⟩ := get_len (show i < as_.length by omega)
      obtain ⟨rest, hia⟩ := decInts_at hat.params hx
      obtain ⟨rest', hib⟩ := decInts_at ha hw
      have hxr := hpar x (mem_of_get hx)
      obtain ⟨j, rfl, hjn⟩ := nat_of (n := wordsN f) hxr.1 (by unfold wordsN; omega)
      have hjl : j < (initV (wordsN f) f.params as_ i).length := by rw [initV_len]; exact hjn
      have hle : j + 1 ≤ wordsN f := hjn
      have w3 : IntKind.i64.wrap ((i : Int) + 1) = ((i + 1 : Nat) : Int) := by rw [wrap_i64 (by omega) (by omega)]; simp
      have hp5 : h'.get (h3.n + 1 + 1) = some (.row [.ptr (h3.n + 1) 0]) := by rw [hh, get_set_ne (by omega)]; exact hp4
      have hr5 : h'.get (h3.n + 1) = some (.row [.slice h3.n 0 (wordsN f) (wordsN f), .ptr mb 0, .int .u64 49152, .int .i64 fuel, .int .i64 0, .int .i64 0]) := st5.r
      have hv5 := st5.v
      simp only at hv5
      refine sat_skip (sat_seq (sat_block (sat_seq ?_)))
      simp only [ss, hps, Nat.reduceEqDiff, Nat.reduceLT, Nat.reduceAdd, Nat.reduceLeDiff, Int.reduceLT, Int.reduceLE, Int.reduceEq, reduceIte, h61, e59, hia]
      refine sat_next ?_
      simp only [ss, hps, Nat.reduceEqDiff, Nat.reduceLT, Nat.reduceAdd, Nat.reduceLeDiff, Int.reduceLT, Int.reduceLE, Int.reduceEq, reduceIte, ds, e1, e12, hp5, hr5, nilchk_ptr, hib, hjn, hv5, List.length_map, initV_len, hle, setCells_v hjl]
      refine sat_blk (sat_next ?_)
      simp only [ss, hps, Nat.reduceEqDiff, Nat.reduceLT, Nat.reduceAdd, Nat.reduceLeDiff, Int.reduceLT, Int.reduceLE, Int.reduceEq, reduceIte, h61, w3]
      refine sat_again (m - 1) (by omega) ⟨i + 1, by omega, by simp only [ss, hps, Nat.reduceEqDiff, Nat.reduceLT, Nat.reduceAdd, Nat.reduceLeDiff, Int.reduceLT, Int.reduceLE, Int.reduceEq, reduceIte], ?_⟩
      have z1 : f.params.getD i 0 = (j : Int) := by simp [List.getD, hx]
      have z2 : as_.getD i 0 = w := by simp [List.getD, hw]
      rw [hh, set_set, initV, z1, z2]; rfl
    · have hge : i = f.params.length := by omega
      subst hge
      refine sat_brk fun _ => sat_next (sat_seq ?_)
      simp only [ss, hps, Nat.reduceEqDiff, Nat.reduceLT, Nat.reduceAdd, Nat.reduceLeDiff, Int.reduceLT, Int.reduceLE, Int.reduceEq, reduceIte]
      refine sat_next (sat_seq ?_)
      simp only [ss, hps, Nat.reduceEqDiff, Nat.reduceLT, Nat.reduceAdd, Nat.reduceLeDiff, Int.reduceLT, Int.reduceLE, Int.reduceEq, reduceIte, e10, e12, regI_defer, DK, eDK, deferK_fn]
      refine sat_next (sat_seq ?_)
      have hh'n : h'.n = h3.n + 3 := by rw [hh]; exact hn4
      have g6 := Grow.push h' (.row [IV.nils])
      have hx6 : (h'.push (.row [.nils])).get h.n = some (.row [.int .i64 f.vars, p, r, .int .i64 f.frame, c]) := by rw [get_push_old (by omega), hh]; exact hx4n _
      have ht6 : (h'.push (.row [.nils])).get (h.n + 1) = some (.row [.nils, .nils, .int .i64 0, .int .i64 0]) := by rw [get_push_old (by omega), hh, get_set_ne (by omega)]; exact ht4
      have hp6 : (h'.push (.row [.nils])).get (h3.n + 1 + 1) = some (.row [.ptr (h3.n + 1) 0]) := by rw [get_push_old (by omega), hh, get_set_ne (by omega)]; exact hp4
      have hs6 : (h'.push (.row [.nils])).get h'.n = some (.row [.nils]) := get_push_new
      have hn6 : (h'.push (.row [IV.nils])).n = h3.n + 4 := by show h'.n + 1 = _; omega
      have hfr6 : Grow h (h'.push (.row [.nils])) := by
        refine ⟨by have := gB.1; omega, fun b hb => ?_⟩
        have := gB.1
        rw [get_push_old (by omega), hh, get_set_ne (by omega), gC.2 b (by omega), gB.2 b hb]
      have mlt := hmem.bytes.1
      have bbl := get_lt hmem.bytes.1
      obtain ⟨um, hum⟩ := hmem.mrow
      have mbl := get_lt hum
      have hgBn := gB.1
      have lin : LIn ⟨h3.n + 1, h3.n, wordsN f, mb, bb, fuel, regs, 49152⟩ h'.n none [] (h'.push (.row [.nils])) (startS f as_ bs) 0 :=
        ⟨st5.grow g6, ⟨hs6, fun b hb => (by cases hb), fun _ => rfl, rfl⟩, ⟨⟨by simp only; omega, by simp only; omega, by simp only; omega, by simp only; omega⟩, fun b hb => (by cases hb)⟩, by simp, by simp, Nat.zero_le _, hfu, n0⟩
      generalize h'.push (.row [IV.nils]) = h6 at *
      simp only [okL, Bool.and_eq_true] at hok
      obtain ⟨o, h7, lb, cs, hp, hrun, hokk, hpn⟩ := listOk k ⟨h3.n + 1, h3.n, wordsN f, mb, bb, fuel, regs, 49152⟩ f.vars 1 f.code c (by show f.vars ≤ (wordsN f : Int); unfold wordsN; omega) hat.code ⟨hok.2, hat.sm⟩ h'.n none [] h6 (startS f as_ bs) 0 lin
      have pout := hp.out
      rw [List.nil_append] at pout
      have hsame := fun b hb (h1 : b ≠ h3.n + 1) (h2 : b ≠ h3.n) (h3' : b ≠ bb) (h4' : b ≠ h'.n) => hp.fr.same b hb h1 h2 h3' h4' (by simp)
      have hfrn := hp.fr.n
      have hlkv : LkV h7 h6.n lb cs o.L := by
        refine ⟨fun b hb => ⟨pout.row b hb, ?_⟩, pout.none, pout.len, hp.lk.mono fun b hb _ => ⟨hb.1, rfl⟩⟩
        rcases hp.new with e | ⟨q, e, hq⟩
        · rw [e] at hb; cases hb
        · rw [e] at hb; cases hb; exact hq
      have hfr9 : Fr9 bb h h7 := ⟨by have := hfr6.1; omega, fun b hb hne => by rw [hsame b (by omega) (by omega) (by omega) hne (by omega), hfr6.2 b hb]⟩
      have hx7 : h7.get h.n = some (.row [.int .i64 f.vars, p, r, .int .i64 f.frame, c]) := by rw [hsame _ (by omega) (by omega) (by omega) (by omega) (by omega)]; exact hx6
      have ht7 : h7.get (h.n + 1) = some (.row [.nils, .nils, .int .i64 0, .int .i64 0]) := by rw [hsame _ (by omega) (by omega) (by omega) (by omega) (by omega)]; exact ht6
      have hp7 : h7.get (h3.n + 1 + 1) = some (.row [.ptr (h3.n + 1) 0]) := by rw [hsame _ (by omega) (by omega) (by omega) (by omega) (by omega)]; exact hp6
      have hs7 := pout.cell'
      have hr7 := hp.st.r
      simp only at hr7
      cases he : o.en with
      | some en =>
        have rr := hpn (by rw [he]; simp)
        simp only [ss, hps, Nat.reduceEqDiff, Nat.reduceLT, Nat.reduceAdd, Nat.reduceLeDiff, Int.reduceLT, Int.reduceLE, Int.reduceEq, reduceIte, DK, e5, e12, hp6, hx6, o40, rr, regK_panic]
        exact ⟨rfl, h'.n, h3.n + 1 + 1, h.n + 1, by simp only [ss, hps, Nat.reduceEqDiff, Nat.reduceLT, Nat.reduceAdd, Nat.reduceLeDiff, Int.reduceLT, Int.reduceLE, Int.reduceEq, reduceIte, DK], by simp only [ss, hps, Nat.reduceEqDiff, Nat.reduceLT, Nat.reduceAdd, Nat.reduceLeDiff, Int.reduceLT, Int.reduceLE, Int.reduceEq, reduceIte, DK, e10], by simp only [ss, hps, Nat.reduceEqDiff, Nat.reduceLT, Nat.reduceAdd, Nat.reduceLeDiff, Int.reduceLT, Int.reduceLE, Int.reduceEq, reduceIte, DK, e11], o, lb, cs, h3.n + 1, h3.n, wordsN f, mb, fuel, h6.n, by rw [he]; simp, hrun, hs7, hp7, hr7, ht7, hlkv, hfr9, by omega, by omega, by omega⟩
      | none =>
        have rr := hokk he
        rw [he] at hr7
        have hr7' : h7.get (h3.n + 1) = some (.row [.slice h3.n 0 (wordsN f) (wordsN f), .ptr mb 0, .int .u64 49152, .int .i64 fuel, .int .i64 o.st.steps, .int .i64 0]) := hr7
        have hv7 := hp.st.v
        have hvn7 := hp.st.vn
        simp only at hv7 hvn7
        have vo := vOf_one lb cs
        have vc := cells_one vo
        simp only [ss, hps, Nat.reduceEqDiff, Nat.reduceLT, Nat.reduceAdd, Nat.reduceLeDiff, Int.reduceLT, Int.reduceLE, Int.reduceEq, reduceIte, DK, e5, e12, hp6, hx6, o40, rr]
        refine sat_next (sat_seq ?_)
        simp only [ss, hps, Nat.reduceEqDiff, Nat.reduceLT, Nat.reduceAdd, Nat.reduceLeDiff, Int.reduceLT, Int.reduceLE, Int.reduceEq, reduceIte, DK, ds, e10, e12, hs7, hp7, hr7', ht7, nilchk_ptr, setCells, vo, vc]
        refine sat_next (sat_seq (sat_seq ?_))
        have lt7 := get_lt ht7
        have hx8 : (h7.set (h.n + 1) (.row [.nils, vOf lb cs, .int .i64 o.st.steps, .int .i64 0])).get h.n = some (.row [.int .i64 f.vars, p, r, .int .i64 f.frame, c]) := by rw [get_set_ne (by omega)]; exact hx7
        have ht8 : (h7.set (h.n + 1) (.row [.nils, vOf lb cs, .int .i64 o.st.steps, .int .i64 0])).get (h.n + 1) = some (.row [.nils, vOf lb cs, .int .i64 o.st.steps, .int .i64 0]) := get_set_same ht7
        have hp8 : (h7.set (h.n + 1) (.row [.nils, vOf lb cs, .int .i64 o.st.steps, .int .i64 0])).get (h3.n + 1 + 1) = some (.row [.ptr (h3.n + 1) 0]) := by rw [get_set_ne (by omega)]; exact hp7
        have hr8 : (h7.set (h.n + 1) (.row [.nils, vOf lb cs, .int .i64 o.st.steps, .int .i64 0])).get (h3.n + 1) = some (.row [.slice h3.n 0 (wordsN f) (wordsN f), .ptr mb 0, .int .u64 49152, .int .i64 fuel, .int .i64 o.st.steps, .int .i64 0]) := by rw [get_set_ne (by omega)]; exact hr7'
        have hv8 : (h7.set (h.n + 1) (.row [.nils, vOf lb cs, .int .i64 o.st.steps, .int .i64 0])).get h3.n = some (.row (o.st.vs.map u64v)) := by rw [get_set_ne (by omega)]; exact hv7
        have hlk8 : LkV (h7.set (h.n + 1) (.row [.nils, vOf lb cs, .int .i64 o.st.steps, .int .i64 0])) h6.n lb cs o.L := hlkv.mono (Nat.le_refl _) fun b hb _ => get_set_ne (by omega)
        have hfr8 : Fr9 bb h (h7.set (h.n + 1) (.row [.nils, vOf lb cs, .int .i64 o.st.steps, .int .i64 0])) := ⟨hfr9.1, fun b hb hne => by rw [get_set_ne (by omega)]; exact hfr9.2 b hb hne⟩
        have hn8 : (h7.set (h.n + 1) (.row [.nils, vOf lb cs, .int .i64 o.st.steps, .int .i64 0])).n = h7.n := rfl
        generalize h7.set (h.n + 1) (.row [.nils, vOf lb cs, .int .i64 o.st.steps, .int .i64 0]) = h8 at *
        simp only [ss, hps, Nat.reduceEqDiff, Nat.reduceLT, Nat.reduceAdd, Nat.reduceLeDiff, Int.reduceLT, Int.reduceLE, Int.reduceEq, reduceIte, DK, e5, hx8, lr]
        refine sat_next (sat_block (sat_loop (fun m e h' => ∃ i rv, i + m = f.rets.length ∧ e.get 91 = some (.int .i64 i) ∧ h'.get (h.n + 1) = some (.row [rv, vOf lb cs, .int .i64 o.st.steps, .int .i64 0]) ∧ RetIn h' h8.n rv ((f.rets.take i).map o.st.v) ∧ (∀ b, b < h8.n → b ≠ h.n + 1 → h'.get b = h8.get b) ∧ h8.n ≤ h'.n) f.rets.length (by have := hat.sr; omega) ?_ ?_))
        · exact ⟨0, .nils, by omega, by simp only [ss, hps, Nat.reduceEqDiff, Nat.reduceLT, Nat.reduceAdd, Nat.reduceLeDiff, Int.reduceLT, Int.reduceLE, Int.reduceEq, reduceIte]; rfl, ht8, .inl ⟨rfl, rfl⟩, fun _ _ _ => rfl, Nat.le_refl _⟩
        · rintro m9 e9 h9 ⟨i9, rv, hi9, z91, ht9, hret9, hsm9, hn9⟩ hf9
          have z10 := hf9 10 rfl
          have z11 := hf9 11 rfl
          have z12 := hf9 12 rfl
          have z89 := hf9 89 rfl
          have z90 := hf9 90 rfl
          have zDK := hf9 DK rfl
          simp only [ss, hps, Nat.reduceEqDiff, Nat.reduceLT, Nat.reduceAdd, Nat.reduceLeDiff, Int.reduceLT, Int.reduceLE, Int.reduceEq, reduceIte, get_put, puto_some, DK, e10, e11, e12] at z10 z11 z12 z89 z90
          simp only [ss, hps, Nat.reduceEqDiff, Nat.reduceLT, Nat.reduceAdd, Nat.reduceLeDiff, Int.reduceLT, Int.reduceLE, Int.reduceEq, reduceIte, get_put, puto_some, DK] at zDK
          clear hf9
          refine sat_seq ?_
          simp only [ss, hps, Nat.reduceEqDiff, Nat.reduceLT, Nat.reduceAdd, Nat.reduceLeDiff, Int.reduceLT, Int.reduceLE, Int.reduceEq, reduceIte, z91, z90]
          refine sat_next (sat_seq (sat_condK ?_))
          simp only [ss, hps, Nat.reduceEqDiff, Nat.reduceLT, Nat.reduceAdd, Nat.reduceLeDiff, Int.reduceLT, Int.reduceLE, Int.reduceEq, reduceIte]
          refine sat_condD (fun hlt => ?_) (fun hge => ?_)
          · have hlt : i9 < f.rets.length := by omega
            have hsr := hat.sr
            obtain ⟨x, hx⟩ := get_len hlt
            obtain ⟨rest, hia⟩ := decInts_at hat.rets hx
            have hxr := hret x (mem_of_get hx)
            obtain ⟨j, rfl, hjn⟩ := nat_of (n := wordsN f) hxr.1 (by unfold wordsN; omega)
            have hat9 := rowV_at (vs := o.st.vs) (i := j) (by rw [hvn7]; exact hjn)
            have w3 : IntKind.i64.wrap ((i9 : Int) + 1) = ((i9 + 1 : Nat) : Int) := by rw [wrap_i64 (by omega) (by omega)]; simp
            have hp9 := (hsm9 (h3.n + 1 + 1) (by omega) (by omega)).trans hp8
            have hr9 := (hsm9 (h3.n + 1) (by omega) (by omega)).trans hr8
            have hv9 := (hsm9 h3.n (by omega) (by omega)).trans hv8
            obtain ⟨rv', h10, eap, hret10, hsm10, hn10⟩ := ret_app (w := o.st.vs.getD j 0) hret9 (by simp; omega) hn9
            have ht10 := (hsm10 (h.n + 1) (by omega)).trans ht9
            have n1 : (h.n + 1 = h9.n) = False := eq_false (by omega)
            have ro := hret10.one
            have rc := cells_one ro
            refine sat_skip (sat_seq (sat_block (sat_seq ?_)))
            simp only [ss, hps, Nat.reduceEqDiff, Nat.reduceLT, Nat.reduceAdd, Nat.reduceLeDiff, Int.reduceLT, Int.reduceLE, Int.reduceEq, reduceIte, z91, z89, hia]
            refine sat_next ?_
            simp only [ss, hps, Nat.reduceEqDiff, Nat.reduceLT, Nat.reduceAdd, Nat.reduceLeDiff, Int.reduceLT, Int.reduceLE, Int.reduceEq, reduceIte, ds, z10, z12, ht9, hp9, hr9, hv9, nilchk_ptr, hjn, hat9, rowIf_ok, setCells, eap, ht10, ro, rc]
            refine sat_blk (sat_next ?_)
            simp only [ss, hps, Nat.reduceEqDiff, Nat.reduceLT, Nat.reduceAdd, Nat.reduceLeDiff, Int.reduceLT, Int.reduceLE, Int.reduceEq, reduceIte, z91, w3]
            refine sat_again (m9 - 1) (by omega) ⟨i9 + 1, rv', by omega, by simp only [ss, hps, Nat.reduceEqDiff, Nat.reduceLT, Nat.reduceAdd, Nat.reduceLeDiff, Int.reduceLT, Int.reduceLE, Int.reduceEq, reduceIte], get_set_same ht10, ?_, fun b hb hne => ?_, by simp; omega⟩
            · have e1 : (f.rets.take (i9 + 1)).map o.st.v = (f.rets.take i9).map o.st.v ++ [o.st.vs.getD j 0] := by
                have hge := (List.getElem?_eq_some_iff.1 hx)
                rw [List.take_add_one, hx, List.map_append]; rfl
              rw [e1]
              exact hret10.mono (Nat.le_refl _) fun b hb hlt' _ => get_set_ne (by omega)
            · rw [get_set_ne hne, hsm10 b hb, hsm9 b hb hne]
          · have hge : i9 = f.rets.length := by omega
            subst hge
            refine sat_brk fun _ => sat_next (sat_seq ?_)
            have ro := hret9.one
            have rc := cells_one ro
            simp only [ss, hps, Nat.reduceEqDiff, Nat.reduceLT, Nat.reduceAdd, Nat.reduceLeDiff, Int.reduceLT, Int.reduceLE, Int.reduceEq, reduceIte, z10, ht9, setCells, ro, rc, vo, vc]
            have hss := set_same ht9
            rw [hss]
            rw [List.take_length] at hret9
            refine sat_next (sat_ret ⟨rfl, h'.n, h3.n + 1 + 1, h.n + 1, by simp only [ss, hps, Nat.reduceEqDiff, Nat.reduceLT, Nat.reduceAdd, Nat.reduceLeDiff, Int.reduceLT, Int.reduceLE, Int.reduceEq, reduceIte, DK, zDK], by simp only [ss, hps, Nat.reduceEqDiff, Nat.reduceLT, Nat.reduceAdd, Nat.reduceLeDiff, Int.reduceLT, Int.reduceLE, Int.reduceEq, reduceIte, z10], by simp only [ss, hps, Nat.reduceEqDiff, Nat.reduceLT, Nat.reduceAdd, Nat.reduceLeDiff, Int.reduceLT, Int.reduceLE, Int.reduceEq, reduceIte], o, lb, cs, rv, h6.n, he, hrun, ht9, hret9.mono (by omega) (fun _ _ _ _ => rfl), hlk8.mono (Nat.le_refl _) (fun b hb hlt => hsm9 b hlt (by omega)), ⟨by omega, fun b hb hne => by rw [hsm9 b (by omega) (by omega)]; exact hfr8.2 b hb hne⟩, by omega, by omega⟩)
end Go.Proofs.YtadeojgiiapljaaGreat.Im
namespace Go.Proofs.YtadeojgiiapljaaGreat.Im
open Go
set_option maxHeartbeats 1000000
theorem G9_at {k : Nat} {v av : IV} {f : FlatT} {as_ bs : List Int} {mb bb fuel : Nat} {regs : List Reg} {h : IHeap} (hv : decFlat k v = some f) (hm : mayB f = true) (hk : k ≤ 1999999)
    (ha : decInts .u64 av = some as_) (hlen : as_.length = f.params.length) (hmem : MemR h mb bb bs regs) (hfu : fuel ≤ 1000000) :
    ∃ o lb cs rv h', G9 k [v, av, .ptr mb 0, .int .u64 49152, .int .i64 fuel] h = .ok (.tup [.agg [rv, vOf lb cs, .int .i64 o.st.steps, .int .i64 (o.en.getD 0)], .int .i64 0]) h' ∧
      Run ⟨evalW, regs, 49152⟩ fuel (.lst f.code) (startS f as_ bs) o ∧ (o.en = none → RetIn h' h.n rv (f.rets.map o.st.v)) ∧ (o.en ≠ none → rv = .nils) ∧ LkV h' h.n lb cs o.L ∧ Fr9 bb h h' := by
  obtain ⟨p, r, c, rfl, hat⟩ := decFlat_some hv
  rcases sat_inv (b9 (h := h) hv hat hm hk ha hlen hmem hfu) with ⟨y, e, h', h1, rfl, sb, rp, tb, hd, h10, h11, o, lb, cs, rv, n1, he, hrun, ht, hret, hlk, hfr, hn, htn⟩ | ⟨w, e, h', h1, rfl, sb, rp, tb, hd, h10, h11, o, lb, cs, rb, vb, n, mb', left, n1, he, hrun, hs, hp, hr, ht, hlk, hfr, hn, htn, hht⟩
  · refine ⟨o, lb, cs, rv, h', ?_, hrun, fun _ => hret, fun hh => absurd he hh, hlk.mono hn (fun _ _ _ => rfl), hfr⟩
    unfold G9
    rw [body_defer rfl rfl h1 (.inr rfl) hd (show T9 39 = some ic39 from rfl) (def39_nil h'), done_eq, he]
    simp only [ss, hps, Nat.reduceEqDiff, Nat.reduceLT, Nat.reduceAdd, Nat.reduceLeDiff, Int.reduceLT, Int.reduceLE, Int.reduceEq, reduceIte, ic9, h10, h11, ht]
    rfl
  · have hsn := vOf_one lb cs
    refine ⟨o, lb, cs, .nils, (h'.push (.row [])).set tb (.row [.nils, vOf lb cs, .int .i64 o.st.steps, .int .i64 (o.en.getD 0)]), ?_, hrun, fun hh => absurd hh he, fun _ => rfl, hlk.mono hn (fun b hb hlt => ?_), ⟨?_, fun b hb hne => ?_⟩⟩
    · unfold G9
      rw [body_deferX rfl rfl h1 hd (show T9 39 = some ic39 from rfl) (def39_end hs hsn hp hr ht), done_eq]
      have hlt := get_lt ht
      have hg : ((h'.push (.row [])).set tb (.row [.nils, vOf lb cs, .int .i64 o.st.steps, .int .i64 (o.en.getD 0)])).get tb = some (.row [.nils, vOf lb cs, .int .i64 o.st.steps, .int .i64 (o.en.getD 0)]) := get_set_same (by rw [get_push_old hlt]; exact ht)
      simp only [ss, hps, Nat.reduceEqDiff, Nat.reduceLT, Nat.reduceAdd, Nat.reduceLeDiff, Int.reduceLT, Int.reduceLE, Int.reduceEq, reduceIte, ic9, h10, h11, hg]
    · rw [get_set_ne (by omega), get_push_old hlt]
    · have := hfr.1; simp; omega
    · have := hfr.1
      rw [get_set_ne (by omega), get_push_old (by omega)]; exact hfr.2 b hb hne
end Go.Proofs.YtadeojgiiapljaaGreat.Im
