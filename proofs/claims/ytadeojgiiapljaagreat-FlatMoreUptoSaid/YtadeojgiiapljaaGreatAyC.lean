/- flat.May, where it says yes: the whole. -/
import Derived.Test.YtadeojgiiapljaaGreatAyB
import Derived.Test.YtadeojgiiapljaaGreatIcA
import Derived.Test.YtadeojgiiapljaaGreatIcB
set_option linter.unusedSimpArgs false
set_option linter.unusedVariables false
namespace Go.Proofs.YtadeojgiiapljaaGreat.Im
open Go
set_option maxHeartbeats 1000000
noncomputable def G72 : Nat → List IV → M IV
  | 0 => fun _ _ => .fail
  | k + 1 => bodyI T0 (O72 (G72 k)) 4000010 ic72
theorem s72 : ∀ k, Sim Tryz.prog 72 (G72 k)
  | 0 => Sim.fail 72
  | k + 1 => body_sim (ocons_sim s68 (ocons_sim s127 (ocons_sim (s72 k) onil_sim))) cc72 4000010
theorem askOk : ∀ k, AskOk k (G72 k)
  | 0 => fun v l vars deep nodes ab h hv => by cases hv
  | k + 1 => fun v l vars deep nodes ab h hv hok hs hn hd ha => by
    exact rd_done (F := ic72) rfl rfl rfl (by decide) (b72 (askOk k) hv hok hs hn hd ha) rfl
theorem decIs_take {k : IntKind} : ∀ {n : Nat} {cells : List IV} {l : List Int} {i : Nat}, decIs k cells n = some l → i ≤ n → decIs k cells i = some (l.take i)
  | n, cells, l, 0, h, _ => by simp [decIs]
  | 0, cells, l, i + 1, h, hi => by omega
  | n + 1, [], l, i + 1, h, hi => by simp [decIs] at h
  | n + 1, c :: cs, l, i + 1, h, hi => by
    cases c <;> simp only [decIs] at h <;> try (cases h; done)
    rename_i k' v
    split at h
    · rename_i hc
      simp only [Option.map_eq_some_iff] at h
      obtain ⟨l', hl', rfl⟩ := h
      simp only [decIs, hc, if_true, decIs_take hl' (show i ≤ n by omega), Option.map_some, List.take_succ_cons]
    · cases h
theorem decInts_to {k : IntKind} {v : IV} {l : List Int} (h : decInts k v = some l) {i : Nat} (hi : i ≤ l.length) : ∃ u, sliceToV v i = some u ∧ decInts k u = some (l.take i) := by
  unfold decInts at h
  split at h
  · cases h
    have : i = 0 := by simpa using hi
    subst this
    exact ⟨.nils, rfl, rfl⟩
  · rename_i cells len
    have hl := (decIs_get h).1
    refine ⟨.cslice cells i, ?_, ?_⟩
    · simp only [sliceToV]; rw [if_pos ⟨by omega, by omega⟩]; simp
    · simp only [decInts]; exact decIs_take h (by omega)
  · cases h
theorem b125 {O : Orc} {s : IV} {l : List Int} {v : Int} {h : IHeap} (hs : decInts .i64 s = some l) (sl : l.length < 4000000) (hv : v ∉ l) :
    (ix O 4000010 ic125.body (startI 0 [s, .int .i64 v]) h).sat (fun y e h' => y = .ret ∧ e.get 4 = some (.int .i64 (-1)) ∧ h' = h) (fun _ _ _ => False) := by
  have ls := decInts_len hs
  unfold ic125
  simp only [start_cons, start_nil]
  refine sat_seq ?_
  simp only [ss, hps, Nat.reduceEqDiff, Nat.reduceLT, Nat.reduceAdd, Nat.reduceLeDiff, Int.reduceLT, Int.reduceLE, Int.reduceEq, reduceIte]
  refine sat_next (sat_seq (sat_seq ?_))
  simp only [ss, hps, Nat.reduceEqDiff, Nat.reduceLT, Nat.reduceAdd, Nat.reduceLeDiff, Int.reduceLT, Int.reduceLE, Int.reduceEq, reduceIte, ls]
  refine sat_next (sat_block (sat_loop (fun m e h' => ∃ i, i + m = l.length ∧ e.get 8 = some (.int .i64 i) ∧ h' = h) l.length (by omega) ?_ ?_))
  · exact ⟨0, by omega, by simp only [ss, hps, Nat.reduceEqDiff, Nat.reduceLT, Nat.reduceAdd, Nat.reduceLeDiff, Int.reduceLT, Int.reduceLE, Int.reduceEq, reduceIte]; rfl, rfl⟩
  · rintro m e h' ⟨i, hi, h8, rfl⟩ hf
    have h0 := hf 0 rfl
    have h1 := hf 1 rfl
    have h7 := hf 7 rfl
    simp only [ss, hps, Nat.reduceEqDiff, Nat.reduceLT, Nat.reduceAdd, Nat.reduceLeDiff, Int.reduceLT, Int.reduceLE, Int.reduceEq, reduceIte, get_put, puto_some] at h0 h1 h7
    clear hf
    refine sat_seq ?_
    simp only [ss, hps, Nat.reduceEqDiff, Nat.reduceLT, Nat.reduceAdd, Nat.reduceLeDiff, Int.reduceLT, Int.reduceLE, Int.reduceEq, reduceIte, h8, h7]
    refine sat_next (sat_seq (sat_condK ?_))
    simp only [ss, hps, Nat.reduceEqDiff, Nat.reduceLT, Nat.reduceAdd, Nat.reduceLeDiff, Int.reduceLT, Int.reduceLE, Int.reduceEq, reduceIte]
    refine sat_condD (fun hlt => ?_) (fun hge => ?_)
    · have hlt : i < l.length := by omega
      obtain ⟨x, hx⟩ := get_len hlt
      obtain ⟨rest, hia⟩ := decInts_at hs hx
      have hne : (v = x) = False := eq_false fun he => hv (he ▸ mem_of_get hx)
      have w3 : IntKind.i64.wrap ((i : Int) + 1) = ((i + 1 : Nat) : Int) := by rw [wrap_i64 (by omega) (by omega)]; simp
      refine sat_skip (sat_seq (sat_block (sat_seq ?_)))
      simp only [ss, hps, Nat.reduceEqDiff, Nat.reduceLT, Nat.reduceAdd, Nat.reduceLeDiff, Int.reduceLT, Int.reduceLE, Int.reduceEq, reduceIte, h8]
      refine sat_next (sat_seq ?_)
      simp only [ss, hps, Nat.reduceEqDiff, Nat.reduceLT, Nat.reduceAdd, Nat.reduceLeDiff, Int.reduceLT, Int.reduceLE, Int.reduceEq, reduceIte, h0, h1, hia, hne]
      refine sat_next (sat_condK ?_)
      simp only [ss, hps, Nat.reduceEqDiff, Nat.reduceLT, Nat.reduceAdd, Nat.reduceLeDiff, Int.reduceLT, Int.reduceLE, Int.reduceEq, reduceIte]
      refine sat_blk (sat_next ?_)
      simp only [ss, hps, Nat.reduceEqDiff, Nat.reduceLT, Nat.reduceAdd, Nat.reduceLeDiff, Int.reduceLT, Int.reduceLE, Int.reduceEq, reduceIte, h8, w3]
      exact sat_again (m - 1) (by omega) ⟨i + 1, by omega, by simp only [ss, hps, Nat.reduceEqDiff, Nat.reduceLT, Nat.reduceAdd, Nat.reduceLeDiff, Int.reduceLT, Int.reduceLE, Int.reduceEq, reduceIte], rfl⟩
    · refine sat_brk fun hf2 => sat_next (sat_seq ?_)
      simp only [ss, hps, Nat.reduceEqDiff, Nat.reduceLT, Nat.reduceAdd, Nat.reduceLeDiff, Int.reduceLT, Int.reduceLE, Int.reduceEq, reduceIte]
      exact sat_next (sat_ret ⟨rfl, by simp only [ss, hps, Nat.reduceEqDiff, Nat.reduceLT, Nat.reduceAdd, Nat.reduceLeDiff, Int.reduceLT, Int.reduceLE, Int.reduceEq, reduceIte], rfl⟩)
def G125 : List IV → M IV := bodyI T0 onil 4000010 ic125
theorem s125 : Sim Tryz.prog 125 G125 := body_sim onil_sim cc125 4000010
theorem G125_at {s : IV} {l : List Int} {v : Int} (hs : decInts .i64 s = some l) (sl : l.length < 4000000) (hv : v ∉ l) (h : IHeap) : G125 [s, .int .i64 v] h = .ok (.int .i64 (-1)) h := by
  obtain ⟨h2, h3, rfl⟩ := rd_done (T := T0) (R := fun h' => h' = h) rfl rfl rfl (by decide) (b125 (O := onil) (h := h) hs sl hv) rfl
  exact h3
def G69 : List IV → M IV := bodyI T0 (ocons 125 G125 onil) 0 ic69
theorem s69 : Sim Tryz.prog 69 G69 := body_sim (ocons_sim s125 onil_sim) cc69 0
theorem G69_at {s : IV} {l : List Int} {v : Int} (hs : decInts .i64 s = some l) (sl : l.length < 4000000) (hv : v ∉ l) (h : IHeap) : G69 [s, .int .i64 v] h = .ok (.bool false) h := by
  have r := G125_at hs sl hv h
  have o : (ocons 125 G125 onil) 125 = G125 := rfl
  unfold G69
  rw [body_eq rfl rfl rfl (by decide)]
  simp only [ss, hps, Nat.reduceEqDiff, Nat.reduceLT, Nat.reduceAdd, Nat.reduceLeDiff, Int.reduceLT, Int.reduceLE, Int.reduceEq, reduceIte, ic69, o, r]
noncomputable def G71 : List IV → M IV := bodyI T0 (ocons 68 F68 onil) 0 ic71
theorem s71 : Sim Tryz.prog 71 G71 := body_sim (ocons_sim s68 onil_sim) cc71 0
theorem G71_at {h : IHeap} {cb ab : Nat} {vars nodes n : Int} (hc : h.get cb = some (.row [.ptr ab 0])) (ha : h.get ab = some (.row [.int .i64 vars, .int .i64 nodes])) (hn : isN n vars = true) : G71 [.int .i64 n, .ptr cb 0] h = .ok (.bool false) h := by
  have r := F68_at (n := n) ha
  rw [hn] at r
  have o : (ocons 68 F68 onil) 68 = F68 := rfl
  unfold G71
  rw [body_eq rfl rfl rfl (by decide)]
  simp only [ss, hps, Nat.reduceEqDiff, Nat.reduceLT, Nat.reduceAdd, Nat.reduceLeDiff, Int.reduceLT, Int.reduceLE, Int.reduceEq, reduceIte, ic71, hc, o, r]
noncomputable def G126 : List IV → M IV := bodyI T0 (ocons 71 G71 onil) 4000010 ic126
theorem s126 : Sim Tryz.prog 126 G126 := body_sim (ocons_sim s71 onil_sim) cc126 4000010
theorem b126 {s : IV} {l : List Int} {h : IHeap} {cb ab : Nat} {vars nodes : Int} (hs : decInts .i64 s = some l) (sl : l.length < 4000000) (hc : h.get cb = some (.row [.ptr ab 0])) (ha : h.get ab = some (.row [.int .i64 vars, .int .i64 nodes])) (hn : ∀ n ∈ l, isN n vars = true) :
    (ix (ocons 71 G71 onil) 4000010 ic126.body (startI 0 [s, .func (.func 71) [] [.ptr cb 0]]) h).sat (fun y e h' => y = .ret ∧ e.get 4 = some (.int .i64 (-1)) ∧ h' = h) (fun _ _ _ => False) := by
  have ls := decInts_len hs
  have o71 : (ocons 71 G71 onil) 71 = G71 := rfl
  unfold ic126
  simp only [start_cons, start_nil]
  refine sat_seq ?_
  simp only [ss, hps, Nat.reduceEqDiff, Nat.reduceLT, Nat.reduceAdd, Nat.reduceLeDiff, Int.reduceLT, Int.reduceLE, Int.reduceEq, reduceIte]
  refine sat_next (sat_seq (sat_seq ?_))
  simp only [ss, hps, Nat.reduceEqDiff, Nat.reduceLT, Nat.reduceAdd, Nat.reduceLeDiff, Int.reduceLT, Int.reduceLE, Int.reduceEq, reduceIte, ls]
  refine sat_next (sat_block (sat_loop (fun m e h' => ∃ i, i + m = l.length ∧ e.get 8 = some (.int .i64 i) ∧ h' = h) l.length (by omega) ?_ ?_))
  · exact ⟨0, by omega, by simp only [ss, hps, Nat.reduceEqDiff, Nat.reduceLT, Nat.reduceAdd, Nat.reduceLeDiff, Int.reduceLT, Int.reduceLE, Int.reduceEq, reduceIte]; rfl, rfl⟩
  · rintro m e h' ⟨i, hi, h8, rfl⟩ hf
    have h0 := hf 0 rfl
    have h1 := hf 1 rfl
    have h7 := hf 7 rfl
    simp only [ss, hps, Nat.reduceEqDiff, Nat.reduceLT, Nat.reduceAdd, Nat.reduceLeDiff, Int.reduceLT, Int.reduceLE, Int.reduceEq, reduceIte, get_put, puto_some] at h0 h1 h7
    clear hf
    refine sat_seq ?_
    simp only [ss, hps, Nat.reduceEqDiff, Nat.reduceLT, Nat.reduceAdd, Nat.reduceLeDiff, Int.reduceLT, Int.reduceLE, Int.reduceEq, reduceIte, h8, h7]
    refine sat_next (sat_seq (sat_condK ?_))
    simp only [ss, hps, Nat.reduceEqDiff, Nat.reduceLT, Nat.reduceAdd, Nat.reduceLeDiff, Int.reduceLT, Int.reduceLE, Int.reduceEq, reduceIte]
    refine sat_condD (fun hlt => ?_) (fun hge => ?_)
    · have hlt : i < l.length := by omega
      obtain ⟨x, hx⟩ := get_len hlt
      obtain ⟨rest, hia⟩ := decInts_at hs hx
      have r71 := G71_at hc ha (hn x (mem_of_get hx))
      have w3 : IntKind.i64.wrap ((i : Int) + 1) = ((i + 1 : Nat) : Int) := by rw [wrap_i64 (by omega) (by omega)]; simp
      refine sat_skip (sat_seq (sat_block (sat_seq ?_)))
      simp only [ss, hps, Nat.reduceEqDiff, Nat.reduceLT, Nat.reduceAdd, Nat.reduceLeDiff, Int.reduceLT, Int.reduceLE, Int.reduceEq, reduceIte, h8]
      refine sat_next (sat_seq ?_)
      simp only [ss, hps, Nat.reduceEqDiff, Nat.reduceLT, Nat.reduceAdd, Nat.reduceLeDiff, Int.reduceLT, Int.reduceLE, Int.reduceEq, reduceIte, h0, h1, hia, o71, r71]
      refine sat_next (sat_condK ?_)
      simp only [ss, hps, Nat.reduceEqDiff, Nat.reduceLT, Nat.reduceAdd, Nat.reduceLeDiff, Int.reduceLT, Int.reduceLE, Int.reduceEq, reduceIte]
      refine sat_blk (sat_next ?_)
      simp only [ss, hps, Nat.reduceEqDiff, Nat.reduceLT, Nat.reduceAdd, Nat.reduceLeDiff, Int.reduceLT, Int.reduceLE, Int.reduceEq, reduceIte, h8, w3]
      exact sat_again (m - 1) (by omega) ⟨i + 1, by omega, by simp only [ss, hps, Nat.reduceEqDiff, Nat.reduceLT, Nat.reduceAdd, Nat.reduceLeDiff, Int.reduceLT, Int.reduceLE, Int.reduceEq, reduceIte], rfl⟩
    · refine sat_brk fun hf2 => sat_next (sat_seq ?_)
      simp only [ss, hps, Nat.reduceEqDiff, Nat.reduceLT, Nat.reduceAdd, Nat.reduceLeDiff, Int.reduceLT, Int.reduceLE, Int.reduceEq, reduceIte]
      exact sat_next (sat_ret ⟨rfl, by simp only [ss, hps, Nat.reduceEqDiff, Nat.reduceLT, Nat.reduceAdd, Nat.reduceLeDiff, Int.reduceLT, Int.reduceLE, Int.reduceEq, reduceIte], rfl⟩)
noncomputable def G70 : List IV → M IV := bodyI T0 (ocons 126 G126 onil) 0 ic70
theorem s70 : Sim Tryz.prog 70 G70 := body_sim (ocons_sim s126 onil_sim) cc70 0
theorem G70_at {s : IV} {l : List Int} {h : IHeap} {cb ab : Nat} {vars nodes : Int} (hs : decInts .i64 s = some l) (sl : l.length < 4000000) (hc : h.get cb = some (.row [.ptr ab 0])) (ha : h.get ab = some (.row [.int .i64 vars, .int .i64 nodes])) (hn : ∀ n ∈ l, isN n vars = true) :
    G70 [s, .func (.func 71) [] [.ptr cb 0]] h = .ok (.bool false) h := by
  obtain ⟨h2, r, rfl⟩ := rd_done (T := T0) (R := fun h' => h' = h) rfl rfl rfl (by decide) (b126 (h := h) hs sl hc ha hn) rfl
  have r : G126 [s, .func (.func 71) [] [.ptr cb 0]] h2 = .ok (.int .i64 (-1)) h2 := r
  have o : (ocons 126 G126 onil) 126 = G126 := rfl
  unfold G70
  rw [body_eq rfl rfl rfl (by decide)]
  simp only [ss, hps, Nat.reduceEqDiff, Nat.reduceLT, Nat.reduceAdd, Nat.reduceLeDiff, Int.reduceLT, Int.reduceLE, Int.reduceEq, reduceIte, ic70, o, r]
noncomputable def O37 (k : Nat) : Orc := ocons 68 F68 (ocons 69 G69 (ocons 70 G70 (ocons 72 (G72 k) onil)))
theorem O37_sim (k : Nat) : ∀ g, Sim Tryz.prog g (O37 k g) := ocons_sim s68 (ocons_sim s69 (ocons_sim s70 (ocons_sim (s72 k) onil_sim)))
noncomputable def G37 (k : Nat) : List IV → M IV := bodyI T0 (O37 k) 4000010 ic37
theorem s37 (k : Nat) : Sim Tryz.prog 37 (G37 k) := body_sim (O37_sim k) cc37 4000010
theorem G37_at {k : Nat} {v : IV} {f : FlatT} (hv : decFlat k v = some f) (hm : mayB f = true) (hk : k ≤ 1999999) (h : IHeap) : ∃ h2, G37 k [v] h = .ok (.bool true) h2 ∧ Grow h h2 := by
  obtain ⟨p, r, c, rfl, hat⟩ := decFlat_some hv
  simp only [mayB, Bool.and_eq_true, decide_eq_true_eq] at hm
  obtain ⟨⟨⟨⟨q1, q2, q3, q4, q5, q6⟩, hpar, hnd, hret⟩, hcnt⟩, hok⟩ := hm
  have op := decInts_one hat.params
  have or := decInts_one hat.rets
  have oc := dec_one hat.code
  have lp := decInts_len hat.params
  have lr := decInts_len hat.rets
  have o68 : O37 k 68 = F68 := rfl
  have o69 : O37 k 69 = G69 := rfl
  have o70 : O37 k 70 = G70 := rfl
  have o72 : O37 k 72 = G72 k := rfl
  have hb : (ix (O37 k) 4000010 ic37.body (startI 0 [.agg [.int .i64 f.vars, p, r, .int .i64 f.frame, c]]) h).sat (fun y e h' => y = .ret ∧ e.get 2 = some (.bool true) ∧ Grow h h') (fun _ _ _ => False) := by
    unfold ic37
    simp only [start_cons, start_nil]
    refine sat_seq ?_
    simp only [ss, hps, Nat.reduceEqDiff, Nat.reduceLT, Nat.reduceAdd, Nat.reduceLeDiff, Int.reduceLT, Int.reduceLE, Int.reduceEq, reduceIte, rowIf_ok, op, or, oc]
    refine sat_next (sat_seq ?_)
    simp only [ss, hps, Nat.reduceEqDiff, Nat.reduceLT, Nat.reduceAdd, Nat.reduceLeDiff, Int.reduceLT, Int.reduceLE, Int.reduceEq, reduceIte, rowIf_ok, setCells, set_push_at, cells_ptr]
    refine sat_next (sat_seq (sat_seq ?_))
    have m16 : ∀ x : Int, binI .rem (.int .i64 x) (.int .i64 16) = some (.int .i64 (x.tmod 16)) := fun x => bin_rem16 _ _
    have c1 : (f.vars < 0) = False := eq_false (by omega)
    have c2 : (16384 < f.vars) = False := eq_false (by omega)
    have c3 : (f.frame < 0) = False := eq_false (by omega)
    have c4 : (8192 < f.frame) = False := eq_false (by omega)
    simp only [ss, hps, Nat.reduceEqDiff, Nat.reduceLT, Nat.reduceAdd, Nat.reduceLeDiff, Int.reduceLT, Int.reduceLE, Int.reduceEq, reduceIte, m16, c1, c2, c3, c4, q5]
    refine sat_next (sat_condK ?_)
    simp only [ss, hps, Nat.reduceEqDiff, Nat.reduceLT, Nat.reduceAdd, Nat.reduceLeDiff, Int.reduceLT, Int.reduceLE, Int.reduceEq, reduceIte]
    have g3 : Grow h (((h.push (.row [.int .i64 f.vars, p, r, .int .i64 f.frame, c])).push (.row [.int .i64 f.vars, .int .i64 0])).push (.row [.ptr (h.n + 1) 0])) := ((Grow.push _ _).trans (Grow.push _ _)).trans (Grow.push _ _)
    have hx3 : (((h.push (.row [.int .i64 f.vars, p, r, .int .i64 f.frame, c])).push (.row [.int .i64 f.vars, .int .i64 0])).push (.row [.ptr (h.n + 1) 0])).get h.n = some (.row [.int .i64 f.vars, p, r, .int .i64 f.frame, c]) := by simp [get_push_eq]; omega
    have ha3 : (((h.push (.row [.int .i64 f.vars, p, r, .int .i64 f.frame, c])).push (.row [.int .i64 f.vars, .int .i64 0])).push (.row [.ptr (h.n + 1) 0])).get (h.n + 1) = some (.row [.int .i64 f.vars, .int .i64 0]) := by simp [get_push_eq]
    have hc3 : (((h.push (.row [.int .i64 f.vars, p, r, .int .i64 f.frame, c])).push (.row [.int .i64 f.vars, .int .i64 0])).push (.row [.ptr (h.n + 1) 0])).get (h.n + 1 + 1) = some (.row [.ptr (h.n + 1) 0]) := by simp [get_push_eq]
    generalize ((h.push (.row [.int .i64 f.vars, p, r, .int .i64 f.frame, c])).push (.row [.int .i64 f.vars, .int .i64 0])).push (.row [.ptr (h.n + 1) 0]) = h3 at *
    refine sat_next (sat_seq (sat_seq ?_))
    simp only [ss, hps, Nat.reduceEqDiff, Nat.reduceLT, Nat.reduceAdd, Nat.reduceLeDiff, Int.reduceLT, Int.reduceLE, Int.reduceEq, reduceIte, hx3, lp]
    refine sat_next (sat_block (sat_loop (fun m e h' => ∃ i, i + m = f.params.length ∧ e.get 37 = some (.int .i64 i) ∧ h' = h3) f.params.length (by have := hat.sp; omega) ?_ ?_))
    · exact ⟨0, by omega, by simp only [ss, hps, Nat.reduceEqDiff, Nat.reduceLT, Nat.reduceAdd, Nat.reduceLeDiff, Int.reduceLT, Int.reduceLE, Int.reduceEq, reduceIte]; rfl, rfl⟩
    · rintro m e h' ⟨i, hi, h37, rfl⟩ hf
      have e1 := hf 1 rfl
      have e3 := hf 3 rfl
      have e35 := hf 35 rfl
      have e36 := hf 36 rfl
      simp only [ss, hps, Nat.reduceEqDiff, Nat.reduceLT, Nat.reduceAdd, Nat.reduceLeDiff, Int.reduceLT, Int.reduceLE, Int.reduceEq, reduceIte, get_put, puto_some] at e1 e3 e35 e36
      clear hf
      refine sat_seq ?_
      simp only [ss, hps, Nat.reduceEqDiff, Nat.reduceLT, Nat.reduceAdd, Nat.reduceLeDiff, Int.reduceLT, Int.reduceLE, Int.reduceEq, reduceIte, h37, e36]
      refine sat_next (sat_seq (sat_condK ?_))
      simp only [ss, hps, Nat.reduceEqDiff, Nat.reduceLT, Nat.reduceAdd, Nat.reduceLeDiff, Int.reduceLT, Int.reduceLE, Int.reduceEq, reduceIte]
      refine sat_condD (fun hlt => ?_) (fun hge => ?_)
      · have hlt : i < f.params.length := by omega
        obtain ⟨x, hx⟩ := get_len hlt
        have hsp := hat.sp
        obtain ⟨rest, hia⟩ := decInts_at hat.params hx
        have hxr := hpar x (mem_of_get hx)
        have r68 := F68_at (n := x) ha3
        rw [isN_iff.2 hxr] at r68
        obtain ⟨u, hu, hdu⟩ := decInts_to hat.params (show i ≤ f.params.length by omega)
        have hnot : x ∉ f.params.take i := by
          intro hmem
          obtain ⟨j, hj, hjx⟩ := List.getElem_of_mem hmem
          have hj1 : j < i := by simp at hj; omega
          have hj2 : j < f.params.length := by simp at hj; omega
          obtain ⟨hi', hxi⟩ := List.getElem?_eq_some_iff.1 hx
          rw [List.getElem_take] at hjx
          have := (List.nodup_iff_pairwise_ne.1 hnd)
          have := List.pairwise_iff_getElem.1 this j i hj2 hi' hj1
          exact this (hjx.trans hxi.symm)
        have r69 := G69_at hdu (by have := hat.sp; simp; omega) hnot h'
        have w3 : IntKind.i64.wrap ((i : Int) + 1) = ((i + 1 : Nat) : Int) := by rw [wrap_i64 (by omega) (by omega)]; simp
        refine sat_skip (sat_seq (sat_block (sat_seq ?_)))
        simp only [ss, hps, Nat.reduceEqDiff, Nat.reduceLT, Nat.reduceAdd, Nat.reduceLeDiff, Int.reduceLT, Int.reduceLE, Int.reduceEq, reduceIte, h37, e35, hia]
        refine sat_next (sat_seq ?_)
        simp only [ss, hps, Nat.reduceEqDiff, Nat.reduceLT, Nat.reduceAdd, Nat.reduceLeDiff, Int.reduceLT, Int.reduceLE, Int.reduceEq, reduceIte, e1, e3, hc3, o68, r68, hx3, hu, o69, r69]
        refine sat_next (sat_condK ?_)
        simp only [ss, hps, Nat.reduceEqDiff, Nat.reduceLT, Nat.reduceAdd, Nat.reduceLeDiff, Int.reduceLT, Int.reduceLE, Int.reduceEq, reduceIte]
        refine sat_blk (sat_next ?_)
        simp only [ss, hps, Nat.reduceEqDiff, Nat.reduceLT, Nat.reduceAdd, Nat.reduceLeDiff, Int.reduceLT, Int.reduceLE, Int.reduceEq, reduceIte, h37, w3]
        exact sat_again (m - 1) (by omega) ⟨i + 1, by omega, by simp only [ss, hps, Nat.reduceEqDiff, Nat.reduceLT, Nat.reduceAdd, Nat.reduceLeDiff, Int.reduceLT, Int.reduceLE, Int.reduceEq, reduceIte], rfl⟩
      · refine sat_brk fun hf2 => sat_next (sat_seq ?_)
        have r70 := G70_at hat.rets (by have := hat.sr; omega) hc3 ha3 (fun n hn => isN_iff.2 (hret n hn))
        have q6' : ((f.rets.length : Int) ≤ 16384) = True := eq_true (by omega)
        obtain ⟨h5, e5, _, f5⟩ := askOk k c f.code f.vars 1 0 (h.n + 1) h' hat.code hok hat.sm (by omega) (by omega) ha3
        have e5' : G72 k [.ptr (h.n + 1) 0, c, .int .i64 1] h' = .ok (.bool true) h5 := e5
        simp only [ss, hps, Nat.reduceEqDiff, Nat.reduceLT, Nat.reduceAdd, Nat.reduceLeDiff, Int.reduceLT, Int.reduceLE, Int.reduceEq, reduceIte, e1, e3, hx3, o70, r70, lr, q6', hc3, o72, e5']
        refine sat_next (sat_ret ⟨rfl, by simp only [ss, hps, Nat.reduceEqDiff, Nat.reduceLT, Nat.reduceAdd, Nat.reduceLeDiff, Int.reduceLT, Int.reduceLE, Int.reduceEq, reduceIte], ?_⟩)
        exact ⟨Nat.le_trans g3.1 f5.1, fun b hb => by rw [f5.2 b (by have := g3.1; omega) (by omega), g3.2 b hb]⟩
  obtain ⟨h2, r1, r2⟩ := rd_done (T := T0) (F := ic37) rfl rfl rfl (by decide) hb rfl
  exact ⟨h2, r1, r2⟩
end Go.Proofs.YtadeojgiiapljaaGreat.Im
