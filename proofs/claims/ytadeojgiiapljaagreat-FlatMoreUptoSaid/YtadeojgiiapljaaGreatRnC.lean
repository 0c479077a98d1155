/- Steps; a node is opened and its list done. -/
import Derived.Test.YtadeojgiiapljaaGreatIcA
import Derived.Test.YtadeojgiiapljaaGreatIcB
import Derived.Test.YtadeojgiiapljaaGreatNdE
import Derived.Test.YtadeojgiiapljaaGreatRnB
set_option linter.unusedSimpArgs false
set_option linter.unusedVariables false
namespace Go.Proofs.YtadeojgiiapljaaGreat.Im
open Go
set_option maxHeartbeats 1000000
theorem Post.pre {x : Cx} {ob : Nat} {lb lb' : Option Nat} {cs cs' : List IV} {h h1 h' : IHeap} {s : St} {errno : Int} {d : Nat} {o : Out} (p : Post x ob lb cs h1 s errno d o h' lb' cs') (g : Grow h h1) : Post x ob lb cs h s errno d o h' lb' cs' :=
  ⟨p.st, p.out, p.lk.mono fun b hb _ => ⟨⟨Nat.le_trans g.1 hb.1, hb.2⟩, rfl⟩, (Fr.grow g).trans p.fr (.inl rfl), by
    rcases p.new with e | ⟨b, e, hb⟩
    · exact .inl e
    · exact .inr ⟨b, e, Nat.le_trans g.1 hb⟩, p.slow⟩
/-- Where a list may be done. -/
structure LIn (x : Cx) (ob : Nat) (lb : Option Nat) (cs : List IV) (h : IHeap) (s : St) (errno : Int) : Prop where
  r : RSt x h s errno
  ho : OutAt h ob lb cs
  sp : OSep x ob lb
  str : ∀ z, IV.str z ∉ cs
  slow : cs.length ≤ 4 * s.steps
  st : s.steps ≤ x.left
  lf : x.left ≤ 1000000
  n0 : 0 < x.n
theorem LIn.grow {x : Cx} {ob : Nat} {lb : Option Nat} {cs : List IV} {h h1 : IHeap} {s : St} {errno : Int} (i : LIn x ob lb cs h s errno) (g : Grow h h1) : LIn x ob lb cs h1 s errno :=
  ⟨i.r.grow g, i.ho.mono (g.2 _ i.ho.lt) (fun b hb => g.2 _ (get_lt (i.ho.row b hb))), i.sp, i.str, i.slow, i.st, i.lf, i.n0⟩
theorem LIn.post {x : Cx} {ob : Nat} {lb lb' : Option Nat} {cs cs' : List IV} {h h' : IHeap} {s : St} {errno : Int} {o : Out} (i : LIn x ob lb cs h s errno) (p : Post x ob lb cs h s errno 0 o h' lb' cs') (he : o.en = none) (hs : o.st.steps ≤ x.left) : LIn x ob lb' (cs ++ cs') h' o.st errno := by
  have st := p.st
  rw [he] at st
  refine ⟨st, p.out, i.sp.new i.r i.ho.lt p.new, fun z hz => ?_, ?_, hs, i.lf, i.n0⟩
  · rcases List.mem_append.1 hz with h | h
    · exact i.str z h
    · exact p.lk.no_str z h
  · have := p.slow; have := i.slow; simp only [List.length_append]; omega
theorem OutAt.set_ne {h : IHeap} {ob : Nat} {lb : Option Nat} {cs : List IV} (ho : OutAt h ob lb cs) {b : Nat} (n1 : ob ≠ b) (n2 : ∀ c, lb = some c → c ≠ b) (o : IObj) : OutAt (h.set b o) ob lb cs :=
  ho.mono (get_set_ne n1) (fun c hc => get_set_ne (n2 c hc))
theorem set_r_post {x : Cx} {ob : Nat} {lb : Option Nat} {cs : List IV} {h : IHeap} {s : St} {errno : Int} (r : RSt x h s errno) (ho : OutAt h ob lb cs) (sp : OSep x ob lb) (st : Nat) (en : Option Int) (tk : Bool) (hst : s.steps ≤ st) :
    Post x ob lb cs h s errno 0 ⟨⟨s.vs, s.bs, st⟩, [], tk, en⟩ (h.set x.rb (runRow x.vb x.n x.mb x.stack x.left st (en.getD errno))) lb [] :=
  ⟨r.set_r st (en.getD errno), by rw [List.append_nil]; exact ho.set_ne sp.o.1 (fun c hc => (sp.l c hc).1) _, .nil, ⟨Nat.le_refl _, fun b _ n1 _ _ _ _ => get_set_ne n1⟩, .inl rfl, by simp; omega⟩
/-- A node is laid into the list; then its own list is done. -/
def emitN (h : IHeap) (ob : Nat) (lb : Option Nat) (cs : List IV) (k : Int) (tk : Bool) : IHeap := emit (h.push (.row [.nils])) ob lb cs [.int .i64 k, .nils, .bool tk, .slice h.n 0 1 1]
theorem emitN_n (h : IHeap) (ob : Nat) (lb : Option Nat) (cs : List IV) (k : Int) (tk : Bool) : (emitN h ob lb cs k tk).n = h.n + 3 := by simp [emitN, emit_n]
theorem emitN_get {h : IHeap} {ob b : Nat} {lb : Option Nat} {cs : List IV} {k : Int} {tk : Bool} (hb : b < h.n) (h1 : b ≠ ob) (h2 : lb ≠ some b) : (emitN h ob lb cs k tk).get b = h.get b := by
  unfold emitN
  rw [emit_get (by simp; omega) h1 h2, get_push_old hb]
theorem emitN_sb {h : IHeap} {ob : Nat} {lb : Option Nat} {cs : List IV} {k : Int} {tk : Bool} (ho : OutAt h ob lb cs) : (emitN h ob lb cs k tk).get h.n = some (.row [.nils]) := by
  have hlt := ho.lt
  unfold emitN
  rw [emit_get (by simp) (by omega) (fun he => by have := get_lt (ho.row _ he); omega), get_push_new]
theorem emitN_out {h : IHeap} {ob : Nat} {lb : Option Nat} {cs : List IV} {k : Int} {tk : Bool} (ho : OutAt h ob lb cs) (hne : ∀ b, lb = some b → b ≠ ob) : OutAt (emitN h ob lb cs k tk) ob (some (h.n + 2)) (cs ++ [.int .i64 k, .nils, .bool tk, .slice h.n 0 1 1]) := by
  have g := Grow.push h (.row [IV.nils])
  have ho' := ho.mono (h' := h.push (.row [IV.nils])) (g.2 _ ho.lt) (fun b hb => g.2 _ (get_lt (ho.row b hb)))
  have := emit_out (new := [.int .i64 k, .nils, .bool tk, .slice h.n 0 1 1]) ho' rfl hne
  exact this
theorem emitN_in {x : Cx} {ob : Nat} {lb : Option Nat} {cs : List IV} {h : IHeap} {s : St} {errno : Int} {k : Int} {tk : Bool} (i : LIn x ob lb cs h s errno) : LIn x h.n none [] (emitN h ob lb cs k tk) s errno := by
  have g := Grow.push h (.row [IV.nils])
  have i' := i.grow g
  obtain ⟨l1, l2, l3⟩ := i.r.lts
  have l4 := i.r.mlt
  refine ⟨emit_st i'.r i'.ho i'.sp i'.str, ⟨emitN_sb i.ho, fun b hb => (by cases hb), fun _ => rfl, rfl⟩, ⟨by omega, fun b hb => (by cases hb)⟩, by simp, by simp, i.st, i.lf, i.n0⟩
theorem node_post {x : Cx} {ob : Nat} {lb lb2 : Option Nat} {cs cs2 : List IV} {h h' : IHeap} {s : St} {errno : Int} {d : Nat} {k : Int} {tk tk' : Bool} {o : Out} (i : LIn x ob lb cs h s errno) (hs : s.steps ≤ o.st.steps)
    (p : Post x h.n none [] (emitN h ob lb cs k tk) s errno d o h' lb2 cs2) : Post x ob lb cs h s errno 4 ⟨o.st, [.node k tk o.L], tk', o.en⟩ h' (some (h.n + 2)) [.int .i64 k, .nils, .bool tk, .slice h.n 0 1 1] := by
  obtain ⟨l1, l2, l3⟩ := i.r.lts
  have lo := i.ho.lt
  have hout := emitN_out (k := k) (tk := tk) i.ho (fun b hb => (i.sp.l b hb).2.2.2.2)
  have hn := emitN_n h ob lb cs k tk
  have so := i.sp.o
  have pout := p.out
  rw [List.nil_append] at pout
  refine ⟨p.st, hout.mono (p.fr.same _ (by omega) so.1 so.2.1 so.2.2.1 (by omega) (by simp)) (fun b hb => ?_), ?_, ⟨Nat.le_trans (by omega) p.fr.n, fun b hb m1 m2 m3 m4 m5 => ?_⟩, .inr ⟨_, rfl, by omega⟩, ?_⟩
  · cases hb
    exact p.fr.same _ (by omega) (by omega) (by omega) (by omega) (by omega) (by simp)
  · have hlb2 : ∀ b, lb2 = some b → h.n + 3 ≤ b := fun b hb => by
      rcases p.new with e | ⟨c, e, hc⟩
      · rw [e] at hb; cases hb
      · rw [e] at hb; cases hb; omega
    have hnode := LkAt.node (h := h') (P := fun b => h.n ≤ b ∧ some (h.n + 2) ≠ some b) (cs := []) (L := []) (k := k) (tk := tk) (sb := h.n) (lb := lb2) ⟨by omega, by simp⟩ pout (fun b hb => ⟨by have := hlb2 b hb; omega, by have := hlb2 b hb; simp; omega⟩)
      (p.lk.mono fun b hb _ => ⟨⟨by have := hb.1; omega, by have := hb.1; simp; omega⟩, rfl⟩) .nil
    exact hnode
  · rw [p.fr.same b (by omega) m1 m2 m3 (by omega) (by simp), emitN_get hb m4 m5]
  · simp only [List.length_cons, List.length_nil]; omega
end Go.Proofs.YtadeojgiiapljaaGreat.Im
namespace Go.Proofs.YtadeojgiiapljaaGreat.Im
open Go
set_option maxHeartbeats 1000000
/-- Nodes that may be, not too many. -/
def okS (vars : Int) (deep : Nat) (l : List Nd) : Prop := okAll vars deep l = true ∧ small l = true
/-- L does lists of nodes that may be, at most k deep. -/
def ListOk (k : Nat) (L : List IV → M IV) : Prop := ∀ (x : Cx) (vars : Int) (deep : Nat) (l : List Nd) (v : IV), vars ≤ x.n → decNds k v = some l → okS vars deep l →
  ∀ (ob : Nat) (lb : Option Nat) (cs : List IV) (h : IHeap) (s : St) (errno : Int), LIn x ob lb cs h s errno → Ends x ob lb cs h s errno 0 (fun _ => .tup []) (fun o => Run x.c x.left (.lst l) s o) (L [.ptr x.rb 0, v, .ptr ob 0] h)
noncomputable def G186 (L : List IV → M IV) : List IV → M IV := bodyI T0 (ocons 40 L onil) 0 ic186
theorem iaddr_lit0a (sz b off len s : Nat) (hl : 0 < len) : iaddrV sz (.aslice b off len s) 0 = some (.ptr b off) := by simp [iaddrV, hl]
/-- Parts of a node that may be. -/
structure NdOk (x : Cx) (k : Nat) (nd : Nd) (a b c : IV) (vars : Int) (deep : Nat) : Prop where
  at_ : NdAt k nd a b c
  vn : vars ≤ x.n
  c0 : 0 ≤ nd.cond ∧ nd.cond < x.n
  oa : okS vars deep nd.ahead
  ob : okS vars deep nd.body
theorem app_node {h : IHeap} {ob : Nat} {lb : Option Nat} {cs : List IV} {k : Int} {tk : Bool} (ho : OutAt h ob lb cs) (hs : cs.length ≤ 8000000) :
    appendI 4 64 (vOf lb cs) (.slice (h.n + 1) 0 1 1) ((h.push (.row [.nils])).push (.row [.int .i64 k, .nils, .bool tk, .slice h.n 0 1 1])) = .ok (.aslice (h.n + 2) 0 (cs.length / 4 + 1) 4) ((kill ((h.push (.row [.nils])).push (.row [.int .i64 k, .nils, .bool tk, .slice h.n 0 1 1])) lb).push (.row (cs ++ [.int .i64 k, .nils, .bool tk, .slice h.n 0 1 1]))) := by
  have g := Grow.push h (.row [IV.nils])
  have ho' := ho.mono (h' := h.push (.row [IV.nils])) (g.2 _ ho.lt) (fun b hb => g.2 _ (get_lt (ho.row b hb)))
  exact app_out (new := [.int .i64 k, .nils, .bool tk, .slice h.n 0 1 1]) ho' rfl rfl hs
theorem node_at {cs : List IV} {k : Int} {tk : Bool} {sb : Nat} (h4 : cs.length % 4 = 0) : (cs ++ [.int .i64 k, .nils, .bool tk, .slice sb 0 1 1])[cs.length / 4 * 4 + 3]? = some (.slice sb 0 1 1) := by
  have : cs.length / 4 * 4 = cs.length := by omega
  rw [this, List.getElem?_append_right (by omega)]
  simp
theorem b186 {L : List IV → M IV} {x : Cx} {k : Nat} {nd : Nd} {a b c ve : IV} {els : List Nd} {vars : Int} {deep : Nat} {ob : Nat} {lb : Option Nat} {cs : List IV} {h : IHeap} {s : St} {errno : Int} (hL : ListOk k L) (hN : NdOk x k nd a b c vars deep) (hve : decNds k ve = some els) (hels : okS vars deep els)
    (i : LIn x ob lb cs h s errno) (hsl : cs.length + 4 ≤ 4 * s.steps) :
    (ix (ocons 40 L onil) 0 ic186.body (startI 0 [.ptr x.rb 0, .agg (nd.cells a b c), ve, .ptr ob 0]) h).sat
      (fun y e' h' => y = .ret ∧ ∃ o lb' cs', o.en = none ∧ e'.get 8 = some (.bool o.tk) ∧ Run x.c x.left (.br nd els) s o ∧ Post x ob lb cs h s errno 4 o h' lb' cs')
      (fun v _ h' => v = endV ∧ ∃ o lb' cs', o.en ≠ none ∧ Run x.c x.left (.br nd els) s o ∧ Post x ob lb cs h s errno 4 o h' lb' cs') := by
  have o40 : (ocons 40 L onil) 40 = L := rfl
  have oa := dec_one hN.at_.ahead
  have obo := dec_one hN.at_.body
  have oc := dec_one hN.at_.els
  obtain ⟨l1, l2, l3⟩ := i.r.lts
  have l4 := i.r.mlt
  have lo := i.ho.lt
  have so := i.sp.o
  have g1 := Grow.push h (.row (nd.cells a b c))
  have i1 := i.grow g1
  obtain ⟨o1, h2, lb1, cs1, p1, run1, hok, hpn⟩ := hL x vars deep nd.ahead a hN.vn hN.at_.ahead hN.oa ob lb cs _ s errno i1
  unfold ic186
  simp only [start_cons, start_nil]
  refine sat_seq ?_
  have hcl : (nd.cells a b c).all (·.one) = true := by simp [Nd.cells, IV.one, oa, obo, oc]; exact ⟨oa, obo, oc⟩
  have hc10 : (nd.cells a b c)[10]? = some a := rfl
  have hc11 : (nd.cells a b c)[11]? = some b := rfl
  have hc9 : (nd.cells a b c)[9]? = some (.int .i64 nd.cond) := rfl
  simp only [ss, hps, Nat.reduceEqDiff, Nat.reduceLT, Nat.reduceAdd, Nat.reduceLeDiff, Int.reduceLT, Int.reduceLE, Int.reduceEq, reduceIte, rowIf_ok, hcl]
  refine sat_next (sat_seq ?_)
  cases he1 : o1.en with
  | some en =>
    have r1 := hpn (by rw [he1]; simp)
    simp only [ss, hps, Nat.reduceEqDiff, Nat.reduceLT, Nat.reduceAdd, Nat.reduceLeDiff, Int.reduceLT, Int.reduceLE, Int.reduceEq, reduceIte, hc10, o40, r1, regK_panic]
    have p := p1.pre g1
    exact ⟨rfl, ⟨o1.st, o1.L, false, o1.en⟩, lb1, cs1, by simp [he1], .brX run1 (by simp [he1]), { p with slow := by have := p.slow; simp only; omega }⟩
  | none =>
    have r1 := hok he1
    simp only [ss, hps, Nat.reduceEqDiff, Nat.reduceLT, Nat.reduceAdd, Nat.reduceLeDiff, Int.reduceLT, Int.reduceLE, Int.reduceEq, reduceIte, hc10, o40, r1]
    have hst1 := (run1.steps i.st)
    have p1' := p1.pre g1
    have i2 := i.post p1' he1 hst1.1
    have hx2 : h2.get h.n = some (.row (nd.cells a b c)) := by
      rw [p1.fr.same h.n (by simp) (by omega) (by omega) (by omega) (by omega) (fun he => by have := get_lt (i.ho.row _ he); omega)]
      exact get_push_new
    have hrow2 : h2.get x.rb = some (.row [.slice x.vb 0 x.n x.n, .ptr x.mb 0, .int .u64 x.stack, .int .i64 x.left, .int .i64 o1.st.steps, .int .i64 errno]) := i2.r.r
    have hv2 := i2.r.v
    obtain ⟨kc, hkc, hkn⟩ := nat_of hN.c0.1 hN.c0.2
    have hat := rowV_at (vs := o1.st.vs) (i := kc) (by rw [i2.r.vn]; exact hkn)
    have hvc : o1.st.v nd.cond = o1.st.vs.getD kc 0 := by rw [hkc]; rfl
    refine sat_next (sat_seq ?_)
    simp only [ss, hps, Nat.reduceEqDiff, Nat.reduceLT, Nat.reduceAdd, Nat.reduceLeDiff, Int.reduceLT, Int.reduceLE, Int.reduceEq, reduceIte, hrow2, hx2, hc9, nilchk_ptr, hkc, hkn, hv2, hat]
    generalize htk : decide (¬ o1.st.vs.getD kc 0 = 0) = tk
    refine sat_next (sat_seq ?_)
    have hc2 := i2.ho.cell'
    have hlen : (cs ++ cs1).length ≤ 8000000 := by have := i2.slow; have := i2.st; have := i2.lf; omega
    have hap := app_node (k := 2) (tk := tk) i2.ho hlen
    have hlt2 := i2.ho.lt
    have hk2 : (kill ((h2.push (.row [.nils])).push (.row [.int .i64 2, .nils, .bool tk, .slice h2.n 0 1 1])) lb1).n = h2.n + 2 := by rw [kill_n]; rfl
    have hne2 : ∀ b, lb1 = some b → b ≠ ob := fun b hb => (i2.sp.l b hb).2.2.2.2
    have hg2 : (kill ((h2.push (.row [.nils])).push (.row [.int .i64 2, .nils, .bool tk, .slice h2.n 0 1 1])) lb1).get ob = some (.row [vOf lb1 (cs ++ cs1)]) := by
      rw [kill_get (fun he => hne2 _ he rfl), get_push_old (by simp; omega), get_push_old hlt2]; exact hc2
    have n1 : (ob = h2.n + 2) = False := by simp; omega
    have n2 : (ob = h2.n) = False := by simp; omega
    simp only [ss, hps, Nat.reduceEqDiff, Nat.reduceLT, Nat.reduceAdd, Nat.reduceLeDiff, Int.reduceLT, Int.reduceLE, Int.reduceEq, reduceIte, hc2, nilchk_ptr, rowIf_ok, setCells, hap, hk2, hg2, n1, cells_sl, cells_nils, cells_asl]
    refine sat_next (sat_seq ?_)
    have hE : ((kill ((h2.push (.row [.nils])).push (.row [.int .i64 2, .nils, .bool tk, .slice h2.n 0 1 1])) lb1).push (.row ((cs ++ cs1) ++ [.int .i64 2, .nils, .bool tk, .slice h2.n 0 1 1]))).set ob (.row [.aslice (h2.n + 2) 0 ((cs ++ cs1).length / 4 + 1) 4]) = emitN h2 ob lb1 (cs ++ cs1) 2 tk := rfl
    rw [hE]
    have i3 := emitN_in (k := 2) (tk := tk) i2
    have ho3 := emitN_out (k := 2) (tk := tk) i2.ho hne2
    have hob3 := ho3.cell
    have hrw3 := ho3.row _ rfl
    have hsb3 := emitN_sb (k := 2) (tk := tk) (lb := lb1) i2.ho
    have hm : ((cs ++ cs1) ++ ([.int .i64 2, .nils, .bool tk, .slice h2.n 0 1 1] : List IV)).length / 4 = (cs ++ cs1).length / 4 + 1 := by simp; omega
    simp only [hm] at hob3
    have hnat := node_at (k := 2) (tk := tk) (sb := h2.n) i2.ho.len
    have hx3 : (emitN h2 ob lb1 (cs ++ cs1) 2 tk).get h.n = some (.row (nd.cells a b c)) := by
      rw [emitN_get (get_lt hx2) (by omega) ?_]
      · exact hx2
      · intro he
        rcases p1'.new with e | ⟨q, e, hq⟩
        · rw [e] at he; have := get_lt (i.ho.row _ he); omega
        · rw [e] at he; cases he
          have := i2.ho.row _ e
          rw [hx2] at this
          have := congrArg List.length (IObj.row.inj (Option.some.inj this))
          simp [Nd.cells] at this
          have h4 := i2.ho.len
          simp at h4
          omega
    generalize hE3 : emitN h2 ob lb1 (cs ++ cs1) 2 tk = h3 at *
    have w1 : IntKind.i64.wrap (((((cs ++ cs1).length / 4 + 1 : Nat) : Int)) - 1) = (((cs ++ cs1).length / 4 : Nat) : Int) := by rw [wrap_i64 (by omega) (by omega)]; omega
    have hlt5 : (cs ++ cs1).length / 4 < (cs ++ cs1).length / 4 + 1 := by omega
    simp only [ss, hps, Nat.reduceEqDiff, Nat.reduceLT, Nat.reduceAdd, Nat.reduceLeDiff, Int.reduceLT, Int.reduceLE, Int.reduceEq, reduceIte, hob3, hrw3, hsb3, hx3, nilchk_ptr, w1, hlt5, hnat, iaddr_lit0]
    have fin : ∀ (o2 : Out) (h4 : IHeap) (lb2 : Option Nat) (cs2 : List IV) (wl : List Nd), wl = (if tk = true then nd.body else els) → Post x h2.n none [] h3 o1.st errno 0 o2 h4 lb2 cs2 → Run x.c x.left (.lst wl) o1.st o2 →
        ∃ lb' cs', Run x.c x.left (.br nd els) s ⟨o2.st, o1.L ++ [.node 2 tk o2.L], tk, o2.en⟩ ∧ Post x ob lb cs h s errno 4 ⟨o2.st, o1.L ++ [.node 2 tk o2.L], tk, o2.en⟩ h4 lb' cs' := by
      intro o2 h4 lb2 cs2 wl hwl p2 run2
      have hst2 := run2.steps hst1.1
      rw [← hE3] at p2
      have pn := node_post (tk' := tk) i2 hst2.2 p2
      have pt := Post.trans i.r lo p1' pn tk
      refine ⟨_, _, ?_, { pt with slow := by have := pt.slow; simp only at this ⊢; omega }⟩
      cases tk with
      | true =>
        simp only [if_true] at hwl
        subst hwl
        exact .brT run1 he1 (by rw [hvc]; simpa using htk) run2
      | false =>
        simp only [Bool.false_eq_true, if_false] at hwl
        subst hwl
        exact .brF run1 he1 (by rw [hvc]; simpa using htk) run2
    refine sat_next (sat_seq ?_)
    cases tk with
    | true =>
      obtain ⟨o2, h4, lb2, cs2, p2, run2, hok2, hpn2⟩ := hL x vars deep nd.body b hN.vn hN.at_.body hN.ob h2.n none [] h3 o1.st errno i3
      obtain ⟨lb', cs', rr, pp⟩ := fin o2 h4 lb2 cs2 nd.body rfl p2 run2
      simp only [ss, hps, Nat.reduceEqDiff, Nat.reduceLT, Nat.reduceAdd, Nat.reduceLeDiff, Int.reduceLT, Int.reduceLE, Int.reduceEq, reduceIte, hx3, hc11]
      refine sat_next (sat_seq ?_)
      cases he2 : o2.en with
      | some en =>
        have r2 := hpn2 (by rw [he2]; simp)
        simp only [ss, hps, Nat.reduceEqDiff, Nat.reduceLT, Nat.reduceAdd, Nat.reduceLeDiff, Int.reduceLT, Int.reduceLE, Int.reduceEq, reduceIte, o40, r2, regK_panic]
        exact ⟨rfl, _, lb', cs', by simp [he2], rr, pp⟩
      | none =>
        have r2 := hok2 he2
        simp only [ss, hps, Nat.reduceEqDiff, Nat.reduceLT, Nat.reduceAdd, Nat.reduceLeDiff, Int.reduceLT, Int.reduceLE, Int.reduceEq, reduceIte, o40, r2]
        refine sat_next (sat_seq ?_)
        simp only [ss, hps, Nat.reduceEqDiff, Nat.reduceLT, Nat.reduceAdd, Nat.reduceLeDiff, Int.reduceLT, Int.reduceLE, Int.reduceEq, reduceIte]
        refine sat_next (sat_ret ⟨rfl, ⟨o2.st, o1.L ++ [.node 2 true o2.L], true, o2.en⟩, lb', cs', he2, ?_, rr, pp⟩)
        simp only [ss, hps, Nat.reduceEqDiff, Nat.reduceLT, Nat.reduceAdd, Nat.reduceLeDiff, Int.reduceLT, Int.reduceLE, Int.reduceEq, reduceIte]
    | false =>
      obtain ⟨o2, h4, lb2, cs2, p2, run2, hok2, hpn2⟩ := hL x vars deep els ve hN.vn hve hels h2.n none [] h3 o1.st errno i3
      obtain ⟨lb', cs', rr, pp⟩ := fin o2 h4 lb2 cs2 els rfl p2 run2
      simp only [ss, hps, Nat.reduceEqDiff, Nat.reduceLT, Nat.reduceAdd, Nat.reduceLeDiff, Int.reduceLT, Int.reduceLE, Int.reduceEq, reduceIte, hx3, hc11]
      refine sat_next (sat_seq ?_)
      cases he2 : o2.en with
      | some en =>
        have r2 := hpn2 (by rw [he2]; simp)
        simp only [ss, hps, Nat.reduceEqDiff, Nat.reduceLT, Nat.reduceAdd, Nat.reduceLeDiff, Int.reduceLT, Int.reduceLE, Int.reduceEq, reduceIte, o40, r2, regK_panic]
        exact ⟨rfl, _, lb', cs', by simp [he2], rr, pp⟩
      | none =>
        have r2 := hok2 he2
        simp only [ss, hps, Nat.reduceEqDiff, Nat.reduceLT, Nat.reduceAdd, Nat.reduceLeDiff, Int.reduceLT, Int.reduceLE, Int.reduceEq, reduceIte, o40, r2]
        refine sat_next (sat_seq ?_)
        simp only [ss, hps, Nat.reduceEqDiff, Nat.reduceLT, Nat.reduceAdd, Nat.reduceLeDiff, Int.reduceLT, Int.reduceLE, Int.reduceEq, reduceIte]
        refine sat_next (sat_ret ⟨rfl, ⟨o2.st, o1.L ++ [.node 2 false o2.L], false, o2.en⟩, lb', cs', he2, ?_, rr, pp⟩)
        simp only [ss, hps, Nat.reduceEqDiff, Nat.reduceLT, Nat.reduceAdd, Nat.reduceLeDiff, Int.reduceLT, Int.reduceLE, Int.reduceEq, reduceIte]
theorem G186_at {L : List IV → M IV} {x : Cx} {k : Nat} {nd : Nd} {a b c ve : IV} {els : List Nd} {vars : Int} {deep : Nat} {ob : Nat} {lb : Option Nat} {cs : List IV} {h : IHeap} {s : St} {errno : Int} (hL : ListOk k L) (hN : NdOk x k nd a b c vars deep) (hve : decNds k ve = some els) (hels : okS vars deep els)
    (i : LIn x ob lb cs h s errno) (hsl : cs.length + 4 ≤ 4 * s.steps) : Ends x ob lb cs h s errno 4 (fun o => .bool o.tk) (fun o => Run x.c x.left (.br nd els) s o) (G186 L [.ptr x.rb 0, .agg (nd.cells a b c), ve, .ptr ob 0] h) := by
  unfold G186
  rw [body_eq rfl rfl rfl (by decide)]
  rcases sat_inv (b186 hL hN hve hels i hsl) with ⟨y, e', h', h1, rfl, o, lb', cs', he, h8, hr, hp⟩ | ⟨v, e', h', h1, rfl, o, lb', cs', he, hr, hp⟩
  · refine ⟨o, h', lb', cs', hp, hr, fun _ => ?_, fun hh => absurd he hh⟩
    rw [h1]
    simp only [ss, hps, Nat.reduceEqDiff, Nat.reduceLT, Nat.reduceAdd, Nat.reduceLeDiff, Int.reduceLT, Int.reduceLE, Int.reduceEq, reduceIte, ic186, h8]
  · exact ⟨o, h', lb', cs', hp, hr, fun hh => absurd hh he, fun _ => by rw [h1]; rfl⟩
noncomputable def G129 (L : List IV → M IV) : List IV → M IV := bodyI T0 (ocons 186 (G186 L) onil) 0 ic129
theorem G129_at {L : List IV → M IV} {x : Cx} {k : Nat} {nd : Nd} {a b c : IV} {vars : Int} {deep : Nat} {ob : Nat} {lb : Option Nat} {cs : List IV} {h : IHeap} {s : St} {errno : Int} (hL : ListOk k L) (hN : NdOk x k nd a b c vars deep) (hels : okS vars deep nd.els)
    (i : LIn x ob lb cs h s errno) (hsl : cs.length + 4 ≤ 4 * s.steps) : Ends x ob lb cs h s errno 4 (fun _ => .tup []) (fun o => Run x.c x.left (.br nd nd.els) s o) (G129 L [.ptr x.rb 0, .agg (nd.cells a b c), .ptr ob 0] h) := by
  have oa := dec_one hN.at_.ahead
  have obo := dec_one hN.at_.body
  have oc := dec_one hN.at_.els
  have hcl : (nd.cells a b c).all (·.one) = true := by simp [Nd.cells, IV.one, oa, obo, oc]; exact ⟨oa, obo, oc⟩
  have g1 := Grow.push h (.row (nd.cells a b c))
  obtain ⟨o, h', lb', cs', hp, hr, hok, hpn⟩ := G186_at hL hN hN.at_.els hels (i.grow g1) hsl
  have o186 : (ocons 186 (G186 L) onil) 186 = G186 L := rfl
  have hc12 : (nd.cells a b c)[12]? = some c := rfl
  have hl : (nd.cells a b c).length = 13 := rfl
  have htk : (nd.cells a b c).take 13 = nd.cells a b c := rfl
  refine ⟨o, h', lb', cs', hp.pre g1, hr, fun he => ?_, fun he => ?_⟩
  · have r := hok he
    unfold G129
    rw [body_eq rfl rfl rfl (by decide)]
    simp only [ss, hps, Nat.reduceEqDiff, Nat.reduceLT, Nat.reduceAdd, Nat.reduceLeDiff, Int.reduceLT, Int.reduceLE, Int.reduceEq, reduceIte, ic129, rowIf_ok, hcl, hc12, hl, htk, o186, r]
  · have r := hpn he
    unfold G129
    rw [body_eq rfl rfl rfl (by decide)]
    simp only [ss, hps, Nat.reduceEqDiff, Nat.reduceLT, Nat.reduceAdd, Nat.reduceLeDiff, Int.reduceLT, Int.reduceLE, Int.reduceEq, reduceIte, ic129, rowIf_ok, hcl, hc12, hl, htk, o186, r, regK_panic]
end Go.Proofs.YtadeojgiiapljaaGreat.Im
namespace Go.Proofs.YtadeojgiiapljaaGreat.Im
open Go
set_option maxHeartbeats 1000000
noncomputable def O130 (L : List IV → M IV) : Orc := ocons 76 G76 (ocons 186 (G186 L) onil)
theorem decNds_nils {k : Nat} {v : IV} {l : List Nd} (h : decNds k v = some l) : decNds k .nils = some [] := by
  cases k with
  | zero => cases h
  | succ k => rfl
theorem b130 {L : List IV → M IV} {x : Cx} {k : Nat} {nd : Nd} {a b c : IV} {vars : Int} {deep : Nat} {ob : Nat} {lb : Option Nat} {cs : List IV} {h : IHeap} {s : St} {errno : Int} (hL : ListOk k L) (hN : NdOk x k nd a b c vars deep)
    (i : LIn x ob lb cs h s errno) :
    (ix (O130 L) 4000010 ic130.body (startI 0 [.ptr x.rb 0, .agg (nd.cells a b c), .ptr ob 0]) h).sat
      (fun y e' h' => y = .normal ∧ ∃ o lb' cs', o.en = none ∧ Run x.c x.left (.lp nd) s o ∧ Post x ob lb cs h s errno 4 ⟨o.st, [.node 3 false o.L], false, o.en⟩ h' lb' cs')
      (fun v _ h' => v = endV ∧ ∃ o lb' cs', o.en ≠ none ∧ Run x.c x.left (.lp nd) s o ∧ Post x ob lb cs h s errno 4 ⟨o.st, [.node 3 false o.L], false, o.en⟩ h' lb' cs') := by
  have o76 : O130 L 76 = G76 := rfl
  have o186 : O130 L 186 = G186 L := rfl
  have oa := dec_one hN.at_.ahead
  have obo := dec_one hN.at_.body
  have oc := dec_one hN.at_.els
  have hcl : (nd.cells a b c).all (·.one) = true := by simp [Nd.cells, IV.one, oa, obo, oc]; exact ⟨oa, obo, oc⟩
  have hl13 : (nd.cells a b c).length = 13 := rfl
  have htk : (nd.cells a b c).take 13 = nd.cells a b c := rfl
  obtain ⟨l1, l2, l3⟩ := i.r.lts
  have l4 := i.r.mlt
  have lo := i.ho.lt
  have g1 := Grow.push h (.row (nd.cells a b c))
  have i2 := i.grow g1
  unfold ic130
  simp only [start_cons, start_nil]
  refine sat_seq ?_
  simp only [ss, hps, Nat.reduceEqDiff, Nat.reduceLT, Nat.reduceAdd, Nat.reduceLeDiff, Int.reduceLT, Int.reduceLE, Int.reduceEq, reduceIte, rowIf_ok, hcl]
  refine sat_next (sat_seq ?_)
  have hx2 : (h.push (.row (nd.cells a b c))).get h.n = some (.row (nd.cells a b c)) := get_push_new
  have hn2 : (h.push (.row (nd.cells a b c))).n = h.n + 1 := rfl
  generalize h.push (.row (nd.cells a b c)) = h2 at *
  have hc2 := i2.ho.cell'
  have hlen : cs.length ≤ 8000000 := by have := i2.slow; have := i2.st; have := i2.lf; omega
  have hap := app_node (k := 3) (tk := false) i2.ho hlen
  have hlt2 := i2.ho.lt
  have hk2 : (kill ((h2.push (.row [.nils])).push (.row [.int .i64 3, .nils, .bool false, .slice h2.n 0 1 1])) lb).n = h2.n + 2 := by rw [kill_n]; rfl
  have hne2 : ∀ b, lb = some b → b ≠ ob := fun b hb => (i2.sp.l b hb).2.2.2.2
  have hg2 : (kill ((h2.push (.row [.nils])).push (.row [.int .i64 3, .nils, .bool false, .slice h2.n 0 1 1])) lb).get ob = some (.row [vOf lb cs]) := by
    rw [kill_get (fun he => hne2 _ he rfl), get_push_old (by simp; omega), get_push_old hlt2]; exact hc2
  have n1 : (ob = h2.n + 2) = False := by simp; omega
  have n2 : (ob = h2.n) = False := by simp; omega
  simp only [ss, hps, Nat.reduceEqDiff, Nat.reduceLT, Nat.reduceAdd, Nat.reduceLeDiff, Int.reduceLT, Int.reduceLE, Int.reduceEq, reduceIte, hc2, nilchk_ptr, rowIf_ok, setCells, hap, hk2, hg2, n1, cells_sl, cells_nils, cells_asl]
  refine sat_next (sat_seq ?_)
  have hE : ((kill ((h2.push (.row [.nils])).push (.row [.int .i64 3, .nils, .bool false, .slice h2.n 0 1 1])) lb).push (.row (cs ++ [.int .i64 3, .nils, .bool false, .slice h2.n 0 1 1]))).set ob (.row [.aslice (h2.n + 2) 0 (cs.length / 4 + 1) 4]) = emitN h2 ob lb cs 3 false := rfl
  rw [hE]
  have i3 := emitN_in (k := 3) (tk := false) i2
  have ho3 := emitN_out (k := 3) (tk := false) i2.ho hne2
  have hob3 := ho3.cell
  have hrw3 := ho3.row _ rfl
  have hsb3 := emitN_sb (k := 3) (tk := false) (lb := lb) i2.ho
  have hm : (cs ++ ([.int .i64 3, .nils, .bool false, .slice h2.n 0 1 1] : List IV)).length / 4 = cs.length / 4 + 1 := by simp
  simp only [hm] at hob3
  have hnat := node_at (k := 3) (tk := false) (sb := h2.n) i2.ho.len
  have hx3 : (emitN h2 ob lb cs 3 false).get h.n = some (.row (nd.cells a b c)) := by
    rw [emitN_get (by omega) (by omega) (fun he => by have := get_lt (i.ho.row _ he); omega)]; exact hx2
  have hn3 := emitN_n h2 ob lb cs 3 false
  generalize hE3 : emitN h2 ob lb cs 3 false = h3 at *
  have w1 : IntKind.i64.wrap ((((cs.length / 4 + 1 : Nat) : Int)) - 1) = ((cs.length / 4 : Nat) : Int) := by rw [wrap_i64 (by omega) (by omega)]; omega
  have hlt5 : cs.length / 4 < cs.length / 4 + 1 := by omega
  simp only [ss, hps, Nat.reduceEqDiff, Nat.reduceLT, Nat.reduceAdd, Nat.reduceLeDiff, Int.reduceLT, Int.reduceLE, Int.reduceEq, reduceIte, hob3, hrw3, hsb3, nilchk_ptr, w1, hlt5, hnat, iaddr_lit0]
  refine sat_next (sat_seq ?_)
  simp only [ss, hps, Nat.reduceEqDiff, Nat.reduceLT, Nat.reduceAdd, Nat.reduceLeDiff, Int.reduceLT, Int.reduceLE, Int.reduceEq, reduceIte]
  have fin : ∀ (o : Out) (h' : IHeap) (lb' : Option Nat) (cs' : List IV) (d : Nat), Run x.c x.left (.lp nd) s o → Post x h2.n none [] h3 s errno d o h' lb' cs' → ∃ lb'' cs'', Post x ob lb cs h s errno 4 ⟨o.st, [.node 3 false o.L], false, o.en⟩ h' lb'' cs'' := by
    intro o h' lb' cs' d hr hp
    rw [← hE3] at hp
    exact ⟨_, _, (node_post (tk' := false) i2 (hr.steps i.st).2 hp).pre g1⟩
  refine sat_next (sat_block (sat_loop (fun m e h' => ∃ (s' : St) (L' : List RL) (lb' : Option Nat) (cs' : List IV) (ag : Bool), m + s'.steps = x.left + 2 ∧ e.get 7 = some (.bool ag) ∧ Post x h2.n none [] h3 s errno 0 ⟨s', L', false, none⟩ h' lb' cs' ∧ s'.steps ≤ x.left ∧
    (ag = true → ∀ o, Run x.c x.left (.lp nd) s' o → Run x.c x.left (.lp nd) s ⟨o.st, L' ++ o.L, false, o.en⟩) ∧ (ag = false → Run x.c x.left (.lp nd) s ⟨s', L', false, none⟩)) (x.left + 2 - s.steps) (by have := i.lf; omega) ?_ ?_))
  · refine ⟨s, [], none, [], true, by have := i.st; omega, by simp only [ss, hps, Nat.reduceEqDiff, Nat.reduceLT, Nat.reduceAdd, Nat.reduceLeDiff, Int.reduceLT, Int.reduceLE, Int.reduceEq, reduceIte], ⟨i3.r, i3.ho, .nil, Fr.refl _ _ _ _, .inl rfl, by simp⟩, i.st, fun _ o ho => ?_, fun hh => by cases hh⟩
    cases o with
    | mk st Lo tk en =>
      simp only [List.nil_append]
      cases ho with
      | lpO h => exact .lpO h
      | lpX h hb he => exact .lpX h hb he
      | lpE h hb he ht => exact .lpE h hb he ht
      | lpM h hb he ht hr => exact .lpM h hb he ht hr
  · rintro m e h' ⟨s', L', lb', cs', ag, hm', h7, hp, hst, hT, hF⟩ hf
    have e0 := hf 0 rfl
    have e4 := hf 4 rfl
    have e6 := hf 6 rfl
    simp only [ss, hps, Nat.reduceEqDiff, Nat.reduceLT, Nat.reduceAdd, Nat.reduceLeDiff, Int.reduceLT, Int.reduceLE, Int.reduceEq, reduceIte, get_put, puto_some] at e0 e4 e6
    clear hf
    refine sat_seq (sat_seq ?_)
    simp only [ss, hps, Nat.reduceEqDiff, Nat.reduceLT, Nat.reduceAdd, Nat.reduceLeDiff, Int.reduceLT, Int.reduceLE, Int.reduceEq, reduceIte, h7]
    refine sat_next (sat_condK ?_)
    simp only [ss, hps, Nat.reduceEqDiff, Nat.reduceLT, Nat.reduceAdd, Nat.reduceLeDiff, Int.reduceLT, Int.reduceLE, Int.reduceEq, reduceIte]
    cases ag with
    | false =>
      simp only [ss, hps, Nat.reduceEqDiff, Nat.reduceLT, Nat.reduceAdd, Nat.reduceLeDiff, Int.reduceLT, Int.reduceLE, Int.reduceEq, reduceIte]
      refine sat_brk (X := fun v _ h' => v = endV ∧ ∃ o lb' cs', o.en ≠ none ∧ Run x.c x.left (.lp nd) s o ∧ Post x ob lb cs h s errno 4 ⟨o.st, [.node 3 false o.L], false, o.en⟩ h' lb' cs') fun _ => ?_
      have hr := hF rfl
      obtain ⟨lb'', cs'', pp⟩ := fin _ h' lb' cs' 0 hr hp
      exact ⟨rfl, ⟨s', L', false, none⟩, lb'', cs'', rfl, hr, pp⟩
    | true =>
      have ii := i3.post hp rfl hst
      rw [List.nil_append] at ii
      simp only at ii
      have pout := hp.out
      rw [List.nil_append] at pout
      have hx' : h'.get h.n = some (.row (nd.cells a b c)) := by
        rw [hp.fr.same h.n (by omega) (by omega) (by omega) (by omega) (by omega) (by simp)]; exact hx3
      simp only [ss, hps, Nat.reduceEqDiff, Nat.reduceLT, Nat.reduceAdd, Nat.reduceLeDiff, Int.reduceLT, Int.reduceLE, Int.reduceEq, reduceIte]
      refine sat_skip (sat_block (sat_seq ?_))
      by_cases q : s'.steps = x.left
      · have hrr : h'.get x.rb = some (runRow x.vb x.n x.mb x.stack x.left x.left errno) := by have := ii.r.r; rw [q] at this; exact this
        have r76 := G76_end hrr
        have pe := set_r_post (x := x) ii.r pout ii.sp x.left (some 7) false (by omega)
        have pt := Post.trans i3.r i3.ho.lt hp (by rw [List.nil_append]; exact pe) false
        have hr := hT rfl _ (Run.lpO q)
        have e1 : (⟨s'.vs, s'.bs, x.left⟩ : St) = s' := by rw [← q]
        simp only [e1] at pt
        obtain ⟨lb'', cs'', pp⟩ := fin _ _ _ _ _ hr pt
        simp only [ss, hps, Nat.reduceEqDiff, Nat.reduceLT, Nat.reduceAdd, Nat.reduceLeDiff, Int.reduceLT, Int.reduceLE, Int.reduceEq, reduceIte, e0, o76, r76, regK_panic]
        exact fun _ => ⟨rfl, ⟨s', L' ++ [], false, some 7⟩, lb'', cs'', by simp, hr, pp⟩
      · have q' : ¬ ((s'.steps : Int) = (x.left : Int)) := by omega
        have r76 := G76_at ii.r.r q' (by have := ii.lf; omega)
        have pe := set_r_post (x := x) ii.r pout ii.sp (s'.steps + 1) none false (by omega)
        simp only [Option.getD_none] at pe
        have ptk := Post.trans i3.r i3.ho.lt hp (by rw [List.nil_append]; exact pe) false
        have hx5 : (h'.set x.rb (runRow x.vb x.n x.mb x.stack x.left ((s'.steps + 1 : Nat) : Int) errno)).get h.n = some (.row (nd.cells a b c)) := by rw [get_set_ne (by omega)]; exact hx'
        have i5 := ii.post pe rfl (by show s'.steps + 1 ≤ x.left; omega)
        rw [List.append_nil] at i5
        simp only at i5
        simp only [ss, hps, Nat.reduceEqDiff, Nat.reduceLT, Nat.reduceAdd, Nat.reduceLeDiff, Int.reduceLT, Int.reduceLE, Int.reduceEq, reduceIte, e0, o76, r76]
        refine sat_next ?_
        obtain ⟨o2, h6, lb6, cs6, p6, run6, hok6, hpn6⟩ := G186_at hL hN (decNds_nils hN.at_.ahead) (els := []) ⟨rfl, rfl⟩ i5 (by have := ii.slow; show _ ≤ 4 * (s'.steps + 1); omega)
        have p6' := p6
        have pt := Post.trans i3.r i3.ho.lt ptk (by simp only [List.nil_append, List.append_nil]; exact p6) false
        have hst6 := run6.steps i5.st
        have hst6' : s'.steps + 1 ≤ o2.st.steps := hst6.2
        have pt0 : Post x h2.n none [] h3 s errno 0 ⟨o2.st, (L' ++ []) ++ o2.L, false, o2.en⟩ h6 lb6 ((cs' ++ []) ++ cs6) := { pt with slow := by have := p6.slow; have := hp.slow; simp at *; omega }
        simp only [List.append_nil] at pt0
        cases he6 : o2.en with
        | some en =>
          have r6 := hpn6 (by rw [he6]; simp)
          have hr := hT rfl _ (Run.lpX q run6 (by rw [he6]; simp))
          obtain ⟨lb'', cs'', pp⟩ := fin _ _ _ _ _ hr pt0
          simp only [ss, hps, Nat.reduceEqDiff, Nat.reduceLT, Nat.reduceAdd, Nat.reduceLeDiff, Int.reduceLT, Int.reduceLE, Int.reduceEq, reduceIte, e0, e4, e6, hx5, hl13, htk, o186, r6, regK_panic]
          exact fun _ => ⟨rfl, _, lb'', cs'', by simp [he6], hr, pp⟩
        | none =>
          have r6 := hok6 he6
          rw [he6] at pt0
          simp only [ss, hps, Nat.reduceEqDiff, Nat.reduceLT, Nat.reduceAdd, Nat.reduceLeDiff, Int.reduceLT, Int.reduceLE, Int.reduceEq, reduceIte, e0, e4, e6, hx5, hl13, htk, o186, r6]
          have hle := hst6.1
          refine sat_blk (sat_again (x.left + 2 - o2.st.steps) (by omega) ⟨o2.st, L' ++ o2.L, lb6, cs' ++ cs6, o2.tk, by omega, by simp only [ss, hps, Nat.reduceEqDiff, Nat.reduceLT, Nat.reduceAdd, Nat.reduceLeDiff, Int.reduceLT, Int.reduceLE, Int.reduceEq, reduceIte], pt0, hle, fun ht o ho => ?_, fun ht => ?_⟩)
          · have hr := hT rfl _ (Run.lpM q run6 he6 ht ho)
            rw [List.append_assoc]; exact hr
          · exact hT rfl _ (Run.lpE q run6 he6 ht)
noncomputable def G130 (L : List IV → M IV) : List IV → M IV := bodyI T0 (O130 L) 4000010 ic130
theorem G130_at {L : List IV → M IV} {x : Cx} {k : Nat} {nd : Nd} {a b c : IV} {vars : Int} {deep : Nat} {ob : Nat} {lb : Option Nat} {cs : List IV} {h : IHeap} {s : St} {errno : Int} (hL : ListOk k L) (hN : NdOk x k nd a b c vars deep)
    (i : LIn x ob lb cs h s errno) : Ends x ob lb cs h s errno 4 (fun _ => .tup []) (fun o => ∃ o1, Run x.c x.left (.lp nd) s o1 ∧ o = ⟨o1.st, [.node 3 false o1.L], false, o1.en⟩) (G130 L [.ptr x.rb 0, .agg (nd.cells a b c), .ptr ob 0] h) := by
  unfold G130
  rw [body_eq rfl rfl rfl (by decide)]
  rcases sat_inv (b130 hL hN i) with ⟨y, e', h', h1, rfl, o, lb', cs', he, hr, hp⟩ | ⟨v, e', h', h1, rfl, o, lb', cs', he, hr, hp⟩
  · exact ⟨_, h', lb', cs', hp, ⟨o, hr, rfl⟩, fun _ => by rw [h1]; rfl, fun hh => absurd he hh⟩
  · exact ⟨_, h', lb', cs', hp, ⟨o, hr, rfl⟩, fun hh => absurd hh he, fun _ => by rw [h1]; rfl⟩
end Go.Proofs.YtadeojgiiapljaaGreat.Im
