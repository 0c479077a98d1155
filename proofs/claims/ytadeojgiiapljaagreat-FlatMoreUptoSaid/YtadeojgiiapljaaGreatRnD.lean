/- run.list. -/
import Derived.Test.YtadeojgiiapljaaGreatAyC
import Derived.Test.YtadeojgiiapljaaGreatRnC
import Derived.Test.YtadeojgiiapljaaGreatStA
set_option linter.unusedSimpArgs false
set_option linter.unusedVariables false
namespace Go.Proofs.YtadeojgiiapljaaGreat.Im
open Go
set_option maxHeartbeats 1000000
theorem Run.lst_tk {c : Cfg} {left : Nat} {l : List Nd} {s : St} {o : Out} (h : Run c left (.lst l) s o) : (⟨o.st, [] ++ o.L, false, o.en⟩ : Out) = o := by
  cases h <;> rfl
noncomputable def O40 (L : List IV → M IV) : Orc := ocons 75 G75 (ocons 76 G76 (ocons 128 G128 (ocons 129 (G129 L) (ocons 130 (G130 L) onil))))
theorem ndOk_of {x : Cx} {k : Nat} {nd : Nd} {a b c : IV} {vars : Int} {deep : Nat} (hat : NdAt k nd a b c) (hv : vars ≤ x.n) (hok : nd.ok vars deep = true) (hk : nd.kind = 2 ∨ nd.kind = 3) (hs : small nd.ahead = true ∧ small nd.body = true ∧ small nd.els = true) : NdOk x k nd a b c vars (deep + 1) ∧ okS vars (deep + 1) nd.els := by
  rw [Nd.ok_eq, if_neg (by omega), if_pos hk] at hok
  simp only [Bool.and_eq_true, decide_eq_true_eq, okL] at hok
  exact ⟨⟨hat, hv, by omega, ⟨hok.1.1.2.2, hs.1⟩, ⟨hok.1.2.2, hs.2.1⟩⟩, ⟨hok.2.2, hs.2.2⟩⟩
/-- A node, whatever it is. -/
theorem node_call {L : List IV → M IV} {x : Cx} {k : Nat} {nd : Nd} {a b c : IV} {vars : Int} {deep : Nat} {ob : Nat} {lb : Option Nat} {cs : List IV} {h : IHeap} {s : St} {errno : Int} (hL : ListOk k L) (hat : NdAt k nd a b c) (hv : vars ≤ x.n) (hok : nd.ok vars deep = true) (hsm : small nd.ahead = true ∧ small nd.body = true ∧ small nd.els = true)
    (i : LIn x ob lb cs h s.tick errno) (hst : s.steps ≠ x.left) (hsl : cs.length + 4 ≤ 4 * s.tick.steps) : (nd.kind = 1 ∨ nd.kind = 2 ∨ nd.kind = 3) ∧
    Ends x ob lb cs h s.tick errno 4 (fun _ => .tup []) (fun o => (o.en ≠ none → ∀ l, Run x.c x.left (.lst (nd :: l)) s ⟨o.st, o.L, false, o.en⟩) ∧ (o.en = none → ∀ l o', Run x.c x.left (.lst l) o.st o' → Run x.c x.left (.lst (nd :: l)) s ⟨o'.st, o.L ++ o'.L, false, o'.en⟩) ∧ (o.st.steps ≤ x.left ∧ s.tick.steps ≤ o.st.steps))
      (O40 L (127 + nd.kind.toNat) [.ptr x.rb 0, .agg (nd.cells a b c), .ptr ob 0] h) := by
  have oa := dec_one hat.ahead
  have obo := dec_one hat.body
  have oc := dec_one hat.els
  by_cases k1 : nd.kind = 1
  · refine ⟨.inl k1, ?_⟩
    rw [Nd.ok_eq, if_pos k1] at hok
    simp only [Bool.and_eq_true] at hok
    have hw : 0 ≤ nd.ins.word := by have := hat.r7; simp [u64ok] at this; exact this.1
    obtain ⟨o, h', lb', cs', hp, hr, hok', hpn⟩ := G128_at (nd := nd) (a := a) (b := b) (c := c) i.r i.ho i.sp i.str i.n0 oa obo oc (insIn hok.1.1 hv i.n0) hw hsl (by have := i.st; have := i.lf; omega)
    have ek : O40 L (127 + nd.kind.toNat) = G128 := by rw [k1]; rfl
    rw [ek]
    refine ⟨o, h', lb', cs', hp, ?_, hok', hpn⟩
    rcases hr with ⟨it, s1, hi, rfl⟩ | ⟨hi, rfl⟩
    · have := ins1_steps hi
      exact ⟨fun hh => absurd rfl hh, fun _ l o' ho' => .ins hst k1 hi ho', by simp only; have := i.st; omega⟩
    · exact ⟨fun _ l => .insX hst k1 hi, fun hh => (by cases hh), by simp only; exact ⟨i.st, Nat.le_refl _⟩⟩
  by_cases k2 : nd.kind = 2
  · refine ⟨.inr (.inl k2), ?_⟩
    obtain ⟨hN, hels⟩ := ndOk_of hat hv hok (.inl k2) hsm
    obtain ⟨o, h', lb', cs', hp, hr, hok', hpn⟩ := G129_at hL hN hels i hsl
    have ek : O40 L (127 + nd.kind.toNat) = G129 L := by rw [k2]; rfl
    rw [ek]
    exact ⟨o, h', lb', cs', hp, ⟨fun he l => .ifeX hst k2 hr he, fun he l o' ho' => .ife hst k2 hr he ho', hr.steps i.st⟩, hok', hpn⟩
  by_cases k3 : nd.kind = 3
  · refine ⟨.inr (.inr k3), ?_⟩
    obtain ⟨hN, hels⟩ := ndOk_of hat hv hok (.inr k3) hsm
    obtain ⟨o, h', lb', cs', hp, ⟨o1, hr, rfl⟩, hok', hpn⟩ := G130_at hL hN i
    have ek : O40 L (127 + nd.kind.toNat) = G130 L := by rw [k3]; rfl
    rw [ek]
    refine ⟨_, h', lb', cs', hp, ⟨fun he l => .loopX hst k3 hr he, fun he l o' ho' => ?_, hr.steps i.st⟩, hok', hpn⟩
    exact .loop hst k3 hr he ho'
  · rw [Nd.ok_eq, if_neg k1, if_neg (by omega)] at hok
    cases hok
theorem decNds_small {k : Nat} {v : IV} {l : List Nd} (h : decNds k v = some l) (hs : small l = true) : l.length < 4000000 := by
  have := cntL_length l
  simp [small] at hs; omega
theorem b40 {L : List IV → M IV} {x : Cx} {k : Nat} {l : List Nd} {v : IV} {vars : Int} {deep : Nat} {ob : Nat} {lb : Option Nat} {cs : List IV} {h : IHeap} {s : St} {errno : Int} (hL : ListOk k L) (hvn : vars ≤ x.n) (hv : decNds (k + 1) v = some l) (hok : okS vars deep l)
    (i : LIn x ob lb cs h s errno) :
    (ix (O40 L) 4000010 ic40.body (startI 0 [.ptr x.rb 0, v, .ptr ob 0]) h).sat
      (fun y e' h' => y = .normal ∧ ∃ o lb' cs', o.en = none ∧ Run x.c x.left (.lst l) s o ∧ Post x ob lb cs h s errno 0 o h' lb' cs')
      (fun v _ h' => v = endV ∧ ∃ o lb' cs', o.en ≠ none ∧ Run x.c x.left (.lst l) s o ∧ Post x ob lb cs h s errno 0 o h' lb' cs') := by
  have o75 : O40 L 75 = G75 := rfl
  have o76 : O40 L 76 = G76 := rfl
  have sm := decNds_small hv hok.2
  have lv := decNds_len hv
  obtain ⟨l1, l2, l3⟩ := i.r.lts
  have l4 := i.r.mlt
  have lo := i.ho.lt
  have g1 := Grow.push h (.map kindsM 3)
  have i1 := i.grow g1
  have hm1 : (h.push (.map kindsM 3)).get h.n = some (.map kindsM 3) := get_push_new
  have r75 := G75_at h
  unfold ic40
  simp only [start_cons, start_nil]
  refine sat_seq ?_
  simp only [ss, hps, Nat.reduceEqDiff, Nat.reduceLT, Nat.reduceAdd, Nat.reduceLeDiff, Int.reduceLT, Int.reduceLE, Int.reduceEq, reduceIte, o75, r75]
  have hn1 : (h.push (.map kindsM 3)).n = h.n + 1 := rfl
  generalize h.push (.map kindsM 3) = h1 at *
  refine sat_next (sat_seq ?_)
  simp only [ss, hps, Nat.reduceEqDiff, Nat.reduceLT, Nat.reduceAdd, Nat.reduceLeDiff, Int.reduceLT, Int.reduceLE, Int.reduceEq, reduceIte, lv]
  refine sat_next (sat_block (sat_loop (fun m e h' => ∃ (j : Nat) (s' : St) (L' : List RL) (lb' : Option Nat) (cs' : List IV), j + m = l.length ∧ e.get 12 = some (.int .i64 j) ∧ Post x ob lb cs h1 s errno 0 ⟨s', L', false, none⟩ h' lb' cs' ∧ s'.steps ≤ x.left ∧
    (∀ o, Run x.c x.left (.lst (l.drop j)) s' o → Run x.c x.left (.lst l) s ⟨o.st, L' ++ o.L, false, o.en⟩)) l.length (by omega) ?_ ?_))
  · refine ⟨0, s, [], lb, [], by omega, by simp only [ss, hps, Nat.reduceEqDiff, Nat.reduceLT, Nat.reduceAdd, Nat.reduceLeDiff, Int.reduceLT, Int.reduceLE, Int.reduceEq, reduceIte]; rfl, ⟨i1.r, by rw [List.append_nil]; exact i1.ho, .nil, Fr.refl _ _ _ _, .inl rfl, by simp⟩, i.st, fun o ho => ?_⟩
    rw [Run.lst_tk ho]
    exact ho
  · rintro m e h' ⟨j, s', L', lb', cs', hj, h12, hp, hst, hR⟩ hf
    have e0 := hf 0 rfl
    have e2 := hf 2 rfl
    have e6 := hf 6 rfl
    have e10 := hf 10 rfl
    have e11 := hf 11 rfl
    simp only [ss, hps, Nat.reduceEqDiff, Nat.reduceLT, Nat.reduceAdd, Nat.reduceLeDiff, Int.reduceLT, Int.reduceLE, Int.reduceEq, reduceIte, get_put, puto_some] at e0 e2 e6 e10 e11
    clear hf
    refine sat_seq ?_
    simp only [ss, hps, Nat.reduceEqDiff, Nat.reduceLT, Nat.reduceAdd, Nat.reduceLeDiff, Int.reduceLT, Int.reduceLE, Int.reduceEq, reduceIte, h12, e11]
    refine sat_next (sat_seq (sat_condK ?_))
    simp only [ss, hps, Nat.reduceEqDiff, Nat.reduceLT, Nat.reduceAdd, Nat.reduceLeDiff, Int.reduceLT, Int.reduceLE, Int.reduceEq, reduceIte]
    refine sat_condD (fun hlt => ?_) (fun hge => ?_)
    · have hlt : j < l.length := by omega
      obtain ⟨nd, hnd⟩ := get_len hlt
      obtain ⟨a, b, c, rest, hia, hat⟩ := decNds_node hv hnd
      have hndok := (okAll_iff vars deep l).1 hok.1 nd (mem_of_get hnd)
      have hdrop : l.drop j = nd :: l.drop (j + 1) := by
        rw [List.drop_eq_getElem_cons hlt]
        have := (List.getElem?_eq_some_iff.1 hnd).2
        rw [this]
      have oa := dec_one hat.ahead
      have obo := dec_one hat.body
      have oc := dec_one hat.els
      have ii := i1.post hp rfl hst
      simp only at ii
      have w3 : IntKind.i64.wrap ((j : Int) + 1) = ((j + 1 : Nat) : Int) := by rw [wrap_i64 (by omega) (by omega)]; simp
      have g2 := Grow.push h' (.row (nd.cells a b c))
      have i2 := ii.grow g2
      have hx2 : (h'.push (.row (nd.cells a b c))).get h'.n = some (.row (nd.cells a b c)) := get_push_new
      have hn' := hp.fr.n
      have hcl : (nd.cells a b c).all (·.one) = true := by simp [Nd.cells, IV.one, oa, obo, oc]; exact ⟨oa, obo, oc⟩
      have hl13 : (nd.cells a b c).length = 13 := rfl
      have htk : (nd.cells a b c).take 13 = nd.cells a b c := rfl
      have hc0 : (nd.cells a b c)[0]? = some (.int .i64 nd.kind) := rfl
      have hld : Im.loadN h' (.cptr (nd.cells a b c ++ rest)) 13 = some (nd.cells a b c) := by
        have e1 : (nd.cells a b c ++ rest).take 13 = nd.cells a b c := by rw [List.take_append_of_le_length (by rw [hl13]; omega)]; exact htk
        have e2 : 13 ≤ (nd.cells a b c ++ rest).length := by rw [List.length_append, hl13]; omega
        simp only [Im.loadN, e1, if_pos e2]
      refine sat_skip (sat_seq (sat_block (sat_seq ?_)))
      simp only [ss, hps, Nat.reduceEqDiff, Nat.reduceLT, Nat.reduceAdd, Nat.reduceLeDiff, Int.reduceLT, Int.reduceLE, Int.reduceEq, reduceIte, h12, e10, hia, hld, hl13, hcl]
      refine sat_next (sat_seq ?_)
      have hnn : (h'.push (.row (nd.cells a b c))).n = h'.n + 1 := rfl
      generalize h'.push (.row (nd.cells a b c)) = h2 at *
      by_cases q : s'.steps = x.left
      · have hrr : h2.get x.rb = some (runRow x.vb x.n x.mb x.stack x.left x.left errno) := by have := i2.r.r; rw [q] at this; exact this
        have r76 := G76_end hrr
        have pe := (set_r_post (x := x) i2.r i2.ho i2.sp x.left (some 7) false (by omega)).pre g2
        have pt := (Post.trans i1.r i1.ho.lt hp pe false).pre g1
        have hr := hR _ (by rw [hdrop]; exact Run.out q)
        have e1 : (⟨s'.vs, s'.bs, x.left⟩ : St) = s' := by rw [← q]
        simp only [e1] at pt
        simp only [ss, hps, Nat.reduceEqDiff, Nat.reduceLT, Nat.reduceAdd, Nat.reduceLeDiff, Int.reduceLT, Int.reduceLE, Int.reduceEq, reduceIte, e0, o76, r76, regK_panic]
        exact fun _ => ⟨rfl, ⟨s', L' ++ [], false, some 7⟩, lb', cs' ++ [], by simp, hr, pt⟩
      · have q' : ¬ ((s'.steps : Int) = (x.left : Int)) := by omega
        have r76 := G76_at i2.r.r q' (by have := i2.lf; omega)
        have pe := set_r_post (x := x) i2.r i2.ho i2.sp (s'.steps + 1) none false (by omega)
        simp only [Option.getD_none] at pe
        have pe' := pe.pre g2
        have ptk := Post.trans i1.r i1.ho.lt hp pe' false
        have i3 := i2.post pe rfl (by show s'.steps + 1 ≤ x.left; omega)
        rw [List.append_nil] at i3
        simp only at i3
        have hx3 : (h2.set x.rb (runRow x.vb x.n x.mb x.stack x.left ((s'.steps + 1 : Nat) : Int) errno)).get h'.n = some (.row (nd.cells a b c)) := by rw [get_set_ne (by omega)]; exact hx2
        have hm3 : (h2.set x.rb (runRow x.vb x.n x.mb x.stack x.left ((s'.steps + 1 : Nat) : Int) errno)).get h.n = some (.map kindsM 3) := by
          have := ptk.fr.same h.n (by omega) (by omega) (by omega) (by omega) (by omega) (fun he => by have := get_lt (i.ho.row _ he); omega)
          rw [this]; exact hm1
        have i3' : LIn x ob lb' (cs ++ cs') (h2.set x.rb (runRow x.vb x.n x.mb x.stack x.left ((s'.steps + 1 : Nat) : Int) errno)) s'.tick errno := i3
        obtain ⟨hkk, o2, h4, lb2, cs2, p2, ⟨hrX, hrO, hs1, hs2⟩, hok2, hpn2⟩ := node_call hL hat hvn hndok (small_sub (by simpa [small] using hok.2) hnd) i3' q (by have := ii.slow; show _ ≤ 4 * (s'.steps + 1); omega)
        have pt := Post.trans i1.r i1.ho.lt ptk (by simp only [List.append_nil]; exact p2) false
        have hs2' : s'.steps + 1 ≤ o2.st.steps := hs2
        have pt0 : Post x ob lb cs h1 s errno 0 ⟨o2.st, (L' ++ []) ++ o2.L, false, o2.en⟩ h4 lb2 ((cs' ++ []) ++ cs2) := { pt with slow := by have := p2.slow; have := hp.slow; have e1 : s'.tick.steps = s'.steps + 1 := rfl; simp at *; omega }
        simp only [List.append_nil] at pt0
        have hlook := kinds_look hm3 hkk
        simp only [ss, hps, Nat.reduceEqDiff, Nat.reduceLT, Nat.reduceAdd, Nat.reduceLeDiff, Int.reduceLT, Int.reduceLE, Int.reduceEq, reduceIte, e0, o76, r76]
        refine sat_next ?_
        cases he2 : o2.en with
        | some en =>
          have r2 := hpn2 (by rw [he2]; simp)
          have hr := hR _ (by rw [hdrop]; exact hrX (by rw [he2]; simp) _)
          simp only [ss, hps, Nat.reduceEqDiff, Nat.reduceLT, Nat.reduceAdd, Nat.reduceLeDiff, Int.reduceLT, Int.reduceLE, Int.reduceEq, reduceIte, e0, e2, e6, hx3, hc0, hlook, hl13, htk, r2, regK_panic]
          exact fun _ => ⟨rfl, _, lb2, cs' ++ cs2, by simp [he2], hr, pt0.pre g1⟩
        | none =>
          have r2 := hok2 he2
          rw [he2] at pt0
          simp only [ss, hps, Nat.reduceEqDiff, Nat.reduceLT, Nat.reduceAdd, Nat.reduceLeDiff, Int.reduceLT, Int.reduceLE, Int.reduceEq, reduceIte, e0, e2, e6, hx3, hc0, hlook, hl13, htk, r2]
          refine sat_blk (sat_next ?_)
          simp only [ss, hps, Nat.reduceEqDiff, Nat.reduceLT, Nat.reduceAdd, Nat.reduceLeDiff, Int.reduceLT, Int.reduceLE, Int.reduceEq, reduceIte, h12, w3]
          refine sat_again (m - 1) (by omega) ⟨j + 1, o2.st, L' ++ o2.L, lb2, cs' ++ cs2, by omega, by simp only [ss, hps, Nat.reduceEqDiff, Nat.reduceLT, Nat.reduceAdd, Nat.reduceLeDiff, Int.reduceLT, Int.reduceLE, Int.reduceEq, reduceIte], pt0, hs1, fun o ho => ?_⟩
          have hr := hR _ (by rw [hdrop]; exact hrO he2 _ o ho)
          rw [List.append_assoc]; exact hr
    · have hge : j = l.length := by omega
      subst hge
      refine sat_brk (X := fun v _ h' => v = endV ∧ ∃ o lb' cs', o.en ≠ none ∧ Run x.c x.left (.lst l) s o ∧ Post x ob lb cs h s errno 0 o h' lb' cs') fun _ => ?_
      have hr := hR _ (by rw [List.drop_length]; exact Run.nil)
      simp only [List.append_nil] at hr
      exact ⟨rfl, ⟨s', L', false, none⟩, lb', cs', rfl, hr, hp.pre g1⟩
noncomputable def G40 : Nat → List IV → M IV
  | 0 => fun _ _ => .fail
  | k + 1 => bodyI T0 (O40 (G40 k)) 4000010 ic40
theorem listOk : ∀ k, ListOk k (G40 k)
  | 0 => fun x vars deep l v _ hv _ => by cases hv
  | k + 1 => fun x vars deep l v hvn hv hok ob lb cs h s errno i => by
    have ih := listOk k
    show Ends x ob lb cs h s errno 0 _ _ (bodyI T0 (O40 (G40 k)) 4000010 ic40 [.ptr x.rb 0, v, .ptr ob 0] h)
    rw [body_eq rfl rfl rfl (by decide)]
    rcases sat_inv (b40 ih hvn hv hok i) with ⟨y, e', h', h1, rfl, o, lb', cs', he, hr, hp⟩ | ⟨w, e', h', h1, rfl, o, lb', cs', he, hr, hp⟩
    · exact ⟨o, h', lb', cs', hp, hr, fun _ => by rw [h1]; rfl, fun hh => absurd he hh⟩
    · exact ⟨o, h', lb', cs', hp, hr, fun hh => absurd hh he, fun _ => by rw [h1]; rfl⟩
end Go.Proofs.YtadeojgiiapljaaGreat.Im
namespace Go.Proofs.YtadeojgiiapljaaGreat.Im
open Go
set_option maxHeartbeats 1000000
def deferK (O : Orc) (os : List IOper) (e : Env) (h : IHeap) : Option IV → Option IV → CRes
  | some (.func (.func f) [] caps), none => ix.regI O os (e.put DK (.func (.func f) [] caps)) h
  | _, _ => .fail
theorem regI_defer (O : Orc) (x : IArg) (os : List IOper) (e : Env) (h : IHeap) : ix.regI O (⟨none, .deferc x, none⟩ :: os) e h = deferK O os e h (x.ev e) (e.get DK) := by
  rw [ix.regI]
  simp only [wantedI]
  cases hx : x.ev e with
  | none => rfl
  | some v =>
    cases hd : e.get DK with
    | some u => cases v <;> rfl
    | none =>
      cases v <;> rfl
theorem deferK_fn (O : Orc) (os : List IOper) (e : Env) (h : IHeap) (f : FuncId) (caps : List IV) : deferK O os e h (some (.func (.func f) [] caps)) none = ix.regI O os (e.put 1000000 (.func (.func f) [] caps)) h := rfl
/-- The body ends, then what was deferred is done. -/
theorem body_defer {T : FuncId → Option IFunc} {O : Orc} {fuel : Nat} {F G : IFunc} {args : List IV} {h h' h'' : IHeap} {y : IExit} {e : Env} {g : FuncId} {caps : List IV} (hn : args.length = F.nparams) (hr : F.recT = none)
    (hx : ix O fuel F.body (startI 0 args) h = .ok y e h') (hy : y = .normal ∨ y = .ret) (hd : e.get DK = some (.func (.func g) [] caps)) (hT : T g = some G) (hdef : deferredI O fuel G caps .nili h' = some h'') :
    bodyI T O fuel F args h = doneI F e h'' := by
  unfold bodyI
  rw [if_neg (by simp [hn, hr]), hx]
  rcases hy with rfl | rfl <;> simp only [hd, hT, hdef]
theorem body_deferX {T : FuncId → Option IFunc} {O : Orc} {fuel : Nat} {F G : IFunc} {args : List IV} {h h' h'' : IHeap} {v : IV} {e : Env} {g : FuncId} {caps : List IV} (hn : args.length = F.nparams) (hr : F.recT = none)
    (hx : ix O fuel F.body (startI 0 args) h = .panic v e h') (hd : e.get DK = some (.func (.func g) [] caps)) (hT : T g = some G) (hdef : deferredI O fuel G caps v h' = some h'') :
    bodyI T O fuel F args h = doneI F e h'' := by
  unfold bodyI
  rw [if_neg (by simp [hn, hr]), hx]
  simp only [hd, hT, hdef]
theorem tassert_end : tassertV 116 (.agg []) endV = some (.tup [.agg [], .bool true]) := rfl
theorem isnil_nili (n : Bool) : isnilV n .iface .nili = some (.bool (if n then !true else true)) := rfl
theorem isnil_end (n : Bool) : isnilV n .iface endV = some (.bool (if n then !false else false)) := rfl
theorem def39_nil {O : Orc} {fuel : Nat} {a b c : IV} (h : IHeap) : deferredI O fuel ic39 [a, b, c] .nili h = some h := by
  unfold deferredI
  simp only [ic39, List.length_cons, List.length_nil, List.isEmpty_nil, Nat.reduceAdd, decide_true, Bool.and_self, if_true, Bool.true_and]
  have : (ix O fuel ic39.body ((startI 0 [a, b, c]).put 6 .nili) h).sat (fun y e' h' => y = .normal ∧ e'.get DK = none ∧ h' = h) (fun _ _ _ => False) := by
    unfold ic39
    simp only [start_cons, start_nil]
    simp only [ss, hps, Nat.reduceEqDiff, Nat.reduceLT, Nat.reduceAdd, Nat.reduceLeDiff, Int.reduceLT, Int.reduceLE, Int.reduceEq, reduceIte, isnil_nili]
    exact ⟨rfl, by simp only [ss, hps, Nat.reduceEqDiff, Nat.reduceLT, Nat.reduceAdd, Nat.reduceLeDiff, Int.reduceLT, Int.reduceLE, Int.reduceEq, reduceIte, DK]; rfl, rfl⟩
  simp only [ic39] at this
  rcases sat_inv this with ⟨y, e', h', h1, rfl, h2, rfl⟩ | ⟨_, _, _, _, hf⟩
  · rw [h1]; simp only [h2]
  · exact hf.elim
/-- What is kept of a run that has ended early. -/
theorem def39_end {O : Orc} {fuel : Nat} {sb rp tb rb vb n mb : Nat} {seen : IV} {o0 o1 o2 o3 : IV} {stack left steps errno : Int} {h : IHeap} (hs : h.get sb = some (.row [seen])) (hsn : seen.one = true) (hp : h.get rp = some (.row [.ptr rb 0]))
    (hr : h.get rb = some (runRow vb n mb stack left steps errno)) (ht : h.get tb = some (.row [o0, o1, o2, o3])) :
    deferredI O fuel ic39 [.ptr sb 0, .ptr rp 0, .ptr tb 0] endV h = some ((h.push (.row [])).set tb (.row [.nils, seen, .int .i64 steps, .int .i64 errno])) := by
  unfold deferredI
  simp only [ic39, List.length_cons, List.length_nil, List.isEmpty_nil, Nat.reduceAdd, decide_true, Bool.and_self, if_true, Bool.true_and]
  have : (ix O fuel ic39.body ((startI 0 [.ptr sb 0, .ptr rp 0, .ptr tb 0]).put 6 endV) h).sat (fun y e' h' => y = .normal ∧ e'.get DK = none ∧ h' = (h.push (.row [])).set tb (.row [.nils, seen, .int .i64 steps, .int .i64 errno])) (fun _ _ _ => False) := by
    have n1 : (sb = h.n) = False := eq_false (by have := get_lt hs; omega)
    have n2 : (rp = h.n) = False := eq_false (by have := get_lt hp; omega)
    have n3 : (rb = h.n) = False := eq_false (by have := get_lt hr; omega)
    have n4 : (tb = h.n) = False := eq_false (by have := get_lt ht; omega)
    have hr' : h.get rb = some (.row [.slice vb 0 n n, .ptr mb 0, .int .u64 stack, .int .i64 left, .int .i64 steps, .int .i64 errno]) := hr
    have os := cells_one hsn
    unfold ic39
    simp only [start_cons, start_nil]
    simp only [ss, hps, Nat.reduceEqDiff, Nat.reduceLT, Nat.reduceAdd, Nat.reduceLeDiff, Int.reduceLT, Int.reduceLE, Int.reduceEq, reduceIte, ds, isnil_end, tassert_end, extract_0, extract_1, hs, hp, hr', ht, n1, n2, n3, n4, nilchk_ptr, setCells, set_push_at, hsn, os]
    exact ⟨rfl, by simp only [ss, hps, Nat.reduceEqDiff, Nat.reduceLT, Nat.reduceAdd, Nat.reduceLeDiff, Int.reduceLT, Int.reduceLE, Int.reduceEq, reduceIte, DK]; rfl, rfl⟩
  simp only [ic39] at this
  rcases sat_inv this with ⟨y, e', h', h1, rfl, h2, rfl⟩ | ⟨_, _, _, _, hf⟩
  · rw [h1]; simp only [h2]
  · exact hf.elim
end Go.Proofs.YtadeojgiiapljaaGreat.Im
