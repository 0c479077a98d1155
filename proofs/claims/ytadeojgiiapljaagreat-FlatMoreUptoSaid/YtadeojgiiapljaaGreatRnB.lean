/- run.ins: the instruction itself. -/
import Derived.Test.YtadeojgiiapljaaGreatNdB
import Derived.Test.YtadeojgiiapljaaGreatPlA
set_option linter.unusedSimpArgs false
set_option linter.unusedVariables false
namespace Go.Proofs.YtadeojgiiapljaaGreat.Im
open Go
set_option maxHeartbeats 1000000
theorem MemR.stay {h h' : IHeap} {mb bb : Nat} {bs : List Int} {l : List Reg} (m : MemR h mb bb bs l) (h1 : h'.get mb = h.get mb) (h2 : h'.get bb = h.get bb) (st : StrStay h h') : MemR h' mb bb bs l := by
  obtain ⟨⟨u, a, b⟩, c⟩ := m
  exact ⟨⟨u, ⟨h1.trans a.m, h2.trans a.b, a.len⟩, b.stay st⟩, c⟩
theorem MemR.mrow {h : IHeap} {mb bb : Nat} {bs : List Int} {l : List Reg} (m : MemR h mb bb bs l) : ∃ u, h.get mb = some (.row [u, .ptr bb 0]) := by
  obtain ⟨⟨u, a, b⟩, c⟩ := m
  exact ⟨u, a.m⟩
theorem no_str_u64 (vs : List Int) (s : ByteArray) : IV.str s ∉ vs.map u64v := by simp [u64v]
theorem RSt.vmb {x : Cx} {h : IHeap} {s : St} {e : Int} (a : RSt x h s e) : x.vb ≠ x.mb := by
  obtain ⟨u, hm⟩ := a.m.mrow
  refine row_ne a.v hm fun hh => ?_
  have := congrArg (fun z => z[1]?) hh
  cases hs : s.vs with
  | nil => rw [hs] at this; simp at this
  | cons y ys => cases ys <;> rw [hs] at this <;> simp [u64v] at this
theorem RSt.rmb {x : Cx} {h : IHeap} {s : St} {e : Int} (a : RSt x h s e) : x.rb ≠ x.mb := by
  obtain ⟨u, hm⟩ := a.m.mrow
  exact row_ne a.r hm fun hh => (by have := congrArg List.length hh; simp at this)
theorem RSt.fr {x : Cx} {h h' : IHeap} {s : St} {e : Int} (a : RSt x h s e) (h1 : h'.get x.rb = h.get x.rb) (h2 : h'.get x.vb = h.get x.vb) (h3 : h'.get x.mb = h.get x.mb) (h4 : h'.get x.bb = h.get x.bb) (st : StrStay h h') : RSt x h' s e :=
  ⟨h1.trans a.r, h2.trans a.v, a.vn, a.m.stay h3 h4 st⟩
theorem RSt.mlt {x : Cx} {h : IHeap} {s : St} {e : Int} (a : RSt x h s e) : x.mb < h.n := by obtain ⟨u, hm⟩ := a.m.mrow; exact get_lt hm
theorem RSt.grow {x : Cx} {h h' : IHeap} {s : St} {e : Int} (a : RSt x h s e) (g : Grow h h') : RSt x h' s e := by
  obtain ⟨l1, l2, l3⟩ := a.lts
  exact a.fr (g.2 _ l1) (g.2 _ l2) (g.2 _ a.mlt) (g.2 _ l3) (StrStay.grow g)
theorem RSt.set_v {x : Cx} {h : IHeap} {s : St} {e : Int} (a : RSt x h s e) (hn : 0 < x.n) (k : Nat) (w : Int) : RSt x (h.set x.vb (.row ((s.vs.set k w).map u64v))) ⟨s.vs.set k w, s.bs, s.steps⟩ e :=
  ⟨by rw [get_set_ne a.rv]; exact a.r, get_set_same a.v, by simp [a.vn], a.m.stay (get_set_ne a.vmb.symm) (get_set_ne (a.vbb hn).symm) (StrStay.set a.v (no_str_u64 _) _)⟩
theorem RSt.set_b {x : Cx} {h : IHeap} {s : St} {e : Int} (a : RSt x h s e) (hn : 0 < x.n) {B : List Int} (hB : B.length = 65536) : RSt x (h.set x.bb (.row (B.map u8))) ⟨s.vs, B, s.steps⟩ e :=
  ⟨by rw [get_set_ne a.rbb]; exact a.r, by rw [get_set_ne (a.vbb hn)]; exact a.v, a.vn, a.m.set hB⟩
theorem RSt.set_r {x : Cx} {h : IHeap} {s : St} {e : Int} (a : RSt x h s e) (st : Nat) (e' : Int) : RSt x (h.set x.rb (runRow x.vb x.n x.mb x.stack x.left st e')) ⟨s.vs, s.bs, st⟩ e' :=
  ⟨get_set_same a.r, by rw [get_set_ne a.rv.symm]; exact a.v, a.vn, a.m.stay (get_set_ne a.rmb.symm) (get_set_ne a.rbb.symm) (StrStay.set a.r (by simp) _)⟩
theorem set_push_at {h : IHeap} {b : Nat} {o o' : IObj} (hb : b = h.n) : (h.push o).set b o' = h.push o' := by subst hb; exact set_push_new h o o'
theorem setCells_v {cur : List Int} {i : Nat} {b : Int} (h : i < cur.length) : setCells (cur.map u64v) i [.int .u64 b] = (cur.set i b).map u64v := by
  unfold setCells
  rw [List.map_set]
  have hl : i < (cur.map u64v).length := by simpa using h
  rw [List.set_eq_take_append_cons_drop]
  simp [h]; rfl
theorem rowV_at {vs : List Int} {i : Nat} (h : i < vs.length) : (vs.map u64v)[i]? = some (.int .u64 (vs.getD i 0)) := by
  simp [h, u64v]
def mid128 : IC := match ic128.body with
  | .seq _ (.seq _ (.seq _ (.seq m _))) => m
  | _ => .skip
/-- Behind the instruction: normally. -/
structure Mid (x : Cx) (i8 : In8) (s : St) (errno : Int) (ti : Nat) (h h' : IHeap) : Prop where
  ex : ∃ it s1 iv, ins1 x.c i8 s = some (it, s1) ∧ RSt x h' s1 errno ∧ h'.get ti = some (.row (lineC iv)) ∧ ((iv = .nils ∧ it = none) ∨ ∃ b a, iv = .aslice b 0 1 1 ∧ it = some a ∧ h.n ≤ b ∧ h'.get b = some (.row [.int .u64 a]))
  n : h.n ≤ h'.n
  same : ∀ b, b < h.n → b ≠ x.vb → b ≠ x.bb → b ≠ ti → h'.get b = h.get b
structure MidX (x : Cx) (i8 : In8) (s : St) (h h' : IHeap) : Prop where
  no : ins1 x.c i8 s = none
  st : RSt x h' s 14
  n : h.n ≤ h'.n
  same : ∀ b, b < h.n → b ≠ x.rb → h'.get b = h.get b
noncomputable def O128 : Orc := ocons 181 G181 (ocons 180 (rd g180) (ocons 182 F182 (ocons 183 G183 (ocons 184 F184 (ocons 185 G185 (ocons 131 G131 onil))))))
structure MidIn (x : Cx) (i8 : In8) (s : St) (errno : Int) (xi ti : Nat) (e : Env) (h : IHeap) : Prop where
  g0 : e.get 0 = some (.ptr x.rb 0)
  g6 : e.get 6 = some (.ptr xi 0)
  g7 : e.get 7 = some (.ptr ti 0)
  hx : h.get xi = some (.row i8.cells)
  ht : h.get ti = some (.row (lineC .nils))
  st : RSt x h s errno
  xt : xi ≠ ti
  n0 : 0 < x.n
theorem RSt.tne {x : Cx} {h : IHeap} {s : St} {e : Int} (a : RSt x h s e) {ti : Nat} {v : IV} (ht : h.get ti = some (.row (lineC v))) : ti ≠ x.rb ∧ ti ≠ x.vb ∧ ti ≠ x.bb ∧ ti ≠ x.mb := by
  refine ⟨row_ne ht a.r (fun hh => by have := congrArg List.length hh; simp [lineC] at this), row_ne ht a.v fun hh => ?_, row_ne ht a.m.bytes.1 fun hh => ?_, ?_⟩
  · cases hs : s.vs with
    | nil => rw [hs] at hh; cases hh
    | cons y ys => rw [hs] at hh; simp [u64v, lineC] at hh
  · have := congrArg List.length hh
    simp [a.m.bytes.2, lineC] at this
  · obtain ⟨u, hm⟩ := a.m.mrow
    exact row_ne ht hm fun hh => (by have := congrArg List.length hh; simp [lineC] at this)
theorem nat_of {d : Int} {n : Nat} (h0 : 0 ≤ d) (h1 : d < n) : ∃ k : Nat, d = k ∧ k < n := ⟨d.toNat, by omega, by omega⟩
theorem isN_iff {d v : Int} : isN d v = true ↔ 0 ≤ d ∧ d < v := by simp [isN]
theorem mid_word {O : Orc} {x : Cx} {i8 : In8} {s : St} {errno : Int} {xi ti : Nat} {e : Env} {h : IHeap} (m : MidIn x i8 s errno xi ti e h) (hk : i8.kind = 1) (hd : 0 ≤ i8.d ∧ i8.d < x.n) :
    (ix O 0 mid128 e h).sat (fun y e' h' => y = .normal ∧ Mid x i8 s errno ti h h') (fun _ _ _ => False) := by
  obtain ⟨g0, g6, g7, hx, ht, st, xt, n0⟩ := m
  obtain ⟨kind, op, d, a, b, c, word, stack⟩ := i8
  simp only at hk hd
  subst hk
  obtain ⟨k, rfl, hkn⟩ := nat_of hd.1 hd.2
  have hkl : k < s.vs.length := by rw [st.vn]; exact hkn
  have hrow : h.get x.rb = some (.row [.slice x.vb 0 x.n x.n, .ptr x.mb 0, .int .u64 x.stack, .int .i64 x.left, .int .i64 s.steps, .int .i64 errno]) := st.r
  have hv := st.v
  have hle : k + 1 ≤ x.n := hkn
  obtain ⟨t1, t2, t3, t4⟩ := st.tne ht
  simp only [In8.cells] at hx
  unfold mid128 ic128
  simp only [ss, hps, Nat.reduceEqDiff, Nat.reduceLT, Nat.reduceAdd, Nat.reduceLeDiff, Int.reduceLT, Int.reduceLE, Int.reduceEq, reduceIte, ds, g0, g6, nilchk_ptr, hrow, hv, hx, hkn, List.length_map, st.vn, hle, setCells_v hkl]
  refine ⟨rfl, ⟨none, s.setv k word, .nils, ?_, st.set_v n0 k word, ?_, .inl ⟨rfl, rfl⟩⟩, Nat.le_refl _, fun b _ h1 _ _ => get_set_ne h1⟩
  · simp [ins1, St.setv]
  · rw [get_set_ne t2]; exact ht
theorem mid_move {O : Orc} {x : Cx} {i8 : In8} {s : St} {errno : Int} {xi ti : Nat} {e : Env} {h : IHeap} (m : MidIn x i8 s errno xi ti e h) (hk : i8.kind = 2) (hd : 0 ≤ i8.d ∧ i8.d < x.n) (ha : 0 ≤ i8.a ∧ i8.a < x.n) :
    (ix O 0 mid128 e h).sat (fun y e' h' => y = .normal ∧ Mid x i8 s errno ti h h') (fun _ _ _ => False) := by
  obtain ⟨g0, g6, g7, hx, ht, st, xt, n0⟩ := m
  obtain ⟨kind, op, d, a, b, c, word, stack⟩ := i8
  simp only at hk hd ha
  subst hk
  obtain ⟨k, rfl, hkn⟩ := nat_of hd.1 hd.2
  obtain ⟨j, rfl, hjn⟩ := nat_of ha.1 ha.2
  have hkl : k < s.vs.length := by rw [st.vn]; exact hkn
  have hjl : j < s.vs.length := by rw [st.vn]; exact hjn
  have hrow : h.get x.rb = some (.row [.slice x.vb 0 x.n x.n, .ptr x.mb 0, .int .u64 x.stack, .int .i64 x.left, .int .i64 s.steps, .int .i64 errno]) := st.r
  have hv := st.v
  have hle : k + 1 ≤ x.n := hkn
  have hat := rowV_at hjl
  obtain ⟨t1, t2, t3, t4⟩ := st.tne ht
  simp only [In8.cells] at hx
  unfold mid128 ic128
  simp only [ss, hps, Nat.reduceEqDiff, Nat.reduceLT, Nat.reduceAdd, Nat.reduceLeDiff, Int.reduceLT, Int.reduceLE, Int.reduceEq, reduceIte, ds, g0, g6, nilchk_ptr, hrow, hv, hx, hkn, hjn, hat, List.length_map, st.vn, hle, setCells_v hkl]
  refine ⟨rfl, ⟨none, s.setv k (s.v j), .nils, ?_, st.set_v n0 k _, ?_, .inl ⟨rfl, rfl⟩⟩, Nat.le_refl _, fun b _ h1 _ _ => get_set_ne h1⟩
  · simp [ins1, St.setv, St.v]
  · rw [get_set_ne t2]; exact ht
end Go.Proofs.YtadeojgiiapljaaGreat.Im
namespace Go.Proofs.YtadeojgiiapljaaGreat.Im
open Go
set_option maxHeartbeats 1000000
theorem sliceTo_sl {b off len cap n : Nat} (h : n ≤ cap) : sliceToV (.slice b off len cap) (n : Int) = some (.slice b off n cap) := by
  simp only [sliceToV]; rw [if_pos ⟨by omega, by omega⟩]; simp
theorem rd180 (op : Int) (h : IHeap) : rd g180 [.int .i64 op] h = .ok (.int .i64 (arity 0 op)) h := rfl
theorem RSt.set_o {x : Cx} {h : IHeap} {s : St} {e : Int} (a : RSt x h s e) {ti : Nat} {cells : List IV} (ht : h.get ti = some (.row cells)) (hs : ∀ z, IV.str z ∉ cells) (t : ti ≠ x.rb ∧ ti ≠ x.vb ∧ ti ≠ x.bb ∧ ti ≠ x.mb) (o : IObj) : RSt x (h.set ti o) s e :=
  a.fr (get_set_ne t.1.symm) (get_set_ne t.2.1.symm) (get_set_ne t.2.2.2.symm) (get_set_ne t.2.2.1.symm) (StrStay.set ht hs o)
theorem no_str_line (v : IV) (hv : ∀ z, v ≠ .str z) (z : ByteArray) : IV.str z ∉ lineC v := by
  simp [lineC]; exact fun h => hv z h.symm
theorem arity_nat {op : Int} (h4 : 4 ≤ op) (h21 : op ≤ 21) : ∃ n : Nat, arity 0 op = n ∧ 1 ≤ n ∧ n ≤ 3 := by
  unfold arity
  split
  · exact ⟨1, rfl, by omega, by omega⟩
  · split
    · exact ⟨1, rfl, by omega, by omega⟩
    · split
      · exact ⟨2, rfl, by omega, by omega⟩
      · split
        · exact ⟨3, rfl, by omega, by omega⟩
        · omega
theorem mid_do {x : Cx} {i8 : In8} {s : St} {errno : Int} {xi ti : Nat} {e : Env} {h : IHeap} (m : MidIn x i8 s errno xi ti e h) (hk : i8.kind = 3) (hd : 0 ≤ i8.d ∧ i8.d < x.n) (ha : 0 ≤ i8.a ∧ i8.a < x.n) (hb : 0 ≤ i8.b ∧ i8.b < x.n) (hc : 0 ≤ i8.c ∧ i8.c < x.n) (h4 : 4 ≤ i8.op) (h21 : i8.op ≤ 21) :
    (ix O128 0 mid128 e h).sat (fun y e' h' => y = .normal ∧ Mid x i8 s errno ti h h') (fun _ _ _ => False) := by
  obtain ⟨g0, g6, g7, hx, ht, st, xt, n0⟩ := m
  obtain ⟨kind, op, d, a, b, c, word, stack⟩ := i8
  simp only at hk hd ha hb hc h4 h21
  subst hk
  obtain ⟨k, rfl, hkn⟩ := nat_of hd.1 hd.2
  obtain ⟨j, rfl, hjn⟩ := nat_of ha.1 ha.2
  obtain ⟨j2, rfl, hjn2⟩ := nat_of hb.1 hb.2
  obtain ⟨j3, rfl, hjn3⟩ := nat_of hc.1 hc.2
  obtain ⟨ar, har, ar1, ar3⟩ := arity_nat h4 h21
  have hkl : k < s.vs.length := by rw [st.vn]; exact hkn
  have hat := rowV_at (vs := s.vs) (i := j) (by rw [st.vn]; exact hjn)
  have hat2 := rowV_at (vs := s.vs) (i := j2) (by rw [st.vn]; exact hjn2)
  have hat3 := rowV_at (vs := s.vs) (i := j3) (by rw [st.vn]; exact hjn3)
  have hrow : h.get x.rb = some (.row [.slice x.vb 0 x.n x.n, .ptr x.mb 0, .int .u64 x.stack, .int .i64 x.left, .int .i64 s.steps, .int .i64 errno]) := st.r
  have hv := st.v
  have hle : k + 1 ≤ x.n := hkn
  obtain ⟨t1, t2, t3, t4⟩ := st.tne ht
  simp only [In8.cells] at hx
  obtain ⟨l1, l2, l3⟩ := st.lts
  have lx := get_lt hx
  have n1 : (x.rb = h.n) = False := by simp; omega
  have n2 : (x.vb = h.n) = False := by simp; omega
  have n3 : (xi = h.n) = False := by simp; omega
  have o180 : O128 180 = rd g180 := rfl
  have o182 : O128 182 = F182 := rfl
  have hg : (h.push (.row [.int .u64 (s.vs.getD j 0), .int .u64 (s.vs.getD j2 0), .int .u64 (s.vs.getD j3 0)])).get h.n = some (.row ([s.vs.getD j 0, s.vs.getD j2 0, s.vs.getD j3 0].map u64v)) := by simp [get_push_eq, u64v]
  have r182 : F182 [.int .i64 op, .slice h.n 0 ar 3] (h.push (.row [.int .u64 (s.vs.getD j 0), .int .u64 (s.vs.getD j2 0), .int .u64 (s.vs.getD j3 0)])) = .ok (.tup [.int .u64 (evalW op (s.vs.getD j 0) (s.vs.getD j2 0) (s.vs.getD j3 0)), .int .i64 0]) (h.push (.row [.int .u64 (s.vs.getD j 0), .int .u64 (s.vs.getD j2 0), .int .u64 (s.vs.getD j3 0)])) := by
    have r := F182_at (n := ar) (cap := 3) hg h4 h21 har.symm (by simpa using ar3)
    simp only [List.getD_cons_zero, List.getD_cons_succ] at r
    exact r
  have g := Grow.push h (.row [.int .u64 (s.vs.getD j 0), .int .u64 (s.vs.getD j2 0), .int .u64 (s.vs.getD j3 0)])
  unfold mid128 ic128
  simp only [ss, hps, Nat.reduceEqDiff, Nat.reduceLT, Nat.reduceAdd, Nat.reduceLeDiff, Int.reduceLT, Int.reduceLE, Int.reduceEq, reduceIte, ds, g0, g6, nilchk_ptr, hrow, hv, hx, hkn, hjn, hjn2, hjn3, hat, hat2, hat3, List.length_map, st.vn, hle, setCells_v hkl, rowIf_ok, setCells, n1, n2, n3, o180, rd180, har, sliceTo_sl ar3, o182, r182, extract_0, extract_1]
  refine ⟨rfl, ⟨none, s.setv k (evalW op (s.vs.getD j 0) (s.vs.getD j2 0) (s.vs.getD j3 0)), .nils, ?_, ?_, ?_, .inl ⟨rfl, rfl⟩⟩, by simp, fun b hb h1 _ _ => ?_⟩
  · simp [ins1, St.setv, St.v, Cx.c]
  · have e1 := setCells_v (b := evalW op (s.vs.getD j 0) (s.vs.getD j2 0) (s.vs.getD j3 0)) hkl
    simp only [setCells, List.length_cons, List.length_nil, Nat.zero_add] at e1
    rw [e1]
    exact (st.grow g).set_v n0 k (evalW op (s.vs.getD j 0) (s.vs.getD j2 0) (s.vs.getD j3 0))
  · rw [get_set_ne t2, get_push_old (get_lt ht)]; exact ht
  · rw [get_set_ne h1, get_push_old hb]
theorem addrV_nonneg {i8 : In8} {stack : Int} {vs : List Int} (hw : 0 ≤ i8.word) : 0 ≤ addrV i8 stack vs := by
  unfold addrV
  split
  · exact u64_nonneg _
  · unfold addrA
    split
    · exact u64_nonneg _
    · exact hw
theorem mid_load {x : Cx} {i8 : In8} {s : St} {errno : Int} {xi ti : Nat} {e : Env} {h : IHeap} (m : MidIn x i8 s errno xi ti e h) (hk : i8.kind = 4) (hd : 0 ≤ i8.d ∧ i8.d < x.n) (ha : i8.a < x.n) (hw : 0 ≤ i8.word) :
    (ix O128 0 mid128 e h).sat (fun y e' h' => y = .normal ∧ Mid x i8 s errno ti h h') (fun v _ h' => v = endV ∧ MidX x i8 s h h') := by
  obtain ⟨g0, g6, g7, hx, ht, st, xt, n0⟩ := m
  have hA := addrV_nonneg (stack := x.stack) (vs := s.vs) hw
  have r183 := G183_at (x := i8) st.r st.v st.vn ha
  have ins1e : ins1 x.c i8 s = if askE x.regs (addrV i8 x.stack s.vs) = 0 then some (some (addrV i8 x.stack s.vs), s.setv i8.d (getN s.bs (addrV i8 x.stack s.vs).toNat 8)) else none := by
    unfold ins1; rw [if_neg (by omega), if_neg (by omega), if_neg (by omega), if_pos hk]; rfl
  generalize addrV i8 x.stack s.vs = A at *
  obtain ⟨t1, t2, t3, t4⟩ := st.tne ht
  have o183 : O128 183 = G183 := rfl
  have o184 : O128 184 = F184 := rfl
  have o131 : O128 131 = G131 := rfl
  have o181 : O128 181 = G181 := rfl
  have hlt := get_lt ht
  have lx := get_lt hx
  obtain ⟨l1, l2, l3⟩ := st.lts
  obtain ⟨kind, op, d, a, b, c, word, stack⟩ := i8
  simp only at hk hd ha hw
  subst hk
  obtain ⟨k, rfl, hkn⟩ := nat_of hd.1 hd.2
  have hkl : k < s.vs.length := by rw [st.vn]; exact hkn
  simp only [In8.cells] at hx r183 
  generalize hX : IObj.row [.int .i64 4, .int .i64 op, .int .i64 k, .int .i64 a, .int .i64 b, .int .i64 c, .int .u64 word, .bool stack] = X at *
  have g1 := Grow.push h X
  have st1 := st.grow g1
  have r184 := F184_at st1.m hA
  have r131 := G131_at (e := 14) st1.r
  have n1 : (x.rb = h.n) = False := by simp; omega
  have n2 : (xi = h.n) = False := by simp; omega
  have n3 : (x.rb = h.n + 1) = False := by simp; omega
  have n4 : (xi = h.n + 1) = False := by simp; omega
  have hrow1 : (h.push X).get x.rb = some (.row [.slice x.vb 0 x.n x.n, .ptr x.mb 0, .int .u64 x.stack, .int .i64 x.left, .int .i64 s.steps, .int .i64 errno]) := st1.r
  have hrow0 : h.get x.rb = some (.row [.slice x.vb 0 x.n x.n, .ptr x.mb 0, .int .u64 x.stack, .int .i64 x.left, .int .i64 s.steps, .int .i64 errno]) := st.r
  have hx1 : (h.push X).get xi = some X := g1.get hx
  by_cases q : askE x.regs A = 0
  · rw [if_pos q] at ins1e
    have lv : loadV s.bs x.regs A = (getN s.bs A.toNat 8, 0) := by simp [loadV, q]
    rw [lv] at r184
    have g2 := Grow.push (h.push X) (.row [.int .u64 A])
    obtain ⟨h3, e181, g3, hb3, hn3⟩ := G181_one (h := (h.push X).push (.row [.int .u64 A])) (b := h.n + 1) (a := A) (by simp [get_push_eq])
    have st3 := (st1.grow g2).grow g3
    have g13 := (g1.trans g2).trans g3
    have hrow2 : ((h.push X).push (.row [.int .u64 A])).get x.rb = some (.row [.slice x.vb 0 x.n x.n, .ptr x.mb 0, .int .u64 x.stack, .int .i64 x.left, .int .i64 s.steps, .int .i64 errno]) := (st1.grow g2).r
    have hx2 : ((h.push X).push (.row [.int .u64 A])).get xi = some X := (g1.trans g2).get hx
    have hrow3 : h3.get x.rb = some (.row [.slice x.vb 0 x.n x.n, .ptr x.mb 0, .int .u64 x.stack, .int .i64 x.left, .int .i64 s.steps, .int .i64 errno]) := st3.r
    have hx3 : h3.get xi = some X := g13.get hx
    have hv3 := st3.v
    have ht3 := g13.get ht
    have hle : k + 1 ≤ x.n := hkn
    have st4 := st3.set_v n0 k (getN s.bs A.toNat 8)
    have ht4 : (h3.set x.vb (.row ((s.vs.set k (getN s.bs A.toNat 8)).map u64v))).get ti = some (.row [.int .i64 1, .nils, .bool false, .nils]) := by rw [get_set_ne t2]; exact ht3
    have st5 := st4.set_o ht4 (no_str_line .nils (by simp)) ⟨t1, t2, t3, t4⟩ (.row (lineC (.aslice (h.n + 1 + 1 + 2) 0 1 1)))
    subst hX
    unfold mid128 ic128
    simp only [ss, hps, Nat.reduceEqDiff, Nat.reduceLT, Nat.reduceAdd, Nat.reduceLeDiff, Int.reduceLT, Int.reduceLE, Int.reduceEq, reduceIte, ds, g0, g6, g7, nilchk_ptr, hx, hrow0, hrow3, hx3, n1, n2, n3, n4, hv3, o183, r183, o184, r184, o181, e181, extract_0, extract_1, rowIf_ok, hkn, st3.vn, List.length_map, hle, setCells_v hkl, ht4, lineC]
    refine ⟨rfl, ⟨some A, s.setv k (getN s.bs A.toNat 8), .aslice (h.n + 1 + 1 + 2) 0 1 1, ins1e, st5, get_set_same ht4, .inr ⟨_, A, rfl, rfl, by omega, ?_⟩⟩, ?_, fun b hb h1 h2 h3' => ?_⟩
    · rw [get_set_ne (by omega), get_set_ne (by omega)]; exact hb3
    · have := g13.1
      simpa using this
    · rw [get_set_ne h3', get_set_ne h1, g13.2 b hb]
  · rw [if_neg q] at ins1e
    have lv : loadV s.bs x.regs A = (0, askE x.regs A) := by simp [loadV, q]
    rw [lv] at r184
    subst hX
    unfold mid128 ic128
    simp only [ss, hps, Nat.reduceEqDiff, Nat.reduceLT, Nat.reduceAdd, Nat.reduceLeDiff, Int.reduceLT, Int.reduceLE, Int.reduceEq, reduceIte, ds, g0, g6, nilchk_ptr, hx, hrow0, n1, n2, o183, r183, o184, r184, o131, r131, extract_0, extract_1, q, regK_panic]
    exact ⟨rfl, ⟨ins1e, st1.set_r s.steps 14, by simp, fun b hb hne => by rw [get_set_ne hne, get_push_old hb]⟩⟩
theorem mid_store {x : Cx} {i8 : In8} {s : St} {errno : Int} {xi ti : Nat} {e : Env} {h : IHeap} (m : MidIn x i8 s errno xi ti e h) (hk : i8.kind = 5) (hb : 0 ≤ i8.b ∧ i8.b < x.n) (ha : i8.a < x.n) (hw : 0 ≤ i8.word) :
    (ix O128 0 mid128 e h).sat (fun y e' h' => y = .normal ∧ Mid x i8 s errno ti h h') (fun v _ h' => v = endV ∧ MidX x i8 s h h') := by
  obtain ⟨g0, g6, g7, hx, ht, st, xt, n0⟩ := m
  have hA := addrV_nonneg (stack := x.stack) (vs := s.vs) hw
  have r183 := G183_at (x := i8) st.r st.v st.vn ha
  have ins1e : ins1 x.c i8 s = if askE x.regs (addrV i8 x.stack s.vs) = 0 then some (some (addrV i8 x.stack s.vs), ⟨s.vs, putN s.bs (addrV i8 x.stack s.vs).toNat (s.v i8.b) 8, s.steps⟩) else none := by
    unfold ins1; rw [if_neg (by omega), if_neg (by omega), if_neg (by omega), if_neg (by omega)]; rfl
  generalize addrV i8 x.stack s.vs = A at *
  obtain ⟨t1, t2, t3, t4⟩ := st.tne ht
  have o183 : O128 183 = G183 := rfl
  have o185 : O128 185 = G185 := rfl
  have o131 : O128 131 = G131 := rfl
  have o181 : O128 181 = G181 := rfl
  have hlt := get_lt ht
  have lx := get_lt hx
  obtain ⟨l1, l2, l3⟩ := st.lts
  obtain ⟨kind, op, d, a, b, c, word, stack⟩ := i8
  simp only at hk hb ha hw
  subst hk
  obtain ⟨k, rfl, hkn⟩ := nat_of hb.1 hb.2
  have hkl : k < s.vs.length := by rw [st.vn]; exact hkn
  have hat := rowV_at hkl
  simp only [In8.cells] at hx r183
  generalize hX : IObj.row [.int .i64 5, .int .i64 op, .int .i64 d, .int .i64 a, .int .i64 k, .int .i64 c, .int .u64 word, .bool stack] = X at *
  have g1 := Grow.push h X
  have st1 := st.grow g1
  have r185 := G185_at (x := s.vs.getD k 0) st1.m hA
  have n1 : (x.rb = h.n) = False := by simp; omega
  have n2 : (xi = h.n) = False := by simp; omega
  have n3 : (x.vb = h.n) = False := by simp; omega
  have hrow0 : h.get x.rb = some (.row [.slice x.vb 0 x.n x.n, .ptr x.mb 0, .int .u64 x.stack, .int .i64 x.left, .int .i64 s.steps, .int .i64 errno]) := st.r
  have hv0 := st.v
  by_cases q : askE x.regs A = 0
  · rw [if_pos q] at ins1e
    have eB : storeB s.bs x.regs A (s.vs.getD k 0) = putN s.bs A.toNat (s.vs.getD k 0) 8 := by simp [storeB, q]
    rw [eB, q] at r185
    have hBl : (putN s.bs A.toNat (s.vs.getD k 0) 8).length = 65536 := by rw [putN_len]; exact st.m.bytes.2
    have st2 := st1.set_b n0 hBl
    generalize hH : (h.push X).set x.bb (.row ((putN s.bs A.toNat (s.vs.getD k 0) 8).map u8)) = H at *
    have hHn : H.n = h.n + 1 := by rw [← hH]; rfl
    obtain ⟨h3, e181, g3, hb3, hn3⟩ := G181_one (h := H.push (.row [.int .u64 A])) (b := H.n) (a := A) (by simp [get_push_eq])
    have st3 := (st2.grow (Grow.push H (.row [.int .u64 A]))).grow g3
    have ht2 : H.get ti = some (.row (lineC .nils)) := by rw [← hH, get_set_ne t3, get_push_old hlt]; exact ht
    have ht3 : h3.get ti = some (.row [.int .i64 1, .nils, .bool false, .nils]) := ((Grow.push H (.row [.int .u64 A])).trans g3).get ht2
    have st5 := st3.set_o ht3 (no_str_line .nils (by simp)) ⟨t1, t2, t3, t4⟩ (.row (lineC (.aslice (H.n + 1 + 2) 0 1 1)))
    subst hX
    unfold mid128 ic128
    simp only [ss, hps, Nat.reduceEqDiff, Nat.reduceLT, Nat.reduceAdd, Nat.reduceLeDiff, Int.reduceLT, Int.reduceLE, Int.reduceEq, reduceIte, ds, g0, g6, g7, nilchk_ptr, hx, hrow0, n1, n2, n3, hv0, o183, r183, o185, r185, o181, e181, rowIf_ok, hkn, st.vn, hat, ht3, lineC]
    refine ⟨rfl, ⟨some A, _, .aslice (H.n + 1 + 2) 0 1 1, ins1e, st5, get_set_same ht3, .inr ⟨_, A, rfl, rfl, by omega, ?_⟩⟩, ?_, fun b' hb' h1 h2 h3' => ?_⟩
    · rw [get_set_ne (by omega)]; exact hb3
    · have := g3.1
      simp at this ⊢
      omega
    · rw [get_set_ne h3', g3.2 b' (by simp; omega), get_push_old (by omega), ← hH, get_set_ne h2, get_push_old hb']
  · rw [if_neg q] at ins1e
    have eB : storeB s.bs x.regs A (s.vs.getD k 0) = s.bs := by simp [storeB, q]
    rw [eB, set_same st1.m.bytes.1] at r185
    have r131 := G131_at (e := 14) st1.r
    subst hX
    unfold mid128 ic128
    simp only [ss, hps, Nat.reduceEqDiff, Nat.reduceLT, Nat.reduceAdd, Nat.reduceLeDiff, Int.reduceLT, Int.reduceLE, Int.reduceEq, reduceIte, ds, g0, g6, nilchk_ptr, hx, hrow0, n1, n2, n3, hv0, o183, r183, o185, r185, o131, r131, hkn, st.vn, hat, q, regK_panic]
    exact ⟨rfl, ⟨ins1e, st1.set_r s.steps 14, by simp, fun b hb hne => by rw [get_set_ne hne, get_push_old hb]⟩⟩
end Go.Proofs.YtadeojgiiapljaaGreat.Im
namespace Go.Proofs.YtadeojgiiapljaaGreat.Im
open Go
set_option maxHeartbeats 1000000
def vOf (lb : Option Nat) (cs : List IV) : IV := match lb with | some b => .aslice b 0 (cs.length / 4) 4 | none => .nils
theorem OutAt.cell' {h : IHeap} {ob : Nat} {lb : Option Nat} {cs : List IV} (o : OutAt h ob lb cs) : h.get ob = some (.row [vOf lb cs]) := o.cell
theorem vOf_one (lb : Option Nat) (cs : List IV) : (vOf lb cs).one = true := by cases lb <;> rfl
theorem vOf_str (lb : Option Nat) (cs : List IV) (z : ByteArray) : IV.str z ∉ [vOf lb cs] := by cases lb <;> simp [vOf]
def kill (h : IHeap) (lb : Option Nat) : IHeap := match lb with | some b => h.set b .dead | none => h
theorem kill_n (h : IHeap) (lb : Option Nat) : (kill h lb).n = h.n := by cases lb <;> rfl
theorem kill_get {h : IHeap} {lb : Option Nat} {b : Nat} (hb : lb ≠ some b) : (kill h lb).get b = h.get b := by
  cases lb with
  | none => rfl
  | some c => exact get_set_ne fun he => hb (by rw [he])
theorem app_out {h : IHeap} {ob : Nat} {lb : Option Nat} {cs new : List IV} (ho : OutAt h ob lb cs) (hl : new.length = 4) (h1 : new.all (·.one) = true) (hs : cs.length ≤ 8000000) :
    appendI 4 64 (vOf lb cs) (.slice h.n 0 1 1) (h.push (.row new)) = .ok (.aslice (h.n + 1) 0 (cs.length / 4 + 1) 4) ((kill (h.push (.row new)) lb).push (.row (cs ++ new))) := by
  have e1 : Im.loadN (h.push (.row new)) (.ptr h.n 0) (1 * 4) = some new := by
    rw [loadN_ptr, get_push_new, Option.bind_some, rowN_row, subL_ok (by omega)]
    simp [List.take_of_length_le (Nat.le_of_eq hl)]
  have hlen := ho.len
  cases lb with
  | none =>
    have hcs := ho.none rfl
    subst hcs
    have e2 : ¬ ((0 + 1) * 64 > 2 ^ 45) := by omega
    simp only [vOf, appendI, sliceLen, sliceCells, e1, h1]
    simp [kill]
  | some b =>
    have hb := ho.row b rfl
    have e3 : Im.loadN (h.push (.row new)) (.ptr b 0) (cs.length / 4 * 4) = some cs := by
      rw [loadN_ptr, get_push_old (get_lt hb), hb, Option.bind_some, rowN_row, subL_ok (by omega)]
      simp [List.take_of_length_le (show cs.length ≤ cs.length / 4 * 4 by omega)]
    have e4 : ¬ ((cs.length / 4 + 1) * 64 > 2 ^ 45) := by omega
    have e5 : ¬ (cs.length / 4 + 1 > 2 ^ 45) := by omega
    simp only [vOf, appendI, sliceLen, sliceCells, e1, h1, e3, e4, e5]
    simp [kill]
/-- Where nothing of the run lies. -/
structure OSep (x : Cx) (ob : Nat) (lb : Option Nat) : Prop where
  o : ob ≠ x.rb ∧ ob ≠ x.vb ∧ ob ≠ x.bb ∧ ob ≠ x.mb
  l : ∀ b, lb = some b → b ≠ x.rb ∧ b ≠ x.vb ∧ b ≠ x.bb ∧ b ≠ x.mb ∧ b ≠ ob
theorem OSep.new {x : Cx} {ob : Nat} {lb lb' : Option Nat} {h : IHeap} {s : St} {e : Int} (a : OSep x ob lb) (r : RSt x h s e) (ho : ob < h.n) (hn : NewLb h lb lb') : OSep x ob lb' := by
  refine ⟨a.o, fun b hb => ?_⟩
  rcases hn with e | ⟨c, e, hc⟩
  · exact a.l b (e ▸ hb)
  · rw [e] at hb; cases hb
    obtain ⟨l1, l2, l3⟩ := r.lts
    have l4 := r.mlt
    omega
def emit (h : IHeap) (ob : Nat) (lb : Option Nat) (cs new : List IV) : IHeap := ((kill (h.push (.row new)) lb).push (.row (cs ++ new))).set ob (.row [.aslice (h.n + 1) 0 (cs.length / 4 + 1) 4])
theorem emit_n (h : IHeap) (ob : Nat) (lb : Option Nat) (cs new : List IV) : (emit h ob lb cs new).n = h.n + 2 := by simp [emit, kill_n]
theorem emit_get {h : IHeap} {ob b : Nat} {lb : Option Nat} {cs new : List IV} (hb : b < h.n) (h1 : b ≠ ob) (h2 : lb ≠ some b) : (emit h ob lb cs new).get b = h.get b := by
  unfold emit
  rw [get_set_ne h1, get_push_old (by rw [kill_n]; simp; omega), kill_get h2, get_push_old hb]
theorem emit_new {h : IHeap} {ob : Nat} {lb : Option Nat} {cs new : List IV} (ho : ob < h.n) (hl : ∀ b, lb = some b → b < h.n) : (emit h ob lb cs new).get h.n = some (.row new) := by
  unfold emit
  rw [get_set_ne (by omega), get_push_old (by rw [kill_n]; simp), kill_get (fun he => by have := hl _ he; omega), get_push_new]
theorem emit_out {h : IHeap} {ob : Nat} {lb : Option Nat} {cs new : List IV} (ho : OutAt h ob lb cs) (hl : new.length = 4) (hne : ∀ b, lb = some b → b ≠ ob) : OutAt (emit h ob lb cs new) ob (some (h.n + 1)) (cs ++ new) := by
  have hlt := ho.lt
  have hk : (kill (h.push (.row new)) lb).n = h.n + 1 := by rw [kill_n]; rfl
  have hg : ((kill (h.push (.row new)) lb).push (.row (cs ++ new))).get ob = some (.row [vOf lb cs]) := by
    rw [get_push_old (by omega), kill_get (fun he => hne _ he rfl), get_push_old hlt]; exact ho.cell'
  have hlen := ho.len
  refine ⟨?_, ?_, fun hh => (by cases hh), by simp [hl]; try omega⟩
  · have e1 : (cs ++ new).length / 4 = cs.length / 4 + 1 := by simp [hl]
    simp only [e1]
    exact get_set_same hg
  · intro b hb
    cases hb
    unfold emit
    rw [get_set_ne (by omega), ← hk, get_push_new]
theorem emit_st {x : Cx} {h : IHeap} {ob : Nat} {lb : Option Nat} {cs new : List IV} {s : St} {e : Int} (r : RSt x h s e) (ho : OutAt h ob lb cs) (sp : OSep x ob lb) (hs : ∀ z, IV.str z ∉ cs) : RSt x (emit h ob lb cs new) s e := by
  obtain ⟨l1, l2, l3⟩ := r.lts
  have l4 := r.mlt
  have nl : ∀ b, (b = x.rb ∨ b = x.vb ∨ b = x.bb ∨ b = x.mb) → lb ≠ some b := fun b hb he => by
    obtain ⟨n1, n2, n3, n4, _⟩ := sp.l b he
    rcases hb with h | h | h | h <;> contradiction
  refine r.fr (emit_get l1 sp.o.1.symm (nl _ (.inl rfl))) (emit_get l2 sp.o.2.1.symm (nl _ (.inr (.inl rfl)))) (emit_get l4 sp.o.2.2.2.symm (nl _ (.inr (.inr (.inr rfl))))) (emit_get l3 sp.o.2.2.1.symm (nl _ (.inr (.inr (.inl rfl))))) ?_
  intro b cells hb hstr
  obtain ⟨z, hz⟩ := hstr
  refine emit_get (get_lt hb) ?_ ?_
  · rintro rfl
    rw [ho.cell'] at hb; cases hb
    exact vOf_str lb cs z hz
  · intro he
    rw [ho.row b he] at hb; cases hb
    exact hs z hz
theorem LkAt.no_str {h : IHeap} {P : Nat → Prop} {cs : List IV} {L : List RL} (a : LkAt h P cs L) (z : ByteArray) : IV.str z ∉ cs := by
  induction a with
  | nil => simp
  | line0 t ih => simp [lineC]; exact ih
  | line1 hp hb t ih => simp [lineC]; exact ih
  | node hp ho hl ht t ih1 ih2 => simp; exact ih2
/-- Where an instruction may be, its variables are there. -/
inductive InsIn (i8 : In8) (n : Nat) : Prop
  | word (hk : i8.kind = 1) (hd : 0 ≤ i8.d ∧ i8.d < n)
  | move (hk : i8.kind = 2) (hd : 0 ≤ i8.d ∧ i8.d < n) (ha : 0 ≤ i8.a ∧ i8.a < n)
  | op (hk : i8.kind = 3) (hd : 0 ≤ i8.d ∧ i8.d < n) (ha : 0 ≤ i8.a ∧ i8.a < n) (hb : 0 ≤ i8.b ∧ i8.b < n) (hc : 0 ≤ i8.c ∧ i8.c < n) (h4 : 4 ≤ i8.op) (h21 : i8.op ≤ 21)
  | load (hk : i8.kind = 4) (hd : 0 ≤ i8.d ∧ i8.d < n) (ha : i8.a < n)
  | store (hk : i8.kind = 5) (hb : 0 ≤ i8.b ∧ i8.b < n) (ha : i8.a < n)
theorem arity15_op {op : Int} (h : ¬ arity15 op = 0) : 4 ≤ op ∧ op ≤ 21 := by
  unfold arity15 at h
  split at h
  · exact absurd rfl h
  · omega
theorem insIn {i8 : In8} {vars : Int} {n : Nat} (h : insOk i8 vars = true) (hv : vars ≤ n) (hn : 0 < n) : InsIn i8 n := by
  have up : ∀ d, isN d vars = true → 0 ≤ d ∧ d < (n : Int) := fun d hd => by have := isN_iff.1 hd; omega
  unfold insOk at h
  split at h
  · rename_i hk
    simp only [Bool.and_eq_true] at h
    exact .word hk (up _ h.1.1.1.1.1)
  · split at h
    · rename_i hk
      simp only [Bool.and_eq_true] at h
      exact .move hk (up _ h.1.1.1.1.1.1) (up _ h.1.1.1.1.1.2)
    · split at h
      · rename_i hk
        split at h
        · cases h
        · rename_i har
          split at h
          · cases h
          · rename_i hd
            split at h
            · cases h
            · rename_i ha
              split at h
              · cases h
              · split at h
                · cases h
                · simp only [Bool.and_eq_true, Bool.or_eq_true, decide_eq_true_eq] at h
                  obtain ⟨h4, h21⟩ := arity15_op har
                  refine .op hk (up _ (by simpa using hd)) (up _ (by simpa using ha)) ?_ ?_ h4 h21
                  · rcases h.1 with ⟨_, hb⟩ | ⟨_, hb⟩
                    · exact up _ hb
                    · omega
                  · rcases h.2 with ⟨_, hb⟩ | ⟨_, hb⟩
                    · exact up _ hb
                    · omega
      · split at h
        · rename_i hk
          simp only [Bool.and_eq_true, Bool.or_eq_true, decide_eq_true_eq] at h
          refine .load hk (up _ h.1.1.1.1) ?_
          rcases h.1.1.1.2 with e | e
          · omega
          · exact (up _ e).2
        · split at h
          · rename_i hk
            simp only [Bool.and_eq_true, Bool.or_eq_true, decide_eq_true_eq] at h
            refine .store hk (up _ h.1.1.2) ?_
            rcases h.1.1.1.2 with e | e
            · omega
            · exact (up _ e).2
          · cases h
theorem mid_all {x : Cx} {i8 : In8} {s : St} {errno : Int} {xi ti : Nat} {e : Env} {h : IHeap} (m : MidIn x i8 s errno xi ti e h) (hi : InsIn i8 x.n) (hw : 0 ≤ i8.word) :
    (ix O128 0 mid128 e h).sat (fun y e' h' => y = .normal ∧ Mid x i8 s errno ti h h') (fun v _ h' => v = endV ∧ MidX x i8 s h h') := by
  cases hi with
  | word hk hd => exact sat_mono (mid_word m hk hd) (fun _ _ _ h => h) (fun _ _ _ h => h.elim)
  | move hk hd ha => exact sat_mono (mid_move m hk hd ha) (fun _ _ _ h => h) (fun _ _ _ h => h.elim)
  | op hk hd ha hb hc h4 h21 => exact sat_mono (mid_do m hk hd ha hb hc h4 h21) (fun _ _ _ h => h) (fun _ _ _ h => h.elim)
  | load hk hd ha => exact mid_load m hk hd ha hw
  | store hk hb ha => exact mid_store m hk hb ha hw
end Go.Proofs.YtadeojgiiapljaaGreat.Im
namespace Go.Proofs.YtadeojgiiapljaaGreat.Im
open Go
set_option maxHeartbeats 1000000
theorem sat_lv {O : Orc} {fuel : Nat} {c : IC} {e : Env} {h : IHeap} {Q : IExit → Env → IHeap → Prop} {X : IV → Env → IHeap → Prop} (hq : (ix O fuel c e h).sat Q X) :
    (ix O fuel c e h).sat (fun y e' h' => Q y e' h' ∧ ∀ t, c.wr t = false → e'.get t = e.get t) X := by
  have hl := ix_leaves (O := O) (fuel := fuel) c e h
  cases hr : ix O fuel c e h with
  | ok x e1 h1 => rw [hr] at hq hl; exact ⟨hq, hl⟩
  | panic v e1 h1 => rw [hr] at hq; exact hq
  | fail => rw [hr] at hq; exact hq
/-- How a call of a part of the run ends. -/
def Ends (x : Cx) (ob : Nat) (lb : Option Nat) (cs : List IV) (h : IHeap) (s : St) (errno : Int) (d : Nat) (val : Out → IV) (R : Out → Prop) (r : Res IV) : Prop :=
  ∃ o h' lb' cs', Post x ob lb cs h s errno d o h' lb' cs' ∧ R o ∧ (o.en = none → r = .ok (val o) h') ∧ (o.en ≠ none → r = .panic endV h')
def tail128 : IC := match ic128.body with
  | .seq _ (.seq _ (.seq _ (.seq _ t))) => t
  | _ => .skip
theorem tail128_at {O : Orc} {e : Env} {h : IHeap} {ob ti : Nat} {lb : Option Nat} {cs : List IV} {iv : IV} (g2 : e.get 2 = some (.ptr ob 0)) (g7 : e.get 7 = some (.ptr ti 0)) (ht : h.get ti = some (.row [.int .i64 1, iv, .bool false, .nils])) (hiv : iv.one = true)
    (ho : OutAt h ob lb cs) (hs : cs.length ≤ 8000000) (hne : ∀ b, lb = some b → b ≠ ob) :
    (ix O 0 tail128 e h).sat (fun y e' h' => y = .normal ∧ h' = emit h ob lb cs [.int .i64 1, iv, .bool false, .nils]) (fun _ _ _ => False) := by
  have hlt := ho.lt
  have ha := app_out ho (new := [.int .i64 1, iv, .bool false, .nils]) rfl (by simp only [List.all_cons, hiv, one_int, one_bool, one_nils, List.all_nil, Bool.and_self]) hs
  have hk : (kill (h.push (.row [.int .i64 1, iv, .bool false, .nils])) lb).n = h.n + 1 := by rw [kill_n]; rfl
  have hc := ho.cell'
  have hg : (kill (h.push (.row [.int .i64 1, iv, .bool false, .nils])) lb).get ob = some (.row [vOf lb cs]) := by
    rw [kill_get (fun he => hne _ he rfl), get_push_old hlt]; exact hc
  have n1 : (ob = h.n + 1) = False := by simp; omega
  unfold tail128 ic128
  simp only [ss, hps, Nat.reduceEqDiff, Nat.reduceLT, Nat.reduceAdd, Nat.reduceLeDiff, Int.reduceLT, Int.reduceLE, Int.reduceEq, reduceIte, ds, g2, g7, hc, ht, nilchk_ptr, rowIf_ok, hiv, ha, hk, hg, n1, cells_asl, setCells]
  exact ⟨rfl, rfl⟩
noncomputable def G128 : List IV → M IV := bodyI T0 O128 0 ic128
theorem G128_at {x : Cx} {nd : Nd} {a b c : IV} {ob : Nat} {lb : Option Nat} {cs : List IV} {h : IHeap} {s : St} {errno : Int} (r : RSt x h s errno) (ho : OutAt h ob lb cs) (sp : OSep x ob lb) (hstr : ∀ z, IV.str z ∉ cs) (n0 : 0 < x.n)
    (oa : a.one = true) (obb : b.one = true) (oc : c.one = true) (hi : InsIn nd.ins x.n) (hw : 0 ≤ nd.ins.word) (hslow : cs.length + 4 ≤ 4 * s.steps) (hst : s.steps ≤ 2000000) :
    Ends x ob lb cs h s errno 4 (fun _ => .tup []) (fun o => (∃ it s1, ins1 x.c nd.ins s = some (it, s1) ∧ o = ⟨s1, [.line it], false, none⟩) ∨ (ins1 x.c nd.ins s = none ∧ o = ⟨s, [], false, some 14⟩)) (G128 [.ptr x.rb 0, .agg (nd.cells a b c), .ptr ob 0] h) := by
  have hlt := ho.lt
  obtain ⟨l1, l2, l3⟩ := r.lts
  have hb : (ix O128 0 ic128.body (startI 0 [.ptr x.rb 0, .agg (nd.cells a b c), .ptr ob 0]) h).sat (fun y e' h' => y = .normal ∧ ∃ it s1, ins1 x.c nd.ins s = some (it, s1) ∧ ∃ lb' cs', Post x ob lb cs h s errno 4 ⟨s1, [.line it], false, none⟩ h' lb' cs')
      (fun v _ h' => v = endV ∧ ins1 x.c nd.ins s = none ∧ Post x ob lb cs h s errno 4 ⟨s, [], false, some 14⟩ h' lb []) := by
    have e8 : nd.ins.cells = [.int .i64 nd.ins.kind, .int .i64 nd.ins.op, .int .i64 nd.ins.d, .int .i64 nd.ins.a, .int .i64 nd.ins.b, .int .i64 nd.ins.c, .int .u64 nd.ins.word, .bool nd.ins.stack] := rfl
    have o181 : O128 181 = G181 := rfl
    unfold ic128
    simp only [start_cons, start_nil, Nd.cells]
    refine sat_seq ?_
    simp only [ss, hps, Nat.reduceEqDiff, Nat.reduceLT, Nat.reduceAdd, Nat.reduceLeDiff, Int.reduceLT, Int.reduceLE, Int.reduceEq, reduceIte, rowIf_ok, oa, obb, oc]
    refine sat_next (sat_seq ?_)
    simp only [ss, hps, Nat.reduceEqDiff, Nat.reduceLT, Nat.reduceAdd, Nat.reduceLeDiff, Int.reduceLT, Int.reduceLE, Int.reduceEq, reduceIte, setCells, set_push_at]
    refine sat_next (sat_seq ?_)
    simp only [ss, hps, Nat.reduceEqDiff, Nat.reduceLT, Nat.reduceAdd, Nat.reduceLeDiff, Int.reduceLT, Int.reduceLE, Int.reduceEq, reduceIte, o181, G181_nil, lineC, setCells, set_push_at]
    refine sat_next (sat_seq ?_)
    generalize hh4 : IHeap.push _ _ = h4
    have g4 : Grow h h4 := by
      rw [← hh4]
      exact (((Grow.push _ _).trans (Grow.push _ _)).trans (Grow.push _ _)).trans (Grow.push _ _)
    have n4 : h4.n = h.n + 4 := by rw [← hh4]; rfl
    have hx4 : h4.get (h.n + 1) = some (.row nd.ins.cells) := by rw [← hh4, e8]; simp [get_push_eq]
    have ht4 : h4.get (h.n + 3) = some (.row (lineC .nils)) := by rw [← hh4]; simp [get_push_eq, lineC]
    have ho4 := ho.mono (h' := h4) (g4.2 _ hlt) (fun b hb => g4.2 _ (get_lt (ho.row b hb)))
    have sll : ∀ b, lb = some b → b < h.n := fun b hb => get_lt (ho.row b hb)
    refine sat_mono (sat_lv (show (ix O128 0 mid128 _ h4).sat _ _ from mid_all (x := x) (i8 := nd.ins) (s := s) (errno := errno) (xi := h.n + 1) (ti := h.n + 1 + 1 + 1) ⟨by simp only [ss, hps, Nat.reduceEqDiff, Nat.reduceLT, Nat.reduceAdd, Nat.reduceLeDiff, Int.reduceLT, Int.reduceLE, Int.reduceEq, reduceIte], by simp only [ss, hps, Nat.reduceEqDiff, Nat.reduceLT, Nat.reduceAdd, Nat.reduceLeDiff, Int.reduceLT, Int.reduceLE, Int.reduceEq, reduceIte], by simp only [ss, hps, Nat.reduceEqDiff, Nat.reduceLT, Nat.reduceAdd, Nat.reduceLeDiff, Int.reduceLT, Int.reduceLE, Int.reduceEq, reduceIte], hx4, ht4, r.grow g4, by omega, n0⟩ hi hw)) ?_ ?_
    · rintro y e' h5 ⟨⟨rfl, hm⟩, hlv⟩
      have j2 := hlv 2 rfl
      have j7 := hlv 7 rfl
      simp only [ss, hps, Nat.reduceEqDiff, Nat.reduceLT, Nat.reduceAdd, Nat.reduceLeDiff, Int.reduceLT, Int.reduceLE, Int.reduceEq, reduceIte] at j2 j7
      obtain ⟨⟨it, s1, iv, hi1, st5, ht5, hit⟩, hn5, hsame⟩ := hm
      have ne1 := sp.o
      have ho5 := ho4.mono (h' := h5) (hsame _ (by omega) ne1.2.1 ne1.2.2.1 (by omega)) (fun b hb => by
        obtain ⟨m1, m2, m3, m4, m5⟩ := sp.l b hb
        have := sll b hb
        exact hsame b (by omega) m2 m3 (by omega))
      have hiv : iv.one = true := by rcases hit with ⟨rfl, _⟩ | ⟨b, a, rfl, _⟩ <;> rfl
      have hs1 := ins1_steps hi1
      refine sat_mono (tail128_at (O := O128) j2 j7 ht5 hiv ho5 (by omega) (fun b hb => (sp.l b hb).2.2.2.2)) ?_ (fun _ _ _ h => h.elim)
      rintro y e6 h6 ⟨rfl, rfl⟩
      refine ⟨rfl, it, s1, hi1, some (h5.n + 1), [.int .i64 1, iv, .bool false, .nils], emit_st st5 ho5 sp hstr, emit_out ho5 rfl (fun b hb => (sp.l b hb).2.2.2.2), ?_, ⟨by rw [emit_n]; omega, fun b hb m1 m2 m3 m4 m5 => ?_⟩, .inr ⟨_, rfl, by omega⟩, ?_⟩
      · rcases hit with ⟨rfl, rfl⟩ | ⟨b, a, rfl, rfl, hbn, hbr⟩
        · exact .line0 .nil
        · have hbl := get_lt hbr
          refine .line1 ⟨by omega, by simp; omega⟩ ?_ .nil
          rw [emit_get hbl (by omega) (fun he => by have := sll _ he; omega)]; exact hbr
      · rw [emit_get (by omega) m4 m5, hsame b (by omega) m2 m3 (by omega), g4.2 b hb]
      · simp only [List.length_cons, List.length_nil]; omega
    · rintro v e' h5 ⟨rfl, hm⟩
      have ne1 := sp.o
      refine ⟨rfl, hm.no, hm.st, ?_, .nil, ⟨by have := hm.n; omega, fun b hb m1 m2 m3 m4 m5 => by rw [hm.same b (by omega) m1, g4.2 b hb]⟩, .inl rfl, by simp⟩
      rw [List.append_nil]
      exact ho4.mono (hm.same _ (by omega) ne1.1) (fun b hb => by
        obtain ⟨m1, m2, m3, m4, m5⟩ := sp.l b hb
        have := sll b hb
        exact hm.same b (by omega) m1)
  unfold G128
  rw [body_eq rfl rfl rfl (by decide)]
  rcases sat_inv hb with ⟨y, e', h', h1, rfl, it, s1, hi1, lb', cs', hp⟩ | ⟨v, e', h', h1, rfl, hno, hp⟩
  · exact ⟨_, h', lb', cs', hp, .inl ⟨it, s1, hi1, rfl⟩, fun _ => by rw [h1]; rfl, fun hh => absurd rfl hh⟩
  · exact ⟨_, h', lb, [], hp, .inr ⟨hno, rfl⟩, fun hh => (by cases hh), fun _ => by rw [h1]; rfl⟩
end Go.Proofs.YtadeojgiiapljaaGreat.Im
