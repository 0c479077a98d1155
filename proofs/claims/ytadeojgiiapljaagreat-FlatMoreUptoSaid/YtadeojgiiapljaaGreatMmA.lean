/- Bytes in own memory; mem.put. -/
import Derived.Test.YtadeojgiiapljaaGreatIcA
import Derived.Test.YtadeojgiiapljaaGreatIcB
import Derived.Test.YtadeojgiiapljaaGreatImC
import Derived.Test.YtadeojgiiapljaaGreatNdD
import Derived.Test.YtadeojgiiapljaaGreatRgB
set_option linter.unusedSimpArgs false
set_option linter.unusedVariables false
namespace Go.Proofs.YtadeojgiiapljaaGreat.Im
open Go
set_option maxHeartbeats 8000000
def u8 (b : Int) : IV := .int .u8 b
/-- A memory: its struct, its layout, its bytes. -/
structure MemAt (h : IHeap) (mb : Nat) (u : IV) (bb : Nat) (bs : List Int) : Prop where
  m : h.get mb = some (.row [u, .ptr bb 0])
  b : h.get bb = some (.row (bs.map u8))
  len : bs.length = 65536
theorem MemAt.ne {h : IHeap} {mb bb : Nat} {u : IV} {bs : List Int} (hm : MemAt h mb u bb bs) : mb ≠ bb := by
  rintro rfl
  have h1 := hm.m; rw [hm.b] at h1
  have h2 : bs.map u8 = [u, .ptr mb 0] := by injection h1 with h1; injection h1
  have h3 := congrArg List.length h2
  simp [hm.len] at h3
theorem set_same {h : IHeap} {b : Nat} {o : IObj} (hg : h.get b = some o) : h.set b o = h := by
  have hb := get_lt hg
  unfold IHeap.get at hg
  rw [if_pos hb] at hg
  unfold IHeap.set
  rw [if_pos hb]
  obtain ⟨h1, h2⟩ := List.getElem?_eq_some_iff.1 hg
  have : h.l.set (h.n - 1 - b) o = h.l := by rw [← h2]; exact List.set_getElem_self h1
  rw [this]
theorem set_set (h : IHeap) (b : Nat) (o o' : IObj) : (h.set b o).set b o' = h.set b o' := by
  unfold IHeap.set
  simp only
  by_cases hb : b < h.n
  · simp [hb]
  · simp [hb]
/-- A byte of a word. -/
def byteOf (x : Int) (k : Nat) : Int := IntKind.u8.wrap (x.fdiv (2 ^ (min (8 * k) 64)))
def putN (bs : List Int) (at_ : Nat) (x : Int) : Nat → List Int
  | 0 => bs
  | k + 1 => (putN bs at_ x k).set (at_ + k) (byteOf x k)
theorem putN_len (bs : List Int) (a : Nat) (x : Int) : ∀ k, (putN bs a x k).length = bs.length
  | 0 => rfl
  | k + 1 => by simp [putN, putN_len bs a x k]
theorem setCells_one {cur : List Int} {i : Nat} {b : Int} (h : i < cur.length) : setCells (cur.map u8) i [u8 b] = (cur.set i b).map u8 := by
  unfold setCells
  rw [List.map_set]
  have hl : i < (cur.map u8).length := by simpa using h
  rw [List.set_eq_take_append_cons_drop]
  simp [h]
theorem iaddrP_nat (len sz b off i : Nat) : iaddrP len sz (.ptr b off) (i : Int) = if i < len then some (.ptr b (off + i * sz)) else none := by
  simp only [iaddrP]; by_cases h : i < len <;> simp [h]
theorem bin_shr (k j : IntKind) (a : Int) (b : Nat) : binI .shr (.int k a) (.int j (b : Int)) = some (.int k (a.fdiv (2 ^ (min b k.bits)))) := by
  simp only [binI]; rw [if_neg (by omega)]; simp
theorem nilchk_ptr (b o : Nat) : nilchkV (.ptr b o) = some (.ptr b o) := rfl
theorem conv_int (k j : IntKind) (n : Int) : convV k (.int j n) = some (.int k (k.wrap n)) := rfl
theorem get_set_eq {h : IHeap} {b c : Nat} {o x : IObj} (hg : h.get b = some x) : (h.set b o).get c = if c = b then some o else h.get c := get_set hg

theorem b66 {O : Orc} {h : IHeap} {mb bb a : Nat} {u : IV} {bs : List Int} {x : Int} (hm : MemAt h mb u bb bs) (ha : a + 8 ≤ 65536) :
    (ix O 100 ic66.body (startI 0 [.ptr mb 0, .int .i64 (a : Int), .int .u64 x]) h).sat (fun y e h' => y = .normal ∧ h' = h.set bb (.row ((putN bs a x 8).map u8))) (fun _ _ _ => False) := by
  unfold ic66
  simp only [start_cons, start_nil]
  refine sat_seq ?_
  simp only [ss, hps, Nat.reduceEqDiff, Nat.reduceLT, Nat.reduceAdd, Nat.reduceLeDiff, Int.reduceLT, Int.reduceLE, Int.reduceEq, reduceIte]
  refine sat_next (sat_block (sat_loop (fun m e h' => ∃ i, i + m = 8 ∧ e.get 7 = some (.int .i64 i) ∧ h' = h.set bb (.row ((putN bs a x i).map u8))) 8 (by omega) ?_ ?_))
  · refine ⟨0, by omega, by simp [get_put, puto_some], ?_⟩
    exact (set_same hm.b).symm
  · rintro m e h' ⟨i, hi, h7, hh⟩ hf
    have h0 := hf 0 rfl
    have h1 := hf 1 rfl
    have h2 := hf 2 rfl
    simp only [ss, hps, Nat.reduceEqDiff, Nat.reduceLT, Nat.reduceAdd, Nat.reduceLeDiff, Int.reduceLT, Int.reduceLE, Int.reduceEq, reduceIte, get_put, puto_some] at h0 h1 h2
    clear hf
    have gm : h'.get mb = some (.row [u, .ptr bb 0]) := by rw [hh, get_set_ne hm.ne]; exact hm.m
    have gb : h'.get bb = some (.row ((putN bs a x i).map u8)) := by rw [hh]; exact get_set_same hm.b
    refine sat_seq ?_
    simp only [ss, hps, Nat.reduceEqDiff, Nat.reduceLT, Nat.reduceAdd, Nat.reduceLeDiff, Int.reduceLT, Int.reduceLE, Int.reduceEq, reduceIte, h7]
    refine sat_next (sat_seq (sat_condK ?_))
    simp only [ss, hps, Nat.reduceEqDiff, Nat.reduceLT, Nat.reduceAdd, Nat.reduceLeDiff, Int.reduceLT, Int.reduceLE, Int.reduceEq, reduceIte]
    refine sat_condD (fun hlt => ?_) (fun hge => ?_)
    · have hlt : i < 8 := by omega
      have w1 : IntKind.i64.wrap ((a : Int) + i) = ((a + i : Nat) : Int) := by rw [wrap_i64 (by omega) (by omega)]; simp
      have w2 : IntKind.i64.wrap (8 * (i : Int)) = ((8 * i : Nat) : Int) := by rw [wrap_i64 (by omega) (by omega)]; simp
      have w3 : IntKind.i64.wrap ((i : Int) + 1) = ((i + 1 : Nat) : Int) := by rw [wrap_i64 (by omega) (by omega)]; simp
      have hlt' : a + i < 65536 := by omega
      have hL : (List.map u8 (putN bs a x i)).length = 65536 := by simp [putN_len, hm.len]
      have hle : a + i + 1 ≤ 65536 := by omega
      have hb8 : IntKind.u64.bits = 64 := rfl
      refine sat_skip ?_
      simp only [ss, hps, Nat.reduceEqDiff, Nat.reduceLT, Nat.reduceAdd, Nat.reduceLeDiff, Int.reduceLT, Int.reduceLE, Int.reduceEq, reduceIte, h7, h0, h1, h2, gm, gb, w1, w2, w3, iaddrP_nat, hlt', bin_shr, nilchk_ptr, conv_int, hL, hle]
      refine sat_again (m - 1) (by omega) ⟨i + 1, by omega, by simp only [ss, hps, Nat.reduceEqDiff, Nat.reduceLT, Nat.reduceAdd, Nat.reduceLeDiff, Int.reduceLT, Int.reduceLE, Int.reduceEq, reduceIte], ?_⟩
      have : [IV.int IntKind.u8 (IntKind.u8.wrap (x.fdiv (2 ^ min (8 * i) IntKind.u64.bits)))] = [u8 (byteOf x i)] := rfl
      rw [this, setCells_one (by simp [putN_len, hm.len]; omega), hh, set_set]; rfl
    · have hge : i = 8 := by omega
      subst hge
      exact sat_brk (X := fun _ _ _ => False) fun _ => ⟨rfl, hh⟩
/-! ### mem.get -/
def orW (x y : Int) : Int := IntKind.u64.wrap (BitVec.ofInt 64 x ||| BitVec.ofInt 64 y).toNat
def shlW (x : Int) (k : Nat) : Int := IntKind.u64.wrap (x * 2 ^ (min (8 * k) 64))
theorem bin_or (x y : Int) : binI .or (.int .u64 x) (.int .u64 y) = some (.int .u64 (orW x y)) := by simp only [binI, intArith, orW, if_true]; rfl
theorem bin_shl (x : Int) (k : Nat) : binI .shl (.int .u64 x) (.int .i64 ((8 * k : Nat) : Int)) = some (.int .u64 (shlW x k)) := by
  simp only [binI]; rw [if_neg (by omega)]; rfl
def getN (bs : List Int) (a : Nat) : Nat → Int
  | 0 => 0
  | k + 1 => orW (getN bs a k) (shlW (IntKind.u64.wrap (bs.getD (a + k) 0)) k)
theorem rowB_at {bs : List Int} {i : Nat} (h : i < bs.length) : (bs.map u8)[i]? = some (.int .u8 (bs.getD i 0)) := by
  simp [h, u8]
theorem b61 {O : Orc} {h : IHeap} {mb bb a : Nat} {u : IV} {bs : List Int} (hm : MemAt h mb u bb bs) (ha : a + 8 ≤ 65536) :
    (ix O 100 ic61.body (startI 0 [.ptr mb 0, .int .i64 (a : Int)]) h).sat (fun y e h' => y = .ret ∧ e.get 4 = some (.int .u64 (getN bs a 8)) ∧ h' = h) (fun _ _ _ => False) := by
  unfold ic61
  simp only [start_cons, start_nil]
  refine sat_seq ?_
  simp only [ss, hps, Nat.reduceEqDiff, Nat.reduceLT, Nat.reduceAdd, Nat.reduceLeDiff, Int.reduceLT, Int.reduceLE, Int.reduceEq, reduceIte]
  refine sat_next (sat_seq ?_)
  simp only [ss, hps, Nat.reduceEqDiff, Nat.reduceLT, Nat.reduceAdd, Nat.reduceLeDiff, Int.reduceLT, Int.reduceLE, Int.reduceEq, reduceIte]
  refine sat_next (sat_seq (sat_seq ?_))
  simp only [ss, hps, Nat.reduceEqDiff, Nat.reduceLT, Nat.reduceAdd, Nat.reduceLeDiff, Int.reduceLT, Int.reduceLE, Int.reduceEq, reduceIte]
  refine sat_next (sat_block (sat_loop (fun m e h' => ∃ i, i + m = 8 ∧ e.get 7 = some (.int .i64 i) ∧ e.get 5 = some (.int .u64 (getN bs a i)) ∧ h' = h) 8 (by omega) ?_ ?_))
  · refine ⟨0, by omega, ?_, ?_, rfl⟩ <;> simp [get_put, puto_some, getN]
  · rintro m e h' ⟨i, hi, h7, h5, rfl⟩ hf
    have h0 := hf 0 rfl
    have h1 := hf 1 rfl
    simp only [ss, hps, Nat.reduceEqDiff, Nat.reduceLT, Nat.reduceAdd, Nat.reduceLeDiff, Int.reduceLT, Int.reduceLE, Int.reduceEq, reduceIte, get_put, puto_some] at h0 h1
    clear hf
    have gm := hm.m
    have gb := hm.b
    refine sat_seq ?_
    simp only [ss, hps, Nat.reduceEqDiff, Nat.reduceLT, Nat.reduceAdd, Nat.reduceLeDiff, Int.reduceLT, Int.reduceLE, Int.reduceEq, reduceIte, h7]
    refine sat_next (sat_seq (sat_condK ?_))
    simp only [ss, hps, Nat.reduceEqDiff, Nat.reduceLT, Nat.reduceAdd, Nat.reduceLeDiff, Int.reduceLT, Int.reduceLE, Int.reduceEq, reduceIte]
    refine sat_condD (fun hlt => ?_) (fun hge => ?_)
    · have hlt : i < 8 := by omega
      have w1 : IntKind.i64.wrap ((a : Int) + i) = ((a + i : Nat) : Int) := by rw [wrap_i64 (by omega) (by omega)]; simp
      have w2 : IntKind.i64.wrap (8 * (i : Int)) = ((8 * i : Nat) : Int) := by rw [wrap_i64 (by omega) (by omega)]; simp
      have w3 : IntKind.i64.wrap ((i : Int) + 1) = ((i + 1 : Nat) : Int) := by rw [wrap_i64 (by omega) (by omega)]; simp
      have hlt' : a + i < 65536 := by omega
      have hat := rowB_at (bs := bs) (i := a + i) (by rw [hm.len]; omega)
      refine sat_skip ?_
      simp only [ss, hps, Nat.reduceEqDiff, Nat.reduceLT, Nat.reduceAdd, Nat.reduceLeDiff, Int.reduceLT, Int.reduceLE, Int.reduceEq, reduceIte, h7, h5, h0, h1, gm, gb, w1, w2, w3, iaddrP_nat, hlt', bin_shl, bin_or, nilchk_ptr, conv_int, hat]
      exact sat_again (m - 1) (by omega) ⟨i + 1, by omega, by simp only [ss, hps, Nat.reduceEqDiff, Nat.reduceLT, Nat.reduceAdd, Nat.reduceLeDiff, Int.reduceLT, Int.reduceLE, Int.reduceEq, reduceIte], by simp only [ss, hps, Nat.reduceEqDiff, Nat.reduceLT, Nat.reduceAdd, Nat.reduceLeDiff, Int.reduceLT, Int.reduceLE, Int.reduceEq, reduceIte, getN], rfl⟩
    · have hge : i = 8 := by omega
      subst hge
      refine sat_brk fun _ => sat_next (sat_seq ?_)
      simp only [ss, hps, Nat.reduceEqDiff, Nat.reduceLT, Nat.reduceAdd, Nat.reduceLeDiff, Int.reduceLT, Int.reduceLE, Int.reduceEq, reduceIte, h5]
      exact sat_next (sat_ret ⟨rfl, by simp only [ss, hps, Nat.reduceEqDiff, Nat.reduceLT, Nat.reduceAdd, Nat.reduceLeDiff, Int.reduceLT, Int.reduceLE, Int.reduceEq, reduceIte], rfl⟩)
end Go.Proofs.YtadeojgiiapljaaGreat.Im
namespace Go.Proofs.YtadeojgiiapljaaGreat.Im
open Go
set_option maxHeartbeats 8000000
open Classical in
/-- What a reader of memory says: of what there is. -/
noncomputable def byCh {D : Type} (P : List IV → IHeap → D → Prop) (val : D → IV) : List IV → M IV := fun args h => if hx : ∃ d, P args h d then .ok (val (Classical.choose hx)) h else .fail
theorem byCh_at {D : Type} {P : List IV → IHeap → D → Prop} {val : D → IV} {args : List IV} {h : IHeap} {d : D} (hP : P args h d) (hu : ∀ d', P args h d' → val d' = val d) : byCh P val args h = .ok (val d) h := by
  have hx : ∃ d, P args h d := ⟨d, hP⟩
  unfold byCh
  rw [dif_pos hx, hu _ (Classical.choose_spec hx)]
theorem Sim.byCh {P : Program} {f : FuncId} {D : Type} {R : List IV → IHeap → D → Prop} {val : D → IV} (he : Enters P f) (H : ∀ args h d, R args h d → ∃ G, Sim P f G ∧ ∃ h2, G args h = .ok (val d) h2 ∧ Grow h h2 ∧ ∀ r, (val d).ren r = val d) : Sim P f (Im.byCh R val) := by
  refine Sim.reader he fun args h => ?_
  by_cases hx : ∃ d, R args h d
  · right
    obtain ⟨G, hS, h2, h3, h4, h5⟩ := H args h (Classical.choose hx) (Classical.choose_spec hx)
    refine ⟨G, hS, val (Classical.choose hx), h2, ?_, h3, h4, h5⟩
    unfold Im.byCh; rw [dif_pos hx]
  · left; unfold Im.byCh; rw [dif_neg hx]

/-- Regions in memory, own or constant. -/
structure RIn (h : IHeap) (u : IV) (l : List Reg) : Prop where
  len : slenV u = some l.length
  at_ : ∀ (i : Nat) (x : Reg), l[i]? = some x → ∃ p, iaddrV 4 u i = some p ∧ Im.loadN h p 4 = some x.cells ∧ (∃ q, faddrV 1 p = some q ∧ Im.load1 h q = some (.int .i64 x.addr))
theorem Reg.cells_inj {x y : Reg} (h : x.cells = y.cells) : x = y := by
  cases x; cases y; simp [Reg.cells] at h; obtain ⟨h1, h2, h3, h4⟩ := h; subst h1; subst h2; subst h3; subst h4; rfl
theorem RIn.uniq {h : IHeap} {u : IV} {l l' : List Reg} (a : RIn h u l) (b : RIn h u l') : l = l' := by
  have hl : l.length = l'.length := by have := a.len.symm.trans b.len; simpa using this
  refine List.ext_getElem hl fun i h1 h2 => ?_
  obtain ⟨p, hp, hc, _⟩ := a.at_ i l[i] (by simp [h1])
  obtain ⟨q, hq, hd, _⟩ := b.at_ i l'[i] (by simp [h2])
  rw [hp] at hq; cases hq
  rw [hc] at hd
  exact Reg.cells_inj (by simpa using hd)
/-! ### The closure, and IndexFunc -/
def hasB (at_ : Int) (r : Reg) : Bool := decide (r.addr ≤ at_) && decide (at_ < r.addr + 8 * r.size)
def P269 (args : List IV) (h : IHeap) (d : Reg × Int) : Prop := ∃ b, args = [.agg [.str d.1.name, .int .i64 d.1.addr, .int .i64 d.1.size, .bool d.1.secret], .ptr b 0] ∧ d.1.Ok ∧ h.get b = some (.row [.int .i64 d.2])
noncomputable def F269 := byCh P269 fun d => .bool (hasB d.2 d.1)
theorem F269_at {r : Reg} {a : Int} {h : IHeap} {b : Nat} (hr : r.Ok) (hb : h.get b = some (.row [.int .i64 a])) : F269 [.agg [.str r.name, .int .i64 r.addr, .int .i64 r.size, .bool r.secret], .ptr b 0] h = .ok (.bool (hasB a r)) h := by
  refine byCh_at (d := (r, a)) ⟨b, rfl, hr, hb⟩ fun d' hd => ?_
  obtain ⟨b', he, _, hb'⟩ := hd
  obtain ⟨⟨n, x, z, s⟩, a'⟩ := d'
  simp only [List.cons.injEq, IV.agg.injEq, IV.str.injEq, IV.int.injEq, IV.bool.injEq, IV.ptr.injEq, and_true, true_and] at he
  obtain ⟨⟨h1, h2, h3, h4⟩, h5⟩ := he
  subst h5
  rw [hb] at hb'
  simp at hb'
  subst hb'
  simp only [hasB, h2, h3]
theorem s269 : Sim Tryz.prog 269 F269 := by
  refine Sim.byCh ⟨Tryz.f269, Tryz.func269, rfl, by decide⟩ fun args h d hd => ?_
  obtain ⟨b, rfl, hok, hb⟩ := hd
  obtain ⟨r, a⟩ := d
  simp only at hok hb ⊢
  refine ⟨_, body_sim (ocons_sim s179 onil_sim) cc269 0, h.push (.row [.str r.name, .int .i64 r.addr, .int .i64 r.size, .bool r.secret]), ?_, Grow.push _ _, fun _ => rfl⟩
  rw [body_eq rfl rfl rfl (by decide)]
  have hlt := get_lt hb
  have hne : (b = h.n) = False := by simp; omega
  have r179 := fun hh => rd179 hok hh
  have o179 : (ocons 179 (rd g179) onil) 179 = rd g179 := rfl
  by_cases q1 : r.addr ≤ a
  · by_cases q2 : a < r.addr + 8 * r.size <;> simp only [ss, hps, Nat.reduceEqDiff, Nat.reduceLT, Nat.reduceAdd, Nat.reduceLeDiff, Int.reduceLT, Int.reduceLE, Int.reduceEq, reduceIte, ic269, ds, rowIf_ok, one_str, hb, hne, q1, q2, o179, r179, hasB]
  · simp only [ss, hps, Nat.reduceEqDiff, Nat.reduceLT, Nat.reduceAdd, Nat.reduceLeDiff, Int.reduceLT, Int.reduceLE, Int.reduceEq, reduceIte, ic269, ds, rowIf_ok, one_str, hb, hne, q1, o179, hasB]
/-- The first region that has an address, from the k-th on. -/
def idxOf (a : Int) : List Reg → Nat → Option Nat
  | [], _ => none
  | r :: rs, k => if hasB a r then some k else idxOf a rs (k + 1)
def idxV (a : Int) (l : List Reg) : Int := match idxOf a l 0 with | some i => i | none => -1
theorem idxOf_hit {a : Int} : ∀ {l : List Reg} {i : Nat} {x : Reg} (k : Nat), l[i]? = some x → (∀ j y, j < i → l[j]? = some y → hasB a y = false) → hasB a x = true → idxOf a l k = some (k + i)
  | [], i, x, k, hx, _, _ => by simp at hx
  | y :: ys, 0, x, k, hx, _, ht => by simp at hx; subst hx; simp [idxOf, ht]
  | y :: ys, i + 1, x, k, hx, hb, ht => by
    have h0 := hb 0 y (by omega) rfl
    have ih := idxOf_hit (l := ys) (i := i) (k + 1) (by simpa using hx) (fun j z hj hz => hb (j + 1) z (by omega) (by simpa using hz)) ht
    simp only [idxOf, h0]
    rw [if_neg (by simp), ih]; congr 1; omega
theorem idxOf_none {a : Int} : ∀ {l : List Reg} (k : Nat), (∀ (j : Nat) (y : Reg), l[j]? = some y → hasB a y = false) → idxOf a l k = none
  | [], k, _ => rfl
  | y :: ys, k, hb => by
    have h0 := hb 0 y rfl
    simp only [idxOf, h0]
    rw [if_neg (by simp)]
    exact idxOf_none (k + 1) fun j z hz => hb (j + 1) z (by simpa using hz)
theorem b270 {O : Orc} (h269 : O 269 = F269) {h : IHeap} {u : IV} {l : List Reg} {a : Int} {b : Nat} (hl : RIn h u l) (hok : ∀ r ∈ l, r.Ok) (hb : h.get b = some (.row [.int .i64 a])) (sl : l.length ≤ 16) :
    (ix O 100 ic270.body (startI 0 [u, .func (.func 269) [] [.ptr b 0]]) h).sat (fun y e h' => y = .ret ∧ e.get 4 = some (.int .i64 (idxV a l)) ∧ h' = h) (fun _ _ _ => False) := by
  have lu := hl.len
  unfold ic270
  simp only [start_cons, start_nil]
  refine sat_seq ?_
  simp only [ss, hps, Nat.reduceEqDiff, Nat.reduceLT, Nat.reduceAdd, Nat.reduceLeDiff, Int.reduceLT, Int.reduceLE, Int.reduceEq, reduceIte]
  refine sat_next (sat_seq (sat_seq ?_))
  simp only [ss, hps, Nat.reduceEqDiff, Nat.reduceLT, Nat.reduceAdd, Nat.reduceLeDiff, Int.reduceLT, Int.reduceLE, Int.reduceEq, reduceIte, lu]
  refine sat_next (sat_block (sat_loop (fun m e h' => ∃ i, i + m = l.length ∧ e.get 8 = some (.int .i64 i) ∧ (∀ j y, j < i → l[j]? = some y → hasB a y = false) ∧ h' = h) l.length (by omega) ?_ ?_))
  · refine ⟨0, by omega, by simp [get_put, puto_some], fun j y hj => by omega, rfl⟩
  · rintro m e h' ⟨i, hi, h8, hno, rfl⟩ hf
    have h0 := hf 0 rfl
    have h1 := hf 1 rfl
    have h7 := hf 7 rfl
    simp only [ss, hps, Nat.reduceEqDiff, Nat.reduceLT, Nat.reduceAdd, Nat.reduceLeDiff, Int.reduceLT, Int.reduceLE, Int.reduceEq, reduceIte, get_put, puto_some] at h0 h1 h7
    clear hf
    refine sat_seq ?_
    simp only [ss, hps, Nat.reduceEqDiff, Nat.reduceLT, Nat.reduceAdd, Nat.reduceLeDiff, Int.reduceLT, Int.reduceLE, Int.reduceEq, reduceIte, h8, h7]
    refine sat_next (sat_seq (sat_condK ?_))
    simp only [ss, hps, Nat.reduceEqDiff, Nat.reduceLT, Nat.reduceAdd, Nat.reduceLeDiff, Int.reduceLT, Int.reduceLE, Int.reduceEq, reduceIte]
    refine sat_condD (fun hlt => ?_) (fun hge => ?_)
    · have hlt : i < l.length := by omega
      obtain ⟨x, hx⟩ := get_len hlt
      obtain ⟨p, hp, hc, _⟩ := hl.at_ i x hx
      have r269 := F269_at (hok x (mem_of_get hx)) hb
      have w3 : IntKind.i64.wrap ((i : Int) + 1) = ((i + 1 : Nat) : Int) := by rw [wrap_i64 (by omega) (by omega)]; simp
      refine sat_skip ?_
      cases q : hasB a x
      · simp only [ss, hps, Nat.reduceEqDiff, Nat.reduceLT, Nat.reduceAdd, Nat.reduceLeDiff, Int.reduceLT, Int.reduceLE, Int.reduceEq, reduceIte, h8, h0, h1, hp, hc, Reg.cells, h269, r269, w3, q]
        refine sat_again (m - 1) (by omega) ⟨i + 1, by omega, by simp only [ss, hps, Nat.reduceEqDiff, Nat.reduceLT, Nat.reduceAdd, Nat.reduceLeDiff, Int.reduceLT, Int.reduceLE, Int.reduceEq, reduceIte], ?_, rfl⟩
        intro j y hj hy
        by_cases e1 : j < i
        · exact hno j y e1 hy
        · have : j = i := by omega
          subst this; rw [hx] at hy; cases hy; exact q
      · simp only [ss, hps, Nat.reduceEqDiff, Nat.reduceLT, Nat.reduceAdd, Nat.reduceLeDiff, Int.reduceLT, Int.reduceLE, Int.reduceEq, reduceIte, h8, h0, h1, hp, hc, Reg.cells, h269, r269, w3, q]
        refine fun _ => ⟨rfl, ?_, rfl⟩
        have := idxOf_hit (a := a) 0 hx hno q
        simp only [ss, hps, Nat.reduceEqDiff, Nat.reduceLT, Nat.reduceAdd, Nat.reduceLeDiff, Int.reduceLT, Int.reduceLE, Int.reduceEq, reduceIte, idxV, this]
    · have hge : i = l.length := by omega
      refine sat_brk fun _ => sat_next (sat_seq ?_)
      simp only [ss, hps, Nat.reduceEqDiff, Nat.reduceLT, Nat.reduceAdd, Nat.reduceLeDiff, Int.reduceLT, Int.reduceLE, Int.reduceEq, reduceIte]
      refine sat_next (sat_ret ⟨rfl, ?_, rfl⟩)
      have := idxOf_none (a := a) (l := l) 0 fun j y hy => hno j y (by have := (List.getElem?_eq_some_iff.1 hy).1; omega) hy
      simp only [ss, hps, Nat.reduceEqDiff, Nat.reduceLT, Nat.reduceAdd, Nat.reduceLeDiff, Int.reduceLT, Int.reduceLE, Int.reduceEq, reduceIte, idxV, this]
def P270 (args : List IV) (h : IHeap) (d : List Reg × Int) : Prop := ∃ u b, args = [u, .func (.func 269) [] [.ptr b 0]] ∧ RIn h u d.1 ∧ (∀ r ∈ d.1, r.Ok) ∧ h.get b = some (.row [.int .i64 d.2]) ∧ d.1.length ≤ 16
noncomputable def F270 := byCh P270 fun d => .int .i64 (idxV d.2 d.1)
theorem F270_at {h : IHeap} {u : IV} {l : List Reg} {a : Int} {b : Nat} (hl : RIn h u l) (hok : ∀ r ∈ l, r.Ok) (hb : h.get b = some (.row [.int .i64 a])) (sl : l.length ≤ 16) : F270 [u, .func (.func 269) [] [.ptr b 0]] h = .ok (.int .i64 (idxV a l)) h := by
  refine byCh_at (d := (l, a)) ⟨u, b, rfl, hl, hok, hb, sl⟩ fun d' hd => ?_
  obtain ⟨u', b', he, hl', _, hb', _⟩ := hd
  obtain ⟨l', a'⟩ := d'
  simp only [List.cons.injEq, IV.func.injEq, IV.ptr.injEq, and_true, true_and] at he
  obtain ⟨rfl, rfl⟩ := he
  rw [hb] at hb'
  simp at hb'
  subst hb'
  rw [hl.uniq hl']
theorem s270 : Sim Tryz.prog 270 F270 := by
  refine Sim.byCh ⟨Tryz.f270, Tryz.func270, rfl, by decide⟩ fun args h d hd => ?_
  obtain ⟨u, b, rfl, hl, hok, hb, sl⟩ := hd
  obtain ⟨h2, h3, h4⟩ := rd_done (R := fun h' => h' = h) rfl rfl rfl (by decide) (b270 (O := ocons 269 F269 onil) rfl hl hok hb sl) rfl
  exact ⟨_, body_sim (ocons_sim s269 onil_sim) cc270 _, h2, h3, h4 ▸ Grow.refl h, fun _ => rfl⟩
end Go.Proofs.YtadeojgiiapljaaGreat.Im
namespace Go.Proofs.YtadeojgiiapljaaGreat.Im
open Go
set_option maxHeartbeats 1000000
theorem Grow.get {h h2 : IHeap} (g : Grow h h2) {b : Nat} {o : IObj} (hb : h.get b = some o) : h2.get b = some o := by rw [g.2 b (get_lt hb)]; exact hb
theorem loadN_grow {h h2 : IHeap} (g : Grow h h2) {p : IV} {n : Nat} {cs : List IV} (hl : Im.loadN h p n = some cs) : Im.loadN h2 p n = some cs := by
  cases p <;> try (exact hl)
  rw [loadN_ptr] at hl ⊢
  simp only [Option.bind_eq_some_iff] at hl
  obtain ⟨o, ho, hr⟩ := hl
  rw [g.get ho]; exact hr
theorem load1_grow {h h2 : IHeap} (g : Grow h h2) {p : IV} {v : IV} (hl : Im.load1 h p = some v) : Im.load1 h2 p = some v := by
  cases p <;> try (exact hl)
  rw [load1_ptr] at hl ⊢
  simp only [Option.bind_eq_some_iff] at hl
  obtain ⟨o, ho, hr⟩ := hl
  rw [g.get ho]; exact hr
theorem RIn.grow {h h2 : IHeap} {u : IV} {l : List Reg} (a : RIn h u l) (g : Grow h h2) : RIn h2 u l :=
  ⟨a.len, fun i x hx => by
    obtain ⟨p, h1, h3, q, h4, h5⟩ := a.at_ i x hx
    exact ⟨p, h1, loadN_grow g h3, q, h4, load1_grow g h5⟩⟩
theorem MemAt.grow {h h2 : IHeap} {mb bb : Nat} {u : IV} {bs : List Int} (a : MemAt h mb u bb bs) (g : Grow h h2) : MemAt h2 mb u bb bs := ⟨g.get a.m, g.get a.b, a.len⟩
theorem MemAt.uniq {h : IHeap} {mb bb bb' : Nat} {u u' : IV} {bs bs' : List Int} (a : MemAt h mb u bb bs) (b : MemAt h mb u' bb' bs') : u = u' ∧ bb = bb' ∧ bs = bs' := by
  have h1 := a.m.symm.trans b.m
  simp at h1
  obtain ⟨rfl, rfl⟩ := h1
  have h2 := a.b.symm.trans b.b
  simp at h2
  refine ⟨rfl, rfl, ?_⟩
  refine List.ext_getElem (by rw [a.len, b.len]) fun i h3 h4 => ?_
  have := congrArg (fun z => z[i]?) h2
  simpa [h3, h4, u8] using this

/-- A memory with regions that may be. -/
structure MemR (h : IHeap) (mb : Nat) (bb : Nat) (bs : List Int) (l : List Reg) : Prop where
  u : ∃ u, MemAt h mb u bb bs ∧ RIn h u l
  ok : RegsOk l
theorem MemR.grow {h h2 : IHeap} {mb bb : Nat} {bs : List Int} {l : List Reg} (a : MemR h mb bb bs l) (g : Grow h h2) : MemR h2 mb bb bs l := by
  obtain ⟨⟨u, h1, h3⟩, h4⟩ := a
  exact ⟨⟨u, h1.grow g, h3.grow g⟩, h4⟩
theorem MemR.uniq {h : IHeap} {mb bb bb' : Nat} {bs bs' : List Int} {l l' : List Reg} (a : MemR h mb bb bs l) (b : MemR h mb bb' bs' l') : bb = bb' ∧ bs = bs' ∧ l = l' := by
  obtain ⟨⟨u, h1, h2⟩, _⟩ := a
  obtain ⟨⟨u', h3, h4⟩, _⟩ := b
  obtain ⟨rfl, rfl, rfl⟩ := h1.uniq h3
  exact ⟨rfl, rfl, h2.uniq h4⟩

def P73 (args : List IV) (h : IHeap) (d : Unit) : Prop := ∃ mb u bb, args = [.ptr mb 0] ∧ h.get mb = some (.row [u, .ptr bb 0])
noncomputable def F73 := byCh P73 fun _ => .bool true
theorem F73_at {h : IHeap} {mb bb : Nat} {u : IV} (hm : h.get mb = some (.row [u, .ptr bb 0])) : F73 [.ptr mb 0] h = .ok (.bool true) h := byCh_at (d := ()) ⟨mb, u, bb, rfl, hm⟩ fun _ _ => rfl
theorem isnil_ptr (n : Bool) (b o : Nat) : isnilV n .ptr (.ptr b o) = some (.bool (if n then !false else false)) := rfl
theorem s73 : Sim Tryz.prog 73 F73 := by
  refine Sim.byCh ⟨Tryz.f73, Tryz.func73, rfl, by decide⟩ fun args h d hd => ?_
  obtain ⟨mb, u, bb, rfl, hm⟩ := hd
  refine ⟨_, body_sim onil_sim cc73 0, h, ?_, Grow.refl h, fun _ => rfl⟩
  rw [body_eq rfl rfl rfl (by decide)]
  simp only [ss, hps, Nat.reduceEqDiff, Nat.reduceLT, Nat.reduceAdd, Nat.reduceLeDiff, Int.reduceLT, Int.reduceLE, Int.reduceEq, reduceIte, ic73, isnil_ptr, nilchk_ptr, hm]

def placeP (l : List Reg) (a : Int) : Int × Int :=
  if 65536 ≤ a then (-2, 0) else if 49152 ≤ a then (-1, a - 49152) else
  match idxOf a l 0 with
  | none => (-2, 0)
  | some i => (i, IntKind.i64.wrap (a - (l.getD i ⟨⟨#[]⟩, 0, 0, false⟩).addr))
theorem idxOf_lt {a : Int} : ∀ {l : List Reg} {k i : Nat}, idxOf a l k = some i → k ≤ i ∧ i < k + l.length
  | [], k, i, h => by simp [idxOf] at h
  | r :: rs, k, i, h => by
    simp only [idxOf] at h
    split at h
    · cases h; simp
    · have := idxOf_lt h; simp; omega
theorem b262 {O : Orc} (h73 : O 73 = F73) (h270 : O 270 = F270) {h : IHeap} {mb bb : Nat} {bs : List Int} {l : List Reg} {a : Int} (hm : MemR h mb bb bs l) (ha : 0 ≤ a) :
    ∃ h2, bodyI T0 O 0 ic262 [.ptr mb 0, .int .u64 a] h = .ok (.tup [.int .i64 (placeP l a).1, .int .i64 (placeP l a).2]) h2 ∧ Grow h h2 := by
  obtain ⟨⟨u, hu, hr⟩, hok⟩ := hm
  have gm := hu.m
  have r73 := F73_at hu.m
  by_cases c1 : 65536 ≤ a
  · refine ⟨h, ?_, Grow.refl h⟩
    rw [body_eq rfl rfl rfl (by decide)]
    simp only [ss, hps, Nat.reduceEqDiff, Nat.reduceLT, Nat.reduceAdd, Nat.reduceLeDiff, Int.reduceLT, Int.reduceLE, Int.reduceEq, reduceIte, ic262, h73, r73, c1, placeP]
  have g1 := Grow.push h (.row [.int .i64 a])
  refine ⟨h.push (.row [.int .i64 a]), ?_, g1⟩
  rw [body_eq rfl rfl rfl (by decide)]
  have w1 : IntKind.i64.wrap a = a := wrap_i64 (by omega) (by omega)
  by_cases c2 : 49152 ≤ a
  · have w2 : IntKind.i64.wrap (a - 49152) = a - 49152 := wrap_i64 (by omega) (by omega)
    simp only [ss, hps, Nat.reduceEqDiff, Nat.reduceLT, Nat.reduceAdd, Nat.reduceLeDiff, Int.reduceLT, Int.reduceLE, Int.reduceEq, reduceIte, ic262, h73, r73, c1, c2, w1, w2, conv_int, placeP]
  have hne : (mb = h.n) = False := by have := get_lt hu.m; simp; omega
  have hr1 := hr.grow g1
  have r270 := F270_at (a := a) (b := h.n) hr1 hok.2.1 (by simp [get_push_eq]) hok.1
  cases q : idxOf a l 0 with
  | none =>
    have q' : idxV a l = -1 := by simp [idxV, q]
    simp only [ss, hps, Nat.reduceEqDiff, Nat.reduceLT, Nat.reduceAdd, Nat.reduceLeDiff, Int.reduceLT, Int.reduceLE, Int.reduceEq, reduceIte, ic262, h73, r73, c1, c2, w1, conv_int, placeP, hne, gm, nilchk_ptr, h270, r270, q, q']
  | some i =>
    have q' : idxV a l = (i : Int) := by simp [idxV, q]
    have hlt := idxOf_lt q
    obtain ⟨x, hx⟩ := get_len (show i < l.length by omega)
    obtain ⟨p, hp, _, y, hy, hz⟩ := hr1.at_ i x hx
    have hi : ¬ ((i : Int) < 0) := by omega
    have hgd : l.getD i ⟨⟨#[]⟩, 0, 0, false⟩ = x := by simp [List.getD, hx]
    simp only [ss, hps, Nat.reduceEqDiff, Nat.reduceLT, Nat.reduceAdd, Nat.reduceLeDiff, Int.reduceLT, Int.reduceLE, Int.reduceEq, reduceIte, ic262, ds, h73, r73, c1, c2, w1, conv_int, placeP, hne, gm, nilchk_ptr, h270, r270, q, q', hi, hp, hy, hz, hgd]
structure MD where
  bb : Nat
  bs : List Int
  l : List Reg
  a : Int
def P262 (args : List IV) (h : IHeap) (d : MD) : Prop := ∃ mb, args = [.ptr mb 0, .int .u64 d.a] ∧ MemR h mb d.bb d.bs d.l ∧ 0 ≤ d.a
noncomputable def F262 := byCh P262 fun d => .tup [.int .i64 (placeP d.l d.a).1, .int .i64 (placeP d.l d.a).2]
theorem F262_at {h : IHeap} {mb bb : Nat} {bs : List Int} {l : List Reg} {a : Int} (hm : MemR h mb bb bs l) (ha : 0 ≤ a) : F262 [.ptr mb 0, .int .u64 a] h = .ok (.tup [.int .i64 (placeP l a).1, .int .i64 (placeP l a).2]) h := by
  refine byCh_at (P := P262) (d := (⟨bb, bs, l, a⟩ : MD)) ⟨mb, rfl, hm, ha⟩ fun d' hd => ?_
  obtain ⟨mb', he, hm', _⟩ := hd
  obtain ⟨bb', bs', l', a'⟩ := d'
  simp only [List.cons.injEq, IV.ptr.injEq, IV.int.injEq, and_true, true_and] at he
  obtain ⟨rfl, rfl⟩ := he
  obtain ⟨_, _, rfl⟩ := hm.uniq hm'
  rfl
theorem s262 : Sim Tryz.prog 262 F262 := by
  refine Sim.byCh ⟨Tryz.f262, Tryz.func262, rfl, by decide⟩ fun args h d hd => ?_
  obtain ⟨mb, rfl, hm, ha⟩ := hd
  obtain ⟨h2, h3, h4⟩ := b262 (O := ocons 73 F73 (ocons 270 F270 onil)) rfl rfl hm ha
  exact ⟨_, body_sim (ocons_sim s73 (ocons_sim s270 onil_sim)) cc262 0, h2, h3, h4, fun _ => rfl⟩

/-- Why a word's address is refused. -/
def askE (l : List Reg) (a : Int) : Int := if a.tmod 8 = 0 then (if (placeP l a).1 = -2 then 14 else 0) else 2
theorem askE_lt {l : List Reg} {a : Int} (ha : 0 ≤ a) (h : askE l a = 0) : ∃ n : Nat, a = n ∧ n + 8 ≤ 65536 := by
  unfold askE at h
  split at h
  · rename_i h8
    split at h
    · cases h
    · rename_i hp
      have : a < 65536 := by
        apply Classical.byContradiction
        intro hc
        exact hp (by simp only [placeP]; rw [if_pos (by omega)])
      refine ⟨a.toNat, by omega, ?_⟩
      have : a.tmod 8 = a % 8 := Int.tmod_eq_emod_of_nonneg ha
      omega
  · cases h
def P217 (args : List IV) (h : IHeap) (d : MD) : Prop := ∃ mb, args = [.ptr mb 0, .int .u64 d.a, .int .u64 8] ∧ MemR h mb d.bb d.bs d.l ∧ 0 ≤ d.a
noncomputable def F217 := byCh P217 fun d => .int .i64 (askE d.l d.a)
theorem F217_at {h : IHeap} {mb bb : Nat} {bs : List Int} {l : List Reg} {a : Int} (hm : MemR h mb bb bs l) (ha : 0 ≤ a) : F217 [.ptr mb 0, .int .u64 a, .int .u64 8] h = .ok (.int .i64 (askE l a)) h := by
  refine byCh_at (P := P217) (d := (⟨bb, bs, l, a⟩ : MD)) ⟨mb, rfl, hm, ha⟩ fun d' hd => ?_
  obtain ⟨mb', he, hm', _⟩ := hd
  obtain ⟨bb', bs', l', a'⟩ := d'
  simp only [List.cons.injEq, IV.ptr.injEq, IV.int.injEq, and_true, true_and] at he
  obtain ⟨rfl, rfl⟩ := he
  obtain ⟨_, _, rfl⟩ := hm.uniq hm'
  rfl
theorem extract_0 (a b : IV) : extractV 0 (.tup [a, b]) = some a := rfl
theorem extract_1 (a b : IV) : extractV 1 (.tup [a, b]) = some b := rfl
theorem s217 : Sim Tryz.prog 217 F217 := by
  refine Sim.byCh ⟨Tryz.f217, Tryz.func217, rfl, by decide⟩ fun args h d hd => ?_
  obtain ⟨mb, rfl, hm, ha⟩ := hd
  refine ⟨_, body_sim (ocons_sim s73 (ocons_sim s262 onil_sim)) cc217 0, h, ?_, Grow.refl h, fun _ => rfl⟩
  rw [body_eq rfl rfl rfl (by decide)]
  have r262 := F262_at hm ha
  have hm' := hm
  obtain ⟨⟨u, hu, _⟩, _⟩ := hm'
  have r73 := F73_at hu.m
  have o73 : (ocons 73 F73 (ocons 262 F262 onil)) 73 = F73 := rfl
  have o262 : (ocons 73 F73 (ocons 262 F262 onil)) 262 = F262 := rfl
  by_cases q1 : d.a.tmod 8 = 0
  · by_cases q2 : (placeP d.l d.a).1 = -2
    · simp only [ss, hps, Nat.reduceEqDiff, Nat.reduceLT, Nat.reduceAdd, Nat.reduceLeDiff, Int.reduceLT, Int.reduceLE, Int.reduceEq, reduceIte, ic217, ds, o73, r73, o262, r262, extract_0, extract_1, q1, q2, askE]
    · simp only [ss, hps, Nat.reduceEqDiff, Nat.reduceLT, Nat.reduceAdd, Nat.reduceLeDiff, Int.reduceLT, Int.reduceLE, Int.reduceEq, reduceIte, ic217, ds, o73, r73, o262, r262, extract_0, extract_1, q1, q2, askE]
  · simp only [ss, hps, Nat.reduceEqDiff, Nat.reduceLT, Nat.reduceAdd, Nat.reduceLeDiff, Int.reduceLT, Int.reduceLE, Int.reduceEq, reduceIte, ic217, ds, o73, r73, q1, askE]

/-! ### Load -/
structure GD where
  bb : Nat
  u : IV
  bs : List Int
  a : Nat
def P61 (args : List IV) (h : IHeap) (d : GD) : Prop := ∃ mb, args = [.ptr mb 0, .int .i64 (d.a : Int)] ∧ MemAt h mb d.u d.bb d.bs ∧ d.a + 8 ≤ 65536
noncomputable def F61 := byCh P61 fun d => .int .u64 (getN d.bs d.a 8)
theorem F61_at {h : IHeap} {mb bb a : Nat} {u : IV} {bs : List Int} (hm : MemAt h mb u bb bs) (ha : a + 8 ≤ 65536) : F61 [.ptr mb 0, .int .i64 (a : Int)] h = .ok (.int .u64 (getN bs a 8)) h := by
  refine byCh_at (P := P61) (d := (⟨bb, u, bs, a⟩ : GD)) ⟨mb, rfl, hm, ha⟩ fun d' hd => ?_
  obtain ⟨mb', he, hm', _⟩ := hd
  obtain ⟨bb', u', bs', a'⟩ := d'
  simp only [List.cons.injEq, IV.ptr.injEq, IV.int.injEq, and_true, true_and] at he
  obtain ⟨rfl, hea⟩ := he
  obtain ⟨_, _, rfl⟩ := hm.uniq hm'
  have : a = a' := by omega
  subst this; rfl
theorem s61 : Sim Tryz.prog 61 F61 := by
  refine Sim.byCh ⟨Tryz.f61, Tryz.func61, rfl, by decide⟩ fun args h d hd => ?_
  obtain ⟨mb, rfl, hm, ha⟩ := hd
  obtain ⟨h2, h3, h4⟩ := rd_done (R := fun h' => h' = h) rfl rfl rfl (by decide) (b61 (O := onil) hm ha) rfl
  exact ⟨_, body_sim onil_sim cc61 _, h2, h3, h4 ▸ Grow.refl h, fun _ => rfl⟩
def loadV (bs : List Int) (l : List Reg) (a : Int) : Int × Int := if askE l a = 0 then (getN bs a.toNat 8, 0) else (0, askE l a)
def P184 (args : List IV) (h : IHeap) (d : MD) : Prop := ∃ mb, args = [.ptr mb 0, .int .u64 d.a] ∧ MemR h mb d.bb d.bs d.l ∧ 0 ≤ d.a
noncomputable def F184 := byCh P184 fun d => .tup [.int .u64 (loadV d.bs d.l d.a).1, .int .i64 (loadV d.bs d.l d.a).2]
theorem F184_at {h : IHeap} {mb bb : Nat} {bs : List Int} {l : List Reg} {a : Int} (hm : MemR h mb bb bs l) (ha : 0 ≤ a) : F184 [.ptr mb 0, .int .u64 a] h = .ok (.tup [.int .u64 (loadV bs l a).1, .int .i64 (loadV bs l a).2]) h := by
  refine byCh_at (P := P184) (d := (⟨bb, bs, l, a⟩ : MD)) ⟨mb, rfl, hm, ha⟩ fun d' hd => ?_
  obtain ⟨mb', he, hm', _⟩ := hd
  obtain ⟨bb', bs', l', a'⟩ := d'
  simp only [List.cons.injEq, IV.ptr.injEq, IV.int.injEq, and_true, true_and] at he
  obtain ⟨rfl, rfl⟩ := he
  obtain ⟨_, rfl, rfl⟩ := hm.uniq hm'
  rfl
theorem s184 : Sim Tryz.prog 184 F184 := by
  refine Sim.byCh ⟨Tryz.f184, Tryz.func184, rfl, by decide⟩ fun args h d hd => ?_
  obtain ⟨mb, rfl, hm, ha⟩ := hd
  refine ⟨_, body_sim (ocons_sim s217 (ocons_sim s61 onil_sim)) cc184 0, h, ?_, Grow.refl h, fun _ => rfl⟩
  rw [body_eq rfl rfl rfl (by decide)]
  have r217 := F217_at hm ha
  have o217 : (ocons 217 F217 (ocons 61 F61 onil)) 217 = F217 := rfl
  have o61 : (ocons 217 F217 (ocons 61 F61 onil)) 61 = F61 := rfl
  by_cases q1 : askE d.l d.a = 0
  · obtain ⟨n, hn, hlt⟩ := askE_lt ha q1
    obtain ⟨⟨u, hu, _⟩, _⟩ := hm
    have r61 := F61_at hu hlt
    have w1 : IntKind.i64.wrap (d.a) = (n : Int) := by rw [wrap_i64 (by omega) (by omega), hn]
    have hnn : d.a.toNat = n := by omega
    simp only [ss, hps, Nat.reduceEqDiff, Nat.reduceLT, Nat.reduceAdd, Nat.reduceLeDiff, Int.reduceLT, Int.reduceLE, Int.reduceEq, reduceIte, ic184, o217, r217, o61, r61, q1, w1, conv_int, loadV, hnn]
  · simp only [ss, hps, Nat.reduceEqDiff, Nat.reduceLT, Nat.reduceAdd, Nat.reduceLeDiff, Int.reduceLT, Int.reduceLE, Int.reduceEq, reduceIte, ic184, o217, r217, q1, loadV]
end Go.Proofs.YtadeojgiiapljaaGreat.Im
namespace Go.Proofs.YtadeojgiiapljaaGreat.Im
open Go
set_option maxHeartbeats 1000000
theorem unit_done {T : FuncId → Option IFunc} {O : Orc} {fuel : Nat} {F : IFunc} {args : List IV} {h : IHeap} {R : IHeap → Prop} (hn : args.length = F.nparams) (hr : F.recT = none) (hd : F.body.wr DK = false) (hp : F.nparams ≤ DK) (hres : F.results = [])
    (hb : (ix O fuel F.body (startI 0 args) h).sat (fun y _ h' => y = .normal ∧ R h') (fun _ _ _ => False)) : ∃ h', bodyI T O fuel F args h = .ok (.tup []) h' ∧ R h' := by
  rw [body_eq hn hr hd hp]
  rcases sat_inv hb with ⟨x, e, h', h1, rfl, h2⟩ | ⟨_, _, _, _, hf⟩
  · refine ⟨h', ?_, h2⟩
    rw [h1, endK_normal, hres]; rfl
  · exact hf.elim
def G66 : List IV → M IV := bodyI T0 onil 100 ic66
theorem s66 : Sim Tryz.prog 66 G66 := body_sim onil_sim cc66 100
theorem G66_at {h : IHeap} {mb bb a : Nat} {u : IV} {bs : List Int} {x : Int} (hm : MemAt h mb u bb bs) (ha : a + 8 ≤ 65536) : G66 [.ptr mb 0, .int .i64 (a : Int), .int .u64 x] h = .ok (.tup []) (h.set bb (.row ((putN bs a x 8).map u8))) := by
  obtain ⟨h', h1, h2⟩ := unit_done (T := T0) rfl rfl rfl (by decide) rfl (b66 (O := onil) hm ha)
  rw [h2] at h1; exact h1
noncomputable def G185 : List IV → M IV := bodyI T0 (ocons 217 F217 (ocons 66 G66 onil)) 0 ic185
theorem s185 : Sim Tryz.prog 185 G185 := body_sim (ocons_sim s217 (ocons_sim s66 onil_sim)) cc185 0
/-- The bytes behind a store. -/
def storeB (bs : List Int) (l : List Reg) (a x : Int) : List Int := if askE l a = 0 then putN bs a.toNat x 8 else bs
theorem G185_at {h : IHeap} {mb bb : Nat} {bs : List Int} {l : List Reg} {a x : Int} (hm : MemR h mb bb bs l) (ha : 0 ≤ a) : G185 [.ptr mb 0, .int .u64 a, .int .u64 x] h = .ok (.int .i64 (askE l a)) (h.set bb (.row ((storeB bs l a x).map u8))) := by
  unfold G185
  rw [body_eq rfl rfl rfl (by decide)]
  have r217 := F217_at hm ha
  have o217 : (ocons 217 F217 (ocons 66 G66 onil)) 217 = F217 := rfl
  have o66 : (ocons 217 F217 (ocons 66 G66 onil)) 66 = G66 := rfl
  obtain ⟨⟨u, hu, _⟩, _⟩ := hm
  by_cases q1 : askE l a = 0
  · obtain ⟨n, hn, hlt⟩ := askE_lt ha q1
    have r66 := G66_at (x := x) hu hlt
    have w1 : IntKind.i64.wrap a = (n : Int) := by rw [wrap_i64 (by omega) (by omega), hn]
    have hnn : a.toNat = n := by omega
    simp only [ss, hps, Nat.reduceEqDiff, Nat.reduceLT, Nat.reduceAdd, Nat.reduceLeDiff, Int.reduceLT, Int.reduceLE, Int.reduceEq, reduceIte, ic185, o217, r217, o66, r66, q1, w1, conv_int, storeB, hnn]
  · have hs : h.set bb (.row ((storeB bs l a x).map u8)) = h := by simp only [storeB]; rw [if_neg q1]; exact set_same hu.b
    rw [hs]
    simp only [ss, hps, Nat.reduceEqDiff, Nat.reduceLT, Nat.reduceAdd, Nat.reduceLeDiff, Int.reduceLT, Int.reduceLE, Int.reduceEq, reduceIte, ic185, o217, r217, q1]
end Go.Proofs.YtadeojgiiapljaaGreat.Im
