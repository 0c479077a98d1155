/- flat.arity, word.Args. -/
import Derived.Test.YtadeojgiiapljaaGreatIcA
import Derived.Test.YtadeojgiiapljaaGreatIcB
import Derived.Test.YtadeojgiiapljaaGreatImC
import Derived.Test.YtadeojgiiapljaaGreatMmA
import Derived.Test.YtadeojgiiapljaaGreatRnA
set_option linter.unusedSimpArgs false
set_option linter.unusedVariables false
namespace Go.Proofs.YtadeojgiiapljaaGreat.Im
open Go
set_option maxHeartbeats 1000000
def arity (d op : Int) : Int := if op = 4 then 1 else if op = 5 then 1 else if 6 ≤ op ∧ op ≤ 20 then 2 else if op = 21 then 3 else d
def g180 : List IV → Option IV
  | [.int .i64 op] => some (.int .i64 (arity 0 op))
  | _ => none
def g215 : List IV → Option IV
  | [.int .i64 op] => some (.int .i64 (arity (-1) op))
  | _ => none
theorem b180 {O : Orc} {op : Int} {h : IHeap} : bodyI T0 O 0 ic180 [.int .i64 op] h = .ok (.int .i64 (arity 0 op)) h := by
  rw [body_eq rfl rfl rfl (by decide)]
  by_cases h1 : op = 4
  · subst h1; simp only [ss, hps, Nat.reduceEqDiff, Nat.reduceLT, Nat.reduceAdd, Nat.reduceLeDiff, Int.reduceLT, Int.reduceLE, Int.reduceEq, reduceIte, ic180, arity]
  by_cases h2 : op = 5
  · subst h2; simp only [ss, hps, Nat.reduceEqDiff, Nat.reduceLT, Nat.reduceAdd, Nat.reduceLeDiff, Int.reduceLT, Int.reduceLE, Int.reduceEq, reduceIte, ic180, arity]
  by_cases h3 : 6 ≤ op
  · by_cases h4 : op ≤ 20
    · simp only [ss, hps, Nat.reduceEqDiff, Nat.reduceLT, Nat.reduceAdd, Nat.reduceLeDiff, Int.reduceLT, Int.reduceLE, Int.reduceEq, reduceIte, ic180, arity, h1, h2, h3, h4]
    · by_cases h5 : op = 21
      · subst h5; simp only [ss, hps, Nat.reduceEqDiff, Nat.reduceLT, Nat.reduceAdd, Nat.reduceLeDiff, Int.reduceLT, Int.reduceLE, Int.reduceEq, reduceIte, ic180, arity, and_false]
      · simp only [ss, hps, Nat.reduceEqDiff, Nat.reduceLT, Nat.reduceAdd, Nat.reduceLeDiff, Int.reduceLT, Int.reduceLE, Int.reduceEq, reduceIte, ic180, arity, h1, h2, h3, h4, h5, and_false]
  · have h5 : ¬ op = 21 := by omega
    simp only [ss, hps, Nat.reduceEqDiff, Nat.reduceLT, Nat.reduceAdd, Nat.reduceLeDiff, Int.reduceLT, Int.reduceLE, Int.reduceEq, reduceIte, ic180, arity, h1, h2, h3, h5, false_and]
theorem b215 {O : Orc} {op : Int} {h : IHeap} : bodyI T0 O 0 ic215 [.int .i64 op] h = .ok (.int .i64 (arity (-1) op)) h := by
  rw [body_eq rfl rfl rfl (by decide)]
  by_cases h1 : op = 4
  · subst h1; simp only [ss, hps, Nat.reduceEqDiff, Nat.reduceLT, Nat.reduceAdd, Nat.reduceLeDiff, Int.reduceLT, Int.reduceLE, Int.reduceEq, reduceIte, ic215, arity]
  by_cases h2 : op = 5
  · subst h2; simp only [ss, hps, Nat.reduceEqDiff, Nat.reduceLT, Nat.reduceAdd, Nat.reduceLeDiff, Int.reduceLT, Int.reduceLE, Int.reduceEq, reduceIte, ic215, arity]
  by_cases h3 : 6 ≤ op
  · by_cases h4 : op ≤ 20
    · simp only [ss, hps, Nat.reduceEqDiff, Nat.reduceLT, Nat.reduceAdd, Nat.reduceLeDiff, Int.reduceLT, Int.reduceLE, Int.reduceEq, reduceIte, ic215, arity, h1, h2, h3, h4]
    · by_cases h5 : op = 21
      · subst h5; simp only [ss, hps, Nat.reduceEqDiff, Nat.reduceLT, Nat.reduceAdd, Nat.reduceLeDiff, Int.reduceLT, Int.reduceLE, Int.reduceEq, reduceIte, ic215, arity, and_false]
      · simp only [ss, hps, Nat.reduceEqDiff, Nat.reduceLT, Nat.reduceAdd, Nat.reduceLeDiff, Int.reduceLT, Int.reduceLE, Int.reduceEq, reduceIte, ic215, arity, h1, h2, h3, h4, h5, and_false]
  · have h5 : ¬ op = 21 := by omega
    simp only [ss, hps, Nat.reduceEqDiff, Nat.reduceLT, Nat.reduceAdd, Nat.reduceLeDiff, Int.reduceLT, Int.reduceLE, Int.reduceEq, reduceIte, ic215, arity, h1, h2, h3, h5, false_and]
theorem s180 : Sim Tryz.prog 180 (rd g180) := by
  refine Sim.rd ⟨Tryz.f180, Tryz.func180, rfl, by decide⟩ fun args v h hg => ?_
  unfold g180 at hg
  split at hg
  · cases hg; exact ⟨_, body_sim onil_sim cc180 0, _, b180 , Grow.refl h, fun _ => rfl⟩
  · cases hg
theorem s215 : Sim Tryz.prog 215 (rd g215) := by
  refine Sim.rd ⟨Tryz.f215, Tryz.func215, rfl, by decide⟩ fun args v h hg => ?_
  unfold g215 at hg
  split at hg
  · cases hg; exact ⟨_, body_sim onil_sim cc215 0, _, b215 , Grow.refl h, fun _ => rfl⟩
  · cases hg
end Go.Proofs.YtadeojgiiapljaaGreat.Im
namespace Go.Proofs.YtadeojgiiapljaaGreat.Im
open Go
set_option maxHeartbeats 1000000
def andW (x y : Int) : Int := IntKind.u64.wrap (BitVec.ofInt 64 x &&& BitVec.ofInt 64 y).toNat
def xorW (x y : Int) : Int := IntKind.u64.wrap (BitVec.ofInt 64 x ^^^ BitVec.ofInt 64 y).toNat
theorem bin_and (x y : Int) : binI .and (.int .u64 x) (.int .u64 y) = some (.int .u64 (andW x y)) := by simp only [binI, intArith, andW, if_true]; rfl
theorem bin_xor (x y : Int) : binI .xor (.int .u64 x) (.int .u64 y) = some (.int .u64 (xorW x y)) := by simp only [binI, intArith, xorW, if_true]; rfl
theorem u64_nonneg (x : Int) : 0 ≤ IntKind.u64.wrap x := by
  simp only [IntKind.wrap, IntKind.bits, IntKind.signed]
  simp
  omega
def shlX (x b : Int) : Int := IntKind.u64.wrap (x * 2 ^ (min b.toNat 64))
def shrX (x b : Int) : Int := x.fdiv (2 ^ (min b.toNat 64))
theorem bin_shlX (x : Int) (j : IntKind) {b : Int} (hb : 0 ≤ b) : binI .shl (.int .u64 x) (.int j b) = some (.int .u64 (shlX x b)) := by
  simp only [binI]; rw [if_neg (by omega)]; rfl
theorem bin_shrX (x : Int) (j : IntKind) {b : Int} (hb : 0 ≤ b) : binI .shr (.int .u64 x) (.int j b) = some (.int .u64 (shrX x b)) := by
  simp only [binI]; rw [if_neg (by omega)]; rfl
theorem bin_shrS (x : Int) (j : IntKind) {b : Int} (hb : 0 ≤ b) : binI .shr (.int .i64 x) (.int j b) = some (.int .i64 (shrX x b)) := by
  simp only [binI]; rw [if_neg (by omega)]; rfl
theorem andW_nonneg (x y : Int) : 0 ≤ andW x y := u64_nonneg _
def g2 (f : Int → Int → Int) : List IV → Option IV
  | [.int .u64 x, .int .u64 y] => some (.int .u64 (f x y))
  | _ => none
theorem sim2 {k : FuncId} {F : IFunc} {f : Int → Int → Int} {O : Orc} (hO : ∀ g, Sim Tryz.prog g (O g)) (hF : Compiled Tryz.prog k F) (he : Enters Tryz.prog k) (hb : ∀ x y h, bodyI T0 O 0 F [.int .u64 x, .int .u64 y] h = .ok (.int .u64 (f x y)) h) : Sim Tryz.prog k (rd (g2 f)) := by
  refine Sim.rd he fun args v h hg => ?_
  unfold g2 at hg
  split at hg
  · cases hg; exact ⟨_, body_sim hO hF 0, _, hb _ _ _, Grow.refl h, fun _ => rfl⟩
  · cases hg
theorem s245 : Sim Tryz.prog 245 (rd (g2 fun x y => IntKind.u64.wrap (x + y))) := sim2 onil_sim cc245 ⟨Tryz.f245, Tryz.func245, rfl, by decide⟩ fun x y h => by
  rw [body_eq rfl rfl rfl (by decide)]; simp only [ss, hps, Nat.reduceEqDiff, Nat.reduceLT, Nat.reduceAdd, Nat.reduceLeDiff, Int.reduceLT, Int.reduceLE, Int.reduceEq, reduceIte, ic245]
theorem s246 : Sim Tryz.prog 246 (rd (g2 fun x y => IntKind.u64.wrap (x - y))) := sim2 onil_sim cc246 ⟨Tryz.f246, Tryz.func246, rfl, by decide⟩ fun x y h => by
  rw [body_eq rfl rfl rfl (by decide)]; simp only [ss, hps, Nat.reduceEqDiff, Nat.reduceLT, Nat.reduceAdd, Nat.reduceLeDiff, Int.reduceLT, Int.reduceLE, Int.reduceEq, reduceIte, ic246]
theorem s247 : Sim Tryz.prog 247 (rd (g2 fun x y => IntKind.u64.wrap (x * y))) := sim2 onil_sim cc247 ⟨Tryz.f247, Tryz.func247, rfl, by decide⟩ fun x y h => by
  rw [body_eq rfl rfl rfl (by decide)]; simp only [ss, hps, Nat.reduceEqDiff, Nat.reduceLT, Nat.reduceAdd, Nat.reduceLeDiff, Int.reduceLT, Int.reduceLE, Int.reduceEq, reduceIte, ic247]
theorem s248 : Sim Tryz.prog 248 (rd (g2 andW)) := sim2 onil_sim cc248 ⟨Tryz.f248, Tryz.func248, rfl, by decide⟩ fun x y h => by
  rw [body_eq rfl rfl rfl (by decide)]; simp only [ss, hps, Nat.reduceEqDiff, Nat.reduceLT, Nat.reduceAdd, Nat.reduceLeDiff, Int.reduceLT, Int.reduceLE, Int.reduceEq, reduceIte, ic248, bin_and]
theorem s249 : Sim Tryz.prog 249 (rd (g2 orW)) := sim2 onil_sim cc249 ⟨Tryz.f249, Tryz.func249, rfl, by decide⟩ fun x y h => by
  rw [body_eq rfl rfl rfl (by decide)]; simp only [ss, hps, Nat.reduceEqDiff, Nat.reduceLT, Nat.reduceAdd, Nat.reduceLeDiff, Int.reduceLT, Int.reduceLE, Int.reduceEq, reduceIte, ic249, bin_or]
theorem s250 : Sim Tryz.prog 250 (rd (g2 xorW)) := sim2 onil_sim cc250 ⟨Tryz.f250, Tryz.func250, rfl, by decide⟩ fun x y h => by
  rw [body_eq rfl rfl rfl (by decide)]; simp only [ss, hps, Nat.reduceEqDiff, Nat.reduceLT, Nat.reduceAdd, Nat.reduceLeDiff, Int.reduceLT, Int.reduceLE, Int.reduceEq, reduceIte, ic250, bin_xor]
theorem s251 : Sim Tryz.prog 251 (rd (g2 fun x y => shlX x (andW y 63))) := sim2 onil_sim cc251 ⟨Tryz.f251, Tryz.func251, rfl, by decide⟩ fun x y h => by
  rw [body_eq rfl rfl rfl (by decide)]; simp only [ss, hps, Nat.reduceEqDiff, Nat.reduceLT, Nat.reduceAdd, Nat.reduceLeDiff, Int.reduceLT, Int.reduceLE, Int.reduceEq, reduceIte, ic251, bin_and, bin_shlX x .u64 (andW_nonneg y 63)]
theorem s252 : Sim Tryz.prog 252 (rd (g2 fun x y => shrX x (andW y 63))) := sim2 onil_sim cc252 ⟨Tryz.f252, Tryz.func252, rfl, by decide⟩ fun x y h => by
  rw [body_eq rfl rfl rfl (by decide)]; simp only [ss, hps, Nat.reduceEqDiff, Nat.reduceLT, Nat.reduceAdd, Nat.reduceLeDiff, Int.reduceLT, Int.reduceLE, Int.reduceEq, reduceIte, ic252, bin_and, bin_shrX x .u64 (andW_nonneg y 63)]
theorem s253 : Sim Tryz.prog 253 (rd (g2 fun x y => IntKind.u64.wrap (shrX (IntKind.i64.wrap x) (andW y 63)))) := sim2 onil_sim cc253 ⟨Tryz.f253, Tryz.func253, rfl, by decide⟩ fun x y h => by
  rw [body_eq rfl rfl rfl (by decide)]; simp only [ss, hps, Nat.reduceEqDiff, Nat.reduceLT, Nat.reduceAdd, Nat.reduceLeDiff, Int.reduceLT, Int.reduceLE, Int.reduceEq, reduceIte, ic253, bin_and, conv_int, bin_shrS (IntKind.i64.wrap x) .u64 (andW_nonneg y 63)]
end Go.Proofs.YtadeojgiiapljaaGreat.Im
namespace Go.Proofs.YtadeojgiiapljaaGreat.Im
open Go
set_option maxHeartbeats 1000000
def gb2 (f : Int → Int → Bool) : List IV → Option IV
  | [.int .u64 x, .int .u64 y] => some (.bool (f x y))
  | _ => none
theorem simb2 {k : FuncId} {F : IFunc} {f : Int → Int → Bool} {O : Orc} (hO : ∀ g, Sim Tryz.prog g (O g)) (hF : Compiled Tryz.prog k F) (he : Enters Tryz.prog k) (hb : ∀ x y h, bodyI T0 O 0 F [.int .u64 x, .int .u64 y] h = .ok (.bool (f x y)) h) : Sim Tryz.prog k (rd (gb2 f)) := by
  refine Sim.rd he fun args v h hg => ?_
  unfold gb2 at hg
  split at hg
  · cases hg; exact ⟨_, body_sim hO hF 0, _, hb _ _ _, Grow.refl h, fun _ => rfl⟩
  · cases hg
theorem s257 : Sim Tryz.prog 257 (rd (gb2 fun x y => decide (x = y))) := simb2 onil_sim cc257 ⟨Tryz.f257, Tryz.func257, rfl, by decide⟩ fun x y h => by
  rw [body_eq rfl rfl rfl (by decide)]; simp only [ss, hps, Nat.reduceEqDiff, Nat.reduceLT, Nat.reduceAdd, Nat.reduceLeDiff, Int.reduceLT, Int.reduceLE, Int.reduceEq, reduceIte, ic257]
theorem s258 : Sim Tryz.prog 258 (rd (gb2 fun x y => decide (¬ x = y))) := simb2 onil_sim cc258 ⟨Tryz.f258, Tryz.func258, rfl, by decide⟩ fun x y h => by
  rw [body_eq rfl rfl rfl (by decide)]; simp only [ss, hps, Nat.reduceEqDiff, Nat.reduceLT, Nat.reduceAdd, Nat.reduceLeDiff, Int.reduceLT, Int.reduceLE, Int.reduceEq, reduceIte, ic258]
theorem s259 : Sim Tryz.prog 259 (rd (gb2 fun x y => decide (x < y))) := simb2 onil_sim cc259 ⟨Tryz.f259, Tryz.func259, rfl, by decide⟩ fun x y h => by
  rw [body_eq rfl rfl rfl (by decide)]; simp only [ss, hps, Nat.reduceEqDiff, Nat.reduceLT, Nat.reduceAdd, Nat.reduceLeDiff, Int.reduceLT, Int.reduceLE, Int.reduceEq, reduceIte, ic259]
theorem s260 : Sim Tryz.prog 260 (rd (gb2 fun x y => decide (x ≤ y))) := simb2 onil_sim cc260 ⟨Tryz.f260, Tryz.func260, rfl, by decide⟩ fun x y h => by
  rw [body_eq rfl rfl rfl (by decide)]; simp only [ss, hps, Nat.reduceEqDiff, Nat.reduceLT, Nat.reduceAdd, Nat.reduceLeDiff, Int.reduceLT, Int.reduceLE, Int.reduceEq, reduceIte, ic260]
def rotW (x k : Int) : Int := orW (shlX x (andW (IntKind.u64.wrap k) 63)) (shrX x (IntKind.u64.wrap (64 - andW (IntKind.u64.wrap k) 63)))
def g255 : List IV → Option IV
  | [.int .u64 x, .int .i64 k] => some (.int .u64 (rotW x k))
  | _ => none
theorem b255 {O : Orc} {x k : Int} {h : IHeap} : bodyI T0 O 0 ic255 [.int .u64 x, .int .i64 k] h = .ok (.int .u64 (rotW x k)) h := by
  rw [body_eq rfl rfl rfl (by decide)]
  simp only [ss, hps, Nat.reduceEqDiff, Nat.reduceLT, Nat.reduceAdd, Nat.reduceLeDiff, Int.reduceLT, Int.reduceLE, Int.reduceEq, reduceIte, ic255, bin_and, conv_int, bin_or, bin_shlX x .u64 (andW_nonneg (IntKind.u64.wrap k) 63), bin_shrX x .u64 (u64_nonneg (64 - andW (IntKind.u64.wrap k) 63)), rotW]
theorem s255 : Sim Tryz.prog 255 (rd g255) := by
  refine Sim.rd ⟨Tryz.f255, Tryz.func255, rfl, by decide⟩ fun args v h hg => ?_
  unfold g255 at hg
  split at hg
  · cases hg; exact ⟨_, body_sim onil_sim cc255 0, _, b255 , Grow.refl h, fun _ => rfl⟩
  · cases hg
theorem rd255 (x k : Int) (h : IHeap) : rd g255 [.int .u64 x, .int .i64 k] h = .ok (.int .u64 (rotW x k)) h := rfl
theorem un_neg (k : IntKind) (n : Int) : unI .neg (.int k n) = some (.int k (k.wrap (0 - n))) := rfl
theorem s254 : Sim Tryz.prog 254 (rd (g2 fun x y => rotW x (IntKind.i64.wrap (andW y 63)))) := sim2 (ocons_sim s255 onil_sim) cc254 ⟨Tryz.f254, Tryz.func254, rfl, by decide⟩ fun x y h => by
  have o255 : (ocons 255 (rd g255) onil) 255 = rd g255 := rfl
  rw [body_eq rfl rfl rfl (by decide)]; simp only [ss, hps, Nat.reduceEqDiff, Nat.reduceLT, Nat.reduceAdd, Nat.reduceLeDiff, Int.reduceLT, Int.reduceLE, Int.reduceEq, reduceIte, ic254, bin_and, conv_int, o255, rd255]
theorem s256 : Sim Tryz.prog 256 (rd (g2 fun x y => rotW x (IntKind.i64.wrap (0 - IntKind.i64.wrap (andW y 63))))) := sim2 (ocons_sim s255 onil_sim) cc256 ⟨Tryz.f256, Tryz.func256, rfl, by decide⟩ fun x y h => by
  have o255 : (ocons 255 (rd g255) onil) 255 = rd g255 := rfl
  rw [body_eq rfl rfl rfl (by decide)]; simp only [ss, hps, Nat.reduceEqDiff, Nat.reduceLT, Nat.reduceAdd, Nat.reduceLeDiff, Int.reduceLT, Int.reduceLE, Int.reduceEq, reduceIte, ic256, bin_and, conv_int, un_neg, o255, rd255]
end Go.Proofs.YtadeojgiiapljaaGreat.Im
namespace Go.Proofs.YtadeojgiiapljaaGreat.Im
open Go
set_option maxHeartbeats 1000000
/-- 'two': of k, which is told by f. -/
def G240 (k : FuncId) (f : Int → Int → Int) : List IV → M IV := bodyI T0 (ocons k (rd (g2 f)) onil) 0 ic240
theorem s240 {k : FuncId} {f : Int → Int → Int} (hk : Sim Tryz.prog k (rd (g2 f))) : Sim Tryz.prog 240 (G240 k f) := body_sim (ocons_sim hk onil_sim) cc240 0
theorem rdg2 (f : Int → Int → Int) (x y : Int) (h : IHeap) : rd (g2 f) [.int .u64 x, .int .u64 y] h = .ok (.int .u64 (f x y)) h := rfl
theorem iaddr_lit0 (sz b off len cap : Nat) (hl : 0 < len) : iaddrV sz (.slice b off len cap) 0 = some (.ptr b off) := by simp [iaddrV, hl]
theorem iaddr_lit1 (sz b off len cap : Nat) (hl : 1 < len) : iaddrV sz (.slice b off len cap) 1 = some (.ptr b (off + sz)) := by simp [iaddrV]; omega
theorem iaddr_lit2 (sz b off len cap : Nat) (hl : 2 < len) : iaddrV sz (.slice b off len cap) 2 = some (.ptr b (off + 2 * sz)) := by simp [iaddrV]; omega
theorem G240_at {k : FuncId} {f : Int → Int → Int} {h : IHeap} {ab fb n c : Nat} {x y : Int} {rest : List IV} (hf : h.get fb = some (.row [.func (.func k) [] []])) (ha : h.get ab = some (.row (.int .u64 x :: .int .u64 y :: rest))) (hn : 1 < n) :
    G240 k f [.slice ab 0 n c, .ptr fb 0] h = .ok (.int .u64 (f x y)) h := by
  unfold G240
  rw [body_eq rfl rfl rfl (by decide)]
  have ok : (ocons k (rd (g2 f)) onil) k = rd (g2 f) := oc_same _ _ _
  have i0 := iaddr_lit0 1 ab 0 n c (by omega)
  have i1 := iaddr_lit1 1 ab 0 n c hn
  simp only [ss, hps, Nat.reduceEqDiff, Nat.reduceLT, Nat.reduceAdd, Nat.reduceLeDiff, Int.reduceLT, Int.reduceLE, Int.reduceEq, reduceIte, ic240, hf, ha, i0, i1, ok, rdg2]
def G242 (k : FuncId) (f : Int → Int → Bool) : List IV → M IV := bodyI T0 (ocons k (rd (gb2 f)) onil) 0 ic242
theorem s242 {k : FuncId} {f : Int → Int → Bool} (hk : Sim Tryz.prog k (rd (gb2 f))) : Sim Tryz.prog 242 (G242 k f) := body_sim (ocons_sim hk onil_sim) cc242 0
theorem rdgb2 (f : Int → Int → Bool) (x y : Int) (h : IHeap) : rd (gb2 f) [.int .u64 x, .int .u64 y] h = .ok (.bool (f x y)) h := rfl
def boolW (b : Bool) : Int := if b = true then 1 else 0
theorem G242_at {k : FuncId} {f : Int → Int → Bool} {h : IHeap} {fb : Nat} {x y : Int} (hf : h.get fb = some (.row [.func (.func k) [] []])) : G242 k f [.int .u64 x, .int .u64 y, .ptr fb 0] h = .ok (.int .u64 (boolW (f x y))) h := by
  unfold G242
  rw [body_eq rfl rfl rfl (by decide)]
  have ok : (ocons k (rd (gb2 f)) onil) k = rd (gb2 f) := oc_same _ _ _
  cases q : f x y <;> simp only [ss, hps, Nat.reduceEqDiff, Nat.reduceLT, Nat.reduceAdd, Nat.reduceLeDiff, Int.reduceLT, Int.reduceLE, Int.reduceEq, reduceIte, ic242, hf, ok, rdgb2, q, boolW]
theorem b243 {O : Orc} {h : IHeap} {ab n c : Nat} {x : Int} {rest : List IV} (ha : h.get ab = some (.row (.int .u64 x :: rest))) (hn : 0 < n) : ∃ w, bodyI T0 O 0 ic243 [.slice ab 0 n c] h = .ok (.int .u64 w) h := by
  refine ⟨IntKind.u64.wrap (BitVec.ofInt 64 18446744073709551615 ^^^ BitVec.ofInt 64 x).toNat, ?_⟩
  rw [body_eq rfl rfl rfl (by decide)]
  have i0 := iaddr_lit0 1 ab 0 n c hn
  have hu : unI .xor (.int .u64 x) = some (.int .u64 (IntKind.u64.wrap (BitVec.ofInt 64 18446744073709551615 ^^^ BitVec.ofInt 64 x).toNat)) := rfl
  simp only [ss, hps, Nat.reduceEqDiff, Nat.reduceLT, Nat.reduceAdd, Nat.reduceLeDiff, Int.reduceLT, Int.reduceLE, Int.reduceEq, reduceIte, ic243, ha, i0, hu]
theorem b244 {O : Orc} {h : IHeap} {ab n c : Nat} {x : Int} {rest : List IV} (ha : h.get ab = some (.row (.int .u64 x :: rest))) (hn : 0 < n) : bodyI T0 O 0 ic244 [.slice ab 0 n c] h = .ok (.int .u64 (IntKind.u64.wrap (0 - x))) h := by
  rw [body_eq rfl rfl rfl (by decide)]
  have i0 := iaddr_lit0 1 ab 0 n c hn
  simp only [ss, hps, Nat.reduceEqDiff, Nat.reduceLT, Nat.reduceAdd, Nat.reduceLeDiff, Int.reduceLT, Int.reduceLE, Int.reduceEq, reduceIte, ic244, ha, i0, un_neg]
theorem b261 {O : Orc} {h : IHeap} {ab n c : Nat} {x y z : Int} {rest : List IV} (ha : h.get ab = some (.row (.int .u64 x :: .int .u64 y :: .int .u64 z :: rest))) (hn : 2 < n) : bodyI T0 O 0 ic261 [.slice ab 0 n c] h = .ok (.int .u64 (if x = 0 then z else y)) h := by
  rw [body_eq rfl rfl rfl (by decide)]
  have i0 := iaddr_lit0 1 ab 0 n c (by omega)
  have i1 := iaddr_lit1 1 ab 0 n c (by omega)
  have i2 := iaddr_lit2 1 ab 0 n c hn
  by_cases q : x = 0 <;> simp only [ss, hps, Nat.reduceEqDiff, Nat.reduceLT, Nat.reduceAdd, Nat.reduceLeDiff, Int.reduceLT, Int.reduceLE, Int.reduceEq, reduceIte, ic261, ha, i0, i1, i2, q]
end Go.Proofs.YtadeojgiiapljaaGreat.Im
namespace Go.Proofs.YtadeojgiiapljaaGreat.Im
open Go
set_option maxHeartbeats 1000000
/-- The functions of two words, from OpAdd on. -/
def twoK (n : Nat) : FuncId := if n = 10 then 256 else 245 + n
def twoF (n : Nat) : Int → Int → Int := match n with
  | 0 => fun x y => IntKind.u64.wrap (x + y)
  | 1 => fun x y => IntKind.u64.wrap (x - y)
  | 2 => fun x y => IntKind.u64.wrap (x * y)
  | 3 => andW
  | 4 => orW
  | 5 => xorW
  | 6 => fun x y => shlX x (andW y 63)
  | 7 => fun x y => shrX x (andW y 63)
  | 8 => fun x y => IntKind.u64.wrap (shrX (IntKind.i64.wrap x) (andW y 63))
  | 9 => fun x y => rotW x (IntKind.i64.wrap (andW y 63))
  | _ => fun x y => rotW x (IntKind.i64.wrap (0 - IntKind.i64.wrap (andW y 63)))
def isF (m : Nat) : Int → Int → Bool := match m with
  | 0 => fun x y => decide (x = y)
  | 1 => fun x y => decide (¬ x = y)
  | 2 => fun x y => decide (x < y)
  | _ => fun x y => decide (x ≤ y)
theorem simTwo : ∀ {n : Nat}, n < 11 → Sim Tryz.prog (twoK n) (rd (g2 (twoF n)))
  | 0, _ => s245
  | 1, _ => s246
  | 2, _ => s247
  | 3, _ => s248
  | 4, _ => s249
  | 5, _ => s250
  | 6, _ => s251
  | 7, _ => s252
  | 8, _ => s253
  | 9, _ => s254
  | 10, _ => s256
  | n + 11, h => by omega
theorem simIs : ∀ {m : Nat}, m < 4 → Sim Tryz.prog (257 + m) (rd (gb2 (isF m)))
  | 0, _ => s257
  | 1, _ => s258
  | 2, _ => s259
  | 3, _ => s260
  | n + 4, h => by omega
def notW (x : Int) : Int := IntKind.u64.wrap (BitVec.ofInt 64 18446744073709551615 ^^^ BitVec.ofInt 64 x).toNat
/-- word.Eval of an operation from OpNot to OpPick. -/
def evalW (op a b c : Int) : Int :=
  if op = 4 then notW a else if op = 5 then IntKind.u64.wrap (0 - a) else if op ≤ 16 then twoF (op - 6).toNat a b else if op ≤ 20 then boolW (isF (op - 17).toNat a b) else (if a = 0 then c else b)
def G239 : List IV → M IV := bodyI T0 onil 0 ic239
theorem s239 : Sim Tryz.prog 239 G239 := body_sim onil_sim cc239 0
theorem cells_func (f : Fn) (a c : List IV) : (IV.func f a c).cells = [.func f a c] := rfl
theorem G239_at (f : Fn) (a c : List IV) (h : IHeap) : G239 [.func f a c] h = .ok (.func (.func 240) [] [.ptr h.n 0]) (h.push (.row [.func f a c])) := by
  unfold G239
  rw [body_eq rfl rfl rfl (by decide)]
  simp only [ss, hps, Nat.reduceEqDiff, Nat.reduceLT, Nat.reduceAdd, Nat.reduceLeDiff, Int.reduceLT, Int.reduceLE, Int.reduceEq, reduceIte, ic239, rowIf_ok, cells_func]
def G241 : List IV → M IV := bodyI T0 (ocons 239 G239 onil) 0 ic241
theorem s241 : Sim Tryz.prog 241 G241 := body_sim (ocons_sim s239 onil_sim) cc241 0
theorem G241_at (f : Fn) (a c : List IV) {h : IHeap} {tb : Nat} (ht : h.get tb = some (.row [.func (.func 239) [] []])) : G241 [.func f a c, .ptr tb 0] h = .ok (.func (.func 240) [] [.ptr (h.n + 1) 0]) ((h.push (.row [.func f a c])).push (.row [.func (.func 242) [] [.ptr h.n 0]])) := by
  unfold G241
  rw [body_eq rfl rfl rfl (by decide)]
  have o239 : (ocons 239 G239 onil) 239 = G239 := rfl
  have hne : (tb = h.n) = False := by have := get_lt ht; simp; omega
  simp only [ss, hps, Nat.reduceEqDiff, Nat.reduceLT, Nat.reduceAdd, Nat.reduceLeDiff, Int.reduceLT, Int.reduceLE, Int.reduceEq, reduceIte, ic241, rowIf_ok, cells_func, ht, hne, o239, G239_at]
/-- 'two' of 'is'. -/
def G240i (k : FuncId) (f : Int → Int → Bool) : List IV → M IV := bodyI T0 (ocons 242 (G242 k f) onil) 0 ic240
theorem s240i {k : FuncId} {f : Int → Int → Bool} (hk : Sim Tryz.prog k (rd (gb2 f))) : Sim Tryz.prog 240 (G240i k f) := body_sim (ocons_sim (s242 hk) onil_sim) cc240 0
theorem G240i_at {k : FuncId} {f : Int → Int → Bool} {h : IHeap} {ab fb fb2 n c : Nat} {x y : Int} {rest : List IV} (hf : h.get fb = some (.row [.func (.func 242) [] [.ptr fb2 0]])) (hf2 : h.get fb2 = some (.row [.func (.func k) [] []]))
    (ha : h.get ab = some (.row (.int .u64 x :: .int .u64 y :: rest))) (hn : 1 < n) : G240i k f [.slice ab 0 n c, .ptr fb 0] h = .ok (.int .u64 (boolW (f x y))) h := by
  unfold G240i
  rw [body_eq rfl rfl rfl (by decide)]
  have ok : (ocons 242 (G242 k f) onil) 242 = G242 k f := rfl
  have i0 := iaddr_lit0 1 ab 0 n c (by omega)
  have i1 := iaddr_lit1 1 ab 0 n c hn
  have r := G242_at (f := f) (x := x) (y := y) hf2
  simp only [ss, hps, Nat.reduceEqDiff, Nat.reduceLT, Nat.reduceAdd, Nat.reduceLeDiff, Int.reduceLT, Int.reduceLE, Int.reduceEq, reduceIte, ic240, hf, ha, i0, i1, ok, r]
structure ED where
  op : Int
  xs : List Int
/-- Arguments that word.Eval takes. -/
def P182 (args : List IV) (h : IHeap) (d : ED) : Prop := ∃ ab n cap, args = [.int .i64 d.op, .slice ab 0 n cap] ∧ h.get ab = some (.row (d.xs.map u64v)) ∧ 4 ≤ d.op ∧ d.op ≤ 21 ∧ (n : Int) = arity 0 d.op ∧ n ≤ d.xs.length
noncomputable def F182 := byCh P182 fun d => .tup [.int .u64 (evalW d.op (d.xs.getD 0 0) (d.xs.getD 1 0) (d.xs.getD 2 0)), .int .i64 0]
theorem map_u64_inj {xs ys : List Int} (h : xs.map u64v = ys.map u64v) : xs = ys := by
  have hl : xs.length = ys.length := by simpa using congrArg List.length h
  refine List.ext_getElem hl fun i h1 h2 => ?_
  have := congrArg (fun z => z[i]?) h
  simpa [h1, h2, u64v] using this
theorem F182_at {h : IHeap} {ab n cap : Nat} {op : Int} {xs : List Int} (hb : h.get ab = some (.row (xs.map u64v))) (h1 : 4 ≤ op) (h2 : op ≤ 21) (h3 : (n : Int) = arity 0 op) (h4 : n ≤ xs.length) :
    F182 [.int .i64 op, .slice ab 0 n cap] h = .ok (.tup [.int .u64 (evalW op (xs.getD 0 0) (xs.getD 1 0) (xs.getD 2 0)), .int .i64 0]) h := by
  refine byCh_at (P := P182) (d := (⟨op, xs⟩ : ED)) ⟨ab, n, cap, rfl, hb, h1, h2, h3, h4⟩ fun d' hd => ?_
  obtain ⟨ab', n', cap', he, hb', _⟩ := hd
  obtain ⟨op', xs'⟩ := d'
  simp only [List.cons.injEq, IV.slice.injEq, IV.int.injEq, and_true, true_and] at he
  obtain ⟨rfl, rfl, rfl, rfl⟩ := he
  rw [hb] at hb'
  have := map_u64_inj (IObj.row.inj (Option.some.inj hb'))
  subst this; rfl
end Go.Proofs.YtadeojgiiapljaaGreat.Im
