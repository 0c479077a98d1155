/- A range over a function: regions of a round, walked on the ideal machine. -/
import Derived.Test.YtadeojgiiapljaaGreatImB
import Derived.RangeFuncLeaves
import Derived.RangeFuncCalls
import Derived.RangeFuncRecord
import Derived.Shelf.Abstract
set_option linter.unusedSimpArgs false
set_option linter.unusedVariables false
namespace Go.Proofs.YtadeojgiiapljaaGreat.Im
open Go
section
variable {P : Program} {φ φ' : Phi} {C C' : Con} {h h' : IHeap} {e : Env} {a : Act} {w w' : World} {O : Orc} {N : Nat} {n : Nat}
/-- The wide fence, in a round or not. -/
abbrev FcN (ro : Option Nat) : Fence := { Fence.wide with round := ro }
theorem FcN.calls {ro : Option Nat} {f : FuncId} {args : Array Value} {R : Ending → World → Prop} (hc : Calls P f args w R) : CallsIn (FcN ro) n P f args w R :=
  callsIn_wide (n := n).2 hc
theorem FcN.rows {ro : Option Nat} {row : String} {args : Array Value} {R : Value → World → Prop} (hc : Rows P row args w R) : RowsIn (FcN ro) n P row args w R :=
  fun c cs _ => let ⟨v, w', r, s⟩ := hc c cs; ⟨v, w', r, (stepsIn_wide (P := P)).2 s⟩
theorem upon_in {ro : Option Nat} {o : Oper} {r : Result Next} {next : Act → World → Prop} {Q Q' : Exit → Act → World → Prop} (hout : ¬ LetsOut Q') (hpan : ∀ c a w, ¬ Q' (.panic c) a w) (hup : o.upon P a next Q' r) : o.uponIn (FcN ro) n P a next Q r := by
  cases r with
  | ok nx w' =>
    cases nx with
    | value v => exact hup
    | skip => exact hup
    | defer d => exact hup
    | enter f args =>
      refine ⟨fun h => by simp [Fence.wide] at h, (FcN.calls (n := n - 1) hup).mono fun e w' he => ?_⟩
      cases e with
      | returned v => exact he
      | panicked c => exact absurd he (hpan _ _ _)
      | outgrown => exact absurd he hout
    | row row args => exact ⟨fun h => by simp [Fence.wide] at h, FcN.rows hup⟩
    | _ => exact hup.elim
  | halt x w' =>
    cases x with
    | panic v => exact absurd hup (hpan _ _ _)
    | _ => exact hup.elim
theorem wp_in {ro : Option Nat} {o : Oper} {next : Act → World → Prop} {Q Q' : Exit → Act → World → Prop} (hnd : ∀ c, o.op ≠ .defer c) (hout : ¬ LetsOut Q') (hpan : ∀ c a w, ¬ Q' (.panic c) a w) (hup : o.wp P a w next Q') : o.wpIn (FcN ro) n P a w next Q := by
  refine ⟨fun _ _ => trivial, ?_⟩
  rw [Oper.semAt_eq _ _ _ hnd]
  exact upon_in hout hpan hup
/-- What is asked at the end of a stretch of operations. -/
def OnN (K : Act → World → Prop) : Exit → Act → World → Prop
  | .normal, a, w => K a w
  | _, _, _ => False
theorem ops_in {ro : Option Nat} {ops : Array Oper} {Q : Exit → Act → World → Prop} {K : Act → World → Prop} {js : List Nat} (hnd : ∀ (i : Nat) (o : Oper), ops[i]? = some o → ∀ c, o.op ≠ .defer c) (hK : ∀ a w, K a w → wpOpsIn (FcN ro) n P ops Q js a w) :
    ∀ (is : List Nat) (a : Act) (w : World), wpOps P ops (OnN K) is a w → wpOpsIn (FcN ro) n P ops Q (is ++ js) a w
  | [], a, w, h => hK a w h
  | i :: is, a, w, h => by
    simp only [wpOps, List.cons_append, wpOpsIn] at h ⊢
    cases ho : ops[i]? with
    | none => rw [ho] at h; exact ops_in hnd hK is a w h
    | some o =>
      rw [ho] at h
      simp only at h ⊢
      have hout : ¬ LetsOut (OnN K) := fun ⟨_, _, hh⟩ => hh
      split
      · rename_i hw
        rw [if_pos hw] at h
        rcases h with h | ⟨_, h⟩
        · refine wp_in (hnd i o ho) hout (fun _ _ _ hh => hh) (Oper.wp_mono (fun a w hh => ops_in hnd hK is a w hh) h)
        · exact absurd h hout
      · rename_i hw
        rw [if_neg hw] at h
        exact ⟨fun _ _ => trivial, ops_in hnd hK is _ w h⟩
/-- A stretch of a region, on the ideal machine. -/
theorem stretch {ro : Option Nat} {ops : Array Oper} {Q : Exit → Act → World → Prop} {js : List Nat} (hO : ∀ f, Sim P f (O f)) (hnd : ∀ (i : Nat) (o : Oper), ops[i]? = some o → ∀ c, o.op ≠ .defer c) {is : List Nat} {ios : List IOper} {e e' : Env}
    (hall : All2 (fun i io => ∃ o, ops[i]? = some o ∧ coper P N ops o = some io) is ios) (r : Rel φ C h w) (hf : FRel φ C N e a) (hr : ix.regI O ios e h = .ok .normal e' h')
    (hK : ∀ φ' C' a' w', Ext φ C h w φ' C' h' w' → Rel φ' C' h' w' → FRel φ' C' N e' a' → wpOpsIn (FcN ro) n P ops Q js a' w') : wpOpsIn (FcN ro) n P ops Q (is ++ js) a w := by
  refine ops_in (K := fun a' w' => ∃ φ' C', Ext φ C h w φ' C' h' w' ∧ Rel φ' C' h' w' ∧ FRel φ' C' N e' a') hnd (fun a' w' hh => by
    obtain ⟨φ', C', h1, h2, h3⟩ := hh; exact hK φ' C' a' w' h1 h2 h3) is a w ?_
  refine reg_sound hO is ios e φ C h w a hall r hf ?_
  rw [hr]
  exact fun φ' C' a' w' h1 h2 h3 => ⟨φ', C', h1, h2, h3⟩
theorem region_in {ro : Option Nat} {ops : Array Oper} {id : Nat} {Q : Exit → Act → World → Prop} (hO : ∀ f, Sim P f (O f)) (hnd : ∀ (i : Nat) (o : Oper), ops[i]? = some o → ∀ c, o.op ≠ .defer c) {ios : List IOper} {e e' : Env} (hios : copers P N ops ops.toList = some ios)
    (r : Rel φ C h w) (hf : FRel φ C N e a) (hr : ix.regI O ios e h = .ok .normal e' h') (hK : ∀ φ' C' a' w', Ext φ C h w φ' C' h' w' → Rel φ' C' h' w' → FRel φ' C' N e' a' → Q .normal a' w') : (Code.region id ops false).wpIn (FcN ro) n P Q a w := by
  refine wpIn_region ?_
  have hall := copers_all 0 hios (fun i o ho => by simpa using ho)
  rw [show List.range ops.size = List.range' 0 ops.toList.length ++ [] by rw [List.range_eq_range']; simp]
  exact stretch hO hnd hall r hf hr hK
/-- What the related memory does not reach may turn. -/
theorem Rel.other (r : Rel φ C h w) (hs : w.heap.size ≤ w'.heap.size) (hk : ∀ blk, (∃ b p, φ b = some p ∧ Live h b ∧ p.blk = blk) ∨ C blk ≠ none → w'.heap[blk]? = w.heap[blk]?) : Rel φ C h w' where
  dom := fun b p hb => ⟨(r.dom b p hb).1, Nat.lt_of_lt_of_le (r.dom b p hb).2 hs⟩
  live := r.live
  inj := r.inj
  row := fun b p cells hb hg => by
    obtain ⟨cs, E, h1, h2⟩ := r.row b p cells hb hg
    exact ⟨cs, E, by rw [hk p.blk (.inl ⟨b, p, hb, ⟨_, hg, by simp⟩, rfl⟩)]; exact h1, h2⟩
  mp := fun b p es c hb hg => by
    obtain ⟨es', h1, h2⟩ := r.mp b p es c hb hg
    exact ⟨es', by rw [hk p.blk (.inl ⟨b, p, hb, ⟨_, hg, by simp⟩, rfl⟩)]; exact h1, h2⟩
  con := fun blk cs hc => by
    obtain ⟨E, fz, h1⟩ := r.con blk cs hc
    exact ⟨E, fz, by rw [hk blk (.inr (by rw [hc]; simp))]; exact h1⟩
end
end Go.Proofs.YtadeojgiiapljaaGreat.Im
