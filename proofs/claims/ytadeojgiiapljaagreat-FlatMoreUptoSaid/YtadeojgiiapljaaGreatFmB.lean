/- The assembly: what flat.Run and flat.More say, each call by its own law. -/
import Derived.Test.YtadeojgiiapljaaGreatFmA
import Derived.Test.YtadeojgiiapljaaGreatRfD
import Derived.Test.YtadeojgiiapljaaGreatWdC
namespace Go.Proofs.YtadeojgiiapljaaGreat.Im
open Go
theorem s128 : Sim Tryz.prog 128 G128 := body_sim (ocons_sim s181 (ocons_sim s180 (ocons_sim s182 (ocons_sim s183 (ocons_sim s184 (ocons_sim s185 (ocons_sim s131 onil_sim))))))) cc128 0
section
variable {L : List IV → M IV}
theorem s186 (hL : Sim Tryz.prog 40 L) : Sim Tryz.prog 186 (G186 L) := body_sim (ocons_sim hL onil_sim) cc186 0
theorem s129 (hL : Sim Tryz.prog 40 L) : Sim Tryz.prog 129 (G129 L) := body_sim (ocons_sim (s186 hL) onil_sim) cc129 0
theorem s130 (hL : Sim Tryz.prog 40 L) : Sim Tryz.prog 130 (G130 L) := body_sim (ocons_sim s76 (ocons_sim (s186 hL) onil_sim)) cc130 4000010
theorem O40_sim (hL : Sim Tryz.prog 40 L) : ∀ f, Sim Tryz.prog f (O40 L f) := ocons_sim s75 (ocons_sim s76 (ocons_sim s128 (ocons_sim (s129 hL) (ocons_sim (s130 hL) onil_sim))))
end
theorem s40 : ∀ k, Sim Tryz.prog 40 (G40 k)
  | 0 => Sim.fail_of 40 fun _ _ => rfl
  | k + 1 => body_sim (O40_sim (s40 k)) cc40 4000010
theorem s9 (k : Nat) : Sim Tryz.prog 9 (G9 k) := body_sound (T := T9) T9_ok (ocons_sim (s37 k) (ocons_sim s38 (ocons_sim (s40 k) onil_sim))) mixed cc9
theorem s3 (h7 : Sim Tryz.prog 7 F7) (k : Nat) : Sim Tryz.prog 3 (G3 k) := body_sim (ocons_sim (s5 k) (ocons_sim (s6 k) (ocons_sim h7 (ocons_sim s8 (ocons_sim (s9 k) (ocons_sim s10 (ocons_sim (s11 200) (ocons_sim (s12 200) (ocons_sim s13 onil_sim))))))))) cc3 0
end Go.Proofs.YtadeojgiiapljaaGreat.Im
namespace Go.Proofs.YtadeojgiiapljaaGreat.Im
open Go
open Go.RowKit
set_option maxRecDepth 1000000
theorem known_true : isTrue (icall Tk.get B202 200 40 7 [] ⟨0, []⟩) = true := by kernel_rfl
theorem B202_ok : ∀ f G, B202 f = some G → Sim Tryz.prog f G := fun f G h => by
  unfold B202 at h
  cases hb : Nat.beq f 202
  · rw [hb] at h; cases h
  · rw [hb] at h; cases h
    have := Nat.eq_of_beq_eq_true hb
    subst this; exact s202
theorem s7 : Sim Tryz.prog 7 F7 := by
  have hS : Sim Tryz.prog 7 (icall Tk.get B202 200 40 7) := icall_sound (FTree.get_ok Tk_ok) B202_ok mixed 200 40 7
  have hen : Enters Tryz.prog 7 := ⟨Tryz.f7, Tryz.func7, rfl, by decide⟩
  refine ⟨.inr hen, ?_, ?_⟩
  · intro φ C h w args args' v h' r hargs hF
    unfold F7 at hF
    split at hF
    case h_2 => cases hF
    cases hF
    have hr0 : Rel (fun _ => none) (fun _ => none) ⟨0, []⟩ w := ⟨fun _ _ hb => (by cases hb), fun _ _ hb => (by cases hb), fun _ _ _ _ hb => (by cases hb), fun _ _ _ hb => (by cases hb), fun _ _ _ _ hb => (by cases hb), fun _ _ hc => (by cases hc)⟩
    have hk := known_true
    revert hk
    cases hres : icall Tk.get B202 200 40 7 [] ⟨0, []⟩ with
    | ok u g =>
      intro hk
      have hu : u = .bool true := by
        unfold isTrue at hk
        cases u <;> simp at hk
        subst hk; rfl
      subst hu
      have ha : VRels (fun _ => none) (fun _ => none) [] args' := ⟨hargs.1, fun i hi => by cases hi⟩
      refine (hS.ok _ _ _ w [] args' _ g hr0 ha hres).mono ?_
      rintro e w' ⟨x, φ', C', rfl, hx, ex, _⟩
      cases hx
      have hb : Below w.heap.size w w' := ⟨ex.os, ex.tape, ex.output, ex.size, fun k hk => ex.keep k hk fun b p hb => by cases hb⟩
      exact ⟨_, φ, C, rfl, .bool true, Ext.below r hb, r.below hb⟩
    | panic u g => intro hk; cases hk
    | fail => intro hk; cases hk
  · intro φ C h w args args' v h' r hargs hF
    unfold F7 at hF
    (repeat' split at hF) <;> cases hF
end Go.Proofs.YtadeojgiiapljaaGreat.Im
