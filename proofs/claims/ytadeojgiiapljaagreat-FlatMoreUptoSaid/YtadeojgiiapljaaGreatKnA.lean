/- The closed part: the chapter's rows, run by the kernel. -/
import Derived.Test.YtadeojgiiapljaaGreatIcA
import Derived.Test.YtadeojgiiapljaaGreatIcB
namespace Go.Proofs.YtadeojgiiapljaaGreat.Im
open Go
/-- A table of functions. -/
inductive FTree where
  | leaf (k : Nat) (F : IFunc)
  | node (m : Nat) (l r : FTree)
def FTree.get : FTree → FuncId → Option IFunc
  | .leaf k F, f => bif Nat.beq k f then some F else none
  | .node m l r, f => bif Nat.ble f m then l.get f else r.get f
def FTree.Ok (P : Program) : FTree → Prop
  | .leaf k F => Compiled P k F
  | .node _ l r => l.Ok P ∧ r.Ok P
theorem FTree.get_ok {P : Program} : ∀ {t : FTree}, t.Ok P → ∀ f F, t.get f = some F → Compiled P f F
  | .leaf k G, h, f, F, hg => by
    unfold FTree.get at hg
    cases hb : Nat.beq k f
    · rw [hb] at hg; cases hg
    · rw [hb] at hg; cases hg
      have := Nat.eq_of_beq_eq_true hb
      subst this; exact h
  | .node m l r, h, f, F, hg => by
    unfold FTree.get at hg
    cases hb : Nat.ble f m
    · rw [hb] at hg; exact get_ok h.2 f F hg
    · rw [hb] at hg; exact get_ok h.1 f F hg
def Tk : FTree := (.node 100 (.node 64 (.node 44 (.node 28 (.node 16 (.node 7 (.leaf 7 ic7) (.leaf 16 ic16)) (.node 18 (.leaf 18 ic18) (.leaf 28 ic28))) (.node 30 (.node 29 (.leaf 29 ic29) (.leaf 30 ic30)) (.node 31 (.leaf 31 ic31) (.node 43 (.leaf 43 ic43) (.leaf 44 ic44))))) (.node 48 (.node 46 (.node 45 (.leaf 45 ic45) (.leaf 46 ic46)) (.node 47 (.leaf 47 ic47) (.leaf 48 ic48))) (.node 50 (.node 49 (.leaf 49 ic49) (.leaf 50 ic50)) (.node 51 (.leaf 51 ic51) (.node 63 (.leaf 63 ic63) (.leaf 64 ic64)))))) (.node 91 (.node 86 (.node 84 (.node 83 (.leaf 83 ic83) (.leaf 84 ic84)) (.node 85 (.leaf 85 ic85) (.leaf 86 ic86))) (.node 88 (.node 87 (.leaf 87 ic87) (.leaf 88 ic88)) (.node 89 (.leaf 89 ic89) (.node 90 (.leaf 90 ic90) (.leaf 91 ic91))))) (.node 95 (.node 93 (.node 92 (.leaf 92 ic92) (.leaf 93 ic93)) (.node 94 (.leaf 94 ic94) (.leaf 95 ic95))) (.node 97 (.node 96 (.leaf 96 ic96) (.leaf 97 ic97)) (.node 98 (.leaf 98 ic98) (.node 99 (.leaf 99 ic99) (.leaf 100 ic100))))))) (.node 153 (.node 141 (.node 136 (.node 102 (.node 101 (.leaf 101 ic101) (.leaf 102 ic102)) (.node 103 (.leaf 103 ic103) (.leaf 136 ic136))) (.node 138 (.node 137 (.leaf 137 ic137) (.leaf 138 ic138)) (.node 139 (.leaf 139 ic139) (.node 140 (.leaf 140 ic140) (.leaf 141 ic141))))) (.node 145 (.node 143 (.node 142 (.leaf 142 ic142) (.leaf 143 ic143)) (.node 144 (.leaf 144 ic144) (.leaf 145 ic145))) (.node 147 (.node 146 (.leaf 146 ic146) (.leaf 147 ic147)) (.node 151 (.leaf 151 ic151) (.node 152 (.leaf 152 ic152) (.leaf 153 ic153)))))) (.node 196 (.node 191 (.node 156 (.node 155 (.leaf 155 ic155) (.leaf 156 ic156)) (.node 190 (.leaf 190 ic190) (.leaf 191 ic191))) (.node 193 (.node 192 (.leaf 192 ic192) (.leaf 193 ic193)) (.node 194 (.leaf 194 ic194) (.node 195 (.leaf 195 ic195) (.leaf 196 ic196))))) (.node 204 (.node 198 (.node 197 (.leaf 197 ic197) (.leaf 198 ic198)) (.node 203 (.leaf 203 ic203) (.leaf 204 ic204))) (.node 225 (.node 224 (.leaf 224 ic224) (.leaf 225 ic225)) (.node 226 (.leaf 226 ic226) (.node 227 (.leaf 227 ic227) (.leaf 236 ic236))))))))
theorem Tk_ok : Tk.Ok Tryz.prog := ⟨⟨⟨⟨⟨⟨cc7, cc16⟩, ⟨cc18, cc28⟩⟩, ⟨⟨cc29, cc30⟩, ⟨cc31, ⟨cc43, cc44⟩⟩⟩⟩, ⟨⟨⟨cc45, cc46⟩, ⟨cc47, cc48⟩⟩, ⟨⟨cc49, cc50⟩, ⟨cc51, ⟨cc63, cc64⟩⟩⟩⟩⟩, ⟨⟨⟨⟨cc83, cc84⟩, ⟨cc85, cc86⟩⟩, ⟨⟨cc87, cc88⟩, ⟨cc89, ⟨cc90, cc91⟩⟩⟩⟩, ⟨⟨⟨cc92, cc93⟩, ⟨cc94, cc95⟩⟩, ⟨⟨cc96, cc97⟩, ⟨cc98, ⟨cc99, cc100⟩⟩⟩⟩⟩⟩, ⟨⟨⟨⟨⟨cc101, cc102⟩, ⟨cc103, cc136⟩⟩, ⟨⟨cc137, cc138⟩, ⟨cc139, ⟨cc140, cc141⟩⟩⟩⟩, ⟨⟨⟨cc142, cc143⟩, ⟨cc144, cc145⟩⟩, ⟨⟨cc146, cc147⟩, ⟨cc151, ⟨cc152, cc153⟩⟩⟩⟩⟩, ⟨⟨⟨⟨cc155, cc156⟩, ⟨cc190, cc191⟩⟩, ⟨⟨cc192, cc193⟩, ⟨cc194, ⟨cc195, cc196⟩⟩⟩⟩, ⟨⟨⟨cc197, cc198⟩, ⟨cc203, cc204⟩⟩, ⟨⟨cc224, cc225⟩, ⟨cc226, ⟨cc227, cc236⟩⟩⟩⟩⟩⟩⟩
/-- Cells of places: a text, two numbers. -/
def plcB : List IV → Bool
  | [] => true
  | .str _ :: .int .i64 _ :: .int .i64 _ :: r => plcB r
  | _ => false
/-- slices.AppendSeq of slices.Values. -/
def F202 : List IV → M IV := fun args h => match args with
  | [.nils, .func (.func 154) [] [.ptr b o]] => match load1 h (.ptr b o) with
    | some v => match sliceCells h v 3 with
      | some [] => .ok .nils h
      | some cells => if plcB cells = true ∧ cells.length < 12000000 then .ok (.aslice h.n 0 (cells.length / 3) 3) (h.push (.row cells)) else .fail
      | none => .fail
    | none => .fail
  | _ => .fail
def B202 : FuncId → Option (List IV → M IV) := fun f => bif Nat.beq f 202 then some F202 else none
def isTrue : Res IV → Bool
  | .ok (.bool b) _ => b
  | _ => false
end Go.Proofs.YtadeojgiiapljaaGreat.Im
