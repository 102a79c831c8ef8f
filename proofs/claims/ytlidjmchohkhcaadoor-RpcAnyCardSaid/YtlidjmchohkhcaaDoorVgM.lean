/-
  Vg, part M: an operation whose guard itself was left out.
-/
import Derived.Test.YtlidjmchohkhcaaDoorVgL
set_option linter.unusedVariables false
set_option linter.unusedSimpArgs false
set_option linter.unusedSectionVars false
namespace Go.Vg
open Go.RowKit
section
variable {P : Program} {fn : Func} {R : Ending → World → Prop} {n : Nat} {Q : Cont} {ops : Array Oper} {rest : List Oper}
variable {tm tm' : Tm} {bx bx' bx1 : List Bx} {rw rw' rw1 : List Rw} {ck ck' : List (World × (Nat → Prop))} {σ : St}
variable {ty : TypeId} {pos : String} {af : Array Edge} {op : Op} {dd : Option Tmp}
theorem yielded_un {j tg : Nat} (hj : gdst ops j = some tg) (hl : look tg tm = some undef) {a : Act} (hi : TInv n tm a) : yielded ops a.tmps j = none := by
  have ht := hi.tm tg _ hl
  unfold gdst at hj
  rw [Array.getElem?_toList] at hj
  unfold yielded
  cases ho : ops[j]? with
  | none => simp [ho] at hj
  | some o' =>
    simp only [ho] at hj
    simp [hj, ht, undef]
theorem VO.gSkipUn {j tg : Nat} {b : Bool} (hj : gdst ops j = some tg := by rfl) (hl : look tg tm = some undef := by rfl) (hd : dOk n dd = true := by rfl)
    (h : VO P fn R n ops rest ⟨putT dd undef tm, bx, rw, ck⟩ Q) : VO P fn R n ops (⟨dd, op, ty, pos, af, some (j, b)⟩ :: rest) ⟨tm, bx, rw, ck⟩ Q := fun a w hi => by
  have hy := yielded_un (ops := ops) hj hl hi.toTInv
  unfold wpList
  rw [if_neg (by simp [Region.wanted, hy])]
  cases dd with
  | none => exact h a w hi
  | some d => exact h _ w (hi.put d (blt_lt hd) undef)
end
end Go.Vg
