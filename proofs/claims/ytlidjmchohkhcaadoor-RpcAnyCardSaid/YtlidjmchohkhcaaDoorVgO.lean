/-
  Vg, part O: quotients, remainders, shifts.
-/
import Derived.Test.YtlidjmchohkhcaaDoorVgN
set_option linter.unusedVariables false
set_option linter.unusedSimpArgs false
set_option linter.unusedSectionVars false
namespace Go.Vg
open Go.RowKit
section
variable {P : Program} [HasTab P] {n : Nat} {K : St → Prop} {md : M} {gd : Option (Nat × Bool)}
variable {tm : Tm} {bx bx' : List Bx} {rw rw' : List Rw} {ck ck' : List (World × (Nat → Prop))}
variable {d : Tmp} {ty t e : TypeId} {pos : String} {af : Array Edge} {x y z : Operand} {v u : Value}
theorem VX.rem {k : IntKind} {a b : Int} {t' : TypeId} (hx : ev tm x = some (.int k a) := by rfl) (hy : ev tm y = some (.int k b) := by rfl) (hb : b ≠ 0 := by first | decide | omega) (hd : Nat.blt d n = true := by rfl)
    (h : K ⟨(d, .int k (a.tmod b)) :: tm, bx, rw, ck⟩) : VX P n md ⟨some d, .binOp .rem t x y t', ty, pos, af, gd⟩ ⟨tm, bx, rw, ck⟩ K :=
  VX.valU (fun _ hi w => by simp [execOp, hi.ev hx, hi.ev hy, eqGuard, binOp, Op.intDiv, hb]) hd h
theorem VX.quo {k : IntKind} {a b : Int} {t' : TypeId} (hx : ev tm x = some (.int k a) := by rfl) (hy : ev tm y = some (.int k b) := by rfl) (hb : b ≠ 0 := by first | decide | omega) (hd : Nat.blt d n = true := by rfl)
    (h : K ⟨(d, .int k (k.wrap (a.tdiv b))) :: tm, bx, rw, ck⟩) : VX P n md ⟨some d, .binOp .quo t x y t', ty, pos, af, gd⟩ ⟨tm, bx, rw, ck⟩ K :=
  VX.valU (fun _ hi w => by simp [execOp, hi.ev hx, hi.ev hy, eqGuard, binOp, Op.intDiv, hb]) hd h
theorem VX.shl {k k' : IntKind} {a b : Int} {t' : TypeId} (hx : ev tm x = some (.int k a) := by rfl) (hy : ev tm y = some (.int k' b) := by rfl) (hb : 0 ≤ b := by first | decide | omega) (hd : Nat.blt d n = true := by rfl)
    (h : K ⟨(d, .int k (k.wrap (a * 2 ^ (min b.toNat k.bits)))) :: tm, bx, rw, ck⟩) : VX P n md ⟨some d, .binOp .shl t x y t', ty, pos, af, gd⟩ ⟨tm, bx, rw, ck⟩ K :=
  VX.valU (fun _ hi w => by
    have hb' : ¬ b < 0 := by omega
    simp [execOp, hi.ev hx, hi.ev hy, eqGuard, binOp, Op.shift, hb']) hd h
theorem VX.shr {k k' : IntKind} {a b : Int} {t' : TypeId} (hx : ev tm x = some (.int k a) := by rfl) (hy : ev tm y = some (.int k' b) := by rfl) (hb : 0 ≤ b := by first | decide | omega) (hd : Nat.blt d n = true := by rfl)
    (h : K ⟨(d, .int k (a.fdiv (2 ^ (min b.toNat k.bits)))) :: tm, bx, rw, ck⟩) : VX P n md ⟨some d, .binOp .shr t x y t', ty, pos, af, gd⟩ ⟨tm, bx, rw, ck⟩ K :=
  VX.valU (fun _ hi w => by
    have hb' : ¬ b < 0 := by omega
    simp [execOp, hi.ev hx, hi.ev hy, eqGuard, binOp, Op.shift, hb']) hd h
end
end Go.Vg
