/-
  Vg, part K: loops with their small goals closed.
-/
import Derived.Test.YtlidjmchohkhcaaDoorVgJ
set_option linter.unusedVariables false
set_option linter.unusedSimpArgs false
set_option linter.unusedSectionVars false
namespace Go.Vg
open Go.RowKit
section
variable {P : Program} {fn : Func} {R : Ending → World → Prop} {n : Nat} {Q : Cont} {ops : Array Oper} {rest : List Oper} {x y : Code} {c : Code} {σ : St}
theorem V.loopA {ι : Type} (S : ι → St) (ok : ι → Prop) (μ : ι → Nat) (x0 : ι)
    (hs : Weak n σ (S x0) := by exact Weak.mk (by ((repeat' (guard_target =~ TmSub _ _; first | exact TmSub.nil | refine' TmSub.cons rfl _)); fail_if_success refine ?_)) (by ((repeat' (guard_target =~ BxSub _ _; first | exact BxSub.nil | exact BxSub.all | (guard_target =~ BxSub _ (_ :: _); refine' BxSub.cons (by ((repeat' (guard_target =~ BxDel _ _ _ _ _; first | exact BxDel.head | refine' BxDel.tail _)); fail_if_success refine ?_)) _) | refine' BxSub.skip _)); fail_if_success refine ?_)) (by ((repeat' (guard_target =~ RwSub _ _; first | exact RwSub.nil | exact RwSub.all | refine' RwSub.nilr _ | (guard_target =~ RwSub _ (_ :: _); refine' RwSub.cons (by ((repeat' (guard_target =~ RwDel _ _ _; first | exact RwDel.head | refine' RwDel.tail _)); fail_if_success refine ?_)) (by first | rfl | assumption | simp) _))); fail_if_success refine ?_)) (by ((repeat' (guard_target =~ CkSub _ _; first | exact CkSub.nil | refine' CkSub.cons (by ((repeat' (guard_target =~ CkAt _ _ _; first | exact CkAt.head | refine' CkAt.tail _)); fail_if_success refine ?_)) _)); fail_if_success refine ?_)))
    (h0 : ok x0) (hr : ∀ x, ok x → V P fn R n c (S x) (loopQ n S ok μ x Q)) : V P fn R n (.loop c) σ Q := V.loop S ok μ x0 hs h0 hr
theorem loopQ_to {ι : Type} {S : ι → St} {ok : ι → Prop} {μ : ι → Nat} {x : ι} (y : ι)
    (hs : Weak n σ (S y) := by exact Weak.mk (by ((repeat' (guard_target =~ TmSub _ _; first | exact TmSub.nil | refine' TmSub.cons rfl _)); fail_if_success refine ?_)) (by ((repeat' (guard_target =~ BxSub _ _; first | exact BxSub.nil | exact BxSub.all | (guard_target =~ BxSub _ (_ :: _); refine' BxSub.cons (by ((repeat' (guard_target =~ BxDel _ _ _ _ _; first | exact BxDel.head | refine' BxDel.tail _)); fail_if_success refine ?_)) _) | refine' BxSub.skip _)); fail_if_success refine ?_)) (by ((repeat' (guard_target =~ RwSub _ _; first | exact RwSub.nil | exact RwSub.all | refine' RwSub.nilr _ | (guard_target =~ RwSub _ (_ :: _); refine' RwSub.cons (by ((repeat' (guard_target =~ RwDel _ _ _; first | exact RwDel.head | refine' RwDel.tail _)); fail_if_success refine ?_)) (by first | rfl | assumption | simp) _))); fail_if_success refine ?_)) (by ((repeat' (guard_target =~ CkSub _ _; first | exact CkSub.nil | refine' CkSub.cons (by ((repeat' (guard_target =~ CkAt _ _ _; first | exact CkAt.head | refine' CkAt.tail _)); fail_if_success refine ?_)) _)); fail_if_success refine ?_)))
    (h2 : ok y) (h3 : μ y < μ x) : loopQ n S ok μ x Q .normal σ := loopQ_next y hs h2 h3
end
end Go.Vg
