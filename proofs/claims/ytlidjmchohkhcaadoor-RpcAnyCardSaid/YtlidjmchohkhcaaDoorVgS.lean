/-
  Vg, part S: paths that meet; a new row or an error.
-/
import Derived.Test.YtlidjmchohkhcaaDoorVgR
import Derived.Test.YtlidjmchohkhcaaDoorFail
set_option linter.unusedVariables false
set_option linter.unusedSectionVars false
namespace Go.Vg
open Go.RowKit

/-- Where paths meet: one of the states 'S' stands. -/
def joinQ {ι : Type} (n : Nat) (S : ι → St) (ok : ι → Prop) (Q : Cont) : Cont
  | .normal, σ => ∃ i, Weak n σ (S i) ∧ ok i
  | e, σ => Q e σ
section
variable {P : Program} {fn : Func} {R : Ending → World → Prop} {n : Nat} {Q : Cont} {σ : St} {x y : Code} {i : Nat}
theorem V.join {ι : Type} (S : ι → St) (ok : ι → Prop) (h : V P fn R n x σ (joinQ n S ok Q)) (h2 : ∀ i, ok i → V P fn R n y (S i) Q) : V P fn R n (.seq x y) σ Q := fun a w hi => by
  refine wp_seq (wp_mono (h a w hi) fun e a w ho => ?_)
  cases e with
  | normal => obtain ⟨τ, ⟨i, h3, h4⟩, h5⟩ := ho; exact h2 i h4 a w (h3 a w h5)
  | exit i => exact ho
  | ret => exact ho
  | goto l => exact ho
  | panic c => exact ho
  | outgrown => exact ho
theorem joinQ_exit {ι : Type} {S : ι → St} {ok : ι → Prop} (h : Q (.exit i) σ) : joinQ n S ok Q (.exit i) σ := h
theorem joinQ_to {ι : Type} {S : ι → St} {ok : ι → Prop} (y : ι)
    (hs : Weak n σ (S y) := by exact Weak.mk (by ((repeat' (guard_target =~ TmSub _ _; first | exact TmSub.nil | refine' TmSub.cons rfl _)); fail_if_success refine ?_)) (by ((repeat' (guard_target =~ BxSub _ _; first | exact BxSub.nil | exact BxSub.all | (guard_target =~ BxSub _ (_ :: _); refine' BxSub.cons (by ((repeat' (guard_target =~ BxDel _ _ _ _ _; first | exact BxDel.head | refine' BxDel.tail _)); fail_if_success refine ?_)) _) | refine' BxSub.skip _)); fail_if_success refine ?_)) (by ((repeat' (guard_target =~ RwSub _ _; first | exact RwSub.nil | exact RwSub.all | refine' RwSub.nilr _ | (guard_target =~ RwSub _ (_ :: _); refine' RwSub.cons (by ((repeat' (guard_target =~ RwDel _ _ _; first | exact RwDel.head | refine' RwDel.tail _)); fail_if_success refine ?_)) (by first | rfl | assumption | simp) _))); fail_if_success refine ?_)) (by ((repeat' (guard_target =~ CkSub _ _; first | exact CkSub.nil | refine' CkSub.cons (by ((repeat' (guard_target =~ CkAt _ _ _; first | exact CkAt.head | refine' CkAt.tail _)); fail_if_success refine ?_)) _)); fail_if_success refine ?_)))
    (h2 : ok y) : joinQ n S ok Q .normal σ := ⟨y, hs, h2⟩
end
section
open Go.Err
variable {P : Program} [HasTab P] {n : Nat} {K : St → Prop} {md : M} {gd : Option (Nat × Bool)}
variable {tm : Tm} {bx bx' : List Bx} {rw rw' : List Rw} {ck ck' : List (World × (Nat → Prop))}
variable {d : Tmp} {ty t e : TypeId} {pos : String} {af : Array Edge} {x y z : Operand} {v u : Value}
/-- What a callee hands back that gives a new row, or none and an error. -/
def RowErr {α : Type} (enc : α → List Value) (e : TypeId) (sz : Nat) (F : Value → Value → Value) (es : List α) (code : Int) (w : World) (v : Value) (w' : World) : Prop :=
  ∃ q ev, v = F q ev ∧ (ev = .nilIface ∧ code = 0 ∧ NewRow w e sz q es.length (es.flatMap enc) w' ∨ q = .slice none 0 0 ∧ es = [] ∧ ErrV w' (Fresh w w') ev code)
theorem VX.callRE {g : Bool} {α : Type} {enc : α → List Value} {f : Nat} {args : List Operand} {ts : Array TypeId} {vs : List Value} {sz : Nat} {F : Value → Value → Value} {es : List α} {code : Int} {dd : Option Tmp}
    (hv : Evs tm args vs := by ((repeat' (guard_target =~ Evs _ _ _; first | exact Evs.nil | refine' Evs.cons rfl _)); fail_if_success refine ?_)) (hF : nmem f (HasTab.F P) = true := by rfl) (hd : dOk n dd = true := by rfl)
    (hc : ∀ w, WInv ⟨tm, bx, rw, ck⟩ w → Calls P f vs.toArray w (RetP w (RowErr enc e sz F es code w)))
    (h : ∀ A c ev w2 S, ErrV w2 S ev code → K ⟨putT dd (F (.slice A es.length c) ev) tm, bx, ⟨.slice A es.length c, e, sz, es.length, es.flatMap enc⟩ :: rw, (w2, S) :: ck⟩) :
    VX P n (.x g) ⟨dd, .call { callee := .value (.func f), args := args.toArray, argTypes := ts }, ty, pos, af, gd⟩ ⟨tm, bx, rw, ck⟩ K :=
  VX.callG (ζ := Value × World × (Nat → Prop)) (fun z => (bx, ⟨z.1, e, sz, es.length, es.flatMap enc⟩ :: rw, (z.2.1, z.2.2) :: ck)) (fun v z => ∃ ev A c, v = F z.1 ev ∧ z.1 = .slice A es.length c ∧ ErrV z.2.1 z.2.2 ev code) hv hF hd
    (fun w hw => (hc w hw).mono fun e' w' ⟨v, he, ⟨q, ev, hval, hr⟩, hb⟩ => by
      rcases hr with ⟨rfl, rfl, hn⟩ | ⟨rfl, rfl, herr⟩
      · obtain ⟨A, c, rfl⟩ := own_form hn.1
        exact ⟨v, (.slice A es.length c, w', fun _ => False), he, ⟨.nilIface, A, c, hval, rfl, .inl ⟨rfl, rfl⟩⟩, fun _ => hb, (hw.row hb hn.1 hn.2).check (fun _ => False) (fun _ h => h.elim) (fun _ _ _ _ h => h)⟩
      · exact ⟨v, (.slice none 0 0, w', Fresh w w'), he, ⟨ev, none, 0, hval, rfl, herr⟩, fun _ => hb, (hw.fresh hb).nilrow e sz⟩)
    (by rintro v ⟨q, w2, S⟩ ⟨ev, A, c, rfl, hq, he⟩; simp only at hq he; subst hq; exact h A c ev w2 S he)
end
end Go.Vg
