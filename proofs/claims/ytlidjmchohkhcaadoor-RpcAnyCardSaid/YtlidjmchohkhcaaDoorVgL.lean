/-
  Vg, part L: calls of entries without a body, methods found at run time, type assertions.
-/
import Derived.Test.YtlidjmchohkhcaaDoorVgK
import Derived.Laws.Externs
set_option linter.unusedVariables false
set_option linter.unusedSimpArgs false
set_option linter.unusedSectionVars false
namespace Go.Vg
open Go.RowKit
section
variable {P : Program} [HasTab P] {n : Nat} {K : St → Prop} {md : M} {gd : Option (Nat × Bool)}
variable {tm : Tm} {bx bx' : List Bx} {rw rw' : List Rw} {ck ck' : List (World × (Nat → Prop))}
variable {d : Tmp} {ty t e : TypeId} {pos : String} {af : Array Edge} {x y z : Operand} {v u : Value}

theorem run_callV {a : Act} {w : World} (hi : TInv n tm a) {f : Nat} {args : List Operand} {ts : Array TypeId} {vs : List Value} (hv : Evs tm args vs) (o : Option Tmp) :
    (execOp a.eval ⟨o, .call { callee := .value (.func f), args := args.toArray, argTypes := ts }, ty, pos, af, gd⟩).run P w = (callFunc f vs.toArray).run P w := by
  have h1 := hv.map hi
  have h3 : args.toArray.map a.eval = vs.toArray := by simp [h1]
  have h4 : a.eval (.func f) = .func (.func f) #[] #[] := rfl
  simp only [execOp, resolve, h3, h4]
  simp [Deferred.ofValue, invoke]

/-- An entry's answer; memory stays. -/
theorem VX.ext {f : Nat} {args : List Operand} {ts : Array TypeId} {vs : List Value} (hm : md.sees = true := by rfl)
    (hv : Evs tm args vs := by ((repeat' (guard_target =~ Evs _ _ _; first | exact Evs.nil | refine' Evs.cons rfl _)); fail_if_success refine ?_)) (hd : Nat.blt d n = true := by rfl)
    (hf : ∀ w, WInv ⟨tm, bx, rw, ck⟩ w → (callFunc f vs.toArray).run P w = .ok (.value v) w) (h : K ⟨(d, v) :: tm, bx, rw, ck⟩) :
    VX P n md ⟨some d, .call { callee := .value (.func f), args := args.toArray, argTypes := ts }, ty, pos, af, gd⟩ ⟨tm, bx, rw, ck⟩ K :=
  VX.val hm (fun a w hi => by rw [run_callV hi.toTInv hv]; exact hf w hi.w) hd h
/-- An entry that makes one block. -/
theorem VX.extN {g : Bool} {f : Nat} {args : List Operand} {ts : Array TypeId} {vs cs : List Value} {v : Nat → Value}
    (hv : Evs tm args vs := by ((repeat' (guard_target =~ Evs _ _ _; first | exact Evs.nil | refine' Evs.cons rfl _)); fail_if_success refine ?_)) (hd : Nat.blt d n = true := by rfl)
    (hf : ∀ w, WInv ⟨tm, bx, rw, ck⟩ w → (callFunc f vs.toArray).run P w = .ok (.value (v w.heap.size)) (w.alloc (.cells cs.toArray e))) (h : ∀ b, K ⟨(d, v b) :: tm, (b, cs, e) :: bx, rw, ck⟩) :
    VX P n (.x g) ⟨some d, .call { callee := .value (.func f), args := args.toArray, argTypes := ts }, ty, pos, af, gd⟩ ⟨tm, bx, rw, ck⟩ K := fun a w hi =>
  Oper.wp_of_run (by rw [run_callV hi.toTInv hv]; exact hf w hi.w) ⟨fun _ => (Below.refl _ _).alloc (Nat.le_refl _) _, _, h w.heap.size, (hi.world (hi.w.alloc cs e)).put d (blt_lt hd) _⟩
/-- An entry that turns a box. -/
theorem VX.extS {f : Nat} {args : List Operand} {ts : Array TypeId} {vs : List Value}
    (hv : Evs tm args vs := by ((repeat' (guard_target =~ Evs _ _ _; first | exact Evs.nil | refine' Evs.cons rfl _)); fail_if_success refine ?_)) (hd : Nat.blt d n = true := by rfl)
    (hf : ∀ w, WInv ⟨tm, bx, rw, ck⟩ w → ∃ w', (callFunc f vs.toArray).run P w = .ok (.value v) w' ∧ WInv ⟨tm, bx', rw, ck⟩ w') (h : K ⟨(d, v) :: tm, bx', rw, ck⟩) :
    VX P n (.x false) ⟨some d, .call { callee := .value (.func f), args := args.toArray, argTypes := ts }, ty, pos, af, gd⟩ ⟨tm, bx, rw, ck⟩ K :=
  VX.valw (fun a w hi => by
    obtain ⟨w', h1, h2⟩ := hf w hi.w
    exact ⟨w', by rw [run_callV hi.toTInv hv]; exact h1, fun h => (by cases h), h2⟩) hd h

theorem run_invV {a : Act} {w : World} (hi : TInv n tm a) {f : Nat} {r : Operand} {nm : String} {args : List Operand} {ts : Array TypeId} {vs : List Value} {u' : Value} (hr : ev tm r = some (.iface t u)) (hv : Evs tm args vs)
    (hm : (Go.method (P.types.size + Made.depth) t u nm).run P w = .ok (f, u') w) (o : Option Tmp) :
    (execOp a.eval ⟨o, .call { callee := .invoke r nm, args := args.toArray, argTypes := ts }, ty, pos, af, gd⟩).run P w = (callFunc f (u' :: vs).toArray).run P w := by
  have h1 := hv.map hi
  have h3 : args.toArray.map a.eval = vs.toArray := by simp [h1]
  have h4 := hi.ev hr
  simp only [execOp, resolve, h3, h4]
  simp only [Sem.run_bind, Sem.run_pure, Result.andThen_ok, invoke]
  simp [callMethod, hm]
/-- A method that is an entry. -/
theorem VX.inv {f : Nat} {r : Operand} {nm : String} {args : List Operand} {ts : Array TypeId} {vs : List Value} {u' : Value} (hm : md.sees = true := by rfl) (hr : ev tm r = some (.iface t u) := by rfl)
    (hv : Evs tm args vs := by ((repeat' (guard_target =~ Evs _ _ _; first | exact Evs.nil | refine' Evs.cons rfl _)); fail_if_success refine ?_)) (hd : Nat.blt d n = true := by rfl)
    (hk : ∀ w, (Go.method (P.types.size + Made.depth) t u nm).run P w = .ok (f, u') w)
    (hf : ∀ w, WInv ⟨tm, bx, rw, ck⟩ w → (callFunc f (u' :: vs).toArray).run P w = .ok (.value v) w) (h : K ⟨(d, v) :: tm, bx, rw, ck⟩) :
    VX P n md ⟨some d, .call { callee := .invoke r nm, args := args.toArray, argTypes := ts }, ty, pos, af, gd⟩ ⟨tm, bx, rw, ck⟩ K :=
  VX.val hm (fun a w hi => by rw [run_invV hi.toTInv hr hv (hk w)]; exact hf w hi.w) hd h
/-- A method of the program. -/
theorem VX.invF {g : Bool} {f : Nat} {r : Operand} {nm : String} {args : List Operand} {ts : Array TypeId} {vs : List Value} {u' : Value} {dd : Option Tmp} (hr : ev tm r = some (.iface t u) := by rfl)
    (hv : Evs tm args vs := by ((repeat' (guard_target =~ Evs _ _ _; first | exact Evs.nil | refine' Evs.cons rfl _)); fail_if_success refine ?_)) (hF : nmem f (HasTab.F P) = true := by rfl) (hd : dOk n dd = true := by rfl)
    (hk : ∀ w, (Go.method (P.types.size + Made.depth) t u nm).run P w = .ok (f, u') w)
    (hc : ∀ w, WInv ⟨tm, bx, rw, ck⟩ w → Calls P f (u' :: vs).toArray w (Ret w v)) (h : K ⟨putT dd v tm, bx, rw, ck⟩) :
    VX P n (.x g) ⟨dd, .call { callee := .invoke r nm, args := args.toArray, argTypes := ts }, ty, pos, af, gd⟩ ⟨tm, bx, rw, ck⟩ K := fun a w hi => by
  unfold Oper.wp
  rw [run_invV hi.toTInv hr hv (hk w), run_callFunc hF]
  refine (hc w hi.w).mono ?_
  rintro e w' ⟨rfl, hb⟩
  have h3 := (hi.world (hi.w.below hb))
  cases dd with
  | none => exact ⟨fun _ => hb, _, h, h3⟩
  | some d => exact ⟨fun _ => hb, _, h, h3.put d (blt_lt hd) _⟩
theorem VX.assert {xt at_ : TypeId} (hx : ev tm x = some u := by rfl) (hf : ∀ w, (Instr.typeAssert u xt at_ true).run P w = .ok v w) (hd : Nat.blt d n = true := by rfl) (h : K ⟨(d, v) :: tm, bx, rw, ck⟩) :
    VX P n md ⟨some d, .typeAssert x xt at_ true, ty, pos, af, gd⟩ ⟨tm, bx, rw, ck⟩ K :=
  VX.valU (fun a hi w => by simp [execOp, hi.ev hx, hf w]) hd h
/-- One cell that is known some other way. -/
theorem VX.loadC {A : Addr} {i : TI} (hm : md.sees = true := by rfl) (hx : ev tm x = some (.pointer (some A)) := by rfl) (ht : Ty P t i := by rfl) (hg : isAggD i.d = false := by rfl) (hc : ∀ w, WInv ⟨tm, bx, rw, ck⟩ w → w.cell? A = some v) (hd : Nat.blt d n = true := by rfl)
    (h : K ⟨(d, v) :: tm, bx, rw, ck⟩) : VX P n md ⟨some d, .load t x, ty, pos, af, gd⟩ ⟨tm, bx, rw, ck⟩ K :=
  VX.val hm (fun a w hi => by
    have := run_load1 ht hg (hc w hi.w)
    simp [execOp, hi.ev hx, this]) hd h
theorem VX.nilCheck {A : Addr} (hx : ev tm x = some (.pointer (some A)) := by rfl) (hd : Nat.blt d n = true := by rfl) (h : K ⟨(d, .pointer (some A)) :: tm, bx, rw, ck⟩) :
    VX P n md ⟨some d, .nilCheck x, ty, pos, af, gd⟩ ⟨tm, bx, rw, ck⟩ K :=
  VX.valU (fun a hi w => by simp [execOp, hi.ev hx]) hd h
end
end Go.Vg
