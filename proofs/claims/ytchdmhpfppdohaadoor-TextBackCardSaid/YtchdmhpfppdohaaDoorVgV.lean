/-
  Vg, part V: drawn regions in which several guarded operations may come next.
-/
import Derived.Test.YtchdmhpfppdohaaDoorVgN
set_option linter.unusedVariables false
set_option linter.unusedSectionVars false
namespace Go.Vg
open Go.RowKit
section
variable {P : Program} [HasTab P] {fn : Func} {R : Ending → World → Prop} {n : Nat} {Q : Cont} {ops : Array Oper} {bad : List Nat}
variable {tm : Tm} {bx : List Bx} {rw : List Rw} {ck : List (World × (Nat → Prop))} {σ τ : St}
variable {ty : TypeId} {pos : String} {af : Array Edge} {op : Op} {dd : Option Tmp}
/-- Whether an operation is taken. -/
def Wn (ops : Array Oper) (n : Nat) (tm : Tm) (o : Oper) (b : Bool) : Prop := ∀ a, TInv n tm a → Region.wanted o (yielded ops a.tmps) = b
def VGs (P : Program) (fn : Func) (R : Ending → World → Prop) (n : Nat) (ops : Array Oper) (bad : List Nat) (σ : St) (Q : Cont) : List (Nat × Plan) → Prop
  | [] => True
  | (i, p) :: ps => (∃ o, ops.toList[i]? = some o ∧ ((Wn ops n σ.tm o true ∧ VX P n (.x (grows ops bad i)) o σ fun τ => VP P fn R n ops bad p τ Q) ∨ (Wn ops n σ.tm o false ∧ dOk n o.dst = true ∧ VP P fn R n ops bad p ⟨putT o.dst undef σ.tm, σ.bx, σ.rw, σ.ck⟩ Q))) ∧ VGs P fn R n ops bad σ Q ps
theorem VGs.nil : VGs P fn R n ops bad σ Q [] := trivial
theorem VGs.cn {i : Nat} {p : Plan} {ps : List (Nat × Plan)} {o : Oper} {g : Bool} (ho : ops.toList[i]? = some o) (hg : o.guard = none) (hgr : grows ops bad i = g)
    (h : VX P n (.x g) o σ fun τ => VP P fn R n ops bad p τ Q) (hr : VGs P fn R n ops bad σ Q ps) : VGs P fn R n ops bad σ Q ((i, p) :: ps) := ⟨⟨o, ho, .inl ⟨fun a _ => by simp [Region.wanted, hg], hgr ▸ h⟩⟩, hr⟩
theorem VGs.ct {i j tg : Nat} {b g g' : Bool} {p : Plan} {ps : List (Nat × Plan)} (ho : ops.toList[i]? = some ⟨dd, op, ty, pos, af, some (j, b)⟩) (hj : gdst ops j = some tg) (hl : look tg σ.tm = some (.bool g)) (hg : g = b) (hgr : grows ops bad i = g')
    (h : VX P n (.x g') ⟨dd, op, ty, pos, af, some (j, b)⟩ σ fun τ => VP P fn R n ops bad p τ Q) (hr : VGs P fn R n ops bad σ Q ps) : VGs P fn R n ops bad σ Q ((i, p) :: ps) :=
  ⟨⟨_, ho, .inl ⟨fun a hi => by simp [Region.wanted, yielded_of (ops := ops) hj hl hi, hg], hgr ▸ h⟩⟩, hr⟩
theorem VGs.cf {i j tg : Nat} {b g : Bool} {p : Plan} {ps : List (Nat × Plan)} (ho : ops.toList[i]? = some ⟨dd, op, ty, pos, af, some (j, b)⟩) (hj : gdst ops j = some tg) (hl : look tg tm = some (.bool g)) (hg : g = !b) (hd : dOk n dd = true)
    (h : VP P fn R n ops bad p ⟨putT dd undef tm, bx, rw, ck⟩ Q) (hr : VGs P fn R n ops bad ⟨tm, bx, rw, ck⟩ Q ps) : VGs P fn R n ops bad ⟨tm, bx, rw, ck⟩ Q ((i, p) :: ps) :=
  ⟨⟨_, ho, .inr ⟨fun a hi => by simp [Region.wanted, yielded_of (ops := ops) hj hl hi, hg], hd, h⟩⟩, hr⟩
theorem VGs.cu {i j tg : Nat} {b : Bool} {p : Plan} {ps : List (Nat × Plan)} (ho : ops.toList[i]? = some ⟨dd, op, ty, pos, af, some (j, b)⟩) (hj : gdst ops j = some tg) (hl : look tg tm = some undef) (hd : dOk n dd = true)
    (h : VP P fn R n ops bad p ⟨putT dd undef tm, bx, rw, ck⟩ Q) (hr : VGs P fn R n ops bad ⟨tm, bx, rw, ck⟩ Q ps) : VGs P fn R n ops bad ⟨tm, bx, rw, ck⟩ Q ((i, p) :: ps) :=
  ⟨⟨_, ho, .inr ⟨fun a hi => by simp [Region.wanted, yielded_un (ops := ops) hj hl hi], hd, h⟩⟩, hr⟩
theorem VGs.get {fuel : Nat} {listed : Array Bool} : ∀ {ps : List (Nat × Plan)}, VGs P fn R n ops bad σ Q ps → okPlans ops bad fuel listed ps = true → ∀ i, (ps.any fun q => q.1 == i) = true →
    ∃ p o, ops[i]? = some o ∧ okPlan ops bad fuel (listed.setIfInBounds i true) p = true ∧ ((Wn ops n σ.tm o true ∧ VX P n (.x (grows ops bad i)) o σ fun τ => VP P fn R n ops bad p τ Q) ∨ (Wn ops n σ.tm o false ∧ dOk n o.dst = true ∧ VP P fn R n ops bad p ⟨putT o.dst undef σ.tm, σ.bx, σ.rw, σ.ck⟩ Q))
  | [], _, _, i, hi => by simp at hi
  | (j, p) :: ps, h, ho, i, hi => by
    simp only [okPlans, Bool.and_eq_true] at ho
    by_cases hji : j = i
    · subst hji
      obtain ⟨⟨o, h1, h3⟩, _⟩ := h
      exact ⟨p, o, by rw [← Array.getElem?_toList]; exact h1, ho.1, h3⟩
    · refine VGs.get h.2 ho.2 i ?_
      simpa [hji] using hi
theorem VP.allG {ps : List (Nat × Plan)} (h : VGs P fn R n ops bad ⟨tm, bx, rw, ck⟩ Q ps) : VP P fn R n ops bad (.all ps) ⟨tm, bx, rw, ck⟩ Q := fun hs fuel listed hok a w hi => by
  cases fuel with
  | zero => simp [okPlan] at hok
  | succ fuel =>
    simp only [okPlan, Bool.and_eq_true] at hok
    refine ⟨fun hr => by simp [hr] at hok, fun i hri => ?_⟩
    obtain ⟨p, o, h1, h3, h4⟩ := h.get hok.2 i (List.all_eq_true.1 hok.1.2 i hri)
    unfold wpOp
    rw [h1]
    simp only
    rcases h4 with ⟨hw, h4⟩ | ⟨hw, hd, h4⟩
    · rw [if_pos (hw a hi.toTInv)]
      left
      refine Oper.wp_false (Oper.wp_mono ?_ (h4 a w hi))
      rintro a' w' ⟨hb, τ, h5, h6⟩
      exact ⟨hb, h5 hs fuel _ h3 a' w' h6⟩
    · rw [if_neg (by rw [hw a hi.toTInv]; decide)]
      exact ⟨fun _ => Below.refl _ _, h4 hs fuel _ h3 _ w (put_inv hi hd)⟩
theorem VP.allT {i j tg : Nat} {b g : Bool} {p : Plan} {ps : List (Nat × Plan)} (ho : ops.toList[i]? = some ⟨dd, op, ty, pos, af, some (j, b)⟩) (hj : gdst ops j = some tg) (hl : look tg tm = some (.bool g)) (hg : g = b)
    (h : VGs P fn R n ops bad ⟨tm, bx, rw, ck⟩ Q ((i, p) :: ps)) : VP P fn R n ops bad (.all ((i, p) :: ps)) ⟨tm, bx, rw, ck⟩ Q := VP.allG h
theorem VP.allF {i j tg : Nat} {b g : Bool} {p : Plan} {ps : List (Nat × Plan)} (ho : ops.toList[i]? = some ⟨dd, op, ty, pos, af, some (j, b)⟩) (hj : gdst ops j = some tg) (hl : look tg tm = some (.bool g)) (hg : g = !b)
    (h : VGs P fn R n ops bad ⟨tm, bx, rw, ck⟩ Q ((i, p) :: ps)) : VP P fn R n ops bad (.all ((i, p) :: ps)) ⟨tm, bx, rw, ck⟩ Q := VP.allG h
theorem VP.allU {i j tg : Nat} {b : Bool} {p : Plan} {ps : List (Nat × Plan)} (ho : ops.toList[i]? = some ⟨dd, op, ty, pos, af, some (j, b)⟩) (hj : gdst ops j = some tg) (hl : look tg tm = some undef)
    (h : VGs P fn R n ops bad ⟨tm, bx, rw, ck⟩ Q ((i, p) :: ps)) : VP P fn R n ops bad (.all ((i, p) :: ps)) ⟨tm, bx, rw, ck⟩ Q := VP.allG h
end
end Go.Vg
