/-
  Vg, part Y: an error's value that lies in one of the check points.
-/
import Derived.Test.YtlidjmchohkhcaaDoorVgX
import Derived.Test.YtlidjmchohkhcaaDoorFail
set_option linter.unusedVariables false
set_option linter.unusedSectionVars false
namespace Go.Err
open Go.Proofs Go.RowKit Go.Vg
/-- No error, or a fault with a number, in one of the check points. -/
def ErrIn (ck : List (World × (Nat → Prop))) (v : Value) (e : Int) : Prop := (v = .nilIface ∧ e = 0) ∨ (e ≠ 0 ∧ ∃ c S, CkAt ck c S ∧ ErrV c S v e)
theorem ErrIn.nil_ (ck : List (World × (Nat → Prop))) : ErrIn ck .nilIface 0 := .inl ⟨rfl, rfl⟩
theorem ErrIn.tail {ck : List (World × (Nat → Prop))} {v : Value} {e : Int} (h : ErrIn ck v e) (x : World × (Nat → Prop)) : ErrIn (x :: ck) v e := by
  rcases h with h | ⟨h0, c, S, hc, hv⟩
  · exact .inl h
  · exact .inr ⟨h0, c, S, CkAt.tail hc, hv⟩
theorem ErrIn.head {ck : List (World × (Nat → Prop))} {c : World} {S : Nat → Prop} {v : Value} {e : Int} (h0 : e ≠ 0) (h : ErrV c S v e) : ErrIn ((c, S) :: ck) v e := .inr ⟨h0, c, S, CkAt.head, h⟩
theorem ErrIn.zero {ck : List (World × (Nat → Prop))} {v : Value} {e : Int} (h : ErrIn ck v e) (h0 : e = 0) : v = .nilIface := by
  rcases h with h | ⟨h1, _⟩
  · exact h.1
  · exact absurd h0 h1
theorem ErrV.face {w : World} {S : Nat → Prop} {v : Value} {e : Int} (h : ErrV w S v e) (he : e ≠ 0) : ∃ f, v = .iface 79 (.pointer (some f)) := by
  rcases h with h | ⟨f, _, h, _⟩
  · exact absurd h.2 he
  · exact ⟨f, h⟩
theorem ErrIn.face {ck : List (World × (Nat → Prop))} {v : Value} {e : Int} (h : ErrIn ck v e) (h0 : e ≠ 0) : ∃ f, v = .iface 79 (.pointer (some f)) := by
  rcases h with h | ⟨_, c, S, _, hv⟩
  · exact absurd h.2 h0
  · exact hv.face h0
theorem ErrIn.vl {v : Value} {e : Int} {σ : St} {w : World} (h : ErrIn σ.ck v e) (hw : WInv σ w) : ErrV w (Low w) v e := by
  rcases h with ⟨rfl, rfl⟩ | ⟨_, c, S, hc, hv⟩
  · exact ErrV.nil_ _ _
  · exact hv.vl hw hc
/-- Check points more. -/
def Grows (ck' ck : List (World × (Nat → Prop))) : Prop := ∃ nk, ck' = nk ++ ck
theorem Grows.refl (ck : List (World × (Nat → Prop))) : Grows ck ck := ⟨[], rfl⟩
theorem Grows.one (x : World × (Nat → Prop)) (ck : List (World × (Nat → Prop))) : Grows (x :: ck) ck := ⟨[x], rfl⟩
theorem Grows.trans {a b c : List (World × (Nat → Prop))} (h : Grows a b) (k : Grows b c) : Grows a c := by
  obtain ⟨x, rfl⟩ := h
  obtain ⟨y, rfl⟩ := k
  exact ⟨x ++ y, by rw [List.append_assoc]⟩
theorem Grows.at_ {a b : List (World × (Nat → Prop))} (h : Grows a b) {c : World} {S : Nat → Prop} (k : CkAt b c S) : CkAt a c S := by
  obtain ⟨x, rfl⟩ := h
  induction x with
  | nil => exact k
  | cons y l ih => exact CkAt.tail ih
theorem ErrIn.grow {a b : List (World × (Nat → Prop))} (g : Grows a b) {v : Value} {e : Int} (h : ErrIn b v e) : ErrIn a v e := by
  rcases h with h | ⟨h0, c, S, hc, hv⟩
  · exact .inl h
  · exact .inr ⟨h0, c, S, g.at_ hc, hv⟩
end Go.Err
