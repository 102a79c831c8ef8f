/-
  What the functions on logs answer, in plain lists.
-/
import Derived.Test.YtdkcihifmmppiaaDoorT4
namespace Go.Ent
open Go.Vg

theorem follow_get : ∀ (es : List Entry) (b t : Int), follow b t es = true → ∀ k (h : k < es.length), es[k].index = b + k + 1 ∧ good es[k] = true
  | [], b, t, _, k, h => absurd h (by simp)
  | e :: es, b, t, hf, 0, h => by
    simp only [follow, Bool.and_eq_true, decide_eq_true_eq] at hf
    simp only [List.getElem_cons_zero]
    exact ⟨by omega, hf.1.1.1⟩
  | e :: es, b, t, hf, k + 1, h => by
    simp only [follow, Bool.and_eq_true, decide_eq_true_eq] at hf
    have := follow_get es e.index e.term hf.2 k (by simpa using h)
    simp only [List.getElem_cons_succ]
    exact ⟨by omega, this.2⟩
theorem follow_end {es : List Entry} {b t : Int} (hf : follow b t es = true) : endI b es = b + es.length := by
  rcases Nat.eq_zero_or_pos es.length with h | h
  · rw [List.eq_nil_of_length_eq_zero h]
    simp [endI]
  · rw [endI_get b es (es.length - 1) (by omega), (follow_get es b t hf (es.length - 1) (by omega)).1]
    omega
theorem may_le {l : Log} (h : may l = true) : 0 ≤ l.base ∧ l.base ≤ 1099511625728 ∧ l.es.length ≤ 512 ∧ follow l.base l.bterm l.es = true ∧ endI l.base l.es = l.base + l.es.length := by
  simp only [may, Bool.and_eq_true, decide_eq_true_eq] at h
  exact ⟨by omega, by omega, by omega, h.2, follow_end h.2⟩

/-- The term of an index of a log that may be. -/
def termAt (l : Log) (i : Int) : Option Int := if i < l.base ∨ l.base + l.es.length < i then none else if i = l.base then some l.bterm else some (l.es.getD (i - l.base - 1).toNat default).term
def appendS (l : Log) (es : List Entry) : Except Int Log :=
  if follow (endI l.base l.es) (endT l.bterm l.es) es = false then .error 1 else if 512 < l.es.length + es.length then .error 9 else .ok { l with es := l.es ++ es }
theorem may0 : may ⟨0, 0, []⟩ = true := by rfl
theorem app0 : appendS ⟨0, 0, []⟩ [⟨1, 1, 0, ⟨#[]⟩⟩] = .ok ⟨0, 0, [⟨1, 1, 0, ⟨#[]⟩⟩]⟩ := by rfl
end Go.Ent
