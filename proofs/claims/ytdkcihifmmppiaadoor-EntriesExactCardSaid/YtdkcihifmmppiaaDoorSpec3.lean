/-
  Logs that are compacted, in plain lists.
-/
import Derived.Test.YtdkcihifmmppiaaDoorT3
import Derived.Test.YtdkcihifmmppiaaDoorSpec2
namespace Go.Ent
open Go.Vg

theorem endT_take {es : List Entry} {k : Nat} (t : Int) (h : k < es.length) : endT t (es.take (k + 1)) = es[k].term := by
  rw [take_one h]
  unfold endT
  rw [List.getLast?_concat]
theorem follow_tail {es : List Entry} {b t : Int} (hf : follow b t es = true) : ∀ k : Nat, k ≤ es.length → follow (b + k) (endT t (es.take k)) (es.drop k) = true
  | 0, _ => by simpa [endT] using hf
  | k + 1, h => by
    have ih := follow_tail hf k (by omega)
    rw [follow_drop (by omega)] at ih
    simp only [Bool.and_eq_true, decide_eq_true_eq] at ih
    rw [endT_take t (by omega), show b + ((k + 1 : Nat) : Int) = es[k].index by omega]
    exact ih.2
theorem good_term {e : Entry} (h : good e = true) : isTerm e.term = true := by
  unfold good at h
  exact (of_decide_eq_true h).2.2.1
theorem endT_drop {es : List Entry} (t : Int) (k : Nat) (_h : k ≤ es.length) : endT (endT t (es.take k)) (es.drop k) = endT t es := by
  have he : es = es.take k ++ es.drop k := (List.take_append_drop k es).symm
  rcases hd : es.drop k with _ | ⟨d, ds⟩
  · rw [hd, List.append_nil] at he
    rw [← he]
    rfl
  · rw [hd] at he
    obtain ⟨z, hz⟩ : ∃ z, (d :: ds).getLast? = some z := ⟨_, List.getLast?_eq_some_getLast (by simp)⟩
    have h2 : es.getLast? = some z := by
      rw [he, List.getLast?_append, hz]
      rfl
    unfold endT
    rw [hz, h2]
theorem termAt_take {b t : Int} {es : List Entry} (k : Nat) (h : k ≤ es.length) : termAt ⟨b, t, es⟩ (b + k) = some (endT t (es.take k)) := by
  have h1 : ¬ (b + (k : Int) < b ∨ b + (es.length : Int) < b + k) := by omega
  unfold termAt
  dsimp only
  rw [if_neg h1]
  rcases k with _ | k
  · rw [if_pos (by omega)]
    simp [endT]
  · rw [if_neg (by omega), endT_take t (by omega), show (b + ((k + 1 : Nat) : Int) - b - 1).toNat = k by omega, List.getD_eq_getElem?_getD, List.getElem?_eq_getElem (by omega)]
    rfl
theorem compact_may {b t i : Int} {es : List Entry} (hm : may ⟨b, t, es⟩ = true) (h1 : b < i) (h2 : i ≤ b + es.length) (h3 : i ≤ 1099511625728) :
    may ⟨i, (termAt ⟨b, t, es⟩ i).getD 0, es.drop (i - b).toNat⟩ = true ∧ endI i (es.drop (i - b).toNat) = endI b es ∧ endT ((termAt ⟨b, t, es⟩ i).getD 0) (es.drop (i - b).toNat) = endT t es := by
  obtain ⟨q1, q2, q3, q4, q5⟩ := may_le hm
  dsimp only at q1 q2 q3 q4 q5
  obtain ⟨k, rfl⟩ : ∃ k : Nat, i = b + k := ⟨(i - b).toNat, by omega⟩
  have hk : k ≤ es.length := by omega
  rw [termAt_take k hk, show (b + (k : Int) - b).toNat = k by omega]
  have hf := follow_tail q4 k hk
  refine ⟨?_, ?_, endT_drop t k hk⟩
  · have ht : isTerm (endT t (es.take k)) = true := by
      obtain ⟨j, rfl⟩ : ∃ j, k = j + 1 := ⟨k - 1, by omega⟩
      rw [endT_take t (by omega)]
      exact good_term (follow_get es b t q4 j (by omega)).2
    simp only [may, Option.getD_some, Bool.and_eq_true, decide_eq_true_eq, List.length_drop]
    exact ⟨⟨⟨⟨by omega, by omega⟩, ht⟩, by omega⟩, hf⟩
  · rw [q5, follow_end hf, List.length_drop]
    omega
end Go.Ent
