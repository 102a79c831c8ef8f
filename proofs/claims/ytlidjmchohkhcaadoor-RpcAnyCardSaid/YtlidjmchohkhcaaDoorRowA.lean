/-
  From a row's data to views.
-/
import Derived.Test.YtlidjmchohkhcaaDoorVgM
import Derived.ChangeArms
import Derived.DataReads
import Derived.ChangeOld
set_option linter.unusedVariables false
namespace Go.Vg
open Go.RowKit
section
variable {H : Type} {he : TypeId × Value → H} {P : Program} {w : World} {base : Nat} {spare : Nat → Bool} {held : Bool} {fuel : Nat} {t e : TypeId} {cs : List Value} {x : DataW H × List MemPlace}

theorem view_of_trod {α : Type} [Inhabited α] {enc : α → List Value} {sz : Nat} (ht : P.underlying t = some (.slice e)) (hsz : P.cellsOf e = sz) (h0 : 0 < sz) (hok : EncOk enc sz) (Q : α → Prop)
    (hel : ∀ n cs y, DataW.trod he P w base spare held n e cs = some y → ∃ x, cs = enc x ∧ Q x)
    (h : DataW.trod he P w base spare held fuel t cs = some x) : ∃ A m c xs, cs = [.slice A m c] ∧ View enc sz w (Low w) A m xs ∧ m ≤ c ∧ ∀ x ∈ xs, Q x := by
  rcases DataW.trod_slice ht h with ⟨rfl, _⟩ | ⟨a, len, cap, elems, rest, n, _, rfl, _, hb, hl, hm, hlen, hget, _, _⟩
  · exact ⟨none, 0, 0, [], rfl, View.nil_ hok, Nat.le_refl _, fun x hx => by simp at hx⟩
  · have h1 : ∀ i : Fin len, ∃ x, w.cells? base (a.add (i.1 * sz)) sz = some (enc x) ∧ Q x := fun i => by
      have h2 := hget i.1 i.2
      rw [hsz] at h2
      rw [List.getElem?_eq_getElem (by omega), Option.bind_eq_some_iff] at h2
      obtain ⟨cs', h3, h4⟩ := h2
      obtain ⟨x, rfl, hq⟩ := hel _ _ _ h4
      exact ⟨x, h3, hq⟩
    let f : Fin len → α := fun i => Classical.choose (h1 i)
    have hf : ∀ i, w.cells? base (a.add (i.1 * sz)) sz = some (enc (f i)) ∧ Q (f i) := fun i => Classical.choose_spec (h1 i)
    refine ⟨some a, len, cap, List.ofFn f, rfl, ⟨hok, by simp, by simp only [maxLen] at hm; omega, fun hn => ⟨a, rfl, ?_, fun k hk j u hu => ?_⟩⟩, hl, fun x hx => ?_⟩
    · have hn : 0 < len := by simpa using hn
      have := World.cells?_block (hf ⟨0, hn⟩).1 h0
      simpa [Low, block_add] using this
    · have hk' : k < len := by simpa using hk
      rw [List.getElem_ofFn] at hu
      obtain ⟨_, _, h5⟩ := World.cells?_some (hf ⟨k, hk'⟩).1
      have hj : j < sz := by
        have := (List.getElem?_eq_some_iff.1 hu).1
        rwa [hok.len] at this
      rw [h5 j hj, hu]
    · obtain ⟨i, rfl⟩ := List.mem_ofFn.1 hx
      exact (hf i).2
end
end Go.Vg
