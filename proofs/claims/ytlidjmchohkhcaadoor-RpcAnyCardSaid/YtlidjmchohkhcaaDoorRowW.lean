/-
  From a row's data to views, with what each slice and string takes at most.
-/
import Derived.Test.YtlidjmchohkhcaaDoorRowA
import Derived.SizedLaws
set_option linter.unusedVariables false
namespace Go.Vg
open Go.RowKit
section
variable {H : Type} {he : TypeId × Value → H} {P : Program} {w : World} {base : Nat} {spare : Nat → Bool} {held : Bool} {fuel : Nat} {t e : TypeId} {cs : List Value} {x : DataW H × List MemPlace}
def Wt (P : Program) (t : TypeId) (d : DataW H) : Prop := ∀ n ∈ d.weights P t, n ≤ reachBytes
theorem mem_weightsAll {P : Program} {e : TypeId} : ∀ {l : List (DataW H)} {d : DataW H} {n : Nat}, d ∈ l → n ∈ d.weights P e → n ∈ DataW.weightsAll P e l
  | a :: l, d, n, hd, hn => by
    rw [DataW.weightsAll, List.mem_append]
    rcases List.mem_cons.1 hd with rfl | hd
    · exact .inl hn
    · exact .inr (mem_weightsAll hd hn)
theorem Wt.slice (ht : P.underlying t = some (.slice e)) {l r : List (DataW H)} (h : Wt P t (.slice l r)) : (l.length + r.length) * P.bytesOf e ≤ reachBytes ∧ ∀ d ∈ l, Wt P e d := by
  unfold Wt at *
  simp only [DataW.weights, ht] at h
  exact ⟨h _ List.mem_cons_self, fun d hd n hn => h n (List.mem_cons_of_mem _ (List.mem_append_left _ (mem_weightsAll hd hn)))⟩
theorem Wt.struct_ {fs : Array Field} (ht : P.underlying t = some (.struct fs)) {l : List (DataW H)} (h : Wt P t (.agg l)) {i : Nat} {f : Field} {d : DataW H} (hf : fs[i]? = some f) (hd : l[i]? = some d) : Wt P f.type d := by
  unfold Wt at *
  simp only [DataW.weights, ht] at h
  exact fun n hn => h n (DataW.weights_mem_each (j := i) (by simp [hf]) hd n hn)
theorem Wt.string_ {b : List UInt8} (h : Wt P t (.lit (.string b) : DataW H)) : b.length ≤ reachBytes := h _ (by simp [DataW.weights])

theorem view_of_trodW {α : Type} [Inhabited α] {enc : α → List Value} {sz bt : Nat} (ht : P.underlying t = some (.slice e)) (hsz : P.cellsOf e = sz) (hbt : P.bytesOf e = bt) (h0 : 0 < sz) (hok : EncOk enc sz) (Q : α → Prop)
    (hel : ∀ n cs y, DataW.trod he P w base spare held n e cs = some y → Wt P e y.1 → ∃ x, cs = enc x ∧ Q x)
    (h : DataW.trod he P w base spare held fuel t cs = some x) (hw : Wt P t x.1) : ∃ A m c xs, cs = [.slice A m c] ∧ View enc sz w (Low w) A m xs ∧ m ≤ c ∧ m * bt ≤ reachBytes ∧ ∀ x ∈ xs, Q x := by
  rcases DataW.trod_slice ht h with ⟨rfl, _⟩ | ⟨a, len, cap, elems, rest, n, _, rfl, hx, hb, hl, hm, hlen, hget, _, _⟩
  · exact ⟨none, 0, 0, [], rfl, View.nil_ hok, Nat.le_refl _, by simp, fun x hx => by simp at hx⟩
  · rw [hx] at hw
    obtain ⟨hw1, hw2⟩ := hw.slice ht
    have h1 : ∀ i : Fin len, ∃ x, w.cells? base (a.add (i.1 * sz)) sz = some (enc x) ∧ Q x := fun i => by
      have h2 := hget i.1 i.2
      rw [hsz] at h2
      rw [List.getElem?_eq_getElem (by omega), Option.bind_eq_some_iff] at h2
      obtain ⟨cs', h3, h4⟩ := h2
      obtain ⟨x, rfl, hq⟩ := hel _ _ _ h4 (hw2 _ (List.mem_map_of_mem (List.getElem_mem _)))
      exact ⟨x, h3, hq⟩
    let f : Fin len → α := fun i => Classical.choose (h1 i)
    have hf : ∀ i, w.cells? base (a.add (i.1 * sz)) sz = some (enc (f i)) ∧ Q (f i) := fun i => Classical.choose_spec (h1 i)
    refine ⟨some a, len, cap, List.ofFn f, rfl, ⟨hok, by simp, by simp only [maxLen] at hm; omega, fun hn => ⟨a, rfl, ?_, fun k hk j u hu => ?_⟩⟩, hl, ?_, fun x hx => ?_⟩
    · have hn : 0 < len := by simpa using hn
      have := World.cells?_block (hf ⟨0, hn⟩).1 h0
      simpa [Low, block_add] using this
    · have hk' : k < len := by simpa using hk
      rw [List.getElem_ofFn] at hu
      obtain ⟨_, _, h5⟩ := World.cells?_some (hf ⟨k, hk'⟩).1
      have hj : j < sz := by
        have := (List.getElem?_eq_some_iff.1 hu).1
        rwa [hok.len] at this
      rw [h5 j hj, hu]
    · rw [List.length_map, hbt] at hw1
      refine Nat.le_trans (Nat.mul_le_mul_right _ ?_) hw1
      omega
    · obtain ⟨i, rfl⟩ := List.mem_ofFn.1 hx
      exact (hf i).2
end
end Go.Vg
