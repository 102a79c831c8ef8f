/-
  What the three listed variables hold when a law of texts begins.
-/
import Derived.Test.YtchdmhpfppdohaaDoorLaid
import Derived.Test.YtchdmhpfppdohaaDoorX7
import Derived.Lib.LaidU8T
import Derived.Lib.LaidIn
namespace Go.Tx
open Go.Proofs Go.ChangeShapes Go.WideShapes Go.RowKit Go.Vg Go.Err Go.Proofs.YtchdmhpfppdohaaDoor
set_option maxRecDepth 100000
abbrev laid3 : List (String × DataW Unit) := [("unicode/utf8.acceptRanges", Rows.laid_unicode_utf8_acceptRanges), ("errors.errorType", Rows.laid_errors_errorType), ("unicode/utf8.first", Rows.laid_unicode_utf8_first)]
theorem parts3 {W : World} (h : laidMetH Tryd.prog laid3 W) : laidMet Tryd.prog [("unicode/utf8.acceptRanges", Rows.laid_unicode_utf8_acceptRanges), ("unicode/utf8.first", Rows.laid_unicode_utf8_first)] W ∧ handlesMet Tryd.prog [("errors.errorType", Rows.laid_errors_errorType)] W := h
theorem glob3 {W : World} (h : laidMetH Tryd.prog laid3 W) : Glob W (Low W) := by
  have h2 := (parts3 h).2
  have h3 : laidMetH Tryd.prog Go.Err.laid W := (show laidMet Tryd.prog [] W ∧ handlesMet Tryd.prog _ W from ⟨laidMet_nil _ _, h2⟩)
  exact glob_of_laid h3
theorem first_eq : Rows.laid_unicode_utf8_first = Lib.firstData := by kernel_rfl
theorem acc_eq : (Rows.laid_unicode_utf8_acceptRanges : DataW Unit) = Lib.acceptData := by kernel_rfl
theorem tabs3 {W : World} (h : laidMetH Tryd.prog laid3 W) : Tabs W (Low W) := by
  have h1 := (parts3 h).1
  rw [first_eq, acc_eq] at h1
  have ht : Lib.Utf8Tabs 1 2 W := utf8Tabs_of_readsT (U8Types.of196 Tryd.laysValid) ⟨by kernel_rfl, by kernel_rfl, by kernel_rfl, by kernel_rfl, by kernel_rfl, by kernel_rfl, by kernel_rfl⟩ (Lib.laidMet.reads h1 (.tail _ (.head _))) (Lib.laidMet.reads h1 (.head _))
  have low : ∀ {g k : Nat} {v : Value}, W.cell? ⟨g, k, none⟩ = some v → g < W.heap.size := fun {g k v} hc => by
    rcases Nat.lt_or_ge g W.heap.size with h | h
    · exact h
    · simp [World.cell?, Array.getElem?_eq_none h] at hc
  refine ⟨⟨encI_ok, by simp [firstL], by decide, fun _ => ⟨_, rfl, low (ht.1 0 (by decide)), fun k hk j u hu => ?_⟩⟩, ⟨encP_ok, by simp [accL], by decide, fun _ => ⟨_, rfl, low (ht.2 0 (by decide)).1, fun k hk j u hu => ?_⟩⟩⟩
  · have hk' : k < 256 := by simpa [firstL] using hk
    obtain rfl : j = 0 := by
      rcases j with _ | j
      · rfl
      · simp [encI] at hu
    have := ht.1 k hk'
    simp only [encI, List.getElem?_cons_zero, Option.some.injEq] at hu
    rw [add_none, add_none, Nat.mul_one, Nat.zero_add, Nat.add_zero, this, ← hu]
    simp [firstL]
  · have hk' : k < 16 := by simpa [accL] using hk
    obtain ⟨t1, t2⟩ := ht.2 k hk'
    rcases j with _ | _ | j
    · simp only [encP, List.getElem?_cons_zero, Option.some.injEq] at hu
      rw [add_none, add_none, Nat.zero_add, Nat.add_zero, Nat.mul_comm, t1, ← hu]
      simp [accL]
    · simp only [encP, List.getElem?_cons_succ, List.getElem?_cons_zero, Option.some.injEq] at hu
      rw [add_none, add_none, Nat.zero_add, Nat.mul_comm, t2, ← hu]
      simp [accL]
    · simp [encP] at hu
/-- A world that meets the condition: the settled one, the variables' cells laid. -/
noncomputable def laidWorld3 (os : Os) : World :=
  let w0 := laidWorld os
  let put (h : Array Obj) (g : Nat) (cs : Array Value) : Array Obj := h.modify g fun
    | .cells _ t frozen => .cells cs t frozen
    | o => o
  let h1 := put w0.heap 1 (Lib.firstTab.map fun z => Value.int .u8 z).toArray
  let h2 := put h1 2 ((List.range 16).flatMap fun i => [Value.int .u8 (Lib.accLo i), Value.int .u8 (Lib.accHi i)]).toArray
  { w0 with heap := h2 }
theorem laidWorld3_met (os : Os) (args : Array Value) : laidMetH Tryd.prog laid3 ((laidWorld3 os).forCall (fun _ _ => 0) ⟨#[], args, []⟩).memory := by
  refine laidMetH_of_parts ?_ (by kernel_rfl)
  show laidMet Tryd.prog [("unicode/utf8.acceptRanges", Rows.laid_unicode_utf8_acceptRanges), ("unicode/utf8.first", Rows.laid_unicode_utf8_first)] _
  exact (LaidIn.of_run (l := [("unicode/utf8.acceptRanges", Rows.laid_unicode_utf8_acceptRanges), ("unicode/utf8.first", Rows.laid_unicode_utf8_first)]) [2, 1] 8 (by kernel_rfl) (by kernel_rfl) (by kernel_rfl) (by kernel_rfl)).met
end Go.Tx
