/- Of two parts the second one's sum behind the first one's is that of both, one turned bit changes it, and of nothing it is what stood ahead: SumParts answers true at every list of asks, and the list reads behind the call as it read before. Conditions: sizes as the row tells. -/
import Derived.Test.YtchdmhpfppdohaaS4
import Derived.Test.YtchdmhpfppdohaaRows
import Derived.WalkKit
import Derived.ProofKit
import Derived.OpenShut
import Derived.Below
namespace Go.Proofs.Ytchdmhpfppdohaa
open Go.ChangeShapes Go.WideShapes Go.ChangeAt Go.RowKit Go.Vg Go.Sum
set_option linter.unusedVariables false

theorem ownSumParts : ownKnob Try.prog.godebug = none := by kernel_rfl
theorem laidOutSumParts : laidOutB Try.prog = true := by kernel_rfl
set_option maxRecDepth 100000 in
theorem sumPartsLifted (os : Os) (started : os.Started) (H : Type) (enc : TypeId × Value → H) :
    ReturnsInHanded {} Try.checked os 7 .any (Rows.sumPartsSpec.pre6 enc Try.prog Try.f7 Rows.sumPartsRow.domain false) (Rows.sumPartsSpec.post enc Try.prog Try.f7 false true false false) := by
  refine returnsInHanded_of_change (C := Try.checked) ownSumParts started (by kernel_rfl) Try.func7
    (ChangeSpec.witness6 (enc := enc) (C := Try.checked) false ⟨#[], #[.slice none 0 0], []⟩ 8 (by kernel_rfl) (by kernel_rfl) (by kernel_rfl) (by kernel_rfl)) ?_
  intro W base args ds gs before hval0 hW hcnd _
  have hval : ∀ (j : Nat) t v, Try.f7.params[j]? = some t → args[j]? = some v → Value.okWide Try.prog W .any base t v := hval0
  have hW' := hW
  obtain ⟨p, q, hA0, hV, rfl, hfz, hnd⟩ := hW
  have hA : DataW.TrodAll enc Try.prog W 0 (fun _ => true) true Try.f7.params.toList args.toList ds p := hA0
  rw [Try.params7] at hA hval
  obtain ⟨v0, d0, rfl, rfl, h0⟩ := trodAll_one hA
  obtain ⟨rfl, rfl⟩ := trodVars_none hV
  obtain ⟨A, len, cap, rfl⟩ := okWide_slice u32 (hval 0 32 v0 rfl rfl)
  have k0 := h0
  have lt0 : ∀ x ∈ p, x.block < W.heap.size := by obtain ⟨m, hm⟩ := k0; exact DataW.trod_lt m _ _ _ hm
  obtain ⟨l, hv, has⟩ : ∃ l, View encAsk 3 W (Low W) A len l ∧ ∀ a ∈ l, a.ok W := by
    obtain ⟨fuel, hf⟩ := h0
    obtain ⟨A', m', c', l, hcs, hv, hc, has⟩ := open_asks hf
    simp [Value.cells] at hcs
    obtain ⟨rfl, rfl, rfl⟩ := hcs
    exact ⟨l, hv, has⟩
  refine (Parts_law (c := cap) hv has).mono fun e W' ⟨he, bel⟩ => ?_
  subst he
  exact ⟨_, rfl, _, _, _, [], _, [], hW', trodAll_mk1 (shut_bool u4 _), (trodAll_cons_mk (Below.trod laidOutSumParts (by kernel_rfl) (of_decide_eq_true (by kernel_rfl)) k0 bel lt0) trodAll_mk0), rfl, bel.frame _, fun h => by cases h⟩

theorem sumPartsHolds : Rows.SumPartsSaid :=
  OpenClaim.holds_of_wide 7 Try.f7 rfl rfl rfl rfl rfl rfl rfl ⟨rfl, rfl, rfl, rfl, rfl⟩ rfl rfl rfl rfl rfl (by kernel_rfl) Try.func7 (by kernel_rfl)
    (of_decide_eq_true (by kernel_rfl)) (by unfold Func.isWrapper; rw [if_neg (of_decide_eq_false (by kernel_rfl))]; exact ⟨rfl, rfl⟩)
    (fun os started H enc _ => sumPartsLifted os started H enc)
end Go.Proofs.Ytchdmhpfppdohaa
