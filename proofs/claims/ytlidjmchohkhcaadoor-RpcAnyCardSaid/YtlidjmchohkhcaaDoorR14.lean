import Derived.Test.YtlidjmchohkhcaaDoorR13
set_option linter.unusedVariables false
namespace Go.Rp
open Go.Proofs Go.RowKit Go.Vg Go.Err Go.Byt
set_option maxRecDepth 100000
theorem wfu8 {n : Int} (h : (Lit.int .u8 n).wf = true) : 0 ≤ n ∧ n < 256 := by
  simp [Lit.wf, IntKind.min, IntKind.max, IntKind.bits, IntKind.signed] at h
  omega
section
variable {H : Type} {he : TypeId × Value → H} {w : World} {base : Nat} {spare : Nat → Bool} {held : Bool} {fuel : Nat} {cs : List Value} {x : DataW H × List MemPlace}
theorem c3 : Tryd.prog.cellsOf 3 = 1 := by kernel_rfl
theorem c5 : Tryd.prog.cellsOf 5 = 1 := by kernel_rfl
theorem b5 : Tryd.prog.bytesOf 5 = 1 := by kernel_rfl
theorem c26 : Tryd.prog.cellsOf 26 = 1 := by kernel_rfl
theorem b26 : Tryd.prog.bytesOf 26 = 24 := by kernel_rfl
theorem c22 : Tryd.prog.cellsOf 22 = 1 := by kernel_rfl
theorem c24 : Tryd.prog.cellsOf 24 = 2 := by kernel_rfl
theorem u3 : Tryd.prog.underlying 3 = some (.int .i64) := by kernel_rfl
theorem u4 : Tryd.prog.underlying 4 = some .bool := by kernel_rfl
theorem u5 : Tryd.prog.underlying 5 = some (.int .u8) := by kernel_rfl
theorem u26 : Tryd.prog.underlying 26 = some (.slice 5) := by kernel_rfl
theorem u22 : Tryd.prog.underlying 22 = some (.slice 26) := by kernel_rfl
theorem u24 : Tryd.prog.underlying 24 = some (.struct #[⟨ "L", 22, 0, false, "", "", 0⟩, ⟨ "At", 3, 1, false, "", "", 24⟩]) := by kernel_rfl
theorem open_byte (h : DataW.trod he Tryd.prog w base spare held fuel 5 cs = some x) : ∃ b : UInt8, cs = encB b := by
  obtain ⟨n, e, _, r⟩ := DataW.trod_int u5 h
  have hr := wfu8 r
  refine ⟨UInt8.ofNat n.toNat, ?_⟩
  rw [e, encB, UInt8.toNat_ofNat', Nat.mod_eq_of_lt (by omega)]
  congr 2
  omega
theorem open_bytes (h : DataW.trod he Tryd.prog w base spare held fuel 26 cs = some x) (hw : Wt Tryd.prog 26 x.1) : ∃ a : Cell, cs = encC a ∧ a.ok w := by
  obtain ⟨A, m, c, xs, h1, h2, h3, h4, _⟩ := view_of_trodW u26 c5 b5 (by decide) encB_ok (fun _ => True) (fun n cs y h _ => let ⟨e, he⟩ := open_byte h; ⟨e, he, trivial⟩) h hw
  exact ⟨⟨A, m, c, xs⟩, h1, ⟨h2, h3, by simp only [reachBytes] at h4; dsimp only; omega⟩⟩
theorem open_cells (h : DataW.trod he Tryd.prog w base spare held fuel 24 cs = some x) (hw : Wt Tryd.prog 24 x.1) : ∃ L n c i l, cs = [.slice L n c, .int .i64 i] ∧ View encC 1 w (Low w) L n l ∧ ∀ a ∈ l, a.ok w := by
  obtain ⟨xs, n, _, hx, hl, hlen, hf⟩ := DataW.trod_struct u24 h
  rw [hx] at hw
  rw [c24] at hl
  obtain ⟨v0, v1, rfl⟩ : ∃ v0 v1, cs = [v0, v1] := by
    match cs, hl with
    | [v0, v1], _ => exact ⟨v0, v1, rfl⟩
  have h0 := hf 0 ⟨ "L", 22, 0, false, "", "", 0⟩ rfl
  have h1 := hf 1 ⟨ "At", 3, 1, false, "", "", 24⟩ rfl
  simp only [List.size_toArray, List.length_cons, List.length_nil] at hlen
  rw [List.getElem?_eq_getElem (by omega), c22] at h0
  rw [List.getElem?_eq_getElem (by omega), c3] at h1
  have w0 : Wt Tryd.prog 22 (xs[0]'(by omega)).1 := hw.struct_ (i := 0) (f := ⟨ "L", 22, 0, false, "", "", 0⟩) u24 rfl (by rw [List.getElem?_map, List.getElem?_eq_getElem (by omega)]; rfl)
  obtain ⟨i, e1, _, _⟩ := DataW.trod_int u3 h1
  obtain ⟨L, m, c, l, e0, hv, hc, _, has⟩ := view_of_trodW u22 c26 b26 (by decide) encC_ok (fun a => a.ok w) (fun n cs y h hw => open_bytes h hw) h0 w0
  simp only [List.drop_zero, List.drop_succ_cons, List.take_succ_cons, List.take_zero, List.cons.injEq, and_true] at e0 e1
  subst e0 e1
  exact ⟨L, m, c, i, l, rfl, hv, has⟩
end
end Go.Rp
