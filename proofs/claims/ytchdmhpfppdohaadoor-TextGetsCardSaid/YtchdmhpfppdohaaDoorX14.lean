import Derived.Test.YtchdmhpfppdohaaDoorX11
import Derived.Test.YtchdmhpfppdohaaDoorX12
import Derived.Test.YtchdmhpfppdohaaDoorX13
import Derived.Test.YtchdmhpfppdohaaDoorLaid3
set_option linter.unusedVariables false
namespace Go.Tx
open Go.Proofs Go.RowKit Go.Vg Go.Err Go.Byt
set_option maxRecDepth 100000
theorem wfu8 {n : Int} (h : (Lit.int .u8 n).wf = true) : 0 ≤ n ∧ n < 256 := by
  simp [Lit.wf, IntKind.min, IntKind.max, IntKind.bits, IntKind.signed] at h
  omega
section
variable {H : Type} {he : TypeId × Value → H} {w : World} {base : Nat} {spare : Nat → Bool} {held : Bool} {fuel : Nat} {cs : List Value} {x : DataW H × List MemPlace}
theorem c5 : Tryd.prog.cellsOf 5 = 1 := by kernel_rfl
theorem b5 : Tryd.prog.bytesOf 5 = 1 := by kernel_rfl
theorem c9 : Tryd.prog.cellsOf 9 = 1 := by kernel_rfl
theorem c23 : Tryd.prog.cellsOf 23 = 1 := by kernel_rfl
theorem c44 : Tryd.prog.cellsOf 44 = 2 := by kernel_rfl
theorem b44 : Tryd.prog.bytesOf 44 = 40 := by kernel_rfl
theorem u4 : Tryd.prog.underlying 4 = some .bool := by kernel_rfl
theorem u5 : Tryd.prog.underlying 5 = some (.int .u8) := by kernel_rfl
theorem u9 : Tryd.prog.underlying 9 = some .string := by kernel_rfl
theorem u23 : Tryd.prog.underlying 23 = some (.slice 5) := by kernel_rfl
theorem u41 : Tryd.prog.underlying 41 = some (.slice 44) := by kernel_rfl
theorem u44 : Tryd.prog.underlying 44 = some (.struct #[⟨ "S", 9, 0, false, "", "", 0⟩, ⟨ "B", 23, 1, false, "", "", 16⟩]) := by kernel_rfl
theorem open_byte (h : DataW.trod he Tryd.prog w base spare held fuel 5 cs = some x) : ∃ b : UInt8, cs = encB b := by
  obtain ⟨n, e, _, r⟩ := DataW.trod_int u5 h
  have hr := wfu8 r
  refine ⟨UInt8.ofNat n.toNat, ?_⟩
  rw [e, encB, UInt8.toNat_ofNat', Nat.mod_eq_of_lt (by omega)]
  congr 2
  omega
theorem open_bytes (h : DataW.trod he Tryd.prog w base spare held fuel 23 cs = some x) (hw : Wt Tryd.prog 23 x.1) : ∃ A m c xs, cs = [.slice A m c] ∧ View encB 1 w (Low w) A m xs ∧ m ≤ c ∧ m ≤ 140737488351232 := by
  obtain ⟨A, m, c, xs, h1, h2, h3, h4, _⟩ := view_of_trodW u23 c5 b5 (by decide) encB_ok (fun _ => True) (fun n cs y h _ => let ⟨e, he⟩ := open_byte h; ⟨e, he, trivial⟩) h hw
  exact ⟨A, m, c, xs, h1, h2, h3, by simp only [reachBytes] at h4; omega⟩
theorem open_ask (h : DataW.trod he Tryd.prog w base spare held fuel 44 cs = some x) (hw : Wt Tryd.prog 44 x.1) : ∃ a : Ask, cs = encAsk a ∧ a.ok w := by
  obtain ⟨xs, n, _, hx, hl, hlen, hf⟩ := DataW.trod_struct u44 h
  rw [hx] at hw
  rw [c44] at hl
  obtain ⟨v0, v1, rfl⟩ : ∃ v0 v1, cs = [v0, v1] := by
    match cs, hl with
    | [v0, v1], _ => exact ⟨v0, v1, rfl⟩
  have h0 := hf 0 ⟨ "S", 9, 0, false, "", "", 0⟩ rfl
  have h1 := hf 1 ⟨ "B", 23, 1, false, "", "", 16⟩ rfl
  simp only [List.size_toArray, List.length_cons, List.length_nil] at hlen
  rw [List.getElem?_eq_getElem (by omega), c9] at h0
  rw [List.getElem?_eq_getElem (by omega), c23] at h1
  have w1 : Wt Tryd.prog 23 (xs[1]'(by omega)).1 := hw.struct_ (i := 1) (f := ⟨ "B", 23, 1, false, "", "", 16⟩) u44 rfl (by rw [List.getElem?_map, List.getElem?_eq_getElem (by omega)]; rfl)
  obtain ⟨s, e0, _, hs⟩ := DataW.trod_string u9 h0
  obtain ⟨A, m, c, zs, e1, hv, hc, hb⟩ := open_bytes h1 w1
  simp only [List.drop_zero, List.drop_succ_cons, List.take_succ_cons, List.take_zero, List.cons.injEq, and_true] at e0 e1
  subst e0 e1
  exact ⟨⟨s, A, m, c, zs⟩, rfl, ⟨by simpa [maxLen] using hs, hv, hc, hb⟩⟩
theorem open_asks (h : DataW.trod he Tryd.prog w base spare held fuel 41 cs = some x) (hw : Wt Tryd.prog 41 x.1) : ∃ A m c l, cs = [.slice A m c] ∧ View encAsk 2 w (Low w) A m l ∧ m ≤ c ∧ ∀ a ∈ l, a.ok w := by
  obtain ⟨A, m, c, xs, h1, h2, h3, _, h5⟩ := view_of_trodW u41 c44 b44 (by decide) encAsk_ok (fun a => a.ok w) (fun n cs y h hw => open_ask h hw) h hw
  exact ⟨A, m, c, xs, h1, h2, h3, h5⟩
end
end Go.Tx
