/-
  The law's argument: asks.
-/
import Derived.Test.YtdkcihifmmppiaaDoorT6
import Derived.Test.YtdkcihifmmppiaaDoorRowA
namespace Go.Ent
open Go.Proofs Go.RowKit Go.Vg Go.Err
set_option maxRecDepth 100000

abbrev I64 (n : Int) : Prop := -9223372036854775808 ≤ n ∧ n ≤ 9223372036854775807
structure Ask where
  b : Int
  t : Int
  A : Option Addr
  m : Nat
  c : Nat
  i : Int
  j : Int
  B : Option Addr
  m' : Nat
  c' : Nat
  n : Int
  xs : List Entry
  ys : List Entry
deriving Inhabited
def encAsk (a : Ask) : List Value := [.int .i64 a.b, .int .i64 a.t, .slice a.A a.m a.c, .int .i64 a.i, .int .i64 a.j, .slice a.B a.m' a.c', .int .i64 a.n]
theorem encAsk_ok : EncOk encAsk 7 := ⟨fun _ => rfl, fun x u h => by
  simp only [encAsk, List.mem_cons, List.not_mem_nil, or_false] at h
  rcases h with rfl | rfl | rfl | rfl | rfl | rfl | rfl <;> rfl⟩
structure Ask.ok (W : World) (a : Ask) : Prop where
  b : I64 a.b
  t : I64 a.t
  i : I64 a.i
  j : I64 a.j
  n : I64 a.n
  v : View encE 4 W (Low W) a.A a.m a.xs
  c : a.m ≤ a.c
  v' : View encE 4 W (Low W) a.B a.m' a.ys
  c' : a.m' ≤ a.c'

theorem wf64 {n : Int} (h : (Lit.int .i64 n).wf = true) : I64 n := by
  simp [Lit.wf, IntKind.min, IntKind.max, IntKind.bits, IntKind.signed] at h
  exact h
section
variable {H : Type} {he : TypeId × Value → H} {w : World} {base : Nat} {spare : Nat → Bool} {held : Bool} {fuel : Nat} {cs : List Value} {x : DataW H × List MemPlace}
theorem c3 : Tryd.prog.cellsOf 3 = 1 := by kernel_rfl
theorem c9 : Tryd.prog.cellsOf 9 = 1 := by kernel_rfl
theorem c24 : Tryd.prog.cellsOf 24 = 1 := by kernel_rfl
theorem c26 : Tryd.prog.cellsOf 26 = 3 := by kernel_rfl
theorem c28 : Tryd.prog.cellsOf 28 = 7 := by kernel_rfl
theorem c64 : Tryd.prog.cellsOf 64 = 4 := by kernel_rfl
theorem u3 : Tryd.prog.underlying 3 = some (.int .i64) := by kernel_rfl
theorem u9 : Tryd.prog.underlying 9 = some .string := by kernel_rfl
theorem u4 : Tryd.prog.underlying 4 = some .bool := by kernel_rfl
theorem u22 : Tryd.prog.underlying 22 = some (.slice 28) := by kernel_rfl
theorem u24 : Tryd.prog.underlying 24 = some (.slice 64) := by kernel_rfl
theorem u26 : Tryd.prog.underlying 26 = some (.struct #[⟨ "Base", 3, 0, false, "", "", 0⟩, ⟨ "BaseTerm", 3, 1, false, "", "", 8⟩, ⟨ "Entries", 24, 2, false, "", "", 16⟩]) := by kernel_rfl
theorem u28 : Tryd.prog.underlying 28 = some (.struct #[⟨ "L", 26, 0, false, "", "", 0⟩, ⟨ "I", 3, 3, false, "", "", 40⟩, ⟨ "T", 3, 4, false, "", "", 48⟩, ⟨ "Es", 24, 5, false, "", "", 56⟩, ⟨ "N", 3, 6, false, "", "", 80⟩]) := by kernel_rfl
theorem u64 : Tryd.prog.underlying 64 = some (.struct #[⟨ "Index", 3, 0, false, "", "", 0⟩, ⟨ "Term", 3, 1, false, "", "", 8⟩, ⟨ "Kind", 3, 2, false, "", "", 16⟩, ⟨ "Data", 9, 3, false, "", "", 24⟩]) := by kernel_rfl

theorem open_entry (h : DataW.trod he Tryd.prog w base spare held fuel 64 cs = some x) : ∃ e : Entry, cs = encE e := by
  obtain ⟨xs, n, _, _, hl, hlen, hf⟩ := DataW.trod_struct u64 h
  rw [c64] at hl
  obtain ⟨a, b, c, d, rfl⟩ : ∃ a b c d, cs = [a, b, c, d] := by
    match cs, hl with
    | [a, b, c, d], _ => exact ⟨a, b, c, d, rfl⟩
  have h0 := hf 0 ⟨ "Index", 3, 0, false, "", "", 0⟩ rfl
  have h1 := hf 1 ⟨ "Term", 3, 1, false, "", "", 8⟩ rfl
  have h2 := hf 2 ⟨ "Kind", 3, 2, false, "", "", 16⟩ rfl
  have h3 := hf 3 ⟨ "Data", 9, 3, false, "", "", 24⟩ rfl
  simp only [List.size_toArray, List.length_cons, List.length_nil] at hlen
  rw [List.getElem?_eq_getElem (by omega), c3] at h0 h1 h2
  rw [List.getElem?_eq_getElem (by omega), c9] at h3
  obtain ⟨n0, e0, _, _⟩ := DataW.trod_int u3 h0
  obtain ⟨n1, e1, _, _⟩ := DataW.trod_int u3 h1
  obtain ⟨n2, e2, _, _⟩ := DataW.trod_int u3 h2
  obtain ⟨s, e3, _, _⟩ := DataW.trod_string u9 h3
  simp only [List.drop_zero, List.drop_succ_cons, List.take_succ_cons, List.take_zero, List.cons.injEq, and_true] at e0 e1 e2 e3
  subst e0 e1 e2 e3
  exact ⟨⟨n0, n1, n2, s⟩, rfl⟩
theorem open_entries (h : DataW.trod he Tryd.prog w base spare held fuel 24 cs = some x) : ∃ A m c xs, cs = [.slice A m c] ∧ View encE 4 w (Low w) A m xs ∧ m ≤ c := by
  obtain ⟨A, m, c, xs, h1, h2, h3, _⟩ := view_of_trod u24 c64 (by decide) encE_ok (fun _ => True) (fun n cs y h => let ⟨e, he⟩ := open_entry h; ⟨e, he, trivial⟩) h
  exact ⟨A, m, c, xs, h1, h2, h3⟩
theorem open_ask (h : DataW.trod he Tryd.prog w base spare held fuel 28 cs = some x) : ∃ a : Ask, cs = encAsk a ∧ a.ok w := by
  obtain ⟨xs, n, _, _, hl, hlen, hf⟩ := DataW.trod_struct u28 h
  rw [c28] at hl
  obtain ⟨v0, v1, v2, v3, v4, v5, v6, rfl⟩ : ∃ v0 v1 v2 v3 v4 v5 v6, cs = [v0, v1, v2, v3, v4, v5, v6] := by
    match cs, hl with
    | [v0, v1, v2, v3, v4, v5, v6], _ => exact ⟨v0, v1, v2, v3, v4, v5, v6, rfl⟩
  have h0 := hf 0 ⟨ "L", 26, 0, false, "", "", 0⟩ rfl
  have h1 := hf 1 ⟨ "I", 3, 3, false, "", "", 40⟩ rfl
  have h2 := hf 2 ⟨ "T", 3, 4, false, "", "", 48⟩ rfl
  have h3 := hf 3 ⟨ "Es", 24, 5, false, "", "", 56⟩ rfl
  have h4 := hf 4 ⟨ "N", 3, 6, false, "", "", 80⟩ rfl
  simp only [List.size_toArray, List.length_cons, List.length_nil] at hlen
  rw [List.getElem?_eq_getElem (by omega), c26] at h0
  rw [List.getElem?_eq_getElem (by omega), c3] at h1 h2 h4
  rw [List.getElem?_eq_getElem (by omega), c24] at h3
  obtain ⟨ys, n', _, _, hl', hlen', hf'⟩ := DataW.trod_struct u26 h0
  have g0 := hf' 0 ⟨ "Base", 3, 0, false, "", "", 0⟩ rfl
  have g1 := hf' 1 ⟨ "BaseTerm", 3, 1, false, "", "", 8⟩ rfl
  have g2 := hf' 2 ⟨ "Entries", 24, 2, false, "", "", 16⟩ rfl
  simp only [List.size_toArray, List.length_cons, List.length_nil] at hlen'
  rw [List.getElem?_eq_getElem (by omega), c3] at g0 g1
  rw [List.getElem?_eq_getElem (by omega), c24] at g2
  obtain ⟨n0, e0, _, r0⟩ := DataW.trod_int u3 g0
  obtain ⟨n1, e1, _, r1⟩ := DataW.trod_int u3 g1
  obtain ⟨A, m, c, zs, e2, hv, hc⟩ := open_entries g2
  obtain ⟨n3, e3, _, r3⟩ := DataW.trod_int u3 h1
  obtain ⟨n4, e4, _, r4⟩ := DataW.trod_int u3 h2
  obtain ⟨B, m', c', us, e5, hv', hc'⟩ := open_entries h3
  obtain ⟨n6, e6, _, r6⟩ := DataW.trod_int u3 h4
  simp only [List.drop_zero, List.drop_succ_cons, List.take_succ_cons, List.take_zero, List.cons.injEq, and_true] at e0 e1 e2 e3 e4 e5 e6
  subst e0 e1 e2 e3 e4 e5 e6
  exact ⟨⟨n0, n1, A, m, c, n3, n4, B, m', c', n6, zs, us⟩, rfl, ⟨wf64 r0, wf64 r1, wf64 r3, wf64 r4, wf64 r6, hv, hc, hv', hc'⟩⟩
theorem open_asks (h : DataW.trod he Tryd.prog w base spare held fuel 22 cs = some x) : ∃ A m c l, cs = [.slice A m c] ∧ View encAsk 7 w (Low w) A m l ∧ m ≤ c ∧ ∀ a ∈ l, a.ok w :=
  view_of_trod u22 c28 (by decide) encAsk_ok (fun a => a.ok w) (fun n cs y h => open_ask h) h
end
end Go.Ent
