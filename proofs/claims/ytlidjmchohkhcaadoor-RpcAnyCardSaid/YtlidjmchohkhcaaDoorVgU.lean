/-
  Vg, part U: a string appended to an own row; a literal of bytes that is a row.
-/
import Derived.Test.YtlidjmchohkhcaaDoorVgT
set_option linter.unusedVariables false
set_option linter.unusedSectionVars false
namespace Go.Vg
open Go.RowKit
theorem strCells_flat (s : ByteArray) : Lib.strCells s = s.data.toList.flatMap encB := by
  unfold Lib.strCells
  induction s.data.toList with
  | nil => rfl
  | cons b r ih => rw [List.map_cons, ih]; rfl
section
variable {P : Program} [HasTab P] {n : Nat} {K : St → Prop} {md : M} {gd : Option (Nat × Bool)}
variable {tm : Tm} {bx bx' : List Bx} {rw rw' : List Rw} {ck ck' : List (World × (Nat → Prop))}
variable {d : Tmp} {ty t st e : TypeId} {pos : String} {af : Array Edge} {x y z : Operand} {v u : Value}
theorem own_at {w w' : World} {v v' : Value} {e : TypeId} {n : Nat} {xs : List Value} {P : Program} {t u ty : TypeId} {s : ByteArray}
    (h : (Builtin.append_ #[t, u] ty #[v, .string s]).run P w = .ok v' w') (ht : P.underlying t = some (.slice e)) (hu : P.underlying u = some .string) {i : TypeInfo} (hi : P.info? e = some i) (hsz : i.size = 1) (hz : i.zero = some (.int .u8 0)) (hby : i.bytes = 1)
    (hown : w.ownsRow 0 e 1 v n xs) (hs0 : 0 < s.size) (h63 : n + s.size ≤ maxLen) (hbytes : n + s.size ≤ 140737488355328) : v'.ownBlock = v.ownBlock ∨ v'.ownBlock = some w.heap.size := by
  have hxl : xs.length = n := by simpa using hown.1
  have h63' : n + s.size ≤ 9223372036854775807 := by simpa [maxLen] using h63
  rcases hown.2 with ⟨rfl, rfl⟩ | ⟨g, cap, cur, rfl, hbg, hg, hnc, hcm, hcs, htake⟩
  · have hr := _root_.Go.run_append_nil_string (P := P) w t u ty e i (.int .u8 0) ht hu hi hz s hs0 (by omega) (by rw [hby]; omega)
    rw [hr] at h
    cases h
    exact .inr rfl
  · by_cases hroom : n + s.size ≤ cap
    · have hcs' : cur.size = cap := by simpa using hcs
      have hr := Lib.run_append_room_string (P := P) w t u ty e i ht hu hi hsz g n cap cur hg s hroom (by omega)
      rw [hr] at h
      cases h
      exact .inl rfl
    · have holds : ∀ j u, xs[j]? = some u → w.cell? ((⟨g, 0, none⟩ : Addr).add j) = some u := hown.cells (g := g) rfl
      have hr := Lib.run_append_grow_string (P := P) w t u ty e i (.int .u8 0) ht hu hi hz ⟨g, 0, none⟩ n cap xs (by rw [hsz]; simpa using hxl) holds s (by omega) (by omega) (by rw [hby]; exact growslice_fits (by omega) (by omega))
      rw [hr] at h
      cases h
      exact .inr rfl
theorem run_append_str {w : World} {n' : Nat} {xs : List Value} {s : ByteArray} {s1 b1 s2 b2 : Nat} {z1 z2 : Value} (ht : Ty P t ⟨.slice e, s1, b1, z1⟩) (hu : Ty P st ⟨.string, s2, b2, z2⟩) (he : Ty P e ⟨.int .u8, 1, 1, .int .u8 0⟩)
    (hown : w.ownsRow 0 e 1 v n' xs) (hb : n' + s.size ≤ 140737488355328) :
    ∃ v' w', (Builtin.append_ #[t, st] ty #[v, .string s]).run P w = .ok v' w' ∧ w'.ownsRow 0 e 1 v' (n' + s.size) (xs ++ s.data.toList.flatMap encB) ∧ w.grownBy w' v.ownBlock ∧ (v'.ownBlock = v.ownBlock ∨ v'.ownBlock = some w.heap.size) := by
  obtain ⟨inf, i1, i2, i3, i4⟩ := he.info
  have hm : n' + s.size ≤ maxLen := by simp only [maxLen]; omega
  obtain ⟨v', w', hrun, h2, h3, h4⟩ := Lib.run_append_own_string (P := P) w 0 t st ty e inf ht.und hu.und i1 i2 i3 i4 v n' xs hown s hm hb (Nat.zero_le _)
  rw [strCells_flat] at h2
  refine ⟨v', w', hrun, h2, h3, ?_⟩
  rcases Nat.eq_zero_or_pos s.size with h0 | h0
  · rcases hown.2 with ⟨rfl, rfl⟩ | ⟨g, cap, cur, rfl, hbg, hg, hnc, hcm, hcs, htake⟩
    · exact .inl (by rw [h4.2 ⟨rfl, h0⟩])
    · have hcs' : cur.size = cap := by simpa using hcs
      have hr := Lib.run_append_room_string (P := P) w t st ty e inf ht.und hu.und i1 i3 g n' cap cur hg s (by omega) (by omega)
      rw [hr] at hrun
      cases hrun
      exact .inl rfl
  · exact own_at hrun ht.und hu.und i1 i3 i2 i4 hown h0 hm hb
theorem VX.appendSG {n' : Nat} {xs : List Value} {s : ByteArray} {s1 b1 s2 b2 : Nat} {z1 z2 : Value}
    (hrow : ∀ w, WInv ⟨tm, bx, rw, ck⟩ w → WInv ⟨tm, bx', ⟨v, e, 1, n', xs⟩ :: rw', ck⟩ w)
    (hx : ev tm x = some v) (hy : ev tm y = some (.string s)) (ht : Ty P t ⟨.slice e, s1, b1, z1⟩) (hu : Ty P st ⟨.string, s2, b2, z2⟩) (he : Ty P e ⟨.int .u8, 1, 1, .int .u8 0⟩)
    (hb : n' + s.size ≤ 140737488355328) (hd : Nat.blt d n = true)
    (h : ∀ A' c', K ⟨(d, .slice A' (n' + s.size) c') :: tm, bx', ⟨.slice A' (n' + s.size) c', e, 1, n' + s.size, xs ++ s.data.toList.flatMap encB⟩ :: rw', ck⟩) :
    VX P n (.x false) ⟨some d, .call { callee := .builtin .append, args := #[x, y], argTypes := #[t, st] }, ty, pos, af, gd⟩ ⟨tm, bx, rw, ck⟩ K := fun a w hi => by
  have h1 := hrow w hi.w
  obtain ⟨v', w', hrun, h2, h3, h4⟩ := run_append_str (P := P) (ty := ty) ht hu he (h1.rw _ List.mem_cons_self) hb
  obtain ⟨A', c', rfl⟩ := own_form h2
  refine Oper.wp_of_run (v := .slice A' (n' + s.size) c') (w' := w') ?_ ⟨fun e => (by cases e), _, h A' c', (hi.world (h1.append h3 h2 h4)).put d (blt_lt hd) _⟩
  simp [execOp, resolve, invoke, builtin, hi.ev hx, hi.ev hy, hrun]
/-- Two strings, one behind the other. -/
theorem VX.catStr {a b : ByteArray} {t' : TypeId} (hx : ev tm x = some (.string a) := by rfl) (hy : ev tm y = some (.string b) := by rfl) (hs : a.size + b.size ≤ 9223372036854775807 := by omega) (hd : Nat.blt d n = true := by rfl)
    (h : K ⟨(d, .string (a ++ b)) :: tm, bx, rw, ck⟩) : VX P n md ⟨some d, .binOp .add t x y t', ty, pos, af, gd⟩ ⟨tm, bx, rw, ck⟩ K :=
  VX.valU (fun _ hi w => run_binop (hi.ev hx) (hi.ev hy) (by simp [eqGuard]) (by simp [binOp, Op.stringOp]; omega)) hd h
/-- 'append([]byte{..}, s...)': the literal's block is the row. -/
theorem VX.appendLS {b k : Nat} {cs : List Value} {s : ByteArray} {s1 b1 s2 b2 : Nat} {z1 z2 : Value} (hx : ev tm x = some (.slice (some ⟨b, 0, none⟩) k k) := by rfl) (hy : ev tm y = some (.string s) := by rfl)
    (ht : Ty P t ⟨.slice e, s1, b1, z1⟩ := by rfl) (hu : Ty P st ⟨.string, s2, b2, z2⟩ := by rfl) (he : Ty P e ⟨.int .u8, 1, 1, .int .u8 0⟩ := by rfl)
    (hbx : BxDel bx b cs e bx' := by ((repeat' (guard_target =~ BxDel _ _ _ _ _; first | exact BxDel.head | refine' BxDel.tail _)); fail_if_success refine ?_)) (hk : cs.length = k := by rfl) (hkm : Nat.ble k 1000 = true := by rfl)
    (hb : k + s.size ≤ 140737488355328 := by omega) (hd : Nat.blt d n = true := by rfl)
    (h : ∀ A' c', K ⟨(d, .slice A' (k + s.size) c') :: tm, bx', ⟨.slice A' (k + s.size) c', e, 1, k + s.size, cs ++ s.data.toList.flatMap encB⟩ :: rw, ck⟩) :
    VX P n (.x false) ⟨some d, .call { callee := .builtin .append, args := #[x, y], argTypes := #[t, st] }, ty, pos, af, gd⟩ ⟨tm, bx, rw, ck⟩ K :=
  VX.appendSG (fun w hw => hw.boxrow hbx 1 k (by omega) (by have := Nat.le_of_ble_eq_true hkm; simp only [maxLen]; omega)) hx hy ht hu he hb hd h
/-- 'append([]T{..}, far...)': the literal's block is the row. -/
theorem VX.appendKV {α : Type} {enc : α → List Value} {ys : List α} {c0 : World} {S : Nat → Prop} {b k m c : Nat} {cs : List Value} {i : TI} {A : Option Addr} {sz0 b0 : Nat} {z0 : Value} (hx : ev tm x = some (.slice (some ⟨b, 0, none⟩) k k) := by rfl) (hy : ev tm y = some (.slice A m c) := by rfl)
    (ht : Ty P t ⟨.slice e, sz0, b0, z0⟩ := by rfl) (he : Ty P e i := by rfl) (hbx : BxDel bx b cs e bx' := by ((repeat' (guard_target =~ BxDel _ _ _ _ _; first | exact BxDel.head | refine' BxDel.tail _)); fail_if_success refine ?_))
    (hk : cs.length = k * i.size := by rfl) (hkm : Nat.ble k 1000 = true := by rfl)
    (hw : View enc i.size c0 S A m ys := by assumption) (hc : CkAt ck c0 S := by ((repeat' (guard_target =~ CkAt _ _ _; first | exact CkAt.head | refine' CkAt.tail _)); fail_if_success refine ?_))
    (hz : i.zero.cells.size = i.size := by rfl) (h0 : Nat.blt 0 i.size = true := by rfl)
    (hb : (k + m) * i.bytes ≤ 140737488355328 := by (try dsimp only); omega) (hm : k + m ≤ 9223372036854775807 := by omega) (hd : Nat.blt d n = true := by rfl)
    (h : ∀ A' c', K ⟨(d, .slice A' (k + m) c') :: tm, bx', ⟨.slice A' (k + m) c', e, i.size, k + m, cs ++ ys.flatMap enc⟩ :: rw, ck⟩) :
    VX P n (.x false) ⟨some d, .call { callee := .builtin .append, args := #[x, y], argTypes := #[t, t] }, ty, pos, af, gd⟩ ⟨tm, bx, rw, ck⟩ K :=
  VX.appendG (bx1 := bx) (fun w hw => hw.boxrow hbx i.size k hk (by have := Nat.le_of_ble_eq_true hkm; simp only [maxLen]; omega)) hx hy ht rfl he hz h0 (fun w hwi => slice_cells (hwi.view hc hw) (blt_lt h0)) hb hm hd h
end
end Go.Vg
