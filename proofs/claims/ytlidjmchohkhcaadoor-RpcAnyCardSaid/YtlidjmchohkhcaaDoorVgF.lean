/-
  Vg, part F: append, parts of slices, elements, tests with nil, ends of a function, and the way in.
-/
import Derived.Test.YtlidjmchohkhcaaDoorVgE
set_option linter.unusedVariables false
set_option linter.unusedSimpArgs false
set_option linter.unusedSectionVars false
namespace Go.Vg
open Go.RowKit

section
variable {P : Program} [HasTab P] {n : Nat} {K : St → Prop} {md : M} {gd : Option (Nat × Bool)}
variable {tm : Tm} {bx bx' : List Bx} {rw rw' : List Rw} {ck ck' : List (World × (Nat → Prop))}
variable {d : Tmp} {ty t e : TypeId} {pos : String} {af : Array Edge} {x y z : Operand} {v u : Value}

/-! ### append -/
theorem grownBy_refl (w : World) (row : Option Nat) : w.grownBy w row := ⟨rfl, rfl, rfl, Nat.le_refl _, fun _ _ _ => rfl⟩
theorem run_append_none {w : World} {sz m : Nat} {xs : List Value} {i : TI} {sd : TI} (ht : Ty P t sd) (hsd : sd.d = .slice e) (he : Ty P e i) (hown : w.ownsRow 0 e sz v m xs) (c : Nat) :
    (Builtin.append_ #[t, t] ty #[v, .slice none 0 c]).run P w = .ok v w := by
  have h1 := ht.run_und w
  rw [hsd] at h1
  have h2 := he.run_size w
  rcases hown.2 with ⟨rfl, rfl⟩ | ⟨g, cap, cur, rfl, _, _, hnc, _⟩
  · simp [Builtin.append_, h1, h2, Builtin.lenOf, Builtin.firstCells]
  · simp [Builtin.append_, h1, h2, Builtin.lenOf, Builtin.firstCells, hnc, storeCells]

theorem run_append_own {w : World} {n' m c : Nat} {xs news : List Value} {i sd : TI} {A : Option Addr} (ht : Ty P t sd) (hsd : sd.d = .slice e) (he : Ty P e i) (hz : i.zero.cells.size = i.size) (h0 : 0 < i.size)
    (hown : w.ownsRow 0 e i.size v n' xs) (hl : news.length = m * i.size) (hA : (A = none ∧ m = 0) ∨ ∃ ad, A = some ad ∧ ∀ j u, news[j]? = some u → w.cell? (ad.add j) = some u) (h1 : ∀ u ∈ news, u.oneCell' = true)
    (hb : (n' + m) * i.bytes ≤ 140737488355328) (hm : n' + m ≤ maxLen) :
    ∃ v' w', (Builtin.append_ #[t, t] ty #[v, .slice A m c]).run P w = .ok v' w' ∧ w'.ownsRow 0 e i.size v' (n' + m) (xs ++ news) ∧ w.grownBy w' v.ownBlock ∧ (v'.ownBlock = v.ownBlock ∨ v'.ownBlock = some w.heap.size) := by
  rcases hA with ⟨rfl, rfl⟩ | ⟨ad, rfl, hc⟩
  · have hn : news = [] := List.eq_nil_of_length_eq_zero (by simpa using hl)
    subst hn
    exact ⟨v, w, run_append_none ht hsd he hown c, by simpa using hown, grownBy_refl w _, .inl rfl⟩
  · obtain ⟨inf, i1, i2, i3, i4⟩ := he.info
    have hu : P.underlying t = some (.slice e) := by rw [ht.und, hsd]
    obtain ⟨v', w', hrun, h2, h3, _, h5⟩ := run_append_own_at (P := P) w 0 t ty e inf i.zero i.size i.bytes hu i1 i2 i3 i4 hz h0 v n' xs hown ad m c news hl hc h1 hm hb (Nat.zero_le _)
    exact ⟨v', w', hrun, h2, h3, h5⟩

/-- What stands at the head of the rows is appended to; what is appended, is told. -/
theorem VX.appendG {n' m c : Nat} {xs news : List Value} {i sd : TI} {A : Option Addr} {bx1 : List Bx}
    (hrow : ∀ w, WInv ⟨tm, bx, rw, ck⟩ w → WInv ⟨tm, bx', ⟨v, e, i.size, n', xs⟩ :: rw', ck⟩ w)
    (hx : ev tm x = some v) (hy : ev tm y = some (.slice A m c)) (ht : Ty P t sd) (hsd : sd.d = .slice e) (he : Ty P e i) (hz : i.zero.cells.size = i.size) (h0 : Nat.blt 0 i.size = true)
    (hnew : ∀ w, WInv ⟨tm, bx, rw, ck⟩ w → news.length = m * i.size ∧ ((A = none ∧ m = 0) ∨ ∃ ad, A = some ad ∧ ∀ j u, news[j]? = some u → w.cell? (ad.add j) = some u) ∧ ∀ u ∈ news, u.oneCell' = true)
    (hb : (n' + m) * i.bytes ≤ 140737488355328) (hm : n' + m ≤ 9223372036854775807) (hd : Nat.blt d n = true)
    (h : ∀ A' c', K ⟨(d, .slice A' (n' + m) c') :: tm, bx', ⟨.slice A' (n' + m) c', e, i.size, n' + m, xs ++ news⟩ :: rw', ck⟩) :
    VX P n (.x false) ⟨some d, .call { callee := .builtin .append, args := #[x, y], argTypes := #[t, t] }, ty, pos, af, gd⟩ ⟨tm, bx, rw, ck⟩ K := fun a w hi => by
  have h1 := hrow w hi.w
  obtain ⟨q1, q2, q3⟩ := hnew w hi.w
  obtain ⟨v', w', hrun, h2, h3, h4⟩ := run_append_own (P := P) (ty := ty) (c := c) ht hsd he hz (blt_lt h0) (h1.rw _ List.mem_cons_self) q1 q2 q3 hb (by simpa [maxLen] using hm)
  obtain ⟨A', c', rfl⟩ := own_form h2
  refine Oper.wp_of_run (v := .slice A' (n' + m) c') (w' := w') ?_ ⟨fun e => (by cases e), _, h A' c', (hi.world (h1.append h3 h2 h4)).put d (blt_lt hd) _⟩
  simp [execOp, resolve, invoke, builtin, hi.ev hx, hi.ev hy, hrun]

theorem slice_cells {w : World} {α : Type} {enc : α → List Value} {sz : Nat} {S : Nat → Prop} {A : Option Addr} {ys : List α} {m : Nat} (h : View enc sz w S A m ys) (h0 : 0 < sz) :
    (ys.flatMap enc).length = m * sz ∧ ((A = none ∧ m = 0) ∨ ∃ ad, A = some ad ∧ ∀ j u, (ys.flatMap enc)[j]? = some u → w.cell? (ad.add j) = some u) ∧ ∀ u ∈ ys.flatMap enc, u.oneCell' = true := by
  obtain rfl := h.len
  refine ⟨length_flatMap h.ok.len ys, ?_, fun u hu => ?_⟩
  · rcases Nat.eq_zero_or_pos ys.length with hl | hl
    · cases A with
      | none => exact .inl ⟨rfl, hl⟩
      | some ad =>
        have : ys = [] := List.eq_nil_of_length_eq_zero hl
        subst this
        exact .inr ⟨ad, rfl, fun j u hu => by simp at hu⟩
    · obtain ⟨ad, rfl, _, hc⟩ := h.at_ hl
      refine .inr ⟨ad, rfl, fun j u hu => ?_⟩
      have hj : j < ys.length * sz := by
        rw [← length_flatMap h.ok.len ys]
        exact (List.getElem?_eq_some_iff.1 hu).1
      have hk : j / sz < ys.length := (Nat.div_lt_iff_lt_mul h0).2 hj
      have hr := Nat.mod_lt j h0
      have he : j / sz * sz + j % sz = j := by rw [Nat.mul_comm]; exact Nat.div_add_mod j sz
      have hlen := h.ok.len ys[j / sz]
      have hget : (enc ys[j / sz])[j % sz]? = some ((enc ys[j / sz])[j % sz]'(by omega)) := by simp
      have h2 := getElem?_flatMap enc sz h.ok.len ys (j / sz) hk (j % sz) _ hget
      rw [he] at h2
      have h3 := hc (j / sz) hk (j % sz) _ hget
      rw [add_add, he] at h3
      rw [h3, ← h2, hu]
  · obtain ⟨x, _, hx⟩ := List.mem_flatMap.1 hu
    exact h.ok.one x u hx

/-- 'append(row, far...)'. -/
theorem VX.appendV {α : Type} {enc : α → List Value} {ys : List α} {c0 : World} {S : Nat → Prop} {n' m c : Nat} {xs : List Value} {i : TI} {A : Option Addr} {sz0 b0 : Nat} {z0 : Value} (hx : ev tm x = some v := by rfl) (hy : ev tm y = some (.slice A m c) := by rfl)
    (ht : Ty P t ⟨.slice e, sz0, b0, z0⟩ := by rfl) (he : Ty P e i := by rfl) (hrow : RwDel rw ⟨v, e, i.size, n', xs⟩ rw' := by ((repeat' (guard_target =~ RwDel _ _ _; first | exact RwDel.head | refine' RwDel.tail _)); fail_if_success refine ?_))
    (hw : View enc i.size c0 S A m ys := by assumption) (hc : CkAt ck c0 S := by ((repeat' (guard_target =~ CkAt _ _ _; first | exact CkAt.head | refine' CkAt.tail _)); fail_if_success refine ?_))
    (hz : i.zero.cells.size = i.size := by rfl) (h0 : Nat.blt 0 i.size = true := by rfl)
    (hb : (n' + m) * i.bytes ≤ 140737488355328 := by (try dsimp only); (try simp only [List.length_append, List.length_cons, List.length_nil]); omega) (hm : n' + m ≤ 9223372036854775807 := by omega) (hd : Nat.blt d n = true := by rfl)
    (h : ∀ A' c', K ⟨(d, .slice A' (n' + m) c') :: tm, bx, ⟨.slice A' (n' + m) c', e, i.size, n' + m, xs ++ ys.flatMap enc⟩ :: rw', ck⟩) :
    VX P n (.x false) ⟨some d, .call { callee := .builtin .append, args := #[x, y], argTypes := #[t, t] }, ty, pos, af, gd⟩ ⟨tm, bx, rw, ck⟩ K :=
  VX.appendG (bx1 := bx) (fun w hw => hw.perm (List.Perm.refl _) hrow.perm) hx hy ht rfl he hz h0 (fun w hwi => slice_cells (hwi.view hc hw) (blt_lt h0)) hb hm hd h
/-- 'append(nil, far...)'. -/
theorem VX.appendNV {α : Type} {enc : α → List Value} {ys : List α} {c0 : World} {S : Nat → Prop} {m c : Nat} {i : TI} {A : Option Addr} {sz0 b0 : Nat} {z0 : Value} (hx : ev tm x = some (.slice none 0 0) := by rfl) (hy : ev tm y = some (.slice A m c) := by rfl)
    (ht : Ty P t ⟨.slice e, sz0, b0, z0⟩ := by rfl) (he : Ty P e i := by rfl)
    (hw : View enc i.size c0 S A m ys := by assumption) (hc : CkAt ck c0 S := by ((repeat' (guard_target =~ CkAt _ _ _; first | exact CkAt.head | refine' CkAt.tail _)); fail_if_success refine ?_))
    (hz : i.zero.cells.size = i.size := by rfl) (h0 : Nat.blt 0 i.size = true := by rfl)
    (hb : (0 + m) * i.bytes ≤ 140737488355328 := by (try dsimp only); omega) (hm : 0 + m ≤ 9223372036854775807 := by omega) (hd : Nat.blt d n = true := by rfl)
    (h : ∀ A' c', K ⟨(d, .slice A' (0 + m) c') :: tm, bx, ⟨.slice A' (0 + m) c', e, i.size, 0 + m, [] ++ ys.flatMap enc⟩ :: rw, ck⟩) :
    VX P n (.x false) ⟨some d, .call { callee := .builtin .append, args := #[x, y], argTypes := #[t, t] }, ty, pos, af, gd⟩ ⟨tm, bx, rw, ck⟩ K :=
  VX.appendG (bx1 := bx) (fun w hw => hw.nilrow e i.size) hx hy ht rfl he hz h0 (fun w hwi => slice_cells (hwi.view hc hw) (blt_lt h0)) hb hm hd h
/-- 'append([]T{}, far...)': the literal's block is the row. -/
theorem VX.appendLV {α : Type} {enc : α → List Value} {ys : List α} {c0 : World} {S : Nat → Prop} {b m c : Nat} {i : TI} {A : Option Addr} {sz0 b0 : Nat} {z0 : Value} (hx : ev tm x = some (.slice (some ⟨b, 0, none⟩) 0 0) := by rfl) (hy : ev tm y = some (.slice A m c) := by rfl)
    (ht : Ty P t ⟨.slice e, sz0, b0, z0⟩ := by rfl) (he : Ty P e i := by rfl) (hbx : BxDel bx b [] e bx' := by ((repeat' (guard_target =~ BxDel _ _ _ _ _; first | exact BxDel.head | refine' BxDel.tail _)); fail_if_success refine ?_))
    (hw : View enc i.size c0 S A m ys := by assumption) (hc : CkAt ck c0 S := by ((repeat' (guard_target =~ CkAt _ _ _; first | exact CkAt.head | refine' CkAt.tail _)); fail_if_success refine ?_))
    (hz : i.zero.cells.size = i.size := by rfl) (h0 : Nat.blt 0 i.size = true := by rfl)
    (hb : (0 + m) * i.bytes ≤ 140737488355328 := by (try dsimp only); omega) (hm : 0 + m ≤ 9223372036854775807 := by omega) (hd : Nat.blt d n = true := by rfl)
    (h : ∀ A' c', K ⟨(d, .slice A' (0 + m) c') :: tm, bx', ⟨.slice A' (0 + m) c', e, i.size, 0 + m, [] ++ ys.flatMap enc⟩ :: rw, ck⟩) :
    VX P n (.x false) ⟨some d, .call { callee := .builtin .append, args := #[x, y], argTypes := #[t, t] }, ty, pos, af, gd⟩ ⟨tm, bx, rw, ck⟩ K :=
  VX.appendG (bx1 := bx) (fun w hw => hw.boxrow hbx i.size 0 (by simp) (Nat.zero_le _)) hx hy ht rfl he hz h0 (fun w hwi => slice_cells (hwi.view hc hw) (blt_lt h0)) hb hm hd h

theorem box_cells {w : World} {b k sz : Nat} {cs : List Value} (h : WInv ⟨tm, bx, rw, ck⟩ w) (hb : BxAt bx b cs e) (hl : cs.length = k * sz) (h1 : cs.all plainV = true) :
    cs.length = k * sz ∧ ((some (⟨b, 0, none⟩ : Addr) = none ∧ k = 0) ∨ ∃ ad, some (⟨b, 0, none⟩ : Addr) = some ad ∧ ∀ j u, cs[j]? = some u → w.cell? (ad.add j) = some u) ∧ ∀ u ∈ cs, u.oneCell' = true :=
  ⟨hl, .inr ⟨_, rfl, fun j u hu => by rw [add_none, Nat.zero_add, cell_bx (σ := ⟨tm, bx, rw, ck⟩) h hb]; exact hu⟩, fun u hu => by
    have := List.all_eq_true.1 h1 u hu
    cases u <;> simp_all [plainV, Value.oneCell']⟩
/-- 'append(row, x, y ..)'. -/
theorem VX.appendB {b n' k c : Nat} {cs xs : List Value} {i : TI} {sz0 b0 : Nat} {z0 : Value} (hx : ev tm x = some v := by rfl) (hy : ev tm y = some (.slice (some ⟨b, 0, none⟩) k c) := by rfl)
    (ht : Ty P t ⟨.slice e, sz0, b0, z0⟩ := by rfl) (he : Ty P e i := by rfl) (hrow : RwDel rw ⟨v, e, i.size, n', xs⟩ rw' := by ((repeat' (guard_target =~ RwDel _ _ _; first | exact RwDel.head | refine' RwDel.tail _)); fail_if_success refine ?_))
    (hbx : BxAt bx b cs e := by ((repeat' (guard_target =~ BxAt _ _ _ _; first | exact BxAt.head | refine' BxAt.tail _)); fail_if_success refine ?_)) (hcs : cs.length = k * i.size := by rfl) (hp : cs.all plainV = true := by first | rfl | simp_all)
    (hz : i.zero.cells.size = i.size := by rfl) (h0 : Nat.blt 0 i.size = true := by rfl)
    (hb : (n' + k) * i.bytes ≤ 140737488355328 := by (try dsimp only); omega) (hm : n' + k ≤ 9223372036854775807 := by omega) (hd : Nat.blt d n = true := by rfl)
    (h : ∀ A' c', K ⟨(d, .slice A' (n' + k) c') :: tm, bx, ⟨.slice A' (n' + k) c', e, i.size, n' + k, xs ++ cs⟩ :: rw', ck⟩) :
    VX P n (.x false) ⟨some d, .call { callee := .builtin .append, args := #[x, y], argTypes := #[t, t] }, ty, pos, af, gd⟩ ⟨tm, bx, rw, ck⟩ K :=
  VX.appendG (bx1 := bx) (fun w hw => hw.perm (List.Perm.refl _) hrow.perm) hx hy ht rfl he hz h0 (fun w hwi => box_cells hwi hbx hcs hp) hb hm hd h
/-- 'append(nil, x, y ..)'. -/
theorem VX.appendNB {b k c : Nat} {cs : List Value} {i : TI} {sz0 b0 : Nat} {z0 : Value} (hx : ev tm x = some (.slice none 0 0) := by rfl) (hy : ev tm y = some (.slice (some ⟨b, 0, none⟩) k c) := by rfl)
    (ht : Ty P t ⟨.slice e, sz0, b0, z0⟩ := by rfl) (he : Ty P e i := by rfl)
    (hbx : BxAt bx b cs e := by ((repeat' (guard_target =~ BxAt _ _ _ _; first | exact BxAt.head | refine' BxAt.tail _)); fail_if_success refine ?_)) (hcs : cs.length = k * i.size := by rfl) (hp : cs.all plainV = true := by first | rfl | simp_all)
    (hz : i.zero.cells.size = i.size := by rfl) (h0 : Nat.blt 0 i.size = true := by rfl)
    (hb : (0 + k) * i.bytes ≤ 140737488355328 := by (try dsimp only); omega) (hm : 0 + k ≤ 9223372036854775807 := by omega) (hd : Nat.blt d n = true := by rfl)
    (h : ∀ A' c', K ⟨(d, .slice A' (0 + k) c') :: tm, bx, ⟨.slice A' (0 + k) c', e, i.size, 0 + k, [] ++ cs⟩ :: rw, ck⟩) :
    VX P n (.x false) ⟨some d, .call { callee := .builtin .append, args := #[x, y], argTypes := #[t, t] }, ty, pos, af, gd⟩ ⟨tm, bx, rw, ck⟩ K :=
  VX.appendG (bx1 := bx) (fun w hw => hw.nilrow e i.size) hx hy ht rfl he hz h0 (fun w hwi => box_cells hwi hbx hcs hp) hb hm hd h

/-! ### Elements of a far slice -/
theorem VX.idxF {α : Type} {enc : α → List Value} {xs : List α} {c0 : World} {S : Nat → Prop} {A : Option Addr} {m c k esz : Nat} {j : Int} {ik : IntKind} {i : TI} {sz0 b0 : Nat} {z0 : Value}
    (hx : ev tm x = some (.slice A m c) := by rfl) (hy : ev tm y = some (.int ik j) := by rfl) (ht : Ty P t ⟨.slice e, sz0, b0, z0⟩ := by rfl) (he : Ty P e i := by rfl)
    (hw : View enc esz c0 S A m xs := by assumption) (hes : Nat.beq esz i.size = true := by rfl) (hk : j = ((k : Nat) : Int) := by first | rfl | exact (Int.toNat_of_nonneg (by omega)).symm) (hlt : k < m := by omega) (hd : Nat.blt d n = true := by rfl)
    (h : K ⟨(d, .pointer (some (elAt A k esz 0))) :: tm, bx, rw, ck⟩) :
    VX P n md ⟨some d, .indexAddr t x y, ty, pos, af, gd⟩ ⟨tm, bx, rw, ck⟩ K :=
  VX.valU (fun a hi w => by
    have h1 := ht.run_und w
    have h2 := he.run_size w
    obtain ⟨ad, rfl, _, _⟩ := hw.at_ (by rw [hw.len]; omega)
    have h3 : elAt (some ad) k esz 0 = ad.add (k * esz) := by simp [elAt, Addr.add]
    subst hk
    rw [Nat.eq_of_beq_eq_true hes] at *
    simp [execOp, Instr.indexAt, asIntOf, hi.ev hx, hi.ev hy, h1, h2, h3]
    omega) hd h

/-! ### Parts of a far slice -/
/-- Where 'x[k:]' begins. -/
def subA (A : Option Addr) (c k sz : Nat) : Option Addr := if c = k then A else A.map (·.add (k * sz))
theorem View.drop {α : Type} {enc : α → List Value} {sz m : Nat} {w : World} {S : Nat → Prop} {A : Option Addr} {xs : List α} (h : View enc sz w S A m xs) {k c : Nat} (hc : m ≤ c) : View enc sz w S (subA A c k sz) (m - k) (xs.drop k) := by
  obtain rfl := h.len
  have hmx := h.max
  refine ⟨h.ok, by simp, by omega, fun hn => ?_⟩
  have hk : k < xs.length := by simp at hn; omega
  obtain ⟨ad, rfl, hs, hcell⟩ := h.at_ (by omega)
  refine ⟨ad.add (k * sz), by simp [subA]; omega, by rw [block_add]; exact hs, fun j hj l u hu => ?_⟩
  rw [List.getElem_drop] at hu
  have := hcell (k + j) (by simp at hj; omega) l u hu
  rw [Nat.add_mul, ← add_add] at this
  exact this
theorem View.take {α : Type} {enc : α → List Value} {sz m : Nat} {w : World} {S : Nat → Prop} {A : Option Addr} {xs : List α} (h : View enc sz w S A m xs) {k : Nat} (hk : k ≤ m) : View enc sz w S A k (xs.take k) := by
  obtain rfl := h.len
  have hmx := h.max
  refine ⟨h.ok, by simp; omega, by omega, fun hn => ?_⟩
  obtain ⟨ad, rfl, hs, hcell⟩ := h.at_ (by simp at hn; omega)
  exact ⟨ad, rfl, hs, fun j hj l u hu => hcell j (by simp at hj; omega) l u (by rw [List.getElem_take] at hu; exact hu)⟩

theorem VX.sliceLo {α : Type} {enc : α → List Value} {xs : List α} {c0 : World} {S : Nat → Prop} {A : Option Addr} {m c k esz : Nat} {j : Int} {ik : IntKind} {i : TI} {sz0 b0 : Nat} {z0 : Value}
    (hx : ev tm x = some (.slice A m c) := by rfl) (hy : ev tm y = some (.int ik j) := by rfl) (ht : Ty P t ⟨.slice e, sz0, b0, z0⟩ := by rfl) (he : Ty P e i := by rfl)
    (hw : View enc esz c0 S A m xs := by assumption) (hes : Nat.beq esz i.size = true := by rfl) (hk : j = ((k : Nat) : Int) := by first | rfl | exact (Int.toNat_of_nonneg (by omega)).symm) (hle : k ≤ m := by omega) (hcap : m ≤ c := by omega) (hd : Nat.blt d n = true := by rfl)
    (h : ∀ A', View enc esz c0 S A' (m - k) (xs.drop k) → K ⟨(d, .slice A' (m - k) (c - k)) :: tm, bx, rw, ck⟩) :
    VX P n md ⟨some d, .slice t x (some y) none none, ty, pos, af, gd⟩ ⟨tm, bx, rw, ck⟩ K :=
  VX.valU (fun a hi w => by
    have h1 := ht.run_und w
    have h2 := he.run_size w
    have h3 : (Instr.sliceBound (.int ik j) m .sliceB).run P w = .ok k w := by
      subst hk
      simp [Instr.sliceBound, asIntOf]
      omega
    have h4 : (if c = k then A else A.map (·.add (k * i.size))) = subA A c k esz := by simp [subA, Nat.eq_of_beq_eq_true hes]
    simp [execOp, Instr.sliceAt, Instr.slice, Instr.sliceBounds, hi.ev hx, hi.ev hy, h1, h2, h3, h4]) hd (h _ (hw.drop hcap))
theorem VX.sliceHi {α : Type} {enc : α → List Value} {xs : List α} {c0 : World} {S : Nat → Prop} {A : Option Addr} {m c k esz : Nat} {j : Int} {ik : IntKind} {i : TI} {sz0 b0 : Nat} {z0 : Value}
    (hx : ev tm x = some (.slice A m c) := by rfl) (hy : ev tm y = some (.int ik j) := by rfl) (ht : Ty P t ⟨.slice e, sz0, b0, z0⟩ := by rfl) (he : Ty P e i := by rfl)
    (hw : View enc esz c0 S A m xs := by assumption) (hk : j = ((k : Nat) : Int) := by first | rfl | exact (Int.toNat_of_nonneg (by omega)).symm) (hle : k ≤ m := by omega) (hcap : m ≤ c := by omega) (hd : Nat.blt d n = true := by rfl)
    (h : View enc esz c0 S A k (xs.take k) → K ⟨(d, .slice A k c) :: tm, bx, rw, ck⟩) :
    VX P n md ⟨some d, .slice t x none (some y) none, ty, pos, af, gd⟩ ⟨tm, bx, rw, ck⟩ K :=
  VX.valU (fun a hi w => by
    have h1 := ht.run_und w
    have h2 := he.run_size w
    have h3 : (Instr.sliceBound (.int ik j) c .sliceAcap).run P w = .ok k w := by
      subst hk
      simp [Instr.sliceBound, asIntOf]
      omega
    have h4 : (if c = 0 then A else A.map (·.add (0 * i.size))) = A := by
      cases A <;> simp [Addr.add]
    simp [execOp, Instr.sliceAt, Instr.slice, Instr.sliceBounds, hi.ev hx, hi.ev hy, h1, h2, h3]
    simpa using h4) hd (h (hw.take hle))

/-! ### Tests with nil -/
theorem run_binop {op : BinOp} {a : Act} {w : World} {vx vy : Value} {t' : TypeId} {dd : Option Tmp} (hx : a.eval x = vx) (hy : a.eval y = vy) (hg : (eqGuard op t x y vx vy).run P w = .ok () w) (hb : (binOp op t vx vy).run P w = .ok v w) :
    (execOp a.eval ⟨dd, .binOp op t x y t', ty, pos, af, gd⟩).run P w = .ok (.value v) w := by
  simp only [execOp, hx, hy, Sem.run_bind, hg, Result.andThen_ok, hb, Sem.run_pure]
theorem run_eqS (w : World) {A : Option Addr} {m c : Nat} (ht : P.underlying t = some (.slice e)) (d : Nat) : (Op.equalIn (d + 1) t (.slice A m c) (.slice none 0 0)).run P w = .ok A.isNone w := by
  cases A <;> simp [Op.equalIn, run_underlying ht]
theorem run_eqI (w : World) {ms : Array (String × TypeId)} (ht : P.underlying t = some (.interface ms)) (d : Nat) : (Op.equalIn (d + 1) t .nilIface .nilIface).run P w = .ok true w := by
  simp [Op.equalIn, run_underlying ht]
theorem run_eqJ (w : World) {ms : Array (String × TypeId)} {u' : TypeId} (ht : P.underlying t = some (.interface ms)) (d : Nat) : (Op.equalIn (d + 1) t (.iface u' u) .nilIface).run P w = .ok false w := by
  simp [Op.equalIn, run_underlying ht]
theorem run_eqlE {w : World} {vx vy : Value} {b : Bool} (hm : (binOp .eql t vx vy) = (do pure (.bool (← Op.equal t vx vy)))) (h : ∀ d, (Op.equalIn (d + 1) t vx vy).run P w = .ok b w) : (binOp .eql t vx vy).run P w = .ok (.bool b) w := by
  rw [hm]
  simp [Op.equal, Op.maxDepth, h 9999]
theorem run_neqE {w : World} {vx vy : Value} {b : Bool} (hm : (binOp .neq t vx vy) = (do pure (.bool (!(← Op.equal t vx vy))))) (h : ∀ d, (Op.equalIn (d + 1) t vx vy).run P w = .ok b w) : (binOp .neq t vx vy).run P w = .ok (.bool (!b)) w := by
  rw [hm]
  simp [Op.equal, Op.maxDepth, h 9999]
theorem VX.eqNilS {A : Option Addr} {m c : Nat} {t' : TypeId} {sz0 b0 : Nat} {z0 : Value} (hx : ev tm x = some (.slice A m c) := by rfl) (hy : ev tm y = some (.slice none 0 0) := by rfl) (ht : Ty P t ⟨.slice e, sz0, b0, z0⟩ := by rfl) (hd : Nat.blt d n = true := by rfl)
    (h : K ⟨(d, .bool A.isNone) :: tm, bx, rw, ck⟩) : VX P n md ⟨some d, .binOp .eql t x y t', ty, pos, af, gd⟩ ⟨tm, bx, rw, ck⟩ K :=
  VX.valU (fun a hi w => run_binop (hi.ev hx) (hi.ev hy) (by simp [eqGuard]) (run_eqlE rfl (run_eqS w ht.und))) hd h
theorem VX.eqNilI {t' : TypeId} {sz0 b0 : Nat} {z0 : Value} {ms : Array (String × TypeId)} (hx : ev tm x = some .nilIface := by rfl) (ht : Ty P t ⟨.interface ms, sz0, b0, z0⟩ := by rfl) (hd : Nat.blt d n = true := by rfl)
    (h : K ⟨(d, .bool true) :: tm, bx, rw, ck⟩) : VX P n md ⟨some d, .binOp .eql t x (.const .nilIface) t', ty, pos, af, gd⟩ ⟨tm, bx, rw, ck⟩ K :=
  VX.valU (fun a hi w => run_binop (vy := .nilIface) (hi.ev hx) rfl (by cases x <;> simp [eqGuard]) (run_eqlE rfl (run_eqI w ht.und))) hd h
theorem VX.eqNilJ {t' u' : TypeId} {sz0 b0 : Nat} {z0 : Value} {ms : Array (String × TypeId)} (hx : ev tm x = some (.iface u' u) := by rfl) (ht : Ty P t ⟨.interface ms, sz0, b0, z0⟩ := by rfl) (hd : Nat.blt d n = true := by rfl)
    (h : K ⟨(d, .bool false) :: tm, bx, rw, ck⟩) : VX P n md ⟨some d, .binOp .eql t x (.const .nilIface) t', ty, pos, af, gd⟩ ⟨tm, bx, rw, ck⟩ K :=
  VX.valU (fun a hi w => run_binop (vy := .nilIface) (hi.ev hx) rfl (by simp [eqGuard]) (run_eqlE rfl (run_eqJ w ht.und))) hd h
theorem VX.neNilI {t' : TypeId} {sz0 b0 : Nat} {z0 : Value} {ms : Array (String × TypeId)} (hx : ev tm x = some .nilIface := by rfl) (ht : Ty P t ⟨.interface ms, sz0, b0, z0⟩ := by rfl) (hd : Nat.blt d n = true := by rfl)
    (h : K ⟨(d, .bool false) :: tm, bx, rw, ck⟩) : VX P n md ⟨some d, .binOp .neq t x (.const .nilIface) t', ty, pos, af, gd⟩ ⟨tm, bx, rw, ck⟩ K :=
  VX.valU (fun a hi w => run_binop (vy := .nilIface) (hi.ev hx) rfl (by cases x <;> simp [eqGuard]) (run_neqE rfl (run_eqI w ht.und))) hd h
theorem VX.neNilJ {t' u' : TypeId} {sz0 b0 : Nat} {z0 : Value} {ms : Array (String × TypeId)} (hx : ev tm x = some (.iface u' u) := by rfl) (ht : Ty P t ⟨.interface ms, sz0, b0, z0⟩ := by rfl) (hd : Nat.blt d n = true := by rfl)
    (h : K ⟨(d, .bool true) :: tm, bx, rw, ck⟩) : VX P n md ⟨some d, .binOp .neq t x (.const .nilIface) t', ty, pos, af, gd⟩ ⟨tm, bx, rw, ck⟩ K :=
  VX.valU (fun a hi w => run_binop (vy := .nilIface) (hi.ev hx) rfl (by simp [eqGuard]) (run_neqE rfl (run_eqJ w ht.und))) hd h

/-! ### A literal slice -/
theorem VX.lit0 {g : Bool} {i : TI} {sz0 b0 : Nat} {z0 : Value} (ht : Ty P t ⟨.slice e, sz0, b0, z0⟩ := by rfl) (he : Ty P e i := by rfl) (hd : Nat.blt d n = true := by rfl)
    (h : ∀ b, K ⟨(d, .slice (some ⟨b, 0, none⟩) 0 0) :: tm, (b, [], e) :: bx, rw, ck⟩) : VX P n (.x g) ⟨some d, .buildSlice t 0 #[], ty, pos, af, gd⟩ ⟨tm, bx, rw, ck⟩ K := fun a w hi => by
  have h1 := ht.run_und w
  have h2 := he.run_size w
  have h3 : (Array.map (fun (x : Nat) => (default : Value)) (Array.range 0)) = #[] := by simp
  refine Oper.wp_of_run (v := .slice (some ⟨w.heap.size, 0, none⟩) 0 0) (w' := w.alloc (.cells #[] e)) ?_ ⟨fun _ => (Below.refl _ _).alloc (Nat.le_refl _) _, _, h w.heap.size, (hi.world (hi.w.alloc [] e)).put d (blt_lt hd) _⟩
  simp [execOp, Instr.buildSlice, h1, h2, Instr.fill, newRow, newObj, Sem.run, h3]

/-! ### The end of a function -/
end
section
variable {P : Program} [HasTab P] {fn : Func} {R : Ending → World → Prop} {n : Nat} {Q : Cont}
variable {tm : Tm} {bx bx' : List Bx} {rw rw' : List Rw} {ck ck' : List (World × (Nat → Prop))}
inductive ResR (P : Program) [HasTab P] (tm : Tm) (bx : List Bx) : List ResultVar → List Value → Prop where
  | nil : ResR P tm bx [] []
  | tmp {t v rs vs} (h : look t tm = some v) (hr : ResR P tm bx rs vs) : ResR P tm bx (.tmp t :: rs) (v :: vs)
  | cell1 {s b cs e t v i rs vs} (h : look s tm = some (.pointer (some ⟨b, 0, none⟩))) (hb : BxAt bx b cs e) (ht : Ty P t i) (hg : isAggD i.d = false) (hv : cs[0]? = some v) (hr : ResR P tm bx rs vs) : ResR P tm bx (.cell s t :: rs) (v :: vs)
  | cellA {s b cs e t i rs vs} (h : look s tm = some (.pointer (some ⟨b, 0, none⟩))) (hb : BxAt bx b cs e) (ht : Ty P t i) (hg : isAggD i.d = true) (hv : cs.length = i.size) (hr : ResR P tm bx rs vs) : ResR P tm bx (.cell s t :: rs) (.agg cs.toArray :: vs)
def one : List Value → Value
  | [v] => v
  | vs => .tuple vs.toArray
theorem ResR.run {rs : List ResultVar} {vs : List Value} {a : Act} {w : World} (hi : Inv n ⟨tm, bx, rw, ck⟩ a w) (h : ResR P tm bx rs vs) :
    (rs.mapM (fun (r : ResultVar) => match r with
      | .tmp t => (pure (a.tmps.getD t undef) : Sem Value)
      | .cell s t => do loadVar t (← asAddr (a.tmps.getD s undef)))).run P w = .ok vs w := by
  induction h with
  | nil => simp
  | @tmp t v rs vs h _ ih =>
    have : a.tmps.getD t undef = v := by simp [hi.tm _ _ h]
    simp only [List.mapM_cons, this, Sem.run_bind, Sem.run_pure, Result.andThen_ok, ih]
  | @cell1 s b cs e t v i rs vs h hb ht hg hv _ ih =>
    have h1 : a.tmps.getD s undef = .pointer (some ⟨b, 0, none⟩) := by simp [hi.tm _ _ h]
    have h2 := run_load1 ht hg ((cell_bx hi.w hb 0).trans hv)
    simp only [Instr.loadAt, Instr.sureAddr, Sem.run_bind, Sem.run_pure, Result.andThen_ok] at h2
    have h3 : (asAddr (a.tmps.getD s undef)).run P w = .ok ⟨b, 0, none⟩ w := by rw [h1]; simp [asAddr]
    simp only [List.mapM_cons, Sem.run_bind, Sem.run_pure, Result.andThen_ok, h3, h2, ih]
  | @cellA s b cs e t i rs vs h hb ht hg hv _ ih =>
    have h1 : a.tmps.getD s undef = .pointer (some ⟨b, 0, none⟩) := by simp [hi.tm _ _ h]
    have h2 := run_loadA (P := P) (a := ⟨b, 0, none⟩) (w := w) ht hg hv (fun j u hu => by rw [add_none, Nat.zero_add, cell_bx hi.w hb]; exact hu)
    simp only [Instr.loadAt, Instr.sureAddr, Sem.run_bind, Sem.run_pure, Result.andThen_ok] at h2
    have h3 : (asAddr (a.tmps.getD s undef)).run P w = .ok ⟨b, 0, none⟩ w := by rw [h1]; simp [asAddr]
    simp only [List.mapM_cons, Sem.run_bind, Sem.run_pure, Result.andThen_ok, h3, h2, ih]

theorem run_results {rs : List ResultVar} {vs : List Value} {a : Act} {w : World} (hr : fn.results = rs.toArray) (hi : Inv n ⟨tm, bx, rw, ck⟩ a w) (h : ResR P tm bx rs vs) : (results fn a.tmps).run P w = .ok (one vs) w := by
  have h1 := h.run hi
  unfold results
  rw [hr, List.mapM_toArray]
  simp only [map_eq_pure_bind, bind_assoc, pure_bind, Sem.run_bind]
  refine Eq.trans (congrArg (fun (r : Result (List Value)) => r.andThen _) (Eq.trans ?_ h1)) ?_
  · rfl
  simp only [Result.andThen_ok, Sem.run_pure]
  match vs with
  | [] => simp [one]
  | [v] => simp [one]
  | v :: u :: vs => simp [one]

theorem V.ret {rs : List ResultVar} {vs : List Value} (hr : fn.results = rs.toArray) (hv : ResR P tm bx rs vs) (h : ∀ w, WInv ⟨tm, bx, rw, ck⟩ w → R (.returned (one vs)) w) : V P fn R n .ret ⟨tm, bx, rw, ck⟩ Q := fun a w hi =>
  wp_ret ⟨hi.dfr, one vs, run_results hr hi hv, h w hi.w⟩

/-- A function that falls off its end. -/
def finQ (P : Program) (fn : Func) (R : Ending → World → Prop) (n : Nat) : Cont
  | .normal, σ => ∀ a w, Inv n σ a w → bodyPost P fn R .normal a w
  | _, _ => False
theorem finQ_end {rs : List ResultVar} {vs : List Value} (hr : fn.results = rs.toArray) (hv : ResR P tm bx rs vs) (h : ∀ w, WInv ⟨tm, bx, rw, ck⟩ w → R (.returned (one vs)) w) : finQ P fn R n .normal ⟨tm, bx, rw, ck⟩ := fun a w hi =>
  ⟨hi.dfr, one vs, run_results hr hi hv, h w hi.w⟩

/-- The way in: what is known of the world at the call. -/
theorem calls_gen {f : Nat} {c : Code} {vs : List Value} {w : World} {nt : Nat} (hf : P.funcs[f]? = some fn) (hb : fn.body = some c) (hn : fn.ntmps = nt) (hle : Nat.ble vs.length nt = true)
    (hw : WInv ⟨tm, bx, rw, ck⟩ w) (htm : ∀ t x, look t tm = some x → vs[t]? = some x) (h : V P fn R nt c ⟨tm, bx, rw, ck⟩ (finQ P fn R nt)) : Calls P f vs.toArray w R := by
  have hle' : vs.length ≤ nt := Nat.le_of_ble_eq_true hle
  refine calls_of_wp hf hb (wp_mono (h { tmps := vs.toArray ++ Array.replicate (fn.ntmps - vs.toArray.size) undef, defers := [] } w ⟨⟨rfl, by simp [hn]; omega, fun t x hx => ?_⟩, hw⟩) fun e a w' ho => ?_)
  · have h1 := htm t x hx
    have h2 := (List.getElem?_eq_some_iff.1 h1).1
    rw [Array.getElem?_append_left (by simpa using h2)]
    simpa using h1
  · cases e with
    | normal => obtain ⟨σ, h1, h2⟩ := ho; exact h1 a w' h2
    | ret => exact ho
    | exit i => obtain ⟨σ, h1, _⟩ := ho; exact h1
    | goto l => exact (ho : False).elim
    | panic c => exact (ho : False).elim
    | outgrown => exact (ho : False).elim

theorem WInv.start (w : World) : WInv ⟨tm, [], [], [(w, Low w)]⟩ w :=
  ⟨by simp, by simp, by simp [St.blks], fun c hc => by simp at hc; subst hc; exact Keeps.refl fun g hg => hg, fun c hc b hb => by simp [St.blks] at hb⟩

/-- What was there below the call's start is as it was. -/
theorem WInv.below_of {σ : St} {w w0 : World} (h : WInv σ w) (hc : CkAt σ.ck w0 (Low w0)) : Below w0.heap.size w0 w :=
  let k := h.ck _ hc.mem
  ⟨k.os, k.tape, k.output, k.size, fun g hg => (k.blk g hg).2⟩
theorem WInv.rowNew {σ : St} {w w0 : World} (h : WInv σ w) (hc : CkAt σ.ck w0 (Low w0)) {v : Value} {e : TypeId} {sz n : Nat} {xs : List Value} (hr : RwAt σ.rw ⟨v, e, sz, n, xs⟩) : NewRow w0 e sz v n xs w :=
  ⟨h.rw _ hr.mem, fun g hg => Nat.le_of_not_lt fun hl => h.sep _ hc.mem _ (mem_blks_rw hr.mem) g hg hl⟩
theorem NewRow.nil_ (w0 w : World) (e : TypeId) (sz : Nat) : NewRow w0 e sz (.slice none 0 0) 0 [] w := ⟨World.ownsRow_nil w 0 e sz, fun g hg => by simp [Value.ownBlock] at hg⟩

def zipT : Nat → List Value → Tm
  | _, [] => []
  | k, v :: r => (k, v) :: zipT (k + 1) r
theorem look_zipT : ∀ (vs : List Value) (k t : Nat) (x : Value), look t (zipT k vs) = some x → k ≤ t ∧ vs[t - k]? = some x
  | [], k, t, x, h => by simp [zipT, look] at h
  | v :: r, k, t, x, h => by
    simp only [zipT, look] at h
    split at h
    · rename_i hb
      have := Nat.eq_of_beq_eq_true hb
      subst this
      simp at h
      simp [h]
    · rename_i hb
      obtain ⟨h1, h2⟩ := look_zipT r (k + 1) t x h
      refine ⟨by omega, ?_⟩
      rw [show t - k = (t - (k + 1)) + 1 by omega]
      simpa using h2

/-- The way in, where nothing is written that was there. -/
theorem calls_start {f : Nat} {c : Code} {vs : List Value} {w : World} {nt : Nat} (hf : P.funcs[f]? = some fn) (hb : fn.body = some c) (hn : fn.ntmps = nt) (hle : Nat.ble vs.length nt = true)
    (h : V P fn R nt c ⟨zipT 0 vs, [], [], [(w, Low w)]⟩ (finQ P fn R nt)) : Calls P f vs.toArray w R :=
  calls_gen hf hb hn hle (WInv.start w) (fun t x hx => (look_zipT vs 0 t x hx).2) h

end

end Go.Vg
