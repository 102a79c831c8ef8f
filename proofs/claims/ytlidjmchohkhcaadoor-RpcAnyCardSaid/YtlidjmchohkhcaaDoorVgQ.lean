/-
  Vg, part Q: the call's own rows, element by element; callees that write into them; slices made.
-/
import Derived.Test.YtlidjmchohkhcaaDoorVgP
import Derived.Laws.MakeOwn
set_option linter.unusedVariables false
set_option linter.unusedSimpArgs false
set_option linter.unusedSectionVars false
namespace Go.Vg
open Go.RowKit

theorem csPut_append_right {a b vs : List Value} {o : Nat} (h : CsPut a o vs b) (r : List Value) : CsPut (a ++ r) o vs (b ++ r) := by
  induction h with
  | nil => exact CsPut.nil
  | take _ ih => exact CsPut.take ih
  | drop _ ih => exact CsPut.drop ih
theorem csPut_append_left : ∀ (p : List Value) {a b vs : List Value} {o : Nat}, CsPut a o vs b → CsPut (p ++ a) (p.length + o) vs (p ++ b)
  | [], _, _, _, _, h => by simpa using h
  | x :: p, a, b, vs, o, h => by
    rw [List.length_cons, show p.length + 1 + o = (p.length + o) + 1 by omega]
    exact CsPut.drop (csPut_append_left p h)
/-- An element of a row is another. -/
theorem csPut_flat {α : Type} {enc : α → List Value} {sz : Nat} (hsz : ∀ x, (enc x).length = sz) : ∀ (ys : List α) (k : Nat) (hk : k < ys.length) (y : α) (o : Nat) (vs : List Value), CsPut (enc ys[k]) o vs (enc y) → CsPut (ys.flatMap enc) (k * sz + o) vs ((ys.set k y).flatMap enc)
  | z :: ys, 0, hk, y, o, vs, h => by
    simp only [List.flatMap_cons, Nat.zero_mul, Nat.zero_add, List.set_cons_zero]
    exact csPut_append_right h _
  | z :: ys, k + 1, hk, y, o, vs, h => by
    have ih := csPut_append_left (enc z) (csPut_flat hsz ys k (by simpa using hk) y o vs (by simpa using h))
    simp only [List.flatMap_cons, List.set_cons_succ]
    rw [hsz] at ih
    rw [Nat.add_mul, Nat.one_mul, show k * sz + sz + o = sz + (k * sz + o) by omega]
    exact ih
theorem csPut_whole : ∀ {a vs : List Value}, a.length = vs.length → CsPut a 0 vs vs
  | [], [], _ => CsPut.nil
  | _ :: _, _ :: _, h => CsPut.take (csPut_whole (by simpa using h))

section
variable {tm : Tm} {bx bx' : List Bx} {rw rw' : List Rw} {ck ck' : List (World × (Nat → Prop))} {w w' : World} {e : TypeId}
/-- What stands at the head of the rows is written into. -/
theorem WInv.rowstore {P : Program} [HasTab P] {g n c sz : Nat} {xs xs' vs : List Value} {off : Nat} (h : WInv ⟨tm, bx, ⟨.slice (some ⟨g, 0, none⟩) n c, e, sz, n, xs⟩ :: rw, ck⟩ w) (hput : CsPut xs off vs xs') (hp : ∀ u, u ∈ vs → plainV u = true) :
    ∃ w', (storeCells ⟨g, off, none⟩ vs 0).run P w = .ok () w' ∧ WInv ⟨tm, bx, ⟨.slice (some ⟨g, 0, none⟩) n c, e, sz, n, xs'⟩ :: rw, ck⟩ w' := by
  obtain ⟨q1, q2, q3⟩ := hput.eq
  have hown : w.ownsRow 0 e sz (.slice (some ⟨g, 0, none⟩) n c) n xs := h.rw _ List.mem_cons_self
  obtain ⟨hl, hh⟩ := hown
  rcases hh with ⟨hn, _⟩ | ⟨g', cap, cur, hv, hb, hg, h1, h2, h3, h4⟩
  · cases hn
  · injection hv with hv1 hv2 hv3
    injection hv1 with hv1
    injection hv1 with hv1
    subst hv1 hv3
    have hcl : cur.toList.length = c * sz := by simpa using h3
    have hxl : xs.length = n * sz := hl
    have hle : n * sz ≤ c * sz := Nat.mul_le_mul_right _ h1
    obtain ⟨w', cs', r1, r2, r3, r4, r5, r6, r7, r8, r9⟩ := run_storeCells_box (P := P) vs off 0 cur.toList (by simpa using hg) hp (by omega)
    refine ⟨w', r1, h.append (v' := .slice (some ⟨g, 0, none⟩) n c) ⟨r5, r6, r7, by omega, fun k hk hne => r9 k (fun e => hne (by rw [e]; rfl))⟩ ⟨by rw [q1]; exact hl, .inr ⟨g, c, cs'.toArray, rfl, Nat.zero_le _, r2, h1, h2, by simpa using r3.trans hcl, ?_⟩⟩ (.inl rfl)⟩
    apply List.ext_getElem?
    intro j
    rw [q3 j]
    simp only [List.getElem?_take]
    have hx : ∀ j, j < n * sz → cur.toList[j]? = xs[j]? := fun j hj => by rw [← h4, List.getElem?_take, if_pos hj]
    by_cases hj : j < n * sz
    · rw [if_pos hj, r4 j]
      simp only [Nat.add_zero]
      by_cases hr : off ≤ j ∧ j < off + vs.length
      · rw [if_pos hr, if_pos hr]
      · rw [if_neg hr, if_neg hr, hx j hj]
    · rw [if_neg hj]
      have : ¬ (off ≤ j ∧ j < off + vs.length) := by omega
      rw [if_neg this, List.getElem?_eq_none (by omega)]
theorem row_cell {σ : St} {g n c sz : Nat} {xs : List Value} (h : WInv σ w) (hr : RwAt σ.rw ⟨.slice (some ⟨g, 0, none⟩) n c, e, sz, n, xs⟩) {j : Nat} {u : Value} (hu : xs[j]? = some u) : w.cell? ⟨g, j, none⟩ = some u := by
  have := (h.rw _ hr.mem).cells (g := g) rfl j u hu
  rwa [add_none, Nat.zero_add] at this
theorem own_some {base n sz : Nat} {A : Option Addr} {c : Nat} {xs : List Value} (h : w.ownsRow base e sz (.slice A n c) n xs) (h0 : 0 < n) : ∃ g, A = some ⟨g, 0, none⟩ ∧ n ≤ c := by
  rcases h.2 with ⟨hn, h1⟩ | ⟨g, cap, cur, hv, _, _, h2, _⟩
  · omega
  · injection hv with hv1 hv2 hv3
    exact ⟨g, hv1, by omega⟩
/-- A row is given up. -/
theorem WInv.droprow {r : Rw} (h : WInv ⟨tm, bx, r :: rw, ck⟩ w) : WInv ⟨tm, bx, rw, ck⟩ w := by
  have h1 : WInv ⟨tm, bx ++ [], rw ++ [r], ck⟩ w := h.perm (by simp) (by simpa using (List.perm_append_comm (l₁ := [r]) (l₂ := rw)))
  have hs : (St.blks ⟨tm, bx, rw, ck⟩).Sublist (St.blks ⟨tm, bx ++ [], rw ++ [r], ck⟩) := by
    simp only [St.blks, List.map_append, List.append_nil]
    exact (List.Sublist.refl _).append (List.sublist_append_left _ _)
  exact ⟨h.bx, fun r' hr => h.rw r' (List.mem_cons_of_mem _ hr), h1.ap.sublist hs, h.ck, fun c k b hb => h1.sep c k b (hs.subset hb)⟩
end

section
variable {P : Program} {fn : Func} {R : Ending → World → Prop} {n : Nat} {Q : Cont} {ops : Array Oper} {l : List Oper} {c : Code} {σ : St}
/-- What holds of each world that is as the state says, is known. -/
theorem V.know {φ : Prop} (hk : ∀ w, WInv σ w → φ) (h : φ → V P fn R n c σ Q) : V P fn R n c σ Q := fun a w hi => h (hk w hi.w) a w hi
theorem VO.know {φ : Prop} (hk : ∀ w, WInv σ w → φ) (h : φ → VO P fn R n ops l σ Q) : VO P fn R n ops l σ Q := fun a w hi => h (hk w hi.w) a w hi
end

section
variable {P : Program} [HasTab P] {n : Nat} {K : St → Prop} {md : M} {gd : Option (Nat × Bool)}
variable {tm : Tm} {bx bx' : List Bx} {rw rw' : List Rw} {ck ck' : List (World × (Nat → Prop))}
variable {d : Tmp} {ty t e : TypeId} {pos : String} {af : Array Edge} {x y z : Operand} {v u : Value}
theorem VX.idxR {g m c k : Nat} {j : Int} {ik : IntKind} {i : TI} {s0 b0 : Nat} {z0 : Value} (hx : ev tm x = some (.slice (some ⟨g, 0, none⟩) m c) := by rfl) (hy : ev tm y = some (.int ik j) := by rfl) (ht : Ty P t ⟨.slice e, s0, b0, z0⟩ := by rfl) (he : Ty P e i := by rfl)
    (hk : j = ((k : Nat) : Int) := by first | rfl | exact (Int.toNat_of_nonneg (by omega)).symm) (hlt : k < m := by omega) (hd : Nat.blt d n = true := by rfl)
    (h : K ⟨(d, .pointer (some ⟨g, k * i.size, none⟩)) :: tm, bx, rw, ck⟩) : VX P n md ⟨some d, .indexAddr t x y, ty, pos, af, gd⟩ ⟨tm, bx, rw, ck⟩ K :=
  VX.valU (fun a hi w => by
    subst hk
    have h1 := ht.run_und w
    have h2 := he.run_size w
    simp [execOp, Instr.indexAt, Instr.sureAddr, asIntOf, hi.ev hx, hi.ev hy, h1, h2, hlt, add_none]) hd h
theorem VX.idxR1 {g m c k : Nat} {j : Int} {ik : IntKind} {i : TI} {s0 b0 : Nat} {z0 : Value} (hx : ev tm x = some (.slice (some ⟨g, 0, none⟩) m c) := by rfl) (hy : ev tm y = some (.int ik j) := by rfl) (ht : Ty P t ⟨.slice e, s0, b0, z0⟩ := by rfl) (he : Ty P e i := by rfl) (hs : Nat.beq i.size 1 = true := by rfl)
    (hk : j = ((k : Nat) : Int) := by first | rfl | exact (Int.toNat_of_nonneg (by omega)).symm) (hlt : k < m := by omega) (hd : Nat.blt d n = true := by rfl)
    (h : K ⟨(d, .pointer (some ⟨g, k, none⟩)) :: tm, bx, rw, ck⟩) : VX P n md ⟨some d, .indexAddr t x y, ty, pos, af, gd⟩ ⟨tm, bx, rw, ck⟩ K :=
  VX.idxR hx hy ht he hk hlt hd (by rw [Nat.eq_of_beq_eq_true hs, Nat.mul_one]; exact h)
theorem VX.loadR {g m c sz off : Nat} {xs : List Value} {i : TI} (hm : md.sees = true := by rfl) (hx : ev tm x = some (.pointer (some ⟨g, off, none⟩)) := by rfl) (hr : RwAt rw ⟨.slice (some ⟨g, 0, none⟩) m c, e, sz, m, xs⟩ := by ((repeat' (guard_target =~ RwAt _ _; first | exact RwAt.head | refine' RwAt.tail _)); fail_if_success refine ?_)) (ht : Ty P t i := by rfl)
    (hg : isAggD i.d = false := by rfl) (hv : xs[off]? = some v) (hd : Nat.blt d n = true := by rfl)
    (h : K ⟨(d, v) :: tm, bx, rw, ck⟩) : VX P n md ⟨some d, .load t x, ty, pos, af, gd⟩ ⟨tm, bx, rw, ck⟩ K :=
  VX.val hm (fun a w hi => by
    have := run_load1 ht hg (row_cell hi.w hr hv)
    simp [execOp, hi.ev hx, this]) hd h
/-- A whole element of a row. -/
theorem VX.loadRA {α : Type} {enc : α → List Value} {g m c sz k : Nat} {ys : List α} {i : TI} (hm : md.sees = true := by rfl) (hx : ev tm x = some (.pointer (some ⟨g, k * sz, none⟩)) := by rfl) (hr : RwAt rw ⟨.slice (some ⟨g, 0, none⟩) m c, e, sz, m, ys.flatMap enc⟩ := by ((repeat' (guard_target =~ RwAt _ _; first | exact RwAt.head | refine' RwAt.tail _)); fail_if_success refine ?_)) (ht : Ty P t i := by rfl)
    (hg : isAggD i.d = true := by rfl) (hok : EncOk enc sz := by assumption) (hs : Nat.beq i.size sz = true := by rfl) (hk : k < ys.length := by omega) (hd : Nat.blt d n = true := by rfl)
    (h : K ⟨(d, .agg (enc ys[k]).toArray) :: tm, bx, rw, ck⟩) : VX P n md ⟨some d, .load t x, ty, pos, af, gd⟩ ⟨tm, bx, rw, ck⟩ K :=
  VX.val hm (fun a w hi => by
    have := run_loadA (P := P) (a := ⟨g, k * sz, none⟩) (w := w) (l := enc ys[k]) ht hg (by rw [hok.len, Nat.eq_of_beq_eq_true hs]) (fun j u hu => by
      rw [add_none]
      exact row_cell hi.w hr (getElem?_flatMap enc sz hok.len ys k hk j u hu))
    simp [execOp, hi.ev hx, this]) hd h
theorem VX.storeR {g m c sz off : Nat} {xs xs' vs : List Value} {i : TI} (hx : ev tm x = some (.pointer (some ⟨g, off, none⟩)) := by rfl) (hy : ev tm y = some v := by rfl) (ht : Ty P t i := by rfl)
    (hvs : v.cells = vs.toArray) (hl : vs.length = i.size := by rfl) (hp : ∀ u, u ∈ vs → plainV u = true)
    (hr : RwDel rw ⟨.slice (some ⟨g, 0, none⟩) m c, e, sz, m, xs⟩ rw' := by ((repeat' (guard_target =~ RwDel _ _ _; first | exact RwDel.head | refine' RwDel.tail _)); fail_if_success refine ?_)) (hput : CsPut xs off vs xs')
    (h : K ⟨tm, bx, ⟨.slice (some ⟨g, 0, none⟩) m c, e, sz, m, xs'⟩ :: rw', ck⟩) : VX P n (.x false) ⟨none, .store t x y, ty, pos, af, gd⟩ ⟨tm, bx, rw, ck⟩ K :=
  VX.unit (fun a w hi => by
    obtain ⟨w', h1, h2⟩ := (hi.w.perm (List.Perm.refl _) hr.perm).rowstore (P := P) hput hp
    have hsz := ht.run_size w
    refine ⟨w', ?_, h2⟩
    simp [execOp, hi.ev hx, hi.ev hy, Instr.storeAt, Instr.sureAddr, storeVar, hsz, hvs, hl, h1]) h
/-- A whole element is written. -/
theorem VX.storeRE {α : Type} {enc : α → List Value} {g m c sz k : Nat} {ys : List α} {i : TI} (yv : α) (hx : ev tm x = some (.pointer (some ⟨g, k * sz, none⟩)) := by rfl) (hy : ev tm y = some v := by rfl) (ht : Ty P t i := by rfl)
    (hvs : v.cells = (enc yv).toArray := by rfl) (hok : EncOk enc sz := by assumption) (hs : Nat.beq i.size sz = true := by rfl) (hpl : (enc yv).all plainV = true := by first | rfl | simp_all)
    (hr : RwDel rw ⟨.slice (some ⟨g, 0, none⟩) m c, e, sz, m, ys.flatMap enc⟩ rw' := by ((repeat' (guard_target =~ RwDel _ _ _; first | exact RwDel.head | refine' RwDel.tail _)); fail_if_success refine ?_)) (hk : k < ys.length := by omega)
    (h : K ⟨tm, bx, ⟨.slice (some ⟨g, 0, none⟩) m c, e, sz, m, (ys.set k yv).flatMap enc⟩ :: rw', ck⟩) : VX P n (.x false) ⟨none, .store t x y, ty, pos, af, gd⟩ ⟨tm, bx, rw, ck⟩ K :=
  VX.storeR hx hy ht hvs (by rw [hok.len, Nat.eq_of_beq_eq_true hs]) (by simpa using hpl) hr (by
    have := csPut_flat hok.len ys k hk yv 0 (enc yv) (csPut_whole (by rw [hok.len, hok.len]))
    simpa using this) h
/-- A callee that writes into a row that is given up to it. -/
theorem VX.callS {f : Nat} {args : List Operand} {ts : Array TypeId} {vs : List Value} {dd : Option Tmp} {r : Rw}
    (hv : Evs tm args vs := by ((repeat' (guard_target =~ Evs _ _ _; first | exact Evs.nil | refine' Evs.cons rfl _)); fail_if_success refine ?_)) (hF : nmem f (HasTab.F P) = true := by rfl) (hd : dOk n dd = true := by rfl)
    (hr : RwDel rw r rw') (hc : ∀ w, WInv ⟨[], bx, r :: rw', ck⟩ w → Calls P f vs.toArray w fun e w' => e = .returned (.tuple #[]) ∧ WInv ⟨[], bx, rw', ck⟩ w')
    (h : K ⟨putT dd (.tuple #[]) tm, bx, rw', ck⟩) :
    VX P n (.x false) ⟨dd, .call { callee := .value (.func f), args := args.toArray, argTypes := ts }, ty, pos, af, gd⟩ ⟨tm, bx, rw, ck⟩ K :=
  VX.callG (ζ := Unit) (fun _ => (bx, rw', ck)) (fun u _ => u = .tuple #[]) hv hF hd
    (fun w hw => (hc w (hw.perm (List.Perm.refl _) hr.perm).tm).mono fun e w' ⟨he, hb⟩ => ⟨_, (), he, rfl, fun e => (by cases e), hb.tm⟩) (by rintro _ _ rfl; exact h)
/-- 'make': a row of zeros. -/
theorem VX.makeR {g : Bool} {i : TI} {k : Nat} {l1 l2 : Int} {k1 k2 : IntKind} {s0 b0 : Nat} {z0 : Value} (hx : ev tm x = some (.int k1 l1) := by rfl) (hy : ev tm y = some (.int k2 l2) := by rfl) (ht : Ty P t ⟨.slice e, s0, b0, z0⟩ := by rfl) (he : Ty P e i := by rfl)
    (hz : plainV i.zero = true := by rfl) (hs : Nat.beq i.size 1 = true := by rfl) (h1 : l1 = ((k : Nat) : Int) := by first | rfl | omega) (h2 : l2 = ((k : Nat) : Int) := by first | rfl | omega) (hb : i.bytes * k ≤ 281474976710656 := by simp only []; omega) (hm : k ≤ 9223372036854775807 := by omega) (hd : Nat.blt d n = true := by rfl)
    (h : ∀ b, K ⟨(d, .slice (some ⟨b, 0, none⟩) k k) :: tm, bx, ⟨.slice (some ⟨b, 0, none⟩) k k, e, 1, k, List.replicate k i.zero⟩ :: rw, ck⟩) :
    VX P n (.x g) ⟨some d, .makeSlice t x y, ty, pos, af, gd⟩ ⟨tm, bx, rw, ck⟩ K := fun a w hi => by
  subst h1 h2
  obtain ⟨inf, i1, i2, i3, i4⟩ := he.info
  have hsz : i.size = 1 := Nat.eq_of_beq_eq_true hs
  have hb' : (inf.bytes : Int) * (k : Int) ≤ 281474976710656 := by
    rw [i4]
    have : ((i.bytes * k : Nat) : Int) ≤ 281474976710656 := by omega
    simpa using this
  have hrun := run_make (P := P) w t e inf i.zero ht.und i1 i2 k1 k2 (k : Int) (k : Int) (by omega) (by omega) hb' (by omega)
  rw [i3, hsz, Int.toNat_natCast, Nat.mul_one] at hrun
  have hc := plainV_cells hz
  have hmade : madeCells i.zero.cells k = (List.replicate k i.zero).toArray := by
    rw [hc]
    apply Array.ext_getElem?
    intro j
    by_cases hj : j < k <;> simp [madeCells, hj, Nat.mod_one]
  rw [hmade] at hrun
  have hbel : Below w.heap.size w (w.alloc (.cells (List.replicate k i.zero).toArray e)) := (Below.refl _ _).alloc (Nat.le_refl _) _
  refine Oper.wp_of_run (v := .slice (some ⟨w.heap.size, 0, none⟩) k k) (w' := w.alloc (.cells (List.replicate k i.zero).toArray e)) ?_ ⟨fun _ => hbel, _, h w.heap.size, (hi.world (hi.w.row hbel (sz := 1) (n := k) ⟨by simp, .inr ⟨w.heap.size, k, _, rfl, Nat.zero_le _, heap_alloc_new w _, Nat.le_refl _, by simpa [maxLen] using hm, by simp, by simp⟩⟩ (fun g hg => by simp [Value.ownBlock] at hg; omega))).put d (blt_lt hd) _⟩
  simp [execOp, hi.ev hx, hi.ev hy, hrun]
end
end Go.Vg
