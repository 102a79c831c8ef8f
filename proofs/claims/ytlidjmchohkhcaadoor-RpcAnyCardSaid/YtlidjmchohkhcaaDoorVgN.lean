/-
  Vg, part N: guarded operations within a region whose order is open.
-/
import Derived.Test.YtlidjmchohkhcaaDoorVgM
set_option linter.unusedVariables false
set_option linter.unusedSimpArgs false
set_option linter.unusedSectionVars false
namespace Go.Vg
open Go.RowKit
section
variable {P : Program} [HasTab P] {fn : Func} {R : Ending → World → Prop} {n : Nat} {Q : Cont} {ops : Array Oper} {bad : List Nat}
variable {tm : Tm} {bx : List Bx} {rw : List Rw} {ck : List (World × (Nat → Prop))} {σ τ : St}
variable {ty : TypeId} {pos : String} {af : Array Edge} {op : Op} {dd : Option Tmp}

theorem VX.guard_u {o : Op} {g g' : Option (Nat × Bool)} {K : St → Prop} (h : VX P n .u ⟨dd, o, ty, pos, af, g⟩ σ K) : VX P n .u ⟨dd, o, ty, pos, af, g'⟩ σ K := h
theorem VX.guard_l {o : Op} {g g' : Option (Nat × Bool)} {K : St → Prop} (h : VX P n .l ⟨dd, o, ty, pos, af, g⟩ σ K) : VX P n .l ⟨dd, o, ty, pos, af, g'⟩ σ K := h
/-- A guarded one that is taken. -/
theorem VP.ug {i j tg : Nat} {b g : Bool} {p : Plan} (ho : ops.toList[i]? = some ⟨dd, op, ty, pos, af, some (j, b)⟩) (hj : gdst ops j = some tg) (hl : look tg σ.tm = some (.bool g)) (hg : g = b)
    (h : VX P n .u ⟨dd, op, ty, pos, af, some (j, b)⟩ σ fun τ => VP P fn R n ops bad p τ Q) : VP P fn R n ops bad (.u i p) σ Q := fun hs fuel listed hok a w hi => by
  obtain ⟨v, h1, h2⟩ := h
  have hy := yielded_of (ops := ops) hj hl hi.toTInv
  cases fuel with
  | zero => simp [okPlan] at hok
  | succ fuel =>
    simp only [okPlan, Bool.and_eq_true] at hok
    rw [Array.getElem?_toList] at ho
    obtain ⟨τ, h3, h4⟩ := dst_inv (K := fun τ => VP P fn R n ops bad p τ Q) h2 hi
    exact wpB_first (all := true) ho (Region.noSelect_spec hs) (fun c a w hq => hq) fuel listed a w (freeB_spec ho hok.1.1) (by simpa using hok.1.2)
      (.inl ⟨by simp [Region.wanted, hy, hg], fun w' _ => h1 a hi.toTInv w'⟩) (h3 hs fuel _ hok.2 _ w h4)
theorem VP.lg {i j tg : Nat} {b g : Bool} {p : Plan} (ho : ops.toList[i]? = some ⟨dd, op, ty, pos, af, some (j, b)⟩) (hj : gdst ops j = some tg) (hl : look tg σ.tm = some (.bool g)) (hg : g = b)
    (h : VX P n .l ⟨dd, op, ty, pos, af, some (j, b)⟩ σ fun τ => VP P fn R n ops bad p τ Q) : VP P fn R n ops bad (.l i p) σ Q := fun hs fuel listed hok a w hi => by
  obtain ⟨v, h1, h2⟩ := h
  have hy := yielded_of (ops := ops) hj hl hi.toTInv
  cases fuel with
  | zero => simp [okPlan] at hok
  | succ fuel =>
    simp only [okPlan, Bool.and_eq_true] at hok
    rw [Array.getElem?_toList] at ho
    obtain ⟨τ, h3, h4⟩ := dst_inv (K := fun τ => VP P fn R n ops bad p τ Q) h2 hi
    exact wpB_first (all := false) ho (Region.noSelect_spec hs) (fun c a w hq => hq) fuel listed a w (freeB_spec ho hok.1.1) (by simpa using hok.1.2)
      (.inl ⟨by simp [Region.wanted, hy, hg], fun w' hb => h1 a w' ⟨hi.toTInv, hi.w.below (hb.resolve_left (by simp))⟩⟩) (h3 hs fuel _ hok.2 _ w h4)
theorem put_inv {tm : Tm} {a : Act} {w : World} (hi : Inv n ⟨tm, bx, rw, ck⟩ a w) (hd : dOk n dd = true) : Inv n ⟨putT dd undef tm, bx, rw, ck⟩ (a.put dd undef) w := by
  cases dd with
  | none => exact hi
  | some d => exact hi.put d (blt_lt hd) undef
/-- .. that is left out. -/
theorem VP.us {i j tg : Nat} {b g : Bool} {p : Plan} (ho : ops.toList[i]? = some ⟨dd, op, ty, pos, af, some (j, b)⟩) (hj : gdst ops j = some tg) (hl : look tg tm = some (.bool g)) (hg : g = !b) (hd : dOk n dd = true)
    (h : VP P fn R n ops bad p ⟨putT dd undef tm, bx, rw, ck⟩ Q) : VP P fn R n ops bad (.u i p) ⟨tm, bx, rw, ck⟩ Q := fun hs fuel listed hok a w hi => by
  have hy := yielded_of (ops := ops) hj hl hi.toTInv
  cases fuel with
  | zero => simp [okPlan] at hok
  | succ fuel =>
    simp only [okPlan, Bool.and_eq_true] at hok
    rw [Array.getElem?_toList] at ho
    exact wpB_first (all := true) ho (Region.noSelect_spec hs) (fun c a w hq => hq) fuel listed a w (freeB_spec ho hok.1.1) (by simpa using hok.1.2)
      (.inr ⟨by simp [Region.wanted, hy, hg], rfl⟩) (h hs fuel _ hok.2 _ w (put_inv hi hd))
theorem VP.ls {i j tg : Nat} {b g : Bool} {p : Plan} (ho : ops.toList[i]? = some ⟨dd, op, ty, pos, af, some (j, b)⟩) (hj : gdst ops j = some tg) (hl : look tg tm = some (.bool g)) (hg : g = !b) (hd : dOk n dd = true)
    (h : VP P fn R n ops bad p ⟨putT dd undef tm, bx, rw, ck⟩ Q) : VP P fn R n ops bad (.l i p) ⟨tm, bx, rw, ck⟩ Q := fun hs fuel listed hok a w hi => by
  have hy := yielded_of (ops := ops) hj hl hi.toTInv
  cases fuel with
  | zero => simp [okPlan] at hok
  | succ fuel =>
    simp only [okPlan, Bool.and_eq_true] at hok
    rw [Array.getElem?_toList] at ho
    exact wpB_first (all := false) ho (Region.noSelect_spec hs) (fun c a w hq => hq) fuel listed a w (freeB_spec ho hok.1.1) (by simpa using hok.1.2)
      (.inr ⟨by simp [Region.wanted, hy, hg], rfl⟩) (h hs fuel _ hok.2 _ w (put_inv hi hd))
theorem VP.usn {i j tg : Nat} {b : Bool} {p : Plan} (ho : ops.toList[i]? = some ⟨dd, op, ty, pos, af, some (j, b)⟩) (hj : gdst ops j = some tg) (hl : look tg tm = some undef) (hd : dOk n dd = true)
    (h : VP P fn R n ops bad p ⟨putT dd undef tm, bx, rw, ck⟩ Q) : VP P fn R n ops bad (.u i p) ⟨tm, bx, rw, ck⟩ Q := fun hs fuel listed hok a w hi => by
  have hy := yielded_un (ops := ops) hj hl hi.toTInv
  cases fuel with
  | zero => simp [okPlan] at hok
  | succ fuel =>
    simp only [okPlan, Bool.and_eq_true] at hok
    rw [Array.getElem?_toList] at ho
    exact wpB_first (all := true) ho (Region.noSelect_spec hs) (fun c a w hq => hq) fuel listed a w (freeB_spec ho hok.1.1) (by simpa using hok.1.2)
      (.inr ⟨by simp [Region.wanted, hy], rfl⟩) (h hs fuel _ hok.2 _ w (put_inv hi hd))
theorem VP.lsn {i j tg : Nat} {b : Bool} {p : Plan} (ho : ops.toList[i]? = some ⟨dd, op, ty, pos, af, some (j, b)⟩) (hj : gdst ops j = some tg) (hl : look tg tm = some undef) (hd : dOk n dd = true)
    (h : VP P fn R n ops bad p ⟨putT dd undef tm, bx, rw, ck⟩ Q) : VP P fn R n ops bad (.l i p) ⟨tm, bx, rw, ck⟩ Q := fun hs fuel listed hok a w hi => by
  have hy := yielded_un (ops := ops) hj hl hi.toTInv
  cases fuel with
  | zero => simp [okPlan] at hok
  | succ fuel =>
    simp only [okPlan, Bool.and_eq_true] at hok
    rw [Array.getElem?_toList] at ho
    exact wpB_first (all := false) ho (Region.noSelect_spec hs) (fun c a w hq => hq) fuel listed a w (freeB_spec ho hok.1.1) (by simpa using hok.1.2)
      (.inr ⟨by simp [Region.wanted, hy], rfl⟩) (h hs fuel _ hok.2 _ w (put_inv hi hd))
/-- A slot's truth is told apart. -/
theorem VP.split {tg : Nat} {g : Bool} {p : Plan} (hl : look tg tm = some (.bool g)) (h1 : g = true → VP P fn R n ops bad p ⟨(tg, .bool true) :: tm, bx, rw, ck⟩ Q) (h2 : g = false → VP P fn R n ops bad p ⟨(tg, .bool false) :: tm, bx, rw, ck⟩ Q) :
    VP P fn R n ops bad p ⟨tm, bx, rw, ck⟩ Q := fun hs fuel listed hok a w hi => by
  cases hg : g with
  | true => exact h1 hg hs fuel listed hok a w ⟨hi.toTInv.known hl hg, hi.w.tm⟩
  | false => exact h2 hg hs fuel listed hok a w ⟨hi.toTInv.known hl hg, hi.w.tm⟩
theorem VP.a1s {i j tg : Nat} {b g : Bool} {p : Plan} (ho : ops.toList[i]? = some ⟨dd, op, ty, pos, af, some (j, b)⟩) (hj : gdst ops j = some tg) (hl : look tg tm = some (.bool g)) (hg : g = !b) (hd : dOk n dd = true)
    (h : VP P fn R n ops bad p ⟨putT dd undef tm, bx, rw, ck⟩ Q) : VP P fn R n ops bad (.all [(i, p)]) ⟨tm, bx, rw, ck⟩ Q := fun hs fuel listed hok a w hi => by
  have hy := yielded_of (ops := ops) hj hl hi.toTInv
  cases fuel with
  | zero => simp [okPlan] at hok
  | succ fuel =>
    simp only [okPlan, okPlans, Bool.and_eq_true] at hok
    refine ⟨fun hr => by simp [hr] at hok, fun i' hri => ?_⟩
    have h1 := List.all_eq_true.1 hok.1.2 i' hri
    obtain rfl : i = i' := by simpa using h1
    rw [Array.getElem?_toList] at ho
    unfold wpOp
    rw [ho]
    simp only
    rw [if_neg (by simp [Region.wanted, hy, hg])]
    exact ⟨fun _ => Below.refl _ _, h hs fuel _ hok.2.1 _ w (put_inv hi hd)⟩
theorem VP.a1t {i j tg : Nat} {b g g' : Bool} {p : Plan} (ho : ops.toList[i]? = some ⟨dd, op, ty, pos, af, some (j, b)⟩) (hj : gdst ops j = some tg) (hl : look tg tm = some (.bool g)) (hg : g = b) (hgr : grows ops bad i = g')
    (h : VX P n (.x g') ⟨dd, op, ty, pos, af, some (j, b)⟩ ⟨tm, bx, rw, ck⟩ fun τ => VP P fn R n ops bad p τ Q) : VP P fn R n ops bad (.all [(i, p)]) ⟨tm, bx, rw, ck⟩ Q := fun hs fuel listed hok a w hi => by
  have hy := yielded_of (ops := ops) hj hl hi.toTInv
  subst hgr
  cases fuel with
  | zero => simp [okPlan] at hok
  | succ fuel =>
    simp only [okPlan, okPlans, Bool.and_eq_true] at hok
    refine ⟨fun hr => by simp [hr] at hok, fun i' hri => ?_⟩
    have h1 := List.all_eq_true.1 hok.1.2 i' hri
    obtain rfl : i = i' := by simpa using h1
    rw [Array.getElem?_toList] at ho
    unfold wpOp
    rw [ho]
    simp only
    rw [if_pos (by simp [Region.wanted, hy, hg])]
    left
    refine Oper.wp_false (Oper.wp_mono ?_ (h a w hi))
    rintro a' w' ⟨hb, τ, h5, h6⟩
    exact ⟨hb, h5 hs fuel _ hok.2.1 a' w' h6⟩
def planHead : Plan → Option Nat
  | .u i _ => some i
  | .l i _ => some i
  | .all ((i, _) :: _) => some i
  | _ => none
theorem VP.gsB {q : Plan} {i j tg : Nat} {b g : Bool} (hq : planHead q = some i) (ho : ops.toList[i]? = some ⟨dd, op, ty, pos, af, some (j, b)⟩) (hj : gdst ops j = some tg) (hl : look tg tm = some (.bool g))
    (h1 : g = true → VP P fn R n ops bad q ⟨(tg, .bool true) :: tm, bx, rw, ck⟩ Q) (h2 : g = false → VP P fn R n ops bad q ⟨(tg, .bool false) :: tm, bx, rw, ck⟩ Q) : VP P fn R n ops bad q ⟨tm, bx, rw, ck⟩ Q := VP.split hl h1 h2
theorem VP.gsD {q : Plan} {i j tg : Nat} {b : Bool} {c : Prop} {d : Decidable c} (hq : planHead q = some i) (ho : ops.toList[i]? = some ⟨dd, op, ty, pos, af, some (j, b)⟩) (hj : gdst ops j = some tg) (hl : look tg tm = some (.bool (@decide c d)))
    (h1 : c → VP P fn R n ops bad q ⟨(tg, .bool true) :: tm, bx, rw, ck⟩ Q) (h2 : ¬ c → VP P fn R n ops bad q ⟨(tg, .bool false) :: tm, bx, rw, ck⟩ Q) : VP P fn R n ops bad q ⟨tm, bx, rw, ck⟩ Q :=
  VP.split hl (fun e => h1 (of_decide_eq_true e)) (fun e => h2 (of_decide_eq_false e))
theorem VP.gsN {q : Plan} {i j tg : Nat} {b : Bool} {c : Prop} {d : Decidable c} (hq : planHead q = some i) (ho : ops.toList[i]? = some ⟨dd, op, ty, pos, af, some (j, b)⟩) (hj : gdst ops j = some tg) (hl : look tg tm = some (.bool (!@decide c d)))
    (h1 : ¬ c → VP P fn R n ops bad q ⟨(tg, .bool true) :: tm, bx, rw, ck⟩ Q) (h2 : c → VP P fn R n ops bad q ⟨(tg, .bool false) :: tm, bx, rw, ck⟩ Q) : VP P fn R n ops bad q ⟨tm, bx, rw, ck⟩ Q :=
  VP.split hl (fun e => h1 (by simpa using e)) (fun e => h2 (by simpa using e))
theorem VP.gsNB {q : Plan} {i j tg : Nat} {b g : Bool} (hq : planHead q = some i) (ho : ops.toList[i]? = some ⟨dd, op, ty, pos, af, some (j, b)⟩) (hj : gdst ops j = some tg) (hl : look tg tm = some (.bool (!g)))
    (h1 : g = false → VP P fn R n ops bad q ⟨(tg, .bool true) :: tm, bx, rw, ck⟩ Q) (h2 : g = true → VP P fn R n ops bad q ⟨(tg, .bool false) :: tm, bx, rw, ck⟩ Q) : VP P fn R n ops bad q ⟨tm, bx, rw, ck⟩ Q :=
  VP.split hl (fun e => h1 (by simpa using e)) (fun e => h2 (by simpa using e))
end
end Go.Vg
