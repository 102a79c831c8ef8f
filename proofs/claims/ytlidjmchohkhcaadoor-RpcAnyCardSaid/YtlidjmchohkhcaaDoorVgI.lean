/-
  Vg, part I: tests parted, states forgotten, loops.
-/
import Derived.Test.YtlidjmchohkhcaaDoorVgH
set_option linter.unusedVariables false
set_option linter.unusedSimpArgs false
set_option linter.unusedSectionVars false
namespace Go.Vg
open Go.RowKit

section
variable {P : Program} {fn : Func} {R : Ending → World → Prop} {n : Nat} {Q : Cont} {ops : Array Oper} {rest : List Oper} {x y : Code}
variable {tm tm' : Tm} {bx bx' bx1 : List Bx} {rw rw' rw1 : List Rw} {ck ck' : List (World × (Nat → Prop))} {σ : St}
variable {ty : TypeId} {pos : String} {af : Array Edge} {op : Op} {dd : Option Tmp}

/-! ### Tests -/
theorem V.condT {c : Operand} {g : Bool} (hc : ev tm c = some (.bool g) := by rfl) (hg : g = true) (h : V P fn R n x ⟨tm, bx, rw, ck⟩ Q) : V P fn R n (.cond c x y) ⟨tm, bx, rw, ck⟩ Q :=
  V.cond hc (fun _ => h) (fun e => by subst hg; cases e)
theorem V.condF {c : Operand} {g : Bool} (hc : ev tm c = some (.bool g) := by rfl) (hg : g = false) (h : V P fn R n y ⟨tm, bx, rw, ck⟩ Q) : V P fn R n (.cond c x y) ⟨tm, bx, rw, ck⟩ Q :=
  V.cond hc (fun e => by subst hg; cases e) (fun _ => h)
theorem V.condD {c : Operand} {p : Prop} {d : Decidable p} (hc : ev tm c = some (.bool (@decide p d)) := by rfl) (h1 : p → V P fn R n x ⟨tm, bx, rw, ck⟩ Q) (h2 : ¬ p → V P fn R n y ⟨tm, bx, rw, ck⟩ Q) : V P fn R n (.cond c x y) ⟨tm, bx, rw, ck⟩ Q :=
  V.cond hc (fun e => h1 (of_decide_eq_true e)) (fun e => h2 (of_decide_eq_false e))
theorem V.condN {c : Operand} {p : Prop} {d : Decidable p} (hc : ev tm c = some (.bool (!@decide p d)) := by rfl) (h1 : ¬ p → V P fn R n x ⟨tm, bx, rw, ck⟩ Q) (h2 : p → V P fn R n y ⟨tm, bx, rw, ck⟩ Q) : V P fn R n (.cond c x y) ⟨tm, bx, rw, ck⟩ Q :=
  V.cond hc (fun e => h1 (by simpa using e)) (fun e => h2 (by simpa using e))
theorem V.condB {c : Operand} {g : Bool} (hc : ev tm c = some (.bool g) := by rfl) (h1 : g = true → V P fn R n x ⟨tm, bx, rw, ck⟩ Q) (h2 : g = false → V P fn R n y ⟨tm, bx, rw, ck⟩ Q) : V P fn R n (.cond c x y) ⟨tm, bx, rw, ck⟩ Q :=
  V.cond hc h1 h2
theorem V.condNB {c : Operand} {g : Bool} (hc : ev tm c = some (.bool (!g)) := by rfl) (h1 : g = false → V P fn R n x ⟨tm, bx, rw, ck⟩ Q) (h2 : g = true → V P fn R n y ⟨tm, bx, rw, ck⟩ Q) : V P fn R n (.cond c x y) ⟨tm, bx, rw, ck⟩ Q :=
  V.cond hc (fun e => h1 (by simpa using e)) (fun e => h2 (by simpa using e))

theorem VO.gSkipT {j tg : Nat} {g : Bool} (hj : gdst ops j = some tg := by rfl) (hl : look tg tm = some (.bool g) := by rfl) (hd : dOk n dd = true := by rfl) (hg : g = false)
    (h : VO P fn R n ops rest ⟨putT dd undef tm, bx, rw, ck⟩ Q) : VO P fn R n ops (⟨dd, op, ty, pos, af, some (j, true)⟩ :: rest) ⟨tm, bx, rw, ck⟩ Q := VO.gSkip hj hl (by simp [hg]) hd h
theorem VO.gSkipF {j tg : Nat} {g : Bool} (hj : gdst ops j = some tg := by rfl) (hl : look tg tm = some (.bool g) := by rfl) (hd : dOk n dd = true := by rfl) (hg : g = true)
    (h : VO P fn R n ops rest ⟨putT dd undef tm, bx, rw, ck⟩ Q) : VO P fn R n ops (⟨dd, op, ty, pos, af, some (j, false)⟩ :: rest) ⟨tm, bx, rw, ck⟩ Q := VO.gSkip hj hl (by simp [hg]) hd h
theorem VO.gsD {j tg : Nat} {b : Bool} {p : Prop} {d : Decidable p} (hj : gdst ops j = some tg := by rfl) (hl : look tg tm = some (.bool (@decide p d)) := by rfl)
    (h1 : p → VO P fn R n ops (⟨dd, op, ty, pos, af, some (j, b)⟩ :: rest) ⟨(tg, .bool true) :: tm, bx, rw, ck⟩ Q)
    (h2 : ¬ p → VO P fn R n ops (⟨dd, op, ty, pos, af, some (j, b)⟩ :: rest) ⟨(tg, .bool false) :: tm, bx, rw, ck⟩ Q) :
    VO P fn R n ops (⟨dd, op, ty, pos, af, some (j, b)⟩ :: rest) ⟨tm, bx, rw, ck⟩ Q := by
  cases b with
  | true => exact VO.gSplit (o := ⟨dd, op, ty, pos, af, none⟩) hj hl (fun e => h1 (of_decide_eq_true e)) (fun e => h2 (of_decide_eq_false (by simpa using e)))
  | false => exact VO.gSplit (o := ⟨dd, op, ty, pos, af, none⟩) hj hl (fun e => h2 (of_decide_eq_false e)) (fun e => h1 (of_decide_eq_true (by simpa using e)))
theorem VO.gsN {j tg : Nat} {b : Bool} {p : Prop} {d : Decidable p} (hj : gdst ops j = some tg := by rfl) (hl : look tg tm = some (.bool (!@decide p d)) := by rfl)
    (h1 : ¬ p → VO P fn R n ops (⟨dd, op, ty, pos, af, some (j, b)⟩ :: rest) ⟨(tg, .bool true) :: tm, bx, rw, ck⟩ Q)
    (h2 : p → VO P fn R n ops (⟨dd, op, ty, pos, af, some (j, b)⟩ :: rest) ⟨(tg, .bool false) :: tm, bx, rw, ck⟩ Q) :
    VO P fn R n ops (⟨dd, op, ty, pos, af, some (j, b)⟩ :: rest) ⟨tm, bx, rw, ck⟩ Q := by
  cases b with
  | true => exact VO.gSplit (o := ⟨dd, op, ty, pos, af, none⟩) hj hl (fun e => h1 (by simpa using e)) (fun e => h2 (by simpa using e))
  | false => exact VO.gSplit (o := ⟨dd, op, ty, pos, af, none⟩) hj hl (fun e => h2 (by simpa using e)) (fun e => h1 (by simpa using e))
theorem VO.gsB {j tg : Nat} {b g : Bool} (hj : gdst ops j = some tg := by rfl) (hl : look tg tm = some (.bool g) := by rfl)
    (h1 : g = true → VO P fn R n ops (⟨dd, op, ty, pos, af, some (j, b)⟩ :: rest) ⟨(tg, .bool true) :: tm, bx, rw, ck⟩ Q)
    (h2 : g = false → VO P fn R n ops (⟨dd, op, ty, pos, af, some (j, b)⟩ :: rest) ⟨(tg, .bool false) :: tm, bx, rw, ck⟩ Q) :
    VO P fn R n ops (⟨dd, op, ty, pos, af, some (j, b)⟩ :: rest) ⟨tm, bx, rw, ck⟩ Q := by
  cases b with
  | true => exact VO.gSplit (o := ⟨dd, op, ty, pos, af, none⟩) hj hl h1 (fun e => h2 (by simpa using e))
  | false => exact VO.gSplit (o := ⟨dd, op, ty, pos, af, none⟩) hj hl h2 (fun e => h1 (by simpa using e))
theorem VO.gsNB {j tg : Nat} {b g : Bool} (hj : gdst ops j = some tg := by rfl) (hl : look tg tm = some (.bool (!g)) := by rfl)
    (h1 : g = false → VO P fn R n ops (⟨dd, op, ty, pos, af, some (j, b)⟩ :: rest) ⟨(tg, .bool true) :: tm, bx, rw, ck⟩ Q)
    (h2 : g = true → VO P fn R n ops (⟨dd, op, ty, pos, af, some (j, b)⟩ :: rest) ⟨(tg, .bool false) :: tm, bx, rw, ck⟩ Q) :
    VO P fn R n ops (⟨dd, op, ty, pos, af, some (j, b)⟩ :: rest) ⟨tm, bx, rw, ck⟩ Q :=
  VO.gsB hj hl (fun e => h1 (by simpa using e)) (fun e => h2 (by simpa using e))

/-! ### What is forgotten -/
inductive TmSub (tm : Tm) : Tm → Prop where
  | nil : TmSub tm []
  | cons {t x r} (h : look t tm = some x) (k : TmSub tm r) : TmSub tm ((t, x) :: r)
theorem TmSub.look_ {t : Nat} {u : Value} (h : TmSub tm tm') (k : look t tm' = some u) : look t tm = some u := by
  induction h with
  | nil => simp [look] at k
  | cons h _ ih =>
    unfold look at k
    split at k
    · rename_i hb
      rw [Nat.eq_of_beq_eq_true hb, ← k]
      exact h
    · exact ih k
inductive BxSub : List Bx → List Bx → Prop where
  | nil {l : List Bx} : BxSub l []
  | all {l : List Bx} : BxSub l l
  | skip {x : Bx} {l r : List Bx} (k : BxSub l r) : BxSub (x :: l) r
  | cons {l l1 : List Bx} {b cs e r} (h : BxDel l b cs e l1) (k : BxSub l1 r) : BxSub l ((b, cs, e) :: r)
inductive RwSub : List Rw → List Rw → Prop where
  | nil {l : List Rw} : RwSub l []
  | all {l : List Rw} : RwSub l l
  | cons {l l1 : List Rw} {v e sz m xs xs' r} (h : RwDel l ⟨v, e, sz, m, xs⟩ l1) (hx : xs = xs') (k : RwSub l1 r) : RwSub l (⟨v, e, sz, m, xs'⟩ :: r)
  | nilr {l : List Rw} {e sz r} (k : RwSub l r) : RwSub l (⟨.slice none 0 0, e, sz, 0, []⟩ :: r)
inductive CkSub (ck : List (World × (Nat → Prop))) : List (World × (Nat → Prop)) → Prop where
  | nil : CkSub ck []
  | cons {c S r} (h : CkAt ck c S) (k : CkSub ck r) : CkSub ck ((c, S) :: r)
theorem BxSub.sub (h : BxSub bx bx') : ∃ l, bx.Perm (bx' ++ l) := by
  induction h with
  | @nil l => exact ⟨l, List.Perm.refl _⟩
  | @all l => exact ⟨[], by simp⟩
  | @skip x l r _ ih => obtain ⟨l', hl⟩ := ih; exact ⟨x :: l', (List.Perm.cons x hl).trans List.perm_middle.symm⟩
  | cons h _ ih => obtain ⟨l, hl⟩ := ih; exact ⟨l, h.perm.trans (List.Perm.cons _ hl)⟩
theorem RwSub.winv {w : World} (h : RwSub rw rw') : ∀ {pre : List Rw}, WInv ⟨tm, bx, pre ++ rw, ck⟩ w → ∃ l, WInv ⟨tm, bx, pre ++ rw' ++ l, ck⟩ w := by
  induction h with
  | @nil l => exact fun h => ⟨l, by simpa using h⟩
  | @all l => exact fun h => ⟨[], by simpa using h⟩
  | @cons l l1 v e sz m xs xs' r h hx _ ih =>
    subst hx
    intro pre hw
    have hp := List.Perm.append_left pre h.perm
    have := hw.perm (List.Perm.refl _) (rw' := (pre ++ [⟨v, e, sz, m, xs⟩]) ++ l1) (by simpa using hp)
    obtain ⟨l, hl⟩ := ih this
    exact ⟨l, by simpa using hl⟩
  | @nilr l e sz r _ ih =>
    intro pre hw
    have := (hw.nilrow e sz).perm (List.Perm.refl _) (rw' := (pre ++ [⟨.slice none 0 0, e, sz, 0, []⟩]) ++ l) (by simpa using (List.perm_middle (a := (⟨.slice none 0 0, e, sz, 0, []⟩ : Rw)) (l₁ := pre) (l₂ := l)).symm)
    obtain ⟨l, hl⟩ := ih this
    exact ⟨l, by simpa using hl⟩
theorem CkSub.mem {c : World × (Nat → Prop)} (h : CkSub ck ck') (k : c ∈ ck') : c ∈ ck := by
  induction h with
  | nil => simp at k
  | cons h _ ih =>
    rcases List.mem_cons.1 k with rfl | k
    · exact h.mem
    · exact ih k
theorem WInv.forget {w : World} {b2 : List Bx} {r2 : List Rw} (h : WInv ⟨tm, bx' ++ b2, rw' ++ r2, ck⟩ w) (hc : CkSub ck ck') : WInv ⟨tm, bx', rw', ck'⟩ w := by
  have hs : (St.blks ⟨tm, bx', rw', ck'⟩).Sublist (St.blks ⟨tm, bx' ++ b2, rw' ++ r2, ck⟩) := by
    simp only [St.blks, List.map_append]
    exact (List.sublist_append_left _ _).append (List.sublist_append_left _ _)
  exact ⟨fun b hb => h.bx b (List.mem_append_left _ hb), fun r hr => h.rw r (List.mem_append_left _ hr), h.ap.sublist hs, fun c k => h.ck c (hc.mem k), fun c k b hb => h.sep c (hc.mem k) b (hs.subset hb)⟩
theorem Weak.mk (ht : TmSub tm tm') (hb : BxSub bx bx') (hr : RwSub rw rw') (hc : CkSub ck ck') : Weak n ⟨tm, bx, rw, ck⟩ ⟨tm', bx', rw', ck'⟩ := fun a w hi => by
  obtain ⟨b2, h1⟩ := hb.sub
  obtain ⟨r2, h2⟩ := hr.winv (pre := []) (hi.w.perm h1 (List.Perm.refl _))
  exact ⟨⟨hi.dfr, hi.sz, fun t x hx => hi.tm t x (ht.look_ hx)⟩, (WInv.forget (by simpa using h2) hc).tm⟩

/-- A nil slice in a slot begins a row. -/
theorem Weak.nilrow {e : TypeId} {sz : Nat} : Weak n ⟨tm, bx, rw, ck⟩ ⟨tm, bx, ⟨.slice none 0 0, e, sz, 0, []⟩ :: rw, ck⟩ := fun a w hi => hi.world (hi.w.nilrow e sz)

theorem loopQ_next {ι : Type} {S : ι → St} {ok : ι → Prop} {μ : ι → Nat} {x : ι} (y : ι) (h1 : Weak n σ (S y)) (h2 : ok y) (h3 : μ y < μ x) : loopQ n S ok μ x Q .normal σ := ⟨y, h1, h2, h3⟩

/-- All that is known of the state from here on is told. -/
theorem V.mid {x y : Code} {ι : Type} (S : ι → St) (ok : ι → Prop) (h : V P fn R n x σ (fun e τ => match e with | .normal => ∃ z, Weak n τ (S z) ∧ ok z | e => Q e τ)) (k : ∀ z, ok z → V P fn R n y (S z) Q) : V P fn R n (.seq x y) σ Q := by
  refine V.seq fun a w hi => wp_mono (h a w hi) fun e a w ho => ?_
  cases e with
  | normal => obtain ⟨τ, ⟨z, h1, h2⟩, h3⟩ := ho; exact ⟨S z, k z h2, h1 a w h3⟩
  | exit i => exact ho
  | ret => exact ho
  | goto l => exact ho
  | panic c => exact ho
  | outgrown => exact ho


/-! ### Ends -/
theorem one_one (v : Value) : one [v] = v := rfl
theorem one_two (v u : Value) : one [v, u] = .tuple #[v, u] := rfl
theorem one_three (v u t : Value) : one [v, u, t] = .tuple #[v, u, t] := rfl
theorem one_four (v u t s : Value) : one [v, u, t, s] = .tuple #[v, u, t, s] := rfl
variable [HasTab P] {w0 : World} {v : Value} {rs : List ResultVar} {vs : List Value}
theorem V.retV (hr : fn.results = rs.toArray := by rfl) (hv : ResR P tm bx rs vs := by ((repeat' (guard_target =~ (_ : Prop); first | exact ResR.nil | refine' ResR.tmp rfl _ | refine' ResR.cellA rfl (by ((repeat' (guard_target =~ BxAt _ _ _ _; first | exact BxAt.head | refine' BxAt.tail _)); fail_if_success refine ?_)) rfl rfl rfl ?_ | refine' ResR.cell1 rfl (by ((repeat' (guard_target =~ BxAt _ _ _ _; first | exact BxAt.head | refine' BxAt.tail _)); fail_if_success refine ?_)) rfl rfl rfl _)); fail_if_success refine ?_))
    (hc : CkAt ck w0 (Low w0) := by ((repeat' (guard_target =~ CkAt _ _ _; first | exact CkAt.head | refine' CkAt.tail _)); fail_if_success refine ?_)) (he : one vs = v) : V P fn (Ret w0 v) n .ret ⟨tm, bx, rw, ck⟩ Q :=
  V.ret hr hv fun w hw => ⟨by rw [he], hw.below_of hc⟩
theorem V.retP {p : Value → World → Prop} (hr : fn.results = rs.toArray := by rfl) (hv : ResR P tm bx rs vs := by ((repeat' (guard_target =~ (_ : Prop); first | exact ResR.nil | refine' ResR.tmp rfl _ | refine' ResR.cellA rfl (by ((repeat' (guard_target =~ BxAt _ _ _ _; first | exact BxAt.head | refine' BxAt.tail _)); fail_if_success refine ?_)) rfl rfl rfl ?_ | refine' ResR.cell1 rfl (by ((repeat' (guard_target =~ BxAt _ _ _ _; first | exact BxAt.head | refine' BxAt.tail _)); fail_if_success refine ?_)) rfl rfl rfl _)); fail_if_success refine ?_))
    (hc : CkAt ck w0 (Low w0) := by ((repeat' (guard_target =~ CkAt _ _ _; first | exact CkAt.head | refine' CkAt.tail _)); fail_if_success refine ?_)) (h : ∀ w, WInv ⟨tm, bx, rw, ck⟩ w → Below w0.heap.size w0 w → p (one vs) w) : V P fn (RetP w0 p) n .ret ⟨tm, bx, rw, ck⟩ Q :=
  V.ret hr hv fun w hw => ⟨_, rfl, h w hw (hw.below_of hc), hw.below_of hc⟩
theorem finQ_V (hr : fn.results = rs.toArray := by rfl) (hv : ResR P tm bx rs vs := by ((repeat' (guard_target =~ (_ : Prop); first | exact ResR.nil | refine' ResR.tmp rfl _ | refine' ResR.cellA rfl (by ((repeat' (guard_target =~ BxAt _ _ _ _; first | exact BxAt.head | refine' BxAt.tail _)); fail_if_success refine ?_)) rfl rfl rfl ?_ | refine' ResR.cell1 rfl (by ((repeat' (guard_target =~ BxAt _ _ _ _; first | exact BxAt.head | refine' BxAt.tail _)); fail_if_success refine ?_)) rfl rfl rfl _)); fail_if_success refine ?_))
    (hc : CkAt ck w0 (Low w0) := by ((repeat' (guard_target =~ CkAt _ _ _; first | exact CkAt.head | refine' CkAt.tail _)); fail_if_success refine ?_)) (he : one vs = v) : finQ P fn (Ret w0 v) n .normal ⟨tm, bx, rw, ck⟩ :=
  finQ_end hr hv fun w hw => ⟨by rw [he], hw.below_of hc⟩

end
end Go.Vg
