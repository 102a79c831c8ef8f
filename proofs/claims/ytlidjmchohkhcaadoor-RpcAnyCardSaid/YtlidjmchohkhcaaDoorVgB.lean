/-
  Vg, part B: the walk's goals (V, VO), how code is taken apart, values of slots.
-/
import Derived.Test.YtlidjmchohkhcaaDoorVgA
import Derived.Tactics
import Derived.Deep.LoopGhost
set_option linter.unusedVariables false
namespace Go.Vg
open Go.RowKit

/-! ### Types -/
structure TI where
  d : TypeDesc
  size : Nat
  bytes : Nat
  zero : Value

def TIok (P : Program) (t : TypeId) (i : TI) : Prop := P.underlying t = some i.d ∧ (P.info? t).map (fun x => (x.zero, x.size, x.bytes)) = some (some i.zero, i.size, i.bytes)

def tlook (t : TypeId) : List (TypeId × TI) → Option TI
  | [] => none
  | (t', x) :: r => match Nat.beq t t' with | true => some x | false => tlook t r

/-- A function with a body: a call of it enters it. -/
def chkF (P : Program) (f : Nat) : Bool := match P.funcs[f]? with | some fn => !(fn.name == "runtime.NumGoroutine") && fn.body.isSome | none => false
class HasTab (P : Program) where
  T : List (TypeId × TI)
  ok : ∀ x, x ∈ T → TIok P x.1 x.2
  F : List Nat
  okF : F.all (chkF P) = true
  mixed : P.follows .mixedOrders = true
def nmem (f : Nat) : List Nat → Bool
  | [] => false
  | g :: r => match Nat.beq f g with | true => true | false => nmem f r
theorem nmem_mem {f : Nat} : ∀ {l : List Nat}, nmem f l = true → f ∈ l
  | [], h => by simp [nmem] at h
  | g :: r, h => by
    unfold nmem at h
    split at h
    · rename_i hb
      rw [Nat.eq_of_beq_eq_true hb]
      exact List.mem_cons_self
    · exact List.mem_cons_of_mem _ (nmem_mem h)
theorem run_callFunc {P : Program} [HasTab P] {f : Nat} (h : nmem f (HasTab.F P) = true) (args : Array Value) (w : World) : (callFunc f args).run P w = .ok (.enter f args) w := by
  have h1 := List.all_eq_true.1 (HasTab.okF (P := P)) f (nmem_mem h)
  unfold chkF at h1
  cases hf : P.funcs[f]? with
  | none => simp [hf] at h1
  | some fn =>
    simp only [hf, Bool.and_eq_true] at h1
    obtain ⟨h2, h3⟩ := h1
    have h4 : ¬ fn.body = none := by intro hb; simp [hb] at h3
    have h5 : ¬ fn.name = "runtime.NumGoroutine" := by simpa using h2
    simp [callFunc, hf, h4, h5]

theorem tlook_mem {t : TypeId} {i : TI} : ∀ {l : List (TypeId × TI)}, tlook t l = some i → (t, i) ∈ l
  | [], h => by simp [tlook] at h
  | (t', x) :: r, h => by
    unfold tlook at h
    split at h
    · rename_i hb
      have : t = t' := Nat.eq_of_beq_eq_true hb
      subst this
      simp at h
      simp [h]
    · exact List.mem_cons_of_mem _ (tlook_mem h)

/-- What the table says of a type. -/
def Ty (P : Program) [HasTab P] (t : TypeId) (i : TI) : Prop := tlook t (HasTab.T P) = some i

section
variable {P : Program} [HasTab P] {t : TypeId} {i : TI}
theorem Ty.ok (h : Ty P t i) : TIok P t i := HasTab.ok _ (tlook_mem h)
theorem Ty.und (h : Ty P t i) : P.underlying t = some i.d := h.ok.1
theorem Ty.info (h : Ty P t i) : ∃ inf, P.info? t = some inf ∧ inf.zero = some i.zero ∧ inf.size = i.size ∧ inf.bytes = i.bytes := by
  obtain ⟨inf, h1, h2⟩ := Option.map_eq_some_iff.1 h.ok.2
  simp only [Prod.mk.injEq] at h2
  exact ⟨inf, h1, h2.1, h2.2.1, h2.2.2⟩
theorem Ty.run_size (h : Ty P t i) (w : World) : (sizeOf t).run P w = .ok i.size w := by
  obtain ⟨inf, h1, _, h3, _⟩ := h.info
  simp [sizeOf, typeInfo, h1, h3]
theorem Ty.run_und (h : Ty P t i) (w : World) : (underlying t).run P w = .ok i.d w := run_underlying h.und w
theorem Ty.run_zero (h : Ty P t i) (w : World) : (zeroValue t).run P w = .ok i.zero w := by
  obtain ⟨inf, h1, h2, _, _⟩ := h.info
  simp [zeroValue, typeInfo, h1, h2]
def isAggD : TypeDesc → Bool
  | .struct _ => true
  | .array _ _ => true
  | _ => false
theorem Ty.run_agg (h : Ty P t i) (w : World) : (isAgg t).run P w = .ok (isAggD i.d) w := by
  simp only [isAgg, Sem.run_bind, h.run_und, Result.andThen_ok]
  cases i.d <;> simp [isAggD]
end

/-! ### The walk's goals -/
abbrev Cont := Exit → St → Prop

def Out (P : Program) (fn : Func) (R : Ending → World → Prop) (n : Nat) (Q : Cont) : Exit → Act → World → Prop
  | .ret, a, w => bodyPost P fn R .ret a w
  | .normal, a, w => ∃ σ, Q .normal σ ∧ Inv n σ a w
  | .exit i, a, w => ∃ σ, Q (.exit i) σ ∧ Inv n σ a w
  | _, _, _ => False

def V (P : Program) (fn : Func) (R : Ending → World → Prop) (n : Nat) (c : Code) (σ : St) (Q : Cont) : Prop :=
  ∀ a w, Inv n σ a w → c.wp P (Out P fn R n Q) a w
def VO (P : Program) (fn : Func) (R : Ending → World → Prop) (n : Nat) (ops : Array Oper) (l : List Oper) (σ : St) (Q : Cont) : Prop :=
  ∀ a w, Inv n σ a w → wpList P ops (Out P fn R n Q) l a w

def thenQ (P : Program) (fn : Func) (R : Ending → World → Prop) (n : Nat) (y : Code) (Q : Cont) : Cont
  | .normal, σ => V P fn R n y σ Q
  | e, σ => Q e σ
def blockQ (i : Nat) (Q : Cont) : Cont
  | .exit j, σ => match Nat.beq j i with | true => Q .normal σ | false => Q (.exit j) σ
  | e, σ => Q e σ
/-- What was known of the world stays, what is left behind is forgotten. -/
def Weak (n : Nat) (σ τ : St) : Prop := ∀ a w, Inv n σ a w → Inv n τ a w
def loopQ {ι : Type} (n : Nat) (S : ι → St) (ok : ι → Prop) (μ : ι → Nat) (x : ι) (Q : Cont) : Cont
  | .normal, σ => ∃ y, Weak n σ (S y) ∧ ok y ∧ μ y < μ x
  | e, σ => Q e σ
/-- The end of a body that falls through its end: none. -/
def endQ : Cont := fun _ _ => False

section
variable {P : Program} {fn : Func} {R : Ending → World → Prop} {n : Nat} {Q : Cont} {σ τ : St} {x y c : Code} {i j : Nat}

theorem V.seq (h : V P fn R n x σ (thenQ P fn R n y Q)) : V P fn R n (.seq x y) σ Q := fun a w hi => by
  refine wp_seq (wp_mono (h a w hi) fun e a w ho => ?_)
  cases e with
  | normal => obtain ⟨τ, h1, h2⟩ := ho; exact h1 a w h2
  | exit i => exact ho
  | ret => exact ho
  | goto l => exact ho
  | panic c => exact ho
  | outgrown => exact ho
theorem V.skip (h : Q .normal σ) : V P fn R n .skip σ Q := fun a w hi => wp_skip ⟨σ, h, hi⟩
theorem V.exit (h : Q (.exit i) σ) : V P fn R n (.exit i) σ Q := fun a w hi => wp_exit ⟨σ, h, hi⟩
theorem V.block (h : V P fn R n c σ (blockQ i Q)) : V P fn R n (.block i c) σ Q := fun a w hi => by
  refine wp_block (wp_mono (h a w hi) fun e a w ho => ?_)
  cases e with
  | normal => obtain ⟨τ, h1, h2⟩ := ho; exact ⟨τ, h1, h2⟩
  | exit j =>
    obtain ⟨τ, h1, h2⟩ := ho
    simp only [blockQ] at h1
    simp only [Exit.inBlock]
    split at h1
    · rename_i hb
      rw [if_pos (Nat.eq_of_beq_eq_true hb)]
      exact ⟨τ, h1, h2⟩
    · rename_i hb
      rw [if_neg (fun e => by subst e; simp at hb)]
      exact ⟨τ, h1, h2⟩
  | ret => exact ho
  | goto l => exact ho
  | panic c => exact ho
  | outgrown => exact ho
theorem thenQ_normal (h : V P fn R n y σ Q) : thenQ P fn R n y Q .normal σ := h
theorem thenQ_exit (h : Q (.exit i) σ) : thenQ P fn R n y Q (.exit i) σ := h
theorem blockQ_normal (h : Q .normal σ) : blockQ i Q .normal σ := h
theorem blockQ_hit (h : Q .normal σ) : blockQ i Q (.exit i) σ := by simp [blockQ]; exact h
theorem blockQ_miss (hne : Nat.beq j i = false := by rfl) (h : Q (.exit j) σ) : blockQ i Q (.exit j) σ := by simp only [blockQ, hne]; exact h
theorem loopQ_exit {ι : Type} {S : ι → St} {ok : ι → Prop} {μ : ι → Nat} {x : ι} (h : Q (.exit i) σ) : loopQ n S ok μ x Q (.exit i) σ := h

theorem Weak.trans {σ τ υ : St} (h : Weak n σ τ) (k : Weak n τ υ) : Weak n σ υ := fun a w hi => k a w (h a w hi)
theorem V.weak (hw : Weak n σ τ) (h : V P fn R n c τ Q) : V P fn R n c σ Q := fun a w hi => h a w (hw a w hi)
theorem VO.weak {ops : Array Oper} {l : List Oper} (hw : Weak n σ τ) (h : VO P fn R n ops l τ Q) : VO P fn R n ops l σ Q := fun a w hi => h a w (hw a w hi)

/-- A loop: 'S x' stands at its head at each round; 'μ' falls. -/
theorem V.loop {ι : Type} (S : ι → St) (ok : ι → Prop) (μ : ι → Nat) (x0 : ι) (hs : Weak n σ (S x0)) (h0 : ok x0)
    (hr : ∀ x, ok x → V P fn R n c (S x) (loopQ n S ok μ x Q)) : V P fn R n (.loop c) σ Q := fun a w hi => by
  refine wp_loop_ghost (fun m a w => ∃ x, ok x ∧ Inv n (S x) a w ∧ μ x = m) (μ x0) ⟨x0, h0, hs a w hi, rfl⟩ ?_
  rintro m a w ⟨x, hx, hxi, rfl⟩
  refine wp_mono (hr x hx a w hxi) fun e a w ho => ?_
  cases e with
  | normal =>
    obtain ⟨τ, ⟨y, h1, h2, h3⟩, h4⟩ := ho
    exact ⟨μ y, h3, y, h2, h1 a w h4, rfl⟩
  | exit i => exact ho
  | ret => exact ho
  | goto l => exact ho
  | panic c => exact ho
  | outgrown => exact ho

theorem V.cond {c : Operand} {b : Bool} {tm : Tm} {bx rw ck} (hc : ev tm c = some (.bool b) := by rfl)
    (h1 : b = true → V P fn R n x ⟨tm, bx, rw, ck⟩ Q) (h2 : b = false → V P fn R n y ⟨tm, bx, rw, ck⟩ Q) : V P fn R n (.cond c x y) ⟨tm, bx, rw, ck⟩ Q := fun a w hi =>
  wp_cond_split (hi.ev hc) (fun h => h1 h a w hi) (fun h => h2 h a w hi)

theorem V.region {ops : Array Oper} (h : VO P fn R n ops ops.toList σ Q) : V P fn R n (.region i ops false) σ Q := fun a w hi => wp_region_list (h a w hi)
theorem VO.nil {ops : Array Oper} (h : Q .normal σ) : VO P fn R n ops [] σ Q := fun a w hi => wpList_nil ⟨σ, h, hi⟩

end
end Go.Vg
