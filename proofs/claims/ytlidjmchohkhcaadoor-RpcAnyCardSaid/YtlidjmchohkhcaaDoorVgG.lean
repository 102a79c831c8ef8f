/-
  Vg, part G: operations one behind the other; guards; regions whose order is open.
-/
import Derived.Test.YtlidjmchohkhcaaDoorVgF
set_option linter.unusedVariables false
set_option linter.unusedSimpArgs false
set_option linter.unusedSectionVars false
namespace Go.Vg
open Go.RowKit

section
variable {P : Program} {fn : Func} {R : Ending → World → Prop} {n : Nat} {Q : Cont} {ops : Array Oper} {rest : List Oper}
variable {tm : Tm} {bx : List Bx} {rw : List Rw} {ck : List (World × (Nat → Prop))} {σ : St}
variable {ty : TypeId} {pos : String} {af : Array Edge} {op : Op} {dd : Option Tmp}

theorem VO.cons (h : VX P n (.x false) ⟨dd, op, ty, pos, af, none⟩ σ fun τ => VO P fn R n ops rest τ Q) : VO P fn R n ops (⟨dd, op, ty, pos, af, none⟩ :: rest) σ Q := fun a w hi => by
  unfold wpList
  rw [if_pos (by simp [Region.wanted])]
  left
  refine Oper.wp_false (Oper.wp_mono ?_ (h a w hi))
  rintro a' w' ⟨_, τ, h1, h2⟩
  exact h1 a' w' h2

/-! ### Guards ('&&', '||') -/
def gdst (ops : Array Oper) (j : Nat) : Option Tmp := match ops.toList[j]? with | some o => o.dst | none => none
theorem yielded_of {j tg : Nat} {g : Bool} (hj : gdst ops j = some tg) (hl : look tg tm = some (.bool g)) {a : Act} (hi : TInv n tm a) : yielded ops a.tmps j = some g := by
  have ht := hi.tm tg _ hl
  unfold gdst at hj
  rw [Array.getElem?_toList] at hj
  unfold yielded
  cases ho : ops[j]? with
  | none => simp [ho] at hj
  | some o' =>
    simp only [ho] at hj
    simp [hj, ht]
theorem TInv.known {tg : Nat} {g b : Bool} (hl : look tg tm = some (.bool g)) (hb : g = b) {a : Act} (hi : TInv n tm a) : TInv n ((tg, .bool b) :: tm) a := by
  subst hb
  refine ⟨hi.dfr, hi.sz, fun t x hx => ?_⟩
  unfold look at hx
  split at hx
  · rename_i hb
    have : t = tg := Nat.eq_of_beq_eq_true hb
    subst this
    simp at hx
    subst hx
    exact hi.tm _ _ hl
  · exact hi.tm t x hx
/-- A guard that is decided. -/
theorem VO.gTake {j tg : Nat} {b g : Bool} (hj : gdst ops j = some tg := by rfl) (hl : look tg tm = some (.bool g) := by rfl) (hg : g = b)
    (h : VO P fn R n ops (⟨dd, op, ty, pos, af, none⟩ :: rest) ⟨tm, bx, rw, ck⟩ Q) : VO P fn R n ops (⟨dd, op, ty, pos, af, some (j, b)⟩ :: rest) ⟨tm, bx, rw, ck⟩ Q := fun a w hi => by
  have hy := yielded_of (ops := ops) hj hl hi.toTInv
  have := h a w hi
  unfold wpList at this ⊢
  rw [if_pos (by simp [Region.wanted])] at this
  rw [if_pos (by simp [Region.wanted, hy, hg])]
  exact this
theorem VO.gSkip {j tg : Nat} {b g : Bool} (hj : gdst ops j = some tg := by rfl) (hl : look tg tm = some (.bool g) := by rfl) (hg : g = !b) (hd : dOk n dd = true := by rfl)
    (h : VO P fn R n ops rest ⟨putT dd undef tm, bx, rw, ck⟩ Q) : VO P fn R n ops (⟨dd, op, ty, pos, af, some (j, b)⟩ :: rest) ⟨tm, bx, rw, ck⟩ Q := fun a w hi => by
  have hy := yielded_of (ops := ops) hj hl hi.toTInv
  unfold wpList
  rw [if_neg (by simp [Region.wanted, hy, hg])]
  cases dd with
  | none => exact h a w hi
  | some d => exact h _ w (hi.put d (blt_lt hd) undef)
/-- .. that is not. -/
theorem VO.gSplit {o : Oper} {j tg : Nat} {b g : Bool} (hj : gdst ops j = some tg := by rfl) (hl : look tg tm = some (.bool g) := by rfl)
    (h1 : g = b → VO P fn R n ops (⟨dd, op, ty, pos, af, some (j, b)⟩ :: rest) ⟨(tg, .bool b) :: tm, bx, rw, ck⟩ Q)
    (h2 : g = !b → VO P fn R n ops (⟨dd, op, ty, pos, af, some (j, b)⟩ :: rest) ⟨(tg, .bool (!b)) :: tm, bx, rw, ck⟩ Q) :
    VO P fn R n ops (⟨dd, op, ty, pos, af, some (j, b)⟩ :: rest) ⟨tm, bx, rw, ck⟩ Q := fun a w hi => by
  by_cases hg : g = b
  · exact h1 hg a w ⟨hi.toTInv.known hl hg, hi.w.tm⟩
  · have hg' : g = !b := by cases g <;> cases b <;> simp_all
    exact h2 hg' a w ⟨hi.toTInv.known hl hg', hi.w.tm⟩

/-! ### Orders -/
/-- Each order; what the operations of 'g' leave, is told. -/
def wpB (P : Program) (ops : Array Oper) (g : Nat → Bool) (Q : Exit → Act → World → Prop) : Nat → Array Bool → Act → World → Prop
  | 0, listed, a, w => Region.ready .any ops listed = [] ∧ Q .normal a w
  | fuel + 1, listed, a, w =>
    (Region.ready .any ops listed = [] → Q .normal a w) ∧
    ∀ i ∈ Region.ready .any ops listed, wpOp P ops Q i (fun a' w' => (g i = true → Below w.heap.size w w') ∧ wpB P ops g Q fuel (listed.setIfInBounds i true) a' w') a w

theorem wpAny_of_wpB {g : Nat → Bool} {Q : Exit → Act → World → Prop} : ∀ (fuel : Nat) (listed : Array Bool) (a : Act) (w : World), wpB P ops g Q fuel listed a w → wpAny P .any ops Q fuel listed a w
  | 0, _, _, _, h => h
  | fuel + 1, listed, a, w, h => ⟨h.1, fun i hi => wpOp_mono (fun a' w' k => wpAny_of_wpB fuel _ a' w' k.2) (h.2 i hi)⟩

/-- An operation that sees what it sees, wherever memory has grown alone. -/
def YieldsL (P : Program) (ops : Array Oper) (all : Bool) (o : Oper) (v : Value) (a : Act) (w : World) : Prop :=
  (Region.wanted o (yielded ops a.tmps) = true ∧ ∀ w', (all = true ∨ Below w.heap.size w w') → (execOp a.eval o).run P w' = .ok (.value v) w') ∨
  (Region.wanted o (yielded ops a.tmps) = false ∧ v = undef)

theorem below_trans {a b c : World} (h : Below a.heap.size a b) (k : Below b.heap.size b c) : Below a.heap.size a c := h.trans (k.mono h.size)

section
variable {all : Bool} {oi oj : Oper} {v : Value} {a a' : Act} {w w' : World} {Q : Exit → Act → World → Prop} {g : Nat → Bool}
theorem YieldsL.wpOp {i : Nat} (hi : ops[i]? = some oi) (hy : YieldsL P ops all oi v a w) {K : Act → World → Prop} (h : K (a.put oi.dst v) w) : wpOp P ops Q i K a w := by
  unfold Go.wpOp
  simp only [hi]
  rcases hy with ⟨hw, hv⟩ | ⟨hw, rfl⟩
  · rw [if_pos hw]
    exact .inl (Oper.wp_of_run (hv w (.inr (Below.refl _ _))) h)
  · rw [if_neg (by simp [hw])]
    exact h
theorem YieldsL.of_same (hy : YieldsL P ops all oi v a w) (he : execOp a'.eval oi = execOp a.eval oi) (hw : Region.wanted oi (yielded ops a'.tmps) = Region.wanted oi (yielded ops a.tmps)) (hb : all = true ∨ Below w.heap.size w w') : YieldsL P ops all oi v a' w' := by
  unfold YieldsL at *
  rw [he, hw]
  rcases hy with ⟨h1, h2⟩ | h
  · refine .inl ⟨h1, fun w2 h3 => h2 w2 ?_⟩
    rcases hb with hb | hb
    · exact .inl hb
    · exact h3.imp id (below_trans hb)
  · exact .inr h

/-- What another operation does is the same ahead of it. -/
theorem wpOp_before {j : Nat} (hj : ops[j]? = some oj) (hap : oi.apart ops oj = true) (hsi : ∀ cs b, oi.op ≠ .select cs b) (hsj : ∀ cs b, oj.op ≠ .select cs b) {K : Act → World → Prop} {a : Act} {w : World}
    (hy : YieldsL P ops all oi v a w) (hK : ∀ a' w', K a' w' → all = true ∨ Below w.heap.size w w')
    (hQ : ∀ c a w, Q (.panic c) a w → False) (h : wpOp P ops Q j K (a.put oi.dst v) w) :
    wpOp P ops Q j (fun a' w' => YieldsL P ops all oi v a' w' ∧ K (a'.put oi.dst v) w') a w := by
  obtain ⟨h1, h2, h3⟩ := Oper.apart_spec hap
  have put : ∀ u w', K ((a.put oj.dst u).put oi.dst v) w' → YieldsL P ops all oi v (a.put oj.dst u) w' ∧ K ((a.put oj.dst u).put oi.dst v) w' := fun u w' k =>
    ⟨hy.of_same (execOp_put oi hsi a oj.dst u h3) (wanted_put oi a oj.dst u h3) (hK _ _ k), k⟩
  have comm : ∀ u w', K ((a.put oi.dst v).put oj.dst u) w' → YieldsL P ops all oi v (a.put oj.dst u) w' ∧ K ((a.put oj.dst u).put oi.dst v) w' := fun u w' k => put u w' (by rw [← Act.put_comm a v u h2]; exact k)
  unfold Go.wpOp at *
  simp only [hj] at *
  rw [wanted_put oj a oi.dst v h1] at h
  split
  · rename_i hw
    simp only [hw, if_true] at h
    rcases h with h | ⟨hasks, hlets⟩
    case inr => exact .inr ⟨by unfold Oper.asks at *; rw [execOp_put oj hsj a oi.dst v h1] at hasks; exact hasks, hlets⟩
    refine .inl ?_
    unfold Oper.wp at *
    rw [execOp_put oj hsj a oi.dst v h1] at h
    generalize (execOp a.eval oj).run P w = r at *
    cases r with
    | ok m w' =>
      cases m with
      | value u => exact comm u w' h
      | skip => exact comm undef w' h
      | defer d =>
        simp only [Oper.upon] at h ⊢
        have hk : K (({ a with defers := d :: a.defers }.put oj.dst undef).put oi.dst v) w' := by
          rw [← Act.put_comm _ v undef h2, ← Act.put_defers]
          exact h
        exact ⟨(hy.of_same (a' := { a with defers := d :: a.defers }) (w' := w) rfl rfl (.inr (Below.refl _ _))).of_same (execOp_put oi hsi _ oj.dst undef h3) (wanted_put oi _ oj.dst undef h3) (hK _ _ hk), hk⟩
      | enter f args =>
        refine Calls.mono h fun e w'' he => ?_
        cases e with
        | returned u => exact comm u w'' he
        | panicked c => exact (hQ _ _ _ he).elim
        | outgrown => exact he
      | row r args => exact Rows.mono h fun u w'' he => comm u w'' he
      | _ => simp only [Oper.upon] at h
    | halt x w' =>
      cases x <;> simp only [Oper.upon] at h ⊢
      case panic u => exact (hQ _ _ _ h).elim
  · rename_i hw
    simp only [hw] at h
    exact comm undef w h

theorem wpB_first {i : Nat} (hi : ops[i]? = some oi) (hsel : ∀ (j : Nat) (o : Oper) cs b, ops[j]? = some o → o.op ≠ .select cs b) (hQ : ∀ c a w, Q (.panic c) a w → False) :
    ∀ (fuel : Nat) (listed : Array Bool) (a : Act) (w : World),
      (∀ j oj, ops[j]? = some oj → j ≠ i → listed.getD j true = false → (∀ e ∈ oj.after, Region.binds .any e = true → e.on ≠ i) → oi.apart ops oj = true ∧ (all = true ∨ g j = true)) →
      i ∈ Region.ready .any ops listed → YieldsL P ops all oi v a w →
      wpB P ops g Q fuel (listed.setIfInBounds i true) (a.put oi.dst v) w → wpB P ops g Q (fuel + 1) listed a w := by
  intro fuel
  induction fuel with
  | zero =>
    intro listed a w _ hr hy H
    refine ⟨fun h => (by rw [h] at hr; cases hr), fun j hj => ?_⟩
    by_cases hji : j = i
    · subst hji
      exact hy.wpOp hi ⟨fun _ => Below.refl _ _, H⟩
    · have := ready_mono hj hji
      rw [H.1] at this
      cases this
  | succ fuel ih =>
    intro listed a w hfree hr hy H
    refine ⟨fun h => (by rw [h] at hr; cases hr), fun j hj => ?_⟩
    by_cases hji : j = i
    · subst hji
      exact hy.wpOp hi ⟨fun _ => Below.refl _ _, H⟩
    · have h1 := H.2 j (ready_mono hj hji)
      obtain ⟨hjun, oj, hoj, hall⟩ := mem_ready.1 hj
      have hnot : ∀ e ∈ oj.after, Region.binds .any e = true → e.on ≠ i := fun e he hb heq => by
        have h1 := hall e he hb
        have h0 := (mem_ready.1 hr).1
        rw [heq] at h1
        rcases Nat.lt_or_ge i listed.size with h' | h'
        · simp [h'] at h0 h1; rw [h0] at h1; cases h1
        · simp [Array.getElem?_eq_none h'] at h1
      obtain ⟨hap, hg⟩ := hfree j oj hoj hji hjun hnot
      have h2 := wpOp_before hoj hap (fun cs b => hsel i oi cs b hi) (fun cs b => hsel j oj cs b hoj) hy (fun a' w' k => hg.imp id fun hgj => k.1 hgj) hQ h1
      have hfree' : ∀ k ok, ops[k]? = some ok → k ≠ i → (listed.setIfInBounds j true).getD k true = false →
          (∀ e ∈ ok.after, Region.binds .any e = true → e.on ≠ i) → oi.apart ops ok = true ∧ (all = true ∨ g k = true) := fun k ok hk hki hun hno => by
        refine hfree k ok hk hki ?_ hno
        by_cases hjk : j = k
        · subst hjk; exact hjun
        · rw [getD_set_ne true hjk] at hun; exact hun
      refine wpOp_mono (fun a' w' h3 => ⟨h3.2.1, ih (listed.setIfInBounds j true) a' w' hfree' (ready_mono hr (Ne.symm hji)) h3.1 ?_⟩) h2
      rw [Array.setIfInBounds_comm _ _ hji]
      exact h3.2.2

/-- May operation i come first? -/
def freeB (ops : Array Oper) (all : Bool) (g : Nat → Bool) (listed : Array Bool) (i : Nat) : Bool :=
  match ops[i]? with
  | none => false
  | some oi => (List.range ops.size).all fun j => j == i || listed.getD j true || match ops[j]? with
      | some oj => oj.after.any (fun e => Region.binds .any e && e.on == i) || (oi.apart ops oj && (all || g j))
      | none => true
theorem freeB_spec {i : Nat} {listed : Array Bool} (hi : ops[i]? = some oi) (h : freeB ops all g listed i = true) (j : Nat) (oj : Oper)
    (hj : ops[j]? = some oj) (hne : j ≠ i) (hun : listed.getD j true = false) (hno : ∀ e ∈ oj.after, Region.binds .any e = true → e.on ≠ i) :
    oi.apart ops oj = true ∧ (all = true ∨ g j = true) := by
  simp only [freeB, hi, List.all_eq_true, List.mem_range] at h
  have h1 := h j (Array.getElem?_eq_some_iff.1 hj).1
  simp only [hj, Bool.or_eq_true, beq_iff_eq, hne, false_or, hun, Bool.false_eq_true, Bool.and_eq_true] at h1
  rcases h1 with h1 | h1
  · obtain ⟨e, he, hb⟩ := Array.any_eq_true'.1 h1
    simp only [Bool.and_eq_true, beq_iff_eq] at hb
    exact absurd hb.2 (hno e he hb.1)
  · exact h1
end

end
end Go.Vg
