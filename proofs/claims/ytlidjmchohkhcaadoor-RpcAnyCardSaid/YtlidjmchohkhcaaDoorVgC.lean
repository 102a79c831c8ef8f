/-
  Vg, part C: one operation: the rules for values; boxes' words.
-/
import Derived.Test.YtlidjmchohkhcaaDoorVgB
import Derived.Laws.Entries
import Derived.Orders
set_option linter.unusedVariables false
set_option linter.unusedSimpArgs false
set_option linter.unusedSectionVars false
namespace Go.Vg
open Go.RowKit

/-- What kind of an operation: 'u': it looks at slots alone; 'l': it looks at memory too; 'x g': it may turn memory ('g': what was there stays). -/
inductive M where
  | u
  | l
  | x (g : Bool)
def M.sees : M → Bool
  | .u => false
  | _ => true

/-- The slot is the function's own. -/
def dst (n : Nat) (d : Option Tmp) (v : Value) (tm : Tm) (K : Tm → Prop) : Prop :=
  match d with
  | some d => Nat.blt d n = true ∧ K ((d, v) :: tm)
  | none => K tm

/-- One operation, whatever its guard. -/
def VX (P : Program) (n : Nat) (md : M) (o : Oper) (σ : St) (K : St → Prop) : Prop :=
  match md with
  | .u => ∃ v, (∀ a, TInv n σ.tm a → ∀ w, (execOp a.eval o).run P w = .ok (.value v) w) ∧ dst n o.dst v σ.tm fun tm => K ⟨tm, σ.bx, σ.rw, σ.ck⟩
  | .l => ∃ v, (∀ a w, Inv n σ a w → (execOp a.eval o).run P w = .ok (.value v) w) ∧ dst n o.dst v σ.tm fun tm => K ⟨tm, σ.bx, σ.rw, σ.ck⟩
  | .x g => ∀ a w, Inv n σ a w → o.wp P a w (fun a' w' => (g = true → Below w.heap.size w w') ∧ ∃ τ, K τ ∧ Inv n τ a' w') (fun _ _ _ => False)

theorem blt_lt {a b : Nat} (h : Nat.blt a b = true) : a < b := by
  have : Nat.ble (a + 1) b = true := h
  exact Nat.le_of_ble_eq_true this

theorem dst_inv {n : Nat} {d : Option Tmp} {v : Value} {σ : St} {K : St → Prop} (h : dst n d v σ.tm fun tm => K ⟨tm, σ.bx, σ.rw, σ.ck⟩) {a : Act} {w : World} (hi : Inv n σ a w) : ∃ τ, K τ ∧ Inv n τ (a.put d v) w := by
  cases d with
  | none => exact ⟨_, h, hi⟩
  | some d => exact ⟨_, h.2, ⟨hi.toTInv.put d (blt_lt h.1) v, hi.w.tm⟩⟩

theorem Oper.wp_of_run {P : Program} {o : Oper} {a : Act} {w w' : World} {v : Value} {K : Act → World → Prop} {Q : Exit → Act → World → Prop} (hr : (execOp a.eval o).run P w = .ok (.value v) w') (h : K (a.put o.dst v) w') : o.wp P a w K Q := by
  unfold Oper.wp
  rw [hr]
  exact h
theorem Oper.wp_of_skip {P : Program} {o : Oper} {a : Act} {w w' : World} {K : Act → World → Prop} {Q : Exit → Act → World → Prop} (hr : (execOp a.eval o).run P w = .ok .skip w') (h : K (a.put o.dst undef) w') : o.wp P a w K Q := by
  unfold Oper.wp
  rw [hr]
  exact h
theorem Oper.wp_false {P : Program} {o : Oper} {a : Act} {w : World} {K : Act → World → Prop} {Q : Exit → Act → World → Prop} (h : o.wp P a w K (fun _ _ _ => False)) : o.wp P a w K Q := by
  unfold Oper.wp at *
  generalize (execOp a.eval o).run P w = r at *
  cases r with
  | ok n w' =>
    cases n <;> simp only [Oper.upon] at h ⊢
    case enter f args =>
      refine Calls.mono h fun e w'' he => ?_
      cases e with
      | returned v => exact he
      | panicked c => exact he.elim
      | outgrown => obtain ⟨_, _, hf⟩ := he; exact hf.elim
    all_goals exact h
  | halt x w' => cases x <;> simp only [Oper.upon] at h ⊢

theorem VX.to_x {P : Program} {n : Nat} {md : M} {o : Oper} {σ : St} {K : St → Prop} (g : Bool) (hm : md = .u ∨ md = .l) (h : VX P n md o σ K) : VX P n (.x g) o σ K := by
  intro a w hi
  rcases hm with rfl | rfl
  · obtain ⟨v, h1, h2⟩ := h
    exact Oper.wp_of_run (h1 a hi.toTInv w) ⟨fun _ => Below.refl _ _, dst_inv h2 hi⟩
  · obtain ⟨v, h1, h2⟩ := h
    exact Oper.wp_of_run (h1 a w hi) ⟨fun _ => Below.refl _ _, dst_inv h2 hi⟩

section
variable {P : Program} {n : Nat} {K : St → Prop} {md : M} {gd : Option (Nat × Bool)}
variable {tm : Tm} {bx bx' : List Bx} {rw rw' : List Rw} {ck ck' : List (World × (Nat → Prop))}
variable {d : Tmp} {ty t : TypeId} {pos : String} {af : Array Edge} {x y z : Operand} {v u : Value}

/-- Slots alone. -/
theorem VX.valU {op : Op} (he : ∀ a, TInv n tm a → ∀ w, (execOp a.eval ⟨some d, op, ty, pos, af, gd⟩).run P w = .ok (.value v) w) (hd : Nat.blt d n = true)
    (h : K ⟨(d, v) :: tm, bx, rw, ck⟩) : VX P n md ⟨some d, op, ty, pos, af, gd⟩ ⟨tm, bx, rw, ck⟩ K := by
  cases md with
  | u => exact ⟨v, he, hd, h⟩
  | l => exact ⟨v, fun a w hi => he a hi.toTInv w, hd, h⟩
  | x g => exact VX.to_x (md := .u) g (.inl rfl) ⟨v, he, hd, h⟩
/-- The world stays. -/
theorem VX.val {op : Op} (hm : md.sees = true) (he : ∀ a w, Inv n ⟨tm, bx, rw, ck⟩ a w → (execOp a.eval ⟨some d, op, ty, pos, af, gd⟩).run P w = .ok (.value v) w) (hd : Nat.blt d n = true)
    (h : K ⟨(d, v) :: tm, bx, rw, ck⟩) : VX P n md ⟨some d, op, ty, pos, af, gd⟩ ⟨tm, bx, rw, ck⟩ K := by
  cases md with
  | u => cases hm
  | l => exact ⟨v, he, hd, h⟩
  | x g => exact VX.to_x (md := .l) g (.inr rfl) ⟨v, he, hd, h⟩
/-- The world turns. -/
theorem VX.valw {op : Op} {g : Bool} (he : ∀ a w, Inv n ⟨tm, bx, rw, ck⟩ a w → ∃ w', (execOp a.eval ⟨some d, op, ty, pos, af, gd⟩).run P w = .ok (.value v) w' ∧ (g = true → Below w.heap.size w w') ∧ WInv ⟨tm, bx', rw', ck'⟩ w') (hd : Nat.blt d n = true)
    (h : K ⟨(d, v) :: tm, bx', rw', ck'⟩) : VX P n (.x g) ⟨some d, op, ty, pos, af, gd⟩ ⟨tm, bx, rw, ck⟩ K := fun a w hi => by
  obtain ⟨w', h1, h2, h3⟩ := he a w hi
  exact Oper.wp_of_run h1 ⟨h2, _, h, (hi.world h3).put d (blt_lt hd) _⟩
theorem VX.unit {op : Op} (he : ∀ a w, Inv n ⟨tm, bx, rw, ck⟩ a w → ∃ w', (execOp a.eval ⟨none, op, ty, pos, af, gd⟩).run P w = .ok .skip w' ∧ WInv ⟨tm, bx', rw', ck'⟩ w')
    (h : K ⟨tm, bx', rw', ck'⟩) : VX P n (.x false) ⟨none, op, ty, pos, af, gd⟩ ⟨tm, bx, rw, ck⟩ K := fun a w hi => by
  obtain ⟨w', h1, h3⟩ := he a w hi
  exact Oper.wp_of_skip h1 ⟨fun e => (by cases e), _, h, hi.world h3⟩

/-! ### Values -/
theorem VX.move (hx : ev tm x = some v := by rfl) (hd : Nat.blt d n = true := by rfl) (h : K ⟨(d, v) :: tm, bx, rw, ck⟩) :
    VX P n md ⟨some d, .move x, ty, pos, af, gd⟩ ⟨tm, bx, rw, ck⟩ K := VX.valU (fun a hi w => by simp [execOp, hi.ev hx]) hd h
theorem VX.assign (hx : ev tm x = some v := by rfl) (hd : Nat.blt d n = true := by rfl) (h : K ⟨(d, v) :: tm, bx, rw, ck⟩) :
    VX P n md ⟨some d, .assign x, ty, pos, af, gd⟩ ⟨tm, bx, rw, ck⟩ K := VX.valU (fun a hi w => by simp [execOp, hi.ev hx]) hd h
theorem VX.pick {b : Bool} (hx : ev tm x = some (.bool b) := by rfl) (hy : ev tm (if b then y else z) = some v := by rfl) (hd : Nat.blt d n = true := by rfl) (h : K ⟨(d, v) :: tm, bx, rw, ck⟩) :
    VX P n md ⟨some d, .pick x y z, ty, pos, af, gd⟩ ⟨tm, bx, rw, ck⟩ K := VX.valU (fun a hi w => by
      have := hi.ev hy
      cases b <;> simp_all [execOp, hi.ev hx, asBool]) hd h
theorem VX.not {b : Bool} (hx : ev tm x = some (.bool b) := by rfl) (hd : Nat.blt d n = true := by rfl) (h : K ⟨(d, .bool (!b)) :: tm, bx, rw, ck⟩) :
    VX P n md ⟨some d, .unOp .not t x, ty, pos, af, gd⟩ ⟨tm, bx, rw, ck⟩ K := VX.valU (fun a hi w => by simp [execOp, hi.ev hx, Op.unary]) hd h
theorem VX.extract {vs : List Value} {i : Nat} (hx : ev tm x = some (.tuple vs.toArray) := by rfl) (hv : vs[i]? = some v := by rfl) (hd : Nat.blt d n = true := by rfl) (h : K ⟨(d, v) :: tm, bx, rw, ck⟩) :
    VX P n md ⟨some d, .extract x i, ty, pos, af, gd⟩ ⟨tm, bx, rw, ck⟩ K := VX.valU (fun a hi w => by simp [execOp, hi.ev hx, Instr.extract, hv]) hd h

def ibits (op : BinOp) (k : IntKind) (a b : Int) : Int :=
  match op with
  | .and => k.wrap (BitVec.ofInt k.bits a &&& BitVec.ofInt k.bits b).toNat
  | .or => k.wrap (BitVec.ofInt k.bits a ||| BitVec.ofInt k.bits b).toNat
  | .xor => k.wrap (BitVec.ofInt k.bits a ^^^ BitVec.ofInt k.bits b).toNat
  | .andNot => k.wrap (BitVec.ofInt k.bits a &&& ~~~BitVec.ofInt k.bits b).toNat
  | _ => 0
def ibin (op : BinOp) (k : IntKind) (a b : Int) : Option Value :=
  match op with
  | .add => some (.int k (k.wrap (a + b)))
  | .sub => some (.int k (k.wrap (a - b)))
  | .mul => some (.int k (k.wrap (a * b)))
  | .and => some (.int k (ibits .and k a b))
  | .or => some (.int k (ibits .or k a b))
  | .xor => some (.int k (ibits .xor k a b))
  | .andNot => some (.int k (ibits .andNot k a b))
  | .eql => some (.bool (decide (a = b)))
  | .neq => some (.bool (!decide (a = b)))
  | .lss => some (.bool (decide (a < b)))
  | .leq => some (.bool (decide (a ≤ b)))
  | .gtr => some (.bool (decide (b < a)))
  | .geq => some (.bool (decide (b ≤ a)))
  | _ => none
theorem beq_dec (a b : Int) : (a == b) = decide (a = b) := by
  by_cases h : a = b <;> simp [h]
theorem ibin_run {op : BinOp} {k : IntKind} {a b : Int} (h : ibin op k a b = some v) (w : World) : (binOp op t (.int k a) (.int k b)).run P w = .ok v w := by
  cases op <;> simp only [ibin, Option.some.injEq, reduceCtorEq] at h <;> subst h <;>
    simp [binOp, Op.intArith, Op.intBits, Op.intCmp, ibits, bne, beq_dec]
theorem VX.bin {op : BinOp} {k : IntKind} {a b : Int} {t' : TypeId} (hx : ev tm x = some (.int k a) := by rfl) (hy : ev tm y = some (.int k b) := by rfl) (hv : ibin op k a b = some v := by rfl) (hd : Nat.blt d n = true := by rfl)
    (h : K ⟨(d, v) :: tm, bx, rw, ck⟩) : VX P n md ⟨some d, .binOp op t x y t', ty, pos, af, gd⟩ ⟨tm, bx, rw, ck⟩ K :=
  VX.valU (fun _ hi w => by
    have := ibin_run (P := P) (t := t) hv w
    cases op <;> simp_all [execOp, hi.ev hx, hi.ev hy, eqGuard]) hd h

/-! ### int's sums without a wrap -/
theorem wrap_i64 {a : Int} (h0 : -9223372036854775808 ≤ a) (h1 : a ≤ 9223372036854775807) : IntKind.i64.wrap a = a := by
  simp only [IntKind.wrap, IntKind.bits, IntKind.signed, Bool.true_and]
  split
  · rename_i h
    have h := of_decide_eq_true h
    omega
  · rename_i h
    have h : ¬ _ := fun e => h (decide_eq_true e)
    omega
theorem VX.add64 {a b : Int} {t' : TypeId} (hx : ev tm x = some (.int .i64 a) := by rfl) (hy : ev tm y = some (.int .i64 b) := by rfl) (h0 : -9223372036854775808 ≤ a + b := by omega) (h1 : a + b ≤ 9223372036854775807 := by omega) (hd : Nat.blt d n = true := by rfl)
    (h : K ⟨(d, .int .i64 (a + b)) :: tm, bx, rw, ck⟩) : VX P n md ⟨some d, .binOp .add t x y t', ty, pos, af, gd⟩ ⟨tm, bx, rw, ck⟩ K :=
  VX.bin hx hy (by simp [ibin, wrap_i64 h0 h1]) hd h
theorem VX.sub64 {a b : Int} {t' : TypeId} (hx : ev tm x = some (.int .i64 a) := by rfl) (hy : ev tm y = some (.int .i64 b) := by rfl) (h0 : -9223372036854775808 ≤ a - b := by omega) (h1 : a - b ≤ 9223372036854775807 := by omega) (hd : Nat.blt d n = true := by rfl)
    (h : K ⟨(d, .int .i64 (a - b)) :: tm, bx, rw, ck⟩) : VX P n md ⟨some d, .binOp .sub t x y t', ty, pos, af, gd⟩ ⟨tm, bx, rw, ck⟩ K :=
  VX.bin hx hy (by simp [ibin, wrap_i64 h0 h1]) hd h
theorem VX.mul64 {a b : Int} {t' : TypeId} (hx : ev tm x = some (.int .i64 a) := by rfl) (hy : ev tm y = some (.int .i64 b) := by rfl) (h0 : -9223372036854775808 ≤ a * b := by omega) (h1 : a * b ≤ 9223372036854775807 := by omega) (hd : Nat.blt d n = true := by rfl)
    (h : K ⟨(d, .int .i64 (a * b)) :: tm, bx, rw, ck⟩) : VX P n md ⟨some d, .binOp .mul t x y t', ty, pos, af, gd⟩ ⟨tm, bx, rw, ck⟩ K :=
  VX.bin hx hy (by simp [ibin, wrap_i64 h0 h1]) hd h

/-! ### Boxes -/
inductive BxAt : List Bx → Nat → List Value → TypeId → Prop where
  | head {b cs e r} : BxAt ((b, cs, e) :: r) b cs e
  | tail {b cs e x r} : BxAt r b cs e → BxAt (x :: r) b cs e
inductive BxSet : List Bx → Nat → List Value → TypeId → List Value → List Bx → Prop where
  | head {b cs e cs' r} : BxSet ((b, cs, e) :: r) b cs e cs' ((b, cs', e) :: r)
  | tail {b cs e cs' x r r'} : BxSet r b cs e cs' r' → BxSet (x :: r) b cs e cs' (x :: r')
inductive CsSet : List Value → Nat → Value → List Value → Prop where
  | head {v u r} : CsSet (u :: r) 0 v (v :: r)
  | tail {v u r r' i} : CsSet r i v r' → CsSet (u :: r) (i + 1) v (u :: r')
inductive CsSub : List Value → Nat → Nat → List Value → Prop where
  | nil {cs} : CsSub cs 0 0 []
  | take {u r k l} : CsSub r 0 k l → CsSub (u :: r) 0 (k + 1) (u :: l)
  | drop {u r i k l} : CsSub r i k l → CsSub (u :: r) (i + 1) k l
inductive CsPut : List Value → Nat → List Value → List Value → Prop where
  | nil {cs} : CsPut cs 0 [] cs
  | take {v u r l r'} : CsPut r 0 l r' → CsPut (u :: r) 0 (v :: l) (v :: r')
  | drop {u r i l r'} : CsPut r i l r' → CsPut (u :: r) (i + 1) l (u :: r')

theorem BxAt.mem {b : Nat} {cs : List Value} {e : TypeId} (h : BxAt bx b cs e) : (b, cs, e) ∈ bx := by
  induction h with
  | head => simp
  | tail _ ih => exact List.mem_cons_of_mem _ ih
theorem BxSet.get {b : Nat} {cs cs' : List Value} {e : TypeId} (h : BxSet bx b cs e cs' bx') : ∃ j, bx[j]? = some (b, cs, e) ∧ bx' = setAt (b, cs', e) j bx := by
  induction h with
  | head => exact ⟨0, by simp, rfl⟩
  | tail _ ih =>
    obtain ⟨j, h1, h2⟩ := ih
    exact ⟨j + 1, by simpa using h1, by simp [setAt, h2]⟩
theorem CsSet.eq {cs cs' : List Value} {i : Nat} (h : CsSet cs i v cs') : cs' = cs.set i v ∧ i < cs.length := by
  induction h with
  | head => simp
  | tail _ ih => simp [ih.1, ih.2]
theorem CsSub.eq {cs l : List Value} {i k : Nat} (h : CsSub cs i k l) : l = (cs.drop i).take k ∧ i + k ≤ cs.length ∧ l.length = k := by
  induction h with
  | nil => simp
  | take _ ih => obtain ⟨h1, h2, h3⟩ := ih; subst h1; simp at h2 h3 ⊢; omega
  | drop _ ih => obtain ⟨h1, h2, h3⟩ := ih; subst h1; simp at h2 h3 ⊢; omega
theorem CsPut.eq {cs l cs' : List Value} {i : Nat} (h : CsPut cs i l cs') : cs'.length = cs.length ∧ i + l.length ≤ cs.length ∧ ∀ j, cs'[j]? = if i ≤ j ∧ j < i + l.length then l[j - i]? else cs[j]? := by
  induction h with
  | nil => exact ⟨rfl, by simp, fun j => by rw [if_neg (by simp)]⟩
  | take _ ih =>
    obtain ⟨h1, h2, h3⟩ := ih
    refine ⟨by simp [h1], by simp at h2 ⊢; omega, fun j => ?_⟩
    cases j with
    | zero => simp
    | succ j => simpa using h3 j
  | @drop u r i l r' _ ih =>
    obtain ⟨h1, h2, h3⟩ := ih
    refine ⟨by simp [h1], by simp; omega, fun j => ?_⟩
    cases j with
    | zero => simp
    | succ j =>
      have := h3 j
      simp only [List.getElem?_cons_succ, this]
      simp only [Nat.add_le_add_iff_right, show i + 1 + l.length = (i + l.length) + 1 by omega, Nat.add_lt_add_iff_right, show j + 1 - (i + 1) = j - i by omega]

theorem cell_bx {σ : St} {w : World} (h : WInv σ w) {b : Nat} {cs : List Value} {e : TypeId} (hb : BxAt σ.bx b cs e) (i : Nat) : w.cell? ⟨b, i, none⟩ = cs[i]? := by
  have := h.bx _ hb.mem
  rw [cell_of_row w b i _ e (0, 0) this]
  simp

end
end Go.Vg
