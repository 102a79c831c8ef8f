/-
  Vg, part X: callees that turn an own box, or an own box and an own row; function values; a string appended to an own row.
-/
import Derived.Test.YtlidjmchohkhcaaDoorVgU
import Derived.Test.YtlidjmchohkhcaaDoorVgS
import Derived.LoopN
set_option linter.unusedVariables false
set_option linter.unusedSectionVars false
namespace Go.Vg
open Go.RowKit
section
variable {P : Program} [HasTab P] {n : Nat} {K : St → Prop} {md : M} {gd : Option (Nat × Bool)}
variable {tm : Tm} {bx bx' : List Bx} {rw rw' : List Rw} {ck ck' : List (World × (Nat → Prop))}
variable {d : Tmp} {ty t st e : TypeId} {pos : String} {af : Array Edge} {x y z : Operand} {v u : Value}
theorem WInv.weak {tm' : Tm} {w : World} (h : WInv ⟨tm, bx, rw, ck⟩ w) (hb : BxSub bx bx') (hr : RwSub rw rw') (hc : CkSub ck ck') : WInv ⟨tm', bx', rw', ck'⟩ w := by
  obtain ⟨b2, h1⟩ := hb.sub
  obtain ⟨r2, h2⟩ := hr.winv (pre := []) (h.perm h1 (List.Perm.refl _))
  exact (WInv.forget (by simpa using h2) hc).tm
/-- The callee turns an own box; it may leave check points. -/
theorem VX.callB {ζ : Type} {f : Nat} {args : List Operand} {ts : Array TypeId} {vs cs : List Value} {b : Nat} {dd : Option Tmp} (cs' : ζ → List Value) (ckz : ζ → List (World × (Nat → Prop))) (p : Value → ζ → Prop)
    (hv : Evs tm args vs := by ((repeat' (guard_target =~ Evs _ _ _; first | exact Evs.nil | refine' Evs.cons rfl _)); fail_if_success refine ?_)) (hF : nmem f (HasTab.F P) = true := by rfl) (hd : dOk n dd = true := by rfl)
    (hbx : BxDel bx b cs e bx' := by ((repeat' (guard_target =~ BxDel _ _ _ _ _; first | exact BxDel.head | refine' BxDel.tail _)); fail_if_success refine ?_))
    (hc : ∀ w, WInv ⟨[], (b, cs, e) :: bx', rw, ck⟩ w → Calls P f vs.toArray w fun en w' => ∃ v z, en = .returned v ∧ p v z ∧ WInv ⟨[], (b, cs' z, e) :: bx', rw, ckz z⟩ w')
    (h : ∀ v z, p v z → K ⟨putT dd v tm, (b, cs' z, e) :: bx', rw, ckz z⟩) :
    VX P n (.x false) ⟨dd, .call { callee := .value (.func f), args := args.toArray, argTypes := ts }, ty, pos, af, gd⟩ ⟨tm, bx, rw, ck⟩ K :=
  VX.callG (fun z => ((b, cs' z, e) :: bx', rw, ckz z)) p hv hF hd
    (fun w hw => (hc w (hw.perm hbx.perm (List.Perm.refl _)).tm).mono fun en w' ⟨v, z, he, hp, hw'⟩ => ⟨v, z, he, hp, fun e => (by cases e), hw'.tm⟩) h
/-- The callee turns an own box and an own row. -/
theorem VX.callBR {ζ : Type} {f : Nat} {args : List Operand} {ts : Array TypeId} {vs cs : List Value} {b : Nat} {r : Rw} {dd : Option Tmp} (cs' : ζ → List Value) (r' : ζ → Rw) (p : Value → ζ → Prop)
    (hv : Evs tm args vs := by ((repeat' (guard_target =~ Evs _ _ _; first | exact Evs.nil | refine' Evs.cons rfl _)); fail_if_success refine ?_)) (hF : nmem f (HasTab.F P) = true := by rfl) (hd : dOk n dd = true := by rfl)
    (hbx : BxDel bx b cs e bx' := by ((repeat' (guard_target =~ BxDel _ _ _ _ _; first | exact BxDel.head | refine' BxDel.tail _)); fail_if_success refine ?_))
    (hrw : RwDel rw r rw' := by ((repeat' (guard_target =~ RwDel _ _ _; first | exact RwDel.head | refine' RwDel.tail _)); fail_if_success refine ?_))
    (hc : ∀ w, WInv ⟨[], (b, cs, e) :: bx', r :: rw', ck⟩ w → Calls P f vs.toArray w fun en w' => ∃ v z, en = .returned v ∧ p v z ∧ WInv ⟨[], (b, cs' z, e) :: bx', r' z :: rw', ck⟩ w')
    (h : ∀ v z, p v z → K ⟨putT dd v tm, (b, cs' z, e) :: bx', r' z :: rw', ck⟩) :
    VX P n (.x false) ⟨dd, .call { callee := .value (.func f), args := args.toArray, argTypes := ts }, ty, pos, af, gd⟩ ⟨tm, bx, rw, ck⟩ K :=
  VX.callG (fun z => ((b, cs' z, e) :: bx', r' z :: rw', ck)) p hv hF hd
    (fun w hw => (hc w (hw.perm hbx.perm hrw.perm).tm).mono fun en w' ⟨v, z, he, hp, hw'⟩ => ⟨v, z, he, hp, fun e => (by cases e), hw'.tm⟩) h
/-- A comparison that is known some other way. -/
theorem VX.eqW {vx vy : Value} {t' : TypeId} (hx : ev tm x = some vx := by rfl) (hy : ev tm y = some vy := by rfl) (hg : ∀ w, (eqGuard .eql t x y vx vy).run P w = .ok () w) (hb : ∀ w, (binOp .eql t vx vy).run P w = .ok v w) (hd : Nat.blt d n = true := by rfl)
    (h : K ⟨(d, v) :: tm, bx, rw, ck⟩) : VX P n md ⟨some d, .binOp .eql t x y t', ty, pos, af, gd⟩ ⟨tm, bx, rw, ck⟩ K :=
  VX.valU (fun a hi w => run_binop (hi.ev hx) (hi.ev hy) (hg w) (hb w)) hd h
/-- A function value is called: what it has captured stands behind the arguments. -/
theorem run_callT {a : Act} {w : World} (hi : TInv n tm a) {f : Nat} {cap : List Value} {args : List Operand} {ts : Array TypeId} {vs : List Value} {y : Tmp} (hy : look y tm = some (.func (.func f) #[] cap.toArray)) (hv : Evs tm args vs) (hF : nmem f (HasTab.F P) = true) (o : Option Tmp) :
    (execOp a.eval ⟨o, .call { callee := .value (.tmp y), args := args.toArray, argTypes := ts }, ty, pos, af, gd⟩).run P w = .ok (.enter f (vs ++ cap).toArray) w := by
  have h1 := hv.map hi
  have h2 := run_callFunc hF (vs ++ cap).toArray w
  have h3 : args.toArray.map a.eval = vs.toArray := by simp [h1]
  have h4 : a.eval (.tmp y) = .func (.func f) #[] cap.toArray := hi.ev (x := .tmp y) hy
  simp only [execOp, resolve, h3, h4]
  have h5 : vs.toArray ++ cap.toArray = (vs ++ cap).toArray := by simp
  simp [Deferred.ofValue, invoke, h5, h2]
theorem VX.callT {g : Bool} {f : Nat} {cap : List Value} {args : List Operand} {ts : Array TypeId} {vs : List Value} {y : Tmp} {dd : Option Tmp}
    (hy : look y tm = some (.func (.func f) #[] cap.toArray) := by rfl) (hv : Evs tm args vs := by ((repeat' (guard_target =~ Evs _ _ _; first | exact Evs.nil | refine' Evs.cons rfl _)); fail_if_success refine ?_)) (hF : nmem f (HasTab.F P) = true := by rfl) (hd : dOk n dd = true := by rfl)
    (hc : ∀ w, WInv ⟨tm, bx, rw, ck⟩ w → Calls P f (vs ++ cap).toArray w (Ret w v))
    (h : K ⟨putT dd v tm, bx, rw, ck⟩) :
    VX P n (.x g) ⟨dd, .call { callee := .value (.tmp y), args := args.toArray, argTypes := ts }, ty, pos, af, gd⟩ ⟨tm, bx, rw, ck⟩ K := fun a w hi => by
  unfold Oper.wp
  rw [run_callT hi.toTInv hy hv hF]
  refine (hc w hi.w).mono ?_
  rintro e w' ⟨rfl, hb⟩
  cases dd with
  | none => exact ⟨fun _ => hb, _, h, hi.world (hi.w.below hb)⟩
  | some d => exact ⟨fun _ => hb, _, h, (hi.world (hi.w.below hb)).put d (blt_lt hd) v⟩
/-- 'string(row)'. -/
theorem VX.strRow {xs : List UInt8} {A : Option Addr} {m c : Nat} {s0 b0 s1 b1 s2 b2 : Nat} {z0 z1 z2 : Value} (hmd : md.sees = true := by rfl) (hx : ev tm x = some (.slice A m c) := by rfl) (hs : Ty P st ⟨.slice e, s0, b0, z0⟩ := by rfl) (he : Ty P e ⟨.int .u8, s1, b1, z1⟩ := by rfl) (ht : Ty P t ⟨.string, s2, b2, z2⟩ := by rfl)
    (hr : RwAt rw ⟨.slice A m c, e, 1, m, xs.flatMap encB⟩ := by ((repeat' (guard_target =~ RwAt _ _; first | exact RwAt.head | refine' RwAt.tail _)); fail_if_success refine ?_)) (hd : Nat.blt d n = true := by rfl)
    (h : K ⟨(d, .string ⟨xs.toArray⟩) :: tm, bx, rw, ck⟩) : VX P n md ⟨some d, .convert st t x, ty, pos, af, gd⟩ ⟨tm, bx, rw, ck⟩ K :=
  VX.val hmd (fun a w hi => by
    have h1 := run_view_string (P := P) (c := c) (hi.w.rl (hr := hr) (hsz := encB_ok))
    simp [execOp, hi.ev hx, convert, run_underlying hs.und, run_underlying ht.und, run_underlying he.und, h1]) hd h
/-- 's[k]'. -/
theorem VX.strAt {s : ByteArray} {k : Nat} {j : Int} {ik : IntKind} {s1 b1 : Nat} {z1 : Value} (hx : ev tm x = some (.string s) := by rfl) (hy : ev tm y = some (.int ik j) := by rfl) (ht : Ty P t ⟨.string, s1, b1, z1⟩ := by rfl) (hk : j = ((k : Nat) : Int) := by first | rfl | omega) (hlt : k < s.data.toList.length := by omega) (hd : Nat.blt d n = true := by rfl)
    (h : K ⟨(d, .int .u8 ((s.data.toList[k]'hlt).toNat : Int)) :: tm, bx, rw, ck⟩) : VX P n md ⟨some d, .index t x y, ty, pos, af, gd⟩ ⟨tm, bx, rw, ck⟩ K :=
  VX.valU (fun a hi w => by
    have h1 := ht.run_und w
    have hl : k < s.size := by rw [← bytes_len]; exact hlt
    have h2 : s[k]? = some (s.data.toList[k]'hlt) := by
      rw [getElem?_pos s k hl, Array.getElem_toList]
      rfl
    subst hk
    simp [execOp, Instr.index, hi.ev hx, hi.ev hy, h1, h2, asIntOf])  hd h
/-- 'append(row, s...)'. -/
theorem VX.appendRS {n' : Nat} {xs : List Value} {s : ByteArray} {s1 b1 s2 b2 : Nat} {z1 z2 : Value} (hx : ev tm x = some v := by rfl) (hy : ev tm y = some (.string s) := by rfl)
    (ht : Ty P t ⟨.slice e, s1, b1, z1⟩ := by rfl) (hu : Ty P st ⟨.string, s2, b2, z2⟩ := by rfl) (he : Ty P e ⟨.int .u8, 1, 1, .int .u8 0⟩ := by rfl)
    (hrow : RwDel rw ⟨v, e, 1, n', xs⟩ rw' := by ((repeat' (guard_target =~ RwDel _ _ _; first | exact RwDel.head | refine' RwDel.tail _)); fail_if_success refine ?_))
    (hb : n' + s.size ≤ 140737488355328 := by omega) (hd : Nat.blt d n = true := by rfl)
    (h : ∀ A' c', K ⟨(d, .slice A' (n' + s.size) c') :: tm, bx, ⟨.slice A' (n' + s.size) c', e, 1, n' + s.size, xs ++ s.data.toList.flatMap encB⟩ :: rw', ck⟩) :
    VX P n (.x false) ⟨some d, .call { callee := .builtin .append, args := #[x, y], argTypes := #[t, st] }, ty, pos, af, gd⟩ ⟨tm, bx, rw, ck⟩ K :=
  VX.appendSG (fun w hw => hw.perm (List.Perm.refl _) hrow.perm) hx hy ht hu he hb hd h
end
section
variable {P : Program} {fn : Func} {R : Ending → World → Prop} {n : Nat} {Q : Cont} {σ τ : St} {c : Code} {i : Nat}
/-- Paths meet behind a piece of code. -/
theorem V.meet {ι : Type} (S : ι → St) (ok : ι → Prop) (h : V P fn R n c σ (joinQ n S ok Q)) (h2 : ∀ i, ok i → Q .normal (S i)) : V P fn R n c σ Q := fun a w hi => by
  refine wp_mono (h a w hi) fun e a w ho => ?_
  cases e with
  | normal =>
    obtain ⟨τ, ⟨y, h3, h4⟩, h5⟩ := ho
    exact ⟨S y, h2 y h4, h3 a w h5⟩
  | exit i => exact ho
  | ret => exact ho
  | goto l => exact ho
  | panic c => exact ho
  | outgrown => exact ho
/-- A loop of few rounds, one round after the other. -/
def roundQ (P : Program) (fn : Func) (R : Ending → World → Prop) (n : Nat) (c : Code) (Q : Cont) : Nat → Cont
  | 0, .normal, _ => False
  | k + 1, .normal, σ => V P fn R n c σ (roundQ P fn R n c Q k)
  | _, e, σ => Q e σ
theorem roundQ_next {k : Nat} (h : V P fn R n c σ (roundQ P fn R n c Q k)) : roundQ P fn R n c Q (k + 1) .normal σ := h
theorem roundQ_exit {k : Nat} (h : Q (.exit i) σ) : roundQ P fn R n c Q k (.exit i) σ := by cases k <;> exact h
theorem rounds_of : ∀ (k : Nat) {σ : St} {a : Act} {w : World}, Inv n σ a w → V P fn R n c σ (roundQ P fn R n c Q k) → Code.rounds P c (Out P fn R n Q) (k + 1) a w := by
  intro k
  induction k with
  | zero =>
    intro σ a w hi h
    rw [rounds_succ]
    refine wp_mono (h a w hi) fun e a w ho => ?_
    cases e with
    | normal =>
      obtain ⟨τ, h1, _⟩ := ho
      exact h1.elim
    | exit i => exact ho
    | ret => exact ho
    | goto l => exact ho
    | panic c => exact ho
    | outgrown => exact ho
  | succ k ih =>
    intro σ a w hi h
    rw [rounds_succ]
    refine wp_mono (h a w hi) fun e a w ho => ?_
    cases e with
    | normal =>
      obtain ⟨τ, h1, h2⟩ := ho
      exact ih h2 h1
    | exit i => exact ho
    | ret => exact ho
    | goto l => exact ho
    | panic c => exact ho
    | outgrown => exact ho
theorem V.loopN (k : Nat) (h : V P fn R n c σ (roundQ P fn R n c Q k)) : V P fn R n (.loop c) σ Q := fun a w hi => wp_loop_rounds (k + 1) (rounds_of k hi h)
end
end Go.Vg
