/-
  Vg, part E: calls, rows (append), parts of slices, elements, ends.
-/
import Derived.Test.YtlidjmchohkhcaaDoorVgD
set_option linter.unusedVariables false
set_option linter.unusedSimpArgs false
set_option linter.unusedSectionVars false
namespace Go.Vg
open Go.RowKit

/-- Blocks made between two worlds. -/
def Fresh (w w' : World) : Nat → Prop := fun g => w.heap.size ≤ g ∧ g < w'.heap.size
/-- A block of a slice. -/
def Own (v : Value) : Nat → Prop := fun g => v.ownBlock = some g

inductive RwDel : List Rw → Rw → List Rw → Prop where
  | head {r l} : RwDel (r :: l) r l
  | tail {r x l l'} : RwDel l r l' → RwDel (x :: l) r (x :: l')
inductive BxDel : List Bx → Nat → List Value → TypeId → List Bx → Prop where
  | head {b cs e r} : BxDel ((b, cs, e) :: r) b cs e r
  | tail {b cs e x r r'} : BxDel r b cs e r' → BxDel (x :: r) b cs e (x :: r')
inductive RwAt : List Rw → Rw → Prop where
  | head {r l} : RwAt (r :: l) r
  | tail {r x l} : RwAt l r → RwAt (x :: l) r
theorem RwAt.mem {l : List Rw} {r : Rw} (h : RwAt l r) : r ∈ l := by
  induction h with
  | head => simp
  | tail _ ih => exact List.mem_cons_of_mem _ ih
theorem RwDel.perm {l l' : List Rw} {r : Rw} (h : RwDel l r l') : l.Perm (r :: l') := by
  induction h with
  | head => exact List.Perm.refl _
  | tail _ ih => exact (List.Perm.cons _ ih).trans (List.Perm.swap _ _ _)
theorem BxDel.perm {l l' : List Bx} {b : Nat} {cs : List Value} {e : TypeId} (h : BxDel l b cs e l') : l.Perm ((b, cs, e) :: l') := by
  induction h with
  | head => exact List.Perm.refl _
  | tail _ ih => exact (List.Perm.cons _ ih).trans (List.Perm.swap _ _ _)

section
variable {tm : Tm} {bx bx' : List Bx} {rw rw' : List Rw} {ck ck' : List (World × (Nat → Prop))} {w w' : World} {e : TypeId}

theorem WInv.perm (h : WInv ⟨tm, bx, rw, ck⟩ w) (hb : bx.Perm bx') (hr : rw.Perm rw') : WInv ⟨tm, bx', rw', ck⟩ w := by
  have hp : (St.blks ⟨tm, bx, rw, ck⟩).Perm (St.blks ⟨tm, bx', rw', ck⟩) := (hb.map _).append (hr.map _)
  exact ⟨fun b hm => h.bx b (hb.symm.subset hm), fun r hm => h.rw r (hr.symm.subset hm), (hp.pairwise_iff (fun h => apart_symm _ _ h)).1 h.ap, h.ck, fun c hc b hm => h.sep c hc b (hp.symm.subset hm)⟩

/-- A nil slice is a row of the call's own. -/
theorem WInv.nilrow (h : WInv ⟨tm, bx, rw, ck⟩ w) (e : TypeId) (sz : Nat) : WInv ⟨tm, bx, ⟨.slice none 0 0, e, sz, 0, []⟩ :: rw, ck⟩ w := by
  have hp : (St.blks ⟨tm, bx, ⟨.slice none 0 0, e, sz, 0, []⟩ :: rw, ck⟩).Perm (none :: St.blks ⟨tm, bx, rw, ck⟩) := by
    simp only [St.blks, List.map_cons, Value.ownBlock]
    exact List.perm_middle
  refine ⟨h.bx, fun r hr => ?_, ?_, h.ck, fun c hc b hb g hg => ?_⟩
  · rcases List.mem_cons.1 hr with rfl | hr
    · exact World.ownsRow_nil w 0 e sz
    · exact h.rw r hr
  · refine (hp.pairwise_iff (fun h => apart_symm _ _ h)).2 (List.pairwise_cons.2 ⟨fun y _ g hg => (by cases hg), h.ap⟩)
  · rcases List.mem_cons.1 (hp.subset hb) with rfl | hb
    · cases hg
    · exact h.sep c hc b hb g hg

/-- A box of elements is a row. -/
theorem WInv.boxrow (h : WInv ⟨tm, bx, rw, ck⟩ w) {b : Nat} {cs : List Value} (hd : BxDel bx b cs e bx') (sz m : Nat) (hm : cs.length = m * sz) (hmax : m ≤ maxLen) : WInv ⟨tm, bx', ⟨.slice (some ⟨b, 0, none⟩) m m, e, sz, m, cs⟩ :: rw, ck⟩ w := by
  have h1 : WInv ⟨tm, (b, cs, e) :: bx', rw, ck⟩ w := h.perm hd.perm (List.Perm.refl _)
  have hp : (St.blks ⟨tm, bx', ⟨.slice (some ⟨b, 0, none⟩) m m, e, sz, m, cs⟩ :: rw, ck⟩).Perm (St.blks ⟨tm, (b, cs, e) :: bx', rw, ck⟩) := by
    simp only [St.blks, List.map_cons, Value.ownBlock, List.cons_append]
    exact List.perm_middle
  refine ⟨fun x hx => h1.bx x (List.mem_cons_of_mem _ hx), fun r hr => ?_, (hp.pairwise_iff (fun h => apart_symm _ _ h)).2 h1.ap, h1.ck, fun c hc x hx => h1.sep c hc x (hp.subset hx)⟩
  rcases List.mem_cons.1 hr with rfl | hr
  · exact ⟨hm, .inr ⟨b, m, cs.toArray, rfl, Nat.zero_le _, h1.bx _ List.mem_cons_self, Nat.le_refl _, hmax, by simpa using hm, by rw [← hm]; simp⟩⟩
  · exact h1.rw r hr

theorem WInv.append {v : Value} {sz n : Nat} {xs : List Value} (h : WInv ⟨tm, bx, ⟨v, e, sz, n, xs⟩ :: rw, ck⟩ w) {e' : TypeId} {sz' n' : Nat} {xs' : List Value} {v' : Value} (hg : w.grownBy w' v.ownBlock) (hown : w'.ownsRow 0 e' sz' v' n' xs') (hat : v'.ownBlock = v.ownBlock ∨ v'.ownBlock = some w.heap.size) :
    WInv ⟨tm, bx, ⟨v', e', sz', n', xs'⟩ :: rw, ck⟩ w' := by
  have hp : (St.blks ⟨tm, bx, ⟨v, e, sz, n, xs⟩ :: rw, ck⟩).Perm (v.ownBlock :: St.blks ⟨tm, bx, rw, ck⟩) := by
    simp only [St.blks, List.map_cons]
    exact List.perm_middle
  have hp' : (St.blks ⟨tm, bx, ⟨v', e', sz', n', xs'⟩ :: rw, ck⟩).Perm (v'.ownBlock :: St.blks ⟨tm, bx, rw, ck⟩) := by
    simp only [St.blks, List.map_cons]
    exact List.perm_middle
  have hap := (hp.pairwise_iff (fun h => apart_symm _ _ h)).1 h.ap
  obtain ⟨hap1, hap2⟩ := List.pairwise_cons.1 hap
  have hne : ∀ b, b ∈ St.blks ⟨tm, bx, rw, ck⟩ → ∀ g, b = some g → g < w.heap.size ∧ some g ≠ v.ownBlock := by
    intro b hb g hg'
    refine ⟨h.lt b (hp.symm.subset (List.mem_cons_of_mem _ hb)) g hg', fun e => ?_⟩
    exact hap1 b hb g e.symm hg'
  have hold : ∀ b, b ∈ St.blks ⟨tm, bx, rw, ck⟩ → ∀ g, b = some g → w'.heap[g]? = w.heap[g]? := fun b hb g hg' => hg.block g (hne b hb g hg').1 (hne b hb g hg').2
  refine ⟨fun b hb => ?_, fun r hr => ?_, ?_, fun c hc => ?_, fun c hc b hb g hg' => ?_⟩
  · have hm : some b.1 ∈ St.blks ⟨tm, bx, rw, ck⟩ := mem_blks_bx (σ := ⟨tm, bx, rw, ck⟩) hb
    exact (hold _ hm b.1 rfl).trans (h.bx b hb)
  · rcases List.mem_cons.1 hr with rfl | hr
    · exact hown
    · exact ownsRow_of_block (h.rw r (List.mem_cons_of_mem _ hr)) fun g hg' => hold _ (mem_blks_rw (σ := ⟨tm, bx, rw, ck⟩) hr) g hg'
  · refine (hp'.pairwise_iff (fun h => apart_symm _ _ h)).2 (List.pairwise_cons.2 ⟨fun y hy g h1 h2 => ?_, hap2⟩)
    rcases hat with e | e
    · exact hap1 y hy g (e ▸ h1) h2
    · rw [e] at h1
      cases h1
      exact Nat.lt_irrefl _ (hne y hy _ h2).1
  · have hk := h.ck c hc
    refine hk.step hg.os hg.tape hg.output hg.size fun g hs => hg.block g (Nat.lt_of_lt_of_le (hk.blk g hs).1 hk.size) fun e => ?_
    exact h.sep c hc v.ownBlock (hp.symm.subset List.mem_cons_self) g e.symm hs
  · rcases List.mem_cons.1 (hp'.subset hb) with rfl | hb
    · rcases hat with e | e
      · exact h.sep c hc v.ownBlock (hp.symm.subset List.mem_cons_self) g (e ▸ hg')
      · rw [e] at hg'
        cases hg'
        exact fun hs => Nat.lt_irrefl _ (Nat.lt_of_lt_of_le ((h.ck c hc).blk _ hs).1 (h.ck c hc).size)
    · exact h.sep c hc b (hp.symm.subset (List.mem_cons_of_mem _ hb)) g hg'

theorem own_form {base n : Nat} {sz : Nat} {v : Value} {xs : List Value} (h : w.ownsRow base e sz v n xs) : ∃ A c, v = .slice A n c := by
  rcases h.2 with ⟨rfl, rfl⟩ | ⟨g, cap, cur, rfl, _⟩
  · exact ⟨none, 0, rfl⟩
  · exact ⟨_, cap, rfl⟩
theorem own_max {base n : Nat} {sz : Nat} {v : Value} {xs : List Value} (h : w.ownsRow base e sz v n xs) : n ≤ maxLen := by
  rcases h.2 with ⟨rfl, rfl⟩ | ⟨g, cap, cur, rfl, _, _, h1, h2, _⟩
  · exact Nat.zero_le _
  · omega

theorem getElem?_flatMap {α : Type} (enc : α → List Value) (sz : Nat) (hsz : ∀ x, (enc x).length = sz) : ∀ (xs : List α) (k : Nat) (hk : k < xs.length) (j : Nat) (u : Value), (enc xs[k])[j]? = some u → (xs.flatMap enc)[k * sz + j]? = some u
  | x :: xs, 0, hk, j, u, h => by
    have hj : j < (enc x).length := by
      rcases Nat.lt_or_ge j (enc x).length with h' | h'
      · exact h'
      · simp [List.getElem?_eq_none h'] at h
    simp only [List.flatMap_cons, Nat.zero_mul, Nat.zero_add]
    rw [List.getElem?_append_left hj]
    simpa using h
  | x :: xs, k + 1, hk, j, u, h => by
    simp only [List.flatMap_cons]
    rw [List.getElem?_append_right (by rw [hsz, Nat.add_mul]; omega), hsz, show (k + 1) * sz + j - sz = k * sz + j by rw [Nat.add_mul]; omega]
    exact getElem?_flatMap enc sz hsz xs k (by simpa using hk) j u (by simpa using h)

theorem length_flatMap {α : Type} {enc : α → List Value} {sz : Nat} (hsz : ∀ x, (enc x).length = sz) (xs : List α) : (xs.flatMap enc).length = xs.length * sz := by
  induction xs with
  | nil => simp
  | cons x xs ih => simp [List.flatMap_cons, hsz, ih, Nat.add_mul, Nat.add_comm]

/-- A row is read. -/
theorem view_of_own {α : Type} {enc : α → List Value} {sz : Nat} {base : Nat} {xs : List α} {A : Option Addr} {n c : Nat} (h : w.ownsRow base e sz (.slice A n c) n (xs.flatMap enc)) (hsz : EncOk enc sz) (h0 : 0 < sz) : View enc sz w (Own (.slice A n c)) A n xs := by
  have hl := h.1
  rw [length_flatMap hsz.len] at hl
  have hl : xs.length = n := Nat.eq_of_mul_eq_mul_right h0 hl
  refine ⟨hsz, hl, by have := own_max h; simpa [maxLen] using this, fun hn => ?_⟩
  rcases h.2 with ⟨he, h1⟩ | ⟨g, cap, cur, he, _, hh, _⟩
  · omega
  · injection he with he1 he2 he3
    subst he1
    refine ⟨_, rfl, rfl, fun k hk j u hu => ?_⟩
    have := h.cells (g := g) rfl (k * sz + j) u (getElem?_flatMap enc sz hsz.len xs k hk j u hu)
    rw [add_add]
    exact this

/-- A row is read by a callee. -/
theorem WInv.rl {σ : St} (hi : WInv σ w) {α : Type} {enc : α → List Value} {A : Option Addr} {n sz c : Nat} {xs : List α} {ys : List Value} (hr : RwAt σ.rw ⟨.slice A n c, e, sz, n, ys⟩ := by ((repeat' (guard_target =~ RwAt _ _; first | exact RwAt.head | refine' RwAt.tail _)); fail_if_success refine ?_)) (hy : ys = xs.flatMap enc := by rfl) (hsz : EncOk enc sz := by assumption) (h0 : Nat.blt 0 sz = true := by rfl) : View enc sz w (Low w) A n xs := by
  subst hy
  have h1 := hi.rw _ hr.mem
  exact (view_of_own h1 hsz (blt_lt h0)).sub fun g hg => (h1.lt g hg).2
theorem WInv.freeze {v : Value} {sz n : Nat} {xs : List Value} (h : WInv ⟨tm, bx, ⟨v, e, sz, n, xs⟩ :: rw, ck⟩ w) : WInv ⟨tm, bx, rw, (w, Own v) :: ck⟩ w := by
  have hp : (St.blks ⟨tm, bx, ⟨v, e, sz, n, xs⟩ :: rw, ck⟩).Perm (v.ownBlock :: St.blks ⟨tm, bx, rw, ck⟩) := by
    simp only [St.blks, List.map_cons]
    exact List.perm_middle
  obtain ⟨hap1, hap2⟩ := List.pairwise_cons.1 ((hp.pairwise_iff (fun h => apart_symm _ _ h)).1 h.ap)
  refine ⟨h.bx, fun r hr => h.rw r (List.mem_cons_of_mem _ hr), hap2, fun c hc => ?_, fun c hc b hb g hg => ?_⟩
  · rcases List.mem_cons.1 hc with rfl | hc
    · exact Keeps.refl fun g hg => h.lt _ (hp.symm.subset List.mem_cons_self) g hg
    · exact h.ck c hc
  · rcases List.mem_cons.1 hc with rfl | hc
    · exact fun hs => hap1 b hb g hs hg
    · exact h.sep c hc b (hp.symm.subset (List.mem_cons_of_mem _ hb)) g hg

/-- A callee's new blocks are kept from here on. -/
theorem WInv.fresh (h : WInv ⟨tm, bx, rw, ck⟩ w) (hb : Below w.heap.size w w') : WInv ⟨tm, bx, rw, (w', Fresh w w') :: ck⟩ w' :=
  (h.below hb).check (Fresh w w') (fun g hg => hg.2) fun b hm g hg hs => by
    have := h.lt b hm g hg
    exact absurd hs.1 (by omega)
/-- A callee's new row is the call's own. -/
theorem WInv.row (h : WInv ⟨tm, bx, rw, ck⟩ w) (hb : Below w.heap.size w w') {v : Value} {sz n : Nat} {xs : List Value} (hown : w'.ownsRow 0 e sz v n xs) (hf : ∀ g, v.ownBlock = some g → w.heap.size ≤ g) : WInv ⟨tm, bx, ⟨v, e, sz, n, xs⟩ :: rw, ck⟩ w' := by
  have h1 := h.below hb
  have hp : (St.blks ⟨tm, bx, ⟨v, e, sz, n, xs⟩ :: rw, ck⟩).Perm (v.ownBlock :: St.blks ⟨tm, bx, rw, ck⟩) := by
    simp only [St.blks, List.map_cons]
    exact List.perm_middle
  refine ⟨h1.bx, fun r hr => ?_, (hp.pairwise_iff (fun h => apart_symm _ _ h)).2 (List.pairwise_cons.2 ⟨fun y hy g hg hy' => ?_, h1.ap⟩), h1.ck, fun c hc b hm g hg hs => ?_⟩
  · rcases List.mem_cons.1 hr with rfl | hr
    · exact hown
    · exact h1.rw r hr
  · have := h.lt y hy g hy'
    have := hf g hg
    omega
  · rcases List.mem_cons.1 (hp.subset hm) with rfl | hm
    · have := hf g hg
      have := Nat.lt_of_lt_of_le ((h.ck c hc).blk g hs).1 (h.ck c hc).size
      omega
    · exact h1.sep c hc b hm g hg hs

end

/-- Slots' values, of a call's arguments. -/
inductive Evs (tm : Tm) : List Operand → List Value → Prop where
  | nil : Evs tm [] []
  | cons {x xs v vs} (h : ev tm x = some v) (hr : Evs tm xs vs) : Evs tm (x :: xs) (v :: vs)
theorem Evs.map {n : Nat} {tm : Tm} {a : Act} (hi : TInv n tm a) {xs : List Operand} {vs : List Value} (h : Evs tm xs vs) : xs.map a.eval = vs := by
  induction h with
  | nil => rfl
  | cons h _ ih => simp [hi.ev h, ih]

section
variable {P : Program} [HasTab P] {n : Nat} {K : St → Prop} {md : M} {gd : Option (Nat × Bool)}
variable {tm : Tm} {bx bx' : List Bx} {rw rw' : List Rw} {ck ck' : List (World × (Nat → Prop))}
variable {d : Tmp} {ty t e : TypeId} {pos : String} {af : Array Edge} {x y z : Operand} {v u : Value}

/-! ### Calls -/
theorem run_call {a : Act} {w : World} (hi : TInv n tm a) {f : Nat} {args : List Operand} {ts : Array TypeId} {vs : List Value} (hv : Evs tm args vs) (hF : nmem f (HasTab.F P) = true) (o : Option Tmp) :
    (execOp a.eval ⟨o, .call { callee := .value (.func f), args := args.toArray, argTypes := ts }, ty, pos, af, gd⟩).run P w = .ok (.enter f vs.toArray) w := by
  have h1 := hv.map hi
  have h2 := run_callFunc hF vs.toArray w
  have h3 : args.toArray.map a.eval = vs.toArray := by simp [h1]
  have h4 : a.eval (.func f) = .func (.func f) #[] #[] := rfl
  simp only [execOp, resolve, h3, h4]
  simp [Deferred.ofValue, invoke, h2]

def dOk (n : Nat) : Option Tmp → Bool
  | some d => Nat.blt d n
  | none => true
def putT (d : Option Tmp) (v : Value) (tm : Tm) : Tm :=
  match d with
  | some d => (d, v) :: tm
  | none => tm

/-- Whatever the callee leaves behind. -/
theorem VX.callG {g : Bool} {ζ : Type} {f : Nat} {args : List Operand} {ts : Array TypeId} {vs : List Value} {dd : Option Tmp} (σ' : ζ → List Bx × List Rw × List (World × (Nat → Prop))) (p : Value → ζ → Prop)
    (hv : Evs tm args vs := by ((repeat' (guard_target =~ Evs _ _ _; first | exact Evs.nil | refine' Evs.cons rfl _)); fail_if_success refine ?_)) (hF : nmem f (HasTab.F P) = true := by rfl) (hd : dOk n dd = true := by rfl)
    (hc : ∀ w, WInv ⟨tm, bx, rw, ck⟩ w → Calls P f vs.toArray w fun e w' => ∃ v z, e = .returned v ∧ p v z ∧ (g = true → Below w.heap.size w w') ∧ WInv ⟨tm, (σ' z).1, (σ' z).2.1, (σ' z).2.2⟩ w')
    (h : ∀ v z, p v z → K ⟨putT dd v tm, (σ' z).1, (σ' z).2.1, (σ' z).2.2⟩) :
    VX P n (.x g) ⟨dd, .call { callee := .value (.func f), args := args.toArray, argTypes := ts }, ty, pos, af, gd⟩ ⟨tm, bx, rw, ck⟩ K := fun a w hi => by
  unfold Oper.wp
  rw [run_call hi.toTInv hv hF]
  refine (hc w hi.w).mono ?_
  rintro e w' ⟨v, z, rfl, hp, hb, hw⟩
  cases dd with
  | none => exact ⟨hb, _, h v z hp, hi.world hw⟩
  | some d => exact ⟨hb, _, h v z hp, (hi.world hw).put d (blt_lt hd) v⟩

/-- The callee only computes: a value, old memory as it was. -/
def Ret (w : World) (v : Value) : Ending → World → Prop := fun e w' => e = .returned v ∧ Below w.heap.size w w'
/-- The callee makes memory: what it says of it. -/
def RetP (w : World) (p : Value → World → Prop) : Ending → World → Prop := fun e w' => ∃ v, e = .returned v ∧ p v w' ∧ Below w.heap.size w w'
/-- A new row among what is handed back. -/
def NewRow (w : World) (e : TypeId) (sz : Nat) (v : Value) (n : Nat) (xs : List Value) (w' : World) : Prop := w'.ownsRow 0 e sz v n xs ∧ ∀ g, v.ownBlock = some g → w.heap.size ≤ g

theorem VX.call {g : Bool} {f : Nat} {args : List Operand} {ts : Array TypeId} {vs : List Value} {dd : Option Tmp}
    (hv : Evs tm args vs := by ((repeat' (guard_target =~ Evs _ _ _; first | exact Evs.nil | refine' Evs.cons rfl _)); fail_if_success refine ?_)) (hF : nmem f (HasTab.F P) = true := by rfl) (hd : dOk n dd = true := by rfl)
    (hc : ∀ w, WInv ⟨tm, bx, rw, ck⟩ w → Calls P f vs.toArray w (Ret w v))
    (h : K ⟨putT dd v tm, bx, rw, ck⟩) :
    VX P n (.x g) ⟨dd, .call { callee := .value (.func f), args := args.toArray, argTypes := ts }, ty, pos, af, gd⟩ ⟨tm, bx, rw, ck⟩ K :=
  VX.callG (ζ := Unit) (fun _ => (bx, rw, ck)) (fun u _ => u = v) hv hF hd (fun w hw => (hc w hw).mono fun e w' ⟨he, hb⟩ => ⟨v, (), he, rfl, fun _ => hb, hw.below hb⟩) (by rintro _ _ rfl; exact h)
/-- What the callee has made is kept from here on. -/
theorem VX.callP {g : Bool} {f : Nat} {args : List Operand} {ts : Array TypeId} {vs : List Value} {p : World → Value → World → Prop} {dd : Option Tmp}
    (hv : Evs tm args vs := by ((repeat' (guard_target =~ Evs _ _ _; first | exact Evs.nil | refine' Evs.cons rfl _)); fail_if_success refine ?_)) (hF : nmem f (HasTab.F P) = true := by rfl) (hd : dOk n dd = true := by rfl)
    (hc : ∀ w, WInv ⟨tm, bx, rw, ck⟩ w → Calls P f vs.toArray w (RetP w (p w)))
    (h : ∀ v w w', p w v w' → K ⟨putT dd v tm, bx, rw, (w', Fresh w w') :: ck⟩) :
    VX P n (.x g) ⟨dd, .call { callee := .value (.func f), args := args.toArray, argTypes := ts }, ty, pos, af, gd⟩ ⟨tm, bx, rw, ck⟩ K :=
  VX.callG (ζ := World × World) (fun z => (bx, rw, (z.2, Fresh z.1 z.2) :: ck)) (fun v z => p z.1 v z.2) hv hF hd (fun w hw => (hc w hw).mono fun e w' ⟨v, he, hp, hb⟩ => ⟨v, (w, w'), he, hp, fun _ => hb, hw.fresh hb⟩) (by rintro v ⟨w, w'⟩ hp; exact h v w w' hp)
/-- A new row comes back: bare, or within what 'val' says. -/
theorem VX.callR {g : Bool} {ι : Type} {f : Nat} {args : List Operand} {ts : Array TypeId} {vs : List Value} {sz : Nat} {m : ι → Nat} {xs : ι → List Value} {val : ι → Value → Value} {p : ι → Prop} {dd : Option Tmp}
    (hv : Evs tm args vs := by ((repeat' (guard_target =~ Evs _ _ _; first | exact Evs.nil | refine' Evs.cons rfl _)); fail_if_success refine ?_)) (hF : nmem f (HasTab.F P) = true := by rfl) (hd : dOk n dd = true := by rfl)
    (hc : ∀ w, WInv ⟨tm, bx, rw, ck⟩ w → Calls P f vs.toArray w (RetP w fun v w' => ∃ i r, p i ∧ v = val i r ∧ NewRow w e sz r (m i) (xs i) w'))
    (h : ∀ i A c, p i → K ⟨putT dd (val i (.slice A (m i) c)) tm, bx, ⟨.slice A (m i) c, e, sz, m i, xs i⟩ :: rw, ck⟩) :
    VX P n (.x g) ⟨dd, .call { callee := .value (.func f), args := args.toArray, argTypes := ts }, ty, pos, af, gd⟩ ⟨tm, bx, rw, ck⟩ K :=
  VX.callG (ζ := ι × Value) (fun z => (bx, ⟨z.2, e, sz, m z.1, xs z.1⟩ :: rw, ck)) (fun v z => p z.1 ∧ v = val z.1 z.2 ∧ ∃ A c, z.2 = .slice A (m z.1) c) hv hF hd
    (fun w hw => (hc w hw).mono fun e w' ⟨v, he, ⟨i, r, hp, hval, hown, hf⟩, hb⟩ => ⟨v, (i, r), he, ⟨hp, hval, own_form hown⟩, fun _ => hb, hw.row hb hown hf⟩)
    (by rintro v ⟨i, r⟩ ⟨hp, rfl, A, c, hr⟩; simp only at hr; subst hr; exact h i A c hp)

end
end Go.Vg
