/-
  Vg, part A: a state in which a walk stands (slots, boxes, rows, check points), what it says of a frame and a world, and the first rules.
-/
import Derived.Below
import Derived.Maps.AppendAt
import Derived.Deep.Draws
import Derived.Deep.Quiet
import Derived.Laws.CopyRow
import Derived.Laws.Entries
set_option linter.unusedVariables false
namespace Go.Vg
open Go.RowKit

abbrev Tm := List (Nat × Value)
def look (t : Nat) : List (Nat × Value) → Option Value
  | [] => none
  | (t', x) :: r => match Nat.beq t t' with | true => some x | false => look t r

def ev (tm : Tm) : Operand → Option Value
  | .tmp t => look t tm
  | .const v => some v
  | .global g => some (.pointer (some ⟨g, 0, none⟩))
  | .func f => some (.func (.func f) #[] #[])

/-- A block of the call's own, known whole. -/
abbrev Bx := Nat × List Value × TypeId
/-- A row of the call's own: the slice, its element's type, how many cells an element has, how many elements, the cells. -/
structure Rw where
  v : Value
  e : TypeId
  sz : Nat
  n : Nat
  xs : List Value

structure St where
  tm : Tm
  bx : List Bx
  rw : List Rw
  ck : List (World × (Nat → Prop))

def St.blks (σ : St) : List (Option Nat) := σ.bx.map (fun b => some b.1) ++ σ.rw.map (fun r => r.v.ownBlock)
def Apart (x y : Option Nat) : Prop := ∀ g, x = some g → y = some g → False

/-- What was below the check point's size, and in the set, is as it was. -/
structure Keeps (S : Nat → Prop) (c w : World) : Prop where
  os : w.os = c.os
  tape : w.tape = c.tape
  output : w.output = c.output
  size : c.heap.size ≤ w.heap.size
  blk : ∀ g, S g → g < c.heap.size ∧ w.heap[g]? = c.heap[g]?

structure WInv (σ : St) (w : World) : Prop where
  bx : ∀ b, b ∈ σ.bx → w.heap[b.1]? = some (.cells b.2.1.toArray b.2.2 (0, 0))
  rw : ∀ r, r ∈ σ.rw → w.ownsRow 0 r.e r.sz r.v r.n r.xs
  ap : σ.blks.Pairwise Apart
  ck : ∀ c, c ∈ σ.ck → Keeps c.2 c.1 w
  sep : ∀ c, c ∈ σ.ck → ∀ b, b ∈ σ.blks → ∀ g, b = some g → ¬ c.2 g

structure TInv (n : Nat) (tm : Tm) (a : Act) : Prop where
  dfr : a.defers = []
  sz : a.tmps.size = n
  tm : ∀ t x, look t tm = some x → a.tmps[t]? = some x
structure Inv (n : Nat) (σ : St) (a : Act) (w : World) : Prop extends TInv n σ.tm a where
  w : WInv σ w

section
variable {σ : St} {w w' : World} {n : Nat} {a : Act}

theorem size_of_some {w : World} {g : Nat} {o : Obj} (h : w.heap[g]? = some o) : g < w.heap.size := (Array.getElem?_eq_some_iff.1 h).1

theorem WInv.lt (h : WInv σ w) : ∀ b, b ∈ σ.blks → ∀ g, b = some g → g < w.heap.size := by
  intro b hb g hg
  simp only [St.blks, List.mem_append, List.mem_map] at hb
  rcases hb with ⟨x, hx, rfl⟩ | ⟨r, hr, rfl⟩
  · cases hg
    exact size_of_some (h.bx x hx)
  · exact ((h.rw r hr).lt g hg).2

theorem Keeps.refl {S : Nat → Prop} {w : World} (h : ∀ g, S g → g < w.heap.size) : Keeps S w w := ⟨rfl, rfl, rfl, Nat.le_refl _, fun g hg => ⟨h g hg, rfl⟩⟩

/-- A step that leaves all that was there. -/
theorem Keeps.step {S : Nat → Prop} {c : World} (h : Keeps S c w) (ho : w'.os = w.os) (ht : w'.tape = w.tape) (hp : w'.output = w.output) (hs : w.heap.size ≤ w'.heap.size)
    (hb : ∀ g, S g → w'.heap[g]? = w.heap[g]?) : Keeps S c w' :=
  ⟨ho.trans h.os, ht.trans h.tape, hp.trans h.output, Nat.le_trans h.size hs, fun g hg => ⟨(h.blk g hg).1, (hb g hg).trans (h.blk g hg).2⟩⟩

theorem ownsRow_of_block {base : Nat} {e : TypeId} {size : Nat} {v : Value} {n : Nat} {xs : List Value} (h : w.ownsRow base e size v n xs) (hb : ∀ g, v.ownBlock = some g → w'.heap[g]? = w.heap[g]?) :
    w'.ownsRow base e size v n xs := by
  refine ⟨h.1, ?_⟩
  rcases h.2 with hn | ⟨g, cap, cur, rfl, hbg, hgg, rest⟩
  · exact .inl hn
  · exact .inr ⟨g, cap, cur, rfl, hbg, by rw [hb g rfl]; exact hgg, rest⟩

theorem WInv.step (h : WInv σ w) (ho : w'.os = w.os) (ht : w'.tape = w.tape) (hp : w'.output = w.output) (hs : w.heap.size ≤ w'.heap.size)
    (hb : ∀ g, g < w.heap.size → w'.heap[g]? = w.heap[g]?) : WInv σ w' := by
  refine ⟨fun b hm => (hb _ (size_of_some (h.bx b hm))).trans (h.bx b hm), fun r hr => ownsRow_of_block (h.rw r hr) fun g hg => hb g ((h.rw r hr).lt g hg).2, h.ap, fun c hc => ?_, h.sep⟩
  exact (h.ck c hc).step ho ht hp hs fun g hg => hb g (Nat.lt_of_lt_of_le ((h.ck c hc).blk g hg).1 (h.ck c hc).size)

theorem WInv.below (h : WInv σ w) (hb : Below w.heap.size w w') : WInv σ w' := h.step hb.os hb.tape hb.output hb.size hb.block

theorem WInv.drew (h : WInv σ w) : WInv σ { w with drawn := w.drawn + 1 } := h.step rfl rfl rfl (Nat.le_refl _) fun _ _ => rfl

theorem mem_blks_bx {b : Bx} (h : b ∈ σ.bx) : some b.1 ∈ σ.blks := List.mem_append_left _ (List.mem_map_of_mem (f := fun b : Bx => some b.1) h)
theorem mem_blks_rw {r : Rw} (h : r ∈ σ.rw) : r.v.ownBlock ∈ σ.blks := List.mem_append_right _ (List.mem_map_of_mem (f := fun r : Rw => r.v.ownBlock) h)

/-- A new box. -/
theorem WInv.alloc (h : WInv σ w) (cs : List Value) (e : TypeId) : WInv { σ with bx := (w.heap.size, cs, e) :: σ.bx } (w.alloc (.cells cs.toArray e)) := by
  have hk : ∀ g, g < w.heap.size → (w.alloc (.cells cs.toArray e)).heap[g]? = w.heap[g]? := fun g hg => Below.heap_alloc _ _ _ hg
  have h1 : WInv σ (w.alloc (.cells cs.toArray e)) := h.step rfl rfl rfl (by simp) hk
  refine ⟨?_, h1.rw, ?_, h1.ck, ?_⟩
  · intro b hb
    rcases List.mem_cons.1 hb with rfl | hb
    · exact heap_alloc_new w _
    · exact h1.bx b hb
  · show (some w.heap.size :: σ.blks).Pairwise Apart
    refine List.pairwise_cons.2 ⟨fun y hy g hg hy' => ?_, h.ap⟩
    cases hg
    exact Nat.lt_irrefl _ (h.lt y hy _ hy')
  · intro c hc b hb g hg hs
    have hb' : b = some w.heap.size ∨ b ∈ σ.blks := List.mem_cons.1 hb
    rcases hb' with rfl | hb
    · cases hg
      exact Nat.lt_irrefl _ (Nat.lt_of_lt_of_le ((h.ck c hc).blk _ hs).1 (h.ck c hc).size)
    · exact h1.sep c hc b hb g hg hs

def setAt {α : Type} (x : α) : Nat → List α → List α
  | _, [] => []
  | 0, _ :: r => x :: r
  | j + 1, y :: r => y :: setAt x j r

theorem setAt_eq {α : Type} (x : α) : ∀ (j : Nat) (l : List α), setAt x j l = l.set j x
  | _, [] => by simp [setAt]
  | 0, _ :: _ => rfl
  | j + 1, y :: r => by simp [setAt, setAt_eq x j r]

theorem map_set_same {α β : Type} (f : α → β) (x y : α) (hf : f x = f y) : ∀ (j : Nat) (l : List α), l[j]? = some y → (setAt x j l).map f = l.map f
  | _, [], h => by simp at h
  | 0, z :: r, h => by
    have : z = y := by simpa using h
    subst this
    simp [setAt, hf]
  | j + 1, z :: r, h => by simp [setAt, map_set_same f x y hf j r (by simpa using h)]

theorem mem_setAt {α : Type} {x z : α} : ∀ {j : Nat} {l : List α}, z ∈ setAt x j l → z = x ∨ ∃ i, i ≠ j ∧ l[i]? = some z
  | _, [], h => by simp [setAt] at h
  | 0, y :: r, h => by
    rcases List.mem_cons.1 h with h | h
    · exact .inl h
    · obtain ⟨i, hi, rfl⟩ := List.mem_iff_getElem.1 h
      exact .inr ⟨i + 1, by omega, by simp [hi]⟩
  | j + 1, y :: r, h => by
    rcases List.mem_cons.1 h with h | h
    · exact .inr ⟨0, by omega, by simp [h]⟩
    · rcases mem_setAt h with h | ⟨i, hi, h'⟩
      · exact .inl h
      · exact .inr ⟨i + 1, by omega, by simpa using h'⟩

theorem pairwise_get {α : Type} {R : α → α → Prop} (hsym : ∀ x y, R x y → R y x) {l : List α} (h : l.Pairwise R) {i j : Nat} {x y : α} (hi : l[i]? = some x) (hj : l[j]? = some y) (hne : i ≠ j) : R x y := by
  obtain ⟨hi', rfl⟩ := List.getElem?_eq_some_iff.1 hi
  obtain ⟨hj', rfl⟩ := List.getElem?_eq_some_iff.1 hj
  rw [List.pairwise_iff_getElem] at h
  rcases Nat.lt_or_gt_of_ne hne with h1 | h1
  · exact h i j hi' hj' h1
  · exact hsym _ _ (h j i hj' hi' h1)
theorem apart_symm (x y : Option Nat) (h : Apart x y) : Apart y x := fun g h1 h2 => h g h2 h1

theorem blks_bx {j : Nat} {b : Bx} (h : σ.bx[j]? = some b) : σ.blks[j]? = some (some b.1) := by
  have hj := (List.getElem?_eq_some_iff.1 h).1
  simp [St.blks, List.getElem?_append_left (show j < (σ.bx.map fun b => some b.1).length by simpa using hj), h]
theorem blks_rw {j : Nat} {r : Rw} (h : σ.rw[j]? = some r) : σ.blks[σ.bx.length + j]? = some r.v.ownBlock := by
  simp [St.blks, List.getElem?_append_right, h]

/-- The contents of one box are others. -/
theorem WInv.setBox (h : WInv σ w) {j b : Nat} {cs cs' : List Value} {e : TypeId} (hj : σ.bx[j]? = some (b, cs, e)) (ho : w'.os = w.os) (ht : w'.tape = w.tape) (hp : w'.output = w.output) (hs : w.heap.size ≤ w'.heap.size)
    (hb : ∀ g, g < w.heap.size → g ≠ b → w'.heap[g]? = w.heap[g]?) (hbb : w'.heap[b]? = some (.cells cs'.toArray e (0, 0))) : WInv { σ with bx := setAt (b, cs', e) j σ.bx } w' := by
  have hbl : ({ σ with bx := setAt (b, cs', e) j σ.bx } : St).blks = σ.blks := by
    simp only [St.blks]
    rw [map_set_same (fun b : Bx => some b.1) (b, cs', e) (b, cs, e) rfl j σ.bx hj]
  have hap := h.ap
  refine ⟨?_, ?_, by rw [hbl]; exact h.ap, ?_, fun c hc => by rw [hbl]; exact h.sep c hc⟩
  · intro x hx
    rcases mem_setAt hx with rfl | ⟨i, hi, hx'⟩
    · exact hbb
    · have hmem : x ∈ σ.bx := List.mem_of_getElem? hx'
      have hne : x.1 ≠ b := fun e => pairwise_get apart_symm h.ap (blks_bx hx') (blks_bx hj) hi b (by rw [e]) rfl
      exact (hb x.1 (size_of_some (h.bx x hmem)) hne).trans (h.bx x hmem)
  · intro r hr
    obtain ⟨i, hi, rfl⟩ := List.mem_iff_getElem.1 hr
    have hr' : σ.rw[i]? = some σ.rw[i] := by simp [hi]
    refine ownsRow_of_block (h.rw _ hr) fun g hg => hb g ((h.rw _ hr).lt g hg).2 fun e => ?_
    have hjl := (List.getElem?_eq_some_iff.1 hj).1
    exact pairwise_get apart_symm h.ap (blks_bx hj) (blks_rw hr') (by omega) b rfl (by rw [hg, e])
  · intro c hc
    exact (h.ck c hc).step ho ht hp hs fun g hg => hb g (Nat.lt_of_lt_of_le ((h.ck c hc).blk g hg).1 (h.ck c hc).size) fun e => by
      subst e
      exact h.sep c hc (some g) (by
        have := blks_bx hj
        exact List.mem_of_getElem? this) g rfl hg

/-- A check point more. -/
theorem WInv.check (h : WInv σ w) (S : Nat → Prop) (h1 : ∀ g, S g → g < w.heap.size) (h2 : ∀ b, b ∈ σ.blks → ∀ g, b = some g → ¬ S g) : WInv { σ with ck := (w, S) :: σ.ck } w := by
  refine ⟨h.bx, h.rw, h.ap, fun c hc => ?_, fun c hc => ?_⟩
  · rcases List.mem_cons.1 hc with rfl | hc
    · exact Keeps.refl h1
    · exact h.ck c hc
  · rcases List.mem_cons.1 hc with rfl | hc
    · exact h2
    · exact h.sep c hc

/-! ### Slots -/
theorem TInv.ev {tm : Tm} (h : TInv n tm a) {x : Operand} {v : Value} (he : ev tm x = some v) : a.eval x = v := by
  cases x with
  | tmp t =>
    have := h.tm t v he
    simp [Act.eval, this]
  | const u => simpa [Vg.ev, Act.eval] using he
  | global g => simpa [Vg.ev, Act.eval] using he
  | func f => simpa [Vg.ev, Act.eval] using he
theorem Inv.ev {tm : Tm} {bx rw ck} (h : Inv n ⟨tm, bx, rw, ck⟩ a w) {x : Operand} {v : Value} (he : ev tm x = some v) : a.eval x = v := h.toTInv.ev he

theorem TInv.put {tm : Tm} (h : TInv n tm a) (d : Nat) (hd : d < n) (v : Value) : TInv n ((d, v) :: tm) (a.put (some d) v) := by
  refine ⟨h.dfr, by simp [Act.put, h.sz], fun t x hx => ?_⟩
  have hsz := h.sz
  unfold look at hx
  split at hx
  · rename_i hb
    have : t = d := Nat.eq_of_beq_eq_true hb
    subst this
    simp at hx
    subst hx
    simp [Act.put, hsz, hd]
  · rename_i hb
    have hne : t ≠ d := fun e => by subst e; simp at hb
    have := h.tm t x hx
    simp only [Act.put, Array.getElem?_setIfInBounds]
    rw [if_neg (fun e => hne e.symm)]
    exact this

theorem WInv.tm {tm tm' : Tm} {bx rw ck} (h : WInv ⟨tm, bx, rw, ck⟩ w) : WInv ⟨tm', bx, rw, ck⟩ w := ⟨h.bx, h.rw, h.ap, h.ck, h.sep⟩

theorem Inv.put {tm : Tm} {bx rw ck} (h : Inv n ⟨tm, bx, rw, ck⟩ a w) (d : Nat) (hd : d < n) (v : Value) : Inv n ⟨(d, v) :: tm, bx, rw, ck⟩ (a.put (some d) v) w := ⟨h.toTInv.put d hd v, h.w.tm⟩
theorem Inv.world {tm : Tm} {bx rw ck bx' rw' ck'} (h : Inv n ⟨tm, bx, rw, ck⟩ a w) (hw : WInv ⟨tm, bx', rw', ck'⟩ w') : Inv n ⟨tm, bx', rw', ck'⟩ a w' := ⟨h.toTInv, hw⟩

end
end Go.Vg
