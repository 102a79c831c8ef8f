/-
  Vg, part D: fields, loads and stores, new boxes, structs built, interfaces, lengths, smaller and greater.
-/
import Derived.Test.YtlidjmchohkhcaaDoorVgC
set_option linter.unusedVariables false
set_option linter.unusedSimpArgs false
set_option linter.unusedSectionVars false
namespace Go.Vg
open Go.RowKit

/-- Element k of a slice that lies far, and a place in it. -/
def elAt (A : Option Addr) (k sz off : Nat) : Addr := ((A.getD ⟨0, 0, none⟩).add (k * sz)).add off

theorem add_add (a : Addr) (i j : Nat) : (a.add i).add j = a.add (i + j) := by
  unfold Addr.add
  by_cases hi : i = 0 <;> by_cases hj : j = 0 <;> simp [hi, hj, Nat.add_assoc]
theorem add_none (b off j : Nat) : (⟨b, off, none⟩ : Addr).add j = ⟨b, off + j, none⟩ := by
  unfold Addr.add
  split <;> simp_all
theorem block_add (a : Addr) (n : Nat) : (a.add n).block = a.block := by unfold Addr.add; split <;> rfl

theorem elAt_add (A : Option Addr) (k sz off o : Nat) : (elAt A k sz off).add o = elAt A k sz (off + o) := by
  simp [elAt, add_add, Nat.add_assoc]

/-- How an element is told in cells. -/
structure EncOk {α : Type} (enc : α → List Value) (sz : Nat) : Prop where
  len : ∀ x, (enc x).length = sz
  one : ∀ x u, u ∈ enc x → u.oneCell' = true

/-- A slice that is read: its elements, each told by 'enc' in 'sz' cells, in blocks of S. -/
structure View {α : Type} (enc : α → List Value) (sz : Nat) (w : World) (S : Nat → Prop) (A : Option Addr) (n : Nat) (xs : List α) : Prop where
  ok : EncOk enc sz
  len : xs.length = n
  max : n ≤ 9223372036854775807
  at_ : 0 < xs.length → ∃ ad, A = some ad ∧ S ad.block ∧ ∀ k (h : k < xs.length) j u, (enc xs[k])[j]? = some u → w.cell? ((ad.add (k * sz)).add j) = some u

/-- What was there at a time. -/
def Low (w : World) : Nat → Prop := fun g => g < w.heap.size

inductive CkAt : List (World × (Nat → Prop)) → World → (Nat → Prop) → Prop where
  | head {c S r} : CkAt ((c, S) :: r) c S
  | tail {c S x r} : CkAt r c S → CkAt (x :: r) c S
theorem CkAt.mem {ck : List (World × (Nat → Prop))} {c : World} {S : Nat → Prop} (h : CkAt ck c S) : (c, S) ∈ ck := by
  induction h with
  | head => simp
  | tail _ ih => exact List.mem_cons_of_mem _ ih

theorem Keeps.cell {S : Nat → Prop} {c w : World} (h : Keeps S c w) {p : Addr} (hp : S p.block) : w.cell? p = c.cell? p := World.cell?_of_block (w := c) (h.blk p.block hp).2

section
variable {α : Type} {enc : α → List Value} {sz n : Nat} {w w' : World} {S S' : Nat → Prop} {A : Option Addr} {xs : List α}
theorem View.keep (h : View enc sz w S A n xs) (hk : Keeps S w w') : View enc sz w' S A n xs :=
  ⟨h.ok, h.len, h.max, fun hn => by
    obtain ⟨ad, e, hs, hc⟩ := h.at_ hn
    exact ⟨ad, e, hs, fun k hk' j u hu => (hk.cell (by rw [block_add, block_add]; exact hs)).trans (hc k hk' j u hu)⟩⟩
theorem View.sub (h : View enc sz w S A n xs) (hs : ∀ g, S g → S' g) : View enc sz w S' A n xs :=
  ⟨h.ok, h.len, h.max, fun hn => by
    obtain ⟨ad, e, h1, hc⟩ := h.at_ hn
    exact ⟨ad, e, hs _ h1, hc⟩⟩
/-- Where it is handed on. -/
theorem WInv.view {σ : St} (hi : WInv σ w') (hc : CkAt σ.ck w S) (h : View enc sz w S A n xs) : View enc sz w' S A n xs := h.keep (hi.ck _ hc.mem)
/-- For a call: what is read lies in the world of the call. -/
theorem WInv.vl {σ : St} (hi : WInv σ w') (h : View enc sz w S A n xs := by assumption) (hc : CkAt σ.ck w S := by ((repeat' (guard_target =~ CkAt _ _ _; first | exact CkAt.head | refine' CkAt.tail _)); fail_if_success refine ?_)) : View enc sz w' (Low w') A n xs :=
  (hi.view hc h).sub fun g hg => Nat.lt_of_lt_of_le ((hi.ck _ hc.mem).blk g hg).1 (hi.ck _ hc.mem).size
theorem View.nil_ (hsz : EncOk enc sz) : View enc sz w S A 0 ([] : List α) := ⟨hsz, rfl, by omega, fun h => absurd h (by simp)⟩
theorem View.cell (h : View enc sz w S A n xs) {k : Nat} (hk : k < xs.length) {j : Nat} {u : Value} (hu : (enc xs[k])[j]? = some u) : w.cell? (elAt A k sz j) = some u := by
  obtain ⟨ad, rfl, _, hc⟩ := h.at_ (by omega)
  exact hc k hk j u hu
theorem View.block (h : View enc sz w S A n xs) {k : Nat} (hk : k < xs.length) (j : Nat) : S (elAt A k sz j).block := by
  obtain ⟨ad, rfl, hs, _⟩ := h.at_ (by omega)
  simp only [elAt, Option.getD_some, block_add]
  exact hs
end

def isIfaceD : TypeDesc → Bool
  | .interface _ => true
  | _ => false
def plainV : Value → Bool
  | .agg _ => false
  | .tuple _ => false
  | _ => true
theorem plainV_cells {v : Value} (h : plainV v = true) : v.cells = #[v] := by cases v <;> simp_all [plainV, Value.cells]

section
variable {P : Program} [HasTab P] {n : Nat} {K : St → Prop} {md : M} {gd : Option (Nat × Bool)}
variable {tm : Tm} {bx bx' : List Bx} {rw rw' : List Rw} {ck ck' : List (World × (Nat → Prop))}
variable {d : Tmp} {ty t e : TypeId} {pos : String} {af : Array Edge} {x y z : Operand} {v u : Value}

/-! ### A field's address -/
theorem run_fieldAt {s f : Nat} {fs : Array Field} {sz by_ by2 fsz : Nat} {zv zv2 : Value} {nm : String} {ft o : Nat} {em : Bool} {tg pk : String} {bo : Nat} {fd : TypeDesc} (hs : Ty P s ⟨.struct fs, sz, by_, zv⟩)
    (hf : fs.toList[f]? = some ⟨nm, ft, o, em, tg, pk, bo⟩) (hft : Ty P ft ⟨fd, fsz + 1, by2, zv2⟩) (a : Addr) (w : World) : (Instr.fieldAt s (.pointer (some a)) f).run P w = .ok (.pointer (some (a.add o))) w := by
  rw [Array.getElem?_toList] at hf
  have h1 := hs.run_und w
  have h2 := hft.run_size w
  simp [Instr.fieldAt, h1, hf, Instr.sureAddr, fieldPlace, h2]

theorem VX.fieldN {s f b : Nat} {fs : Array Field} {sz by_ by2 fsz : Nat} {zv zv2 : Value} {nm : String} {ft o : Nat} {em : Bool} {tg pk : String} {bo : Nat} {fd : TypeDesc}
    (hx : ev tm x = some (.pointer (some ⟨b, 0, none⟩)) := by rfl) (hs : Ty P s ⟨.struct fs, sz, by_, zv⟩ := by rfl)
    (hf : fs.toList[f]? = some ⟨nm, ft, o, em, tg, pk, bo⟩ := by rfl) (hft : Ty P ft ⟨fd, fsz + 1, by2, zv2⟩ := by rfl) (hd : Nat.blt d n = true := by rfl)
    (h : K ⟨(d, .pointer (some ⟨b, o, none⟩)) :: tm, bx, rw, ck⟩) : VX P n md ⟨some d, .fieldAddr s x f, ty, pos, af, gd⟩ ⟨tm, bx, rw, ck⟩ K :=
  VX.valU (fun a hi w => by
    have := run_fieldAt hs hf hft ⟨b, 0, none⟩ w
    rw [add_none, Nat.zero_add] at this
    simp [execOp, hi.ev hx, this]) hd h
theorem VX.fieldO {s f b off : Nat} {fs : Array Field} {sz by_ by2 fsz : Nat} {zv zv2 : Value} {nm : String} {ft o : Nat} {em : Bool} {tg pk : String} {bo : Nat} {fd : TypeDesc}
    (hx : ev tm x = some (.pointer (some ⟨b, off, none⟩)) := by rfl) (hs : Ty P s ⟨.struct fs, sz, by_, zv⟩ := by rfl)
    (hf : fs.toList[f]? = some ⟨nm, ft, o, em, tg, pk, bo⟩ := by rfl) (hft : Ty P ft ⟨fd, fsz + 1, by2, zv2⟩ := by rfl) (hd : Nat.blt d n = true := by rfl)
    (h : K ⟨(d, .pointer (some ⟨b, off + o, none⟩)) :: tm, bx, rw, ck⟩) : VX P n md ⟨some d, .fieldAddr s x f, ty, pos, af, gd⟩ ⟨tm, bx, rw, ck⟩ K :=
  VX.valU (fun a hi w => by
    have := run_fieldAt hs hf hft ⟨b, off, none⟩ w
    rw [add_none] at this
    simp [execOp, hi.ev hx, this]) hd h
theorem VX.fieldF {s f : Nat} {A : Option Addr} {k esz : Nat} {fs : Array Field} {sz by_ by2 fsz : Nat} {zv zv2 : Value} {nm : String} {ft o : Nat} {em : Bool} {tg pk : String} {bo : Nat} {fd : TypeDesc}
    (hx : ev tm x = some (.pointer (some (elAt A k esz 0))) := by rfl) (hs : Ty P s ⟨.struct fs, sz, by_, zv⟩ := by rfl)
    (hf : fs.toList[f]? = some ⟨nm, ft, o, em, tg, pk, bo⟩ := by rfl) (hft : Ty P ft ⟨fd, fsz + 1, by2, zv2⟩ := by rfl) (hd : Nat.blt d n = true := by rfl)
    (h : K ⟨(d, .pointer (some (elAt A k esz o))) :: tm, bx, rw, ck⟩) : VX P n md ⟨some d, .fieldAddr s x f, ty, pos, af, gd⟩ ⟨tm, bx, rw, ck⟩ K :=
  VX.valU (fun a hi w => by
    have := run_fieldAt hs hf hft (elAt A k esz 0) w
    rw [elAt_add, Nat.zero_add] at this
    simp [execOp, hi.ev hx, this]) hd h
theorem VX.fieldG {s f : Nat} {A : Option Addr} {k esz off : Nat} {fs : Array Field} {sz by_ by2 fsz : Nat} {zv zv2 : Value} {nm : String} {ft o : Nat} {em : Bool} {tg pk : String} {bo : Nat} {fd : TypeDesc}
    (hx : ev tm x = some (.pointer (some (elAt A k esz off))) := by rfl) (hs : Ty P s ⟨.struct fs, sz, by_, zv⟩ := by rfl)
    (hf : fs.toList[f]? = some ⟨nm, ft, o, em, tg, pk, bo⟩ := by rfl) (hft : Ty P ft ⟨fd, fsz + 1, by2, zv2⟩ := by rfl) (hd : Nat.blt d n = true := by rfl)
    (h : K ⟨(d, .pointer (some (elAt A k esz (off + o)))) :: tm, bx, rw, ck⟩) : VX P n md ⟨some d, .fieldAddr s x f, ty, pos, af, gd⟩ ⟨tm, bx, rw, ck⟩ K :=
  VX.valU (fun a hi w => by
    have := run_fieldAt hs hf hft (elAt A k esz off) w
    rw [elAt_add] at this
    simp [execOp, hi.ev hx, this]) hd h

/-! ### Loads -/
theorem run_load1 {i : TI} (ht : Ty P t i) (hg : isAggD i.d = false) {a : Addr} {w : World} (hc : w.cell? a = some v) : (Instr.loadAt t (.pointer (some a))).run P w = .ok v w := by
  have h1 := ht.run_agg w
  rw [hg] at h1
  simp [Instr.loadAt, Instr.sureAddr, loadVar, h1, load, Sem.run, hc]
theorem run_loadA {i : TI} (ht : Ty P t i) (hg : isAggD i.d = true) {a : Addr} {w : World} {l : List Value} (hl : l.length = i.size) (hc : ∀ j u, l[j]? = some u → w.cell? (a.add j) = some u) : (Instr.loadAt t (.pointer (some a))).run P w = .ok (.agg l.toArray) w := by
  have h1 := ht.run_agg w
  rw [hg] at h1
  have h2 := ht.run_size w
  have h3 := run_loadCells_list (P := P) w a l hc
  rw [hl] at h3
  simp [Instr.loadAt, Instr.sureAddr, loadVar, h1, h2, h3]

theorem VX.load1 {b off : Nat} {cs : List Value} {i : TI} (hm : md.sees = true := by rfl) (hx : ev tm x = some (.pointer (some ⟨b, off, none⟩)) := by rfl) (hb : BxAt bx b cs e := by ((repeat' (guard_target =~ BxAt _ _ _ _; first | exact BxAt.head | refine' BxAt.tail _)); fail_if_success refine ?_)) (ht : Ty P t i := by rfl)
    (hg : isAggD i.d = false := by rfl) (hv : cs[off]? = some v := by rfl) (hd : Nat.blt d n = true := by rfl)
    (h : K ⟨(d, v) :: tm, bx, rw, ck⟩) : VX P n md ⟨some d, .load t x, ty, pos, af, gd⟩ ⟨tm, bx, rw, ck⟩ K :=
  VX.val hm (fun a w hi => by
    have := run_load1 ht hg ((cell_bx hi.w hb off).trans hv)
    simp [execOp, hi.ev hx, this]) hd h
theorem VX.loadA {b off : Nat} {cs l : List Value} {i : TI} (hm : md.sees = true := by rfl) (hx : ev tm x = some (.pointer (some ⟨b, off, none⟩)) := by rfl) (hb : BxAt bx b cs e := by ((repeat' (guard_target =~ BxAt _ _ _ _; first | exact BxAt.head | refine' BxAt.tail _)); fail_if_success refine ?_)) (ht : Ty P t i := by rfl)
    (hg : isAggD i.d = true := by rfl) (hl : CsSub cs off i.size l := by ((repeat' (guard_target =~ CsSub _ _ _ _; first | exact CsSub.nil | refine' CsSub.take _ | refine' CsSub.drop _)); fail_if_success refine ?_)) (hd : Nat.blt d n = true := by rfl)
    (h : K ⟨(d, .agg l.toArray) :: tm, bx, rw, ck⟩) : VX P n md ⟨some d, .load t x, ty, pos, af, gd⟩ ⟨tm, bx, rw, ck⟩ K :=
  VX.val hm (fun a w hi => by
    obtain ⟨h1, h2, h3⟩ := hl.eq
    have := run_loadA (P := P) (a := ⟨b, off, none⟩) (w := w) ht hg h3 (fun j u hu => by
      rw [add_none, cell_bx hi.w hb]
      rw [h1, List.getElem?_take, List.getElem?_drop] at hu
      split at hu
      · exact hu
      · cases hu)
    simp [execOp, hi.ev hx, this]) hd h
theorem VX.loadF1 {α : Type} {enc : α → List Value} {xs : List α} {A : Option Addr} {k esz off m : Nat} {c : World} {S : Nat → Prop} {i : TI} (hm : md.sees = true := by rfl) (hx : ev tm x = some (.pointer (some (elAt A k esz off))) := by rfl) (ht : Ty P t i := by rfl)
    (hg : isAggD i.d = false := by rfl) (hw : View enc esz c S A m xs := by assumption) (hc : CkAt ck c S := by ((repeat' (guard_target =~ CkAt _ _ _; first | exact CkAt.head | refine' CkAt.tail _)); fail_if_success refine ?_)) (hk' : k < m := by omega) (hv : (enc (xs[k]'(hw.len.symm ▸ hk')))[off]? = some v := by rfl) (hd : Nat.blt d n = true := by rfl)
    (h : K ⟨(d, v) :: tm, bx, rw, ck⟩) : VX P n md ⟨some d, .load t x, ty, pos, af, gd⟩ ⟨tm, bx, rw, ck⟩ K :=
  VX.val hm (fun a w hi => by
    have := run_load1 ht hg ((hi.w.view hc hw).cell (hw.len.symm ▸ hk') hv)
    simp [execOp, hi.ev hx, this]) hd h
theorem VX.loadFA {α : Type} {enc : α → List Value} {xs : List α} {A : Option Addr} {k esz off m : Nat} {c : World} {S : Nat → Prop} {i : TI} {l : List Value} (hm : md.sees = true := by rfl) (hx : ev tm x = some (.pointer (some (elAt A k esz off))) := by rfl) (ht : Ty P t i := by rfl)
    (hg : isAggD i.d = true := by rfl) (hw : View enc esz c S A m xs := by assumption) (hc : CkAt ck c S := by ((repeat' (guard_target =~ CkAt _ _ _; first | exact CkAt.head | refine' CkAt.tail _)); fail_if_success refine ?_)) (hk' : k < m := by omega) (hl : CsSub (enc (xs[k]'(hw.len.symm ▸ hk'))) off i.size l := by ((repeat' (guard_target =~ CsSub _ _ _ _; first | exact CsSub.nil | refine' CsSub.take _ | refine' CsSub.drop _)); fail_if_success refine ?_)) (hd : Nat.blt d n = true := by rfl)
    (h : K ⟨(d, .agg l.toArray) :: tm, bx, rw, ck⟩) : VX P n md ⟨some d, .load t x, ty, pos, af, gd⟩ ⟨tm, bx, rw, ck⟩ K :=
  VX.val hm (fun a w hi => by
    obtain ⟨h1, h2, h3⟩ := hl.eq
    have := run_loadA (P := P) (a := elAt A k esz off) (w := w) ht hg h3 (fun j u hu => by
      rw [h1, List.getElem?_take, List.getElem?_drop] at hu
      split at hu
      · have := (hi.w.view hc hw).cell (hw.len.symm ▸ hk') hu
        rw [elAt, ← add_add] at this
        exact this
      · cases hu)
    simp [execOp, hi.ev hx, this]) hd h

/-! ### Stores into boxes -/
theorem run_storeCells_box {w : World} {b : Nat} {e : TypeId} : ∀ (vs : List Value) (off i : Nat) (cs : List Value), w.heap[b]? = some (.cells cs.toArray e (0, 0)) → (∀ u, u ∈ vs → plainV u = true) → off + i + vs.length ≤ cs.length →
    ∃ (w' : World) (cs' : List Value), (storeCells ⟨b, off, none⟩ vs i).run P w = .ok () w' ∧ w'.heap[b]? = some (.cells cs'.toArray e (0, 0)) ∧ cs'.length = cs.length ∧ (∀ j, cs'[j]? = if off + i ≤ j ∧ j < off + i + vs.length then vs[j - (off + i)]? else cs[j]?) ∧
      w'.os = w.os ∧ w'.tape = w.tape ∧ w'.output = w.output ∧ w'.heap.size = w.heap.size ∧ ∀ g, g ≠ b → w'.heap[g]? = w.heap[g]? := by
  intro vs
  induction vs generalizing w with
  | nil => exact fun off i cs hb _ _ => ⟨w, cs, rfl, hb, rfl, fun j => by rw [if_neg (by simp)], rfl, rfl, rfl, rfl, fun _ _ => rfl⟩
  | cons v vs ih =>
    intro off i cs hb hp hl
    have hv := hp v (by simp)
    have hlt : off + i < cs.length := by simp at hl; omega
    have hcell : w.cell? ⟨b, off + i, none⟩ = some cs[off + i] := by
      rw [cell_of_row w b (off + i) _ e (0, 0) hb]
      simp [hlt]
    have hfr : w.frozen? ⟨b, off + i, none⟩ = false := by simp [World.frozen?, hb]
    have hst : (store ((⟨b, off, none⟩ : Addr).add i) v).run P w = .ok () (w.setCell ⟨b, off + i, none⟩ v) := by
      rw [add_none]
      cases v <;> simp_all [store, Sem.run, plainV]
    have hb1 : (w.setCell ⟨b, off + i, none⟩ v).heap[b]? = some (.cells (cs.set (off + i) v).toArray e (0, 0)) := by
      simp [World.setCell, Array.getElem?_modify, hb]
    obtain ⟨w', cs', h1, h2, h3, h4, h5, h6, h7, h8, h9⟩ := ih (w := w.setCell ⟨b, off + i, none⟩ v) off (i + 1) (cs.set (off + i) v) hb1 (fun u hu => hp u (by simp [hu])) (by simp at hl ⊢; omega)
    refine ⟨w', cs', ?_, h2, by simpa using h3, fun j => ?_, h5, h6, h7, by rw [h8]; simp, fun g hg => by rw [h9 g hg, Below.heap_setCell _ _ _ _ (by simpa using hg)]⟩
    · simp only [storeCells, Sem.run_bind, hst, Result.andThen_ok]
      exact h1
    · rw [h4 j]
      by_cases hj : j = off + i
      · subst hj
        rw [if_neg (by omega), if_pos (by simp)]
        simp [hlt]
      · by_cases hr : off + (i + 1) ≤ j ∧ j < off + (i + 1) + vs.length
        · rw [if_pos hr, if_pos (by simp; omega), show j - (off + i) = (j - (off + (i + 1))) + 1 by omega]
          simp
        · rw [if_neg hr, if_neg (by simp; omega)]
          rw [List.getElem?_set_ne (by omega)]

theorem WInv.store {w : World} (h : WInv ⟨tm, bx, rw, ck⟩ w) {b off : Nat} {cs cs' vs : List Value} {i : TI} (hb : BxSet bx b cs e cs' bx') (ht : Ty P t i) (hl : vs.length = i.size) (hvs : v.cells = vs.toArray) (hp : ∀ u, u ∈ vs → plainV u = true)
    (hput : CsPut cs off vs cs') : ∃ w', (Instr.storeAt t (.pointer (some ⟨b, off, none⟩)) v).run P w = .ok () w' ∧ WInv ⟨tm, bx', rw, ck⟩ w' := by
  obtain ⟨j, hj, rfl⟩ := hb.get
  obtain ⟨q1, q2, q3⟩ := hput.eq
  obtain ⟨w', cs2, h1, h2, h3, h4, h5, h6, h7, h8, h9⟩ := run_storeCells_box (P := P) vs off 0 cs (h.bx _ (List.mem_of_getElem? hj)) hp (by omega)
  have he : cs2 = cs' := List.ext_getElem? fun j => by rw [h4 j, q3 j]; simp
  subst he
  have hsz := ht.run_size w
  refine ⟨w', ?_, h.setBox hj h5 h6 h7 (by omega) (fun g _ hg => h9 g hg) h2⟩
  simp only [Instr.storeAt, Instr.sureAddr, storeVar, Sem.run_bind, Sem.run_pure, Result.andThen_ok, hsz, hvs]
  simp [hl, h1]

theorem VX.store1 {b off : Nat} {cs cs' : List Value} {i : TI} (hx : ev tm x = some (.pointer (some ⟨b, off, none⟩)) := by rfl) (hy : ev tm y = some v := by rfl) (ht : Ty P t i := by rfl)
    (hl : Nat.beq i.size 1 = true := by rfl) (hv : plainV v = true := by first | rfl | assumption)
    (hb0 : BxAt bx b cs e := by ((repeat' (guard_target =~ BxAt _ _ _ _; first | exact BxAt.head | refine' BxAt.tail _)); fail_if_success refine ?_)) (hc : CsPut cs off [v] cs' := by ((repeat' (guard_target =~ CsPut _ _ _ _; first | exact CsPut.nil | refine' CsPut.take _ | refine' CsPut.drop _)); fail_if_success refine ?_)) (hb : BxSet bx b cs e cs' bx' := by ((repeat' (guard_target =~ BxSet _ _ _ _ _ _; first | exact BxSet.head | refine' BxSet.tail _)); fail_if_success refine ?_))
    (h : K ⟨tm, bx', rw, ck⟩) : VX P n (.x false) ⟨none, .store t x y, ty, pos, af, gd⟩ ⟨tm, bx, rw, ck⟩ K :=
  VX.unit (fun a w hi => by
    obtain ⟨w', h1, h2⟩ := hi.w.store (v := v) hb ht (by simpa using (Nat.eq_of_beq_eq_true hl).symm) (plainV_cells hv) (by simpa using hv) hc
    exact ⟨w', by simp [execOp, hi.ev hx, hi.ev hy, h1], h2⟩) h
theorem VX.storeA {b off : Nat} {cs cs' l : List Value} {i : TI} (hx : ev tm x = some (.pointer (some ⟨b, off, none⟩)) := by rfl) (hy : ev tm y = some (.agg l.toArray) := by rfl) (ht : Ty P t i := by rfl)
    (hl : Nat.beq i.size l.length = true := by rfl) (hv : l.all plainV = true := by first | rfl | simp_all)
    (hb0 : BxAt bx b cs e := by ((repeat' (guard_target =~ BxAt _ _ _ _; first | exact BxAt.head | refine' BxAt.tail _)); fail_if_success refine ?_)) (hc : CsPut cs off l cs' := by ((repeat' (guard_target =~ CsPut _ _ _ _; first | exact CsPut.nil | refine' CsPut.take _ | refine' CsPut.drop _)); fail_if_success refine ?_)) (hb : BxSet bx b cs e cs' bx' := by ((repeat' (guard_target =~ BxSet _ _ _ _ _ _; first | exact BxSet.head | refine' BxSet.tail _)); fail_if_success refine ?_))
    (h : K ⟨tm, bx', rw, ck⟩) : VX P n (.x false) ⟨none, .store t x y, ty, pos, af, gd⟩ ⟨tm, bx, rw, ck⟩ K :=
  VX.unit (fun a w hi => by
    obtain ⟨w', h1, h2⟩ := hi.w.store (v := .agg l.toArray) hb ht (Nat.eq_of_beq_eq_true hl).symm rfl (by simpa using hv) hc
    exact ⟨w', by simp [execOp, hi.ev hx, hi.ev hy, h1], h2⟩) h

/-! ### New boxes -/
theorem VX.new_ {g : Bool} {op : Op} {cs : List Value} (he : ∀ a w, Inv n ⟨tm, bx, rw, ck⟩ a w → (execOp a.eval ⟨some d, op, ty, pos, af, gd⟩).run P w = .ok (.value (.pointer (some ⟨w.heap.size, 0, none⟩))) (w.alloc (.cells cs.toArray e))) (hd : Nat.blt d n = true)
    (h : ∀ b, K ⟨(d, .pointer (some ⟨b, 0, none⟩)) :: tm, (b, cs, e) :: bx, rw, ck⟩) : VX P n (.x g) ⟨some d, op, ty, pos, af, gd⟩ ⟨tm, bx, rw, ck⟩ K := fun a w hi =>
  Oper.wp_of_run (he a w hi) ⟨fun _ => (Below.refl _ _).alloc (Nat.le_refl _) _, _, h w.heap.size, (hi.world (hi.w.alloc cs e)).put d (blt_lt hd) _⟩
theorem VX.alloc1 {g : Bool} {i : TI} (ht : Ty P t i := by rfl) (hz : plainV i.zero = true := by rfl) (hd : Nat.blt d n = true := by rfl)
    (h : ∀ b, K ⟨(d, .pointer (some ⟨b, 0, none⟩)) :: tm, (b, [i.zero], t) :: bx, rw, ck⟩) : VX P n (.x g) ⟨some d, .alloc t, ty, pos, af, gd⟩ ⟨tm, bx, rw, ck⟩ K :=
  VX.new_ (fun a w hi => by
    have := ht.run_zero w
    simp [execOp, Instr.alloc, this, newVar, newRow, newObj, Sem.run, plainV_cells hz])  hd h
theorem VX.allocA {g : Bool} {l : List Value} {td : TypeDesc} {sz by_ : Nat} (ht : Ty P t ⟨td, sz, by_, .agg l.toArray⟩ := by rfl) (hd : Nat.blt d n = true := by rfl)
    (h : ∀ b, K ⟨(d, .pointer (some ⟨b, 0, none⟩)) :: tm, (b, l, t) :: bx, rw, ck⟩) : VX P n (.x g) ⟨some d, .alloc t, ty, pos, af, gd⟩ ⟨tm, bx, rw, ck⟩ K :=
  VX.new_ (fun a w hi => by
    have := ht.run_zero w
    simp [execOp, Instr.alloc, this, newVar, newRow, newObj, Sem.run, Value.cells])  hd h
theorem VX.box1 {g : Bool} (hx : ev tm x = some v := by rfl) (hz : plainV v = true := by first | rfl | assumption) (hd : Nat.blt d n = true := by rfl)
    (h : ∀ b, K ⟨(d, .pointer (some ⟨b, 0, none⟩)) :: tm, (b, [v], t) :: bx, rw, ck⟩) : VX P n (.x g) ⟨some d, .box t x, ty, pos, af, gd⟩ ⟨tm, bx, rw, ck⟩ K :=
  VX.new_ (fun a w hi => by
    simp [execOp, Instr.box, hi.ev hx, newVar, newRow, newObj, Sem.run, plainV_cells hz])  hd h
theorem VX.boxA {g : Bool} {l : List Value} (hx : ev tm x = some (.agg l.toArray) := by rfl) (hd : Nat.blt d n = true := by rfl)
    (h : ∀ b, K ⟨(d, .pointer (some ⟨b, 0, none⟩)) :: tm, (b, l, t) :: bx, rw, ck⟩) : VX P n (.x g) ⟨some d, .box t x, ty, pos, af, gd⟩ ⟨tm, bx, rw, ck⟩ K :=
  VX.new_ (fun a w hi => by
    simp [execOp, Instr.box, hi.ev hx, newVar, newRow, newObj, Sem.run, Value.cells])  hd h

/-! ### Interfaces, lengths, smaller and greater -/
theorem VX.mkIface {i : TI} (hx : ev tm x = some v := by rfl) (ht : Ty P t i := by rfl) (hg : isIfaceD i.d = false := by rfl) (hd : Nat.blt d n = true := by rfl)
    (h : K ⟨(d, .iface t v) :: tm, bx, rw, ck⟩) : VX P n md ⟨some d, .makeInterface t x, ty, pos, af, gd⟩ ⟨tm, bx, rw, ck⟩ K :=
  VX.valU (fun a hi w => by
    have h1 := ht.run_und w
    obtain ⟨dd, s1, s2, s3⟩ := i
    cases dd <;> simp_all [execOp, hi.ev hx, Instr.makeInterface, isIfaceD]) hd h
theorem VX.lenS {A : Option Addr} {m c : Nat} {sz by_ : Nat} {zv : Value} {e : TypeId} (hx : ev tm x = some (.slice A m c) := by rfl) (ht : Ty P t ⟨.slice e, sz, by_, zv⟩ := by rfl) (hd : Nat.blt d n = true := by rfl)
    (h : K ⟨(d, .int .i64 m) :: tm, bx, rw, ck⟩) : VX P n md ⟨some d, .call { callee := .builtin .len, args := #[x], argTypes := #[t] }, ty, pos, af, gd⟩ ⟨tm, bx, rw, ck⟩ K :=
  VX.valU (fun a hi w => by
    have h1 := ht.run_und w
    simp [execOp, resolve, invoke, builtin, Builtin.len_, hi.ev hx, h1, goInt]) hd h
theorem VX.lenStr {s : ByteArray} {sz by_ : Nat} {zv : Value} (hx : ev tm x = some (.string s) := by rfl) (ht : Ty P t ⟨.string, sz, by_, zv⟩ := by rfl) (hd : Nat.blt d n = true := by rfl)
    (h : K ⟨(d, .int .i64 s.size) :: tm, bx, rw, ck⟩) : VX P n md ⟨some d, .call { callee := .builtin .len, args := #[x], argTypes := #[t] }, ty, pos, af, gd⟩ ⟨tm, bx, rw, ck⟩ K :=
  VX.valU (fun a hi w => by
    have h1 := ht.run_und w
    simp [execOp, resolve, invoke, builtin, Builtin.len_, hi.ev hx, h1, goInt]) hd h
theorem VX.min2 {a b : Int} {k : IntKind} {ts : Array TypeId} (hx : ev tm x = some (.int k a) := by rfl) (hy : ev tm y = some (.int k b) := by rfl) (hd : Nat.blt d n = true := by rfl)
    (h : K ⟨(d, .int k (min a b)) :: tm, bx, rw, ck⟩) : VX P n md ⟨some d, .call { callee := .builtin .min, args := #[x, y], argTypes := ts }, ty, pos, af, gd⟩ ⟨tm, bx, rw, ck⟩ K :=
  VX.valU (fun _ hi w => by
    have : (if b < a then b else a) = min a b := by omega
    simp [execOp, resolve, invoke, builtin, Builtin.min_, Builtin.min2, hi.ev hx, hi.ev hy, this]) hd h
theorem VX.max2 {a b : Int} {k : IntKind} {ts : Array TypeId} (hx : ev tm x = some (.int k a) := by rfl) (hy : ev tm y = some (.int k b) := by rfl) (hd : Nat.blt d n = true := by rfl)
    (h : K ⟨(d, .int k (max a b)) :: tm, bx, rw, ck⟩) : VX P n md ⟨some d, .call { callee := .builtin .max, args := #[x, y], argTypes := ts }, ty, pos, af, gd⟩ ⟨tm, bx, rw, ck⟩ K :=
  VX.valU (fun _ hi w => by
    have : (if a < b then b else a) = max a b := by omega
    simp [execOp, resolve, invoke, builtin, Builtin.max_, Builtin.max2, hi.ev hx, hi.ev hy, this]) hd h

end
end Go.Vg
