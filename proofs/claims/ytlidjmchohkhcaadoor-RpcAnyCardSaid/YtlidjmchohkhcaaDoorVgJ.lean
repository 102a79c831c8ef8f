/-
  Vg, part J: structs built and compared, literal slices, strings compared.
-/
import Derived.Test.YtlidjmchohkhcaaDoorVgI
import Derived.Laws.StructEq
import Derived.KernelRfl
set_option linter.unusedVariables false
set_option linter.unusedSimpArgs false
set_option linter.unusedSectionVars false
namespace Go.Vg
open Go.RowKit

section
variable {P : Program} [HasTab P] {n : Nat} {K : St → Prop} {md : M} {gd : Option (Nat × Bool)}
variable {tm : Tm} {bx bx' : List Bx} {rw rw' : List Rw} {ck ck' : List (World × (Nat → Prop))}
variable {d : Tmp} {ty t e : TypeId} {pos : String} {af : Array Edge} {x y z : Operand} {v u : Value}

theorem bytes_beq (a b : ByteArray) : (a == b) = decide (a = b) := by
  rw [beq_toListBytes, ByteArray.toList_eq, ByteArray.toList_eq]
  obtain ⟨⟨x⟩⟩ := a
  obtain ⟨⟨y⟩⟩ := b
  by_cases h : x = y
  · simp [h]
  · simp [h]

/-! ### Strings, bools -/
theorem run_eqStr (w : World) {a b : ByteArray} (ht : P.underlying t = some .string) (d : Nat) : (Op.equalIn (d + 1) t (.string a) (.string b)).run P w = .ok (decide (a = b)) w := by
  simp [Op.equalIn, run_underlying ht, bytes_beq]
theorem run_eqBool (w : World) {a b : Bool} (ht : P.underlying t = some .bool) (d : Nat) : (Op.equalIn (d + 1) t (.bool a) (.bool b)).run P w = .ok (a == b) w := by
  simp [Op.equalIn, run_underlying ht]
theorem run_eqInt (w : World) {k k' : IntKind} {a b : Int} (ht : P.underlying t = some (.int k')) (d : Nat) : (Op.equalIn (d + 1) t (.int k a) (.int k b)).run P w = .ok (decide (a = b)) w := by
  simp [Op.equalIn, run_underlying ht, beq_dec]
theorem VX.eqStr {a b : ByteArray} {t' : TypeId} {s1 b0 : Nat} {z0 : Value} (hx : ev tm x = some (.string a) := by rfl) (hy : ev tm y = some (.string b) := by rfl) (ht : Ty P t ⟨.string, s1, b0, z0⟩ := by rfl) (hd : Nat.blt d n = true := by rfl)
    (h : K ⟨(d, .bool (decide (a = b))) :: tm, bx, rw, ck⟩) : VX P n md ⟨some d, .binOp .eql t x y t', ty, pos, af, gd⟩ ⟨tm, bx, rw, ck⟩ K :=
  VX.valU (fun a hi w => run_binop (hi.ev hx) (hi.ev hy) (by simp [eqGuard]) (by simp [binOp, Op.stringOp, ← beq_toListBytes, bytes_beq])) hd h
theorem VX.neStr {a b : ByteArray} {t' : TypeId} {s1 b0 : Nat} {z0 : Value} (hx : ev tm x = some (.string a) := by rfl) (hy : ev tm y = some (.string b) := by rfl) (ht : Ty P t ⟨.string, s1, b0, z0⟩ := by rfl) (hd : Nat.blt d n = true := by rfl)
    (h : K ⟨(d, .bool (!decide (a = b))) :: tm, bx, rw, ck⟩) : VX P n md ⟨some d, .binOp .neq t x y t', ty, pos, af, gd⟩ ⟨tm, bx, rw, ck⟩ K :=
  VX.valU (fun a hi w => run_binop (hi.ev hx) (hi.ev hy) (by simp [eqGuard]) (by simp [binOp, Op.stringOp, ← beq_toListBytes, bytes_beq])) hd h
theorem VX.eqBool {a b : Bool} {t' : TypeId} {s1 b0 : Nat} {z0 : Value} (hx : ev tm x = some (.bool a) := by rfl) (hy : ev tm y = some (.bool b) := by rfl) (ht : Ty P t ⟨.bool, s1, b0, z0⟩ := by rfl) (hd : Nat.blt d n = true := by rfl)
    (h : K ⟨(d, .bool (a == b)) :: tm, bx, rw, ck⟩) : VX P n md ⟨some d, .binOp .eql t x y t', ty, pos, af, gd⟩ ⟨tm, bx, rw, ck⟩ K :=
  VX.valU (fun a hi w => run_binop (hi.ev hx) (hi.ev hy) (by simp [eqGuard]) (run_eqlE rfl (run_eqBool w ht.und))) hd h
theorem VX.neBool {a b : Bool} {t' : TypeId} {s1 b0 : Nat} {z0 : Value} (hx : ev tm x = some (.bool a) := by rfl) (hy : ev tm y = some (.bool b) := by rfl) (ht : Ty P t ⟨.bool, s1, b0, z0⟩ := by rfl) (hd : Nat.blt d n = true := by rfl)
    (h : K ⟨(d, .bool (!(a == b))) :: tm, bx, rw, ck⟩) : VX P n md ⟨some d, .binOp .neq t x y t', ty, pos, af, gd⟩ ⟨tm, bx, rw, ck⟩ K :=
  VX.valU (fun a hi w => run_binop (hi.ev hx) (hi.ev hy) (by simp [eqGuard]) (run_neqE rfl (run_eqBool w ht.und))) hd h

/-! ### Structs compared -/
inductive EqFs (P : Program) [HasTab P] (xs ys : List Value) : List Field → Bool → Prop where
  | nil : EqFs P xs ys [] true
  | int {nm : String} {ty o em tg pk bo fs k a b s b0 z r} (hn : (nm == "_") = false) (ht : Ty P ty ⟨.int k, s, b0, z⟩) (hx : xs[o]? = some (.int k a)) (hy : ys[o]? = some (.int k b)) (hr : EqFs P xs ys fs r) : EqFs P xs ys (⟨nm, ty, o, em, tg, pk, bo⟩ :: fs) (decide (a = b) && r)
  | str {nm : String} {ty o em tg pk bo fs a b s b0 z r} (hn : (nm == "_") = false) (ht : Ty P ty ⟨.string, s, b0, z⟩) (hx : xs[o]? = some (.string a)) (hy : ys[o]? = some (.string b)) (hr : EqFs P xs ys fs r) : EqFs P xs ys (⟨nm, ty, o, em, tg, pk, bo⟩ :: fs) (decide (a = b) && r)
  | bool {nm : String} {ty o em tg pk bo fs a b s b0 z r} (hn : (nm == "_") = false) (ht : Ty P ty ⟨.bool, s, b0, z⟩) (hx : xs[o]? = some (.bool a)) (hy : ys[o]? = some (.bool b)) (hr : EqFs P xs ys fs r) : EqFs P xs ys (⟨nm, ty, o, em, tg, pk, bo⟩ :: fs) ((a == b) && r)
theorem part_1 {i : TI} {cs : List Value} {o : Nat} (ht : Ty P t i) (hg : isAggD i.d = false) (hv : cs[o]? = some v) (w : World) : (part t cs.toArray o).run P w = .ok v w := by
  simp [part, ht.run_agg, hg, hv]
theorem eqf_step {d : Nat} {xs ys : Array Value} {f : Field} {fs : List Field} {a b : Value} {r s : Bool} {w : World} (hn : (f.name == "_") = false) (ha : (part f.type xs f.offset).run P w = .ok a w) (hb : (part f.type ys f.offset).run P w = .ok b w) (he : (Op.equalIn d f.type a b).run P w = .ok r w) (hr : (Op.eqFields d xs ys fs).run P w = .ok s w) : (Op.eqFields d xs ys (f :: fs)).run P w = .ok (r && s) w := by
  have hn' : f.name ≠ "_" := by simpa using hn
  rw [Op.eqFields]
  simp only [if_pos hn', Sem.run_bind, ha, hb, he, Result.andThen_ok]
  cases r
  · simp
  · simpa using hr
theorem EqFs.run {xs ys : List Value} {fs : List Field} {r : Bool} (h : EqFs P xs ys fs r) (d : Nat) (w : World) : (Op.eqFields (d + 1) xs.toArray ys.toArray fs).run P w = .ok r w := by
  induction h with
  | nil => simp [Op.eqFields]
  | int hn ht hx hy _ ih => exact eqf_step hn (part_1 ht rfl hx w) (part_1 ht rfl hy w) (run_eqInt w ht.und d) ih
  | str hn ht hx hy _ ih => exact eqf_step hn (part_1 ht rfl hx w) (part_1 ht rfl hy w) (run_eqStr w ht.und d) ih
  | bool hn ht hx hy _ ih => exact eqf_step hn (part_1 ht rfl hx w) (part_1 ht rfl hy w) (run_eqBool w ht.und d) ih
theorem run_eqA (w : World) {fs : List Field} {sz b0 : Nat} {z0 : Value} {xs ys : List Value} {r : Bool} (ht : Ty P t ⟨.struct fs.toArray, sz, b0, z0⟩) (hp : P.stoodInHeld t = false) (hf : EqFs P xs ys fs r) (d : Nat) :
    (Op.equalIn (d + 1 + 1) t (.agg xs.toArray) (.agg ys.toArray)).run P w = .ok r w := by
  have hu := ht.und
  have hf' : P.fieldsOf t = fs.toArray := by simp [Program.fieldsOf, hu]
  rw [run_equalIn_struct (P := P) w (d + 1) t xs.toArray ys.toArray (by rw [hf']; exact hu) hp, hf']
  exact hf.run d w
theorem VX.eqA {xs ys : List Value} {fs : List Field} {t' : TypeId} {sz b0 : Nat} {z0 : Value} {r : Bool} (hx : ev tm x = some (.agg xs.toArray) := by rfl) (hy : ev tm y = some (.agg ys.toArray) := by rfl) (ht : Ty P t ⟨.struct fs.toArray, sz, b0, z0⟩ := by rfl) (hp : P.stoodInHeld t = false := by kernel_rfl) (hq : P.eqGuardType P.depth t = false := by kernel_rfl)
    (hf : EqFs P xs ys fs r := by ((repeat' (guard_target =~ (_ : Prop); first | exact EqFs.nil | refine' EqFs.int rfl rfl rfl rfl _ | refine' EqFs.str rfl rfl rfl rfl _ | refine' EqFs.bool rfl rfl rfl rfl _)); fail_if_success refine ?_)) (hd : Nat.blt d n = true := by rfl)
    (h : K ⟨(d, .bool r) :: tm, bx, rw, ck⟩) : VX P n md ⟨some d, .binOp .eql t x y t', ty, pos, af, gd⟩ ⟨tm, bx, rw, ck⟩ K :=
  VX.valU (fun a hi w => run_binop (hi.ev hx) (hi.ev hy) (by simp [eqGuard, hq]) (by
    rw [show (binOp .eql t (.agg xs.toArray) (.agg ys.toArray)) = (do pure (.bool (← Op.equal t (.agg xs.toArray) (.agg ys.toArray)))) from rfl]
    simp [Op.equal, Op.maxDepth, run_eqA w ht hp hf 9998])) hd h
theorem VX.neA {xs ys : List Value} {fs : List Field} {t' : TypeId} {sz b0 : Nat} {z0 : Value} {r : Bool} (hx : ev tm x = some (.agg xs.toArray) := by rfl) (hy : ev tm y = some (.agg ys.toArray) := by rfl) (ht : Ty P t ⟨.struct fs.toArray, sz, b0, z0⟩ := by rfl) (hp : P.stoodInHeld t = false := by kernel_rfl) (hq : P.eqGuardType P.depth t = false := by kernel_rfl)
    (hf : EqFs P xs ys fs r := by ((repeat' (guard_target =~ (_ : Prop); first | exact EqFs.nil | refine' EqFs.int rfl rfl rfl rfl _ | refine' EqFs.str rfl rfl rfl rfl _ | refine' EqFs.bool rfl rfl rfl rfl _)); fail_if_success refine ?_)) (hd : Nat.blt d n = true := by rfl)
    (h : K ⟨(d, .bool (!r)) :: tm, bx, rw, ck⟩) : VX P n md ⟨some d, .binOp .neq t x y t', ty, pos, af, gd⟩ ⟨tm, bx, rw, ck⟩ K :=
  VX.valU (fun a hi w => run_binop (hi.ev hx) (hi.ev hy) (by simp [eqGuard, hq]) (by
    rw [show (binOp .neq t (.agg xs.toArray) (.agg ys.toArray)) = (do pure (.bool (!(← Op.equal t (.agg xs.toArray) (.agg ys.toArray))))) from rfl]
    simp [Op.equal, Op.maxDepth, run_eqA w ht hp hf 9998])) hd h

/-! ### Structs built -/
theorem foldl_put : ∀ (l : List Value) (k off : Nat) (A : Array Value), off + k + l.length ≤ A.size →
    ((l.zipIdx k).foldl (fun cs (p : Value × Nat) => cs.setIfInBounds (off + p.2) p.1) A).size = A.size ∧
    ∀ j, ((l.zipIdx k).foldl (fun cs (p : Value × Nat) => cs.setIfInBounds (off + p.2) p.1) A)[j]? = if off + k ≤ j ∧ j < off + k + l.length then l[j - (off + k)]? else A[j]?
  | [], k, off, A, h => by
    refine ⟨rfl, fun j => ?_⟩
    rw [if_neg (by simp only [List.length_nil]; omega)]
    rfl
  | v :: l, k, off, A, h => by
    simp only [List.length_cons] at h
    have ih := foldl_put l (k + 1) off (A.setIfInBounds (off + k) v) (by simp; omega)
    simp only [List.zipIdx_cons, List.foldl_cons, List.length_cons]
    refine ⟨by rw [ih.1]; simp, fun j => ?_⟩
    rw [ih.2 j]
    by_cases h1 : off + k = j
    · subst h1
      have h2 : ¬ (off + (k + 1) ≤ off + k ∧ off + k < off + (k + 1) + l.length) := by omega
      have h3 : off + k ≤ off + k ∧ off + k < off + k + (l.length + 1) := by omega
      rw [if_neg h2, if_pos h3]
      simp [Array.getElem?_setIfInBounds]
      omega
    · by_cases h2 : off + (k + 1) ≤ j ∧ j < off + (k + 1) + l.length
      · rw [if_pos h2, if_pos (by omega)]
        rw [show j - (off + k) = (j - (off + (k + 1))) + 1 by omega]
        simp
      · rw [if_neg h2, if_neg (by omega)]
        simp [Array.getElem?_setIfInBounds, h1]
theorem fill_put {cs l cs' : List Value} {off : Nat} (h : CsPut cs off l cs') : l.toArray.zipIdx.foldl (fun cs (p : Value × Nat) => cs.setIfInBounds (off + p.2) p.1) cs.toArray = cs'.toArray := by
  obtain ⟨h1, h2, h3⟩ := h.eq
  have := foldl_put l 0 off cs.toArray (by simpa using h2)
  have he : l.toArray.zipIdx.foldl (fun cs (p : Value × Nat) => cs.setIfInBounds (off + p.2) p.1) cs.toArray = (l.zipIdx 0).foldl (fun cs (p : Value × Nat) => cs.setIfInBounds (off + p.2) p.1) cs.toArray := by
    rw [Array.zipIdx_toArray, List.foldl_toArray]
  rw [he]
  apply Array.ext_getElem?
  intro j
  rw [this.2 j]
  simp only [Nat.add_zero, List.getElem?_toArray]
  rw [h3 j]
inductive Fil (place : Nat → Option (Nat × Nat)) : List Value → List (Nat × Value) → List Value → Prop where
  | nil {cs} : Fil place cs [] cs
  | cell {cs cs1 out i v off rest} (hp : place i = some (off, 1)) (hv : plainV v = true) (hc : CsPut cs off [v] cs1) (hr : Fil place cs1 rest out) : Fil place cs ((i, v) :: rest) out
  | agg {cs cs1 out i l off sz rest} (hp : place i = some (off, sz)) (hl : List.length l = sz) (hc : CsPut cs off l cs1) (hr : Fil place cs1 rest out) : Fil place cs ((i, .agg l.toArray) :: rest) out
theorem Fil.fill {place : Nat → Option (Nat × Nat)} {cs out : List Value} {ps : List (Nat × Value)} (h : Fil place cs ps out) : Instr.fill place cs.toArray ps = some out.toArray := by
  induction h with
  | nil => rfl
  | @cell cs cs1 out i v off rest hp hv hc _ ih =>
    have := hc.eq.2.1
    have h2 := fill_put hc
    simp only [List.length_cons, List.length_nil] at this
    have hcells := plainV_cells hv
    unfold Instr.fill
    rw [hp]
    simp only [hcells]
    rw [if_neg (by simp; omega)]
    rw [h2]
    exact ih
  | @agg cs cs1 out i l off sz rest hp hl hc _ ih =>
    have := hc.eq.2.1
    have h2 := fill_put hc
    have hcells : (Value.agg l.toArray).cells = l.toArray := rfl
    unfold Instr.fill
    rw [hp]
    simp only [hcells]
    rw [if_neg (by simp [hl]; omega)]
    rw [h2]
    exact ih
inductive FSz (P : Program) [HasTab P] : List Field → List (Nat × Nat) → Prop where
  | nil : FSz P [] []
  | cons {nm ty o em tg pk bo i fs ps} (ht : Ty P ty i) (hr : FSz P fs ps) : FSz P (⟨nm, ty, o, em, tg, pk, bo⟩ :: fs) ((o, i.size) :: ps)
theorem FSz.run {fs : List Field} {ps : List (Nat × Nat)} (h : FSz P fs ps) (w : World) : (fs.mapM fun (f : Field) => do pure (f.offset, ← sizeOf f.type)).run P w = .ok ps w := by
  induction h with
  | nil => simp
  | cons ht _ ih =>
    simp only [List.mapM_cons, Sem.run_bind, ht.run_size, Result.andThen_ok, Sem.run_pure] at ih ⊢
    rw [ih]
    simp
inductive Evp (tm : Tm) : List (Nat × Operand) → List (Nat × Value) → Prop where
  | nil : Evp tm [] []
  | cons {i x xs v vs} (h : ev tm x = some v) (hr : Evp tm xs vs) : Evp tm ((i, x) :: xs) ((i, v) :: vs)
theorem Evp.map {n : Nat} {tm : Tm} {a : Act} (hi : TInv n tm a) {xs : List (Nat × Operand)} {vs : List (Nat × Value)} (h : Evp tm xs vs) : xs.map (fun (i, x) => (i, a.eval x)) = vs := by
  induction h with
  | nil => rfl
  | cons h _ ih => simp [hi.ev h, ih]
def placesOf (ps : List (Nat × Nat)) (i : Nat) : Option (Nat × Nat) := ps[i]?
def places1 (sz : Nat) (i : Nat) : Option (Nat × Nat) := some (i * sz, sz)
theorem VX.build {fs : List Field} {ps : List (Nat × Nat)} {parts : List (Nat × Operand)} {pv : List (Nat × Value)} {zs out : List Value} {sz b0 : Nat} (ht : Ty P t ⟨.struct fs.toArray, sz, b0, .agg zs.toArray⟩ := by rfl)
    (hf : FSz P fs ps := by ((repeat' (guard_target =~ (_ : Prop); first | exact FSz.nil | refine' FSz.cons rfl _)); fail_if_success refine ?_)) (hv : Evp tm parts pv := by ((repeat' (guard_target =~ Evp _ _ _; first | exact Evp.nil | refine' Evp.cons rfl _)); fail_if_success refine ?_))
    (hl : Fil (placesOf ps) zs pv out := by ((repeat' (guard_target =~ Fil _ _ _ _; first | exact Fil.nil | (guard_target =~ Fil _ _ ((_, Go.Value.agg _) :: _) _; refine' Fil.agg rfl rfl (by ((repeat' (guard_target =~ CsPut _ _ _ _; first | exact CsPut.nil | refine' CsPut.take _ | refine' CsPut.drop _)); fail_if_success refine ?_)) _) | (guard_target =~ Fil _ _ (_ :: _) _; refine' Fil.cell rfl (by first | rfl | assumption) (by ((repeat' (guard_target =~ CsPut _ _ _ _; first | exact CsPut.nil | refine' CsPut.take _ | refine' CsPut.drop _)); fail_if_success refine ?_)) _))); fail_if_success refine ?_)) (hd : Nat.blt d n = true := by rfl)
    (h : K ⟨(d, .agg out.toArray) :: tm, bx, rw, ck⟩) : VX P n md ⟨some d, .build t parts.toArray, ty, pos, af, gd⟩ ⟨tm, bx, rw, ck⟩ K :=
  VX.valU (fun a hi w => by
    have h1 := ht.run_und w
    have h2 := ht.run_zero w
    have h3 := hf.run w
    have h4 := hv.map hi
    have h5 : Instr.fill (fun i => ps[i]?) zs.toArray pv = some out.toArray := hl.fill
    have h6 : (fs.toArray.mapM (fun (f : Field) => do pure (f.offset, ← sizeOf f.type) : Field → Sem (Nat × Nat))).run P w = .ok ps.toArray w := by
      rw [List.mapM_toArray]
      simp only [map_eq_pure_bind, Sem.run_bind, h3, Result.andThen_ok, Sem.run_pure]
    have h7 : (parts.map (fun (p : Nat × Operand) => (p.1, a.eval p.2))) = pv := h4
    simp only [execOp, Instr.build, Sem.run_bind, h1, h2, Result.andThen_ok, Value.cells, h6, Sem.run_pure, List.map_toArray]
    simp only [h7, List.getElem?_toArray, h5, Sem.run_pure, Result.andThen_ok]) hd h
inductive Zc : Value → List Value → Prop where
  | agg (l : List Value) : Zc (.agg l.toArray) l
  | cell (w : Value) (h : plainV w = true) : Zc w [w]
theorem Zc.cells {v : Value} {l : List Value} (h : Zc v l) : v.cells = l.toArray := by
  cases h with
  | agg _ => rfl
  | cell _ h => exact plainV_cells h
def rep (l : List Value) : Nat → List Value
  | 0 => []
  | k + 1 => l ++ rep l k
theorem rep_length (l : List Value) : ∀ k, (rep l k).length = k * l.length
  | 0 => by simp [rep]
  | k + 1 => by simp [rep, rep_length l k, Nat.add_mul, Nat.add_comm]
theorem rep_get (l : List Value) (h : 0 < l.length) : ∀ k j, j < k * l.length → (rep l k)[j]? = l[j % l.length]?
  | 0, j, hj => by simp at hj
  | k + 1, j, hj => by
    unfold rep
    by_cases h1 : j < l.length
    · rw [List.getElem?_append_left h1, Nat.mod_eq_of_lt h1]
    · rw [List.getElem?_append_right (by omega), rep_get l h k (j - l.length) (by rw [Nat.add_mul] at hj; omega), ← Nat.mod_eq_sub_mod (by omega)]
theorem rep_map {z : Value} {l : List Value} (h : Zc z l) {k sz : Nat} (hl : l.length = sz) (h0 : 0 < sz) : (Array.range (k * sz)).map (fun j => z.cells[j % z.cells.size]!) = (rep l k).toArray := by
  subst hl
  rw [h.cells]
  apply Array.ext_getElem?
  intro j
  by_cases hj : j < k * l.length
  · have h2 : j % l.length < l.length := Nat.mod_lt _ h0
    simp [rep_get l h0 k j hj, hj, List.getElem!_eq_getElem?_getD, h2]
  · simp [hj, rep_length, List.getElem?_eq_none]
inductive NF : List Value → List Value → Prop where
  | nil : NF [] []
  | cons {x r r'} (h : NF r r') : NF (x :: r) (x :: r')
theorem NF.eq {l l' : List Value} (h : NF l l') : l = l' := by
  induction h with
  | nil => rfl
  | cons _ ih => rw [ih]
theorem VX.lit {g : Bool} {k : Nat} {i : TI} {parts : List (Nat × Operand)} {pv : List (Nat × Value)} {zs out out' : List Value} {sz0 b0 : Nat} {z0 : Value} (ht : Ty P t ⟨.slice e, sz0, b0, z0⟩ := by rfl) (he : Ty P e i := by rfl)
    (hv : Evp tm parts pv := by ((repeat' (guard_target =~ Evp _ _ _; first | exact Evp.nil | refine' Evp.cons rfl _)); fail_if_success refine ?_)) (hk : Nat.blt 0 (k * i.size) = true := by rfl) (hm : Nat.ble (k * i.size) 16777216 = true := by rfl)
    (hz : Zc i.zero zs := by first | exact Zc.agg _ | exact Zc.cell _ rfl) (hzl : Nat.beq zs.length i.size = true := by rfl)
    (hl : Fil (places1 i.size) (rep zs k) pv out := by ((repeat' (guard_target =~ Fil _ _ _ _; first | exact Fil.nil | (guard_target =~ Fil _ _ ((_, Go.Value.agg _) :: _) _; refine' Fil.agg rfl rfl (by ((repeat' (guard_target =~ CsPut _ _ _ _; first | exact CsPut.nil | refine' CsPut.take _ | refine' CsPut.drop _)); fail_if_success refine ?_)) _) | (guard_target =~ Fil _ _ (_ :: _) _; refine' Fil.cell rfl (by first | rfl | assumption) (by ((repeat' (guard_target =~ CsPut _ _ _ _; first | exact CsPut.nil | refine' CsPut.take _ | refine' CsPut.drop _)); fail_if_success refine ?_)) _))); fail_if_success refine ?_)) (hn : NF out out' := by ((repeat' (guard_target =~ NF _ _; first | exact NF.nil | refine' NF.cons _)); fail_if_success refine ?_)) (hd : Nat.blt d n = true := by rfl)
    (h : ∀ b, K ⟨(d, .slice (some ⟨b, 0, none⟩) k k) :: tm, (b, out', e) :: bx, rw, ck⟩) : VX P n (.x g) ⟨some d, .buildSlice t k parts.toArray, ty, pos, af, gd⟩ ⟨tm, bx, rw, ck⟩ K := fun a w hi => by
  obtain rfl := hn.eq
  have h1 := ht.run_und w
  have h2 := he.run_size w
  have h3 := he.run_zero w
  have h4 : (parts.map (fun (p : Nat × Operand) => (p.1, a.eval p.2))) = pv := hv.map hi.toTInv
  have h5 : Instr.fill (fun j => some (j * i.size, i.size)) (rep zs k).toArray pv = some out.toArray := hl.fill
  have h9 : 0 < i.size := by
    have := blt_lt hk
    rcases Nat.eq_zero_or_pos i.size with h | h
    · rw [h] at this
      simp at this
    · exact h
  have h6 := rep_map hz (k := k) (Nat.eq_of_beq_eq_true hzl) h9
  have h7 : ¬ (k * i.size > 2 ^ 24) := by have := Nat.le_of_ble_eq_true hm; omega
  have h8 : ¬ (k * i.size = 0) := by have := blt_lt hk; omega
  refine Oper.wp_of_run (v := .slice (some ⟨w.heap.size, 0, none⟩) k k) (w' := w.alloc (.cells out.toArray e)) ?_ ⟨fun _ => (Below.refl _ _).alloc (Nat.le_refl _) _, _, h w.heap.size, (hi.world (hi.w.alloc out e)).put d (blt_lt hd) _⟩
  simp only [execOp, Instr.buildSlice, Sem.run_bind, h1, h2, h3, Result.andThen_ok, if_neg h7, if_neg h8, Sem.run_pure, List.map_toArray, h4, h6, h5]
  simp [newRow, newObj, Sem.run]
end
end Go.Vg
