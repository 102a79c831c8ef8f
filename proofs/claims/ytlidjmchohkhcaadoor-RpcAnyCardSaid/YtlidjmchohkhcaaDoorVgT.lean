/-
  Vg, part T: texts and bytes.
-/
import Derived.Test.YtlidjmchohkhcaaDoorVgR
import Derived.Lib.ConvBytes
import Derived.Lib.AppendStr
import Derived.Laws.BytesString
import Derived.Laws.AppendOwn
set_option linter.unusedVariables false
set_option linter.unusedSectionVars false
namespace Go.Vg
open Go.RowKit
theorem below_bytes (w : World) (e : TypeId) (s : ByteArray) : Below w.heap.size w (Lib.bytesWorld w e s) := by
  refine ⟨?_, ?_, ?_, ?_, fun g hg => Lib.bytesWorld_at_old w e s g hg⟩
  · simp [Lib.bytesWorld, World.freeze, World.alloc, World.drew, -World.alloc_eq, -World.drew_eq]
  · simp [Lib.bytesWorld, World.freeze, World.alloc, World.drew, -World.alloc_eq, -World.drew_eq]
  · simp [Lib.bytesWorld, World.freeze, World.alloc, World.drew, -World.alloc_eq, -World.drew_eq]
  · rw [Lib.bytesWorld_size]; omega
theorem bytes_len (s : ByteArray) : s.data.toList.length = s.size := by
  show s.data.toList.length = s.data.size
  rw [Array.length_toList]
theorem bytes_view (w : World) (e : TypeId) (s : ByteArray) (hm : s.size ≤ 9223372036854775807) : View encB 1 (Lib.bytesWorld w e s) (Fresh w (Lib.bytesWorld w e s)) (some ⟨w.heap.size, 0, none⟩) s.size s.data.toList := by
  refine ⟨encB_ok, bytes_len s, hm, fun _ => ⟨_, rfl, ⟨Nat.le_refl _, by rw [Lib.bytesWorld_size]; exact Nat.lt_succ_self _⟩, fun k hk j u hu => ?_⟩⟩
  have hk' : k < s.size := by rw [← bytes_len]; exact hk
  have hj : j = 0 := by
    rcases j with _ | j
    · rfl
    · simp [encB] at hu
  subst hj
  have h2 := Lib.bytesWorld_cell w e s k hk'
  simp only [encB, List.getElem?_cons_zero, Option.some.injEq] at hu
  rw [add_none, add_none, Nat.zero_add, Nat.mul_one, Nat.add_zero, h2, ← hu, List.getD_eq_getElem?_getD, List.getElem?_eq_getElem hk]
  rfl
theorem fold_bytes : ∀ (xs : List UInt8) (s : ByteArray), ((xs.map fun b => (b.toNat : Int)).foldl (fun r n => r.push (UInt8.ofNat n.toNat)) s).data = s.data ++ xs.toArray
  | [], s => by simp
  | b :: r, s => by
    rw [List.map_cons, List.foldl_cons, fold_bytes r]
    simp [ByteArray.push]
theorem run_view_string {P : Program} {w : World} {S : Nat → Prop} {A : Option Addr} {m c : Nat} {xs : List UInt8} (hw : View encB 1 w S A m xs) : (Conv.bytesToString (.slice A m c)).run P w = .ok (.string ⟨xs.toArray⟩) w := by
  have hl := hw.len
  rcases Nat.eq_zero_or_pos m with h0 | h0
  · have : xs = [] := List.eq_nil_of_length_eq_zero (by omega)
    subst this
    subst h0
    cases A with
    | none => rfl
    | some a =>
      rw [run_bytesToString w a 0 c [] (by have := run_loadCells_list (P := P) (w := w) a [] (by simp); simpa using this)]
      rfl
  · obtain ⟨ad, rfl, _, hc⟩ := hw.at_ (by omega)
    have h2 := run_loadCells_list (P := P) (w := w) ad ((xs.map fun b => (b.toNat : Int)).map (Value.int .u8)) (fun j v hv => by
      rw [List.map_map] at hv
      rw [List.getElem?_map] at hv
      obtain ⟨b, hb, rfl⟩ := Option.map_eq_some_iff.1 hv
      obtain ⟨hj, rfl⟩ := List.getElem?_eq_some_iff.1 hb
      have := hc j hj 0 _ rfl
      rwa [Nat.mul_one, add_add, Nat.add_zero] at this)
    rw [List.length_map, List.length_map, hl] at h2
    rw [run_bytesToString w ad m c (xs.map fun b => (b.toNat : Int)) h2]
    congr 2
    have := fold_bytes xs ByteArray.empty
    cases hq : (xs.map fun b => (b.toNat : Int)).foldl (fun r n => r.push (UInt8.ofNat n.toNat)) ByteArray.empty with
    | mk dd =>
      rw [hq] at this
      simp at this
      rw [this]
section
variable {P : Program} [HasTab P] {n : Nat} {K : St → Prop} {md : M} {gd : Option (Nat × Bool)}
variable {tm : Tm} {bx bx' : List Bx} {rw rw' : List Rw} {ck ck' : List (World × (Nat → Prop))}
variable {d : Tmp} {ty t st e : TypeId} {pos : String} {af : Array Edge} {x y z : Operand} {v u : Value}
/-- '[]byte(s)', that is only read. -/
theorem VX.bytesV {s : ByteArray} {i0 : TI} {s0 b0 s1 b1 : Nat} {z0 z1 : Value} (hx : ev tm x = some (.string s) := by rfl) (hs : Ty P st i0 := by rfl) (ht : Ty P t ⟨.slice e, s0, b0, z0⟩ := by rfl) (he : Ty P e ⟨.int .u8, s1, b1, z1⟩ := by rfl) (hm : s.size ≤ 9223372036854775807 := by omega) (hd : Nat.blt d n = true := by rfl)
    (h : ∀ A c w w', View encB 1 w' (Fresh w w') A s.size s.data.toList → s.size ≤ c → K ⟨(d, .slice A s.size c) :: tm, bx, rw, (w', Fresh w w') :: ck⟩) :
    VX P n (.x false) ⟨some d, .convert st t x, ty, pos, af, gd⟩ ⟨tm, bx, rw, ck⟩ K := fun a w hi => by
  have hrun := Lib.run_convert_string_bytes (P := P) w st t e s hs.und ht.und he.und
  refine Oper.wp_of_run (v := .slice (some ⟨w.heap.size, 0, none⟩) s.size (grownCap w s.size 0 e)) (w' := Lib.bytesWorld w e s) ?_ ⟨fun e => (by cases e), _, h _ _ w _ (bytes_view w e s hm) (grownCap_ge w s.size 0 e), (hi.world (hi.w.fresh (below_bytes w e s))).put d (blt_lt hd) _⟩
  simp [execOp, hi.ev hx, hrun]
/-- 'string(b)' of far bytes. -/
theorem VX.strOf {xs : List UInt8} {c0 : World} {S : Nat → Prop} {A : Option Addr} {m c : Nat} {s0 b0 s1 b1 s2 b2 : Nat} {z0 z1 z2 : Value} (hmd : md.sees = true := by rfl) (hx : ev tm x = some (.slice A m c) := by rfl) (hs : Ty P st ⟨.slice e, s0, b0, z0⟩ := by rfl) (he : Ty P e ⟨.int .u8, s1, b1, z1⟩ := by rfl) (ht : Ty P t ⟨.string, s2, b2, z2⟩ := by rfl)
    (hw : View encB 1 c0 S A m xs := by assumption) (hck : CkAt ck c0 S := by ((repeat' (guard_target =~ CkAt _ _ _; first | exact CkAt.head | refine' CkAt.tail _)); fail_if_success refine ?_)) (hd : Nat.blt d n = true := by rfl)
    (h : K ⟨(d, .string ⟨xs.toArray⟩) :: tm, bx, rw, ck⟩) : VX P n md ⟨some d, .convert st t x, ty, pos, af, gd⟩ ⟨tm, bx, rw, ck⟩ K :=
  VX.val hmd (fun a w hi => by
    have h1 := run_view_string (P := P) (c := c) (hi.w.view hck hw)
    simp [execOp, hi.ev hx, convert, run_underlying hs.und, run_underlying ht.und, run_underlying he.und, h1]) hd h
/-- 'x[lo:hi]' of a far slice. -/
theorem VX.sliceLoHi {α : Type} {enc : α → List Value} {xs : List α} {c0 : World} {S : Nat → Prop} {A : Option Addr} {m c lo hi esz : Nat} {j1 j2 : Int} {ik ik' : IntKind} {i : TI} {sz0 b0 : Nat} {z0 : Value}
    (hx : ev tm x = some (.slice A m c) := by rfl) (hy : ev tm y = some (.int ik j1) := by rfl) (hz : ev tm z = some (.int ik' j2) := by rfl) (ht : Ty P t ⟨.slice e, sz0, b0, z0⟩ := by rfl) (he : Ty P e i := by rfl)
    (hw : View enc esz c0 S A m xs := by assumption) (hes : Nat.beq esz i.size = true := by rfl) (h1 : j1 = ((lo : Nat) : Int) := by omega) (h2 : j2 = ((hi : Nat) : Int) := by omega) (hle : lo ≤ hi := by omega) (hhi : hi ≤ m := by omega) (hcap : m ≤ c := by omega) (hd : Nat.blt d n = true := by rfl)
    (h : ∀ A', View enc esz c0 S A' (hi - lo) ((xs.drop lo).take (hi - lo)) → K ⟨(d, .slice A' (hi - lo) (c - lo)) :: tm, bx, rw, ck⟩) :
    VX P n md ⟨some d, .slice t x (some y) (some z) none, ty, pos, af, gd⟩ ⟨tm, bx, rw, ck⟩ K :=
  VX.valU (fun a hi' w => by
    have g1 := ht.run_und w
    have g2 := he.run_size w
    have g3 : (Instr.sliceBound (.int ik' j2) c .sliceAcap).run P w = .ok hi w := by
      subst h2
      simp [Instr.sliceBound, asIntOf]
      omega
    have g4 : (Instr.sliceBound (.int ik j1) hi .sliceB).run P w = .ok lo w := by
      subst h1
      simp [Instr.sliceBound, asIntOf]
      omega
    have g5 : (if c = lo then A else A.map (·.add (lo * i.size))) = subA A c lo esz := by simp [subA, Nat.eq_of_beq_eq_true hes]
    simp [execOp, Instr.sliceAt, Instr.slice, Instr.sliceBounds, hi'.ev hx, hi'.ev hy, hi'.ev hz, g1, g2, g3, g4, g5]) hd (h _ ((hw.drop hcap).take (by omega)))
end
end Go.Vg
