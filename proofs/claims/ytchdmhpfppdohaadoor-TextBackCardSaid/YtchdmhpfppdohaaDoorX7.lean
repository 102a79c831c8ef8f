import Derived.Test.YtchdmhpfppdohaaDoorX6
import Derived.Lib.Bytealg
import Derived.Lib.ValidU
import Derived.Shelf.Unicode.ValidAny
set_option linter.unusedVariables false
namespace Go.Proofs
open Go.Shelf
def Tryd.laysValid_ren : Go.Shelf.Ren := ⟨fun | 196 => 39 | 259 => 45 | n => n, fun | 9 => 9 | 4 => 4 | 3 => 3 | 5 => 5 | 12 => 12 | 119 => 82 | 0 => 0 | 46 => 57 | 139 => 85 | 138 => 84 | 53 => 100 | n => n, fun | 3 => 1 | 4 => 2 | n => n⟩
theorem Tryd.laysValid : Go.Proofs.Lays.n196 Tryd.prog Tryd.laysValid_ren := {
  mixed := by kernel_rfl
  f196 := Tryd.func39.trans (congrArg some (by kernel_rfl))
  f259 := Tryd.func45.trans (congrArg some (by kernel_rfl))
  t0 := Tryd.underlying0
  a0 := Tryd.isAgg0
  z0 := Tryd.sizeOf0
  v0 := Tryd.zeroValue0
  t3 := Tryd.underlying3
  a3 := Tryd.isAgg3
  z3 := Tryd.sizeOf3
  v3 := Tryd.zeroValue3
  t4 := Tryd.underlying4
  a4 := Tryd.isAgg4
  z4 := Tryd.sizeOf4
  v4 := Tryd.zeroValue4
  t5 := Tryd.underlying5
  a5 := Tryd.isAgg5
  z5 := Tryd.sizeOf5
  v5 := Tryd.zeroValue5
  t9 := Tryd.underlying9
  a9 := Tryd.isAgg9
  z9 := Tryd.sizeOf9
  v9 := Tryd.zeroValue9
  t12 := Tryd.underlying12
  a12 := Tryd.isAgg12
  z12 := Tryd.sizeOf12
  v12 := Tryd.zeroValue12
  t46 := Tryd.underlying57
  a46 := Tryd.isAgg57
  z46 := Tryd.sizeOf57
  v46 := Tryd.zeroValue57
  t53 := Tryd.underlying100
  a53 := Tryd.isAgg100
  z53 := Tryd.sizeOf100
  v53 := Tryd.zeroValue100
  t119 := Tryd.underlying82
  a119 := Tryd.isAgg82
  z119 := Tryd.sizeOf82
  t138 := Tryd.underlying84
  a138 := Tryd.isAgg84
  z138 := Tryd.sizeOf84
  v138 := Tryd.zeroValue84
  t139 := Tryd.underlying85
  a139 := Tryd.isAgg85
  z139 := Tryd.sizeOf85
  v139 := Tryd.zeroValue85
  g3 := by kernel_rfl
  g4 := by kernel_rfl }
end Go.Proofs

namespace Go.Tx
open Go.Proofs Go.RowKit Go.Vg Go.Err Go.Byt
set_option maxRecDepth 100000
def encI (i : Int) : List Value := [.int .u8 i]
def encP (p : Int × Int) : List Value := [.int .u8 p.1, .int .u8 p.2]
theorem encI_ok : EncOk encI 1 := ⟨fun _ => rfl, fun x u h => by
  simp only [encI, List.mem_cons, List.not_mem_nil, or_false] at h
  subst h
  rfl⟩
theorem encP_ok : EncOk encP 2 := ⟨fun _ => rfl, fun x u h => by
  simp only [encP, List.mem_cons, List.not_mem_nil, or_false] at h
  rcases h with rfl | rfl <;> rfl⟩
def firstL : List Int := (List.range 256).map fun c => (Lib.firstT c : Int)
def accL : List (Int × Int) := (List.range 16).map fun i => ((Lib.accLo i : Int), (Lib.accHi i : Int))
/-- What Go's library lays of texts. -/
structure Tabs (c : World) (S : Nat → Prop) : Prop where
  first : View encI 1 c S (some ⟨1, 0, none⟩) 256 firstL
  acc : View encP 2 c S (some ⟨2, 0, none⟩) 16 accL
theorem Tabs.u8 {w : World} {S : Nat → Prop} (h : Tabs w S) : Lib.Utf8Tabs 1 2 w := by
  refine ⟨fun c hc => ?_, fun i hi => ⟨?_, ?_⟩⟩
  · have := h.first.cell (k := c) (j := 0) (u := .int .u8 (Lib.firstT c)) (by simp [firstL]; exact hc) (by simp [encI, firstL])
    rw [show elAt (some ⟨1, 0, none⟩) c 1 0 = ⟨1, c, none⟩ by simp [elAt, add_none]] at this
    exact this
  · have := h.acc.cell (k := i) (j := 0) (u := .int .u8 (Lib.accLo i)) (by simp [accL]; exact hi) (by simp [encP, accL])
    simpa [elAt, add_none, Nat.mul_comm] using this
  · have := h.acc.cell (k := i) (j := 1) (u := .int .u8 (Lib.accHi i)) (by simp [accL]; exact hi) (by simp [encP, accL])
    simpa [elAt, add_none, Nat.mul_comm] using this
theorem Tabs.vl {w w0 : World} {S : Nat → Prop} (h : Tabs w0 S) {σ : St} (hw : WInv σ w) (hc : CkAt σ.ck w0 S) : Tabs w (Low w) := ⟨hw.vl h.first hc, hw.vl h.acc hc⟩
theorem Valid_c {w : World} {s : ByteArray} (hs : s.size ≤ 9223372036854775807) (hT : Tabs w (Low w)) : Calls Tryd.prog 39 #[.string s] w (Ret w (.bool (Lib.validD s.data.toList))) :=
  Any.utf8_ValidString Tryd.laysValid s w hs hT.u8
theorem c_index (w : World) (s : ByteArray) (c : Int) : (callFunc 50 #[.string s, .int .u8 c]).run Tryd.prog w = .ok (.value (.int .i64 (Lib.indexByte s.data.toList c.toNat.toUInt8))) w := by
  rw [run_callFunc_extern Tryd.func50 (by kernel_rfl) (by kernel_rfl) (by kernel_rfl) (e := Extern.BytealgIndexByte.indexByte) (by kernel_rfl), Lib.run_indexByteString]
  rfl
attribute [local irreducible] V VO VP VX thenQ blockQ loopQ finQ elAt subA Calls ErrV pointS accN utf getBinS
theorem Index0_c {w : World} {s : ByteArray} {c : Int} : Calls Tryd.prog 46 #[.string s, .int .u8 c] w (Ret w (.int .i64 (Lib.indexByte s.data.toList c.toNat.toUInt8))) := by
  refine calls_start (vs := [.string s, .int .u8 c]) Tryd.func46 rfl Tryd.ntmps46 rfl ?_
  repeat' (first | (guard_target =~ VO _ _ _ _ _ _ _ _; first | with_reducible refine VO.nil ?_ | refine VO.cons ?_ | (refine VO.gTake (hg := ?_) (h := ?_); (first | with_reducible rfl | with_reducible exact Bool.not_true | with_reducible exact Bool.not_false | decide)) | (refine VO.gSkipT (hg := ?_) (h := ?_); (first | with_reducible rfl | with_reducible exact Bool.not_true | with_reducible exact Bool.not_false | decide)) | (refine VO.gSkipF (hg := ?_) (h := ?_); (first | with_reducible rfl | with_reducible exact Bool.not_true | with_reducible exact Bool.not_false | decide)) | (guard_target =~ VO _ _ _ _ _ (⟨_, _, _, _, _, some _⟩ :: _) _ _; refine VO.gSkipUn (h := ?_)) | (refine VO.gsD (h1 := ?_) (h2 := ?_) <;> intro _ <;> try (exfalso; omega)) | (refine VO.gsN (h1 := ?_) (h2 := ?_) <;> intro _ <;> try (exfalso; omega)) | (refine VO.gsNB (h1 := ?_) (h2 := ?_) <;> intro _ <;> try (exfalso; omega)) | (refine VO.gsB (h1 := ?_) (h2 := ?_) <;> intro _ <;> try (exfalso; omega))) | (guard_target =~ VX _ _ _ _ _ _; first | (guard_target =~ VX _ _ _ ⟨_, Go.Op.call _, _, _, _, _⟩ _ _; first | (guard_target =~ VX _ _ _ ⟨_, Go.Op.call ⟨Go.Callee.value (Go.Operand.func 50), _, _⟩, _, _, _, _⟩ _ _; first | refine VX.ext (hf := fun w hw => c_index w _ _) (h := ?_)) | refine VX.lenS (h := ?_) | refine VX.lenStr (h := ?_) | refine VX.min2 (h := ?_) | refine VX.max2 (h := ?_)) | (guard_target =~ VX _ _ _ ⟨_, Go.Op.move _, _, _, _, _⟩ _ _; first | refine VX.move (h := ?_)) | (guard_target =~ VX _ _ _ ⟨_, Go.Op.assign _, _, _, _, _⟩ _ _; first | refine VX.assign (h := ?_)) | (guard_target =~ VX _ _ _ ⟨_, Go.Op.load _ _, _, _, _, _⟩ _ _; first | refine VX.load1 (h := ?_) | refine VX.loadA (h := ?_) | refine VX.loadF1 (h := ?_) | refine VX.loadFA (h := ?_)) | (guard_target =~ VX _ _ _ ⟨_, Go.Op.fieldAddr _ _ _, _, _, _, _⟩ _ _; first | refine VX.fieldN (h := ?_) | refine VX.fieldF (h := ?_) | refine VX.fieldO (h := ?_) | refine VX.fieldG (h := ?_)) | (guard_target =~ VX _ _ _ ⟨_, Go.Op.extract _ _, _, _, _, _⟩ _ _; first | refine VX.extract (h := ?_)) | (guard_target =~ VX _ _ _ ⟨_, Go.Op.pick _ _ _, _, _, _, _⟩ _ _; first | refine VX.pick (h := ?_)) | (guard_target =~ VX _ _ _ ⟨_, Go.Op.binOp _ _ _ _ _, _, _, _, _⟩ _ _; first | refine VX.add64 (h := ?_) | refine VX.sub64 (h := ?_) | refine VX.mul64 (h := ?_) | refine VX.bin (h := ?_) | refine VX.eqNilI (h := ?_) | refine VX.eqNilJ (h := ?_) | refine VX.neNilI (h := ?_) | refine VX.neNilJ (h := ?_) | refine VX.eqNilS (h := ?_) | refine VX.eqStr (h := ?_) | refine VX.neStr (h := ?_) | refine VX.eqBool (h := ?_) | refine VX.neBool (h := ?_) | refine VX.eqA (h := ?_) | refine VX.neA (h := ?_)) | (guard_target =~ VX _ _ _ ⟨_, Go.Op.unOp _ _ _, _, _, _, _⟩ _ _; first | refine VX.not (h := ?_)) | (guard_target =~ VX _ _ _ ⟨_, Go.Op.store _ _ _, _, _, _, _⟩ _ _; first | refine VX.store1 (h := ?_) | refine VX.storeA (h := ?_)) | (guard_target =~ VX _ _ _ ⟨_, Go.Op.indexAddr _ _ _, _, _, _, _⟩ _ _; first | refine VX.idxF (h := ?_)) | (guard_target =~ VX _ _ _ ⟨_, Go.Op.makeInterface _ _, _, _, _, _⟩ _ _; first | refine VX.mkIface (h := ?_)) | (guard_target =~ VX _ _ _ ⟨_, Go.Op.box _ _, _, _, _, _⟩ _ _; first | refine VX.box1 (h := fun _ => ?_) | refine VX.boxA (h := fun _ => ?_)) | (guard_target =~ VX _ _ _ ⟨_, Go.Op.alloc _, _, _, _, _⟩ _ _; first | refine VX.alloc1 (h := fun _ => ?_) | refine VX.allocA (h := fun _ => ?_)) | (guard_target =~ VX _ _ _ ⟨_, Go.Op.buildSlice _ _ _, _, _, _, _⟩ _ _; first | refine VX.lit0 (h := fun _ => ?_) | refine VX.lit (h := fun _ => ?_)) | (guard_target =~ VX _ _ _ ⟨_, Go.Op.build _ _, _, _, _, _⟩ _ _; first | refine VX.build (h := ?_)) | (guard_target =~ VX _ _ _ ⟨_, Go.Op.field _ _ _, _, _, _, _⟩ _ _; first | refine VX.field (h := ?_)) | (guard_target =~ VX _ _ _ ⟨_, Go.Op.nilCheck _, _, _, _, _⟩ _ _; first | refine VX.nilCheck (h := ?_))) | (guard_target =~ V _ _ _ _ _ _ _; first | with_reducible refine V.seq ?_ | with_reducible refine V.region ?_ | with_reducible refine V.skip ?_ | with_reducible refine V.exit ?_ | with_reducible refine V.block ?_ | (guard_target =~ V _ _ _ _ Go.Code.ret _ _; first | refine V.retV (he := ?_) | refine V.retP (h := fun w hw hb => ?_)) | (guard_target =~ V _ _ _ _ (Go.Code.cond _ _ _) _ _; first | (refine V.condT (hg := ?_) (h := ?_); (first | with_reducible rfl | with_reducible exact Bool.not_true | with_reducible exact Bool.not_false | decide)) | (refine V.condF (hg := ?_) (h := ?_); (first | with_reducible rfl | with_reducible exact Bool.not_true | with_reducible exact Bool.not_false | decide)) | (refine V.condD (h1 := ?_) (h2 := ?_) <;> intro _ <;> try (exfalso; omega)) | (refine V.condN (h1 := ?_) (h2 := ?_) <;> intro _ <;> try (exfalso; omega)) | (refine V.condNB (h1 := ?_) (h2 := ?_) <;> intro _ <;> try (exfalso; omega)) | (refine V.condB (h1 := ?_) (h2 := ?_) <;> intro _ <;> try (exfalso; omega)))) | (guard_target =~ VP _ _ _ _ _ _ _ _ _; first | with_reducible refine VP.done ?_ | with_reducible refine VP.all ?_ | refine VP.u (h := ?_) | refine VP.l (h := ?_)) | (guard_target =~ VPs _ _ _ _ _ _ _ _ _; first | exact True.intro | (refine VPs.cons (o := ?_) (g := ?_) (ho := ?_) (hg := ?_) (hgr := ?_) (h := ?_) ?_; rotate_left 2; rfl; rfl; rfl)) | with_reducible refine thenQ_normal ?_ | with_reducible refine thenQ_exit ?_ | with_reducible refine blockQ_normal ?_ | with_reducible refine blockQ_hit ?_ | (guard_target =~ blockQ _ _ _ _; refine blockQ_miss (h := ?_)) | with_reducible refine loopQ_exit ?_)
  all_goals rfl
theorem Index_c {w : World} {s : ByteArray} {c : Int} : Calls Tryd.prog 40 #[.string s, .int .u8 c] w (Ret w (.int .i64 (Lib.indexByte s.data.toList c.toNat.toUInt8))) := by
  refine calls_start (vs := [.string s, .int .u8 c]) Tryd.func40 rfl Tryd.ntmps40 rfl ?_
  repeat' (first | (guard_target =~ VO _ _ _ _ _ _ _ _; first | with_reducible refine VO.nil ?_ | refine VO.cons ?_ | (refine VO.gTake (hg := ?_) (h := ?_); (first | with_reducible rfl | with_reducible exact Bool.not_true | with_reducible exact Bool.not_false | decide)) | (refine VO.gSkipT (hg := ?_) (h := ?_); (first | with_reducible rfl | with_reducible exact Bool.not_true | with_reducible exact Bool.not_false | decide)) | (refine VO.gSkipF (hg := ?_) (h := ?_); (first | with_reducible rfl | with_reducible exact Bool.not_true | with_reducible exact Bool.not_false | decide)) | (guard_target =~ VO _ _ _ _ _ (⟨_, _, _, _, _, some _⟩ :: _) _ _; refine VO.gSkipUn (h := ?_)) | (refine VO.gsD (h1 := ?_) (h2 := ?_) <;> intro _ <;> try (exfalso; omega)) | (refine VO.gsN (h1 := ?_) (h2 := ?_) <;> intro _ <;> try (exfalso; omega)) | (refine VO.gsNB (h1 := ?_) (h2 := ?_) <;> intro _ <;> try (exfalso; omega)) | (refine VO.gsB (h1 := ?_) (h2 := ?_) <;> intro _ <;> try (exfalso; omega))) | (guard_target =~ VX _ _ _ _ _ _; first | (guard_target =~ VX _ _ _ ⟨_, Go.Op.call _, _, _, _, _⟩ _ _; first | (guard_target =~ VX _ _ _ ⟨_, Go.Op.call ⟨Go.Callee.value (Go.Operand.func 46), _, _⟩, _, _, _, _⟩ _ _; first | refine VX.call (hc := fun w hw => Index0_c) (h := ?_)) | refine VX.lenS (h := ?_) | refine VX.lenStr (h := ?_) | refine VX.min2 (h := ?_) | refine VX.max2 (h := ?_)) | (guard_target =~ VX _ _ _ ⟨_, Go.Op.move _, _, _, _, _⟩ _ _; first | refine VX.move (h := ?_)) | (guard_target =~ VX _ _ _ ⟨_, Go.Op.assign _, _, _, _, _⟩ _ _; first | refine VX.assign (h := ?_)) | (guard_target =~ VX _ _ _ ⟨_, Go.Op.load _ _, _, _, _, _⟩ _ _; first | refine VX.load1 (h := ?_) | refine VX.loadA (h := ?_) | refine VX.loadF1 (h := ?_) | refine VX.loadFA (h := ?_)) | (guard_target =~ VX _ _ _ ⟨_, Go.Op.fieldAddr _ _ _, _, _, _, _⟩ _ _; first | refine VX.fieldN (h := ?_) | refine VX.fieldF (h := ?_) | refine VX.fieldO (h := ?_) | refine VX.fieldG (h := ?_)) | (guard_target =~ VX _ _ _ ⟨_, Go.Op.extract _ _, _, _, _, _⟩ _ _; first | refine VX.extract (h := ?_)) | (guard_target =~ VX _ _ _ ⟨_, Go.Op.pick _ _ _, _, _, _, _⟩ _ _; first | refine VX.pick (h := ?_)) | (guard_target =~ VX _ _ _ ⟨_, Go.Op.binOp _ _ _ _ _, _, _, _, _⟩ _ _; first | refine VX.add64 (h := ?_) | refine VX.sub64 (h := ?_) | refine VX.mul64 (h := ?_) | refine VX.bin (h := ?_) | refine VX.eqNilI (h := ?_) | refine VX.eqNilJ (h := ?_) | refine VX.neNilI (h := ?_) | refine VX.neNilJ (h := ?_) | refine VX.eqNilS (h := ?_) | refine VX.eqStr (h := ?_) | refine VX.neStr (h := ?_) | refine VX.eqBool (h := ?_) | refine VX.neBool (h := ?_) | refine VX.eqA (h := ?_) | refine VX.neA (h := ?_)) | (guard_target =~ VX _ _ _ ⟨_, Go.Op.unOp _ _ _, _, _, _, _⟩ _ _; first | refine VX.not (h := ?_)) | (guard_target =~ VX _ _ _ ⟨_, Go.Op.store _ _ _, _, _, _, _⟩ _ _; first | refine VX.store1 (h := ?_) | refine VX.storeA (h := ?_)) | (guard_target =~ VX _ _ _ ⟨_, Go.Op.indexAddr _ _ _, _, _, _, _⟩ _ _; first | refine VX.idxF (h := ?_)) | (guard_target =~ VX _ _ _ ⟨_, Go.Op.makeInterface _ _, _, _, _, _⟩ _ _; first | refine VX.mkIface (h := ?_)) | (guard_target =~ VX _ _ _ ⟨_, Go.Op.box _ _, _, _, _, _⟩ _ _; first | refine VX.box1 (h := fun _ => ?_) | refine VX.boxA (h := fun _ => ?_)) | (guard_target =~ VX _ _ _ ⟨_, Go.Op.alloc _, _, _, _, _⟩ _ _; first | refine VX.alloc1 (h := fun _ => ?_) | refine VX.allocA (h := fun _ => ?_)) | (guard_target =~ VX _ _ _ ⟨_, Go.Op.buildSlice _ _ _, _, _, _, _⟩ _ _; first | refine VX.lit0 (h := fun _ => ?_) | refine VX.lit (h := fun _ => ?_)) | (guard_target =~ VX _ _ _ ⟨_, Go.Op.build _ _, _, _, _, _⟩ _ _; first | refine VX.build (h := ?_)) | (guard_target =~ VX _ _ _ ⟨_, Go.Op.field _ _ _, _, _, _, _⟩ _ _; first | refine VX.field (h := ?_)) | (guard_target =~ VX _ _ _ ⟨_, Go.Op.nilCheck _, _, _, _, _⟩ _ _; first | refine VX.nilCheck (h := ?_))) | (guard_target =~ V _ _ _ _ _ _ _; first | with_reducible refine V.seq ?_ | with_reducible refine V.region ?_ | with_reducible refine V.skip ?_ | with_reducible refine V.exit ?_ | with_reducible refine V.block ?_ | (guard_target =~ V _ _ _ _ Go.Code.ret _ _; first | refine V.retV (he := ?_) | refine V.retP (h := fun w hw hb => ?_)) | (guard_target =~ V _ _ _ _ (Go.Code.cond _ _ _) _ _; first | (refine V.condT (hg := ?_) (h := ?_); (first | with_reducible rfl | with_reducible exact Bool.not_true | with_reducible exact Bool.not_false | decide)) | (refine V.condF (hg := ?_) (h := ?_); (first | with_reducible rfl | with_reducible exact Bool.not_true | with_reducible exact Bool.not_false | decide)) | (refine V.condD (h1 := ?_) (h2 := ?_) <;> intro _ <;> try (exfalso; omega)) | (refine V.condN (h1 := ?_) (h2 := ?_) <;> intro _ <;> try (exfalso; omega)) | (refine V.condNB (h1 := ?_) (h2 := ?_) <;> intro _ <;> try (exfalso; omega)) | (refine V.condB (h1 := ?_) (h2 := ?_) <;> intro _ <;> try (exfalso; omega)))) | (guard_target =~ VP _ _ _ _ _ _ _ _ _; first | with_reducible refine VP.done ?_ | with_reducible refine VP.all ?_ | refine VP.u (h := ?_) | refine VP.l (h := ?_)) | (guard_target =~ VPs _ _ _ _ _ _ _ _ _; first | exact True.intro | (refine VPs.cons (o := ?_) (g := ?_) (ho := ?_) (hg := ?_) (hgr := ?_) (h := ?_) ?_; rotate_left 2; rfl; rfl; rfl)) | with_reducible refine thenQ_normal ?_ | with_reducible refine thenQ_exit ?_ | with_reducible refine blockQ_normal ?_ | with_reducible refine blockQ_hit ?_ | (guard_target =~ blockQ _ _ _ _; refine blockQ_miss (h := ?_)) | with_reducible refine loopQ_exit ?_)
  all_goals rfl
theorem index_mem (l : List UInt8) (c : UInt8) : 0 ≤ Lib.indexByte l c ↔ c ∈ l := by
  induction l with
  | nil => simp [Lib.indexByte]
  | cons b l ih =>
    have hg := Lib.indexByte_ge l c
    unfold Lib.indexByte
    by_cases h : b = c
    · subst h
      simp
    · have h1 : (b == c) = false := by simpa using h
      rw [if_neg (by simp [h1])]
      have h3 : c ∈ b :: l ↔ c ∈ l := by simp [List.mem_cons, Ne.symm h]
      rw [h3, ← ih]
      split
      · rename_i h2
        have : Lib.indexByte l c = -1 := by simpa using h2
        omega
      · rename_i h2
        have : ¬ Lib.indexByte l c = -1 := by simpa using h2
        omega
def errV (e : Int) : Value := if e = 0 then .nilIface else .iface 55 (.int .i64 e)
theorem ask_c {w : World} {s : ByteArray} (hs : s.size ≤ 9223372036854775807) (hT : Tabs w (Low w)) : Calls Tryd.prog 36 #[.string s] w (Ret w (errV (checkS s.data.toList))) := by
  refine calls_start (vs := [.string s]) Tryd.func36 rfl Tryd.ntmps36 rfl ?_
  have hl := bytes_len s
  have hu := utf_valid s.data.toList
  have hi := index_mem s.data.toList 0
  unfold checkS
  repeat' (first | (guard_target =~ VO _ _ _ _ _ _ _ _; first | with_reducible refine VO.nil ?_ | refine VO.cons ?_ | (refine VO.gTake (hg := ?_) (h := ?_); (first | with_reducible rfl | with_reducible exact Bool.not_true | with_reducible exact Bool.not_false | decide)) | (refine VO.gSkipT (hg := ?_) (h := ?_); (first | with_reducible rfl | with_reducible exact Bool.not_true | with_reducible exact Bool.not_false | decide)) | (refine VO.gSkipF (hg := ?_) (h := ?_); (first | with_reducible rfl | with_reducible exact Bool.not_true | with_reducible exact Bool.not_false | decide)) | (guard_target =~ VO _ _ _ _ _ (⟨_, _, _, _, _, some _⟩ :: _) _ _; refine VO.gSkipUn (h := ?_)) | (refine VO.gsD (h1 := ?_) (h2 := ?_) <;> intro _ <;> try (exfalso; omega)) | (refine VO.gsN (h1 := ?_) (h2 := ?_) <;> intro _ <;> try (exfalso; omega)) | (refine VO.gsNB (h1 := ?_) (h2 := ?_) <;> intro _ <;> try (exfalso; omega)) | (refine VO.gsB (h1 := ?_) (h2 := ?_) <;> intro _ <;> try (exfalso; omega))) | (guard_target =~ VX _ _ _ _ _ _; first | (guard_target =~ VX _ _ _ ⟨_, Go.Op.call _, _, _, _, _⟩ _ _; first | (guard_target =~ VX _ _ _ ⟨_, Go.Op.call ⟨Go.Callee.value (Go.Operand.func 39), _, _⟩, _, _, _, _⟩ _ _; first | (refine VX.call (v := .bool (Lib.validD s.data.toList)) (hc := fun w hw => Valid_c hs ⟨hw.vl hT.first, hw.vl hT.acc⟩) (h := ?_); rcases hv : Lib.validD s.data.toList with _ | _)) | (guard_target =~ VX _ _ _ ⟨_, Go.Op.call ⟨Go.Callee.value (Go.Operand.func 40), _, _⟩, _, _, _, _⟩ _ _; first | refine VX.call (hc := fun w hw => Index_c) (h := ?_)) | refine VX.lenS (h := ?_) | refine VX.lenStr (h := ?_) | refine VX.min2 (h := ?_) | refine VX.max2 (h := ?_)) | (guard_target =~ VX _ _ _ ⟨_, Go.Op.move _, _, _, _, _⟩ _ _; first | refine VX.move (h := ?_)) | (guard_target =~ VX _ _ _ ⟨_, Go.Op.assign _, _, _, _, _⟩ _ _; first | refine VX.assign (h := ?_)) | (guard_target =~ VX _ _ _ ⟨_, Go.Op.load _ _, _, _, _, _⟩ _ _; first | refine VX.load1 (h := ?_) | refine VX.loadA (h := ?_) | refine VX.loadF1 (h := ?_) | refine VX.loadFA (h := ?_)) | (guard_target =~ VX _ _ _ ⟨_, Go.Op.fieldAddr _ _ _, _, _, _, _⟩ _ _; first | refine VX.fieldN (h := ?_) | refine VX.fieldF (h := ?_) | refine VX.fieldO (h := ?_) | refine VX.fieldG (h := ?_)) | (guard_target =~ VX _ _ _ ⟨_, Go.Op.extract _ _, _, _, _, _⟩ _ _; first | refine VX.extract (h := ?_)) | (guard_target =~ VX _ _ _ ⟨_, Go.Op.pick _ _ _, _, _, _, _⟩ _ _; first | refine VX.pick (h := ?_)) | (guard_target =~ VX _ _ _ ⟨_, Go.Op.binOp _ _ _ _ _, _, _, _, _⟩ _ _; first | refine VX.add64 (h := ?_) | refine VX.sub64 (h := ?_) | refine VX.mul64 (h := ?_) | refine VX.bin (h := ?_) | refine VX.eqNilI (h := ?_) | refine VX.eqNilJ (h := ?_) | refine VX.neNilI (h := ?_) | refine VX.neNilJ (h := ?_) | refine VX.eqNilS (h := ?_) | refine VX.eqStr (h := ?_) | refine VX.neStr (h := ?_) | refine VX.eqBool (h := ?_) | refine VX.neBool (h := ?_) | refine VX.eqA (h := ?_) | refine VX.neA (h := ?_)) | (guard_target =~ VX _ _ _ ⟨_, Go.Op.unOp _ _ _, _, _, _, _⟩ _ _; first | refine VX.not (h := ?_)) | (guard_target =~ VX _ _ _ ⟨_, Go.Op.store _ _ _, _, _, _, _⟩ _ _; first | refine VX.store1 (h := ?_) | refine VX.storeA (h := ?_)) | (guard_target =~ VX _ _ _ ⟨_, Go.Op.indexAddr _ _ _, _, _, _, _⟩ _ _; first | refine VX.idxF (h := ?_)) | (guard_target =~ VX _ _ _ ⟨_, Go.Op.makeInterface _ _, _, _, _, _⟩ _ _; first | refine VX.mkIface (h := ?_)) | (guard_target =~ VX _ _ _ ⟨_, Go.Op.box _ _, _, _, _, _⟩ _ _; first | refine VX.box1 (h := fun _ => ?_) | refine VX.boxA (h := fun _ => ?_)) | (guard_target =~ VX _ _ _ ⟨_, Go.Op.alloc _, _, _, _, _⟩ _ _; first | refine VX.alloc1 (h := fun _ => ?_) | refine VX.allocA (h := fun _ => ?_)) | (guard_target =~ VX _ _ _ ⟨_, Go.Op.buildSlice _ _ _, _, _, _, _⟩ _ _; first | refine VX.lit0 (h := fun _ => ?_) | refine VX.lit (h := fun _ => ?_)) | (guard_target =~ VX _ _ _ ⟨_, Go.Op.build _ _, _, _, _, _⟩ _ _; first | refine VX.build (h := ?_)) | (guard_target =~ VX _ _ _ ⟨_, Go.Op.field _ _ _, _, _, _, _⟩ _ _; first | refine VX.field (h := ?_)) | (guard_target =~ VX _ _ _ ⟨_, Go.Op.nilCheck _, _, _, _, _⟩ _ _; first | refine VX.nilCheck (h := ?_))) | (guard_target =~ V _ _ _ _ _ _ _; first | with_reducible refine V.seq ?_ | with_reducible refine V.region ?_ | with_reducible refine V.skip ?_ | with_reducible refine V.exit ?_ | with_reducible refine V.block ?_ | (guard_target =~ V _ _ _ _ Go.Code.ret _ _; first | refine V.retV (he := ?_) | refine V.retP (h := fun w hw hb => ?_)) | (guard_target =~ V _ _ _ _ (Go.Code.cond _ _ _) _ _; first | (refine V.condT (hg := ?_) (h := ?_); (first | with_reducible rfl | with_reducible exact Bool.not_true | with_reducible exact Bool.not_false | decide)) | (refine V.condF (hg := ?_) (h := ?_); (first | with_reducible rfl | with_reducible exact Bool.not_true | with_reducible exact Bool.not_false | decide)) | (refine V.condD (h1 := ?_) (h2 := ?_) <;> intro _ <;> try (exfalso; omega)) | (refine V.condN (h1 := ?_) (h2 := ?_) <;> intro _ <;> try (exfalso; omega)) | (refine V.condNB (h1 := ?_) (h2 := ?_) <;> intro _ <;> try (exfalso; omega)) | (refine V.condB (h1 := ?_) (h2 := ?_) <;> intro _ <;> try (exfalso; omega)))) | (guard_target =~ VP _ _ _ _ _ _ _ _ _; first | with_reducible refine VP.done ?_ | with_reducible refine VP.all ?_ | refine VP.u (h := ?_) | refine VP.l (h := ?_)) | (guard_target =~ VPs _ _ _ _ _ _ _ _ _; first | exact True.intro | (refine VPs.cons (o := ?_) (g := ?_) (ho := ?_) (hg := ?_) (hgr := ?_) (h := ?_) ?_; rotate_left 2; rfl; rfl; rfl)) | with_reducible refine thenQ_normal ?_ | with_reducible refine thenQ_exit ?_ | with_reducible refine blockQ_normal ?_ | with_reducible refine blockQ_hit ?_ | (guard_target =~ blockQ _ _ _ _; refine blockQ_miss (h := ?_)) | with_reducible refine loopQ_exit ?_)
  · rw [if_pos (by rw [hu, hv]; rfl)]
    rfl
  · rename_i h
    have h0 : (0 : UInt8) ∈ s.data.toList := hi.1 h
    rw [if_pos (by rw [hu, hv]; simpa using h0)]
    rfl
  · rename_i h h2
    have h0 : ¬ (0 : UInt8) ∈ s.data.toList := fun e => h (hi.2 e)
    rw [if_neg (by rw [hu, hv]; simpa using h0), if_pos (by omega)]
    rfl
  · rename_i h h2
    have h0 : ¬ (0 : UInt8) ∈ s.data.toList := fun e => h (hi.2 e)
    rw [if_neg (by rw [hu, hv]; simpa using h0), if_neg (by omega)]
    rfl
end Go.Tx
