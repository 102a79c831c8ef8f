/-
  Vg, part P: numbers without a sign: bits, shifts, conversions; an array's and a slice's elements by an index.
-/
import Derived.Test.YtlidjmchohkhcaaDoorVgO
set_option linter.unusedVariables false
set_option linter.unusedSimpArgs false
set_option linter.unusedSectionVars false
namespace Go.Vg
open Go.RowKit

/-- What a kind of numbers holds from 0 on. -/
def expN : IntKind → Nat
  | .u8 => 8 | .u16 => 16 | .u32 => 32 | .u64 => 64 | .i8 => 7 | .i16 => 15 | .i32 => 31 | .i64 => 63
def topN (k : IntKind) : Nat := 2 ^ expN k
theorem topN_u8 : topN .u8 = 256 := rfl
theorem topN_u16 : topN .u16 = 65536 := rfl
theorem topN_u32 : topN .u32 = 4294967296 := rfl
theorem topN_u64 : topN .u64 = 18446744073709551616 := rfl
theorem topN_i64 : topN .i64 = 9223372036854775808 := rfl
theorem topN_i32 : topN .i32 = 2147483648 := rfl
theorem expN_le (k : IntKind) : expN k ≤ k.bits := by cases k <;> decide
theorem wrapN {k : IntKind} {a : Nat} (h : a < topN k) : k.wrap (a : Int) = a := by
  cases k <;> simp only [topN, expN] at h <;> simp only [IntKind.wrap, IntKind.bits, IntKind.signed, Bool.true_and, Bool.false_and] <;>
    first
    | (split
       · rename_i h2
         have h2 := of_decide_eq_true h2
         omega
       · omega)
    | (simp; omega)
theorem wrapM {k : IntKind} {a : Nat} (hs : k.signed = false) : k.wrap (a : Int) = ((a % topN k : Nat) : Int) := by
  cases k <;> simp [IntKind.signed] at hs <;> simp [IntKind.wrap, IntKind.bits, IntKind.signed, topN, expN]
theorem lt_bits {k : IntKind} {a : Nat} (h : a < topN k) : a < 2 ^ k.bits := Nat.lt_of_lt_of_le h (Nat.pow_le_pow_right (by decide) (expN_le k))
theorem bv_toNat {k : IntKind} {a : Nat} (h : a < topN k) : (BitVec.ofInt k.bits (a : Int)).toNat = a := by
  rw [BitVec.ofInt_natCast, BitVec.toNat_ofNat, Nat.mod_eq_of_lt (lt_bits h)]
theorem ibits_xor {k : IntKind} {a b : Nat} (ha : a < topN k) (hb : b < topN k) : ibits .xor k a b = ((a ^^^ b : Nat) : Int) := by
  simp only [ibits, BitVec.toNat_xor, bv_toNat ha, bv_toNat hb]
  exact wrapN (Nat.xor_lt_two_pow ha hb)
theorem ibits_or {k : IntKind} {a b : Nat} (ha : a < topN k) (hb : b < topN k) : ibits .or k a b = ((a ||| b : Nat) : Int) := by
  simp only [ibits, BitVec.toNat_or, bv_toNat ha, bv_toNat hb]
  exact wrapN (Nat.or_lt_two_pow ha hb)
theorem ibits_and {k : IntKind} {a b : Nat} (ha : a < topN k) (hb : b < topN k) : ibits .and k a b = ((a &&& b : Nat) : Int) := by
  simp only [ibits, BitVec.toNat_and, bv_toNat ha, bv_toNat hb]
  exact wrapN (Nat.and_lt_two_pow _ hb)

section
variable {P : Program} [HasTab P] {n : Nat} {K : St → Prop} {md : M} {gd : Option (Nat × Bool)}
variable {tm : Tm} {bx bx' : List Bx} {rw rw' : List Rw} {ck ck' : List (World × (Nat → Prop))}
variable {d : Tmp} {ty t e : TypeId} {pos : String} {af : Array Edge} {x y z : Operand} {v u : Value}
theorem VX.xorN {k : IntKind} {a b : Nat} {t' : TypeId} (hx : ev tm x = some (.int k (a : Int)) := by rfl) (hy : ev tm y = some (.int k (b : Int)) := by rfl) (ha : a < topN k := by simp only [topN, expN]; omega) (hb : b < topN k := by simp only [topN, expN]; omega) (hd : Nat.blt d n = true := by rfl)
    (h : K ⟨(d, .int k ((a ^^^ b : Nat) : Int)) :: tm, bx, rw, ck⟩) : VX P n md ⟨some d, .binOp .xor t x y t', ty, pos, af, gd⟩ ⟨tm, bx, rw, ck⟩ K :=
  VX.bin hx hy (by rw [ibin, ibits_xor ha hb]) hd h
theorem VX.orN {k : IntKind} {a b : Nat} {t' : TypeId} (hx : ev tm x = some (.int k (a : Int)) := by rfl) (hy : ev tm y = some (.int k (b : Int)) := by rfl) (ha : a < topN k := by simp only [topN, expN]; omega) (hb : b < topN k := by simp only [topN, expN]; omega) (hd : Nat.blt d n = true := by rfl)
    (h : K ⟨(d, .int k ((a ||| b : Nat) : Int)) :: tm, bx, rw, ck⟩) : VX P n md ⟨some d, .binOp .or t x y t', ty, pos, af, gd⟩ ⟨tm, bx, rw, ck⟩ K :=
  VX.bin hx hy (by rw [ibin, ibits_or ha hb]) hd h
theorem VX.andN {k : IntKind} {a b : Nat} {t' : TypeId} (hx : ev tm x = some (.int k (a : Int)) := by rfl) (hy : ev tm y = some (.int k (b : Int)) := by rfl) (ha : a < topN k := by simp only [topN, expN]; omega) (hb : b < topN k := by simp only [topN, expN]; omega) (hd : Nat.blt d n = true := by rfl)
    (h : K ⟨(d, .int k ((a &&& b : Nat) : Int)) :: tm, bx, rw, ck⟩) : VX P n md ⟨some d, .binOp .and t x y t', ty, pos, af, gd⟩ ⟨tm, bx, rw, ck⟩ K :=
  VX.bin hx hy (by rw [ibin, ibits_and ha hb]) hd h
theorem VX.shlM {k k' : IntKind} {a b : Nat} {t' : TypeId} (hx : ev tm x = some (.int k (a : Int)) := by rfl) (hy : ev tm y = some (.int k' (b : Int)) := by rfl) (hs : k.signed = false := by rfl) (hb : Nat.ble b k.bits = true := by rfl) (hd : Nat.blt d n = true := by rfl)
    (h : K ⟨(d, .int k ((a * 2 ^ b % topN k : Nat) : Int)) :: tm, bx, rw, ck⟩) : VX P n md ⟨some d, .binOp .shl t x y t', ty, pos, af, gd⟩ ⟨tm, bx, rw, ck⟩ K :=
  VX.shl hx hy (by omega) hd (by
    rw [Int.toNat_natCast, Nat.min_eq_left (Nat.le_of_ble_eq_true hb), show (a : Int) * 2 ^ b = ((a * 2 ^ b : Nat) : Int) by simp, wrapM hs]
    exact h)
theorem VX.shlN {k k' : IntKind} {a b : Nat} {t' : TypeId} (hx : ev tm x = some (.int k (a : Int)) := by rfl) (hy : ev tm y = some (.int k' (b : Int)) := by rfl) (hb : b ≤ k.bits := by simp only [IntKind.bits]; omega) (ha : a * 2 ^ b < topN k := by simp only [topN, expN]; omega) (hd : Nat.blt d n = true := by rfl)
    (h : K ⟨(d, .int k ((a * 2 ^ b : Nat) : Int)) :: tm, bx, rw, ck⟩) : VX P n md ⟨some d, .binOp .shl t x y t', ty, pos, af, gd⟩ ⟨tm, bx, rw, ck⟩ K :=
  VX.shl hx hy (by omega) hd (by
    rw [Int.toNat_natCast, Nat.min_eq_left hb, show (a : Int) * 2 ^ b = ((a * 2 ^ b : Nat) : Int) by simp, wrapN ha]
    exact h)
theorem VX.shrN {k k' : IntKind} {a b : Nat} {t' : TypeId} (hx : ev tm x = some (.int k (a : Int)) := by rfl) (hy : ev tm y = some (.int k' (b : Int)) := by rfl) (hb : b ≤ k.bits := by simp only [IntKind.bits]; omega) (hd : Nat.blt d n = true := by rfl)
    (h : K ⟨(d, .int k ((a / 2 ^ b : Nat) : Int)) :: tm, bx, rw, ck⟩) : VX P n md ⟨some d, .binOp .shr t x y t', ty, pos, af, gd⟩ ⟨tm, bx, rw, ck⟩ K :=
  VX.shr hx hy (by omega) hd (by
    have : (a : Int).fdiv (2 ^ b) = ((a / 2 ^ b : Nat) : Int) := by
      rw [Int.fdiv_eq_ediv_of_nonneg _ (by exact Int.le_of_lt (Int.pow_pos (by decide)))]
      simp
    rw [Int.toNat_natCast, Nat.min_eq_left hb, this]
    exact h)
theorem VX.remN {k : IntKind} {a b : Nat} {t' : TypeId} (hx : ev tm x = some (.int k (a : Int)) := by rfl) (hy : ev tm y = some (.int k (b : Int)) := by rfl) (hb : b ≠ 0 := by first | decide | omega) (hd : Nat.blt d n = true := by rfl)
    (h : K ⟨(d, .int k ((a % b : Nat) : Int)) :: tm, bx, rw, ck⟩) : VX P n md ⟨some d, .binOp .rem t x y t', ty, pos, af, gd⟩ ⟨tm, bx, rw, ck⟩ K :=
  VX.rem hx hy (by omega) hd (by rw [show (a : Int).tmod b = ((a % b : Nat) : Int) from rfl]; exact h)
theorem run_cv {w : World} {i : TI} {s : TypeId} {k k' : IntKind} {a : Int} {s0 b0 : Nat} {z0 : Value} (hs : Ty P s i) (ht : Ty P t ⟨.int k, s0, b0, z0⟩) : (convert s t (.int k' a)).run P w = .ok (.int k (k.wrap a)) w := by
  have h1 := hs.run_und w
  have h2 := ht.run_und w
  obtain ⟨dd, s1, s2, s3⟩ := i
  simp only [convert, Sem.run_bind, h1, h2, Result.andThen_ok]
  cases dd <;> simp [Conv.intToInt]
theorem VX.cv {i : TI} {s : TypeId} {k k' : IntKind} {a : Int} {s0 b0 : Nat} {z0 : Value} (hx : ev tm x = some (.int k' a) := by rfl) (hs : Ty P s i := by rfl) (ht : Ty P t ⟨.int k, s0, b0, z0⟩ := by rfl) (hd : Nat.blt d n = true := by rfl)
    (h : K ⟨(d, .int k (k.wrap a)) :: tm, bx, rw, ck⟩) : VX P n md ⟨some d, .convert s t x, ty, pos, af, gd⟩ ⟨tm, bx, rw, ck⟩ K :=
  VX.valU (fun _ hi w => by simp [execOp, hi.ev hx, run_cv hs ht]) hd h
theorem VX.cvN {i : TI} {s : TypeId} {k k' : IntKind} {a : Nat} {s0 b0 : Nat} {z0 : Value} (hx : ev tm x = some (.int k' (a : Int)) := by rfl) (hs : Ty P s i := by rfl) (ht : Ty P t ⟨.int k, s0, b0, z0⟩ := by rfl) (ha : a < topN k := by simp only [topN, expN]; omega) (hd : Nat.blt d n = true := by rfl)
    (h : K ⟨(d, .int k (a : Int)) :: tm, bx, rw, ck⟩) : VX P n md ⟨some d, .convert s t x, ty, pos, af, gd⟩ ⟨tm, bx, rw, ck⟩ K :=
  VX.cv hx hs ht hd (by rw [wrapN ha]; exact h)
theorem VX.cvM {i : TI} {s : TypeId} {k k' : IntKind} {a : Nat} {s0 b0 : Nat} {z0 : Value} (hx : ev tm x = some (.int k' (a : Int)) := by rfl) (hs : Ty P s i := by rfl) (ht : Ty P t ⟨.int k, s0, b0, z0⟩ := by rfl) (hk : k.signed = false := by rfl) (hd : Nat.blt d n = true := by rfl)
    (h : K ⟨(d, .int k ((a % topN k : Nat) : Int)) :: tm, bx, rw, ck⟩) : VX P n md ⟨some d, .convert s t x, ty, pos, af, gd⟩ ⟨tm, bx, rw, ck⟩ K :=
  VX.cv hx hs ht hd (by rw [wrapM hk]; exact h)
/-- '^x' without a sign. -/
def notU (k : IntKind) (a : Nat) : Nat := (topN k - 1) ^^^ a

theorem VX.notN {k : IntKind} {a : Nat} (hx : ev tm x = some (.int k (a : Int)) := by rfl) (hk : k.signed = false := by rfl) (ha : a < topN k := by simp only [topN, expN]; omega) (hd : Nat.blt d n = true := by rfl)
    (h : K ⟨(d, .int k ((notU k a : Nat) : Int)) :: tm, bx, rw, ck⟩) : VX P n md ⟨some d, .unOp .xor t x, ty, pos, af, gd⟩ ⟨tm, bx, rw, ck⟩ K :=
  VX.valU (fun _ hi w => by
    have hm : k.max = ((topN k - 1 : Nat) : Int) := by cases k <;> first | rfl | cases hk
    have h1 := ibits_xor (k := k) (a := topN k - 1) (b := a) (by have : 0 < topN k := Nat.two_pow_pos _; omega) ha
    simp only [ibits] at h1
    simp only [execOp, hi.ev hx, Op.unary, hk, hm, Op.intBits, Bool.false_eq_true, if_false, h1]
    simp [notU]) hd h

/-! ### Arrays in boxes, by an index -/
theorem VX.idxArr {b off m k : Nat} {j : Int} {ik : IntKind} {i : TI} {s0 b0 : Nat} {z0 : Value} (hx : ev tm x = some (.pointer (some ⟨b, off, none⟩)) := by rfl) (hy : ev tm y = some (.int ik j) := by rfl) (ht : Ty P t ⟨.array m e, s0, b0, z0⟩ := by rfl) (he : Ty P e i := by rfl)
    (hk : j = ((k : Nat) : Int) := by first | rfl | exact (Int.toNat_of_nonneg (by omega)).symm) (hlt : k < m := by omega) (hd : Nat.blt d n = true := by rfl)
    (h : K ⟨(d, .pointer (some ⟨b, off + k * i.size, none⟩)) :: tm, bx, rw, ck⟩) : VX P n md ⟨some d, .indexAddr t x y, ty, pos, af, gd⟩ ⟨tm, bx, rw, ck⟩ K :=
  VX.valU (fun a hi w => by
    subst hk
    have h1 := ht.run_und w
    have h2 := he.run_size w
    simp [execOp, Instr.indexAt, Instr.sureAddr, asIntOf, hi.ev hx, hi.ev hy, h1, h2, hlt, add_none]) hd h
theorem VX.idxArr1 {b off m k : Nat} {j : Int} {ik : IntKind} {i : TI} {s0 b0 : Nat} {z0 : Value} (hx : ev tm x = some (.pointer (some ⟨b, off, none⟩)) := by rfl) (hy : ev tm y = some (.int ik j) := by rfl) (ht : Ty P t ⟨.array m e, s0, b0, z0⟩ := by rfl) (he : Ty P e i := by rfl) (hs : Nat.beq i.size 1 = true := by rfl)
    (hk : j = ((k : Nat) : Int) := by first | rfl | exact (Int.toNat_of_nonneg (by omega)).symm) (hlt : k < m := by omega) (hd : Nat.blt d n = true := by rfl)
    (h : K ⟨(d, .pointer (some ⟨b, off + k, none⟩)) :: tm, bx, rw, ck⟩) : VX P n md ⟨some d, .indexAddr t x y, ty, pos, af, gd⟩ ⟨tm, bx, rw, ck⟩ K :=
  VX.idxArr hx hy ht he hk hlt hd (by rw [Nat.eq_of_beq_eq_true hs, Nat.mul_one]; exact h)
theorem VX.loadI {b off : Nat} {cs : List Value} {i : TI} (hm : md.sees = true := by rfl) (hx : ev tm x = some (.pointer (some ⟨b, off, none⟩)) := by rfl) (hb : BxAt bx b cs e := by ((repeat' (guard_target =~ BxAt _ _ _ _; first | exact BxAt.head | refine' BxAt.tail _)); fail_if_success refine ?_)) (ht : Ty P t i := by rfl)
    (hg : isAggD i.d = false := by rfl) (hv : cs[off]? = some v) (hd : Nat.blt d n = true := by rfl)
    (h : K ⟨(d, v) :: tm, bx, rw, ck⟩) : VX P n md ⟨some d, .load t x, ty, pos, af, gd⟩ ⟨tm, bx, rw, ck⟩ K := VX.load1 hm hx hb ht hg hv hd h
theorem csPut_set : ∀ {cs : List Value} {off : Nat} {v : Value}, off < cs.length → CsPut cs off [v] (cs.set off v)
  | _ :: _, 0, _, _ => CsPut.take CsPut.nil
  | _ :: _, _ + 1, _, h => CsPut.drop (csPut_set (by simpa using h))
theorem VX.storeI {b off : Nat} {cs : List Value} {i : TI} (hx : ev tm x = some (.pointer (some ⟨b, off, none⟩)) := by rfl) (hy : ev tm y = some v := by rfl) (ht : Ty P t i := by rfl)
    (hl : Nat.beq i.size 1 = true := by rfl) (hv : plainV v = true := by first | rfl | assumption)
    (hb0 : BxAt bx b cs e := by ((repeat' (guard_target =~ BxAt _ _ _ _; first | exact BxAt.head | refine' BxAt.tail _)); fail_if_success refine ?_)) (hlt : off < cs.length) (hb : BxSet bx b cs e (cs.set off v) bx' := by ((repeat' (guard_target =~ BxSet _ _ _ _ _ _; first | exact BxSet.head | refine' BxSet.tail _)); fail_if_success refine ?_))
    (h : K ⟨tm, bx', rw, ck⟩) : VX P n (.x false) ⟨none, .store t x y, ty, pos, af, gd⟩ ⟨tm, bx, rw, ck⟩ K :=
  VX.store1 hx hy ht hl hv hb0 (csPut_set hlt) hb h
end
end Go.Vg
