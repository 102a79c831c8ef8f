/-
  Sums of bytes, bit by bit and by a table; what a turned bit does.
-/
import Derived.Test.YtchdmhpfppdohaaRnd
import Derived.Test.YtchdmhpfppdohaaVgP
set_option linter.unusedVariables false
namespace Go.Crc
open Go.Rnd

def bitC (c : Nat) : Nat := if c % 2 = 1 then c / 2 ^^^ 3988292384 else c / 2
def stepK : Nat → Nat → Nat
  | 0, c => c
  | k + 1, c => stepK k (bitC c)
def stepC (c : Nat) : Nat := stepK 8 c
theorem lin_bit : Lin bitC := fun a b => by
  have hd : (a ^^^ b) / 2 = a / 2 ^^^ b / 2 := lin_shr 1 a b
  simp only [bitC, hd, mod2_xor]
  rcases Nat.mod_two_eq_zero_or_one a with ha | ha <;> rcases Nat.mod_two_eq_zero_or_one b with hb | hb <;> simp only [ha, hb]
  · simp
  · simp [Nat.xor_assoc]
  · simp only [Nat.xor_zero, if_true]
    rw [if_neg (by decide), Nat.xor_assoc, Nat.xor_assoc, Nat.xor_comm (b / 2)]
  · simp only [Nat.xor_self, if_true]
    rw [if_neg (by decide), xor4, Nat.xor_self, Nat.xor_zero]
theorem lin_stepK : ∀ k, Lin (stepK k)
  | 0 => lin_id
  | k + 1 => lin_comp (f := stepK k) (lin_stepK k) lin_bit
theorem lin_stepC : Lin stepC := lin_stepK 8
theorem bit_lt {c : Nat} (h : c < 2 ^ 32) : bitC c < 2 ^ 32 := by
  unfold bitC
  split
  · exact Nat.xor_lt_two_pow (by omega) (by decide)
  · omega
theorem stepK_lt : ∀ (k : Nat) {c : Nat}, c < 2 ^ 32 → stepK k c < 2 ^ 32
  | 0, _, h => h
  | k + 1, _, h => stepK_lt k (bit_lt h)
theorem stepC_lt {c : Nat} (h : c < 2 ^ 32) : stepC c < 2 ^ 32 := stepK_lt 8 h
theorem bit_inj0 {c : Nat} (h : c < 2 ^ 32) (h0 : bitC c = 0) : c = 0 := by
  unfold bitC at h0
  split at h0
  · have h1 : c / 2 ^^^ (c / 2 ^^^ 3988292384) = c / 2 := by rw [h0, Nat.xor_zero]
    rw [← Nat.xor_assoc, Nat.xor_self, Nat.zero_xor] at h1
    omega
  · omega
theorem stepK_inj0 : ∀ (k : Nat) {c : Nat}, c < 2 ^ 32 → stepK k c = 0 → c = 0
  | 0, _, _, h => h
  | k + 1, _, h, h0 => bit_inj0 h (stepK_inj0 k (bit_lt h) h0)
theorem xor_eq0 {a b : Nat} (h : a ^^^ b = 0) : a = b := by
  have h2 : a ^^^ (a ^^^ b) = a := by rw [h, Nat.xor_zero]
  rw [← Nat.xor_assoc, Nat.xor_self, Nat.zero_xor] at h2
  exact h2.symm
theorem stepC_inj {a b : Nat} (ha : a < 2 ^ 32) (hb : b < 2 ^ 32) (h : stepC a = stepC b) : a = b :=
  xor_eq0 (stepK_inj0 8 (Nat.xor_lt_two_pow ha hb) (by rw [lin_stepK, show stepK 8 a = stepK 8 b from h, Nat.xor_self]))
theorem bit_even (y : Nat) : bitC (2 * y) = y := by
  unfold bitC
  rw [if_neg (by omega)]
  omega
theorem stepK_shift : ∀ (k y : Nat), stepK k (2 ^ k * y) = y
  | 0, y => by simp [stepK]
  | k + 1, y => by
    rw [stepK, show 2 ^ (k + 1) * y = 2 * (2 ^ k * y) by rw [Nat.pow_succ]; simp [Nat.mul_comm, Nat.mul_left_comm], bit_even]
    exact stepK_shift k y
theorem split8 (s : Nat) : s = 2 ^ 8 * (s / 2 ^ 8) ^^^ s % 2 ^ 8 := by
  apply Nat.eq_of_testBit_eq
  intro i
  rw [Nat.testBit_xor, Nat.testBit_mod_two_pow, Nat.testBit_two_pow_mul, Nat.testBit_div_two_pow]
  by_cases h : i < 8
  · have : ¬ 8 ≤ i := by omega
    simp [h, this]
  · have h2 : 8 ≤ i := by omega
    simp [h, h2]
/-- A byte more, by the table. -/
theorem step_table (s c : Nat) : stepC (s ^^^ c) = s / 2 ^ 8 ^^^ stepC (s % 2 ^ 8 ^^^ c) := by
  conv => lhs; rw [split8 s]
  rw [Nat.xor_assoc, lin_stepC]
  congr 1
  exact stepK_shift 8 _

/-- Bytes one behind the other, upon a state. -/
def runC : Nat → List UInt8 → Nat
  | s, [] => s
  | s, b :: bs => runC (stepC (s ^^^ b.toNat)) bs
abbrev inv32 (s : Nat) : Nat := Go.Vg.notU .u32 s
def sumC (s : Nat) (bs : List UInt8) : Nat := inv32 (runC (inv32 s) bs)
theorem xor_xor (a s : Nat) : a ^^^ (a ^^^ s) = s := by
  rw [← Nat.xor_assoc, Nat.xor_self, Nat.zero_xor]
theorem xor_right {a b c : Nat} (h : a ^^^ c = b ^^^ c) : a = b := by
  have h1 : (a ^^^ c) ^^^ c = (b ^^^ c) ^^^ c := by rw [h]
  rwa [Nat.xor_assoc, Nat.xor_assoc, Nat.xor_self, Nat.xor_zero, Nat.xor_zero] at h1
theorem xor_left {a b c : Nat} (h : c ^^^ a = c ^^^ b) : a = b := by
  rw [Nat.xor_comm c, Nat.xor_comm c] at h
  exact xor_right h
theorem inv_inv (s : Nat) : inv32 (inv32 s) = s := xor_xor (Go.Vg.topN .u32 - 1) s
theorem inv_lt {s : Nat} (h : s < 2 ^ 32) : inv32 s < 2 ^ 32 := Nat.xor_lt_two_pow (by decide) h
theorem byte_lt (b : UInt8) : b.toNat < 2 ^ 32 := Nat.lt_of_lt_of_le (UInt8.toNat_lt b) (by decide)
theorem runC_lt : ∀ (bs : List UInt8) {s : Nat}, s < 2 ^ 32 → runC s bs < 2 ^ 32
  | [], _, h => h
  | b :: bs, _, h => runC_lt bs (stepC_lt (Nat.xor_lt_two_pow h (byte_lt b)))
theorem sumC_lt {s : Nat} {bs : List UInt8} (h : s < 2 ^ 32) : sumC s bs < 2 ^ 32 := inv_lt (runC_lt bs (inv_lt h))
theorem runC_append (as bs : List UInt8) : ∀ s, runC s (as ++ bs) = runC (runC s as) bs := by
  induction as with
  | nil => intro s; rfl
  | cons a as ih => intro s; exact ih _
theorem sum_parts (s : Nat) (as bs : List UInt8) : sumC (sumC s as) bs = sumC s (as ++ bs) := by
  unfold sumC
  rw [inv_inv, runC_append]
theorem sum_nil (s : Nat) : sumC s [] = s := inv_inv s
theorem runC_inj : ∀ (bs : List UInt8) {s t : Nat}, s < 2 ^ 32 → t < 2 ^ 32 → runC s bs = runC t bs → s = t
  | [], _, _, _, _, h => h
  | b :: bs, s, t, hs, ht, h => by
    have h1 := runC_inj bs (stepC_lt (Nat.xor_lt_two_pow hs (byte_lt b))) (stepC_lt (Nat.xor_lt_two_pow ht (byte_lt b))) h
    have h2 := stepC_inj (Nat.xor_lt_two_pow hs (byte_lt b)) (Nat.xor_lt_two_pow ht (byte_lt b)) h1
    exact xor_right h2
/-- Another byte, another sum. -/
theorem run_turned {s : Nat} (hs : s < 2 ^ 32) (pre post : List UInt8) (a c : UInt8) (h : runC s (pre ++ c :: post) = runC s (pre ++ a :: post)) : c = a := by
  rw [runC_append, runC_append] at h
  have hk : runC s pre < 2 ^ 32 := runC_lt pre hs
  generalize runC s pre = k at h hk
  have h1 : runC (stepC (k ^^^ c.toNat)) post = runC (stepC (k ^^^ a.toNat)) post := h
  have h2 := runC_inj post (stepC_lt (Nat.xor_lt_two_pow hk (byte_lt c))) (stepC_lt (Nat.xor_lt_two_pow hk (byte_lt a))) h1
  have h3 := stepC_inj (Nat.xor_lt_two_pow hk (byte_lt c)) (Nat.xor_lt_two_pow hk (byte_lt a)) h2
  exact UInt8.toNat_inj.1 (xor_left h3)
theorem sum_turned {s : Nat} (hs : s < 2 ^ 32) (bs : List UInt8) (j : Nat) (hj : j < bs.length) (c : UInt8) (h : sumC s (bs.set j c) = sumC s bs) : c = bs[j] := by
  have h1 : inv32 (sumC s (bs.set j c)) = inv32 (sumC s bs) := by rw [h]
  have e0 : ∀ l, inv32 (sumC s l) = runC (inv32 s) l := fun l => inv_inv _
  rw [e0, e0] at h1
  have e1 : bs.take j ++ bs[j] :: bs.drop (j + 1) = bs := by simp
  have e2 : bs.set j c = bs.take j ++ c :: bs.drop (j + 1) := by rw [List.set_eq_take_append_cons_drop, if_pos hj]
  rw [e2] at h1
  exact run_turned (inv_lt hs) (bs.take j) (bs.drop (j + 1)) bs[j] c (h1.trans (congrArg (runC (inv32 s)) e1.symm))
theorem wakes_sum : sumC 0 [49, 50, 51, 52, 53, 54, 55, 56, 57] = 3421780262 := by kernel_rfl
end Go.Crc
