/-
  Numbers of 1 to 4 bytes, in plain lists.
-/
import Derived.Test.YtchdmhpfppdohaaDoorVgR
set_option linter.unusedVariables false
namespace Go.Vi
open Go.Vg

/-- A number's bytes. -/
def putK : Nat → Nat → List UInt8
  | 0, n => [UInt8.ofNat n]
  | k + 1, n => if n < 128 then [UInt8.ofNat n] else UInt8.ofNat (n % 128 + 128) :: putK k (n / 128)
def putV (n : Nat) : List UInt8 := putK 3 n
def valV : List UInt8 → Nat
  | [] => 0
  | b :: bs => b.toNat % 128 + 128 * valV bs
/-- How many bytes the number has with which bytes begin. -/
def scanV : Nat → List UInt8 → Except Int Nat
  | 0, _ => .error 1
  | _ + 1, [] => .error 3
  | f + 1, b :: bs => if b.toNat < 128 then .ok 1 else (scanV f bs).map (· + 1)
def lastZ (b : List UInt8) (k : Nat) : Bool := decide (1 < k ∧ (b.getD (k - 1) 1).toNat = 0)
def getV (b : List UInt8) : Except Int (Nat × Nat) :=
  match scanV 4 b with
  | .error e => .error e
  | .ok k => if lastZ b k then .error 1 else .ok (valV (b.take k), k)

theorem scan_skip : ∀ (k f : Nat) (b : List UInt8), k ≤ b.length → (∀ j (h : j < b.length), j < k → 128 ≤ b[j].toNat) → scanV (f + k) b = (scanV f (b.drop k)).map (· + k)
  | 0, f, b, _, _ => by
    simp only [Nat.add_zero, List.drop_zero]
    cases scanV f b <;> rfl
  | k + 1, f, [], h, _ => absurd h (by simp)
  | k + 1, f, b :: bs, h, ha => by
    have h0 := ha 0 (by simp) (by omega)
    simp only [List.getElem_cons_zero] at h0
    have ih := scan_skip k f bs (by simpa using h) (fun j hj hk => by
      have h := ha (j + 1) (by simp only [List.length_cons]; omega) (by omega)
      rw [List.getElem_cons_succ] at h
      exact h)
    rw [show f + (k + 1) = (f + k) + 1 by omega, scanV, if_neg (by omega), ih, List.drop_succ_cons]
    cases scanV f (bs.drop k) with
    | error e => rfl
    | ok v => show Except.ok _ = Except.ok _; congr 1
theorem scan_ok : ∀ (f : Nat) (b : List UInt8) (k : Nat), scanV f b = .ok k → 1 ≤ k ∧ k ≤ f ∧ k ≤ b.length ∧ (∀ (h : k - 1 < b.length), b[k - 1].toNat < 128) ∧ ∀ j (h : j < b.length), j + 1 < k → 128 ≤ b[j].toNat
  | 0, _, k, h => by cases h
  | f + 1, [], k, h => by cases h
  | f + 1, b :: bs, k, h => by
    simp only [scanV] at h
    split at h
    · cases h
      exact ⟨Nat.le_refl _, by omega, by simp, fun _ => by simpa using ‹b.toNat < 128›, fun j _ hj => by omega⟩
    · rename_i hb
      rcases hs : scanV f bs with e | v
      · rw [hs] at h; cases h
      · rw [hs] at h
        have h : v + 1 = k := by cases h; rfl
        subst h
        obtain ⟨h1, h2, h3, h4, h5⟩ := scan_ok f bs v hs
        refine ⟨by omega, by omega, by simpa using h3, fun hh => ?_, fun j hj hk => ?_⟩
        · obtain ⟨u, rfl⟩ : ∃ u, v = u + 1 := ⟨v - 1, by omega⟩
          have := h4 (by simpa using hh)
          simpa using this
        · rcases j with _ | j
          · simp only [List.getElem_cons_zero]; omega
          · simpa using h5 j (by simpa using hj) (by omega)
theorem val_lt : ∀ (k : Nat) (b : List UInt8), b.length = k → valV b < 128 ^ k
  | 0, [], _ => by decide
  | 0, _ :: _, h => by simp at h
  | k + 1, [], h => by simp at h
  | k + 1, b :: bs, h => by
    have := val_lt k bs (by simpa using h)
    simp only [valV, Nat.pow_succ]
    omega
theorem putK_len : ∀ (k n : Nat), 1 ≤ (putK k n).length ∧ (putK k n).length ≤ k + 1
  | 0, n => by simp [putK]
  | k + 1, n => by
    have := putK_len k (n / 128)
    simp only [putK]
    split <;> simp <;> omega
theorem toNat_ofNat8 {n : Nat} (h : n < 256) : (UInt8.ofNat n).toNat = n := by
  rw [UInt8.toNat_ofNat']
  omega
/-- What is told is read, whatever stands behind. -/
theorem putK_back : ∀ (k n : Nat) (r : List UInt8), n < 128 ^ (k + 1) → scanV (k + 1) (putK k n ++ r) = .ok (putK k n).length ∧ valV (putK k n) = n ∧ lastZ (putK k n ++ r) (putK k n).length = false
  | 0, n, r, h => by
    have hn : n < 128 := by simpa using h
    have h1 : (UInt8.ofNat n).toNat = n := toNat_ofNat8 (by omega)
    refine ⟨?_, ?_, by simp [putK, lastZ]⟩
    · simp only [putK, List.cons_append, List.nil_append, scanV, h1, if_pos hn, List.length_cons, List.length_nil]
    · simp only [putK, valV, h1]
      omega
  | k + 1, n, r, h => by
    simp only [putK]
    split
    · rename_i hn
      have h1 : (UInt8.ofNat n).toNat = n := toNat_ofNat8 (by omega)
      refine ⟨?_, ?_, by simp [lastZ]⟩
      · simp only [List.cons_append, List.nil_append, scanV, h1, if_pos hn, List.length_cons, List.length_nil]
      · simp only [valV, h1]
        omega
    · rename_i hn
      have hq : n / 128 < 128 ^ (k + 1) := by
        rw [Nat.div_lt_iff_lt_mul (by decide)]
        rw [Nat.pow_succ] at h
        exact h
      obtain ⟨i1, i2, i3⟩ := putK_back k (n / 128) r hq
      have h1 : (UInt8.ofNat (n % 128 + 128)).toNat = n % 128 + 128 := toNat_ofNat8 (by omega)
      have hl := putK_len k (n / 128)
      refine ⟨?_, ?_, ?_⟩
      · rw [List.cons_append, scanV, h1, if_neg (by omega), i1]
        rfl
      · simp only [valV, h1, i2]
        omega
      · simp only [lastZ, List.length_cons, List.cons_append, decide_eq_false_iff_not] at i3 ⊢
        obtain ⟨u, hu⟩ : ∃ u, (putK k (n / 128)).length = u + 1 := ⟨(putK k (n / 128)).length - 1, by omega⟩
        rw [hu] at i3 ⊢
        simp only [Nat.add_sub_cancel, List.getD_cons_succ] at i3 ⊢
        rcases Nat.eq_zero_or_pos u with h0 | h0
        · subst h0
          -- one byte behind: it is n / 128, not 0
          have : ∃ c, putK k (n / 128) = [c] := List.length_eq_one_iff.1 hu
          obtain ⟨c, hc⟩ := this
          rw [hc] at i2 ⊢
          simp only [valV] at i2
          simp only [List.cons_append, List.getD_cons_zero]
          omega
        · intro hz
          exact i3 ⟨by omega, hz.2⟩
theorem get_put {n : Nat} (r : List UInt8) (h : n < 268435456) : getV (putV n ++ r) = .ok (n, (putV n).length) := by
  obtain ⟨h1, h2, h3⟩ := putK_back 3 n r (by simpa using h)
  unfold getV putV
  rw [h1]
  simp only [h3]
  rw [List.take_left, h2]
  rfl
/-- .. what is read is told so. -/
theorem put_take : ∀ (f : Nat) (b : List UInt8) (k : Nat), scanV (f + 1) b = .ok k → lastZ b k = false → valV (b.take k) < 128 ^ (f + 1) ∧ putK f (valV (b.take k)) = b.take k ∧ (1 < k → 128 ≤ valV (b.take k))
  | f, [], k, h, _ => by simp [scanV] at h
  | 0, b :: bs, k, h, _ => by
    simp only [scanV] at h
    split at h
    · rename_i hb
      cases h
      refine ⟨?_, ?_, fun h => by omega⟩
      · simp only [List.take_succ_cons, List.take_zero, valV]; omega
      · simp only [List.take_succ_cons, List.take_zero, valV, putK]
        have : b.toNat % 128 + 128 * 0 = b.toNat := by omega
        rw [this, UInt8.ofNat_toNat]
    · cases h
  | f + 1, b :: bs, k, h, hz => by
    rw [scanV] at h
    split at h
    · rename_i hb
      cases h
      refine ⟨?_, ?_, fun h => by omega⟩
      · have : 0 < 128 ^ (f + 1) := Nat.pow_pos (by decide)
        simp only [List.take_succ_cons, List.take_zero, valV, Nat.pow_succ] at this ⊢
        omega
      · simp only [List.take_succ_cons, List.take_zero, valV, putK]
        have : b.toNat % 128 + 128 * 0 = b.toNat := by omega
        rw [this, if_pos hb, UInt8.ofNat_toNat]
    · rename_i hb
      rcases hs : scanV (f + 1) bs with e | v
      · rw [hs] at h; cases h
      · rw [hs] at h
        have h : v + 1 = k := by cases h; rfl
        subst h
        obtain ⟨h1, h2, h3, h4, h5⟩ := scan_ok _ _ _ hs
        have hz' : lastZ bs v = false := by
          simp only [lastZ, decide_eq_false_iff_not] at hz ⊢
          obtain ⟨u, rfl⟩ : ∃ u, v = u + 1 := ⟨v - 1, by omega⟩
          simp only [Nat.add_sub_cancel, List.getD_cons_succ] at hz ⊢
          intro hh
          exact hz ⟨by omega, hh.2⟩
        obtain ⟨i1, i2, i3⟩ := put_take f bs v hs hz'
        have hb' : b.toNat < 256 := UInt8.toNat_lt b
        have hv : 1 ≤ valV (bs.take v) := by
          by_cases hv1 : 1 < v
          · have := i3 hv1; omega
          · obtain rfl : v = 1 := by omega
            obtain ⟨c, cs, rfl⟩ : ∃ c cs, bs = c :: cs := List.exists_cons_of_ne_nil (by intro e; subst e; simp at h3)
            have h6 := h4 (by simp)
            simp only [lastZ, decide_eq_false_iff_not] at hz
            simp at hz h6
            simp only [List.take_succ_cons, List.take_zero, valV]
            have h7 : c.toNat ≠ 0 := fun e => hz e
            omega
        have e1 : (b.toNat % 128 + 128 * valV (bs.take v)) / 128 = valV (bs.take v) := by omega
        have e2 : (b.toNat % 128 + 128 * valV (bs.take v)) % 128 = b.toNat % 128 := by omega
        refine ⟨?_, ?_, fun _ => ?_⟩
        · simp only [List.take_succ_cons, valV]
          have := i1
          rw [Nat.pow_succ]
          omega
        · simp only [List.take_succ_cons, valV, putK]
          rw [if_neg (by omega), e1, e2, i2]
          congr 1
          rw [show b.toNat % 128 + 128 = b.toNat by omega, UInt8.ofNat_toNat]
        · simp only [List.take_succ_cons, valV]
          omega
theorem put_get {b : List UInt8} {n k : Nat} (h : getV b = .ok (n, k)) : n < 268435456 ∧ 1 ≤ k ∧ k ≤ 4 ∧ k ≤ b.length ∧ putV n = b.take k := by
  unfold getV at h
  rcases hs : scanV 4 b with e | v
  · rw [hs] at h; cases h
  · rw [hs] at h
    dsimp only at h
    split at h
    · cases h
    · rename_i hz
      cases h
      obtain ⟨h1, h2, h3, _, _⟩ := scan_ok _ _ _ hs
      obtain ⟨i1, i2, _⟩ := put_take 3 b _ hs (by simpa using hz)
      exact ⟨by simpa using i1, h1, h2, h3, i2⟩
/-- A beginning is short. -/
theorem scan_short : ∀ (f : Nat) (b : List UInt8) (k j : Nat), scanV f b = .ok k → j < k → scanV f (b.take j) = .error 3
  | 0, _, _, _, h, _ => by cases h
  | f + 1, [], _, _, h, _ => by cases h
  | f + 1, b :: bs, k, 0, h, _ => rfl
  | f + 1, b :: bs, k, j + 1, h, hj => by
    rw [scanV] at h
    split at h
    · cases h; omega
    · rename_i hb
      rcases hs : scanV f bs with e | v
      · rw [hs] at h; cases h
      · rw [hs] at h
        have h : v + 1 = k := by cases h; rfl
        rw [List.take_succ_cons, scanV, if_neg hb, scan_short f bs v j hs (by omega)]
        rfl
theorem get_short {n j : Nat} (h : n < 268435456) (hj : j < (putV n).length) : getV ((putV n).take j) = .error 3 := by
  obtain ⟨h1, _, _⟩ := putK_back 3 n [] (by simpa using h)
  rw [List.append_nil] at h1
  unfold getV
  rw [show scanV 4 ((putV n).take j) = .error 3 from scan_short 4 _ _ j h1 hj]
/-- A greater number has no fewer bytes. -/
theorem putK_mono : ∀ (k a b : Nat), a ≤ b → (putK k a).length ≤ (putK k b).length
  | 0, _, _, _ => by simp [putK]
  | k + 1, a, b, h => by
    have ih := putK_mono k (a / 128) (b / 128) (Nat.div_le_div_right h)
    have := putK_len k (b / 128)
    simp only [putK]
    split <;> split <;> simp <;> omega
theorem put_mono {a b : Nat} (h : a ≤ b) : (putV a).length ≤ (putV b).length := putK_mono 3 a b h
end Go.Vi
