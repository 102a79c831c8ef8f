/-
  Texts' bytes, in plain lists, further: texts side by side, and what a text's own bytes are read as.
-/
import Derived.Test.YtchdmhpfppdohaaDoorX9
set_option linter.unusedVariables false
namespace Go.Tx
theorem point_more {n n' b0 b1 b2 b3 c1 c2 c3 : Nat} (h : pointN n b0 b1 b2 b3 ≠ 0) (hn : n ≤ n') (h1 : 1 < n → c1 = b1) (h2 : 2 < n → c2 = b2) (h3 : 3 < n → c3 = b3) : pointN n' b0 c1 c2 c3 = pointN n b0 b1 b2 b3 := by
  unfold pointN at h ⊢
  by_cases d1 : 248 ≤ b0
  · rw [if_pos d1] at h
    exact absurd rfl h
  rw [if_neg d1] at h ⊢
  rw [if_neg d1]
  by_cases d2 : 240 ≤ b0
  · rw [if_pos d2] at h ⊢
    rw [if_pos d2]
    by_cases d : n < 4 ∨ b1 / 64 ≠ 2 ∨ b2 / 64 ≠ 2 ∨ b3 / 64 ≠ 2
    · rw [if_pos d] at h
      exact absurd rfl h
    · have e1 := h1 (by omega)
      have e2 := h2 (by omega)
      have e3 := h3 (by omega)
      subst e1 e2 e3
      rw [if_neg d, if_neg (by omega)]
  rw [if_neg d2] at h ⊢
  rw [if_neg d2]
  by_cases d3 : 224 ≤ b0
  · rw [if_pos d3] at h ⊢
    rw [if_pos d3]
    by_cases d : n < 3 ∨ b1 / 64 ≠ 2 ∨ b2 / 64 ≠ 2
    · rw [if_pos d] at h
      exact absurd rfl h
    · have e1 := h1 (by omega)
      have e2 := h2 (by omega)
      subst e1 e2
      rw [if_neg d, if_neg (by omega)]
  rw [if_neg d3] at h ⊢
  rw [if_neg d3]
  by_cases d4 : 192 ≤ b0
  · rw [if_pos d4] at h ⊢
    rw [if_pos d4]
    by_cases d : n < 2 ∨ b1 / 64 ≠ 2
    · rw [if_pos d] at h
      exact absurd rfl h
    · have e1 := h1 (by omega)
      subst e1
      rw [if_neg d, if_neg (by omega)]
  rw [if_neg d4] at h ⊢
  rw [if_neg d4]
theorem getD_app {l x : List UInt8} {i : Nat} (h : i < l.length) : (l ++ x).getD i 0 = l.getD i 0 := by
  rw [List.getD_eq_getElem?_getD, List.getD_eq_getElem?_getD, List.getElem?_append_left h]
theorem point_app {l x : List UInt8} (hl : l ≠ []) (h : pointS l ≠ 0) : pointS (l ++ x) = pointS l := by
  have h0 : 0 < l.length := List.length_pos_iff.2 hl
  unfold pointS at h ⊢
  rw [getD_app h0]
  exact point_more h (by simp) (fun h => by rw [getD_app h]) (fun h => by rw [getD_app h]) (fun h => by rw [getD_app h])
theorem utf_app {x : List UInt8} (hx : utf x = true) : ∀ (n : Nat) (l : List UInt8), l.length ≤ n → utf l = true → utf (l ++ x) = true
  | 0, l, hn, h => by
    have : l = [] := List.eq_nil_of_length_eq_zero (by omega)
    subst this
    exact hx
  | n + 1, l, hn, h => by
    by_cases hl : l = []
    · subst hl
      exact hx
    · have h0 : 0 < l.length := List.length_pos_iff.2 hl
      rw [utf_step hl] at h
      by_cases hp : pointS l = 0
      · rw [if_pos hp] at h
        cases h
      · rw [if_neg hp] at h
        have hle := pointS_le (l := l) h0
        rw [utf_step (by simp [hl]), point_app hl hp, if_neg hp, List.drop_append_of_le_length hle]
        exact utf_app hx n _ (by rw [List.length_drop]; omega) h
theorem check_0 {l : List UInt8} (h : checkS l = 0) : utf l = true ∧ l.length ≤ 65535 := by
  refine ⟨?_, check_len h⟩
  rw [check_eq] at h
  cases hu : utf l with
  | true => rfl
  | false =>
    rw [hu] at h
    simp at h
theorem check_app {l x : List UInt8} (h : checkS l = 0) (hx : checkS x = 0) (hn : l.length + x.length ≤ 65535) : checkS (l ++ x) = 0 := by
  rw [check_eq, utf_app (check_0 hx).1 _ l (Nat.le_refl _) (check_0 h).1, if_neg (by decide), if_neg (by rw [List.length_append]; omega)]
theorem lenS_bin {l : List UInt8} (x : List UInt8) (h : l.length ≤ 65535) : lenS (binS l ++ x) = l.length := by
  unfold lenS
  simp only [binS, List.cons_append, List.getD_cons_zero, List.getD_cons_succ]
  rw [UInt8.toNat_ofNat', UInt8.toNat_ofNat']
  omega
theorem getBin_bin {l : List UInt8} (x : List UInt8) (h : l.length ≤ 65535) : getBinS (binS l ++ x) = .ok (l, 2 + l.length) := by
  unfold getBinS
  rw [lenS_bin x h, if_neg (by rw [List.length_append, bin_len]; omega)]
  simp [binS]
theorem getText_bin {l : List UInt8} (x : List UInt8) (h : checkS l = 0) : getTextS (binS l ++ x) = .ok (l, 2 + l.length) := by
  unfold getTextS
  rw [getBin_bin x (check_0 h).2]
  dsimp only
  rw [if_pos (check_0 h).1]
theorem getBin_short {l : List UInt8} {k : Nat} (h : l.length ≤ 65535) (hk : k < 2 + l.length) : getBinS ((binS l).take k) = .error 3 := by
  have hb := bin_len l
  unfold getBinS
  rw [if_pos]
  rcases Nat.lt_or_ge k 2 with h2 | h2
  · exact .inl (by rw [List.length_take]; omega)
  · refine .inr ?_
    have : lenS ((binS l).take k) = lenS (binS l ++ []) := by
      unfold lenS
      rw [List.append_nil]
      have g : ∀ i, i < 2 → ((binS l).take k).getD i 0 = (binS l).getD i 0 := fun i hi => by
        rw [List.getD_eq_getElem?_getD, List.getD_eq_getElem?_getD, List.getElem?_take_of_lt (by omega)]
      rw [g 0 (by omega), g 1 (by omega)]
    rw [this, lenS_bin _ h, List.length_take]
    omega
theorem getText_short {l : List UInt8} {k : Nat} (h : l.length ≤ 65535) (hk : k < 2 + l.length) : getTextS ((binS l).take k) = .error 3 := by
  unfold getTextS
  rw [getBin_short h hk]
end Go.Tx
