/-
  Texts' bytes, in plain lists.
-/
import Derived.Test.YtchdmhpfppdohaaDoorViSpec
import Derived.Lib.ValidLaws
set_option linter.unusedVariables false
namespace Go.Tx
open Go.Lib

def chk (p least n : Nat) : Nat := if p < least ∨ 1114111 < p ∨ (55296 ≤ p ∧ p ≤ 57343) then 0 else n
/-- How many bytes the code point has with which bytes begin; 0: none that may be. -/
def pointN (n b0 b1 b2 b3 : Nat) : Nat :=
  if 248 ≤ b0 then 0
  else if 240 ≤ b0 then (if n < 4 ∨ b1 / 64 ≠ 2 ∨ b2 / 64 ≠ 2 ∨ b3 / 64 ≠ 2 then 0 else chk (b0 % 8 * 262144 + b1 % 64 * 4096 + b2 % 64 * 64 + b3 % 64) 65536 4)
  else if 224 ≤ b0 then (if n < 3 ∨ b1 / 64 ≠ 2 ∨ b2 / 64 ≠ 2 then 0 else chk (b0 % 16 * 4096 + b1 % 64 * 64 + b2 % 64) 2048 3)
  else if 192 ≤ b0 then (if n < 2 ∨ b1 / 64 ≠ 2 then 0 else chk (b0 % 32 * 64 + b1 % 64) 128 2)
  else if 128 ≤ b0 then 0
  else chk b0 1 1
def pointS (l : List UInt8) : Nat := pointN l.length (l.getD 0 0).toNat (l.getD 1 0).toNat (l.getD 2 0).toNat (l.getD 3 0).toNat
def utfS : Nat → List UInt8 → Bool
  | 0, _ => true
  | f + 1, l => if l = [] then true else if pointS l = 0 then false else utfS f (l.drop (pointS l))
/-- A text, but for its length. -/
def utf (l : List UInt8) : Bool := utfS l.length l

theorem pd_bad {p n b0 b1 b2 b3 : Nat} (hd : decodeN n b0 b1 b2 b3 = (65533, 1)) (hp : p = 0) : p = if b0 = 0 ∨ ((decodeN n b0 b1 b2 b3).1 = 65533 ∧ (decodeN n b0 b1 b2 b3).2 = 1) then 0 else (decodeN n b0 b1 b2 b3).2 := by
  rw [hd, hp, if_pos (.inr ⟨rfl, rfl⟩)]
theorem pd_ok {p n b0 b1 b2 b3 v k : Nat} (hd : decodeN n b0 b1 b2 b3 = (v, k)) (hp : p = k) (h : b0 ≠ 0 ∧ (v ≠ 65533 ∨ k ≠ 1)) : p = if b0 = 0 ∨ ((decodeN n b0 b1 b2 b3).1 = 65533 ∧ (decodeN n b0 b1 b2 b3).2 = 1) then 0 else (decodeN n b0 b1 b2 b3).2 := by
  rw [hd, hp, if_neg (by dsimp only; omega)]
theorem chk_no {p least n : Nat} (h : p < least ∨ 1114111 < p ∨ (55296 ≤ p ∧ p ≤ 57343)) : chk p least n = 0 := if_pos h
theorem chk_ok {p least n : Nat} (h : ¬ (p < least ∨ 1114111 < p ∨ (55296 ≤ p ∧ p ≤ 57343))) : chk p least n = n := if_neg h
theorem point_decode (n b0 b1 b2 b3 : Nat) (hn : 1 ≤ n) (h0 : b0 < 256) :
    pointN n b0 b1 b2 b3 = if b0 = 0 ∨ ((decodeN n b0 b1 b2 b3).1 = 65533 ∧ (decodeN n b0 b1 b2 b3).2 = 1) then 0 else (decodeN n b0 b1 b2 b3).2 := by
  by_cases c1 : b0 < 128
  · have hd : decodeN n b0 b1 b2 b3 = (b0, 1) := by unfold decodeN; rw [if_pos c1]
    have hp : pointN n b0 b1 b2 b3 = chk b0 1 1 := by unfold pointN; rw [if_neg (by omega), if_neg (by omega), if_neg (by omega), if_neg (by omega), if_neg (by omega)]
    by_cases c2 : b0 = 0
    · rw [hd, hp, chk_no (by omega), if_pos (.inl c2)]
    · exact pd_ok hd (by rw [hp, chk_ok (by omega)]) ⟨c2, .inl (by omega)⟩
  · by_cases c2 : b0 < 192
    · exact pd_bad (by unfold decodeN; rw [if_neg c1, if_neg (by omega), if_neg (by omega), if_neg (by omega)]) (by unfold pointN; rw [if_neg (by omega), if_neg (by omega), if_neg (by omega), if_neg (by omega), if_pos (by omega)])
    · by_cases c3 : b0 < 224
      · have hp : pointN n b0 b1 b2 b3 = if n < 2 ∨ b1 / 64 ≠ 2 then 0 else chk (b0 % 32 * 64 + b1 % 64) 128 2 := by unfold pointN; rw [if_neg (by omega), if_neg (by omega), if_neg (by omega), if_pos (by omega)]
        rw [hp]
        by_cases c : 1 < n ∧ b1 / 64 = 2
        · by_cases d : b0 % 32 * 64 + b1 % 64 ≥ 128
          · exact pd_ok (v := b0 % 32 * 64 + b1 % 64) (k := 2) (by unfold decodeN; rw [if_neg c1, if_pos ⟨by omega, c⟩, if_pos d]) (by rw [if_neg (by omega), chk_ok (by omega)]) ⟨by omega, .inr (by decide)⟩
          · exact pd_bad (by unfold decodeN; rw [if_neg c1, if_pos ⟨by omega, c⟩, if_neg d]) (by rw [if_neg (by omega), chk_no (by omega)])
        · exact pd_bad (by unfold decodeN; rw [if_neg c1, if_neg (fun h => c h.2), if_neg (by omega), if_neg (by omega)]) (by rw [if_pos (by omega)])
      · by_cases c4 : b0 < 240
        · have hp : pointN n b0 b1 b2 b3 = if n < 3 ∨ b1 / 64 ≠ 2 ∨ b2 / 64 ≠ 2 then 0 else chk (b0 % 16 * 4096 + b1 % 64 * 64 + b2 % 64) 2048 3 := by unfold pointN; rw [if_neg (by omega), if_neg (by omega), if_pos (by omega)]
          rw [hp]
          by_cases c : (1 < n ∧ b1 / 64 = 2) ∧ (2 < n ∧ b2 / 64 = 2)
          · by_cases d : b0 % 16 * 4096 + b1 % 64 * 64 + b2 % 64 ≥ 2048 ∧ (b0 % 16 * 4096 + b1 % 64 * 64 + b2 % 64 < 55296 ∨ (57344 ≤ b0 % 16 * 4096 + b1 % 64 * 64 + b2 % 64 ∧ b0 % 16 * 4096 + b1 % 64 * 64 + b2 % 64 ≤ 1114111))
            · exact pd_ok (v := b0 % 16 * 4096 + b1 % 64 * 64 + b2 % 64) (k := 3) (by unfold decodeN; rw [if_neg c1, if_neg (by omega), if_pos ⟨by omega, c⟩, if_pos d]) (by rw [if_neg (by omega), chk_ok (by omega)]) ⟨by omega, .inr (by decide)⟩
            · exact pd_bad (by unfold decodeN; rw [if_neg c1, if_neg (by omega), if_pos ⟨by omega, c⟩, if_neg d]) (by rw [if_neg (by omega), chk_no (by omega)])
          · exact pd_bad (by unfold decodeN; rw [if_neg c1, if_neg (by omega), if_neg (fun h => c h.2), if_neg (by omega)]) (by rw [if_pos (by omega)])
        · by_cases c5 : b0 < 248
          · have hp : pointN n b0 b1 b2 b3 = if n < 4 ∨ b1 / 64 ≠ 2 ∨ b2 / 64 ≠ 2 ∨ b3 / 64 ≠ 2 then 0 else chk (b0 % 8 * 262144 + b1 % 64 * 4096 + b2 % 64 * 64 + b3 % 64) 65536 4 := by unfold pointN; rw [if_neg (by omega), if_pos (by omega)]
            rw [hp]
            by_cases c : (1 < n ∧ b1 / 64 = 2) ∧ (2 < n ∧ b2 / 64 = 2) ∧ (3 < n ∧ b3 / 64 = 2)
            · by_cases d : b0 % 8 * 262144 + b1 % 64 * 4096 + b2 % 64 * 64 + b3 % 64 ≥ 65536 ∧ (b0 % 8 * 262144 + b1 % 64 * 4096 + b2 % 64 * 64 + b3 % 64 < 55296 ∨ (57344 ≤ b0 % 8 * 262144 + b1 % 64 * 4096 + b2 % 64 * 64 + b3 % 64 ∧ b0 % 8 * 262144 + b1 % 64 * 4096 + b2 % 64 * 64 + b3 % 64 ≤ 1114111))
              · exact pd_ok (v := b0 % 8 * 262144 + b1 % 64 * 4096 + b2 % 64 * 64 + b3 % 64) (k := 4) (by unfold decodeN; rw [if_neg c1, if_neg (by omega), if_neg (by omega), if_pos ⟨by omega, c⟩, if_pos d]) (by rw [if_neg (by omega), chk_ok (by omega)]) ⟨by omega, .inr (by decide)⟩
              · exact pd_bad (by unfold decodeN; rw [if_neg c1, if_neg (by omega), if_neg (by omega), if_pos ⟨by omega, c⟩, if_neg d]) (by rw [if_neg (by omega), chk_no (by omega)])
            · exact pd_bad (by unfold decodeN; rw [if_neg c1, if_neg (by omega), if_neg (by omega), if_neg (fun h => c h.2)]) (by rw [if_pos (by omega)])
          · exact pd_bad (by unfold decodeN; rw [if_neg c1, if_neg (by omega), if_neg (by omega), if_neg (by omega)]) (by unfold pointN; rw [if_pos (by omega)])
theorem point_le (l : List UInt8) : pointS l ≤ 4 := by
  have hc : ∀ p least n, n ≤ 4 → chk p least n ≤ 4 := fun p least n h => by unfold chk; split <;> omega
  unfold pointS pointN
  repeat' split
  all_goals first | omega | exact hc _ _ _ (by omega)
theorem chk_or (p least n : Nat) : chk p least n = 0 ∨ chk p least n = n := by unfold chk; split <;> simp
theorem point_nz {n b0 b1 b2 b3 : Nat} (hn : 1 ≤ n) (h : pointN n b0 b1 b2 b3 ≠ 0) :
    pointN n b0 b1 b2 b3 ≤ n ∧ b0 ≠ 0 ∧ (2 ≤ pointN n b0 b1 b2 b3 → b1 ≠ 0) ∧ (3 ≤ pointN n b0 b1 b2 b3 → b2 ≠ 0) ∧ (4 ≤ pointN n b0 b1 b2 b3 → b3 ≠ 0) := by
  unfold pointN at h ⊢
  by_cases c1 : 248 ≤ b0
  · rw [if_pos c1] at h
    exact absurd rfl h
  rw [if_neg c1] at h ⊢
  by_cases c2 : 240 ≤ b0
  · rw [if_pos c2] at h ⊢
    by_cases d : n < 4 ∨ b1 / 64 ≠ 2 ∨ b2 / 64 ≠ 2 ∨ b3 / 64 ≠ 2
    · rw [if_pos d] at h
      exact absurd rfl h
    · rw [if_neg d] at h ⊢
      have := chk_or (b0 % 8 * 262144 + b1 % 64 * 4096 + b2 % 64 * 64 + b3 % 64) 65536 4
      omega
  rw [if_neg c2] at h ⊢
  by_cases c3 : 224 ≤ b0
  · rw [if_pos c3] at h ⊢
    by_cases d : n < 3 ∨ b1 / 64 ≠ 2 ∨ b2 / 64 ≠ 2
    · rw [if_pos d] at h
      exact absurd rfl h
    · rw [if_neg d] at h ⊢
      have := chk_or (b0 % 16 * 4096 + b1 % 64 * 64 + b2 % 64) 2048 3
      omega
  rw [if_neg c3] at h ⊢
  by_cases c4 : 192 ≤ b0
  · rw [if_pos c4] at h ⊢
    by_cases d : n < 2 ∨ b1 / 64 ≠ 2
    · rw [if_pos d] at h
      exact absurd rfl h
    · rw [if_neg d] at h ⊢
      have := chk_or (b0 % 32 * 64 + b1 % 64) 128 2
      omega
  rw [if_neg c4] at h ⊢
  by_cases c5 : 128 ≤ b0
  · rw [if_pos c5] at h
    exact absurd rfl h
  rw [if_neg c5] at h ⊢
  have := chk_or b0 1 1
  refine ⟨by omega, fun e => ?_, by omega, by omega, by omega⟩
  subst e
  exact h (chk_no (by omega))
theorem toNat_nz {b : UInt8} (h : b.toNat ≠ 0) : b ≠ 0 := fun e => h (by rw [e]; rfl)
theorem mem_drop_point {l : List UInt8} (hl : 1 ≤ l.length) (h : pointS l ≠ 0) : (0 : UInt8) ∈ l ↔ (0 : UInt8) ∈ l.drop (pointS l) := by
  obtain ⟨h1, h2, h3, h4, h5⟩ := point_nz hl h
  change pointS l ≤ _ at h1
  change 2 ≤ pointS l → _ at h3
  change 3 ≤ pointS l → _ at h4
  change 4 ≤ pointS l → _ at h5
  have h6 := point_le l
  refine ⟨fun hm => ?_, fun hm => List.mem_of_mem_drop hm⟩
  rw [← List.take_append_drop (pointS l) l, List.mem_append] at hm
  rcases hm with hm | hm
  · exfalso
    obtain ⟨i, hi, he⟩ := List.getElem_of_mem hm
    rw [List.getElem_take] at he
    rw [List.length_take] at hi
    have hg : l.getD i 0 = 0 := by
      rw [List.getD_eq_getElem?_getD, List.getElem?_eq_getElem (by omega), he]
      rfl
    have hz : (l.getD i 0).toNat = 0 := by rw [hg]; rfl
    have : i = 0 ∨ i = 1 ∨ i = 2 ∨ i = 3 := by omega
    rcases this with rfl | rfl | rfl | rfl
    · exact h2 hz
    · exact h3 (by omega) hz
    · exact h4 (by omega) hz
    · exact h5 (by omega) hz
  · exact hm
/-- A text is what the library calls valid, and holds no byte 0. -/
theorem utfS_valid : ∀ (f : Nat) (l : List UInt8), l.length ≤ f → utfS f l = (validD l && decide ((0 : UInt8) ∉ l))
  | 0, l, h => by
    have : l = [] := List.eq_nil_of_length_eq_zero (by omega)
    subst this
    rfl
  | f + 1, l, h => by
    rw [utfS]
    by_cases hne : l = []
    · subst hne
      rfl
    · rw [if_neg hne]
      have hl : 0 < l.length := List.length_pos_iff.2 hne
      have hp := point_decode l.length (l.getD 0 0).toNat (l.getD 1 0).toNat (l.getD 2 0).toNat (l.getD 3 0).toNat hl (l.getD 0 0).toNat_lt
      rw [← decodeL_N] at hp
      change pointS l = _ at hp
      have hw := decodeL_width l
      rw [validD_step l hne]
      by_cases hb : (decodeL l).1 = 65533 ∧ (decodeL l).2 = 1
      · rw [if_pos (.inr hb)] at hp
        rw [if_pos hp, if_pos hb]
        rfl
      · rw [if_neg hb]
        by_cases hz : (l.getD 0 0).toNat = 0
        · rw [if_pos (.inl hz)] at hp
          rw [if_pos hp]
          have hm : (0 : UInt8) ∈ l := by
            have e : l[0] = 0 := by
              have : l.getD 0 0 = l[0] := by rw [List.getD_eq_getElem?_getD, List.getElem?_eq_getElem hl]; rfl
              rw [← this]
              exact UInt8.toNat_inj.1 hz
            rw [← e]
            exact List.getElem_mem hl
          rw [decide_eq_false (fun h => h hm), Bool.and_false]
        · rw [if_neg (by rintro (h | h); exact hz h; exact hb h)] at hp
          have h0 : pointS l ≠ 0 := by omega
          rw [if_neg h0, utfS_valid f _ (by rw [List.length_drop]; omega), hp]
          have hm := mem_drop_point hl h0
          rw [hp] at hm
          simp only [hm]
theorem utf_valid (l : List UInt8) : utf l = (validD l && decide ((0 : UInt8) ∉ l)) := utfS_valid _ l (Nat.le_refl _)
end Go.Tx
