/-
  Logs that take a leader's entries in, in plain lists.
-/
import Derived.Test.YtdkcihifmmppiaaDoorSpec3
namespace Go.Ent
open Go.Vg

/-- How many entries at the head the log has. -/
def matchN (l : Log) : List Entry → Nat
  | [] => 0
  | e :: r => if termAt l e.index = some e.term then matchN l r + 1 else 0
inductive MR where
  | same (miss : Bool)
  | new (es : List Entry)
  | bad (e : Int)
def mergedS (l : Log) (p : Int) (es : List Entry) : List Entry := l.es.take ((p - l.base).toNat + matchN l es) ++ es.drop (matchN l es)
def mergeFrom (l : Log) (p u : Int) (es : List Entry) : MR :=
  if termAt l p ≠ some u then .same true
  else if matchN l es = es.length then .same false
  else if 512 < (mergedS l p es).length then .bad 9
  else if may ⟨l.base, l.bterm, mergedS l p es⟩ then .new (mergedS l p es) else .bad 1
def mergeS (l : Log) (prev t : Int) (es : List Entry) : MR :=
  if prev < l.base then mergeFrom l l.base l.bterm (es.drop (l.base - prev).toNat) else mergeFrom l prev t es

theorem matchN_le (l : Log) : ∀ es, matchN l es ≤ es.length
  | [] => Nat.le_refl _
  | e :: r => by
    have := matchN_le l r
    simp only [matchN, List.length_cons]
    split <;> omega
theorem matchN_hit {l : Log} {es : List Entry} {i : Nat} (h : i < es.length) (ht : termAt l es[i].index = some es[i].term) : matchN l (es.drop i) = matchN l (es.drop (i + 1)) + 1 := by
  rw [List.drop_eq_getElem_cons h, matchN, if_pos ht]
theorem matchN_stop {l : Log} {es : List Entry} {i : Nat} (h : i < es.length) (ht : termAt l es[i].index ≠ some es[i].term) : matchN l (es.drop i) = 0 := by
  rw [List.drop_eq_getElem_cons h, matchN, if_neg ht]
theorem stop_at {l : Log} {ys : List Entry} {i : Nat} (hi : i < ys.length) (hmt : matchN l ys = i + matchN l (ys.drop i)) (hh : 0 < (ys.drop i).length) (hne : termAt l (ys.drop i)[0].index ≠ some (ys.drop i)[0].term) : matchN l ys = i := by
  have e : (ys.drop i)[0] = ys[i] := by rw [List.getElem_drop]; rfl
  rw [e] at hne
  rw [hmt, matchN_stop hi hne]
  omega
theorem hit_at {l : Log} {ys : List Entry} {i : Nat} (hi : i < ys.length) (hmt : matchN l ys = i + matchN l (ys.drop i)) (hh : 0 < (ys.drop i).length) (hne : termAt l (ys.drop i)[0].index = some (ys.drop i)[0].term) : matchN l ys = i + 1 + matchN l (ys.drop (i + 1)) := by
  have e : (ys.drop i)[0] = ys[i] := by rw [List.getElem_drop]; rfl
  rw [e] at hne
  rw [hmt, matchN_hit hi hne]
  omega
theorem merged_at {l : Log} {p q : Int} {ys : List Entry} {i : Nat} (h : matchN l ys = i) (hq : q = p + i) (hp : l.base ≤ p) : mergedS l p ys = l.es.take (q - l.base).toNat ++ ys.drop i := by
  unfold mergedS
  rw [h, hq, show (p + (i : Int) - l.base).toNat = (p - l.base).toNat + i by omega]
theorem mf_miss {l : Log} {p u : Int} {es : List Entry} (h : termAt l p ≠ some u) : mergeFrom l p u es = .same true := by
  unfold mergeFrom
  rw [if_pos h]
theorem mf_same {l : Log} {p u : Int} {es : List Entry} (h : termAt l p = some u) (h2 : matchN l es = es.length) : mergeFrom l p u es = .same false := by
  unfold mergeFrom
  rw [if_neg (by simp [h]), if_pos h2]
theorem mf_full {l : Log} {p u : Int} {es : List Entry} (h : termAt l p = some u) (h2 : matchN l es ≠ es.length) (h3 : 512 < (mergedS l p es).length) : mergeFrom l p u es = .bad 9 := by
  unfold mergeFrom
  rw [if_neg (by simp [h]), if_neg h2, if_pos h3]
theorem mf_new {l : Log} {p u : Int} {es : List Entry} (h : termAt l p = some u) (h2 : matchN l es ≠ es.length) (h3 : ¬ 512 < (mergedS l p es).length) (h4 : may ⟨l.base, l.bterm, mergedS l p es⟩ = true) : mergeFrom l p u es = .new (mergedS l p es) := by
  unfold mergeFrom
  rw [if_neg (by simp [h]), if_neg h2, if_neg h3, if_pos h4]
theorem mf_form {l : Log} {p u : Int} {es : List Entry} (h : termAt l p = some u) (h2 : matchN l es ≠ es.length) (h3 : ¬ 512 < (mergedS l p es).length) (h4 : may ⟨l.base, l.bterm, mergedS l p es⟩ = false) : mergeFrom l p u es = .bad 1 := by
  unfold mergeFrom
  rw [if_neg (by simp [h]), if_neg h2, if_neg h3, if_neg (by simp [h4])]
theorem termAt_range {l : Log} {i u : Int} (h : termAt l i = some u) : l.base ≤ i ∧ i ≤ l.base + l.es.length := by
  unfold termAt at h
  split at h
  · cases h
  · omega
/-- Entries go on from an index. -/
def runs (p : Int) (es : List Entry) : Prop := ∀ j (h : j < es.length), es[j].index = p + j + 1
theorem runs_follow {p t : Int} {es : List Entry} (h : follow p t es = true) : runs p es := fun j hj => (follow_get es p t h j hj).1
theorem runs_drop {prev b : Int} {es : List Entry} (h : runs prev es) (hb : prev < b) : runs b (es.drop (b - prev).toNat) := fun j hj => by
  rw [List.length_drop] at hj
  rw [List.getElem_drop, h _ (by omega)]
  omega
theorem drop_min {α : Type} (es : List α) (k : Nat) : es.drop (min k es.length) = es.drop k := by
  rcases Nat.le_total k es.length with h | h
  · rw [Nat.min_eq_left h]
  · rw [Nat.min_eq_right h, List.drop_eq_nil_of_le (Nat.le_refl _), List.drop_eq_nil_of_le h]
theorem follow_append (xs ys : List Entry) : ∀ b t, follow b t (xs ++ ys) = (follow b t xs && follow (endI b xs) (endT t xs) ys) := by
  induction xs with
  | nil => intro b t; simp [follow, endI, endT]
  | cons x xs ih =>
    intro b t
    have h1 : endI b (x :: xs) = endI x.index xs := by
      unfold endI
      rcases h : xs.getLast? with _ | z
      · have : xs = [] := by simpa using h
        subst this
        rfl
      · rw [List.getLast?_cons, h]; rfl
    have h2 : endT t (x :: xs) = endT x.term xs := by
      unfold endT
      rcases h : xs.getLast? with _ | z
      · have : xs = [] := by simpa using h
        subst this
        rfl
      · rw [List.getLast?_cons, h]; rfl
    rw [List.cons_append, follow, follow, ih, h1, h2]
    simp only [Bool.and_assoc]
theorem follow_take {b t : Int} {es : List Entry} (h : follow b t es = true) (k : Nat) : follow b t (es.take k) = true := by
  have h2 := follow_append (es.take k) (es.drop k) b t
  rw [List.take_append_drop, h] at h2
  exact (Bool.and_eq_true_iff.1 h2.symm).1
/-- What is merged may be just where what is put behind goes on. -/
theorem may_merged {l : Log} (hm : may l = true) (k : Nat) (ys : List Entry) (h : (l.es.take k ++ ys).length ≤ 512) :
    may ⟨l.base, l.bterm, l.es.take k ++ ys⟩ = follow (endI l.base (l.es.take k)) (endT l.bterm (l.es.take k)) ys := by
  have hf : follow l.base l.bterm l.es = true := (may_le hm).2.2.2.1
  have h2 : (decide (0 ≤ l.base ∧ l.base ≤ 1099511625728) && isTerm l.bterm) = true := by
    simp only [may, Bool.and_eq_true] at hm ⊢
    exact ⟨hm.1.1.1, hm.1.1.2⟩
  unfold may
  dsimp only
  rw [h2, decide_eq_true h, follow_append, follow_take hf k]
  rfl
end Go.Ent
