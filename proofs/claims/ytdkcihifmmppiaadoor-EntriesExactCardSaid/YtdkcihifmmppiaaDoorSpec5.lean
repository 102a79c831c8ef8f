/-
  Taking entries in a second time changes nothing, in plain lists.
-/
import Derived.Test.YtdkcihifmmppiaaDoorT20
set_option linter.unusedVariables false
namespace Go.Ent
open Go.Vg

theorem matchN_all {l : Log} : ∀ {ys : List Entry}, (∀ e ∈ ys, termAt l e.index = some e.term) → matchN l ys = ys.length
  | [], _ => rfl
  | e :: r, h => by
    rw [matchN, if_pos (h e List.mem_cons_self), matchN_all fun x hx => h x (List.mem_cons_of_mem _ hx), List.length_cons]
theorem matchN_get {l : Log} : ∀ {ys : List Entry} {k : Nat}, k < matchN l ys → ∃ h : k < ys.length, termAt l ys[k].index = some ys[k].term
  | [], k, h => absurd h (by simp [matchN])
  | e :: r, k, h => by
    rw [matchN] at h
    by_cases he : termAt l e.index = some e.term
    · rw [if_pos he] at h
      rcases k with _ | k
      · exact ⟨by simp, he⟩
      · obtain ⟨h1, h2⟩ := matchN_get (l := l) (ys := r) (k := k) (by omega)
        exact ⟨by simpa using h1, h2⟩
    · rw [if_neg he] at h
      omega
theorem termAt_mk {b t : Int} {es : List Entry} {j : Nat} (hj : j < es.length) : termAt ⟨b, t, es⟩ (b + j + 1) = some es[j].term := by
  unfold termAt
  dsimp only
  rw [if_neg (by omega), if_neg (by omega), show (b + (j : Int) + 1 - b - 1).toNat = j by omega, List.getD_eq_getElem?_getD, List.getElem?_eq_getElem hj]
  rfl
theorem termAt_at {b t i : Int} {es : List Entry} {u : Int} (hi : b < i) (h : termAt ⟨b, t, es⟩ i = some u) : ∃ hj : (i - b - 1).toNat < es.length, es[(i - b - 1).toNat].term = u := by
  have hr := termAt_range h
  dsimp only at hr
  have hj : (i - b - 1).toNat < es.length := by omega
  have h2 := termAt_mk (b := b) (t := t) hj
  rw [show b + ((i - b - 1).toNat : Int) + 1 = i by omega, h] at h2
  exact ⟨hj, by injection h2 with h2; exact h2.symm⟩
theorem termAt_pre {b t i : Int} {xs zs : List Entry} {q : Nat} (hq : q ≤ xs.length) (h1 : b ≤ i) (h2 : i ≤ b + q) : termAt ⟨b, t, xs.take q ++ zs⟩ i = termAt ⟨b, t, xs⟩ i := by
  have hl : (xs.take q).length = q := by rw [List.length_take]; omega
  rcases Int.lt_or_eq_of_le h1 with h | h
  · obtain ⟨j, hj⟩ : ∃ j : Nat, j = (i - b - 1).toNat := ⟨_, rfl⟩
    have e : i = b + j + 1 := by omega
    rw [e, termAt_mk (by rw [List.length_append, hl]; omega), termAt_mk (by omega), List.getElem_append_left (by rw [hl]; omega), List.getElem_take]
  · subst h
    exact termAt_base.trans termAt_base.symm
theorem idem {b t p u : Int} {xs ys : List Entry} (hp : b ≤ p) (hr : runs p ys) (h : termAt ⟨b, t, xs⟩ p = some u) :
    termAt ⟨b, t, mergedS ⟨b, t, xs⟩ p ys⟩ p = some u ∧ ∀ e ∈ ys, termAt ⟨b, t, mergedS ⟨b, t, xs⟩ p ys⟩ e.index = some e.term := by
  have hr1 := termAt_range h
  dsimp only at hr1
  obtain ⟨mn, hmn⟩ : ∃ mn, mn = matchN ⟨b, t, xs⟩ ys := ⟨_, rfl⟩
  have hle := matchN_le ⟨b, t, xs⟩ ys
  rw [← hmn] at hle
  have hq : (p - b).toNat + mn ≤ xs.length := by
    rcases Nat.eq_zero_or_pos mn with h0 | h0
    · omega
    · obtain ⟨h1, h2⟩ := matchN_get (l := ⟨b, t, xs⟩) (ys := ys) (k := mn - 1) (by omega)
      have h3 := termAt_range h2
      rw [hr _ h1] at h3
      dsimp only at h3
      omega
  have hl : (xs.take ((p - b).toNat + mn)).length = (p - b).toNat + mn := by rw [List.length_take]; omega
  have hes : mergedS ⟨b, t, xs⟩ p ys = xs.take ((p - b).toNat + mn) ++ ys.drop mn := by unfold mergedS; rw [hmn]
  rw [hes]
  refine ⟨by rw [termAt_pre hq hp (by omega)]; exact h, fun e he => ?_⟩
  obtain ⟨k, hk, rfl⟩ := List.getElem_of_mem he
  rw [hr k hk]
  rcases Nat.lt_or_ge k mn with h1 | h1
  · obtain ⟨_, h2⟩ := matchN_get (l := ⟨b, t, xs⟩) (ys := ys) (k := k) (by omega)
    rw [hr k hk] at h2
    rw [termAt_pre hq (by omega) (by omega)]
    exact h2
  · have hj : (p - b).toNat + k < (xs.take ((p - b).toNat + mn) ++ ys.drop mn).length := by
      rw [List.length_append, hl, List.length_drop]
      omega
    have h2 := termAt_mk (b := b) (t := t) hj
    rw [show b + (((p - b).toNat + k : Nat) : Int) + 1 = p + k + 1 by omega] at h2
    rw [h2, List.getElem_append_right (by rw [hl]; omega), List.getElem_drop]
    congr 2
    congr 1
    rw [hl]
    omega
theorem mf_new_inv {l : Log} {p u : Int} {ys es : List Entry} (h : mergeFrom l p u ys = .new es) : termAt l p = some u ∧ es = mergedS l p ys ∧ may ⟨l.base, l.bterm, es⟩ = true := by
  unfold mergeFrom at h
  repeat' split at h
  all_goals first | (cases h; done) | skip
  rename_i h1 h2 h3 h4
  have e : mergedS l p ys = es := by injection h
  subst e
  exact ⟨Classical.byContradiction fun hn => h1 hn, rfl, h4⟩
theorem mf_same_inv {l : Log} {p u : Int} {ys : List Entry} (h : mergeFrom l p u ys = .same false) : termAt l p = some u ∧ matchN l ys = ys.length := by
  unfold mergeFrom at h
  repeat' split at h
  all_goals first | (cases h; done) | skip
  rename_i h1 h2
  exact ⟨Classical.byContradiction fun hn => h1 hn, h2⟩
theorem all_of_matchN {l : Log} {ys : List Entry} (h : matchN l ys = ys.length) : ∀ e ∈ ys, termAt l e.index = some e.term := fun e he => by
  obtain ⟨k, hk, rfl⟩ := List.getElem_of_mem he
  exact (matchN_get (l := l) (ys := ys) (k := k) (by omega)).2
/-- What a second merge meets. -/
theorem from_again {b t p u : Int} {xs ys zs : List Entry} (hp : b ≤ p) (hr : runs p ys) (hm : may ⟨b, t, xs⟩ = true) (h : mergeFrom ⟨b, t, xs⟩ p u ys = .same false ∧ zs = xs ∨ mergeFrom ⟨b, t, xs⟩ p u ys = .new zs) :
    mergeFrom ⟨b, t, zs⟩ p u ys = .same false ∧ may ⟨b, t, zs⟩ = true ∧ ∀ e ∈ ys, termAt ⟨b, t, zs⟩ e.index = some e.term := by
  rcases h with ⟨h, rfl⟩ | h
  · exact ⟨h, hm, all_of_matchN (mf_same_inv h).2⟩
  · obtain ⟨h1, rfl, h3⟩ := mf_new_inv h
    obtain ⟨h4, h5⟩ := idem hp hr h1
    exact ⟨mf_same h4 (matchN_all h5), h3, h5⟩
structure AgainS (b t : Int) (p u : Int) (ys zs : List Entry) : Prop where
  mm : mayMerge p u ys = true
  again : mergeA b t zs p u ys = .same false
  may : may ⟨b, t, zs⟩ = true
  has : ∀ k (h : k < ys.length), ys[k].index = p + k + 1 ∧ (b < ys[k].index → ∃ hj : (ys[k].index - b - 1).toNat < zs.length, zs[(ys[k].index - b - 1).toNat].term = ys[k].term ∧ zs[(ys[k].index - b - 1).toNat].index = ys[k].index)
theorem mergeA_yes {b t p u : Int} {xs ys : List Entry} (h1 : may ⟨b, t, xs⟩ = true) (h2 : mayMerge p u ys = true) : mergeA b t xs p u ys = mergeS ⟨b, t, xs⟩ p u ys := by
  unfold mergeA
  rw [h1, h2, if_pos (by rfl)]
theorem againS {b t p u : Int} {xs ys zs : List Entry} (h : mergeA b t xs p u ys = .same false ∧ zs = xs ∨ mergeA b t xs p u ys = .new zs) : may ⟨b, t, xs⟩ = true ∧ AgainS b t p u ys zs := by
  rcases hmm : (may ⟨b, t, xs⟩ && mayMerge p u ys) with _ | _
  · rw [mergeA_no hmm] at h
    rcases h with ⟨h, _⟩ | h <;> cases h
  · rw [Bool.and_eq_true] at hmm
    obtain ⟨hm, hmg⟩ := hmm
    refine ⟨hm, ?_⟩
    rw [mergeA_yes hm hmg] at h
    obtain ⟨h1, h2, h3⟩ := mayMerge_parts hmg
    have hr := runs_follow h3
    have hz : ∀ (mz : Go.Ent.may ⟨b, t, zs⟩ = true) (i : Int) (v : Int), b < i → termAt ⟨b, t, zs⟩ i = some v → ∃ hj : (i - b - 1).toNat < zs.length, zs[(i - b - 1).toNat].term = v ∧ zs[(i - b - 1).toNat].index = i := fun mz i v hi hv => by
      obtain ⟨hj, ht⟩ := termAt_at hi hv
      refine ⟨hj, ht, ?_⟩
      rw [(runs_follow (may_le mz).2.2.2.1) _ hj]
      dsimp only
      omega
    unfold mergeS at h
    dsimp only at h
    by_cases hlt : p < b
    · rw [if_pos hlt] at h
      obtain ⟨g1, g2, g3⟩ := from_again (Int.le_refl b) (runs_drop hr hlt) hm h
      refine ⟨hmg, ?_, g2, fun k hk => ⟨hr k hk, fun hb => hz g2 _ _ hb (g3 _ ?_)⟩⟩
      · rw [mergeA_yes g2 hmg]
        unfold mergeS
        dsimp only
        rw [if_pos hlt]
        exact g1
      · rw [hr k hk] at hb
        refine List.mem_of_getElem (i := k - (b - p).toNat) (h := by rw [List.length_drop]; omega) ?_
        rw [List.getElem_drop]
        congr 1
        omega
    · rw [if_neg hlt] at h
      obtain ⟨g1, g2, g3⟩ := from_again (by omega) hr hm h
      refine ⟨hmg, ?_, g2, fun k hk => ⟨hr k hk, fun hb => hz g2 _ _ hb (g3 _ (List.getElem_mem hk))⟩⟩
      rw [mergeA_yes g2 hmg]
      unfold mergeS
      dsimp only
      rw [if_neg hlt]
      exact g1
/-- A log takes its own entries in. -/
theorem mergeA_own {b t : Int} {xs : List Entry} (hm : may ⟨b, t, xs⟩ = true) : mergeA b t xs b t xs = .same false := by
  obtain ⟨q1, q2, q3, q4, q5⟩ := may_le hm
  dsimp only at q1 q2 q3 q4 q5
  have ht : isTerm t = true := by
    simp only [may, Bool.and_eq_true] at hm
    exact hm.1.1.2
  have hmg : mayMerge b t xs = true := by
    unfold mayMerge
    rw [ht, q4, decide_eq_true (by omega)]
    rfl
  rw [mergeA_yes hm hmg]
  unfold mergeS
  dsimp only
  rw [if_neg (by omega)]
  refine mf_same termAt_base (matchN_all fun e he => ?_)
  obtain ⟨k, hk, rfl⟩ := List.getElem_of_mem he
  rw [runs_follow q4 k hk]
  exact termAt_mk hk
end Go.Ent
