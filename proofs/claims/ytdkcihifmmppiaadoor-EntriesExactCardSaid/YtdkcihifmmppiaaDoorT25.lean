import Derived.Test.YtdkcihifmmppiaaDoorT23
import Derived.Test.YtdkcihifmmppiaaDoorVgS
set_option linter.unusedVariables false
namespace Go.Ent
open Go.Proofs Go.RowKit Go.Vg Go.Err
set_option maxRecDepth 100000

/-! What the six functions answer, whatever the log is. -/
def sCode (a : Ask) : Int := if may ⟨a.b, a.t, a.xs⟩ = true then 0 else 1
def sLast (a : Ask) : Int × Int := if may ⟨a.b, a.t, a.xs⟩ = true then (endI a.b a.xs, endT a.t a.xs) else (0, 0)
def sNewer (a : Ask) : Bool := if may ⟨a.b, a.t, a.xs⟩ = true then aheadS a.b a.t a.xs a.i a.j else false
def sTerm (a : Ask) : Int × Int := if may ⟨a.b, a.t, a.xs⟩ = true then (match termAt ⟨a.b, a.t, a.xs⟩ a.i with | some u => (0, u) | none => (8, 0)) else (1, 0)
def sApp (a : Ask) : Int × Log := if may ⟨a.b, a.t, a.xs⟩ = true then (match appendS ⟨a.b, a.t, a.xs⟩ a.ys with | .ok l => (0, l) | .error e => (e, ⟨0, 0, []⟩)) else (1, ⟨0, 0, []⟩)
def sCut (a : Ask) : Int × Log := if may ⟨a.b, a.t, a.xs⟩ = true ∧ a.b ≤ a.i ∧ a.i ≤ a.b + a.xs.length then (0, ⟨a.b, a.t, a.xs.take (a.i - a.b).toNat⟩) else (1, ⟨0, 0, []⟩)
def sSlice (a : Ask) : Int × List Entry := if may ⟨a.b, a.t, a.xs⟩ = true then (if a.b < a.i ∧ a.i ≤ a.b + a.xs.length + 1 then (if 0 ≤ a.n then (0, (a.xs.drop (a.i - a.b - 1).toNat).take a.n.toNat) else (1, [])) else (8, [])) else (1, [])
def sComp (a : Ask) : Int × Log := if may ⟨a.b, a.t, a.xs⟩ = true ∧ a.b < a.i ∧ a.i ≤ a.b + a.xs.length ∧ a.i ≤ 1099511625728 then (0, ⟨a.i, (termAt ⟨a.b, a.t, a.xs⟩ a.i).getD 0, a.xs.drop (a.i - a.b).toNat⟩) else (1, ⟨0, 0, []⟩)

section
variable {w w' : World} {F : Value → Value → Value} {e : Ending}
theorem re_ok {es : List Entry} {n : Nat} (hn : n = es.length) (h : RetP w (fun v w' => ∃ (_i : Unit) (r : Value), True ∧ v = F r .nilIface ∧ NewRow w 64 4 r n (es.flatMap encE) w') e w') : RetP w (RowErr encE 64 4 F es 0 w) e w' := by
  subst hn
  obtain ⟨v, he, ⟨_, r, _, hv, hr⟩, hb⟩ := h
  exact ⟨v, he, ⟨r, _, hv, .inl ⟨rfl, rfl, hr⟩⟩, hb⟩
theorem re_err {c : Int} (h : RetP w (fun v w' => ∃ ev, v = F (.slice none 0 0) ev ∧ ErrV w' (Fresh w w') ev c) e w') : RetP w (RowErr encE 64 4 F [] c w) e w' := by
  obtain ⟨v, he, ⟨ev, hv, hr⟩, hb⟩ := h
  exact ⟨v, he, ⟨_, ev, hv, .inr ⟨rfl, rfl, hr⟩⟩, hb⟩
theorem er_ok {G : Value → Value} {v0 : Value} (hG : v0 = G .nilIface) (h : Ret w v0 e w') : RetP w (fun v w' => ∃ ev, v = G ev ∧ ErrV w' (Fresh w w') ev 0) e w' := by
  obtain ⟨he, hb⟩ := h
  exact ⟨v0, he, ⟨_, hG, .inl ⟨rfl, rfl⟩⟩, hb⟩
end
attribute [local irreducible] V VO VP VX thenQ blockQ loopQ finQ elAt subA good isTerm follow may ErrV Calls termAt matchN mergedS appendS mergeA mayMerge

section
variable {w : World} {a : Ask} {A : Option Addr} {m c : Nat} (hv : View encE 4 w (Low w) A m a.xs)
include hv
theorem Check_any : Calls Tryd.prog 36 #[.agg #[.int .i64 a.b, .int .i64 a.t, .slice A m c]] w (RetP w fun v w' => ∃ ev, v = (fun ev => ev) ev ∧ ErrV w' (Fresh w w') ev (sCode a)) := by
  unfold sCode
  rcases hm : may ⟨a.b, a.t, a.xs⟩ with _ | _
  · rw [if_neg (by decide)]
    exact Check_form hm hv
  · rw [if_pos rfl]
    exact (Check_ok hm hv).mono fun e w' h => er_ok (G := fun ev => ev) rfl h
theorem Last_any : Calls Tryd.prog 19 #[.agg #[.int .i64 a.b, .int .i64 a.t, .slice A m c]] w (RetP w fun v w' => ∃ ev, v = (fun ev => .tuple #[.int .i64 (sLast a).1, .int .i64 (sLast a).2, ev]) ev ∧ ErrV w' (Fresh w w') ev (sCode a)) := by
  unfold sCode sLast
  rcases hm : may ⟨a.b, a.t, a.xs⟩ with _ | _
  · rw [if_neg (by decide), if_neg (by decide)]
    exact Last_form hm hv
  · rw [if_pos rfl, if_pos rfl]
    exact (Last_ok hm hv).mono fun e w' h => er_ok (G := fun ev => .tuple #[.int .i64 (endI a.b a.xs), .int .i64 (endT a.t a.xs), ev]) rfl h
theorem Newer_any : Calls Tryd.prog 24 #[.agg #[.int .i64 a.b, .int .i64 a.t, .slice A m c], .int .i64 a.i, .int .i64 a.j] w (RetP w fun v w' => ∃ ev, v = (fun ev => .tuple #[.bool (sNewer a), ev]) ev ∧ ErrV w' (Fresh w w') ev (sCode a)) := by
  unfold sCode sNewer
  rcases hm : may ⟨a.b, a.t, a.xs⟩ with _ | _
  · rw [if_neg (by decide), if_neg (by decide)]
    exact Newer_form hm hv
  · rw [if_pos rfl, if_pos rfl]
    exact (Newer_ok hm hv).mono fun e w' h => er_ok (G := fun ev => .tuple #[.bool (aheadS a.b a.t a.xs a.i a.j), ev]) rfl h
theorem Term_any (hi : I64 a.i) : Calls Tryd.prog 25 #[.agg #[.int .i64 a.b, .int .i64 a.t, .slice A m c], .int .i64 a.i] w (RetP w fun v w' => ∃ ev, v = (fun ev => .tuple #[.int .i64 (sTerm a).2, ev]) ev ∧ ErrV w' (Fresh w w') ev (sTerm a).1) := by
  unfold sTerm
  rcases hm : may ⟨a.b, a.t, a.xs⟩ with _ | _
  · rw [if_neg (by decide)]
    exact Term_form hm hv
  · rw [if_pos rfl]
    rcases ht : termAt ⟨a.b, a.t, a.xs⟩ a.i with _ | u
    · exact Term_err hi hm ht hv
    · exact (Term_ok hi hm ht hv).mono fun e w' h => er_ok (G := fun ev => .tuple #[.int .i64 u, ev]) rfl h
theorem Append_any {B : Option Addr} {m' c' : Nat} (hm' : m' ≤ 1048576) (hv' : View encE 4 w (Low w) B m' a.ys) : Calls Tryd.prog 14 #[.agg #[.int .i64 a.b, .int .i64 a.t, .slice A m c], .slice B m' c'] w (RetP w (RowErr encE 64 4 (fun q ev => .tuple #[.agg #[.int .i64 (sApp a).2.base, .int .i64 (sApp a).2.bterm, q], ev]) (sApp a).2.es (sApp a).1 w)) := by
  unfold sApp
  rcases hm : may ⟨a.b, a.t, a.xs⟩ with _ | _
  · rw [if_neg (by decide)]
    exact (Append_form hm hv hv').mono fun e w' h => re_err (F := fun q ev => .tuple #[.agg #[.int .i64 0, .int .i64 0, q], ev]) h
  · rw [if_pos rfl]
    rcases ha : appendS ⟨a.b, a.t, a.xs⟩ a.ys with e | l
    · exact (Append_err hm ha hv hv' hm').mono fun e w' h => re_err (F := fun q ev => .tuple #[.agg #[.int .i64 0, .int .i64 0, q], ev]) h
    · exact (Append_ok hm ha hv hv').mono fun e w' h => re_ok (F := fun q ev => .tuple #[.agg #[.int .i64 l.base, .int .i64 l.bterm, q], ev]) rfl h
theorem Cut_any (hcap : m ≤ c) : Calls Tryd.prog 21 #[.agg #[.int .i64 a.b, .int .i64 a.t, .slice A m c], .int .i64 a.i] w (RetP w (RowErr encE 64 4 (fun q ev => .tuple #[.agg #[.int .i64 (sCut a).2.base, .int .i64 (sCut a).2.bterm, q], ev]) (sCut a).2.es (sCut a).1 w)) := by
  unfold sCut
  by_cases h : may ⟨a.b, a.t, a.xs⟩ = true ∧ a.b ≤ a.i ∧ a.i ≤ a.b + a.xs.length
  · rw [if_pos h]
    exact (Cut_ok h.1 h.2.1 h.2.2 hcap hv).mono fun e w' h => re_ok (F := fun q ev => .tuple #[.agg #[.int .i64 a.b, .int .i64 a.t, q], ev]) rfl h
  · rw [if_neg h]
    rcases hm : may ⟨a.b, a.t, a.xs⟩ with _ | _
    · exact (Cut_form hm hv).mono fun e w' h => re_err (F := fun q ev => .tuple #[.agg #[.int .i64 0, .int .i64 0, q], ev]) h
    · refine (Cut_err hm ?_ hv).mono fun e w' h => re_err (F := fun q ev => .tuple #[.agg #[.int .i64 0, .int .i64 0, q], ev]) h
      rw [hm] at h
      have : ¬ (a.b ≤ a.i ∧ a.i ≤ a.b + a.xs.length) := fun g => h ⟨rfl, g⟩
      omega
theorem Slice_any (hcap : m ≤ c) : Calls Tryd.prog 23 #[.agg #[.int .i64 a.b, .int .i64 a.t, .slice A m c], .int .i64 a.i, .int .i64 a.n] w (RetP w (RowErr encE 64 4 (fun q ev => .tuple #[q, ev]) (sSlice a).2 (sSlice a).1 w)) := by
  unfold sSlice
  rcases hm : may ⟨a.b, a.t, a.xs⟩ with _ | _
  · rw [if_neg (by decide)]
    exact (Slice_form hm hv).mono fun e w' h => re_err (F := fun q ev => .tuple #[q, ev]) h
  · rw [if_pos rfl]
    by_cases h : a.b < a.i ∧ a.i ≤ a.b + a.xs.length + 1
    · rw [if_pos h]
      by_cases hn : 0 ≤ a.n
      · rw [if_pos hn]
        exact (Slice_ok hm h.1 h.2 hn hcap hv).mono fun e w' h => re_ok (F := fun q ev => .tuple #[q, ev]) rfl h
      · rw [if_neg hn]
        exact (Slice_neg hm h.1 h.2 (by omega) hv).mono fun e w' h => re_err (F := fun q ev => .tuple #[q, ev]) h
    · rw [if_neg h]
      exact (Slice_err hm (by omega) hv).mono fun e w' h => re_err (F := fun q ev => .tuple #[q, ev]) h
theorem Compact_any (hcap : m ≤ c) : Calls Tryd.prog 27 #[.agg #[.int .i64 a.b, .int .i64 a.t, .slice A m c], .int .i64 a.i] w (RetP w (RowErr encE 64 4 (fun q ev => .tuple #[.agg #[.int .i64 (sComp a).2.base, .int .i64 (sComp a).2.bterm, q], ev]) (sComp a).2.es (sComp a).1 w)) := by
  unfold sComp
  by_cases h : may ⟨a.b, a.t, a.xs⟩ = true ∧ a.b < a.i ∧ a.i ≤ a.b + a.xs.length ∧ a.i ≤ 1099511625728
  · rw [if_pos h]
    exact (Compact_ok h.1 h.2.1 h.2.2.1 h.2.2.2 hcap hv).mono fun e w' g => re_ok (F := fun q ev => .tuple #[.agg #[.int .i64 a.i, .int .i64 ((termAt ⟨a.b, a.t, a.xs⟩ a.i).getD 0), q], ev]) rfl g
  · rw [if_neg h]
    rcases hm : may ⟨a.b, a.t, a.xs⟩ with _ | _
    · exact (Compact_form hm hv).mono fun e w' h => re_err (F := fun q ev => .tuple #[.agg #[.int .i64 0, .int .i64 0, q], ev]) h
    · refine (Compact_err hm ?_ hv).mono fun e w' h => re_err (F := fun q ev => .tuple #[.agg #[.int .i64 0, .int .i64 0, q], ev]) h
      rw [hm] at h
      have : ¬ (a.b < a.i ∧ a.i ≤ a.b + a.xs.length ∧ a.i ≤ 1099511625728) := fun g => h ⟨rfl, g⟩
      omega
end
theorem app_len {b t : Int} {xs ys : List Entry} {l : Log} (h : appendS ⟨b, t, xs⟩ ys = .ok l) : l.es.length ≤ 512 := by
  unfold appendS at h
  split at h
  · cases h
  · split at h
    · cases h
    · cases h
      dsimp only at *
      rw [List.length_append]
      omega
theorem sApp_le {a : Ask} : (sApp a).2.es.length ≤ 512 := by
  unfold sApp
  split
  · split
    · rename_i h
      exact app_len h
    · exact Nat.zero_le _
  · exact Nat.zero_le _
theorem sCut_le {a : Ask} : (sCut a).2.es.length ≤ a.xs.length := by
  unfold sCut
  split
  · dsimp only; rw [List.length_take]; omega
  · exact Nat.zero_le _
theorem sSlice_le {a : Ask} : (sSlice a).2.length ≤ a.xs.length := by
  unfold sSlice
  repeat' split
  all_goals first | exact Nat.zero_le _ | (dsimp only; rw [List.length_take, List.length_drop]; omega)
theorem sComp_le {a : Ask} : (sComp a).2.es.length ≤ a.xs.length := by
  unfold sComp
  split
  · dsimp only; rw [List.length_drop]; omega
  · exact Nat.zero_le _
end Go.Ent
