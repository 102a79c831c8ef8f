import Derived.Test.YtdkcihifmmppiaaDoorT18
import Derived.Test.YtdkcihifmmppiaaDoorT19
set_option linter.unusedVariables false
namespace Go.Ent
open Go.Proofs Go.RowKit Go.Vg Go.Err
set_option maxRecDepth 100000
attribute [local irreducible] V VO VP VX thenQ blockQ loopQ finQ elAt subA good isTerm follow may ErrV Calls termAt matchN mergedS appendS
theorem RefMerge_c {w : World} {b t p u : Int} {A B : Option Addr} {m c m' c' : Nat} {xs ys : List Entry} (hm : may ⟨b, t, xs⟩ = true) (hp : 0 ≤ p ∧ p ≤ 1099511627776) (hf : follow p u ys = true) (hm' : m' ≤ 1048576) (hcap' : m' ≤ c') (hv : View encE 4 w (Low w) A m xs) (hv' : View encE 4 w (Low w) B m' ys) :
    Calls Tryd.prog 31 #[.agg #[.int .i64 b, .int .i64 t, .slice A m c], .int .i64 p, .int .i64 u, .slice B m' c'] w (RetP w (RPost b t xs A m c (mergeS ⟨b, t, xs⟩ p u ys) w)) := by
  unfold mergeS
  by_cases h : p < b
  · rw [if_pos h]
    exact RefMerge_lt hm hp hf h hm' hcap' hv hv'
  · rw [if_neg h]
    exact RefMerge_ge hm hp hf h hm' hcap' hv hv'
theorem Spoil0_c {w : World} : Calls Tryd.prog 35 #[.slice none 0 0] w (Ret w (.tuple #[])) := by
  refine calls_start (vs := [.slice none 0 0]) Tryd.func35 rfl Tryd.ntmps35 rfl ?_
  repeat' (first | (guard_target =~ VO _ _ _ _ _ _ _ _; first | with_reducible refine VO.nil ?_ | refine VO.cons ?_ | (refine VO.gTake (hg := ?_) (h := ?_); (first | with_reducible rfl | with_reducible exact Bool.not_true | with_reducible exact Bool.not_false | decide)) | (refine VO.gSkipT (hg := ?_) (h := ?_); (first | with_reducible rfl | with_reducible exact Bool.not_true | with_reducible exact Bool.not_false | decide)) | (refine VO.gSkipF (hg := ?_) (h := ?_); (first | with_reducible rfl | with_reducible exact Bool.not_true | with_reducible exact Bool.not_false | decide)) | (guard_target =~ VO _ _ _ _ _ (⟨_, _, _, _, _, some _⟩ :: _) _ _; refine VO.gSkipUn (h := ?_)) | (refine VO.gsD (h1 := ?_) (h2 := ?_) <;> intro _ <;> try (exfalso; omega)) | (refine VO.gsN (h1 := ?_) (h2 := ?_) <;> intro _ <;> try (exfalso; omega)) | (refine VO.gsNB (h1 := ?_) (h2 := ?_) <;> intro _ <;> try (exfalso; omega)) | (refine VO.gsB (h1 := ?_) (h2 := ?_) <;> intro _ <;> try (exfalso; omega))) | (guard_target =~ VX _ _ _ _ _ _; first | (guard_target =~ VX _ _ _ ⟨_, Go.Op.call _, _, _, _, _⟩ _ _; first | refine VX.appendNB (h := fun _ _ => ?_) | refine VX.lenS (h := ?_) | refine VX.lenStr (h := ?_) | refine VX.min2 (h := ?_) | refine VX.max2 (h := ?_)) | (guard_target =~ VX _ _ _ ⟨_, Go.Op.move _, _, _, _, _⟩ _ _; first | refine VX.move (h := ?_)) | (guard_target =~ VX _ _ _ ⟨_, Go.Op.assign _, _, _, _, _⟩ _ _; first | refine VX.assign (h := ?_)) | (guard_target =~ VX _ _ _ ⟨_, Go.Op.load _ _, _, _, _, _⟩ _ _; first | refine VX.load1 (h := ?_) | refine VX.loadA (h := ?_) | refine VX.loadF1 (h := ?_) | refine VX.loadFA (h := ?_)) | (guard_target =~ VX _ _ _ ⟨_, Go.Op.fieldAddr _ _ _, _, _, _, _⟩ _ _; first | refine VX.fieldN (h := ?_) | refine VX.fieldF (h := ?_) | refine VX.fieldO (h := ?_) | refine VX.fieldG (h := ?_)) | (guard_target =~ VX _ _ _ ⟨_, Go.Op.extract _ _, _, _, _, _⟩ _ _; first | refine VX.extract (h := ?_)) | (guard_target =~ VX _ _ _ ⟨_, Go.Op.pick _ _ _, _, _, _, _⟩ _ _; first | refine VX.pick (h := ?_)) | (guard_target =~ VX _ _ _ ⟨_, Go.Op.binOp _ _ _ _ _, _, _, _, _⟩ _ _; first | refine VX.add64 (h := ?_) | refine VX.sub64 (h := ?_) | refine VX.mul64 (h := ?_) | refine VX.bin (h := ?_) | refine VX.eqNilI (h := ?_) | refine VX.eqNilJ (h := ?_) | refine VX.neNilI (h := ?_) | refine VX.neNilJ (h := ?_) | refine VX.eqNilS (h := ?_) | refine VX.eqStr (h := ?_) | refine VX.neStr (h := ?_) | refine VX.eqBool (h := ?_) | refine VX.neBool (h := ?_) | refine VX.eqA (h := ?_) | refine VX.neA (h := ?_)) | (guard_target =~ VX _ _ _ ⟨_, Go.Op.unOp _ _ _, _, _, _, _⟩ _ _; first | refine VX.not (h := ?_)) | (guard_target =~ VX _ _ _ ⟨_, Go.Op.store _ _ _, _, _, _, _⟩ _ _; first | refine VX.store1 (h := ?_) | refine VX.storeA (h := ?_)) | (guard_target =~ VX _ _ _ ⟨_, Go.Op.indexAddr _ _ _, _, _, _, _⟩ _ _; first | refine VX.idxF (h := ?_)) | (guard_target =~ VX _ _ _ ⟨_, Go.Op.makeInterface _ _, _, _, _, _⟩ _ _; first | refine VX.mkIface (h := ?_)) | (guard_target =~ VX _ _ _ ⟨_, Go.Op.box _ _, _, _, _, _⟩ _ _; first | refine VX.box1 (h := fun _ => ?_) | refine VX.boxA (h := fun _ => ?_)) | (guard_target =~ VX _ _ _ ⟨_, Go.Op.alloc _, _, _, _, _⟩ _ _; first | refine VX.alloc1 (h := fun _ => ?_) | refine VX.allocA (h := fun _ => ?_)) | (guard_target =~ VX _ _ _ ⟨_, Go.Op.buildSlice _ _ _, _, _, _, _⟩ _ _; first | refine VX.lit0 (h := fun _ => ?_) | refine VX.lit (h := fun _ => ?_)) | (guard_target =~ VX _ _ _ ⟨_, Go.Op.build _ _, _, _, _, _⟩ _ _; first | refine VX.build (h := ?_)) | (guard_target =~ VX _ _ _ ⟨_, Go.Op.field _ _ _, _, _, _, _⟩ _ _; first | refine VX.field (h := ?_)) | (guard_target =~ VX _ _ _ ⟨_, Go.Op.nilCheck _, _, _, _, _⟩ _ _; first | refine VX.nilCheck (h := ?_))) | (guard_target =~ V _ _ _ _ _ _ _; first | with_reducible refine V.seq ?_ | with_reducible refine V.region ?_ | with_reducible refine V.skip ?_ | with_reducible refine V.exit ?_ | with_reducible refine V.block ?_ | (guard_target =~ V _ _ _ _ (Go.Code.loop _) _ _; first | (refine V.loopA (fun (k : Nat) => ⟨[(0, .slice none 0 0), (2, .int .i64 k)], [], [], [(w, Low w)]⟩) (fun k => k = 0) (fun k => 1 - k) 0 (h0 := rfl) (hr := ?_); rintro _ rfl)) | (guard_target =~ V _ _ _ _ Go.Code.ret _ _; first | refine V.retV (he := ?_) | refine V.retP (h := fun w hw hb => ?_)) | (guard_target =~ V _ _ _ _ (Go.Code.cond _ _ _) _ _; first | (refine V.condT (hg := ?_) (h := ?_); (first | with_reducible rfl | with_reducible exact Bool.not_true | with_reducible exact Bool.not_false | decide)) | (refine V.condF (hg := ?_) (h := ?_); (first | with_reducible rfl | with_reducible exact Bool.not_true | with_reducible exact Bool.not_false | decide)) | (refine V.condD (h1 := ?_) (h2 := ?_) <;> intro _ <;> try (exfalso; omega)) | (refine V.condN (h1 := ?_) (h2 := ?_) <;> intro _ <;> try (exfalso; omega)) | (refine V.condNB (h1 := ?_) (h2 := ?_) <;> intro _ <;> try (exfalso; omega)) | (refine V.condB (h1 := ?_) (h2 := ?_) <;> intro _ <;> try (exfalso; omega)))) | (guard_target =~ VP _ _ _ _ _ _ _ _ _; first | with_reducible refine VP.done ?_ | with_reducible refine VP.all ?_ | refine VP.u (h := ?_) | refine VP.l (h := ?_)) | (guard_target =~ VPs _ _ _ _ _ _ _ _ _; first | exact True.intro | (refine VPs.cons (o := ?_) (g := ?_) (ho := ?_) (hg := ?_) (hgr := ?_) (h := ?_) ?_; rotate_left 2; rfl; rfl; rfl)) | with_reducible refine thenQ_normal ?_ | with_reducible refine thenQ_exit ?_ | with_reducible refine blockQ_normal ?_ | with_reducible refine blockQ_hit ?_ | (guard_target =~ blockQ _ _ _ _; refine blockQ_miss (h := ?_)) | with_reducible refine loopQ_exit ?_)
  exact finQ_end (rs := []) (vs := []) rfl ResR.nil fun w hw => ⟨rfl, hw.below_of CkAt.head⟩
/-- What merging answers, whatever is asked. -/
def mergeA (b t : Int) (xs : List Entry) (p u : Int) (ys : List Entry) : MR := if (may ⟨b, t, xs⟩ && mayMerge p u ys) = true then mergeS ⟨b, t, xs⟩ p u ys else .bad 1
theorem mayMerge_parts {p u : Int} {ys : List Entry} (h : mayMerge p u ys = true) : (0 ≤ p ∧ p ≤ 1099511627776) ∧ isTerm u = true ∧ follow p u ys = true := by
  unfold mayMerge at h
  simp only [Bool.and_eq_true, decide_eq_true_eq] at h
  exact ⟨h.1, h.2.1, h.2.2⟩
theorem Merge_any {w : World} {b t p u : Int} {A B : Option Addr} {m c m' c' : Nat} {xs ys : List Entry} (hm' : m' ≤ 1048576) (hcap : m ≤ c) (hcap' : m' ≤ c') (hv : View encE 4 w (Low w) A m xs) (hv' : View encE 4 w (Low w) B m' ys) :
    Calls Tryd.prog 34 #[.agg #[.int .i64 b, .int .i64 t, .slice A m c], .int .i64 p, .int .i64 u, .slice B m' c'] w (RetP w (MPost b t xs (mergeA b t xs p u ys) w)) := by
  unfold mergeA
  rcases h : (may ⟨b, t, xs⟩ && mayMerge p u ys) with _ | _
  · rw [if_neg (by decide)]
    exact Merge_form h hv hv'
  · rw [if_pos rfl]
    rw [Bool.and_eq_true] at h
    obtain ⟨h1, h2, h3⟩ := mayMerge_parts h.2
    exact Merge_c h.1 h1 h2 h3 hm' hcap hcap' hv hv'
section
variable {w : World} {b t p u : Int} {A B : Option Addr} {m c m' c' : Nat} {xs ys : List Entry} (hm' : m' ≤ 1048576) (hcap : m ≤ c) (hcap' : m' ≤ c') (hv : View encE 4 w (Low w) A m xs) (hv' : View encE 4 w (Low w) B m' ys)
include hm' hcap hcap' hv hv'
theorem Merge_same {miss : Bool} (h : mergeA b t xs p u ys = .same miss) :
    Calls Tryd.prog 34 #[.agg #[.int .i64 b, .int .i64 t, .slice A m c], .int .i64 p, .int .i64 u, .slice B m' c'] w (RetP w fun v w' => ∃ (_i : Unit) (q : Value), True ∧ v = .tuple #[.agg #[.int .i64 b, .int .i64 t, q], .bool miss, .nilIface] ∧ NewRow w 64 4 q xs.length (xs.flatMap encE) w') :=
  (Merge_any hm' hcap hcap' hv hv').mono fun e w' ⟨v, he, hr, hb⟩ => by
    rw [h] at hr
    obtain ⟨q, hq, hn⟩ := hr
    exact ⟨v, he, ⟨(), q, trivial, hq, hn⟩, hb⟩
theorem Merge_new {es : List Entry} (h : mergeA b t xs p u ys = .new es) :
    Calls Tryd.prog 34 #[.agg #[.int .i64 b, .int .i64 t, .slice A m c], .int .i64 p, .int .i64 u, .slice B m' c'] w (RetP w fun v w' => ∃ (_i : Unit) (q : Value), True ∧ v = .tuple #[.agg #[.int .i64 b, .int .i64 t, q], .bool false, .nilIface] ∧ NewRow w 64 4 q es.length (es.flatMap encE) w') :=
  (Merge_any hm' hcap hcap' hv hv').mono fun e w' ⟨v, he, hr, hb⟩ => by
    rw [h] at hr
    obtain ⟨q, hq, hn⟩ := hr
    exact ⟨v, he, ⟨(), q, trivial, hq, hn⟩, hb⟩
theorem Merge_bad {e0 : Int} (h : mergeA b t xs p u ys = .bad e0) :
    Calls Tryd.prog 34 #[.agg #[.int .i64 b, .int .i64 t, .slice A m c], .int .i64 p, .int .i64 u, .slice B m' c'] w (RetP w fun v w' => ∃ ev, v = .tuple #[.agg #[.int .i64 0, .int .i64 0, .slice none 0 0], .bool false, ev] ∧ ErrV w' (Fresh w w') ev e0) :=
  (Merge_any hm' hcap hcap' hv hv').mono fun e w' ⟨v, he, hr, hb⟩ => by
    rw [h] at hr
    exact ⟨v, he, hr, hb⟩
end
section
variable {w : World} {b t p u : Int} {A B : Option Addr} {m c m' c' : Nat} {xs ys : List Entry} (hm : may ⟨b, t, xs⟩ = true) (hmm : mayMerge p u ys = true) (hm' : m' ≤ 1048576) (hcap' : m' ≤ c') (hv : View encE 4 w (Low w) A m xs) (hv' : View encE 4 w (Low w) B m' ys)
include hm hmm hm' hcap' hv hv'
theorem RefMerge_any : Calls Tryd.prog 31 #[.agg #[.int .i64 b, .int .i64 t, .slice A m c], .int .i64 p, .int .i64 u, .slice B m' c'] w (RetP w (RPost b t xs A m c (mergeA b t xs p u ys) w)) := by
  obtain ⟨h1, h2, h3⟩ := mayMerge_parts hmm
  unfold mergeA
  rw [hm, hmm, if_pos (by rfl)]
  exact RefMerge_c hm h1 h3 hm' hcap' hv hv'
theorem RefMerge_same {miss : Bool} (h : mergeA b t xs p u ys = .same miss) : Calls Tryd.prog 31 #[.agg #[.int .i64 b, .int .i64 t, .slice A m c], .int .i64 p, .int .i64 u, .slice B m' c'] w (RetP w fun v _ => v = .tuple #[.agg #[.int .i64 b, .int .i64 t, .slice A m c], .bool miss, .int .i64 0, .int .i64 0]) :=
  (RefMerge_any hm hmm hm' hcap' hv hv').mono fun e w' ⟨v, he, hr, hb⟩ => by
    rw [h] at hr
    exact ⟨v, he, hr, hb⟩
theorem RefMerge_new {es : List Entry} (h : mergeA b t xs p u ys = .new es) : Calls Tryd.prog 31 #[.agg #[.int .i64 b, .int .i64 t, .slice A m c], .int .i64 p, .int .i64 u, .slice B m' c'] w (RetP w fun v w' => ∃ (D : Option Addr) (c1 : Nat) (cut : Int), v = .tuple #[.agg #[.int .i64 b, .int .i64 t, .slice D es.length c1], .bool false, .int .i64 0, .int .i64 cut] ∧ View encE 4 w' (Fresh w w') D es.length es ∧ es.length ≤ c1) :=
  (RefMerge_any hm hmm hm' hcap' hv hv').mono fun e w' ⟨v, he, hr, hb⟩ => by
    rw [h] at hr
    obtain ⟨q, cut, hq, hn⟩ := hr
    obtain ⟨D, c1, rfl, hD, hl⟩ := newrow_viewE hn
    exact ⟨v, he, ⟨D, c1, cut, hq, hD, hl⟩, hb⟩
theorem RefMerge_bad {e0 : Int} (h : mergeA b t xs p u ys = .bad e0) : Calls Tryd.prog 31 #[.agg #[.int .i64 b, .int .i64 t, .slice A m c], .int .i64 p, .int .i64 u, .slice B m' c'] w (RetP w fun v _ => ∃ cut : Int, v = .tuple #[.agg #[.int .i64 0, .int .i64 0, .slice none 0 0], .bool false, .int .i64 e0, .int .i64 cut]) :=
  (RefMerge_any hm hmm hm' hcap' hv hv').mono fun e w' ⟨v, he, hr, hb⟩ => by
    rw [h] at hr
    exact ⟨v, he, hr, hb⟩
end
theorem bad_nz {b t p u e0 : Int} {xs ys : List Entry} (h : mergeA b t xs p u ys = .bad e0) : e0 = 1 ∨ e0 = 9 := by
  unfold mergeA mergeS mergeFrom at h
  repeat' split at h
  all_goals (cases h <;> first | exact .inl rfl | exact .inr rfl)
theorem new_le {b t p u : Int} {xs ys es : List Entry} (h : mergeA b t xs p u ys = .new es) : es.length ≤ 512 := by
  unfold mergeA mergeS mergeFrom at h
  repeat' split at h
  all_goals (cases h <;> omega)
theorem mergeA_no {b t p u : Int} {xs ys : List Entry} (h : (may ⟨b, t, xs⟩ && mayMerge p u ys) = false) : mergeA b t xs p u ys = .bad 1 := by
  unfold mergeA
  rw [h, if_neg (by decide)]
theorem row_cap {σ : St} {w : World} {A : Option Addr} {n c sz : Nat} {e : TypeId} {xs : List Value} (hw : WInv σ w) (hr : RwAt σ.rw ⟨.slice A n c, e, sz, n, xs⟩) : n ≤ c := by
  rcases Nat.eq_zero_or_pos n with h0 | h0
  · omega
  · obtain ⟨_, _, h1⟩ := own_some (hw.rw _ hr.mem) h0
    exact h1
theorem EqLog_same {w : World} {b t : Int} {A B : Option Addr} {m c m' c' : Nat} {xs : List Entry} (hv : View encE 4 w (Low w) A m xs) (hu : View encE 4 w (Low w) B m' xs) :
    Calls Tryd.prog 17 #[.agg #[.int .i64 b, .int .i64 t, .slice A m c], .agg #[.int .i64 b, .int .i64 t, .slice B m' c']] w (Ret w (.bool true)) := by
  have := EqLog_c (b := b) (t := t) (b' := b) (t' := t) (c := c) (c' := c') hv hu
  rwa [decide_eq_true ⟨rfl, rfl, rfl⟩] at this
theorem EqEntries_same {w : World} {A B : Option Addr} {m c m' c' : Nat} {xs : List Entry} (hv : View encE 4 w (Low w) A m xs) (hu : View encE 4 w (Low w) B m' xs) :
    Calls Tryd.prog 22 #[.slice A m c, .slice B m' c'] w (Ret w (.bool true)) := by
  have := EqEntries_c (c := c) (c' := c') hv hu
  rwa [decide_eq_true rfl] at this
end Go.Ent
