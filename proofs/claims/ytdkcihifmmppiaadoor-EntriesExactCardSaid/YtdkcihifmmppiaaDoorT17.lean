import Derived.Test.YtdkcihifmmppiaaDoorT16
set_option linter.unusedVariables false
namespace Go.Vg
open Go.RowKit
theorem View.out {α : Type} {enc : α → List Value} {sz : Nat} {w0 w1 w2 w : World} {σ : St} {A : Option Addr} {n : Nat} {xs : List α} (h : View enc sz w2 (Fresh w1 w2) A n xs) (hw : WInv σ w) (hc : CkAt σ.ck w2 (Fresh w1 w2)) (hs : w0.heap.size ≤ w1.heap.size) : View enc sz w (Fresh w0 w) A n xs :=
  (hw.view hc h).sub fun g hg => ⟨Nat.le_trans hs hg.1, Nat.lt_of_lt_of_le hg.2 (hw.ck _ hc.mem).size⟩
section
variable {P : Program} [HasTab P] {n : Nat} {K : St → Prop} {md : M} {gd : Option (Nat × Bool)}
variable {tm : Tm} {bx bx' : List Bx} {rw rw' : List Rw} {ck ck' : List (World × (Nat → Prop))}
variable {d : Tmp} {ty t e : TypeId} {pos : String} {af : Array Edge} {x y z : Operand} {v u : Value}
/-- As callP; that the callee began no sooner than w0 is kept. -/
theorem VX.callQ {g : Bool} {f : Nat} {args : List Operand} {ts : Array TypeId} {vs : List Value} {p : World → Value → World → Prop} {dd : Option Tmp} (w0 : World)
    (hv : Evs tm args vs := by ((repeat' (guard_target =~ Evs _ _ _; first | exact Evs.nil | refine' Evs.cons rfl _)); fail_if_success refine ?_)) (hF : nmem f (HasTab.F P) = true := by rfl) (hd : dOk n dd = true := by rfl)
    (hk : CkAt ck w0 (Low w0) := by ((repeat' (guard_target =~ CkAt _ _ _; first | exact CkAt.head | refine' CkAt.tail _)); fail_if_success refine ?_))
    (hc : ∀ w, WInv ⟨tm, bx, rw, ck⟩ w → Calls P f vs.toArray w (RetP w (p w)))
    (h : ∀ v w w', w0.heap.size ≤ w.heap.size → p w v w' → K ⟨putT dd v tm, bx, rw, (w', Fresh w w') :: ck⟩) :
    VX P n (.x g) ⟨dd, .call { callee := .value (.func f), args := args.toArray, argTypes := ts }, ty, pos, af, gd⟩ ⟨tm, bx, rw, ck⟩ K :=
  VX.callP (p := fun w v w' => w0.heap.size ≤ w.heap.size ∧ p w v w') hv hF hd
    (fun w hw => (hc w hw).mono fun _ _ ⟨v, h1, h2, h3⟩ => ⟨v, h1, ⟨(hw.ck _ hk.mem).size, h2⟩, h3⟩)
    (fun v w1 w2 h1 => h v w1 w2 h1.1 h1.2)
end
end Go.Vg
namespace Go.Ent
open Go.Proofs Go.RowKit Go.Vg Go.Err
set_option maxRecDepth 100000
attribute [local irreducible] V VO VP VX thenQ blockQ loopQ finQ elAt subA good isTerm follow may ErrV Calls termAt matchN mergedS appendS

theorem newrow_viewE {w w' : World} {r : Value} {n : Nat} {xs : List Entry} (h : NewRow w 64 4 r n (xs.flatMap encE) w') : ∃ A c, r = .slice A n c ∧ View encE 4 w' (Fresh w w') A n xs ∧ n ≤ c := by
  obtain ⟨A, c, rfl⟩ := own_form h.1
  refine ⟨A, c, rfl, (view_of_own h.1 encE_ok (by decide)).sub fun g hg => ⟨h.2 g hg, (h.1.lt g hg).2⟩, ?_⟩
  rcases Nat.eq_zero_or_pos n with h0 | h0
  · omega
  · obtain ⟨_, _, h1⟩ := own_some h.1 h0
    exact h1
theorem CopyLog_v {w : World} {b t : Int} {A : Option Addr} {m c : Nat} {xs : List Entry} (hm : m ≤ 1048576) (hv : View encE 4 w (Low w) A m xs) :
    Calls Tryd.prog 32 #[.agg #[.int .i64 b, .int .i64 t, .slice A m c]] w (RetP w fun v w' => ∃ (B : Option Addr) (c' : Nat), v = .agg #[.int .i64 b, .int .i64 t, .slice B xs.length c'] ∧ View encE 4 w' (Fresh w w') B xs.length xs ∧ xs.length ≤ c') :=
  (CopyLog_c hm hv).mono fun e w' ⟨v, he, ⟨_, r, _, hv, hr⟩, hb⟩ => by
    obtain ⟨B, c', rfl, h⟩ := newrow_viewE hr
    exact ⟨v, he, ⟨B, c', hv, h⟩, hb⟩
theorem RefCut_c {w : World} {b t i : Int} {A : Option Addr} {m c k : Nat} {xs : List Entry} (hm : m ≤ 1048576) (hi : i = b + k) (hb : -4611686018427387904 ≤ b ∧ b ≤ 4611686018427387904) (hk : k ≤ xs.length) (hv : View encE 4 w (Low w) A m xs) :
    Calls Tryd.prog 37 #[.agg #[.int .i64 b, .int .i64 t, .slice A m c], .int .i64 i] w (RetP w fun v w' => ∃ (B : Option Addr) (c' : Nat), v = .agg #[.int .i64 b, .int .i64 t, .slice B k c'] ∧ View encE 4 w' (Fresh w w') B k (xs.take k) ∧ k ≤ c') := by
  refine calls_start (vs := [.agg #[.int .i64 b, .int .i64 t, .slice A m c], .int .i64 i]) Tryd.func37 rfl Tryd.ntmps37 rfl ?_
  have hl := hv.len
  repeat' (first | (guard_target =~ VO _ _ _ _ _ _ _ _; first | with_reducible refine VO.nil ?_ | refine VO.cons ?_ | (refine VO.gTake (hg := ?_) (h := ?_); (first | with_reducible rfl | with_reducible exact Bool.not_true | with_reducible exact Bool.not_false | decide)) | (refine VO.gSkipT (hg := ?_) (h := ?_); (first | with_reducible rfl | with_reducible exact Bool.not_true | with_reducible exact Bool.not_false | decide)) | (refine VO.gSkipF (hg := ?_) (h := ?_); (first | with_reducible rfl | with_reducible exact Bool.not_true | with_reducible exact Bool.not_false | decide)) | (guard_target =~ VO _ _ _ _ _ (⟨_, _, _, _, _, some _⟩ :: _) _ _; refine VO.gSkipUn (h := ?_)) | (refine VO.gsD (h1 := ?_) (h2 := ?_) <;> intro _ <;> try (exfalso; omega)) | (refine VO.gsN (h1 := ?_) (h2 := ?_) <;> intro _ <;> try (exfalso; omega)) | (refine VO.gsNB (h1 := ?_) (h2 := ?_) <;> intro _ <;> try (exfalso; omega)) | (refine VO.gsB (h1 := ?_) (h2 := ?_) <;> intro _ <;> try (exfalso; omega))) | (guard_target =~ VX _ _ _ _ _ _; first | (guard_target =~ VX _ _ _ ⟨_, Go.Op.call _, _, _, _, _⟩ _ _; first | (guard_target =~ VX _ _ _ ⟨_, Go.Op.call ⟨Go.Callee.value (Go.Operand.func 32), _, _⟩, _, _, _, _⟩ _ _; first | (refine VX.callQ w (p := fun w v w' => ∃ (B : Option Addr) (c' : Nat), v = .agg #[.int .i64 b, .int .i64 t, .slice B xs.length c'] ∧ View encE 4 w' (Fresh w w') B xs.length xs ∧ xs.length ≤ c') (hc := fun w hw => CopyLog_v hm (hw.vl hv)) (h := ?_); rintro _ w1 w2 hs ⟨B, c', rfl, hB, hc'⟩)) | refine VX.lenS (h := ?_) | refine VX.lenStr (h := ?_) | refine VX.min2 (h := ?_) | refine VX.max2 (h := ?_)) | (guard_target =~ VX _ _ _ ⟨_, Go.Op.slice _ _ _ _ _, _, _, _, _⟩ _ _; first | refine VX.sliceHi (hw := hB) (k := k) (hk := by omega) (h := fun hB2 => ?_)) | (guard_target =~ VX _ _ _ ⟨_, Go.Op.move _, _, _, _, _⟩ _ _; first | refine VX.move (h := ?_)) | (guard_target =~ VX _ _ _ ⟨_, Go.Op.assign _, _, _, _, _⟩ _ _; first | refine VX.assign (h := ?_)) | (guard_target =~ VX _ _ _ ⟨_, Go.Op.load _ _, _, _, _, _⟩ _ _; first | refine VX.load1 (h := ?_) | refine VX.loadA (h := ?_) | refine VX.loadF1 (h := ?_) | refine VX.loadFA (h := ?_)) | (guard_target =~ VX _ _ _ ⟨_, Go.Op.fieldAddr _ _ _, _, _, _, _⟩ _ _; first | refine VX.fieldN (h := ?_) | refine VX.fieldF (h := ?_) | refine VX.fieldO (h := ?_) | refine VX.fieldG (h := ?_)) | (guard_target =~ VX _ _ _ ⟨_, Go.Op.extract _ _, _, _, _, _⟩ _ _; first | refine VX.extract (h := ?_)) | (guard_target =~ VX _ _ _ ⟨_, Go.Op.pick _ _ _, _, _, _, _⟩ _ _; first | refine VX.pick (h := ?_)) | (guard_target =~ VX _ _ _ ⟨_, Go.Op.binOp _ _ _ _ _, _, _, _, _⟩ _ _; first | refine VX.add64 (h := ?_) | refine VX.sub64 (h := ?_) | refine VX.mul64 (h := ?_) | refine VX.bin (h := ?_) | refine VX.eqNilI (h := ?_) | refine VX.eqNilJ (h := ?_) | refine VX.neNilI (h := ?_) | refine VX.neNilJ (h := ?_) | refine VX.eqNilS (h := ?_) | refine VX.eqStr (h := ?_) | refine VX.neStr (h := ?_) | refine VX.eqBool (h := ?_) | refine VX.neBool (h := ?_) | refine VX.eqA (h := ?_) | refine VX.neA (h := ?_)) | (guard_target =~ VX _ _ _ ⟨_, Go.Op.unOp _ _ _, _, _, _, _⟩ _ _; first | refine VX.not (h := ?_)) | (guard_target =~ VX _ _ _ ⟨_, Go.Op.store _ _ _, _, _, _, _⟩ _ _; first | refine VX.store1 (h := ?_) | refine VX.storeA (h := ?_)) | (guard_target =~ VX _ _ _ ⟨_, Go.Op.indexAddr _ _ _, _, _, _, _⟩ _ _; first | refine VX.idxF (h := ?_)) | (guard_target =~ VX _ _ _ ⟨_, Go.Op.makeInterface _ _, _, _, _, _⟩ _ _; first | refine VX.mkIface (h := ?_)) | (guard_target =~ VX _ _ _ ⟨_, Go.Op.box _ _, _, _, _, _⟩ _ _; first | refine VX.box1 (h := fun _ => ?_) | refine VX.boxA (h := fun _ => ?_)) | (guard_target =~ VX _ _ _ ⟨_, Go.Op.alloc _, _, _, _, _⟩ _ _; first | refine VX.alloc1 (h := fun _ => ?_) | refine VX.allocA (h := fun _ => ?_)) | (guard_target =~ VX _ _ _ ⟨_, Go.Op.buildSlice _ _ _, _, _, _, _⟩ _ _; first | refine VX.lit0 (h := fun _ => ?_) | refine VX.lit (h := fun _ => ?_)) | (guard_target =~ VX _ _ _ ⟨_, Go.Op.build _ _, _, _, _, _⟩ _ _; first | refine VX.build (h := ?_)) | (guard_target =~ VX _ _ _ ⟨_, Go.Op.field _ _ _, _, _, _, _⟩ _ _; first | refine VX.field (h := ?_)) | (guard_target =~ VX _ _ _ ⟨_, Go.Op.nilCheck _, _, _, _, _⟩ _ _; first | refine VX.nilCheck (h := ?_))) | (guard_target =~ V _ _ _ _ _ _ _; first | with_reducible refine V.seq ?_ | with_reducible refine V.region ?_ | with_reducible refine V.skip ?_ | with_reducible refine V.exit ?_ | with_reducible refine V.block ?_ | (guard_target =~ V _ _ _ _ Go.Code.ret _ _; first | refine V.retV (he := ?_) | refine V.retP (h := fun w hw hb => ?_)) | (guard_target =~ V _ _ _ _ (Go.Code.cond _ _ _) _ _; first | (refine V.condT (hg := ?_) (h := ?_); (first | with_reducible rfl | with_reducible exact Bool.not_true | with_reducible exact Bool.not_false | decide)) | (refine V.condF (hg := ?_) (h := ?_); (first | with_reducible rfl | with_reducible exact Bool.not_true | with_reducible exact Bool.not_false | decide)) | (refine V.condD (h1 := ?_) (h2 := ?_) <;> intro _ <;> try (exfalso; omega)) | (refine V.condN (h1 := ?_) (h2 := ?_) <;> intro _ <;> try (exfalso; omega)) | (refine V.condNB (h1 := ?_) (h2 := ?_) <;> intro _ <;> try (exfalso; omega)) | (refine V.condB (h1 := ?_) (h2 := ?_) <;> intro _ <;> try (exfalso; omega)))) | (guard_target =~ VP _ _ _ _ _ _ _ _ _; first | with_reducible refine VP.done ?_ | with_reducible refine VP.all ?_ | refine VP.u (h := ?_) | refine VP.l (h := ?_)) | (guard_target =~ VPs _ _ _ _ _ _ _ _ _; first | exact True.intro | (refine VPs.cons (o := ?_) (g := ?_) (ho := ?_) (hg := ?_) (hgr := ?_) (h := ?_) ?_; rotate_left 2; rfl; rfl; rfl)) | with_reducible refine thenQ_normal ?_ | with_reducible refine thenQ_exit ?_ | with_reducible refine blockQ_normal ?_ | with_reducible refine blockQ_hit ?_ | (guard_target =~ blockQ _ _ _ _; refine blockQ_miss (h := ?_)) | with_reducible refine loopQ_exit ?_)
  exact ⟨B, c', rfl, hB2.out hw CkAt.head hs, by omega⟩
theorem app_err {b t : Int} {xs ys : List Entry} {k : Nat} (hm : may ⟨b, t, xs⟩ = true) (hl : (xs.take k ++ ys).length ≤ 512) (h : may ⟨b, t, xs.take k ++ ys⟩ = false) : appendS ⟨b, t, xs.take k⟩ ys = .error 1 := by
  have h2 := may_merged hm k ys hl
  dsimp only at h2
  rw [h] at h2
  unfold appendS
  rw [if_pos h2.symm]
theorem app_ok {b t : Int} {xs ys : List Entry} {k : Nat} (hm : may ⟨b, t, xs⟩ = true) (hl : (xs.take k ++ ys).length ≤ 512) (h : may ⟨b, t, xs.take k ++ ys⟩ = true) : appendS ⟨b, t, xs.take k⟩ ys = .ok ⟨b, t, xs.take k ++ ys⟩ := by
  have h2 := may_merged hm k ys hl
  dsimp only at h2
  rw [h] at h2
  unfold appendS
  rw [if_neg (by rw [← h2]; decide), if_neg (by rw [List.length_append] at hl; dsimp only; omega)]
/-- What ref Merge hands back. -/
def RPost (b t : Int) (xs : List Entry) (A : Option Addr) (m c : Nat) (r : MR) (w : World) (v : Value) (w' : World) : Prop :=
  match r with
  | .same miss => v = .tuple #[.agg #[.int .i64 b, .int .i64 t, .slice A m c], .bool miss, .int .i64 0, .int .i64 0]
  | .new es => ∃ (q : Value) (cut : Int), v = .tuple #[.agg #[.int .i64 b, .int .i64 t, q], .bool false, .int .i64 0, .int .i64 cut] ∧ NewRow w 64 4 q es.length (es.flatMap encE) w'
  | .bad e => ∃ cut : Int, v = .tuple #[.agg #[.int .i64 0, .int .i64 0, .slice none 0 0], .bool false, .int .i64 e, .int .i64 cut]

end Go.Ent
