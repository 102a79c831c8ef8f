/-
  fail.At, and errors handed on.
-/
import Derived.Test.YtlidjmchohkhcaaDoorNum
namespace Go.Err
open Go.Proofs Go.RowKit Go.Vg Go.Extern
set_option maxRecDepth 100000
set_option linter.unusedVariables false

theorem box_view {w w0 : World} {σ : St} {b : Nat} {cs : List Value} {e : TypeId} {α : Type} {enc : α → List Value} {sz : Nat} {x : α} (h : WInv σ w) (hc : CkAt σ.ck w0 (Low w0)) (hb : BxAt σ.bx b cs e) (hok : EncOk enc sz) (h0 : 0 < sz) (hcs : cs = enc x) :
    View enc sz w (Fresh w0 w) (some ⟨b, 0, none⟩) 1 [x] := by
  subst hcs
  have hm : some b ∈ σ.blks := by
    unfold St.blks
    exact List.mem_append_left _ (List.mem_map.2 ⟨_, hb.mem, rfl⟩)
  have hlt : b < w.heap.size := by
    have h1 := cell_bx h hb 0
    have hl := hok.len x
    rw [List.getElem?_eq_getElem (by omega)] at h1
    rcases Nat.lt_or_ge b w.heap.size with h | h
    · exact h
    · simp [World.cell?, Array.getElem?_eq_none h] at h1
  refine ⟨hok, rfl, by omega, fun _ => ⟨_, rfl, ⟨Nat.le_of_not_lt fun hl => h.sep _ hc.mem _ hm b rfl hl, hlt⟩, fun k hk j u hu => ?_⟩⟩
  obtain rfl : k = 0 := by simpa using hk
  simp only [List.getElem_cons_zero] at hu
  have := cell_bx h hb j
  rw [hu] at this
  rw [add_add, add_none]
  simpa using this

theorem ErrV.out {w0 w1 w2 w : World} {σ : St} {v : Value} {e : Int} (h : ErrV w2 (Fresh w1 w2) v e) (hw : WInv σ w) (hc : CkAt σ.ck w2 (Fresh w1 w2)) (hs : w0.heap.size ≤ w1.heap.size) : ErrV w (Fresh w0 w) v e := by
  rcases h with h | ⟨f, s, h1, h2⟩
  · exact .inl h
  · exact .inr ⟨f, s, h1, (hw.view hc h2).sub fun g hg => ⟨Nat.le_trans hs hg.1, Nat.lt_of_lt_of_le hg.2 (hw.ck _ hc.mem).size⟩⟩
theorem ErrV.nil_ (w : World) (S : Nat → Prop) : ErrV w S .nilIface 0 := .inl ⟨rfl, rfl⟩

section
variable {P : Program} [HasTab P] {n : Nat} {K : St → Prop} {md : M} {gd : Option (Nat × Bool)}
variable {tm : Tm} {bx bx' : List Bx} {rw rw' : List Rw} {ck ck' : List (World × (Nat → Prop))}
variable {d : Tmp} {ty t e : TypeId} {pos : String} {af : Array Edge} {x y z : Operand} {v u : Value}
/-- A callee that hands back an error of number c, within what F says. -/
theorem VX.callEr {g : Bool} {f : Nat} {args : List Operand} {ts : Array TypeId} {vs : List Value} {F : Value → Value} {c : Int} {dd : Option Tmp} {w0 : World}
    (hv : Evs tm args vs := by ((repeat' (guard_target =~ Evs _ _ _; first | exact Evs.nil | refine' Evs.cons rfl _)); fail_if_success refine ?_)) (hF : nmem f (HasTab.F P) = true := by rfl) (hd : dOk n dd = true := by rfl)
    (hk : CkAt ck w0 (Low w0) := by ((repeat' (guard_target =~ CkAt _ _ _; first | exact CkAt.head | refine' CkAt.tail _)); fail_if_success refine ?_))
    (hc : ∀ w, WInv ⟨tm, bx, rw, ck⟩ w → Calls P f vs.toArray w (RetP w fun v w' => ∃ ev, v = F ev ∧ ErrV w' (Fresh w w') ev c))
    (h : ∀ ev w1 w2, w0.heap.size ≤ w1.heap.size → ErrV w2 (Fresh w1 w2) ev c → K ⟨putT dd (F ev) tm, bx, rw, (w2, Fresh w1 w2) :: ck⟩) :
    VX P n (.x g) ⟨dd, .call { callee := .value (.func f), args := args.toArray, argTypes := ts }, ty, pos, af, gd⟩ ⟨tm, bx, rw, ck⟩ K :=
  VX.callP (p := fun w v w' => w0.heap.size ≤ w.heap.size ∧ ∃ ev, v = F ev ∧ ErrV w' (Fresh w w') ev c) hv hF hd
    (fun w hw => (hc w hw).mono fun _ _ ⟨v, h1, h2, h3⟩ => ⟨v, h1, ⟨(hw.ck _ hk.mem).size, h2⟩, h3⟩)
    (by rintro v w1 w2 ⟨hs, ev, rfl, he⟩; exact h ev w1 w2 hs he)
end
attribute [local irreducible] V VO VP VX thenQ blockQ loopQ finQ elAt subA

theorem At_c {w : World} {s : ByteArray} {e : Int} :
    Calls Tryd.prog 16 #[.string s, .iface 48 (.int .i64 e)] w (RetP w fun v w' => ∃ ev, v = ev ∧ ErrV w' (Fresh w w') ev e) := by
  refine calls_start (vs := [.string s, .iface 48 (.int .i64 e)]) Tryd.func16 rfl Tryd.ntmps16 rfl ?_
  repeat' (first | (guard_target =~ VO _ _ _ _ _ _ _ _; first | with_reducible refine VO.nil ?_ | refine VO.cons ?_ | (refine VO.gTake (hg := ?_) (h := ?_); (first | with_reducible rfl | with_reducible exact Bool.not_true | with_reducible exact Bool.not_false | decide)) | (refine VO.gSkipT (hg := ?_) (h := ?_); (first | with_reducible rfl | with_reducible exact Bool.not_true | with_reducible exact Bool.not_false | decide)) | (refine VO.gSkipF (hg := ?_) (h := ?_); (first | with_reducible rfl | with_reducible exact Bool.not_true | with_reducible exact Bool.not_false | decide)) | (guard_target =~ VO _ _ _ _ _ (⟨_, _, _, _, _, some _⟩ :: _) _ _; refine VO.gSkipUn (h := ?_)) | (refine VO.gsD (h1 := ?_) (h2 := ?_) <;> intro _ <;> try (exfalso; omega)) | (refine VO.gsN (h1 := ?_) (h2 := ?_) <;> intro _ <;> try (exfalso; omega)) | (refine VO.gsNB (h1 := ?_) (h2 := ?_) <;> intro _ <;> try (exfalso; omega)) | (refine VO.gsB (h1 := ?_) (h2 := ?_) <;> intro _ <;> try (exfalso; omega))) | (guard_target =~ VX _ _ _ _ _ _; first | (guard_target =~ VX _ _ _ ⟨_, Go.Op.move _, _, _, _, _⟩ _ _; first | refine VX.move (h := ?_)) | (guard_target =~ VX _ _ _ ⟨_, Go.Op.assign _, _, _, _, _⟩ _ _; first | refine VX.assign (h := ?_)) | (guard_target =~ VX _ _ _ ⟨_, Go.Op.load _ _, _, _, _, _⟩ _ _; first | refine VX.load1 (h := ?_) | refine VX.loadA (h := ?_) | refine VX.loadF1 (h := ?_) | refine VX.loadFA (h := ?_)) | (guard_target =~ VX _ _ _ ⟨_, Go.Op.fieldAddr _ _ _, _, _, _, _⟩ _ _; first | refine VX.fieldN (h := ?_) | refine VX.fieldF (h := ?_) | refine VX.fieldO (h := ?_) | refine VX.fieldG (h := ?_)) | (guard_target =~ VX _ _ _ ⟨_, Go.Op.extract _ _, _, _, _, _⟩ _ _; first | refine VX.extract (h := ?_)) | (guard_target =~ VX _ _ _ ⟨_, Go.Op.pick _ _ _, _, _, _, _⟩ _ _; first | refine VX.pick (h := ?_)) | (guard_target =~ VX _ _ _ ⟨_, Go.Op.binOp _ _ _ _ _, _, _, _, _⟩ _ _; first | refine VX.add64 (h := ?_) | refine VX.sub64 (h := ?_) | refine VX.mul64 (h := ?_) | refine VX.bin (h := ?_) | refine VX.eqNilI (h := ?_) | refine VX.eqNilJ (h := ?_) | refine VX.neNilI (h := ?_) | refine VX.neNilJ (h := ?_) | refine VX.eqNilS (h := ?_) | refine VX.eqStr (h := ?_) | refine VX.neStr (h := ?_) | refine VX.eqBool (h := ?_) | refine VX.neBool (h := ?_) | refine VX.eqA (h := ?_) | refine VX.neA (h := ?_)) | (guard_target =~ VX _ _ _ ⟨_, Go.Op.unOp _ _ _, _, _, _, _⟩ _ _; first | refine VX.not (h := ?_)) | (guard_target =~ VX _ _ _ ⟨_, Go.Op.store _ _ _, _, _, _, _⟩ _ _; first | refine VX.store1 (h := ?_) | refine VX.storeA (h := ?_)) | (guard_target =~ VX _ _ _ ⟨_, Go.Op.indexAddr _ _ _, _, _, _, _⟩ _ _; first | refine VX.idxF (h := ?_)) | (guard_target =~ VX _ _ _ ⟨_, Go.Op.makeInterface _ _, _, _, _, _⟩ _ _; first | refine VX.mkIface (h := ?_)) | (guard_target =~ VX _ _ _ ⟨_, Go.Op.call _, _, _, _, _⟩ _ _; first | refine VX.lenS (h := ?_) | refine VX.lenStr (h := ?_) | refine VX.min2 (h := ?_) | refine VX.max2 (h := ?_)) | (guard_target =~ VX _ _ _ ⟨_, Go.Op.box _ _, _, _, _, _⟩ _ _; first | refine VX.box1 (h := fun _ => ?_) | refine VX.boxA (h := fun _ => ?_)) | (guard_target =~ VX _ _ _ ⟨_, Go.Op.alloc _, _, _, _, _⟩ _ _; first | refine VX.alloc1 (h := fun _ => ?_) | refine VX.allocA (h := fun _ => ?_)) | (guard_target =~ VX _ _ _ ⟨_, Go.Op.buildSlice _ _ _, _, _, _, _⟩ _ _; first | refine VX.lit0 (h := fun _ => ?_) | refine VX.lit (h := fun _ => ?_)) | (guard_target =~ VX _ _ _ ⟨_, Go.Op.build _ _, _, _, _, _⟩ _ _; first | refine VX.build (h := ?_)) | (guard_target =~ VX _ _ _ ⟨_, Go.Op.field _ _ _, _, _, _, _⟩ _ _; first | refine VX.field (h := ?_)) | (guard_target =~ VX _ _ _ ⟨_, Go.Op.nilCheck _, _, _, _, _⟩ _ _; first | refine VX.nilCheck (h := ?_))) | (guard_target =~ V _ _ _ _ _ _ _; first | with_reducible refine V.seq ?_ | with_reducible refine V.region ?_ | with_reducible refine V.skip ?_ | with_reducible refine V.exit ?_ | with_reducible refine V.block ?_ | (guard_target =~ V _ _ _ _ Go.Code.ret _ _; first | refine V.retV (he := ?_) | refine V.retP (h := fun w hw hb => ?_)) | (guard_target =~ V _ _ _ _ (Go.Code.cond _ _ _) _ _; first | (refine V.condT (hg := ?_) (h := ?_); (first | with_reducible rfl | with_reducible exact Bool.not_true | with_reducible exact Bool.not_false | decide)) | (refine V.condF (hg := ?_) (h := ?_); (first | with_reducible rfl | with_reducible exact Bool.not_true | with_reducible exact Bool.not_false | decide)) | (refine V.condD (h1 := ?_) (h2 := ?_) <;> intro _ <;> try (exfalso; omega)) | (refine V.condN (h1 := ?_) (h2 := ?_) <;> intro _ <;> try (exfalso; omega)) | (refine V.condNB (h1 := ?_) (h2 := ?_) <;> intro _ <;> try (exfalso; omega)) | (refine V.condB (h1 := ?_) (h2 := ?_) <;> intro _ <;> try (exfalso; omega)))) | (guard_target =~ VP _ _ _ _ _ _ _ _ _; first | with_reducible refine VP.done ?_ | with_reducible refine VP.all ?_ | refine VP.u (h := ?_) | refine VP.l (h := ?_)) | (guard_target =~ VPs _ _ _ _ _ _ _ _ _; first | exact True.intro | (refine VPs.cons (o := ?_) (g := ?_) (ho := ?_) (hg := ?_) (hgr := ?_) (h := ?_) ?_; rotate_left 2; rfl; rfl; rfl)) | with_reducible refine thenQ_normal ?_ | with_reducible refine thenQ_exit ?_ | with_reducible refine blockQ_normal ?_ | with_reducible refine blockQ_hit ?_ | (guard_target =~ blockQ _ _ _ _; refine blockQ_miss (h := ?_)) | with_reducible refine loopQ_exit ?_)
  exact ⟨_, rfl, .inr ⟨_, s, rfl, box_view hw CkAt.head BxAt.head encF_ok (by decide) rfl⟩⟩
end Go.Err
