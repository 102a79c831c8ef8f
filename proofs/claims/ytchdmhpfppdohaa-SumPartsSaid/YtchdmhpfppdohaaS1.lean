import Derived.Test.YtchdmhpfppdohaaByt
import Derived.Test.YtchdmhpfppdohaaCrc
namespace Go.Crc
open Go.Proofs Go.RowKit Go.Vg Go.Byt
set_option maxRecDepth 100000
attribute [local irreducible] V VO VP VX thenQ blockQ loopQ finQ elAt subA

theorem bit_one {c : Nat} (h : ((c &&& 1 : Nat) : Int) = 1) : bitC c = c / 2 ^ 1 ^^^ 3988292384 := by
  rw [Nat.and_one_is_mod] at h
  unfold bitC
  rw [if_pos (by omega)]
theorem bit_zero {c : Nat} (h : ¬ ((c &&& 1 : Nat) : Int) = 1) : bitC c = c / 2 ^ 1 := by
  rw [Nat.and_one_is_mod] at h
  unfold bitC
  rw [if_neg (by omega)]
attribute [local irreducible] bitC
theorem step_c {w : World} {s : Nat} (hs : s < 2 ^ 32) : Calls Try.prog 19 #[.int .u32 (s : Int)] w (Ret w (.int .u32 (stepC s : Nat))) := by
  refine calls_start (vs := [.int .u32 (s : Int)]) Try.func19 rfl Try.ntmps19 rfl ?_
  repeat' (first | (guard_target =~ VO _ _ _ _ _ _ _ _; first | with_reducible refine VO.nil ?_ | refine VO.cons ?_ | (refine VO.gTake (hg := ?_) (h := ?_); (first | with_reducible rfl | with_reducible exact Bool.not_true | with_reducible exact Bool.not_false | decide)) | (refine VO.gSkipT (hg := ?_) (h := ?_); (first | with_reducible rfl | with_reducible exact Bool.not_true | with_reducible exact Bool.not_false | decide)) | (refine VO.gSkipF (hg := ?_) (h := ?_); (first | with_reducible rfl | with_reducible exact Bool.not_true | with_reducible exact Bool.not_false | decide)) | (guard_target =~ VO _ _ _ _ _ (⟨_, _, _, _, _, some _⟩ :: _) _ _; refine VO.gSkipUn (h := ?_)) | (refine VO.gsD (h1 := ?_) (h2 := ?_) <;> intro _ <;> try (exfalso; omega)) | (refine VO.gsN (h1 := ?_) (h2 := ?_) <;> intro _ <;> try (exfalso; omega)) | (refine VO.gsNB (h1 := ?_) (h2 := ?_) <;> intro _ <;> try (exfalso; omega)) | (refine VO.gsB (h1 := ?_) (h2 := ?_) <;> intro _ <;> try (exfalso; omega))) | (guard_target =~ VX _ _ _ _ _ _; first | (guard_target =~ VX _ _ _ ⟨_, Go.Op.binOp _ _ _ _ _, _, _, _, _⟩ _ _; first | refine VX.andN (ha := by exact hx) (hb := by decide) (h := ?_) | refine VX.shrN (h := ?_) | refine VX.xorN (ha := by exact Nat.lt_of_le_of_lt (Nat.div_le_self _ _) hx) (hb := by decide) (h := ?_) | refine VX.add64 (h := ?_) | refine VX.sub64 (h := ?_) | refine VX.mul64 (h := ?_) | refine VX.bin (h := ?_) | refine VX.eqNilI (h := ?_) | refine VX.eqNilJ (h := ?_) | refine VX.neNilI (h := ?_) | refine VX.neNilJ (h := ?_) | refine VX.eqNilS (h := ?_) | refine VX.eqStr (h := ?_) | refine VX.neStr (h := ?_) | refine VX.eqBool (h := ?_) | refine VX.neBool (h := ?_) | refine VX.eqA (h := ?_) | refine VX.neA (h := ?_)) | (guard_target =~ VX _ _ _ ⟨_, Go.Op.move _, _, _, _, _⟩ _ _; first | refine VX.move (h := ?_)) | (guard_target =~ VX _ _ _ ⟨_, Go.Op.assign _, _, _, _, _⟩ _ _; first | refine VX.assign (h := ?_)) | (guard_target =~ VX _ _ _ ⟨_, Go.Op.load _ _, _, _, _, _⟩ _ _; first | refine VX.load1 (h := ?_) | refine VX.loadA (h := ?_) | refine VX.loadF1 (h := ?_) | refine VX.loadFA (h := ?_)) | (guard_target =~ VX _ _ _ ⟨_, Go.Op.fieldAddr _ _ _, _, _, _, _⟩ _ _; first | refine VX.fieldN (h := ?_) | refine VX.fieldF (h := ?_) | refine VX.fieldO (h := ?_) | refine VX.fieldG (h := ?_)) | (guard_target =~ VX _ _ _ ⟨_, Go.Op.extract _ _, _, _, _, _⟩ _ _; first | refine VX.extract (h := ?_)) | (guard_target =~ VX _ _ _ ⟨_, Go.Op.pick _ _ _, _, _, _, _⟩ _ _; first | refine VX.pick (h := ?_)) | (guard_target =~ VX _ _ _ ⟨_, Go.Op.unOp _ _ _, _, _, _, _⟩ _ _; first | refine VX.not (h := ?_)) | (guard_target =~ VX _ _ _ ⟨_, Go.Op.store _ _ _, _, _, _, _⟩ _ _; first | refine VX.store1 (h := ?_) | refine VX.storeA (h := ?_)) | (guard_target =~ VX _ _ _ ⟨_, Go.Op.indexAddr _ _ _, _, _, _, _⟩ _ _; first | refine VX.idxF (h := ?_)) | (guard_target =~ VX _ _ _ ⟨_, Go.Op.makeInterface _ _, _, _, _, _⟩ _ _; first | refine VX.mkIface (h := ?_)) | (guard_target =~ VX _ _ _ ⟨_, Go.Op.call _, _, _, _, _⟩ _ _; first | refine VX.lenS (h := ?_) | refine VX.lenStr (h := ?_) | refine VX.min2 (h := ?_) | refine VX.max2 (h := ?_)) | (guard_target =~ VX _ _ _ ⟨_, Go.Op.box _ _, _, _, _, _⟩ _ _; first | refine VX.box1 (h := fun _ => ?_) | refine VX.boxA (h := fun _ => ?_)) | (guard_target =~ VX _ _ _ ⟨_, Go.Op.alloc _, _, _, _, _⟩ _ _; first | refine VX.alloc1 (h := fun _ => ?_) | refine VX.allocA (h := fun _ => ?_)) | (guard_target =~ VX _ _ _ ⟨_, Go.Op.buildSlice _ _ _, _, _, _, _⟩ _ _; first | refine VX.lit0 (h := fun _ => ?_) | refine VX.lit (h := fun _ => ?_)) | (guard_target =~ VX _ _ _ ⟨_, Go.Op.build _ _, _, _, _, _⟩ _ _; first | refine VX.build (h := ?_)) | (guard_target =~ VX _ _ _ ⟨_, Go.Op.field _ _ _, _, _, _, _⟩ _ _; first | refine VX.field (h := ?_)) | (guard_target =~ VX _ _ _ ⟨_, Go.Op.nilCheck _, _, _, _, _⟩ _ _; first | refine VX.nilCheck (h := ?_))) | (guard_target =~ V _ _ _ _ _ _ _; first | with_reducible refine V.seq ?_ | with_reducible refine V.region ?_ | with_reducible refine V.skip ?_ | with_reducible refine V.exit ?_ | with_reducible refine V.block ?_ | (guard_target =~ V _ _ _ _ (Go.Code.loop _) _ _; first | (refine V.loopA (fun (x : Nat × Nat) => ⟨[(0, .int .u32 (x.1 : Int)), (3, .int .i64 x.2)], [], [], [(w, Low w)]⟩) (fun x => x.1 < 2 ^ 32 ∧ x.2 ≤ 8 ∧ stepK (8 - x.2) x.1 = stepC s) (fun x => 8 - x.2) (s, 0) (h0 := ⟨hs, by dsimp only; omega, rfl⟩) (hr := ?_); rintro ⟨x, k⟩ ⟨hx, hk, he⟩; dsimp only at hx hk he ⊢)) | (guard_target =~ V _ _ _ _ Go.Code.ret _ _; first | refine V.retV (he := ?_) | refine V.retP (h := fun w hw hb => ?_)) | (guard_target =~ V _ _ _ _ (Go.Code.cond _ _ _) _ _; first | (refine V.condT (hg := ?_) (h := ?_); (first | with_reducible rfl | with_reducible exact Bool.not_true | with_reducible exact Bool.not_false | decide)) | (refine V.condF (hg := ?_) (h := ?_); (first | with_reducible rfl | with_reducible exact Bool.not_true | with_reducible exact Bool.not_false | decide)) | (refine V.condD (h1 := ?_) (h2 := ?_) <;> intro _ <;> try (exfalso; omega)) | (refine V.condN (h1 := ?_) (h2 := ?_) <;> intro _ <;> try (exfalso; omega)) | (refine V.condNB (h1 := ?_) (h2 := ?_) <;> intro _ <;> try (exfalso; omega)) | (refine V.condB (h1 := ?_) (h2 := ?_) <;> intro _ <;> try (exfalso; omega)))) | (guard_target =~ VP _ _ _ _ _ _ _ _ _; first | with_reducible refine VP.done ?_ | with_reducible refine VP.all ?_ | refine VP.u (h := ?_) | refine VP.l (h := ?_)) | (guard_target =~ VPs _ _ _ _ _ _ _ _ _; first | exact True.intro | (refine VPs.cons (o := ?_) (g := ?_) (ho := ?_) (hg := ?_) (hgr := ?_) (h := ?_) ?_; rotate_left 2; rfl; rfl; rfl)) | with_reducible refine thenQ_normal ?_ | with_reducible refine thenQ_exit ?_ | with_reducible refine blockQ_normal ?_ | with_reducible refine blockQ_hit ?_ | (guard_target =~ blockQ _ _ _ _; refine blockQ_miss (h := ?_)) | with_reducible refine loopQ_exit ?_)
  · rename_i h
    have hb := bit_one h
    have h2 := bit_lt hx
    rw [hb] at h2
    refine loopQ_to (x / 2 ^ 1 ^^^ 3988292384, k + 1) (h2 := ⟨h2, by dsimp only; omega, ?_⟩) (h3 := by dsimp only; omega)
    rw [← he, ← hb, show 8 - k = (8 - (k + 1)) + 1 by omega]
    rfl
  · rename_i h
    have hb := bit_zero h
    have h2 := bit_lt hx
    rw [hb] at h2
    refine loopQ_to (x / 2 ^ 1, k + 1) (h2 := ⟨h2, by dsimp only; omega, ?_⟩) (h3 := by dsimp only; omega)
    rw [← he, ← hb, show 8 - k = (8 - (k + 1)) + 1 by omega]
    rfl
  · obtain rfl : k = 8 := by omega
    rw [← he]
    rfl
end Go.Crc
