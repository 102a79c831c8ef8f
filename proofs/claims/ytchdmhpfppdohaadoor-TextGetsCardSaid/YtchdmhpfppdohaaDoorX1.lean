import Derived.Test.YtchdmhpfppdohaaDoorByt
import Derived.Test.YtchdmhpfppdohaaDoorFail
import Derived.Test.YtchdmhpfppdohaaDoorTxSpec
set_option linter.unusedVariables false
namespace Go.Vg
open Go.RowKit
section
variable {P : Program} [HasTab P] {n : Nat} {K : St → Prop} {md : M} {gd : Option (Nat × Bool)}
variable {tm : Tm} {bx bx' : List Bx} {rw rw' : List Rw} {ck ck' : List (World × (Nat → Prop))}
variable {d : Tmp} {ty t e : TypeId} {pos : String} {af : Array Edge} {x y z : Operand} {v u : Value}
theorem VX.andE {k : IntKind} {a b : Nat} {t' : TypeId} (r : Nat) (hx : ev tm x = some (.int k (a : Int)) := by rfl) (hy : ev tm y = some (.int k (b : Int)) := by rfl) (ha : a < topN k) (hb : b < topN k) (he : a &&& b = r) (hd : Nat.blt d n = true := by rfl)
    (h : K ⟨(d, .int k (r : Int)) :: tm, bx, rw, ck⟩) : VX P n md ⟨some d, .binOp .and t x y t', ty, pos, af, gd⟩ ⟨tm, bx, rw, ck⟩ K :=
  VX.andN hx hy ha hb hd (by rw [he]; exact h)
end
end Go.Vg
namespace Go.Tx
open Go.Proofs Go.RowKit Go.Vg Go.Err Go.Byt
set_option maxRecDepth 100000

/-- What a point is, byte by byte. -/
def accN (lead : Nat) (l : List UInt8) : Nat → Nat
  | 0 => lead
  | i + 1 => accN lead l i * 64 + (l.getD (i + 1) 0).toNat % 64
theorem acc_lt {lead : Nat} {l : List UInt8} (h : lead < 128) : ∀ j, j ≤ 3 → accN lead l j < 128 * 64 ^ j
  | 0, _ => by simpa [accN] using h
  | j + 1, hj => by
    have := acc_lt (l := l) h j (by omega)
    rw [accN, Nat.pow_succ]
    omega
theorem acc_lt' {lead : Nat} {l : List UInt8} (h : lead < 128) {j : Nat} (hj : j ≤ 3) : accN lead l j < 33554432 :=
  Nat.lt_of_lt_of_le (acc_lt h j hj) (by
    have : 64 ^ j ≤ 64 ^ 3 := Nat.pow_le_pow_right (by decide) hj
    omega)
theorem and192 : ∀ x, x < 256 → x &&& 192 = x / 64 * 64 := by decide
theorem getD_at {l : List UInt8} {i : Nat} (h : i < l.length) : l.getD i 0 = l[i] := by
  rw [List.getD_eq_getElem?_getD, List.getElem?_eq_getElem h]
  rfl
structure PK (xs : List UInt8) (K lead least : Nat) : Prop where
  short : xs.length < K → pointS xs = 0
  byte : ∀ j, j + 1 < K → (xs.getD (j + 1) 0).toNat / 64 ≠ 2 → pointS xs = 0
  fin : K ≤ xs.length → (∀ q, q < K - 1 → (xs.getD (q + 1) 0).toNat / 64 = 2) → pointS xs = chk (accN lead xs (K - 1)) least K
theorem pk4 {xs : List UInt8} (h : 240 ≤ (xs.getD 0 0).toNat) (h2 : (xs.getD 0 0).toNat < 248) : PK xs 4 ((xs.getD 0 0).toNat % 2 ^ 3) 65536 := by
  have e : pointS xs = if xs.length < 4 ∨ (xs.getD 1 0).toNat / 64 ≠ 2 ∨ (xs.getD 2 0).toNat / 64 ≠ 2 ∨ (xs.getD 3 0).toNat / 64 ≠ 2 then 0 else chk ((xs.getD 0 0).toNat % 8 * 262144 + (xs.getD 1 0).toNat % 64 * 4096 + (xs.getD 2 0).toNat % 64 * 64 + (xs.getD 3 0).toNat % 64) 65536 4 := by
    unfold pointS pointN
    rw [if_neg (by omega), if_pos h]
  refine ⟨fun g => by rw [e, if_pos (.inl g)], fun j hj g => ?_, fun g1 g2 => ?_⟩
  · rw [e, if_pos]
    have : j = 0 ∨ j = 1 ∨ j = 2 := by omega
    rcases this with rfl | rfl | rfl
    · exact .inr (.inl g)
    · exact .inr (.inr (.inl g))
    · exact .inr (.inr (.inr g))
  · have a1 : (xs.getD 1 0).toNat / 64 = 2 := g2 0 (by decide)
    have a2 : (xs.getD 2 0).toNat / 64 = 2 := g2 1 (by decide)
    have a3 : (xs.getD 3 0).toNat / 64 = 2 := g2 2 (by decide)
    rw [e, if_neg (by omega)]
    congr 1
    show _ = (((xs.getD 0 0).toNat % 2 ^ 3 * 64 + (xs.getD 1 0).toNat % 64) * 64 + (xs.getD 2 0).toNat % 64) * 64 + (xs.getD 3 0).toNat % 64
    omega
theorem pk3 {xs : List UInt8} (h : 224 ≤ (xs.getD 0 0).toNat) (h2 : (xs.getD 0 0).toNat < 240) : PK xs 3 ((xs.getD 0 0).toNat % 2 ^ 4) 2048 := by
  have e : pointS xs = if xs.length < 3 ∨ (xs.getD 1 0).toNat / 64 ≠ 2 ∨ (xs.getD 2 0).toNat / 64 ≠ 2 then 0 else chk ((xs.getD 0 0).toNat % 16 * 4096 + (xs.getD 1 0).toNat % 64 * 64 + (xs.getD 2 0).toNat % 64) 2048 3 := by
    unfold pointS pointN
    rw [if_neg (by omega), if_neg (by omega), if_pos h]
  refine ⟨fun g => by rw [e, if_pos (.inl g)], fun j hj g => ?_, fun g1 g2 => ?_⟩
  · rw [e, if_pos]
    have : j = 0 ∨ j = 1 := by omega
    rcases this with rfl | rfl
    · exact .inr (.inl g)
    · exact .inr (.inr g)
  · have a1 : (xs.getD 1 0).toNat / 64 = 2 := g2 0 (by decide)
    have a2 : (xs.getD 2 0).toNat / 64 = 2 := g2 1 (by decide)
    rw [e, if_neg (by omega)]
    congr 1
    show _ = ((xs.getD 0 0).toNat % 2 ^ 4 * 64 + (xs.getD 1 0).toNat % 64) * 64 + (xs.getD 2 0).toNat % 64
    omega
theorem pk2 {xs : List UInt8} (h : 192 ≤ (xs.getD 0 0).toNat) (h2 : (xs.getD 0 0).toNat < 224) : PK xs 2 ((xs.getD 0 0).toNat % 2 ^ 5) 128 := by
  have e : pointS xs = if xs.length < 2 ∨ (xs.getD 1 0).toNat / 64 ≠ 2 then 0 else chk ((xs.getD 0 0).toNat % 32 * 64 + (xs.getD 1 0).toNat % 64) 128 2 := by
    unfold pointS pointN
    rw [if_neg (by omega), if_neg (by omega), if_neg (by omega), if_pos h]
  refine ⟨fun g => by rw [e, if_pos (.inl g)], fun j hj g => ?_, fun g1 g2 => ?_⟩
  · rw [e, if_pos]
    obtain rfl : j = 0 := by omega
    exact .inr g
  · have a1 : (xs.getD 1 0).toNat / 64 = 2 := g2 0 (by decide)
    rw [e, if_neg (by omega)]
    congr 1
theorem pk1 {xs : List UInt8} (h2 : (xs.getD 0 0).toNat < 128) (hl : 1 ≤ xs.length) : PK xs 1 (xs.getD 0 0).toNat 1 := by
  have e : pointS xs = chk (xs.getD 0 0).toNat 1 1 := by
    unfold pointS pointN
    rw [if_neg (by omega), if_neg (by omega), if_neg (by omega), if_neg (by omega), if_neg (by omega)]
  exact ⟨fun g => by omega, fun j hj g => by omega, fun _ _ => e⟩
theorem pk0 {xs : List UInt8} (h : 248 ≤ (xs.getD 0 0).toNat ∨ 128 ≤ (xs.getD 0 0).toNat ∧ (xs.getD 0 0).toNat < 192) : pointS xs = 0 := by
  unfold pointS pointN
  rcases h with h | ⟨h1, h2⟩
  · rw [if_pos h]
  · rw [if_neg (by omega), if_neg (by omega), if_neg (by omega), if_neg (by omega), if_pos h1]
attribute [local irreducible] V VO VP VX thenQ blockQ loopQ finQ elAt subA Calls ErrV pointS

set_option maxHeartbeats 2000000 in
theorem point_c {w : World} {A : Option Addr} {m c : Nat} {xs : List UInt8} (h0 : 1 ≤ m) (hv : View encB 1 w (Low w) A m xs) : Calls Tryd.prog 38 #[.slice A m c] w (Ret w (.int .i64 (pointS xs : Nat))) := by
  refine calls_start (vs := [.slice A m c]) Tryd.func38 rfl Tryd.ntmps38 rfl ?_
  have hl := hv.len
  have hb0 := (xs[0]'(by omega)).toNat_lt
  have hg0 : (xs.getD 0 0).toNat = (xs[0]'(by omega)).toNat := by rw [getD_at (by omega)]
  repeat' (first | (guard_target =~ VO _ _ _ _ _ _ _ _; first | with_reducible refine VO.nil ?_ | refine VO.cons ?_ | (refine VO.gTake (hg := ?_) (h := ?_); (first | with_reducible rfl | with_reducible exact Bool.not_true | with_reducible exact Bool.not_false | decide)) | (refine VO.gSkipT (hg := ?_) (h := ?_); (first | with_reducible rfl | with_reducible exact Bool.not_true | with_reducible exact Bool.not_false | decide)) | (refine VO.gSkipF (hg := ?_) (h := ?_); (first | with_reducible rfl | with_reducible exact Bool.not_true | with_reducible exact Bool.not_false | decide)) | (guard_target =~ VO _ _ _ _ _ (⟨_, _, _, _, _, some _⟩ :: _) _ _; refine VO.gSkipUn (h := ?_)) | (refine VO.gsD (h1 := ?_) (h2 := ?_) <;> intro _ <;> try (exfalso; omega)) | (refine VO.gsN (h1 := ?_) (h2 := ?_) <;> intro _ <;> try (exfalso; omega)) | (refine VO.gsNB (h1 := ?_) (h2 := ?_) <;> intro _ <;> try (exfalso; omega)) | (refine VO.gsB (h1 := ?_) (h2 := ?_) <;> intro _ <;> try (exfalso; omega))) | (guard_target =~ VX _ _ _ _ _ _; first | (guard_target =~ VX _ _ _ ⟨_, Go.Op.indexAddr _ _ _, _, _, _, _⟩ _ _; first | refine VX.idxF (hw := hv) (k := 0) (h := ?_) | refine VX.idxF (hw := hv) (k := j + 1) (h := ?_) | refine VX.idxF (h := ?_)) | (guard_target =~ VX _ _ _ ⟨_, Go.Op.convert _ _ _, _, _, _, _⟩ _ _; first | refine VX.cvN (ha := by have h9 := UInt8.toNat_lt (xs[j + 1]'(by omega)); simp only [topN, expN]; omega) (h := ?_) | refine VX.cvN (h := ?_)) | (guard_target =~ VX _ _ _ ⟨_, Go.Op.binOp _ _ _ _ _, _, _, _, _⟩ _ _; first | refine VX.andM 3 (b := 7) (h := ?_) | refine VX.andM 4 (b := 15) (h := ?_) | refine VX.andM 5 (b := 31) (h := ?_) | refine VX.andM 6 (b := 63) (ha := by have h9 := UInt8.toNat_lt (xs[j + 1]'(by omega)); simp only [topN, expN]; omega) (h := ?_) | refine VX.andE (b := 192) ((xs[j + 1]'(by omega)).toNat / 64 * 64) (ha := UInt8.toNat_lt _) (hb := by decide) (he := and192 _ (UInt8.toNat_lt _)) (h := ?_) | refine VX.shlN (b := 6) (h := ?_) | refine VX.orA 6 (h := ?_) | refine VX.add64 (h := ?_) | refine VX.sub64 (h := ?_) | refine VX.mul64 (h := ?_) | refine VX.bin (h := ?_) | refine VX.eqNilI (h := ?_) | refine VX.eqNilJ (h := ?_) | refine VX.neNilI (h := ?_) | refine VX.neNilJ (h := ?_) | refine VX.eqNilS (h := ?_) | refine VX.eqStr (h := ?_) | refine VX.neStr (h := ?_) | refine VX.eqBool (h := ?_) | refine VX.neBool (h := ?_) | refine VX.eqA (h := ?_) | refine VX.neA (h := ?_)) | (guard_target =~ VX _ _ _ ⟨_, Go.Op.move _, _, _, _, _⟩ _ _; first | refine VX.move (h := ?_)) | (guard_target =~ VX _ _ _ ⟨_, Go.Op.assign _, _, _, _, _⟩ _ _; first | refine VX.assign (h := ?_)) | (guard_target =~ VX _ _ _ ⟨_, Go.Op.load _ _, _, _, _, _⟩ _ _; first | refine VX.load1 (h := ?_) | refine VX.loadA (h := ?_) | refine VX.loadF1 (h := ?_) | refine VX.loadFA (h := ?_)) | (guard_target =~ VX _ _ _ ⟨_, Go.Op.fieldAddr _ _ _, _, _, _, _⟩ _ _; first | refine VX.fieldN (h := ?_) | refine VX.fieldF (h := ?_) | refine VX.fieldO (h := ?_) | refine VX.fieldG (h := ?_)) | (guard_target =~ VX _ _ _ ⟨_, Go.Op.extract _ _, _, _, _, _⟩ _ _; first | refine VX.extract (h := ?_)) | (guard_target =~ VX _ _ _ ⟨_, Go.Op.pick _ _ _, _, _, _, _⟩ _ _; first | refine VX.pick (h := ?_)) | (guard_target =~ VX _ _ _ ⟨_, Go.Op.unOp _ _ _, _, _, _, _⟩ _ _; first | refine VX.not (h := ?_)) | (guard_target =~ VX _ _ _ ⟨_, Go.Op.store _ _ _, _, _, _, _⟩ _ _; first | refine VX.store1 (h := ?_) | refine VX.storeA (h := ?_)) | (guard_target =~ VX _ _ _ ⟨_, Go.Op.makeInterface _ _, _, _, _, _⟩ _ _; first | refine VX.mkIface (h := ?_)) | (guard_target =~ VX _ _ _ ⟨_, Go.Op.call _, _, _, _, _⟩ _ _; first | refine VX.lenS (h := ?_) | refine VX.lenStr (h := ?_) | refine VX.min2 (h := ?_) | refine VX.max2 (h := ?_)) | (guard_target =~ VX _ _ _ ⟨_, Go.Op.box _ _, _, _, _, _⟩ _ _; first | refine VX.box1 (h := fun _ => ?_) | refine VX.boxA (h := fun _ => ?_)) | (guard_target =~ VX _ _ _ ⟨_, Go.Op.alloc _, _, _, _, _⟩ _ _; first | refine VX.alloc1 (h := fun _ => ?_) | refine VX.allocA (h := fun _ => ?_)) | (guard_target =~ VX _ _ _ ⟨_, Go.Op.buildSlice _ _ _, _, _, _, _⟩ _ _; first | refine VX.lit0 (h := fun _ => ?_) | refine VX.lit (h := fun _ => ?_)) | (guard_target =~ VX _ _ _ ⟨_, Go.Op.build _ _, _, _, _, _⟩ _ _; first | refine VX.build (h := ?_)) | (guard_target =~ VX _ _ _ ⟨_, Go.Op.field _ _ _, _, _, _, _⟩ _ _; first | refine VX.field (h := ?_)) | (guard_target =~ VX _ _ _ ⟨_, Go.Op.nilCheck _, _, _, _, _⟩ _ _; first | refine VX.nilCheck (h := ?_))) | (guard_target =~ V _ _ _ _ _ _ _; first | with_reducible refine V.seq ?_ | with_reducible refine V.region ?_ | with_reducible refine V.skip ?_ | with_reducible refine V.exit ?_ | with_reducible refine V.block ?_ | (guard_target =~ V _ _ _ _ (Go.Code.loop _) _ _; first | (refine V.loopA (fun (j : Nat) => ⟨[(0, .slice A m c), (3, .int .i64 4), (4, .int .i64 (accN ((xs[0]'(by omega)).toNat % 2 ^ 3) xs j : Nat)), (5, .int .i64 65536), (6, .int .i64 (j + 1 : Nat))], [], [], [(w, Low w)]⟩) (fun j => j + 1 ≤ 4 ∧ ∀ q, q < j → (xs.getD (q + 1) 0).toNat / 64 = 2) (fun j => 4 - j) 0 (h0 := ⟨by omega, fun q hq => absurd hq (by omega)⟩) (hr := ?_); rintro j ⟨hj, hbs⟩; have ha := acc_lt' (lead := (xs[0]'(by omega)).toNat % 2 ^ 3) (l := xs) (j := j) (by omega) (by omega))) | (guard_target =~ V _ _ _ _ (Go.Code.loop _) _ _; first | (refine V.loopA (fun (j : Nat) => ⟨[(0, .slice A m c), (3, .int .i64 3), (4, .int .i64 (accN ((xs[0]'(by omega)).toNat % 2 ^ 4) xs j : Nat)), (5, .int .i64 2048), (6, .int .i64 (j + 1 : Nat))], [], [], [(w, Low w)]⟩) (fun j => j + 1 ≤ 3 ∧ ∀ q, q < j → (xs.getD (q + 1) 0).toNat / 64 = 2) (fun j => 3 - j) 0 (h0 := ⟨by omega, fun q hq => absurd hq (by omega)⟩) (hr := ?_); rintro j ⟨hj, hbs⟩; have ha := acc_lt' (lead := (xs[0]'(by omega)).toNat % 2 ^ 4) (l := xs) (j := j) (by omega) (by omega))) | (guard_target =~ V _ _ _ _ (Go.Code.loop _) _ _; first | (refine V.loopA (fun (j : Nat) => ⟨[(0, .slice A m c), (3, .int .i64 2), (4, .int .i64 (accN ((xs[0]'(by omega)).toNat % 2 ^ 5) xs j : Nat)), (5, .int .i64 128), (6, .int .i64 (j + 1 : Nat))], [], [], [(w, Low w)]⟩) (fun j => j + 1 ≤ 2 ∧ ∀ q, q < j → (xs.getD (q + 1) 0).toNat / 64 = 2) (fun j => 2 - j) 0 (h0 := ⟨by omega, fun q hq => absurd hq (by omega)⟩) (hr := ?_); rintro j ⟨hj, hbs⟩; have ha := acc_lt' (lead := (xs[0]'(by omega)).toNat % 2 ^ 5) (l := xs) (j := j) (by omega) (by omega))) | (guard_target =~ V _ _ _ _ (Go.Code.loop _) _ _; first | (refine V.loopA (fun (j : Nat) => ⟨[(0, .slice A m c), (3, .int .i64 1), (4, .int .i64 (accN ((xs[0]'(by omega)).toNat) xs j : Nat)), (5, .int .i64 1), (6, .int .i64 (j + 1 : Nat))], [], [], [(w, Low w)]⟩) (fun j => j + 1 ≤ 1 ∧ ∀ q, q < j → (xs.getD (q + 1) 0).toNat / 64 = 2) (fun j => 1 - j) 0 (h0 := ⟨by omega, fun q hq => absurd hq (by omega)⟩) (hr := ?_); rintro j ⟨hj, hbs⟩; have ha := acc_lt' (lead := (xs[0]'(by omega)).toNat) (l := xs) (j := j) (by omega) (by omega))) | (guard_target =~ V _ _ _ _ Go.Code.ret _ _; first | refine V.retV (he := ?_) | refine V.retP (h := fun w hw hb => ?_)) | (guard_target =~ V _ _ _ _ (Go.Code.cond _ _ _) _ _; first | (refine V.condT (hg := ?_) (h := ?_); (first | with_reducible rfl | with_reducible exact Bool.not_true | with_reducible exact Bool.not_false | decide)) | (refine V.condF (hg := ?_) (h := ?_); (first | with_reducible rfl | with_reducible exact Bool.not_true | with_reducible exact Bool.not_false | decide)) | (refine V.condD (h1 := ?_) (h2 := ?_) <;> intro _ <;> try (exfalso; omega)) | (refine V.condN (h1 := ?_) (h2 := ?_) <;> intro _ <;> try (exfalso; omega)) | (refine V.condNB (h1 := ?_) (h2 := ?_) <;> intro _ <;> try (exfalso; omega)) | (refine V.condB (h1 := ?_) (h2 := ?_) <;> intro _ <;> try (exfalso; omega)))) | (guard_target =~ VP _ _ _ _ _ _ _ _ _; first | with_reducible refine VP.done ?_ | with_reducible refine VP.all ?_ | refine VP.u (h := ?_) | refine VP.l (h := ?_)) | (guard_target =~ VPs _ _ _ _ _ _ _ _ _; first | exact True.intro | (refine VPs.cons (o := ?_) (g := ?_) (ho := ?_) (hg := ?_) (hgr := ?_) (h := ?_) ?_; rotate_left 2; rfl; rfl; rfl)) | with_reducible refine thenQ_normal ?_ | with_reducible refine thenQ_exit ?_ | with_reducible refine blockQ_normal ?_ | with_reducible refine blockQ_hit ?_ | (guard_target =~ blockQ _ _ _ _; refine blockQ_miss (h := ?_)) | with_reducible refine loopQ_exit ?_)
  all_goals first
    | (guard_target =~ loopQ _ _ _ _ _ _ _ _
       have hgj := getD_at (l := xs) (i := j + 1) (by omega)
       have hnx : ∀ q, q < j + 1 → (xs.getD (q + 1) 0).toNat / 64 = 2 := fun q hq => by
         rcases Nat.lt_or_ge q j with h | h
         · exact hbs q h
         · obtain rfl : q = j := by omega
           rw [hgj]
           omega
       rw [← hgj]
       exact loopQ_to (j + 1) (h2 := ⟨by omega, hnx⟩) (h3 := by omega))
    | (rw [pk0 (by omega)]; rfl)
    | skip
  all_goals first
    | (have hp := pk4 (xs := xs) (by omega) (by omega); rw [hg0] at hp; first
        | (rw [hp.short (by omega)]; rfl)
        | (have hgj := getD_at (l := xs) (i := j + 1) (by omega); rw [hp.byte j (by omega) (by rw [hgj]; omega)]; rfl)
        | (obtain rfl : j = 3 := by omega
           have hf := hp.fin (by omega) hbs
           dsimp only [Nat.reduceSub] at hf
           first | (rw [hf, chk_no (by omega)]; rfl) | (rw [hf, chk_ok (by omega)]; rfl)))
    | (have hp := pk3 (xs := xs) (by omega) (by omega); rw [hg0] at hp; first
        | (rw [hp.short (by omega)]; rfl)
        | (have hgj := getD_at (l := xs) (i := j + 1) (by omega); rw [hp.byte j (by omega) (by rw [hgj]; omega)]; rfl)
        | (obtain rfl : j = 2 := by omega
           have hf := hp.fin (by omega) hbs
           dsimp only [Nat.reduceSub] at hf
           first | (rw [hf, chk_no (by omega)]; rfl) | (rw [hf, chk_ok (by omega)]; rfl)))
    | (have hp := pk2 (xs := xs) (by omega) (by omega); rw [hg0] at hp; first
        | (rw [hp.short (by omega)]; rfl)
        | (have hgj := getD_at (l := xs) (i := j + 1) (by omega); rw [hp.byte j (by omega) (by rw [hgj]; omega)]; rfl)
        | (obtain rfl : j = 1 := by omega
           have hf := hp.fin (by omega) hbs
           dsimp only [Nat.reduceSub] at hf
           first | (rw [hf, chk_no (by omega)]; rfl) | (rw [hf, chk_ok (by omega)]; rfl)))
    | (have hp := pk1 (xs := xs) (by omega) (by omega); rw [hg0] at hp
       obtain rfl : j = 0 := by omega
       have hf := hp.fin (by omega) hbs
       dsimp only [Nat.reduceSub] at hf
       first | (rw [hf, chk_no (by omega)]; rfl) | (rw [hf, chk_ok (by omega)]; rfl))
    | skip
end Go.Tx
