import Derived.Test.YtlidjmchohkhcaaDoorR9
import Derived.Test.YtlidjmchohkhcaaDoorR10
set_option linter.unusedVariables false
namespace Go.Rp
open Go.Proofs Go.RowKit Go.Vg Go.Err Go.Byt Go.Ent
set_option maxRecDepth 100000
theorem numB_le {n : Int} (h : numB n = true) : 0 ≤ n ∧ n ≤ 1099511627775 := of_decide_eq_true h
theorem nodeB_le {n : Int} (h : nodeB n = true) : 1 ≤ n ∧ n ≤ 7 := of_decide_eq_true h
theorem own_kind {m : Msg} (h : ownB m = true) : 1 ≤ m.kind ∧ m.kind ≤ 7 := by
  rcases kinds m with hk | hk | hk | hk | hk | hk
  · omega
  · omega
  · omega
  · omega
  · omega
  · rw [ownB_x hk] at h
    cases h
theorem follow_good : ∀ {es : List Entry} {i t : Int}, Ent.follow i t es = true → ∀ e ∈ es, (1 ≤ e.index ∧ e.index ≤ 1099511627776) ∧ (0 ≤ e.term ∧ e.term ≤ 1099511627775) ∧ (0 ≤ e.kind ∧ e.kind ≤ 2) ∧ e.data.size ≤ 4096
  | [], _, _, _, e, he => by cases he
  | a :: es, i, t, h, e, he => by
    simp only [Ent.follow, Bool.and_eq_true] at h
    rcases List.mem_cons.1 he with rfl | he
    · have h2 := h.1.1.1
      unfold good at h2
      obtain ⟨a1, a2, a3, a4, a5, a6⟩ := of_decide_eq_true h2
      have a7 : 0 ≤ e.term ∧ e.term ≤ 1099511627775 := of_decide_eq_true a3
      exact ⟨⟨a1, a2⟩, a7, ⟨a4, a5⟩, a6⟩
    · exact follow_good h.2 e he
/-- What a message that may be has, beside its numbers. -/
theorem own_parts {m : Msg} (h : ownB m = true) : m.es.length ≤ 16 ∧ (∀ e ∈ m.es, (1 ≤ e.index ∧ e.index ≤ 1099511627776) ∧ (0 ≤ e.term ∧ e.term ≤ 1099511627775) ∧ (0 ≤ e.kind ∧ e.kind ≤ 2) ∧ e.data.size ≤ 4096) ∧ mayMs m.ms = true ∧ m.data.size ≤ 524288 := by
  have nil : ∀ {es : List Entry}, es = [] → es.length ≤ 16 ∧ (∀ e ∈ es, (1 ≤ e.index ∧ e.index ≤ 1099511627776) ∧ (0 ≤ e.term ∧ e.term ≤ 1099511627775) ∧ (0 ≤ e.kind ∧ e.kind ≤ 2) ∧ e.data.size ≤ 4096) := by
    rintro _ rfl
    exact ⟨by simp, fun e he => by cases he⟩
  have nm : ∀ {ms : List Int}, ms = [] → mayMs ms = true := by rintro _ rfl; rfl
  have nd : ∀ {d : ByteArray}, d = ⟨#[]⟩ → d.size ≤ 524288 := by rintro _ rfl; decide
  rcases kinds m with hk | hk | hk | hk | hk | hk
  · rw [ownB_1 hk] at h
    obtain ⟨q1, q2, q3, q4, q5⟩ := of_decide_eq_true h
    exact ⟨(nil q3).1, (nil q3).2, nm q4, nd q5⟩
  · rw [ownB_2 hk] at h
    obtain ⟨q0, q1, q2, q3, q4, q5⟩ := of_decide_eq_true h
    exact ⟨(nil q3).1, (nil q3).2, nm q4, nd q5⟩
  · rw [ownB_5 hk, Bool.and_eq_true] at h
    obtain ⟨q2, q4, q5⟩ := of_decide_eq_true h.2
    have h8 := h.1
    unfold ok5 at h8
    simp only [Bool.and_eq_true, decide_eq_true_eq] at h8
    exact ⟨h8.1.1, follow_good h8.1.2, nm q4, nd q5⟩
  · rw [ownB_6 hk] at h
    obtain ⟨q0, q1, q3, q4, q5⟩ := of_decide_eq_true h
    exact ⟨(nil q3).1, (nil q3).2, nm q4, nd q5⟩
  · rw [ownB_7 hk, Bool.and_eq_true] at h
    obtain ⟨q1, q2, q3⟩ := of_decide_eq_true h.2
    have h8 := h.1
    unfold ok7 at h8
    simp only [Bool.and_eq_true, decide_eq_true_eq] at h8
    exact ⟨(nil q3).1, (nil q3).2, h8.1.2, h8.2.2⟩
  · rw [ownB_x hk] at h
    cases h
theorem ms_grow {xs : List Int} (h : mayMs xs = true) : ∀ k (hk : k < xs.length), (k : Int) + 1 ≤ xs[k]
  | 0, hk => by have := ((mayMs_iff xs).1 h 0 hk).1; omega
  | k + 1, hk => by
    have h1 := ms_grow h k (by omega)
    have h2 := ((mayMs_iff xs).1 h (k + 1) hk).2.2 (by omega)
    have h3 : xs[k + 1 - 1]'(by omega) = xs[k]'(by omega) := rfl
    rw [h3] at h2
    omega
theorem ms_len {xs : List Int} (h : mayMs xs = true) : xs.length ≤ 7 := by
  rcases Nat.lt_or_ge 7 xs.length with h7 | h7
  · have h1 := ms_grow h 7 h7
    have h2 := ((mayMs_iff xs).1 h 7 h7).2.1
    omega
  · exact h7
theorem ents_next {es : List Entry} {k : Nat} (h : k < es.length) : (es.take (k + 1)).flatMap entB = (es.take k).flatMap entB ++ entB es[k] := by
  rw [take_snoc h, List.flatMap_append]
  simp
attribute [local irreducible] V VO VP VX thenQ blockQ loopQ roundQ joinQ finQ elAt subA Calls ErrV mayMs confB Ent.follow nodeB numB ownB mayB
theorem size_mk (t : List UInt8) : (⟨t.toArray⟩ : ByteArray).size = t.length := by simp [ByteArray.size]
theorem Check_t {w : World} {m : Msg} {Ae Am : Option Addr} {ne ce nm cm : Nat} (h : MsgAt w m Ae ne Am nm) (hb : mayB m = true) : Calls Tryd.prog 20 #[.agg (msgC m Ae ne ce Am nm cm).toArray] w (Ret w .nilIface) := by
  refine calls_start (vs := [.agg (msgC m Ae ne ce Am nm cm).toArray]) Tryd.func20 rfl Tryd.ntmps20 rfl ?_
  have he := h.es
  have hm := h.ms
  repeat' (first | (guard_target =~ VO _ _ _ _ _ _ _ _; first | with_reducible refine VO.nil ?_ | refine VO.cons ?_ | (refine VO.gTake (hg := ?_) (h := ?_); (first | with_reducible rfl | with_reducible exact Bool.not_true | with_reducible exact Bool.not_false | decide)) | (refine VO.gSkipT (hg := ?_) (h := ?_); (first | with_reducible rfl | with_reducible exact Bool.not_true | with_reducible exact Bool.not_false | decide)) | (refine VO.gSkipF (hg := ?_) (h := ?_); (first | with_reducible rfl | with_reducible exact Bool.not_true | with_reducible exact Bool.not_false | decide)) | (guard_target =~ VO _ _ _ _ _ (⟨_, _, _, _, _, some _⟩ :: _) _ _; refine VO.gSkipUn (h := ?_)) | (refine VO.gsD (h1 := ?_) (h2 := ?_) <;> intro _ <;> try (exfalso; omega)) | (refine VO.gsN (h1 := ?_) (h2 := ?_) <;> intro _ <;> try (exfalso; omega)) | (refine VO.gsNB (h1 := ?_) (h2 := ?_) <;> intro _ <;> try (exfalso; omega)) | (refine VO.gsB (h1 := ?_) (h2 := ?_) <;> intro _ <;> try (exfalso; omega))) | (guard_target =~ VX _ _ _ _ _ _; first | (guard_target =~ VX _ _ _ ⟨_, Go.Op.call _, _, _, _, _⟩ _ _; first | (guard_target =~ VX _ _ _ ⟨_, Go.Op.call ⟨Go.Callee.value (Go.Operand.func 15), _, _⟩, _, _, _, _⟩ _ _; first | refine VX.call (v := .bool true) (hc := fun w hw => by have h2 := May_c (ce := ce) (cm := cm) ⟨hw.vl he, hw.vl hm, h.ix⟩; rw [hb] at h2; exact h2) (h := ?_)) | refine VX.lenS (h := ?_) | refine VX.lenStr (h := ?_) | refine VX.min2 (h := ?_) | refine VX.max2 (h := ?_)) | (guard_target =~ VX _ _ _ ⟨_, Go.Op.move _, _, _, _, _⟩ _ _; first | refine VX.move (h := ?_)) | (guard_target =~ VX _ _ _ ⟨_, Go.Op.assign _, _, _, _, _⟩ _ _; first | refine VX.assign (h := ?_)) | (guard_target =~ VX _ _ _ ⟨_, Go.Op.load _ _, _, _, _, _⟩ _ _; first | refine VX.load1 (h := ?_) | refine VX.loadA (h := ?_) | refine VX.loadF1 (h := ?_) | refine VX.loadFA (h := ?_)) | (guard_target =~ VX _ _ _ ⟨_, Go.Op.fieldAddr _ _ _, _, _, _, _⟩ _ _; first | refine VX.fieldN (h := ?_) | refine VX.fieldF (h := ?_) | refine VX.fieldO (h := ?_) | refine VX.fieldG (h := ?_)) | (guard_target =~ VX _ _ _ ⟨_, Go.Op.extract _ _, _, _, _, _⟩ _ _; first | refine VX.extract (h := ?_)) | (guard_target =~ VX _ _ _ ⟨_, Go.Op.pick _ _ _, _, _, _, _⟩ _ _; first | refine VX.pick (h := ?_)) | (guard_target =~ VX _ _ _ ⟨_, Go.Op.binOp _ _ _ _ _, _, _, _, _⟩ _ _; first | refine VX.add64 (h := ?_) | refine VX.sub64 (h := ?_) | refine VX.mul64 (h := ?_) | refine VX.bin (h := ?_) | refine VX.eqNilI (h := ?_) | refine VX.eqNilJ (h := ?_) | refine VX.neNilI (h := ?_) | refine VX.neNilJ (h := ?_) | refine VX.eqNilS (h := ?_) | refine VX.eqStr (h := ?_) | refine VX.neStr (h := ?_) | refine VX.eqBool (h := ?_) | refine VX.neBool (h := ?_) | refine VX.eqA (h := ?_) | refine VX.neA (h := ?_)) | (guard_target =~ VX _ _ _ ⟨_, Go.Op.unOp _ _ _, _, _, _, _⟩ _ _; first | refine VX.not (h := ?_)) | (guard_target =~ VX _ _ _ ⟨_, Go.Op.store _ _ _, _, _, _, _⟩ _ _; first | refine VX.store1 (h := ?_) | refine VX.storeA (h := ?_)) | (guard_target =~ VX _ _ _ ⟨_, Go.Op.indexAddr _ _ _, _, _, _, _⟩ _ _; first | refine VX.idxF (h := ?_)) | (guard_target =~ VX _ _ _ ⟨_, Go.Op.makeInterface _ _, _, _, _, _⟩ _ _; first | refine VX.mkIface (h := ?_)) | (guard_target =~ VX _ _ _ ⟨_, Go.Op.box _ _, _, _, _, _⟩ _ _; first | refine VX.box1 (h := fun _ => ?_) | refine VX.boxA (h := fun _ => ?_)) | (guard_target =~ VX _ _ _ ⟨_, Go.Op.alloc _, _, _, _, _⟩ _ _; first | refine VX.alloc1 (h := fun _ => ?_) | refine VX.allocA (h := fun _ => ?_)) | (guard_target =~ VX _ _ _ ⟨_, Go.Op.buildSlice _ _ _, _, _, _, _⟩ _ _; first | refine VX.lit0 (h := fun _ => ?_) | refine VX.lit (h := fun _ => ?_)) | (guard_target =~ VX _ _ _ ⟨_, Go.Op.build _ _, _, _, _, _⟩ _ _; first | refine VX.build (h := ?_)) | (guard_target =~ VX _ _ _ ⟨_, Go.Op.field _ _ _, _, _, _, _⟩ _ _; first | refine VX.field (h := ?_)) | (guard_target =~ VX _ _ _ ⟨_, Go.Op.nilCheck _, _, _, _, _⟩ _ _; first | refine VX.nilCheck (h := ?_))) | (guard_target =~ V _ _ _ _ _ _ _; first | with_reducible refine V.seq ?_ | with_reducible refine V.region ?_ | with_reducible refine V.skip ?_ | with_reducible refine V.exit ?_ | with_reducible refine V.block ?_ | (guard_target =~ V _ _ _ _ Go.Code.ret _ _; first | refine V.retV (he := ?_) | refine V.retP (h := fun w hw hb => ?_)) | (guard_target =~ V _ _ _ _ (Go.Code.cond _ _ _) _ _; first | (refine V.condT (hg := ?_) (h := ?_); (first | with_reducible rfl | with_reducible exact Bool.not_true | with_reducible exact Bool.not_false | decide)) | (refine V.condF (hg := ?_) (h := ?_); (first | with_reducible rfl | with_reducible exact Bool.not_true | with_reducible exact Bool.not_false | decide)) | (refine V.condD (h1 := ?_) (h2 := ?_) <;> intro _ <;> try (exfalso; omega)) | (refine V.condN (h1 := ?_) (h2 := ?_) <;> intro _ <;> try (exfalso; omega)) | (refine V.condNB (h1 := ?_) (h2 := ?_) <;> intro _ <;> try (exfalso; omega)) | (refine V.condB (h1 := ?_) (h2 := ?_) <;> intro _ <;> try (exfalso; omega)))) | (guard_target =~ VP _ _ _ _ _ _ _ _ _; first | with_reducible refine VP.done ?_ | with_reducible refine VP.all ?_ | refine VP.u (h := ?_) | refine VP.l (h := ?_)) | (guard_target =~ VPs _ _ _ _ _ _ _ _ _; first | exact True.intro | (refine VPs.cons (o := ?_) (g := ?_) (ho := ?_) (hg := ?_) (hgr := ?_) (h := ?_) ?_; rotate_left 2; rfl; rfl; rfl)) | with_reducible refine thenQ_normal ?_ | with_reducible refine thenQ_exit ?_ | with_reducible refine blockQ_normal ?_ | with_reducible refine blockQ_hit ?_ | (guard_target =~ blockQ _ _ _ _; refine blockQ_miss (h := ?_)) | with_reducible refine loopQ_exit ?_)
  all_goals rfl
set_option maxHeartbeats 4000000 in
theorem Encode_t {w : World} {m : Msg} {Ae Am : Option Addr} {ne ce nm cm : Nat} (h : MsgAt w m Ae ne Am nm) (hb : mayB m = true) : Calls Tryd.prog 10 #[.agg (msgC m Ae ne ce Am nm cm).toArray] w
    (RetP w fun v w' => ∃ (_i : Unit) (r : Value), True ∧ v = .tuple #[r, .nilIface] ∧ NewRow w 5 1 r (encS m).length ((encS m).flatMap encB) w') := by
  have hb2 := hb
  unfold mayB at hb2
  obtain ⟨h1, h2, h3, h4, h5, h6, h7⟩ := and7 hb2
  have f1 := nodeB_le h1
  have f2 := nodeB_le h2
  have f3 := numB_le h3
  have f4 := numB_le h4
  have f5 := numB_le h5
  have f6 := numB_le h6
  have f7 := own_kind h7
  obtain ⟨p1, p2, p3, p4⟩ := own_parts h7
  have he := h.es
  have hm := h.ms
  have hel := he.len
  have hml := hm.len
  have p5 := ms_len p3
  have p6 : (bytesMs m.ms).length = m.ms.length := by simp [bytesMs]
  have p7 := size_mk (bytesMs m.ms)
  clear hb2
  refine calls_start (vs := [.agg (msgC m Ae ne ce Am nm cm).toArray]) Tryd.func10 rfl Tryd.ntmps10 rfl ?_
  repeat' (first | (guard_target =~ VO _ _ _ _ _ _ _ _; first | with_reducible refine VO.nil ?_ | refine VO.cons ?_ | (refine VO.gTake (hg := ?_) (h := ?_); (first | with_reducible rfl | with_reducible exact Bool.not_true | with_reducible exact Bool.not_false | decide)) | (refine VO.gSkipT (hg := ?_) (h := ?_); (first | with_reducible rfl | with_reducible exact Bool.not_true | with_reducible exact Bool.not_false | decide)) | (refine VO.gSkipF (hg := ?_) (h := ?_); (first | with_reducible rfl | with_reducible exact Bool.not_true | with_reducible exact Bool.not_false | decide)) | (guard_target =~ VO _ _ _ _ _ (⟨_, _, _, _, _, some _⟩ :: _) _ _; refine VO.gSkipUn (h := ?_)) | (refine VO.gsD (h1 := ?_) (h2 := ?_) <;> intro _ <;> try (exfalso; omega)) | (refine VO.gsN (h1 := ?_) (h2 := ?_) <;> intro _ <;> try (exfalso; omega)) | (refine VO.gsNB (h1 := ?_) (h2 := ?_) <;> intro _ <;> try (exfalso; omega)) | (refine VO.gsB (h1 := ?_) (h2 := ?_) <;> intro _ <;> try (exfalso; omega))) | (guard_target =~ VX _ _ _ _ _ _; first | (guard_target =~ VX _ _ _ ⟨_, Go.Op.call _, _, _, _, _⟩ _ _; first | (guard_target =~ VX _ _ _ ⟨_, Go.Op.call ⟨Go.Callee.value (Go.Operand.func 20), _, _⟩, _, _, _, _⟩ _ _; first | refine VX.call (hc := fun w hw => Check_t ⟨hw.vl he, hw.vl hm, h.ix⟩ hb) (h := ?_)) | (guard_target =~ VX _ _ _ ⟨_, Go.Op.call ⟨Go.Callee.value (Go.Operand.func 21), _, _⟩, _, _, _, _⟩ _ _; first | refine VX.wNum0 (k := 1) (h := fun A c xs hxs hxl => ?_)) | (guard_target =~ VX _ _ _ ⟨_, Go.Op.call ⟨Go.Callee.value (Go.Operand.func 21), _, _⟩, _, _, _, _⟩ _ _; first | refine VX.wNum (k := 1) (h := fun A c xs hxs hxl => ?_)) | (guard_target =~ VX _ _ _ ⟨_, Go.Op.call ⟨Go.Callee.value (Go.Operand.func 21), _, _⟩, _, _, _, _⟩ _ _; first | refine VX.wNum (k := 5) (h := fun A c xs hxs hxl => ?_)) | (guard_target =~ VX _ _ _ ⟨_, Go.Op.call ⟨Go.Callee.value (Go.Operand.func 21), _, _⟩, _, _, _, _⟩ _ _; first | refine VX.wNum (k := 6) (h := fun A c xs hxs hxl => ?_)) | (guard_target =~ VX _ _ _ ⟨_, Go.Op.call ⟨Go.Callee.value (Go.Operand.func 22), _, _⟩, _, _, _, _⟩ _ _; first | refine VX.wStr (h := fun A c xs hxs hxl => ?_)) | (guard_target =~ VX _ _ _ ⟨_, Go.Op.call ⟨Go.Callee.value (Go.Operand.func 23), _, _⟩, _, _, _, _⟩ _ _; first | refine VX.call (hc := fun w hw => Bytes_t p3 (by omega) (hw.vl hm)) (h := ?_)) | refine VX.lenS (h := ?_) | refine VX.lenStr (h := ?_) | refine VX.min2 (h := ?_) | refine VX.max2 (h := ?_)) | (guard_target =~ VX _ _ _ ⟨_, Go.Op.box _ _, _, _, _, _⟩ _ _; first | (guard_target =~ VX _ _ _ ⟨some 1, _, _, _, _, _⟩ _ _; refine VX.boxA (h := fun b1 => ?_) /- VX.boxA -/) | refine VX.boxA (h := fun wb => ?_) | refine VX.box1 (h := fun _ => ?_) | refine VX.boxA (h := fun _ => ?_)) | (guard_target =~ VX _ _ _ ⟨_, Go.Op.nilCheck _, _, _, _, _⟩ _ _; first | refine VX.nilCheck (h := ?_) | refine VX.nilCheck (h := ?_)) | (guard_target =~ VX _ _ _ ⟨_, Go.Op.indexAddr _ _ _, _, _, _, _⟩ _ _; first | (have pe := p2 (m.es[k]'(by omega)) (List.getElem_mem _); refine VX.idxF (hw := he) (k := k) (h := ?_)) | refine VX.idxR1 (k := 0) (h := ?_) | refine VX.idxR1 (k := 1) (h := ?_) | refine VX.idxR1 (k := 2) (h := ?_) | refine VX.idxR1 (k := 3) (h := ?_) | refine VX.idxF (h := ?_)) | (guard_target =~ VX _ _ _ ⟨_, Go.Op.move _, _, _, _, _⟩ _ _; first | refine VX.move (h := ?_)) | (guard_target =~ VX _ _ _ ⟨_, Go.Op.assign _, _, _, _, _⟩ _ _; first | refine VX.assign (h := ?_)) | (guard_target =~ VX _ _ _ ⟨_, Go.Op.load _ _, _, _, _, _⟩ _ _; first | refine VX.load1 (h := ?_) | refine VX.loadA (h := ?_) | refine VX.loadF1 (h := ?_) | refine VX.loadFA (h := ?_)) | (guard_target =~ VX _ _ _ ⟨_, Go.Op.fieldAddr _ _ _, _, _, _, _⟩ _ _; first | refine VX.fieldN (h := ?_) | refine VX.fieldF (h := ?_) | refine VX.fieldO (h := ?_) | refine VX.fieldG (h := ?_)) | (guard_target =~ VX _ _ _ ⟨_, Go.Op.extract _ _, _, _, _, _⟩ _ _; first | refine VX.extract (h := ?_)) | (guard_target =~ VX _ _ _ ⟨_, Go.Op.pick _ _ _, _, _, _, _⟩ _ _; first | refine VX.pick (h := ?_)) | (guard_target =~ VX _ _ _ ⟨_, Go.Op.binOp _ _ _ _ _, _, _, _, _⟩ _ _; first | refine VX.add64 (h := ?_) | refine VX.sub64 (h := ?_) | refine VX.mul64 (h := ?_) | refine VX.bin (h := ?_) | refine VX.eqNilI (h := ?_) | refine VX.eqNilJ (h := ?_) | refine VX.neNilI (h := ?_) | refine VX.neNilJ (h := ?_) | refine VX.eqNilS (h := ?_) | refine VX.eqStr (h := ?_) | refine VX.neStr (h := ?_) | refine VX.eqBool (h := ?_) | refine VX.neBool (h := ?_) | refine VX.eqA (h := ?_) | refine VX.neA (h := ?_)) | (guard_target =~ VX _ _ _ ⟨_, Go.Op.unOp _ _ _, _, _, _, _⟩ _ _; first | refine VX.not (h := ?_)) | (guard_target =~ VX _ _ _ ⟨_, Go.Op.store _ _ _, _, _, _, _⟩ _ _; first | refine VX.store1 (h := ?_) | refine VX.storeA (h := ?_)) | (guard_target =~ VX _ _ _ ⟨_, Go.Op.makeInterface _ _, _, _, _, _⟩ _ _; first | refine VX.mkIface (h := ?_)) | (guard_target =~ VX _ _ _ ⟨_, Go.Op.alloc _, _, _, _, _⟩ _ _; first | refine VX.alloc1 (h := fun _ => ?_) | refine VX.allocA (h := fun _ => ?_)) | (guard_target =~ VX _ _ _ ⟨_, Go.Op.buildSlice _ _ _, _, _, _, _⟩ _ _; first | refine VX.lit0 (h := fun _ => ?_) | refine VX.lit (h := fun _ => ?_)) | (guard_target =~ VX _ _ _ ⟨_, Go.Op.build _ _, _, _, _, _⟩ _ _; first | refine VX.build (h := ?_)) | (guard_target =~ VX _ _ _ ⟨_, Go.Op.field _ _ _, _, _, _, _⟩ _ _; first | refine VX.field (h := ?_))) | (guard_target =~ V _ _ _ _ _ _ _; first | with_reducible refine V.seq ?_ | with_reducible refine V.region ?_ | with_reducible refine V.skip ?_ | with_reducible refine V.exit ?_ | with_reducible refine V.block ?_ | (guard_target =~ V _ _ _ _ (Go.Code.loop _) _ _; first | (refine V.loopA (fun (x : Nat × Option Addr × Nat × List UInt8) => ⟨[(5, .pointer (some ⟨wb, 0, none⟩)), (67, .slice Ae ne ce), (68, .int .i64 ne), (69, .int .i64 x.1), (1, .pointer (some ⟨b1, 0, none⟩))], [(wb, [.slice x.2.1 x.2.2.2.length x.2.2.1], 55), (b1, msgC m Ae ne ce Am nm cm, 31)], [⟨.slice x.2.1 x.2.2.2.length x.2.2.1, 5, 1, x.2.2.2.length, x.2.2.2.flatMap encB⟩], [(w, Low w)]⟩) (fun x => x.1 ≤ ne ∧ x.2.2.2 = xs ++ (m.es.take x.1).flatMap entB ∧ x.2.2.2.length ≤ 100 + x.1 * 5000) (fun x => ne - x.1) (0, A, c, xs) (h0 := ⟨by dsimp only; omega, by simp, by dsimp only; omega⟩) (hr := ?_); rintro ⟨k, A, c, xs2⟩ ⟨hk, hx2, hl2⟩; dsimp only at hk hx2 hl2 ⊢)) | (guard_target =~ V _ _ _ _ (Go.Code.loop _) _ _; first | (guard_target =~ V _ _ _ _ _ ⟨(30, _) :: _, _, _, _⟩ _; refine V.loopN 4 ?_)) | (guard_target =~ V _ _ _ _ (Go.Code.loop _) _ _; first | (guard_target =~ V _ _ _ _ _ ⟨(48, _) :: _, _, _, _⟩ _; refine V.loopN 4 ?_)) | (guard_target =~ V _ _ _ _ Go.Code.ret _ _; first | refine V.retV (he := ?_) | refine V.retP (h := fun w hw hb => ?_)) | (guard_target =~ V _ _ _ _ (Go.Code.cond _ _ _) _ _; first | (refine V.condT (hg := ?_) (h := ?_); (first | with_reducible rfl | with_reducible exact Bool.not_true | with_reducible exact Bool.not_false | decide)) | (refine V.condF (hg := ?_) (h := ?_); (first | with_reducible rfl | with_reducible exact Bool.not_true | with_reducible exact Bool.not_false | decide)) | (refine V.condD (h1 := ?_) (h2 := ?_) <;> intro _ <;> try (exfalso; omega)) | (refine V.condN (h1 := ?_) (h2 := ?_) <;> intro _ <;> try (exfalso; omega)) | (refine V.condNB (h1 := ?_) (h2 := ?_) <;> intro _ <;> try (exfalso; omega)) | (refine V.condB (h1 := ?_) (h2 := ?_) <;> intro _ <;> try (exfalso; omega)))) | (guard_target =~ VP _ _ _ _ _ _ _ _ _; first | with_reducible refine VP.done ?_ | with_reducible refine VP.all ?_ | refine VP.u (h := ?_) | refine VP.l (h := ?_)) | (guard_target =~ VPs _ _ _ _ _ _ _ _ _; first | exact True.intro | (refine VPs.cons (o := ?_) (g := ?_) (ho := ?_) (hg := ?_) (hgr := ?_) (h := ?_) ?_; rotate_left 2; rfl; rfl; rfl)) | with_reducible refine thenQ_normal ?_ | with_reducible refine thenQ_exit ?_ | with_reducible refine blockQ_normal ?_ | with_reducible refine blockQ_hit ?_ | (guard_target =~ blockQ _ _ _ _; refine blockQ_miss (h := ?_)) | with_reducible refine loopQ_exit ?_ | with_reducible refine roundQ_next ?_ | with_reducible refine roundQ_exit ?_)
  all_goals first
    | exact loopQ_to (k + 1, A, c, xs) (h2 := ⟨by dsimp only; omega, by dsimp only; rw [ents_next (by omega)]; simp [entB, *], by dsimp only; omega⟩) (h3 := by dsimp only; omega)
    | (obtain rfl : k = ne := by omega
       rw [List.take_of_length_le (by omega)] at hx2
       have e : encS m = xs := by simp [encS, *]
       rw [e]
       exact ⟨(), _, trivial, rfl, hw.rowNew CkAt.head RwAt.head⟩)
    | skip
end Go.Rp
