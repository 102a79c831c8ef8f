/-
  Vg, part R: bytes; whole boxes; constants of bytes that are marked.
-/
import Derived.Test.YtlidjmchohkhcaaDoorVgQ
set_option linter.unusedVariables false
set_option linter.unusedSimpArgs false
set_option linter.unusedSectionVars false
namespace Go.Vg
open Go.RowKit

def encB (b : UInt8) : List Value := [.int .u8 (b.toNat : Int)]
theorem encB_ok : EncOk encB 1 := ⟨fun _ => rfl, fun x u h => by
  simp only [encB, List.mem_cons, List.not_mem_nil, or_false] at h
  subst h
  rfl⟩
theorem take_snoc {α : Type} {es : List α} {k : Nat} (h : k < es.length) : es.take (k + 1) = es.take k ++ [es[k]] := by
  rw [List.take_succ_eq_append_getElem h]
theorem flat_snoc {α : Type} {enc : α → List Value} {es : List α} {k : Nat} (h : k < es.length) : (es.take (k + 1)).flatMap enc = (es.take k).flatMap enc ++ enc es[k] := by
  rw [take_snoc h, List.flatMap_append, List.flatMap_cons, List.flatMap_nil, List.append_nil]
theorem take_grows {α : Type} {xs ys : List α} {k : Nat} (h1 : k < xs.length) (h2 : k < ys.length) (h : xs.take k = ys.take k) : xs.take (k + 1) = ys.take (k + 1) ↔ xs[k] = ys[k] := by
  rw [take_snoc h1, take_snoc h2, h, List.append_cancel_left_eq, List.cons.injEq]
  exact and_iff_left rfl
theorem byte_eq {a b : UInt8} : ((a.toNat : Int) = (b.toNat : Int)) ↔ a = b := by
  rw [Int.ofNat_inj]
  exact UInt8.toNat_inj
theorem flatB_len (xs : List UInt8) : (xs.flatMap encB).length = xs.length := by
  rw [length_flatMap (enc := encB) (sz := 1) (fun _ => rfl), Nat.mul_one]
theorem flatB_get {xs : List UInt8} {k : Nat} (h : k < xs.length) : (xs.flatMap encB)[k]? = some (.int .u8 (xs[k].toNat : Int)) := by
  have := getElem?_flatMap encB 1 (fun _ => rfl) xs k h 0 (.int .u8 (xs[k].toNat : Int)) rfl
  simpa using this
theorem flatB_put {xs : List UInt8} {k : Nat} (h : k < xs.length) (b : UInt8) : CsPut (xs.flatMap encB) k [.int .u8 (b.toNat : Int)] ((xs.set k b).flatMap encB) := by
  have := csPut_flat (enc := encB) (sz := 1) (fun _ => rfl) xs k h b 0 [.int .u8 (b.toNat : Int)] (CsPut.take CsPut.nil)
  simpa using this

theorem putB {xs : List UInt8} {k v : Nat} (h : k < xs.length) (hv : v < 256) : CsPut (xs.flatMap encB) k [.int .u8 (v : Int)] ((xs.set k (UInt8.ofNat v)).flatMap encB) := by
  have := flatB_put h (UInt8.ofNat v)
  rwa [UInt8.toNat_ofNat', Nat.mod_eq_of_lt hv] at this
/-- dovecotelaw0.Within. -/
def within (i : Int) (n : Nat) : Nat := (IntKind.u64.wrap i).toNat % n
theorem within_lt (i : Int) {n : Nat} (h : 0 < n) : within i n < n := Nat.mod_lt _ h
theorem wrap_u64 (i : Int) : IntKind.u64.wrap i = (((IntKind.u64.wrap i).toNat : Nat) : Int) := by
  have : 0 ≤ IntKind.u64.wrap i := by
    simp only [IntKind.wrap, IntKind.bits, IntKind.signed, Bool.false_and]
    have := Int.emod_nonneg i (b := 2 ^ 64) (by decide)
    simpa using this
  omega

theorem ckSub_tail {x : World × (Nat → Prop)} {ck l : List (World × (Nat → Prop))} (h : CkSub ck l) : CkSub (x :: ck) l := by
  induction h with
  | nil => exact CkSub.nil
  | cons h _ ih => exact CkSub.cons (CkAt.tail h) ih
theorem ckSub_all : ∀ ck : List (World × (Nat → Prop)), CkSub ck ck
  | [] => CkSub.nil
  | (c, S) :: r => CkSub.cons CkAt.head (ckSub_tail (ckSub_all r))

section
variable {tm : Tm} {bx bx' : List Bx} {rw rw' : List Rw} {ck ck' : List (World × (Nat → Prop))} {w w' : World} {e : TypeId}
/-- A box is given up, whatever becomes of it. -/
theorem WInv.dropbox {b : Nat} {cs : List Value} (h : WInv ⟨tm, (b, cs, e) :: bx, rw, ck⟩ w) (ho : w'.os = w.os) (ht : w'.tape = w.tape) (hp : w'.output = w.output) (hs : w.heap.size ≤ w'.heap.size)
    (hb : ∀ g, g < w.heap.size → g ≠ b → w'.heap[g]? = w.heap[g]?) : WInv ⟨tm, bx, rw, ck⟩ w' := by
  have hne : ∀ y, y ∈ St.blks ⟨tm, bx, rw, ck⟩ → ∀ g, y = some g → g ≠ b := fun y hy g hg e => (List.pairwise_cons.1 h.ap).1 y hy b rfl (by rw [hg, e])
  have hlt : ∀ y, y ∈ St.blks ⟨tm, bx, rw, ck⟩ → ∀ g, y = some g → g < w.heap.size := fun y hy g hg => h.lt y (List.mem_cons_of_mem _ hy) g hg
  refine ⟨fun x hx => ?_, fun r hr => ?_, (List.pairwise_cons.1 h.ap).2, fun c hc => ?_, fun c hc y hy g hg => h.sep c hc y (List.mem_cons_of_mem _ hy) g hg⟩
  · have hm : some x.1 ∈ St.blks ⟨tm, bx, rw, ck⟩ := mem_blks_bx (σ := ⟨tm, bx, rw, ck⟩) hx
    exact (hb _ (hlt _ hm _ rfl) (hne _ hm _ rfl)).trans (h.bx x (List.mem_cons_of_mem _ hx))
  · have hm := mem_blks_rw (σ := ⟨tm, bx, rw, ck⟩) hr
    exact ownsRow_of_block (h.rw r hr) fun g hg => hb g (hlt _ hm _ hg) (hne _ hm _ hg)
  · have hk := h.ck c hc
    exact hk.step ho ht hp hs fun g hS => hb g (Nat.lt_of_lt_of_le (hk.blk g hS).1 hk.size) fun e => by
      subst e
      exact h.sep c hc (some g) List.mem_cons_self g rfl hS
end

section
variable {P : Program} [HasTab P] {n : Nat} {K : St → Prop} {md : M} {gd : Option (Nat × Bool)}
variable {tm : Tm} {bx bx' : List Bx} {rw rw' : List Rw} {ck ck' : List (World × (Nat → Prop))}
variable {d : Tmp} {ty t e : TypeId} {pos : String} {af : Array Edge} {x y z : Operand} {v u : Value}
theorem VX.cvE {i : TI} {s : TypeId} {k k' : IntKind} {a b : Int} {s0 b0 : Nat} {z0 : Value} (hx : ev tm x = some (.int k' a) := by rfl) (hs : Ty P s i := by rfl) (ht : Ty P t ⟨.int k, s0, b0, z0⟩ := by rfl) (he : k.wrap a = b) (hd : Nat.blt d n = true := by rfl)
    (h : K ⟨(d, .int k b) :: tm, bx, rw, ck⟩) : VX P n md ⟨some d, .convert s t x, ty, pos, af, gd⟩ ⟨tm, bx, rw, ck⟩ K :=
  VX.cv hx hs ht hd (by rw [he]; exact h)
theorem VX.quoN {k : IntKind} {a b : Nat} {t' : TypeId} (hx : ev tm x = some (.int k (a : Int)) := by rfl) (hy : ev tm y = some (.int k (b : Int)) := by rfl) (hb : b ≠ 0 := by first | decide | omega) (hq : a / b < topN k := by simp only [topN, expN]; omega) (hd : Nat.blt d n = true := by rfl)
    (h : K ⟨(d, .int k ((a / b : Nat) : Int)) :: tm, bx, rw, ck⟩) : VX P n md ⟨some d, .binOp .quo t x y t', ty, pos, af, gd⟩ ⟨tm, bx, rw, ck⟩ K :=
  VX.quo hx hy (by omega) hd (by rw [show (a : Int).tdiv b = ((a / b : Nat) : Int) from rfl, wrapN hq]; exact h)
/-- A mask; disjoint bits. -/
theorem VX.andM {k : IntKind} {a b : Nat} {t' : TypeId} (j : Nat) (hx : ev tm x = some (.int k (a : Int)) := by rfl) (hy : ev tm y = some (.int k (b : Int)) := by rfl) (hm : b = 2 ^ j - 1 := by rfl) (ha : a < topN k := by simp only [topN, expN]; omega) (hb : b < topN k := by simp only [topN, expN]; omega) (hd : Nat.blt d n = true := by rfl)
    (h : K ⟨(d, .int k ((a % 2 ^ j : Nat) : Int)) :: tm, bx, rw, ck⟩) : VX P n md ⟨some d, .binOp .and t x y t', ty, pos, af, gd⟩ ⟨tm, bx, rw, ck⟩ K := by
  subst hm
  exact VX.andN hx hy ha hb hd (by rw [Nat.and_two_pow_sub_one_eq_mod]; exact h)
theorem or_add {a b i : Nat} (hq : a % 2 ^ i = 0) (hb : b < 2 ^ i) : a ||| b = a + b := by
  have h := Nat.two_pow_add_eq_or_of_lt hb (a / 2 ^ i)
  have h2 := Nat.div_add_mod a (2 ^ i)
  rw [hq, Nat.add_zero] at h2
  rw [h2] at h
  exact h.symm
theorem VX.orA {k : IntKind} {a b : Nat} {t' : TypeId} (i : Nat) (hx : ev tm x = some (.int k (a : Int)) := by rfl) (hy : ev tm y = some (.int k (b : Int)) := by rfl) (hq : a % 2 ^ i = 0 := by omega) (hb : b < 2 ^ i := by omega) (hs : a + b < topN k := by simp only [topN, expN]; omega) (hd : Nat.blt d n = true := by rfl)
    (h : K ⟨(d, .int k ((a + b : Nat) : Int)) :: tm, bx, rw, ck⟩) : VX P n md ⟨some d, .binOp .or t x y t', ty, pos, af, gd⟩ ⟨tm, bx, rw, ck⟩ K :=
  VX.orN hx hy (Nat.lt_of_le_of_lt (Nat.le_add_right a b) hs) (Nat.lt_of_le_of_lt (Nat.le_add_left b a) hs) hd (by rw [or_add hq hb]; exact h)
theorem VX.orE {k : IntKind} {a b : Nat} {t' : TypeId} (r : Nat) (hx : ev tm x = some (.int k (a : Int)) := by rfl) (hy : ev tm y = some (.int k (b : Int)) := by rfl) (ha : a < topN k) (hb : b < topN k) (he : a ||| b = r) (hd : Nat.blt d n = true := by rfl)
    (h : K ⟨(d, .int k (r : Int)) :: tm, bx, rw, ck⟩) : VX P n md ⟨some d, .binOp .or t x y t', ty, pos, af, gd⟩ ⟨tm, bx, rw, ck⟩ K :=
  VX.orN hx hy ha hb hd (by rw [he]; exact h)
/-- A whole box is read, and written. -/
theorem VX.loadW {b : Nat} {cs : List Value} {i : TI} (hm : md.sees = true := by rfl) (hx : ev tm x = some (.pointer (some ⟨b, 0, none⟩)) := by rfl) (hb : BxAt bx b cs e := by ((repeat' (guard_target =~ BxAt _ _ _ _; first | exact BxAt.head | refine' BxAt.tail _)); fail_if_success refine ?_)) (ht : Ty P t i := by rfl)
    (hg : isAggD i.d = true := by rfl) (hl : cs.length = i.size) (hd : Nat.blt d n = true := by rfl)
    (h : K ⟨(d, .agg cs.toArray) :: tm, bx, rw, ck⟩) : VX P n md ⟨some d, .load t x, ty, pos, af, gd⟩ ⟨tm, bx, rw, ck⟩ K :=
  VX.val hm (fun a w hi => by
    have := run_loadA (P := P) (a := ⟨b, 0, none⟩) (w := w) ht hg hl (fun j u hu => by
      rw [add_none, Nat.zero_add, cell_bx hi.w hb]
      exact hu)
    simp [execOp, hi.ev hx, this]) hd h
theorem VX.storeW {b : Nat} {cs l : List Value} {i : TI} (hx : ev tm x = some (.pointer (some ⟨b, 0, none⟩)) := by rfl) (hy : ev tm y = some (.agg l.toArray) := by rfl) (ht : Ty P t i := by rfl)
    (hl : l.length = i.size) (hv : ∀ u, u ∈ l → plainV u = true)
    (hb0 : BxAt bx b cs e := by ((repeat' (guard_target =~ BxAt _ _ _ _; first | exact BxAt.head | refine' BxAt.tail _)); fail_if_success refine ?_)) (hcl : cs.length = l.length) (hb : BxSet bx b cs e l bx' := by ((repeat' (guard_target =~ BxSet _ _ _ _ _ _; first | exact BxSet.head | refine' BxSet.tail _)); fail_if_success refine ?_))
    (h : K ⟨tm, bx', rw, ck⟩) : VX P n (.x false) ⟨none, .store t x y, ty, pos, af, gd⟩ ⟨tm, bx, rw, ck⟩ K :=
  VX.unit (fun a w hi => by
    obtain ⟨w', h1, h2⟩ := hi.w.store (v := .agg l.toArray) hb ht hl rfl hv (csPut_whole hcl)
    exact ⟨w', by simp [execOp, hi.ev hx, hi.ev hy, h1], h2⟩) h
theorem freeze_box {w : World} {b : Nat} {C : Array Value} (hb : w.heap[b]? = some (.cells C e (0, 0))) (k : Nat) :
    (w.freeze ⟨b, k, none⟩ 1).heap[b]? = some (.cells C e (k, k + 1)) ∧ (w.freeze ⟨b, k, none⟩ 1).heap.size = w.heap.size ∧ (w.freeze ⟨b, k, none⟩ 1).os = w.os ∧ (w.freeze ⟨b, k, none⟩ 1).tape = w.tape ∧ (w.freeze ⟨b, k, none⟩ 1).output = w.output ∧
    ∀ g, g ≠ b → (w.freeze ⟨b, k, none⟩ 1).heap[g]? = w.heap[g]? := by
  unfold World.freeze
  rw [if_neg (by decide)]
  refine ⟨?_, by simp, rfl, rfl, rfl, fun g hg => ?_⟩
  · simp [Array.getElem?_modify, hb]
  · have : ¬ b = g := fun e => hg e.symm
    simp [Array.getElem?_modify, this]
/-- A constant's bytes are marked: from here on they are read only. -/
theorem VX.mark {b c : Nat} {xs : List UInt8} {cs : List Value} {s0 b0 s1 b1 : Nat} {z0 z1 : Value} (hx : ev tm x = some (.slice (some ⟨b, 0, none⟩) xs.length c) := by rfl) (ht : Ty P t ⟨.slice e, s0, b0, z0⟩ := by rfl) (he : Ty P e ⟨.int .u8, s1, b1, z1⟩ := by rfl)
    (hdel : BxDel bx b cs e bx' := by ((repeat' (guard_target =~ BxDel _ _ _ _ _; first | exact BxDel.head | refine' BxDel.tail _)); fail_if_success refine ?_)) (hcs : cs = xs.flatMap encB := by rfl) (hmax : Nat.ble xs.length 9223372036854775807 = true := by rfl) (hd : Nat.blt d n = true := by rfl)
    (h : ∀ w' : World, View encB 1 w' (Own (.slice (some ⟨b, 0, none⟩) xs.length c)) (some ⟨b, 0, none⟩) xs.length xs → K ⟨(d, .slice (some ⟨b, 0, none⟩) xs.length c) :: tm, bx', rw, (w', Own (.slice (some ⟨b, 0, none⟩) xs.length c)) :: ck⟩) :
    VX P n (.x false) ⟨some d, .convert t t x, ty, pos, af, gd⟩ ⟨tm, bx, rw, ck⟩ K := fun a w hi => by
  subst hcs
  have h1 : WInv ⟨tm, (b, xs.flatMap encB, e) :: bx', rw, ck⟩ w := hi.w.perm hdel.perm (List.Perm.refl _)
  have hb : w.heap[b]? = some (.cells (xs.flatMap encB).toArray e (0, 0)) := h1.bx (b, xs.flatMap encB, e) List.mem_cons_self
  have hlt := size_of_some hb
  obtain ⟨f1, f2, f3, f4, f5, f6⟩ := freeze_box hb (xs.flatMap encB).length
  have hw := h1.dropbox f3 f4 f5 (Nat.le_of_eq f2.symm) (fun g _ hg => f6 g hg)
  have hne : ∀ y, y ∈ St.blks ⟨tm, bx', rw, ck⟩ → ∀ g, y = some g → g ≠ b := fun y hy g hg e => (List.pairwise_cons.1 h1.ap).1 y hy b rfl (by rw [hg, e])
  have hck := hw.check (Own (.slice (some ⟨b, 0, none⟩) xs.length c)) (fun g hg => by
    have : b = g := by simpa [Own, Value.ownBlock] using hg
    rw [f2, ← this]; exact hlt) (fun y hy g hg hs => by
    have : b = g := by simpa [Own, Value.ownBlock] using hs
    exact hne y hy g hg this.symm)
  refine Oper.wp_of_run (v := .slice (some ⟨b, 0, none⟩) xs.length c) (w' := w.freeze ⟨b, (xs.flatMap encB).length, none⟩ 1) ?_ ⟨fun e => (by cases e), _, h (w.freeze ⟨b, (xs.flatMap encB).length, none⟩ 1) ?_, (hi.world hck).put d (blt_lt hd) _⟩
  · have hsh : w.shape? b = some (e, (xs.flatMap encB).length) := by
      unfold World.shape?
      rw [hb]
      rfl
    simp only [execOp, hi.ev hx, convert, Sem.run_bind, ht.run_und, he.run_und, Result.andThen_ok]
    simp [markStringish, hsh]
  · refine ⟨encB_ok, rfl, Nat.le_of_ble_eq_true hmax, fun _ => ⟨_, rfl, rfl, fun k hk j u hu => ?_⟩⟩
    have h2 := getElem?_flatMap encB 1 (fun _ => rfl) xs k hk j u hu
    rw [add_none, add_none, Nat.zero_add, cell_of_row _ b _ _ e _ f1]
    simpa using h2
end
/-- A box of bytes is read by a callee. -/
theorem boxB_view {w : World} {σ : St} {b : Nat} {cs : List Value} {e : TypeId} (h : WInv σ w) (hb : BxAt σ.bx b cs e) (xs : List UInt8) (hcs : cs = xs.flatMap encB) (h0 : 0 < xs.length) (hm : xs.length ≤ 9223372036854775807) : View encB 1 w (Low w) (some ⟨b, 0, none⟩) xs.length xs := by
  subst hcs
  refine ⟨encB_ok, rfl, hm, fun _ => ⟨_, rfl, size_of_some (h.bx _ hb.mem), fun k hk j u hu => ?_⟩⟩
  have h2 := getElem?_flatMap encB 1 (fun _ => rfl) xs k hk j u hu
  rw [add_none, add_none, Nat.zero_add, cell_bx h hb]
  exact h2
end Go.Vg
