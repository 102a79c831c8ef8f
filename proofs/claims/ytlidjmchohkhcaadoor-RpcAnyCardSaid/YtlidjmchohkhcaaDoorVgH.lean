/-
  Vg, part H: a region whose order is open, by a plan.
-/
import Derived.Test.YtlidjmchohkhcaaDoorVgG
import Derived.KernelRfl
set_option linter.unusedVariables false
set_option linter.unusedSimpArgs false
set_option linter.unusedSectionVars false
namespace Go.Vg
open Go.RowKit

/-- In which order the operations are looked at: 'u', 'l': this one may be thought first; 'all': each of these may come next. -/
inductive Plan where
  | done
  | u (i : Nat) (p : Plan)
  | l (i : Nat) (p : Plan)
  | all (ps : List (Nat × Plan))

/-- Operations that may turn what was there. -/
def growsB : Op → Bool
  | .store .. | .entryStore .. | .mapUpdate .. | .insert .. | .next .. | .send .. | .recv .. | .select .. | .go .. | .defer .. => false
  | .call c => match c.callee with | .builtin .append | .builtin .copy | .builtin .clear | .builtin .delete | .builtin .close | .builtin .print | .builtin .println | .builtin .recover | .builtin .panic => false | _ => true
  | _ => true
def grows (ops : Array Oper) (bad : List Nat) (i : Nat) : Bool := !bad.contains i && match ops[i]? with | some o => growsB o.op | none => false

mutual
def okPlan (ops : Array Oper) (bad : List Nat) : Nat → Array Bool → Plan → Bool
  | _, listed, .done => (Region.ready .any ops listed).isEmpty
  | fuel, listed, .u i p => match fuel with
    | 0 => false
    | fuel + 1 => freeB ops true (grows ops bad) listed i && (Region.ready .any ops listed).contains i && okPlan ops bad fuel (listed.setIfInBounds i true) p
  | fuel, listed, .l i p => match fuel with
    | 0 => false
    | fuel + 1 => freeB ops false (grows ops bad) listed i && (Region.ready .any ops listed).contains i && okPlan ops bad fuel (listed.setIfInBounds i true) p
  | fuel, listed, .all ps => match fuel with
    | 0 => false
    | fuel + 1 => !(Region.ready .any ops listed).isEmpty && (Region.ready .any ops listed).all (fun i => ps.any fun q => q.1 == i) && okPlans ops bad fuel listed ps
def okPlans (ops : Array Oper) (bad : List Nat) : Nat → Array Bool → List (Nat × Plan) → Bool
  | _, _, [] => true
  | fuel, listed, (i, p) :: ps => okPlan ops bad fuel (listed.setIfInBounds i true) p && okPlans ops bad fuel listed ps
end

section
variable {P : Program} [HasTab P] {fn : Func} {R : Ending → World → Prop} {n : Nat} {Q : Cont} {ops : Array Oper} {bad : List Nat}
variable {tm : Tm} {bx : List Bx} {rw : List Rw} {ck : List (World × (Nat → Prop))} {σ τ : St}
variable {ty : TypeId} {pos : String} {af : Array Edge} {op : Op} {dd : Option Tmp}

def VP (P : Program) (fn : Func) (R : Ending → World → Prop) (n : Nat) (ops : Array Oper) (bad : List Nat) (p : Plan) (σ : St) (Q : Cont) : Prop :=
  Region.noSelect ops = true → ∀ fuel listed, okPlan ops bad fuel listed p = true → ∀ a w, Inv n σ a w → wpB P ops (grows ops bad) (Out P fn R n Q) fuel listed a w

theorem VP.done (h : Q .normal σ) : VP P fn R n ops bad .done σ Q := fun _ fuel listed ho a w hi => by
  have hr : Region.ready .any ops listed = [] := by
    unfold okPlan at ho
    simpa using ho
  cases fuel with
  | zero => exact ⟨hr, σ, h, hi⟩
  | succ fuel => exact ⟨fun _ => ⟨σ, h, hi⟩, by rw [hr]; simp⟩

theorem dst_put {v : Value} {o : Oper} {K : St → Prop} (h : dst n o.dst v σ.tm fun tm => K ⟨tm, σ.bx, σ.rw, σ.ck⟩) {a : Act} {w : World} (hi : Inv n σ a w) : ∃ τ, K τ ∧ Inv n τ (a.put o.dst v) w := dst_inv h hi

theorem VP.u {i : Nat} {p : Plan} {o : Oper} (ho : ops.toList[i]? = some o := by rfl) (hg : o.guard = none := by rfl) (h : VX P n .u o σ fun τ => VP P fn R n ops bad p τ Q) : VP P fn R n ops bad (.u i p) σ Q := fun hs fuel listed hok a w hi => by
  obtain ⟨v, h1, h2⟩ := h
  cases fuel with
  | zero => simp [okPlan] at hok
  | succ fuel =>
    simp only [okPlan, Bool.and_eq_true] at hok
    rw [Array.getElem?_toList] at ho
    obtain ⟨τ, h3, h4⟩ := dst_inv (K := fun τ => VP P fn R n ops bad p τ Q) h2 hi
    exact wpB_first (all := true) ho (Region.noSelect_spec hs) (fun c a w hq => hq) fuel listed a w (freeB_spec ho hok.1.1) (by simpa using hok.1.2)
      (.inl ⟨by simp [Region.wanted, hg], fun w' _ => h1 a hi.toTInv w'⟩) (h3 hs fuel _ hok.2 _ w h4)
theorem VP.l {i : Nat} {p : Plan} {o : Oper} (ho : ops.toList[i]? = some o := by rfl) (hg : o.guard = none := by rfl) (h : VX P n .l o σ fun τ => VP P fn R n ops bad p τ Q) : VP P fn R n ops bad (.l i p) σ Q := fun hs fuel listed hok a w hi => by
  obtain ⟨v, h1, h2⟩ := h
  cases fuel with
  | zero => simp [okPlan] at hok
  | succ fuel =>
    simp only [okPlan, Bool.and_eq_true] at hok
    rw [Array.getElem?_toList] at ho
    obtain ⟨τ, h3, h4⟩ := dst_inv (K := fun τ => VP P fn R n ops bad p τ Q) h2 hi
    exact wpB_first (all := false) ho (Region.noSelect_spec hs) (fun c a w hq => hq) fuel listed a w (freeB_spec ho hok.1.1) (by simpa using hok.1.2)
      (.inl ⟨by simp [Region.wanted, hg], fun w' hb => h1 a w' ⟨hi.toTInv, hi.w.below (hb.resolve_left (by simp))⟩⟩) (h3 hs fuel _ hok.2 _ w h4)

/-- Each of these may come next. -/
def VPs (P : Program) (fn : Func) (R : Ending → World → Prop) (n : Nat) (ops : Array Oper) (bad : List Nat) (σ : St) (Q : Cont) : List (Nat × Plan) → Prop
  | [] => True
  | (i, p) :: ps => (∃ o, ops.toList[i]? = some o ∧ o.guard = none ∧ VX P n (.x (grows ops bad i)) o σ fun τ => VP P fn R n ops bad p τ Q) ∧ VPs P fn R n ops bad σ Q ps
theorem VPs.nil : VPs P fn R n ops bad σ Q [] := trivial
theorem VPs.cons {i : Nat} {p : Plan} {ps : List (Nat × Plan)} {o : Oper} {g : Bool} (ho : ops.toList[i]? = some o := by rfl) (hg : o.guard = none := by rfl) (hgr : grows ops bad i = g := by rfl)
    (h : VX P n (.x g) o σ fun τ => VP P fn R n ops bad p τ Q) (hr : VPs P fn R n ops bad σ Q ps) : VPs P fn R n ops bad σ Q ((i, p) :: ps) := ⟨⟨o, ho, hg, hgr ▸ h⟩, hr⟩
theorem VPs.get {fuel : Nat} {listed : Array Bool} : ∀ {ps : List (Nat × Plan)}, VPs P fn R n ops bad σ Q ps → okPlans ops bad fuel listed ps = true → ∀ i, (ps.any fun q => q.1 == i) = true →
    ∃ p o, ops[i]? = some o ∧ o.guard = none ∧ okPlan ops bad fuel (listed.setIfInBounds i true) p = true ∧ VX P n (.x (grows ops bad i)) o σ fun τ => VP P fn R n ops bad p τ Q
  | [], _, _, i, hi => by simp at hi
  | (j, p) :: ps, h, ho, i, hi => by
    simp only [okPlans, Bool.and_eq_true] at ho
    by_cases hji : j = i
    · subst hji
      obtain ⟨⟨o, h1, h2, h3⟩, _⟩ := h
      exact ⟨p, o, by rw [← Array.getElem?_toList]; exact h1, h2, ho.1, h3⟩
    · refine VPs.get h.2 ho.2 i ?_
      simpa [hji] using hi
theorem VP.all {ps : List (Nat × Plan)} (h : VPs P fn R n ops bad σ Q ps) : VP P fn R n ops bad (.all ps) σ Q := fun hs fuel listed hok a w hi => by
  cases fuel with
  | zero => simp [okPlan] at hok
  | succ fuel =>
    simp only [okPlan, Bool.and_eq_true] at hok
    refine ⟨fun hr => by simp [hr] at hok, fun i hri => ?_⟩
    obtain ⟨p, o, h1, h2, h3, h4⟩ := h.get hok.2 i (List.all_eq_true.1 hok.1.2 i hri)
    unfold wpOp
    rw [h1]
    simp only
    rw [if_pos (by simp [Region.wanted, h2])]
    left
    refine Oper.wp_false (Oper.wp_mono ?_ (h4 a w hi))
    rintro a' w' ⟨hb, τ, h5, h6⟩
    exact ⟨hb, h5 hs fuel _ h3 a' w' h6⟩

theorem V.draw {i : Nat} (bad : List Nat) (p : Plan) (hp : okPlan ops bad ops.size (Array.replicate ops.size false) p = true) (hs : Region.noSelect ops = true)
    (h : VP P fn R n ops bad p σ Q) : V P fn R n (.region i ops true) σ Q := fun a w hi =>
  wp_region_any HasTab.mixed (wpAny_of_wpB _ _ _ _ (h hs _ _ hp a _ ⟨hi.toTInv, hi.w.drew⟩))

end
end Go.Vg
