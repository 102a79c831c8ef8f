/-
  The numbers that go on: linear over bits; they never stand, and the last bits of 64 of them tell which one is the first.
-/
import Derived.KernelRfl
set_option linter.unusedVariables false
namespace Go.Rnd

/-- One step on, but for 0. -/
def sA (s : Nat) : Nat := s ^^^ s * 2 ^ 13 % 2 ^ 64
def sB (s : Nat) : Nat := s ^^^ s / 2 ^ 7
def sC (s : Nat) : Nat := s ^^^ s * 2 ^ 17 % 2 ^ 64
def stepN (s : Nat) : Nat := sC (sB (sA s))
def nextN (s : Nat) : Nat := stepN (if s = 0 then 11400714819323198485 else s)

def Lin (f : Nat → Nat) : Prop := ∀ a b, f (a ^^^ b) = f a ^^^ f b
theorem lin_id : Lin (fun x => x) := fun _ _ => rfl
theorem lin_comp {f g : Nat → Nat} (hf : Lin f) (hg : Lin g) : Lin (fun x => f (g x)) := fun a b => by
  show f (g (a ^^^ b)) = _
  rw [hg, hf]
theorem xor4 (a b c d : Nat) : (a ^^^ b) ^^^ (c ^^^ d) = (a ^^^ c) ^^^ (b ^^^ d) := by
  rw [Nat.xor_assoc, Nat.xor_assoc, ← Nat.xor_assoc b c d, Nat.xor_comm b c, Nat.xor_assoc c b d]
theorem lin_xor {f g : Nat → Nat} (hf : Lin f) (hg : Lin g) : Lin (fun x => f x ^^^ g x) := fun a b => by
  show f (a ^^^ b) ^^^ g (a ^^^ b) = _
  rw [hf, hg, xor4]
theorem lin_shl (k m : Nat) : Lin (fun x => x * 2 ^ k % 2 ^ m) := fun a b => by
  show (a ^^^ b) * 2 ^ k % 2 ^ m = _
  rw [← Nat.shiftLeft_eq, Nat.shiftLeft_xor_distrib, Nat.xor_mod_two_pow, Nat.shiftLeft_eq, Nat.shiftLeft_eq]
theorem lin_shr (k : Nat) : Lin (fun x => x / 2 ^ k) := fun a b => by
  show (a ^^^ b) / 2 ^ k = _
  rw [← Nat.shiftRight_eq_div_pow, Nat.shiftRight_xor_distrib, Nat.shiftRight_eq_div_pow, Nat.shiftRight_eq_div_pow]
theorem lin_step : Lin stepN :=
  lin_comp (f := sC) (lin_xor lin_id (lin_shl 17 64)) (lin_comp (f := sB) (g := sA) (lin_xor lin_id (lin_shr 7)) (lin_xor lin_id (lin_shl 13 64)))
theorem lin_zero {f : Nat → Nat} (h : Lin f) : f 0 = 0 := by
  have := h 0 0
  rw [Nat.xor_self, Nat.xor_self] at this
  exact this
/-- What is told of the powers of two is told of all. -/
theorem lin_all {f : Nat → Nat} (h : Lin f) : ∀ n, (∀ i, i < n → f (2 ^ i) = 2 ^ i) → ∀ x, x < 2 ^ n → f x = x
  | 0, _, x, hx => by
    obtain rfl : x = 0 := by simpa using hx
    exact lin_zero h
  | n + 1, hb, x, hx => by
    have ih := lin_all h n (fun i hi => hb i (by omega))
    by_cases hlt : x < 2 ^ n
    · exact ih x hlt
    · have he : x = (x - 2 ^ n) ^^^ 2 ^ n := by
        have h1 : x - 2 ^ n < 2 ^ n := by rw [Nat.pow_succ] at hx; omega
        have h2 := Nat.two_pow_add_eq_or_of_lt h1 1
        rw [Nat.mul_one] at h2
        obtain ⟨y, rfl⟩ : ∃ y, x = 2 ^ n + y := ⟨x - 2 ^ n, by omega⟩
        rw [Nat.add_sub_cancel_left] at h1 h2 ⊢
        apply Nat.eq_of_testBit_eq
        intro j
        rw [Nat.testBit_xor, h2, Nat.testBit_or]
        by_cases hj : j = n
        · subst hj
          rw [Nat.testBit_lt_two_pow h1, Nat.testBit_two_pow_self]
          rfl
        · rw [Nat.testBit_two_pow_of_ne (by omega), Bool.false_or, Bool.xor_false]
      have h1 : x - 2 ^ n < 2 ^ n := by rw [Nat.pow_succ] at hx; omega
      rw [he, h, ih _ h1, hb n (by omega)]

/-- Columns of a table, those of the bits that are 1. -/
def pickT : List Nat → Nat → Nat
  | [], _ => 0
  | c :: cs, y => (if y % 2 = 1 then c else 0) ^^^ pickT cs (y / 2)
theorem mod2_xor (a b : Nat) : (a ^^^ b) % 2 = (a % 2 ^^^ b % 2) := Nat.xor_mod_two_pow (n := 1) (a := a) (b := b)
theorem lin_pick : ∀ cs, Lin (pickT cs)
  | [] => fun _ _ => (Nat.xor_self 0).symm
  | c :: cs => fun a b => by
    have hd : (a ^^^ b) / 2 = a / 2 ^^^ b / 2 := lin_shr 1 a b
    simp only [pickT, hd, lin_pick cs _ _, mod2_xor]
    rw [xor4]
    congr 1
    rcases Nat.mod_two_eq_zero_or_one a with ha | ha <;> rcases Nat.mod_two_eq_zero_or_one b with hb | hb <;> simp [ha, hb]
/-- Last bits of numbers one behind the other, as columns are picked by them. -/
def pickO : List Nat → Nat → Nat
  | [], _ => 0
  | c :: cs, y => (if y % 2 = 1 then c else 0) ^^^ pickO cs (stepN y)
theorem lin_pickO : ∀ cs, Lin (pickO cs)
  | [] => fun _ _ => (Nat.xor_self 0).symm
  | c :: cs => fun a b => by
    simp only [pickO, lin_step a b, lin_pickO cs _ _, mod2_xor]
    rw [xor4]
    congr 1
    rcases Nat.mod_two_eq_zero_or_one a with ha | ha <;> rcases Nat.mod_two_eq_zero_or_one b with hb | hb <;> simp [ha, hb]
def iterN : Nat → Nat → Nat
  | 0, s => s
  | k + 1, s => iterN k (stepN s)
theorem pickO_zero : ∀ (cs : List Nat) (y : Nat), (∀ k, k < cs.length → iterN k y % 2 = 0) → pickO cs y = 0
  | [], _, _ => rfl
  | c :: cs, y, h => by
    have h0 := h 0 (by simp)
    simp only [iterN] at h0
    simp only [pickO, h0]
    rw [pickO_zero cs (stepN y) fun k hk => h (k + 1) (by simpa using hk), if_neg (by decide)]
    rfl
def tD : List Nat := [1543737011832479919, 848062959960547691, 15470882911132181007, 10122747898706093099, 4173278474950961251, 10660776033095340074, 502533042114134113, 17137591055431335982, 15828438037153120348, 8532516530407940193, 933774701730709550, 4104709767998021737, 12742917627139678219, 7039091180569804822, 16304092523707703321, 16544973821542719495, 16873608538700079163, 17674999753931776067, 3147500198616096863, 10837369353003655271, 14765726481160355874, 13315113856928718961, 12730502422019399739, 4632986311919689795, 6967379790779990122, 2397168452994793528, 7175621254636412997, 437865684269686867, 17006008948234993738, 1817397688083783757, 15156619499398938742, 4938197266289655808, 9876394532579311616, 3691830746136617013, 5144250423208304735, 5760770785756897383, 9206200966584746018, 18412401933169492036, 2246660704697090148, 18402054974764883985, 16131456810618118167, 13816169547526684718, 9185595021343817820, 2221917290982178900, 18199586511452512369, 4042421023540731963, 8084842047081463926, 18014398509481984, 36028797018963968, 72057594037927936, 144115188075855872, 288230376151711744, 576460752303423488, 1152921504606846976, 2305843009213693952, 4611686018427387904, 9223372036854775808, 2385787953710800949, 7143850856784060511, 536590819960610919, 17204585108701724706, 18201838311266197617, 4037917423913361467, 8075834847826722934]
def tM : List Nat := [13721891023265367629, 8992534923016744091, 17985069846033488182, 17523395618357424748, 16595543013554996441, 14739837804084373939, 11032931534459196262, 3614614845758539469, 7224726641712639387, 14449453283425278774, 10452162493141005932, 2453076763122158809, 4901649376928250291, 8929476267905233508, 17854448386360165577, 17266656848461080979, 16086569623212610342, 13726395172715669068, 9001543221917346969, 18003086443834693938, 17559428813959836260, 16667609404759819465, 14883970586494019987, 11321197099278488358, 4195650124847425100, 8386797199890410649, 16773594399780821298, 15100444725852090980, 11749641228544328905, 5048034234063038867, 9222245982174810660, 18444491964349621320, 18446744004439992465, 18446743935170433314, 18446743796631315012, 18442240469748638857, 18437736865787726098, 18428729657865900580, 18410715242022249544, 18370182261018880145, 18293620448328208674, 18140496822946865732, 17829746522379740297, 17212748971049928978, 15978753868390306340, 13510763663071061064, 8570279103116503185, 2177756241903489056, 4355512483806978112, 8715529117064257665, 17431058234128515330, 16415372394547479044, 14384000715385406472, 10321257357061261328, 2195770640412971040, 4391541280825942080, 8787586711102185601, 17575173422204371202, 16703602770699190788, 14960461467688829960, 11474178861668108304, 4501613649626664992, 9003227299253329984, 18010958747956961409]
def tO : List Nat := [765214667332754139, 17235300656508344808, 10842792154767364426, 11861477401142530924, 14154529017182104628, 6385596388370554376, 691532738334620026, 5898541763365421178, 9711907597095275372, 12155618025712473194, 14464720641952688440, 2882249153028451682, 14123691599545303624, 2730094042262532610, 16943126684394861412, 8391591040338876758, 8412819294875497488, 10454139813421337350, 2645037302714756190, 5572395287506874938, 16312520999624989474, 14144171103483719746, 12917310659351395640, 17048491418589012308, 9196468559228725018, 2804089106546801516, 12414680139536559922, 7289974364390773054, 16285795414807087104, 3329047493701789002, 7973942233180524410, 6686695763040587866, 8108938154923198564, 1739210396313539182, 5039640327213289804, 1483330272981337414, 16926079430631865660, 8858273193987592758, 4487123005330979394, 5423209127082717454, 10611730223768939352, 432480615466467932, 3009160650165451786, 12500005660831046206, 13756769122937169242, 11694655578394963716, 3279004005068725266, 13486553326788161628, 16732199692265421102, 18295950747006212144, 15154678892734518072, 5340094515050717524, 10364499405675801888, 4184263754248862584, 7349930159865715534, 3234284937974697554, 1880517756254625852, 1122887321797376076, 1636572852913295186, 3429814496891692058, 16121056615786247282, 8649341513868404770, 12523919624944392464, 4102641269797740334]

def allB (f : Nat → Nat) : Nat → Bool
  | 0 => true
  | n + 1 => Nat.beq (f (2 ^ n)) (2 ^ n) && allB f n
theorem allB_spec {f : Nat → Nat} : ∀ {n : Nat}, allB f n = true → ∀ i, i < n → f (2 ^ i) = 2 ^ i
  | 0, _, i, hi => absurd hi (by omega)
  | n + 1, h, i, hi => by
    simp only [allB, Bool.and_eq_true] at h
    by_cases e : i = n
    · subst e
      exact Nat.eq_of_beq_eq_true h.1
    · exact allB_spec h.2 i (by omega)
theorem okD : allB (fun x => pickT tD (x ^^^ stepN x)) 64 = true := by kernel_rfl
theorem okO : allB (pickO tO) 64 = true := by kernel_rfl
theorem lenO : tO.length = 64 := by rfl

/-- No number but 0 stands. -/
theorem step_moves {x : Nat} (hx : x < 2 ^ 64) (h0 : x ≠ 0) : stepN x ≠ x := fun h => by
  have h1 : pickT tD (x ^^^ stepN x) = x := lin_all (lin_comp (lin_pick tD) (lin_xor lin_id lin_step)) 64 (allB_spec okD) x hx
  rw [h, Nat.xor_self, lin_zero (lin_pick tD)] at h1
  exact h0 h1.symm
theorem sA_lt {x : Nat} (hx : x < 2 ^ 64) : sA x < 2 ^ 64 := Nat.xor_lt_two_pow hx (Nat.mod_lt _ (by decide))
theorem sB_lt {x : Nat} (hx : x < 2 ^ 64) : sB x < 2 ^ 64 := Nat.xor_lt_two_pow hx (Nat.lt_of_le_of_lt (Nat.div_le_self _ _) hx)
theorem sC_lt {x : Nat} (hx : x < 2 ^ 64) : sC x < 2 ^ 64 := Nat.xor_lt_two_pow hx (Nat.mod_lt _ (by decide))
theorem step_lt {x : Nat} (hx : x < 2 ^ 64) : stepN x < 2 ^ 64 := sC_lt (sB_lt (sA_lt hx))
theorem okM : allB (fun x => pickT tM (stepN x)) 64 = true := by kernel_rfl
theorem step_inj0 {x : Nat} (hx : x < 2 ^ 64) (h : stepN x = 0) : x = 0 := by
  have h1 : pickT tM (stepN x) = x := lin_all (lin_comp (lin_pick tM) lin_step) 64 (allB_spec okM) x hx
  rw [h, lin_zero (lin_pick tM)] at h1
  exact h1.symm
theorem step_inj {x y : Nat} (hx : x < 2 ^ 64) (hy : y < 2 ^ 64) (h : stepN x = stepN y) : x = y := by
  have h1 := step_inj0 (Nat.xor_lt_two_pow hx hy) (by rw [lin_step, h, Nat.xor_self])
  have h2 : x ^^^ (x ^^^ y) = x := by rw [h1, Nat.xor_zero]
  rw [← Nat.xor_assoc, Nat.xor_self, Nat.zero_xor] at h2
  exact h2.symm
theorem next_eq {s : Nat} (h : s ≠ 0) : nextN s = stepN s := by simp [nextN, h]
theorem pre_lt {s : Nat} (h : s < 2 ^ 64) : (if s = 0 then 11400714819323198485 else s) < 2 ^ 64 ∧ (if s = 0 then 11400714819323198485 else s) ≠ 0 := by
  split
  · exact ⟨by decide, by decide⟩
  · exact ⟨h, by assumption⟩
theorem next_lt {s : Nat} (h : s < 2 ^ 64) : nextN s < 2 ^ 64 := step_lt (pre_lt h).1
theorem next_ne0 {s : Nat} (h : s < 2 ^ 64) : nextN s ≠ 0 := fun e => (pre_lt h).2 (step_inj0 (pre_lt h).1 e)
theorem next_moves {s : Nat} (h : s < 2 ^ 64) : nextN s ≠ s := by
  by_cases h0 : s = 0
  · subst h0
    exact next_ne0 (by decide)
  · rw [next_eq h0]
    exact step_moves h h0
theorem next_apart {s : Nat} (h : s < 2 ^ 64) (h0 : s ≠ 0) (h1 : s ≠ 1) : nextN s ≠ nextN 1 := fun e => by
  rw [next_eq h0, next_eq (by decide)] at e
  exact h1 (step_inj h (by decide) e)

def itN (s : Nat) : Nat → Nat
  | 0 => s
  | k + 1 => nextN (itN s k)
def cnt (s n : Nat) : Nat → Nat
  | 0 => 0
  | k + 1 => cnt s n k + (if itN s (k + 1) % 8 = n then 1 else 0)
theorem it_lt {s : Nat} (h : s < 2 ^ 64) : ∀ k, itN s k < 2 ^ 64
  | 0 => h
  | k + 1 => next_lt (it_lt h k)
theorem cnt_le (s n : Nat) : ∀ k, cnt s n k ≤ k
  | 0 => Nat.le_refl _
  | k + 1 => by
    have := cnt_le s n k
    simp only [cnt]
    split <;> omega
theorem cnt_all {s n : Nat} : ∀ k, cnt s n k = k → ∀ j, j < k → itN s (j + 1) % 8 = n
  | 0, _, j, hj => absurd hj (by omega)
  | k + 1, h, j, hj => by
    have h1 := cnt_le s n k
    simp only [cnt] at h
    split at h
    · rename_i e
      by_cases hjk : j = k
      · subst hjk
        exact e
      · exact cnt_all k (by omega) j (by omega)
    · omega
theorem it_iter {s : Nat} (h : s < 2 ^ 64) : ∀ k, itN s (k + 1) = iterN k (itN s 1) := by
  have hc : ∀ (k x : Nat), iterN (k + 1) x = stepN (iterN k x) := by
    intro k
    induction k with
    | zero => intro x; rfl
    | succ k ih => intro x; rw [iterN, ih, ← iterN]
  intro k
  induction k with
  | zero => rfl
  | succ k ih =>
    rw [itN, hc, ← ih]
    exact next_eq (next_ne0 (it_lt h k))
theorem lin_iter : ∀ k, Lin (iterN k)
  | 0 => lin_id
  | k + 1 => lin_comp (f := iterN k) (lin_iter k) lin_step
/-- Of 400 numbers not all end alike. -/
theorem cnt_few {s n : Nat} (h : s < 2 ^ 64) : cnt s n 400 ≤ 399 := by
  rcases Nat.lt_or_ge 399 (cnt s n 400) with h1 | h1
  case inr => exact h1
  exfalso
  have h2 := cnt_all (s := s) (n := n) 400 (by have := cnt_le s n 400; omega)
  have h3 : itN s 1 < 2 ^ 64 := it_lt h 1
  have h4 : itN s 1 ≠ 0 := next_ne0 h
  have h5 : pickO tO (itN s 1 ^^^ stepN (itN s 1)) = 0 := by
    refine pickO_zero tO _ fun k hk => ?_
    rw [lenO] at hk
    have ha := h2 k (by omega)
    have hb := h2 (k + 1) (by omega)
    rw [it_iter h] at ha hb
    rw [iterN] at hb
    rw [lin_iter k, mod2_xor, show iterN k (itN s 1) % 2 = n % 2 by omega, show iterN k (stepN (itN s 1)) % 2 = n % 2 by omega, Nat.xor_self]
  have h6 := lin_all (lin_pickO tO) 64 (allB_spec okO) _ (Nat.xor_lt_two_pow h3 (step_lt h3))
  rw [h5] at h6
  refine step_moves h3 h4 ?_
  have h7 : itN s 1 ^^^ (itN s 1 ^^^ stepN (itN s 1)) = itN s 1 := by rw [← h6, Nat.xor_zero]
  rw [← Nat.xor_assoc, Nat.xor_self, Nat.zero_xor] at h7
  exact h7
end Go.Rnd
