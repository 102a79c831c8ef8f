/-
  Messages between nodes, in plain lists: how they are read off bytes and told as bytes.
-/
import Derived.Test.YtlidjmchohkhcaaDoorSpec
set_option linter.unusedVariables false
namespace Go.Rp
open Go.Ent
structure Msg where
  kind : Int
  frm : Int
  to : Int
  term : Int
  index : Int
  lterm : Int
  commit : Int
  ok : Bool
  es : List Entry
  ms : List Int
  data : ByteArray
deriving Inhabited, DecidableEq

/-! ### Numbers of so many bytes -/
def beN (a : Nat) : List UInt8 → Nat
  | [] => a
  | c :: l => beN (a * 256 + c.toNat) l
def bytesN : Nat → Nat → List UInt8
  | 0, _ => []
  | n + 1, v => UInt8.ofNat (v / 256 ^ n) :: bytesN n v
theorem bytesN_len : ∀ n v, (bytesN n v).length = n
  | 0, _ => rfl
  | n + 1, v => by rw [bytesN, List.length_cons, bytesN_len n v]
theorem beN_lt : ∀ (l : List UInt8) (a k : Nat), a < 256 ^ k → beN a l < 256 ^ (k + l.length)
  | [], a, k, h => by simpa [beN] using h
  | c :: l, a, k, h => by
    rw [beN, List.length_cons, show k + (l.length + 1) = (k + 1) + l.length by omega]
    refine beN_lt l _ (k + 1) ?_
    have := c.toNat_lt
    rw [Nat.pow_succ]
    omega
theorem beN_split : ∀ (l : List UInt8) (a : Nat), ∃ r, beN a l = a * 256 ^ l.length + r ∧ r < 256 ^ l.length
  | [], a => ⟨0, by simp [beN], by simp⟩
  | c :: l, a => by
    obtain ⟨r, h1, h2⟩ := beN_split l (a * 256 + c.toNat)
    have := c.toNat_lt
    refine ⟨c.toNat * 256 ^ l.length + r, ?_, ?_⟩
    · rw [beN, h1, List.length_cons, Nat.pow_succ, Nat.add_mul, Nat.mul_assoc, Nat.mul_comm 256 (256 ^ l.length), Nat.add_assoc]
    · rw [List.length_cons, Nat.pow_succ, Nat.mul_comm (256 ^ l.length) 256]
      have h3 : c.toNat * 256 ^ l.length ≤ 255 * 256 ^ l.length := Nat.mul_le_mul_right _ (by omega)
      omega
theorem bytesN_mod : ∀ (n v x : Nat), bytesN n (x * 256 ^ n + v) = bytesN n v
  | 0, _, _ => rfl
  | n + 1, v, x => by
    rw [bytesN, bytesN]
    have hp : 0 < 256 ^ n := Nat.pow_pos (by decide)
    have e1 : x * 256 ^ (n + 1) + v = (x * 256) * 256 ^ n + v := by rw [Nat.pow_succ, Nat.mul_assoc, Nat.mul_comm (256 ^ n) 256]
    rw [e1, bytesN_mod n v (x * 256), Nat.add_comm, Nat.add_mul_div_right _ _ hp]
    congr 1
    apply UInt8.toNat_inj.1
    rw [UInt8.toNat_ofNat', UInt8.toNat_ofNat']
    omega
theorem bytesN_be : ∀ (l : List UInt8) (a : Nat), bytesN l.length (beN a l) = l
  | [], _ => rfl
  | c :: l, a => by
    rw [List.length_cons, bytesN, beN, bytesN_be l]
    obtain ⟨r, h1, h2⟩ := beN_split l (a * 256 + c.toNat)
    have hp : 0 < 256 ^ l.length := Nat.pow_pos (by decide)
    rw [h1, Nat.add_comm, Nat.add_mul_div_right _ _ hp, Nat.div_eq_of_lt h2, Nat.zero_add]
    congr 1
    apply UInt8.toNat_inj.1
    have := c.toNat_lt
    rw [UInt8.toNat_ofNat']
    omega

/-! ### A reader: what is left, and an error's number, which stays -/
structure Rd where
  b : List UInt8
  e : Int
def takeS (n : Nat) (r : Rd) : List UInt8 × Rd := if r.e ≠ 0 then ([], r) else if r.b.length < n then ([], ⟨r.b, 3⟩) else (r.b.take n, ⟨r.b.drop n, 0⟩)
def numS (n : Nat) (r : Rd) : Nat × Rd := (beN 0 (takeS n r).1, (takeS n r).2)
def strS (r : Rd) : List UInt8 × Rd := takeS (numS 4 r).1 (numS 4 r).2
def entryS (r : Rd) : Entry × Rd :=
  let i := numS 6 r
  let t := numS 5 i.2
  let k := numS 1 t.2
  let d := strS k.2
  (⟨i.1, t.1, k.1, ⟨d.1.toArray⟩⟩, d.2)
def entS : Nat → Rd → List Entry × Rd
  | 0, r => ([], r)
  | k + 1, r => if r.e ≠ 0 then ([], r) else ((entryS r).1 :: (entS k (entryS r).2).1, (entS k (entryS r).2).2)
/-- Members: rising, each from 1 to 7. -/
def mayMs : List Int → Bool
  | [] => true
  | [a] => decide (1 ≤ a ∧ a ≤ 7)
  | a :: b :: l => decide (1 ≤ a ∧ a ≤ 7) && decide (a < b) && mayMs (b :: l)
def msOf (l : List UInt8) : List Int := l.map fun c => (c.toNat : Int)
def headS (b : List UInt8) : Msg × Rd :=
  let k := numS 1 ⟨b, 0⟩
  let f := numS 1 k.2
  let t := numS 1 f.2
  let m := numS 5 t.2
  let i := numS 5 m.2
  let l := numS 5 i.2
  let c := numS 5 l.2
  let o := numS 1 c.2
  (⟨k.1, f.1, t.1, m.1, i.1, l.1, c.1, decide ((o.1 : Int) = 1), [], [], ⟨#[]⟩⟩, if 1 < o.1 then ⟨o.2.b, 3⟩ else o.2)
def msgS (b : List UInt8) : Msg × Rd :=
  let h := headS b
  let n := numS 1 h.2
  let es := entS n.1 n.2
  let s := strS es.2
  let d := strS (if mayMs (msOf s.1) = true then s.2 else ⟨s.2.b, 1⟩)
  ({ h.1 with es := es.1, ms := if mayMs (msOf s.1) = true then msOf s.1 else [], data := ⟨d.1.toArray⟩ }, d.2)

/-! ### Which messages may be -/
def nodeB (n : Int) : Bool := decide (1 ≤ n ∧ n ≤ 7)
def numB (n : Int) : Bool := decide (0 ≤ n ∧ n ≤ 1099511627775)
def confB (e : Entry) : Bool := if e.kind = 2 then mayMs (msOf e.data.data.toList) && decide (e.data.size ≠ 0) else true
def ownB (m : Msg) : Bool :=
  if m.kind = 1 ∨ m.kind = 3 then decide (m.commit = 0 ∧ m.ok = false ∧ m.es = [] ∧ m.ms = [] ∧ m.data.size = 0)
  else if m.kind = 2 ∨ m.kind = 4 then decide (m.index = 0 ∧ m.lterm = 0 ∧ m.commit = 0 ∧ m.es = [] ∧ m.ms = [] ∧ m.data.size = 0)
  else if m.kind = 5 then decide (m.es.length ≤ 16) && Ent.follow m.index m.lterm m.es && m.es.all confB && decide (m.ok = false ∧ m.ms = [] ∧ m.data.size = 0)
  else if m.kind = 6 then decide (m.lterm = 0 ∧ m.commit = 0 ∧ m.es = [] ∧ m.ms = [] ∧ m.data.size = 0)
  else if m.kind = 7 then decide (m.index ≠ 0 ∧ m.index ≤ 1099511625728) && mayMs m.ms && decide (m.ms ≠ [] ∧ m.data.size ≤ 524288) && decide (m.commit = 0 ∧ m.ok = false ∧ m.es = [])
  else false
def mayB (m : Msg) : Bool := nodeB m.frm && nodeB m.to && numB m.term && numB m.index && numB m.lterm && numB m.commit && ownB m

/-! ### A message's bytes -/
def strB (l : List UInt8) : List UInt8 := bytesN 4 l.length ++ l
def entB (e : Entry) : List UInt8 := bytesN 6 e.index.toNat ++ (bytesN 5 e.term.toNat ++ (bytesN 1 e.kind.toNat ++ strB e.data.data.toList))
def bytesMs (l : List Int) : List UInt8 := l.map fun n => UInt8.ofNat n.toNat
def encS (m : Msg) : List UInt8 :=
  bytesN 1 m.kind.toNat ++ (bytesN 1 m.frm.toNat ++ (bytesN 1 m.to.toNat ++ (bytesN 5 m.term.toNat ++ (bytesN 5 m.index.toNat ++ (bytesN 5 m.lterm.toNat ++ (bytesN 5 m.commit.toNat ++
  (bytesN 1 (if m.ok = true then 1 else 0) ++ (bytesN 1 m.es.length ++ (m.es.flatMap entB ++ (strB (bytesMs m.ms) ++ strB m.data.data.toList))))))))))
/-- The message that bytes are. -/
def decS (b : List UInt8) : Option Msg := if (msgS b).2.e = 0 ∧ (msgS b).2.b = [] ∧ mayB (msgS b).1 = true then some (msgS b).1 else none

/-! ### What is read without an error, is told as the bytes it was -/
theorem take_inv {n : Nat} {r : Rd} (h : (takeS n r).2.e = 0) : r.e = 0 ∧ (takeS n r).1.length = n ∧ r.b = (takeS n r).1 ++ (takeS n r).2.b := by
  unfold takeS at h ⊢
  split at h
  · exact absurd h (by assumption)
  · rename_i h0
    rw [if_neg h0]
    split at h
    · cases h
    · rename_i h1
      rw [if_neg h1]
      exact ⟨by simpa using h0, by simp; omega, (List.take_append_drop n r.b).symm⟩
theorem num_inv {n : Nat} {r : Rd} (h : (numS n r).2.e = 0) : r.e = 0 ∧ r.b = bytesN n (numS n r).1 ++ (numS n r).2.b := by
  obtain ⟨h1, h2, h3⟩ := take_inv (n := n) (r := r) h
  refine ⟨h1, ?_⟩
  have := bytesN_be (takeS n r).1 0
  rw [h2] at this
  rw [numS]
  dsimp only
  rw [this]
  exact h3
theorem str_inv {r : Rd} (h : (strS r).2.e = 0) : r.e = 0 ∧ r.b = strB (strS r).1 ++ (strS r).2.b := by
  obtain ⟨h1, h2, h3⟩ := take_inv (n := (numS 4 r).1) (r := (numS 4 r).2) h
  obtain ⟨h4, h5⟩ := num_inv h1
  refine ⟨h4, ?_⟩
  rw [h5, h3]
  unfold strB strS
  rw [h2, List.append_assoc]
theorem entry_inv {r : Rd} (h : (entryS r).2.e = 0) : r.e = 0 ∧ r.b = entB (entryS r).1 ++ (entryS r).2.b := by
  unfold entryS at h ⊢
  dsimp only at h ⊢
  obtain ⟨h1, e1⟩ := str_inv h
  obtain ⟨h2, e2⟩ := num_inv h1
  obtain ⟨h3, e3⟩ := num_inv h2
  obtain ⟨h4, e4⟩ := num_inv h3
  refine ⟨h4, ?_⟩
  rw [e4, e3, e2, e1]
  simp [entB]
theorem ent_inv : ∀ (k : Nat) {r : Rd}, (entS k r).2.e = 0 → r.e = 0 ∧ (entS k r).1.length = k ∧ r.b = (entS k r).1.flatMap entB ++ (entS k r).2.b
  | 0, r, h => ⟨h, rfl, rfl⟩
  | k + 1, r, h => by
    rw [entS] at h ⊢
    split at h
    · exact absurd h (by assumption)
    · rename_i h0
      rw [if_neg h0]
      obtain ⟨h1, h2, h3⟩ := ent_inv k h
      obtain ⟨h4, h5⟩ := entry_inv h1
      refine ⟨h4, by simp [h2], ?_⟩
      dsimp only
      rw [h5, h3, List.flatMap_cons, List.append_assoc]
theorem bytesMs_of (l : List UInt8) : bytesMs (msOf l) = l := by
  unfold bytesMs msOf
  rw [List.map_map]
  refine List.map_id'' (fun c => ?_) l
  simp
theorem head_inv {b : List UInt8} (h : (headS b).2.e = 0) : ∃ o : Nat, b = bytesN 1 (headS b).1.kind.toNat ++ (bytesN 1 (headS b).1.frm.toNat ++ (bytesN 1 (headS b).1.to.toNat ++ (bytesN 5 (headS b).1.term.toNat ++ (bytesN 5 (headS b).1.index.toNat ++ (bytesN 5 (headS b).1.lterm.toNat ++ (bytesN 5 (headS b).1.commit.toNat ++
    (bytesN 1 (if (headS b).1.ok = true then 1 else 0) ++ (headS b).2.b))))))) := by
  refine ⟨0, ?_⟩
  unfold headS at h ⊢
  dsimp only at h ⊢
  split at h
  · cases h
  · rename_i ho
    rw [if_neg ho]
    obtain ⟨h8, e8⟩ := num_inv h
    obtain ⟨h7, e7⟩ := num_inv h8
    obtain ⟨h6, e6⟩ := num_inv h7
    obtain ⟨h5, e5⟩ := num_inv h6
    obtain ⟨h4, e4⟩ := num_inv h5
    obtain ⟨h3, e3⟩ := num_inv h4
    obtain ⟨h2, e2⟩ := num_inv h3
    obtain ⟨h1, e1⟩ := num_inv h2
    dsimp only at e1
    have e0 : ∀ x : Nat, ¬ 1 < x → (if decide ((x : Int) = 1) = true then 1 else 0) = x := fun x hx => by
      by_cases h1 : x = 1
      · subst h1; rfl
      · rw [if_neg (by simp; omega)]; omega
    rw [e0 _ ho]
    simp only [Int.toNat_natCast]
    rw [← e8, ← e7, ← e6, ← e5, ← e4, ← e3, ← e2]
    exact e1
theorem enc_dec {b : List UInt8} (h : (msgS b).2.e = 0) (hb : (msgS b).2.b = []) : encS (msgS b).1 = b := by
  unfold msgS at h hb ⊢
  dsimp only at h hb ⊢
  obtain ⟨h1, e1⟩ := str_inv h
  split at h1
  · rename_i hm
    rw [if_pos hm] at e1 hb ⊢
    rw [if_pos hm]
    obtain ⟨h2, e2⟩ := str_inv h1
    obtain ⟨h3, h4, e3⟩ := ent_inv _ h2
    obtain ⟨h5, e5⟩ := num_inv h3
    obtain ⟨_, e6⟩ := head_inv h5
    unfold encS
    dsimp only
    rw [bytesMs_of, h4]
    rw [hb, List.append_nil] at e1
    conv => rhs; rw [e6]
    rw [e5, e3, e2, e1]
  · cases h1
theorem dec_enc {b : List UInt8} {m : Msg} (h : decS b = some m) : encS m = b ∧ mayB m = true := by
  unfold decS at h
  split at h
  · rename_i hc
    cases h
    exact ⟨enc_dec hc.1 hc.2.1, hc.2.2⟩
  · cases h
end Go.Rp
