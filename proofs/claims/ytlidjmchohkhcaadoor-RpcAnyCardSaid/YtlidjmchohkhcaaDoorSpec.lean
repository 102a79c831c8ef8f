/-
  Entries and logs, in plain lists.
-/
import Derived.Test.YtlidjmchohkhcaaDoorVgK
namespace Go.Ent
open Go.Vg

structure Entry where
  index : Int
  term : Int
  kind : Int
  data : ByteArray
deriving Inhabited, DecidableEq

def encE (e : Entry) : List Value := [.int .i64 e.index, .int .i64 e.term, .int .i64 e.kind, .string e.data]
theorem encE_ok : EncOk encE 4 := ⟨fun _ => rfl, fun x u h => by
  simp only [encE, List.mem_cons, List.not_mem_nil, or_false] at h
  rcases h with rfl | rfl | rfl | rfl <;> rfl⟩

/-- The end of a log. -/
def endI (b : Int) (es : List Entry) : Int := match es.getLast? with | some e => e.index | none => b
def endT (t : Int) (es : List Entry) : Int := match es.getLast? with | some e => e.term | none => t
theorem endI_nil (b : Int) : endI b [] = b := rfl
theorem endT_nil (b : Int) : endT b [] = b := rfl
theorem endI_get (b : Int) (es : List Entry) (k : Nat) (h : k + 1 = es.length) : endI b es = (es[k]'(by omega)).index := by
  have : es.getLast? = some (es[k]'(by omega)) := by
    rw [List.getLast?_eq_getElem?, show es.length - 1 = k by omega]
    simp
  simp [endI, this]
theorem endT_get (b : Int) (es : List Entry) (k : Nat) (h : k + 1 = es.length) : endT b es = (es[k]'(by omega)).term := by
  have : es.getLast? = some (es[k]'(by omega)) := by
    rw [List.getLast?_eq_getElem?, show es.length - 1 = k by omega]
    simp
  simp [endT, this]

def isTerm (n : Int) : Bool := decide (0 ≤ n ∧ n ≤ 1099511627775)
def good (e : Entry) : Bool := decide (1 ≤ e.index ∧ e.index ≤ 1099511627776 ∧ isTerm e.term = true ∧ 0 ≤ e.kind ∧ e.kind ≤ 2 ∧ e.data.size ≤ 4096)
/-- Entries go on from an index and a term. -/
def follow : Int → Int → List Entry → Bool
  | _, _, [] => true
  | i, t, e :: es => good e && decide (e.index = i + 1) && decide (t ≤ e.term) && follow e.index e.term es
def dsum (es : List Entry) : Nat := (es.map (·.data.size)).sum
theorem take_one {α : Type} {es : List α} {k : Nat} (h : k < es.length) : es.take (k + 1) = es.take k ++ [es[k]] := by
  rw [List.take_succ_eq_append_getElem h]
theorem dsum_succ {es : List Entry} {k : Nat} (h : k < es.length) : dsum (es.take (k + 1)) = dsum (es.take k) + es[k].data.size := by
  unfold dsum
  rw [take_one h, List.map_append, List.sum_append_nat]
  simp only [List.map_cons, List.map_nil, List.sum_cons, List.sum_nil, Nat.add_zero]
theorem dsum_take (es : List Entry) (k : Nat) : dsum (es.take k) ≤ dsum es := by
  have h : dsum es = dsum (es.take k) + dsum (es.drop k) := by
    simp only [dsum]
    rw [← List.sum_append_nat, ← List.map_append, List.take_append_drop]
  omega
def wt (es : List Entry) : Nat := es.length + dsum (es.take 2000)
theorem eq_take {xs ys : List Entry} {k : Nat} (h1 : k < xs.length) (h2 : k < ys.length) (h : xs.take k = ys.take k) : xs.take (k + 1) = ys.take (k + 1) ↔ xs[k] = ys[k] := by
  rw [take_one h1, take_one h2, h, List.append_cancel_left_eq, List.cons.injEq]
  exact and_iff_left rfl
theorem flat_succ {es : List Entry} {k : Nat} (h : k < es.length) : (es.take (k + 1)).flatMap encE = (es.take k).flatMap encE ++ encE es[k] := by
  rw [take_one h, List.flatMap_append, List.flatMap_cons, List.flatMap_nil, List.append_nil]
theorem entry_eq (a b : Entry) : (decide (a.index = b.index) && (decide (a.term = b.term) && (decide (a.kind = b.kind) && (decide (a.data = b.data) && true)))) = decide (a = b) := by
  obtain ⟨i, t, k, d⟩ := a
  obtain ⟨i', t', k', d'⟩ := b
  simp only [Entry.mk.injEq, Bool.decide_and, Bool.and_true]
structure Log where
  base : Int
  bterm : Int
  es : List Entry
def may (l : Log) : Bool := decide (0 ≤ l.base ∧ l.base ≤ 1099511625728) && isTerm l.bterm && decide (l.es.length ≤ 512) && follow l.base l.bterm l.es

end Go.Ent
