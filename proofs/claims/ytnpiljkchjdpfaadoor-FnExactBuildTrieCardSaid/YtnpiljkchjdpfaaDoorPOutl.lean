/- Plain laws on lists of strokes: begins with, compare. No condition. -/
import Derived.Test.YtnpiljkchjdpfaaDoorMem
namespace Go.Proofs.YtnpiljkchjdpfaaDoor
open Go.RowKit

theorem eq_of_takes {xs ys : List Int} {n : Nat} (hx : xs.length = n) (hy : ys.length = n) (h : xs.take n = ys.take n) : (xs == ys) = true := by
  rw [← hx, List.take_length, hx, ← hy, List.take_length] at h
  simp [h]
theorem takes_succ {xs ys : List Int} {k : Nat} (hx : k < xs.length) (hy : k < ys.length) (h : xs.take k = ys.take k) (he : elt xs k = elt ys k) : xs.take (k + 1) = ys.take (k + 1) := by
  rw [take_int xs k hx, take_int ys k hy, h, he]
theorem ne_of_elt {xs ys : List Int} (k : Nat) (he : elt xs k ≠ elt ys k) : (xs == ys) = false := by
  apply Bool.eq_false_iff.2
  intro h
  rw [beq_iff_eq] at h
  exact he (by rw [h])
theorem ne_of_len {xs ys : List Int} (h : xs.length ≠ ys.length) : (xs == ys) = false := by
  apply Bool.eq_false_iff.2
  intro e
  rw [beq_iff_eq] at e
  exact h (by rw [e])

/-- A list begins with another one. -/
def startsB (o p : List Int) : Bool := decide (p.length ≤ o.length) && (o.take p.length == p)

/-- The order of lists. -/
def cmpL : List Int → List Int → Int
  | [], [] => 0
  | [], _ :: _ => -1
  | _ :: _, [] => 1
  | a :: l, b :: r => if a < b then -1 else if b < a then 1 else cmpL l r
theorem drop_elt (l : List Int) (k : Nat) (h : k < l.length) : l.drop k = elt l k :: l.drop (k + 1) := by
  rw [List.drop_eq_getElem_cons h]; simp [elt, h]
theorem cmp_step {a b : List Int} {k : Nat} (ha : k < a.length) (hb : k < b.length) :
    cmpL (a.drop k) (b.drop k) = if elt a k < elt b k then -1 else if elt b k < elt a k then 1 else cmpL (a.drop (k + 1)) (b.drop (k + 1)) := by
  rw [drop_elt a k ha, drop_elt b k hb, cmpL]
theorem cmp_end {a b : List Int} {k : Nat} (ha : k ≤ a.length) (hb : k ≤ b.length) (h : ¬ (k < a.length ∧ k < b.length)) :
    cmpL (a.drop k) (b.drop k) = if a.length < b.length then -1 else if b.length < a.length then 1 else 0 := by
  by_cases h1 : k < a.length
  · have e : b.drop k = [] := List.drop_eq_nil_of_le (by omega)
    rw [e, drop_elt a k h1, cmpL, if_neg (by omega), if_pos (by omega)]
  · have e : a.drop k = [] := List.drop_eq_nil_of_le (by omega)
    by_cases h2 : k < b.length
    · rw [e, drop_elt b k h2, cmpL, if_pos (by omega)]
    · have e' : b.drop k = [] := List.drop_eq_nil_of_le (by omega)
      rw [e, e', cmpL, if_neg (by omega), if_neg (by omega)]
end Go.Proofs.YtnpiljkchjdpfaaDoor
