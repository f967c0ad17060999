/- Plain laws on notations of lists of strokes. No condition. -/
import Derived.Test.YtnpiljkchjdpfaaDoorFmt
import Derived.Lib.Join
namespace Go.Proofs.YtnpiljkchjdpfaaDoor
open Go.RowKit

theorem join_snoc (xs : List (List UInt8)) (y sep : List UInt8) (h : xs ≠ []) : Lib.join (xs ++ [y]) sep = Lib.join xs sep ++ sep ++ y := by
  cases xs with
  | nil => exact absurd rfl h
  | cons x r =>
    rw [List.cons_append, Lib.join_cons, Lib.join_cons]
    simp [Lib.joinTail, List.append_assoc]
/-- The notation of a list of strokes. -/
def notL (l : List Int) : List UInt8 := Lib.join (l.map fmtR) [47]
theorem notL_nil : notL [] = [] := rfl
theorem notL_one (l : List Int) (h : 0 < l.length) : notL (l.take 1) = fmtR (elt l 0) := by
  rw [take_int l 0 h]
  simp [notL, Lib.join_one]
theorem notL_succ (l : List Int) (k : Nat) (hk : 0 < k) (h : k < l.length) : notL (l.take (k + 1)) = notL (l.take k) ++ [47] ++ fmtR (elt l k) := by
  rw [take_int l k h, notL, List.map_append, List.map_cons, List.map_nil, join_snoc]
  · rfl
  · intro e
    have := congrArg List.length e
    rw [List.length_map, List.length_take, List.length_nil] at this
    omega
theorem notL_snoc (l : List Int) (x : Int) (h : l ≠ []) : notL (l ++ [x]) = notL l ++ [47] ++ fmtR x := by
  rw [notL, List.map_append, List.map_cons, List.map_nil, join_snoc]
  · rfl
  · simpa using h
theorem back_ind {α : Type} {P : List α → Prop} (h0 : P []) (h1 : ∀ l a, P l → P (l ++ [a])) (l : List α) : P l := by
  have h : ∀ r : List α, P r.reverse := fun r => by
    induction r with
    | nil => exact h0
    | cons a r ih => rw [List.reverse_cons]; exact h1 _ _ ih
  have := h l.reverse
  rwa [List.reverse_reverse] at this
theorem notL_len (l : List Int) : (notL l).length ≤ 47 * l.length := by
  refine back_ind (P := fun l => (notL l).length ≤ 47 * l.length) ?_ ?_ l
  · simp [notL_nil]
  · intro l x ih
    have hf := fmtR_len x
    by_cases h : l = []
    · subst h
      simp [notL, Lib.join_one]; omega
    · rw [notL_snoc _ _ h]
      simp only [List.length_append, List.length_cons, List.length_nil] at ih ⊢
      omega
/-- Its words as strings. -/
def wordsL (l : List Int) : List ByteArray := l.map fun s => bs (fmtR s)
theorem wordsL_succ (l : List Int) (k : Nat) (h : k < l.length) : wordsL (l.take (k + 1)) = wordsL (l.take k) ++ [bs (fmtR (elt l k))] := by
  rw [take_int l k h]; simp [wordsL]
theorem wordsL_join (l : List Int) : (wordsL l).map (·.data.toList) = l.map fmtR := by
  simp [wordsL, bs_toList]
end Go.Proofs.YtnpiljkchjdpfaaDoor
