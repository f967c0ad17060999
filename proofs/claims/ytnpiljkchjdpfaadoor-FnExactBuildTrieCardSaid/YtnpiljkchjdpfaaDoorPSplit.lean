/- Plain laws on splitting at one byte. No condition. -/
import Derived.Lib.SplitLaws
import Derived.Lib.IndexBytes
namespace Go.Proofs.YtnpiljkchjdpfaaDoor

/-- The parts of a text between bytes b. -/
def splits (b : UInt8) : List UInt8 → List (List UInt8)
  | [] => [([] : List UInt8)]
  | x :: r => if x = b then [] :: splits b r else match splits b r with
    | [] => [x :: []]
    | p :: ps => (x :: p) :: ps
theorem splits_ne (b : UInt8) (l : List UInt8) : splits b l ≠ [] := by
  induction l with
  | nil => simp [splits]
  | cons x r ih =>
    rw [splits]
    split
    · simp
    · split <;> simp
/-- No b stands in u. -/
theorem splits_none (b : UInt8) (u : List UInt8) (h : b ∉ u) : splits b u = [u] := by
  induction u with
  | nil => rfl
  | cons x r ih =>
    simp only [List.mem_cons, not_or] at h
    rw [splits, if_neg (fun e => h.1 e.symm), ih h.2]
theorem splits_cut (b : UInt8) (u v : List UInt8) (h : b ∉ u) : splits b (u ++ b :: v) = u :: splits b v := by
  induction u with
  | nil => rw [List.nil_append, splits, if_pos rfl]
  | cons x r ih =>
    simp only [List.mem_cons, not_or] at h
    rw [List.cons_append, splits, if_neg (fun e => h.1 e.symm), ih h.2]
theorem mem_cut (b : UInt8) (l : List UInt8) (h : b ∈ l) : ∃ u v, l = u ++ b :: v ∧ b ∉ u := by
  induction l with
  | nil => cases h
  | cons x r ih =>
    by_cases e : x = b
    · exact ⟨[], r, by rw [e]; rfl, by simp⟩
    · rcases List.mem_cons.1 h with h | h
      · exact absurd h.symm e
      · obtain ⟨u, v, rfl, hu⟩ := ih h
        exact ⟨x :: u, v, rfl, by simp only [List.mem_cons, not_or]; exact ⟨fun g => e g.symm, hu⟩⟩
theorem index_cut (b : UInt8) (u v : List UInt8) (h : b ∉ u) : Lib.indexByte (u ++ b :: v) b = (u.length : Int) := by
  induction u with
  | nil => simp [Lib.indexByte]
  | cons x r ih =>
    simp only [List.mem_cons, not_or] at h
    have hx : (x == b) = false := by simpa using fun e => h.1 e.symm
    rw [List.cons_append, Lib.indexByte, hx, ih h.2]
    have : ((r.length : Int) == -1) = false := by simp
    rw [this]
    simp
theorem splitK_one (b : UInt8) (n : Nat) : ∀ l : List UInt8, l.length ≤ n → Lib.splitK [b] 0 (l.count b) l = splits b l := by
  induction n with
  | zero =>
    intro l hl
    have : l = [] := List.eq_nil_of_length_eq_zero (by omega)
    subst this
    rfl
  | succ n ih =>
    intro l hl
    by_cases h : b ∈ l
    · obtain ⟨u, v, rfl, hu⟩ := mem_cut b l h
      have hc : (u ++ b :: v).count b = v.count b + 1 := by
        rw [List.count_append, List.count_eq_zero.2 hu, List.count_cons_self]; omega
      have hi : Lib.index (u ++ b :: v) [b] = (u.length : Int) := by rw [Lib.index_one]; exact index_cut b u v hu
      have hne : ((u.length : Int) == -1) = false := by simp
      rw [hc, Lib.splitK, hi, hne, splits_cut b u v hu]
      simp only [Bool.false_eq_true, if_false, Int.toNat_natCast, Nat.add_zero, List.length_cons, List.length_nil, Nat.zero_add]
      rw [List.take_left, show (u ++ b :: v).drop (u.length + 1) = v by rw [← List.drop_drop, List.drop_left]; rfl]
      rw [ih v (by simp at hl; omega)]
    · rw [List.count_eq_zero.2 h, splits_none b l h]
      rfl
/-- The state of the loop that splits: the parts so far, and where the next one begins. -/
def SpAt (b : UInt8) (l : List UInt8) (k f : Nat) (ps : List (List UInt8)) : Prop :=
  f ≤ k ∧ splits b l = ps ++ splits b (l.drop f) ∧ b ∉ (l.drop f).take (k - f)
theorem sp_start (b : UInt8) (l : List UInt8) : SpAt b l 0 0 [] := ⟨Nat.le_refl _, by simp, by simp⟩
theorem sp_piece (l : List UInt8) (k f : Nat) (h : f ≤ k) (hk : k < l.length) : l.drop f = (l.drop f).take (k - f) ++ l[k] :: l.drop (k + 1) := by
  have h1 : (l.drop f).drop (k - f) = l[k] :: l.drop (k + 1) := by
    rw [List.drop_drop, show f + (k - f) = k by omega, List.drop_eq_getElem_cons hk]
  rw [← h1, List.take_append_drop]
theorem sp_hit {b : UInt8} {l : List UInt8} {k f : Nat} {ps : List (List UInt8)} (h : SpAt b l k f ps) (hk : k < l.length) (he : l[k] = b) : SpAt b l (k + 1) (k + 1) (ps ++ [(l.drop f).take (k - f)]) := by
  obtain ⟨h1, h2, h3⟩ := h
  refine ⟨Nat.le_refl _, ?_, by simp⟩
  rw [h2]
  have e := sp_piece l k f h1 hk
  rw [he] at e
  have e2 : splits b (l.drop f) = (l.drop f).take (k - f) :: splits b (l.drop (k + 1)) := by
    have := splits_cut b _ (l.drop (k + 1)) h3
    rwa [← e] at this
  rw [e2]
  simp
theorem sp_miss {b : UInt8} {l : List UInt8} {k f : Nat} {ps : List (List UInt8)} (h : SpAt b l k f ps) (hk : k < l.length) (he : l[k] ≠ b) : SpAt b l (k + 1) f ps := by
  obtain ⟨h1, h2, h3⟩ := h
  refine ⟨by omega, h2, ?_⟩
  rw [show k + 1 - f = (k - f) + 1 by omega, List.take_succ_eq_append_getElem (by rw [List.length_drop]; omega)]
  simp only [List.mem_append, List.mem_cons, List.not_mem_nil, or_false, not_or, List.getElem_drop, show f + (k - f) = k by omega]
  exact ⟨h3, fun e => he e.symm⟩
theorem sp_end {b : UInt8} {l : List UInt8} {f : Nat} {ps : List (List UInt8)} (h : SpAt b l l.length f ps) : splits b l = ps ++ [l.drop f] := by
  obtain ⟨h1, h2, h3⟩ := h
  rw [h2, splits_none b (l.drop f)]
  rwa [List.take_of_length_le (by rw [List.length_drop]; omega)] at h3
end Go.Proofs.YtnpiljkchjdpfaaDoor
