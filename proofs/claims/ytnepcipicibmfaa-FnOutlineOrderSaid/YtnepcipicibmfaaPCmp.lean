/- Plain laws on the order of lists. No condition. -/
import Derived.Test.YtnepcipicibmfaaOutl3
namespace Go.Proofs.Ytnepcipicibmfaa
open Go.RowKit

theorem cmpL_bd (a b : List Int) : cmpL a b = -1 ∨ cmpL a b = 0 ∨ cmpL a b = 1 := by
  induction a generalizing b with
  | nil => cases b <;> simp [cmpL]
  | cons x a ih =>
    cases b with
    | nil => simp [cmpL]
    | cons y b =>
      rw [cmpL]
      split
      · simp
      · split
        · simp
        · exact ih b
theorem cmpL_neg (a b : List Int) : cmpL b a = -cmpL a b := by
  induction a generalizing b with
  | nil => cases b <;> simp [cmpL]
  | cons x a ih =>
    cases b with
    | nil => simp [cmpL]
    | cons y b =>
      rw [cmpL, cmpL]
      by_cases h1 : x < y
      · have h2 : ¬ y < x := by omega
        simp [h1, h2]
      · by_cases h2 : y < x
        · simp [h1, h2]
        · simp [h1, h2, ih b]
theorem cmpL_zero (a b : List Int) : cmpL a b = 0 ↔ a = b := by
  induction a generalizing b with
  | nil => cases b <;> simp [cmpL]
  | cons x a ih =>
    cases b with
    | nil => simp [cmpL]
    | cons y b =>
      rw [cmpL]
      by_cases h1 : x < y
      · rw [if_pos h1]; simp; intro e; omega
      · rw [if_neg h1]
        by_cases h2 : y < x
        · rw [if_pos h2]; simp; intro e; omega
        · rw [if_neg h2, ih b]
          have : x = y := by omega
          simp [this]
theorem cmpL_trans (a b c : List Int) (h1 : cmpL a b ≤ 0) (h2 : cmpL b c ≤ 0) : cmpL a c ≤ 0 := by
  induction a generalizing b c with
  | nil => cases c <;> simp [cmpL]
  | cons x a ih =>
    cases b with
    | nil => simp [cmpL] at h1
    | cons y b =>
      cases c with
      | nil => simp [cmpL] at h2
      | cons z c =>
        rw [cmpL] at h1 h2 ⊢
        by_cases e1 : x < y
        · by_cases e2 : y < z
          · rw [if_pos (by omega)]; omega
          · rw [if_neg e2] at h2
            by_cases e3 : z < y
            · rw [if_pos e3] at h2; omega
            · rw [if_pos (by omega)]; omega
        · rw [if_neg e1] at h1
          by_cases e4 : y < x
          · rw [if_pos e4] at h1; omega
          · rw [if_neg e4] at h1
            have hxy : x = y := by omega
            subst hxy
            by_cases e2 : x < z
            · rw [if_pos e2]; omega
            · rw [if_neg e2] at h2 ⊢
              by_cases e3 : z < x
              · rw [if_pos e3] at h2; omega
              · rw [if_neg e3] at h2 ⊢
                exact ih b c h1 h2
theorem cmpL_prefix (o p : List Int) (h : startsB o p = true) : cmpL p o ≤ 0 := by
  rw [startsB, Bool.and_eq_true, decide_eq_true_eq, beq_iff_eq] at h
  obtain ⟨h1, h2⟩ := h
  have key : ∀ (p o : List Int), o.take p.length = p → cmpL p o ≤ 0 := fun p => by
    induction p with
    | nil => intro o _; cases o <;> simp [cmpL]
    | cons x p ih =>
      intro o h
      cases o with
      | nil => simp at h
      | cons y o =>
        simp only [List.length_cons, List.take_succ_cons, List.cons.injEq] at h
        obtain ⟨rfl, h⟩ := h
        rw [cmpL, if_neg (by omega), if_neg (by omega)]
        exact ih o h
  exact key p o h2

theorem bothB_comm (a b : List Int) : bothB b a = bothB a b := by simp [bothB, Bool.and_comm]
theorem cmpR_bd (a b : List Int) : cmpR a b = -1 ∨ cmpR a b = 0 ∨ cmpR a b = 1 := by
  unfold cmpR
  split
  · exact cmpL_bd a b
  · simp
theorem cmpR_neg (a b : List Int) : cmpR b a = -cmpR a b := by
  unfold cmpR
  rw [bothB_comm]
  split
  · exact cmpL_neg a b
  · rfl
theorem cmpR_zero (a b : List Int) (h : bothB a b = true) : (cmpR a b == 0) = (a == b) := by
  have := cmpL_zero a b
  rw [cmpR, if_pos h]
  by_cases e : a = b
  · rw [this.2 e]; simp [e]
  · have h1 : cmpL a b ≠ 0 := fun h => e (this.1 h)
    rw [beq_eq_false_iff_ne.2 h1, beq_eq_false_iff_ne.2 e]
theorem cmpR_trans (a b c : List Int) (h0 : bothB a b = true) (g1 : bothB b c = true) (g2 : bothB a c = true) (h1 : cmpR a b ≤ 0) (h2 : cmpR b c ≤ 0) : cmpR a c ≤ 0 := by
  rw [cmpR, if_pos h0] at h1
  rw [cmpR, if_pos g1] at h2
  rw [cmpR, if_pos g2]
  exact cmpL_trans a b c h1 h2
theorem cmpR_prefix (o p : List Int) (h : preB o p = true) : cmpR p o ≤ 0 := by
  rw [preB, Bool.and_eq_true] at h
  rw [cmpR, bothB_comm, if_pos h.1]
  exact cmpL_prefix o p h.2
end Go.Proofs.Ytnepcipicibmfaa
