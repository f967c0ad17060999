/- Plain laws on the candidates that ParseAtom tries. No condition. -/
import Derived.Test.YtnpiljkchjdpfaaDoorPFmtA
import Derived.Lib.SlTrimSet
namespace Go.Proofs.YtnpiljkchjdpfaaDoor
open Go.RowKit

/-- The text of the candidates. -/
def trA (s : List UInt8) : List UInt8 := Lib.trimS s [123, 125, 94, 38]
theorem dropW_all {cs p r : List UInt8} (hp : ∀ b ∈ p, cs.contains b = true) : (p ++ r).dropWhile (cs.contains ·) = r.dropWhile (cs.contains ·) := by
  induction p with
  | nil => rfl
  | cons a p ih =>
    rw [List.cons_append, List.dropWhile_cons_of_pos (by simpa using hp a (by simp))]
    exact ih (fun b hb => hp b (by simp [hb]))
theorem trim_mid {cs p t q : List UInt8} {b c : UInt8} {r u : List UInt8} (hp : ∀ x ∈ p, cs.contains x = true) (hq : ∀ x ∈ q, cs.contains x = true) (hb : t = b :: r) (hc : t = u ++ [c]) (nb : cs.contains b = false) (nc : cs.contains c = false) :
    Lib.trimS (p ++ t ++ q) cs = t := by
  have h1 : Lib.trimRightS (p ++ t ++ q) cs = p ++ t := by
    unfold Lib.trimRightS
    rw [List.reverse_append, dropW_all (fun x hx => hq x (by simpa using hx)), hc, ← List.append_assoc, List.reverse_append, List.reverse_cons, List.reverse_nil, List.nil_append, List.singleton_append,
      List.dropWhile_cons_of_neg (by simp only [nc]; decide)]
    simp
  unfold Lib.trimS
  rw [h1]
  unfold Lib.trimLeftS
  rw [dropW_all hp, hb, List.dropWhile_cons_of_neg (by simp only [nb]; decide)]
/-- The candidate's text is the atom's, or there is none. -/
theorem trA_fmt {k : Int} {t : List UInt8} (h : goodA k t = true) : 1 ≤ k ∧ k ≤ 10 ∧ (t = trA (fmtA k t) ∨ t = []) := by
  rcases goodA_kind h with ⟨hk, ht⟩ | ⟨rfl, hq | hq | hq⟩ | ⟨rfl, hq | hq | hq⟩ | ⟨rfl | rfl | rfl, hq⟩
  · refine ⟨by omega, by omega, Or.inl ?_⟩
    obtain ⟨b, r, e, hb, hr⟩ := word_head ht
    obtain ⟨u, c, e2, hc⟩ := word_last ht
    obtain ⟨b1, b2, b3, b4, _⟩ := okB_ne hb
    obtain ⟨c1, c2, c3, c4, _⟩ := okB_ne hc
    have nb : [123, 125, 94, 38].contains b = false := by simp [b1, b2, b3, b4]
    have nc : [123, 125, 94, 38].contains c = false := by simp [c1, c2, c3, c4]
    have key : ∀ p q : List UInt8, (∀ x ∈ p, [123, 125, 94, 38].contains x = true) → (∀ x ∈ q, [123, 125, 94, 38].contains x = true) → t = trA (p ++ t ++ q) := fun p q hp hq => (trim_mid hp hq e e2 nb nc).symm
    rcases hk with rfl | rfl | rfl | rfl | rfl
    · have := key [] [] (by simp) (by simp)
      simpa [fmtA] using this
    · exact key [123, 94] [125] (by decide) (by decide)
    · exact key [123] [94, 125] (by decide) (by decide)
    · exact key [123, 94] [94, 125] (by decide) (by decide)
    · exact key [123, 38] [125] (by decide) (by decide)
  all_goals (subst hq; decide)
/-- Does the candidate answer? -/
def candB (s : List UInt8) (k : Int) (t : List UInt8) : Bool := goodA k t && decide (fmtA k t = s)
theorem cand_hit {s : List UInt8} {k : Int} {t : List UInt8} (h : candB s k t = true) : paOk s = true ∧ paK s = k ∧ paT s = t := by
  rw [candB, Bool.and_eq_true, decide_eq_true_eq] at h
  exact pa_of h.1 h.2
theorem cand_none {s : List UInt8} (h : ∀ k : Int, 1 ≤ k → k < 11 → candB s k (trA s) = false ∧ candB s k [] = false) : paOk s = false := by
  rcases Bool.eq_false_or_eq_true (paOk s) with e | e
  · obtain ⟨h1, h2⟩ := paOk_in e
    obtain ⟨k1, k2, k3⟩ := trA_fmt h1
    rw [h2] at k3
    obtain ⟨n1, n2⟩ := h (paK s) k1 (by omega)
    have y : candB s (paK s) (paT s) = true := by rw [candB, h1, h2]; simp
    rcases k3 with k3 | k3
    · rw [k3] at y; rw [n1] at y; cases y
    · rw [k3] at y; rw [n2] at y; cases y
  · exact e
/-- The candidates of the kinds below k do not answer. -/
def candNo (s : List UInt8) (k : Int) : Prop := ∀ j : Int, 1 ≤ j → j < k → candB s j (trA s) = false ∧ candB s j [] = false
theorem candNo_one (s : List UInt8) : candNo s 1 := fun j h1 h2 => by omega
theorem candNo_succ {s : List UInt8} {k : Int} (h : candNo s k) (h1 : candB s k (trA s) = false) (h2 : candB s k [] = false) : candNo s (k + 1) := fun j a b => by
  by_cases e : j = k
  · subst e; exact ⟨h1, h2⟩
  · exact h j a (by omega)
theorem trA_len (s : List UInt8) : (trA s).length ≤ s.length := by
  have h1 : ∀ l cs, (Lib.trimLeftS l cs).length ≤ l.length := fun l cs => (List.dropWhile_sublist _).length_le
  have h2 : ∀ l cs, (Lib.trimRightS l cs).length ≤ l.length := fun l cs => by
    unfold Lib.trimRightS
    rw [List.length_reverse]
    have := (List.dropWhile_sublist (cs.contains ·) (l := l.reverse)).length_le
    simpa using this
  exact Nat.le_trans (h1 _ _) (h2 _ _)
theorem kindA_len (s : List UInt8) : (kindA s).2.length ≤ s.length := by
  unfold kindA
  simp only
  (repeat' split) <;> simp <;> omega
theorem paT_le (p : List UInt8) : (paT p).length ≤ 20 := by
  rcases Bool.eq_false_or_eq_true (paOk p) with h | h
  · exact goodA_len (paOk_in h).1
  · rw [(pa_no h).2]; simp
end Go.Proofs.YtnpiljkchjdpfaaDoor
