/- Plain laws on checksummed texts, with no program in sight. No condition. -/
import Derived.Test.YtpnomnicfkjcgaaDoorPNum
import Derived.Test.YtpnomnicfkjcgaaDoorPSplit
import Derived.Test.YtpnomnicfkjcgaaDoorPlain
import Derived.Lib.IndexMore
namespace Go.Proofs.YtpnomnicfkjcgaaDoor
open Go.RowKit

def sealL (l : List UInt8) : List UInt8 := l ++ [35] ++ Lib.itoa (sumOf l)
def headL (l : List UInt8) : List UInt8 := l.takeWhile fun b => b != 35
def apOk (l : List UInt8) : Bool := decide (l.length ≤ 4000) && !(l.contains 35) && decide ((sealL l).length ≤ 4000)
def apR (l : List UInt8) : List UInt8 := if apOk l then sealL l else []
def veOk (l : List UInt8) : Bool := decide (l.length ≤ 4000) && (sealL (headL l) == l)
def veR (l : List UInt8) : List UInt8 := if veOk l then headL l else []
theorem sum_itoa_len (l : List UInt8) : (Lib.itoa (sumOf l)).length ≤ 7 := by
  have := sumOf_bd l
  exact itoa_len (by omega) (by omega)
theorem sealL_len (l : List UInt8) : (sealL l).length = l.length + 1 + (Lib.itoa (sumOf l)).length := by
  simp [sealL]; omega
theorem head_free (l : List UInt8) : (35 : UInt8) ∉ headL l := by
  unfold headL
  induction l with
  | nil => simp
  | cons x r ih =>
    rw [List.takeWhile_cons]
    split
    · rename_i hx
      simp only [List.mem_cons, not_or]
      exact ⟨fun e => by rw [← e] at hx; simp at hx, ih⟩
    · simp
theorem head_le (l : List UInt8) : (headL l).length ≤ l.length := by
  unfold headL
  have h := List.takeWhile_append_dropWhile (p := fun b : UInt8 => b != 35) (l := l)
  have := congrArg List.length h
  rw [List.length_append] at this
  omega
theorem head_cut (u v : List UInt8) (h : (35 : UInt8) ∉ u) : headL (u ++ 35 :: v) = u := by
  unfold headL
  induction u with
  | nil => simp
  | cons x r ih =>
    simp only [List.mem_cons, not_or] at h
    have hx : (x != 35) = true := by rw [bne_iff_ne]; exact fun e => h.1 e.symm
    rw [List.cons_append, List.takeWhile_cons, if_pos hx, ih h.2]
theorem head_none (l : List UInt8) (h : (35 : UInt8) ∉ l) : headL l = l := by
  unfold headL
  induction l with
  | nil => rfl
  | cons x r ih =>
    simp only [List.mem_cons, not_or] at h
    have hx : (x != 35) = true := by rw [bne_iff_ne]; exact fun e => h.1 e.symm
    rw [List.takeWhile_cons, if_pos hx, ih h.2]
theorem index_none (l : List UInt8) (h : (35 : UInt8) ∉ l) : Lib.indexByte l 35 = -1 := by
  induction l with
  | nil => rfl
  | cons x r ih =>
    simp only [List.mem_cons, not_or] at h
    have hx : (x == 35) = false := by rw [beq_eq_false_iff_ne]; exact fun e => h.1 e.symm
    rw [Lib.indexByte, hx, ih h.2]
    rfl
theorem cut_head (l : List UInt8) : (Lib.cut l [35]).1 = headL l := by
  unfold Lib.cut
  rw [Lib.index_one]
  by_cases h : (35 : UInt8) ∈ l
  · obtain ⟨u, v, rfl, hu⟩ := mem_cut 35 l h
    rw [index_cut 35 u v hu, if_pos (by omega), head_cut u v hu]
    simp
  · rw [index_none l h, if_neg (by omega), head_none l h]
theorem splits_head (l : List UInt8) : ∃ r, splits 35 l = headL l :: r := by
  by_cases h : (35 : UInt8) ∈ l
  · obtain ⟨u, v, rfl, hu⟩ := mem_cut 35 l h
    exact ⟨_, by rw [splits_cut 35 u v hu, head_cut u v hu]⟩
  · exact ⟨[], by rw [splits_none 35 l h, head_none l h]⟩
theorem ve_of {l : List UInt8} (h1 : apOk (headL l) = true) (h2 : sealL (headL l) = l) : veOk l = true ∧ veR l = headL l := by
  rw [apOk, Bool.and_eq_true, Bool.and_eq_true] at h1
  have h3 : (sealL (headL l)).length ≤ 4000 := by simpa using h1.2
  rw [h2] at h3
  have : veOk l = true := by rw [veOk, h2]; simpa using h3
  exact ⟨this, by rw [veR, if_pos this]⟩
theorem ve_ap {l : List UInt8} (h : veOk l = true) : apOk (headL l) = true ∧ sealL (headL l) = l := by
  rw [veOk, Bool.and_eq_true] at h
  have h1 : l.length ≤ 4000 := by simpa using h.1
  have h2 : sealL (headL l) = l := by simpa using h.2
  refine ⟨?_, h2⟩
  have h3 := head_le l
  rw [apOk, h2, Bool.and_eq_true, Bool.and_eq_true]
  refine ⟨⟨by simp; omega, ?_⟩, by simpa using h1⟩
  have := head_free l
  simpa using this
theorem ve_no {l : List UInt8} (h : veOk l = false) : veR l = [] := by rw [veR, h]; rfl
theorem ap_yes {l : List UInt8} (h : apOk l = true) : apR l = sealL l := by rw [apR, if_pos h]
theorem ap_no {l : List UInt8} (h : apOk l = false) : apR l = [] := by rw [apR, h]; rfl
theorem apR_len (l : List UInt8) : (apR l).length ≤ 4000 := by
  unfold apR
  split
  · rename_i h
    rw [apOk, Bool.and_eq_true] at h
    simpa using h.2
  · simp
/-- What is sealed opens. -/
theorem seal_open {l : List UInt8} (h : apOk l = true) : veOk (sealL l) = true ∧ veR (sealL l) = l := by
  have h0 := h
  rw [apOk, Bool.and_eq_true, Bool.and_eq_true] at h
  have hf : (35 : UInt8) ∉ l := by
    have := h.1.2
    simpa using this
  have e : headL (sealL l) = l := by
    have : sealL l = l ++ 35 :: Lib.itoa (sumOf l) := by simp [sealL]
    rw [this, head_cut l _ hf]
  have hv : veOk (sealL l) = true := by
    rw [veOk, e]
    simpa using h.2
  exact ⟨hv, by rw [veR, if_pos hv, e]⟩

/-! A byte that is changed is found. -/
theorem sum_step_inj {a b : Int} (c : Int) (ha : 0 ≤ a ∧ a < 999979) (hb : 0 ≤ b ∧ b < 999979) (h : (41 * a + c + 1) % 999979 = (41 * b + c + 1) % 999979) : a = b := by omega
theorem sum_byte_inj {a x y : Int} (hx : 0 ≤ x ∧ x ≤ 255) (hy : 0 ≤ y ∧ y ≤ 255) (h : (41 * a + x + 1) % 999979 = (41 * a + y + 1) % 999979) : x = y := by omega
theorem sum_app_inj (r : List UInt8) : ∀ (u v : List UInt8), sumOf (u ++ r) = sumOf (v ++ r) → sumOf u = sumOf v := by
  induction r with
  | nil => intro u v h; simpa using h
  | cons b r ih =>
    intro u v h
    have h1 := ih (u ++ [b]) (v ++ [b]) (by simpa using h)
    rw [sumOf_snoc, sumOf_snoc] at h1
    exact sum_step_inj _ (sumOf_bd u) (sumOf_bd v) h1
theorem sum_change (u r : List UInt8) (x y : UInt8) (h : sumOf (u ++ x :: r) = sumOf (u ++ y :: r)) : x = y := by
  have h1 := sum_app_inj r (u ++ [x]) (u ++ [y]) (by simpa using h)
  rw [sumOf_snoc, sumOf_snoc] at h1
  have hx := x.toNat_lt
  have hy := y.toNat_lt
  have := sum_byte_inj (x := (x.toNat : Int)) (y := (y.toNat : Int)) (by omega) (by omega) h1
  exact UInt8.toNat_inj.1 (by omega)
theorem itoa_free (n : Int) : (35 : UInt8) ∉ Lib.itoa n := by
  intro h
  rcases itoa_mem h with e | e
  · cases e
  · simp at e
theorem seal_bad {l : List UInt8} (h : apOk l = true) {k : Nat} {y : UInt8} (hk : k < (sealL l).length) (hy : y ≠ (sealL l)[k]) : veOk ((sealL l).set k y) = false := by
  have hf : (35 : UInt8) ∉ l := by
    rw [apOk, Bool.and_eq_true, Bool.and_eq_true] at h
    have := h.1.2
    simpa using this
  cases hv : veOk ((sealL l).set k y) with
  | false => rfl
  | true =>
    exfalso
    obtain ⟨h1, h2⟩ := ve_ap hv
    have eS : sealL l = l ++ 35 :: Lib.itoa (sumOf l) := by simp [sealL]
    have hlen : ((sealL l).set k y).length = (sealL l).length := List.length_set
    by_cases hkl : k < l.length
    · -- within the text
      have e1 : (sealL l).set k y = l.set k y ++ 35 :: Lib.itoa (sumOf l) := by rw [eS, List.set_append_left _ _ hkl]
      have hlk : (sealL l)[k] = l[k] := by simp only [eS]; rw [List.getElem_append_left hkl]
      rw [hlk] at hy
      have e2 : l.set k y = l.take k ++ y :: l.drop (k + 1) := List.set_eq_take_append_cons_drop .. |>.trans (if_pos hkl)
      have e3 : l = l.take k ++ l[k] :: l.drop (k + 1) := by rw [← List.drop_eq_getElem_cons hkl, List.take_append_drop]
      have hft : (35 : UInt8) ∉ l.take k := fun hm => hf (List.mem_of_mem_take hm)
      have hfd : (35 : UInt8) ∉ l.drop (k + 1) := fun hm => hf (List.mem_of_mem_drop hm)
      by_cases hy35 : y = 35
      · subst hy35
        have e4 : (sealL l).set k 35 = l.take k ++ 35 :: (l.drop (k + 1) ++ 35 :: Lib.itoa (sumOf l)) := by rw [e1, e2]; simp
        rw [e4, head_cut _ _ hft] at h2
        have h3 : l.take k ++ 35 :: Lib.itoa (sumOf (l.take k)) = l.take k ++ 35 :: (l.drop (k + 1) ++ 35 :: Lib.itoa (sumOf l)) := by
          rw [← h2]; simp [sealL]
        have h4 := List.append_cancel_left h3
        simp only [List.cons.injEq, true_and] at h4
        have : (35 : UInt8) ∈ Lib.itoa (sumOf (l.take k)) := by rw [h4]; simp
        exact itoa_free _ this
      · have hfs : (35 : UInt8) ∉ l.set k y := by
          rw [e2]
          simp only [List.mem_append, List.mem_cons, not_or]
          exact ⟨hft, fun e => hy35 e.symm, hfd⟩
        rw [e1, head_cut _ _ hfs] at h2
        have h3 : l.set k y ++ 35 :: Lib.itoa (sumOf (l.set k y)) = l.set k y ++ 35 :: Lib.itoa (sumOf l) := by
          rw [← h2]; simp [sealL]
        have h4 := List.append_cancel_left h3
        simp only [List.cons.injEq, true_and] at h4
        have h5 := itoa_inj h4
        rw [e2] at h5
        conv at h5 => rhs; rw [e3]
        exact hy (sum_change _ _ _ _ h5)
    · by_cases hke : k = l.length
      · subst hke
        have e1 : (sealL l).set l.length y = l ++ y :: Lib.itoa (sumOf l) := by
          rw [eS, List.set_append_right _ _ (Nat.le_refl _), Nat.sub_self]; rfl
        have hy35 : y ≠ 35 := by
          intro e
          apply hy
          simp only [eS]
          rw [List.getElem_append_right (Nat.le_refl _), e]
          simp
        have hfs : (35 : UInt8) ∉ (sealL l).set l.length y := by
          rw [e1]
          simp only [List.mem_append, List.mem_cons, not_or]
          exact ⟨hf, fun e => hy35 e.symm, itoa_free _⟩
        rw [head_none _ hfs] at h2
        have := congrArg List.length h2
        rw [sealL_len] at this
        omega
      · have hgt : l.length < k := by omega
        have e1 : ∃ z, (sealL l).set k y = l ++ 35 :: z := by
          rw [eS, List.set_append_right _ _ (by omega)]
          obtain ⟨j, hj⟩ : ∃ j, k - l.length = j + 1 := ⟨k - l.length - 1, by omega⟩
          rw [hj]
          exact ⟨_, rfl⟩
        obtain ⟨z, hz⟩ := e1
        have h3 : headL ((sealL l).set k y) = l := by rw [hz, head_cut l z hf]
        rw [h3] at h2
        have h4 : (sealL l)[k] = y := by
          have : ((sealL l).set k y)[k]'(by rw [hlen]; exact hk) = y := by simp
          rw [← this]
          simp only [← h2]
        exact hy h4.symm
end Go.Proofs.YtpnomnicfkjcgaaDoor
