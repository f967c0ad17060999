/- Contract of the reference's 'spoilt': a text with a byte more, less, or another one. Condition: the texts are short. -/
import Derived.Test.YtkgphkpckcfihaaDoorCur
namespace Go.Proofs.YtkgphkpckcfihaaDoor
open Go.RowKit

set_option maxHeartbeats 1000000 in
theorem spoilt_any (w : World) (g m : Nat) (t x : ByteArray) (h : Cur w g m) (hm : m ≤ 1000000) (ht : t.size ≤ 1048576) (hx : x.size ≤ 1048576) (hx0 : 0 < x.size) :
    Calls Tryd.prog 39 #[.pointer (some ⟨g, 0, none⟩), .string t, .string x] w fun e w' => ∃ o : ByteArray, e = .returned (.string o) ∧ o.size ≤ t.size + 1 ∧ Cur w' g (m + 6) ∧ w.grownBy w' (some g) := by
  have hl := str_list t
  by_cases h0 : t.size = 0
  · have he : t.toList.isEmpty = true := by rw [hl]; cases e : t.data.toList with
      | nil => rfl
      | cons a b => rw [bs_size', e] at h0; simp at h0
    have hx1 : (1 : Int) ≤ (x.size : Int) := by omega
    clear hl
    go_enter Tryd.func39, Tryd.ntmps39
    go_wp2
    go_ret
    exact ⟨_, rfl, by simp only [ByteArray.size_extract]; omega, h.more (by omega), World.grownBy.refl _ _⟩
  · have he : t.toList.isEmpty = false := by rw [hl]; cases e : t.data.toList with
      | nil => rw [bs_size', e] at h0; simp at h0
      | cons a b => rfl
    clear hl
    go_enter Tryd.func39, Tryd.ntmps39
    go_wp2_with fail
    refine (pick_any w g m t.size h (by omega) (by omega)).mono ?_
    rintro e w1 ⟨i, rfl, i0, i1, hc1, hg1⟩
    obtain ⟨i, rfl⟩ := Int.eq_ofNat_of_zero_le i0
    have hi : i < t.size := by omega
    go_wp2_with fail
    refine (pick_any w1 g (m + 2) x.size hc1 (by omega) (by omega)).mono ?_
    rintro e w2 ⟨j, rfl, j0, j1, hc2, hg2⟩
    obtain ⟨j, rfl⟩ := Int.eq_ofNat_of_zero_le j0
    have hj : j < x.size := by omega
    have hj' : (j : Int) < (x.size : Int) := by omega
    have hj'' : (0 : Int) ≤ (j : Int) := by omega
    have hij : (i : Int) ≤ (t.size : Int) := by omega
    have hi0 : (0 : Int) ≤ (i : Int) := by omega
    have hii : (i : Int) + 1 ≤ (t.size : Int) := by omega
    go_wp2_with fail
    refine (pick_any w2 g (m + 4) 3 hc2 (by omega) (by omega)).mono ?_
    rintro e w3 ⟨k, rfl, k0, k1, hc3, hg3⟩
    by_cases hk0 : k = 0
    · subst hk0
      go_wp2
      go_quiet (fail)
      go_wp2
      go_ret
      exact ⟨_, rfl, by simp only [ByteArray.size_append, ByteArray.size_extract]; omega, (hc3.more (by omega)).drewN _, (hg1.trans hg2).trans (hg3.trans (only_drewN' w3 _))⟩
    · by_cases hk1 : k = 1
      · subst hk1
        go_wp2
        go_quiet (fail)
        go_wp2
        go_ret
        exact ⟨_, rfl, by simp only [ByteArray.size_append, ByteArray.size_extract]; omega, (hc3.more (by omega)).drewN _, (hg1.trans hg2).trans (hg3.trans (only_drewN' w3 _))⟩
      · obtain rfl : k = 2 := by omega
        go_wp2
        go_quiet (fail)
        go_wp2
        go_ret
        exact ⟨_, rfl, by simp only [ByteArray.size_append, ByteArray.size_extract]; omega, (hc3.more (by omega)).drewN _, (hg1.trans hg2).trans (hg3.trans (only_drewN' w3 _))⟩
end Go.Proofs.YtkgphkpckcfihaaDoor
