/- The joined outlines: the program's own function, and the law. No condition. -/
import Derived.Test.YtnepcipicibmfaaDoorOutl4
namespace Go.Proofs.YtnepcipicibmfaaDoor
open Go.RowKit

set_option maxHeartbeats 1000000 in
theorem implConcat_any (A A' : Option Addr) (n m c c' : Nat) (a b : List Int) (w : World) (ha : a.length = n) (hb : b.length = m) (hn : n ≤ 1048576) (hm : m ≤ 1048576) (B : Nat) (hB : B ≤ w.heap.size) (hr : Row w B A (ints a)) (hr' : Row w B A' (ints b)) :
    Calls Tryd.prog 14 #[.slice A n c, .slice A' m c'] w fun e w' => ∃ A2 c2, e = .returned (.tuple #[.slice A2 (catR a b).length c2, .bool (catB a b)]) ∧ w'.ownsRow w.heap.size 3 1 (.slice A2 (catR a b).length c2) (catR a b).length (ints (catR a b)) ∧ Below w.heap.size w w' := by
  have v1 := implValidOut_any A n c a w ha (by unfold maxLen; omega) B hr
  rcases Bool.eq_false_or_eq_true (outB a) with g1 | g1
  · rw [g1] at v1
    have l1 := outB_len g1
    rcases Bool.eq_false_or_eq_true (outB b) with g2 | g2
    · have l2 := outB_len g2
      have hs := cat_small a b g1 g2
      rw [ha, hb] at hs
      by_cases h6 : n + m ≤ 6
      · have K := Lib.hid (cat_t (a := a) (b := b) (by rw [hs]; simp [h6]))
        have hd : decide (6 < (n : Int) + (m : Int)) = false := by simp; omega
        clear hs
        go_enter Tryd.func14, Tryd.ntmps14
        go_wp2_with fail
        refine v1.mono ?_
        rintro e w1 ⟨rfl, b1⟩
        have s1 := b1.size
        have r1 := hr.below_le b1 hB
        have r1' := hr'.below_le b1 hB
        go_wp2_with fail
        refine (implValidOut_any A' m c' b w1 hb (by unfold maxLen; omega) B r1').mono ?_
        rintro e w2 ⟨rfl, hb2⟩
        have b2 := b1.trans (hb2.mono s1)
        have s2 := hb2.size
        have r2 := r1.below_le hb2 (Nat.le_trans hB s1)
        have r2' := r1'.below_le hb2 (Nat.le_trans hB s1)
        have hB2 := Nat.le_trans hB (Nat.le_trans s1 s2)
        have r3 := r2.grown (World.grownBy_alloc w2 (.cells #[.slice A n c, .slice A' m c'] 22) none) hB2 (fun g e => by cases e)
        have r3' := r2'.grown (World.grownBy_alloc w2 (.cells #[.slice A n c, .slice A' m c'] 22) none) hB2 (fun g e => by cases e)
        simp only [g2]
        go_wp2_with fail
        refine (concat_any A A' n m c c' a b _ w2.heap.size ha hb (by omega) hn hm (by simp) (by simp) (by simp) B (by simp; omega) r3 r3').mono ?_
        rintro e w3 ⟨A2, c2, rfl, ho3, hb3⟩
        go_wp2
        go_ret2
        rw [K.out.1, K.out.2, List.length_append, ha, hb]
        exact ⟨A2, c2, rfl, own_base ho3 (by simp; omega), (b2.alloc b2.size _).trans (hb3.mono (by simp; omega))⟩
      · have K := Lib.hid (cat_f (a := a) (b := b) (by rw [hs]; simp; omega))
        have hd : decide (6 < (n : Int) + (m : Int)) = true := by simp; omega
        clear hs
        go_enter Tryd.func14, Tryd.ntmps14
        go_wp2_with fail
        refine v1.mono ?_
        rintro e w1 ⟨rfl, b1⟩
        have s1 := b1.size
        have r1' := hr'.below_le b1 hB
        go_wp2_with fail
        refine (implValidOut_any A' m c' b w1 hb (by unfold maxLen; omega) B r1').mono ?_
        rintro e w2 ⟨rfl, hb2⟩
        have b2 := b1.trans (hb2.mono s1)
        simp only [g2]
        go_wp2
        go_ret2
        rw [K.out.1, K.out.2]
        exact ⟨none, 0, rfl, World.ownsRow_nil _ _ _ _, b2⟩
    · have K := Lib.hid (cat_r (a := a) g2)
      go_enter Tryd.func14, Tryd.ntmps14
      go_wp2_with fail
      refine v1.mono ?_
      rintro e w1 ⟨rfl, b1⟩
      have s1 := b1.size
      have r1' := hr'.below_le b1 hB
      go_wp2_with fail
      refine (implValidOut_any A' m c' b w1 hb (by unfold maxLen; omega) B r1').mono ?_
      rintro e w2 ⟨rfl, hb2⟩
      have b2 := b1.trans (hb2.mono s1)
      simp only [g2]
      go_wp2
      go_ret2
      rw [K.out.1, K.out.2]
      exact ⟨none, 0, rfl, World.ownsRow_nil _ _ _ _, b2⟩
  · have K := Lib.hid (cat_l (b := b) g1)
    rw [g1] at v1
    go_enter Tryd.func14, Tryd.ntmps14
    go_wp2_with fail
    refine v1.mono ?_
    rintro e w1 ⟨rfl, b1⟩
    go_wp2
    go_ret2
    rw [K.out.1, K.out.2]
    exact ⟨none, 0, rfl, World.ownsRow_nil _ _ _ _, b1⟩

end Go.Proofs.YtnepcipicibmfaaDoor
