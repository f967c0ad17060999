/- The walks of the laws IsValidOutline, HasPrefix, CompareOutlines. No condition. -/
import Derived.Test.YtnepcipicibmfaaOutl3
import Derived.Test.YtnepcipicibmfaaIntS
namespace Go.Proofs.Ytnepcipicibmfaa
open Go.RowKit

set_option maxHeartbeats 1000000 in
theorem lawValidOutline (A : Option Addr) (n c : Nat) (l : List Int) (w : World) (hn : l.length = n) (hm : n ≤ maxLen) (hr : Row w w.heap.size A (ints l)) :
    Calls Try.prog 3 #[.slice A n c] w fun e w' => e = .returned (.bool true) ∧ Below w.heap.size w w' := by
  unfold maxLen at hm
  by_cases hle : n ≤ 1048576
  · have hd : decide (1048576 < (n : Int)) = false := by simp; omega
    go_enter Try.func3, Try.ntmps3
    go_wp2_with fail
    refine (toIntS_any A n c l w hn hle hr).mono ?_
    rintro e w1 ⟨rfl, ho1, b1⟩
    go_wp2_with fail
    refine (specValidOut_any _ n n l w1 hn (by unfold maxLen; omega) w1.heap.size (Row.of_own ho1)).mono ?_
    rintro e w2 ⟨rfl, rfl⟩
    go_wp2_with fail
    refine (toIntS_any A n c l w1 hn hle ((hr.below b1).mono b1.size)).mono ?_
    rintro e w3 ⟨rfl, ho3, hb3⟩
    have b3 := b1.trans (hb3.mono b1.size)
    have rx := Row.of_own ho3
    go_wp2_with fail
    refine (implValidOut_any _ n n l w3 hn (by unfold maxLen; omega) w3.heap.size rx).mono ?_
    rintro e w4 ⟨rfl, hb4⟩
    have b4 := b3.trans (hb4.mono b3.size)
    have rx := rx.below hb4
    go_wp2_with fail
    refine (toIntS_any A n c l w4 hn hle ((hr.below b4).mono b4.size)).mono ?_
    rintro e w5 ⟨rfl, ho5, hb5⟩
    have b5 := b4.trans (hb5.mono b4.size)
    have rx := rx.below_le hb5 hb4.size
    go_wp2_with fail
    refine (eqIntS_same _ _ n n n l w5 hn hle w5.heap.size (rx.mono (Nat.le_trans hb4.size hb5.size)) (Row.of_own ho5)).mono ?_
    rintro e w6 ⟨rfl, hb6⟩
    go_wp2
    go_ret
    exact ⟨rfl, b5.trans (hb6.mono b5.size)⟩
  · have hd : decide (1048576 < (n : Int)) = true := by simp; omega
    go_enter Try.func3, Try.ntmps3
    go_wp2
    go_ret
    exact ⟨rfl, Below.refl _ _⟩

set_option maxHeartbeats 2000000 in
theorem lawHasPrefix (A : Option Addr) (n c : Nat) (l : List Int) (A' : Option Addr) (m c' : Nat) (p : List Int) (w : World) (hn : l.length = n) (hm : n ≤ maxLen) (hr : Row w w.heap.size A (ints l)) (hn' : p.length = m) (hm' : m ≤ maxLen) (hr' : Row w w.heap.size A' (ints p)) :
    Calls Try.prog 4 #[.slice A n c, .slice A' m c'] w fun e w' => e = .returned (.bool true) ∧ Below w.heap.size w w' := by
  by_cases hle : n ≤ 1048576
  · have hd : decide (1048576 < (n : Int)) = false := by simp; omega
    by_cases hle' : m ≤ 1048576
    · have hd' : decide (1048576 < (m : Int)) = false := by simp; omega
      go_enter Try.func4, Try.ntmps4
      go_wp2_with fail
      refine (toIntS_any A n c l w hn hle hr).mono ?_
      rintro e w1 ⟨rfl, ho1, b1⟩
      go_wp2_with fail
      refine (toIntS_any A' m c' p w1 hn' hle' ((hr'.below b1).mono b1.size)).mono ?_
      rintro e w2 ⟨rfl, ho2, hb2⟩
      have b2 := b1.trans (hb2.mono b1.size)
      have rs := ((Row.of_own ho1).below hb2).mono hb2.size
      go_wp2_with fail
      refine (specHasPrefix_any _ _ n m n m l p w2 hn hn' hm hm' (Nat.le_refl _) w2.heap.size rs (Row.of_own ho2)).mono ?_
      rintro e w3 ⟨rfl, hb3⟩
      have b3 := b2.trans (hb3.mono b2.size)
      go_wp2_with fail
      refine (toIntS_any A n c l w3 hn hle ((hr.below b3).mono b3.size)).mono ?_
      rintro e w4 ⟨rfl, ho4, hb4⟩
      have b4 := b3.trans (hb4.mono b3.size)
      go_wp2_with fail
      refine (toIntS_any A' m c' p w4 hn' hle' ((hr'.below b4).mono b4.size)).mono ?_
      rintro e w5 ⟨rfl, ho5, hb5⟩
      have b5 := b4.trans (hb5.mono b4.size)
      have rx := ((Row.of_own ho4).below hb5).mono hb5.size
      have ry := Row.of_own ho5
      go_wp2_with fail
      refine (implHasPrefix_any _ _ n m n m l p w5 hn hn' hm hm' (Nat.le_refl _) w5.heap.size (Nat.le_refl _) rx ry).mono ?_
      rintro e w6 ⟨rfl, hb6⟩
      have b6 := b5.trans (hb6.mono b5.size)
      have rx := rx.below hb6
      have ry := ry.below hb6
      go_wp2_with fail
      refine (toIntS_any A n c l w6 hn hle ((hr.below b6).mono b6.size)).mono ?_
      rintro e w7 ⟨rfl, ho7, hb7⟩
      have b7 := b6.trans (hb7.mono b6.size)
      have rx := rx.below_le hb7 hb6.size
      have ry := ry.below_le hb7 hb6.size
      have s7 := Nat.le_trans hb6.size hb7.size
      go_wp2_with fail
      refine (eqIntS_same _ _ n n n l w7 hn hle w7.heap.size (rx.mono s7) (Row.of_own ho7)).mono ?_
      rintro e w8 ⟨rfl, hb8⟩
      have b8 := b7.trans (hb8.mono b7.size)
      have ry := ry.below_le hb8 s7
      have s8 := Nat.le_trans s7 hb8.size
      go_wp2_with fail
      refine (toIntS_any A' m c' p w8 hn' hle' ((hr'.below b8).mono b8.size)).mono ?_
      rintro e w9 ⟨rfl, ho9, hb9⟩
      have b9 := b8.trans (hb9.mono b8.size)
      have ry := ry.below_le hb9 s8
      go_wp2_with fail
      refine (eqIntS_same _ _ m m m p w9 hn' hle' w9.heap.size (ry.mono (Nat.le_trans s8 hb9.size)) (Row.of_own ho9)).mono ?_
      rintro e w10 ⟨rfl, hb10⟩
      go_wp2
      go_ret
      exact ⟨rfl, b9.trans (hb10.mono b9.size)⟩
    · have hd' : decide (1048576 < (m : Int)) = true := by simp; omega
      unfold maxLen at hm hm'
      go_enter Try.func4, Try.ntmps4
      go_wp2
      go_ret
      exact ⟨rfl, Below.refl _ _⟩
  · have hd : decide (1048576 < (n : Int)) = true := by simp; omega
    unfold maxLen at hm
    go_enter Try.func4, Try.ntmps4
    go_wp2
    go_ret
    exact ⟨rfl, Below.refl _ _⟩

set_option maxHeartbeats 2000000 in
theorem lawCompareOutlines (A : Option Addr) (n c : Nat) (l : List Int) (A' : Option Addr) (m c' : Nat) (p : List Int) (w : World) (hn : l.length = n) (hm : n ≤ maxLen) (hr : Row w w.heap.size A (ints l)) (hn' : p.length = m) (hm' : m ≤ maxLen) (hr' : Row w w.heap.size A' (ints p)) :
    Calls Try.prog 6 #[.slice A n c, .slice A' m c'] w fun e w' => e = .returned (.bool true) ∧ Below w.heap.size w w' := by
  by_cases hle : n ≤ 1048576
  · have hd : decide (1048576 < (n : Int)) = false := by simp; omega
    by_cases hle' : m ≤ 1048576
    · have hd' : decide (1048576 < (m : Int)) = false := by simp; omega
      go_enter Try.func6, Try.ntmps6
      go_wp2_with fail
      refine (toIntS_any A n c l w hn hle hr).mono ?_
      rintro e w1 ⟨rfl, ho1, b1⟩
      go_wp2_with fail
      refine (toIntS_any A' m c' p w1 hn' hle' ((hr'.below b1).mono b1.size)).mono ?_
      rintro e w2 ⟨rfl, ho2, hb2⟩
      have b2 := b1.trans (hb2.mono b1.size)
      have rs := ((Row.of_own ho1).below hb2).mono hb2.size
      go_wp2_with fail
      refine (specCompareOutlines_any _ _ n m n m l p w2 hn hn' hm hm' w2.heap.size rs (Row.of_own ho2)).mono ?_
      rintro e w3 ⟨rfl, hb3⟩
      have b3 := b2.trans (hb3.mono b2.size)
      go_wp2_with fail
      refine (toIntS_any A n c l w3 hn hle ((hr.below b3).mono b3.size)).mono ?_
      rintro e w4 ⟨rfl, ho4, hb4⟩
      have b4 := b3.trans (hb4.mono b3.size)
      go_wp2_with fail
      refine (toIntS_any A' m c' p w4 hn' hle' ((hr'.below b4).mono b4.size)).mono ?_
      rintro e w5 ⟨rfl, ho5, hb5⟩
      have b5 := b4.trans (hb5.mono b4.size)
      have rx := ((Row.of_own ho4).below hb5).mono hb5.size
      have ry := Row.of_own ho5
      go_wp2_with fail
      refine (implCompareOutlines_any _ _ n m n m l p w5 hn hn' hm hm' w5.heap.size (Nat.le_refl _) rx ry).mono ?_
      rintro e w6 ⟨rfl, hb6⟩
      have b6 := b5.trans (hb6.mono b5.size)
      have rx := rx.below hb6
      have ry := ry.below hb6
      go_wp2_with fail
      refine (toIntS_any A n c l w6 hn hle ((hr.below b6).mono b6.size)).mono ?_
      rintro e w7 ⟨rfl, ho7, hb7⟩
      have b7 := b6.trans (hb7.mono b6.size)
      have rx := rx.below_le hb7 hb6.size
      have ry := ry.below_le hb7 hb6.size
      have s7 := Nat.le_trans hb6.size hb7.size
      go_wp2_with fail
      refine (eqIntS_same _ _ n n n l w7 hn hle w7.heap.size (rx.mono s7) (Row.of_own ho7)).mono ?_
      rintro e w8 ⟨rfl, hb8⟩
      have b8 := b7.trans (hb8.mono b7.size)
      have ry := ry.below_le hb8 s7
      have s8 := Nat.le_trans s7 hb8.size
      go_wp2_with fail
      refine (toIntS_any A' m c' p w8 hn' hle' ((hr'.below b8).mono b8.size)).mono ?_
      rintro e w9 ⟨rfl, ho9, hb9⟩
      have b9 := b8.trans (hb9.mono b8.size)
      have ry := ry.below_le hb9 s8
      go_wp2_with fail
      refine (eqIntS_same _ _ m m m p w9 hn' hle' w9.heap.size (ry.mono (Nat.le_trans s8 hb9.size)) (Row.of_own ho9)).mono ?_
      rintro e w10 ⟨rfl, hb10⟩
      go_wp2
      go_ret
      exact ⟨rfl, b9.trans (hb10.mono b9.size)⟩
    · have hd' : decide (1048576 < (m : Int)) = true := by simp; omega
      unfold maxLen at hm hm'
      go_enter Try.func6, Try.ntmps6
      go_wp2
      go_ret
      exact ⟨rfl, Below.refl _ _⟩
  · have hd : decide (1048576 < (n : Int)) = true := by simp; omega
    unfold maxLen at hm
    go_enter Try.func6, Try.ntmps6
    go_wp2
    go_ret
    exact ⟨rfl, Below.refl _ _⟩
end Go.Proofs.Ytnepcipicibmfaa
