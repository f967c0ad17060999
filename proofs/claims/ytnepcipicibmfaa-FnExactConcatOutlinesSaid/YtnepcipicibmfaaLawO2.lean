/- The joined outlines: the program's own function, and the law. No condition. -/
import Derived.Test.YtnepcipicibmfaaOutl4
namespace Go.Proofs.Ytnepcipicibmfaa
open Go.RowKit

set_option maxHeartbeats 1000000 in
theorem implConcat_any (A A' : Option Addr) (n m c c' : Nat) (a b : List Int) (w : World) (ha : a.length = n) (hb : b.length = m) (hn : n ≤ 1048576) (hm : m ≤ 1048576) (B : Nat) (hB : B ≤ w.heap.size) (hr : Row w B A (ints a)) (hr' : Row w B A' (ints b)) :
    Calls Try.prog 16 #[.slice A n c, .slice A' m c'] w fun e w' => ∃ A2 c2, e = .returned (.tuple #[.slice A2 (catR a b).length c2, .bool (catB a b)]) ∧ w'.ownsRow w.heap.size 3 1 (.slice A2 (catR a b).length c2) (catR a b).length (ints (catR a b)) ∧ Below w.heap.size w w' := by
  have v1 := implValidOut_any A n c a w ha (by unfold maxLen; omega) B hr
  rcases Bool.eq_false_or_eq_true (outB a) with g1 | g1
  · rw [g1] at v1
    have l1 := outB_len g1
    rcases Bool.eq_false_or_eq_true (outB b) with g2 | g2
    · have l2 := outB_len g2
      have hs := cat_small a b g1 g2
      rw [ha, hb] at hs
      by_cases h6 : n + m ≤ 6
      · have K := Lib.hid (cat_t (a := a) (b := b) (by rw [hs]; simp [h6]))
        have hd : decide (6 < (n : Int) + (m : Int)) = false := by simp; omega
        clear hs
        go_enter Try.func16, Try.ntmps16
        go_wp2_with fail
        refine v1.mono ?_
        rintro e w1 ⟨rfl, b1⟩
        have s1 := b1.size
        have r1 := hr.below_le b1 hB
        have r1' := hr'.below_le b1 hB
        go_wp2_with fail
        refine (implValidOut_any A' m c' b w1 hb (by unfold maxLen; omega) B r1').mono ?_
        rintro e w2 ⟨rfl, hb2⟩
        have b2 := b1.trans (hb2.mono s1)
        have s2 := hb2.size
        have r2 := r1.below_le hb2 (Nat.le_trans hB s1)
        have r2' := r1'.below_le hb2 (Nat.le_trans hB s1)
        have hB2 := Nat.le_trans hB (Nat.le_trans s1 s2)
        have r3 := r2.grown (World.grownBy_alloc w2 (.cells #[.slice A n c, .slice A' m c'] 22) none) hB2 (fun g e => by cases e)
        have r3' := r2'.grown (World.grownBy_alloc w2 (.cells #[.slice A n c, .slice A' m c'] 22) none) hB2 (fun g e => by cases e)
        simp only [g2]
        go_wp2_with fail
        refine (concat_any A A' n m c c' a b _ w2.heap.size ha hb (by omega) hn hm (by simp) (by simp) (by simp) B (by simp; omega) r3 r3').mono ?_
        rintro e w3 ⟨A2, c2, rfl, ho3, hb3⟩
        go_wp2
        go_ret2
        rw [K.out.1, K.out.2, List.length_append, ha, hb]
        exact ⟨A2, c2, rfl, own_base ho3 (by simp; omega), (b2.alloc b2.size _).trans (hb3.mono (by simp; omega))⟩
      · have K := Lib.hid (cat_f (a := a) (b := b) (by rw [hs]; simp; omega))
        have hd : decide (6 < (n : Int) + (m : Int)) = true := by simp; omega
        clear hs
        go_enter Try.func16, Try.ntmps16
        go_wp2_with fail
        refine v1.mono ?_
        rintro e w1 ⟨rfl, b1⟩
        have s1 := b1.size
        have r1' := hr'.below_le b1 hB
        go_wp2_with fail
        refine (implValidOut_any A' m c' b w1 hb (by unfold maxLen; omega) B r1').mono ?_
        rintro e w2 ⟨rfl, hb2⟩
        have b2 := b1.trans (hb2.mono s1)
        simp only [g2]
        go_wp2
        go_ret2
        rw [K.out.1, K.out.2]
        exact ⟨none, 0, rfl, World.ownsRow_nil _ _ _ _, b2⟩
    · have K := Lib.hid (cat_r (a := a) g2)
      go_enter Try.func16, Try.ntmps16
      go_wp2_with fail
      refine v1.mono ?_
      rintro e w1 ⟨rfl, b1⟩
      have s1 := b1.size
      have r1' := hr'.below_le b1 hB
      go_wp2_with fail
      refine (implValidOut_any A' m c' b w1 hb (by unfold maxLen; omega) B r1').mono ?_
      rintro e w2 ⟨rfl, hb2⟩
      have b2 := b1.trans (hb2.mono s1)
      simp only [g2]
      go_wp2
      go_ret2
      rw [K.out.1, K.out.2]
      exact ⟨none, 0, rfl, World.ownsRow_nil _ _ _ _, b2⟩
  · have K := Lib.hid (cat_l (b := b) g1)
    rw [g1] at v1
    go_enter Try.func16, Try.ntmps16
    go_wp2_with fail
    refine v1.mono ?_
    rintro e w1 ⟨rfl, b1⟩
    go_wp2
    go_ret2
    rw [K.out.1, K.out.2]
    exact ⟨none, 0, rfl, World.ownsRow_nil _ _ _ _, b1⟩

set_option maxHeartbeats 4000000 in
theorem lawConcatOutlines (A : Option Addr) (n c : Nat) (l : List Int) (A' : Option Addr) (m c' : Nat) (p : List Int) (w : World) (hn : l.length = n) (hr : Row w w.heap.size A (ints l)) (hn' : p.length = m) (hr' : Row w w.heap.size A' (ints p)) :
    Calls Try.prog 5 #[.slice A n c, .slice A' m c'] w fun e w' => e = .returned (.bool true) ∧ Below w.heap.size w w' := by
  by_cases hle : n ≤ 1048576
  · have hd : decide (1048576 < (n : Int)) = false := by simp; omega
    by_cases hle' : m ≤ 1048576
    · have hd' : decide (1048576 < (m : Int)) = false := by simp; omega
      have hl := catR_len l p
      go_enter Try.func5, Try.ntmps5
      go_wp2_with fail
      refine (toIntS_any A n c l w hn hle hr).mono ?_
      rintro e w1 ⟨rfl, ho1, b1⟩
      go_wp2_with fail
      refine (toIntS_any A' m c' p w1 hn' hle' ((hr'.below b1).mono b1.size)).mono ?_
      rintro e w2 ⟨rfl, ho2, hb2⟩
      have b2 := b1.trans (hb2.mono b1.size)
      have rs := ((Row.of_own ho1).below hb2).mono hb2.size
      go_wp2_with fail
      refine (specConcat_any _ _ n m n m l p w2 hn hn' hle hle' w2.heap.size (Nat.le_refl _) rs (Row.of_own ho2)).mono ?_
      rintro e w3 ⟨A0, c0, rfl, ho3, hb3⟩
      have r0 := Row.of_own ho3
      have b3 := b2.trans (hb3.mono b2.size)
      go_wp2_with fail
      refine (toIntS_any A n c l w3 hn hle ((hr.below b3).mono b3.size)).mono ?_
      rintro e w4 ⟨rfl, ho4, hb4⟩
      have b4 := b3.trans (hb4.mono b3.size)
      have r0 := r0.below hb4
      have s4 : w3.heap.size ≤ w4.heap.size := hb4.size
      go_wp2_with fail
      refine (toIntS_any A' m c' p w4 hn' hle' ((hr'.below b4).mono b4.size)).mono ?_
      rintro e w5 ⟨rfl, ho5, hb5⟩
      have b5 := b4.trans (hb5.mono b4.size)
      have r0 := r0.below_le hb5 s4
      have ox5 := own_below ho4 hb5 (Nat.le_refl _)
      have ox := ox5
      have s5 := Nat.le_trans s4 hb5.size
      go_wp2_with fail
      refine (implConcat_any _ _ n m n m l p w5 hn hn' hle hle' w5.heap.size (Nat.le_refl _) ((Row.of_own ho4).below hb5 |>.mono hb5.size) (Row.of_own ho5)).mono ?_
      rintro e w6 ⟨A1, c1, rfl, ho6, hb6⟩
      have b6 := b5.trans (hb6.mono b5.size)
      have r0 := r0.below_le hb6 s5
      have ox := own_below ox hb6 (Nat.le_refl _)
      have oy := own_below ho5 hb6 (Nat.le_refl _)
      have s6 := Nat.le_trans s5 hb6.size
      go_wp2_with fail
      refine (eqIntS_same A1 A0 _ c1 c0 (catR l p) w6 rfl (by omega) w6.heap.size (Row.of_own ho6) (r0.mono s6)).mono ?_
      rintro e w7 ⟨rfl, hb7⟩
      have b7 := b6.trans (hb7.mono b6.size)
      have r0 := r0.below_le hb7 s6
      have ox := own_below ox hb7 (Nat.le_refl _)
      have oy := own_below oy hb7 (Nat.le_refl _)
      have og := own_below ho6 hb7 (Nat.le_refl _)
      have s7 := Nat.le_trans s6 hb7.size
      go_wp2_with fail
      refine (toIntS_any A n c l w7 hn hle ((hr.below b7).mono b7.size)).mono ?_
      rintro e w8 ⟨rfl, ho8, hb8⟩
      have b8 := b7.trans (hb8.mono b7.size)
      have r0 := r0.below_le hb8 s7
      have ox := own_below ox hb8 (Nat.le_refl _)
      have oy := own_below oy hb8 (Nat.le_refl _)
      have og := own_below og hb8 (Nat.le_refl _)
      have s8 := Nat.le_trans s7 hb8.size
      go_wp2_with fail
      refine (eqIntS_same _ _ n n n l w8 hn hle w8.heap.size (Row.of_own ox) (Row.of_own ho8)).mono ?_
      rintro e w9 ⟨rfl, hb9⟩
      have b9 := b8.trans (hb9.mono b8.size)
      have r0 := r0.below_le hb9 s8
      have ox := own_below ox hb9 (Nat.le_refl _)
      have oy := own_below oy hb9 (Nat.le_refl _)
      have og := own_below og hb9 (Nat.le_refl _)
      have s9 := Nat.le_trans s8 hb9.size
      go_wp2_with fail
      refine (toIntS_any A' m c' p w9 hn' hle' ((hr'.below b9).mono b9.size)).mono ?_
      rintro e w10 ⟨rfl, ho10, hb10⟩
      have b10 := b9.trans (hb10.mono b9.size)
      have r0 := r0.below_le hb10 s9
      have ox := own_below ox hb10 (Nat.le_refl _)
      have oy := own_below oy hb10 (Nat.le_refl _)
      have og := own_below og hb10 (Nat.le_refl _)
      have s10 := Nat.le_trans s9 hb10.size
      go_wp2_with fail
      refine (eqIntS_same _ _ m m m p w10 hn' hle' w10.heap.size (Row.of_own oy) (Row.of_own ho10)).mono ?_
      rintro e w11 ⟨rfl, hb11⟩
      have b11 := b10.trans (hb11.mono b10.size)
      have r0 := r0.below_le hb11 s10
      have ox := own_below ox hb11 (Nat.le_refl _)
      have oy := own_below oy hb11 (Nat.le_refl _)
      have og := own_below og hb11 (Nat.le_refl _)
      have s11 := Nat.le_trans s10 hb11.size
      have t3 : w3.heap.size ≤ w11.heap.size := s11
      have t4 : w4.heap.size ≤ w11.heap.size := Nat.le_trans hb5.size (Nat.le_trans hb6.size (Nat.le_trans hb7.size (Nat.le_trans hb8.size (Nat.le_trans hb9.size (Nat.le_trans hb10.size hb11.size)))))
      have t5 : w5.heap.size ≤ w11.heap.size := Nat.le_trans hb6.size (Nat.le_trans hb7.size (Nat.le_trans hb8.size (Nat.le_trans hb9.size (Nat.le_trans hb10.size hb11.size))))
      go_wp2_with fail
      refine (markIntS_any _ n n l 1 w3.heap.size w11 hn hle (by omega) (by omega) ox).mono ?_
      rintro e w12 ⟨rfl, ho12, hg12⟩
      have b12 := below_marked b11 ox hg12 b3.size b11.size
      have r0 := r0.marked ox hg12 (Nat.le_refl _) t3
      have oy := own_apart oy ho4 hg12
      have og := own_apart og ox5 hg12
      go_wp2_with fail
      refine (markIntS_any _ m m p (1 + n) w4.heap.size w12 hn' hle' (by omega) (by omega) oy).mono ?_
      rintro e w13 ⟨rfl, ho13, hg13⟩
      have b13 := below_marked b12 oy hg13 (Nat.le_trans b3.size s4) b12.size
      have r0 := r0.marked oy hg13 s4 (Nat.le_trans t3 hg12.size)
      have og := own_apart og ho5 hg13
      have s13 : w3.heap.size ≤ w13.heap.size := Nat.le_trans t3 (Nat.le_trans hg12.size hg13.size)
      go_wp2_with fail
      refine (eqIntS_same A1 A0 _ c1 c0 (catR l p) w13 rfl (by omega) w13.heap.size (Row.of_own og) (r0.mono s13)).mono ?_
      rintro e w14 ⟨rfl, hb14⟩
      have b14 := b13.trans (hb14.mono b13.size)
      have r0 := r0.below_le hb14 s13
      have og := own_below og hb14 (Nat.le_refl _)
      have s14 := Nat.le_trans s13 hb14.size
      go_wp2_with fail
      refine (markIntS_any A1 _ c1 (catR l p) 1 w5.heap.size w14 rfl (by omega) (by omega) (by omega) og).mono ?_
      rintro e w15 ⟨rfl, ho15, hg15⟩
      have b15 := below_marked b14 og hg15 b5.size b14.size
      have r0 := r0.marked og hg15 s5 s14
      have s15 := Nat.le_trans s14 hg15.size
      go_wp2_with fail
      refine (heldIntS_any A1 _ c1 1 w15.heap.size w15 (by omega) (by omega) (by omega) (Row.of_own ho15)).mono ?_
      rintro e w16 ⟨rfl, rfl⟩
      go_wp2_with fail
      refine (toIntS_any A n c l w15 hn hle ((hr.below b15).mono b15.size)).mono ?_
      rintro e w17 ⟨rfl, ho17, hb17⟩
      have b17 := b15.trans (hb17.mono b15.size)
      have r0 := r0.below_le hb17 s15
      have og := own_below ho15 hb17 (Nat.le_refl _)
      have s17 := Nat.le_trans s15 hb17.size
      go_wp2_with fail
      refine (toIntS_any A' m c' p w17 hn' hle' ((hr'.below b17).mono b17.size)).mono ?_
      rintro e w18 ⟨rfl, ho18, hb18⟩
      have b18 := b17.trans (hb18.mono b17.size)
      have r0 := r0.below_le hb18 s17
      have og := own_below og hb18 (Nat.le_refl _)
      have s18 := Nat.le_trans s17 hb18.size
      go_wp2_with fail
      refine (implConcat_any _ _ n m n m l p w18 hn hn' hle hle' w18.heap.size (Nat.le_refl _) ((Row.of_own ho17).below hb18 |>.mono hb18.size) (Row.of_own ho18)).mono ?_
      rintro e w19 ⟨A2, c2, rfl, ho19, hb19⟩
      have b19 := b18.trans (hb19.mono b18.size)
      have r0 := r0.below_le hb19 s18
      have og := own_below og hb19 (Nat.le_refl _)
      have s19 := Nat.le_trans s18 hb19.size
      go_wp2_with fail
      refine (eqIntS_same A2 A0 _ c2 c0 (catR l p) w19 rfl (by omega) w19.heap.size (Row.of_own ho19) (r0.mono s19)).mono ?_
      rintro e w20 ⟨rfl, hb20⟩
      have og := own_below og hb20 (Nat.le_refl _)
      go_wp2_with fail
      refine (heldIntS_any A1 _ c1 1 w20.heap.size w20 (by omega) (by omega) (by omega) (Row.of_own og)).mono ?_
      rintro e w21 ⟨rfl, rfl⟩
      go_wp2
      go_ret
      exact ⟨rfl, b19.trans (hb20.mono b19.size)⟩
    · have hd' : decide (1048576 < (m : Int)) = true := by simp; omega
      go_enter Try.func5, Try.ntmps5
      go_wp2
      go_ret
      exact ⟨rfl, Below.refl _ _⟩
  · have hd : decide (1048576 < (n : Int)) = true := by simp; omega
    go_enter Try.func5, Try.ntmps5
    go_wp2
    go_ret
    exact ⟨rfl, Below.refl _ _⟩
end Go.Proofs.Ytnepcipicibmfaa
