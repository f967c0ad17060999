/- Contracts of FormatOutline, and the law. Condition: lists no longer than maxLen. -/
import Derived.Test.YtnepcipicibmfaaNotat
import Derived.Test.YtnepcipicibmfaaIntS
namespace Go.Proofs.Ytnepcipicibmfaa
open Go.RowKit

def fmtO (l : List Int) : List UInt8 := if outB l then notL l else []

set_option maxHeartbeats 400000 in
theorem implFormatOut_any (A : Option Addr) (n c : Nat) (l : List Int) (w : World) (hn : l.length = n) (hm : n ≤ maxLen) (B : Nat) (hB : B ≤ w.heap.size) (hr : Row w B A (ints l)) :
    Calls Try.prog 22 #[.slice A n c] w fun e w' => e = .returned (.tuple #[.string (bs (fmtO l)), .bool (outB l)]) ∧ Below w.heap.size w w' := by
  have v1 := implValidOut_any A n c l w hn hm B hr
  rcases Bool.eq_false_or_eq_true (outB l) with g | g
  · have hl := outB_len g
    have e : fmtO l = notL l := by rw [fmtO, if_pos g]
    rw [e, g]
    rw [g] at v1
    go_enter Try.func22, Try.ntmps22
    go_wp2_with fail
    refine v1.mono ?_
    rintro e w1 ⟨rfl, b1⟩
    go_wp2_with fail
    refine (notation_any A n c l w1 hn (by omega) (by omega) B (Nat.le_trans hB b1.size) (hr.below_le b1 hB)).mono ?_
    rintro e w2 ⟨rfl, hb2⟩
    go_wp2
    go_ret2
    exact ⟨rfl, b1.trans (hb2.mono b1.size)⟩
  · have e : fmtO l = [] := by rw [fmtO, g]; rfl
    rw [e, g]
    rw [g] at v1
    go_enter Try.func22, Try.ntmps22
    go_wp2_with fail
    refine v1.mono ?_
    rintro e w1 ⟨rfl, b1⟩
    go_wp2
    go_ret2
    exact ⟨rfl, b1⟩

set_option maxHeartbeats 400000 in
theorem specFormatOut_any (A : Option Addr) (n c : Nat) (l : List Int) (w : World) (hn : l.length = n) (hm : n ≤ maxLen) (B : Nat) (hB : B ≤ w.heap.size) (hr : Row w B A (ints l)) :
    Calls Try.prog 21 #[.slice A n c] w fun e w' => e = .returned (.tuple #[.string (bs (fmtO l)), .bool (outB l)]) ∧ Below w.heap.size w w' := by
  have v1 := l4Good_any A n c l w hn hm B hr
  rcases Bool.eq_false_or_eq_true (outB l) with g | g
  · have hl := outB_len g
    have e : fmtO l = notL l := by rw [fmtO, if_pos g]
    have ha := Lib.hid (outB_all g)
    rw [e, g]
    rw [g] at v1
    go_enter Try.func21, Try.ntmps21
    go_wp2_with fail
    refine v1.mono ?_
    rintro e w1 ⟨rfl, rfl⟩
    go_wp2_with fail
    refine (l4Format_any A n c l w hn (by omega) ha.out B hB hr).mono ?_
    rintro e w2 ⟨rfl, hb2⟩
    go_wp2
    go_ret2
    exact ⟨rfl, hb2⟩
  · have e : fmtO l = [] := by rw [fmtO, g]; rfl
    rw [e, g]
    rw [g] at v1
    go_enter Try.func21, Try.ntmps21
    go_wp2_with fail
    refine v1.mono ?_
    rintro e w1 ⟨rfl, rfl⟩
    go_wp2
    go_ret2
    exact ⟨rfl, Below.refl _ _⟩

set_option maxHeartbeats 1000000 in
theorem lawFormatOutline (A : Option Addr) (n c : Nat) (l : List Int) (w : World) (hn : l.length = n) (hm : n ≤ maxLen) (hr : Row w w.heap.size A (ints l)) :
    Calls Try.prog 7 #[.slice A n c] w fun e w' => e = .returned (.bool true) ∧ Below w.heap.size w w' := by
  by_cases hle : n ≤ 1048576
  · have hd : decide (1048576 < (n : Int)) = false := by simp; omega
    go_enter Try.func7, Try.ntmps7
    go_wp2_with fail
    refine (toIntS_any A n c l w hn hle hr).mono ?_
    rintro e w1 ⟨rfl, ho1, b1⟩
    go_wp2_with fail
    refine (specFormatOut_any _ n n l w1 hn hm w1.heap.size (Nat.le_refl _) (Row.of_own ho1)).mono ?_
    rintro e w2 ⟨rfl, hb2⟩
    have b2 := b1.trans (hb2.mono b1.size)
    go_wp2_with fail
    refine (toIntS_any A n c l w2 hn hle ((hr.below b2).mono b2.size)).mono ?_
    rintro e w3 ⟨rfl, ho3, hb3⟩
    have b3 := b2.trans (hb3.mono b2.size)
    have rx := Row.of_own ho3
    go_wp2_with fail
    refine (implFormatOut_any _ n n l w3 hn hm w3.heap.size (Nat.le_refl _) rx).mono ?_
    rintro e w4 ⟨rfl, hb4⟩
    have b4 := b3.trans (hb4.mono b3.size)
    have rx := rx.below hb4
    go_wp2_with fail
    refine (toIntS_any A n c l w4 hn hle ((hr.below b4).mono b4.size)).mono ?_
    rintro e w5 ⟨rfl, ho5, hb5⟩
    have b5 := b4.trans (hb5.mono b4.size)
    have rx := rx.below_le hb5 hb4.size
    go_wp2_with fail
    refine (eqIntS_same _ _ n n n l w5 hn hle w5.heap.size (rx.mono (Nat.le_trans hb4.size hb5.size)) (Row.of_own ho5)).mono ?_
    rintro e w6 ⟨rfl, hb6⟩
    go_wp2
    go_ret
    exact ⟨rfl, b5.trans (hb6.mono b5.size)⟩
  · have hd : decide (1048576 < (n : Int)) = true := by simp; omega
    unfold maxLen at hm
    go_enter Try.func7, Try.ntmps7
    go_wp2
    go_ret
    exact ⟨rfl, Below.refl _ _⟩
end Go.Proofs.Ytnepcipicibmfaa
