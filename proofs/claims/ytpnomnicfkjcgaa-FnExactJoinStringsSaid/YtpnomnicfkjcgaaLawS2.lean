/- The walk of the law on JoinStrings. No condition. -/
import Derived.Test.YtpnomnicfkjcgaaStrJoin
import Derived.Test.YtpnomnicfkjcgaaStrS
namespace Go.Proofs.Ytpnomnicfkjcgaa
open Go.RowKit Go.Shelf

set_option maxHeartbeats 2000000 in
theorem lawJoin (A : Option Addr) (n c : Nat) (ss : List ByteArray) (sep : ByteArray) (w : World) (hn : ss.length = n) (hm : n ≤ maxLen) (hs : ∀ s ∈ ss, s.size ≤ maxLen) (hp : sep.size ≤ maxLen) (hr : Row w w.heap.size A (strs ss)) :
    Calls Try.prog 3 #[.slice A n c, .string sep] w fun e w' => e = .returned (.bool true) ∧ Below w.heap.size w w' := by
  by_cases hp1 : sep.size ≤ 1048576
  · have sz := Lib.hid (szStrS_any A n c ss w hn hm hs _ hr)
    by_cases hsz : n + sizes ss ≤ 1048576
    · rw [if_pos hsz] at sz
      go_enter Try.func3, Try.ntmps3
      go_wp2_with fail
      refine sz.out.mono ?_
      rintro e w' ⟨rfl, rfl⟩
      clear sz
      go_wp2_with fail
      refine (toStrS_any A n c ss w hn (by omega) hr).mono ?_
      rintro e w1 ⟨rfl, ho1, b1⟩
      go_wp2_with fail
      refine (specJoin_any _ n n ss sep w1 hn (by omega) (by omega) hp _ (Nat.le_refl _) (Row.of_own ho1)).mono ?_
      rintro e w2 ⟨rfl, hb2⟩
      have b2 := b1.trans (hb2.mono b1.size)
      go_wp2_with fail
      refine (toStrS_any A n c ss w2 hn (by omega) ((hr.below b2).mono b2.size)).mono ?_
      rintro e w3 ⟨rfl, ho3, hb3⟩
      have b3 := b2.trans (hb3.mono b2.size)
      go_wp2_with fail
      refine (implJoin_any _ n n _ ss sep w3 hn (by omega) (by omega) hp ho3).mono ?_
      rintro e w4 ⟨rfl, hb4⟩
      have b4 := b3.trans (hb4.mono b3.size)
      have ox := own_below ho3 hb4 (Nat.le_refl _)
      have hsm := seq_same (bs (joinR ss sep))
      go_wp2_with fail
      refine (toStrS_any A n c ss w4 hn (by omega) ((hr.below b4).mono b4.size)).mono ?_
      rintro e w5 ⟨rfl, ho5, hb5⟩
      have b5 := b4.trans (hb5.mono b4.size)
      have ox := own_below ox hb5 (Nat.le_refl _)
      go_wp2_with fail
      refine (eqStrS_same _ _ n n n ss w5 hn (by omega) _ (Row.of_own ox) (Row.of_own ho5)).mono ?_
      rintro e w6 ⟨rfl, hb6⟩
      go_wp2
      go_ret
      exact ⟨rfl, b5.trans (hb6.mono b5.size)⟩
    · rw [if_neg hsz] at sz
      go_enter Try.func3, Try.ntmps3
      go_wp2_with fail
      refine sz.out.mono ?_
      rintro e w' ⟨rfl, rfl⟩
      clear sz
      go_wp2
      go_ret
      exact ⟨rfl, Below.refl _ _⟩
  · unfold maxLen at hp
    go_enter Try.func3, Try.ntmps3
    go_wp2
    go_ret
    exact ⟨rfl, Below.refl _ _⟩
end Go.Proofs.Ytpnomnicfkjcgaa
