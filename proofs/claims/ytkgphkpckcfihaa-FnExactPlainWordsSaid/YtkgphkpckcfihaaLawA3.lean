/- The walk of the law on FormatTranslation. No condition. -/
import Derived.Test.YtkgphkpckcfihaaTr
import Derived.Test.YtkgphkpckcfihaaAtomS
namespace Go.Proofs.Ytkgphkpckcfihaa
open Go.RowKit

theorem sizes_small {l : List At} {n : Nat} (hsz : n + sizesT l ≤ 1048576) : ∀ a ∈ l, a.t.size ≤ 1048576 := fun a ha => by
  have := sizesT_mem l a ha
  omega
set_option maxHeartbeats 2000000 in
theorem lawFmtTr (A : Option Addr) (n c : Nat) (l : List At) (w : World) (hn : l.length = n) (hm : n ≤ maxLen) (hs : ∀ a ∈ l, (Lit.int .i64 a.k).wf = true ∧ a.t.size ≤ maxLen) (hr : Row w w.heap.size A (atoms l)) :
    Calls Try.prog 5 #[.slice A n c] w fun e w' => e = .returned (.bool true) ∧ Below w.heap.size w w' := by
  have sz := Lib.hid (szAtS_any A n c l w hn hm (fun a ha => (hs a ha).2) hr)
  by_cases hsz : n + sizesT l ≤ 1048576
  · have hs2 := sizes_small hsz
    rw [if_pos hsz] at sz
    have hsm := seq_same (bs (trR l))
    go_enter Try.func5, Try.ntmps5
    go_wp2_with fail
    refine sz.out.mono ?_
    rintro e w0 ⟨rfl, b0⟩
    clear sz
    go_wp2_with fail
    refine (toAtS_any A n c l w0 hn (by omega) ((hr.below b0).mono b0.size)).mono ?_
    rintro e w1 ⟨rfl, ho1, hb1⟩
    have b1 := b0.trans (hb1.mono b0.size)
    go_wp2_with fail
    refine (specFmtTr_any _ n n l w1 hn hm hs2 _ (Nat.le_refl _) (Row.of_own ho1)).mono ?_
    rintro e w2 ⟨rfl, hb2⟩
    have b2 := b1.trans (hb2.mono b1.size)
    go_wp2_with fail
    refine (toAtS_any A n c l w2 hn (by omega) ((hr.below b2).mono b2.size)).mono ?_
    rintro e w3 ⟨rfl, ho3, hb3⟩
    have b3 := b2.trans (hb3.mono b2.size)
    go_wp2_with fail
    refine (implFmtTr_any _ n n l w3 hn hm hs2 _ (Nat.le_refl _) (Row.of_own ho3)).mono ?_
    rintro e w4 ⟨rfl, hb4⟩
    have b4 := b3.trans (hb4.mono b3.size)
    have ox := own_below ho3 hb4 (Nat.le_refl _)
    go_wp2_with fail
    refine (toAtS_any A n c l w4 hn (by omega) ((hr.below b4).mono b4.size)).mono ?_
    rintro e w5 ⟨rfl, ho5, hb5⟩
    have b5 := b4.trans (hb5.mono b4.size)
    have ox := own_below ox hb5 (Nat.le_refl _)
    go_wp2_with fail
    refine (eqAtS_same _ _ n n n l w5 hn (by omega) _ (Nat.le_refl _) (Row.of_own ox) (Row.of_own ho5)).mono ?_
    rintro e w6 ⟨rfl, hb6⟩
    go_wp2
    go_ret
    exact ⟨rfl, b5.trans (hb6.mono b5.size)⟩
  · rw [if_neg hsz] at sz
    go_enter Try.func5, Try.ntmps5
    go_wp2_with fail
    refine sz.out.mono ?_
    rintro e w' ⟨rfl, b0⟩
    clear sz
    go_wp2
    go_ret
    exact ⟨rfl, b0⟩
end Go.Proofs.Ytkgphkpckcfihaa
