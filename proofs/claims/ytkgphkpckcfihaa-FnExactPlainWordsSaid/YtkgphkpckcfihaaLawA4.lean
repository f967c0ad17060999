/- The walk of the law on PlainWords. No condition. -/
import Derived.Test.YtkgphkpckcfihaaPlw
import Derived.Test.YtkgphkpckcfihaaLawA3
namespace Go.Proofs.Ytkgphkpckcfihaa
open Go.RowKit

set_option maxHeartbeats 4000000 in
theorem lawPlain (A : Option Addr) (n c : Nat) (l : List At) (w : World) (hn : l.length = n) (hm : n ≤ maxLen) (hs : ∀ a ∈ l, (Lit.int .i64 a.k).wf = true ∧ a.t.size ≤ maxLen) (hr : Row w w.heap.size A (atoms l)) :
    Calls Try.prog 6 #[.slice A n c] w fun e w' => e = .returned (.bool true) ∧ Below w.heap.size w w' := by
  have sz := Lib.hid (szAtS_any A n c l w hn hm (fun a ha => (hs a ha).2) hr)
  by_cases hsz : n + sizesT l ≤ 1048576
  · have hs2 := sizes_small hsz
    have hpl : (plR l).length ≤ 1048576 := Nat.le_trans (plR_len l) (by omega)
    rw [if_pos hsz] at sz
    go_enter Try.func6, Try.ntmps6
    go_wp2_with fail
    refine sz.out.mono ?_
    rintro e w0 ⟨rfl, b0⟩
    clear sz
    go_wp2_with fail
    refine (toAtS_any A n c l w0 hn (by omega) ((hr.below b0).mono b0.size)).mono ?_
    rintro e w1 ⟨rfl, ho1, hb1⟩
    have b1 := b0.trans (hb1.mono b0.size)
    go_wp2_with fail
    refine (specPlain_any _ n n l w1 hn hm hs2 _ (Nat.le_refl _) (Row.of_own ho1)).mono ?_
    rintro e w2 ⟨A0, c0, rfl, ho2, hb2⟩
    have r0 := Row.of_own ho2
    have b2 := b1.trans (hb2.mono b1.size)
    go_wp2_with fail
    refine (toAtS_any A n c l w2 hn (by omega) ((hr.below b2).mono b2.size)).mono ?_
    rintro e w3 ⟨rfl, ho3, hb3⟩
    have b3 := b2.trans (hb3.mono b2.size)
    have r0 := r0.below hb3
    go_wp2_with fail
    refine (implPlain_any _ n n l w3 hn hm hs2 _ (Nat.le_refl _) (Row.of_own ho3)).mono ?_
    rintro e w4 ⟨A1, c1, rfl, ho4, hb4⟩
    have b4 := b3.trans (hb4.mono b3.size)
    have r0 := r0.below_le hb4 hb3.size
    have ox := own_below ho3 hb4 (Nat.le_refl _)
    have s4 : w2.heap.size ≤ w4.heap.size := Nat.le_trans hb3.size hb4.size
    go_wp2_with fail
    refine (eqStrS_same A1 A0 _ c1 c0 (plR l) w4 rfl hpl w4.heap.size (Row.of_own ho4) (r0.mono s4)).mono ?_
    rintro e w5 ⟨rfl, hb5⟩
    have b5 := b4.trans (hb5.mono b4.size)
    have r0 := r0.below_le hb5 s4
    have ox := own_below ox hb5 (Nat.le_refl _)
    have og := own_below ho4 hb5 (Nat.le_refl _)
    have s5 : w2.heap.size ≤ w5.heap.size := Nat.le_trans s4 hb5.size
    go_wp2_with fail
    refine (toAtS_any A n c l w5 hn (by omega) ((hr.below b5).mono b5.size)).mono ?_
    rintro e w6 ⟨rfl, ho6, hb6⟩
    have b6 := b5.trans (hb6.mono b5.size)
    have r0 := r0.below_le hb6 s5
    have ox := own_below ox hb6 (Nat.le_refl _)
    have og := own_below og hb6 (Nat.le_refl _)
    have s6 : w2.heap.size ≤ w6.heap.size := Nat.le_trans s5 hb6.size
    go_wp2_with fail
    refine (eqAtS_same _ _ n n n l w6 hn (by omega) w6.heap.size (Nat.le_refl _) (Row.of_own ox) (Row.of_own ho6)).mono ?_
    rintro e w7 ⟨rfl, hb7⟩
    have b7 := b6.trans (hb7.mono b6.size)
    have r0 := r0.below_le hb7 s6
    have ox := own_below ox hb7 (Nat.le_refl _)
    have og := own_below og hb7 (Nat.le_refl _)
    have s7 : w2.heap.size ≤ w7.heap.size := Nat.le_trans s6 hb7.size
    go_wp2_with fail
    refine (markAtS_any _ n n l 1 w2.heap.size w7 hn (by omega) (by omega) (by omega) ox).mono ?_
    rintro e w8 ⟨rfl, ho8, hg8⟩
    have b8 := below_marked b7 ox hg8 b2.size b7.size
    have r0 := r0.marked ox hg8 (Nat.le_refl _) s7
    have s8 : w2.heap.size ≤ w8.heap.size := Nat.le_trans s7 hg8.size
    have og : w8.ownsRow w3.heap.size 9 1 (.slice A1 (plR l).length c1) (plR l).length (strs (plR l)) := own_apart og ho3 hg8
    go_wp2_with fail
    refine (eqStrS_same A1 A0 _ c1 c0 (plR l) w8 rfl hpl w8.heap.size (Row.of_own og) (r0.mono s8)).mono ?_
    rintro e w9 ⟨rfl, hb9⟩
    have b9 := b8.trans (hb9.mono b8.size)
    have r0 := r0.below_le hb9 s8
    have og := own_below og hb9 (Nat.le_refl _)
    have s9 : w2.heap.size ≤ w9.heap.size := Nat.le_trans s8 hb9.size
    go_wp2_with fail
    refine (markStrS_any A1 _ c1 (plR l) 1 w3.heap.size w9 rfl hpl (by omega) (by omega) og).mono ?_
    rintro e w10 ⟨rfl, ho10, hg10⟩
    have b10 := below_marked b9 og hg10 b3.size b9.size
    have r0 := r0.marked og hg10 hb3.size s9
    have s10 : w2.heap.size ≤ w10.heap.size := Nat.le_trans s9 hg10.size
    go_wp2_with fail
    refine (heldStrS_any A1 _ c1 1 w10 hpl (by omega) (by omega) (Row.of_own ho10)).mono ?_
    rintro e w11 ⟨rfl, hb11⟩
    have b11 := b10.trans (hb11.mono b10.size)
    have r0 := r0.below_le hb11 s10
    have og := own_below ho10 hb11 (Nat.le_refl _)
    have s11 : w2.heap.size ≤ w11.heap.size := Nat.le_trans s10 hb11.size
    go_wp2_with fail
    refine (toAtS_any A n c l w11 hn (by omega) ((hr.below b11).mono b11.size)).mono ?_
    rintro e w12 ⟨rfl, ho12, hb12⟩
    have b12 := b11.trans (hb12.mono b11.size)
    have r0 := r0.below_le hb12 s11
    have og := own_below og hb12 (Nat.le_refl _)
    have s12 : w2.heap.size ≤ w12.heap.size := Nat.le_trans s11 hb12.size
    go_wp2_with fail
    refine (implPlain_any _ n n l w12 hn hm hs2 _ (Nat.le_refl _) (Row.of_own ho12)).mono ?_
    rintro e w13 ⟨A2, c2, rfl, ho13, hb13⟩
    have b13 := b12.trans (hb13.mono b12.size)
    have r0 := r0.below_le hb13 s12
    have og := own_below og hb13 (Nat.le_refl _)
    have s13 : w2.heap.size ≤ w13.heap.size := Nat.le_trans s12 hb13.size
    go_wp2_with fail
    refine (eqStrS_same A2 A0 _ c2 c0 (plR l) w13 rfl hpl w13.heap.size (Row.of_own ho13) (r0.mono s13)).mono ?_
    rintro e w14 ⟨rfl, hb14⟩
    have b14 := b13.trans (hb14.mono b13.size)
    have og := own_below og hb14 (Nat.le_refl _)
    go_wp2_with fail
    refine (heldStrS_any A1 _ c1 1 w14 hpl (by omega) (by omega) (Row.of_own og)).mono ?_
    rintro e w15 ⟨rfl, hb15⟩
    go_wp2
    go_ret
    exact ⟨rfl, b14.trans (hb15.mono b14.size)⟩
  · rw [if_neg hsz] at sz
    go_enter Try.func6, Try.ntmps6
    go_wp2_with fail
    refine sz.out.mono ?_
    rintro e w' ⟨rfl, b0⟩
    clear sz
    go_wp2
    go_ret
    exact ⟨rfl, b0⟩
end Go.Proofs.Ytkgphkpckcfihaa
