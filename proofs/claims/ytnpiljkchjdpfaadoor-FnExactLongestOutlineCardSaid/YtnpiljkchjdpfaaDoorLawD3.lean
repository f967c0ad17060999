/- The walk of the law on LongestOutline. Condition: the cell of internal/bytealg.MaxLen is an int. -/
import Derived.Test.YtnpiljkchjdpfaaDoorGA
import Derived.Test.YtnpiljkchjdpfaaDoorDictF
namespace Go.Proofs.YtnpiljkchjdpfaaDoor
open Go.RowKit

set_option maxHeartbeats 4000000 in
theorem lawLongest (A : Option Addr) (n c : Nat) (l : List En) (w : World) (m : Int) (hmax : w.cell? ⟨0, 0, none⟩ = some (.int .i64 m)) (hn : l.length = n) (hm : n ≤ maxLen) (hs : ∀ e ∈ l, e.o.length ≤ maxLen ∧ e.t.size ≤ maxLen) (hr : DRow w w.heap.size A l) :
    Calls Tryd.prog 5 #[.agg #[.slice A n c]] w fun e w' => e = .returned (.bool true) ∧ Below w.heap.size w w' := by
  have hlt0 : 0 < w.heap.size := World.block_lt_of_cell? w _ hmax
  have HM := Lib.hid (fun wx (h : Below w.heap.size w wx) => (h.cell (p := ⟨0, 0, none⟩) hlt0).trans hmax)
  clear hmax
  have oB := ownC_new 33 w #[.slice A n c]
  have b0 := (Below.refl w.heap.size w).alloc (Nat.le_refl _) (.cells #[.slice A n c] 33)
  have hz := Lib.hid (szDict_any A n c l (w.alloc (.cells #[.slice A n c] 33)) hn hm hs ((hr.below b0).mono b0.size))
  by_cases h : n + szD l ≤ 1048576
  · rw [if_pos h] at hz
    have hs2 := sizes_smallE h
    have hs1 : ∀ e ∈ l, e.o.length ≤ 1048576 := fun e he => (hs2 e he).1
    have hT := Lib.hid (fun W (hW : Below w.heap.size w W) => toDict_any A n c l W hn (by omega) hs1 ((hr.below hW).mono hW.size))
    have hS := Lib.hid (fun W A' c' l' (hv : vals l' = vals l) (ho : OwnAll W w.heap.size (dRows 27 3 (.slice A' n c') l')) => (hv ▸ specLong_any A' n c' l' W (by have := congrArg List.length hv; rwa [vals_len, vals_len, hn] at this) (by omega) (vals_small hv hs2) W.heap.size (Nat.le_refl _) (DRow.of_own (by have := congrArg List.length hv; rwa [vals_len, vals_len, hn] at this) ho)))
    have hI := Lib.hid (fun W A' c' l' (hW : Below w.heap.size w W) (hv : vals l' = vals l) (ho : OwnAll W w.heap.size (dRows 27 3 (.slice A' n c') l')) => (hv ▸ implLong_any A' n c' l' W m (HM.out _ hW) (by have := congrArg List.length hv; rwa [vals_len, vals_len, hn] at this) (by omega) (vals_small hv hs2) W.heap.size (Nat.le_refl _) (DRow.of_own (by have := congrArg List.length hv; rwa [vals_len, vals_len, hn] at this) ho)))
    generalize dictB (vals l) = q at hS hI
    have hqq : (q == q) = true := by cases q <;> rfl
    generalize longR (vals l) = x at hS hI
    go_enter Tryd.func5, Tryd.ntmps5
    go_wp2_with fail
    refine hz.out.mono ?_
    rintro e w1 ⟨rfl, hb1⟩
    have b1 := b0.trans (hb1.mono b0.size)
    have oB := oB.below hb1 (Nat.le_refl _)
    have cB0 := oB.cell (j := 0) rfl
    go_wp2_with fail
    refine (hT.out w1 b1).mono ?_
    rintro e w2 ⟨A2, c2, l2, rfl, hv2, hc2, ho2, hb2⟩
    have b2 := b1.trans (hb2.mono b1.size)
    have oB2 := oB.below hb2 (Nat.le_refl _)
    go_wp2_with fail
    refine (hS.out w2 A2 c2 l2 hv2 (ho2.base_le b1.size)).mono ?_
    rintro e w3 ⟨rfl, hb3⟩
    have b3 := b2.trans (hb3.mono b2.size)
    have oB3 := oB2.below hb3 (Nat.le_refl _)
    clear cB0 oB2 ho2
    have cB0 := oB3.cell (j := 0) rfl
    go_wp2_with fail
    refine (hT.out w3 b3).mono ?_
    rintro e w4 ⟨A4, c4, l4, rfl, hv4, hc4, ho4, hb4⟩
    have b4 := b3.trans (hb4.mono b3.size)
    have oB4 := (oB3.below hb4 (Nat.le_refl _)).alloc (.cells #[.slice A4 n c4] 38)
    have oX := ownC_new 38 w4 #[.slice A4 n c4]
    have b4a := (Below.refl w4.heap.size w4).alloc (Nat.le_refl _) (.cells #[.slice A4 n c4] 38)
    have ho4 := ho4.below b4a (Nat.le_refl _)
    have b4 := b4.trans (b4a.mono b4.size)
    go_wp2_with fail
    refine (hI.out _ A4 c4 l4 b4 hv4 (ho4.base_le b3.size)).mono ?_
    rintro e w5 ⟨rfl, hb5⟩
    have b5 := b4.trans (hb5.mono b4.size)
    have oB5 := oB4.below hb5 (Nat.le_refl _)
    have oX5 := oX.below hb5 (Nat.le_refl _)
    have ho5 := ho4.below hb5 (Nat.le_refl _)
    clear cB0
    have cB0 := oB5.cell (j := 0) rfl
    have cX0 := oX5.cell (j := 0) rfl
    have hlB5 := oB5.lt.2
    have hlX5 := oX5.lt.2
    have hl4 : l4.length = n := by have := congrArg List.length hv4; rwa [vals_len, vals_len, hn] at this
    have hs4 := fun e he => (vals_small hv4 hs2 e he).1
    have hR := Lib.hid (fun W A6 c6 l6 (hW : Below w5.heap.size w5 W) (hv6 : vals l6 = vals l) (hl6 : l6.length = n) (ho : OwnAll W w5.heap.size (dRows 27 3 (.slice A6 n c6) l6)) => eqDict_same A4 A6 n c4 c6 l4 l6 W hl4 (hv4.trans hv6.symm) (by omega) hs4 W.heap.size (Nat.le_refl _) (((DRow.of_own hl4 ho5).below hW).mono hW.size) (DRow.of_own hl6 ho))
    have b5 := Lib.hid b5
    have hn2 := Lib.hid hn
    have hv4 := Lib.hid hv4
    clear b1 b2 b3 b4 b0 hv2 hv4 hl4 hs4 hS hI
    go_wp2
    go_region_held3 (fun w' => w'.cell? ⟨w.heap.size, 0, none⟩ = some (.slice A n c) ∧ w'.cell? ⟨w4.heap.size, 0, none⟩ = some (.slice A4 n c4)) (go_keep)
      (first
        | (go_at_call 16; refine (hT.out _ (by first | exact b5.out.drew | exact b5.out)).mono ?_; rintro e w6 ⟨A6, c6, l6, rfl, hv6, hc6, ho6, hb6⟩; have hv6 := Lib.hid hv6; have k1 := (bcell hb6 w.heap.size 0 (by simpa using hlB5)).trans cB0; have k3 := (bcell hb6 w4.heap.size 0 (by simpa using hlX5)).trans cX0)
        | (go_at_call 18; refine (hR.out _ A6 c6 l6 ((Below.refl _ _).drew.trans hb6) hv6.out (by have := congrArg List.length hv6.out; rw [vals_len, vals_len] at this; exact this.trans hn2.out) ho6).mono ?_; rintro e w7 ⟨rfl, hb7⟩; have k1 := (bcell hb7 w.heap.size 0 (by have := hb6.size; have : w5.drew.heap.size = w5.heap.size := rfl; omega)).trans k1; have k3 := (bcell hb7 w4.heap.size 0 (by have := hb6.size; have : w5.drew.heap.size = w5.heap.size := rfl; omega)).trans k3))
    go_wp2
    go_ret
    have b6 := b5.out.drew.trans (hb6.mono b5.out.drew.size)
    exact ⟨rfl, b6.trans (hb7.mono b6.size)⟩
  · rw [if_neg h] at hz
    go_enter Tryd.func5, Tryd.ntmps5
    go_wp2_with fail
    refine hz.out.mono ?_
    rintro e w1 ⟨rfl, hb1⟩
    go_wp2
    go_ret
    exact ⟨rfl, b0.trans (hb1.mono b0.size)⟩
end Go.Proofs.YtnpiljkchjdpfaaDoor
