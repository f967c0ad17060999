/- The walks of the laws on IsValidEntry and IsValidDictionary. Condition: the cell of internal/bytealg.MaxLen is an int. -/
import Derived.Test.YtnpiljkchjdpfaaDoorGA
import Derived.Test.YtnpiljkchjdpfaaDoorDictV
namespace Go.Proofs.YtnpiljkchjdpfaaDoor
open Go.RowKit

set_option maxHeartbeats 2000000 in
theorem lawIsValidEntry (A : Option Addr) (n c : Nat) (o : List Int) (t : ByteArray) (w : World) (m : Int) (hmax : w.cell? ⟨0, 0, none⟩ = some (.int .i64 m)) (hn : o.length = n) (hm : n ≤ maxLen) (ht : t.size ≤ maxLen) (hr : Row w w.heap.size A (ints o)) :
    Calls Tryd.prog 3 #[.agg #[.slice A n c, .string t]] w fun e w' => e = .returned (.bool true) ∧ Below w.heap.size w w' := by
  have hlt0 : 0 < w.heap.size := World.block_lt_of_cell? w _ hmax
  have HM := Lib.hid (fun wx (h : Below w.heap.size w wx) => (h.cell (p := ⟨0, 0, none⟩) hlt0).trans hmax)
  clear hmax
  have oB := ownC_new 24 w #[.slice A n c, .string t]
  have b0 := (Below.refl w.heap.size w).alloc (Nat.le_refl _) (.cells #[.slice A n c, .string t] 24)
  have hz := Lib.hid (szEntryL_any A n c t 1048576 (w.alloc (.cells #[.slice A n c, .string t] 24)) (by omega) (by omega) hm ht)
  have hlA : w.heap.size < (w.alloc (.cells #[.slice A n c, .string t] 24)).heap.size := by simp
  by_cases h : n + t.size ≤ 1048576
  · rw [if_pos (by omega)] at hz
    go_enter Tryd.func3, Tryd.ntmps3
    go_wp2_with fail
    refine hz.out.mono ?_
    rintro e w1 ⟨rfl, hb1⟩
    have b1 := b0.trans (hb1.mono b0.size)
    have oB := oB.below hb1 (Nat.le_refl _)
    have hlB := oB.lt.2
    have cB0 := oB.cell (j := 0) rfl
    have cB1 := oB.cell (j := 1) rfl
    go_wp2_with fail
    refine (toEntry_any A n c o t w1 hn (by omega) ((hr.below b1).mono b1.size)).mono ?_
    rintro e w2 ⟨A2, c2, rfl, ho2, hb2⟩
    have b2 := b1.trans (hb2.mono b1.size)
    have oB2 := oB.below hb2 (Nat.le_refl _)
    go_wp2_with fail
    refine (specValidEntry_any A2 n c2 o t w2 hn (by omega) (by omega) _ (Nat.le_refl _) (Row.of_own (hn ▸ ho2 : w2.ownsRow w1.heap.size 3 1 (.slice A2 n c2) n (ints o)))).mono ?_
    rintro e w3 ⟨rfl, hb3⟩
    have b3 := b2.trans (hb3.mono b2.size)
    have oB3 := oB2.below hb3 (Nat.le_refl _)
    clear cB0 cB1 oB2
    have cB0 := oB3.cell (j := 0) rfl
    have cB1 := oB3.cell (j := 1) rfl
    go_wp2_with fail
    refine (toEntry_any A n c o t w3 hn (by omega) ((hr.below b3).mono b3.size)).mono ?_
    rintro e w4 ⟨A4, c4, rfl, ho4, hb4⟩
    have b4 := b3.trans (hb4.mono b3.size)
    have oB4 := (oB3.below hb4 (Nat.le_refl _)).alloc (.cells #[.slice A4 n c4, .string t] 27)
    have oX := ownC_new 27 w4 #[.slice A4 n c4, .string t]
    have b4 := b4.alloc b4.size (.cells #[.slice A4 n c4, .string t] 27)
    have ho4 := ho4.alloc (.cells #[.slice A4 n c4, .string t] 27)
    have hV := Lib.hid (implValidEntry_any A4 n c4 o t _ m (HM.out _ b4) hn (by omega) (by omega) _ (Nat.le_refl _) (Row.of_own ho4))
    generalize hq : entB (o, t) = q at hV
    clear hq
    have hqq : (q == q) = true := by cases q <;> rfl
    go_wp2_with fail
    refine hV.out.mono ?_
    rintro e w5 ⟨rfl, hb5⟩
    have b5 := b4.trans (hb5.mono b4.size)
    have oB5 := oB4.below hb5 (Nat.le_refl _)
    have oX5 := oX.below hb5 (Nat.le_refl _)
    have ho5 := own_below ho4 hb5 (Nat.le_refl _)
    clear cB0 cB1
    have cB0 := oB5.cell (j := 0) rfl
    have cB1 := oB5.cell (j := 1) rfl
    have cX0 := oX5.cell (j := 0) rfl
    have cX1 := oX5.cell (j := 1) rfl
    have hlB5 := oB5.lt.2
    have hlX5 := oX5.lt.2
    have hT := Lib.hid (fun W (hW : Below w.heap.size w W) => toEntry_any A n c o t W hn (by omega) ((hr.below hW).mono hW.size))
    have hR := Lib.hid (fun W A6 c6 (hW : Below w5.heap.size w5 W) (ho : W.ownsRow w5.heap.size 3 1 (.slice A6 n c6) n (ints o)) => eqEntry_same A4 A6 n c4 c6 o t W hn (by omega) W.heap.size (Nat.le_refl _) (((Row.of_own ho5).below hW).mono hW.size) (Row.of_own ho))
    have b5 := Lib.hid b5
    clear b1 b2 b3 b4 b0 hlA
    go_wp2
    go_region_held3 (fun w' => w'.cell? ⟨w.heap.size, 0, none⟩ = some (.slice A n c) ∧ w'.cell? ⟨w.heap.size, 1, none⟩ = some (.string t) ∧ w'.cell? ⟨w4.heap.size, 0, none⟩ = some (.slice A4 n c4) ∧ w'.cell? ⟨w4.heap.size, 1, none⟩ = some (.string t)) (go_keep)
      (first
        | (go_at_call 11; refine (hT.out _ (by first | exact b5.out.drew | exact b5.out)).mono ?_; rintro e w6 ⟨A6, c6, rfl, ho6, hb6⟩; have k1 := (bcell hb6 w.heap.size 0 (by simpa using hlB5)).trans cB0; have k2 := (bcell hb6 w.heap.size 1 (by simpa using hlB5)).trans cB1; have k3 := (bcell hb6 w4.heap.size 0 (by simpa using hlX5)).trans cX0; have k4 := (bcell hb6 w4.heap.size 1 (by simpa using hlX5)).trans cX1)
        | (go_at_call 13; refine (hR.out _ A6 c6 ((Below.refl _ _).drew.trans hb6) ho6).mono ?_; rintro e w7 ⟨rfl, hb7⟩; have k1 := (bcell hb7 w.heap.size 0 (by have := hb6.size; have : w5.drew.heap.size = w5.heap.size := rfl; omega)).trans k1; have k2 := (bcell hb7 w.heap.size 1 (by have := hb6.size; have : w5.drew.heap.size = w5.heap.size := rfl; omega)).trans k2; have k3 := (bcell hb7 w4.heap.size 0 (by have := hb6.size; have : w5.drew.heap.size = w5.heap.size := rfl; omega)).trans k3; have k4 := (bcell hb7 w4.heap.size 1 (by have := hb6.size; have : w5.drew.heap.size = w5.heap.size := rfl; omega)).trans k4))
    go_wp2
    go_ret
    have b6 := b5.out.drew.trans (hb6.mono b5.out.drew.size)
    exact ⟨rfl, b6.trans (hb7.mono b6.size)⟩
  · rw [if_neg (by omega)] at hz
    go_enter Tryd.func3, Tryd.ntmps3
    go_wp2_with fail
    refine hz.out.mono ?_
    rintro e w1 ⟨rfl, hb1⟩
    go_wp2
    go_ret
    exact ⟨rfl, b0.trans (hb1.mono b0.size)⟩
end Go.Proofs.YtnpiljkchjdpfaaDoor
