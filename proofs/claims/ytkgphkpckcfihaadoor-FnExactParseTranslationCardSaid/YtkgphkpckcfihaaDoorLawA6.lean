/- The walk of the law on ParseTranslation. Condition: the cell of internal/bytealg.MaxLen is an int. -/
import Derived.Test.YtkgphkpckcfihaaDoorParT
namespace Go.Proofs.YtkgphkpckcfihaaDoor
open Go.RowKit

set_option maxHeartbeats 2000000 in
theorem lawParseTr (s : ByteArray) (w : World) (m : Int) (hmax : w.cell? ⟨0, 0, none⟩ = some (.int .i64 m)) (hs : s.size ≤ maxLen) :
    Calls Tryd.prog 5 #[.string s] w fun e w' => e = .returned (.bool true) ∧ Below w.heap.size w w' := by
  have hlt : 0 < w.heap.size := World.block_lt_of_cell? w _ hmax
  have HM := Lib.hid (fun wx (h : Below w.heap.size w wx) => (h.cell (p := ⟨0, 0, none⟩) hlt).trans hmax)
  clear hmax
  unfold maxLen at hs
  by_cases hle1 : s.size ≤ 1048576
  · have hl := ptR_len s.data.toList
    have hS := Lib.hid (fun W => specParTr_any s W hle1)
    have hI := Lib.hid (fun W hm => implParTr_any s W m hm hle1)
    generalize ptR s.data.toList = l at hS hI hl
    generalize ptOk s.data.toList = q at hS hI
    have hq : (q == q) = true := by cases q <;> rfl
    go_enter Tryd.func5, Tryd.ntmps5
    go_wp2_with fail
    refine (hS.out w).mono ?_
    rintro e w2 ⟨A0, c0, rfl, ho2, b2⟩
    have r0 := Row.of_own ho2
    go_wp2_with fail
    refine (hI.out w2 (HM.out _ b2)).mono ?_
    rintro e w4 ⟨A1, c1, rfl, ho4, hb4⟩
    have b4 := b2.trans (hb4.mono b2.size)
    have r0 := r0.below hb4
    have s4 : w2.heap.size ≤ w4.heap.size := hb4.size
    go_wp2_with fail
    refine (eqAtS_same A1 A0 _ c1 c0 l w4 rfl (by omega) w4.heap.size (Nat.le_refl _) (Row.of_own ho4) (r0.mono s4)).mono ?_
    rintro e w9 ⟨rfl, hb5⟩
    have b9 := b4.trans (hb5.mono b4.size)
    have r0 := r0.below_le hb5 s4
    have og := own_below ho4 hb5 (Nat.le_refl _)
    have s9 : w2.heap.size ≤ w9.heap.size := Nat.le_trans s4 hb5.size
    go_wp2_with fail
    refine (markAtS_any A1 _ c1 l 1 w2.heap.size w9 rfl (by omega) (by omega) (by omega) og).mono ?_
    rintro e w10 ⟨rfl, ho10, hg10⟩
    have b10 := below_marked b9 og hg10 b2.size b9.size
    have r0 := r0.marked og hg10 (Nat.le_refl _) s9
    have s10 : w2.heap.size ≤ w10.heap.size := Nat.le_trans s9 hg10.size
    go_wp2_with fail
    refine (heldAtS_any A1 _ c1 1 w10 (by omega) (by omega) (by omega) (Row.of_own ho10)).mono ?_
    rintro e w11 ⟨rfl, hb11⟩
    have b11 := b10.trans (hb11.mono b10.size)
    have r0 := r0.below_le hb11 s10
    have og := own_below ho10 hb11 (Nat.le_refl _)
    have s11 : w2.heap.size ≤ w11.heap.size := Nat.le_trans s10 hb11.size
    go_wp2_with fail
    refine (hI.out w11 (HM.out _ b11)).mono ?_
    rintro e w13 ⟨A2, c2, rfl, ho13, hb13⟩
    have b13 := b11.trans (hb13.mono b11.size)
    have r0 := r0.below_le hb13 s11
    have og := own_below og hb13 (Nat.le_refl _)
    have s13 : w2.heap.size ≤ w13.heap.size := Nat.le_trans s11 hb13.size
    go_wp2_with fail
    refine (eqAtS_same A2 A0 _ c2 c0 l w13 rfl (by omega) w13.heap.size (Nat.le_refl _) (Row.of_own ho13) (r0.mono s13)).mono ?_
    rintro e w14 ⟨rfl, hb14⟩
    have b14 := b13.trans (hb14.mono b13.size)
    have og := own_below og hb14 (Nat.le_refl _)
    go_wp2_with fail
    refine (heldAtS_any A1 _ c1 1 w14 (by omega) (by omega) (by omega) (Row.of_own og)).mono ?_
    rintro e w15 ⟨rfl, hb15⟩
    go_wp2
    go_ret
    exact ⟨rfl, b14.trans (hb15.mono b14.size)⟩
  · go_enter Tryd.func5, Tryd.ntmps5
    go_wp2
    go_ret
    exact ⟨rfl, Below.refl _ _⟩
end Go.Proofs.YtkgphkpckcfihaaDoor
