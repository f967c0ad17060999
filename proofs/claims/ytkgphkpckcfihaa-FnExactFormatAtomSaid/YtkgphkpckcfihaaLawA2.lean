/- The walk of the law on FormatAtom. No condition. -/
import Derived.Test.YtkgphkpckcfihaaFmtA
namespace Go.Proofs.Ytkgphkpckcfihaa
open Go.RowKit

theorem bsq_same (a : ByteArray) : (a.toList == a.toList) = true := by simp
theorem lawFormatAtom (k : Int) (t : ByteArray) (w : World) (hm : t.size ≤ maxLen) : Calls Try.prog 4 #[.agg #[.int .i64 k, .string t]] w fun e w' => e = .returned (.bool true) ∧ Below w.heap.size w w' := by
  by_cases h : t.size ≤ 1048576
  · have hz := Lib.hid (fun W => szAtom_any k t W hm)
    rw [if_pos h] at hz
    have b0 := (Below.refl w.heap.size w).alloc (Nat.le_refl _) (.cells #[.int .i64 k, .string t] 23)
    have hcell : (w.alloc (.cells #[.int .i64 k, .string t] 23)).heap[w.heap.size]? = some (.cells #[.int .i64 k, .string t] 23 (0, 0)) := heap_alloc_new w _
    have hsm := bsq_same (bs (faR k t.data.toList))
    go_enter Try.func4, Try.ntmps4
    go_wp2_with fail
    refine (hz.out _).mono ?_
    rintro e w1 ⟨rfl, hb1⟩
    have c0 : w1.cell? ⟨w.heap.size, 0, none⟩ = some (.int .i64 k) := (hb1.cell (p := ⟨w.heap.size, 0, none⟩) (by simp)).trans (by rw [cell_of_row _ w.heap.size 0 _ _ (0, 0) hcell]; rfl)
    have c1 : w1.cell? ⟨w.heap.size, 1, none⟩ = some (.string t) := (hb1.cell (p := ⟨w.heap.size, 1, none⟩) (by simp)).trans (by rw [cell_of_row _ w.heap.size 1 _ _ (0, 0) hcell]; rfl)
    have b1 := b0.trans (hb1.mono (by simp))
    clear hcell
    have hlt : w.heap.size < w1.heap.size := World.block_lt_of_cell? w1 _ c0
    go_wp2_with fail
    refine (toAtom_any k t w1).mono ?_
    rintro e w2 ⟨rfl, hb2⟩
    have b2 := b1.trans (hb2.mono b1.size)
    go_wp2_with fail
    refine (specFormatAtom_any k t w2 h).mono ?_
    rintro e w3 ⟨rfl, hb3⟩
    have b3 := b2.trans (hb3.mono b2.size)
    have d0 := ((hb3.mono hb2.size).cell (p := ⟨w.heap.size, 0, none⟩) hlt).trans ((hb2.cell (p := ⟨w.heap.size, 0, none⟩) hlt).trans c0)
    have d1 := ((hb3.mono hb2.size).cell (p := ⟨w.heap.size, 1, none⟩) hlt).trans ((hb2.cell (p := ⟨w.heap.size, 1, none⟩) hlt).trans c1)
    go_wp2_with fail
    refine (toAtom_any k t w3).mono ?_
    rintro e w4 ⟨rfl, hb4⟩
    have b4 := b3.trans (hb4.mono b3.size)
    go_wp2_with fail
    refine (implFormatAtom_any k t w4 h).mono ?_
    rintro e w5 ⟨rfl, hb5⟩
    have b5 := b4.trans (hb5.mono b4.size)
    go_wp2
    go_ret
    exact ⟨rfl, b5⟩
  · have hz := Lib.hid (fun W => szAtom_any k t W hm)
    rw [if_neg h] at hz
    have b0 := (Below.refl w.heap.size w).alloc (Nat.le_refl _) (.cells #[.int .i64 k, .string t] 23)
    go_enter Try.func4, Try.ntmps4
    go_wp2_with fail
    refine (hz.out _).mono ?_
    rintro e w1 ⟨rfl, hb1⟩
    go_wp2
    go_ret
    exact ⟨rfl, b0.trans (hb1.mono (by simp))⟩
end Go.Proofs.Ytkgphkpckcfihaa
