/- Contracts on the notation of an atom. Condition: texts no longer than 2^20. -/
import Derived.Test.YtnpiljkchjdpfaaDoorPFmtA
import Derived.Test.YtnpiljkchjdpfaaDoorLawA1
namespace Go.Proofs.YtnpiljkchjdpfaaDoor
open Go.RowKit

theorem ret_st {o : ByteArray} {l : List UInt8} (h : o.data.toList = l) : Ending.returned (.string o) = .returned (.string (bs l)) := by rw [bs_of h]
theorem ret_stb {o : ByteArray} {l : List UInt8} {x y : Bool} (h : o.data.toList = l) (g : x = y) : Ending.returned (.tuple #[.string o, .bool x]) = .returned (.tuple #[.string (bs l), .bool y]) := by rw [bs_of h, g]
theorem fmtA_else {k : Int} (h : ¬ (k = 1 ∨ k = 2 ∨ k = 3 ∨ k = 4 ∨ k = 5 ∨ k = 8 ∨ k = 9 ∨ k = 10)) (t : List UInt8) : fmtA k t = [123] ++ t ++ [125] := by
  simp only [not_or] at h
  obtain ⟨n1, n2, n3, n4, n5, n8, n9, n10⟩ := h
  simp [fmtA, n1, n2, n3, n4, n5, n8, n9, n10]
theorem bs_app3 (a b c : ByteArray) : (a ++ b ++ c).data.toList = a.data.toList ++ b.data.toList ++ c.data.toList := by simp

set_option maxHeartbeats 1000000 in
theorem l5Format_any (k : Int) (t : ByteArray) (w : World) (hm : t.size ≤ 1048576) :
    Calls Tryd.prog 91 #[.agg #[.int .i64 k, .string t]] w fun e w' => e = .returned (.string (bs (fmtA k t.data.toList))) ∧ Below w.heap.size w w' := by
  by_cases hk : k = 1 ∨ k = 2 ∨ k = 3 ∨ k = 4 ∨ k = 5 ∨ k = 8 ∨ k = 9 ∨ k = 10
  · rcases hk with rfl | rfl | rfl | rfl | rfl | rfl | rfl | rfl
    all_goals
      go_enter Tryd.func91, Tryd.ntmps91
      go_wp2
      go_ret
      exact ⟨ret_st (by simp [fmtA]), (Below.refl _ _).alloc (Nat.le_refl _) _⟩
  · have H := Lib.hid (fmtA_else hk t.data.toList)
    simp only [not_or] at hk
    obtain ⟨n1, n2, n3, n4, n5, n8, n9, n10⟩ := hk
    have m1 : (k == 1) = false := by simpa using n1
    have m2 : (k == 2) = false := by simpa using n2
    have m3 : (k == 3) = false := by simpa using n3
    have m4 : (k == 4) = false := by simpa using n4
    have m5 : (k == 5) = false := by simpa using n5
    have m8 : (k == 8) = false := by simpa using n8
    have m9 : (k == 9) = false := by simpa using n9
    have m10 : (k == 10) = false := by simpa using n10
    clear n1 n2 n3 n4 n5 n8 n9 n10
    go_enter Tryd.func91, Tryd.ntmps91
    go_wp2
    go_ret
    exact ⟨ret_st (by rw [H.out]; simp), (Below.refl _ _).alloc (Nat.le_refl _) _⟩

set_option maxHeartbeats 1000000 in
theorem notaA_any (k : Int) (t : ByteArray) (w : World) (hm : t.size ≤ 1048576) :
    Calls Tryd.prog 111 #[.agg #[.int .i64 k, .string t]] w fun e w' => e = .returned (.string (bs (fmtA k t.data.toList))) ∧ Below w.heap.size w w' := by
  by_cases hk : k = 1 ∨ k = 2 ∨ k = 3 ∨ k = 4 ∨ k = 5 ∨ k = 8 ∨ k = 9 ∨ k = 10
  · rcases hk with rfl | rfl | rfl | rfl | rfl | rfl | rfl | rfl
    all_goals
      go_enter Tryd.func111, Tryd.ntmps111
      go_wp2
      go_ret
      exact ⟨ret_st (by simp [fmtA]), (Below.refl _ _).alloc (Nat.le_refl _) _⟩
  · have H := Lib.hid (fmtA_else hk t.data.toList)
    simp only [not_or] at hk
    obtain ⟨n1, n2, n3, n4, n5, n8, n9, n10⟩ := hk
    have m1 : (k == 1) = false := by simpa using n1
    have m2 : (k == 2) = false := by simpa using n2
    have m3 : (k == 3) = false := by simpa using n3
    have m4 : (k == 4) = false := by simpa using n4
    have m5 : (k == 5) = false := by simpa using n5
    have m8 : (k == 8) = false := by simpa using n8
    have m9 : (k == 9) = false := by simpa using n9
    have m10 : (k == 10) = false := by simpa using n10
    clear n1 n2 n3 n4 n5 n8 n9 n10
    go_enter Tryd.func111, Tryd.ntmps111
    go_wp2
    go_ret
    exact ⟨ret_st (by rw [H.out]; simp), (Below.refl _ _).alloc (Nat.le_refl _) _⟩

theorem implFormatAtom_any (k : Int) (t : ByteArray) (w : World) (hm : t.size ≤ 1048576) :
    Calls Tryd.prog 95 #[.agg #[.int .i64 k, .string t]] w fun e w' => e = .returned (.tuple #[.string (bs (faR k t.data.toList)), .bool (goodA k t.data.toList)]) ∧ Below w.heap.size w w' := by
  have b0 := (Below.refl w.heap.size w).alloc (Nat.le_refl _) (.cells #[.int .i64 k, .string t] 97)
  have hcell : (w.alloc (.cells #[.int .i64 k, .string t] 97)).heap[w.heap.size]? = some (.cells #[.int .i64 k, .string t] 97 (0, 0)) := heap_alloc_new w _
  have hG := Lib.hid (fun W => implIsValidAtom_any k t W (by unfold maxLen; omega))
  rcases Bool.eq_false_or_eq_true (goodA k t.data.toList) with g | g
  · have hR := Lib.hid (faR_yes g)
    rw [g] at hG ⊢
    clear g
    go_enter Tryd.func95, Tryd.ntmps95
    go_wp2_with fail
    refine (hG.out _).mono ?_
    rintro e w1 ⟨rfl, hb1⟩
    have c0 : w1.cell? ⟨w.heap.size, 0, none⟩ = some (.int .i64 k) := (hb1.cell (p := ⟨w.heap.size, 0, none⟩) (by simp)).trans (by rw [cell_of_row _ w.heap.size 0 _ _ (0, 0) hcell]; rfl)
    have c1 : w1.cell? ⟨w.heap.size, 1, none⟩ = some (.string t) := (hb1.cell (p := ⟨w.heap.size, 1, none⟩) (by simp)).trans (by rw [cell_of_row _ w.heap.size 1 _ _ (0, 0) hcell]; rfl)
    have b1 := b0.trans (hb1.mono (by simp))
    clear hcell
    go_wp2_with fail
    refine (notaA_any k t w1 hm).mono ?_
    rintro e w2 ⟨rfl, hb2⟩
    go_wp2
    go_ret2
    exact ⟨by rw [hR.out]; rfl, b1.trans (hb2.mono b1.size)⟩
  · have hR := Lib.hid (faR_no g)
    rw [g] at hG ⊢
    clear g
    go_enter Tryd.func95, Tryd.ntmps95
    go_wp2_with fail
    refine (hG.out _).mono ?_
    rintro e w1 ⟨rfl, hb1⟩
    go_wp2
    go_ret2
    exact ⟨by rw [hR.out]; rfl, b0.trans (hb1.mono (by simp))⟩

theorem fmtA_sz (k : Int) (t : ByteArray) (hm : t.size ≤ 1048576) : (bs (faR k t.data.toList)).size ≤ 1048600 := by
  rw [bs_len]
  have := fmtA_len k t.data.toList
  have := bs_size' t
  unfold faR
  split
  · omega
  · simp
end Go.Proofs.YtnpiljkchjdpfaaDoor
