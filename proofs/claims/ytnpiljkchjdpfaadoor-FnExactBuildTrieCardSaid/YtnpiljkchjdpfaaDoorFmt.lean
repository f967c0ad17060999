/- Contracts of FormatStroke. No condition. -/
import Derived.Test.YtnpiljkchjdpfaaDoorLoose
namespace Go.Proofs.YtnpiljkchjdpfaaDoor
open Go.RowKit

theorem ret_sb {o : ByteArray} {x y : Bool} (g : y = x) : Ending.returned (.tuple #[.string o, .bool x]) = .returned (.tuple #[.string o, .bool y]) := by rw [g]
/-- The notation, or nothing. -/
def fmtR (s : Int) : List UInt8 := if goodB s then fmtL s else []
theorem fmtR_len (s : Int) : (fmtR s).length ≤ 46 := by
  unfold fmtR
  split
  · exact fmtL_len s
  · simp

set_option maxHeartbeats 1000000 in
theorem implFormat_o (s : Int) (w : World) :
    Calls Tryd.prog 69 #[.int .i64 s] w fun e w' => ∃ o : ByteArray, e = .returned (.tuple #[.string o, .bool (goodB s)]) ∧ o.data.toList = fmtR s ∧ Below w.heap.size w w' := by
  rcases Bool.eq_false_or_eq_true (goodB s) with g | g
  · obtain ⟨g1, g2⟩ := good_bd g
    have hR := Lib.hid (show fmtR s = fmtL s by rw [fmtR, if_pos g])
    have hk := keysL_len s
    have hmid := mid_bits (s := s) (by omega) g2
    go_enter Tryd.func69, Tryd.ntmps69
    go_wp2_with (first | (go_at_call 62; refine (implIsValidStroke_any _ _).mono ?_; rintro e w' ⟨rfl, rfl⟩) | (go_at_call 85; refine (implKeysOf_any s _ (by omega) g2).mono ?_; rintro e w1 ⟨A, c, rfl, ho, hb⟩))
    have hr := Row.of_own ho
    go_loop [4, 5, 18] (fun out m i => ∃ j : Nat, ∃ o : ByteArray, ∃ b : Bool, j ≤ (keysL s).length ∧ i = .int .i64 j ∧ out = .string o ∧ m = .bool b ∧ o.size ≤ 2 * j ∧ ((keysL s).take j).foldl stepI ([], midL (keysL s)) = (o.data.toList, b)) (fun _ _ i => (keysL s).length - (intOf i).toNat)
    case atStart => exact ⟨0, _, _, by omega, rfl, rfl, rfl, Nat.le_refl 0, rfl⟩
    case round =>
      obtain ⟨j, o, b, hj, rfl, rfl, rfl, hsz, hst⟩ := hrel
      by_cases hlt : j < (keysL s).length
      · obtain ⟨b', off, rfl, hb', hc⟩ := hr.int (k := j) hlt
        obtain ⟨hm1, hm2⟩ : 0 ≤ elt (keysL s) j ∧ elt (keysL s) j ≤ 22 := keysL_mem (elt_mem _ j hlt)
        have hstep : ((keysL s).take (j + 1)).foldl stepI ([], midL (keysL s)) = stepI (o.data.toList, b) (elt (keysL s) j) := by
          rw [take_int _ j hlt, List.foldl_append, hst]; rfl
        have hl := Lib.hid (lab_slice hm1 hm2)
        clear hst
        by_cases h13 : 13 ≤ elt (keysL s) j
        · cases b
          · have hf := Lib.hid (hstep.trans (by rw [stepI, if_pos ⟨h13, rfl⟩]))
            clear hstep
            go_wp2
            go_round
            case rel => exact ⟨j + 1, _, true, by omega, by go_num, rfl, rfl, by rw [bs_size] at hsz ⊢; rw [bs_append, bs_append, hl.out]; simp only [List.length_append, List.length_cons, List.length_nil]; omega, by rw [hf.out, bs_append, bs_append, hl.out]⟩
            case measure => simp [intOf]; omega
          · have hf := Lib.hid (hstep.trans (by rw [stepI, if_neg (by simp)]))
            clear hstep
            go_wp2
            go_round
            case rel => exact ⟨j + 1, _, true, by omega, by go_num, rfl, rfl, by rw [bs_size] at hsz ⊢; rw [bs_append, hl.out]; simp only [List.length_append, List.length_cons, List.length_nil]; omega, by rw [hf.out, bs_append, hl.out]⟩
            case measure => simp [intOf]; omega
        · have hf := Lib.hid (hstep.trans (by rw [stepI, if_neg (by omega)]))
          clear hstep
          go_wp2
          go_round
          case rel => exact ⟨j + 1, _, b, by omega, by go_num, rfl, rfl, by rw [bs_size] at hsz ⊢; rw [bs_append, hl.out]; simp only [List.length_append, List.length_cons, List.length_nil]; omega, by rw [hf.out, bs_append, hl.out]⟩
          case measure => simp [intOf]; omega
      · obtain rfl : j = (keysL s).length := by omega
        rw [List.take_length] at hst
        have hf := Lib.hid (show o.data.toList = fmtL s by rw [← fmt_meet, hst])
        clear hst
        go_wp2
        go_ret2
        exact ⟨o, rfl, hf.out.trans hR.out.symm, hb⟩
  · have hR := Lib.hid (show fmtR s = [] by rw [fmtR, g]; rfl)
    go_enter Tryd.func69, Tryd.ntmps69
    go_wp2_with (go_at_call 62; refine (implIsValidStroke_any _ _).mono ?_; rintro e w' ⟨rfl, rfl⟩)
    go_ret2
    exact ⟨⟨#[]⟩, ret_sb g, hR.out.symm, Below.refl _ _⟩

set_option maxHeartbeats 1000000 in
theorem l2Format_o (s : Int) (w : World) (g : goodB s = true) :
    Calls Tryd.prog 84 #[.int .i64 s] w fun e w' => ∃ o : ByteArray, e = .returned (.string o) ∧ o.data.toList = fmtR s ∧ Below w.heap.size w w' := by
  obtain ⟨g1, g2⟩ := good_bd g
  have hR := Lib.hid (show fmtR s = fmtL s by rw [fmtR, if_pos g])
  have hk := keysL_len s
  clear g
  go_enter Tryd.func84, Tryd.ntmps84
  go_wp2_with (go_at_call 96; refine (l2Keys_any s _ (by omega) g2).mono ?_; rintro e w1 ⟨A, c, rfl, ho, hb⟩)
  have hr := Row.of_own ho
  go_loop [3, 5, 6, 7] (fun out m h i => ∃ j : Nat, ∃ o : ByteArray, ∃ b b2 : Bool, j ≤ (keysL s).length ∧ i = .int .i64 j ∧ out = .string o ∧ m = .bool b ∧ h = .bool b2 ∧ o.size ≤ 2 * j ∧ ((keysL s).take j).foldl stepS ([], false, false) = (o.data.toList, b, b2)) (fun _ _ _ i => (keysL s).length - (intOf i).toNat)
  case atStart => exact ⟨0, _, _, _, by omega, rfl, rfl, rfl, rfl, Nat.le_refl 0, rfl⟩
  case round =>
    obtain ⟨j, o, b, b2, hj, rfl, rfl, rfl, rfl, hsz, hst⟩ := hrel
    by_cases hlt : j < (keysL s).length
    · obtain ⟨b', off, rfl, hb', hc⟩ := hr.int (k := j) hlt
      obtain ⟨hm1, hm2⟩ : 0 ≤ elt (keysL s) j ∧ elt (keysL s) j ≤ 22 := keysL_mem (elt_mem _ j hlt)
      have hstep : ((keysL s).take (j + 1)).foldl stepS ([], false, false) = stepS (o.data.toList, b, b2) (elt (keysL s) j) := by
        rw [take_int _ j hlt, List.foldl_append, hst]; rfl
      have hl := Lib.hid (lab_slice hm1 hm2)
      clear hst
      by_cases h13 : 12 < elt (keysL s) j
      · have hi := inB_hi (lo := 8) h13
        cases b
        · cases b2
          · have hf := Lib.hid (hstep.trans (by rw [stepS, if_pos ⟨h13, by simp; omega, rfl⟩]))
            have hd := Lib.hid (show (false || decide (8 ≤ elt (keysL s) j ∧ elt (keysL s) j ≤ 12)) = false by simp; omega)
            clear hstep
            go_wp2_with (go_at_call 77; refine (l1In_any _ _ _ _).mono ?_; rintro e w' ⟨rfl, rfl⟩)
            go_round
            case rel => exact ⟨j + 1, _, false, true, by omega, by go_num, rfl, rfl, rfl, by rw [bs_size] at hsz ⊢; rw [bs_append, bs_append, hl.out]; simp only [List.length_append, List.length_cons, List.length_nil]; omega, by rw [hf.out, bs_append, bs_append, hl.out, hd.out]⟩
            case measure => simp [intOf]; omega
          · have hf := Lib.hid (hstep.trans (by rw [stepS, if_neg (by simp)]))
            have hd := Lib.hid (show (false || decide (8 ≤ elt (keysL s) j ∧ elt (keysL s) j ≤ 12)) = false by simp; omega)
            clear hstep
            go_wp2_with (go_at_call 77; refine (l1In_any _ _ _ _).mono ?_; rintro e w' ⟨rfl, rfl⟩)
            go_round
            case rel => exact ⟨j + 1, _, false, true, by omega, by go_num, rfl, rfl, rfl, by rw [bs_size] at hsz ⊢; rw [bs_append, hl.out]; simp only [List.length_append, List.length_cons, List.length_nil]; omega, by rw [hf.out, bs_append, hl.out, hd.out]⟩
            case measure => simp [intOf]; omega
        · have hf := Lib.hid (hstep.trans (by rw [stepS, if_neg (by simp)]))
          clear hstep
          go_wp2_with (go_at_call 77; refine (l1In_any _ _ _ _).mono ?_; rintro e w' ⟨rfl, rfl⟩)
          go_round
          case rel => exact ⟨j + 1, _, true, b2, by omega, by go_num, rfl, rfl, rfl, by rw [bs_size] at hsz ⊢; rw [bs_append, hl.out]; simp only [List.length_append, List.length_cons, List.length_nil]; omega, by rw [hf.out, bs_append, hl.out]; rfl⟩
          case measure => simp [intOf]; omega
      · have hf := Lib.hid (hstep.trans (by rw [stepS, if_neg (by omega)]))
        clear hstep
        cases b
        · by_cases h8 : 8 ≤ elt (keysL s) j
          · have hi := inB_true h8 (show elt (keysL s) j ≤ 12 by omega)
            have hd := Lib.hid (show (false || decide (8 ≤ elt (keysL s) j ∧ elt (keysL s) j ≤ 12)) = true by simp; omega)
            go_wp2_with (go_at_call 77; refine (l1In_any _ _ _ _).mono ?_; rintro e w' ⟨rfl, rfl⟩)
            go_round
            case rel => exact ⟨j + 1, _, true, b2, by omega, by go_num, rfl, rfl, rfl, by rw [bs_size] at hsz ⊢; rw [bs_append, hl.out]; simp only [List.length_append, List.length_cons, List.length_nil]; omega, by rw [hf.out, bs_append, hl.out, hd.out]⟩
            case measure => simp [intOf]; omega
          · have hi := inB_lo (hi := 12) (show elt (keysL s) j < 8 by omega)
            have hd := Lib.hid (show (false || decide (8 ≤ elt (keysL s) j ∧ elt (keysL s) j ≤ 12)) = false by simp; omega)
            go_wp2_with (go_at_call 77; refine (l1In_any _ _ _ _).mono ?_; rintro e w' ⟨rfl, rfl⟩)
            go_round
            case rel => exact ⟨j + 1, _, false, b2, by omega, by go_num, rfl, rfl, rfl, by rw [bs_size] at hsz ⊢; rw [bs_append, hl.out]; simp only [List.length_append, List.length_cons, List.length_nil]; omega, by rw [hf.out, bs_append, hl.out, hd.out]⟩
            case measure => simp [intOf]; omega
        · go_wp2_with (go_at_call 77; refine (l1In_any _ _ _ _).mono ?_; rintro e w' ⟨rfl, rfl⟩)
          go_round
          case rel => exact ⟨j + 1, _, true, b2, by omega, by go_num, rfl, rfl, rfl, by rw [bs_size] at hsz ⊢; rw [bs_append, hl.out]; simp only [List.length_append, List.length_cons, List.length_nil]; omega, by rw [hf.out, bs_append, hl.out]; rfl⟩
          case measure => simp [intOf]; omega
    · obtain rfl : j = (keysL s).length := by omega
      rw [List.take_length] at hst
      have hf := Lib.hid (show o.data.toList = fmtL s by rw [fmtL, hst])
      clear hst
      go_wp2
      go_ret
      exact ⟨o, rfl, hf.out.trans hR.out.symm, hb⟩

theorem implFormat_any (s : Int) (w : World) :
    Calls Tryd.prog 69 #[.int .i64 s] w fun e w' => e = .returned (.tuple #[.string (bs (fmtR s)), .bool (goodB s)]) ∧ Below w.heap.size w w' :=
  (implFormat_o s w).mono fun _ _ ⟨_, he, ho, hb⟩ => ⟨by rw [he, bs_of ho], hb⟩
theorem l2Format_any (s : Int) (w : World) (g : goodB s = true) :
    Calls Tryd.prog 84 #[.int .i64 s] w fun e w' => e = .returned (.string (bs (fmtR s))) ∧ Below w.heap.size w w' :=
  (l2Format_o s w g).mono fun _ _ ⟨_, he, ho, hb⟩ => ⟨by rw [he, bs_of ho], hb⟩

end Go.Proofs.YtnpiljkchjdpfaaDoor
