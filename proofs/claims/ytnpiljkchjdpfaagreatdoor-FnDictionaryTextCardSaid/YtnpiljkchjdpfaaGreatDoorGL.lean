/- Contracts of the relaxed notation's parser. Condition: the text has a string's length. | Contracts of FormatStroke. No condition. | Contracts of ParseStroke and ParseLooseStroke. Condition: the text has a string's length. -/
import Derived.Test.YtnpiljkchjdpfaaGreatDoorKeys
import Derived.Test.YtnpiljkchjdpfaaGreatDoorPlain
import Derived.Deep.QuietTactic
import Derived.BigQuiet
namespace Go.Proofs.YtnpiljkchjdpfaaGreatDoor
open Go.RowKit

set_option maxHeartbeats 1000000 in
theorem implLoose_q (t : ByteArray) (w : World) (hm : t.size ≤ maxLen) :
    Calls Tryz.prog 84 #[.string t] w fun e w' => e = .returned (.tuple #[.int .i64 (looseVal t.data.toList), .bool (looseOk t.data.toList)]) ∧ ∃ m, w' = w.drewN m := by
  unfold maxLen at hm
  go_enter Tryz.func84, Tryz.ntmps84
  go_wp2
  go_loopw [4, 5, 6, 10] (fun s x d i wr => ∃ j st n : Nat, ∃ b : Bool, j ≤ t.size ∧ i = .int .i64 j ∧ s = .int .i64 st ∧ x = .int .i64 n ∧ d = .bool b ∧ looseL (t.data.toList.take j) = some (st, n, b) ∧ ∃ m, wr = w.drewN m) (fun _ _ _ i _ => t.size - (intOf i).toNat)
  case atStart => exact ⟨0, 0, 0, false, by omega, rfl, rfl, rfl, rfl, rfl, 0, rfl⟩
  case round =>
    obtain ⟨j, st, n, b, hj, rfl, rfl, rfl, rfl, hst, m, rfl⟩ := hrel
    obtain ⟨hn, hbd⟩ := loose_inv _ hst
    have hbd' : st < 8388608 := Nat.lt_of_lt_of_le hbd (by have : (2 : Nat) ^ n ≤ 2 ^ 23 := Nat.pow_le_pow_right (by omega) hn; omega)
    clear hbd
    by_cases hlt : j < t.size
    · have hstep : looseL (t.data.toList.take (j + 1)) = looseStep (some (st, n, b)) t[j] := by rw [take_snoc t j hlt, looseL_snoc, hst]
      clear hst
      by_cases h45 : t[j] = 45
      · have e45 : ((t[j].toNat : Int) == 45) = true := byte_eq (n := 45) (by omega) h45
        by_cases hb : b = true
        · subst hb
          have hf := Lib.hid (loose_fail (hstep.trans (by rw [looseStep, if_pos h45, if_pos (Or.inl rfl)])))
          clear hstep h45
          go_wp2
          go_ret2
          exact ⟨ret_int_bool hf.out.1.symm hf.out.2.symm, m, rfl⟩
        · have hb' : b = false := by simpa using hb
          subst hb'
          by_cases h13 : 13 < n
          · have hf := Lib.hid (loose_fail (hstep.trans (by rw [looseStep, if_pos h45, if_pos (Or.inr h13)])))
            clear hstep h45
            go_wp2
            go_ret2
            exact ⟨ret_int_bool hf.out.1.symm hf.out.2.symm, m, rfl⟩
          · have hf := Lib.hid (hstep.trans (by rw [looseStep, if_pos h45, if_neg (by simp; omega)]))
            clear hstep h45
            go_wp2
            go_roundw
            case rel => exact ⟨j + 1, st, 13, true, by omega, by go_num, rfl, rfl, rfl, hf.out, m, rfl⟩
            case measure => simp [intOf]; omega
      · have e45 : ((t[j].toNat : Int) == 45) = false := byte_ne (n := 45) (by omega) h45
        have hs2 := Lib.hid (hstep.trans (by rw [looseStep, if_neg h45]))
        clear hstep h45
        go_wp2
        go_loopw [5] (fun x wr => ∃ k : Nat, n ≤ k ∧ k ≤ 23 ∧ x = .int .i64 k ∧ Hid (findK t[j] (23 - n) n = findK t[j] (23 - k) k) ∧ ∃ m, wr = w.drewN m) (fun x _ => 23 - (intOf x).toNat)
        case atStart => exact ⟨n, by omega, hn, rfl, rfl, m, rfl⟩
        case round =>
          obtain ⟨k, hk1, hk2, rfl, hfd, m', rfl⟩ := hrel
          by_cases hk : k < 23
          · have hk' : (k : Int) < 23 := by omega
            go_wp2
            go_quiet (fail)
            go_wp2
            · have hl := lab_ne hk (b := t[j]) (by assumption)
              go_roundw
              case rel => exact ⟨k + 1, by omega, by omega, by go_num, hfd.out.trans (findK_miss hk hl), _, rfl⟩
              case measure => simp [intOf]; omega
            · have hl := lab_eq hk (b := t[j]) (by assumption)
              have e := hfd.out.trans (findK_hit hk hl)
              go_roundw
              case rel => exact ⟨j + 1, st ||| 2 ^ k, k + 1, b, by omega, by go_num, by rw [or_bit st k (by omega) (by omega)], by go_num, rfl, by rw [hs2.out, e, if_pos hk], _, rfl⟩
              case measure => simp [intOf]; omega
          · obtain rfl : k = 23 := by omega
            have hf := Lib.hid (loose_fail (hs2.out.trans (by rw [hfd.out, findK, if_neg (by omega)])))
            clear hs2 hfd
            go_wp2
            go_quiet (fail)
            go_wp2
            go_ret2
            exact ⟨ret_int_bool hf.out.1.symm hf.out.2.symm, _, rfl⟩
    · obtain rfl : j = t.size := by omega
      rw [List.take_of_length_le (by simp)] at hst
      have hv := Lib.hid (show looseVal t.data.toList = st ∧ looseOk t.data.toList = ((st : Int) != 0) by simp [looseOk, looseVal, hst])
      clear hst
      go_wp2
      go_ret2
      exact ⟨ret_int_bool hv.out.1.symm hv.out.2.symm, m, rfl⟩

set_option maxHeartbeats 1000000 in
theorem l2Loose_q (t : ByteArray) (w : World) (hm : t.size ≤ maxLen) :
    Calls Tryz.prog 53 #[.string t] w fun e w' => e = .returned (.tuple #[.int .i64 (looseVal t.data.toList), .bool (looseOk t.data.toList)]) ∧ ∃ m, w' = w.drewN m := by
  unfold maxLen at hm
  go_enter Tryz.func53, Tryz.ntmps53
  go_wp2
  go_loopw [4, 5, 6, 7] (fun s x d i wr => ∃ j st n : Nat, ∃ b : Bool, j ≤ t.size ∧ i = .int .i64 j ∧ s = .int .i64 st ∧ x = .int .i64 n ∧ d = .bool b ∧ looseL (t.data.toList.take j) = some (st, n, b) ∧ ∃ m, wr = w.drewN m) (fun _ _ _ i _ => t.size - (intOf i).toNat)
  case atStart => exact ⟨0, 0, 0, false, by omega, rfl, rfl, rfl, rfl, rfl, 0, rfl⟩
  case round =>
    obtain ⟨j, st, n, b, hj, rfl, rfl, rfl, rfl, hst, m, rfl⟩ := hrel
    obtain ⟨hn, hbd⟩ := loose_inv _ hst
    have hbd' : st < 8388608 := Nat.lt_of_lt_of_le hbd (by have : (2 : Nat) ^ n ≤ 2 ^ 23 := Nat.pow_le_pow_right (by omega) hn; omega)
    clear hbd
    by_cases hlt : j < t.size
    · have hstep : looseL (t.data.toList.take (j + 1)) = looseStep (some (st, n, b)) t[j] := by rw [take_snoc t j hlt, looseL_snoc, hst]
      clear hst
      by_cases h45 : t[j] = 45
      · have e45 : ((t[j].toNat : Int) == 45) = true := byte_eq (n := 45) (by omega) h45
        by_cases hb : b = true
        · subst hb
          have hf := Lib.hid (loose_fail (hstep.trans (by rw [looseStep, if_pos h45, if_pos (Or.inl rfl)])))
          clear hstep h45
          go_wp2
          go_ret2
          exact ⟨ret_int_bool hf.out.1.symm hf.out.2.symm, m, rfl⟩
        · have hb' : b = false := by simpa using hb
          subst hb'
          by_cases h13 : 13 < n
          · have hf := Lib.hid (loose_fail (hstep.trans (by rw [looseStep, if_pos h45, if_pos (Or.inr h13)])))
            clear hstep h45
            go_wp2
            go_ret2
            exact ⟨ret_int_bool hf.out.1.symm hf.out.2.symm, m, rfl⟩
          · have hf := Lib.hid (hstep.trans (by rw [looseStep, if_pos h45, if_neg (by simp; omega)]))
            clear hstep h45
            go_wp2
            go_roundw
            case rel => exact ⟨j + 1, st, 13, true, by omega, by go_num, rfl, rfl, rfl, hf.out, m, rfl⟩
            case measure => simp [intOf]; omega
      · have e45 : ((t[j].toNat : Int) == 45) = false := byte_ne (n := 45) (by omega) h45
        have hs2 := Lib.hid (hstep.trans (by rw [looseStep, if_neg h45]))
        clear hstep h45
        go_wp2
        go_loopw [8] (fun x wr => ∃ k : Nat, n ≤ k ∧ k ≤ 23 ∧ x = .int .i64 k ∧ Hid (findK t[j] (23 - n) n = findK t[j] (23 - k) k) ∧ ∃ m, wr = w.drewN m) (fun x _ => 23 - (intOf x).toNat)
        case atStart => exact ⟨n, by omega, hn, rfl, rfl, m, rfl⟩
        case round =>
          obtain ⟨k, hk1, hk2, rfl, hfd, m', rfl⟩ := hrel
          by_cases hk : k < 23
          · have hk' : (k : Int) < 23 := by omega
            go_wp2
            go_quiet (fail)
            go_wp2
            · have hl := lab_ne hk (b := t[j]) (by assumption)
              go_roundw
              case rel => exact ⟨k + 1, by omega, by omega, by go_num, hfd.out.trans (findK_miss hk hl), _, rfl⟩
              case measure => simp [intOf]; omega
            · have hl := lab_eq hk (b := t[j]) (by assumption)
              have e := hfd.out.trans (findK_hit hk hl)
              go_roundw
              case rel => exact ⟨j + 1, st ||| 2 ^ k, k + 1, b, by omega, by go_num, by rw [or_bit st k (by omega) (by omega)], by go_num, rfl, by rw [hs2.out, e, if_pos hk], _, rfl⟩
              case measure => simp [intOf]; omega
          · obtain rfl : k = 23 := by omega
            have hf := Lib.hid (loose_fail (hs2.out.trans (by rw [hfd.out, findK, if_neg (by omega)])))
            clear hs2 hfd
            go_wp2
            go_quiet (fail)
            go_wp2
            go_ret2
            exact ⟨ret_int_bool hf.out.1.symm hf.out.2.symm, _, rfl⟩
    · obtain rfl : j = t.size := by omega
      rw [List.take_of_length_le (by simp)] at hst
      have hv := Lib.hid (show looseVal t.data.toList = st ∧ looseOk t.data.toList = ((st : Int) != 0) by simp [looseOk, looseVal, hst])
      clear hst
      go_wp2
      go_ret2
      exact ⟨ret_int_bool hv.out.1.symm hv.out.2.symm, m, rfl⟩

theorem implLoose_any (t : ByteArray) (w : World) (hm : t.size ≤ maxLen) :
    Calls Tryz.prog 84 #[.string t] w fun e w' => e = .returned (.tuple #[.int .i64 (looseVal t.data.toList), .bool (looseOk t.data.toList)]) ∧ Below w.heap.size w w' :=
  (implLoose_q t w hm).mono fun _ _ ⟨he, m, hw⟩ => ⟨he, by rw [hw]; exact below_drewN (Below.refl _ _) m⟩
theorem l2Loose_any (t : ByteArray) (w : World) (hm : t.size ≤ maxLen) :
    Calls Tryz.prog 53 #[.string t] w fun e w' => e = .returned (.tuple #[.int .i64 (looseVal t.data.toList), .bool (looseOk t.data.toList)]) ∧ Below w.heap.size w w' :=
  (l2Loose_q t w hm).mono fun _ _ ⟨he, m, hw⟩ => ⟨he, by rw [hw]; exact below_drewN (Below.refl _ _) m⟩
end Go.Proofs.YtnpiljkchjdpfaaGreatDoor

namespace Go.Proofs.YtnpiljkchjdpfaaGreatDoor
open Go.RowKit

theorem ret_sb {o : ByteArray} {x y : Bool} (g : y = x) : Ending.returned (.tuple #[.string o, .bool x]) = .returned (.tuple #[.string o, .bool y]) := by rw [g]
/-- The notation, or nothing. -/
def fmtR (s : Int) : List UInt8 := if goodB s then fmtL s else []
theorem fmtR_len (s : Int) : (fmtR s).length ≤ 46 := by
  unfold fmtR
  split
  · exact fmtL_len s
  · simp

set_option maxHeartbeats 1000000 in
theorem implFormat_o (s : Int) (w : World) :
    Calls Tryz.prog 48 #[.int .i64 s] w fun e w' => ∃ o : ByteArray, e = .returned (.tuple #[.string o, .bool (goodB s)]) ∧ o.data.toList = fmtR s ∧ Below w.heap.size w w' := by
  rcases Bool.eq_false_or_eq_true (goodB s) with g | g
  · obtain ⟨g1, g2⟩ := good_bd g
    have hR := Lib.hid (show fmtR s = fmtL s by rw [fmtR, if_pos g])
    have hk := keysL_len s
    have hmid := mid_bits (s := s) (by omega) g2
    go_enter Tryz.func48, Tryz.ntmps48
    go_wp2_with (first | (go_at_call 63; refine (implIsValidStroke_any _ _).mono ?_; rintro e w' ⟨rfl, rfl⟩) | (go_at_call 68; refine (implKeysOf_any s _ (by omega) g2).mono ?_; rintro e w1 ⟨A, c, rfl, ho, hb⟩))
    have hr := Row.of_own ho
    go_loop [4, 5, 18] (fun out m i => ∃ j : Nat, ∃ o : ByteArray, ∃ b : Bool, j ≤ (keysL s).length ∧ i = .int .i64 j ∧ out = .string o ∧ m = .bool b ∧ o.size ≤ 2 * j ∧ ((keysL s).take j).foldl stepI ([], midL (keysL s)) = (o.data.toList, b)) (fun _ _ i => (keysL s).length - (intOf i).toNat)
    case atStart => exact ⟨0, _, _, by omega, rfl, rfl, rfl, Nat.le_refl 0, rfl⟩
    case round =>
      obtain ⟨j, o, b, hj, rfl, rfl, rfl, hsz, hst⟩ := hrel
      by_cases hlt : j < (keysL s).length
      · obtain ⟨b', off, rfl, hb', hc⟩ := hr.int (k := j) hlt
        obtain ⟨hm1, hm2⟩ : 0 ≤ elt (keysL s) j ∧ elt (keysL s) j ≤ 22 := keysL_mem (elt_mem _ j hlt)
        have hstep : ((keysL s).take (j + 1)).foldl stepI ([], midL (keysL s)) = stepI (o.data.toList, b) (elt (keysL s) j) := by
          rw [take_int _ j hlt, List.foldl_append, hst]; rfl
        have hl := Lib.hid (lab_slice hm1 hm2)
        clear hst
        by_cases h13 : 13 ≤ elt (keysL s) j
        · cases b
          · have hf := Lib.hid (hstep.trans (by rw [stepI, if_pos ⟨h13, rfl⟩]))
            clear hstep
            go_wp2
            go_round
            case rel => exact ⟨j + 1, _, true, by omega, by go_num, rfl, rfl, by rw [bs_size] at hsz ⊢; rw [bs_append, bs_append, hl.out]; simp only [List.length_append, List.length_cons, List.length_nil]; omega, by rw [hf.out, bs_append, bs_append, hl.out]⟩
            case measure => simp [intOf]; omega
          · have hf := Lib.hid (hstep.trans (by rw [stepI, if_neg (by simp)]))
            clear hstep
            go_wp2
            go_round
            case rel => exact ⟨j + 1, _, true, by omega, by go_num, rfl, rfl, by rw [bs_size] at hsz ⊢; rw [bs_append, hl.out]; simp only [List.length_append, List.length_cons, List.length_nil]; omega, by rw [hf.out, bs_append, hl.out]⟩
            case measure => simp [intOf]; omega
        · have hf := Lib.hid (hstep.trans (by rw [stepI, if_neg (by omega)]))
          clear hstep
          go_wp2
          go_round
          case rel => exact ⟨j + 1, _, b, by omega, by go_num, rfl, rfl, by rw [bs_size] at hsz ⊢; rw [bs_append, hl.out]; simp only [List.length_append, List.length_cons, List.length_nil]; omega, by rw [hf.out, bs_append, hl.out]⟩
          case measure => simp [intOf]; omega
      · obtain rfl : j = (keysL s).length := by omega
        rw [List.take_length] at hst
        have hf := Lib.hid (show o.data.toList = fmtL s by rw [← fmt_meet, hst])
        clear hst
        go_wp2
        go_ret2
        exact ⟨o, rfl, hf.out.trans hR.out.symm, hb⟩
  · have hR := Lib.hid (show fmtR s = [] by rw [fmtR, g]; rfl)
    go_enter Tryz.func48, Tryz.ntmps48
    go_wp2_with (go_at_call 63; refine (implIsValidStroke_any _ _).mono ?_; rintro e w' ⟨rfl, rfl⟩)
    go_ret2
    exact ⟨⟨#[]⟩, ret_sb g, hR.out.symm, Below.refl _ _⟩

set_option maxHeartbeats 1000000 in
theorem l2Format_o (s : Int) (w : World) (g : goodB s = true) :
    Calls Tryz.prog 54 #[.int .i64 s] w fun e w' => ∃ o : ByteArray, e = .returned (.string o) ∧ o.data.toList = fmtR s ∧ Below w.heap.size w w' := by
  obtain ⟨g1, g2⟩ := good_bd g
  have hR := Lib.hid (show fmtR s = fmtL s by rw [fmtR, if_pos g])
  have hk := keysL_len s
  clear g
  go_enter Tryz.func54, Tryz.ntmps54
  go_wp2_with (go_at_call 76; refine (l2Keys_any s _ (by omega) g2).mono ?_; rintro e w1 ⟨A, c, rfl, ho, hb⟩)
  have hr := Row.of_own ho
  go_loop [3, 5, 6, 7] (fun out m h i => ∃ j : Nat, ∃ o : ByteArray, ∃ b b2 : Bool, j ≤ (keysL s).length ∧ i = .int .i64 j ∧ out = .string o ∧ m = .bool b ∧ h = .bool b2 ∧ o.size ≤ 2 * j ∧ ((keysL s).take j).foldl stepS ([], false, false) = (o.data.toList, b, b2)) (fun _ _ _ i => (keysL s).length - (intOf i).toNat)
  case atStart => exact ⟨0, _, _, _, by omega, rfl, rfl, rfl, rfl, Nat.le_refl 0, rfl⟩
  case round =>
    obtain ⟨j, o, b, b2, hj, rfl, rfl, rfl, rfl, hsz, hst⟩ := hrel
    by_cases hlt : j < (keysL s).length
    · obtain ⟨b', off, rfl, hb', hc⟩ := hr.int (k := j) hlt
      obtain ⟨hm1, hm2⟩ : 0 ≤ elt (keysL s) j ∧ elt (keysL s) j ≤ 22 := keysL_mem (elt_mem _ j hlt)
      have hstep : ((keysL s).take (j + 1)).foldl stepS ([], false, false) = stepS (o.data.toList, b, b2) (elt (keysL s) j) := by
        rw [take_int _ j hlt, List.foldl_append, hst]; rfl
      have hl := Lib.hid (lab_slice hm1 hm2)
      clear hst
      by_cases h13 : 12 < elt (keysL s) j
      · have hi := inB_hi (lo := 8) h13
        cases b
        · cases b2
          · have hf := Lib.hid (hstep.trans (by rw [stepS, if_pos ⟨h13, by simp; omega, rfl⟩]))
            have hd := Lib.hid (show (false || decide (8 ≤ elt (keysL s) j ∧ elt (keysL s) j ≤ 12)) = false by simp; omega)
            clear hstep
            go_wp2_with (go_at_call 55; refine (l1In_any _ _ _ _).mono ?_; rintro e w' ⟨rfl, rfl⟩)
            go_round
            case rel => exact ⟨j + 1, _, false, true, by omega, by go_num, rfl, rfl, rfl, by rw [bs_size] at hsz ⊢; rw [bs_append, bs_append, hl.out]; simp only [List.length_append, List.length_cons, List.length_nil]; omega, by rw [hf.out, bs_append, bs_append, hl.out, hd.out]⟩
            case measure => simp [intOf]; omega
          · have hf := Lib.hid (hstep.trans (by rw [stepS, if_neg (by simp)]))
            have hd := Lib.hid (show (false || decide (8 ≤ elt (keysL s) j ∧ elt (keysL s) j ≤ 12)) = false by simp; omega)
            clear hstep
            go_wp2_with (go_at_call 55; refine (l1In_any _ _ _ _).mono ?_; rintro e w' ⟨rfl, rfl⟩)
            go_round
            case rel => exact ⟨j + 1, _, false, true, by omega, by go_num, rfl, rfl, rfl, by rw [bs_size] at hsz ⊢; rw [bs_append, hl.out]; simp only [List.length_append, List.length_cons, List.length_nil]; omega, by rw [hf.out, bs_append, hl.out, hd.out]⟩
            case measure => simp [intOf]; omega
        · have hf := Lib.hid (hstep.trans (by rw [stepS, if_neg (by simp)]))
          clear hstep
          go_wp2_with (go_at_call 55; refine (l1In_any _ _ _ _).mono ?_; rintro e w' ⟨rfl, rfl⟩)
          go_round
          case rel => exact ⟨j + 1, _, true, b2, by omega, by go_num, rfl, rfl, rfl, by rw [bs_size] at hsz ⊢; rw [bs_append, hl.out]; simp only [List.length_append, List.length_cons, List.length_nil]; omega, by rw [hf.out, bs_append, hl.out]; rfl⟩
          case measure => simp [intOf]; omega
      · have hf := Lib.hid (hstep.trans (by rw [stepS, if_neg (by omega)]))
        clear hstep
        cases b
        · by_cases h8 : 8 ≤ elt (keysL s) j
          · have hi := inB_true h8 (show elt (keysL s) j ≤ 12 by omega)
            have hd := Lib.hid (show (false || decide (8 ≤ elt (keysL s) j ∧ elt (keysL s) j ≤ 12)) = true by simp; omega)
            go_wp2_with (go_at_call 55; refine (l1In_any _ _ _ _).mono ?_; rintro e w' ⟨rfl, rfl⟩)
            go_round
            case rel => exact ⟨j + 1, _, true, b2, by omega, by go_num, rfl, rfl, rfl, by rw [bs_size] at hsz ⊢; rw [bs_append, hl.out]; simp only [List.length_append, List.length_cons, List.length_nil]; omega, by rw [hf.out, bs_append, hl.out, hd.out]⟩
            case measure => simp [intOf]; omega
          · have hi := inB_lo (hi := 12) (show elt (keysL s) j < 8 by omega)
            have hd := Lib.hid (show (false || decide (8 ≤ elt (keysL s) j ∧ elt (keysL s) j ≤ 12)) = false by simp; omega)
            go_wp2_with (go_at_call 55; refine (l1In_any _ _ _ _).mono ?_; rintro e w' ⟨rfl, rfl⟩)
            go_round
            case rel => exact ⟨j + 1, _, false, b2, by omega, by go_num, rfl, rfl, rfl, by rw [bs_size] at hsz ⊢; rw [bs_append, hl.out]; simp only [List.length_append, List.length_cons, List.length_nil]; omega, by rw [hf.out, bs_append, hl.out, hd.out]⟩
            case measure => simp [intOf]; omega
        · go_wp2_with (go_at_call 55; refine (l1In_any _ _ _ _).mono ?_; rintro e w' ⟨rfl, rfl⟩)
          go_round
          case rel => exact ⟨j + 1, _, true, b2, by omega, by go_num, rfl, rfl, rfl, by rw [bs_size] at hsz ⊢; rw [bs_append, hl.out]; simp only [List.length_append, List.length_cons, List.length_nil]; omega, by rw [hf.out, bs_append, hl.out]; rfl⟩
          case measure => simp [intOf]; omega
    · obtain rfl : j = (keysL s).length := by omega
      rw [List.take_length] at hst
      have hf := Lib.hid (show o.data.toList = fmtL s by rw [fmtL, hst])
      clear hst
      go_wp2
      go_ret
      exact ⟨o, rfl, hf.out.trans hR.out.symm, hb⟩

theorem implFormat_any (s : Int) (w : World) :
    Calls Tryz.prog 48 #[.int .i64 s] w fun e w' => e = .returned (.tuple #[.string (bs (fmtR s)), .bool (goodB s)]) ∧ Below w.heap.size w w' :=
  (implFormat_o s w).mono fun _ _ ⟨_, he, ho, hb⟩ => ⟨by rw [he, bs_of ho], hb⟩
theorem l2Format_any (s : Int) (w : World) (g : goodB s = true) :
    Calls Tryz.prog 54 #[.int .i64 s] w fun e w' => e = .returned (.string (bs (fmtR s))) ∧ Below w.heap.size w w' :=
  (l2Format_o s w g).mono fun _ _ ⟨_, he, ho, hb⟩ => ⟨by rw [he, bs_of ho], hb⟩

end Go.Proofs.YtnpiljkchjdpfaaGreatDoor

namespace Go.Proofs.YtnpiljkchjdpfaaGreatDoor
open Go.RowKit

/-- What ParseStroke returns. -/
def strictOk (t : List UInt8) : Bool := looseOk t && (fmtR (looseVal t) == t)
def strictVal (t : List UInt8) : Int := if strictOk t then looseVal t else 0
theorem good_loose (t : List UInt8) : goodB (looseVal t) = looseOk t := by
  have := looseVal_bd t
  unfold looseOk
  by_cases h : looseVal t = 0
  · rw [h]; rfl
  · rw [goodB, inB_true (by omega) (by omega)]
    simp [h]

theorem strict_yes {t : List UInt8} (g : goodB (looseVal t) = true) (h : (fmtR (looseVal t) == t) = true) : strictOk t = true ∧ strictVal t = looseVal t := by
  have e : strictOk t = true := by rw [strictOk, ← good_loose, g, h]; rfl
  exact ⟨e, by rw [strictVal, if_pos e]⟩
theorem strict_no {t : List UInt8} (h : goodB (looseVal t) = false ∨ (fmtR (looseVal t) == t) = false) : strictOk t = false ∧ strictVal t = 0 := by
  have e : strictOk t = false := by
    rw [strictOk, ← good_loose]
    rcases h with h | h <;> rw [h] <;> simp
  exact ⟨e, by rw [strictVal, e]; rfl⟩

theorem implParse_any (t : ByteArray) (w : World) (hm : t.size ≤ maxLen) :
    Calls Tryz.prog 60 #[.string t] w fun e w' => e = .returned (.tuple #[.int .i64 (strictVal t.data.toList), .bool (strictOk t.data.toList)]) ∧ Below w.heap.size w w' := by
  have hbe := bs_beq (fmtR (looseVal t.data.toList)) t
  rcases Bool.eq_false_or_eq_true (goodB (looseVal t.data.toList)) with g | g
  · rcases Bool.eq_false_or_eq_true (fmtR (looseVal t.data.toList) == t.data.toList) with h | h
    · have hs := Lib.hid (strict_yes g h)
      rw [h] at hbe
      clear h
      go_enter Tryz.func60, Tryz.ntmps60
      go_wp2_with fail
      refine (implLoose_any t w hm).mono ?_
      rintro e w1 ⟨rfl, hb1⟩
      go_wp2_with fail
      refine (implFormat_any _ _).mono ?_
      rintro e w2 ⟨rfl, hb2⟩
      go_wp2
      go_ret2
      exact ⟨ret_int_bool hs.out.2.symm hs.out.1.symm, hb1.trans (hb2.mono hb1.size)⟩
    · have hs := Lib.hid (strict_no (Or.inr h))
      rw [h] at hbe
      clear h
      go_enter Tryz.func60, Tryz.ntmps60
      go_wp2_with fail
      refine (implLoose_any t w hm).mono ?_
      rintro e w1 ⟨rfl, hb1⟩
      go_wp2_with fail
      refine (implFormat_any _ _).mono ?_
      rintro e w2 ⟨rfl, hb2⟩
      go_wp2
      go_ret2
      exact ⟨ret_int_bool hs.out.2.symm hs.out.1.symm, hb1.trans (hb2.mono hb1.size)⟩
  · have hs := Lib.hid (strict_no (Or.inl g))
    clear hbe
    go_enter Tryz.func60, Tryz.ntmps60
    go_wp2_with fail
    refine (implLoose_any t w hm).mono ?_
    rintro e w1 ⟨rfl, hb1⟩
    go_wp2_with fail
    refine (implFormat_any _ _).mono ?_
    rintro e w2 ⟨rfl, hb2⟩
    go_wp2
    go_ret2
    exact ⟨ret_int_bool hs.out.2.symm hs.out.1.symm, hb1.trans (hb2.mono hb1.size)⟩

theorem specParse_any (t : ByteArray) (w : World) (hm : t.size ≤ maxLen) :
    Calls Tryz.prog 33 #[.string t] w fun e w' => e = .returned (.tuple #[.int .i64 (strictVal t.data.toList), .bool (strictOk t.data.toList)]) ∧ Below w.heap.size w w' := by
  have hbe := bs_beq (fmtR (looseVal t.data.toList)) t
  rcases Bool.eq_false_or_eq_true (goodB (looseVal t.data.toList)) with g | g
  · have g' := (good_loose t.data.toList).symm.trans g
    have G := Lib.hid g
    rcases Bool.eq_false_or_eq_true (fmtR (looseVal t.data.toList) == t.data.toList) with h | h
    · have hs := Lib.hid (strict_yes g h)
      rw [h] at hbe
      clear h g
      go_enter Tryz.func33, Tryz.ntmps33
      go_wp2_with fail
      refine (l2Loose_any t w hm).mono ?_
      rintro e w1 ⟨rfl, hb1⟩
      go_wp2_with fail
      refine (l2Format_any _ _ G.out).mono ?_
      rintro e w2 ⟨rfl, hb2⟩
      go_wp2
      go_ret2
      exact ⟨ret_int_bool hs.out.2.symm hs.out.1.symm, hb1.trans (hb2.mono hb1.size)⟩
    · have hs := Lib.hid (strict_no (Or.inr h))
      rw [h] at hbe
      clear h g
      go_enter Tryz.func33, Tryz.ntmps33
      go_wp2_with fail
      refine (l2Loose_any t w hm).mono ?_
      rintro e w1 ⟨rfl, hb1⟩
      go_wp2_with fail
      refine (l2Format_any _ _ G.out).mono ?_
      rintro e w2 ⟨rfl, hb2⟩
      go_wp2
      go_ret2
      exact ⟨ret_int_bool hs.out.2.symm hs.out.1.symm, hb1.trans (hb2.mono hb1.size)⟩
  · have g' := (good_loose t.data.toList).symm.trans g
    have hs := Lib.hid (strict_no (Or.inl g))
    clear hbe g
    go_enter Tryz.func33, Tryz.ntmps33
    go_wp2_with fail
    refine (l2Loose_any t w hm).mono ?_
    rintro e w1 ⟨rfl, hb1⟩
    go_wp2
    go_ret2
    exact ⟨ret_int_bool hs.out.2.symm hs.out.1.symm, hb1⟩

end Go.Proofs.YtnpiljkchjdpfaaGreatDoor
