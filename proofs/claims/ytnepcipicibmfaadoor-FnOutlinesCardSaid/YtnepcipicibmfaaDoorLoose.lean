/- Contracts of the relaxed notation's parser. Condition: the text has a string's length. -/
import Derived.Test.YtnepcipicibmfaaDoorKeys
import Derived.Test.YtnepcipicibmfaaDoorPlain
import Derived.Deep.QuietTactic
import Derived.BigQuiet
namespace Go.Proofs.YtnepcipicibmfaaDoor
open Go.RowKit

set_option maxHeartbeats 1000000 in
theorem implLoose_q (t : ByteArray) (w : World) (hm : t.size ≤ maxLen) :
    Calls Tryd.prog 54 #[.string t] w fun e w' => e = .returned (.tuple #[.int .i64 (looseVal t.data.toList), .bool (looseOk t.data.toList)]) ∧ ∃ m, w' = w.drewN m := by
  unfold maxLen at hm
  go_enter Tryd.func54, Tryd.ntmps54
  go_wp2
  go_loopw [4, 5, 6, 10] (fun s x d i wr => ∃ j st n : Nat, ∃ b : Bool, j ≤ t.size ∧ i = .int .i64 j ∧ s = .int .i64 st ∧ x = .int .i64 n ∧ d = .bool b ∧ looseL (t.data.toList.take j) = some (st, n, b) ∧ ∃ m, wr = w.drewN m) (fun _ _ _ i _ => t.size - (intOf i).toNat)
  case atStart => exact ⟨0, 0, 0, false, by omega, rfl, rfl, rfl, rfl, rfl, 0, rfl⟩
  case round =>
    obtain ⟨j, st, n, b, hj, rfl, rfl, rfl, rfl, hst, m, rfl⟩ := hrel
    obtain ⟨hn, hbd⟩ := loose_inv _ hst
    have hbd' : st < 8388608 := Nat.lt_of_lt_of_le hbd (by have : (2 : Nat) ^ n ≤ 2 ^ 23 := Nat.pow_le_pow_right (by omega) hn; omega)
    clear hbd
    by_cases hlt : j < t.size
    · have hstep : looseL (t.data.toList.take (j + 1)) = looseStep (some (st, n, b)) t[j] := by rw [take_snoc t j hlt, looseL_snoc, hst]
      clear hst
      by_cases h45 : t[j] = 45
      · have e45 : ((t[j].toNat : Int) == 45) = true := byte_eq (n := 45) (by omega) h45
        by_cases hb : b = true
        · subst hb
          have hf := Lib.hid (loose_fail (hstep.trans (by rw [looseStep, if_pos h45, if_pos (Or.inl rfl)])))
          clear hstep h45
          go_wp2
          go_ret2
          exact ⟨ret_int_bool hf.out.1.symm hf.out.2.symm, m, rfl⟩
        · have hb' : b = false := by simpa using hb
          subst hb'
          by_cases h13 : 13 < n
          · have hf := Lib.hid (loose_fail (hstep.trans (by rw [looseStep, if_pos h45, if_pos (Or.inr h13)])))
            clear hstep h45
            go_wp2
            go_ret2
            exact ⟨ret_int_bool hf.out.1.symm hf.out.2.symm, m, rfl⟩
          · have hf := Lib.hid (hstep.trans (by rw [looseStep, if_pos h45, if_neg (by simp; omega)]))
            clear hstep h45
            go_wp2
            go_roundw
            case rel => exact ⟨j + 1, st, 13, true, by omega, by go_num, rfl, rfl, rfl, hf.out, m, rfl⟩
            case measure => simp [intOf]; omega
      · have e45 : ((t[j].toNat : Int) == 45) = false := byte_ne (n := 45) (by omega) h45
        have hs2 := Lib.hid (hstep.trans (by rw [looseStep, if_neg h45]))
        clear hstep h45
        go_wp2
        go_loopw [5] (fun x wr => ∃ k : Nat, n ≤ k ∧ k ≤ 23 ∧ x = .int .i64 k ∧ Hid (findK t[j] (23 - n) n = findK t[j] (23 - k) k) ∧ ∃ m, wr = w.drewN m) (fun x _ => 23 - (intOf x).toNat)
        case atStart => exact ⟨n, by omega, hn, rfl, rfl, m, rfl⟩
        case round =>
          obtain ⟨k, hk1, hk2, rfl, hfd, m', rfl⟩ := hrel
          by_cases hk : k < 23
          · have hk' : (k : Int) < 23 := by omega
            go_wp2
            go_quiet (fail)
            go_wp2
            · have hl := lab_ne hk (b := t[j]) (by assumption)
              go_roundw
              case rel => exact ⟨k + 1, by omega, by omega, by go_num, hfd.out.trans (findK_miss hk hl), _, rfl⟩
              case measure => simp [intOf]; omega
            · have hl := lab_eq hk (b := t[j]) (by assumption)
              have e := hfd.out.trans (findK_hit hk hl)
              go_roundw
              case rel => exact ⟨j + 1, st ||| 2 ^ k, k + 1, b, by omega, by go_num, by rw [or_bit st k (by omega) (by omega)], by go_num, rfl, by rw [hs2.out, e, if_pos hk], _, rfl⟩
              case measure => simp [intOf]; omega
          · obtain rfl : k = 23 := by omega
            have hf := Lib.hid (loose_fail (hs2.out.trans (by rw [hfd.out, findK, if_neg (by omega)])))
            clear hs2 hfd
            go_wp2
            go_quiet (fail)
            go_wp2
            go_ret2
            exact ⟨ret_int_bool hf.out.1.symm hf.out.2.symm, _, rfl⟩
    · obtain rfl : j = t.size := by omega
      rw [List.take_of_length_le (by simp)] at hst
      have hv := Lib.hid (show looseVal t.data.toList = st ∧ looseOk t.data.toList = ((st : Int) != 0) by simp [looseOk, looseVal, hst])
      clear hst
      go_wp2
      go_ret2
      exact ⟨ret_int_bool hv.out.1.symm hv.out.2.symm, m, rfl⟩

set_option maxHeartbeats 1000000 in
theorem l2Loose_q (t : ByteArray) (w : World) (hm : t.size ≤ maxLen) :
    Calls Tryd.prog 36 #[.string t] w fun e w' => e = .returned (.tuple #[.int .i64 (looseVal t.data.toList), .bool (looseOk t.data.toList)]) ∧ ∃ m, w' = w.drewN m := by
  unfold maxLen at hm
  go_enter Tryd.func36, Tryd.ntmps36
  go_wp2
  go_loopw [4, 5, 6, 7] (fun s x d i wr => ∃ j st n : Nat, ∃ b : Bool, j ≤ t.size ∧ i = .int .i64 j ∧ s = .int .i64 st ∧ x = .int .i64 n ∧ d = .bool b ∧ looseL (t.data.toList.take j) = some (st, n, b) ∧ ∃ m, wr = w.drewN m) (fun _ _ _ i _ => t.size - (intOf i).toNat)
  case atStart => exact ⟨0, 0, 0, false, by omega, rfl, rfl, rfl, rfl, rfl, 0, rfl⟩
  case round =>
    obtain ⟨j, st, n, b, hj, rfl, rfl, rfl, rfl, hst, m, rfl⟩ := hrel
    obtain ⟨hn, hbd⟩ := loose_inv _ hst
    have hbd' : st < 8388608 := Nat.lt_of_lt_of_le hbd (by have : (2 : Nat) ^ n ≤ 2 ^ 23 := Nat.pow_le_pow_right (by omega) hn; omega)
    clear hbd
    by_cases hlt : j < t.size
    · have hstep : looseL (t.data.toList.take (j + 1)) = looseStep (some (st, n, b)) t[j] := by rw [take_snoc t j hlt, looseL_snoc, hst]
      clear hst
      by_cases h45 : t[j] = 45
      · have e45 : ((t[j].toNat : Int) == 45) = true := byte_eq (n := 45) (by omega) h45
        by_cases hb : b = true
        · subst hb
          have hf := Lib.hid (loose_fail (hstep.trans (by rw [looseStep, if_pos h45, if_pos (Or.inl rfl)])))
          clear hstep h45
          go_wp2
          go_ret2
          exact ⟨ret_int_bool hf.out.1.symm hf.out.2.symm, m, rfl⟩
        · have hb' : b = false := by simpa using hb
          subst hb'
          by_cases h13 : 13 < n
          · have hf := Lib.hid (loose_fail (hstep.trans (by rw [looseStep, if_pos h45, if_pos (Or.inr h13)])))
            clear hstep h45
            go_wp2
            go_ret2
            exact ⟨ret_int_bool hf.out.1.symm hf.out.2.symm, m, rfl⟩
          · have hf := Lib.hid (hstep.trans (by rw [looseStep, if_pos h45, if_neg (by simp; omega)]))
            clear hstep h45
            go_wp2
            go_roundw
            case rel => exact ⟨j + 1, st, 13, true, by omega, by go_num, rfl, rfl, rfl, hf.out, m, rfl⟩
            case measure => simp [intOf]; omega
      · have e45 : ((t[j].toNat : Int) == 45) = false := byte_ne (n := 45) (by omega) h45
        have hs2 := Lib.hid (hstep.trans (by rw [looseStep, if_neg h45]))
        clear hstep h45
        go_wp2
        go_loopw [8] (fun x wr => ∃ k : Nat, n ≤ k ∧ k ≤ 23 ∧ x = .int .i64 k ∧ Hid (findK t[j] (23 - n) n = findK t[j] (23 - k) k) ∧ ∃ m, wr = w.drewN m) (fun x _ => 23 - (intOf x).toNat)
        case atStart => exact ⟨n, by omega, hn, rfl, rfl, m, rfl⟩
        case round =>
          obtain ⟨k, hk1, hk2, rfl, hfd, m', rfl⟩ := hrel
          by_cases hk : k < 23
          · have hk' : (k : Int) < 23 := by omega
            go_wp2
            go_quiet (fail)
            go_wp2
            · have hl := lab_ne hk (b := t[j]) (by assumption)
              go_roundw
              case rel => exact ⟨k + 1, by omega, by omega, by go_num, hfd.out.trans (findK_miss hk hl), _, rfl⟩
              case measure => simp [intOf]; omega
            · have hl := lab_eq hk (b := t[j]) (by assumption)
              have e := hfd.out.trans (findK_hit hk hl)
              go_roundw
              case rel => exact ⟨j + 1, st ||| 2 ^ k, k + 1, b, by omega, by go_num, by rw [or_bit st k (by omega) (by omega)], by go_num, rfl, by rw [hs2.out, e, if_pos hk], _, rfl⟩
              case measure => simp [intOf]; omega
          · obtain rfl : k = 23 := by omega
            have hf := Lib.hid (loose_fail (hs2.out.trans (by rw [hfd.out, findK, if_neg (by omega)])))
            clear hs2 hfd
            go_wp2
            go_quiet (fail)
            go_wp2
            go_ret2
            exact ⟨ret_int_bool hf.out.1.symm hf.out.2.symm, _, rfl⟩
    · obtain rfl : j = t.size := by omega
      rw [List.take_of_length_le (by simp)] at hst
      have hv := Lib.hid (show looseVal t.data.toList = st ∧ looseOk t.data.toList = ((st : Int) != 0) by simp [looseOk, looseVal, hst])
      clear hst
      go_wp2
      go_ret2
      exact ⟨ret_int_bool hv.out.1.symm hv.out.2.symm, m, rfl⟩

theorem implLoose_any (t : ByteArray) (w : World) (hm : t.size ≤ maxLen) :
    Calls Tryd.prog 54 #[.string t] w fun e w' => e = .returned (.tuple #[.int .i64 (looseVal t.data.toList), .bool (looseOk t.data.toList)]) ∧ Below w.heap.size w w' :=
  (implLoose_q t w hm).mono fun _ _ ⟨he, m, hw⟩ => ⟨he, by rw [hw]; exact below_drewN (Below.refl _ _) m⟩
theorem l2Loose_any (t : ByteArray) (w : World) (hm : t.size ≤ maxLen) :
    Calls Tryd.prog 36 #[.string t] w fun e w' => e = .returned (.tuple #[.int .i64 (looseVal t.data.toList), .bool (looseOk t.data.toList)]) ∧ Below w.heap.size w w' :=
  (l2Loose_q t w hm).mono fun _ _ ⟨he, m, hw⟩ => ⟨he, by rw [hw]; exact below_drewN (Below.refl _ _) m⟩
end Go.Proofs.YtnepcipicibmfaaDoor
