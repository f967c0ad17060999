/- Contracts of NewStroke. Condition: at most 2^20 keys. -/
import Derived.Test.YtddmejmcdjkllaaKeys
import Derived.Test.YtddmejmcdjkllaaIntS
namespace Go.Proofs.Ytddmejmcdjkllaa
open Go.RowKit

set_option maxHeartbeats 400000 in
theorem implNew_any (A : Option Addr) (n c : Nat) (xs : List Int) (w : World) (B : Nat) (hn : xs.length = n) (hle : n ≤ 1048576) (hr : Row w B A (ints xs)) :
    Calls Try.prog 13 #[.slice A n c] w fun e w' => e = .returned (.tuple #[.int .i64 (newVal xs), .bool (newOk xs)]) ∧ w = w' := by
  go_enter Try.func13, Try.ntmps13
  go_wp2
  go_loop [4, 9] (fun s i => ∃ j st : Nat, j ≤ n ∧ i = .int .i64 j ∧ s = .int .i64 st ∧ newL (xs.take j) = some st) (fun _ i => n - (intOf i).toNat)
  case atStart => exact ⟨0, 0, by omega, rfl, rfl, rfl⟩
  case round =>
    obtain ⟨j, st, hj, rfl, rfl, hst⟩ := hrel
    have hbd := newL_bd _ hst
    by_cases hlt : j < n
    · obtain ⟨b, off, rfl, hb, hc⟩ := hr.int (k := j) (by omega)
      have hstep : newL (xs.take (j + 1)) = newStep (some st) (elt xs j) := by rw [take_int xs j (by omega), newL_snoc, hst]
      clear hst
      rcases Bool.eq_false_or_eq_true (keyB (elt xs j)) with hk | hk
      · obtain ⟨hk1, hk2⟩ := key_bd hk
        have hbt := bit_test_int (s := (st : Int)) (elt xs j) (by omega) (by omega)
        rcases Bool.eq_false_or_eq_true (bitB st (elt xs j)) with hbit | hbit
        · rw [hbit] at hbt
          have hf := Lib.hid (new_fail (hstep.trans (by rw [newStep, if_neg]; intro h; have := h.2.2; simp [bitB] at hbit; rw [hbit] at this; cases this)))
          clear hstep
          go_wp2_with (go_at_call 38; refine (isKey_any _ _).mono ?_; rintro e w' ⟨rfl, rfl⟩)
          go_ret2
          exact ⟨ret_int_bool hf.out.1.symm hf.out.2.symm, rfl⟩
        · rw [hbit] at hbt
          have hf := Lib.hid (hstep.trans (by rw [newStep, if_pos ⟨hk1, hk2, by simpa [bitB] using hbit⟩]))
          have ho := Lib.hid (or_bit st (elt xs j).toNat (by omega) (by omega))
          clear hstep
          go_wp2_with (go_at_call 38; refine (isKey_any _ _).mono ?_; rintro e w' ⟨rfl, rfl⟩)
          go_round
          case rel => exact ⟨j + 1, _, by omega, by go_num, by rw [ho.out], hf.out⟩
          case measure => simp [intOf]; omega
      · have hf := Lib.hid (new_fail (hstep.trans (by rw [newStep, if_neg]; intro h; rw [inB_true (lo := 0) (hi := 22) h.1 h.2.1 |> (fun e => (show keyB (elt xs j) = true from e))] at hk; cases hk)))
        clear hstep
        go_wp2_with (go_at_call 38; refine (isKey_any _ _).mono ?_; rintro e w' ⟨rfl, rfl⟩)
        go_ret2
        exact ⟨ret_int_bool hf.out.1.symm hf.out.2.symm, rfl⟩
    · obtain rfl : j = n := by omega
      rw [List.take_of_length_le (by omega)] at hst
      have hv := Lib.hid (show newVal xs = st ∧ newOk xs = ((st : Int) != 0) by simp [newOk, newVal, hst])
      clear hst
      go_wp2
      go_ret2
      exact ⟨ret_int_bool hv.out.1.symm hv.out.2.symm, rfl⟩

set_option maxHeartbeats 400000 in
theorem specNew_any (A : Option Addr) (n c : Nat) (xs : List Int) (w : World) (B : Nat) (hn : xs.length = n) (hle : n ≤ 1048576) (hr : Row w B A (ints xs)) :
    Calls Try.prog 11 #[.slice A n c] w fun e w' => e = .returned (.tuple #[.int .i64 (newVal xs), .bool (newOk xs)]) ∧ w = w' := by
  go_enter Try.func11, Try.ntmps11
  go_wp2
  go_loop [4, 5] (fun s i => ∃ j st : Nat, j ≤ n ∧ i = .int .i64 j ∧ s = .int .i64 st ∧ newL (xs.take j) = some st) (fun _ i => n - (intOf i).toNat)
  case atStart => exact ⟨0, 0, by omega, rfl, rfl, rfl⟩
  case round =>
    obtain ⟨j, st, hj, rfl, rfl, hst⟩ := hrel
    have hbd := newL_bd _ hst
    by_cases hlt : j < n
    · obtain ⟨b, off, rfl, hb, hc⟩ := hr.int (k := j) (by omega)
      have hstep : newL (xs.take (j + 1)) = newStep (some st) (elt xs j) := by rw [take_int xs j (by omega), newL_snoc, hst]
      clear hst
      rcases Bool.eq_false_or_eq_true (keyB (elt xs j)) with hk | hk
      · obtain ⟨hk1, hk2⟩ := key_bd hk
        have hbt := bit_test_int (s := (st : Int)) (elt xs j) (by omega) (by omega)
        rcases Bool.eq_false_or_eq_true (bitB st (elt xs j)) with hbit | hbit
        · rw [hbit] at hbt
          have hf := Lib.hid (new_fail (hstep.trans (by rw [newStep, if_neg]; intro h; have := h.2.2; simp [bitB] at hbit; rw [hbit] at this; cases this)))
          clear hstep
          go_wp2_with (go_at_call 37; refine (l1In_key _ _).mono ?_; rintro e w' ⟨rfl, rfl⟩)
          go_ret2
          exact ⟨ret_int_bool hf.out.1.symm hf.out.2.symm, rfl⟩
        · rw [hbit] at hbt
          have hf := Lib.hid (hstep.trans (by rw [newStep, if_pos ⟨hk1, hk2, by simpa [bitB] using hbit⟩]))
          have ho := Lib.hid (or_bit st (elt xs j).toNat (by omega) (by omega))
          clear hstep
          go_wp2_with (go_at_call 37; refine (l1In_key _ _).mono ?_; rintro e w' ⟨rfl, rfl⟩)
          go_round
          case rel => exact ⟨j + 1, _, by omega, by go_num, by rw [ho.out], hf.out⟩
          case measure => simp [intOf]; omega
      · have hf := Lib.hid (new_fail (hstep.trans (by rw [newStep, if_neg]; intro h; rw [inB_true (lo := 0) (hi := 22) h.1 h.2.1 |> (fun e => (show keyB (elt xs j) = true from e))] at hk; cases hk)))
        clear hstep
        go_wp2_with (go_at_call 37; refine (l1In_key _ _).mono ?_; rintro e w' ⟨rfl, rfl⟩)
        go_ret2
        exact ⟨ret_int_bool hf.out.1.symm hf.out.2.symm, rfl⟩
    · obtain rfl : j = n := by omega
      rw [List.take_of_length_le (by omega)] at hst
      have hv := Lib.hid (show newVal xs = st ∧ newOk xs = ((st : Int) != 0) by simp [newOk, newVal, hst])
      clear hst
      go_wp2
      go_ret2
      exact ⟨ret_int_bool hv.out.1.symm hv.out.2.symm, rfl⟩

end Go.Proofs.Ytddmejmcdjkllaa
