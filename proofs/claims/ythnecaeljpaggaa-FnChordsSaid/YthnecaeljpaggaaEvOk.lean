/- Contracts of the functions that check a list of key events. Condition: the list has a slice's length. -/
import Derived.Test.YthnecaeljpaggaaEvS
import Derived.Test.YthnecaeljpaggaaStroke
namespace Go.Proofs.Ythnecaeljpaggaa
open Go.RowKit

theorem ev_step_fail {l : List Ev} {j d : Nat} {t : Int} (hj : j < l.length) (hst : evRun (l.take j) = some (d, t))
    (h : inB (evt l j).t t 999999 = false ∨ keyB (evt l j).k = false ∨ (evt l j).d = bitB d (evt l j).k) : evOk l = false := by
  refine ev_take_none (k := j + 1) ?_
  rw [evt_take l j hj, evRun_snoc, hst, evStep, if_neg]
  rintro ⟨h1, h2, h3, h4, h5⟩
  rcases h with h | h | h
  · rw [inB_true h1 h2] at h; cases h
  · rw [keyB, inB_true h3 h4] at h; cases h
  · exact h5 (by rw [h, bitB, Int.toNat_natCast])
theorem ev_step_ok {l : List Ev} {j d : Nat} {t : Int} (hj : j < l.length) (hst : evRun (l.take j) = some (d, t))
    (h1 : inB (evt l j).t t 999999 = true) (h2 : keyB (evt l j).k = true) (h3 : (evt l j).d ≠ bitB d (evt l j).k) : evRun (l.take (j + 1)) = some (d ^^^ 2 ^ (evt l j).k.toNat, (evt l j).t) := by
  rw [evt_take l j hj, evRun_snoc, hst, evStep, if_pos]
  have a := in_bd h1
  have b := key_bd h2
  exact ⟨a.1, a.2, b.1, b.2, by rw [bitB, Int.toNat_natCast] at h3; exact h3⟩

theorem ev_done {l : List Ev} {j d : Nat} {t : Int} (hst : evRun (l.take j) = some (d, t)) (hj : l.length ≤ j) : evOk l = decide (l.length ≤ 200) := by
  rw [List.take_of_length_le hj] at hst
  rw [evOk, hst]
  rfl

set_option maxHeartbeats 2000000 in
theorem implValidEv_any (A : Option Addr) (n c : Nat) (l : List Ev) (w : World) (hn : l.length = n) (hle : n ≤ maxLen) (B : Nat) (hB : B ≤ w.heap.size) (hr : Row w B A (evs l)) :
    Calls Try.prog 14 #[.slice A n c] w fun e w' => e = .returned (.bool (evOk l)) ∧ Below w.heap.size w w' := by
  unfold maxLen at hle
  go_enter Try.func14, Try.ntmps14
  go_wp2
  go_loopw [3, 4, 9] (fun d t i wr => ∃ j dn : Nat, ∃ tm : Int, j ≤ n ∧ i = .int .i64 j ∧ d = .int .i64 dn ∧ t = .int .i64 tm ∧ evRun (l.take j) = some (dn, tm) ∧ Below w.heap.size w wr) (fun _ _ i _ => n - (intOf i).toNat)
  case atStart => exact ⟨0, 0, 0, by omega, rfl, rfl, rfl, rfl, Below.refl _ _⟩
  case round =>
    obtain ⟨j, dn, tm, hj, rfl, rfl, rfl, hst, hbel⟩ := hrel
    obtain ⟨hd1, ht1, ht2⟩ := ev_in _ hst
    have hs := hbel.size
    by_cases hlt : j < n
    · obtain ⟨b, off, rfl, hb, hc1, hc2, hc3⟩ := (hr.below_le hbel hB).ev (j := j) (by omega)
      have hfail := fun h => Lib.hid (ev_step_fail (by omega) hst h)
      have hok := fun a b c => Lib.hid (ev_step_ok (by omega) hst a b c)
      clear hst
      rcases Bool.eq_false_or_eq_true (inB (evt l j).t tm 999999) with h1 | h1
      · rcases Bool.eq_false_or_eq_true (keyB (evt l j).k) with h2 | h2
        · obtain ⟨k1, k2⟩ := key_bd h2
          have hbt := bit_test_int (s := (dn : Int)) (evt l j).k (by omega) (by omega)
          by_cases h3 : (evt l j).d = bitB dn (evt l j).k
          · have hf := hfail (Or.inr (Or.inr h3))
            clear hfail hok
            have h3' : ((evt l j).d == bitB dn (evt l j).k) = true := by simp [h3]
            clear h3
            go_wp2
            go_quiet ((first | (go_at_call 38; exact Calls.quiet_of_same ((implIn_any _ _ _ _).mono fun _ _ h => ⟨h.1, h.2.symm⟩)) | (go_at_call 39; exact Calls.quiet_of_same ((isKey_any _ _).mono fun _ _ h => ⟨h.1, h.2.symm⟩))))
            go_wp2
            go_ret
            exact ⟨ret_bool hf.out.symm, below_drewN (hbel.alloc hs _) _⟩
          · have hf := hok h1 h2 h3
            have hx := Lib.hid (xor_bit dn (evt l j).k.toNat (by omega) (by omega))
            clear hfail hok
            have h3' : ((evt l j).d == bitB dn (evt l j).k) = false := by simpa using h3
            clear h3
            go_wp2
            go_quiet ((first | (go_at_call 38; exact Calls.quiet_of_same ((implIn_any _ _ _ _).mono fun _ _ h => ⟨h.1, h.2.symm⟩)) | (go_at_call 39; exact Calls.quiet_of_same ((isKey_any _ _).mono fun _ _ h => ⟨h.1, h.2.symm⟩))))
            go_wp2
            go_roundw
            case rel => exact ⟨j + 1, _, _, by omega, by go_num, by rw [hx.out], rfl, hf.out, below_drewN (hbel.alloc hs _) _⟩
            case measure => simp [intOf]; omega
        · have hf := hfail (Or.inr (Or.inl h2))
          clear hfail hok
          go_wp2
          go_quiet ((first | (go_at_call 38; exact Calls.quiet_of_same ((implIn_any _ _ _ _).mono fun _ _ h => ⟨h.1, h.2.symm⟩)) | (go_at_call 39; exact Calls.quiet_of_same ((isKey_any _ _).mono fun _ _ h => ⟨h.1, h.2.symm⟩))))
          go_wp2
          go_ret
          exact ⟨ret_bool hf.out.symm, below_drewN (hbel.alloc hs _) _⟩
      · have hf := hfail (Or.inl h1)
        clear hfail hok
        go_wp2
        go_quiet ((first | (go_at_call 38; exact Calls.quiet_of_same ((implIn_any _ _ _ _).mono fun _ _ h => ⟨h.1, h.2.symm⟩)) | (go_at_call 39; exact Calls.quiet_of_same ((isKey_any _ _).mono fun _ _ h => ⟨h.1, h.2.symm⟩))))
        go_wp2
        go_ret
        exact ⟨ret_bool hf.out.symm, below_drewN (hbel.alloc hs _) _⟩
    · obtain rfl : j = n := by omega
      have hf := Lib.hid (ev_done hst (by omega))
      clear hst
      go_wp2
      go_ret
      exact ⟨ret_bool (by rw [hf.out, hn]; exact decide_eq_decide.2 (by omega)), hbel⟩

/-- The reference's step. -/
def aftOk (d : Nat) (e : Ev) : Bool := keyB e.k && inB e.t 0 999999 && !(bitB d e.k == e.d)
def aftVal (d : Nat) (e : Ev) : Nat := if aftOk d e then d ^^^ 2 ^ e.k.toNat else 0
set_option maxHeartbeats 1000000 in
theorem l3After_any (d : Nat) (e : Ev) (w : World) (hd : d < 8388608) : Calls Try.prog 46 #[.int .i64 d, .agg #[.int .i64 e.t, .int .i64 e.k, .bool e.d]] w fun r w' => r = .returned (.tuple #[.int .i64 (aftVal d e), .bool (aftOk d e)]) ∧ Below w.heap.size w w' := by
  rcases Bool.eq_false_or_eq_true (keyB e.k) with h1 | h1
  · obtain ⟨k1, k2⟩ := key_bd h1
    have h1' : inB e.k 0 22 = true := h1
    have hbt := bit_test_int (s := (d : Int)) e.k (by omega) (by omega)
    rcases Bool.eq_false_or_eq_true (inB e.t 0 999999) with h2 | h2
    · rcases Bool.eq_false_or_eq_true (bitB d e.k == e.d) with h3 | h3
      · have ho : aftOk d e = false := by rw [aftOk, h1, h2, h3]; rfl
        have hv := Lib.hid (show aftVal d e = 0 ∧ aftOk d e = false from ⟨by rw [aftVal, ho]; rfl, ho⟩)
        clear ho
        go_enter Try.func46, Try.ntmps46
        go_wp2_with (first | (go_at_call 41; refine (l1In_any _ _ _ _).mono ?_; rintro e w' ⟨rfl, rfl⟩))
        go_ret2
        exact ⟨ret_int_bool (by rw [hv.out.1]; rfl) hv.out.2.symm, (Below.refl _ _).alloc (Nat.le_refl _) _⟩
      · have ho : aftOk d e = true := by rw [aftOk, h1, h2, h3]; rfl
        have hv := Lib.hid (show aftVal d e = d ^^^ 2 ^ e.k.toNat ∧ aftOk d e = true from ⟨by rw [aftVal, if_pos ho], ho⟩)
        have hx := Lib.hid (xor_bit d e.k.toNat (by omega) (by omega))
        clear ho
        go_enter Try.func46, Try.ntmps46
        go_wp2_with (first | (go_at_call 41; refine (l1In_any _ _ _ _).mono ?_; rintro e w' ⟨rfl, rfl⟩))
        go_ret2
        exact ⟨ret_int_bool (by rw [hv.out.1, hx.out]) hv.out.2.symm, (Below.refl _ _).alloc (Nat.le_refl _) _⟩
    · have ho : aftOk d e = false := by rw [aftOk, h2, Bool.and_false]; rfl
      have hv := Lib.hid (show aftVal d e = 0 ∧ aftOk d e = false from ⟨by rw [aftVal, ho]; rfl, ho⟩)
      clear ho
      go_enter Try.func46, Try.ntmps46
      go_wp2_with (first | (go_at_call 41; refine (l1In_any _ _ _ _).mono ?_; rintro e w' ⟨rfl, rfl⟩))
      go_ret2
      exact ⟨ret_int_bool (by rw [hv.out.1]; rfl) hv.out.2.symm, (Below.refl _ _).alloc (Nat.le_refl _) _⟩
  · have ho : aftOk d e = false := by rw [aftOk, h1]; rfl
    have h1' : inB e.k 0 22 = false := h1
    have hv := Lib.hid (show aftVal d e = 0 ∧ aftOk d e = false from ⟨by rw [aftVal, ho]; rfl, ho⟩)
    clear ho
    go_enter Try.func46, Try.ntmps46
    go_wp2_with (first | (go_at_call 41; refine (l1In_any _ _ _ _).mono ?_; rintro e w' ⟨rfl, rfl⟩))
    go_ret2
    exact ⟨ret_int_bool (by rw [hv.out.1]; rfl) hv.out.2.symm, (Below.refl _ _).alloc (Nat.le_refl _) _⟩

theorem ev_prev {l : List Ev} {j d : Nat} {t : Int} (hj : j < l.length) (hst : evRun (l.take (j + 1)) = some (d, t)) : t = (evt l j).t := by
  rw [evt_take l j hj] at hst
  exact ev_last _ _ hst
theorem aft_ok {l : List Ev} {j d : Nat} {t : Int} (hj : j < l.length) (hst : evRun (l.take j) = some (d, t)) (h : aftOk d (evt l j) = true) (h1 : t ≤ (evt l j).t) :
    evRun (l.take (j + 1)) = some (aftVal d (evt l j), (evt l j).t) := by
  have hv : aftVal d (evt l j) = d ^^^ 2 ^ (evt l j).k.toNat := by rw [aftVal, if_pos h]
  rw [aftOk, Bool.and_eq_true, Bool.and_eq_true] at h
  obtain ⟨⟨a, b⟩, c⟩ := h
  have b' := in_bd b
  rw [hv]
  exact ev_step_ok hj hst (inB_true h1 b'.2) a (fun e => by rw [e] at c; simp at c)
theorem aft_no {l : List Ev} {j d : Nat} {t : Int} (hj : j < l.length) (hst : evRun (l.take j) = some (d, t)) (ht : 0 ≤ t) (h : aftOk d (evt l j) = false) : evOk l = false := by
  rw [aftOk, Bool.and_eq_false_iff, Bool.and_eq_false_iff] at h
  refine ev_step_fail hj hst ?_
  rcases h with (h | h) | h
  · exact Or.inr (Or.inl h)
  · left
    have : ¬ (0 ≤ (evt l j).t ∧ (evt l j).t ≤ 999999) := by simpa [inB] using h
    rcases Int.lt_or_le (evt l j).t t with e | e
    · exact inB_lo e
    · exact inB_hi (by omega)
  · right; right
    have : (bitB d (evt l j).k == (evt l j).d) = true := by simpa using h
    exact (by simpa using this : bitB d (evt l j).k = (evt l j).d).symm

set_option maxRecDepth 100000 in
set_option maxHeartbeats 2000000 in
theorem l3Good_any (A : Option Addr) (n c : Nat) (l : List Ev) (w : World) (hn : l.length = n) (hle : n ≤ maxLen) (B : Nat) (hB : B ≤ w.heap.size) (hr : Row w B A (evs l)) :
    Calls Try.prog 36 #[.slice A n c] w fun e w' => e = .returned (.bool (evOk l)) ∧ Below w.heap.size w w' := by
  unfold maxLen at hle
  go_enter Try.func36, Try.ntmps36
  go_wp2
  go_loopw [3, 4, 5] (fun d o i wr => ∃ j dn : Nat, ∃ tm : Int, j ≤ n ∧ j ≤ 201 ∧ i = .int .i64 j ∧ d = .int .i64 dn ∧ o = .bool true ∧ Hid (evRun (l.take j) = some (dn, tm)) ∧ Below w.heap.size w wr) (fun _ _ i _ => n - (intOf i).toNat)
  case atStart => exact ⟨0, 0, 0, by omega, by omega, rfl, rfl, rfl, rfl, Below.refl _ _⟩
  case round =>
    obtain ⟨j, dn, tm, hj, hj2, rfl, rfl, rfl, hst, hbel⟩ := hrel
    obtain ⟨hd1, ht1, ht2⟩ := ev_in _ hst.out
    have hs := hbel.size
    by_cases hlt : j < n
    · by_cases h200 : j ≤ 200
      · obtain ⟨b, off, rfl, hb, hc1, hc2, hc3⟩ := (hr.below_le hbel hB).ev (j := j) (by omega)
        by_cases h0 : j = 0
        · have htm : tm = 0 := by
            have := hst.out
            rw [h0] at this
            simp only [evRun, List.take_zero, List.foldl_nil, Option.some.injEq, Prod.mk.injEq] at this
            exact this.2.symm
          have hg : decide (0 < j) = false := by simp; omega
          have H0 := Lib.hid h0
          have hT := Lib.hid (fun (h : 0 ≤ (evt l j).t) => (show tm ≤ (evt l j).t by omega))
          have HT : aftOk dn (evt l j) = true → tm ≤ (evt l j).t := fun o => by
            rw [aftOk, Bool.and_eq_true, Bool.and_eq_true] at o
            have := in_bd o.1.2
            omega
          clear h0 htm hT
          have HT := Lib.hid HT
          go_wp2
          go_quiet (fail)
          go_wp2_with fail
          refine (l3After_any dn (evt l j) _ (by omega)).mono ?_
          rintro e w2 ⟨rfl, hb2⟩
          have hbel2 := (below_drewN hbel _).trans (hb2.mono (Nat.le_trans hs (Nat.le_refl _)))
          rcases Bool.eq_false_or_eq_true (aftOk dn (evt l j)) with o | o
          · have hf := Lib.hid (aft_ok (by omega) hst.out o (HT.out o))
            go_wp2
            go_roundw
            case rel => exact ⟨j + 1, _, _, by omega, by omega, by go_num, rfl, rfl, hf.out, hbel2⟩
            case measure => simp [intOf]; omega
          · have hf := Lib.hid (aft_no (by omega) hst.out ht1 o)
            go_wp2
            go_ret
            exact ⟨ret_bool hf.out.symm, hbel2⟩
        · obtain ⟨i, rfl⟩ : ∃ i, j = i + 1 := ⟨j - 1, by omega⟩
          obtain ⟨b', off', hA', hb', hp1, hp2, hp3⟩ := (hr.below_le hbel hB).ev (j := i) (by omega)
          injection hA' with hA'
          injection hA' with e1 e2 e3
          subst e1 e2
          clear e3
          have htm := ev_prev (j := i) (by omega) hst.out
          subst htm
          rcases Int.lt_or_le (evt l (i + 1)).t (evt l i).t with hlo | hlo
          · have hf := Lib.hid (ev_step_fail (j := i + 1) (by omega) hst.out (Or.inl (inB_lo hlo)))
            go_wp2
            go_quiet (fail)
            go_wp2
            go_ret
            exact ⟨ret_bool hf.out.symm, below_drewN hbel _⟩
          · go_wp2
            go_quiet (fail)
            go_wp2_with fail
            refine (l3After_any dn (evt l (i + 1)) _ (by omega)).mono ?_
            rintro e w2 ⟨rfl, hb2⟩
            have hbel2 := (below_drewN hbel _).trans (hb2.mono (Nat.le_trans hs (Nat.le_refl _)))
            rcases Bool.eq_false_or_eq_true (aftOk dn (evt l (i + 1))) with o | o
            · have hf := Lib.hid (aft_ok (by omega) hst.out o hlo)
              go_wp2
              go_roundw
              case rel => exact ⟨i + 1 + 1, _, _, by omega, by omega, by go_num, rfl, rfl, hf.out, hbel2⟩
              case measure => simp [intOf]; omega
            · have hf := Lib.hid (aft_no (by omega) hst.out ht1 o)
              go_wp2
              go_ret
              exact ⟨ret_bool hf.out.symm, hbel2⟩
      · obtain rfl : j = 201 := by omega
        have hf := Lib.hid (ev_long (l := l) (by omega))
        go_wp2
        go_ret
        exact ⟨ret_bool (by rw [hf.out]; simp; omega), hbel⟩
    · obtain rfl : j = n := by omega
      have hf := Lib.hid (ev_done hst.out (by omega))
      go_wp2
      go_ret
      exact ⟨ret_bool (by rw [hf.out, hn]; exact decide_eq_decide.2 (by omega)), hbel⟩
end Go.Proofs.Ythnecaeljpaggaa
