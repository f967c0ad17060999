/- Contracts of HeldKeys. Condition: the list has a slice's length. -/
import Derived.Test.YthnecaeljpaggaaEvFu
namespace Go.Proofs.Ythnecaeljpaggaa
open Go.RowKit

/-- The keys that are down at the end. -/
def heldR (l : List Ev) : List Int := if evOk l then keysL ((fuRun l).1 : Int) else []
theorem heldR_len (l : List Ev) : (heldR l).length ≤ 23 := by
  unfold heldR
  split
  · exact keysL_len _
  · simp
theorem fu_full {l : List Ev} {n dn : Nat} {pv : Bool} {xs : List Int} (hn : l.length = n) (h : fuRun (l.take n) = (dn, pv, xs)) : fuRun l = (dn, pv, xs) := by
  rw [← h, List.take_of_length_le (by omega)]
theorem fu_dnH {l : List Ev} (hv : evOk l = true) {j dn : Nat} {pv : Bool} {xs : List Int} (hj : j ≤ l.length) (h : fuRun (l.take j) = (dn, pv, xs)) : dn < 8388608 := by
  cases j with
  | zero =>
    simp only [List.take_zero, fuRun, List.foldl_nil, Prod.mk.injEq] at h
    omega
  | succ i =>
    obtain ⟨_, h2⟩ := ev_valid hv
    obtain ⟨d, t, _, _, _, _, _, _, e7⟩ := h2 i (by omega)
    have := fu_down _ _ _ e7
    rw [h] at this
    have hb := (ev_in _ e7).1
    simp only at this
    omega

set_option maxRecDepth 100000 in
set_option maxHeartbeats 2000000 in
theorem implHeld_any (A : Option Addr) (n c : Nat) (l : List Ev) (w : World) (hn : l.length = n) (hle : n ≤ maxLen) (hr : Row w w.heap.size A (evs l)) :
    Calls Try.prog 27 #[.slice A n c] w fun e w' => ∃ A' c', e = .returned (.tuple #[.slice A' (heldR l).length c', .bool (evOk l)]) ∧ w'.ownsRow w.heap.size 3 1 (.slice A' (heldR l).length c') (heldR l).length (ints (heldR l)) ∧ Below w.heap.size w w' := by
  rcases Bool.eq_false_or_eq_true (evOk l) with hv | hv
  · have HV := Lib.hid hv
    have hR := Lib.hid (show heldR l = keysL ((fuRun l).1 : Int) by rw [heldR, if_pos hv])
    have hlen := ev_lt hv
    go_enter Try.func27, Try.ntmps27
    go_wp2_with fail
    refine (implValidEv_any A n c l w hn hle w.heap.size (Nat.le_refl _) hr).mono ?_
    rintro e w0 ⟨rfl, hb0⟩
    unfold maxLen at hle
    go_wp2
    go_loopw [4, 12] (fun d i wr => ∃ j dn : Nat, ∃ pv : Bool, ∃ xs : List Int, j ≤ n ∧ i = .int .i64 j ∧ d = .int .i64 dn ∧ Hid (fuRun (l.take j) = (dn, pv, xs)) ∧ Below w.heap.size w wr) (fun _ i _ => n - (intOf i).toNat)
    case atStart => exact ⟨0, 0, false, [], by omega, rfl, rfl, rfl, hb0⟩
    case round =>
      obtain ⟨j, dn, pv, xs, hj, rfl, rfl, hst, hbel⟩ := hrel
      have hs := hbel.size
      have hdn := fu_dnH HV.out (by omega) hst.out
      by_cases hlt : j < n
      · obtain ⟨q1, q2, q3, q4, q5, q6, q7, q8, q9⟩ := fu_round HV.out (show j < l.length by omega) hst.out
        obtain ⟨b, off, rfl, hb, hc1, hc2, hc3⟩ := (hr.below hbel).ev (j := j) (by omega)
        have hx := Lib.hid (xor_bit dn (evt l j).k.toNat (by omega) (by omega))
        have hs7 := Lib.hid q7
        clear q6 q7 q8
        go_wp2
        go_roundw
        case rel => exact ⟨j + 1, _, _, _, by omega, by go_num, by rw [hx.out], hs7.out, hbel.alloc hs _⟩
        case measure => simp [intOf]; omega
      · obtain rfl : j = n := by omega
        have hst' := Lib.hid (show heldR l = keysL (dn : Int) by rw [hR.out, fu_full hn hst.out])
        go_wp2_with fail
        refine (implKeysOf_any (dn : Int) wr (by omega) (by omega)).mono ?_
        rintro e w3 ⟨A', c', rfl, ho3, hb3⟩
        go_wp2
        go_ret2
        rw [hst'.out]
        exact ⟨A', c', ret_vb HV.out, own_base ho3 hs, hbel.trans (hb3.mono hs)⟩
  · have hR := Lib.hid (show heldR l = [] by rw [heldR, hv]; rfl)
    go_enter Try.func27, Try.ntmps27
    go_wp2_with fail
    refine (implValidEv_any A n c l w hn hle w.heap.size (Nat.le_refl _) hr).mono ?_
    rintro e w0 ⟨rfl, hb0⟩
    go_wp2
    go_ret2
    rw [hR.out]
    exact ⟨none, 0, ret_vb hv, World.ownsRow_nil _ _ _ _, hb0⟩

set_option maxRecDepth 100000 in
set_option maxHeartbeats 2000000 in
theorem specHeld_any (A : Option Addr) (n c : Nat) (l : List Ev) (w : World) (hn : l.length = n) (hle : n ≤ maxLen) (hr : Row w w.heap.size A (evs l)) :
    Calls Try.prog 26 #[.slice A n c] w fun e w' => ∃ A' c', e = .returned (.tuple #[.slice A' (heldR l).length c', .bool (evOk l)]) ∧ w'.ownsRow w.heap.size 3 1 (.slice A' (heldR l).length c') (heldR l).length (ints (heldR l)) ∧ Below w.heap.size w w' := by
  rcases Bool.eq_false_or_eq_true (evOk l) with hv | hv
  · have HV := Lib.hid hv
    have hR := Lib.hid (show heldR l = keysL ((fuRun l).1 : Int) by rw [heldR, if_pos hv])
    have hlen := ev_lt hv
    go_enter Try.func26, Try.ntmps26
    go_wp2_with fail
    refine (l3Good_any A n c l w hn hle w.heap.size (Nat.le_refl _) hr).mono ?_
    rintro e w0 ⟨rfl, hb0⟩
    unfold maxLen at hle
    go_wp2
    go_loopw [4, 5] (fun d i wr => ∃ j dn : Nat, ∃ pv : Bool, ∃ xs : List Int, j ≤ n ∧ i = .int .i64 j ∧ d = .int .i64 dn ∧ Hid (fuRun (l.take j) = (dn, pv, xs)) ∧ Below w.heap.size w wr) (fun _ i _ => n - (intOf i).toNat)
    case atStart => exact ⟨0, 0, false, [], by omega, rfl, rfl, rfl, hb0⟩
    case round =>
      obtain ⟨j, dn, pv, xs, hj, rfl, rfl, hst, hbel⟩ := hrel
      have hs := hbel.size
      have hdn := fu_dnH HV.out (by omega) hst.out
      by_cases hlt : j < n
      · obtain ⟨q1, q2, q3, q4, q5, q6, q7, q8, q9⟩ := fu_round HV.out (show j < l.length by omega) hst.out
        obtain ⟨b, off, rfl, hb, hc1, hc2, hc3⟩ := (hr.below hbel).ev (j := j) (by omega)
        obtain ⟨a1, a2⟩ := aft_of q2 q3 q4 q5 q6
        have ha := Lib.hid a2
        have hs7 := Lib.hid q7
        clear q6 q7 a2 a1 q8
        go_wp2_with fail
        refine (l3After_any dn (evt l j) wr q1).mono ?_
        rintro e w2 ⟨rfl, hb2⟩
        go_wp2
        go_roundw
        case rel => exact ⟨j + 1, _, _, _, by omega, by go_num, by rw [ha.out], hs7.out, hbel.trans (hb2.mono hs)⟩
        case measure => simp [intOf]; omega
      · obtain rfl : j = n := by omega
        have hst' := Lib.hid (show heldR l = keysL (dn : Int) by rw [hR.out, fu_full hn hst.out])
        go_wp2_with fail
        refine (l2Keys_any (dn : Int) wr (by omega) (by omega)).mono ?_
        rintro e w3 ⟨A', c', rfl, ho3, hb3⟩
        go_wp2
        go_ret2
        rw [hst'.out]
        exact ⟨A', c', ret_vb HV.out, own_base ho3 hs, hbel.trans (hb3.mono hs)⟩
  · have hR := Lib.hid (show heldR l = [] by rw [heldR, hv]; rfl)
    go_enter Try.func26, Try.ntmps26
    go_wp2_with fail
    refine (l3Good_any A n c l w hn hle w.heap.size (Nat.le_refl _) hr).mono ?_
    rintro e w0 ⟨rfl, hb0⟩
    go_wp2
    go_ret2
    rw [hR.out]
    exact ⟨_, 0, ret_vb hv, World.ownsRow_made _ _ _ hb0.size (by unfold maxLen; omega) (by simp), hb0.alloc hb0.size _⟩
end Go.Proofs.Ythnecaeljpaggaa
