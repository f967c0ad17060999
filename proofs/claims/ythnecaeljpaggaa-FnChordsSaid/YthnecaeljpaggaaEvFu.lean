/- Contracts of first-up mode. Condition: the list has a slice's length. -/
import Derived.Test.YthnecaeljpaggaaEvOk
import Derived.Test.YthnecaeljpaggaaKeys
namespace Go.Proofs.Ythnecaeljpaggaa
open Go.RowKit

/-- What first-up mode returns. -/
def fuR (l : List Ev) : List Int := if evOk l then (fuRun l).2.2 else []
theorem fuR_len (l : List Ev) : (fuR l).length ≤ 200 := by
  unfold fuR
  split
  · rename_i h
    have := fu_len l
    have := ev_lt h
    omega
  · simp
theorem aft_of {d : Nat} {e : Ev} (h1 : 0 ≤ e.k) (h2 : e.k ≤ 22) (h3 : 0 ≤ e.t) (h4 : e.t ≤ 999999) (h5 : e.d ≠ d.testBit e.k.toNat) : aftOk d e = true ∧ aftVal d e = d ^^^ 2 ^ e.k.toNat := by
  have o : aftOk d e = true := by
    rw [aftOk, keyB, inB_true h1 h2, inB_true h3 h4, bitB, Int.toNat_natCast]
    simpa using fun h => h5 h.symm
  exact ⟨o, by rw [aftVal, if_pos o]⟩

theorem fu_step_up {dn : Nat} {pv : Bool} {xs : List Int} {e : Ev} (h : e.d = true) : fuStep (dn, pv, xs) e = (dn ^^^ 2 ^ e.k.toNat, true, xs) := by
  rw [fuStep, h, if_neg (by simp)]
theorem fu_step_add {dn : Nat} {xs : List Int} {e : Ev} (h : e.d = false) : fuStep (dn, true, xs) e = (dn ^^^ 2 ^ e.k.toNat, false, xs ++ [(dn : Int)]) := by
  rw [fuStep, h, if_pos (by simp)]
theorem fu_step_no {dn : Nat} {xs : List Int} {e : Ev} (h : e.d = false) : fuStep (dn, false, xs) e = (dn ^^^ 2 ^ e.k.toNat, false, xs) := by
  rw [fuStep, h, if_neg (by simp)]

set_option maxRecDepth 100000 in
set_option maxHeartbeats 2000000 in
theorem implFu_any (A : Option Addr) (n c : Nat) (l : List Ev) (w : World) (hn : l.length = n) (hle : n ≤ maxLen) (hr : Row w w.heap.size A (evs l)) :
    Calls Try.prog 24 #[.slice A n c] w fun e w' => ∃ A' c', e = .returned (.tuple #[.slice A' (fuR l).length c', .bool (evOk l)]) ∧ w'.ownsRow w.heap.size 3 1 (.slice A' (fuR l).length c') (fuR l).length (ints (fuR l)) ∧ Below w.heap.size w w' := by
  rcases Bool.eq_false_or_eq_true (evOk l) with hv | hv
  · have HV := Lib.hid hv
    have hR := Lib.hid (show fuR l = (fuRun l).2.2 by rw [fuR, if_pos hv])
    have hlen := ev_lt hv
    go_enter Try.func24, Try.ntmps24
    go_wp2_with fail
    refine (implValidEv_any A n c l w hn hle w.heap.size (Nat.le_refl _) hr).mono ?_
    rintro e w0 ⟨rfl, hb0⟩
    unfold maxLen at hle
    go_wp2
    go_loopw [4, 5, 14] (fun v d i wr => ∃ j dn : Nat, ∃ pv : Bool, ∃ xs : List Int, j ≤ n ∧ i = .int .i64 j ∧ d = .int .i64 dn ∧ Hid (fuRun (l.take j) = (dn, pv, xs)) ∧ wr.ownsRow w.heap.size 3 1 v xs.length (ints xs) ∧ Below w.heap.size w wr) (fun _ _ i _ => n - (intOf i).toNat)
    case atStart => exact ⟨0, 0, false, [], by omega, rfl, rfl, rfl, own_base (World.ownsRow_made _ _ _ (Nat.le_refl _) (by unfold maxLen; omega) (by simp)) hb0.size, hb0.alloc hb0.size _⟩
    case round =>
      obtain ⟨j, dn, pv, xs, hj, rfl, rfl, hst, hown, hbel⟩ := hrel
      have hs := hbel.size
      by_cases hlt : j < n
      · obtain ⟨q1, q2, q3, q4, q5, q6, q7, q8, q9⟩ := fu_round HV.out (show j < l.length by omega) hst.out
        obtain ⟨b, off, rfl, hb, hc1, hc2, hc3⟩ := (hr.below hbel).ev (j := j) (by omega)
        have hx := Lib.hid (xor_bit dn (evt l j).k.toNat (by omega) (by omega))
        have hs7 := Lib.hid q7
        clear q6 q7
        rcases Bool.eq_false_or_eq_true (evt l j).d with hd | hd
        · have hf := Lib.hid (hs7.out.trans (fu_step_up hd))
          clear q8
          go_wp2
          go_roundw
          case rel => exact ⟨j + 1, _, _, xs, by omega, by go_num, by rw [hx.out], hf.out, hown.alloc _, hbel.alloc hs _⟩
          case measure => simp [intOf]; omega
        · obtain ⟨i, rfl, hp⟩ := q8 hd
          obtain ⟨b', off', hA', hb', hp1, hp2, hp3⟩ := (hr.below hbel).ev (j := i) (by omega)
          injection hA' with hA'
          injection hA' with e1 e2 e3
          subst e1 e2
          clear e3
          cases pv
          · have hf := Lib.hid (hs7.out.trans (fu_step_no hd))
            rw [hp] at hp3
            have hp4 := fun o => (World.cell?_alloc_lt wr o ⟨b, off + i * 3 + 2, none⟩ (Nat.lt_of_lt_of_le hb hs)).trans hp3
            clear hp q8 hp1 hp2 hp3
            go_wp2
            go_roundw
            case rel => exact ⟨i + 1 + 1, _, _, xs, by omega, by go_num, by rw [hx.out], hf.out, hown.alloc _, hbel.alloc hs _⟩
            case measure => simp [intOf]; omega
          · have hf := Lib.hid (hs7.out.trans (fu_step_add hd))
            rw [hp] at hp3
            have hp4 := fun o => (World.cell?_alloc_lt wr o ⟨b, off + i * 3 + 2, none⟩ (Nat.lt_of_lt_of_le hb hs)).trans hp3
            clear hp q8 hp1 hp2 hp3
            go_wp2_with (at_builtin; refine wpList_app1H (.int .i64 dn) intT (hbel.alloc hs _) (hown.alloc _) rfl (Nat.le_refl _) (by simp; omega) (by omega) (by decide) rfl (.tmp 30) (.tmp 32) rfl _ (by simp) rfl rfl ?_; intro v1 w1 hown1 hbel1 hg1 hat1; have hk1 := cell_var hown hg1 1 (u := .int .i64 (evt l (i + 1)).k) rfl)
            go_roundw
            case rel => exact ⟨i + 1 + 1, _, _, xs ++ [(dn : Int)], by omega, by go_num, by rw [hx.out], hf.out, by rw [ints_snoc, List.length_append]; exact hown1, hbel1⟩
            case measure => simp [intOf]; omega
      · obtain rfl : j = n := by omega
        have hst' := Lib.hid (show fuR l = xs by rw [hR.out, ← List.take_of_length_le (l := l) (i := l.length) (Nat.le_refl _), hn, hst.out])
        obtain ⟨A', c', rfl, _⟩ := own_slice hown
        go_wp2
        go_ret2
        rw [hst'.out]
        exact ⟨A', c', ret_vb HV.out, hown, hbel⟩
  · have hR := Lib.hid (show fuR l = [] by rw [fuR, hv]; rfl)
    go_enter Try.func24, Try.ntmps24
    go_wp2_with fail
    refine (implValidEv_any A n c l w hn hle w.heap.size (Nat.le_refl _) hr).mono ?_
    rintro e w0 ⟨rfl, hb0⟩
    go_wp2
    go_ret2
    rw [hR.out]
    exact ⟨none, 0, ret_vb hv, World.ownsRow_nil _ _ _ _, hb0⟩

set_option maxRecDepth 100000 in
set_option maxHeartbeats 2000000 in
theorem specFu_any (A : Option Addr) (n c : Nat) (l : List Ev) (w : World) (hn : l.length = n) (hle : n ≤ maxLen) (hr : Row w w.heap.size A (evs l)) :
    Calls Try.prog 23 #[.slice A n c] w fun e w' => ∃ A' c', e = .returned (.tuple #[.slice A' (fuR l).length c', .bool (evOk l)]) ∧ w'.ownsRow w.heap.size 3 1 (.slice A' (fuR l).length c') (fuR l).length (ints (fuR l)) ∧ Below w.heap.size w w' := by
  have hr1 := hr.below ((Below.refl _ w).alloc (Nat.le_refl _) (.cells #[] 3))
  have ho1 := World.ownsRow_made w (#[] : Array Value) 0 (base := w.heap.size) (e := 3) (size := 1) (Nat.le_refl _) (by unfold maxLen; omega) (by simp)
  have hb1 := (Below.refl _ w).alloc (Nat.le_refl _) (.cells #[] 3)
  rcases Bool.eq_false_or_eq_true (evOk l) with hv | hv
  · have HV := Lib.hid hv
    have hR := Lib.hid (show fuR l = (fuRun l).2.2 by rw [fuR, if_pos hv])
    have hlen := ev_lt hv
    go_enter Try.func23, Try.ntmps23
    go_wp2_with fail
    refine (l3Good_any A n c l _ hn hle w.heap.size (by simp) hr1).mono ?_
    rintro e w0 ⟨rfl, hb0⟩
    have ho0 := own_below ho1 hb0 (Nat.le_refl _)
    have hb2 := hb1.trans (hb0.mono (by simp))
    unfold maxLen at hle
    go_wp2
    go_loopw [4, 5, 6] (fun v d i wr => ∃ j dn : Nat, ∃ pv : Bool, ∃ xs : List Int, j ≤ n ∧ i = .int .i64 j ∧ d = .int .i64 dn ∧ Hid (fuRun (l.take j) = (dn, pv, xs)) ∧ wr.ownsRow w.heap.size 3 1 v xs.length (ints xs) ∧ Below w.heap.size w wr) (fun _ _ i _ => n - (intOf i).toNat)
    case atStart => exact ⟨0, 0, false, [], by omega, rfl, rfl, rfl, ho0, hb2⟩
    case round =>
      obtain ⟨j, dn, pv, xs, hj, rfl, rfl, hst, hown, hbel⟩ := hrel
      have hs := hbel.size
      by_cases hlt : j < n
      · obtain ⟨q1, q2, q3, q4, q5, q6, q7, q8, q9⟩ := fu_round HV.out (show j < l.length by omega) hst.out
        obtain ⟨b, off, rfl, hb, hc1, hc2, hc3⟩ := (hr.below hbel).ev (j := j) (by omega)
        obtain ⟨a1, a2⟩ := aft_of q2 q3 q4 q5 q6
        have ha := Lib.hid a2
        have hs7 := Lib.hid q7
        clear q6 q7 a2 a1
        rcases Bool.eq_false_or_eq_true (evt l j).d with hd | hd
        · have hf := Lib.hid (hs7.out.trans (fu_step_up hd))
          have call := Lib.hid (l3After_any dn (evt l j) wr q1)
          rw [hd] at call
          clear q8
          go_wp2_with fail
          refine call.out.mono ?_
          rintro e w2 ⟨rfl, hb2⟩
          go_wp2
          go_roundw
          case rel => exact ⟨j + 1, _, _, xs, by omega, by go_num, by rw [ha.out], hf.out, own_below hown hb2 (Nat.le_refl _), hbel.trans (hb2.mono hs)⟩
          case measure => simp [intOf]; omega
        · obtain ⟨i, rfl, hp⟩ := q8 hd
          obtain ⟨b', off', hA', hb', hp1, hp2, hp3⟩ := (hr.below hbel).ev (j := i) (by omega)
          injection hA' with hA'
          injection hA' with e1 e2 e3
          subst e1 e2
          clear e3
          have call := fun wx => Lib.hid (l3After_any dn (evt l (i + 1)) wx q1)
          rw [hd] at call
          cases pv
          · have hf := Lib.hid (hs7.out.trans (fu_step_no hd))
            rw [hp] at hp3
            clear hp q8
            go_wp2_with fail
            refine (call _).out.mono ?_
            rintro e w2 ⟨rfl, hb2⟩
            go_wp2
            go_roundw
            case rel => exact ⟨i + 1 + 1, _, _, xs, by omega, by go_num, by rw [ha.out], hf.out, own_below hown hb2 (Nat.le_refl _), hbel.trans (hb2.mono hs)⟩
            case measure => simp [intOf]; omega
          · have hf := Lib.hid (hs7.out.trans (fu_step_add hd))
            rw [hp] at hp3
            clear hp q8
            have key : ∀ w1 : World, Below w.heap.size w w1 → w1.cell? ⟨b, off + (i + 1) * 3, none⟩ = wr.cell? ⟨b, off + (i + 1) * 3, none⟩ ∧ w1.cell? ⟨b, off + (i + 1) * 3 + 1, none⟩ = wr.cell? ⟨b, off + (i + 1) * 3 + 1, none⟩ ∧ w1.cell? ⟨b, off + (i + 1) * 3 + 2, none⟩ = wr.cell? ⟨b, off + (i + 1) * 3 + 2, none⟩ := fun w1 h1 =>
              ⟨(h1.cell (p := ⟨b, off + (i + 1) * 3, none⟩) hb).trans (hbel.cell (p := ⟨b, off + (i + 1) * 3, none⟩) hb).symm, (h1.cell (p := ⟨b, off + (i + 1) * 3 + 1, none⟩) hb).trans (hbel.cell (p := ⟨b, off + (i + 1) * 3 + 1, none⟩) hb).symm, (h1.cell (p := ⟨b, off + (i + 1) * 3 + 2, none⟩) hb).trans (hbel.cell (p := ⟨b, off + (i + 1) * 3 + 2, none⟩) hb).symm⟩
            have Key := Lib.hid key
            clear key
            go_wp2_with (at_builtin; refine wpList_app1 (.int .i64 dn) intT hbel hown rfl (Nat.le_refl _) hs (by omega) (by decide) rfl (.tmp 32) (.tmp 34) rfl rfl rfl ?_; intro v1 w1 hown1 hbel1 hg1 hat1; obtain ⟨k1, k2, k3⟩ := Key.out w1 hbel1; rw [hc1] at k1; rw [hc2] at k2; rw [hc3] at k3)
            refine (call _).out.mono ?_
            rintro e w2 ⟨rfl, hb2⟩
            go_wp2
            go_roundw
            case rel => exact ⟨i + 1 + 1, _, _, xs ++ [(dn : Int)], by omega, by go_num, by rw [ha.out], hf.out, by rw [ints_snoc, List.length_append]; exact own_below hown1 hb2 (Nat.le_refl _), hbel1.trans (hb2.mono hbel1.size)⟩
            case measure => simp [intOf]; omega
      · obtain rfl : j = n := by omega
        have hst' := Lib.hid (show fuR l = xs by rw [hR.out, ← List.take_of_length_le (l := l) (i := l.length) (Nat.le_refl _), hn, hst.out])
        obtain ⟨A', c', rfl, _⟩ := own_slice hown
        go_wp2
        go_ret2
        rw [hst'.out]
        exact ⟨A', c', ret_vb HV.out, hown, hbel⟩
  · have hR := Lib.hid (show fuR l = [] by rw [fuR, hv]; rfl)
    go_enter Try.func23, Try.ntmps23
    go_wp2_with fail
    refine (l3Good_any A n c l _ hn hle w.heap.size (by simp) hr1).mono ?_
    rintro e w0 ⟨rfl, hb0⟩
    have ho0 := own_below ho1 hb0 (Nat.le_refl _)
    have hb2 := hb1.trans (hb0.mono (by simp))
    go_wp2
    go_ret2
    rw [hR.out]
    exact ⟨_, 0, ret_vb hv, ho0, hb2⟩
end Go.Proofs.Ythnecaeljpaggaa
