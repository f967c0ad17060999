/- The walk of the law FnChords. No condition. -/
import Derived.Test.YthnecaeljpaggaaCurEv
import Derived.Test.YthnecaeljpaggaaVInts
import Derived.Test.YthnecaeljpaggaaEvLu
import Derived.Test.YthnecaeljpaggaaEvHeld
namespace Go.Proofs.Ythnecaeljpaggaa
open Go.RowKit

theorem chordTimes_at (iv : Int) (n k : Nat) (h : k < n) : elt (chordTimes iv n) k = (2 * (k : Int) + 1) * iv := by simp [elt, chordTimes, h]
theorem chordTimes_len (iv : Int) (n : Nat) : (chordTimes iv n).length = n := by simp [chordTimes]
/-- What the events of chords give. -/
theorem chord_all {iv : Int} {l : List Int} (h : chordOk iv l = true) : evOk (chordR iv l) = true ∧ luR (chordR iv l) = l ∧ luT (chordR iv l) = chordTimes iv l.length ∧ fuR (chordR iv l) = l ∧ heldR (chordR iv l) = [] := by
  obtain ⟨h1, h2, h3, h4, h5, _⟩ := chord_good h
  have e : chordR iv l = chordL iv l := by rw [chordR, if_pos h]
  rw [e]
  refine ⟨h1, by rw [luR, if_pos h1, h2], by rw [luT, if_pos h1, h3], by rw [fuR, if_pos h1, h5], ?_⟩
  rw [heldR, if_pos h1, h4]
  decide

set_option maxRecDepth 100000 in
set_option maxHeartbeats 4000000 in
theorem lawChords (A : Option Addr) (n c : Nat) (w : World) (hn : n ≤ maxLen) (hcode : n ≤ 65536 → Code w A n) : Calls Try.prog 9 #[.slice A n c] w fun e w' => e = .returned (.bool true) ∧ Below w.heap.size w w' := by
  by_cases hb : 65536 < n
  · have hd : decide (65536 < n) = true := by simpa using hb
    go_enter Try.func9, Try.ntmps9
    go_wp2_with (go_at_call 32; refine (vBig_any A n c _ hn).mono ?_; rintro e w' ⟨rfl, rfl⟩)
    go_ret
    exact ⟨rfl, Below.refl _ _⟩
  · have hd : decide (65536 < n) = false := by simpa using hb
    have hc := hcode (by omega)
    go_enter Try.func9, Try.ntmps9
    go_wp2_with fail
    refine (vBig_any A n c w hn).mono ?_
    rintro e w' ⟨rfl, rfl⟩
    go_wp2_with fail
    refine (drawChord_any A n c w hc).mono ?_
    rintro e w1 ⟨A1, n1, c1, xs, iv, rfl, hxl, hn1, hr1, hiv0, hiv1, b1⟩
    go_wp2_with fail
    refine (implChord_any A1 n1 c1 xs iv w1 hxl (by omega) hr1).mono ?_
    rintro e w2 ⟨A2, c2, rfl, ho2, hb2⟩
    have b2 := b1.trans (hb2.mono b1.size)
    have r1 := (hr1.below hb2)
    have hlen := chordR_len iv xs
    go_wp2_with fail
    refine (specChord_any A1 n1 c1 xs iv w2 hxl (by omega) (r1.mono hb2.size)).mono ?_
    rintro e w3 ⟨A3, c3, rfl, ho3, hb3⟩
    have b3 := b2.trans (hb3.mono b2.size)
    have r1 := r1.below_le hb3 hb2.size
    have r2 := (Row.of_own ho2).below hb3
    have r3 := Row.of_own ho3
    have hs3 := hb3.size
    have hs2 := hb2.size
    go_wp2
    go_loopw [9] (fun i wr => ∃ k : Nat, k ≤ (chordR iv xs).length ∧ i = .int .i64 k ∧ ∃ m, wr = w3.drewN m) (fun i _ => (chordR iv xs).length - (intOf i).toNat)
    case atStart => exact ⟨0, by omega, rfl, 0, rfl⟩
    case round =>
      obtain ⟨k, hk, rfl, m, rfl⟩ := hrel
      by_cases hlt : k < (chordR iv xs).length
      · obtain ⟨b, off, rfl, hbb, hd1, hd2, hd3⟩ := r2.ev hlt
        obtain ⟨b', off', rfl, hbb', he1, he2, he3⟩ := r3.ev hlt
        have h1 : (0 : Int) ≤ (k : Int) := by omega
        have h2 : (k : Int) < ((chordR iv xs).length : Int) := by omega
        go_wp2
        go_quiet (fail)
        go_wp2
        go_roundw
        case rel => exact ⟨k + 1, by omega, by go_num, _, rfl⟩
        case measure => simp [intOf]; omega
      · obtain rfl : k = (chordR iv xs).length := by omega
        have b4 : Below w.heap.size w (w3.drewN m) := below_drewN b3 m
        have r1 : Row (w3.drewN m) (w3.drewN m).heap.size A1 (ints xs) := (r1.mono (Nat.le_trans hs2 hs3)).keep fun _ _ => rfl
        have r2 : Row (w3.drewN m) (w3.drewN m).heap.size A2 (evs (chordR iv xs)) := (r2.mono hs3).keep fun _ _ => rfl
        clear hr1 r3 ho2 ho3 hb2 hb3 hs2 hs3
        rcases Bool.eq_false_or_eq_true (chordOk iv xs) with hok | hok
        · obtain ⟨q1, q2, q3, q4, q5⟩ := chord_all hok
          obtain ⟨hiv2, hiv3⟩ := in_bd (chordOk_iff hok).1
          have hm : (chordR iv xs).length ≤ maxLen := by unfold maxLen; omega
          have kL : ∀ wx, Row wx wx.heap.size A2 (evs (chordR iv xs)) → Calls Try.prog 29 #[.slice A2 (chordR iv xs).length c2] wx fun e w' => ∃ A' c', e = .returned (.tuple #[.slice A' n1 c', .bool true]) ∧ w'.ownsRow wx.heap.size 3 1 (.slice A' n1 c') n1 (ints xs) ∧ Below wx.heap.size wx w' := fun wx hr => by
            have h := implLast_any A2 _ c2 (chordR iv xs) wx rfl hm hr
            rw [q2, q1, hxl] at h
            exact h
          have kF : ∀ wx, Row wx wx.heap.size A2 (evs (chordR iv xs)) → Calls Try.prog 24 #[.slice A2 (chordR iv xs).length c2] wx fun e w' => ∃ A' c', e = .returned (.tuple #[.slice A' n1 c', .bool true]) ∧ w'.ownsRow wx.heap.size 3 1 (.slice A' n1 c') n1 (ints xs) ∧ Below wx.heap.size wx w' := fun wx hr => by
            have h := implFu_any A2 _ c2 (chordR iv xs) wx rfl hm hr
            rw [q4, q1, hxl] at h
            exact h
          have kH : ∀ wx, Row wx wx.heap.size A2 (evs (chordR iv xs)) → Calls Try.prog 27 #[.slice A2 (chordR iv xs).length c2] wx fun e w' => ∃ A' c', e = .returned (.tuple #[.slice A' 0 c', .bool true]) ∧ Below wx.heap.size wx w' := fun wx hr => by
            have h := implHeld_any A2 _ c2 (chordR iv xs) wx rfl hm hr
            rw [q5, q1] at h
            exact h.mono fun e w' ⟨A', c', h1, _, h2⟩ => ⟨A', c', h1, h2⟩
          have kT : ∀ wx, Row wx wx.heap.size A2 (evs (chordR iv xs)) → Calls Try.prog 31 #[.slice A2 (chordR iv xs).length c2] wx fun e w' => ∃ A' c', e = .returned (.tuple #[.slice A' n1 c', .bool true]) ∧ w'.ownsRow wx.heap.size 3 1 (.slice A' n1 c') n1 (ints (chordTimes iv n1)) ∧ Below wx.heap.size wx w' := fun wx hr => by
            have h := implTimes_any A2 _ c2 (chordR iv xs) wx rfl hm hr
            rw [q3, q1, hxl, chordTimes_len] at h
            exact h
          have KL := Lib.hid kL
          have KF := Lib.hid kF
          have KH := Lib.hid kH
          have KT := Lib.hid kT
          clear kL kF kH kT q1 q2 q3 q4 q5
          go_wp2_with fail
          refine (KL.out _ r2).mono ?_
          rintro e w5 ⟨Aa, ca, rfl, hoa, hb5⟩
          have b5 := b4.trans (hb5.mono b4.size)
          have r1 := (r1.below_le hb5 (Nat.le_refl _)).mono hb5.size
          have r2 := (r2.below_le hb5 (Nat.le_refl _)).mono hb5.size
          have ra := Row.of_own hoa
          clear hoa
          go_wp2_with fail
          refine (KF.out _ r2).mono ?_
          rintro e w6 ⟨Ab, cb, rfl, hob, hb6⟩
          have b6 := b5.trans (hb6.mono b5.size)
          have r1 := (r1.below_le hb6 (Nat.le_refl _)).mono hb6.size
          have r2 := (r2.below_le hb6 (Nat.le_refl _)).mono hb6.size
          have ra := (ra.below_le hb6 (Nat.le_refl _)).mono hb6.size
          have rb := Row.of_own hob
          clear hob
          go_wp2_with fail
          refine (KH.out _ r2).mono ?_
          rintro e w7 ⟨Ah, ch, rfl, hb7⟩
          have b7 := b6.trans (hb7.mono b6.size)
          have r1 := (r1.below_le hb7 (Nat.le_refl _)).mono hb7.size
          have r2 := (r2.below_le hb7 (Nat.le_refl _)).mono hb7.size
          have ra := (ra.below_le hb7 (Nat.le_refl _)).mono hb7.size
          have rb := (rb.below_le hb7 (Nat.le_refl _)).mono hb7.size
          go_wp2_with fail
          refine (KT.out _ r2).mono ?_
          rintro e w8 ⟨At, ct, rfl, hot, hb8⟩
          have b8 := b7.trans (hb8.mono b7.size)
          have r1 := (r1.below_le hb8 (Nat.le_refl _)).mono hb8.size
          have ra := (ra.below_le hb8 (Nat.le_refl _)).mono hb8.size
          have rb := (rb.below_le hb8 (Nat.le_refl _)).mono hb8.size
          have rt := Row.of_own hot
          clear hot r2 KL KF KH KT
          go_wp2
          go_loop [18] (fun i => ∃ k : Nat, k ≤ n1 ∧ i = .int .i64 k) (fun i => n1 - (intOf i).toNat)
          case atStart => exact ⟨0, by omega, rfl⟩
          case round =>
            obtain ⟨k, hk, rfl⟩ := hrel
            by_cases hlt : k < n1
            · obtain ⟨bq, oq, rfl, hbq, hcc⟩ := rt.int (k := k) (by rw [chordTimes_len]; exact hlt)
              rw [chordTimes_at iv n1 k hlt] at hcc
              obtain ⟨hm0, hm1⟩ := mul_bd (a := 2 * (k : Int) + 1) (b := iv) (A := 200) (B := 1000) (by omega) (by omega) hiv2 hiv3
              go_wp2
              go_round
              case rel => exact ⟨k + 1, by omega, by go_num⟩
              case measure => simp [intOf]; omega
            · obtain rfl : k = n1 := by omega
              go_wp2_with fail
              refine (vInts_below Aa A1 k ca c1 xs w8 hxl (by omega) _ ra r1).mono ?_
              rintro e w9 ⟨rfl, hb9⟩
              have b9 := b8.trans (hb9.mono b8.size)
              have r1 := (r1.below_le hb9 (Nat.le_refl _))
              have rb := (rb.below_le hb9 (Nat.le_refl _))
              go_wp2_with fail
              refine (vInts_below Ab A1 k cb c1 xs w9 hxl (by omega) _ rb r1).mono ?_
              rintro e w10 ⟨rfl, hb10⟩
              have b10 := b9.trans (hb10.mono b9.size)
              go_wp2
              go_ret
              exact ⟨rfl, b10⟩
        · have hz : (chordR iv xs).length = 0 := by rw [chordR, hok]; rfl
          go_wp2
          go_ret
          exact ⟨rfl, b4⟩
end Go.Proofs.Ythnecaeljpaggaa
