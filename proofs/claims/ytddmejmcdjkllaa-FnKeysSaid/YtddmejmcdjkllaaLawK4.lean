/- The walk of the law FnKeys. No condition. -/
import Derived.Test.YtddmejmcdjkllaaLawK3
import Derived.Test.YtddmejmcdjkllaaStrokeMerge
import Derived.Test.YtddmejmcdjkllaaNewS
namespace Go.Proofs.Ytddmejmcdjkllaa
open Go.RowKit

theorem good_new (xs : List Int) : goodB (newVal xs) = newOk xs := by
  have := newVal_bd xs
  unfold newOk
  by_cases h : newVal xs = 0
  · rw [h]; rfl
  · rw [goodB, inB_true (by omega) (by omega)]
    simp [h]
theorem keysR_has {s : Int} {k : Nat} (h : k < (keysR s).length) : hasB s (elt (keysR s) k) = true := by
  have hm := elt_in (keysR s) k h
  generalize elt (keysR s) k = x at hm ⊢
  unfold keysR at hm
  split at hm
  · rename_i g
    have h1 := keysL_mem hm
    rw [hasB, g, keys_bit hm, keyB, inB_true h1.1 h1.2]
    rfl
  · cases hm
theorem new_back {xs : List Int} (h : newOk xs = true) : newOk (keysR (newVal xs)) = true ∧ newVal (keysR (newVal xs)) = newVal xs ∧ (keysR (newVal xs)).length = xs.length := by
  have g := (good_new xs).trans h
  have e : keysR (newVal xs) = keysL (newVal xs) := by rw [keysR, if_pos g]
  have hb := newVal_bd xs
  have hk := new_keys (s := newVal xs) hb.1 hb.2
  rw [e]
  refine ⟨?_, hk, new_len h⟩
  rw [newOk, hk]
  exact h
theorem merge_len {a b : Int} (h : mergeOk a b = true) : (keysR a).length + (keysR b).length = (keysR (mergeVal a b)).length ∧ mergeVal a b = bits .or .i64 a b := by
  have e : mergeVal a b = bits .or .i64 a b := by rw [mergeVal, if_pos h]
  rw [mergeOk, Bool.and_eq_true, Bool.and_eq_true] at h
  obtain ⟨⟨ga, gb⟩, hz⟩ := h
  have ba := good_bd ga
  have bb := good_bd gb
  obtain ⟨x, rfl⟩ := Int.eq_ofNat_of_zero_le (show 0 ≤ a by omega)
  obtain ⟨y, rfl⟩ := Int.eq_ofNat_of_zero_le (show 0 ≤ b by omega)
  rw [and_nat _ _ (by omega) (by omega), beq_iff_eq] at hz
  have hz' : x &&& y = 0 := by omega
  have ho := or_nat x y (by omega) (by omega)
  have hlt : x ||| y < 2 ^ 23 := Nat.or_lt_two_pow (by omega) (by omega)
  have hge : x ≤ x ||| y := Nat.left_le_or
  refine ⟨?_, e⟩
  rw [e, ho, keysR, if_pos ga, keysR, if_pos gb, keysR, if_pos (show goodB ((x ||| y : Nat) : Int) = true from inB_true (by omega) (by omega))]
  exact (keys_merge hz').symm

set_option maxRecDepth 100000 in
set_option maxHeartbeats 2000000 in
theorem lawKeys (A : Option Addr) (n c : Nat) (w : World) (hn : n ≤ maxLen) (hcode : n ≤ 65536 → Code w A n) : Calls Try.prog 8 #[.slice A n c] w fun e w' => e = .returned (.bool true) ∧ Below w.heap.size w w' := by
  by_cases hb : 65536 < n
  · have hd : decide (65536 < n) = true := by simpa using hb
    go_enter Try.func8, Try.ntmps8
    go_wp2_with (go_at_call 25; refine (vBig_any A n c _ hn).mono ?_; rintro e w' ⟨rfl, rfl⟩)
    go_ret
    exact ⟨rfl, Below.refl _ _⟩
  · have hd : decide (65536 < n) = false := by simpa using hb
    have hc := hcode (by omega)
    go_enter Try.func8, Try.ntmps8
    go_wp2_with fail
    refine (vBig_any A n c w hn).mono ?_
    rintro e w' ⟨rfl, rfl⟩
    go_wp2_with fail
    refine (drawNewStroke_any A n c w hc).mono ?_
    rintro e w1 ⟨A1, n1, c1, xs, rfl, hxl, hn1, hr1, b1⟩
    go_wp2_with fail
    refine (implNew_any A1 n1 c1 xs w1 _ hxl (by omega) hr1).mono ?_
    rintro e w' ⟨rfl, rfl⟩
    go_wp2_with fail
    refine (specNew_any A1 n1 c1 xs w1 _ hxl (by omega) hr1).mono ?_
    rintro e w' ⟨rfl, rfl⟩
    go_wp2_with fail
    refine (implKeysOfBig_any _ w1).mono ?_
    rintro e w2 ⟨A2, c2, rfl, ho2, hb2⟩
    have b2 := b1.trans (hb2.mono b1.size)
    have r2 := Row.of_own ho2
    have hl2 := keysR_len (newVal xs)
    clear ho2 hr1
    go_wp2
    go_loop [10] (fun i => ∃ j : Nat, j ≤ (keysR (newVal xs)).length ∧ i = .int .i64 j) (fun i => (keysR (newVal xs)).length - (intOf i).toNat)
    case atStart => exact ⟨0, by omega, rfl⟩
    case round =>
      obtain ⟨j, hj, rfl⟩ := hrel
      by_cases hlt : j < (keysR (newVal xs)).length
      · obtain ⟨b, off, rfl, hbb, hcc⟩ := r2.int hlt
        have hh := keysR_has hlt
        go_wp2_with (go_at_call 27; refine (implHasKey_any _ _ _).mono ?_; rintro e w' ⟨rfl, rfl⟩)
        go_round
        case rel => exact ⟨j + 1, by omega, by go_num⟩
        case measure => simp [intOf]; omega
      · obtain rfl : j = (keysR (newVal xs)).length := by omega
        go_wp2_with fail
        refine (drawMergeStrokes_any A n c w2 (hc.below b2)).mono ?_
        rintro e w3 ⟨x, y, rfl, hb3⟩
        have b3 := b2.trans (hb3.mono b2.size)
        go_wp2_with fail
        refine (implMerge_any x y w3).mono ?_
        rintro e w' ⟨rfl, rfl⟩
        go_wp2_with fail
        refine (specMerge_any x y w3).mono ?_
        rintro e w' ⟨rfl, rfl⟩
        go_wp2_with fail
        refine (drawHasKey_any A n c w3 (hc.below b3)).mono ?_
        rintro e w4 ⟨s, k, rfl, hb4⟩
        have b4 := b3.trans (hb4.mono b3.size)
        go_wp2_with fail
        refine (implHasKey_any s k w4).mono ?_
        rintro e w' ⟨rfl, rfl⟩
        go_wp2_with fail
        refine (specHasKey_any s k w4).mono ?_
        rintro e w' ⟨rfl, rfl⟩
        go_wp2_with fail
        refine (implKeysOfBig_any x w4).mono ?_
        rintro e w5 ⟨A5, c5, rfl, _, hb5⟩
        have b5 := b4.trans (hb5.mono b4.size)
        go_wp2_with fail
        refine (implKeysOfBig_any y w5).mono ?_
        rintro e w6 ⟨A6, c6, rfl, _, hb6⟩
        have b6 := b5.trans (hb6.mono b5.size)
        go_wp2_with fail
        refine (implKeysOfBig_any _ w6).mono ?_
        rintro e w7 ⟨A7, c7, rfl, _, hb7⟩
        have b7 := b6.trans (hb7.mono b6.size)
        have r7 : Row w7 w2.heap.size A2 (ints (keysR (newVal xs))) := (((((r2.below hb3).below_le hb4 hb3.size).below_le hb5 (Nat.le_trans hb3.size hb4.size)).below_le hb6 (Nat.le_trans hb3.size (Nat.le_trans hb4.size hb5.size))).below_le hb7 (Nat.le_trans hb3.size (Nat.le_trans hb4.size (Nat.le_trans hb5.size hb6.size))))
        go_wp2_with fail
        refine (implNew_any A2 _ c2 (keysR (newVal xs)) w7 _ rfl (by omega) r7).mono ?_
        rintro e w' ⟨rfl, rfl⟩
        have g := good_new xs
        have q1 := @new_back xs
        have q2 := @merge_len x y
        have la := keysR_len x
        have lb := keysR_len y
        clear hc b1 b2 b3 b4 b5 b6 hb2 hb3 hb4 hb5 hb6 hb7 r2 r7
        rcases Bool.eq_false_or_eq_true (newOk xs) with o | o
        · obtain ⟨f1, f2, f3⟩ := q1 o
          have F2 : (newVal (keysR (newVal xs)) == newVal xs) = true := by rw [f2]; simp
          have F3 : (((keysR (newVal xs)).length : Int) == (n1 : Int)) = true := by rw [f3, hxl]; simp
          clear f2 f3 hxl
          rcases Bool.eq_false_or_eq_true (mergeOk x y) with m | m
          · obtain ⟨m1, m2⟩ := q2 m
            have M1 : (((keysR x).length : Int) + ((keysR y).length : Int) == ((keysR (mergeVal x y)).length : Int)) = true := by rw [beq_iff_eq]; omega
            have M2 : (mergeVal x y == bits .or .i64 x y) = true := by rw [m2]; simp
            clear q1 q2 m1 m2
            go_wp2
            go_ret
            exact ⟨rfl, b7⟩
          · clear q1 q2
            go_wp2
            go_ret
            exact ⟨rfl, b7⟩
        · clear hxl
          rcases Bool.eq_false_or_eq_true (mergeOk x y) with m | m
          · obtain ⟨m1, m2⟩ := q2 m
            have M1 : (((keysR x).length : Int) + ((keysR y).length : Int) == ((keysR (mergeVal x y)).length : Int)) = true := by rw [beq_iff_eq]; omega
            have M2 : (mergeVal x y == bits .or .i64 x y) = true := by rw [m2]; simp
            clear q1 q2 m1 m2
            go_wp2
            go_ret
            exact ⟨rfl, b7⟩
          · clear q1 q2
            go_wp2
            go_ret
            exact ⟨rfl, b7⟩
end Go.Proofs.Ytddmejmcdjkllaa
