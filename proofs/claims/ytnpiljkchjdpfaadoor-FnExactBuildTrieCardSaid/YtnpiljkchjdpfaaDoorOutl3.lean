/- Contracts on outlines: compare, begins with, HasPrefix, CompareOutlines. Condition: lists no longer than maxLen. -/
import Derived.Test.YtnpiljkchjdpfaaDoorOutl2
namespace Go.Proofs.YtnpiljkchjdpfaaDoor
open Go.RowKit Go.Shelf

theorem isNaN_any (x : Int) (w : World) : Calls Tryd.prog 83 #[.int .i64 x] w fun e w' => e = .returned (.bool false) ∧ w = w' := by
  go_enter Tryd.func83, Tryd.ntmps83
  go_wp2
  all_goals go_ret
  all_goals simp

def cmp1 (x y : Int) : Int := if x < y then -1 else if y < x then 1 else 0
theorem cmpCompare_any (x y : Int) (w : World) : Calls Tryd.prog 65 #[.int .i64 x, .int .i64 y] w fun e w' => e = .returned (.int .i64 (cmp1 x y)) ∧ w = w' := by
  by_cases h1 : x < y
  · have e : cmp1 x y = -1 := if_pos h1
    rw [e]
    go_enter Tryd.func65, Tryd.ntmps65
    go_wp2_with (go_at_call 83; refine (isNaN_any _ _).mono ?_; rintro e w' ⟨rfl, rfl⟩)
    go_ret
    exact ⟨rfl, rfl⟩
  · by_cases h2 : y < x
    · have e : cmp1 x y = 1 := by rw [cmp1, if_neg h1, if_pos h2]
      rw [e]
      go_enter Tryd.func65, Tryd.ntmps65
      go_wp2_with (go_at_call 83; refine (isNaN_any _ _).mono ?_; rintro e w' ⟨rfl, rfl⟩)
      go_ret
      exact ⟨rfl, rfl⟩
    · have e : cmp1 x y = 0 := by rw [cmp1, if_neg h1, if_neg h2]
      rw [e]
      go_enter Tryd.func65, Tryd.ntmps65
      go_wp2_with (go_at_call 83; refine (isNaN_any _ _).mono ?_; rintro e w' ⟨rfl, rfl⟩)
      go_ret
      exact ⟨rfl, rfl⟩

set_option maxHeartbeats 1000000 in
theorem slicesCompare_any (A A' : Option Addr) (n m c c' : Nat) (xs ys : List Int) (w : World) (hx : xs.length = n) (hy : ys.length = m) (hn : n ≤ maxLen) (hm : m ≤ maxLen) (B : Nat) (hr : Row w B A (ints xs)) (hr' : Row w B A' (ints ys)) :
    Calls Tryd.prog 43 #[.slice A n c, .slice A' m c'] w fun e w' => e = .returned (.int .i64 (cmpL xs ys)) ∧ w = w' := by
  unfold maxLen at hn hm
  go_enter Tryd.func43, Tryd.ntmps43
  go_wp2
  go_loopw [11, 5, 6, 7, 8] (fun i _ _ _ _ wr => ∃ k : Nat, k ≤ n ∧ k ≤ m ∧ i = .int .i64 k ∧ cmpL xs ys = cmpL (xs.drop k) (ys.drop k) ∧ wr = w) (fun i _ _ _ _ _ => n - (intOf i).toNat)
  case atStart => exact ⟨0, by omega, by omega, rfl, by simp, rfl⟩
  case round =>
    obtain ⟨k, hk, hk2, rfl, ht, rfl⟩ := hrel
    by_cases hlt : k < n
    · obtain ⟨b, off, rfl, hb, hc⟩ := hr.int (k := k) (by omega)
      by_cases hlm : k < m
      · obtain ⟨b', off', rfl, hb', hc'⟩ := hr'.int (k := k) (by omega)
        have hs := cmp_step (a := xs) (b := ys) (k := k) (by omega) (by omega)
        have hcc := fun W => cmpCompare_any (elt xs k) (elt ys k) W
        rw [← ht] at hs
        clear ht
        by_cases g1 : elt xs k < elt ys k
        · have e : cmp1 (elt xs k) (elt ys k) = -1 := if_pos g1
          rw [if_pos g1] at hs
          simp only [e] at hcc
          have H := Lib.hid hs
          clear hs e g1
          go_wp2_with (go_at_call 65; refine (hcc _).mono ?_; rintro e w' ⟨rfl, rfl⟩)
          go_ret
          exact ⟨ret_int H.out.symm, rfl⟩
        · by_cases g2 : elt ys k < elt xs k
          · have e : cmp1 (elt xs k) (elt ys k) = 1 := by rw [cmp1, if_neg g1, if_pos g2]
            rw [if_neg g1, if_pos g2] at hs
            simp only [e] at hcc
            have H := Lib.hid hs
            clear hs e g1 g2
            go_wp2_with (go_at_call 65; refine (hcc _).mono ?_; rintro e w' ⟨rfl, rfl⟩)
            go_ret
            exact ⟨ret_int H.out.symm, rfl⟩
          · have e : cmp1 (elt xs k) (elt ys k) = 0 := by rw [cmp1, if_neg g1, if_neg g2]
            rw [if_neg g1, if_neg g2] at hs
            simp only [e] at hcc
            have H := Lib.hid hs
            clear hs e g1 g2
            go_wp2_with (go_at_call 65; refine (hcc _).mono ?_; rintro e w' ⟨rfl, rfl⟩)
            go_roundw
            case rel => exact ⟨k + 1, by omega, by omega, by go_num, H.out, by trivial⟩
            case measure => simp [intOf]; omega
      · obtain rfl : k = m := by omega
        have he := cmp_end (a := xs) (b := ys) (k := k) (by omega) (by omega) (by omega)
        rw [← ht, if_neg (by omega), if_pos (by omega)] at he
        have H := Lib.hid he
        clear he ht
        go_wp2
        go_ret
        exact ⟨ret_int H.out.symm, rfl⟩
    · obtain rfl : k = n := by omega
      have he := cmp_end (a := xs) (b := ys) (k := k) (by omega) (by omega) (by omega)
      rw [← ht] at he
      by_cases hlm : k < m
      · rw [if_pos (by omega)] at he
        have H := Lib.hid he
        clear he ht
        go_wp2
        go_ret
        exact ⟨ret_int H.out.symm, rfl⟩
      · rw [if_neg (by omega), if_neg (by omega)] at he
        have H := Lib.hid he
        clear he ht
        go_wp2
        go_ret
        exact ⟨ret_int H.out.symm, rfl⟩

set_option maxHeartbeats 1000000 in
theorem l4Compare_any (A A' : Option Addr) (n m c c' : Nat) (xs ys : List Int) (w : World) (hx : xs.length = n) (hy : ys.length = m) (hn : n ≤ maxLen) (hm : m ≤ maxLen) (B : Nat) (hr : Row w B A (ints xs)) (hr' : Row w B A' (ints ys)) :
    Calls Tryd.prog 64 #[.slice A n c, .slice A' m c'] w fun e w' => e = .returned (.int .i64 (cmpL xs ys)) ∧ ∃ k, w' = w.drewN k := by
  unfold maxLen at hn hm
  go_enter Tryd.func64, Tryd.ntmps64
  go_wp2
  go_loopw [5] (fun i wr => ∃ k : Nat, k ≤ n ∧ k ≤ m ∧ i = .int .i64 k ∧ cmpL xs ys = cmpL (xs.drop k) (ys.drop k) ∧ ∃ q, wr = w.drewN q) (fun i _ => n - (intOf i).toNat)
  case atStart => exact ⟨0, by omega, by omega, rfl, by simp, 0, rfl⟩
  case round =>
    obtain ⟨k, hk, hk2, rfl, ht, q, rfl⟩ := hrel
    by_cases hlt : k < n
    · obtain ⟨b, off, rfl, hb, hc⟩ := hr.int (k := k) (by omega)
      by_cases hlm : k < m
      · obtain ⟨b', off', rfl, hb', hc'⟩ := hr'.int (k := k) (by omega)
        have hs := cmp_step (a := xs) (b := ys) (k := k) (by omega) (by omega)
        have h1 : (0 : Int) ≤ (k : Int) := by omega
        have h2 : (k : Int) < (n : Int) := by omega
        have h3 : (k : Int) < (m : Int) := by omega
        rw [← ht] at hs
        clear ht
        by_cases g1 : elt xs k < elt ys k
        · rw [if_pos g1] at hs
          have e : decide (elt xs k < elt ys k) = true := by simp [g1]
          have H := Lib.hid hs
          clear hs g1
          go_wp2
          go_quiet (fail)
          go_wp2
          go_ret
          exact ⟨ret_int H.out.symm, _, World.drewN_drewN ..⟩
        · have e : decide (elt xs k < elt ys k) = false := by simp; omega
          by_cases g2 : elt ys k < elt xs k
          · rw [if_neg g1, if_pos g2] at hs
            have e2 : decide (elt ys k < elt xs k) = true := by simp [g2]
            have H := Lib.hid hs
            clear hs g1 g2
            go_wp2
            go_quiet (fail)
            go_wp2
            go_quiet (fail)
            go_wp2
            go_ret
            exact ⟨ret_int H.out.symm, _, by rw [World.drewN_drewN, World.drewN_drewN]⟩
          · rw [if_neg g1, if_neg g2] at hs
            have e2 : decide (elt ys k < elt xs k) = false := by simp; omega
            have H := Lib.hid hs
            clear hs g1 g2
            go_wp2
            go_quiet (fail)
            go_wp2
            go_quiet (fail)
            go_wp2
            go_roundw
            case rel => exact ⟨k + 1, by omega, by omega, by go_num, H.out, _, rfl⟩
            case measure => simp [intOf]; omega
      · obtain rfl : k = m := by omega
        have he := cmp_end (a := xs) (b := ys) (k := k) (by omega) (by omega) (by omega)
        rw [← ht, if_neg (by omega), if_pos (by omega)] at he
        have H := Lib.hid he
        clear he ht
        go_wp2
        go_ret
        exact ⟨ret_int H.out.symm, q, rfl⟩
    · obtain rfl : k = n := by omega
      have he := cmp_end (a := xs) (b := ys) (k := k) (by omega) (by omega) (by omega)
      rw [← ht] at he
      by_cases hlm : k < m
      · rw [if_pos (by omega)] at he
        have H := Lib.hid he
        clear he ht
        go_wp2
        go_ret
        exact ⟨ret_int H.out.symm, q, rfl⟩
      · rw [if_neg (by omega), if_neg (by omega)] at he
        have H := Lib.hid he
        clear he ht
        go_wp2
        go_ret
        exact ⟨ret_int H.out.symm, q, rfl⟩

theorem starts_len {o p : List Int} (h : ¬ p.length ≤ o.length) : startsB o p = false := by simp [startsB, h]
theorem starts_eq {o p : List Int} (h : p.length ≤ o.length) : startsB o p = (o.take p.length == p) := by simp [startsB, h]

def bothB (o p : List Int) : Bool := outB o && outB p
def preB (o p : List Int) : Bool := bothB o p && startsB o p
def cmpR (o p : List Int) : Int := if bothB o p then cmpL o p else 0
theorem both_l {o p : List Int} (h : outB o = false) : bothB o p = false ∧ preB o p = false ∧ cmpR o p = 0 := by simp [bothB, preB, cmpR, h]
theorem both_r {o p : List Int} (h : outB p = false) : bothB o p = false ∧ preB o p = false ∧ cmpR o p = 0 := by simp [bothB, preB, cmpR, h]
theorem both_t {o p : List Int} (h : outB o = true) (h' : outB p = true) : bothB o p = true ∧ preB o p = startsB o p ∧ cmpR o p = cmpL o p := by simp [bothB, preB, cmpR, h, h']
theorem ret_bb {x y x' y' : Bool} (h : x = x') (h' : y = y') : Ending.returned (.tuple #[.bool x, .bool y]) = .returned (.tuple #[.bool x', .bool y']) := by rw [h, h']
theorem ret_ib {x x' : Int} {y y' : Bool} (h : x = x') (h' : y = y') : Ending.returned (.tuple #[.int .i64 x, .bool y]) = .returned (.tuple #[.int .i64 x', .bool y']) := by rw [h, h']

end Go.Proofs.YtnpiljkchjdpfaaDoor
