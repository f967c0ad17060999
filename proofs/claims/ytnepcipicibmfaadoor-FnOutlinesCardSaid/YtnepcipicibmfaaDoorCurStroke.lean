/- Contracts of the reference's draws of strokes. Condition: the bytes are at most 2^20. -/
import Derived.Test.YtnepcipicibmfaaDoorCurSpoil
import Derived.Test.YtnepcipicibmfaaDoorParse
namespace Go.Proofs.YtnepcipicibmfaaDoor
open Go.RowKit

theorem vBig_any (A : Option Addr) (n c : Nat) (w : World) (hn : n ≤ maxLen) : Calls Tryd.prog 10 #[.slice A n c] w fun e w' => e = .returned (.bool (decide (65536 < n))) ∧ w = w' := by
  unfold maxLen at hn
  by_cases h : n ≤ 65536
  · go_enter Tryd.func10, Tryd.ntmps10
    go_wp2
    go_ret
    exact ⟨ret_bool (by simp; omega), rfl⟩
  · go_enter Tryd.func10, Tryd.ntmps10
    go_wp2
    go_ret
    exact ⟨ret_bool (by simp; omega), rfl⟩

theorem stroke_any (w : World) (g m : Nat) (h : Cur w g m) (hm : m ≤ 1000000) :
    Calls Tryd.prog 43 #[.pointer (some ⟨g, 0, none⟩)] w fun e w' => ∃ x, e = .returned (.int .i64 x) ∧ goodB x = true ∧ Cur w' g (m + 12) ∧ w.grownBy w' (some g) := by
  have hgl := h.lt
  go_enter Tryd.func43, Tryd.ntmps43
  go_wp2_with fail
  refine (one_any w g m 2 h (by omega) (by omega)).mono ?_
  rintro e w1 ⟨b, rfl, hc1, hg1⟩
  cases b
  · go_wp2_with fail
    refine (pick_any w1 g (m + 2) 4 hc1 (by omega) (by omega)).mono ?_
    rintro e w2 ⟨y, rfl, y0, y1, hc2, hg2⟩
    go_wp2
    go_loopw [3, 4] (fun s n wr => ∃ st j : Nat, s = .int .i64 st ∧ n = .int .i64 j ∧ j ≤ 4 ∧ st < 8388608 ∧ (st = 0 → 1 ≤ j) ∧ Cur wr g (m + 4 + 2 * (4 - j)) ∧ w2.grownBy wr (some g)) (fun _ n _ => (intOf n).toNat)
    case atStart => exact ⟨0, (1 + y).toNat, rfl, by go_num, by omega, by omega, fun _ => by omega, hc2.more (by omega), World.grownBy.refl _ _⟩
    case round =>
      obtain ⟨st, j, rfl, rfl, hj, hst, hz, hcr, hgr⟩ := hrel
      by_cases hlt : 0 < j
      · go_wp2_with fail
        refine (pick_any wr g _ 23 hcr (by omega) (by omega)).mono ?_
        rintro e w3 ⟨y3, rfl, y30, y31, hc3, hg3⟩
        obtain ⟨i, rfl⟩ := Int.eq_ofNat_of_zero_le y30
        have ho := Lib.hid (or_bit st i (by omega) (by omega))
        have hb := Lib.hid (lt_two_pow_or (a := st) (b := i) (n := 23) (by omega) (by omega))
        have hnz := Lib.hid (or_ne_zero st i)
        go_wp2
        go_roundw
        case rel =>
          refine ⟨st ||| 2 ^ i, j - 1, by rw [ho.out], by go_num, by omega, by have := hb.out; omega, fun e => absurd e hnz.out, hc3.more (by omega), hgr.trans hg3⟩
        case measure => simp [intOf]; omega
      · obtain rfl : j = 0 := by omega
        go_wp2
        go_ret
        exact ⟨_, rfl, inB_true (by omega) (by omega), hcr.more (by omega), (hg1.trans hg2).trans hgr⟩
  · go_wp2_with fail
    refine (among_any _ g (m + 2) _ 9 9 [524552, 260, 1048576, 262144, 4194304, 514, 8, 2064, 2097152] _ (hc1.alloc _) (by omega) rfl (by omega) (by omega) (Row.lit w1 _ _) (fun b off e => by have := hc1.lt; injection e with e; injection e with e; omega)).mono ?_
    rintro e w2 ⟨x, rfl, hx, hc2, hg2⟩
    have hx' : goodB x = true := by revert x; decide
    go_wp2
    go_ret
    exact ⟨x, rfl, hx', hc2.more (by omega), hg1.trans ((World.grownBy_alloc w1 _ _).trans hg2)⟩

theorem anyStroke_any (w : World) (g m : Nat) (h : Cur w g m) (hm : m ≤ 100000) :
    Calls Tryd.prog 45 #[.pointer (some ⟨g, 0, none⟩)] w fun e w' => ∃ x, e = .returned (.int .i64 x) ∧ -9223372036854775808 ≤ x ∧ x ≤ 9223372036854775807 ∧ Cur w' g (m + 14) ∧ w.grownBy w' (some g) := by
  go_enter Tryd.func45, Tryd.ntmps45
  go_wp2_with fail
  refine (one_any w g m 12 h (by omega) (by omega)).mono ?_
  rintro e w1 ⟨b, rfl, hc1, hg1⟩
  cases b
  · go_wp2_with fail
    refine (stroke_any w1 g (m + 2) hc1 (by omega)).mono ?_
    rintro e w2 ⟨x, rfl, hx, hc2, hg2⟩
    have hb := good_bd hx
    go_wp2
    go_ret
    exact ⟨x, rfl, by omega, by omega, hc2.more (by omega), hg1.trans hg2⟩
  · go_wp2_with fail
    refine (among_any _ g (m + 2) _ 6 6 [0, -1, 8388608, 8388607, 1, 1099511627776] _ (hc1.alloc _) (by omega) rfl (by omega) (by omega) (Row.lit w1 _ _) (fun b off e => by have := hc1.lt; injection e with e; injection e with e; omega)).mono ?_
    rintro e w2 ⟨x, rfl, hx, hc2, hg2⟩
    have hx' : -9223372036854775808 ≤ x ∧ x ≤ 9223372036854775807 := by revert x; decide
    obtain ⟨hx1, hx2⟩ := hx'
    go_wp2
    go_ret
    exact ⟨x, rfl, hx1, hx2, hc2.more (by omega), hg1.trans ((World.grownBy_alloc w1 _ _).trans hg2)⟩

theorem own_kept {w w' : World} {base g : Nat} {e : TypeId} {size : Nat} {v : Value} {n : Nat} {cs : List Value} (h : w.ownsRow base e size v n cs) (hg : w.grownBy w' (some g)) (hb : g < base) : w'.ownsRow base e size v n cs :=
  h.kept hg (by
    cases hv : v.ownBlock with
    | none => exact Or.inl rfl
    | some k => right; intro e; injection e with e; have := (h.lt k hv).1; omega)

end Go.Proofs.YtnepcipicibmfaaDoor
