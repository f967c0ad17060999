/- Contracts on the plain words of a translation. Condition: texts no longer than 2^20. -/
import Derived.Test.YtkgphkpckcfihaaDoorTr
namespace Go.Proofs.YtkgphkpckcfihaaDoor
open Go.RowKit Go.Shelf

theorem eq1 (k : Int) : (k == 1) = decide (k = 1) := by rw [Bool.eq_iff_iff]; simp
set_option maxHeartbeats 1000000 in
theorem specPlain_any (A : Option Addr) (n c : Nat) (l : List At) (w : World) (hn : l.length = n) (hm : n ≤ maxLen) (hs : ∀ a ∈ l, a.t.size ≤ 1048576) (B : Nat) (hB : B ≤ w.heap.size) (hr : Row w B A (atoms l)) :
    Calls Tryd.prog 25 #[.slice A n c] w fun e w' => ∃ A' c', e = .returned (.tuple #[.slice A' (plR l).length c', .bool (trOk l)]) ∧ w'.ownsRow w.heap.size 9 1 (.slice A' (plR l).length c') (plR l).length (strs (plR l)) ∧ Below w.heap.size w w' := by
  have b0 := (Below.refl w.heap.size w).alloc (Nat.le_refl _) (.cells #[] 9)
  have o0 : (w.alloc (.cells #[] 9)).ownsRow w.heap.size 9 1 (.slice (some ⟨w.heap.size, 0, none⟩) 0 0) 0 (strs []) := World.ownsRow_made _ _ _ (Nat.le_refl _) (by unfold maxLen; omega) (by simp)
  have hL := Lib.hid (fun W hB hr => l5List_any A n c l W hn hm hs B hB hr)
  rcases Bool.eq_false_or_eq_true (trOk l) with g | g
  · obtain ⟨h1, h2, h3, _⟩ := trOk_iff g
    have hR := Lib.hid (plR_yes g)
    rw [g] at hL
    have G := Lib.hid g
    clear g
    go_enter Tryd.func25, Tryd.ntmps25
    go_wp2_with fail
    refine (hL.out _ (by simp; omega) (hr.below_le b0 hB)).mono ?_
    rintro e w1 ⟨rfl, hb1⟩
    have o1 := own_below o0 hb1 (Nat.le_refl _)
    have b1 := b0.trans (hb1.mono (by simp))
    clear o0
    go_wp2
    go_loopw [4, 5] (fun v i wr => ∃ k : Nat, k ≤ n ∧ i = .int .i64 k ∧ wr.ownsRow w.heap.size 9 1 v (plainT (l.take k)).length (strs (plainT (l.take k))) ∧ Below w.heap.size w wr) (fun _ i _ => n - (intOf i).toNat)
    case atStart => exact ⟨0, by omega, rfl, o1, b1⟩
    case round =>
      obtain ⟨k, hk, rfl, hown, hbel⟩ := hrel
      have hsz := hbel.size
      by_cases hlt : k < n
      · obtain ⟨b, off, rfl, hb, hc1, hc2⟩ := (hr.below_le hbel hB).atm (j := k) (by omega)
        have hp := Lib.hid (plainT_succ l k (by omega))
        have hpl : (plainT (l.take k)).length ≤ k := Nat.le_trans (plainT_len _) (by rw [List.length_take]; omega)
        have e1 := eq1 (att l k).k
        by_cases hk1 : (att l k).k = 1
        · have hp2 := Lib.hid (hp.out.trans (if_pos hk1))
          have e2 : ((att l k).k == 1) = true := by simpa using hk1
          clear hp e1 hk1
          go_wp2_with (at_builtin; refine wpList_app1 (.string (att l k).t) strT hbel hown rfl (Nat.le_refl _) hsz (by omega) (by decide) rfl (.tmp 23) (.tmp 29) rfl rfl rfl ?_; intro v3 w3 ho3 b3 _ _)
          go_roundw
          case rel => exact ⟨k + 1, by omega, by go_num, by rw [hp2.out, List.length_append]; simpa [strs] using ho3, b3⟩
          case measure => simp [intOf]; omega
        · have hp2 := Lib.hid (hp.out.trans (if_neg hk1))
          have e2 : ((att l k).k == 1) = false := by simpa using hk1
          clear hp e1 hk1
          go_wp2
          go_roundw
          case rel => exact ⟨k + 1, by omega, by go_num, by rw [hp2.out]; exact hown, hbel⟩
          case measure => simp [intOf]; omega
      · obtain rfl : k = n := by omega
        rw [← hn, List.take_length, ← hR.out] at hown
        obtain ⟨A1, c1, rfl, _⟩ := own_slice hown
        go_wp2
        go_ret2
        exact ⟨A1, c1, by rw [G.out]; rfl, hown, hbel⟩
  · have hR := Lib.hid (plR_no g)
    rw [g] at hL
    have G := Lib.hid g
    clear g
    go_enter Tryd.func25, Tryd.ntmps25
    go_wp2_with fail
    refine (hL.out _ (by simp; omega) (hr.below_le b0 hB)).mono ?_
    rintro e w1 ⟨rfl, hb1⟩
    have o1 := own_below o0 hb1 (Nat.le_refl _)
    go_wp2
    go_ret2
    exact ⟨_, _, by rw [G.out, hR.out]; rfl, by rw [hR.out]; exact o1, b0.trans (hb1.mono (by simp))⟩

set_option maxHeartbeats 1000000 in
theorem implPlain_any (A : Option Addr) (n c : Nat) (l : List At) (w : World) (hn : l.length = n) (hm : n ≤ maxLen) (hs : ∀ a ∈ l, a.t.size ≤ 1048576) (B : Nat) (hB : B ≤ w.heap.size) (hr : Row w B A (atoms l)) :
    Calls Tryd.prog 24 #[.slice A n c] w fun e w' => ∃ A' c', e = .returned (.tuple #[.slice A' (plR l).length c', .bool (trOk l)]) ∧ w'.ownsRow w.heap.size 9 1 (.slice A' (plR l).length c') (plR l).length (strs (plR l)) ∧ Below w.heap.size w w' := by
  have hL := Lib.hid (implFmtTr_any A n c l w hn hm hs B hB hr)
  rcases Bool.eq_false_or_eq_true (trOk l) with g | g
  · obtain ⟨h1, h2, h3, _⟩ := trOk_iff g
    have hR := Lib.hid (plR_yes g)
    rw [g] at hL
    have G := Lib.hid g
    clear g
    go_enter Tryd.func24, Tryd.ntmps24
    go_wp2_with fail
    refine hL.out.mono ?_
    rintro e w1 ⟨rfl, b1⟩
    have b1s := b1.size
    go_wp2
    go_loopw [6, 8, 19] (fun v _ i wr => ∃ k : Nat, k ≤ n ∧ i = .int .i64 k ∧ wr.ownsRow w1.heap.size 9 1 v (plainT (l.take k)).length (strs (plainT (l.take k))) ∧ Below w1.heap.size w1 wr) (fun _ _ i _ => n - (intOf i).toNat)
    case atStart => exact ⟨0, by omega, rfl, World.ownsRow_made _ _ _ (Nat.le_refl _) (by unfold maxLen; omega) (by simp), (Below.refl _ _).alloc (Nat.le_refl _) _⟩
    case round =>
      obtain ⟨k, hk, rfl, hown, hbel⟩ := hrel
      have hsz := hbel.size
      by_cases hlt : k < n
      · obtain ⟨b, off, rfl, hb, hc1, hc2⟩ := ((hr.below_le b1 hB).below_le hbel (by omega)).atm (j := k) (by omega)
        have hp := Lib.hid (plainT_succ l k (by omega))
        have hpl : (plainT (l.take k)).length ≤ k := Nat.le_trans (plainT_len _) (by rw [List.length_take]; omega)
        have e1 := eq1 (att l k).k
        have hbelA := hbel.alloc hsz (.cells #[.int .i64 (att l k).k, .string (att l k).t] 23)
        have hownA := hown.alloc (.cells #[.int .i64 (att l k).k, .string (att l k).t] 23)
        have hszA := hbelA.size
        by_cases hk1 : (att l k).k = 1
        · have hp2 := Lib.hid (hp.out.trans (if_pos hk1))
          rw [hk1] at hc1 hbelA hownA hszA
          clear hp e1 hk1
          go_wp2_with (at_builtin; refine wpList_app1H (.string (att l k).t) strT hbelA hownA rfl (Nat.le_refl _) hszA (by omega) (by decide) rfl (.tmp 26) (.tmp 29) rfl (wr.heap.size + 1) (by simp) rfl rfl ?_; intro v3 w3 ho3 b3 _ _)
          go_roundw
          case rel => exact ⟨k + 1, by omega, by go_num, by rw [hp2.out, List.length_append]; simpa [strs] using ho3, b3⟩
          case measure => simp [intOf]; omega
        · have hp2 := Lib.hid (hp.out.trans (if_neg hk1))
          have e2 : ((att l k).k == 1) = false := by simpa using hk1
          clear hp e1 hk1
          go_wp2
          go_roundw
          case rel => exact ⟨k + 1, by omega, by go_num, by rw [hp2.out]; exact hownA, hbelA⟩
          case measure => simp [intOf]; omega
      · obtain rfl : k = n := by omega
        rw [← hn, List.take_length, ← hR.out] at hown
        obtain ⟨A1, c1, rfl, _⟩ := own_slice hown
        go_wp2
        go_ret2
        exact ⟨A1, c1, by rw [G.out]; rfl, own_base hown b1s, b1.trans (hbel.mono b1s)⟩
  · have hR := Lib.hid (plR_no g)
    rw [g] at hL
    have G := Lib.hid g
    clear g
    go_enter Tryd.func24, Tryd.ntmps24
    go_wp2_with fail
    refine hL.out.mono ?_
    rintro e w1 ⟨rfl, b1⟩
    go_wp2
    go_ret2
    exact ⟨none, 0, by rw [G.out, hR.out]; rfl, by rw [hR.out]; exact ⟨rfl, .inl ⟨rfl, rfl⟩⟩, b1⟩
end Go.Proofs.YtkgphkpckcfihaaDoor
