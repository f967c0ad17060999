/- Contracts of the reference's draws of strokes. Condition: the bytes are at most 2^20. -/
import Derived.Test.YtddmejmcdjkllaaCurSpoil
import Derived.Test.YtddmejmcdjkllaaParse
namespace Go.Proofs.Ytddmejmcdjkllaa
open Go.RowKit

theorem vBig_any (A : Option Addr) (n c : Nat) (w : World) (hn : n ≤ maxLen) : Calls Try.prog 25 #[.slice A n c] w fun e w' => e = .returned (.bool (decide (65536 < n))) ∧ w = w' := by
  unfold maxLen at hn
  by_cases h : n ≤ 65536
  · go_enter Try.func25, Try.ntmps25
    go_wp2
    go_ret
    exact ⟨ret_bool (by simp; omega), rfl⟩
  · go_enter Try.func25, Try.ntmps25
    go_wp2
    go_ret
    exact ⟨ret_bool (by simp; omega), rfl⟩

theorem stroke_any (w : World) (g m : Nat) (h : Cur w g m) (hm : m ≤ 1000000) :
    Calls Try.prog 51 #[.pointer (some ⟨g, 0, none⟩)] w fun e w' => ∃ x, e = .returned (.int .i64 x) ∧ goodB x = true ∧ Cur w' g (m + 12) ∧ w.grownBy w' (some g) := by
  have hgl := h.lt
  go_enter Try.func51, Try.ntmps51
  go_wp2_with fail
  refine (one_any w g m 2 h (by omega) (by omega)).mono ?_
  rintro e w1 ⟨b, rfl, hc1, hg1⟩
  cases b
  · go_wp2_with fail
    refine (pick_any w1 g (m + 2) 4 hc1 (by omega) (by omega)).mono ?_
    rintro e w2 ⟨y, rfl, y0, y1, hc2, hg2⟩
    go_wp2
    go_loopw [3, 4] (fun s n wr => ∃ st j : Nat, s = .int .i64 st ∧ n = .int .i64 j ∧ j ≤ 4 ∧ st < 8388608 ∧ (st = 0 → 1 ≤ j) ∧ Cur wr g (m + 4 + 2 * (4 - j)) ∧ w2.grownBy wr (some g)) (fun _ n _ => (intOf n).toNat)
    case atStart => exact ⟨0, (1 + y).toNat, rfl, by go_num, by omega, by omega, fun _ => by omega, hc2.more (by omega), World.grownBy.refl _ _⟩
    case round =>
      obtain ⟨st, j, rfl, rfl, hj, hst, hz, hcr, hgr⟩ := hrel
      by_cases hlt : 0 < j
      · go_wp2_with fail
        refine (pick_any wr g _ 23 hcr (by omega) (by omega)).mono ?_
        rintro e w3 ⟨y3, rfl, y30, y31, hc3, hg3⟩
        obtain ⟨i, rfl⟩ := Int.eq_ofNat_of_zero_le y30
        have ho := Lib.hid (or_bit st i (by omega) (by omega))
        have hb := Lib.hid (lt_two_pow_or (a := st) (b := i) (n := 23) (by omega) (by omega))
        have hnz := Lib.hid (or_ne_zero st i)
        go_wp2
        go_roundw
        case rel =>
          refine ⟨st ||| 2 ^ i, j - 1, by rw [ho.out], by go_num, by omega, by have := hb.out; omega, fun e => absurd e hnz.out, hc3.more (by omega), hgr.trans hg3⟩
        case measure => simp [intOf]; omega
      · obtain rfl : j = 0 := by omega
        go_wp2
        go_ret
        exact ⟨_, rfl, inB_true (by omega) (by omega), hcr.more (by omega), (hg1.trans hg2).trans hgr⟩
  · go_wp2_with fail
    refine (among_any _ g (m + 2) _ 9 9 [524552, 260, 1048576, 262144, 4194304, 514, 8, 2064, 2097152] _ (hc1.alloc _) (by omega) rfl (by omega) (by omega) (Row.lit w1 _ _) (fun b off e => by have := hc1.lt; injection e with e; injection e with e; omega)).mono ?_
    rintro e w2 ⟨x, rfl, hx, hc2, hg2⟩
    have hx' : goodB x = true := by revert x; decide
    go_wp2
    go_ret
    exact ⟨x, rfl, hx', hc2.more (by omega), hg1.trans ((World.grownBy_alloc w1 _ _).trans hg2)⟩

theorem anyStroke_any (w : World) (g m : Nat) (h : Cur w g m) (hm : m ≤ 100000) :
    Calls Try.prog 47 #[.pointer (some ⟨g, 0, none⟩)] w fun e w' => ∃ x, e = .returned (.int .i64 x) ∧ -9223372036854775808 ≤ x ∧ x ≤ 9223372036854775807 ∧ Cur w' g (m + 14) ∧ w.grownBy w' (some g) := by
  go_enter Try.func47, Try.ntmps47
  go_wp2_with fail
  refine (one_any w g m 12 h (by omega) (by omega)).mono ?_
  rintro e w1 ⟨b, rfl, hc1, hg1⟩
  cases b
  · go_wp2_with fail
    refine (stroke_any w1 g (m + 2) hc1 (by omega)).mono ?_
    rintro e w2 ⟨x, rfl, hx, hc2, hg2⟩
    have hb := good_bd hx
    go_wp2
    go_ret
    exact ⟨x, rfl, by omega, by omega, hc2.more (by omega), hg1.trans hg2⟩
  · go_wp2_with fail
    refine (among_any _ g (m + 2) _ 6 6 [0, -1, 8388608, 8388607, 1, 1099511627776] _ (hc1.alloc _) (by omega) rfl (by omega) (by omega) (Row.lit w1 _ _) (fun b off e => by have := hc1.lt; injection e with e; injection e with e; omega)).mono ?_
    rintro e w2 ⟨x, rfl, hx, hc2, hg2⟩
    have hx' : -9223372036854775808 ≤ x ∧ x ≤ 9223372036854775807 := by revert x; decide
    obtain ⟨hx1, hx2⟩ := hx'
    go_wp2
    go_ret
    exact ⟨x, rfl, hx1, hx2, hc2.more (by omega), hg1.trans ((World.grownBy_alloc w1 _ _).trans hg2)⟩

theorem drawIsValidStroke_any (A : Option Addr) (n c : Nat) (w : World) (h : Code w A n) :
    Calls Try.prog 50 #[.slice A n c] w fun e w' => ∃ x, e = .returned (.int .i64 x) ∧ -9223372036854775808 ≤ x ∧ x ≤ 9223372036854775807 ∧ Below w.heap.size w w' := by
  have hc := Lib.hid (h.cur c)
  go_enter Try.func50, Try.ntmps50
  go_wp2_with fail
  refine (anyStroke_any _ w.heap.size 0 hc.out (by omega)).mono ?_
  rintro e w1 ⟨x, rfl, hx1, hx2, hc1, hg1⟩
  go_wp2
  go_ret
  exact ⟨x, rfl, hx1, hx2, below_new hg1⟩

theorem drawFormatStroke_any (A : Option Addr) (n c : Nat) (w : World) (h : Code w A n) :
    Calls Try.prog 35 #[.slice A n c] w fun e w' => ∃ x, e = .returned (.int .i64 x) ∧ -9223372036854775808 ≤ x ∧ x ≤ 9223372036854775807 ∧ Below w.heap.size w w' := by
  go_enter Try.func35, Try.ntmps35
  go_wp2_with fail
  refine (drawIsValidStroke_any A n c w h).mono ?_
  rintro e w1 ⟨x, rfl, hx1, hx2, hb⟩
  go_wp2
  go_ret
  exact ⟨x, rfl, hx1, hx2, hb⟩

theorem drawHasKey_any (A : Option Addr) (n c : Nat) (w : World) (h : Code w A n) :
    Calls Try.prog 31 #[.slice A n c] w fun e w' => ∃ x y, e = .returned (.tuple #[.int .i64 x, .int .i64 y]) ∧ Below w.heap.size w w' := by
  have hc := Lib.hid (h.cur c)
  go_enter Try.func31, Try.ntmps31
  go_wp2_with fail
  refine (anyStroke_any _ w.heap.size 0 hc.out (by omega)).mono ?_
  rintro e w1 ⟨x, rfl, hx1, hx2, hc1, hg1⟩
  go_wp2_with fail
  refine (pick_any w1 w.heap.size _ 25 hc1 (by omega) (by omega)).mono ?_
  rintro e w2 ⟨y, rfl, y0, y1, hc2, hg2⟩
  go_wp2
  go_ret2
  exact ⟨x, _, rfl, below_new (hg1.trans hg2)⟩

theorem drawMergeStrokes_any (A : Option Addr) (n c : Nat) (w : World) (h : Code w A n) :
    Calls Try.prog 28 #[.slice A n c] w fun e w' => ∃ x y, e = .returned (.tuple #[.int .i64 x, .int .i64 y]) ∧ Below w.heap.size w w' := by
  have hc := Lib.hid (h.cur c)
  go_enter Try.func28, Try.ntmps28
  go_wp2_with fail
  refine (anyStroke_any _ w.heap.size 0 hc.out (by omega)).mono ?_
  rintro e w1 ⟨x, rfl, hx1, hx2, hc1, hg1⟩
  go_wp2_with fail
  refine (anyStroke_any _ w.heap.size _ hc1 (by omega)).mono ?_
  rintro e w2 ⟨y, rfl, hy1, hy2, hc2, hg2⟩
  go_wp2
  go_ret2
  exact ⟨x, y, rfl, below_new (hg1.trans hg2)⟩

theorem drawParseStroke_any (A : Option Addr) (n c : Nat) (w : World) (h : Code w A n) :
    Calls Try.prog 36 #[.slice A n c] w fun e w' => ∃ o : ByteArray, e = .returned (.string o) ∧ o.size ≤ 47 ∧ Below w.heap.size w w' := by
  have hc := Lib.hid (h.cur c)
  go_enter Try.func36, Try.ntmps36
  go_wp2_with fail
  refine (stroke_any _ w.heap.size 0 hc.out (by omega)).mono ?_
  rintro e w1 ⟨x, rfl, hx, hc1, hg1⟩
  have hlt := hc1.lt
  have hlen := fmtR_len x
  have hX := Lib.hid hx
  clear hx
  go_wp2_with fail
  refine (l2Format_any x w1 hX.out).mono ?_
  rintro e w2 ⟨rfl, hb2⟩
  have hc2 := hc1.below hb2 hlt
  have b2 := (below_new hg1).trans (hb2.mono (below_new hg1).size)
  go_wp2_with fail
  refine (one_any w2 w.heap.size _ 3 hc2 (by omega) (by omega)).mono ?_
  rintro e w3 ⟨b, rfl, hc3, hg3⟩
  have b3 := b2.grown hg3 b2.size (fun k e => by injection e with e; omega)
  cases b
  · go_wp2
    go_ret
    exact ⟨_, rfl, by rw [bs_len]; omega, b3⟩
  · go_wp2_with fail
    refine (spoilt_any w3 w.heap.size _ _ _ hc3 (by omega) (by rw [bs_len]; omega) (by decide) (by decide)).mono ?_
    rintro e w4 ⟨o, rfl, ho, hc4, hg4⟩
    rw [bs_len] at ho
    go_wp2
    go_ret
    exact ⟨o, rfl, by omega, b3.grown hg4 b3.size (fun k e => by injection e with e; omega)⟩

theorem drawParseLoose_any (A : Option Addr) (n c : Nat) (w : World) (h : Code w A n) :
    Calls Try.prog 33 #[.slice A n c] w fun e w' => ∃ o : ByteArray, e = .returned (.string o) ∧ o.size ≤ 47 ∧ Below w.heap.size w w' := by
  have hc := Lib.hid (h.cur c)
  go_enter Try.func33, Try.ntmps33
  go_wp2_with fail
  refine (one_any _ w.heap.size 0 4 hc.out (by omega) (by omega)).mono ?_
  rintro e w1 ⟨b, rfl, hc1, hg1⟩
  have b1 := below_new hg1
  cases b
  · go_wp2_with fail
    refine (drawParseStroke_any A n c w1 (h.below b1)).mono ?_
    rintro e w2 ⟨o, rfl, ho, b2⟩
    go_wp2
    go_ret
    exact ⟨o, rfl, ho, b1.trans (b2.mono b1.size)⟩
  · go_wp2_with fail
    refine (of_any _ w.heap.size _ _ 17 17 [⟨#[]⟩, ⟨#[45]⟩, ⟨#[84, 83]⟩, ⟨#[75, 65, 45, 84]⟩, ⟨#[83, 84, 45]⟩, ⟨#[83, 45, 83]⟩, ⟨#[83, 83]⟩, ⟨#[83, 84, 83]⟩, ⟨#[45, 45, 83]⟩, ⟨#[90, 83]⟩, ⟨#[82, 82]⟩, ⟨#[80, 80, 45, 80]⟩, ⟨#[35]⟩, ⟨#[45, 42]⟩, ⟨#[42, 45, 70]⟩, ⟨#[70, 45]⟩, ⟨#[120]⟩] _ (hc1.alloc _) (by omega) rfl (by omega) (by omega) (Row.lit w1 _ _) (fun b off e => by have := hc1.lt; injection e with e; injection e with e; omega)).mono ?_
    rintro e w2 ⟨o, rfl, ho, hc2, hg2⟩
    have ho' : o.size ≤ 47 := by
      have hall : ∀ x ∈ ([⟨#[]⟩, ⟨#[45]⟩, ⟨#[84, 83]⟩, ⟨#[75, 65, 45, 84]⟩, ⟨#[83, 84, 45]⟩, ⟨#[83, 45, 83]⟩, ⟨#[83, 83]⟩, ⟨#[83, 84, 83]⟩, ⟨#[45, 45, 83]⟩, ⟨#[90, 83]⟩, ⟨#[82, 82]⟩, ⟨#[80, 80, 45, 80]⟩, ⟨#[35]⟩, ⟨#[45, 42]⟩, ⟨#[42, 45, 70]⟩, ⟨#[70, 45]⟩, ⟨#[120]⟩] : List ByteArray), x.size ≤ 47 := by simp only [List.forall_mem_cons]; decide
      exact hall o ho
    go_wp2
    go_ret
    exact ⟨o, rfl, ho', (b1.alloc b1.size _).grown hg2 (by simp; have := b1.size; omega) (fun k e => by injection e with e; omega)⟩

theorem own_kept {w w' : World} {base g : Nat} {e : TypeId} {size : Nat} {v : Value} {n : Nat} {cs : List Value} (h : w.ownsRow base e size v n cs) (hg : w.grownBy w' (some g)) (hb : g < base) : w'.ownsRow base e size v n cs :=
  h.kept hg (by
    cases hv : v.ownBlock with
    | none => exact Or.inl rfl
    | some k => right; intro e; injection e with e; have := (h.lt k hv).1; omega)

theorem drawNewStroke_any (A : Option Addr) (n c : Nat) (w : World) (h : Code w A n) :
    Calls Try.prog 26 #[.slice A n c] w fun e w' => ∃ A' n' c', ∃ xs : List Int, e = .returned (.slice A' n' c') ∧ xs.length = n' ∧ n' ≤ 6 ∧ Row w' w'.heap.size A' (ints xs) ∧ Below w.heap.size w w' := by
  have hc := Lib.hid ((h.cur c).alloc (.cells #[] 3))
  go_enter Try.func26, Try.ntmps26
  go_wp2_with fail
  refine (pick_any _ w.heap.size 0 6 hc.out (by omega) (by omega)).mono ?_
  rintro e w1 ⟨y, rfl, y0, y1, hc1, hg1⟩
  have hs1 := hg1.size
  have ho1 := own_kept (World.ownsRow_made (w.alloc (.cells #[.slice A n c, .int .i64 0, .int .u64 0] 52)) #[] 0 (base := w.heap.size + 1) (e := 3) (size := 1) (by simp) (by unfold maxLen; omega) (by simp)) hg1 (by omega)
  have b1 : Below w.heap.size w w1 := below_new ((World.grownBy_alloc _ _ _).trans hg1)
  have hcl := hc1.lt
  go_wp2
  go_loopw [4, 5] (fun v i wr => ∃ j k : Nat, ∃ xs : List Int, i = .int .i64 j ∧ j + k ≤ 5 ∧ xs.length = k ∧ wr.ownsRow (w.heap.size + 1) 3 1 v k (ints xs) ∧ Cur wr w.heap.size (2 + 2 * k) ∧ Below w.heap.size w wr) (fun _ i _ => (intOf i).toNat)
  case atStart => exact ⟨y.toNat, 0, [], by go_num, by omega, rfl, by simpa [ints] using ho1, hc1, b1⟩
  case round =>
    obtain ⟨j, k, xs, rfl, hjk, hxl, hown, hcr, hbr⟩ := hrel
    have hcrl := hcr.lt
    by_cases hlt : 0 < j
    · go_wp2_with fail
      refine (pick_any wr w.heap.size _ 23 hcr (by omega) (by omega)).mono ?_
      rintro e w3 ⟨y3, rfl, y30, y31, hc3, hg3⟩
      have ho3 := own_kept hown hg3 (by omega)
      have b3 := hbr.grown hg3 (by omega) (fun k e => by injection e with e; omega)
      have hs3 := hg3.size
      go_wp2_with (at_builtin; refine wpList_app1 (.int .i64 y3) intT b3 ho3 rfl (by omega) (by omega) (by omega) (by decide) rfl (.tmp 16) (.tmp 19) rfl rfl rfl ?_; intro v4 w4 ho4 b4 hg4 hat4)
      go_roundw
      case rel =>
        refine ⟨j - 1, k + 1, xs ++ [y3], by go_num, by omega, by simp [hxl], by rw [ints_snoc]; exact ho4, (hc3.more (by omega)).grown hg4 (fun q e => ?_), b4⟩
        have := (ho3.lt q e).1
        omega
      case measure => simp [intOf]; omega
    · obtain rfl : j = 0 := by omega
      obtain ⟨A', c', rfl, _⟩ := own_slice hown
      go_wp2_with fail
      refine (one_any wr w.heap.size _ 12 hcr (by omega) (by omega)).mono ?_
      rintro e w3 ⟨b, rfl, hc3, hg3⟩
      have ho3 := own_kept hown hg3 (by omega)
      have b3 := hbr.grown hg3 (by omega) (fun k e => by injection e with e; omega)
      have hs3 := hg3.size
      have hcl3 := hc3.lt
      cases b
      · go_wp2
        go_ret
        exact ⟨A', k, c', xs, rfl, hxl, by omega, Row.of_own ho3, b3⟩
      · go_wp2_with fail
        refine (among_any _ w.heap.size _ _ 4 4 [-1, 23, 22, 64] _ (hc3.alloc _) (by omega) rfl (by omega) (by omega) (Row.lit w3 _ _) (fun b off e => by injection e with e; injection e with e; omega)).mono ?_
        rintro e w4 ⟨x, rfl, hx, hc4, hg4⟩
        have ho4 := own_kept (ho3.alloc _) hg4 (by omega)
        have b4 := (b3.alloc b3.size _).grown hg4 (by simp; omega) (fun k e => by injection e with e; omega)
        have hs4 := hg4.size
        simp at hs4
        go_wp2_with (at_builtin; refine wpList_app1 (.int .i64 x) intT b4 ho4 rfl (by omega) (by omega) (by omega) (by decide) rfl (.tmp 23) (.tmp 27) rfl rfl rfl ?_; intro v5 w5 ho5 b5 hg5 hat5)
        obtain ⟨A5, c5, rfl, _⟩ := own_slice ho5
        go_ret
        exact ⟨A5, k + 1, c5, xs ++ [x], rfl, by simp [hxl], by omega, by rw [ints_snoc]; exact Row.of_own ho5, b5⟩
end Go.Proofs.Ytddmejmcdjkllaa
