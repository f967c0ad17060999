/- Contracts of the reference's draws of outlines. Condition: the bytes are at most 2^20. -/
import Derived.Test.YtnepcipicibmfaaDoorCurStroke
import Derived.Test.YtnepcipicibmfaaDoorOutl4
namespace Go.Proofs.YtnepcipicibmfaaDoor
open Go.RowKit

theorem grown_own {w wr w' : World} {g : Nat} {e : TypeId} {size n : Nat} {v : Value} {xs : List Value} (h : w.grownBy wr (some g)) (ho : wr.ownsRow w.heap.size e size v n xs) (hg : wr.grownBy w' v.ownBlock) : w.grownBy w' (some g) :=
  ⟨hg.os.trans h.os, hg.tape.trans h.tape, hg.output.trans h.output, Nat.le_trans h.size hg.size, fun i hi hne =>
    (hg.block i (Nat.lt_of_lt_of_le hi h.size) (fun e => by have := (ho.lt i e.symm).1; omega)).trans (h.block i hi hne)⟩
theorem below_of_grown {w w' : World} {g : Nat} (h : w.grownBy w' (some g)) (hg : g ≤ w.heap.size) : Below g w w' :=
  (Below.refl g w).grown h hg (fun k e => by injection e with e; omega)
theorem Cur.own {w w' : World} {g m : Nat} {base : Nat} {e : TypeId} {size n : Nat} {v : Value} {xs : List Value} (h : Cur w g m) (ho : w.ownsRow base e size v n xs) (hg : w.grownBy w' v.ownBlock) (hb : g < base) : Cur w' g m :=
  h.grown hg fun k e => by have := (ho.lt k e).1; omega

theorem few_any (w : World) (g m : Nat) (h : Cur w g m) (hm : m ≤ 1000000) :
    Calls Tryd.prog 44 #[.pointer (some ⟨g, 0, none⟩)] w fun e w' => ∃ x, e = .returned (.int .i64 x) ∧ goodB x = true ∧ Cur w' g (m + 2) ∧ w.grownBy w' (some g) := by
  have hlt := h.lt
  go_enter Tryd.func44, Tryd.ntmps44
  go_wp2_with fail
  refine (among_any _ g m _ 4 4 [524552, 260, 1048576, 262144] _ (h.alloc _) (by omega) rfl (by omega) (by omega) (Row.lit w _ _) (fun b off e => by injection e with e; injection e with e; omega)).mono ?_
  rintro e w2 ⟨x, rfl, hx, hc2, hg2⟩
  have hx' : goodB x = true := by revert x; decide
  go_wp2
  go_ret
  exact ⟨x, rfl, hx', hc2, (World.grownBy_alloc w _ _).trans hg2⟩

set_option maxHeartbeats 1000000 in
theorem outline_any (w : World) (g m : Nat) (h : Cur w g m) (hm : m ≤ 100000) :
    Calls Tryd.prog 24 #[.pointer (some ⟨g, 0, none⟩)] w fun e w' => ∃ A' n' c', ∃ l : List Int, e = .returned (.slice A' n' c') ∧ l.length = n' ∧ 1 ≤ n' ∧ n' ≤ 3 ∧ (∀ x ∈ l, goodB x = true) ∧
      w'.ownsRow w.heap.size 3 1 (.slice A' n' c') n' (ints l) ∧ Cur w' g (m + 44) ∧ w.grownBy w' (some g) := by
  have hlt := h.lt
  go_enter Tryd.func24, Tryd.ntmps24
  go_wp2_with fail
  refine (pick_any _ g m 3 (h.alloc _) (by omega) (by omega)).mono ?_
  rintro e w1 ⟨y, rfl, y0, y1, hc1, hg1⟩
  have ho1 := own_kept (World.ownsRow_made w #[] 0 (base := w.heap.size) (e := 3) (size := 1) (Nat.le_refl _) (by unfold maxLen; omega) (by simp)) hg1 hlt
  have g1 := (World.grownBy_alloc w (.cells #[] 3) (some g)).trans hg1
  go_wp2
  go_loopw [3, 4] (fun v i wr => ∃ j k : Nat, ∃ l : List Int, i = .int .i64 j ∧ j + k ≤ 3 ∧ 1 ≤ j + k ∧ l.length = k ∧ (∀ x ∈ l, goodB x = true) ∧ wr.ownsRow w.heap.size 3 1 v k (ints l) ∧ Cur wr g (m + 2 + 14 * k) ∧ w.grownBy wr (some g)) (fun _ i _ => (intOf i).toNat)
  case atStart => exact ⟨(1 + y).toNat, 0, [], by go_num, by omega, by omega, rfl, by simp, by simpa [ints] using ho1, hc1, g1⟩
  case round =>
    obtain ⟨j, k, l, rfl, hjk, hj1, hl, hgood, hown, hcr, hgr⟩ := hrel
    by_cases hlt2 : 0 < j
    · go_wp2_with fail
      refine (one_any wr g _ 5 hcr (by omega) (by omega)).mono ?_
      rintro e w3 ⟨b, rfl, hc3, hg3⟩
      have ho3 := own_kept hown hg3 hlt
      have g3 := hgr.trans hg3
      cases b
      · go_wp2_with fail
        refine (few_any w3 g _ hc3 (by omega)).mono ?_
        rintro e w4 ⟨x, rfl, hx, hc4, hg4⟩
        have ho4 := own_kept ho3 hg4 hlt
        have g4 := g3.trans hg4
        have s4 := g4.size
        go_wp2_with (at_builtin; refine wpList_app1 (.int .i64 x) intT (below_of_grown g4 (Nat.le_of_lt hlt)) ho4 rfl (Nat.le_of_lt hlt) s4 (by omega) (by decide) rfl (.tmp 20) (.tmp 23) rfl rfl rfl ?_; intro v5 w5 ho5 _ hg5 _)
        go_roundw
        case rel =>
          exact ⟨j - 1, k + 1, l ++ [x], by go_num, by omega, by omega, by simp [hl], fun z hz => by rcases List.mem_append.1 hz with h | h; exact hgood z h; simp at h; rw [h]; exact hx, by rw [ints_snoc]; exact ho5, (hc4.own ho4 hg5 hlt).more (by omega), grown_own g4 ho4 hg5⟩
        case measure => simp [intOf]; omega
      · go_wp2_with fail
        refine (stroke_any w3 g _ hc3 (by omega)).mono ?_
        rintro e w4 ⟨x, rfl, hx, hc4, hg4⟩
        have ho4 := own_kept ho3 hg4 hlt
        have g4 := g3.trans hg4
        have s4 := g4.size
        go_wp2_with (at_builtin; refine wpList_app1 (.int .i64 x) intT (below_of_grown g4 (Nat.le_of_lt hlt)) ho4 rfl (Nat.le_of_lt hlt) s4 (by omega) (by decide) rfl (.tmp 15) (.tmp 18) rfl rfl rfl ?_; intro v5 w5 ho5 _ hg5 _)
        go_roundw
        case rel =>
          exact ⟨j - 1, k + 1, l ++ [x], by go_num, by omega, by omega, by simp [hl], fun z hz => by rcases List.mem_append.1 hz with h | h; exact hgood z h; simp at h; rw [h]; exact hx, by rw [ints_snoc]; exact ho5, (hc4.own ho4 hg5 hlt).more (by omega), grown_own g4 ho4 hg5⟩
        case measure => simp [intOf]; omega
    · obtain rfl : j = 0 := by omega
      obtain ⟨A', c', rfl, _⟩ := own_slice hown
      go_wp2
      go_ret
      exact ⟨A', k, c', l, rfl, hl, by omega, by omega, hgood, hown, hcr.more (by omega), hgr⟩

set_option maxHeartbeats 2000000 in
theorem anyOutline_any (w : World) (g m : Nat) (h : Cur w g m) (hm : m ≤ 10000) :
    Calls Tryd.prog 28 #[.pointer (some ⟨g, 0, none⟩)] w fun e w' => ∃ A' n' c', ∃ l : List Int, e = .returned (.slice A' n' c') ∧ l.length = n' ∧ n' ≤ 8 ∧ n' ≤ c' ∧
      w'.ownsRow w.heap.size 3 1 (.slice A' n' c') n' (ints l) ∧ Cur w' g (m + 70) ∧ w.grownBy w' (some g) := by
  have hlt := h.lt
  go_enter Tryd.func28, Tryd.ntmps28
  go_wp2_with fail
  refine (pick_any w g m 16 h (by omega) (by omega)).mono ?_
  rintro e w1 ⟨y, rfl, y0, y1, hc1, hg1⟩
  have s1 := hg1.size
  have hlt1 := hc1.lt
  by_cases h0 : y = 0
  · subst h0
    go_wp2
    go_ret
    exact ⟨_, 0, _, [], rfl, rfl, by omega, by omega, World.ownsRow_made _ _ _ s1 (by unfold maxLen; omega) (by simp), (hc1.alloc _).more (by omega), hg1.trans (World.grownBy_alloc _ _ _)⟩
  · have e0 : (y == 0) = false := by simpa using h0
    by_cases h1 : y = 1
    · subst h1
      go_wp2_with fail
      refine (pick_any _ g _ 2 (hc1.alloc _) (by omega) (by omega)).mono ?_
      rintro e w2 ⟨z, rfl, z0, z1, hc2, hg2⟩
      have ho2 := own_kept (World.ownsRow_made w1 #[] 0 (base := w.heap.size) (e := 3) (size := 1) s1 (by unfold maxLen; omega) (by simp)) hg2 hlt
      have g2 := (hg1.trans (World.grownBy_alloc w1 (.cells #[] 3) (some g))).trans hg2
      go_wp2
      go_loopw [3, 4] (fun v i wr => ∃ j k : Nat, ∃ l : List Int, i = .int .i64 j ∧ j + k ≤ 7 ∧ l.length = k ∧ wr.ownsRow w.heap.size 3 1 v k (ints l) ∧ Cur wr g (m + 4 + 2 * k) ∧ w.grownBy wr (some g)) (fun _ i _ => (intOf i).toNat)
      case atStart => exact ⟨(6 + z).toNat, 0, [], by go_num, by omega, rfl, by simpa [ints] using ho2, hc2, g2⟩
      case round =>
        obtain ⟨j, k, l, rfl, hjk, hl, hown, hcr, hgr⟩ := hrel
        by_cases hlt2 : 0 < j
        · go_wp2_with fail
          refine (few_any wr g _ hcr (by omega)).mono ?_
          rintro e w4 ⟨x, rfl, hx, hc4, hg4⟩
          have ho4 := own_kept hown hg4 hlt
          have g4 := hgr.trans hg4
          have s4 := g4.size
          go_wp2_with (at_builtin; refine wpList_app1 (.int .i64 x) intT (below_of_grown g4 (Nat.le_of_lt hlt)) ho4 rfl (Nat.le_of_lt hlt) s4 (by omega) (by decide) rfl (.tmp 20) (.tmp 23) rfl rfl rfl ?_; intro v5 w5 ho5 _ hg5 _)
          go_roundw
          case rel => exact ⟨j - 1, k + 1, l ++ [x], by go_num, by omega, by simp [hl], by rw [ints_snoc]; exact ho5, (hc4.own ho4 hg5 hlt).more (by omega), grown_own g4 ho4 hg5⟩
          case measure => simp [intOf]; omega
        · obtain rfl : j = 0 := by omega
          obtain ⟨A', c', rfl, hnc⟩ := own_slice hown
          go_wp2
          go_ret
          exact ⟨A', k, c', l, rfl, hl, by omega, hnc, hown, hcr.more (by omega), hgr⟩
    · have e1 : (y == 1) = false := by simpa using h1
      by_cases h2 : y = 2
      · subst h2
        go_wp2_with fail
        refine (outline_any w1 g _ hc1 (by omega)).mono ?_
        rintro e w2 ⟨A2, n2, c2, l, rfl, hl, hn1, hn3, hgood, ho2, hc2, hg2⟩
        have g2 := hg1.trans hg2
        go_wp2_with fail
        refine (anyStroke_any w2 g _ hc2 (by omega)).mono ?_
        rintro e w3 ⟨x, rfl, hx0, hx1, hc3, hg3⟩
        have ho3 := own_base (own_kept ho2 hg3 hlt1) s1
        have g3 := g2.trans hg3
        have s3 := g3.size
        go_wp2_with (at_builtin; refine wpList_app1 (.int .i64 x) intT (below_of_grown g3 (Nat.le_of_lt hlt)) ho3 rfl (Nat.le_of_lt hlt) s3 (by omega) (by decide) rfl (.tmp 29) (.tmp 32) rfl rfl rfl ?_; intro v5 w5 ho5 _ hg5 _)
        obtain ⟨A', c', rfl, hnc⟩ := own_slice ho5
        go_wp2
        go_ret
        exact ⟨A', n2 + 1, c', l ++ [x], rfl, by simp [hl], by omega, hnc, by rw [ints_snoc]; exact ho5, (hc3.own ho3 hg5 hlt).more (by omega), grown_own g3 ho3 hg5⟩
      · have e2 : (y == 2) = false := by simpa using h2
        go_wp2_with fail
        refine (outline_any w1 g _ hc1 (by omega)).mono ?_
        rintro e w2 ⟨A2, n2, c2, l, rfl, hl, hn1, hn3, hgood, ho2, hc2, hg2⟩
        obtain ⟨_, _, hv, hnc⟩ := own_slice ho2
        cases hv
        go_wp2
        go_ret
        exact ⟨A2, n2, c2, l, rfl, hl, by omega, hnc, own_base ho2 s1, hc2.more (by omega), hg1.trans hg2⟩

/-- What a draw of two lists hands back. -/
def Two (w : World) (e : Ending) (w' : World) : Prop :=
  ∃ A1 n1 c1 A2 n2 c2, ∃ l1 l2 : List Int, e = .returned (.tuple #[.slice A1 n1 c1, .slice A2 n2 c2]) ∧ l1.length = n1 ∧ l2.length = n2 ∧ n1 ≤ 8 ∧ n2 ≤ 8 ∧ n1 ≤ c1 ∧ n2 ≤ c2 ∧
    Row w' w'.heap.size A1 (ints l1) ∧ Row w' w'.heap.size A2 (ints l2) ∧ Below w.heap.size w w'

end Go.Proofs.YtnepcipicibmfaaDoor
