/- Contracts of the reference's draws of numbers, numerals and texts to be sealed; the law's own byte picker. Condition: the bytes are at most 2^20. -/
import Derived.Test.YtpnomnicfkjcgaaDoorCurStr
import Derived.Test.YtpnomnicfkjcgaaDoorNum
namespace Go.Proofs.YtpnomnicfkjcgaaDoor
open Go.RowKit

theorem drawFormatInt_any (A : Option Addr) (n c : Nat) (w : World) (h : Code w A n) :
    Calls Tryd.prog 31 #[.slice A n c] w fun e w' => ∃ x, e = .returned (.int .i64 x) ∧ -1000000 ≤ x ∧ x ≤ 1000000 ∧ Below w.heap.size w w' := by
  go_enter Tryd.func31, Tryd.ntmps31
  go_wp2_with fail
  refine (pick_any _ w.heap.size 0 1000 (h.cur c) (by omega) (by omega)).mono ?_
  rintro e w1 ⟨y, rfl, y0, y1, hc1, hg1⟩
  have hlt := hc1.lt
  go_wp2_with fail
  refine (among_any _ w.heap.size _ _ 9 9 [0, 1, -1, 10, 999999, -999999, 1000000, -1000000, y - 500] _ (hc1.alloc _) (by omega) rfl (by omega) (by omega) (Row.lit w1 _ _) (fun b off e => by injection e with e; injection e with e; omega)).mono ?_
  rintro e w2 ⟨x, rfl, hx, hc2, hg2⟩
  have hb : -1000000 ≤ x ∧ x ≤ 1000000 := by
    simp only [List.mem_cons, List.not_mem_nil, or_false] at hx
    omega
  go_wp2
  go_ret
  exact ⟨x, rfl, hb.1, hb.2, below_new ((hg1.trans (World.grownBy_alloc w1 _ _)).trans hg2)⟩
theorem drawParseInt_any (A : Option Addr) (n c : Nat) (w : World) (h : Code w A n) :
    Calls Tryd.prog 32 #[.slice A n c] w fun e w' => ∃ x, e = .returned (.string x) ∧ x.size ≤ 20 ∧ Below w.heap.size w w' := by
  go_enter Tryd.func32, Tryd.ntmps32
  go_wp2_with fail
  refine (one_any _ w.heap.size 0 2 (h.cur c) (by omega) (by omega)).mono ?_
  rintro e w1 ⟨b, rfl, hc1, hg1⟩
  have hlt := hc1.lt
  cases b
  · go_wp2_with fail
    refine (pick_any w1 w.heap.size _ 2000 hc1 (by omega) (by omega)).mono ?_
    rintro e w2 ⟨y, rfl, y0, y1, hc2, hg2⟩
    go_wp2_with fail
    refine (l1Num_below (y - 1000) (by omega) (by omega) w2).mono ?_
    rintro e w3 ⟨rfl, hb3⟩
    have hl := itoa_len (n := y - 1000) (by omega) (by omega)
    go_wp2
    go_ret
    refine ⟨_, rfl, by rw [bs_size']; simp only [bs]; simpa using (by omega : (Lib.itoa (y - 1000)).length ≤ 20), ?_⟩
    have g2 := hg1.trans hg2
    exact (below_new g2).trans (hb3.mono (by have := g2.size; simp at this; omega))
  · go_wp2_with fail
    refine (of_any _ w.heap.size _ _ 11 11 [⟨#[]⟩, ⟨#[45]⟩, ⟨#[45, 48]⟩, ⟨#[48, 48]⟩, ⟨#[48, 49]⟩, ⟨#[45, 45, 49]⟩, ⟨#[49, 120]⟩, ⟨#[57, 57, 57, 57, 57, 57]⟩, ⟨#[49, 48, 48, 48, 48, 48, 48]⟩, ⟨#[45, 57, 57, 57, 57, 57, 57]⟩, ⟨#[49, 56, 52, 52, 54, 55, 52, 52, 48, 55, 51, 55, 48, 57, 53, 53, 49, 54, 49, 55]⟩] _ (hc1.alloc _) (by omega) rfl (by omega) (by omega) (Row.lit w1 _ _) (fun b off e => by injection e with e; injection e with e; omega)).mono ?_
    rintro e w2 ⟨x, rfl, hx, hc2, hg2⟩
    have hx' : x.size ≤ 20 := by revert x; decide
    go_wp2
    go_ret
    exact ⟨x, rfl, hx', below_new ((hg1.trans (World.grownBy_alloc w1 _ _)).trans hg2)⟩
theorem drawAppend_any (A : Option Addr) (n c : Nat) (w : World) (h : Code w A n) :
    Calls Tryd.prog 33 #[.slice A n c] w fun e w' => ∃ x, e = .returned (.string x) ∧ x.size ≤ 5000 ∧ Below w.heap.size w w' := by
  go_enter Tryd.func33, Tryd.ntmps33
  go_wp2_with fail
  refine (one_any _ w.heap.size 0 20 (h.cur c) (by omega) (by omega)).mono ?_
  rintro e w1 ⟨b, rfl, hc1, hg1⟩
  have hlt := hc1.lt
  cases b
  · go_wp2_with fail
    refine (any1_any w1 w.heap.size _ hc1 (by omega)).mono ?_
    rintro e w2 ⟨x, rfl, hx, hc2, hg2⟩
    have := anyL_size _ hx
    go_wp2
    go_ret
    exact ⟨_, rfl, by omega, below_new (hg1.trans hg2)⟩
  · go_wp2_with fail
    refine (pick_any w1 w.heap.size _ 10 hc1 (by omega) (by omega)).mono ?_
    rintro e w3 ⟨z, rfl, z0, z1, hc3, hg3⟩
    obtain ⟨k, rfl⟩ := Int.eq_ofNat_of_zero_le z0
    have hmk := zmake (3990 + (k : Int)) (3990 + k) (by omega) (by omega) w3
    have hcv := zconv (3990 + k) w3
    have hzs := zText_size (3990 + k)
    generalize zText (3990 + k) = x at hcv hzs
    have g4 := (hg1.trans hg3).trans (World.grownBy_alloc w3 (zObj (3990 + k)) (some w.heap.size))
    generalize w3.alloc (zObj (3990 + k)) = w4 at hmk hcv g4
    go_wp2
    go_ret
    exact ⟨_, rfl, by omega, below_new g4⟩
theorem vAt_any (A : Option Addr) (n c : Nat) (i : Nat) (w : World) (hi : i ≤ 100) (h : Code w A n) :
    ∃ x : Int, 0 ≤ x ∧ x ≤ 255 ∧ ∀ W, Below w.heap.size w W → Calls Tryd.prog 34 #[.slice A n c, .int .i64 (i : Int)] W fun e w' => e = .returned (.int .i64 x) ∧ W = w' := by
  obtain ⟨l, hl, hle, hwf, hr⟩ := h
  by_cases hlt : i < n
  · obtain ⟨b, off, rfl, hbl, hc⟩ := hr (fun e => by have := congrArg List.length e; simp at this; rw [this] at hl; simp at hl; omega)
    have hj : i < l.length := by omega
    have hx := hwf l[i] (List.getElem_mem hj)
    have hcj := hc i (.int .u8 l[i]) (by simp [hj])
    generalize l[i] = x at hx hcj
    have hx2 : 0 ≤ x ∧ x ≤ 255 := by
      simp [Lit.wf, IntKind.min, IntKind.max, IntKind.signed, IntKind.bits] at hx
      omega
    clear hx hc hr hwf
    refine ⟨x, hx2.1, hx2.2, fun W hB => ?_⟩
    have hcW := (hB.cell (p := ⟨b, off + i, none⟩) hbl).trans hcj
    clear hcj hB
    go_enter Tryd.func34, Tryd.ntmps34
    go_wp2
    go_ret
    exact ⟨rfl, rfl⟩
  · clear hr hwf
    refine ⟨((i : Int) * 7 + n) % 256, Int.emod_nonneg _ (by omega), by omega, fun W _ => ?_⟩
    go_enter Tryd.func34, Tryd.ntmps34
    go_wp2
    go_ret
    exact ⟨rfl, rfl⟩
end Go.Proofs.YtpnomnicfkjcgaaDoor
