/- Contracts on outlines: a list of its own, joined lists. Condition: lists no longer than 2^20. -/
import Derived.Test.YtnepcipicibmfaaDoorOutl
import Derived.Test.YtnepcipicibmfaaDoorOutl3
import Derived.Test.YtnepcipicibmfaaDoorIntS
import Derived.Test.YtnepcipicibmfaaDoorMem2
namespace Go.Proofs.YtnepcipicibmfaaDoor
open Go.RowKit

theorem ints_one (xs : List Int) : ∀ u ∈ ints xs, u.oneCell' = true := by
  intro u hu
  obtain ⟨_, _, rfl⟩ := List.mem_map.1 hu
  rfl
theorem ints_append (xs ys : List Int) : ints (xs ++ ys) = ints xs ++ ints ys := by simp [ints]

theorem l1Own_any (A : Option Addr) (n c : Nat) (xs : List Int) (w : World) (hn : xs.length = n) (hle : n ≤ 4194304) (B : Nat) (hr : Row w B A (ints xs)) (hB : B ≤ w.heap.size) :
    Calls Tryd.prog 30 #[.slice A n c] w fun e w' => ∃ A' c', e = .returned (.slice A' n c') ∧ w'.ownsRow w.heap.size 3 1 (.slice A' n c') n (ints xs) ∧ Below w.heap.size w w' := by
  have hr1 := hr.grown (World.grownBy_alloc w (.cells #[] 3) none) hB (fun g e => by cases e)
  go_enter Tryd.func30, Tryd.ntmps30
  go_wp2_with (at_builtin; refine wpList_appRow intsT ((Below.refl _ w).alloc (Nat.le_refl _) _) (World.ownsRow_made _ _ _ (Nat.le_refl _) (by unfold maxLen; omega) (by simp)) A n c (ints xs) (by simp [ints, hn]) hr1 (ints_one xs) (Nat.le_refl _) (by simp) (by omega) (by decide) rfl (.tmp 3) (.tmp 4) rfl rfl rfl ?_; intro v' w' ho' hb' _ _)
  simp only [Nat.zero_add, List.nil_append] at ho'
  obtain ⟨A', c', rfl, _⟩ := own_slice ho'
  go_wp2
  go_ret
  exact ⟨A', c', rfl, ho', hb'⟩

def catB (a b : List Int) : Bool := outB a && outB b && outB (a ++ b)
def catR (a b : List Int) : List Int := if catB a b then a ++ b else []
theorem cat_small (a b : List Int) (ha : outB a = true) (hb : outB b = true) : catB a b = decide (a.length + b.length ≤ 6) := by
  have h1 := outB_len ha
  have h2 := outB_len hb
  have h3 : (a ++ b).all goodB = true := by
    rw [List.all_append, (Bool.and_eq_true_iff.1 ha).2, (Bool.and_eq_true_iff.1 hb).2]; rfl
  rw [catB, ha, hb, outB, h3, List.length_append]
  by_cases h : a.length + b.length ≤ 6
  · simp [inB, h]; omega
  · simp [inB, h]; omega
theorem cat_l {a b : List Int} (h : outB a = false) : catB a b = false ∧ catR a b = [] := by simp [catR, catB, h]
theorem cat_r {a b : List Int} (h : outB b = false) : catB a b = false ∧ catR a b = [] := by simp [catR, catB, h]
theorem cat_f {a b : List Int} (h : catB a b = false) : catB a b = false ∧ catR a b = [] := by simp [catR, h]
theorem cat_t {a b : List Int} (h : catB a b = true) : catB a b = true ∧ catR a b = a ++ b := by simp [catR, h]
theorem catR_len (a b : List Int) : (catR a b).length ≤ 6 := by
  unfold catR
  split
  · rename_i h
    exact (outB_len (Bool.and_eq_true_iff.1 h).2).2
  · simp

set_option maxHeartbeats 1000000 in
theorem specConcat_any (A A' : Option Addr) (n m c c' : Nat) (a b : List Int) (w : World) (ha : a.length = n) (hb : b.length = m) (hn : n ≤ 1048576) (hm : m ≤ 1048576) (B : Nat) (hB : B ≤ w.heap.size) (hr : Row w B A (ints a)) (hr' : Row w B A' (ints b)) :
    Calls Tryd.prog 15 #[.slice A n c, .slice A' m c'] w fun e w' => ∃ A2 c2, e = .returned (.tuple #[.slice A2 (catR a b).length c2, .bool (catB a b)]) ∧ w'.ownsRow w.heap.size 3 1 (.slice A2 (catR a b).length c2) (catR a b).length (ints (catR a b)) ∧ Below w.heap.size w w' := by
  go_enter Tryd.func15, Tryd.ntmps15
  go_wp2_with fail
  refine (l1Own_any A n c a w ha (by omega) B hr hB).mono ?_
  rintro e w1 ⟨A1, c1, rfl, ho1, hb1⟩
  have s1 := hb1.size
  have r1 := hr.below_le hb1 hB
  have r1' := hr'.below_le hb1 hB
  go_wp2_with (at_builtin; refine wpList_appRow intsT hb1 ho1 A' m c' (ints b) (by simp [ints, hb]) r1' (ints_one b) (Nat.le_refl _) s1 (by omega) (by decide) rfl (.tmp 8) (.tmp 9) rfl rfl rfl ?_; intro v' w2 ho2 hb2 hg2 _)
  obtain ⟨A2, c2, rfl, _⟩ := own_slice ho2
  have r2 := r1.marked ho1 hg2 hB (Nat.le_trans hB s1)
  have r2' := r1'.marked ho1 hg2 hB (Nat.le_trans hB s1)
  have rv := Row.of_own ho2
  rw [← ints_append] at rv
  have v1 := l4Good_any A n c a w2 ha (by unfold maxLen; omega) B r2
  have v2 := l4Good_any A' m c' b w2 hb (by unfold maxLen; omega) B r2'
  have v3 := l4Good_any A2 (n + m) c2 (a ++ b) w2 (by simp [ha, hb]) (by unfold maxLen; omega) _ rv
  rcases Bool.eq_false_or_eq_true (outB a) with g1 | g1
  · rw [g1] at v1
    rcases Bool.eq_false_or_eq_true (outB b) with g2 | g2
    · rw [g2] at v2
      rcases Bool.eq_false_or_eq_true (outB (a ++ b)) with g3 | g3
      · have K := Lib.hid (cat_t (a := a) (b := b) (by rw [catB, g1, g2, g3]; rfl))
        rw [g3] at v3
        go_wp2_with fail
        refine v1.mono ?_
        rintro e w3 ⟨rfl, rfl⟩
        go_wp2_with fail
        refine v2.mono ?_
        rintro e w3 ⟨rfl, rfl⟩
        go_wp2_with fail
        refine v3.mono ?_
        rintro e w3 ⟨rfl, rfl⟩
        go_wp2
        go_ret2
        rw [K.out.1, K.out.2, List.length_append, ha, hb]
        exact ⟨A2, c2, rfl, by simpa [ints_append] using ho2, hb2⟩
      · have K := Lib.hid (cat_f (a := a) (b := b) (by rw [catB, g1, g2, g3]; rfl))
        rw [g3] at v3
        go_wp2_with fail
        refine v1.mono ?_
        rintro e w3 ⟨rfl, rfl⟩
        go_wp2_with fail
        refine v2.mono ?_
        rintro e w3 ⟨rfl, rfl⟩
        go_wp2_with fail
        refine v3.mono ?_
        rintro e w3 ⟨rfl, rfl⟩
        go_wp2
        go_ret2
        rw [K.out.1, K.out.2]
        exact ⟨_, _, rfl, World.ownsRow_made _ _ _ hb2.size (by unfold maxLen; omega) (by simp), hb2.alloc hb2.size _⟩
    · have K := Lib.hid (cat_r (a := a) g2)
      rw [g2] at v2
      go_wp2_with fail
      refine v1.mono ?_
      rintro e w3 ⟨rfl, rfl⟩
      go_wp2_with fail
      refine v2.mono ?_
      rintro e w3 ⟨rfl, rfl⟩
      go_wp2
      go_ret2
      rw [K.out.1, K.out.2]
      exact ⟨_, _, rfl, World.ownsRow_made _ _ _ hb2.size (by unfold maxLen; omega) (by simp), hb2.alloc hb2.size _⟩
  · have K := Lib.hid (cat_l (b := b) g1)
    rw [g1] at v1
    go_wp2_with fail
    refine v1.mono ?_
    rintro e w3 ⟨rfl, rfl⟩
    go_wp2
    go_ret2
    rw [K.out.1, K.out.2]
    exact ⟨_, _, rfl, World.ownsRow_made _ _ _ hb2.size (by unfold maxLen; omega) (by simp), hb2.alloc hb2.size _⟩

theorem own_zeros (w : World) (e : TypeId) (z : Value) (hz : z.cells.size = 1) (n : Nat) (hn : n ≤ 1099511627776) :
    (w.drew.alloc (.cells (Builtin.zeroCells z.cells n ++ Builtin.zeroCells z.cells (grownCap w n 0 e - n)) e)).ownsRow w.heap.size e 1 (.slice (some ⟨w.heap.size, 0, none⟩) 0 (grownCap w n 0 e)) 0 [] := by
  have h1 := grownCap_ge w n 0 e
  have h2 := grownCap_le_maxLen w n 0 e (by unfold maxLen; omega)
  refine ⟨rfl, .inr ⟨w.heap.size, _, _, rfl, Nat.le_refl _, heap_alloc_new w.drew _, Nat.zero_le _, h2, ?_, by simp⟩⟩
  simp only [Array.size_append, size_zeroCells, hz]
  omega

theorem grow_any (n : Nat) (h0 : 0 < n) (hle : n ≤ 2097152) (w : World) :
    Calls Tryd.prog 46 #[.slice none 0 0, .int .i64 n] w fun e w' => ∃ A c, e = .returned (.slice A 0 c) ∧ w'.ownsRow w.heap.size 3 1 (.slice A 0 c) 0 [] ∧ Below w.heap.size w w' := by
  obtain ⟨i, hi, hz, hsz, hby⟩ := info_parts intsT.info
  have hrun := fun ty => Lib.run_append_nil_zeros (P := Tryd.prog) w 22 3 ty 3 i (.int .i64 0) .i64 .i64 intsT.under Tryd.underlying3 hi hz n h0 (by omega) (by omega) (by rw [hby]; omega)
  have hge := grownCap_ge w n 0 3
  have hg1 : (0 : Int) < (n : Int) := by omega
  go_enter Tryd.func46, Tryd.ntmps46
  go_wp2_with (at_builtin; refine Lib.wpList_append_run w rfl (.tmp 20) (.tmp 21) 22 3 rfl (.slice none 0 0) (.int .i64 n) rfl rfl _ _ (hrun _) ?_)
  go_ret
  exact ⟨_, _, rfl, own_zeros w 3 (.int .i64 0) rfl n (by omega), (below_drewN (Below.refl _ w) 1).alloc (Nat.le_refl _) _⟩

set_option maxHeartbeats 1000000 in
set_option maxRecDepth 100000 in
theorem concat_any (A A' : Option Addr) (n m c c' : Nat) (a b : List Int) (w : World) (H : Nat) (ha : a.length = n) (hb : b.length = m) (h0 : 0 < n + m) (hn : n ≤ 1048576) (hm : m ≤ 1048576) (hH : H < w.heap.size)
    (hc0 : w.cell? ⟨H, 0, none⟩ = some (.slice A n c)) (hc1 : w.cell? ⟨H, 1, none⟩ = some (.slice A' m c')) (B : Nat) (hB : B ≤ w.heap.size) (hr : Row w B A (ints a)) (hr' : Row w B A' (ints b)) :
    Calls Tryd.prog 29 #[.slice (some ⟨H, 0, none⟩) 2 2] w fun e w' => ∃ A2 c2, e = .returned (.slice A2 (n + m) c2) ∧ w'.ownsRow w.heap.size 3 1 (.slice A2 (n + m) c2) (n + m) (ints (a ++ b)) ∧ Below w.heap.size w w' := by
  have hgrow := grow_any (n + m) h0 (by omega) w
  rw [Int.natCast_add] at hgrow
  go_enter Tryd.func29, Tryd.ntmps29
  go_wp2
  go_loopw [11, 3, 5] (fun i s _ wr => ((i = .int .i64 0 ∧ s = .int .i64 0) ∨ (i = .int .i64 1 ∧ s = .int .i64 n) ∨ (i = .int .i64 2 ∧ s = .int .i64 ((n : Int) + (m : Int)))) ∧ wr = w) (fun i _ _ _ => 2 - (intOf i).toNat)
  case atStart => exact ⟨Or.inl ⟨rfl, rfl⟩, rfl⟩
  case round =>
    obtain ⟨⟨rfl, rfl⟩ | ⟨rfl, rfl⟩ | ⟨rfl, rfl⟩, rfl⟩ := hrel
    · go_wp2
      go_roundw
      case rel => exact ⟨Or.inr (Or.inl ⟨by go_num, by go_num⟩), by trivial⟩
      case measure => simp [intOf]
    · go_wp2
      go_roundw
      case rel => exact ⟨Or.inr (Or.inr ⟨by go_num, by go_num⟩), by trivial⟩
      case measure => simp [intOf]
    · go_wp2_with (go_at_call 46; refine hgrow.mono ?_; rintro e w1 ⟨A1, c1, rfl, ho1, hb1⟩)
      go_loopw [27, 6, 8] (fun i v _ wq => ∃ (d : Nat) (l : List Int), ((i = .int .i64 0 ∧ d = 0 ∧ l = []) ∨ (i = .int .i64 1 ∧ d = n ∧ l = a) ∨ (i = .int .i64 2 ∧ d = n + m ∧ l = a ++ b)) ∧ wq.ownsRow wr.heap.size 3 1 v d (ints l) ∧ Below wr.heap.size wr wq) (fun i _ _ _ => 2 - (intOf i).toNat)
      case atStart => exact ⟨0, [], Or.inl ⟨rfl, rfl, rfl⟩, ho1, hb1⟩
      case round =>
        obtain ⟨d, l, hd, hown, hbel⟩ := hrel
        have k0 := (bcell hbel H 0 hH).trans hc0
        have k1 := (bcell hbel H 1 hH).trans hc1
        have q := hr.below_le hbel hB
        have q' := hr'.below_le hbel hB
        have hs := hbel.size
        rcases hd with ⟨rfl, rfl, rfl⟩ | ⟨rfl, rfl, rfl⟩ | ⟨rfl, rfl, rfl⟩
        · go_wp2_with (at_builtin; refine wpList_appRow intsT hbel hown A n c (ints a) (by simp [ints, ha]) q (ints_one a) (Nat.le_refl _) hs (by omega) (by decide) rfl (.tmp 31) (.tmp 32) rfl rfl rfl ?_; intro v' w2 ho2 hb2 _ _)
          go_roundw
          case rel => exact ⟨n, a, Or.inr (Or.inl ⟨by go_num, rfl, rfl⟩), by simpa [ints] using ho2, hb2⟩
          case measure => simp [intOf]
        · go_wp2_with (at_builtin; refine wpList_appRow intsT hbel hown A' m c' (ints b) (by simp [ints, hb]) q' (ints_one b) (Nat.le_refl _) hs (by omega) (by decide) rfl (.tmp 31) (.tmp 32) rfl rfl rfl ?_; intro v' w2 ho2 hb2 _ _)
          go_roundw
          case rel => exact ⟨_, _, Or.inr (Or.inr ⟨by go_num, rfl, rfl⟩), by simpa [ints_append] using ho2, hb2⟩
          case measure => simp [intOf]
        · obtain ⟨A2, c2, rfl, _⟩ := own_slice hown
          go_wp2
          go_ret
          exact ⟨A2, c2, rfl, hown, hbel⟩
end Go.Proofs.YtnepcipicibmfaaDoor
