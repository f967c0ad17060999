/- Contracts on the validity of entries and dictionaries. Condition: the cell of internal/bytealg.MaxLen is an int; outlines and texts are at most 2^20 long. -/
import Derived.Test.YtnpiljkchjdpfaaDoorGA
import Derived.Test.YtnpiljkchjdpfaaDoorParT
import Derived.Test.YtnpiljkchjdpfaaDoorOutl3
import Derived.Deep.RegionHeld3
import Derived.Deep.RegionHeldLaw
namespace Go.Proofs.YtnpiljkchjdpfaaDoor
open Go.RowKit
set_option linter.unusedSimpArgs false

theorem isTr_any (t : ByteArray) (w : World) (m : Int) (hmax : w.cell? ⟨0, 0, none⟩ = some (.int .i64 m)) (hm : t.size ≤ 1048576) :
    Calls Tryd.prog 38 #[.string t] w fun e w' => e = .returned (.bool (ptOk t.data.toList)) ∧ Below w.heap.size w w' := by
  have h := Lib.hid (implParTr_any t w m hmax hm)
  clear hmax
  generalize ptR t.data.toList = l at h
  generalize ptOk t.data.toList = q at h ⊢
  go_enter Tryd.func38, Tryd.ntmps38
  go_wp2_with fail
  refine h.out.mono ?_
  rintro e w1 ⟨A, c, rfl, _, hb⟩
  go_wp2
  go_ret
  exact ⟨rfl, hb⟩
set_option maxHeartbeats 1000000 in
theorem implValidEntry_any (A : Option Addr) (n c : Nat) (o : List Int) (t : ByteArray) (w : World) (m : Int) (hmax : w.cell? ⟨0, 0, none⟩ = some (.int .i64 m)) (hn : o.length = n) (hle : n ≤ 1048576) (ht : t.size ≤ 1048576) (B : Nat) (hB : B ≤ w.heap.size) (hr : Row w B A (ints o)) :
    Calls Tryd.prog 12 #[.agg #[.slice A n c, .string t]] w fun e w' => e = .returned (.bool (entB (o, t))) ∧ Below w.heap.size w w' := by
  have hlt : 0 < w.heap.size := World.block_lt_of_cell? w _ hmax
  have HM := Lib.hid (fun wx (h : Below w.heap.size w wx) => (h.cell (p := ⟨0, 0, none⟩) hlt).trans hmax)
  clear hmax
  have o0 := ownC_new 27 w #[.slice A n c, .string t]
  have b0 := (Below.refl w.heap.size w).alloc (Nat.le_refl _) (.cells #[.slice A n c, .string t] 27)
  have hV := Lib.hid (implValidOut_any A n c o (w.alloc (.cells #[.slice A n c, .string t] 27)) hn (by unfold maxLen; omega) B (hr.below_le b0 hB))
  have hE : Hid (entB (o, t) = (outB o && ptOk t.data.toList)) := rfl
  rcases Bool.eq_false_or_eq_true (outB o) with q | q
  · have hT := Lib.hid (fun W h => isTr_any t W m h ht)
    rw [q] at hV hE
    generalize ptOk t.data.toList = p at hE hT
    clear q
    go_enter Tryd.func12, Tryd.ntmps12
    go_wp2_with fail
    refine hV.out.mono ?_
    rintro e w1 ⟨rfl, hb1⟩
    have b1 := b0.trans (hb1.mono b0.size)
    have c1 := (o0.below hb1 (Nat.le_refl _)).cell (j := 1) rfl
    go_wp2_with fail
    refine (hT.out w1 (HM.out _ b1)).mono ?_
    rintro e w2 ⟨rfl, hb2⟩
    go_wp2
    go_ret
    exact ⟨by rw [hE.out, Bool.true_and]; rfl, b1.trans (hb2.mono b1.size)⟩
  · rw [q] at hV hE
    clear q
    go_enter Tryd.func12, Tryd.ntmps12
    go_wp2_with fail
    refine hV.out.mono ?_
    rintro e w1 ⟨rfl, hb1⟩
    go_wp2
    go_ret
    exact ⟨by rw [hE.out, Bool.false_and]; rfl, b0.trans (hb1.mono b0.size)⟩
set_option maxHeartbeats 1000000 in
theorem l6Entry_any (A : Option Addr) (n c : Nat) (o : List Int) (t : ByteArray) (w : World) (hn : o.length = n) (hle : n ≤ 1048576) (ht : t.size ≤ 1048576) (B : Nat) (hB : B ≤ w.heap.size) (hr : Row w B A (ints o)) :
    Calls Tryd.prog 35 #[.agg #[.slice A n c, .string t]] w fun e w' => e = .returned (.bool (entB (o, t))) ∧ Below w.heap.size w w' := by
  have o0 := ownC_new 27 w #[.slice A n c, .string t]
  have b0 := (Below.refl w.heap.size w).alloc (Nat.le_refl _) (.cells #[.slice A n c, .string t] 27)
  have hT := Lib.hid (l5Parse_any t (w.alloc (.cells #[.slice A n c, .string t] 27)) ht)
  have hE : Hid (entB (o, t) = (outB o && ptOk t.data.toList)) := rfl
  generalize ptR t.data.toList = pl at hT
  generalize ptOk t.data.toList = p at hE hT
  go_enter Tryd.func35, Tryd.ntmps35
  go_wp2_with fail
  refine hT.out.mono ?_
  rintro e w1 ⟨Ap, cp, rfl, _, hb1⟩
  have b1 := b0.trans (hb1.mono b0.size)
  have c0 := (o0.below hb1 (Nat.le_refl _)).cell (j := 0) rfl
  have hV := Lib.hid (l4Good_any A n c o w1 hn (by unfold maxLen; omega) B (hr.below_le b1 hB))
  rcases Bool.eq_false_or_eq_true (outB o) with q | q
  · rw [q] at hV hE
    clear q
    go_wp2_with fail
    refine hV.out.mono ?_
    rintro e w' ⟨rfl, rfl⟩
    go_wp2
    go_ret
    exact ⟨by rw [hE.out, Bool.true_and]; rfl, b1⟩
  · rw [q] at hV hE
    clear q
    go_wp2_with fail
    refine hV.out.mono ?_
    rintro e w' ⟨rfl, rfl⟩
    go_wp2
    go_ret
    exact ⟨by rw [hE.out, Bool.false_and]; rfl, b1⟩
theorem specValidEntry_any (A : Option Addr) (n c : Nat) (o : List Int) (t : ByteArray) (w : World) (hn : o.length = n) (hle : n ≤ 1048576) (ht : t.size ≤ 1048576) (B : Nat) (hB : B ≤ w.heap.size) (hr : Row w B A (ints o)) :
    Calls Tryd.prog 10 #[.agg #[.slice A n c, .string t]] w fun e w' => e = .returned (.bool (entB (o, t))) ∧ Below w.heap.size w w' := by
  have b0 := (Below.refl w.heap.size w).alloc (Nat.le_refl _) (.cells #[.slice A n c, .string t] 27)
  have h := Lib.hid (l6Entry_any A n c o t (w.alloc (.cells #[.slice A n c, .string t] 27)) hn hle ht B (Nat.le_trans hB b0.size) (hr.below_le b0 hB))
  generalize entB (o, t) = q at h ⊢
  go_enter Tryd.func10, Tryd.ntmps10
  go_wp2_with fail
  refine h.out.mono ?_
  rintro e w1 ⟨rfl, hb1⟩
  go_wp2
  go_ret
  exact ⟨rfl, b0.trans (hb1.mono b0.size)⟩

set_option maxHeartbeats 8000000 in
theorem implValidDict_any (A : Option Addr) (n c : Nat) (l : List En) (w : World) (m : Int) (hmax : w.cell? ⟨0, 0, none⟩ = some (.int .i64 m)) (hn : l.length = n) (hle : n ≤ 1048576) (hs : ∀ e ∈ l, e.o.length ≤ 1048576 ∧ e.t.size ≤ 1048576) (B : Nat) (hB : B ≤ w.heap.size) (hr : DRow w B A l) :
    Calls Tryd.prog 17 #[.agg #[.slice A n c]] w fun e w' => e = .returned (.bool (dictB (vals l))) ∧ Below w.heap.size w w' := by
  have hlt0 : 0 < w.heap.size := World.block_lt_of_cell? w _ hmax
  have HM := Lib.hid (fun wx (h : Below w.heap.size w wx) => (h.cell (p := ⟨0, 0, none⟩) hlt0).trans hmax)
  clear hmax
  have o0 := ownC_new 38 w #[.slice A n c]
  have b0 := (Below.refl w.heap.size w).alloc (Nat.le_refl _) (.cells #[.slice A n c] 38)
  go_enter Tryd.func17, Tryd.ntmps17
  go_wp2
  go_loopw [3, 4, 8] (fun _ _ i wr => ∃ k : Nat, k ≤ n ∧ i = .int .i64 k ∧ Hid (okTo (vals l) k) ∧ ownC 38 wr w.heap.size w.heap.size [.slice A n c] ∧ Below w.heap.size w wr) (fun _ _ i _ => n - (intOf i).toNat)
  case atStart => exact ⟨0, by omega, rfl, okTo_zero _, o0, b0⟩
  case round =>
    obtain ⟨k, hk, rfl, hok, ho, hbel⟩ := hrel
    have hsz := hbel.size
    by_cases hlt : k < n
    · obtain ⟨b, off, rfl, hb, hc1, hc2, hro⟩ := (hr.below_le hbel hB).at (j := k) (by omega)
      obtain ⟨hz1, hz2⟩ := hs _ (enAt_in l k (by omega))
      have hbad := Lib.hid (fun h => dictB_bad (d := vals l) (k := k) (by rw [vals_len]; omega) h)
      have hev := evAt_vals l k (by omega)
      have hent : Hid (entB (evAt (vals l) k) = entB ((enAt l k).o, (enAt l k).t)) := by show _ = _; rw [hev]; rfl
      have hbo : b < wr.heap.size := by omega
      have hdw : w.heap.size < wr.heap.size := ho.lt.2
      have hcd := ho.cell (j := 0) rfl
      have hE := Lib.hid (fun (W : World) (hW : Below wr.heap.size wr W) => implValidEntry_any (enAt l k).A (enAt l k).o.length (enAt l k).c (enAt l k).o (enAt l k).t W m (HM.out _ (hbel.trans (hW.mono hsz))) rfl hz1 hz2 B (by have := hW.size; omega) (hro.below_le hW (by omega)))
      rw [← hent.out] at hE
      have oE := ownC_new 27 wr #[.slice (enAt l k).A (enAt l k).o.length (enAt l k).c, .string (enAt l k).t]
      have ce0 := oE.cell (j := 0) rfl
      have ce1 := oE.cell (j := 1) rfl
      have hbA := (Below.refl wr.heap.size wr).alloc (Nat.le_refl _) (.cells #[.slice (enAt l k).A (enAt l k).o.length (enAt l k).c, .string (enAt l k).t] 27)
      have hoA := ho.alloc (.cells #[.slice (enAt l k).A (enAt l k).o.length (enAt l k).c, .string (enAt l k).t] 27)
      have hbA := Lib.hid hbA
      rcases Bool.eq_false_or_eq_true (entB (evAt (vals l) k)) with q | q
      · rw [q] at hE
        by_cases h0 : k = 0
        · have hgo := Lib.hid (okTo_succ hok.out (show okAt (vals l) k = true by rw [h0, okAt_zero]; rw [h0] at q; exact q))
          have hd : decide (0 < k) = false := by simp; omega
          clear q hro hev hent hz1 hz2 h0
          go_wp2
          refine wp_region_held_drew (S := (fun w' => w'.cell? ⟨wr.heap.size, 0, none⟩ = some (.slice (enAt l k).A (enAt l k).o.length (enAt l k).c) ∧ w'.cell? ⟨wr.heap.size, 1, none⟩ = some (.string (enAt l k).t))) (by kernel_rfl) ?_ (fun hHeld => ?_)
          · exact ⟨ce0, ce1⟩
          refine wpAnyH_take (i := 0) (oi := _) (v := ?v5) rfl (by kernel_rfl) (by kernel_rfl) (by kernel_rfl) (fun _ _ _ h => h) (Or.inl ⟨by rfl, ?hy5⟩) (by assumption) ?_
          case hy5 => (intro w' hSw; (try dsimp only at hSw); go_simp; try (with_reducible rfl))
          change wpAnyH _ _ _ _ _ _ _ (Act.put _ (some 13) _) _
          simp only [Act.put, List.setIfInBounds_toArray, List.set_cons_zero, List.set_cons_succ]
          refine wpAnyH_ready (rs := [1]) (by kernel_rfl) (by simp) ?_
          refine AllReadyH.cons rfl (fun K hK => ?_) AllReadyH.nil
          go_simp
          (go_at_call 12; refine (hE.out _ (by first | exact hbA.out | exact hbA.out.drew)).mono ?_; rintro e w2 ⟨rfl, hb2⟩)
          refine hK.out _ _ ?_ (fun hHeld => ?_)
          · exact ⟨(hb2.cell (p := ⟨wr.heap.size, 0, none⟩) (by simp)).trans ce0, (hb2.cell (p := ⟨wr.heap.size, 1, none⟩) (by simp)).trans ce1⟩
          clear hK K
          try simp only [Act.put, List.setIfInBounds_toArray, List.set_cons_zero, List.set_cons_succ]
          refine wpAnyH_take (i := 2) (oi := _) (v := ?v6) rfl (by kernel_rfl) (by kernel_rfl) (by kernel_rfl) (fun _ _ _ h => h) (Or.inl ⟨by rfl, ?hy6⟩) (by assumption) ?_
          case hy6 => (intro w' hSw; (try dsimp only at hSw); go_simp; try (with_reducible rfl))
          change wpAnyH _ _ _ _ _ _ _ (Act.put _ (some 15) _) _
          simp only [Act.put, List.setIfInBounds_toArray, List.set_cons_zero, List.set_cons_succ]
          refine wpAnyH_take (i := 3) (oi := _) (v := ?v7) rfl (by kernel_rfl) (by kernel_rfl) (by kernel_rfl) (fun _ _ _ h => h) (Or.inl ⟨by rfl, ?hy7⟩) (by assumption) ?_
          case hy7 => (intro w' hSw; (try dsimp only at hSw); go_simp; try (with_reducible rfl))
          change wpAnyH _ _ _ _ _ _ _ (Act.put _ (some 16) _) _
          simp only [Act.put, List.setIfInBounds_toArray, List.set_cons_zero, List.set_cons_succ]
          refine wpAnyH_take (i := 4) (oi := _) (v := ?v8) rfl (by kernel_rfl) (by kernel_rfl) (by kernel_rfl) (fun _ _ _ h => h) (Or.inl ⟨by rfl, ?hy8⟩) (by assumption) ?_
          case hy8 => (intro w' hSw; (try dsimp only at hSw); go_simp; try (with_reducible rfl))
          change wpAnyH _ _ _ _ _ _ _ (Act.put _ (some 17) _) _
          simp only [Act.put, List.setIfInBounds_toArray, List.set_cons_zero, List.set_cons_succ]
          refine wpAnyH_take (i := 5) (oi := _) (v := ?v9) rfl (by kernel_rfl) (by kernel_rfl) (by kernel_rfl) (fun _ _ _ h => h) (Or.inl ⟨by rfl, ?hy9⟩) (by assumption) ?_
          case hy9 => (intro w' hSw; (try dsimp only at hSw); go_simp; try (with_reducible rfl))
          change wpAnyH _ _ _ _ _ _ _ (Act.put _ (some 18) _) _
          simp only [Act.put, List.setIfInBounds_toArray, List.set_cons_zero, List.set_cons_succ]
          try simp only [hd]
          refine wpAnyH_take (i := 6) (oi := _) (v := ?v10) rfl (by kernel_rfl) (by kernel_rfl) (by kernel_rfl) (fun _ _ _ h => h) (Or.inl ⟨by rfl, ?hy10⟩) (by assumption) ?_
          case hy10 => (intro w' hSw; (try dsimp only at hSw); go_simp; try (with_reducible rfl))
          change wpAnyH _ _ _ _ _ _ _ (Act.put _ (some 19) _) _
          simp only [Act.put, List.setIfInBounds_toArray, List.set_cons_zero, List.set_cons_succ]
          refine wpAnyH_take (i := 7) (oi := _) (v := undef) rfl (by kernel_rfl) (by kernel_rfl) (by kernel_rfl) (fun _ _ _ h => h) (Or.inr ⟨by rfl, rfl⟩) (by assumption) ?_
          change wpAnyH _ _ _ _ _ _ _ (Act.put _ (some 20) _) _
          simp only [Act.put, List.setIfInBounds_toArray, List.set_cons_zero, List.set_cons_succ]
          refine wpAnyH_take (i := 8) (oi := _) (v := undef) rfl (by kernel_rfl) (by kernel_rfl) (by kernel_rfl) (fun _ _ _ h => h) (Or.inr ⟨by rfl, rfl⟩) (by assumption) ?_
          change wpAnyH _ _ _ _ _ _ _ (Act.put _ (some 21) _) _
          simp only [Act.put, List.setIfInBounds_toArray, List.set_cons_zero, List.set_cons_succ]
          refine wpAnyH_take (i := 9) (oi := _) (v := undef) rfl (by kernel_rfl) (by kernel_rfl) (by kernel_rfl) (fun _ _ _ h => h) (Or.inr ⟨by rfl, rfl⟩) (by assumption) ?_
          change wpAnyH _ _ _ _ _ _ _ (Act.put _ (some 22) _) _
          simp only [Act.put, List.setIfInBounds_toArray, List.set_cons_zero, List.set_cons_succ]
          refine wpAnyH_take (i := 10) (oi := _) (v := undef) rfl (by kernel_rfl) (by kernel_rfl) (by kernel_rfl) (fun _ _ _ h => h) (Or.inr ⟨by rfl, rfl⟩) (by assumption) ?_
          change wpAnyH _ _ _ _ _ _ _ (Act.put _ (some 23) _) _
          simp only [Act.put, List.setIfInBounds_toArray, List.set_cons_zero, List.set_cons_succ]
          refine wpAnyH_take (i := 11) (oi := _) (v := undef) rfl (by kernel_rfl) (by kernel_rfl) (by kernel_rfl) (fun _ _ _ h => h) (Or.inr ⟨by rfl, rfl⟩) (by assumption) ?_
          change wpAnyH _ _ _ _ _ _ _ (Act.put _ (some 24) _) _
          simp only [Act.put, List.setIfInBounds_toArray, List.set_cons_zero, List.set_cons_succ]
          refine wpAnyH_take (i := 12) (oi := _) (v := undef) rfl (by kernel_rfl) (by kernel_rfl) (by kernel_rfl) (fun _ _ _ h => h) (Or.inr ⟨by rfl, rfl⟩) (by assumption) ?_
          change wpAnyH _ _ _ _ _ _ _ (Act.put _ (some 25) _) _
          simp only [Act.put, List.setIfInBounds_toArray, List.set_cons_zero, List.set_cons_succ]
          refine wpAnyH_take (i := 13) (oi := _) (v := undef) rfl (by kernel_rfl) (by kernel_rfl) (by kernel_rfl) (fun _ _ _ h => h) (Or.inr ⟨by rfl, rfl⟩) (by assumption) ?_
          change wpAnyH _ _ _ _ _ _ _ (Act.put _ (some 26) _) _
          simp only [Act.put, List.setIfInBounds_toArray, List.set_cons_zero, List.set_cons_succ]
          refine wpAnyH_take (i := 14) (oi := _) (v := undef) rfl (by kernel_rfl) (by kernel_rfl) (by kernel_rfl) (fun _ _ _ h => h) (Or.inr ⟨by rfl, rfl⟩) (by assumption) ?_
          change wpAnyH _ _ _ _ _ _ _ (Act.put _ (some 27) _) _
          simp only [Act.put, List.setIfInBounds_toArray, List.set_cons_zero, List.set_cons_succ]
          refine wpAnyH_take (i := 15) (oi := _) (v := undef) rfl (by kernel_rfl) (by kernel_rfl) (by kernel_rfl) (fun _ _ _ h => h) (Or.inr ⟨by rfl, rfl⟩) (by assumption) ?_
          change wpAnyH _ _ _ _ _ _ _ (Act.put _ (some 28) _) _
          simp only [Act.put, List.setIfInBounds_toArray, List.set_cons_zero, List.set_cons_succ]
          refine wpAnyH_take (i := 16) (oi := _) (v := undef) rfl (by kernel_rfl) (by kernel_rfl) (by kernel_rfl) (fun _ _ _ h => h) (Or.inr ⟨by rfl, rfl⟩) (by assumption) ?_
          change wpAnyH _ _ _ _ _ _ _ (Act.put _ (some 29) _) _
          simp only [Act.put, List.setIfInBounds_toArray, List.set_cons_zero, List.set_cons_succ]
          refine wpAnyH_take (i := 17) (oi := _) (v := undef) rfl (by kernel_rfl) (by kernel_rfl) (by kernel_rfl) (fun _ _ _ h => h) (Or.inr ⟨by rfl, rfl⟩) (by assumption) ?_
          change wpAnyH _ _ _ _ _ _ _ (Act.put _ (some 30) _) _
          simp only [Act.put, List.setIfInBounds_toArray, List.set_cons_zero, List.set_cons_succ]
          refine wpAnyH_take (i := 18) (oi := _) (v := ?v11) rfl (by kernel_rfl) (by kernel_rfl) (by kernel_rfl) (fun _ _ _ h => h) (Or.inl ⟨by rfl, ?hy11⟩) (by assumption) ?_
          case hy11 => (intro w' hSw; (try dsimp only at hSw); go_simp; try (with_reducible rfl))
          change wpAnyH _ _ _ _ _ _ _ (Act.put _ (some 31) _) _
          simp only [Act.put, List.setIfInBounds_toArray, List.set_cons_zero, List.set_cons_succ]
          refine wpAnyH_take (i := 19) (oi := _) (v := ?v12) rfl (by kernel_rfl) (by kernel_rfl) (by kernel_rfl) (fun _ _ _ h => h) (Or.inl ⟨by rfl, ?hy12⟩) (by assumption) ?_
          case hy12 => (intro w' hSw; (try dsimp only at hSw); go_simp; try (with_reducible rfl))
          change wpAnyH _ _ _ _ _ _ _ (Act.put _ (some 32) _) _
          simp only [Act.put, List.setIfInBounds_toArray, List.set_cons_zero, List.set_cons_succ]
          refine wpAnyH_done (by kernel_rfl) ?_ _
          go_wp2
          go_roundw
          case rel => exact ⟨k + 1, by omega, by go_num, hgo.out, hoA.drewN 1 |>.below hb2 (Nat.le_refl _), (hbel.trans (hbA.out.drew.mono hsz)).trans (hb2.mono (by simp; omega))⟩
          case measure => simp [intOf]; omega
        · obtain ⟨b', off', e', hb', hp1, _, hrp⟩ := (hr.below_le hbel hB).at (j := k - 1) (by omega)
          injection e' with e'
          injection e' with e1 e2 _
          subst e1 e2
          obtain ⟨hy1, _⟩ := hs _ (enAt_in l (k - 1) (by omega))
          have hevp := evAt_vals l (k - 1) (by omega)
          have cp0 := Lib.cell?_alloc_some (.cells #[.slice (enAt l k).A (enAt l k).o.length (enAt l k).c, .string (enAt l k).t] 27) hp1
          have cd0 := hoA.cell (j := 0) rfl
          have hC := Lib.hid (fun (W : World) (hW : Below wr.heap.size wr W) => slicesCompare_any (enAt l (k - 1)).A (enAt l k).A (enAt l (k - 1)).o.length (enAt l k).o.length (enAt l (k - 1)).c (enAt l k).c (enAt l (k - 1)).o (enAt l k).o W rfl rfl (by unfold maxLen; omega) (by unfold maxLen; omega) B (hrp.below_le hW (by omega)) (hro.below_le hW (by omega)))
          have hpos := okAt_pos (vals l) k (by omega)
          rw [q, Bool.true_and, hev, hevp] at hpos
          have hpos2 : okAt (vals l) k = decide (cmpL (enAt l (k - 1)).o (enAt l k).o < 0) := hpos
          have hd : decide (0 < k) = true := by simp; omega
          have h1 : (0 : Int) ≤ (k : Int) - 1 := by omega
          have h2 : (k : Int) - 1 < (n : Int) := by omega
          have h3 : ((k : Int) - 1).toNat = k - 1 := by omega
          have h6 : (1 : Int) ≤ (k : Int) := by omega
          have hwr : IntKind.i64.wrap ((k : Int) - 1) = (k : Int) - 1 := by rw [IntKind.wrap_i64]; omega
          generalize cmpL (enAt l (k - 1)).o (enAt l k).o = cm at hC hpos2
          clear q hro hrp hev hevp hent hz1 hz2 hpos hp1 hcd
          by_cases hcm : cm < 0
          · have hgo := Lib.hid (okTo_succ hok.out (show okAt (vals l) k = true by rw [hpos2]; simpa using hcm))
            have hdc : decide (0 ≤ cm) = false := by simp; omega
            clear hpos2
            go_wp2
            refine wp_region_held_drew (S := (fun w' => w'.cell? ⟨wr.heap.size, 0, none⟩ = some (.slice (enAt l k).A (enAt l k).o.length (enAt l k).c) ∧ w'.cell? ⟨wr.heap.size, 1, none⟩ = some (.string (enAt l k).t) ∧ w'.cell? ⟨w.heap.size, 0, none⟩ = some (.slice (some ⟨b, off, none⟩) n c) ∧ w'.cell? ⟨b, off + (k - 1) * 2, none⟩ = some (.slice (enAt l (k - 1)).A (enAt l (k - 1)).o.length (enAt l (k - 1)).c))) (by kernel_rfl) ?_ (fun hHeld => ?_)
            · exact ⟨ce0, ce1, cd0, cp0⟩
            refine wpAnyH_take (i := 0) (oi := _) (v := ?v13) rfl (by kernel_rfl) (by kernel_rfl) (by kernel_rfl) (fun _ _ _ h => h) (Or.inl ⟨by rfl, ?hy13⟩) (by assumption) ?_
            case hy13 => (intro w' hSw; (try dsimp only at hSw); go_simp; try (with_reducible rfl))
            change wpAnyH _ _ _ _ _ _ _ (Act.put _ (some 13) _) _
            simp only [Act.put, List.setIfInBounds_toArray, List.set_cons_zero, List.set_cons_succ]
            refine wpAnyH_ready (rs := [1]) (by kernel_rfl) (by simp) ?_
            refine AllReadyH.cons rfl (fun K hK => ?_) AllReadyH.nil
            go_simp
            (go_at_call 12; refine (hE.out _ (by first | exact hbA.out | exact hbA.out.drew)).mono ?_; rintro e w2 ⟨rfl, hb2⟩)
            refine hK.out _ _ ?_ (fun hHeld => ?_)
            · exact ⟨(hb2.cell (p := ⟨wr.heap.size, 0, none⟩) (by simp)).trans ce0, (hb2.cell (p := ⟨wr.heap.size, 1, none⟩) (by simp)).trans ce1, (hb2.cell (p := ⟨w.heap.size, 0, none⟩) (by simp; omega)).trans cd0, (hb2.cell (p := ⟨b, off + (k - 1) * 2, none⟩) (by simp; omega)).trans cp0⟩
            clear hK K
            try simp only [Act.put, List.setIfInBounds_toArray, List.set_cons_zero, List.set_cons_succ]
            refine wpAnyH_take (i := 2) (oi := _) (v := ?v14) rfl (by kernel_rfl) (by kernel_rfl) (by kernel_rfl) (fun _ _ _ h => h) (Or.inl ⟨by rfl, ?hy14⟩) (by assumption) ?_
            case hy14 => (intro w' hSw; (try dsimp only at hSw); go_simp; try (with_reducible rfl))
            change wpAnyH _ _ _ _ _ _ _ (Act.put _ (some 15) _) _
            simp only [Act.put, List.setIfInBounds_toArray, List.set_cons_zero, List.set_cons_succ]
            refine wpAnyH_take (i := 3) (oi := _) (v := ?v15) rfl (by kernel_rfl) (by kernel_rfl) (by kernel_rfl) (fun _ _ _ h => h) (Or.inl ⟨by rfl, ?hy15⟩) (by assumption) ?_
            case hy15 => (intro w' hSw; (try dsimp only at hSw); go_simp; try (with_reducible rfl))
            change wpAnyH _ _ _ _ _ _ _ (Act.put _ (some 16) _) _
            simp only [Act.put, List.setIfInBounds_toArray, List.set_cons_zero, List.set_cons_succ]
            refine wpAnyH_take (i := 4) (oi := _) (v := ?v16) rfl (by kernel_rfl) (by kernel_rfl) (by kernel_rfl) (fun _ _ _ h => h) (Or.inl ⟨by rfl, ?hy16⟩) (by assumption) ?_
            case hy16 => (intro w' hSw; (try dsimp only at hSw); go_simp; try (with_reducible rfl))
            change wpAnyH _ _ _ _ _ _ _ (Act.put _ (some 17) _) _
            simp only [Act.put, List.setIfInBounds_toArray, List.set_cons_zero, List.set_cons_succ]
            refine wpAnyH_take (i := 5) (oi := _) (v := ?v17) rfl (by kernel_rfl) (by kernel_rfl) (by kernel_rfl) (fun _ _ _ h => h) (Or.inl ⟨by rfl, ?hy17⟩) (by assumption) ?_
            case hy17 => (intro w' hSw; (try dsimp only at hSw); go_simp; try (with_reducible rfl))
            change wpAnyH _ _ _ _ _ _ _ (Act.put _ (some 18) _) _
            simp only [Act.put, List.setIfInBounds_toArray, List.set_cons_zero, List.set_cons_succ]
            try simp only [hd]
            refine wpAnyH_take (i := 6) (oi := _) (v := ?v18) rfl (by kernel_rfl) (by kernel_rfl) (by kernel_rfl) (fun _ _ _ h => h) (Or.inl ⟨by rfl, ?hy18⟩) (by assumption) ?_
            case hy18 => (intro w' hSw; (try dsimp only at hSw); go_simp; try (with_reducible rfl))
            change wpAnyH _ _ _ _ _ _ _ (Act.put _ (some 19) _) _
            simp only [Act.put, List.setIfInBounds_toArray, List.set_cons_zero, List.set_cons_succ]
            refine wpAnyH_take (i := 7) (oi := _) (v := ?v19) rfl (by kernel_rfl) (by kernel_rfl) (by kernel_rfl) (fun _ _ _ h => h) (Or.inl ⟨by rfl, ?hy19⟩) (by assumption) ?_
            case hy19 => (intro w' hSw; (try dsimp only at hSw); go_simp; try (with_reducible rfl))
            change wpAnyH _ _ _ _ _ _ _ (Act.put _ (some 20) _) _
            simp only [Act.put, List.setIfInBounds_toArray, List.set_cons_zero, List.set_cons_succ]
            refine wpAnyH_take (i := 8) (oi := _) (v := ?v20) rfl (by kernel_rfl) (by kernel_rfl) (by kernel_rfl) (fun _ _ _ h => h) (Or.inl ⟨by rfl, ?hy20⟩) (by assumption) ?_
            case hy20 => (intro w' hSw; (try dsimp only at hSw); go_simp; try (with_reducible rfl))
            change wpAnyH _ _ _ _ _ _ _ (Act.put _ (some 21) _) _
            simp only [Act.put, List.setIfInBounds_toArray, List.set_cons_zero, List.set_cons_succ]
            refine wpAnyH_take (i := 9) (oi := _) (v := ?v21) rfl (by kernel_rfl) (by kernel_rfl) (by kernel_rfl) (fun _ _ _ h => h) (Or.inl ⟨by rfl, ?hy21⟩) (by assumption) ?_
            case hy21 => (intro w' hSw; (try dsimp only at hSw); go_simp; try (with_reducible rfl))
            change wpAnyH _ _ _ _ _ _ _ (Act.put _ (some 22) _) _
            simp only [Act.put, List.setIfInBounds_toArray, List.set_cons_zero, List.set_cons_succ]
            refine wpAnyH_take (i := 10) (oi := _) (v := ?v22) rfl (by kernel_rfl) (by kernel_rfl) (by kernel_rfl) (fun _ _ _ h => h) (Or.inl ⟨by rfl, ?hy22⟩) (by assumption) ?_
            case hy22 => (intro w' hSw; (try dsimp only at hSw); go_simp; try (with_reducible rfl))
            change wpAnyH _ _ _ _ _ _ _ (Act.put _ (some 23) _) _
            simp only [Act.put, List.setIfInBounds_toArray, List.set_cons_zero, List.set_cons_succ]
            refine wpAnyH_take (i := 11) (oi := _) (v := ?v23) rfl (by kernel_rfl) (by kernel_rfl) (by kernel_rfl) (fun _ _ _ h => h) (Or.inl ⟨by rfl, ?hy23⟩) (by assumption) ?_
            case hy23 => (intro w' hSw; (try dsimp only at hSw); go_simp; try (with_reducible rfl))
            change wpAnyH _ _ _ _ _ _ _ (Act.put _ (some 24) _) _
            simp only [Act.put, List.setIfInBounds_toArray, List.set_cons_zero, List.set_cons_succ]
            refine wpAnyH_take (i := 12) (oi := _) (v := ?v24) rfl (by kernel_rfl) (by kernel_rfl) (by kernel_rfl) (fun _ _ _ h => h) (Or.inl ⟨by rfl, ?hy24⟩) (by assumption) ?_
            case hy24 => (intro w' hSw; (try dsimp only at hSw); go_simp; try (with_reducible rfl))
            change wpAnyH _ _ _ _ _ _ _ (Act.put _ (some 25) _) _
            simp only [Act.put, List.setIfInBounds_toArray, List.set_cons_zero, List.set_cons_succ]
            refine wpAnyH_take (i := 13) (oi := _) (v := ?v25) rfl (by kernel_rfl) (by kernel_rfl) (by kernel_rfl) (fun _ _ _ h => h) (Or.inl ⟨by rfl, ?hy25⟩) (by assumption) ?_
            case hy25 => (intro w' hSw; (try dsimp only at hSw); go_simp; try (with_reducible rfl))
            change wpAnyH _ _ _ _ _ _ _ (Act.put _ (some 26) _) _
            simp only [Act.put, List.setIfInBounds_toArray, List.set_cons_zero, List.set_cons_succ]
            refine wpAnyH_take (i := 14) (oi := _) (v := ?v26) rfl (by kernel_rfl) (by kernel_rfl) (by kernel_rfl) (fun _ _ _ h => h) (Or.inl ⟨by rfl, ?hy26⟩) (by assumption) ?_
            case hy26 => (intro w' hSw; (try dsimp only at hSw); go_simp; try (with_reducible rfl))
            change wpAnyH _ _ _ _ _ _ _ (Act.put _ (some 27) _) _
            simp only [Act.put, List.setIfInBounds_toArray, List.set_cons_zero, List.set_cons_succ]
            refine wpAnyH_take (i := 15) (oi := _) (v := ?v27) rfl (by kernel_rfl) (by kernel_rfl) (by kernel_rfl) (fun _ _ _ h => h) (Or.inl ⟨by rfl, ?hy27⟩) (by assumption) ?_
            case hy27 => (intro w' hSw; (try dsimp only at hSw); go_simp; try (with_reducible rfl))
            change wpAnyH _ _ _ _ _ _ _ (Act.put _ (some 28) _) _
            simp only [Act.put, List.setIfInBounds_toArray, List.set_cons_zero, List.set_cons_succ]
            refine wpAnyH_ready (rs := [16]) (by kernel_rfl) (by simp) ?_
            refine AllReadyH.cons rfl (fun K hK => ?_) AllReadyH.nil
            go_simp
            (go_at_call 43; refine (hC.out _ (by first | exact hbA.out.trans (hb2.mono hbA.out.size) | exact hbA.out.drew.trans (hb2.mono hbA.out.drew.size))).mono ?_; rintro e w' ⟨rfl, rfl⟩)
            refine hK.out _ _ ?_ (fun hHeld => ?_)
            · assumption
            clear hK K
            try simp only [Act.put, List.setIfInBounds_toArray, List.set_cons_zero, List.set_cons_succ]
            refine wpAnyH_take (i := 17) (oi := _) (v := ?v28) rfl (by kernel_rfl) (by kernel_rfl) (by kernel_rfl) (fun _ _ _ h => h) (Or.inl ⟨by rfl, ?hy28⟩) (by assumption) ?_
            case hy28 => (intro w' hSw; (try dsimp only at hSw); go_simp; try (with_reducible rfl))
            change wpAnyH _ _ _ _ _ _ _ (Act.put _ (some 30) _) _
            simp only [Act.put, List.setIfInBounds_toArray, List.set_cons_zero, List.set_cons_succ]
            refine wpAnyH_take (i := 18) (oi := _) (v := ?v29) rfl (by kernel_rfl) (by kernel_rfl) (by kernel_rfl) (fun _ _ _ h => h) (Or.inl ⟨by rfl, ?hy29⟩) (by assumption) ?_
            case hy29 => (intro w' hSw; (try dsimp only at hSw); go_simp; try (with_reducible rfl))
            change wpAnyH _ _ _ _ _ _ _ (Act.put _ (some 31) _) _
            simp only [Act.put, List.setIfInBounds_toArray, List.set_cons_zero, List.set_cons_succ]
            refine wpAnyH_take (i := 19) (oi := _) (v := ?v30) rfl (by kernel_rfl) (by kernel_rfl) (by kernel_rfl) (fun _ _ _ h => h) (Or.inl ⟨by rfl, ?hy30⟩) (by assumption) ?_
            case hy30 => (intro w' hSw; (try dsimp only at hSw); go_simp; try (with_reducible rfl))
            change wpAnyH _ _ _ _ _ _ _ (Act.put _ (some 32) _) _
            simp only [Act.put, List.setIfInBounds_toArray, List.set_cons_zero, List.set_cons_succ]
            refine wpAnyH_done (by kernel_rfl) ?_ _
            go_wp2
            go_roundw
            case rel => exact ⟨k + 1, by omega, by go_num, hgo.out, hoA.drewN 1 |>.below hb2 (Nat.le_refl _), (hbel.trans (hbA.out.drew.mono hsz)).trans (hb2.mono (by simp; omega))⟩
            case measure => simp [intOf]; omega
          · have hF := Lib.hid (hbad.out (show okAt (vals l) k = false by rw [hpos2]; simpa using hcm))
            have hdc : decide (0 ≤ cm) = true := by simp; omega
            clear hpos2
            go_wp2
            refine wp_region_held_drew (S := (fun w' => w'.cell? ⟨wr.heap.size, 0, none⟩ = some (.slice (enAt l k).A (enAt l k).o.length (enAt l k).c) ∧ w'.cell? ⟨wr.heap.size, 1, none⟩ = some (.string (enAt l k).t) ∧ w'.cell? ⟨w.heap.size, 0, none⟩ = some (.slice (some ⟨b, off, none⟩) n c) ∧ w'.cell? ⟨b, off + (k - 1) * 2, none⟩ = some (.slice (enAt l (k - 1)).A (enAt l (k - 1)).o.length (enAt l (k - 1)).c))) (by kernel_rfl) ?_ (fun hHeld => ?_)
            · exact ⟨ce0, ce1, cd0, cp0⟩
            refine wpAnyH_take (i := 0) (oi := _) (v := ?v31) rfl (by kernel_rfl) (by kernel_rfl) (by kernel_rfl) (fun _ _ _ h => h) (Or.inl ⟨by rfl, ?hy31⟩) (by assumption) ?_
            case hy31 => (intro w' hSw; (try dsimp only at hSw); go_simp; try (with_reducible rfl))
            change wpAnyH _ _ _ _ _ _ _ (Act.put _ (some 13) _) _
            simp only [Act.put, List.setIfInBounds_toArray, List.set_cons_zero, List.set_cons_succ]
            refine wpAnyH_ready (rs := [1]) (by kernel_rfl) (by simp) ?_
            refine AllReadyH.cons rfl (fun K hK => ?_) AllReadyH.nil
            go_simp
            (go_at_call 12; refine (hE.out _ (by first | exact hbA.out | exact hbA.out.drew)).mono ?_; rintro e w2 ⟨rfl, hb2⟩)
            refine hK.out _ _ ?_ (fun hHeld => ?_)
            · exact ⟨(hb2.cell (p := ⟨wr.heap.size, 0, none⟩) (by simp)).trans ce0, (hb2.cell (p := ⟨wr.heap.size, 1, none⟩) (by simp)).trans ce1, (hb2.cell (p := ⟨w.heap.size, 0, none⟩) (by simp; omega)).trans cd0, (hb2.cell (p := ⟨b, off + (k - 1) * 2, none⟩) (by simp; omega)).trans cp0⟩
            clear hK K
            try simp only [Act.put, List.setIfInBounds_toArray, List.set_cons_zero, List.set_cons_succ]
            refine wpAnyH_take (i := 2) (oi := _) (v := ?v32) rfl (by kernel_rfl) (by kernel_rfl) (by kernel_rfl) (fun _ _ _ h => h) (Or.inl ⟨by rfl, ?hy32⟩) (by assumption) ?_
            case hy32 => (intro w' hSw; (try dsimp only at hSw); go_simp; try (with_reducible rfl))
            change wpAnyH _ _ _ _ _ _ _ (Act.put _ (some 15) _) _
            simp only [Act.put, List.setIfInBounds_toArray, List.set_cons_zero, List.set_cons_succ]
            refine wpAnyH_take (i := 3) (oi := _) (v := ?v33) rfl (by kernel_rfl) (by kernel_rfl) (by kernel_rfl) (fun _ _ _ h => h) (Or.inl ⟨by rfl, ?hy33⟩) (by assumption) ?_
            case hy33 => (intro w' hSw; (try dsimp only at hSw); go_simp; try (with_reducible rfl))
            change wpAnyH _ _ _ _ _ _ _ (Act.put _ (some 16) _) _
            simp only [Act.put, List.setIfInBounds_toArray, List.set_cons_zero, List.set_cons_succ]
            refine wpAnyH_take (i := 4) (oi := _) (v := ?v34) rfl (by kernel_rfl) (by kernel_rfl) (by kernel_rfl) (fun _ _ _ h => h) (Or.inl ⟨by rfl, ?hy34⟩) (by assumption) ?_
            case hy34 => (intro w' hSw; (try dsimp only at hSw); go_simp; try (with_reducible rfl))
            change wpAnyH _ _ _ _ _ _ _ (Act.put _ (some 17) _) _
            simp only [Act.put, List.setIfInBounds_toArray, List.set_cons_zero, List.set_cons_succ]
            refine wpAnyH_take (i := 5) (oi := _) (v := ?v35) rfl (by kernel_rfl) (by kernel_rfl) (by kernel_rfl) (fun _ _ _ h => h) (Or.inl ⟨by rfl, ?hy35⟩) (by assumption) ?_
            case hy35 => (intro w' hSw; (try dsimp only at hSw); go_simp; try (with_reducible rfl))
            change wpAnyH _ _ _ _ _ _ _ (Act.put _ (some 18) _) _
            simp only [Act.put, List.setIfInBounds_toArray, List.set_cons_zero, List.set_cons_succ]
            try simp only [hd]
            refine wpAnyH_take (i := 6) (oi := _) (v := ?v36) rfl (by kernel_rfl) (by kernel_rfl) (by kernel_rfl) (fun _ _ _ h => h) (Or.inl ⟨by rfl, ?hy36⟩) (by assumption) ?_
            case hy36 => (intro w' hSw; (try dsimp only at hSw); go_simp; try (with_reducible rfl))
            change wpAnyH _ _ _ _ _ _ _ (Act.put _ (some 19) _) _
            simp only [Act.put, List.setIfInBounds_toArray, List.set_cons_zero, List.set_cons_succ]
            refine wpAnyH_take (i := 7) (oi := _) (v := ?v37) rfl (by kernel_rfl) (by kernel_rfl) (by kernel_rfl) (fun _ _ _ h => h) (Or.inl ⟨by rfl, ?hy37⟩) (by assumption) ?_
            case hy37 => (intro w' hSw; (try dsimp only at hSw); go_simp; try (with_reducible rfl))
            change wpAnyH _ _ _ _ _ _ _ (Act.put _ (some 20) _) _
            simp only [Act.put, List.setIfInBounds_toArray, List.set_cons_zero, List.set_cons_succ]
            refine wpAnyH_take (i := 8) (oi := _) (v := ?v38) rfl (by kernel_rfl) (by kernel_rfl) (by kernel_rfl) (fun _ _ _ h => h) (Or.inl ⟨by rfl, ?hy38⟩) (by assumption) ?_
            case hy38 => (intro w' hSw; (try dsimp only at hSw); go_simp; try (with_reducible rfl))
            change wpAnyH _ _ _ _ _ _ _ (Act.put _ (some 21) _) _
            simp only [Act.put, List.setIfInBounds_toArray, List.set_cons_zero, List.set_cons_succ]
            refine wpAnyH_take (i := 9) (oi := _) (v := ?v39) rfl (by kernel_rfl) (by kernel_rfl) (by kernel_rfl) (fun _ _ _ h => h) (Or.inl ⟨by rfl, ?hy39⟩) (by assumption) ?_
            case hy39 => (intro w' hSw; (try dsimp only at hSw); go_simp; try (with_reducible rfl))
            change wpAnyH _ _ _ _ _ _ _ (Act.put _ (some 22) _) _
            simp only [Act.put, List.setIfInBounds_toArray, List.set_cons_zero, List.set_cons_succ]
            refine wpAnyH_take (i := 10) (oi := _) (v := ?v40) rfl (by kernel_rfl) (by kernel_rfl) (by kernel_rfl) (fun _ _ _ h => h) (Or.inl ⟨by rfl, ?hy40⟩) (by assumption) ?_
            case hy40 => (intro w' hSw; (try dsimp only at hSw); go_simp; try (with_reducible rfl))
            change wpAnyH _ _ _ _ _ _ _ (Act.put _ (some 23) _) _
            simp only [Act.put, List.setIfInBounds_toArray, List.set_cons_zero, List.set_cons_succ]
            refine wpAnyH_take (i := 11) (oi := _) (v := ?v41) rfl (by kernel_rfl) (by kernel_rfl) (by kernel_rfl) (fun _ _ _ h => h) (Or.inl ⟨by rfl, ?hy41⟩) (by assumption) ?_
            case hy41 => (intro w' hSw; (try dsimp only at hSw); go_simp; try (with_reducible rfl))
            change wpAnyH _ _ _ _ _ _ _ (Act.put _ (some 24) _) _
            simp only [Act.put, List.setIfInBounds_toArray, List.set_cons_zero, List.set_cons_succ]
            refine wpAnyH_take (i := 12) (oi := _) (v := ?v42) rfl (by kernel_rfl) (by kernel_rfl) (by kernel_rfl) (fun _ _ _ h => h) (Or.inl ⟨by rfl, ?hy42⟩) (by assumption) ?_
            case hy42 => (intro w' hSw; (try dsimp only at hSw); go_simp; try (with_reducible rfl))
            change wpAnyH _ _ _ _ _ _ _ (Act.put _ (some 25) _) _
            simp only [Act.put, List.setIfInBounds_toArray, List.set_cons_zero, List.set_cons_succ]
            refine wpAnyH_take (i := 13) (oi := _) (v := ?v43) rfl (by kernel_rfl) (by kernel_rfl) (by kernel_rfl) (fun _ _ _ h => h) (Or.inl ⟨by rfl, ?hy43⟩) (by assumption) ?_
            case hy43 => (intro w' hSw; (try dsimp only at hSw); go_simp; try (with_reducible rfl))
            change wpAnyH _ _ _ _ _ _ _ (Act.put _ (some 26) _) _
            simp only [Act.put, List.setIfInBounds_toArray, List.set_cons_zero, List.set_cons_succ]
            refine wpAnyH_take (i := 14) (oi := _) (v := ?v44) rfl (by kernel_rfl) (by kernel_rfl) (by kernel_rfl) (fun _ _ _ h => h) (Or.inl ⟨by rfl, ?hy44⟩) (by assumption) ?_
            case hy44 => (intro w' hSw; (try dsimp only at hSw); go_simp; try (with_reducible rfl))
            change wpAnyH _ _ _ _ _ _ _ (Act.put _ (some 27) _) _
            simp only [Act.put, List.setIfInBounds_toArray, List.set_cons_zero, List.set_cons_succ]
            refine wpAnyH_take (i := 15) (oi := _) (v := ?v45) rfl (by kernel_rfl) (by kernel_rfl) (by kernel_rfl) (fun _ _ _ h => h) (Or.inl ⟨by rfl, ?hy45⟩) (by assumption) ?_
            case hy45 => (intro w' hSw; (try dsimp only at hSw); go_simp; try (with_reducible rfl))
            change wpAnyH _ _ _ _ _ _ _ (Act.put _ (some 28) _) _
            simp only [Act.put, List.setIfInBounds_toArray, List.set_cons_zero, List.set_cons_succ]
            refine wpAnyH_ready (rs := [16]) (by kernel_rfl) (by simp) ?_
            refine AllReadyH.cons rfl (fun K hK => ?_) AllReadyH.nil
            go_simp
            (go_at_call 43; refine (hC.out _ (by first | exact hbA.out.trans (hb2.mono hbA.out.size) | exact hbA.out.drew.trans (hb2.mono hbA.out.drew.size))).mono ?_; rintro e w' ⟨rfl, rfl⟩)
            refine hK.out _ _ ?_ (fun hHeld => ?_)
            · assumption
            clear hK K
            try simp only [Act.put, List.setIfInBounds_toArray, List.set_cons_zero, List.set_cons_succ]
            refine wpAnyH_take (i := 17) (oi := _) (v := ?v46) rfl (by kernel_rfl) (by kernel_rfl) (by kernel_rfl) (fun _ _ _ h => h) (Or.inl ⟨by rfl, ?hy46⟩) (by assumption) ?_
            case hy46 => (intro w' hSw; (try dsimp only at hSw); go_simp; try (with_reducible rfl))
            change wpAnyH _ _ _ _ _ _ _ (Act.put _ (some 30) _) _
            simp only [Act.put, List.setIfInBounds_toArray, List.set_cons_zero, List.set_cons_succ]
            refine wpAnyH_take (i := 18) (oi := _) (v := ?v47) rfl (by kernel_rfl) (by kernel_rfl) (by kernel_rfl) (fun _ _ _ h => h) (Or.inl ⟨by rfl, ?hy47⟩) (by assumption) ?_
            case hy47 => (intro w' hSw; (try dsimp only at hSw); go_simp; try (with_reducible rfl))
            change wpAnyH _ _ _ _ _ _ _ (Act.put _ (some 31) _) _
            simp only [Act.put, List.setIfInBounds_toArray, List.set_cons_zero, List.set_cons_succ]
            refine wpAnyH_take (i := 19) (oi := _) (v := ?v48) rfl (by kernel_rfl) (by kernel_rfl) (by kernel_rfl) (fun _ _ _ h => h) (Or.inl ⟨by rfl, ?hy48⟩) (by assumption) ?_
            case hy48 => (intro w' hSw; (try dsimp only at hSw); go_simp; try (with_reducible rfl))
            change wpAnyH _ _ _ _ _ _ _ (Act.put _ (some 32) _) _
            simp only [Act.put, List.setIfInBounds_toArray, List.set_cons_zero, List.set_cons_succ]
            refine wpAnyH_done (by kernel_rfl) ?_ _
            go_wp2
            go_ret
            exact ⟨ret_bool hF.out.symm, (hbel.trans (hbA.out.drew.mono hsz)).trans (hb2.mono (by simp; omega))⟩
      · have hF := Lib.hid (hbad.out (okAt_noent q))
        rw [q] at hE
        clear q hro hev hent hz1 hz2
        go_wp2
        refine wp_region_held_drew (S := (fun w' => w'.cell? ⟨wr.heap.size, 0, none⟩ = some (.slice (enAt l k).A (enAt l k).o.length (enAt l k).c) ∧ w'.cell? ⟨wr.heap.size, 1, none⟩ = some (.string (enAt l k).t))) (by kernel_rfl) ?_ (fun hHeld => ?_)
        · exact ⟨ce0, ce1⟩
        refine wpAnyH_take (i := 0) (oi := _) (v := ?v1) rfl (by kernel_rfl) (by kernel_rfl) (by kernel_rfl) (fun _ _ _ h => h) (Or.inl ⟨by rfl, ?hy1⟩) (by assumption) ?_
        case hy1 => (intro w' hSw; (try dsimp only at hSw); go_simp; try (with_reducible rfl))
        change wpAnyH _ _ _ _ _ _ _ (Act.put _ (some 13) _) _
        simp only [Act.put, List.setIfInBounds_toArray, List.set_cons_zero, List.set_cons_succ]
        refine wpAnyH_ready (rs := [1]) (by kernel_rfl) (by simp) ?_
        refine AllReadyH.cons rfl (fun K hK => ?_) AllReadyH.nil
        go_simp
        (go_at_call 12; refine (hE.out _ (by first | exact hbA.out | exact hbA.out.drew)).mono ?_; rintro e w2 ⟨rfl, hb2⟩)
        refine hK.out _ _ ?_ (fun hHeld => ?_)
        · exact ⟨(hb2.cell (p := ⟨wr.heap.size, 0, none⟩) (by simp)).trans ce0, (hb2.cell (p := ⟨wr.heap.size, 1, none⟩) (by simp)).trans ce1⟩
        clear hK K
        try simp only [Act.put, List.setIfInBounds_toArray, List.set_cons_zero, List.set_cons_succ]
        refine wpAnyH_take (i := 2) (oi := _) (v := ?v2) rfl (by kernel_rfl) (by kernel_rfl) (by kernel_rfl) (fun _ _ _ h => h) (Or.inl ⟨by rfl, ?hy2⟩) (by assumption) ?_
        case hy2 => (intro w' hSw; (try dsimp only at hSw); go_simp; try (with_reducible rfl))
        change wpAnyH _ _ _ _ _ _ _ (Act.put _ (some 15) _) _
        simp only [Act.put, List.setIfInBounds_toArray, List.set_cons_zero, List.set_cons_succ]
        refine wpAnyH_take (i := 3) (oi := _) (v := ?v3) rfl (by kernel_rfl) (by kernel_rfl) (by kernel_rfl) (fun _ _ _ h => h) (Or.inl ⟨by rfl, ?hy3⟩) (by assumption) ?_
        case hy3 => (intro w' hSw; (try dsimp only at hSw); go_simp; try (with_reducible rfl))
        change wpAnyH _ _ _ _ _ _ _ (Act.put _ (some 16) _) _
        simp only [Act.put, List.setIfInBounds_toArray, List.set_cons_zero, List.set_cons_succ]
        refine wpAnyH_take (i := 4) (oi := _) (v := undef) rfl (by kernel_rfl) (by kernel_rfl) (by kernel_rfl) (fun _ _ _ h => h) (Or.inr ⟨by rfl, rfl⟩) (by assumption) ?_
        change wpAnyH _ _ _ _ _ _ _ (Act.put _ (some 17) _) _
        simp only [Act.put, List.setIfInBounds_toArray, List.set_cons_zero, List.set_cons_succ]
        refine wpAnyH_take (i := 5) (oi := _) (v := undef) rfl (by kernel_rfl) (by kernel_rfl) (by kernel_rfl) (fun _ _ _ h => h) (Or.inr ⟨by rfl, rfl⟩) (by assumption) ?_
        change wpAnyH _ _ _ _ _ _ _ (Act.put _ (some 18) _) _
        simp only [Act.put, List.setIfInBounds_toArray, List.set_cons_zero, List.set_cons_succ]
        refine wpAnyH_take (i := 6) (oi := _) (v := undef) rfl (by kernel_rfl) (by kernel_rfl) (by kernel_rfl) (fun _ _ _ h => h) (Or.inr ⟨by rfl, rfl⟩) (by assumption) ?_
        change wpAnyH _ _ _ _ _ _ _ (Act.put _ (some 19) _) _
        simp only [Act.put, List.setIfInBounds_toArray, List.set_cons_zero, List.set_cons_succ]
        refine wpAnyH_take (i := 7) (oi := _) (v := undef) rfl (by kernel_rfl) (by kernel_rfl) (by kernel_rfl) (fun _ _ _ h => h) (Or.inr ⟨by rfl, rfl⟩) (by assumption) ?_
        change wpAnyH _ _ _ _ _ _ _ (Act.put _ (some 20) _) _
        simp only [Act.put, List.setIfInBounds_toArray, List.set_cons_zero, List.set_cons_succ]
        refine wpAnyH_take (i := 8) (oi := _) (v := undef) rfl (by kernel_rfl) (by kernel_rfl) (by kernel_rfl) (fun _ _ _ h => h) (Or.inr ⟨by rfl, rfl⟩) (by assumption) ?_
        change wpAnyH _ _ _ _ _ _ _ (Act.put _ (some 21) _) _
        simp only [Act.put, List.setIfInBounds_toArray, List.set_cons_zero, List.set_cons_succ]
        refine wpAnyH_take (i := 9) (oi := _) (v := undef) rfl (by kernel_rfl) (by kernel_rfl) (by kernel_rfl) (fun _ _ _ h => h) (Or.inr ⟨by rfl, rfl⟩) (by assumption) ?_
        change wpAnyH _ _ _ _ _ _ _ (Act.put _ (some 22) _) _
        simp only [Act.put, List.setIfInBounds_toArray, List.set_cons_zero, List.set_cons_succ]
        refine wpAnyH_take (i := 10) (oi := _) (v := undef) rfl (by kernel_rfl) (by kernel_rfl) (by kernel_rfl) (fun _ _ _ h => h) (Or.inr ⟨by rfl, rfl⟩) (by assumption) ?_
        change wpAnyH _ _ _ _ _ _ _ (Act.put _ (some 23) _) _
        simp only [Act.put, List.setIfInBounds_toArray, List.set_cons_zero, List.set_cons_succ]
        refine wpAnyH_take (i := 11) (oi := _) (v := undef) rfl (by kernel_rfl) (by kernel_rfl) (by kernel_rfl) (fun _ _ _ h => h) (Or.inr ⟨by rfl, rfl⟩) (by assumption) ?_
        change wpAnyH _ _ _ _ _ _ _ (Act.put _ (some 24) _) _
        simp only [Act.put, List.setIfInBounds_toArray, List.set_cons_zero, List.set_cons_succ]
        refine wpAnyH_take (i := 12) (oi := _) (v := undef) rfl (by kernel_rfl) (by kernel_rfl) (by kernel_rfl) (fun _ _ _ h => h) (Or.inr ⟨by rfl, rfl⟩) (by assumption) ?_
        change wpAnyH _ _ _ _ _ _ _ (Act.put _ (some 25) _) _
        simp only [Act.put, List.setIfInBounds_toArray, List.set_cons_zero, List.set_cons_succ]
        refine wpAnyH_take (i := 13) (oi := _) (v := undef) rfl (by kernel_rfl) (by kernel_rfl) (by kernel_rfl) (fun _ _ _ h => h) (Or.inr ⟨by rfl, rfl⟩) (by assumption) ?_
        change wpAnyH _ _ _ _ _ _ _ (Act.put _ (some 26) _) _
        simp only [Act.put, List.setIfInBounds_toArray, List.set_cons_zero, List.set_cons_succ]
        refine wpAnyH_take (i := 14) (oi := _) (v := undef) rfl (by kernel_rfl) (by kernel_rfl) (by kernel_rfl) (fun _ _ _ h => h) (Or.inr ⟨by rfl, rfl⟩) (by assumption) ?_
        change wpAnyH _ _ _ _ _ _ _ (Act.put _ (some 27) _) _
        simp only [Act.put, List.setIfInBounds_toArray, List.set_cons_zero, List.set_cons_succ]
        refine wpAnyH_take (i := 15) (oi := _) (v := undef) rfl (by kernel_rfl) (by kernel_rfl) (by kernel_rfl) (fun _ _ _ h => h) (Or.inr ⟨by rfl, rfl⟩) (by assumption) ?_
        change wpAnyH _ _ _ _ _ _ _ (Act.put _ (some 28) _) _
        simp only [Act.put, List.setIfInBounds_toArray, List.set_cons_zero, List.set_cons_succ]
        refine wpAnyH_take (i := 16) (oi := _) (v := undef) rfl (by kernel_rfl) (by kernel_rfl) (by kernel_rfl) (fun _ _ _ h => h) (Or.inr ⟨by rfl, rfl⟩) (by assumption) ?_
        change wpAnyH _ _ _ _ _ _ _ (Act.put _ (some 29) _) _
        simp only [Act.put, List.setIfInBounds_toArray, List.set_cons_zero, List.set_cons_succ]
        refine wpAnyH_take (i := 17) (oi := _) (v := undef) rfl (by kernel_rfl) (by kernel_rfl) (by kernel_rfl) (fun _ _ _ h => h) (Or.inr ⟨by rfl, rfl⟩) (by assumption) ?_
        change wpAnyH _ _ _ _ _ _ _ (Act.put _ (some 30) _) _
        simp only [Act.put, List.setIfInBounds_toArray, List.set_cons_zero, List.set_cons_succ]
        refine wpAnyH_take (i := 18) (oi := _) (v := undef) rfl (by kernel_rfl) (by kernel_rfl) (by kernel_rfl) (fun _ _ _ h => h) (Or.inr ⟨by rfl, rfl⟩) (by assumption) ?_
        change wpAnyH _ _ _ _ _ _ _ (Act.put _ (some 31) _) _
        simp only [Act.put, List.setIfInBounds_toArray, List.set_cons_zero, List.set_cons_succ]
        refine wpAnyH_take (i := 19) (oi := _) (v := ?v4) rfl (by kernel_rfl) (by kernel_rfl) (by kernel_rfl) (fun _ _ _ h => h) (Or.inl ⟨by rfl, ?hy4⟩) (by assumption) ?_
        case hy4 => (intro w' hSw; (try dsimp only at hSw); go_simp; try (with_reducible rfl))
        change wpAnyH _ _ _ _ _ _ _ (Act.put _ (some 32) _) _
        simp only [Act.put, List.setIfInBounds_toArray, List.set_cons_zero, List.set_cons_succ]
        refine wpAnyH_done (by kernel_rfl) ?_ _
        go_wp2
        go_ret
        exact ⟨ret_bool hF.out.symm, (hbel.trans (hbA.out.drew.mono hsz)).trans (hb2.mono (by simp; omega))⟩
    · obtain rfl : k = n := by omega
      have hcd := ho.cell (j := 0) rfl
      have hF := Lib.hid (dictB_end (d := vals l) (by rw [vals_len, hn]; exact hok.out))
      go_wp2
      go_ret
      exact ⟨ret_bool (by rw [hF.out, vals_len, hn]; simp; omega), hbel⟩
set_option maxHeartbeats 8000000 in
theorem l6Good_any (A : Option Addr) (n c : Nat) (l : List En) (w : World) (hn : l.length = n) (hle : n ≤ 1048576) (hs : ∀ e ∈ l, e.o.length ≤ 1048576 ∧ e.t.size ≤ 1048576) (B : Nat) (hB : B ≤ w.heap.size) (hr : DRow w B A l) :
    Calls Tryd.prog 41 #[.agg #[.slice A n c]] w fun e w' => e = .returned (.bool (dictB (vals l))) ∧ Below w.heap.size w w' := by
  have o0 := ownC_new 38 w #[.slice A n c]
  have b0 := (Below.refl w.heap.size w).alloc (Nat.le_refl _) (.cells #[.slice A n c] 38)
  by_cases h40 : 40 < n
  · have hF := Lib.hid (dictB_long (d := vals l) (by rw [vals_len]; omega))
    go_enter Tryd.func41, Tryd.ntmps41
    go_wp2
    go_ret
    exact ⟨ret_bool hF.out.symm, b0⟩
  go_enter Tryd.func41, Tryd.ntmps41
  go_wp2
  go_loopw [3] (fun i wr => ∃ k : Nat, k ≤ n ∧ i = .int .i64 k ∧ Hid (okTo (vals l) k) ∧ ownC 38 wr w.heap.size w.heap.size [.slice A n c] ∧ Below w.heap.size w wr) (fun i _ => n - (intOf i).toNat)
  case atStart => exact ⟨0, by omega, rfl, okTo_zero _, o0, b0⟩
  case round =>
    obtain ⟨k, hk, rfl, hok, ho, hbel⟩ := hrel
    have hsz := hbel.size
    have hcd := ho.cell (j := 0) rfl
    by_cases hlt : k < n
    · obtain ⟨b, off, rfl, hb, hc1, hc2, hro⟩ := (hr.below_le hbel hB).at (j := k) (by omega)
      obtain ⟨hz1, hz2⟩ := hs _ (enAt_in l k (by omega))
      have hbad := Lib.hid (fun h => dictB_bad (d := vals l) (k := k) (by rw [vals_len]; omega) h)
      have hev := evAt_vals l k (by omega)
      have hent : Hid (entB (evAt (vals l) k) = entB ((enAt l k).o, (enAt l k).t)) := by show _ = _; rw [hev]; rfl
      have hbo : b < wr.heap.size := by omega
      have hdw : w.heap.size < wr.heap.size := ho.lt.2
      have h4 : (0 : Int) ≤ (k : Int) := by omega
      have h5 : (k : Int) < (n : Int) := by omega
      have hE := Lib.hid (fun (W : World) (hW : Below wr.heap.size wr W) => l6Entry_any (enAt l k).A (enAt l k).o.length (enAt l k).c (enAt l k).o (enAt l k).t W rfl hz1 hz2 B (by have := hW.size; omega) (hro.below_le hW (by omega)))
      rw [← hent.out] at hE
      rcases Bool.eq_false_or_eq_true (entB (evAt (vals l) k)) with q | q
      · rw [q] at hE
        by_cases h0 : k = 0
        · have hgo := Lib.hid (okTo_succ hok.out (show okAt (vals l) k = true by rw [h0, okAt_zero]; rw [h0] at q; exact q))
          have hd : decide (0 < k) = false := by simp; omega
          clear q hro hev hent hz1 hz2 h0
          go_wp2
          refine wp_region_held_drew (S := (fun w' => w'.cell? ⟨w.heap.size, 0, none⟩ = some (.slice (some ⟨b, off, none⟩) n c) ∧ w'.cell? ⟨b, off + k * 2, none⟩ = some (.slice (enAt l k).A (enAt l k).o.length (enAt l k).c) ∧ w'.cell? ⟨b, off + k * 2 + 1, none⟩ = some (.string (enAt l k).t))) (by kernel_rfl) ?_ (fun hHeld => ?_)
          · exact ⟨hcd, hc1, hc2⟩
          refine wpAnyH_take (i := 0) (oi := _) (v := ?v57) rfl (by kernel_rfl) (by kernel_rfl) (by kernel_rfl) (fun _ _ _ h => h) (Or.inl ⟨by rfl, ?hy57⟩) (by assumption) ?_
          case hy57 => (intro w' hSw; (try dsimp only at hSw); go_simp; try (with_reducible rfl))
          change wpAnyH _ _ _ _ _ _ _ (Act.put _ (some 15) _) _
          simp only [Act.put, List.setIfInBounds_toArray, List.set_cons_zero, List.set_cons_succ]
          refine wpAnyH_take (i := 1) (oi := _) (v := ?v58) rfl (by kernel_rfl) (by kernel_rfl) (by kernel_rfl) (fun _ _ _ h => h) (Or.inl ⟨by rfl, ?hy58⟩) (by assumption) ?_
          case hy58 => (intro w' hSw; (try dsimp only at hSw); go_simp; try (with_reducible rfl))
          change wpAnyH _ _ _ _ _ _ _ (Act.put _ (some 16) _) _
          simp only [Act.put, List.setIfInBounds_toArray, List.set_cons_zero, List.set_cons_succ]
          refine wpAnyH_take (i := 2) (oi := _) (v := ?v59) rfl (by kernel_rfl) (by kernel_rfl) (by kernel_rfl) (fun _ _ _ h => h) (Or.inl ⟨by rfl, ?hy59⟩) (by assumption) ?_
          case hy59 => (intro w' hSw; (try dsimp only at hSw); go_simp; try (with_reducible rfl))
          change wpAnyH _ _ _ _ _ _ _ (Act.put _ (some 17) _) _
          simp only [Act.put, List.setIfInBounds_toArray, List.set_cons_zero, List.set_cons_succ]
          refine wpAnyH_take (i := 3) (oi := _) (v := ?v60) rfl (by kernel_rfl) (by kernel_rfl) (by kernel_rfl) (fun _ _ _ h => h) (Or.inl ⟨by rfl, ?hy60⟩) (by assumption) ?_
          case hy60 => (intro w' hSw; (try dsimp only at hSw); go_simp; try (with_reducible rfl))
          change wpAnyH _ _ _ _ _ _ _ (Act.put _ (some 18) _) _
          simp only [Act.put, List.setIfInBounds_toArray, List.set_cons_zero, List.set_cons_succ]
          refine wpAnyH_take (i := 4) (oi := _) (v := ?v61) rfl (by kernel_rfl) (by kernel_rfl) (by kernel_rfl) (fun _ _ _ h => h) (Or.inl ⟨by rfl, ?hy61⟩) (by assumption) ?_
          case hy61 => (intro w' hSw; (try dsimp only at hSw); go_simp; try (with_reducible rfl))
          change wpAnyH _ _ _ _ _ _ _ (Act.put _ (some 19) _) _
          simp only [Act.put, List.setIfInBounds_toArray, List.set_cons_zero, List.set_cons_succ]
          refine wpAnyH_ready (rs := [5]) (by kernel_rfl) (by simp) ?_
          refine AllReadyH.cons rfl (fun K hK => ?_) AllReadyH.nil
          go_simp
          (go_at_call 35; refine (hE.out _ (Below.refl _ _).drew).mono ?_; rintro e w2 ⟨rfl, hb2⟩)
          refine hK.out _ _ ?_ (fun hHeld => ?_)
          · exact ⟨(hb2.cell (p := ⟨w.heap.size, 0, none⟩) (by show _ < wr.heap.size; omega)).trans hcd, (hb2.cell (p := ⟨b, off + k * 2, none⟩) (by show _ < wr.heap.size; omega)).trans hc1, (hb2.cell (p := ⟨b, off + k * 2 + 1, none⟩) (by show _ < wr.heap.size; omega)).trans hc2⟩
          clear hK K
          try simp only [Act.put, List.setIfInBounds_toArray, List.set_cons_zero, List.set_cons_succ]
          refine wpAnyH_take (i := 6) (oi := _) (v := ?v62) rfl (by kernel_rfl) (by kernel_rfl) (by kernel_rfl) (fun _ _ _ h => h) (Or.inl ⟨by rfl, ?hy62⟩) (by assumption) ?_
          case hy62 => (intro w' hSw; (try dsimp only at hSw); go_simp; try (with_reducible rfl))
          change wpAnyH _ _ _ _ _ _ _ (Act.put _ (some 21) _) _
          simp only [Act.put, List.setIfInBounds_toArray, List.set_cons_zero, List.set_cons_succ]
          refine wpAnyH_take (i := 7) (oi := _) (v := ?v63) rfl (by kernel_rfl) (by kernel_rfl) (by kernel_rfl) (fun _ _ _ h => h) (Or.inl ⟨by rfl, ?hy63⟩) (by assumption) ?_
          case hy63 => (intro w' hSw; (try dsimp only at hSw); go_simp; try (with_reducible rfl))
          change wpAnyH _ _ _ _ _ _ _ (Act.put _ (some 22) _) _
          simp only [Act.put, List.setIfInBounds_toArray, List.set_cons_zero, List.set_cons_succ]
          refine wpAnyH_take (i := 8) (oi := _) (v := ?v64) rfl (by kernel_rfl) (by kernel_rfl) (by kernel_rfl) (fun _ _ _ h => h) (Or.inl ⟨by rfl, ?hy64⟩) (by assumption) ?_
          case hy64 => (intro w' hSw; (try dsimp only at hSw); go_simp; try (with_reducible rfl))
          change wpAnyH _ _ _ _ _ _ _ (Act.put _ (some 23) _) _
          simp only [Act.put, List.setIfInBounds_toArray, List.set_cons_zero, List.set_cons_succ]
          refine wpAnyH_take (i := 9) (oi := _) (v := ?v65) rfl (by kernel_rfl) (by kernel_rfl) (by kernel_rfl) (fun _ _ _ h => h) (Or.inl ⟨by rfl, ?hy65⟩) (by assumption) ?_
          case hy65 => (intro w' hSw; (try dsimp only at hSw); go_simp; try (with_reducible rfl))
          change wpAnyH _ _ _ _ _ _ _ (Act.put _ (some 24) _) _
          simp only [Act.put, List.setIfInBounds_toArray, List.set_cons_zero, List.set_cons_succ]
          try simp only [hd]
          refine wpAnyH_take (i := 10) (oi := _) (v := ?v66) rfl (by kernel_rfl) (by kernel_rfl) (by kernel_rfl) (fun _ _ _ h => h) (Or.inl ⟨by rfl, ?hy66⟩) (by assumption) ?_
          case hy66 => (intro w' hSw; (try dsimp only at hSw); go_simp; try (with_reducible rfl))
          change wpAnyH _ _ _ _ _ _ _ (Act.put _ (some 25) _) _
          simp only [Act.put, List.setIfInBounds_toArray, List.set_cons_zero, List.set_cons_succ]
          refine wpAnyH_take (i := 11) (oi := _) (v := undef) rfl (by kernel_rfl) (by kernel_rfl) (by kernel_rfl) (fun _ _ _ h => h) (Or.inr ⟨by rfl, rfl⟩) (by assumption) ?_
          change wpAnyH _ _ _ _ _ _ _ (Act.put _ (some 26) _) _
          simp only [Act.put, List.setIfInBounds_toArray, List.set_cons_zero, List.set_cons_succ]
          refine wpAnyH_take (i := 12) (oi := _) (v := undef) rfl (by kernel_rfl) (by kernel_rfl) (by kernel_rfl) (fun _ _ _ h => h) (Or.inr ⟨by rfl, rfl⟩) (by assumption) ?_
          change wpAnyH _ _ _ _ _ _ _ (Act.put _ (some 27) _) _
          simp only [Act.put, List.setIfInBounds_toArray, List.set_cons_zero, List.set_cons_succ]
          refine wpAnyH_take (i := 13) (oi := _) (v := undef) rfl (by kernel_rfl) (by kernel_rfl) (by kernel_rfl) (fun _ _ _ h => h) (Or.inr ⟨by rfl, rfl⟩) (by assumption) ?_
          change wpAnyH _ _ _ _ _ _ _ (Act.put _ (some 28) _) _
          simp only [Act.put, List.setIfInBounds_toArray, List.set_cons_zero, List.set_cons_succ]
          refine wpAnyH_take (i := 14) (oi := _) (v := undef) rfl (by kernel_rfl) (by kernel_rfl) (by kernel_rfl) (fun _ _ _ h => h) (Or.inr ⟨by rfl, rfl⟩) (by assumption) ?_
          change wpAnyH _ _ _ _ _ _ _ (Act.put _ (some 29) _) _
          simp only [Act.put, List.setIfInBounds_toArray, List.set_cons_zero, List.set_cons_succ]
          refine wpAnyH_take (i := 15) (oi := _) (v := undef) rfl (by kernel_rfl) (by kernel_rfl) (by kernel_rfl) (fun _ _ _ h => h) (Or.inr ⟨by rfl, rfl⟩) (by assumption) ?_
          change wpAnyH _ _ _ _ _ _ _ (Act.put _ (some 30) _) _
          simp only [Act.put, List.setIfInBounds_toArray, List.set_cons_zero, List.set_cons_succ]
          refine wpAnyH_take (i := 16) (oi := _) (v := undef) rfl (by kernel_rfl) (by kernel_rfl) (by kernel_rfl) (fun _ _ _ h => h) (Or.inr ⟨by rfl, rfl⟩) (by assumption) ?_
          change wpAnyH _ _ _ _ _ _ _ (Act.put _ (some 31) _) _
          simp only [Act.put, List.setIfInBounds_toArray, List.set_cons_zero, List.set_cons_succ]
          refine wpAnyH_take (i := 17) (oi := _) (v := undef) rfl (by kernel_rfl) (by kernel_rfl) (by kernel_rfl) (fun _ _ _ h => h) (Or.inr ⟨by rfl, rfl⟩) (by assumption) ?_
          change wpAnyH _ _ _ _ _ _ _ (Act.put _ (some 32) _) _
          simp only [Act.put, List.setIfInBounds_toArray, List.set_cons_zero, List.set_cons_succ]
          refine wpAnyH_take (i := 18) (oi := _) (v := undef) rfl (by kernel_rfl) (by kernel_rfl) (by kernel_rfl) (fun _ _ _ h => h) (Or.inr ⟨by rfl, rfl⟩) (by assumption) ?_
          change wpAnyH _ _ _ _ _ _ _ (Act.put _ (some 33) _) _
          simp only [Act.put, List.setIfInBounds_toArray, List.set_cons_zero, List.set_cons_succ]
          refine wpAnyH_take (i := 19) (oi := _) (v := undef) rfl (by kernel_rfl) (by kernel_rfl) (by kernel_rfl) (fun _ _ _ h => h) (Or.inr ⟨by rfl, rfl⟩) (by assumption) ?_
          change wpAnyH _ _ _ _ _ _ _ (Act.put _ (some 34) _) _
          simp only [Act.put, List.setIfInBounds_toArray, List.set_cons_zero, List.set_cons_succ]
          refine wpAnyH_take (i := 20) (oi := _) (v := undef) rfl (by kernel_rfl) (by kernel_rfl) (by kernel_rfl) (fun _ _ _ h => h) (Or.inr ⟨by rfl, rfl⟩) (by assumption) ?_
          change wpAnyH _ _ _ _ _ _ _ (Act.put _ (some 35) _) _
          simp only [Act.put, List.setIfInBounds_toArray, List.set_cons_zero, List.set_cons_succ]
          refine wpAnyH_take (i := 21) (oi := _) (v := undef) rfl (by kernel_rfl) (by kernel_rfl) (by kernel_rfl) (fun _ _ _ h => h) (Or.inr ⟨by rfl, rfl⟩) (by assumption) ?_
          change wpAnyH _ _ _ _ _ _ _ (Act.put _ (some 36) _) _
          simp only [Act.put, List.setIfInBounds_toArray, List.set_cons_zero, List.set_cons_succ]
          refine wpAnyH_take (i := 22) (oi := _) (v := undef) rfl (by kernel_rfl) (by kernel_rfl) (by kernel_rfl) (fun _ _ _ h => h) (Or.inr ⟨by rfl, rfl⟩) (by assumption) ?_
          change wpAnyH _ _ _ _ _ _ _ (Act.put _ (some 37) _) _
          simp only [Act.put, List.setIfInBounds_toArray, List.set_cons_zero, List.set_cons_succ]
          refine wpAnyH_take (i := 23) (oi := _) (v := undef) rfl (by kernel_rfl) (by kernel_rfl) (by kernel_rfl) (fun _ _ _ h => h) (Or.inr ⟨by rfl, rfl⟩) (by assumption) ?_
          change wpAnyH _ _ _ _ _ _ _ (Act.put _ (some 38) _) _
          simp only [Act.put, List.setIfInBounds_toArray, List.set_cons_zero, List.set_cons_succ]
          refine wpAnyH_take (i := 24) (oi := _) (v := undef) rfl (by kernel_rfl) (by kernel_rfl) (by kernel_rfl) (fun _ _ _ h => h) (Or.inr ⟨by rfl, rfl⟩) (by assumption) ?_
          change wpAnyH _ _ _ _ _ _ _ (Act.put _ (some 39) _) _
          simp only [Act.put, List.setIfInBounds_toArray, List.set_cons_zero, List.set_cons_succ]
          refine wpAnyH_take (i := 25) (oi := _) (v := undef) rfl (by kernel_rfl) (by kernel_rfl) (by kernel_rfl) (fun _ _ _ h => h) (Or.inr ⟨by rfl, rfl⟩) (by assumption) ?_
          change wpAnyH _ _ _ _ _ _ _ (Act.put _ (some 40) _) _
          simp only [Act.put, List.setIfInBounds_toArray, List.set_cons_zero, List.set_cons_succ]
          refine wpAnyH_take (i := 26) (oi := _) (v := ?v67) rfl (by kernel_rfl) (by kernel_rfl) (by kernel_rfl) (fun _ _ _ h => h) (Or.inl ⟨by rfl, ?hy67⟩) (by assumption) ?_
          case hy67 => (intro w' hSw; (try dsimp only at hSw); go_simp; try (with_reducible rfl))
          change wpAnyH _ _ _ _ _ _ _ (Act.put _ (some 41) _) _
          simp only [Act.put, List.setIfInBounds_toArray, List.set_cons_zero, List.set_cons_succ]
          refine wpAnyH_take (i := 27) (oi := _) (v := ?v68) rfl (by kernel_rfl) (by kernel_rfl) (by kernel_rfl) (fun _ _ _ h => h) (Or.inl ⟨by rfl, ?hy68⟩) (by assumption) ?_
          case hy68 => (intro w' hSw; (try dsimp only at hSw); go_simp; try (with_reducible rfl))
          change wpAnyH _ _ _ _ _ _ _ (Act.put _ (some 42) _) _
          simp only [Act.put, List.setIfInBounds_toArray, List.set_cons_zero, List.set_cons_succ]
          refine wpAnyH_done (by kernel_rfl) ?_ _
          go_wp2
          go_roundw
          case rel => exact ⟨k + 1, by omega, by go_num, hgo.out, ownC.below (ho.drewN 1) hb2 (Nat.le_refl _), hbel.drew.trans (hb2.mono hsz)⟩
          case measure => simp [intOf]; omega
        · obtain ⟨b', off', e', hb', hp1, _, hrp⟩ := (hr.below_le hbel hB).at (j := k - 1) (by omega)
          injection e' with e'
          injection e' with e1 e2 _
          subst e1 e2
          obtain ⟨hy1, _⟩ := hs _ (enAt_in l (k - 1) (by omega))
          have hevp := evAt_vals l (k - 1) (by omega)
          have hC := Lib.hid (fun (W : World) (hW : Below wr.heap.size wr W) => l4Compare_any (enAt l (k - 1)).A (enAt l k).A (enAt l (k - 1)).o.length (enAt l k).o.length (enAt l (k - 1)).c (enAt l k).c (enAt l (k - 1)).o (enAt l k).o W rfl rfl (by unfold maxLen; omega) (by unfold maxLen; omega) B (hrp.below_le hW (by omega)) (hro.below_le hW (by omega)))
          have hpos := okAt_pos (vals l) k (by omega)
          rw [q, Bool.true_and, hev, hevp] at hpos
          have hpos2 : okAt (vals l) k = decide (cmpL (enAt l (k - 1)).o (enAt l k).o < 0) := hpos
          have hd : decide (0 < k) = true := by simp; omega
          have h1 : (0 : Int) ≤ (k : Int) - 1 := by omega
          have h2 : (k : Int) - 1 < (n : Int) := by omega
          have h3 : ((k : Int) - 1).toNat = k - 1 := by omega
          have h6 : (1 : Int) ≤ (k : Int) := by omega
          have hwr : IntKind.i64.wrap ((k : Int) - 1) = (k : Int) - 1 := by rw [IntKind.wrap_i64]; omega
          generalize cmpL (enAt l (k - 1)).o (enAt l k).o = cm at hC hpos2
          clear q hro hrp hev hevp hent hz1 hz2 hpos
          by_cases hcm : cm < 0
          · have hgo := Lib.hid (okTo_succ hok.out (show okAt (vals l) k = true by rw [hpos2]; simpa using hcm))
            have hdc : decide (0 ≤ cm) = false := by simp; omega
            clear hpos2
            go_wp2
            refine wp_region_held_drew (S := (fun w' => w'.cell? ⟨w.heap.size, 0, none⟩ = some (.slice (some ⟨b, off, none⟩) n c) ∧ w'.cell? ⟨b, off + k * 2, none⟩ = some (.slice (enAt l k).A (enAt l k).o.length (enAt l k).c) ∧ w'.cell? ⟨b, off + k * 2 + 1, none⟩ = some (.string (enAt l k).t) ∧ w'.cell? ⟨b, off + (k - 1) * 2, none⟩ = some (.slice (enAt l (k - 1)).A (enAt l (k - 1)).o.length (enAt l (k - 1)).c))) (by kernel_rfl) ?_ (fun hHeld => ?_)
            · exact ⟨hcd, hc1, hc2, hp1⟩
            refine wpAnyH_take (i := 0) (oi := _) (v := ?v69) rfl (by kernel_rfl) (by kernel_rfl) (by kernel_rfl) (fun _ _ _ h => h) (Or.inl ⟨by rfl, ?hy69⟩) (by assumption) ?_
            case hy69 => (intro w' hSw; (try dsimp only at hSw); go_simp; try (with_reducible rfl))
            change wpAnyH _ _ _ _ _ _ _ (Act.put _ (some 15) _) _
            simp only [Act.put, List.setIfInBounds_toArray, List.set_cons_zero, List.set_cons_succ]
            refine wpAnyH_take (i := 1) (oi := _) (v := ?v70) rfl (by kernel_rfl) (by kernel_rfl) (by kernel_rfl) (fun _ _ _ h => h) (Or.inl ⟨by rfl, ?hy70⟩) (by assumption) ?_
            case hy70 => (intro w' hSw; (try dsimp only at hSw); go_simp; try (with_reducible rfl))
            change wpAnyH _ _ _ _ _ _ _ (Act.put _ (some 16) _) _
            simp only [Act.put, List.setIfInBounds_toArray, List.set_cons_zero, List.set_cons_succ]
            refine wpAnyH_take (i := 2) (oi := _) (v := ?v71) rfl (by kernel_rfl) (by kernel_rfl) (by kernel_rfl) (fun _ _ _ h => h) (Or.inl ⟨by rfl, ?hy71⟩) (by assumption) ?_
            case hy71 => (intro w' hSw; (try dsimp only at hSw); go_simp; try (with_reducible rfl))
            change wpAnyH _ _ _ _ _ _ _ (Act.put _ (some 17) _) _
            simp only [Act.put, List.setIfInBounds_toArray, List.set_cons_zero, List.set_cons_succ]
            refine wpAnyH_take (i := 3) (oi := _) (v := ?v72) rfl (by kernel_rfl) (by kernel_rfl) (by kernel_rfl) (fun _ _ _ h => h) (Or.inl ⟨by rfl, ?hy72⟩) (by assumption) ?_
            case hy72 => (intro w' hSw; (try dsimp only at hSw); go_simp; try (with_reducible rfl))
            change wpAnyH _ _ _ _ _ _ _ (Act.put _ (some 18) _) _
            simp only [Act.put, List.setIfInBounds_toArray, List.set_cons_zero, List.set_cons_succ]
            refine wpAnyH_take (i := 4) (oi := _) (v := ?v73) rfl (by kernel_rfl) (by kernel_rfl) (by kernel_rfl) (fun _ _ _ h => h) (Or.inl ⟨by rfl, ?hy73⟩) (by assumption) ?_
            case hy73 => (intro w' hSw; (try dsimp only at hSw); go_simp; try (with_reducible rfl))
            change wpAnyH _ _ _ _ _ _ _ (Act.put _ (some 19) _) _
            simp only [Act.put, List.setIfInBounds_toArray, List.set_cons_zero, List.set_cons_succ]
            refine wpAnyH_ready (rs := [5]) (by kernel_rfl) (by simp) ?_
            refine AllReadyH.cons rfl (fun K hK => ?_) AllReadyH.nil
            go_simp
            (go_at_call 35; refine (hE.out _ (Below.refl _ _).drew).mono ?_; rintro e w2 ⟨rfl, hb2⟩)
            refine hK.out _ _ ?_ (fun hHeld => ?_)
            · exact ⟨(hb2.cell (p := ⟨w.heap.size, 0, none⟩) (by show _ < wr.heap.size; omega)).trans hcd, (hb2.cell (p := ⟨b, off + k * 2, none⟩) (by show _ < wr.heap.size; omega)).trans hc1, (hb2.cell (p := ⟨b, off + k * 2 + 1, none⟩) (by show _ < wr.heap.size; omega)).trans hc2, (hb2.cell (p := ⟨b, off + (k - 1) * 2, none⟩) (by show _ < wr.heap.size; omega)).trans hp1⟩
            clear hK K
            try simp only [Act.put, List.setIfInBounds_toArray, List.set_cons_zero, List.set_cons_succ]
            refine wpAnyH_take (i := 6) (oi := _) (v := ?v74) rfl (by kernel_rfl) (by kernel_rfl) (by kernel_rfl) (fun _ _ _ h => h) (Or.inl ⟨by rfl, ?hy74⟩) (by assumption) ?_
            case hy74 => (intro w' hSw; (try dsimp only at hSw); go_simp; try (with_reducible rfl))
            change wpAnyH _ _ _ _ _ _ _ (Act.put _ (some 21) _) _
            simp only [Act.put, List.setIfInBounds_toArray, List.set_cons_zero, List.set_cons_succ]
            refine wpAnyH_take (i := 7) (oi := _) (v := ?v75) rfl (by kernel_rfl) (by kernel_rfl) (by kernel_rfl) (fun _ _ _ h => h) (Or.inl ⟨by rfl, ?hy75⟩) (by assumption) ?_
            case hy75 => (intro w' hSw; (try dsimp only at hSw); go_simp; try (with_reducible rfl))
            change wpAnyH _ _ _ _ _ _ _ (Act.put _ (some 22) _) _
            simp only [Act.put, List.setIfInBounds_toArray, List.set_cons_zero, List.set_cons_succ]
            refine wpAnyH_take (i := 8) (oi := _) (v := ?v76) rfl (by kernel_rfl) (by kernel_rfl) (by kernel_rfl) (fun _ _ _ h => h) (Or.inl ⟨by rfl, ?hy76⟩) (by assumption) ?_
            case hy76 => (intro w' hSw; (try dsimp only at hSw); go_simp; try (with_reducible rfl))
            change wpAnyH _ _ _ _ _ _ _ (Act.put _ (some 23) _) _
            simp only [Act.put, List.setIfInBounds_toArray, List.set_cons_zero, List.set_cons_succ]
            refine wpAnyH_take (i := 9) (oi := _) (v := ?v77) rfl (by kernel_rfl) (by kernel_rfl) (by kernel_rfl) (fun _ _ _ h => h) (Or.inl ⟨by rfl, ?hy77⟩) (by assumption) ?_
            case hy77 => (intro w' hSw; (try dsimp only at hSw); go_simp; try (with_reducible rfl))
            change wpAnyH _ _ _ _ _ _ _ (Act.put _ (some 24) _) _
            simp only [Act.put, List.setIfInBounds_toArray, List.set_cons_zero, List.set_cons_succ]
            try simp only [hd]
            refine wpAnyH_take (i := 10) (oi := _) (v := ?v78) rfl (by kernel_rfl) (by kernel_rfl) (by kernel_rfl) (fun _ _ _ h => h) (Or.inl ⟨by rfl, ?hy78⟩) (by assumption) ?_
            case hy78 => (intro w' hSw; (try dsimp only at hSw); go_simp; try (with_reducible rfl))
            change wpAnyH _ _ _ _ _ _ _ (Act.put _ (some 25) _) _
            simp only [Act.put, List.setIfInBounds_toArray, List.set_cons_zero, List.set_cons_succ]
            refine wpAnyH_take (i := 11) (oi := _) (v := ?v79) rfl (by kernel_rfl) (by kernel_rfl) (by kernel_rfl) (fun _ _ _ h => h) (Or.inl ⟨by rfl, ?hy79⟩) (by assumption) ?_
            case hy79 => (intro w' hSw; (try dsimp only at hSw); go_simp; try (with_reducible rfl))
            change wpAnyH _ _ _ _ _ _ _ (Act.put _ (some 26) _) _
            simp only [Act.put, List.setIfInBounds_toArray, List.set_cons_zero, List.set_cons_succ]
            refine wpAnyH_take (i := 12) (oi := _) (v := ?v80) rfl (by kernel_rfl) (by kernel_rfl) (by kernel_rfl) (fun _ _ _ h => h) (Or.inl ⟨by rfl, ?hy80⟩) (by assumption) ?_
            case hy80 => (intro w' hSw; (try dsimp only at hSw); go_simp; try (with_reducible rfl))
            change wpAnyH _ _ _ _ _ _ _ (Act.put _ (some 27) _) _
            simp only [Act.put, List.setIfInBounds_toArray, List.set_cons_zero, List.set_cons_succ]
            refine wpAnyH_take (i := 13) (oi := _) (v := ?v81) rfl (by kernel_rfl) (by kernel_rfl) (by kernel_rfl) (fun _ _ _ h => h) (Or.inl ⟨by rfl, ?hy81⟩) (by assumption) ?_
            case hy81 => (intro w' hSw; (try dsimp only at hSw); go_simp; try (with_reducible rfl))
            change wpAnyH _ _ _ _ _ _ _ (Act.put _ (some 28) _) _
            simp only [Act.put, List.setIfInBounds_toArray, List.set_cons_zero, List.set_cons_succ]
            refine wpAnyH_take (i := 14) (oi := _) (v := ?v82) rfl (by kernel_rfl) (by kernel_rfl) (by kernel_rfl) (fun _ _ _ h => h) (Or.inl ⟨by rfl, ?hy82⟩) (by assumption) ?_
            case hy82 => (intro w' hSw; (try dsimp only at hSw); go_simp; try (with_reducible rfl))
            change wpAnyH _ _ _ _ _ _ _ (Act.put _ (some 29) _) _
            simp only [Act.put, List.setIfInBounds_toArray, List.set_cons_zero, List.set_cons_succ]
            refine wpAnyH_take (i := 15) (oi := _) (v := ?v83) rfl (by kernel_rfl) (by kernel_rfl) (by kernel_rfl) (fun _ _ _ h => h) (Or.inl ⟨by rfl, ?hy83⟩) (by assumption) ?_
            case hy83 => (intro w' hSw; (try dsimp only at hSw); go_simp; try (with_reducible rfl))
            change wpAnyH _ _ _ _ _ _ _ (Act.put _ (some 30) _) _
            simp only [Act.put, List.setIfInBounds_toArray, List.set_cons_zero, List.set_cons_succ]
            refine wpAnyH_take (i := 16) (oi := _) (v := ?v84) rfl (by kernel_rfl) (by kernel_rfl) (by kernel_rfl) (fun _ _ _ h => h) (Or.inl ⟨by rfl, ?hy84⟩) (by assumption) ?_
            case hy84 => (intro w' hSw; (try dsimp only at hSw); go_simp; try (with_reducible rfl))
            change wpAnyH _ _ _ _ _ _ _ (Act.put _ (some 31) _) _
            simp only [Act.put, List.setIfInBounds_toArray, List.set_cons_zero, List.set_cons_succ]
            refine wpAnyH_take (i := 17) (oi := _) (v := ?v85) rfl (by kernel_rfl) (by kernel_rfl) (by kernel_rfl) (fun _ _ _ h => h) (Or.inl ⟨by rfl, ?hy85⟩) (by assumption) ?_
            case hy85 => (intro w' hSw; (try dsimp only at hSw); go_simp; try (with_reducible rfl))
            change wpAnyH _ _ _ _ _ _ _ (Act.put _ (some 32) _) _
            simp only [Act.put, List.setIfInBounds_toArray, List.set_cons_zero, List.set_cons_succ]
            refine wpAnyH_take (i := 18) (oi := _) (v := ?v86) rfl (by kernel_rfl) (by kernel_rfl) (by kernel_rfl) (fun _ _ _ h => h) (Or.inl ⟨by rfl, ?hy86⟩) (by assumption) ?_
            case hy86 => (intro w' hSw; (try dsimp only at hSw); go_simp; try (with_reducible rfl))
            change wpAnyH _ _ _ _ _ _ _ (Act.put _ (some 33) _) _
            simp only [Act.put, List.setIfInBounds_toArray, List.set_cons_zero, List.set_cons_succ]
            refine wpAnyH_take (i := 19) (oi := _) (v := ?v87) rfl (by kernel_rfl) (by kernel_rfl) (by kernel_rfl) (fun _ _ _ h => h) (Or.inl ⟨by rfl, ?hy87⟩) (by assumption) ?_
            case hy87 => (intro w' hSw; (try dsimp only at hSw); go_simp; try (with_reducible rfl))
            change wpAnyH _ _ _ _ _ _ _ (Act.put _ (some 34) _) _
            simp only [Act.put, List.setIfInBounds_toArray, List.set_cons_zero, List.set_cons_succ]
            refine wpAnyH_take (i := 20) (oi := _) (v := ?v88) rfl (by kernel_rfl) (by kernel_rfl) (by kernel_rfl) (fun _ _ _ h => h) (Or.inl ⟨by rfl, ?hy88⟩) (by assumption) ?_
            case hy88 => (intro w' hSw; (try dsimp only at hSw); go_simp; try (with_reducible rfl))
            change wpAnyH _ _ _ _ _ _ _ (Act.put _ (some 35) _) _
            simp only [Act.put, List.setIfInBounds_toArray, List.set_cons_zero, List.set_cons_succ]
            refine wpAnyH_take (i := 21) (oi := _) (v := ?v89) rfl (by kernel_rfl) (by kernel_rfl) (by kernel_rfl) (fun _ _ _ h => h) (Or.inl ⟨by rfl, ?hy89⟩) (by assumption) ?_
            case hy89 => (intro w' hSw; (try dsimp only at hSw); go_simp; try (with_reducible rfl))
            change wpAnyH _ _ _ _ _ _ _ (Act.put _ (some 36) _) _
            simp only [Act.put, List.setIfInBounds_toArray, List.set_cons_zero, List.set_cons_succ]
            refine wpAnyH_take (i := 22) (oi := _) (v := ?v90) rfl (by kernel_rfl) (by kernel_rfl) (by kernel_rfl) (fun _ _ _ h => h) (Or.inl ⟨by rfl, ?hy90⟩) (by assumption) ?_
            case hy90 => (intro w' hSw; (try dsimp only at hSw); go_simp; try (with_reducible rfl))
            change wpAnyH _ _ _ _ _ _ _ (Act.put _ (some 37) _) _
            simp only [Act.put, List.setIfInBounds_toArray, List.set_cons_zero, List.set_cons_succ]
            refine wpAnyH_take (i := 23) (oi := _) (v := ?v91) rfl (by kernel_rfl) (by kernel_rfl) (by kernel_rfl) (fun _ _ _ h => h) (Or.inl ⟨by rfl, ?hy91⟩) (by assumption) ?_
            case hy91 => (intro w' hSw; (try dsimp only at hSw); go_simp; try (with_reducible rfl))
            change wpAnyH _ _ _ _ _ _ _ (Act.put _ (some 38) _) _
            simp only [Act.put, List.setIfInBounds_toArray, List.set_cons_zero, List.set_cons_succ]
            refine wpAnyH_ready (rs := [24]) (by kernel_rfl) (by simp) ?_
            refine AllReadyH.cons rfl (fun K hK => ?_) AllReadyH.nil
            go_simp
            (go_at_call 64; refine (hC.out _ ((Below.refl _ _).drew.trans hb2)).mono ?_; rintro e w' ⟨rfl, j, rfl⟩)
            refine hK.out _ _ ?_ (fun hHeld => ?_)
            · exact hHeld
            clear hK K
            try simp only [Act.put, List.setIfInBounds_toArray, List.set_cons_zero, List.set_cons_succ]
            refine wpAnyH_take (i := 25) (oi := _) (v := ?v92) rfl (by kernel_rfl) (by kernel_rfl) (by kernel_rfl) (fun _ _ _ h => h) (Or.inl ⟨by rfl, ?hy92⟩) (by assumption) ?_
            case hy92 => (intro w' hSw; (try dsimp only at hSw); go_simp; try (with_reducible rfl))
            change wpAnyH _ _ _ _ _ _ _ (Act.put _ (some 40) _) _
            simp only [Act.put, List.setIfInBounds_toArray, List.set_cons_zero, List.set_cons_succ]
            refine wpAnyH_take (i := 26) (oi := _) (v := ?v93) rfl (by kernel_rfl) (by kernel_rfl) (by kernel_rfl) (fun _ _ _ h => h) (Or.inl ⟨by rfl, ?hy93⟩) (by assumption) ?_
            case hy93 => (intro w' hSw; (try dsimp only at hSw); go_simp; try (with_reducible rfl))
            change wpAnyH _ _ _ _ _ _ _ (Act.put _ (some 41) _) _
            simp only [Act.put, List.setIfInBounds_toArray, List.set_cons_zero, List.set_cons_succ]
            refine wpAnyH_take (i := 27) (oi := _) (v := ?v94) rfl (by kernel_rfl) (by kernel_rfl) (by kernel_rfl) (fun _ _ _ h => h) (Or.inl ⟨by rfl, ?hy94⟩) (by assumption) ?_
            case hy94 => (intro w' hSw; (try dsimp only at hSw); go_simp; try (with_reducible rfl))
            change wpAnyH _ _ _ _ _ _ _ (Act.put _ (some 42) _) _
            simp only [Act.put, List.setIfInBounds_toArray, List.set_cons_zero, List.set_cons_succ]
            refine wpAnyH_done (by kernel_rfl) ?_ _
            go_wp2
            go_roundw
            case rel => exact ⟨k + 1, by omega, by go_num, hgo.out, ownC.drewN (ownC.below (ho.drewN 1) hb2 (Nat.le_refl _)) _, below_drewN (hbel.drew.trans (hb2.mono hsz)) _⟩
            case measure => simp [intOf]; omega
          · have hF := Lib.hid (hbad.out (show okAt (vals l) k = false by rw [hpos2]; simpa using hcm))
            have hdc : decide (0 ≤ cm) = true := by simp; omega
            clear hpos2
            go_wp2
            refine wp_region_held_drew (S := (fun w' => w'.cell? ⟨w.heap.size, 0, none⟩ = some (.slice (some ⟨b, off, none⟩) n c) ∧ w'.cell? ⟨b, off + k * 2, none⟩ = some (.slice (enAt l k).A (enAt l k).o.length (enAt l k).c) ∧ w'.cell? ⟨b, off + k * 2 + 1, none⟩ = some (.string (enAt l k).t) ∧ w'.cell? ⟨b, off + (k - 1) * 2, none⟩ = some (.slice (enAt l (k - 1)).A (enAt l (k - 1)).o.length (enAt l (k - 1)).c))) (by kernel_rfl) ?_ (fun hHeld => ?_)
            · exact ⟨hcd, hc1, hc2, hp1⟩
            refine wpAnyH_take (i := 0) (oi := _) (v := ?v95) rfl (by kernel_rfl) (by kernel_rfl) (by kernel_rfl) (fun _ _ _ h => h) (Or.inl ⟨by rfl, ?hy95⟩) (by assumption) ?_
            case hy95 => (intro w' hSw; (try dsimp only at hSw); go_simp; try (with_reducible rfl))
            change wpAnyH _ _ _ _ _ _ _ (Act.put _ (some 15) _) _
            simp only [Act.put, List.setIfInBounds_toArray, List.set_cons_zero, List.set_cons_succ]
            refine wpAnyH_take (i := 1) (oi := _) (v := ?v96) rfl (by kernel_rfl) (by kernel_rfl) (by kernel_rfl) (fun _ _ _ h => h) (Or.inl ⟨by rfl, ?hy96⟩) (by assumption) ?_
            case hy96 => (intro w' hSw; (try dsimp only at hSw); go_simp; try (with_reducible rfl))
            change wpAnyH _ _ _ _ _ _ _ (Act.put _ (some 16) _) _
            simp only [Act.put, List.setIfInBounds_toArray, List.set_cons_zero, List.set_cons_succ]
            refine wpAnyH_take (i := 2) (oi := _) (v := ?v97) rfl (by kernel_rfl) (by kernel_rfl) (by kernel_rfl) (fun _ _ _ h => h) (Or.inl ⟨by rfl, ?hy97⟩) (by assumption) ?_
            case hy97 => (intro w' hSw; (try dsimp only at hSw); go_simp; try (with_reducible rfl))
            change wpAnyH _ _ _ _ _ _ _ (Act.put _ (some 17) _) _
            simp only [Act.put, List.setIfInBounds_toArray, List.set_cons_zero, List.set_cons_succ]
            refine wpAnyH_take (i := 3) (oi := _) (v := ?v98) rfl (by kernel_rfl) (by kernel_rfl) (by kernel_rfl) (fun _ _ _ h => h) (Or.inl ⟨by rfl, ?hy98⟩) (by assumption) ?_
            case hy98 => (intro w' hSw; (try dsimp only at hSw); go_simp; try (with_reducible rfl))
            change wpAnyH _ _ _ _ _ _ _ (Act.put _ (some 18) _) _
            simp only [Act.put, List.setIfInBounds_toArray, List.set_cons_zero, List.set_cons_succ]
            refine wpAnyH_take (i := 4) (oi := _) (v := ?v99) rfl (by kernel_rfl) (by kernel_rfl) (by kernel_rfl) (fun _ _ _ h => h) (Or.inl ⟨by rfl, ?hy99⟩) (by assumption) ?_
            case hy99 => (intro w' hSw; (try dsimp only at hSw); go_simp; try (with_reducible rfl))
            change wpAnyH _ _ _ _ _ _ _ (Act.put _ (some 19) _) _
            simp only [Act.put, List.setIfInBounds_toArray, List.set_cons_zero, List.set_cons_succ]
            refine wpAnyH_ready (rs := [5]) (by kernel_rfl) (by simp) ?_
            refine AllReadyH.cons rfl (fun K hK => ?_) AllReadyH.nil
            go_simp
            (go_at_call 35; refine (hE.out _ (Below.refl _ _).drew).mono ?_; rintro e w2 ⟨rfl, hb2⟩)
            refine hK.out _ _ ?_ (fun hHeld => ?_)
            · exact ⟨(hb2.cell (p := ⟨w.heap.size, 0, none⟩) (by show _ < wr.heap.size; omega)).trans hcd, (hb2.cell (p := ⟨b, off + k * 2, none⟩) (by show _ < wr.heap.size; omega)).trans hc1, (hb2.cell (p := ⟨b, off + k * 2 + 1, none⟩) (by show _ < wr.heap.size; omega)).trans hc2, (hb2.cell (p := ⟨b, off + (k - 1) * 2, none⟩) (by show _ < wr.heap.size; omega)).trans hp1⟩
            clear hK K
            try simp only [Act.put, List.setIfInBounds_toArray, List.set_cons_zero, List.set_cons_succ]
            refine wpAnyH_take (i := 6) (oi := _) (v := ?v100) rfl (by kernel_rfl) (by kernel_rfl) (by kernel_rfl) (fun _ _ _ h => h) (Or.inl ⟨by rfl, ?hy100⟩) (by assumption) ?_
            case hy100 => (intro w' hSw; (try dsimp only at hSw); go_simp; try (with_reducible rfl))
            change wpAnyH _ _ _ _ _ _ _ (Act.put _ (some 21) _) _
            simp only [Act.put, List.setIfInBounds_toArray, List.set_cons_zero, List.set_cons_succ]
            refine wpAnyH_take (i := 7) (oi := _) (v := ?v101) rfl (by kernel_rfl) (by kernel_rfl) (by kernel_rfl) (fun _ _ _ h => h) (Or.inl ⟨by rfl, ?hy101⟩) (by assumption) ?_
            case hy101 => (intro w' hSw; (try dsimp only at hSw); go_simp; try (with_reducible rfl))
            change wpAnyH _ _ _ _ _ _ _ (Act.put _ (some 22) _) _
            simp only [Act.put, List.setIfInBounds_toArray, List.set_cons_zero, List.set_cons_succ]
            refine wpAnyH_take (i := 8) (oi := _) (v := ?v102) rfl (by kernel_rfl) (by kernel_rfl) (by kernel_rfl) (fun _ _ _ h => h) (Or.inl ⟨by rfl, ?hy102⟩) (by assumption) ?_
            case hy102 => (intro w' hSw; (try dsimp only at hSw); go_simp; try (with_reducible rfl))
            change wpAnyH _ _ _ _ _ _ _ (Act.put _ (some 23) _) _
            simp only [Act.put, List.setIfInBounds_toArray, List.set_cons_zero, List.set_cons_succ]
            refine wpAnyH_take (i := 9) (oi := _) (v := ?v103) rfl (by kernel_rfl) (by kernel_rfl) (by kernel_rfl) (fun _ _ _ h => h) (Or.inl ⟨by rfl, ?hy103⟩) (by assumption) ?_
            case hy103 => (intro w' hSw; (try dsimp only at hSw); go_simp; try (with_reducible rfl))
            change wpAnyH _ _ _ _ _ _ _ (Act.put _ (some 24) _) _
            simp only [Act.put, List.setIfInBounds_toArray, List.set_cons_zero, List.set_cons_succ]
            try simp only [hd]
            refine wpAnyH_take (i := 10) (oi := _) (v := ?v104) rfl (by kernel_rfl) (by kernel_rfl) (by kernel_rfl) (fun _ _ _ h => h) (Or.inl ⟨by rfl, ?hy104⟩) (by assumption) ?_
            case hy104 => (intro w' hSw; (try dsimp only at hSw); go_simp; try (with_reducible rfl))
            change wpAnyH _ _ _ _ _ _ _ (Act.put _ (some 25) _) _
            simp only [Act.put, List.setIfInBounds_toArray, List.set_cons_zero, List.set_cons_succ]
            refine wpAnyH_take (i := 11) (oi := _) (v := ?v105) rfl (by kernel_rfl) (by kernel_rfl) (by kernel_rfl) (fun _ _ _ h => h) (Or.inl ⟨by rfl, ?hy105⟩) (by assumption) ?_
            case hy105 => (intro w' hSw; (try dsimp only at hSw); go_simp; try (with_reducible rfl))
            change wpAnyH _ _ _ _ _ _ _ (Act.put _ (some 26) _) _
            simp only [Act.put, List.setIfInBounds_toArray, List.set_cons_zero, List.set_cons_succ]
            refine wpAnyH_take (i := 12) (oi := _) (v := ?v106) rfl (by kernel_rfl) (by kernel_rfl) (by kernel_rfl) (fun _ _ _ h => h) (Or.inl ⟨by rfl, ?hy106⟩) (by assumption) ?_
            case hy106 => (intro w' hSw; (try dsimp only at hSw); go_simp; try (with_reducible rfl))
            change wpAnyH _ _ _ _ _ _ _ (Act.put _ (some 27) _) _
            simp only [Act.put, List.setIfInBounds_toArray, List.set_cons_zero, List.set_cons_succ]
            refine wpAnyH_take (i := 13) (oi := _) (v := ?v107) rfl (by kernel_rfl) (by kernel_rfl) (by kernel_rfl) (fun _ _ _ h => h) (Or.inl ⟨by rfl, ?hy107⟩) (by assumption) ?_
            case hy107 => (intro w' hSw; (try dsimp only at hSw); go_simp; try (with_reducible rfl))
            change wpAnyH _ _ _ _ _ _ _ (Act.put _ (some 28) _) _
            simp only [Act.put, List.setIfInBounds_toArray, List.set_cons_zero, List.set_cons_succ]
            refine wpAnyH_take (i := 14) (oi := _) (v := ?v108) rfl (by kernel_rfl) (by kernel_rfl) (by kernel_rfl) (fun _ _ _ h => h) (Or.inl ⟨by rfl, ?hy108⟩) (by assumption) ?_
            case hy108 => (intro w' hSw; (try dsimp only at hSw); go_simp; try (with_reducible rfl))
            change wpAnyH _ _ _ _ _ _ _ (Act.put _ (some 29) _) _
            simp only [Act.put, List.setIfInBounds_toArray, List.set_cons_zero, List.set_cons_succ]
            refine wpAnyH_take (i := 15) (oi := _) (v := ?v109) rfl (by kernel_rfl) (by kernel_rfl) (by kernel_rfl) (fun _ _ _ h => h) (Or.inl ⟨by rfl, ?hy109⟩) (by assumption) ?_
            case hy109 => (intro w' hSw; (try dsimp only at hSw); go_simp; try (with_reducible rfl))
            change wpAnyH _ _ _ _ _ _ _ (Act.put _ (some 30) _) _
            simp only [Act.put, List.setIfInBounds_toArray, List.set_cons_zero, List.set_cons_succ]
            refine wpAnyH_take (i := 16) (oi := _) (v := ?v110) rfl (by kernel_rfl) (by kernel_rfl) (by kernel_rfl) (fun _ _ _ h => h) (Or.inl ⟨by rfl, ?hy110⟩) (by assumption) ?_
            case hy110 => (intro w' hSw; (try dsimp only at hSw); go_simp; try (with_reducible rfl))
            change wpAnyH _ _ _ _ _ _ _ (Act.put _ (some 31) _) _
            simp only [Act.put, List.setIfInBounds_toArray, List.set_cons_zero, List.set_cons_succ]
            refine wpAnyH_take (i := 17) (oi := _) (v := ?v111) rfl (by kernel_rfl) (by kernel_rfl) (by kernel_rfl) (fun _ _ _ h => h) (Or.inl ⟨by rfl, ?hy111⟩) (by assumption) ?_
            case hy111 => (intro w' hSw; (try dsimp only at hSw); go_simp; try (with_reducible rfl))
            change wpAnyH _ _ _ _ _ _ _ (Act.put _ (some 32) _) _
            simp only [Act.put, List.setIfInBounds_toArray, List.set_cons_zero, List.set_cons_succ]
            refine wpAnyH_take (i := 18) (oi := _) (v := ?v112) rfl (by kernel_rfl) (by kernel_rfl) (by kernel_rfl) (fun _ _ _ h => h) (Or.inl ⟨by rfl, ?hy112⟩) (by assumption) ?_
            case hy112 => (intro w' hSw; (try dsimp only at hSw); go_simp; try (with_reducible rfl))
            change wpAnyH _ _ _ _ _ _ _ (Act.put _ (some 33) _) _
            simp only [Act.put, List.setIfInBounds_toArray, List.set_cons_zero, List.set_cons_succ]
            refine wpAnyH_take (i := 19) (oi := _) (v := ?v113) rfl (by kernel_rfl) (by kernel_rfl) (by kernel_rfl) (fun _ _ _ h => h) (Or.inl ⟨by rfl, ?hy113⟩) (by assumption) ?_
            case hy113 => (intro w' hSw; (try dsimp only at hSw); go_simp; try (with_reducible rfl))
            change wpAnyH _ _ _ _ _ _ _ (Act.put _ (some 34) _) _
            simp only [Act.put, List.setIfInBounds_toArray, List.set_cons_zero, List.set_cons_succ]
            refine wpAnyH_take (i := 20) (oi := _) (v := ?v114) rfl (by kernel_rfl) (by kernel_rfl) (by kernel_rfl) (fun _ _ _ h => h) (Or.inl ⟨by rfl, ?hy114⟩) (by assumption) ?_
            case hy114 => (intro w' hSw; (try dsimp only at hSw); go_simp; try (with_reducible rfl))
            change wpAnyH _ _ _ _ _ _ _ (Act.put _ (some 35) _) _
            simp only [Act.put, List.setIfInBounds_toArray, List.set_cons_zero, List.set_cons_succ]
            refine wpAnyH_take (i := 21) (oi := _) (v := ?v115) rfl (by kernel_rfl) (by kernel_rfl) (by kernel_rfl) (fun _ _ _ h => h) (Or.inl ⟨by rfl, ?hy115⟩) (by assumption) ?_
            case hy115 => (intro w' hSw; (try dsimp only at hSw); go_simp; try (with_reducible rfl))
            change wpAnyH _ _ _ _ _ _ _ (Act.put _ (some 36) _) _
            simp only [Act.put, List.setIfInBounds_toArray, List.set_cons_zero, List.set_cons_succ]
            refine wpAnyH_take (i := 22) (oi := _) (v := ?v116) rfl (by kernel_rfl) (by kernel_rfl) (by kernel_rfl) (fun _ _ _ h => h) (Or.inl ⟨by rfl, ?hy116⟩) (by assumption) ?_
            case hy116 => (intro w' hSw; (try dsimp only at hSw); go_simp; try (with_reducible rfl))
            change wpAnyH _ _ _ _ _ _ _ (Act.put _ (some 37) _) _
            simp only [Act.put, List.setIfInBounds_toArray, List.set_cons_zero, List.set_cons_succ]
            refine wpAnyH_take (i := 23) (oi := _) (v := ?v117) rfl (by kernel_rfl) (by kernel_rfl) (by kernel_rfl) (fun _ _ _ h => h) (Or.inl ⟨by rfl, ?hy117⟩) (by assumption) ?_
            case hy117 => (intro w' hSw; (try dsimp only at hSw); go_simp; try (with_reducible rfl))
            change wpAnyH _ _ _ _ _ _ _ (Act.put _ (some 38) _) _
            simp only [Act.put, List.setIfInBounds_toArray, List.set_cons_zero, List.set_cons_succ]
            refine wpAnyH_ready (rs := [24]) (by kernel_rfl) (by simp) ?_
            refine AllReadyH.cons rfl (fun K hK => ?_) AllReadyH.nil
            go_simp
            (go_at_call 64; refine (hC.out _ ((Below.refl _ _).drew.trans hb2)).mono ?_; rintro e w' ⟨rfl, j, rfl⟩)
            refine hK.out _ _ ?_ (fun hHeld => ?_)
            · exact hHeld
            clear hK K
            try simp only [Act.put, List.setIfInBounds_toArray, List.set_cons_zero, List.set_cons_succ]
            refine wpAnyH_take (i := 25) (oi := _) (v := ?v118) rfl (by kernel_rfl) (by kernel_rfl) (by kernel_rfl) (fun _ _ _ h => h) (Or.inl ⟨by rfl, ?hy118⟩) (by assumption) ?_
            case hy118 => (intro w' hSw; (try dsimp only at hSw); go_simp; try (with_reducible rfl))
            change wpAnyH _ _ _ _ _ _ _ (Act.put _ (some 40) _) _
            simp only [Act.put, List.setIfInBounds_toArray, List.set_cons_zero, List.set_cons_succ]
            refine wpAnyH_take (i := 26) (oi := _) (v := ?v119) rfl (by kernel_rfl) (by kernel_rfl) (by kernel_rfl) (fun _ _ _ h => h) (Or.inl ⟨by rfl, ?hy119⟩) (by assumption) ?_
            case hy119 => (intro w' hSw; (try dsimp only at hSw); go_simp; try (with_reducible rfl))
            change wpAnyH _ _ _ _ _ _ _ (Act.put _ (some 41) _) _
            simp only [Act.put, List.setIfInBounds_toArray, List.set_cons_zero, List.set_cons_succ]
            refine wpAnyH_take (i := 27) (oi := _) (v := ?v120) rfl (by kernel_rfl) (by kernel_rfl) (by kernel_rfl) (fun _ _ _ h => h) (Or.inl ⟨by rfl, ?hy120⟩) (by assumption) ?_
            case hy120 => (intro w' hSw; (try dsimp only at hSw); go_simp; try (with_reducible rfl))
            change wpAnyH _ _ _ _ _ _ _ (Act.put _ (some 42) _) _
            simp only [Act.put, List.setIfInBounds_toArray, List.set_cons_zero, List.set_cons_succ]
            refine wpAnyH_done (by kernel_rfl) ?_ _
            go_wp2
            go_ret
            exact ⟨ret_bool hF.out.symm, below_drewN (hbel.drew.trans (hb2.mono hsz)) _⟩
      · have hF := Lib.hid (hbad.out (okAt_noent q))
        rw [q] at hE
        clear q hro hev hent hz1 hz2
        go_wp2
        refine wp_region_held_drew (S := (fun w' => w'.cell? ⟨w.heap.size, 0, none⟩ = some (.slice (some ⟨b, off, none⟩) n c) ∧ w'.cell? ⟨b, off + k * 2, none⟩ = some (.slice (enAt l k).A (enAt l k).o.length (enAt l k).c) ∧ w'.cell? ⟨b, off + k * 2 + 1, none⟩ = some (.string (enAt l k).t))) (by kernel_rfl) ?_ (fun hHeld => ?_)
        · exact ⟨hcd, hc1, hc2⟩
        refine wpAnyH_take (i := 0) (oi := _) (v := ?v49) rfl (by kernel_rfl) (by kernel_rfl) (by kernel_rfl) (fun _ _ _ h => h) (Or.inl ⟨by rfl, ?hy49⟩) (by assumption) ?_
        case hy49 => (intro w' hSw; (try dsimp only at hSw); go_simp; try (with_reducible rfl))
        change wpAnyH _ _ _ _ _ _ _ (Act.put _ (some 15) _) _
        simp only [Act.put, List.setIfInBounds_toArray, List.set_cons_zero, List.set_cons_succ]
        refine wpAnyH_take (i := 1) (oi := _) (v := ?v50) rfl (by kernel_rfl) (by kernel_rfl) (by kernel_rfl) (fun _ _ _ h => h) (Or.inl ⟨by rfl, ?hy50⟩) (by assumption) ?_
        case hy50 => (intro w' hSw; (try dsimp only at hSw); go_simp; try (with_reducible rfl))
        change wpAnyH _ _ _ _ _ _ _ (Act.put _ (some 16) _) _
        simp only [Act.put, List.setIfInBounds_toArray, List.set_cons_zero, List.set_cons_succ]
        refine wpAnyH_take (i := 2) (oi := _) (v := ?v51) rfl (by kernel_rfl) (by kernel_rfl) (by kernel_rfl) (fun _ _ _ h => h) (Or.inl ⟨by rfl, ?hy51⟩) (by assumption) ?_
        case hy51 => (intro w' hSw; (try dsimp only at hSw); go_simp; try (with_reducible rfl))
        change wpAnyH _ _ _ _ _ _ _ (Act.put _ (some 17) _) _
        simp only [Act.put, List.setIfInBounds_toArray, List.set_cons_zero, List.set_cons_succ]
        refine wpAnyH_take (i := 3) (oi := _) (v := ?v52) rfl (by kernel_rfl) (by kernel_rfl) (by kernel_rfl) (fun _ _ _ h => h) (Or.inl ⟨by rfl, ?hy52⟩) (by assumption) ?_
        case hy52 => (intro w' hSw; (try dsimp only at hSw); go_simp; try (with_reducible rfl))
        change wpAnyH _ _ _ _ _ _ _ (Act.put _ (some 18) _) _
        simp only [Act.put, List.setIfInBounds_toArray, List.set_cons_zero, List.set_cons_succ]
        refine wpAnyH_take (i := 4) (oi := _) (v := ?v53) rfl (by kernel_rfl) (by kernel_rfl) (by kernel_rfl) (fun _ _ _ h => h) (Or.inl ⟨by rfl, ?hy53⟩) (by assumption) ?_
        case hy53 => (intro w' hSw; (try dsimp only at hSw); go_simp; try (with_reducible rfl))
        change wpAnyH _ _ _ _ _ _ _ (Act.put _ (some 19) _) _
        simp only [Act.put, List.setIfInBounds_toArray, List.set_cons_zero, List.set_cons_succ]
        refine wpAnyH_ready (rs := [5]) (by kernel_rfl) (by simp) ?_
        refine AllReadyH.cons rfl (fun K hK => ?_) AllReadyH.nil
        go_simp
        (go_at_call 35; refine (hE.out _ (Below.refl _ _).drew).mono ?_; rintro e w2 ⟨rfl, hb2⟩)
        refine hK.out _ _ ?_ (fun hHeld => ?_)
        · exact ⟨(hb2.cell (p := ⟨w.heap.size, 0, none⟩) (by show _ < wr.heap.size; omega)).trans hcd, (hb2.cell (p := ⟨b, off + k * 2, none⟩) (by show _ < wr.heap.size; omega)).trans hc1, (hb2.cell (p := ⟨b, off + k * 2 + 1, none⟩) (by show _ < wr.heap.size; omega)).trans hc2⟩
        clear hK K
        try simp only [Act.put, List.setIfInBounds_toArray, List.set_cons_zero, List.set_cons_succ]
        refine wpAnyH_take (i := 6) (oi := _) (v := ?v54) rfl (by kernel_rfl) (by kernel_rfl) (by kernel_rfl) (fun _ _ _ h => h) (Or.inl ⟨by rfl, ?hy54⟩) (by assumption) ?_
        case hy54 => (intro w' hSw; (try dsimp only at hSw); go_simp; try (with_reducible rfl))
        change wpAnyH _ _ _ _ _ _ _ (Act.put _ (some 21) _) _
        simp only [Act.put, List.setIfInBounds_toArray, List.set_cons_zero, List.set_cons_succ]
        refine wpAnyH_take (i := 7) (oi := _) (v := ?v55) rfl (by kernel_rfl) (by kernel_rfl) (by kernel_rfl) (fun _ _ _ h => h) (Or.inl ⟨by rfl, ?hy55⟩) (by assumption) ?_
        case hy55 => (intro w' hSw; (try dsimp only at hSw); go_simp; try (with_reducible rfl))
        change wpAnyH _ _ _ _ _ _ _ (Act.put _ (some 22) _) _
        simp only [Act.put, List.setIfInBounds_toArray, List.set_cons_zero, List.set_cons_succ]
        refine wpAnyH_take (i := 8) (oi := _) (v := undef) rfl (by kernel_rfl) (by kernel_rfl) (by kernel_rfl) (fun _ _ _ h => h) (Or.inr ⟨by rfl, rfl⟩) (by assumption) ?_
        change wpAnyH _ _ _ _ _ _ _ (Act.put _ (some 23) _) _
        simp only [Act.put, List.setIfInBounds_toArray, List.set_cons_zero, List.set_cons_succ]
        refine wpAnyH_take (i := 9) (oi := _) (v := undef) rfl (by kernel_rfl) (by kernel_rfl) (by kernel_rfl) (fun _ _ _ h => h) (Or.inr ⟨by rfl, rfl⟩) (by assumption) ?_
        change wpAnyH _ _ _ _ _ _ _ (Act.put _ (some 24) _) _
        simp only [Act.put, List.setIfInBounds_toArray, List.set_cons_zero, List.set_cons_succ]
        refine wpAnyH_take (i := 10) (oi := _) (v := undef) rfl (by kernel_rfl) (by kernel_rfl) (by kernel_rfl) (fun _ _ _ h => h) (Or.inr ⟨by rfl, rfl⟩) (by assumption) ?_
        change wpAnyH _ _ _ _ _ _ _ (Act.put _ (some 25) _) _
        simp only [Act.put, List.setIfInBounds_toArray, List.set_cons_zero, List.set_cons_succ]
        refine wpAnyH_take (i := 11) (oi := _) (v := undef) rfl (by kernel_rfl) (by kernel_rfl) (by kernel_rfl) (fun _ _ _ h => h) (Or.inr ⟨by rfl, rfl⟩) (by assumption) ?_
        change wpAnyH _ _ _ _ _ _ _ (Act.put _ (some 26) _) _
        simp only [Act.put, List.setIfInBounds_toArray, List.set_cons_zero, List.set_cons_succ]
        refine wpAnyH_take (i := 12) (oi := _) (v := undef) rfl (by kernel_rfl) (by kernel_rfl) (by kernel_rfl) (fun _ _ _ h => h) (Or.inr ⟨by rfl, rfl⟩) (by assumption) ?_
        change wpAnyH _ _ _ _ _ _ _ (Act.put _ (some 27) _) _
        simp only [Act.put, List.setIfInBounds_toArray, List.set_cons_zero, List.set_cons_succ]
        refine wpAnyH_take (i := 13) (oi := _) (v := undef) rfl (by kernel_rfl) (by kernel_rfl) (by kernel_rfl) (fun _ _ _ h => h) (Or.inr ⟨by rfl, rfl⟩) (by assumption) ?_
        change wpAnyH _ _ _ _ _ _ _ (Act.put _ (some 28) _) _
        simp only [Act.put, List.setIfInBounds_toArray, List.set_cons_zero, List.set_cons_succ]
        refine wpAnyH_take (i := 14) (oi := _) (v := undef) rfl (by kernel_rfl) (by kernel_rfl) (by kernel_rfl) (fun _ _ _ h => h) (Or.inr ⟨by rfl, rfl⟩) (by assumption) ?_
        change wpAnyH _ _ _ _ _ _ _ (Act.put _ (some 29) _) _
        simp only [Act.put, List.setIfInBounds_toArray, List.set_cons_zero, List.set_cons_succ]
        refine wpAnyH_take (i := 15) (oi := _) (v := undef) rfl (by kernel_rfl) (by kernel_rfl) (by kernel_rfl) (fun _ _ _ h => h) (Or.inr ⟨by rfl, rfl⟩) (by assumption) ?_
        change wpAnyH _ _ _ _ _ _ _ (Act.put _ (some 30) _) _
        simp only [Act.put, List.setIfInBounds_toArray, List.set_cons_zero, List.set_cons_succ]
        refine wpAnyH_take (i := 16) (oi := _) (v := undef) rfl (by kernel_rfl) (by kernel_rfl) (by kernel_rfl) (fun _ _ _ h => h) (Or.inr ⟨by rfl, rfl⟩) (by assumption) ?_
        change wpAnyH _ _ _ _ _ _ _ (Act.put _ (some 31) _) _
        simp only [Act.put, List.setIfInBounds_toArray, List.set_cons_zero, List.set_cons_succ]
        refine wpAnyH_take (i := 17) (oi := _) (v := undef) rfl (by kernel_rfl) (by kernel_rfl) (by kernel_rfl) (fun _ _ _ h => h) (Or.inr ⟨by rfl, rfl⟩) (by assumption) ?_
        change wpAnyH _ _ _ _ _ _ _ (Act.put _ (some 32) _) _
        simp only [Act.put, List.setIfInBounds_toArray, List.set_cons_zero, List.set_cons_succ]
        refine wpAnyH_take (i := 18) (oi := _) (v := undef) rfl (by kernel_rfl) (by kernel_rfl) (by kernel_rfl) (fun _ _ _ h => h) (Or.inr ⟨by rfl, rfl⟩) (by assumption) ?_
        change wpAnyH _ _ _ _ _ _ _ (Act.put _ (some 33) _) _
        simp only [Act.put, List.setIfInBounds_toArray, List.set_cons_zero, List.set_cons_succ]
        refine wpAnyH_take (i := 19) (oi := _) (v := undef) rfl (by kernel_rfl) (by kernel_rfl) (by kernel_rfl) (fun _ _ _ h => h) (Or.inr ⟨by rfl, rfl⟩) (by assumption) ?_
        change wpAnyH _ _ _ _ _ _ _ (Act.put _ (some 34) _) _
        simp only [Act.put, List.setIfInBounds_toArray, List.set_cons_zero, List.set_cons_succ]
        refine wpAnyH_take (i := 20) (oi := _) (v := undef) rfl (by kernel_rfl) (by kernel_rfl) (by kernel_rfl) (fun _ _ _ h => h) (Or.inr ⟨by rfl, rfl⟩) (by assumption) ?_
        change wpAnyH _ _ _ _ _ _ _ (Act.put _ (some 35) _) _
        simp only [Act.put, List.setIfInBounds_toArray, List.set_cons_zero, List.set_cons_succ]
        refine wpAnyH_take (i := 21) (oi := _) (v := undef) rfl (by kernel_rfl) (by kernel_rfl) (by kernel_rfl) (fun _ _ _ h => h) (Or.inr ⟨by rfl, rfl⟩) (by assumption) ?_
        change wpAnyH _ _ _ _ _ _ _ (Act.put _ (some 36) _) _
        simp only [Act.put, List.setIfInBounds_toArray, List.set_cons_zero, List.set_cons_succ]
        refine wpAnyH_take (i := 22) (oi := _) (v := undef) rfl (by kernel_rfl) (by kernel_rfl) (by kernel_rfl) (fun _ _ _ h => h) (Or.inr ⟨by rfl, rfl⟩) (by assumption) ?_
        change wpAnyH _ _ _ _ _ _ _ (Act.put _ (some 37) _) _
        simp only [Act.put, List.setIfInBounds_toArray, List.set_cons_zero, List.set_cons_succ]
        refine wpAnyH_take (i := 23) (oi := _) (v := undef) rfl (by kernel_rfl) (by kernel_rfl) (by kernel_rfl) (fun _ _ _ h => h) (Or.inr ⟨by rfl, rfl⟩) (by assumption) ?_
        change wpAnyH _ _ _ _ _ _ _ (Act.put _ (some 38) _) _
        simp only [Act.put, List.setIfInBounds_toArray, List.set_cons_zero, List.set_cons_succ]
        refine wpAnyH_take (i := 24) (oi := _) (v := undef) rfl (by kernel_rfl) (by kernel_rfl) (by kernel_rfl) (fun _ _ _ h => h) (Or.inr ⟨by rfl, rfl⟩) (by assumption) ?_
        change wpAnyH _ _ _ _ _ _ _ (Act.put _ (some 39) _) _
        simp only [Act.put, List.setIfInBounds_toArray, List.set_cons_zero, List.set_cons_succ]
        refine wpAnyH_take (i := 25) (oi := _) (v := undef) rfl (by kernel_rfl) (by kernel_rfl) (by kernel_rfl) (fun _ _ _ h => h) (Or.inr ⟨by rfl, rfl⟩) (by assumption) ?_
        change wpAnyH _ _ _ _ _ _ _ (Act.put _ (some 40) _) _
        simp only [Act.put, List.setIfInBounds_toArray, List.set_cons_zero, List.set_cons_succ]
        refine wpAnyH_take (i := 26) (oi := _) (v := undef) rfl (by kernel_rfl) (by kernel_rfl) (by kernel_rfl) (fun _ _ _ h => h) (Or.inr ⟨by rfl, rfl⟩) (by assumption) ?_
        change wpAnyH _ _ _ _ _ _ _ (Act.put _ (some 41) _) _
        simp only [Act.put, List.setIfInBounds_toArray, List.set_cons_zero, List.set_cons_succ]
        refine wpAnyH_take (i := 27) (oi := _) (v := ?v56) rfl (by kernel_rfl) (by kernel_rfl) (by kernel_rfl) (fun _ _ _ h => h) (Or.inl ⟨by rfl, ?hy56⟩) (by assumption) ?_
        case hy56 => (intro w' hSw; (try dsimp only at hSw); go_simp; try (with_reducible rfl))
        change wpAnyH _ _ _ _ _ _ _ (Act.put _ (some 42) _) _
        simp only [Act.put, List.setIfInBounds_toArray, List.set_cons_zero, List.set_cons_succ]
        refine wpAnyH_done (by kernel_rfl) ?_ _
        go_wp2
        go_ret
        exact ⟨ret_bool hF.out.symm, hbel.drew.trans (hb2.mono hsz)⟩
    · obtain rfl : k = n := by omega
      have hF := Lib.hid (dictB_end (d := vals l) (by rw [vals_len, hn]; exact hok.out))
      go_wp2
      go_ret
      exact ⟨ret_bool (by rw [hF.out, vals_len, hn]; simp; omega), hbel⟩
theorem specValidDict_any (A : Option Addr) (n c : Nat) (l : List En) (w : World) (hn : l.length = n) (hle : n ≤ 1048576) (hs : ∀ e ∈ l, e.o.length ≤ 1048576 ∧ e.t.size ≤ 1048576) (B : Nat) (hB : B ≤ w.heap.size) (hr : DRow w B A l) :
    Calls Tryd.prog 15 #[.agg #[.slice A n c]] w fun e w' => e = .returned (.bool (dictB (vals l))) ∧ Below w.heap.size w w' := by
  have b0 := (Below.refl w.heap.size w).alloc (Nat.le_refl _) (.cells #[.slice A n c] 38)
  have h := Lib.hid (l6Good_any A n c l (w.alloc (.cells #[.slice A n c] 38)) hn hle hs B (Nat.le_trans hB b0.size) (hr.below_le b0 hB))
  generalize dictB (vals l) = q at h ⊢
  go_enter Tryd.func15, Tryd.ntmps15
  go_wp2_with fail
  refine h.out.mono ?_
  rintro e w1 ⟨rfl, hb1⟩
  go_wp2
  go_ret
  exact ⟨rfl, b0.trans (hb1.mono b0.size)⟩
end Go.Proofs.YtnpiljkchjdpfaaDoor
