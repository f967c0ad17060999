/- The walk of the law on ParseOutline. Condition: the cell of internal/bytealg.MaxLen is an int. -/
import Derived.Test.YtnpiljkchjdpfaaGreatDoorPoW
namespace Go.Proofs.YtnpiljkchjdpfaaGreatDoor
open Go.RowKit

theorem po_all_no {l : List UInt8} (h : poAll l = false) : poOk l = false := by rw [poOk, h]; rfl
theorem po_all_yes {l : List UInt8} (h : poAll l = true) : poOk l = outB (poV l) := by
  rw [poOk, h, Bool.true_and, poV, out_vals (List.all_eq_true.1 h) (splits_ne 47 l)]
set_option maxHeartbeats 1000000 in
theorem implParseOutline_any (t : ByteArray) (w : World) (m : Int) (hmax : w.cell? ⟨0, 0, none⟩ = some (.int .i64 m)) (hm : t.size ≤ 1048576) :
    Calls Tryz.prog 21 #[.string t] w fun e w' => ∃ A c, e = .returned (.tuple #[.slice A (poR t.data.toList).length c, .bool (poOk t.data.toList)]) ∧ w'.ownsRow w.heap.size 3 1 (.slice A (poR t.data.toList).length c) (poR t.data.toList).length (ints (poR t.data.toList)) ∧ Below w.heap.size w w' := by
  by_cases h4 : 4000 < t.size
  · have hno := po_long (l := t.data.toList) (by rw [← bs_size']; exact h4)
    have hR := Lib.hid (po_no hno)
    have hnoH := Lib.hid hno
    clear hno
    go_enter Tryz.func21, Tryz.ntmps21
    go_wp2
    go_ret2
    rw [hR.out, hnoH.out]
    exact ⟨none, 0, rfl, own_nil _ _ _ _, Below.refl _ _⟩
  · have hPS := Lib.hid (parseStrokes_any t w m hmax hm)
    clear hmax
    go_enter Tryz.func21, Tryz.ntmps21
    go_wp2_with fail
    refine hPS.out.mono ?_
    rintro e w1 ⟨A, c, rfl, ho1, b1⟩
    have hlen : (psR t.data.toList).length ≤ 1048577 := by
      unfold psR
      split
      · rw [poV_len]; have := splits_len 47 t.data.toList; rw [← bs_size'] at this; omega
      · simp
    have hv := implValidOut_any A (psR t.data.toList).length c (psR t.data.toList) w1 rfl (by unfold maxLen; omega) _ (Row.of_own ho1)
    cases ha : poAll t.data.toList
    · have hno := po_all_no ha
      have hR := Lib.hid (po_no hno)
      have hnoH := Lib.hid hno
      clear hno hv hlen ho1
      go_wp2
      go_ret2
      rw [hR.out, hnoH.out]
      exact ⟨none, 0, rfl, own_nil _ _ _ _, b1⟩
    · rw [psR_yes ha] at hv ho1
      have e1 := Lib.hid (po_all_yes ha)
      have hVH := Lib.hid hv
      clear hv hlen
      rw [psR_yes ha]
      generalize hL : poV t.data.toList = V at ho1 hVH e1
      have hLH := Lib.hid hL
      clear hL
      cases hob : outB V
      · have hno : poOk t.data.toList = false := e1.out.trans hob
        have hR := Lib.hid (po_no hno)
        have hnoH := Lib.hid hno
        rw [hob] at hVH
        clear hno hob
        go_wp2_with fail
        refine hVH.out.mono ?_
        rintro e w2 ⟨rfl, hb2⟩
        go_wp2
        go_ret2
        rw [hR.out, hnoH.out]
        exact ⟨none, 0, rfl, own_nil _ _ _ _, b1.trans (hb2.mono b1.size)⟩
      · have hyes : poOk t.data.toList = true := e1.out.trans hob
        have hR := Lib.hid (po_yes hyes)
        have hyH := Lib.hid hyes
        rw [hob] at hVH
        clear hyes hob
        go_wp2_with fail
        refine hVH.out.mono ?_
        rintro e w2 ⟨rfl, hb2⟩
        have ho2 := own_below ho1 hb2 (Nat.le_refl _)
        go_wp2
        go_ret2
        rw [hR.out, hyH.out, hLH.out]
        exact ⟨A, c, rfl, ho2, b1.trans (hb2.mono b1.size)⟩

set_option maxHeartbeats 2000000 in
theorem specParseOutline_any (t : ByteArray) (w : World) (hm : t.size ≤ 1048576) :
    Calls Tryz.prog 17 #[.string t] w fun e w' => ∃ A c, e = .returned (.tuple #[.slice A (poR t.data.toList).length c, .bool (poOk t.data.toList)]) ∧ w'.ownsRow w.heap.size 3 1 (.slice A (poR t.data.toList).length c) (poR t.data.toList).length (ints (poR t.data.toList)) ∧ Below w.heap.size w w' := by
  have ho1 := World.ownsRow_made w #[] 0 (base := w.heap.size) (e := 3) (size := 1) (Nat.le_refl _) (by unfold maxLen; omega) (by simp)
  have b1 := (Below.refl w.heap.size w).alloc (Nat.le_refl _) (.cells #[] 3)
  have hsz1 : (w.alloc (.cells #[] 3)).heap.size = w.heap.size + 1 := by simp
  have hSP := Lib.hid (l1Split_any t 47 (w.alloc (.cells #[] 3)) hm)
  go_enter Tryz.func17, Tryz.ntmps17
  go_wp2_with fail
  refine hSP.out.mono ?_
  rintro e w2 ⟨A, c, rfl, ho2, hb2⟩
  have hs2 := hb2.size
  have D1 : PoSt w w2 (w.heap.size + 1) (.slice (some ⟨w.heap.size, 0, none⟩) 0 0) (((splits 47 t.data.toList).take 0).map strictVal) w2 :=
    ⟨by simpa [ints] using own_below ho1 hb2 (Nat.le_refl _), b1.trans (hb2.mono (by simp)), Nat.le_refl _, clear_of_own ho1 (by simp), kept_refl _ _ _⟩
  have hN := splits_len 47 t.data.toList
  rw [← bs_size'] at hN
  have hP := Lib.hid (fun p (h : p ∈ splits 47 t.data.toList) => (part_len h : p.length ≤ _))
  have hA := Lib.hid (fun k (h : k < (splits 47 t.data.toList).length) => fun g => po_all_no (po_bad (l := t.data.toList) h g))
  have hAll := Lib.hid (show (∀ p ∈ (splits 47 t.data.toList).take (splits 47 t.data.toList).length, strictOk p = true) → poAll t.data.toList = true by
    rw [List.take_length]; exact fun h => List.all_eq_true.2 h)
  have hV := Lib.hid (show ((splits 47 t.data.toList).take (splits 47 t.data.toList).length).map strictVal = poV t.data.toList by rw [List.take_length]; rfl)
  have hbig := Lib.hid (show 6 < (splits 47 t.data.toList).length → poOk t.data.toList = false by
    intro h; rw [poOk]; simp; intro _; omega)
  have hne : 0 < (splits 47 t.data.toList).length := by
    have := splits_ne 47 t.data.toList
    cases e : splits 47 t.data.toList with
    | nil => exact absurd e this
    | cons a b => simp
  have ht := bs_size' t
  rw [← ht] at hP
  generalize hps : splits 47 t.data.toList = ps at *
  have hpsH := Lib.hid hps
  clear hps ho1 b1 hSP hb2
  go_wp2
  go_loopw [4, 6] (fun v i wr => ∃ k : Nat, k ≤ ps.length ∧ k ≤ 7 ∧ i = .int .i64 k ∧ Hid (∀ p ∈ ps.take k, strictOk p = true) ∧ PoSt w w2 (w.heap.size + 1) v ((ps.take k).map strictVal) wr) (fun _ i _ => ps.length - (intOf i).toNat)
  case atStart => exact ⟨0, by omega, by omega, rfl, fun p hp => by simp at hp, D1⟩
  case round =>
    obtain ⟨k, hk, hk7, rfl, hg, D⟩ := hrel
    clear D1
    by_cases hlt2 : k < ps.length ∧ k ≤ 6
    · obtain ⟨hlt2, hk6⟩ := hlt2
      obtain ⟨b, off, rfl, hb, hc⟩ := (Row.kept ho2 (by omega) (Nat.le_refl _) D.kp).part (k := k) hlt2
      have hz := hP.out _ (prt_in ps k hlt2)
      have hpm : (bs (prt ps k)).size ≤ maxLen := by rw [bs_len]; unfold maxLen; omega
      have hip := Lib.hid (specParse_any (bs (prt ps k)) wr hpm)
      have ht6 : decide ((k : Int) ≤ 6) = true := by simp; omega
      have htn : decide ((k : Int) < (ps.length : Int)) = true := by simp; omega
      go_wp2_with fail
      refine hip.out.mono ?_
      rintro e w3 ⟨rfl, hb3⟩
      have D3 := D.below hb3
      rw [bs_toList]
      cases hok : strictOk (prt ps k)
      · have hno := hA.out k hlt2 hok
        have hR := Lib.hid (po_no hno)
        have hnoH := Lib.hid hno
        clear hno
        go_wp2
        go_ret2
        rw [hR.out, hnoH.out]
        exact ⟨_, _, rfl, own_base (by simpa [ints] using World.ownsRow_made w3 #[] 0 (base := w3.heap.size) (e := 3) (size := 1) (Nat.le_refl _) (by unfold maxLen; omega) (by simp)) D3.bel.size, D3.bel.alloc D3.bel.size _⟩
      · have hlen : ((ps.take k).map strictVal).length ≤ k := by simp; omega
        have hsn : w.heap.size ≤ w3.heap.size := D3.bel.size
        go_wp2_with (at_builtin; refine wpList_app1 (.int .i64 (strictVal (prt ps k))) intsT D3.bel D3.own rfl (Nat.le_refl _) hsn (by omega) (by decide) rfl (.tmp 33) (.tmp 35) rfl rfl rfl ?_; intro v5 w5 ho5 hb5 hg5 hv5)
        go_roundw
        case rel => exact ⟨k + 1, by omega, by omega, by go_num, all_take hlt2 hg.out hok, by rw [vals_take hlt2]; exact D3.app ho5 hb5 hg5 hv5⟩
        case measure => simp [intOf]; omega
    · obtain ⟨A', c', rfl, _⟩ := own_slice D.own
      have hlen : ((ps.take k).map strictVal).length = k := by simp; omega
      have ho := D.own
      have hbel := D.bel
      rw [hlen] at ho ⊢
      have hgd := l4Good_any A' k c' ((ps.take k).map strictVal) wr hlen (by unfold maxLen; omega) _ (Row.of_own ho)
      have hne2 : ps.take k ≠ [] := by
        intro e
        have h0 : (ps.take k).length = 0 := by rw [e]; rfl
        rw [List.length_take, Nat.min_eq_left hk] at h0
        omega
      rw [out_vals hg.out hne2, List.length_take, Nat.min_eq_left hk] at hgd
      by_cases h7 : k ≤ 6
      · obtain rfl : k = ps.length := by omega
        rw [show decide (ps.length ≤ 6) = true by simp; omega] at hgd
        have hy := hAll.out hg.out
        have hyes : poOk t.data.toList = true := by rw [poOk, hy, hpsH.out]; simp; omega
        have hR := Lib.hid (po_yes hyes)
        have hyH := Lib.hid hyes
        have hL := congrArg List.length hV.out
        rw [hlen] at hL
        rw [hV.out] at ho
        have hLH := Lib.hid hL
        have htn : decide ((ps.length : Int) < (ps.length : Int)) = false := by simp
        clear hL hy hyes hlen D
        go_wp2_with fail
        refine hgd.mono ?_
        rintro e w' ⟨rfl, rfl⟩
        go_wp2
        go_ret2
        rw [hR.out, hyH.out, ← hLH.out]
        exact ⟨A', c', rfl, ho, hbel⟩
      · obtain rfl : k = 7 := by omega
        have hno := hbig.out (by omega)
        have hR := Lib.hid (po_no hno)
        have hnoH := Lib.hid hno
        clear hno
        by_cases h7n : 7 < ps.length
        all_goals
          go_wp2_with fail
          refine hgd.mono ?_
          rintro e w' ⟨rfl, rfl⟩
          go_wp2
          go_ret2
          rw [hR.out, hnoH.out]
          exact ⟨_, _, rfl, own_base (by simpa [ints] using World.ownsRow_made wr #[] 0 (base := wr.heap.size) (e := 3) (size := 1) (Nat.le_refl _) (by unfold maxLen; omega) (by simp)) hbel.size, hbel.alloc hbel.size _⟩

end Go.Proofs.YtnpiljkchjdpfaaGreatDoor
