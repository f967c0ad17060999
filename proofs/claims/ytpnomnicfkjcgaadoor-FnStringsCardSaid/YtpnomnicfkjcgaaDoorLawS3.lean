/- The walks of the laws on checksummed texts and on ParseInt. Condition: the library's table and error read as their initialisers lay them; the cell of internal/bytealg.MaxLen is an int. -/
import Derived.Test.YtpnomnicfkjcgaaDoorSeal
import Derived.Test.YtpnomnicfkjcgaaDoorTabs
import Derived.Shelf.Strconv.Atoi
namespace Go.Proofs.YtpnomnicfkjcgaaDoor
open Go.RowKit Go.Shelf

theorem sb_same (a : ByteArray) : (a.toList == a.toList) = true := by simp
theorem lawAppend (s : ByteArray) (w : World) (ht : Tab w) (hm : s.size ≤ maxLen) : Calls Tryd.prog 5 #[.string s] w fun e w' => e = .returned (.bool true) ∧ Below w.heap.size w w' := by
  have HT := Lib.hid ht
  clear ht
  by_cases hs : s.size ≤ 1048576
  · have hsm := sb_same (bs (apR s.data.toList))
    go_enter Tryd.func5, Tryd.ntmps5
    go_wp2_with fail
    refine (specAppend_any s w hs).mono ?_
    rintro e w1 ⟨rfl, hb1⟩
    go_wp2_with fail
    refine (implAppend_any s w1 hs (HT.out.below hb1)).mono ?_
    rintro e w2 ⟨rfl, hb2⟩
    go_wp2
    go_ret
    exact ⟨rfl, hb1.trans (hb2.mono hb1.size)⟩
  · unfold maxLen at hm
    go_enter Tryd.func5, Tryd.ntmps5
    go_wp2
    go_ret
    exact ⟨rfl, Below.refl _ _⟩
theorem lawVerify (s : ByteArray) (w : World) (m : Int) (hmax : w.cell? ⟨0, 0, none⟩ = some (.int .i64 m)) (ht : Tab w) (hm : s.size ≤ maxLen) : Calls Tryd.prog 6 #[.string s] w fun e w' => e = .returned (.bool true) ∧ Below w.heap.size w w' := by
  have hlt : 0 < w.heap.size := World.block_lt_of_cell? w _ hmax
  have HM := Lib.hid (fun wx (h : Below w.heap.size w wx) => (h.cell (p := ⟨0, 0, none⟩) hlt).trans hmax)
  have HT := Lib.hid ht
  clear ht hmax
  by_cases hs : s.size ≤ 1048576
  · have hsm := sb_same (bs (veR s.data.toList))
    go_enter Tryd.func6, Tryd.ntmps6
    go_wp2_with fail
    refine (specVerify_any s w hs).mono ?_
    rintro e w1 ⟨rfl, hb1⟩
    go_wp2_with fail
    refine (implVerify_any s w1 m (HM.out _ hb1) hs (HT.out.below hb1)).mono ?_
    rintro e w2 ⟨rfl, hb2⟩
    go_wp2
    go_ret
    exact ⟨rfl, hb1.trans (hb2.mono hb1.size)⟩
  · unfold maxLen at hm
    go_enter Tryd.func6, Tryd.ntmps6
    go_wp2
    go_ret
    exact ⟨rfl, Below.refl _ _⟩

theorem specParseInt_any (s : ByteArray) (w : World) (hs : s.size ≤ 1048576) : Calls Tryd.prog 21 #[.string s] w fun e w' => e = .returned (.tuple #[.int .i64 (pVal s.data.toList), .bool (pOk s.data.toList)]) ∧ Below w.heap.size w w' := by
  go_enter Tryd.func21, Tryd.ntmps21
  go_wp2_with fail
  refine (l1Read_any s w hs).mono ?_
  rintro e w1 ⟨rfl, hb1⟩
  go_wp2
  go_ret2
  exact ⟨rfl, hb1⟩
theorem below_bytes (w : World) (t : TypeId) (s : ByteArray) : Below w.heap.size w (Lib.bytesWorld w t s) := Lib.bytesWorld_below _ _ _
set_option maxHeartbeats 1000000 in
theorem implParseInt_any (s : ByteArray) (w : World) (hs : s.size ≤ 1048576) (ht : Tab w) (he : Err w) : Calls Tryd.prog 22 #[.string s] w fun e w' => e = .returned (.tuple #[.int .i64 (pVal s.data.toList), .bool (pOk s.data.toList)]) ∧ Below w.heap.size w w' := by
  have HT := Lib.hid ht
  clear ht
  by_cases h7 : s.size ≤ 7
  · cases ha : Lib.atoi s.data.toList with
    | none =>
      have hR := Lib.hid (parse_no (parse_none ha))
      obtain ⟨tp, p, hvar⟩ := he
      have HA := Lib.hid (Any.strconv_Atoi_err_var (P := Tryd.prog) (ρ := Tryd.lAtoi_ren) Tryd.lAtoi s (by omega) ha tp p w hvar)
      clear hvar ha
      go_enter Tryd.func22, Tryd.ntmps22
      go_wp2_with fail
      refine HA.out.mono ?_
      rintro e w1 ⟨N, rfl, _, _, hb1⟩
      go_wp2_with fail
      refine (implFormatInt_any 0 w1 (HT.out.below hb1)).mono ?_
      rintro e w2 ⟨rfl, hb2⟩
      go_wp2
      go_ret2
      exact ⟨ret_int_bool hR.out.1.symm hR.out.2.symm, hb1.trans (hb2.mono hb1.size)⟩
    | some n =>
      have HA := Lib.hid (Any.strconv_Atoi (P := Tryd.prog) (ρ := Tryd.lAtoi_ren) { Tryd.lAtoi with } s n (by omega) ha w)
      have hp := parse_test ha
      rcases Bool.eq_false_or_eq_true (inB n (-999999) 999999) with hin | hin
      · obtain ⟨h0, h1⟩ := in_bd hin
        have hf := Lib.hid (fmtI_in hin)
        have hbe := bs_beq (fmtI n) s
        by_cases heq : Lib.itoa n = s.data.toList
        · have hR := Lib.hid (parse_val (hp.trans (if_pos ⟨⟨h0, h1⟩, heq⟩)))
          have hbe' : ((bs (fmtI n)).toList == s.toList) = true := by rw [hbe, hf.out, heq]; simp
          clear hbe heq hp ha
          go_enter Tryd.func22, Tryd.ntmps22
          go_wp2_with fail
          refine HA.out.mono ?_
          rintro e w1 ⟨rfl, t, rfl⟩
          have hb1 := below_bytes w (Tryd.lAtoi_ren.t 5) t
          go_wp2_with fail
          refine (implFormatInt_any n _ (HT.out.below hb1)).mono ?_
          rintro e w2 ⟨rfl, hb2⟩
          go_wp2
          go_ret2
          exact ⟨ret_int_bool hR.out.1.symm hR.out.2.symm, hb1.trans (hb2.mono hb1.size)⟩
        · have hR := Lib.hid (parse_no (hp.trans (if_neg (fun h => heq h.2))))
          have hbe' : ((bs (fmtI n)).toList == s.toList) = false := by rw [hbe, hf.out]; simpa using heq
          clear hbe heq hp ha
          go_enter Tryd.func22, Tryd.ntmps22
          go_wp2_with fail
          refine HA.out.mono ?_
          rintro e w1 ⟨rfl, t, rfl⟩
          have hb1 := below_bytes w (Tryd.lAtoi_ren.t 5) t
          go_wp2_with fail
          refine (implFormatInt_any n _ (HT.out.below hb1)).mono ?_
          rintro e w2 ⟨rfl, hb2⟩
          go_wp2
          go_ret2
          exact ⟨ret_int_bool hR.out.1.symm hR.out.2.symm, hb1.trans (hb2.mono hb1.size)⟩
      · have hR := Lib.hid (parse_no (hp.trans (if_neg (fun h => by rw [inB_true h.1.1 h.1.2] at hin; cases hin))))
        clear hp ha
        go_enter Tryd.func22, Tryd.ntmps22
        go_wp2_with fail
        refine HA.out.mono ?_
        rintro e w1 ⟨rfl, t, rfl⟩
        have hb1 := below_bytes w (Tryd.lAtoi_ren.t 5) t
        go_wp2_with fail
        refine (implFormatInt_any n _ (HT.out.below hb1)).mono ?_
        rintro e w2 ⟨rfl, hb2⟩
        go_wp2
        go_ret2
        exact ⟨ret_int_bool hR.out.1.symm hR.out.2.symm, hb1.trans (hb2.mono hb1.size)⟩
  · have hR := Lib.hid (parse_no (parse_long (s := s.data.toList) (by rw [← bs_size']; omega)))
    go_enter Tryd.func22, Tryd.ntmps22
    go_wp2
    go_ret2
    exact ⟨ret_int_bool hR.out.1.symm hR.out.2.symm, Below.refl _ _⟩
theorem lawParseInt (s : ByteArray) (w : World) (ht : Tab w) (he : Err w) (hm : s.size ≤ maxLen) : Calls Tryd.prog 7 #[.string s] w fun e w' => e = .returned (.bool true) ∧ Below w.heap.size w w' := by
  have HT := Lib.hid ht
  have HE := Lib.hid he
  clear ht he
  by_cases hs : s.size ≤ 1048576
  · go_enter Tryd.func7, Tryd.ntmps7
    go_wp2_with fail
    refine (specParseInt_any s w hs).mono ?_
    rintro e w1 ⟨rfl, hb1⟩
    go_wp2_with fail
    refine (implParseInt_any s w1 hs (HT.out.below hb1) (HE.out.below hb1)).mono ?_
    rintro e w2 ⟨rfl, hb2⟩
    go_wp2
    go_ret
    exact ⟨rfl, hb1.trans (hb2.mono hb1.size)⟩
  · unfold maxLen at hm
    go_enter Tryd.func7, Tryd.ntmps7
    go_wp2
    go_ret
    exact ⟨rfl, Below.refl _ _⟩
end Go.Proofs.YtpnomnicfkjcgaaDoor
