/- Contracts on checksummed texts. Condition: the library's table internal/strconv.uint64pow10 reads as its initialiser lays it; the cell of internal/bytealg.MaxLen is an int. -/
import Derived.Test.YtpnomnicfkjcgaaDoorPSeal
import Derived.Test.YtpnomnicfkjcgaaDoorNum
import Derived.Test.YtpnomnicfkjcgaaDoorSum
import Derived.Shelf.Strings.Cut
namespace Go.Proofs.YtpnomnicfkjcgaaDoor
open Go.RowKit Go.Shelf

def Tryd.lCut_ren : Go.Shelf.Ren := ⟨fun | 145 => 46 | 220 => 59 | 219 => 69 | 217 => 84 | 225 => 85 | 224 => 86 | 267 => 87 | 266 => 99 | 314 => 100 | n => n, fun | 9 => 9 | 4 => 4 | 59 => 51 | 3 => 3 | 5 => 5 | 46 => 84 | 146 => 107 | 51 => 104 | n => n, fun | 1 => 0 | n => n⟩
theorem Tryd.lCut : Go.Proofs.Lays.n145 Tryd.prog Tryd.lCut_ren := {
  mixed := by kernel_rfl
  f145 := Tryd.func46.trans (congrArg some (by kernel_rfl))
  f217 := Tryd.func84.trans (congrArg some (by kernel_rfl))
  f219 := Tryd.func69.trans (congrArg some (by kernel_rfl))
  f220 := Tryd.func59.trans (congrArg some (by kernel_rfl))
  f224 := Tryd.func86.trans (congrArg some (by kernel_rfl))
  f225 := Tryd.func85.trans (congrArg some (by kernel_rfl))
  f266 := Tryd.func99.trans (congrArg some (by kernel_rfl))
  f267 := Tryd.func87.trans (congrArg some (by kernel_rfl))
  f314 := Tryd.func100.trans (congrArg some (by kernel_rfl))
  t3 := Tryd.underlying3
  a3 := Tryd.isAgg3
  z3 := Tryd.sizeOf3
  v3 := Tryd.zeroValue3
  t4 := Tryd.underlying4
  a4 := Tryd.isAgg4
  z4 := Tryd.sizeOf4
  v4 := Tryd.zeroValue4
  t5 := Tryd.underlying5
  a5 := Tryd.isAgg5
  z5 := Tryd.sizeOf5
  v5 := Tryd.zeroValue5
  t9 := Tryd.underlying9
  a9 := Tryd.isAgg9
  z9 := Tryd.sizeOf9
  v9 := Tryd.zeroValue9
  t46 := Tryd.underlying84
  a46 := Tryd.isAgg84
  z46 := Tryd.sizeOf84
  v46 := Tryd.zeroValue84
  t51 := Tryd.underlying104
  a51 := Tryd.isAgg104
  z51 := Tryd.sizeOf104
  v51 := Tryd.zeroValue104
  t59 := Tryd.underlying51
  a59 := Tryd.isAgg51
  z59 := Tryd.sizeOf51
  v59 := Tryd.zeroValue51
  t146 := Tryd.underlying107
  a146 := Tryd.isAgg107
  z146 := Tryd.sizeOf107
  v146 := Tryd.zeroValue107
  g1 := by kernel_rfl }
theorem cut_any (s : ByteArray) (w : World) (m : Int) (hmax : w.cell? ⟨0, 0, none⟩ = some (.int .i64 m)) (hs : s.size ≤ 1048576) :
    Calls Tryd.prog 46 #[.string s, .string ⟨#[35]⟩] w fun e w' => ∃ (r : ByteArray) (b : Bool), e = .returned (.tuple #[.string (bs (headL s.data.toList)), .string r, .bool b]) ∧ Below w.heap.size w w' :=
  (Any.strings_Cut (P := Tryd.prog) (ρ := Tryd.lCut_ren) { Tryd.lCut with } s ⟨#[35]⟩ m w (by omega) hmax).mono fun e w' ⟨he, n, hw⟩ => ⟨bs (Lib.cut s.data.toList [35]).2.1, (Lib.cut s.data.toList [35]).2.2, he.trans (by rw [← cut_head]; rfl), by rw [hw]; exact below_drewN (Below.refl _ _) n⟩
theorem stands35 (t : ByteArray) (w : World) (hm : t.size ≤ maxLen) : Calls Tryd.prog 42 #[.string t, .int .u8 35] w fun e w' => e = .returned (.bool (standsB t 35)) ∧ w = w' := l1Stands_any t 35 w hm
theorem contains35 (t : ByteArray) (w : World) : Calls Tryd.prog 45 #[.string t, .string ⟨#[35]⟩] w fun e w' => e = .returned (.bool (standsB t 35)) ∧ w = w' := contains_any t 35 w

theorem l1Seal_any (s : ByteArray) (w : World) (hs : s.size ≤ 1048576) : Calls Tryd.prog 43 #[.string s] w fun e w' => e = .returned (.string (bs (sealL s.data.toList))) ∧ Below w.heap.size w w' := by
  obtain ⟨h0, h1⟩ := sumOf_bd s.data.toList
  have hl := sum_itoa_len s.data.toList
  have hz : (bs (Lib.itoa (sumOf s.data.toList))).size ≤ 7 := hl
  go_enter Tryd.func43, Tryd.ntmps43
  go_wp2_with ((go_at_call 57; refine (l1Sum_any s _ (by unfold maxLen; omega)).mono ?_; rintro e w' ⟨rfl, rfl⟩))
  refine (l1Num_below (sumOf s.data.toList) (by omega) (by omega) w).mono ?_
  rintro e w1 ⟨rfl, hb⟩
  go_wp2
  go_ret
  refine ⟨?_, hb⟩
  exact congrArg (fun x => Ending.returned (.string x)) (bs_of (by rw [bs_append3, bs_append3, bs_toList]; rfl))

theorem ap_parts {s : ByteArray} : apOk s.data.toList = (decide (s.size ≤ 4000) && !(standsB s 35) && decide ((sealL s.data.toList).length ≤ 4000)) := by rw [apOk, standsB, ← bs_size']
theorem specAppend_any (s : ByteArray) (w : World) (hs : s.size ≤ 1048576) : Calls Tryd.prog 17 #[.string s] w fun e w' => e = .returned (.tuple #[.string (bs (apR s.data.toList)), .bool (apOk s.data.toList)]) ∧ Below w.heap.size w w' := by
  have hm : s.size ≤ maxLen := by unfold maxLen; omega
  by_cases h1 : s.size ≤ 4000
  · rcases Bool.eq_false_or_eq_true (standsB s 35) with h2 | h2
    · have hf := Lib.hid (show apOk s.data.toList = false by rw [ap_parts, h2]; simp)
      have hR := Lib.hid (ap_no hf.out)
      go_enter Tryd.func17, Tryd.ntmps17
      go_wp2_with (go_at_call 42; refine (stands35 s _ hm).mono ?_; rintro e w' ⟨rfl, rfl⟩)
      go_ret2
      exact ⟨ret_str (by rw [hR.out]; rfl) hf.out.symm, Below.refl _ _⟩
    · have hlen := sealL_len s.data.toList
      have hsz : (bs (sealL s.data.toList)).size = (sealL s.data.toList).length := rfl
      by_cases h3 : (bs (sealL s.data.toList)).size ≤ 4000
      · have hf := Lib.hid (show apOk s.data.toList = true by rw [ap_parts, h2]; rw [hsz] at h3; simp [h1, h3])
        have hR := Lib.hid (ap_yes hf.out)
        clear hlen hsz
        go_enter Tryd.func17, Tryd.ntmps17
        go_wp2_with (go_at_call 42; refine (stands35 s _ hm).mono ?_; rintro e w' ⟨rfl, rfl⟩)
        refine (l1Seal_any s w hs).mono ?_
        rintro e w1 ⟨rfl, hb1⟩
        go_wp2_with fail
        refine (l1Seal_any s w1 hs).mono ?_
        rintro e w2 ⟨rfl, hb2⟩
        go_wp2
        go_ret2
        exact ⟨ret_str (by rw [hR.out]) hf.out.symm, hb1.trans (hb2.mono hb1.size)⟩
      · have hf := Lib.hid (show apOk s.data.toList = false by rw [ap_parts, h2]; rw [hsz] at h3; simp; omega)
        have hR := Lib.hid (ap_no hf.out)
        clear hlen hsz
        go_enter Tryd.func17, Tryd.ntmps17
        go_wp2_with (go_at_call 42; refine (stands35 s _ hm).mono ?_; rintro e w' ⟨rfl, rfl⟩)
        refine (l1Seal_any s w hs).mono ?_
        rintro e w1 ⟨rfl, hb1⟩
        go_wp2
        go_ret2
        exact ⟨ret_str (by rw [hR.out]; rfl) hf.out.symm, hb1⟩
  · have hf := Lib.hid (show apOk s.data.toList = false by
      have : decide (s.size ≤ 4000) = false := by simp; omega
      rw [ap_parts, this]; rfl)
    have hR := Lib.hid (ap_no hf.out)
    go_enter Tryd.func17, Tryd.ntmps17
    go_wp2
    go_ret2
    exact ⟨ret_str (by rw [hR.out]; rfl) hf.out.symm, Below.refl _ _⟩

theorem implAppend_any (s : ByteArray) (w : World) (hs : s.size ≤ 1048576) (ht : Tab w) : Calls Tryd.prog 18 #[.string s] w fun e w' => e = .returned (.tuple #[.string (bs (apR s.data.toList)), .bool (apOk s.data.toList)]) ∧ Below w.heap.size w w' := by
  have hm : s.size ≤ maxLen := by unfold maxLen; omega
  have HT := Lib.hid ht
  clear ht
  by_cases h1 : s.size ≤ 4000
  · have hv := Lib.hid (show sumVal s.data.toList = sumOf s.data.toList by rw [sumVal, if_pos (by rw [← bs_size']; exact h1)])
    have ho : sumOk s.data.toList = true := by rw [sumOk, ← bs_size']; simpa using h1
    obtain ⟨hb0, hb1⟩ := sumOf_bd s.data.toList
    have hl := sum_itoa_len s.data.toList
    have hz : (bs (Lib.itoa (sumOf s.data.toList))).size ≤ 7 := hl
    have cs := Lib.hid (implChecksum_any s w hm)
    rw [hv.out, ho] at cs
    have hlen := Lib.hid (show (sealL s.data.toList).length = s.size + 1 + (bs (Lib.itoa (sumOf s.data.toList))).size by rw [sealL_len, bs_size' s]; rfl)
    have hbs := Lib.hid (show s ++ ⟨#[35]⟩ ++ bs (Lib.itoa (sumOf s.data.toList)) = bs (sealL s.data.toList) from bs_of (by rw [bs_append3, bs_append3, bs_toList]; rfl))
    rcases Bool.eq_false_or_eq_true (standsB s 35) with h2 | h2
    · have hf := Lib.hid (show apOk s.data.toList = false by rw [ap_parts, h2]; simp)
      have hR := Lib.hid (ap_no hf.out)
      go_enter Tryd.func18, Tryd.ntmps18
      go_wp2_with fail
      refine cs.out.mono ?_
      rintro e w' ⟨rfl, rfl⟩
      go_wp2_with fail
      refine (itoa_any (sumOf s.data.toList) (by omega) (by omega) w HT.out).mono ?_
      rintro e w1 ⟨rfl, hw1⟩
      go_wp2_with (go_at_call 45; refine (contains35 s _).mono ?_; rintro e w' ⟨rfl, rfl⟩)
      go_ret2
      exact ⟨ret_str (by rw [hR.out]; rfl) hf.out.symm, hw1⟩
    · by_cases h3 : s.size + 1 + (bs (Lib.itoa (sumOf s.data.toList))).size ≤ 4000
      · have hf := Lib.hid (show apOk s.data.toList = true by rw [ap_parts, h2, hlen.out]; simp [h1, h3])
        have hR := Lib.hid (ap_yes hf.out)
        go_enter Tryd.func18, Tryd.ntmps18
        go_wp2_with fail
        refine cs.out.mono ?_
        rintro e w' ⟨rfl, rfl⟩
        go_wp2_with fail
        refine (itoa_any (sumOf s.data.toList) (by omega) (by omega) w HT.out).mono ?_
        rintro e w1 ⟨rfl, hw1⟩
        go_wp2_with (go_at_call 45; refine (contains35 s _).mono ?_; rintro e w' ⟨rfl, rfl⟩)
        go_ret2
        exact ⟨ret_str (by rw [hR.out, ← hbs.out]) hf.out.symm, hw1⟩
      · have hf := Lib.hid (show apOk s.data.toList = false by rw [ap_parts, h2, hlen.out]; simp; omega)
        have hR := Lib.hid (ap_no hf.out)
        go_enter Tryd.func18, Tryd.ntmps18
        go_wp2_with fail
        refine cs.out.mono ?_
        rintro e w' ⟨rfl, rfl⟩
        go_wp2_with fail
        refine (itoa_any (sumOf s.data.toList) (by omega) (by omega) w HT.out).mono ?_
        rintro e w1 ⟨rfl, hw1⟩
        go_wp2_with (go_at_call 45; refine (contains35 s _).mono ?_; rintro e w' ⟨rfl, rfl⟩)
        go_ret2
        exact ⟨ret_str (by rw [hR.out]; rfl) hf.out.symm, hw1⟩
  · have ho : sumOk s.data.toList = false := by rw [sumOk, ← bs_size']; simp; omega
    have hv := Lib.hid (show sumVal s.data.toList = 0 by rw [sumVal, if_neg (by rw [← bs_size']; exact h1)])
    have cs := Lib.hid (implChecksum_any s w hm)
    rw [hv.out, ho] at cs
    have hz : (bs (Lib.itoa 0)).size ≤ 7 := (itoa_len (n := 0) (by omega) (by omega))
    have hf := Lib.hid (show apOk s.data.toList = false by
      have : decide (s.size ≤ 4000) = false := by simp; omega
      rw [ap_parts, this]; rfl)
    have hR := Lib.hid (ap_no hf.out)
    go_enter Tryd.func18, Tryd.ntmps18
    go_wp2_with fail
    refine cs.out.mono ?_
    rintro e w' ⟨rfl, rfl⟩
    go_wp2_with fail
    refine (itoa_any 0 (by omega) (by omega) w HT.out).mono ?_
    rintro e w1 ⟨rfl, hw1⟩
    go_wp2
    go_ret2
    exact ⟨ret_str (by rw [hR.out]; rfl) hf.out.symm, hw1⟩

theorem head_size (s : ByteArray) : (bs (headL s.data.toList)).size ≤ s.size := by
  rw [bs_len, bs_size' s]; exact head_le _
theorem implVerify_any (s : ByteArray) (w : World) (m : Int) (hmax : w.cell? ⟨0, 0, none⟩ = some (.int .i64 m)) (hs : s.size ≤ 1048576) (ht : Tab w) : Calls Tryd.prog 20 #[.string s] w fun e w' => e = .returned (.tuple #[.string (bs (veR s.data.toList)), .bool (veOk s.data.toList)]) ∧ Below w.heap.size w w' := by
  have hh := head_size s
  have call := Lib.hid (fun wx (hx : Tab wx) => implAppend_any (bs (headL s.data.toList)) wx (by omega) hx)
  have HT := Lib.hid ht
  have HC := Lib.hid (cut_any s w m hmax hs)
  clear ht hmax
  rcases Bool.eq_false_or_eq_true (apOk (bs (headL s.data.toList)).data.toList) with h1 | h1
  · have hR := Lib.hid (ap_yes h1)
    rw [hR.out, h1] at call
    by_cases h2 : sealL (headL s.data.toList) = s.data.toList
    · have hv := Lib.hid (ve_of h1 h2)
      have hbe : ((bs (sealL (bs (headL s.data.toList)).data.toList)).toList == s.toList) = true := by rw [bs_beq, bs_toList, h2]; simp
      clear h2
      go_enter Tryd.func20, Tryd.ntmps20
      go_wp2_with fail
      refine HC.out.mono ?_
      rintro e w1 ⟨r, b, rfl, hb1⟩
      go_wp2_with fail
      refine (call.out w1 (HT.out.below hb1)).mono ?_
      rintro e w2 ⟨rfl, hb2⟩
      go_wp2
      go_ret2
      exact ⟨ret_str (by rw [hv.out.2]) hv.out.1.symm, hb1.trans (hb2.mono hb1.size)⟩
    · have hv := Lib.hid (show veOk s.data.toList = false by
        cases hq : veOk s.data.toList
        · rfl
        · exact absurd (ve_ap hq).2 h2)
      have hR2 := Lib.hid (ve_no hv.out)
      have hbe : ((bs (sealL (bs (headL s.data.toList)).data.toList)).toList == s.toList) = false := by rw [bs_beq, bs_toList]; simpa using h2
      clear h2
      go_enter Tryd.func20, Tryd.ntmps20
      go_wp2_with fail
      refine HC.out.mono ?_
      rintro e w1 ⟨r, b, rfl, hb1⟩
      go_wp2_with fail
      refine (call.out w1 (HT.out.below hb1)).mono ?_
      rintro e w2 ⟨rfl, hb2⟩
      go_wp2
      go_ret2
      exact ⟨ret_str (by rw [hR2.out]; rfl) hv.out.symm, hb1.trans (hb2.mono hb1.size)⟩
  · have hv := Lib.hid (show veOk s.data.toList = false by
      cases hq : veOk s.data.toList
      · rfl
      · have := (ve_ap hq).1
        rw [bs_toList] at h1
        rw [h1] at this; cases this)
    have hR2 := Lib.hid (ve_no hv.out)
    rw [h1] at call
    go_enter Tryd.func20, Tryd.ntmps20
    go_wp2_with fail
    refine HC.out.mono ?_
    rintro e w1 ⟨r, b, rfl, hb1⟩
    go_wp2_with fail
    refine (call.out w1 (HT.out.below hb1)).mono ?_
    rintro e w2 ⟨rfl, hb2⟩
    go_wp2
    go_ret2
    exact ⟨ret_str (by rw [hR2.out]; rfl) hv.out.symm, hb1.trans (hb2.mono hb1.size)⟩

theorem split35 (t : ByteArray) (w : World) (hm : t.size ≤ 1048576) : Calls Tryd.prog 39 #[.string t, .int .u8 35] w fun e w' => ∃ A n c, e = .returned (.slice A n c) ∧ 0 < n ∧ (∃ b off, A = some ⟨b, off, none⟩ ∧ w'.cell? ⟨b, off, none⟩ = some (.string (bs (headL t.data.toList)))) ∧ Below w.heap.size w w' := by
  refine (l1Split_any t 35 w hm).mono ?_
  rintro e w' ⟨A, c, he, ho, hb⟩
  obtain ⟨r, hr⟩ := splits_head t.data.toList
  have hp : 0 < (splits 35 t.data.toList).length := by rw [hr]; simp
  refine ⟨A, _, c, he, hp, ?_, hb⟩
  obtain ⟨b, off, e1, _, hc⟩ := Row.of_own ho (by rw [hr]; simp [partsV])
  exact ⟨b, off, e1, hc 0 _ (by rw [hr]; rfl)⟩
theorem specVerify_any (s : ByteArray) (w : World) (hs : s.size ≤ 1048576) : Calls Tryd.prog 19 #[.string s] w fun e w' => e = .returned (.tuple #[.string (bs (veR s.data.toList)), .bool (veOk s.data.toList)]) ∧ Below w.heap.size w w' := by
  have hh := head_size s
  by_cases h1 : s.size ≤ 4000
  · by_cases h2 : sealL (headL s.data.toList) = s.data.toList
    · have hv := Lib.hid (show veOk s.data.toList = true by rw [veOk, h2, ← bs_size']; simpa using h1)
      have hR := Lib.hid (show veR s.data.toList = headL s.data.toList by rw [veR, if_pos hv.out])
      have hbe : ((bs (sealL (bs (headL s.data.toList)).data.toList)).toList == s.toList) = true := by rw [bs_beq, bs_toList, h2]; simp
      clear h2
      go_enter Tryd.func19, Tryd.ntmps19
      go_wp2_with fail
      refine (split35 s w hs).mono ?_
      rintro e w1 ⟨A, n, c, rfl, hn, ⟨b, off, rfl, hc⟩, hb1⟩
      go_wp2_with fail
      refine (l1Seal_any (bs (headL s.data.toList)) w1 (by omega)).mono ?_
      rintro e w2 ⟨rfl, hb2⟩
      go_wp2
      go_ret2
      exact ⟨ret_str (by rw [hR.out]) hv.out.symm, hb1.trans (hb2.mono hb1.size)⟩
    · have hv := Lib.hid (show veOk s.data.toList = false by
        cases hq : veOk s.data.toList
        · rfl
        · exact absurd (ve_ap hq).2 h2)
      have hR2 := Lib.hid (ve_no hv.out)
      have hbe : ((bs (sealL (bs (headL s.data.toList)).data.toList)).toList == s.toList) = false := by rw [bs_beq, bs_toList]; simpa using h2
      clear h2
      go_enter Tryd.func19, Tryd.ntmps19
      go_wp2_with fail
      refine (split35 s w hs).mono ?_
      rintro e w1 ⟨A, n, c, rfl, hn, ⟨b, off, rfl, hc⟩, hb1⟩
      go_wp2_with fail
      refine (l1Seal_any (bs (headL s.data.toList)) w1 (by omega)).mono ?_
      rintro e w2 ⟨rfl, hb2⟩
      go_wp2
      go_ret2
      exact ⟨ret_str (by rw [hR2.out]; rfl) hv.out.symm, hb1.trans (hb2.mono hb1.size)⟩
  · have hv := Lib.hid (show veOk s.data.toList = false by
      have : decide (s.data.toList.length ≤ 4000) = false := by rw [← bs_size']; simp; omega
      rw [veOk, this]; rfl)
    have hR2 := Lib.hid (ve_no hv.out)
    go_enter Tryd.func19, Tryd.ntmps19
    go_wp2
    go_ret2
    exact ⟨ret_str (by rw [hR2.out]; rfl) hv.out.symm, Below.refl _ _⟩
end Go.Proofs.YtpnomnicfkjcgaaDoor
