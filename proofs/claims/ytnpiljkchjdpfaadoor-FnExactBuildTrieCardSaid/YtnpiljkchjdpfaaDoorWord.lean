/- Contracts of the two readers of word text. No condition. -/
import Derived.Test.YtnpiljkchjdpfaaDoorMem
import Derived.Test.YtnpiljkchjdpfaaDoorBits
import Derived.Test.YtnpiljkchjdpfaaDoorStroke
import Derived.Test.YtnpiljkchjdpfaaDoorPlain
import Derived.Test.YtnpiljkchjdpfaaDoorRows
import Derived.Ground.NamesProg
import Derived.Shelf.Lay
import Derived.Shelf.Small.Strs
import Derived.Lib.IndexAny
import Derived.Lib.Hide
namespace Go.Proofs.YtnpiljkchjdpfaaDoor
open Go.RowKit Go.Shelf

/-- The bytes that word text must not hold. -/
def spB (b : UInt8) : Bool := [123, 125, 94, 38, 35, 62].contains b
def okB (b : UInt8) : Bool := decide (33 ≤ b.toNat) && decide (b.toNat ≤ 126) && !spB b
def wordB (l : List UInt8) : Bool := l.all okB && inB (l.length : Int) 1 20
def Tryd.lIdx_ren : Go.Shelf.Ren := ⟨fun | 137 => 130 | 217 => 124 | 266 => 131 | n => n, fun | 9 => 9 | 5 => 5 | 3 => 3 | n => n, fun | n => n⟩
theorem Tryd.lIdx : Go.Proofs.Lays.n137 Tryd.prog Tryd.lIdx_ren := {
  mixed := by kernel_rfl
  f137 := Tryd.func130.trans (congrArg some (by kernel_rfl))
  f217 := Tryd.func124.trans (congrArg some (by kernel_rfl))
  f266 := Tryd.func131.trans (congrArg some (by kernel_rfl))
  t3 := Tryd.underlying3
  a3 := Tryd.isAgg3
  z3 := Tryd.sizeOf3
  v3 := Tryd.zeroValue3
  t5 := Tryd.underlying5
  a5 := Tryd.isAgg5
  z5 := Tryd.sizeOf5
  v5 := Tryd.zeroValue5
  t9 := Tryd.underlying9
  a9 := Tryd.isAgg9
  z9 := Tryd.sizeOf9
  v9 := Tryd.zeroValue9 }
theorem idx_any (b : UInt8) (w : World) : Calls Tryd.prog 130 #[.string ⟨#[123, 125, 94, 38, 35, 62]⟩, .int .u8 b.toNat] w fun e w' => ∃ i : Int, e = .returned (.int .i64 i) ∧ decide (0 ≤ i) = spB b ∧ w = w' := by
  refine (Any.strings_IndexByte (P := Tryd.prog) (ρ := Tryd.lIdx_ren) { Tryd.lIdx with } ⟨#[123, 125, 94, 38, 35, 62]⟩ b.toNat w).mono fun e w' ⟨he, hw⟩ => ⟨_, he, ?_, hw.symm⟩
  rw [show ((b.toNat : Int)).toNat.toUInt8 = b by simp, spB, Lib.contains_iff_indexByte]
theorem word_bad {l : List UInt8} {k : Nat} (h : k < l.length) (g : okB l[k] = false) : wordB l = false := by
  rcases Bool.eq_false_or_eq_true (wordB l) with e | e
  · rw [wordB, Bool.and_eq_true] at e
    rw [List.all_eq_true.1 e.1 _ (List.getElem_mem h)] at g
    cases g
  · exact e
theorem ok_take {l : List UInt8} {k : Nat} (h : k < l.length) (h1 : (l.take k).all okB = true) (g : okB l[k] = true) : (l.take (k + 1)).all okB = true := by
  rw [List.take_succ_eq_append_getElem h, List.all_append, h1]
  simp [g]
theorem bad_lo {b : UInt8} (h : b.toNat < 33) : okB b = false := by
  rw [okB, show decide (33 ≤ b.toNat) = false by simp; omega]; rfl
theorem bad_hi {b : UInt8} (h : 126 < b.toNat) : okB b = false := by
  rw [okB, show decide (b.toNat ≤ 126) = false by simp; omega]; simp
theorem bad_sp {b : UInt8} (h : spB b = true) : okB b = false := by rw [okB, h]; simp
theorem ok_all {b : UInt8} (h0 : 33 ≤ b.toNat) (h1 : b.toNat ≤ 126) (h : spB b = false) : okB b = true := by rw [okB, h]; simp [h0, h1]

set_option maxHeartbeats 1000000 in
theorem isWord_any (t : ByteArray) (w : World) (hm : t.size ≤ maxLen) :
    Calls Tryd.prog 121 #[.string t] w fun e w' => e = .returned (.bool (wordB t.data.toList)) ∧ w = w' := by
  unfold maxLen at hm
  have hlen : t.data.toList.length = t.size := (bs_size' t).symm
  have hIn := Lib.hid (implIn_any (t.size : Int) 1 20 w)
  go_enter Tryd.func121, Tryd.ntmps121
  go_wp2
  go_loop [6] (fun i => ∃ k : Nat, k ≤ t.size ∧ i = .int .i64 k ∧ Hid ((t.data.toList.take k).all okB = true)) (fun i => t.size - (intOf i).toNat)
  case atStart => exact ⟨0, by omega, rfl, by show _ = _; simp⟩
  case round =>
    obtain ⟨k, hk, rfl, hst⟩ := hrel
    by_cases hlt : k < t.size
    · have hkl : k < t.data.toList.length := by omega
      have hg : t.data[k] = t.data.toList[k] := rfl
      by_cases h33 : (t.data[k]).toNat < 33
      · have H := Lib.hid (word_bad hkl (bad_lo h33))
        have f1 : decide ((t.data[k].toNat : Int) < 33) = true := by simp; omega
        have f2 : decide ((t[k].toNat : Int) < 33) = true := f1
        go_wp2
        go_ret
        exact ⟨ret_bool H.out.symm, rfl⟩
      · have f1 : decide ((t.data[k].toNat : Int) < 33) = false := by simp; omega
        have f2 : decide ((t[k].toNat : Int) < 33) = false := f1
        by_cases h126 : 126 < (t.data[k]).toNat
        · have H := Lib.hid (word_bad hkl (bad_hi h126))
          have f3 : decide (126 < (t.data[k].toNat : Int)) = true := by simp; omega
          have f4 : decide (126 < (t[k].toNat : Int)) = true := f3
          go_wp2
          go_ret
          exact ⟨ret_bool H.out.symm, rfl⟩
        · have f3 : decide (126 < (t.data[k].toNat : Int)) = false := by simp; omega
          have f4 : decide (126 < (t[k].toNat : Int)) = false := f3
          have hx := Lib.hid (idx_any t.data[k] w)
          cases hs : spB t.data[k]
          · have H := Lib.hid (ok_take hkl hst.out (ok_all (by rw [← hg]; omega) (by rw [← hg]; omega) hs))
            rw [hs] at hx
            clear hs
            go_wp2_with fail
            refine hx.out.mono ?_
            rintro e w' ⟨i, rfl, hi, rfl⟩
            go_wp2
            go_round
            case rel => exact ⟨k + 1, by omega, by go_num, H.out⟩
            case measure => simp [intOf]; omega
          · have H := Lib.hid (word_bad hkl (bad_sp hs))
            rw [hs] at hx
            clear hs
            go_wp2_with fail
            refine hx.out.mono ?_
            rintro e w' ⟨i, rfl, hi, rfl⟩
            go_wp2
            go_ret
            exact ⟨ret_bool H.out.symm, rfl⟩
    · obtain rfl : k = t.size := by omega
      have H := Lib.hid (show inB (t.size : Int) 1 20 = wordB t.data.toList by
        have := hst.out
        rw [List.take_of_length_le (by omega)] at this
        rw [wordB, this, hlen]; rfl)
      go_wp2_with fail
      refine hIn.out.mono ?_
      rintro e w' ⟨rfl, rfl⟩
      go_wp2
      go_ret
      exact ⟨ret_bool H.out, rfl⟩

set_option maxHeartbeats 2000000 in
theorem l5Word_any (t : ByteArray) (w : World) (hm : t.size ≤ maxLen) :
    Calls Tryd.prog 99 #[.string t] w fun e w' => e = .returned (.bool (wordB t.data.toList)) ∧ w = w' := by
  unfold maxLen at hm
  have hlen : t.data.toList.length = t.size := (bs_size' t).symm
  have hIn := Lib.hid (l1In_any (t.size : Int) 1 20 w)
  go_enter Tryd.func99, Tryd.ntmps99
  go_wp2
  go_loop [3] (fun i => ∃ k : Nat, k ≤ t.size ∧ i = .int .i64 k ∧ Hid ((t.data.toList.take k).all okB = true)) (fun i => t.size - (intOf i).toNat)
  case atStart => exact ⟨0, by omega, rfl, by show _ = _; simp⟩
  case round =>
    obtain ⟨k, hk, rfl, hst⟩ := hrel
    by_cases hlt : k < t.size
    · have hkl : k < t.data.toList.length := by omega
      have hg : t.data[k] = t.data.toList[k] := rfl
      have hbyte : t.data[k].toNat < 256 := UInt8.toNat_lt _
      have hwr : wrap64 (t[k].toNat : Int) = (t.data[k].toNat : Int) := IntWalk.wrap64_in (t.data[k].toNat : Int) (by omega)
      have hIb : Hid (Calls Tryd.prog 77 #[.int .i64 (wrap64 (t[k].toNat : Int)), .int .i64 33, .int .i64 126] w fun e w' => e = .returned (.bool (inB (t.data[k].toNat : Int) 33 126)) ∧ w = w') := by
        rw [hwr]
        exact l1In_any (t.data[k].toNat : Int) 33 126 w
      clear hwr
      cases hin : inB (t.data[k].toNat : Int) 33 126
      · have H := Lib.hid (word_bad hkl (show okB t.data.toList[k] = false by
          rw [← hg]
          by_cases h33 : (t.data[k]).toNat < 33
          · exact bad_lo h33
          · refine bad_hi ?_
            rcases Nat.lt_or_ge 126 (t.data[k]).toNat with h | h
            · exact h
            · rw [inB_true (by omega) (by omega)] at hin; cases hin))
        rw [hin] at hIb
        clear hin
        go_wp2_with fail
        refine hIb.out.mono ?_
        rintro e w' ⟨rfl, rfl⟩
        go_wp2
        go_ret
        exact ⟨ret_bool H.out.symm, rfl⟩
      · obtain ⟨hb1, hb2⟩ := in_bd hin
        rw [hin] at hIb
        clear hin
        by_cases e0 : t.data[k] = 123
        · have H := Lib.hid (word_bad hkl (bad_sp (by rw [← hg, e0]; decide)))
          have f0 : ((t.data[k].toNat : Int) == 123) = true := by rw [e0]; rfl
          have g0 : ((t[k].toNat : Int) == 123) = true := f0
          clear e0
          go_wp2_with fail
          refine hIb.out.mono ?_
          rintro e w' ⟨rfl, rfl⟩
          go_wp2
          go_ret
          exact ⟨ret_bool H.out.symm, rfl⟩
        have f0 : ((t.data[k].toNat : Int) == 123) = false := by
          simp only [beq_eq_false_iff_ne, ne_eq]
          intro q; exact e0 (UInt8.toNat_inj.1 (by show t.data[k].toNat = 123; omega))
        have g0 : ((t[k].toNat : Int) == 123) = false := f0
        by_cases e1 : t.data[k] = 125
        · have H := Lib.hid (word_bad hkl (bad_sp (by rw [← hg, e1]; decide)))
          have f1 : ((t.data[k].toNat : Int) == 125) = true := by rw [e1]; rfl
          have g1 : ((t[k].toNat : Int) == 125) = true := f1
          clear e1
          go_wp2_with fail
          refine hIb.out.mono ?_
          rintro e w' ⟨rfl, rfl⟩
          go_wp2
          go_ret
          exact ⟨ret_bool H.out.symm, rfl⟩
        have f1 : ((t.data[k].toNat : Int) == 125) = false := by
          simp only [beq_eq_false_iff_ne, ne_eq]
          intro q; exact e1 (UInt8.toNat_inj.1 (by show t.data[k].toNat = 125; omega))
        have g1 : ((t[k].toNat : Int) == 125) = false := f1
        by_cases e2 : t.data[k] = 94
        · have H := Lib.hid (word_bad hkl (bad_sp (by rw [← hg, e2]; decide)))
          have f2 : ((t.data[k].toNat : Int) == 94) = true := by rw [e2]; rfl
          have g2 : ((t[k].toNat : Int) == 94) = true := f2
          clear e2
          go_wp2_with fail
          refine hIb.out.mono ?_
          rintro e w' ⟨rfl, rfl⟩
          go_wp2
          go_ret
          exact ⟨ret_bool H.out.symm, rfl⟩
        have f2 : ((t.data[k].toNat : Int) == 94) = false := by
          simp only [beq_eq_false_iff_ne, ne_eq]
          intro q; exact e2 (UInt8.toNat_inj.1 (by show t.data[k].toNat = 94; omega))
        have g2 : ((t[k].toNat : Int) == 94) = false := f2
        by_cases e3 : t.data[k] = 38
        · have H := Lib.hid (word_bad hkl (bad_sp (by rw [← hg, e3]; decide)))
          have f3 : ((t.data[k].toNat : Int) == 38) = true := by rw [e3]; rfl
          have g3 : ((t[k].toNat : Int) == 38) = true := f3
          clear e3
          go_wp2_with fail
          refine hIb.out.mono ?_
          rintro e w' ⟨rfl, rfl⟩
          go_wp2
          go_ret
          exact ⟨ret_bool H.out.symm, rfl⟩
        have f3 : ((t.data[k].toNat : Int) == 38) = false := by
          simp only [beq_eq_false_iff_ne, ne_eq]
          intro q; exact e3 (UInt8.toNat_inj.1 (by show t.data[k].toNat = 38; omega))
        have g3 : ((t[k].toNat : Int) == 38) = false := f3
        by_cases e4 : t.data[k] = 35
        · have H := Lib.hid (word_bad hkl (bad_sp (by rw [← hg, e4]; decide)))
          have f4 : ((t.data[k].toNat : Int) == 35) = true := by rw [e4]; rfl
          have g4 : ((t[k].toNat : Int) == 35) = true := f4
          clear e4
          go_wp2_with fail
          refine hIb.out.mono ?_
          rintro e w' ⟨rfl, rfl⟩
          go_wp2
          go_ret
          exact ⟨ret_bool H.out.symm, rfl⟩
        have f4 : ((t.data[k].toNat : Int) == 35) = false := by
          simp only [beq_eq_false_iff_ne, ne_eq]
          intro q; exact e4 (UInt8.toNat_inj.1 (by show t.data[k].toNat = 35; omega))
        have g4 : ((t[k].toNat : Int) == 35) = false := f4
        by_cases e5 : t.data[k] = 62
        · have H := Lib.hid (word_bad hkl (bad_sp (by rw [← hg, e5]; decide)))
          have f5 : ((t.data[k].toNat : Int) == 62) = true := by rw [e5]; rfl
          have g5 : ((t[k].toNat : Int) == 62) = true := f5
          clear e5
          go_wp2_with fail
          refine hIb.out.mono ?_
          rintro e w' ⟨rfl, rfl⟩
          go_wp2
          go_ret
          exact ⟨ret_bool H.out.symm, rfl⟩
        have f5 : ((t.data[k].toNat : Int) == 62) = false := by
          simp only [beq_eq_false_iff_ne, ne_eq]
          intro q; exact e5 (UInt8.toNat_inj.1 (by show t.data[k].toNat = 62; omega))
        have g5 : ((t[k].toNat : Int) == 62) = false := f5
        have H := Lib.hid (ok_take hkl hst.out (ok_all (by rw [← hg]; omega) (by rw [← hg]; omega) (show spB t.data.toList[k] = false by
          rw [← hg, spB]
          simp [e0, e1, e2, e3, e4, e5])))
        clear e0 e1 e2 e3 e4 e5
        go_wp2_with fail
        refine hIb.out.mono ?_
        rintro e w' ⟨rfl, rfl⟩
        go_wp2
        go_round
        case rel => exact ⟨k + 1, by omega, by go_num, H.out⟩
        case measure => simp [intOf]; omega
    · obtain rfl : k = t.size := by omega
      have H := Lib.hid (show inB (t.size : Int) 1 20 = wordB t.data.toList by
        have := hst.out
        rw [List.take_of_length_le (by omega)] at this
        rw [wordB, this, hlen]; rfl)
      go_wp2_with fail
      refine hIn.out.mono ?_
      rintro e w' ⟨rfl, rfl⟩
      go_wp2
      go_ret
      exact ⟨ret_bool H.out, rfl⟩
end Go.Proofs.YtnpiljkchjdpfaaDoor
