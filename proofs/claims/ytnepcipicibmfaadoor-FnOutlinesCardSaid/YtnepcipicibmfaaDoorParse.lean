/- Contracts of ParseStroke and ParseLooseStroke. Condition: the text has a string's length. -/
import Derived.Test.YtnepcipicibmfaaDoorFmt
namespace Go.Proofs.YtnepcipicibmfaaDoor
open Go.RowKit

/-- What ParseStroke returns. -/
def strictOk (t : List UInt8) : Bool := looseOk t && (fmtR (looseVal t) == t)
def strictVal (t : List UInt8) : Int := if strictOk t then looseVal t else 0
theorem good_loose (t : List UInt8) : goodB (looseVal t) = looseOk t := by
  have := looseVal_bd t
  unfold looseOk
  by_cases h : looseVal t = 0
  · rw [h]; rfl
  · rw [goodB, inB_true (by omega) (by omega)]
    simp [h]

theorem strict_yes {t : List UInt8} (g : goodB (looseVal t) = true) (h : (fmtR (looseVal t) == t) = true) : strictOk t = true ∧ strictVal t = looseVal t := by
  have e : strictOk t = true := by rw [strictOk, ← good_loose, g, h]; rfl
  exact ⟨e, by rw [strictVal, if_pos e]⟩
theorem strict_no {t : List UInt8} (h : goodB (looseVal t) = false ∨ (fmtR (looseVal t) == t) = false) : strictOk t = false ∧ strictVal t = 0 := by
  have e : strictOk t = false := by
    rw [strictOk, ← good_loose]
    rcases h with h | h <;> rw [h] <;> simp
  exact ⟨e, by rw [strictVal, e]; rfl⟩

theorem implParse_any (t : ByteArray) (w : World) (hm : t.size ≤ maxLen) :
    Calls Tryd.prog 41 #[.string t] w fun e w' => e = .returned (.tuple #[.int .i64 (strictVal t.data.toList), .bool (strictOk t.data.toList)]) ∧ Below w.heap.size w w' := by
  have hbe := bs_beq (fmtR (looseVal t.data.toList)) t
  rcases Bool.eq_false_or_eq_true (goodB (looseVal t.data.toList)) with g | g
  · rcases Bool.eq_false_or_eq_true (fmtR (looseVal t.data.toList) == t.data.toList) with h | h
    · have hs := Lib.hid (strict_yes g h)
      rw [h] at hbe
      clear h
      go_enter Tryd.func41, Tryd.ntmps41
      go_wp2_with fail
      refine (implLoose_any t w hm).mono ?_
      rintro e w1 ⟨rfl, hb1⟩
      go_wp2_with fail
      refine (implFormat_any _ _).mono ?_
      rintro e w2 ⟨rfl, hb2⟩
      go_wp2
      go_ret2
      exact ⟨ret_int_bool hs.out.2.symm hs.out.1.symm, hb1.trans (hb2.mono hb1.size)⟩
    · have hs := Lib.hid (strict_no (Or.inr h))
      rw [h] at hbe
      clear h
      go_enter Tryd.func41, Tryd.ntmps41
      go_wp2_with fail
      refine (implLoose_any t w hm).mono ?_
      rintro e w1 ⟨rfl, hb1⟩
      go_wp2_with fail
      refine (implFormat_any _ _).mono ?_
      rintro e w2 ⟨rfl, hb2⟩
      go_wp2
      go_ret2
      exact ⟨ret_int_bool hs.out.2.symm hs.out.1.symm, hb1.trans (hb2.mono hb1.size)⟩
  · have hs := Lib.hid (strict_no (Or.inl g))
    clear hbe
    go_enter Tryd.func41, Tryd.ntmps41
    go_wp2_with fail
    refine (implLoose_any t w hm).mono ?_
    rintro e w1 ⟨rfl, hb1⟩
    go_wp2_with fail
    refine (implFormat_any _ _).mono ?_
    rintro e w2 ⟨rfl, hb2⟩
    go_wp2
    go_ret2
    exact ⟨ret_int_bool hs.out.2.symm hs.out.1.symm, hb1.trans (hb2.mono hb1.size)⟩

theorem specParse_any (t : ByteArray) (w : World) (hm : t.size ≤ maxLen) :
    Calls Tryd.prog 20 #[.string t] w fun e w' => e = .returned (.tuple #[.int .i64 (strictVal t.data.toList), .bool (strictOk t.data.toList)]) ∧ Below w.heap.size w w' := by
  have hbe := bs_beq (fmtR (looseVal t.data.toList)) t
  rcases Bool.eq_false_or_eq_true (goodB (looseVal t.data.toList)) with g | g
  · have g' := (good_loose t.data.toList).symm.trans g
    have G := Lib.hid g
    rcases Bool.eq_false_or_eq_true (fmtR (looseVal t.data.toList) == t.data.toList) with h | h
    · have hs := Lib.hid (strict_yes g h)
      rw [h] at hbe
      clear h g
      go_enter Tryd.func20, Tryd.ntmps20
      go_wp2_with fail
      refine (l2Loose_any t w hm).mono ?_
      rintro e w1 ⟨rfl, hb1⟩
      go_wp2_with fail
      refine (l2Format_any _ _ G.out).mono ?_
      rintro e w2 ⟨rfl, hb2⟩
      go_wp2
      go_ret2
      exact ⟨ret_int_bool hs.out.2.symm hs.out.1.symm, hb1.trans (hb2.mono hb1.size)⟩
    · have hs := Lib.hid (strict_no (Or.inr h))
      rw [h] at hbe
      clear h g
      go_enter Tryd.func20, Tryd.ntmps20
      go_wp2_with fail
      refine (l2Loose_any t w hm).mono ?_
      rintro e w1 ⟨rfl, hb1⟩
      go_wp2_with fail
      refine (l2Format_any _ _ G.out).mono ?_
      rintro e w2 ⟨rfl, hb2⟩
      go_wp2
      go_ret2
      exact ⟨ret_int_bool hs.out.2.symm hs.out.1.symm, hb1.trans (hb2.mono hb1.size)⟩
  · have g' := (good_loose t.data.toList).symm.trans g
    have hs := Lib.hid (strict_no (Or.inl g))
    clear hbe g
    go_enter Tryd.func20, Tryd.ntmps20
    go_wp2_with fail
    refine (l2Loose_any t w hm).mono ?_
    rintro e w1 ⟨rfl, hb1⟩
    go_wp2
    go_ret2
    exact ⟨ret_int_bool hs.out.2.symm hs.out.1.symm, hb1⟩

end Go.Proofs.YtnepcipicibmfaaDoor
