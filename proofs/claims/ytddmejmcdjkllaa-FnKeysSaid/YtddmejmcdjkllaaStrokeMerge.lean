/- Contracts of the functions that merge two strokes. No condition. -/
import Derived.Test.YtddmejmcdjkllaaStroke
namespace Go.Proofs.Ytddmejmcdjkllaa
open Go.RowKit

/-- What MergeStrokes returns. -/
def mergeOk (a b : Int) : Bool := goodB a && goodB b && (bits .and .i64 a b == 0)
def mergeVal (a b : Int) : Int := if mergeOk a b then bits .or .i64 a b else 0

theorem implMerge_any (a b : Int) (w : World) : Calls Try.prog 29 #[.int .i64 a, .int .i64 b] w fun e w' => e = .returned (.tuple #[.int .i64 (mergeVal a b), .bool (mergeOk a b)]) ∧ w = w' := by
  rcases Bool.eq_false_or_eq_true (goodB a) with g | g
  · rcases Bool.eq_false_or_eq_true (goodB b) with h | h
    · rcases Bool.eq_false_or_eq_true (bits .and .i64 a b == 0) with z | z
      · have z' : (bits .and .i64 a b != 0) = false := by rw [bne, z]; rfl
        have m : mergeOk a b = true := by simp only [mergeOk, g, h, z]; rfl
        have M := Lib.hid (show mergeVal a b = bits .or .i64 a b by rw [mergeVal, if_pos m])
        have M' := Lib.hid m
        clear z m
        go_enter Try.func29, Try.ntmps29
        go_wp2_with (go_at_call 34; refine (implIsValidStroke_any _ _).mono ?_; rintro e w' ⟨rfl, rfl⟩)
        go_ret2
        exact ⟨ret_int_bool M.out.symm M'.out.symm, rfl⟩
      · have z' : (bits .and .i64 a b != 0) = true := by rw [bne, z]; rfl
        have m : mergeOk a b = false := by simp only [mergeOk, g, h, z]; rfl
        have M := Lib.hid (show mergeVal a b = 0 by rw [mergeVal, m]; rfl)
        have M' := Lib.hid m
        clear z m
        go_enter Try.func29, Try.ntmps29
        go_wp2_with (go_at_call 34; refine (implIsValidStroke_any _ _).mono ?_; rintro e w' ⟨rfl, rfl⟩)
        go_ret2
        exact ⟨ret_int_bool M.out.symm M'.out.symm, rfl⟩
    · have m : mergeOk a b = false := by simp only [mergeOk, h]; simp
      have M := Lib.hid (show mergeVal a b = 0 by rw [mergeVal, m]; rfl)
      have M' := Lib.hid m
      clear m
      go_enter Try.func29, Try.ntmps29
      go_wp2_with (go_at_call 34; refine (implIsValidStroke_any _ _).mono ?_; rintro e w' ⟨rfl, rfl⟩)
      go_ret2
      exact ⟨ret_int_bool M.out.symm M'.out.symm, rfl⟩
  · have m : mergeOk a b = false := by simp only [mergeOk, g]; simp
    have M := Lib.hid (show mergeVal a b = 0 by rw [mergeVal, m]; rfl)
    have M' := Lib.hid m
    clear m
    go_enter Try.func29, Try.ntmps29
    go_wp2_with (go_at_call 34; refine (implIsValidStroke_any _ _).mono ?_; rintro e w' ⟨rfl, rfl⟩)
    go_ret2
    exact ⟨ret_int_bool M.out.symm M'.out.symm, rfl⟩

theorem specMerge_any (a b : Int) (w : World) : Calls Try.prog 30 #[.int .i64 a, .int .i64 b] w fun e w' => e = .returned (.tuple #[.int .i64 (mergeVal a b), .bool (mergeOk a b)]) ∧ w = w' := by
  rcases Bool.eq_false_or_eq_true (goodB a) with g | g
  · rcases Bool.eq_false_or_eq_true (goodB b) with h | h
    · rcases Bool.eq_false_or_eq_true (bits .and .i64 a b == 0) with z | z
      · have z' : (bits .and .i64 a b != 0) = false := by rw [bne, z]; rfl
        have m : mergeOk a b = true := by simp only [mergeOk, g, h, z]; rfl
        have M := Lib.hid (show mergeVal a b = bits .or .i64 a b by rw [mergeVal, if_pos m])
        have M' := Lib.hid m
        clear z m
        go_enter Try.func30, Try.ntmps30
        go_wp2_with (go_at_call 40; refine (l2Good_any _ _).mono ?_; rintro e w' ⟨rfl, rfl⟩)
        go_ret2
        exact ⟨ret_int_bool M.out.symm M'.out.symm, rfl⟩
      · have z' : (bits .and .i64 a b != 0) = true := by rw [bne, z]; rfl
        have m : mergeOk a b = false := by simp only [mergeOk, g, h, z]; rfl
        have M := Lib.hid (show mergeVal a b = 0 by rw [mergeVal, m]; rfl)
        have M' := Lib.hid m
        clear z m
        go_enter Try.func30, Try.ntmps30
        go_wp2_with (go_at_call 40; refine (l2Good_any _ _).mono ?_; rintro e w' ⟨rfl, rfl⟩)
        go_ret2
        exact ⟨ret_int_bool M.out.symm M'.out.symm, rfl⟩
    · have m : mergeOk a b = false := by simp only [mergeOk, h]; simp
      have M := Lib.hid (show mergeVal a b = 0 by rw [mergeVal, m]; rfl)
      have M' := Lib.hid m
      clear m
      go_enter Try.func30, Try.ntmps30
      go_wp2_with (go_at_call 40; refine (l2Good_any _ _).mono ?_; rintro e w' ⟨rfl, rfl⟩)
      go_ret2
      exact ⟨ret_int_bool M.out.symm M'.out.symm, rfl⟩
  · have m : mergeOk a b = false := by simp only [mergeOk, g]; simp
    have M := Lib.hid (show mergeVal a b = 0 by rw [mergeVal, m]; rfl)
    have M' := Lib.hid m
    clear m
    go_enter Try.func30, Try.ntmps30
    go_wp2_with (go_at_call 40; refine (l2Good_any _ _).mono ?_; rintro e w' ⟨rfl, rfl⟩)
    go_ret2
    exact ⟨ret_int_bool M.out.symm M'.out.symm, rfl⟩

end Go.Proofs.Ytddmejmcdjkllaa
