/- The walk of the law on ParseAtom. No condition. -/
import Derived.Test.YtkgphkpckcfihaaDoorParA
namespace Go.Proofs.YtkgphkpckcfihaaDoor
open Go.RowKit

theorem tseq_same (a : ByteArray) : (a.toList == a.toList) = true := by simp
theorem eqAtom_sm (k : Int) (t : ByteArray) (w : World) : Calls Tryd.prog 9 #[.agg #[.int .i64 k, .string t], .agg #[.int .i64 k, .string t]] w fun r w' => r = .returned (.bool true) ∧ Below w.heap.size w w' := by
  have hsm := tseq_same t
  go_enter Tryd.func9, Tryd.ntmps9
  go_wp2
  go_ret
  exact ⟨rfl, ((Below.refl _ _).alloc (Nat.le_refl _) _).alloc (by simp) _⟩
set_option maxHeartbeats 1000000 in
theorem lawParseAtom (s : ByteArray) (w : World) (hm : s.size ≤ maxLen) : Calls Tryd.prog 3 #[.string s] w fun e w' => e = .returned (.bool true) ∧ Below w.heap.size w w' := by
  unfold maxLen at hm
  by_cases h : s.size ≤ 1048576
  · have hS := Lib.hid (fun W => specParseAtom_any s W h)
    have hI := Lib.hid (fun W => implParseAtom_any s W h)
    generalize paK s.data.toList = k at hS hI
    generalize bs (paT s.data.toList) = t at hS hI
    generalize paOk s.data.toList = q at hS hI
    have hE := Lib.hid (fun W => eqAtom_sm k t W)
    have hq : (q != q) = false := by cases q <;> rfl
    have hq2 : (q == q) = true := by cases q <;> rfl
    go_enter Tryd.func3, Tryd.ntmps3
    go_wp2_with fail
    refine (hS.out _).mono ?_
    rintro e w1 ⟨rfl, b1⟩
    have bA := b1.alloc b1.size (.cells #[.int .i64 k, .string t] 23)
    have oA := ownP_new w1 (.int .i64 k) (.string t)
    go_wp2_with fail
    refine (hI.out _).mono ?_
    rintro e w2 ⟨rfl, hb2⟩
    have b2 := bA.trans (hb2.mono bA.size)
    have oA2 := oA.below hb2 (Nat.le_refl _)
    obtain ⟨a0, a1, a2, a3, a4, a5⟩ := oA2.facts
    have bB := b2.alloc b2.size (.cells #[.int .i64 k, .string t] 23)
    go_wp2_with fail
    refine (hE.out _).mono ?_
    rintro e w3 ⟨rfl, hb3⟩
    have b3 := bB.trans (hb3.mono bB.size)
    go_wp2
    go_ret
    exact ⟨rfl, b3⟩
  · go_enter Tryd.func3, Tryd.ntmps3
    go_wp2
    go_ret
    exact ⟨rfl, Below.refl _ _⟩
end Go.Proofs.YtkgphkpckcfihaaDoor
