/- Contracts on notations of outlines. Condition: lists no longer than 2^20. -/
import Derived.Test.YtnpiljkchjdpfaaDoorPNot
import Derived.Test.YtnpiljkchjdpfaaDoorOutl
import Derived.Test.YtnpiljkchjdpfaaDoorOutl3
import Derived.Test.YtnpiljkchjdpfaaDoorJoinC
namespace Go.Proofs.YtnpiljkchjdpfaaDoor
open Go.RowKit Go.Shelf

set_option maxHeartbeats 1000000 in
theorem notation_any (A : Option Addr) (n c : Nat) (l : List Int) (w : World) (hn : l.length = n) (h0 : 0 < n) (hle : n ≤ 1048576) (B : Nat) (hB : B ≤ w.heap.size) (hr : Row w B A (ints l)) :
    Calls Tryd.prog 52 #[.slice A n c] w fun e w' => e = .returned (.string (bs (notL l))) ∧ Below w.heap.size w w' := by
  have hL := notL_len l
  go_enter Tryd.func52, Tryd.ntmps52
  go_wp2
  go_loopw [11, 3, 5, 6, 7] (fun i v _ _ _ wr => ∃ k : Nat, k ≤ n ∧ i = .int .i64 k ∧ wr.ownsRow w.heap.size 9 1 v k (strs (wordsL (l.take k))) ∧ Below w.heap.size w wr) (fun i _ _ _ _ _ => n - (intOf i).toNat)
  case atStart => exact ⟨0, by omega, rfl, World.ownsRow_made _ _ _ (Nat.le_refl _) (by unfold maxLen; omega) (by simp), (Below.refl _ _).alloc (Nat.le_refl _) _⟩
  case round =>
    obtain ⟨k, hk, rfl, hown, hbel⟩ := hrel
    have hs := hbel.size
    by_cases hlt : k < n
    · obtain ⟨b, off, rfl, hb, hc⟩ := (hr.below_le hbel hB).int (k := k) (by omega)
      have hw := Lib.hid (wordsL_succ l k (by omega))
      go_wp2_with fail
      refine (implFormat_any (elt l k) wr).mono ?_
      rintro e w1 ⟨rfl, hb1⟩
      have b1 := hbel.trans (hb1.mono hs)
      have ho1 := own_below hown hb1 (Nat.le_refl _)
      have s1 := b1.size
      go_wp2_with (at_builtin; refine wpList_app1 (.string (bs (fmtR (elt l k)))) strT b1 ho1 rfl (Nat.le_refl _) s1 (by omega) (by decide) rfl (.tmp 20) (.tmp 22) rfl rfl rfl ?_; intro v2 w2 ho2 b2 _ _)
      go_roundw
      case rel => exact ⟨k + 1, by omega, by go_num, by rw [hw.out]; simpa [strs] using ho2, b2⟩
      case measure => simp [intOf]; omega
    · obtain rfl : k = n := by omega
      rw [← hn, List.take_length, hn] at hown
      obtain ⟨A1, c1, rfl, _⟩ := own_slice hown
      have hj := join_any A1 k c1 _ (wordsL l) (bs [47]) wr (by simp [wordsL, hn]) h0 hle hown (by rw [wordsL_join, bs_toList]; rw [notL] at hL; omega)
      rw [wordsL_join, bs_toList] at hj
      go_wp2_with fail
      refine hj.mono ?_
      rintro e w2 ⟨rfl, hb2⟩
      go_wp2
      go_ret
      exact ⟨rfl, hbel.trans (hb2.mono hs)⟩

set_option maxHeartbeats 1000000 in
theorem l4Format_any (A : Option Addr) (n c : Nat) (l : List Int) (w : World) (hn : l.length = n) (hle : n ≤ 1048576) (hg : ∀ x ∈ l, goodB x = true) (B : Nat) (hB : B ≤ w.heap.size) (hr : Row w B A (ints l)) :
    Calls Tryd.prog 68 #[.slice A n c] w fun e w' => e = .returned (.string (bs (notL l))) ∧ Below w.heap.size w w' := by
  go_enter Tryd.func68, Tryd.ntmps68
  go_wp2
  go_loopw [3, 4] (fun out i wr => ∃ k : Nat, ∃ o : ByteArray, k ≤ n ∧ i = .int .i64 k ∧ out = .string o ∧ o.size ≤ 47 * k ∧ Hid (o.data.toList = notL (l.take k)) ∧ Below w.heap.size w wr) (fun _ i _ => n - (intOf i).toNat)
  case atStart => exact ⟨0, _, by omega, rfl, rfl, Nat.le_refl 0, rfl, Below.refl _ _⟩
  case round =>
    obtain ⟨k, o, hk, rfl, rfl, hsz, ho, hbel⟩ := hrel
    have hs := hbel.size
    by_cases hlt : k < n
    · obtain ⟨b, off, rfl, hb, hc⟩ := (hr.below_le hbel hB).int (k := k) (by omega)
      have gk := Lib.hid (hg (elt l k) (elt_in l k (by omega)))
      have hf := fmtR_len (elt l k)
      have hfz : (bs (fmtR (elt l k))).size ≤ 46 := by rw [bs_len]; omega
      by_cases h0 : k = 0
      · subst h0
        rw [Nat.add_zero] at hc
        have he := Lib.hid (notL_one l (by omega))
        go_wp2_with fail
        refine (l2Format_any (elt l 0) wr gk.out).mono ?_
        rintro e w1 ⟨rfl, hb1⟩
        go_wp2
        go_roundw
        case rel => exact ⟨1, _, by omega, by go_num, rfl, by rw [bs_size] at hsz ⊢; rw [bs_append, bs_toList, List.length_append]; omega, by show _ = _; rw [bs_append, ho.out, he.out, bs_toList]; rfl, hbel.trans (hb1.mono hs)⟩
        case measure => simp [intOf]; omega
      · have he := Lib.hid (notL_succ l k (by omega) (by omega))
        have h0' : (0 : Int) < (k : Int) := by omega
        go_wp2_with fail
        refine (l2Format_any (elt l k) wr gk.out).mono ?_
        rintro e w1 ⟨rfl, hb1⟩
        go_wp2
        go_roundw
        case rel => exact ⟨k + 1, _, by omega, by go_num, rfl, by rw [bs_size] at hsz ⊢; rw [bs_append, bs_append, bs_toList, List.length_append, List.length_append]; simp only [List.length_cons, List.length_nil]; omega, by show _ = _; rw [bs_append, bs_append, ho.out, he.out, bs_toList], hbel.trans (hb1.mono hs)⟩
        case measure => simp [intOf]; omega
    · obtain rfl : k = n := by omega
      have hf := Lib.hid (show o = bs (notL l) by rw [← hn, List.take_length] at ho; exact bs_of ho.out)
      go_wp2
      go_ret
      exact ⟨by rw [← hf.out]; rfl, hbel⟩
end Go.Proofs.YtnpiljkchjdpfaaDoor
