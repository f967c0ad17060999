/- Contracts of the laws' helpers on slices of strings: szStringS, toStringS, eqStringS, markStringS, heldStringS, markText. Condition: at most 2^20 elements. -/
import Derived.Test.YtkgphkpckcfihaaStrs
import Derived.Test.YtkgphkpckcfihaaPStr
import Derived.Test.YtkgphkpckcfihaaRows
import Derived.Laws.MakeOwn
import Derived.Laws.BytesArg
import Derived.Deep.QuietTactic
import Derived.BigQuiet
import Derived.Deep.RegionHeld3
import Derived.WalkLawsBesides
import Derived.WalkSpells
import Derived.Outline
import Derived.Lib.Hide
namespace Go.Proofs.Ytkgphkpckcfihaa
open Go.RowKit

theorem strsT : ElemT Try.prog 38 9 (.string ⟨#[]⟩) 1 16 := ⟨Try.underlying38, by kernel_rfl, rfl, by decide⟩
theorem seq_same (a : ByteArray) : (a.toList == a.toList) = true := by simp

set_option maxHeartbeats 400000 in
theorem eqStrS_quiet (A A' : Option Addr) (n c c' : Nat) (ss : List ByteArray) (w : World) (hn : ss.length = n) (hle : n ≤ 1048576) (B : Nat) (hr : Row w B A (strs ss)) (hr' : Row w B A' (strs ss)) :
    Calls Try.prog 20 #[.slice A n c, .slice A' n c'] w fun e w' => e = .returned (.bool true) ∧ ∃ k, w' = w.drewN k := by
  go_enter Try.func20, Try.ntmps20
  go_wp2
  go_loopw [5] (fun i wr => ∃ k : Nat, k ≤ n ∧ i = .int .i64 k ∧ ∃ m, wr = w.drewN m) (fun i _ => n - (intOf i).toNat)
  case atStart => exact ⟨0, by omega, rfl, 0, rfl⟩
  case round =>
    obtain ⟨k, hk, rfl, m, rfl⟩ := hrel
    by_cases hlt : k < n
    · obtain ⟨b, off, rfl, hb, hc⟩ := hr.str (k := k) (by omega)
      obtain ⟨b', off', rfl, hb', hc'⟩ := hr'.str (k := k) (by omega)
      have h1 : (0 : Int) ≤ (k : Int) := by omega
      have h2 : (k : Int) < (n : Int) := by omega
      go_wp2
      go_quiet (fail)
      go_wp2
      go_roundw
      case rel => exact ⟨k + 1, by omega, by go_num, _, rfl⟩
      case measure => simp [intOf]; omega
    · obtain rfl : k = n := by omega
      go_wp2
      go_ret
      exact ⟨rfl, m, rfl⟩
theorem eqStrS_same (A A' : Option Addr) (n c c' : Nat) (ss : List ByteArray) (w : World) (hn : ss.length = n) (hle : n ≤ 1048576) (B : Nat) (hr : Row w B A (strs ss)) (hr' : Row w B A' (strs ss)) :
    Calls Try.prog 20 #[.slice A n c, .slice A' n c'] w fun e w' => e = .returned (.bool true) ∧ Below w.heap.size w w' :=
  (eqStrS_quiet A A' n c c' ss w hn hle B hr hr').mono fun _ _ ⟨he, m, hw⟩ => ⟨he, by rw [hw]; exact below_drewN (Below.refl _ _) m⟩

theorem grown_of_below {w w' : World} (h : Below w.heap.size w w') (row : Option Nat) : w.grownBy w' row := ⟨h.os, h.tape, h.output, h.size, fun j hj _ => h.block j hj⟩
theorem bs_append' (a b : ByteArray) : (a ++ b).data.toList = a.data.toList ++ b.data.toList := by simp
theorem one_num (z : Int) : (strOfNums [z]).data.toList = [UInt8.ofNat z.toNat] := by
  simp [strOfNums]
set_option maxRecDepth 100000 in
set_option maxHeartbeats 1000000 in
theorem markText_any (k : Int) (w : World) (h0 : 0 ≤ k) (h1 : k ≤ 4398046511104) : Calls Try.prog 35 #[.int .i64 k] w fun e w' => e = .returned (.string (mkT k)) ∧ Below w.heap.size w w' := by
  by_cases hk : k ≤ 0
  · have hT := Lib.hid (show mkT k = ⟨#[109, 48]⟩ by rw [mkT, if_pos hk]; rfl)
    go_enter Try.func35, Try.ntmps35
    go_wp2
    go_ret
    exact ⟨by rw [hT.out]; rfl, Below.refl _ _⟩
  · obtain ⟨n, rfl⟩ := Int.eq_ofNat_of_zero_le h0
    have hT := Lib.hid (show mkT (n : Int) = bs (109 :: mkRun n []) by rw [mkT, if_neg hk, Int.toNat_natCast])
    have hd := dcount_le 13 n (by omega)
    have hcv := fun (W : World) (z : Int) => run_convert_bytes_arg (P := Try.prog) (W.alloc (.cells #[.int .u8 z] 5)) 58 5 Try.underlying58 Try.underlying5 W.heap.size 0 1 1 [z] rfl (fun i hi => by
      obtain rfl : i = 0 := by omega
      rw [cell_of_row _ W.heap.size 0 _ 5 (0, 0) (heap_alloc_new W _)]
      rfl) 9 Try.underlying9
    go_enter Try.func35, Try.ntmps35
    go_wp2
    go_loopw [0, 3] (fun a o wr => ∃ j : Nat, ∃ s : ByteArray, j ≤ n ∧ a = .int .i64 j ∧ o = .string s ∧ s.size + dcount j ≤ 13 ∧ Hid (mkRun j s.data.toList = mkRun n []) ∧ Below w.heap.size w wr) (fun a _ _ => (intOf a).toNat)
    case atStart => exact ⟨n, _, Nat.le_refl _, rfl, rfl, by show 0 + dcount n ≤ 13; omega, rfl, Below.refl _ _⟩
    case round =>
      obtain ⟨j, s, hj, rfl, rfl, hs, hr, hbel⟩ := hrel
      have hsz := hbel.size
      by_cases hlt : 0 < j
      · have hdc := dcount_pos j hlt
        have hr2 := Lib.hid ((mkRun_pos j hlt s.data.toList).symm.trans hr.out)
        have hcv' := hcv wr (48 + (j : Int) % 10)
        clear hcv
        have hn1 := Lib.hid (one_num (48 + (j : Int) % 10))
        have hn2 : (strOfNums [48 + (j : Int) % 10]).size = 1 := by rw [bs_size', hn1.out]; rfl
        go_wp2
        go_roundw
        case rel =>
          refine ⟨j / 10, _, by omega, by go_num, rfl, ?_, ?_, hbel.alloc hsz _⟩
          · rw [bs_size', bs_append', hn1.out]; simp only [List.length_append, List.length_cons, List.length_nil]; rw [← bs_size']; omega
          · show _ = _
            rw [bs_append', hn1.out, show (48 + (j : Int) % 10).toNat = 48 + j % 10 by omega]
            exact hr2.out
        case measure => simp [intOf]; omega
      · obtain rfl : j = 0 := by omega
        have hf := Lib.hid (show s.data.toList = mkRun n [] by rw [← hr.out, mkRun_zero])
        have hs13 : s.size ≤ 13 := by omega
        go_wp2
        go_ret
        refine ⟨?_, hbel⟩
        rw [hT.out, ← hf.out]
        exact congrArg (fun x => Ending.returned (.string x)) (bs_of (by rw [bs_append']; rfl))
theorem below_mark {w w' : World} (h : Below w.heap.size w w') {b o : Nat} {x : Value} (hb : b < w.heap.size) (hc : w.cell? ⟨b, o, none⟩ = some x) : w'.cell? ⟨b, o, none⟩ = some x := (h.cell (p := ⟨b, o, none⟩) hb).trans hc

/-- The marks of strings. -/
def marksT (k : Int) (n : Nat) : List ByteArray := (List.range n).map fun (i : Nat) => mkT (k + (i : Int))
theorem marksT_len (k : Int) (n : Nat) : (marksT k n).length = n := by simp [marksT]
theorem marksT_at (k : Int) (n i : Nat) (h : i < n) : elS (marksT k n) i = mkT (k + i) := by simp [elS, marksT, h]
theorem marksT_succ (k : Int) (n : Nat) : marksT k (n + 1) = marksT k n ++ [mkT (k + (n : Int))] := by simp [marksT, List.range_succ]

set_option maxHeartbeats 1000000 in
theorem markStrS_any (A : Option Addr) (n c : Nat) (ss : List ByteArray) (k : Int) (base : Nat) (w : World) (hn : ss.length = n) (hle : n ≤ 1048576) (hk0 : 0 ≤ k) (hk1 : k ≤ 1099511627776)
    (hown : w.ownsRow base 9 1 (.slice A n c) n (strs ss)) :
    Calls Try.prog 22 #[.slice A n c, .int .i64 k] w fun e w' => e = .returned (.int .i64 (k + n)) ∧ w'.ownsRow base 9 1 (.slice A n c) n (strs (marksT k n)) ∧ w.grownBy w' (Value.slice A n c).ownBlock := by
  go_enter Try.func22, Try.ntmps22
  go_wp2
  go_loopw [1, 5] (fun q i wr => ∃ j : Nat, j ≤ n ∧ i = .int .i64 j ∧ q = .int .i64 (k + j) ∧ wr.ownsRow base 9 1 (.slice A n c) n (strs (marksT k j) ++ strs (ss.drop j)) ∧ w.grownBy wr (Value.slice A n c).ownBlock) (fun _ i _ => n - (intOf i).toNat)
  case atStart => exact ⟨0, by omega, rfl, by go_num, by simpa [marksT, strs] using hown, World.grownBy.refl _ _⟩
  case round =>
    obtain ⟨j, hj, rfl, rfl, hown1, hg1⟩ := hrel
    by_cases hlt : j < n
    · obtain ⟨g, cap, hv, hbase, hgl⟩ := hown1.form (by omega)
      injection hv with hv1 hv2 hv3
      subst hv1 hv3
      go_wp2_with fail
      refine (markText_any (k + j) wr (by omega) (by omega)).mono ?_
      rintro e w2 ⟨rfl, hb2⟩
      have hown2 := own_below hown1 hb2 (Nat.le_refl _)
      have hg2 : w.grownBy w2 (Value.slice (some ⟨g, 0, none⟩) n c).ownBlock := hg1.trans (grown_of_below hb2 _)
      obtain ⟨hown3, hg3⟩ := hown2.stored j (.string (mkT (k + j)))
      have hp := strs_put (marksT k j) (ss.drop (j + 1)) ss[j] (mkT (k + j)) j (marksT_len k j)
      rw [List.drop_eq_getElem_cons (show j < ss.length by omega), hp, ← marksT_succ] at hown3
      have o3 := Lib.hid hown3
      have g3 := Lib.hid (hg2.trans hg3)
      clear hown3 hp
      have hfr := hown2.frozenAt j
      obtain ⟨u, hcg⟩ : ∃ u, w2.cell? ⟨g, j, none⟩ = some u := ⟨_, (hown2.cellAt j (by omega)).trans (List.getElem?_eq_getElem (by have := hown2.1; omega))⟩
      go_wp2
      go_roundw
      case rel => exact ⟨j + 1, by omega, by go_num, by go_num, o3.out, g3.out⟩
      case measure => simp [intOf]; omega
    · obtain rfl : j = n := by omega
      go_wp2
      go_ret
      exact ⟨rfl, by simpa [← hn, strs] using hown1, hg1⟩

set_option maxHeartbeats 1000000 in
theorem heldStrS_any (A : Option Addr) (n c : Nat) (k : Int) (w : World) (hle : n ≤ 1048576) (hk0 : 0 ≤ k) (hk1 : k ≤ 1099511627776) (hr : Row w w.heap.size A (strs (marksT k n))) :
    Calls Try.prog 23 #[.slice A n c, .int .i64 k] w fun e w' => e = .returned (.int .i64 (k + n)) ∧ Below w.heap.size w w' := by
  go_enter Try.func23, Try.ntmps23
  go_wp2
  go_loopw [1, 5] (fun q i wr => ∃ j : Nat, j ≤ n ∧ i = .int .i64 j ∧ q = .int .i64 (k + j) ∧ Below w.heap.size w wr) (fun _ i _ => n - (intOf i).toNat)
  case atStart => exact ⟨0, by omega, rfl, by go_num, Below.refl _ _⟩
  case round =>
    obtain ⟨j, hj, rfl, rfl, hbel⟩ := hrel
    have hs := hbel.size
    by_cases hlt : j < n
    · obtain ⟨b, off, rfl, hb, hc⟩ := (hr.below hbel).str (k := j) (by rw [marksT_len]; exact hlt)
      rw [marksT_at k n j hlt] at hc
      have h1 : (0 : Int) ≤ (j : Int) := by omega
      have h2 : (j : Int) < (n : Int) := by omega
      have hbs : b < wr.heap.size := by omega
      have hsm := seq_same (mkT (k + (j : Int)))
      go_wp2
      go_region_held3 (fun w' => w'.cell? ⟨b, off + j, none⟩ = some (.string (mkT (k + (j : Int))))) (go_keep)
        (first | (go_at_call 35; refine (markText_any (k + j) _ (by omega) (by omega)).mono ?_; rintro e w2 ⟨rfl, hb2⟩; have k1 := below_mark hb2 hbs hc))
      clear k1
      go_wp2
      go_roundw
      case rel => exact ⟨j + 1, by omega, by go_num, by go_num, hbel.drew.trans (hb2.mono hs)⟩
      case measure => simp [intOf]; omega
    · obtain rfl : j = n := by omega
      go_wp2
      go_ret
      exact ⟨rfl, hbel⟩
end Go.Proofs.Ytkgphkpckcfihaa
