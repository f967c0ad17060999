/- Contracts of the laws' helpers on slices of strings: szStringS, toStringS, eqStringS, markStringS, heldStringS, markText. Condition: at most 2^20 elements. -/
import Derived.Test.YtnpiljkchjdpfaaDoorStrs
import Derived.Test.YtnpiljkchjdpfaaDoorPStr
import Derived.Test.YtnpiljkchjdpfaaDoorRows
import Derived.Laws.MakeOwn
import Derived.Laws.BytesArg
import Derived.Deep.QuietTactic
import Derived.BigQuiet
import Derived.Deep.RegionHeld3
import Derived.WalkLawsBesides
import Derived.WalkSpells
import Derived.Outline
import Derived.Lib.Hide
namespace Go.Proofs.YtnpiljkchjdpfaaDoor
open Go.RowKit

theorem strsT : ElemT Tryd.prog 84 9 (.string ⟨#[]⟩) 1 16 := ⟨Tryd.underlying84, by kernel_rfl, rfl, by decide⟩
theorem seq_same (a : ByteArray) : (a.toList == a.toList) = true := by simp

theorem grown_of_below {w w' : World} (h : Below w.heap.size w w') (row : Option Nat) : w.grownBy w' row := ⟨h.os, h.tape, h.output, h.size, fun j hj _ => h.block j hj⟩
theorem bs_append' (a b : ByteArray) : (a ++ b).data.toList = a.data.toList ++ b.data.toList := by simp
theorem one_num (z : Int) : (strOfNums [z]).data.toList = [UInt8.ofNat z.toNat] := by
  simp [strOfNums]
set_option maxRecDepth 100000 in
set_option maxHeartbeats 1000000 in
theorem markText_any (k : Int) (w : World) (h0 : 0 ≤ k) (h1 : k ≤ 4398046511104) : Calls Tryd.prog 67 #[.int .i64 k] w fun e w' => e = .returned (.string (mkT k)) ∧ Below w.heap.size w w' := by
  by_cases hk : k ≤ 0
  · have hT := Lib.hid (show mkT k = ⟨#[109, 48]⟩ by rw [mkT, if_pos hk]; rfl)
    go_enter Tryd.func67, Tryd.ntmps67
    go_wp2
    go_ret
    exact ⟨by rw [hT.out]; rfl, Below.refl _ _⟩
  · obtain ⟨n, rfl⟩ := Int.eq_ofNat_of_zero_le h0
    have hT := Lib.hid (show mkT (n : Int) = bs (109 :: mkRun n []) by rw [mkT, if_neg hk, Int.toNat_natCast])
    have hd := dcount_le 13 n (by omega)
    have hcv := fun (W : World) (z : Int) => run_convert_bytes_arg (P := Tryd.prog) (W.alloc (.cells #[.int .u8 z] 5)) 102 5 Tryd.underlying102 Tryd.underlying5 W.heap.size 0 1 1 [z] rfl (fun i hi => by
      obtain rfl : i = 0 := by omega
      rw [cell_of_row _ W.heap.size 0 _ 5 (0, 0) (heap_alloc_new W _)]
      rfl) 9 Tryd.underlying9
    go_enter Tryd.func67, Tryd.ntmps67
    go_wp2
    go_loopw [0, 3] (fun a o wr => ∃ j : Nat, ∃ s : ByteArray, j ≤ n ∧ a = .int .i64 j ∧ o = .string s ∧ s.size + dcount j ≤ 13 ∧ Hid (mkRun j s.data.toList = mkRun n []) ∧ Below w.heap.size w wr) (fun a _ _ => (intOf a).toNat)
    case atStart => exact ⟨n, _, Nat.le_refl _, rfl, rfl, by show 0 + dcount n ≤ 13; omega, rfl, Below.refl _ _⟩
    case round =>
      obtain ⟨j, s, hj, rfl, rfl, hs, hr, hbel⟩ := hrel
      have hsz := hbel.size
      by_cases hlt : 0 < j
      · have hdc := dcount_pos j hlt
        have hr2 := Lib.hid ((mkRun_pos j hlt s.data.toList).symm.trans hr.out)
        have hcv' := hcv wr (48 + (j : Int) % 10)
        clear hcv
        have hn1 := Lib.hid (one_num (48 + (j : Int) % 10))
        have hn2 : (strOfNums [48 + (j : Int) % 10]).size = 1 := by rw [bs_size', hn1.out]; rfl
        go_wp2
        go_roundw
        case rel =>
          refine ⟨j / 10, _, by omega, by go_num, rfl, ?_, ?_, hbel.alloc hsz _⟩
          · rw [bs_size', bs_append', hn1.out]; simp only [List.length_append, List.length_cons, List.length_nil]; rw [← bs_size']; omega
          · show _ = _
            rw [bs_append', hn1.out, show (48 + (j : Int) % 10).toNat = 48 + j % 10 by omega]
            exact hr2.out
        case measure => simp [intOf]; omega
      · obtain rfl : j = 0 := by omega
        have hf := Lib.hid (show s.data.toList = mkRun n [] by rw [← hr.out, mkRun_zero])
        have hs13 : s.size ≤ 13 := by omega
        go_wp2
        go_ret
        refine ⟨?_, hbel⟩
        rw [hT.out, ← hf.out]
        exact congrArg (fun x => Ending.returned (.string x)) (bs_of (by rw [bs_append']; rfl))
theorem below_mark {w w' : World} (h : Below w.heap.size w w') {b o : Nat} {x : Value} (hb : b < w.heap.size) (hc : w.cell? ⟨b, o, none⟩ = some x) : w'.cell? ⟨b, o, none⟩ = some x := (h.cell (p := ⟨b, o, none⟩) hb).trans hc

/-- The marks of strings. -/
def marksT (k : Int) (n : Nat) : List ByteArray := (List.range n).map fun (i : Nat) => mkT (k + (i : Int))
theorem marksT_len (k : Int) (n : Nat) : (marksT k n).length = n := by simp [marksT]
theorem marksT_at (k : Int) (n i : Nat) (h : i < n) : elS (marksT k n) i = mkT (k + i) := by simp [elS, marksT, h]
theorem marksT_succ (k : Int) (n : Nat) : marksT k (n + 1) = marksT k n ++ [mkT (k + (n : Int))] := by simp [marksT, List.range_succ]

end Go.Proofs.YtnpiljkchjdpfaaDoor
