/- Contracts of both readers of an outline's notation. Condition: the cell of internal/bytealg.MaxLen is an int; the text is at most 2^20 bytes. -/
import Derived.Test.YtnpiljkchjdpfaaGreatDoorPPo
import Derived.Test.YtnpiljkchjdpfaaGreatDoorMem3
import Derived.Test.YtnpiljkchjdpfaaGreatDoorGS
import Derived.Test.YtnpiljkchjdpfaaGreatDoorIntS
import Derived.Lib.Hide
namespace Go.Proofs.YtnpiljkchjdpfaaGreatDoor
open Go.RowKit

theorem partsV_len (ps : List (List UInt8)) : (partsV ps).length = ps.length := by simp [partsV]
theorem Row.part {w : World} {B : Nat} {A : Option Addr} {ps : List (List UInt8)} (h : Row w B A (partsV ps)) {k : Nat} (hk : k < ps.length) :
    ∃ b off, A = some ⟨b, off, none⟩ ∧ b < B ∧ w.cell? ⟨b, off + k, none⟩ = some (.string (bs (prt ps k))) := by
  obtain ⟨b, off, e, hb, hc⟩ := h (fun e => by have := partsV_len ps; rw [e] at this; simp at this; omega)
  exact ⟨b, off, e, hb, hc k _ (by simp [partsV, prt, hk])⟩
structure PoSt (w w2 : World) (Z : Nat) (v : Value) (xs : List Int) (wr : World) : Prop where
  own : wr.ownsRow w.heap.size 3 1 v xs.length (ints xs)
  bel : Below w.heap.size w wr
  sz : w2.heap.size ≤ wr.heap.size
  cl : Clear v Z w2.heap.size
  kp : Kept w2 wr Z w2.heap.size
theorem PoSt.below {w w2 wr w' : World} {Z : Nat} {v : Value} {xs : List Int} (h : PoSt w w2 Z v xs wr) (hb : Below wr.heap.size wr w') : PoSt w w2 Z v xs w' :=
  ⟨own_below h.own hb (Nat.le_refl _), h.bel.trans (hb.mono h.bel.size), Nat.le_trans h.sz hb.size, h.cl, kept_below h.kp hb h.sz⟩
theorem PoSt.app {w w2 wr w' : World} {Z : Nat} {v v' : Value} {xs : List Int} {x : Int} (h : PoSt w w2 Z v xs wr) (ho : w'.ownsRow w.heap.size 3 1 v' (xs.length + 1) (ints xs ++ [.int .i64 x])) (hb : Below w.heap.size w w') (hg : wr.grownBy w' v.ownBlock) (hv : v'.ownBlock = v.ownBlock ∨ v'.ownBlock = some (wr.heap.size + 1)) : PoSt w w2 Z v' (xs ++ [x]) w' :=
  ⟨by rw [ints_snoc, List.length_append]; exact ho, hb, Nat.le_trans h.sz hg.size, clear_app h.cl hv (Nat.le_trans h.sz (Nat.le_succ _)), kept_app h.kp h.cl hg h.sz⟩
theorem psR_no {l : List UInt8} (h : poAll l = false) : psR l = [] := by rw [psR, h]; rfl
theorem psR_yes {l : List UInt8} (h : poAll l = true) : psR l = poV l := by rw [psR, if_pos h]
theorem own_nil (w : World) (base : Nat) (e : TypeId) (size : Nat) : w.ownsRow base e size (.slice none 0 0) 0 [] := ⟨by simp, Or.inl ⟨rfl, rfl⟩⟩
theorem ret_ob {A A' : Option Addr} {n n' c c' : Nat} {x y : Bool} (h : (Value.slice A n c) = .slice A' n' c') (g : x = y) : Ending.returned (.tuple #[.slice A n c, .bool x]) = .returned (.tuple #[.slice A' n' c', .bool y]) := by rw [h, g]

set_option maxHeartbeats 2000000 in
theorem parseStrokes_any (t : ByteArray) (w : World) (m : Int) (hmax : w.cell? ⟨0, 0, none⟩ = some (.int .i64 m)) (hm : t.size ≤ 1048576) :
    Calls Tryz.prog 39 #[.string t] w fun e w' => ∃ A c, e = .returned (.tuple #[.slice A (psR t.data.toList).length c, .bool (poAll t.data.toList)]) ∧ w'.ownsRow w.heap.size 3 1 (.slice A (psR t.data.toList).length c) (psR t.data.toList).length (ints (psR t.data.toList)) ∧ Below w.heap.size w w' := by
  have hlt : 0 < w.heap.size := World.block_lt_of_cell? w _ hmax
  have ho1 := World.ownsRow_made w #[] 0 (base := w.heap.size) (e := 3) (size := 1) (Nat.le_refl _) (by unfold maxLen; omega) (by simp)
  have b1 := (Below.refl w.heap.size w).alloc (Nat.le_refl _) (.cells #[] 3)
  have hmax1 := (b1.cell (p := ⟨0, 0, none⟩) hlt).trans hmax
  have hsz1 : (w.alloc (.cells #[] 3)).heap.size = w.heap.size + 1 := by simp
  have hSP := Lib.hid (split_any t 47 (w.alloc (.cells #[] 3)) m hmax1 hm)
  clear hmax hmax1
  go_enter Tryz.func39, Tryz.ntmps39
  go_wp2_with fail
  refine hSP.out.mono ?_
  rintro e w2 ⟨A, c, rfl, ho2, hb2⟩
  have hs2 := hb2.size
  have D1 : PoSt w w2 (w.heap.size + 1) (.slice (some ⟨w.heap.size, 0, none⟩) 0 0) (((splits 47 t.data.toList).take 0).map strictVal) w2 :=
    ⟨by simpa [ints] using own_below ho1 hb2 (Nat.le_refl _), b1.trans (hb2.mono (by simp)), Nat.le_refl _, clear_of_own ho1 (by simp), kept_refl _ _ _⟩
  have hN := splits_len 47 t.data.toList
  rw [← bs_size'] at hN
  have hP := Lib.hid (fun p (h : p ∈ splits 47 t.data.toList) => (part_len h : p.length ≤ _))
  have hA := Lib.hid (fun k (h : k < (splits 47 t.data.toList).length) => po_bad (l := t.data.toList) h)
  have hAll := Lib.hid (show (∀ p ∈ (splits 47 t.data.toList).take (splits 47 t.data.toList).length, strictOk p = true) → poAll t.data.toList = true by
    rw [List.take_length]; exact fun h => List.all_eq_true.2 h)
  have hV := Lib.hid (show ((splits 47 t.data.toList).take (splits 47 t.data.toList).length).map strictVal = poV t.data.toList by rw [List.take_length]; rfl)
  have ht := bs_size' t
  rw [← ht] at hP
  generalize hps : splits 47 t.data.toList = ps at *
  have hpsH := Lib.hid hps
  clear hps ho1 b1 hSP hb2
  go_wp2
  go_loopw [4, 13] (fun v i wr => ∃ k : Nat, k ≤ ps.length ∧ i = .int .i64 k ∧ Hid (∀ p ∈ ps.take k, strictOk p = true) ∧ PoSt w w2 (w.heap.size + 1) v ((ps.take k).map strictVal) wr) (fun _ i _ => ps.length - (intOf i).toNat)
  case atStart => exact ⟨0, by omega, rfl, fun p hp => by simp at hp, D1⟩
  case round =>
    obtain ⟨k, hk, rfl, hg, D⟩ := hrel
    clear D1
    have hlen : ((ps.take k).map strictVal).length = k := by simp; omega
    by_cases hlt2 : k < ps.length
    · obtain ⟨b, off, rfl, hb, hc⟩ := (Row.kept ho2 (by omega) (Nat.le_refl _) D.kp).part (k := k) hlt2
      have hz := hP.out _ (prt_in ps k hlt2)
      have hpm : (bs (prt ps k)).size ≤ maxLen := by rw [bs_len]; unfold maxLen; omega
      have hip := Lib.hid (implParse_any (bs (prt ps k)) wr hpm)
      clear hlen
      go_wp2_with fail
      refine hip.out.mono ?_
      rintro e w3 ⟨rfl, hb3⟩
      have D3 := D.below hb3
      rw [bs_toList]
      cases hok : strictOk (prt ps k)
      · have hno := hA.out k hlt2 hok
        have hR := Lib.hid (psR_no hno)
        have hnoH := Lib.hid hno
        clear hno
        go_wp2
        go_ret2
        rw [hR.out, hnoH.out]
        exact ⟨none, 0, rfl, own_nil _ _ _ _, D3.bel⟩
      · have hlen : ((ps.take k).map strictVal).length ≤ k := by simp; omega
        have hsn : w.heap.size ≤ w3.heap.size := D3.bel.size
        go_wp2_with (at_builtin; refine wpList_app1 (.int .i64 (strictVal (prt ps k))) intsT D3.bel D3.own rfl (Nat.le_refl _) hsn (by omega) (by decide) rfl (.tmp 24) (.tmp 26) rfl rfl rfl ?_; intro v5 w5 ho5 hb5 hg5 hv5)
        go_roundw
        case rel => exact ⟨k + 1, by omega, by go_num, all_take hlt2 hg.out hok, by rw [vals_take hlt2]; exact D3.app ho5 hb5 hg5 hv5⟩
        case measure => simp [intOf]; omega
    · obtain rfl : k = ps.length := by omega
      obtain ⟨A', c', rfl, _⟩ := own_slice D.own
      have hy := hAll.out hg.out
      have hR := Lib.hid (psR_yes hy)
      have hyH := Lib.hid hy
      have ho := D.own
      rw [hV.out] at ho
      have hL : ((ps.take ps.length).map strictVal).length = (poV t.data.toList).length := by rw [hV.out]
      rw [hL]
      have hbel := D.bel
      clear hL D hy
      go_wp2
      go_ret2
      rw [hR.out, hyH.out]
      exact ⟨A', c', rfl, ho, hbel⟩
end Go.Proofs.YtnpiljkchjdpfaaGreatDoor
