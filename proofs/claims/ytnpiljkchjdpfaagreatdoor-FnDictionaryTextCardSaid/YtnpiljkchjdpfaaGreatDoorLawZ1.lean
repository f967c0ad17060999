/- The walk of the law on ParseDictionary. Condition: the cell of internal/bytealg.MaxLen is an int. -/
import Derived.Test.YtnpiljkchjdpfaaGreatDoorDictP
namespace Go.Proofs.YtnpiljkchjdpfaaGreatDoor
open Go.RowKit

theorem pdR_six (s : List UInt8) : ∀ e ∈ pdR s, e.1.length ≤ 6 := fun e he => by
  rcases Bool.eq_false_or_eq_true (pdOk s) with h | h
  · rw [pdR_yes h] at he
    exact dict_out6 (pdOk_iff h).2.1 e he
  · rw [pdR_no h] at he; cases he
theorem vals_lenR {l : List En} {R : List EV} (h : vals l = R) : l.length = R.length := by rw [← h, vals_len]
theorem vals_six {l : List En} {R : List EV} (h : vals l = R) (h6 : ∀ e ∈ R, e.1.length ≤ 6) : ∀ e ∈ l, e.o.length ≤ 1048576 := fun e he => Nat.le_trans (h6 e.v (by rw [← h]; exact List.mem_map.2 ⟨e, he, rfl⟩)) (by decide)
/-- What the marks count. -/
def cntV (R : List EV) : Int := (R.map fun e => (e.1.length : Int) + 1).sum
theorem cntV_of {l : List En} {R : List EV} (h : vals l = R) : cntE l = cntV R := by rw [← h, cntV, vals, List.map_map]; rfl
theorem cntV_bd {R : List EV} (h : R.length ≤ 40) (h6 : ∀ e ∈ R, e.1.length ≤ 6) : 0 ≤ cntV R ∧ cntV R ≤ 280 := by
  have key : 0 ≤ cntV R ∧ cntV R ≤ 7 * (R.length : Int) := by
    clear h
    induction R with
    | nil => simp [cntV]
    | cons e R ih =>
      have h1 := h6 e (by simp)
      have h2 := ih (fun x hx => h6 x (by simp [hx]))
      simp only [cntV, List.map_cons, List.sum_cons, List.length_cons] at h2 ⊢
      omega
  omega
set_option maxHeartbeats 4000000 in
theorem lawParseDict (s : ByteArray) (w : World) (m : Int) (hmax : w.cell? ⟨0, 0, none⟩ = some (.int .i64 m)) :
    Calls Tryz.prog 3 #[.string s] w fun e w' => e = .returned (.bool true) ∧ Below w.heap.size w w' := by
  have hlt0 : 0 < w.heap.size := World.block_lt_of_cell? w _ hmax
  have HM := Lib.hid (fun wx (h : Below w.heap.size w wx) => (h.cell (p := ⟨0, 0, none⟩) hlt0).trans hmax)
  clear hmax
  by_cases htl : 1048576 < s.size
  · have hd : decide ((1048576 : Int) < (s.size : Int)) = true := by simp; omega
    go_enter Tryz.func3, Tryz.ntmps3
    go_wp2
    go_ret
    exact ⟨rfl, Below.refl _ _⟩
  have hd : decide ((1048576 : Int) < (s.size : Int)) = false := by simp; omega
  have hS := Lib.hid (specParseDict_any s w)
  have hI := Lib.hid (fun W (hW : Below w.heap.size w W) => implParseDict_any s W m (HM.out W hW))
  have hRn := pdR_len s.data.toList
  have hR6 := Lib.hid (pdR_six s.data.toList)
  generalize pdR s.data.toList = R at hS hI hRn hR6
  generalize pdOk s.data.toList = q at hS hI
  have hqq : (q == q) = true := by cases q <;> rfl
  obtain ⟨hc0, hc1⟩ := cntV_bd hRn hR6.out
  have hcb := Lib.hid (And.intro hc0 hc1)
  have hr1 : decide (1 + cntV R < 0) = false := by simp; omega
  go_enter Tryz.func3, Tryz.ntmps3
  go_wp2_with fail
  refine hS.out.mono ?_
  rintro e w1 ⟨A1, c1, l1, rfl, hv1, ho1, b1⟩
  have hl1 := vals_lenR hv1
  have hv1 := Lib.hid hv1
  have oW := ownC_new 24 w1 #[.slice A1 R.length c1]
  have ba := (Below.refl w1.heap.size w1).alloc (Nat.le_refl _) (.cells #[.slice A1 R.length c1] 24)
  have D1 := (DRow.of_own hl1 ho1).below_le ba (Nat.le_refl _)
  have bx1 := b1.trans (ba.mono b1.size)
  have hxw := bx1.size
  have hz1 : (w1.alloc (.cells #[.slice A1 R.length c1] 24)).heap.size = w1.heap.size + 1 := by simp
  go_wp2_with fail
  refine (hI.out _ bx1).mono ?_
  rintro e w2 ⟨A2, c2, l2, rfl, hv2, ho2, hb2⟩
  generalize hx1 : w1.alloc (.cells #[.slice A1 R.length c1] 24) = x1 at *
  clear hx1 ho1
  have hl2 := vals_lenR hv2
  have hs2 := Lib.hid (vals_six hv2 hR6.out)
  have hce := Lib.hid (cntV_of hv2)
  have hvq := Lib.hid (hv2.trans hv1.out.symm)
  have hal := Lib.hid ho2.lt
  have hz2 := hb2.size
  have oW2 := oW.below hb2 (Nat.le_refl _)
  have D2 := D1.below_le hb2 (by omega)
  have b2 := bx1.trans (hb2.mono bx1.size)
  have oG := ownC_new 24 w2 #[.slice A2 R.length c2]
  have bb := (Below.refl w2.heap.size w2).alloc (Nat.le_refl _) (.cells #[.slice A2 R.length c2] 24)
  have oW3 := oW2.alloc (.cells #[.slice A2 R.length c2] 24)
  have D3 := D2.below_le bb (by omega)
  have G3 := ho2.below bb (Nat.le_refl _)
  have b3 := b2.trans (bb.mono b2.size)
  have hz3 : (w2.alloc (.cells #[.slice A2 R.length c2] 24)).heap.size = w2.heap.size + 1 := by simp
  have cW := oW3.cell (j := 0) rfl
  have cG := oG.cell (j := 0) rfl
  have hE := Lib.hid (eqDict_same A2 A1 R.length c2 c1 l2 l1 _ hl2 hvq.out (by omega) hs2.out _ (Nat.le_refl _) (DRow.of_own hl2 G3) (D3.mono (by omega)))
  clear hS D1 D2 oW oW2 ho2 bx1 b1 b2 hv2 ba
  go_wp2_with fail
  refine hE.out.mono ?_
  rintro e w3 ⟨rfl, hb3⟩
  generalize hx2 : w2.alloc (.cells #[.slice A2 R.length c2] 24) = x2 at *
  clear hx2 hE bb
  have hz4 := hb3.size
  have b4 := b3.trans (hb3.mono b3.size)
  have oW4 := oW3.below hb3 (Nat.le_refl _)
  have oG4 := oG.below hb3 (Nat.le_refl _)
  have D4 := D3.below_le hb3 (by omega)
  have G4 := G3.below hb3 (Nat.le_refl _)
  clear cW cG
  have cG := oG4.cell (j := 0) rfl
  have cW4 := oW4.cell (j := 0) rfl
  have hM := Lib.hid (markDict_any A2 R.length c2 l2 1 x1.heap.size w2.heap.size w3 hl2 (by omega) hs2.out (by omega) (by rw [hce.out]; omega) G4 hal.out)
  rw [hce.out] at hM
  clear b3 oW3 oG D3 G3 hb3
  go_wp2_with fail
  refine hM.out.mono ?_
  rintro e w5 ⟨rfl, G5, hc5⟩
  have hz5 := hc5.size
  have b5 := b4.trans (hc5.below (B := w.heap.size) (fun k hk => by have := hk.1; omega) b4.size)
  have D5 := D4.chg hc5 (by omega) (fun k hk f => by have := f.1; omega)
  have cW5 := hc5.cell cW4 (fun f => by have h2 : x1.heap.size ≤ w1.heap.size := f.1; omega)
  have cG5 := hc5.cell cG (fun f => by have h2 : w2.heap.size < w2.heap.size := f.2; omega)
  have hml : (markE 1 l2).length = R.length := by rw [markE_len, hl2]
  have hH := Lib.hid (heldDict_any A2 R.length c2 l2 1 w5 hl2 (by omega) hs2.out (by omega) (by rw [hce.out]; omega) w5.heap.size (Nat.le_refl _) (DRow.of_own hml G5))
  rw [hce.out] at hH
  clear b4 oW4 oG4 D4 G4 hM hc5 cG cW4
  go_wp2_with fail
  refine hH.out.mono ?_
  rintro e w6 ⟨rfl, hb6⟩
  have hz6 := hb6.size
  have b6 := b5.trans (hb6.mono b5.size)
  have D6 := D5.below_le hb6 (by omega)
  have G6 := G5.below hb6 (Nat.le_refl _)
  have cW6 := (bcell hb6 w1.heap.size 0 (by omega)).trans cW5
  have cG6 := (bcell hb6 w2.heap.size 0 (by omega)).trans cG5
  clear b5 D5 G5 cW5 cG5 hH
  go_wp2_with fail
  refine (hI.out w6 b6).mono ?_
  rintro e w7 ⟨A7, c7, l7, rfl, hv7, ho7, hb7⟩
  have hl7 := vals_lenR hv7
  have hs7 := Lib.hid (vals_six hv7 hR6.out)
  have hv7 := Lib.hid (hv7.trans hv1.out.symm)
  have hz7 := hb7.size
  have b7 := b6.trans (hb7.mono b6.size)
  have bc := (Below.refl w7.heap.size w7).alloc (Nat.le_refl _) (.cells #[.slice A7 R.length c7] 24)
  have hb8 := hb7.trans (bc.mono hz7)
  have b8 := b7.trans (bc.mono b7.size)
  have oH := ownC_new 24 w7 #[.slice A7 R.length c7]
  have D8 := D6.below_le hb8 (by omega)
  have G8 := G6.below hb8 (Nat.le_refl _)
  have H8 := ho7.below bc (Nat.le_refl _)
  have cW8 := (bcell hb8 w1.heap.size 0 (by omega)).trans cW6
  have cG8 := (bcell hb8 w2.heap.size 0 (by omega)).trans cG6
  have cH8 := oH.cell (j := 0) rfl
  have hz8 : (w7.alloc (.cells #[.slice A7 R.length c7] 24)).heap.size = w7.heap.size + 1 := by simp
  have hE := Lib.hid (eqDict_same A7 A1 R.length c7 c1 l7 l1 _ hl7 hv7.out (by omega) hs7.out _ (Nat.le_refl _) (DRow.of_own hl7 H8) (D8.mono (by omega)))
  clear b6 D6 G6 cW6 cG6 D8 H8 ho7 bc hb7 b7
  go_wp2_with fail
  refine hE.out.mono ?_
  rintro e w9 ⟨rfl, hb9⟩
  have cG9 := (bcell hb9 w2.heap.size 0 (by omega)).trans cG8
  have b9 := b8.trans (hb9.mono b8.size)
  have G9 := G8.below hb9 (Nat.le_refl _)
  have hH := Lib.hid (heldDict_any A2 R.length c2 l2 1 w9 hl2 (by omega) hs2.out (by omega) (by rw [hce.out]; omega) w9.heap.size (Nat.le_refl _) (DRow.of_own hml G9))
  rw [hce.out] at hH
  clear b8 G8 cW8 cG8 cH8 hE hb9 hb8
  go_wp2_with fail
  refine hH.out.mono ?_
  rintro e w10 ⟨rfl, hb10⟩
  go_wp2
  go_ret
  exact ⟨rfl, b9.trans (hb10.mono b9.size)⟩
end Go.Proofs.YtnpiljkchjdpfaaGreatDoor
