/- The walk of the law on ReverseLookup. Condition: the cell of internal/bytealg.MaxLen is an int. -/
import Derived.Test.YtnpiljkchjdpfaaDoorDictR
namespace Go.Proofs.YtnpiljkchjdpfaaDoor
open Go.RowKit

theorem out_small {l : List En} {R : List (List Int)} (h : outsL l = R) (h6 : ∀ o ∈ R, o.length ≤ 6) : ∀ e ∈ l, e.o.length ≤ 6 := fun e he => h6 _ (by rw [← h]; exact List.mem_map.2 ⟨e, he, rfl⟩)
theorem out_lenN {l : List En} {R : List (List Int)} (h : outsL l = R) : l.length = R.length := by rw [← h, outsL_len]
/-- What the marks count. -/
def cntR (R : List (List Int)) : Int := (R.map fun o => (o.length : Int)).sum
theorem cntR_of {l : List En} {R : List (List Int)} (h : outsL l = R) : cntS l = cntR R := by rw [← h, cntR, outsL, List.map_map]; rfl
theorem cntR_bd {R : List (List Int)} (h : R.length ≤ 40) (h6 : ∀ o ∈ R, o.length ≤ 6) : 0 ≤ cntR R ∧ cntR R ≤ 240 := by
  have h1 : outsL (R.map (mkEn none 0)) = R := by
    clear h h6
    induction R with
    | nil => rfl
    | cons o R ih => show o :: outsL (R.map (mkEn none 0)) = _; rw [ih]
  have h2 := cntS_nn (R.map (mkEn none 0))
  have h3 := cntS_le (R.map (mkEn none 0)) 6 (fun e he => by obtain ⟨o, ho, rfl⟩ := List.mem_map.1 he; exact h6 o ho)
  rw [cntR_of h1] at h2 h3
  rw [List.length_map] at h3
  omega
set_option maxHeartbeats 4000000 in
theorem lawReverse (A : Option Addr) (n c : Nat) (l : List En) (t : ByteArray) (w : World) (m : Int) (hmax : w.cell? ⟨0, 0, none⟩ = some (.int .i64 m)) (hn : l.length = n) (hm : n ≤ maxLen) (hs : ∀ e ∈ l, e.o.length ≤ maxLen ∧ e.t.size ≤ maxLen) (hr : DRow w w.heap.size A l) :
    Calls Tryd.prog 6 #[.agg #[.slice A n c], .string t] w fun e w' => e = .returned (.bool true) ∧ Below w.heap.size w w' := by
  have hlt0 : 0 < w.heap.size := World.block_lt_of_cell? w _ hmax
  have HM := Lib.hid (fun wx (h : Below w.heap.size w wx) => (h.cell (p := ⟨0, 0, none⟩) hlt0).trans hmax)
  clear hmax
  have oB := ownC_new 33 w #[.slice A n c]
  have b0 := (Below.refl w.heap.size w).alloc (Nat.le_refl _) (.cells #[.slice A n c] 33)
  by_cases htl : 1048576 < t.size
  · have hd : decide ((1048576 : Int) < (t.size : Int)) = true := by simp; omega
    go_enter Tryd.func6, Tryd.ntmps6
    go_wp2
    go_ret
    exact ⟨rfl, b0⟩
  have hd : decide ((1048576 : Int) < (t.size : Int)) = false := by simp; omega
  have hz := Lib.hid (szDict_any A n c l (w.alloc (.cells #[.slice A n c] 33)) hn hm hs ((hr.below b0).mono b0.size))
  by_cases h : n + szD l ≤ 1048576
  · rw [if_pos h] at hz
    have hs2 := sizes_smallE h
    have hs1 : ∀ e ∈ l, e.o.length ≤ 1048576 := fun e he => (hs2 e he).1
    have hT := Lib.hid (fun W (hW : Below w.heap.size w W) => toDict_any A n c l W hn (by omega) hs1 ((hr.below hW).mono hW.size))
    have hS := Lib.hid (fun W A' c' l' (hv : vals l' = vals l) (ho : OwnAll W w.heap.size (dRows 27 3 (.slice A' n c') l')) => (hv ▸ specRev_any A' n c' l' t W (by have := congrArg List.length hv; rwa [vals_len, vals_len, hn] at this) (by omega) (vals_small hv hs2) W.heap.size (Nat.le_refl _) (DRow.of_own (by have := congrArg List.length hv; rwa [vals_len, vals_len, hn] at this) ho)))
    have hI := Lib.hid (fun W A' c' l' (hW : Below w.heap.size w W) (hv : vals l' = vals l) (ho : OwnAll W w.heap.size (dRows 27 3 (.slice A' n c') l')) => (hv ▸ implRev_any A' n c' l' t W m (HM.out _ hW) (by have := congrArg List.length hv; rwa [vals_len, vals_len, hn] at this) (by omega) (vals_small hv hs2) W.heap.size (Nat.le_refl _) (DRow.of_own (by have := congrArg List.length hv; rwa [vals_len, vals_len, hn] at this) ho)))
    have hce : ∀ l', vals l' = vals l → cntE l' ≤ 2097152 := fun l' hv => by
      have h1 := cntE_le l
      have h2 : cntE l' = cntE l := by
        have e1 : ∀ x : List En, cntE x = ((vals x).map fun v => (v.1.length : Int) + 1).sum := fun x => by rw [cntE, vals, List.map_map]; rfl
        rw [e1, e1, hv]
      rw [h2, hn] at *
      omega
    have hRn := revR_len (vals l) t
    have hR6 := Lib.hid (revR_six (vals l) t)
    generalize dictB (vals l) = q at hS hI
    have hqq : (q == q) = true := by cases q <;> rfl
    generalize revR (vals l) t = R at hS hI hRn hR6
    obtain ⟨hc0, hc1⟩ := cntR_bd hRn hR6.out
    go_enter Tryd.func6, Tryd.ntmps6
    go_wp2_with fail
    refine hz.out.mono ?_
    rintro e w1 ⟨rfl, hb1⟩
    have b1 := b0.trans (hb1.mono b0.size)
    have oB := oB.below hb1 (Nat.le_refl _)
    have cB0 := oB.cell (j := 0) rfl
    go_wp2_with fail
    refine (hT.out w1 b1).mono ?_
    rintro e w2 ⟨A2, c2, l2, rfl, hv2, hc2, ho2, hb2⟩
    have b2 := b1.trans (hb2.mono b1.size)
    have oB2 := oB.below hb2 (Nat.le_refl _)
    go_wp2_with fail
    refine (hS.out w2 A2 c2 l2 hv2 (ho2.base_le b1.size)).mono ?_
    rintro e w3 ⟨A3, c3, l3, rfl, hv3, ho3, hb3⟩
    have hl3 := out_lenN hv3
    have hs3 := Lib.hid (out_small hv3 hR6.out)
    have hv3 := Lib.hid hv3
    have hv3r := hv3
    have S3 := SRow.of_own hl3 ho3
    have b3 := b2.trans (hb3.mono b2.size)
    have oB3 := oB2.below hb3 (Nat.le_refl _)
    have hwB := oB3.lt.2
    clear cB0 oB2 ho2 ho3
    have cB0 := oB3.cell (j := 0) rfl
    go_wp2_with fail
    refine (hT.out w3 b3).mono ?_
    rintro e w4 ⟨A4, c4, l4, rfl, hv4, hc4, ho4, hb4⟩
    have hal4 := Lib.hid ho4.lt
    have b4 := b3.trans (hb4.mono b3.size)
    have oB4 := (oB3.below hb4 (Nat.le_refl _)).alloc (.cells #[.slice A4 n c4] 38)
    have oX := ownC_new 38 w4 #[.slice A4 n c4]
    have b4a := (Below.refl w4.heap.size w4).alloc (Nat.le_refl _) (.cells #[.slice A4 n c4] 38)
    have S4 := (S3.below_le hb4 (Nat.le_refl _)).below_le b4a hb4.size
    have ho4 := ho4.below b4a (Nat.le_refl _)
    have b4 := b4.trans (b4a.mono b4.size)
    have hz4 : (w4.alloc (.cells #[.slice A4 n c4] 38)).heap.size = w4.heap.size + 1 := by simp
    have hz34 := hb4.size
    have hs4 := fun e he => (vals_small hv4 hs2 e he).1
    have hl4 : l4.length = n := by have := congrArg List.length hv4; rwa [vals_len, vals_len, hn] at this
    have hce4 := hce l4 hv4
    have hcn4 := cntE_nn l4
    go_wp2_with fail
    refine (hI.out _ A4 c4 l4 b4 hv4 (ho4.base_le b3.size)).mono ?_
    rintro e w5 ⟨A5, c5, l5, rfl, hv5, ho5, hb5⟩
    generalize hx4 : w4.alloc (.cells #[.slice A4 n c4] 38) = x4 at *
    clear hx4
    have hl5 := out_lenN hv5
    have hs5 := Lib.hid (fun e he => Nat.le_trans (out_small hv5 hR6.out e he) (show 6 ≤ 1048576 by decide))
    have hcs := Lib.hid (cntR_of hv5)
    have hvq := Lib.hid (hv5.trans hv3.out.symm)
    have hal5 := Lib.hid ho5.lt
    have hz5 := hb5.size
    have b5 := b4.trans (hb5.mono b4.size)
    have oB5 := oB4.below hb5 (Nat.le_refl _)
    have oX5 := oX.below hb5 (Nat.le_refl _)
    have X5 := ho4.below hb5 (Nat.le_refl _)
    have S5 := S4.below_le hb5 (by omega)
    have hE5 := Lib.hid (eqIntSS_same A5 A3 R.length c5 c3 l5 l3 w5 hl5 hvq.out (by omega) hs5.out w5.heap.size (Nat.le_refl _) (SRow.of_own hl5 ho5) (S5.mono (by omega)))
    clear b0 b1 b2 b3 b4 oB oB3 oB4 oX ho4 S3 S4 cB0 hS hz h hce hv2 hc2 hc4 hs1 hs3 hv3 hb3 hb4 hb5 b4a hs2
    go_wp2_with fail
    refine hE5.out.mono ?_
    rintro e w6 ⟨rfl, hb6⟩
    have hz6 := hb6.size
    have b6 := Lib.hid (b5.trans (hb6.mono b5.size))
    have oB6 := oB5.below hb6 (Nat.le_refl _)
    have oX6 := oX5.below hb6 (Nat.le_refl _)
    have X6 := X5.below hb6 (Nat.le_refl _)
    have S6 := S5.below_le hb6 (by omega)
    have G6 := ho5.below hb6 (Nat.le_refl _)
    have cB0 := oB6.cell (j := 0) rfl
    have cX0 := oX6.cell (j := 0) rfl
    have hlB6 := oB6.lt.2
    have hlX6 := oX6.lt.2
    have hR := Lib.hid (fun W A7 c7 l7 (hW : Below w6.heap.size w6 W) (hv7 : vals l7 = vals l) (hl7 : l7.length = n) (ho : OwnAll W w6.heap.size (dRows 27 3 (.slice A7 n c7) l7)) => eqDict_same A4 A7 n c4 c7 l4 l7 W hl4 (hv4.trans hv7.symm) (by omega) hs4 W.heap.size (Nat.le_refl _) (((DRow.of_own hl4 X6).below hW).mono hW.size) (DRow.of_own hl7 ho))
    have hn2 := Lib.hid hn
    have hv4 := Lib.hid hv4
    have hs4 := Lib.hid hs4
    have hcn4 := Lib.hid hcn4
    have hce4 := Lib.hid hce4
    have hcb := Lib.hid (And.intro hc0 hc1)
    clear b5 oB5 oX5 X5 S5 hE5 hb6 oB6 oX6
    go_wp2
    go_region_held3 (fun w' => w'.cell? ⟨w.heap.size, 0, none⟩ = some (.slice A n c) ∧ w'.cell? ⟨w4.heap.size, 0, none⟩ = some (.slice A4 n c4)) (go_keep)
      (first
        | (go_at_call 16; refine (hT.out _ (by first | exact b6.out.drew | exact b6.out)).mono ?_; rintro e w7 ⟨A7, c7, l7, rfl, hv7, hc7, ho7, hb7⟩; have hv7 := Lib.hid hv7; have k1 := (bcell hb7 w.heap.size 0 (by simpa using hlB6)).trans cB0; have k3 := (bcell hb7 w4.heap.size 0 (by simpa using hlX6)).trans cX0)
        | (go_at_call 18; refine (hR.out _ A7 c7 l7 ((Below.refl _ _).drew.trans hb7) hv7.out (by have := congrArg List.length hv7.out; rw [vals_len, vals_len] at this; exact this.trans hn2.out) ho7).mono ?_; rintro e w8 ⟨rfl, hb8⟩; have k1 := (bcell hb8 w.heap.size 0 (by have := hb7.size; have : w6.drew.heap.size = w6.heap.size := rfl; omega)).trans k1; have k3 := (bcell hb8 w4.heap.size 0 (by have := hb7.size; have : w6.drew.heap.size = w6.heap.size := rfl; omega)).trans k3))
    have hb67 := (Below.refl w6.heap.size w6).drew.trans hb7
    have hb68 := hb67.trans (hb8.mono hb67.size)
    have hz8 := hb68.size
    have b8 := b6.out.trans (hb68.mono b6.out.size)
    have X8 := X6.below hb68 (Nat.le_refl _)
    have S8 := S6.below_le hb68 (by omega)
    have G8 := G6.below hb68 (Nat.le_refl _)
    have hM := Lib.hid (markDict_any A4 n c4 l4 1 w3.heap.size w4.heap.size w8 hl4 (by omega) hs4.out (by omega) (by have := hce4.out; omega) X8 hal4.out)
    have hr9 : decide (1 + cntE l4 < 0) = false := by have := hcn4.out; simp; omega
    clear b6 S6 X6 G6 hR hb7 hb8 hb67 hv7 ho7 cB0 cX0 X8
    go_wp2_with fail
    refine hM.out.mono ?_
    rintro e w9 ⟨rfl, _, hc9⟩
    have hz9 := hc9.size
    have b9 := b8.trans (hc9.below (B := w.heap.size) (fun k hk => by have := hk.1; omega) b8.size)
    have S9 := S8.chg hc9 (by omega) (fun k hk f => by have := f.1; omega)
    have cB9 := hc9.cell k1 (fun f => by have := f.1; show False; have h2 : w3.heap.size ≤ w.heap.size := this; omega)
    have G9 := G8.chg hc9 (fun r hr g hg f => by have h1 := G8.ge r hr g hg; have h2 := f.2; omega)
    have hE9 := Lib.hid (eqIntSS_same A5 A3 R.length c5 c3 l5 l3 w9 hl5 hvq.out (by omega) hs5.out w9.heap.size (Nat.le_refl _) (SRow.of_own hl5 G9) (S9.mono (by omega)))
    clear b8 S8 G8 k1 k3 hc9 hM hb68
    go_wp2_with fail
    refine hE9.out.mono ?_
    rintro e w10 ⟨rfl, hb10⟩
    have hz10 := hb10.size
    have b10 := b9.trans (hb10.mono b9.size)
    have S10 := S9.below_le hb10 (by omega)
    have G10 := G9.below hb10 (Nat.le_refl _)
    have cB10 := (bcell hb10 w.heap.size 0 (by omega)).trans cB9
    have hM := Lib.hid (markIntSS_any A5 R.length c5 l5 1 x4.heap.size w5.heap.size w10 hl5 (by omega) hs5.out (by omega) (by rw [hcs.out]; omega) G10 hal5.out)
    rw [hcs.out] at hM
    clear b9 S9 G9 cB9 hE9 hb10
    have hr11 : decide (1 + cntR R < 0) = false := by have := hcb.out.1; simp; omega
    go_wp2_with fail
    refine hM.out.mono ?_
    rintro e w11 ⟨rfl, G11, hc11⟩
    have hz11 := hc11.size
    have b11 := b10.trans (hc11.below (B := w.heap.size) (fun k hk => by have := hk.1; omega) b10.size)
    have S11 := S10.chg hc11 (by omega) (fun k hk f => by have := f.1; omega)
    have cB11 := hc11.cell cB10 (fun f => by have h2 : x4.heap.size ≤ w.heap.size := f.1; omega)
    have hml : (markS 1 l5).length = R.length := by rw [markS_len, hl5]
    have hH := Lib.hid (heldIntSS_any A5 R.length c5 l5 1 w11 hl5 (by omega) hs5.out (by omega) (by rw [hcs.out]; omega) w11.heap.size (SRow.of_own hml G11))
    rw [hcs.out] at hH
    clear b10 S10 G10 cB10 hc11 hM
    go_wp2_with fail
    refine hH.out.mono ?_
    rintro e w11' ⟨rfl, rfl⟩
    go_wp2_with fail
    refine (hT.out w11 b11).mono ?_
    rintro e w12 ⟨A12, c12, l12, rfl, hv12, hc12, ho12, hb12⟩
    have b12 := b11.trans (hb12.mono b11.size)
    have hz12 := hb12.size
    have S12 := S11.below_le hb12 (by omega)
    have G12 := G11.below hb12 (Nat.le_refl _)
    go_wp2_with fail
    refine (hI.out w12 A12 c12 l12 b12 hv12 (ho12.base_le b11.size)).mono ?_
    rintro e w13 ⟨A13, c13, l13, rfl, hv13, ho13, hb13⟩
    have b13 := b12.trans (hb13.mono b12.size)
    have hz13 := hb13.size
    have S13 := S12.below_le hb13 (by omega)
    have G13 := G12.below hb13 (Nat.le_refl _)
    have hv53 := hcs
    have hE13 := Lib.hid (eqIntSS_same A13 A3 R.length c13 c3 l13 l3 w13 (out_lenN hv13) (hv13.trans hv3r.out.symm) (by omega) (fun e he => Nat.le_trans (out_small hv13 hR6.out e he) (show 6 ≤ 1048576 by decide)) w13.heap.size (Nat.le_refl _) (SRow.of_own (out_lenN hv13) ho13) (S13.mono (by omega)))
    clear b11 b12 S11 S12 G11 G12 S13 ho12 ho13 hH cB11 hb12 hb13
    go_wp2_with fail
    refine hE13.out.mono ?_
    rintro e w14 ⟨rfl, hb14⟩
    have b14 := b13.trans (hb14.mono b13.size)
    have G14 := G13.below hb14 (Nat.le_refl _)
    have hH := Lib.hid (heldIntSS_any A5 R.length c5 l5 1 w14 hl5 (by omega) hs5.out (by omega) (by rw [hcs.out]; omega) w14.heap.size (SRow.of_own hml G14))
    rw [hcs.out] at hH
    clear G13 G14 hE13 b13
    go_wp2_with fail
    refine hH.out.mono ?_
    rintro e w14' ⟨rfl, rfl⟩
    go_wp2
    go_ret
    exact ⟨rfl, b14⟩
  · rw [if_neg h] at hz
    go_enter Tryd.func6, Tryd.ntmps6
    go_wp2_with fail
    refine hz.out.mono ?_
    rintro e w1 ⟨rfl, hb1⟩
    go_wp2
    go_ret
    exact ⟨rfl, b0.trans (hb1.mono b0.size)⟩
end Go.Proofs.YtnpiljkchjdpfaaDoor
