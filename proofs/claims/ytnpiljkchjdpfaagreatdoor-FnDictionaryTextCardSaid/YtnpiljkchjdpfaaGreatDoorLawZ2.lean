/- The walk of the law FnDictionaryText. Condition: the cell of internal/bytealg.MaxLen is an int. -/
import Derived.Test.YtnpiljkchjdpfaaGreatDoorDictG
import Derived.Test.YtnpiljkchjdpfaaGreatDoorLawZ1
import Derived.Test.YtnpiljkchjdpfaaGreatDoorGV
namespace Go.Proofs.YtnpiljkchjdpfaaGreatDoor
open Go.RowKit

theorem pd_small {l : List En} {s : List UInt8} (h : vals l = pdR s) : ∀ e ∈ l, e.o.length ≤ 1048576 ∧ e.t.size ≤ 1048576 := fun e he => by
  rcases Bool.eq_false_or_eq_true (pdOk s) with q | q
  · rw [pdR_yes q] at h
    have hd := (pdOk_iff q).2.1
    rw [← h] at hd
    have hm : e.v ∈ vals l := List.mem_map.2 ⟨e, he, rfl⟩
    obtain ⟨h1, h2⟩ := entB_iff (dictB_ent hd e.v hm)
    have h3 := (outB_len h1).2
    have h4 := (ptOk_iff h2).1
    refine ⟨Nat.le_trans h3 (by decide), ?_⟩
    have h5 : e.t.size = e.t.data.toList.length := bs_size' e.t
    have h6 : e.t.data.toList.length ≤ 60 := h4
    omega
  · rw [pdR_no q] at h
    have : l.length = 0 := by rw [← vals_len, h]; rfl
    rw [List.length_eq_zero_iff.1 this] at he
    cases he
theorem fmt_back {d : List EV} (h : dfOk d = true) : pdOk (bs (dfR d)).data.toList = true ∧ pdR (bs (dfR d)).data.toList = d := by
  rw [dfR_yes h, bs_toList]
  exact pd_back h
theorem par_again {t : ByteArray} (h : pdOk t.data.toList = true) : dfOk (pdR t.data.toList) = true ∧ bs (dfR (pdR t.data.toList)) = t := by
  obtain ⟨h1, h2⟩ := pd_again h
  exact ⟨h1, by rw [dfR_yes h1, h2]; exact bs_self t⟩
theorem vals_eight {l l' : List En} (h : vals l = vals l') (h8 : ∀ e ∈ l', e.o.length ≤ 8 ∧ e.t.size ≤ 100) : ∀ e ∈ l, e.o.length ≤ 8 := fun e he => by
  have hm : e.v ∈ vals l := List.mem_map.2 ⟨e, he, rfl⟩
  rw [h] at hm
  obtain ⟨x, hx, e2⟩ := List.mem_map.1 hm
  have h1 : x.o = e.o := congrArg Prod.fst e2
  rw [← h1]
  exact (h8 x hx).1
set_option maxRecDepth 100000 in
set_option maxHeartbeats 8000000 in
theorem lawDictText (A : Option Addr) (n c : Nat) (w : World) (m : Int) (hmax : w.cell? ⟨0, 0, none⟩ = some (.int .i64 m)) (hn : n ≤ maxLen) (hcode : n ≤ 65536 → Code w A n) : Calls Tryz.prog 4 #[.slice A n c] w fun e w' => e = .returned (.bool true) ∧ Below w.heap.size w w' := by
  have hlt : 0 < w.heap.size := World.block_lt_of_cell? w _ hmax
  have HM := Lib.hid (fun wx (h : Below w.heap.size w wx) => (h.cell (p := ⟨0, 0, none⟩) hlt).trans hmax)
  clear hmax
  by_cases hb : 65536 < n
  · have hd : decide (65536 < n) = true := by simpa using hb
    go_enter Tryz.func4, Tryz.ntmps4
    go_wp2_with (go_at_call 10; refine (vBig_any A n c _ hn).mono ?_; rintro e w' ⟨rfl, rfl⟩)
    go_ret
    exact ⟨rfl, Below.refl _ _⟩
  · have hd : decide (65536 < n) = false := by simpa using hb
    have hc := Lib.hid (hcode (by omega))
    clear hcode
    go_enter Tryz.func4, Tryz.ntmps4
    go_wp2_with fail
    refine (vBig_any A n c w hn).mono ?_
    rintro e w' ⟨rfl, rfl⟩
    go_wp2_with fail
    refine (drawFmtDict_any A n c w hc.out).mono ?_
    rintro e w1 ⟨A1, c1, l, rfl, hl41, hbd, own1, b1⟩
    have hbd := Lib.hid hbd
    have bX := (Below.refl w1.heap.size w1).alloc (Nat.le_refl _) (.cells #[.slice A1 l.length c1] 24)
    have oD := ownC_new 24 w1 #[.slice A1 l.length c1]
    have hr := (DRow.of_own rfl own1).below bX
    have b2 := b1.trans (bX.mono b1.size)
    have s2 : (w1.alloc (.cells #[.slice A1 l.length c1] 24)).heap.size = w1.heap.size + 1 := by simp
    have hI := Lib.hid (fun W (hW : Below w.heap.size w W) (hs : w1.heap.size ≤ W.heap.size) (hr : DRow W w1.heap.size A1 l) => implFmtDict_any A1 l.length c1 l W m (HM.out W hW) rfl (by omega) (fun e he => by have := hbd.out e he; omega) w1.heap.size hs hr)
    have hS := Lib.hid (fun W (hs : w1.heap.size ≤ W.heap.size) (hr : DRow W w1.heap.size A1 l) => specFmtDict_any A1 l.length c1 l W rfl (by omega) (fun e he => by have := hbd.out e he; omega) w1.heap.size hs hr)
    have hback := Lib.hid (@fmt_back (vals l))
    generalize bs (dfR (vals l)) = F at hI hS hback
    generalize dfOk (vals l) = ok at hI hS hback
    have hFF := seq_same F
    have hkk : (ok == ok) = true := by cases ok <;> rfl
    clear own1 b1 bX
    go_wp2_with fail
    refine (hI.out _ b2 (by omega) hr).mono ?_
    rintro e w3 ⟨rfl, hb3⟩
    generalize w1.alloc (.cells #[.slice A1 l.length c1] 24) = x2 at *
    have hr := hr.below_le hb3 (by omega)
    have oD := oD.below hb3 (Nat.le_refl _)
    have b3 := b2.trans (hb3.mono b2.size)
    have s3 := hb3.size
    have cD := oD.cell (j := 0) rfl
    clear hb3 b2 hI
    go_wp2_with fail
    refine (hS.out _ (by omega) hr).mono ?_
    rintro e w4 ⟨rfl, hb4⟩
    have hr := hr.below_le hb4 (by omega)
    have oD := oD.below hb4 (Nat.le_refl _)
    have b4 := b3.trans (hb4.mono b3.size)
    have s4 := hb4.size
    clear hb4 b3 cD hS
    have hc4 := hc.out.below b4
    go_wp2_with fail
    refine (drawParseDict_any A n c w4 hc4).mono ?_
    rintro e w5 ⟨t, rfl, hb5⟩
    have hr := hr.below_le hb5 (by omega)
    have oD := oD.below hb5 (Nat.le_refl _)
    have b5 := b4.trans (hb5.mono b4.size)
    have s5 := hb5.size
    clear hb5 b4 hc4
    have hIt := Lib.hid (fun W (hW : Below w.heap.size w W) => implParseDict_any t W m (HM.out W hW))
    have hSt := Lib.hid (fun W => specParseDict_any t W)
    have hag := Lib.hid (@par_again t)
    have hsm := Lib.hid (fun (l : List En) (h : vals l = pdR t.data.toList) => pd_small h)
    have hRn := pdR_len t.data.toList
    generalize pdR t.data.toList = R at hIt hSt hag hsm hRn
    generalize pdOk t.data.toList = fine at hIt hSt hag
    have hff : (fine == fine) = true := by cases fine <;> rfl
    have htt := seq_same t
    go_wp2_with fail
    refine (hIt.out w5 b5).mono ?_
    rintro e w6 ⟨A6, c6, l6, rfl, hv6, ho6, hb6⟩
    have hl6 := vals_lenR hv6
    have hr := hr.below_le hb6 (by omega)
    have oD := oD.below hb6 (Nat.le_refl _)
    have b6 := b5.trans (hb6.mono b5.size)
    have s6 := hb6.size
    have bY := (Below.refl w6.heap.size w6).alloc (Nat.le_refl _) (.cells #[.slice A6 R.length c6] 24)
    have oB := ownC_new 24 w6 #[.slice A6 R.length c6]
    have G6 := (DRow.of_own hl6 ho6).below bY
    have hr := hr.below_le bY (by omega)
    have oD := oD.alloc (.cells #[.slice A6 R.length c6] 24)
    have b7 := b6.trans (bY.mono b6.size)
    have s7 : (w6.alloc (.cells #[.slice A6 R.length c6] 24)).heap.size = w6.heap.size + 1 := by simp
    have hv6 := Lib.hid hv6
    clear hb6 b5 b6 bY ho6 hIt
    go_wp2_with fail
    refine (hSt.out _).mono ?_
    rintro e w8 ⟨A8, c8, l8, rfl, hv8, ho8, hb8⟩
    generalize w6.alloc (.cells #[.slice A6 R.length c6] 24) = x7 at *
    have hl8 := vals_lenR hv8
    have G6 := G6.below_le hb8 (by omega)
    have hr := hr.below_le hb8 (by omega)
    have oD := oD.below hb8 (Nat.le_refl _)
    have oB := oB.below hb8 (Nat.le_refl _)
    have b8 := b7.trans (hb8.mono b7.size)
    have s8 := hb8.size
    have bZ := (Below.refl w8.heap.size w8).alloc (Nat.le_refl _) (.cells #[.slice A8 R.length c8] 24)
    have oC := ownC_new 24 w8 #[.slice A8 R.length c8]
    have G8 := (DRow.of_own hl8 ho8).below bZ
    have G6 := G6.below_le bZ (by omega)
    have hr := hr.below_le bZ (by omega)
    have oD := oD.alloc (.cells #[.slice A8 R.length c8] 24)
    have oB := oB.alloc (.cells #[.slice A8 R.length c8] 24)
    have b9 := b8.trans (bZ.mono b8.size)
    have s9 : (w8.alloc (.cells #[.slice A8 R.length c8] 24)).heap.size = w8.heap.size + 1 := by simp
    have hE := Lib.hid (vDict_same A6 A8 R.length c6 c8 l6 l8 (w8.alloc (.cells #[.slice A8 R.length c8] 24)) hl6 (hv6.out.trans hv8.symm) (by omega) (fun e he => (hsm.out l6 hv6.out e he).1) w8.heap.size (by omega) (G6.mono (by omega)) G8)
    have cB := oB.cell (j := 0) rfl
    have cC := oC.cell (j := 0) rfl
    clear hv8 hb8 b7 b8 bZ ho8 hSt G8
    go_wp2_with fail
    refine hE.out.mono ?_
    rintro e w10 ⟨rfl, hb10⟩
    generalize w8.alloc (.cells #[.slice A8 R.length c8] 24) = x9 at *
    clear cB cC oC hE
    have G6 := G6.below_le hb10 (by omega)
    have hr := hr.below_le hb10 (by omega)
    have oD := oD.below hb10 (Nat.le_refl _)
    have oB := oB.below hb10 (Nat.le_refl _)
    have b10 := b9.trans (hb10.mono b9.size)
    have s10 := hb10.size
    clear hb10 b9
    have hP := Lib.hid (fun W (hW : Below w.heap.size w W) => implParseDict_any F W m (HM.out W hW))
    have hFb := Lib.hid (fun W (hW : Below w.heap.size w W) (hs : w6.heap.size ≤ W.heap.size) (hr : DRow W w6.heap.size A6 l6) => implFmtDict_any A6 R.length c6 l6 W m (HM.out W hW) hl6 (by omega) (hsm.out l6 hv6.out) w6.heap.size hs hr)
    have hv6' := hv6.out
    rw [hv6'] at hFb
    clear hv6' hsm
    have hpn := pdR_len F.data.toList
    have hp6 := Lib.hid (pdR_six F.data.toList)
    rcases Bool.eq_false_or_eq_true ok with hok | hok
    · subst hok
      obtain ⟨q1, q2⟩ := hback.out rfl
      rw [q1, q2] at hP
      clear q1 q2 hback hpn hp6
      rw [vals_len] at hP
      go_wp2_with fail
      refine (hP.out w10 b10).mono ?_
      rintro e w11 ⟨A11, c11, l11, rfl, hv11, ho11, hb11⟩
      clear hP
      have G6 := G6.below_le hb11 (by omega)
      have hr := hr.below_le hb11 (by omega)
      have oD := oD.below hb11 (Nat.le_refl _)
      have oB := oB.below hb11 (Nat.le_refl _)
      have b11 := b10.trans (hb11.mono b10.size)
      have s11 := hb11.size
      have hl11 := vals_lenR hv11
      rw [vals_len] at hl11
      have bU := (Below.refl w11.heap.size w11).alloc (Nat.le_refl _) (.cells #[.slice A11 l.length c11] 24)
      have oK := ownC_new 24 w11 #[.slice A11 l.length c11]
      have GK := (DRow.of_own hl11 ho11).below bU
      have G6 := G6.below_le bU (by omega)
      have hr := hr.below_le bU (by omega)
      have oD := oD.alloc (.cells #[.slice A11 l.length c11] 24)
      have oB := oB.alloc (.cells #[.slice A11 l.length c11] 24)
      have b12 := b11.trans (bU.mono b11.size)
      have s12 : (w11.alloc (.cells #[.slice A11 l.length c11] 24)).heap.size = w11.heap.size + 1 := by simp
      have cB := oB.cell (j := 0) rfl
      clear hb11 b10 b11 bU ho11
      rcases Bool.eq_false_or_eq_true fine with hfi | hfi
      · subst hfi
        obtain ⟨q1, q2⟩ := hag.out rfl
        rw [q1, q2] at hFb
        clear q1 q2 hag
        go_wp2_with fail
        refine (hFb.out _ b12 (by omega) G6).mono ?_
        rintro e w13 ⟨rfl, hb13⟩
        generalize w11.alloc (.cells #[.slice A11 l.length c11] 24) = x12 at *
        have b13 := b12.trans (hb13.mono b12.size)
        have s13 := hb13.size
        have hr := hr.below_le hb13 (by omega)
        have GK := GK.below_le hb13 (by omega)
        have cD := (oD.below hb13 (Nat.le_refl _)).cell (j := 0) rfl
        have cK := (oK.below hb13 (Nat.le_refl _)).cell (j := 0) rfl
        have hE := Lib.hid (vDict_same A11 A1 l.length c11 c1 l11 l w13 hl11 hv11 (by omega) (fun e he => by have := vals_eight hv11 hbd.out e he; omega) w11.heap.size (by omega) GK (hr.mono (by omega)))
        clear cB hv11 hFb
        go_wp2_with fail
        refine hE.out.mono ?_
        rintro e w14 ⟨rfl, hb14⟩
        have b14 := b13.trans (hb14.mono b13.size)
        go_wp2
        go_ret
        exact ⟨rfl, b14⟩
      · subst hfi
        clear hag
        generalize bs (dfR R) = ag at hFb
        generalize dfOk R = agk at hFb
        go_wp2_with fail
        refine (hFb.out _ b12 (by omega) G6).mono ?_
        rintro e w13 ⟨rfl, hb13⟩
        generalize w11.alloc (.cells #[.slice A11 l.length c11] 24) = x12 at *
        have b13 := b12.trans (hb13.mono b12.size)
        have s13 := hb13.size
        have hr := hr.below_le hb13 (by omega)
        have GK := GK.below_le hb13 (by omega)
        have cD := (oD.below hb13 (Nat.le_refl _)).cell (j := 0) rfl
        have cK := (oK.below hb13 (Nat.le_refl _)).cell (j := 0) rfl
        have hE := Lib.hid (vDict_same A11 A1 l.length c11 c1 l11 l w13 hl11 hv11 (by omega) (fun e he => by have := vals_eight hv11 hbd.out e he; omega) w11.heap.size (by omega) GK (hr.mono (by omega)))
        clear cB hv11 hFb
        go_wp2_with fail
        refine hE.out.mono ?_
        rintro e w14 ⟨rfl, hb14⟩
        have b14 := b13.trans (hb14.mono b13.size)
        go_wp2
        go_ret
        exact ⟨rfl, b14⟩
    · subst hok
      clear hback
      generalize pdR F.data.toList = RF at hP hpn hp6
      generalize pdOk F.data.toList = okF at hP
      go_wp2_with fail
      refine (hP.out w10 b10).mono ?_
      rintro e w11 ⟨A11, c11, l11, rfl, hv11, ho11, hb11⟩
      clear hP
      have G6 := G6.below_le hb11 (by omega)
      have hr := hr.below_le hb11 (by omega)
      have oD := oD.below hb11 (Nat.le_refl _)
      have oB := oB.below hb11 (Nat.le_refl _)
      have b11 := b10.trans (hb11.mono b10.size)
      have s11 := hb11.size
      have hl11 := vals_lenR hv11
      have bU := (Below.refl w11.heap.size w11).alloc (Nat.le_refl _) (.cells #[.slice A11 RF.length c11] 24)
      have oK := ownC_new 24 w11 #[.slice A11 RF.length c11]
      have GK := (DRow.of_own hl11 ho11).below bU
      have G6 := G6.below_le bU (by omega)
      have hr := hr.below_le bU (by omega)
      have oD := oD.alloc (.cells #[.slice A11 RF.length c11] 24)
      have oB := oB.alloc (.cells #[.slice A11 RF.length c11] 24)
      have b12 := b11.trans (bU.mono b11.size)
      have s12 : (w11.alloc (.cells #[.slice A11 RF.length c11] 24)).heap.size = w11.heap.size + 1 := by simp
      have cB := oB.cell (j := 0) rfl
      clear hb11 b10 b11 bU ho11
      rcases Bool.eq_false_or_eq_true fine with hfi | hfi
      · subst hfi
        obtain ⟨q1, q2⟩ := hag.out rfl
        rw [q1, q2] at hFb
        clear q1 q2 hag
        go_wp2_with fail
        refine (hFb.out _ b12 (by omega) G6).mono ?_
        rintro e w13 ⟨rfl, hb13⟩
        generalize w11.alloc (.cells #[.slice A11 RF.length c11] 24) = x12 at *
        have b13 := b12.trans (hb13.mono b12.size)
        clear cB hFb
        go_wp2
        go_ret
        exact ⟨rfl, b13⟩
      · subst hfi
        clear hag
        generalize bs (dfR R) = ag at hFb
        generalize dfOk R = agk at hFb
        go_wp2_with fail
        refine (hFb.out _ b12 (by omega) G6).mono ?_
        rintro e w13 ⟨rfl, hb13⟩
        generalize w11.alloc (.cells #[.slice A11 RF.length c11] 24) = x12 at *
        have b13 := b12.trans (hb13.mono b12.size)
        clear cB hFb
        go_wp2
        go_ret
        exact ⟨rfl, b13⟩
end Go.Proofs.YtnpiljkchjdpfaaGreatDoor
