/- The reference's draw of a valid dictionary, and a dictionary's text as far as its size. Condition: the cursor has been asked at most 8000 times. -/
import Derived.Test.YtnpiljkchjdpfaaGreatDoorDictU
import Derived.Test.YtnpiljkchjdpfaaGreatDoorGC
namespace Go.Proofs.YtnpiljkchjdpfaaGreatDoor
open Go.RowKit
set_option linter.unusedSimpArgs false

theorem ownAll_grown {w w' : World} {base g : Nat} {rs : List RowD} (h : OwnAll w base rs) (hg : w.grownBy w' (some g)) (hb : g < base) : OwnAll w' base rs :=
  h.chg (Chg.of_grown hg (F := fun k => k = g) (fun k e => (Option.some.inj e).symm)) (fun r hr k hk f => by have h1 := h.ge r hr k hk; have h2 : k = g := f; omega)
theorem grown_below {a b c : World} {row : Option Nat} {B : Nat} (h : a.grownBy b row) (hb : Below B b c) (hB : b.heap.size ≤ B := by exact Nat.le_refl _) : a.grownBy c row :=
  ⟨hb.os.trans h.os, hb.tape.trans h.tape, hb.output.trans h.output, Nat.le_trans h.size hb.size, fun i hi hne => (hb.block i (Nat.lt_of_lt_of_le (Nat.lt_of_lt_of_le hi h.size) hB)).trans (h.block i hi hne)⟩
set_option maxHeartbeats 2000000 in
theorem l6TextP_any (A : Option Addr) (n c : Nat) (l : List En) (w : World) (hn : l.length = n) (hle : n ≤ 40) (hd : ∀ e ∈ l, Pe e) (B : Nat) (hB : B ≤ w.heap.size) (hr : DRow w B A l) :
    Calls Tryz.prog 19 #[.agg #[.slice A n c]] w fun e w' => (∃ o : ByteArray, e = .returned (.string o) ∧ o.size ≤ 400 * n) ∧ Below w.heap.size w w' := by
  have o0 := ownC_new 24 w #[.slice A n c]
  have b0 := (Below.refl w.heap.size w).alloc (Nat.le_refl _) (.cells #[.slice A n c] 24)
  have hent := Lib.hid (fun k (hk : k < l.length) => show outB (enAt l k).o = true ∧ (enAt l k).t.size ≤ 100 from hd _ (enAt_in l k hk))
  clear hd
  go_enter Tryz.func19, Tryz.ntmps19
  go_wp2
  go_loopw [3, 4] (fun x i wr => ∃ k : Nat, ∃ o : ByteArray, k ≤ n ∧ i = .int .i64 k ∧ x = .string o ∧ o.size ≤ 400 * k ∧ Hid (o.data.toList = dictL ((vals l).take k)) ∧ ownC 24 wr w.heap.size w.heap.size [.slice A n c] ∧ Below w.heap.size w wr) (fun _ i _ => n - (intOf i).toNat)
  case atStart => exact ⟨0, _, by omega, rfl, rfl, Nat.le_refl 0, rfl, o0, b0⟩
  case round =>
    obtain ⟨k, o, hk, rfl, rfl, hos, ho, hoD, hbel⟩ := hrel
    have hsz := hbel.size
    have hcd := hoD.cell (j := 0) rfl
    have hwl : w.heap.size < wr.heap.size := hoD.lt.2
    by_cases hlt : k < n
    · obtain ⟨b, off, rfl, hb, hc1, hc2, hro⟩ := (hr.below_le hbel hB).at (j := k) (by omega)
      obtain ⟨hout, ht60⟩ := hent.out k (by omega)
      have hbw : b < wr.heap.size := by omega
      have hol := outB_len hout
      have hst := Lib.hid (dictL_vals l k (by omega))
      have hnl := notL_len (enAt l k).o
      have hnz : (bs (notL (enAt l k).o)).size ≤ 282 := by rw [bs_len]; omega
      have hN := Lib.hid (fun W (hW : Below wr.heap.size wr W) => l4Format_any (enAt l k).A (enAt l k).o.length (enAt l k).c (enAt l k).o W rfl (by omega) (outB_all hout) B (by have := hW.size; omega) (hro.below_le hW (by omega)))
      have hpc := Lib.hid (piece_ok2 o _ (notL (enAt l k).o) (enAt l k).t.data.toList ho.out)
      rw [bs_self] at hpc
      generalize hx : bs (notL (enAt l k).o) = x at hN hpc hnz
      generalize (enAt l k).t = tx at hc2 hst hpc ht60
      have hos2 : o.size ≤ 16000 := by omega
      have y1 : (⟨#[32]⟩ : ByteArray).size = 1 := rfl
      have y2 : (⟨#[10]⟩ : ByteArray).size = 1 := rfl
      have p1 : (o ++ x).size ≤ 16300 := by rw [ByteArray.size_append]; omega
      have p2 : (o ++ x ++ ⟨#[32]⟩).size ≤ 16400 := by rw [ByteArray.size_append]; omega
      have p3 : (o ++ x ++ ⟨#[32]⟩ ++ tx).size ≤ 16500 := by rw [ByteArray.size_append]; omega
      have v0 : ¬ 9223372036854775807 < o.size + x.size := by omega
      have v1 : ¬ 9223372036854775807 < o.size + x.size + 1 := by omega
      have v2 : ¬ 9223372036854775807 < o.size + x.size + 1 + tx.size := by omega
      have v3 : ¬ 9223372036854775807 < o.size + x.size + 1 + tx.size + 1 := by omega
      clear p1 p2 p3 y1 y2
      clear hx hro hout hnl
      go_wp2
      go_region_held3 (fun w' => w'.cell? ⟨w.heap.size, 0, none⟩ = some (.slice (some ⟨b, off, none⟩) n c) ∧ w'.cell? ⟨b, off + k * 2, none⟩ = some (.slice (enAt l k).A (enAt l k).o.length (enAt l k).c) ∧ w'.cell? ⟨b, off + k * 2 + 1, none⟩ = some (.string tx)) (go_keep)
        (first
          | (go_at_call 37; refine (hN.out _ (by first | exact Below.refl _ _ | exact (Below.refl _ _).drew)).mono ?_; rintro e w2 ⟨rfl, hb2⟩; have k1 := (bcell hb2 w.heap.size 0 hwl).trans hcd; have k2 := (bcell hb2 b (off + k * 2) hbw).trans hc1; have k3 := (bcell hb2 b (off + k * 2 + 1) hbw).trans hc2))
      clear k1 k2 k3
      have b2 := hbel.trans (((Below.refl wr.heap.size wr).drew.trans hb2).mono hsz)
      have oD2 := (hoD.drewN 1).below hb2 (Nat.le_refl _)
      have hpl : (o ++ x ++ ⟨#[32]⟩ ++ tx ++ ⟨#[10]⟩).size ≤ 400 * (k + 1) := by simp only [ByteArray.size_append]; have e1 : (⟨#[32]⟩ : ByteArray).size = 1 := rfl; have e2 : (⟨#[10]⟩ : ByteArray).size = 1 := rfl; omega
      go_wp2
      go_roundw
      case rel => exact ⟨k + 1, _, by omega, by go_num, rfl, hpl, by rw [hst.out]; exact hpc.out, oD2, b2⟩
      case measure => simp [intOf]; omega
    · obtain rfl : k = n := by omega
      have hall : (vals l).take k = vals l := List.take_of_length_le (by rw [vals_len]; omega)
      rw [hall] at ho
      clear ho
      go_wp2
      go_ret
      exact ⟨⟨o, rfl, hos⟩, hbel⟩
set_option maxHeartbeats 2000000 in
theorem dictionary_any (w : World) (g m : Nat) (h : Cur w g m) (hm : m ≤ 8000) :
    Calls Tryz.prog 28 #[.pointer (some ⟨g, 0, none⟩)] w fun e w' => ∃ A c l, e = .returned (.agg #[.slice A l.length c]) ∧ 1 ≤ l.length ∧ l.length ≤ 9 ∧ (∀ e ∈ l, Pe e) ∧ OwnAll w' w.heap.size (dRows 42 3 (.slice A l.length c) l) ∧ Cur w' g (m + 600) ∧ w.grownBy w' (some g) := by
  have hlt := h.lt
  obtain ⟨oR, oD, b2⟩ := two_new 24 24 w #[.slice none 0 0] #[.slice none 0 0]
  have hne0 : (some g : Option Nat) ≠ some w.heap.size := fun e => by have := Option.some.inj e; omega
  have hne1 : (some g : Option Nat) ≠ some (w.heap.size + 1) := fun e => by have := Option.some.inj e; omega
  have hcA := (h.alloc (.cells #[.slice none 0 0] 24)).alloc (.cells #[.slice none 0 0] 24)
  have gA := grown_below (World.grownBy_alloc w (.cells #[.slice none 0 0] 24) (some g)) ((Below.refl _ _).alloc (Nat.le_refl _) (.cells #[.slice none 0 0] 24))
  go_enter Tryz.func28, Tryz.ntmps28
  go_wp2_with fail
  refine (pick_any _ g m 7 hcA (by omega) (by omega)).mono ?_
  rintro e w1 ⟨y, rfl, y0, y1, hc1, hg1⟩
  have oR1 := oR.grown hg1 hne0
  have oD1 := oD.grown hg1 hne1
  have g1 := gA.trans hg1
  have hD1l := oD1.lt.2
  have own1 : OwnAll w1 (w.heap.size + 2) (dRows 42 3 (.slice none 0 0) []) := dOwn_nil ⟨rfl, Or.inl ⟨rfl, rfl⟩⟩
  clear oR oD b2 hcA gA
  go_wp2
  go_loopw [4] (fun i wr => ∃ j k : Nat, ∃ A c l, i = .int .i64 j ∧ j + k ≤ 9 ∧ l.length ≤ k ∧ (1 ≤ k ∨ j = 0 → 1 ≤ l.length) ∧ (∀ e ∈ l, Pe e) ∧ OwnAll wr (w.heap.size + 2) (dRows 42 3 (.slice A l.length c) l) ∧ ownC 24 wr w.heap.size w.heap.size [.slice none 0 0] ∧ ownC 24 wr w.heap.size (w.heap.size + 1) [.slice A l.length c] ∧ Cur wr g (m + 2 + 62 * k) ∧ w.grownBy wr (some g)) (fun i _ => (intOf i).toNat)
  case atStart => exact ⟨(3 + y).toNat, 0, none, 0, [], by go_num, by omega, by simp, fun h => by omega, by simp, own1, oR1, oD1, hc1, g1⟩
  case round =>
    clear own1 oR1 oD1 hc1 g1
    obtain ⟨j, k, A, c, l, rfl, hjk, hlk, hl1, hPl, own, hR, hD, hcr, hgr⟩ := hrel
    have hDl := hD.lt.2
    have own_two := Lib.hid hgr.size
    have cD := hD.cell (j := 0) rfl
    have hEn := Lib.hid (fun W (hW : Cur W g (m + 2 + 62 * k)) => entry_any W g _ hW (by omega))
    by_cases hlt2 : 0 < j
    · go_wp2
      refine wp_region_held_drew (S := (fun _ => True)) (by kernel_rfl) ?_ (fun hHeld => ?_)
      · trivial
      refine wpAnyH_take (i := 1) (oi := _) (v := ?vr1) rfl (by kernel_rfl) (by kernel_rfl) (by kernel_rfl) (fun _ _ _ h => h) (Or.inl ⟨by rfl, ?hyr1⟩) (by assumption) ?_
      case hyr1 => (intro w' hSw; (try dsimp only at hSw); go_simp; try (with_reducible rfl))
      change wpAnyH _ _ _ _ _ _ _ (Act.put _ (some 14) _) _
      simp only [Act.put, List.setIfInBounds_toArray, List.set_cons_zero, List.set_cons_succ]
      refine wpAnyH_ready (rs := [0, 2]) (by kernel_rfl) (by simp) ?_
      refine AllReadyH.cons rfl (fun K hK => ?_) (AllReadyH.cons rfl (fun K hK => ?_) AllReadyH.nil)
      · go_simp
        refine hK.out _ _ ?_ (fun hHeld => ?_)
        · trivial
        clear hK K
        try simp only [Act.put, List.setIfInBounds_toArray, List.set_cons_zero, List.set_cons_succ]
        refine wpAnyH_ready (rs := [2]) (by kernel_rfl) (by simp) ?_
        refine AllReadyH.cons rfl (fun K hK => ?_) AllReadyH.nil
        go_simp
        go_at_call 52
        refine (hEn.out _ (by first | exact hcr | exact hcr.drewN 1)).mono ?_
        rintro e w2 ⟨A2, n2, c2, o2, t2, rfl, ho2l, hpe, ho2, hc2, hg2⟩
        have own2 := ownAll_grown (own.drew 1) hg2 (by omega)
        have hD2 := (hD.drewN 1).grown hg2 hne1
        have hR2 := (hR.drewN 1).grown hg2 hne0
        have cD2 := hD2.cell (j := 0) rfl
        have g2 := hgr.trans ((only_drewN' wr 1).trans hg2)
        have hP := Lib.hid (l6Put_any A l.length c l A2 n2 c2 o2 t2 w2 rfl (by omega) hPl ho2l hpe w2.heap.size (Nat.le_refl _) (DRow.of_own rfl own2) (Row.of_own ho2))
        refine hK.out _ _ ?_ (fun hHeld => ?_)
        · trivial
        clear hK K
        try simp only [Act.put, List.setIfInBounds_toArray, List.set_cons_zero, List.set_cons_succ]
        refine wpAnyH_ready (rs := [3]) (by kernel_rfl) (by simp) ?_
        refine AllReadyH.cons rfl (fun K hK => ?_) AllReadyH.nil
        go_simp
        go_at_call 51
        refine hP.out.mono ?_
        rintro e w3 ⟨A3, c3, l3, rfl, hl3, hl3', hP3, own3, hb3⟩
        have hD3 := hD2.below hb3 (Nat.le_refl _)
        have hR3 := hR2.below hb3 (Nat.le_refl _)
        have fD3 := hD3.frozen 0
        have cD3 := hD3.cell (j := 0) rfl
        have hs3 := hb3.size
        have hs2 := hg2.size
        refine hK.out _ _ ?_ (fun hHeld => ?_)
        · trivial
        clear hK K
        try simp only [Act.put, List.setIfInBounds_toArray, List.set_cons_zero, List.set_cons_succ]
        refine wpAnyH_ready (rs := [4]) (by kernel_rfl) (by simp) ?_
        refine AllReadyH.cons rfl (fun K hK => ?_) AllReadyH.nil
        go_simp
        refine hK.out _ _ ?_ (fun hHeld => ?_)
        · trivial
        clear hK K
        try simp only [Act.put, List.setIfInBounds_toArray, List.set_cons_zero, List.set_cons_succ]
        refine wpAnyH_done (by kernel_rfl) ?_ _
        obtain ⟨hD4, g4⟩ := hD3.set 0 (.slice A3 l3.length c3)
        have hs0 := hgr.size
        have own4 := (own3.chg (Chg.of_grown g4 (F := fun g => g = w.heap.size + 1) (fun g e => (Option.some.inj e).symm)) (fun r hr g hg f => by have h1 := own3.ge r hr g hg; have h2 : g = w.heap.size + 1 := f; have h3 := hD2.lt.2; omega)).base_le (show w.heap.size + 2 ≤ w2.heap.size by have := own_two.out; have : wr.drew.heap.size = wr.heap.size := rfl; have := hDl; omega)
        have hR4 := hR3.grown g4 (by simp)
        have hc4 := (hc2.below hb3 hc2.lt).grown g4 (fun q e => by have := Option.some.inj e; omega)
        have gr4 := grown_own (grown_below g2 hb3) hD3 g4
        go_wp2
        go_roundw
        case rel => exact ⟨j - 1, k + 1, A3, c3, l3, by go_num, by omega, by omega, fun _ => hl3, hP3, own4, hR4, hD4, hc4.more (by omega), gr4⟩
        case measure => simp [intOf]; omega
      · go_simp
        go_at_call 52
        refine (hEn.out _ (by first | exact hcr | exact hcr.drewN 1)).mono ?_
        rintro e w2 ⟨A2, n2, c2, o2, t2, rfl, ho2l, hpe, ho2, hc2, hg2⟩
        have own2 := ownAll_grown (own.drew 1) hg2 (by omega)
        have hD2 := (hD.drewN 1).grown hg2 hne1
        have hR2 := (hR.drewN 1).grown hg2 hne0
        have cD2 := hD2.cell (j := 0) rfl
        have g2 := hgr.trans ((only_drewN' wr 1).trans hg2)
        have hP := Lib.hid (l6Put_any A l.length c l A2 n2 c2 o2 t2 w2 rfl (by omega) hPl ho2l hpe w2.heap.size (Nat.le_refl _) (DRow.of_own rfl own2) (Row.of_own ho2))
        refine hK.out _ _ ?_ (fun hHeld => ?_)
        · trivial
        clear hK K
        try simp only [Act.put, List.setIfInBounds_toArray, List.set_cons_zero, List.set_cons_succ]
        refine wpAnyH_ready (rs := [0]) (by kernel_rfl) (by simp) ?_
        refine AllReadyH.cons rfl (fun K hK => ?_) AllReadyH.nil
        go_simp
        refine hK.out _ _ ?_ (fun hHeld => ?_)
        · trivial
        clear hK K
        try simp only [Act.put, List.setIfInBounds_toArray, List.set_cons_zero, List.set_cons_succ]
        refine wpAnyH_ready (rs := [3]) (by kernel_rfl) (by simp) ?_
        refine AllReadyH.cons rfl (fun K hK => ?_) AllReadyH.nil
        go_simp
        go_at_call 51
        refine hP.out.mono ?_
        rintro e w3 ⟨A3, c3, l3, rfl, hl3, hl3', hP3, own3, hb3⟩
        have hD3 := hD2.below hb3 (Nat.le_refl _)
        have hR3 := hR2.below hb3 (Nat.le_refl _)
        have fD3 := hD3.frozen 0
        have cD3 := hD3.cell (j := 0) rfl
        have hs3 := hb3.size
        have hs2 := hg2.size
        refine hK.out _ _ ?_ (fun hHeld => ?_)
        · trivial
        clear hK K
        try simp only [Act.put, List.setIfInBounds_toArray, List.set_cons_zero, List.set_cons_succ]
        refine wpAnyH_ready (rs := [4]) (by kernel_rfl) (by simp) ?_
        refine AllReadyH.cons rfl (fun K hK => ?_) AllReadyH.nil
        go_simp
        refine hK.out _ _ ?_ (fun hHeld => ?_)
        · trivial
        clear hK K
        try simp only [Act.put, List.setIfInBounds_toArray, List.set_cons_zero, List.set_cons_succ]
        refine wpAnyH_done (by kernel_rfl) ?_ _
        obtain ⟨hD4, g4⟩ := hD3.set 0 (.slice A3 l3.length c3)
        have hs0 := hgr.size
        have own4 := (own3.chg (Chg.of_grown g4 (F := fun g => g = w.heap.size + 1) (fun g e => (Option.some.inj e).symm)) (fun r hr g hg f => by have h1 := own3.ge r hr g hg; have h2 : g = w.heap.size + 1 := f; have h3 := hD2.lt.2; omega)).base_le (show w.heap.size + 2 ≤ w2.heap.size by have := own_two.out; have : wr.drew.heap.size = wr.heap.size := rfl; have := hDl; omega)
        have hR4 := hR3.grown g4 (by simp)
        have hc4 := (hc2.below hb3 hc2.lt).grown g4 (fun q e => by have := Option.some.inj e; omega)
        have gr4 := grown_own (grown_below g2 hb3) hD3 g4
        go_wp2
        go_roundw
        case rel => exact ⟨j - 1, k + 1, A3, c3, l3, by go_num, by omega, by omega, fun _ => hl3, hP3, own4, hR4, hD4, hc4.more (by omega), gr4⟩
        case measure => simp [intOf]; omega
    · obtain rfl : j = 0 := by omega
      have fR := hR.frozen 0
      have cR := hR.cell (j := 0) rfl
      obtain ⟨oR8, gR⟩ := hR.set 0 (.slice A l.length c)
      have hc8 := hcr.grown gR (fun q e => by have := Option.some.inj e; omega)
      have g8 := grown_own hgr hR gR
      have own8 := (own.chg (Chg.of_grown gR (F := fun g => g = w.heap.size) (fun g e => (Option.some.inj e).symm)) (fun r hr g hg f => by have h1 := own.ge r hr g hg; have h2 : g = w.heap.size := f; omega)).base_le (show w.heap.size ≤ w.heap.size + 2 by omega)
      have E := Lib.hid oR8
      have X := Lib.hid (And.intro own8 (And.intro (hc8.more (show m + 2 + 62 * k ≤ m + 600 by omega)) g8))
      clear hR oR8 gR hc8 g8 own8 hEn
      go_wp2
      exact endC rfl _ _ _ w.heap.size w.heap.size _ rfl rfl E.out Tryz.underlying24 rfl (by kernel_rfl) ⟨A, c, l, rfl, hl1 (by simp), by omega, hPl, X.out.1, X.out.2.1, X.out.2.2⟩
end Go.Proofs.YtnpiljkchjdpfaaGreatDoor
