/- The walk of the law FnTranslations. Condition: the cell of internal/bytealg.MaxLen is an int. -/
import Derived.Test.YtkgphkpckcfihaaDoorCurAtoms
import Derived.Test.YtkgphkpckcfihaaDoorVAtoms
import Derived.Test.YtkgphkpckcfihaaDoorParT
import Derived.Test.YtkgphkpckcfihaaDoorPlw
namespace Go.Proofs.YtkgphkpckcfihaaDoor
open Go.RowKit

theorem tsw_same (a : ByteArray) : (a.toList == a.toList) = true := by simp
theorem plain_at (l : List At) (k : Nat) (h : k < l.length) (h1 : (att l k).k = 1) : (plainT (l.take k)).length < (plainT l).length ∧ elS (plainT l) (plainT (l.take k)).length = (att l k).t := by
  have e := plainT_succ l k h
  rw [if_pos h1] at e
  have e2 : plainT l = plainT (l.take (k + 1)) ++ plainT (l.drop (k + 1)) := by
    rw [plainT, plainT, plainT, ← List.map_append, ← List.filter_append, List.take_append_drop]
  rw [e] at e2
  have hlen : (plainT (l.take k)).length < (plainT l).length := by rw [e2]; simp
  refine ⟨hlen, ?_⟩
  rw [elS_at _ _ hlen]
  have : (plainT l)[(plainT (l.take k)).length]? = some (att l k).t := by rw [e2]; simp
  rw [List.getElem?_eq_getElem hlen] at this
  exact Option.some.inj this
theorem Row.drewN' {w : World} {A : Option Addr} {cs : List Value} (h : Row w w.heap.size A cs) (k : Nat) : Row (w.drewN k) (w.drewN k).heap.size A cs := h
set_option maxRecDepth 100000 in
set_option maxHeartbeats 8000000 in
theorem lawTranslations (A : Option Addr) (n c : Nat) (w : World) (m : Int) (hmax : w.cell? ⟨0, 0, none⟩ = some (.int .i64 m)) (hn : n ≤ maxLen) (hcode : n ≤ 65536 → Code w A n) : Calls Tryd.prog 6 #[.slice A n c] w fun e w' => e = .returned (.bool true) ∧ Below w.heap.size w w' := by
  have hlt : 0 < w.heap.size := World.block_lt_of_cell? w _ hmax
  have HM := Lib.hid (fun wx (h : Below w.heap.size w wx) => (h.cell (p := ⟨0, 0, none⟩) hlt).trans hmax)
  clear hmax
  by_cases hb : 65536 < n
  · have hd : decide (65536 < n) = true := by simpa using hb
    go_enter Tryd.func6, Tryd.ntmps6
    go_wp2_with (go_at_call 10; refine (vBig_any A n c _ hn).mono ?_; rintro e w' ⟨rfl, rfl⟩)
    go_ret
    exact ⟨rfl, Below.refl _ _⟩
  · have hd : decide (65536 < n) = false := by simpa using hb
    have hc := hcode (by omega)
    go_enter Tryd.func6, Tryd.ntmps6
    go_wp2_with fail
    refine (vBig_any A n c w hn).mono ?_
    rintro e w' ⟨rfl, rfl⟩
    go_wp2_with fail
    refine (drawFmtTr_any A n c w hc).mono ?_
    rintro e w1 ⟨Al, nl, cl, l, rfl, hl, hl11, hsz, ho1, b1⟩
    have rl := Row.of_own (hl ▸ ho1 : w1.ownsRow w.heap.size 23 2 (.slice Al l.length cl) l.length (atoms l))
    have hs2 : ∀ a ∈ l, a.t.size ≤ 1048576 := fun a ha => by have := hsz a ha; omega
    have hnm : nl ≤ maxLen := by unfold maxLen; omega
    clear ho1
    have hF := Lib.hid (fun W hr => implFmtTr_any Al nl cl l W hl hnm hs2 W.heap.size (Nat.le_refl _) hr)
    have hFs := Lib.hid (fun W hr => specFmtTr_any Al nl cl l W hl hnm hs2 W.heap.size (Nat.le_refl _) hr)
    have hP := Lib.hid (fun W hr => implPlain_any Al nl cl l W hl hnm hs2 W.heap.size (Nat.le_refl _) hr)
    have hPs := Lib.hid (fun W hr => specPlain_any Al nl cl l W hl hnm hs2 W.heap.size (Nat.le_refl _) hr)
    have hRsz : (bs (trR l)).size ≤ 60 := by
      rw [bs_len]
      rcases Bool.eq_false_or_eq_true (trOk l) with q | q
      · rw [trR_yes q]; exact (trOk_iff q).2.2.2
      · rw [trR_no q]; simp
    have hpl : (plR l).length ≤ 11 := Nat.le_trans (plR_len l) (by omega)
    have hB := Lib.hid (fun W hm => implParTr_any (bs (trR l)) W m hm (by omega))
    rw [bs_toList] at hB
    have way := Lib.hid (show trOk l = true → (∀ a ∈ l, goodT a = true) ∧ plR l = plainT l ∧ ptOk (trR l) = true ∧ ptR (trR l) = l from fun q => by
      rw [trR_yes q]
      exact ⟨(trOk_iff q).2.2.1, plR_yes q, tr_read q⟩)
    have wno := Lib.hid (show trOk l = false → plR l = [] from fun q => plR_no q)
    have hbl := ptR_len (trR l)
    have hs1 := tsw_same (bs (trR l))
    generalize trR l = s at hF hFs hB way hRsz hs1 hbl
    have hs1 := tsw_same (bs s)
    generalize hqe : trOk l = q at hF hFs hP hPs way wno
    have hqq : (q == q) = true := by cases q <;> rfl
    clear hqe
    generalize plR l = pl at hP hPs way wno hpl
    go_wp2_with fail
    refine (hF.out _ rl).mono ?_
    rintro e w2 ⟨rfl, hb2⟩
    have b2 := b1.trans (hb2.mono b1.size)
    have rl := (rl.below hb2).mono hb2.size
    go_wp2_with fail
    refine (hFs.out _ rl).mono ?_
    rintro e w3 ⟨rfl, hb3⟩
    have b3 := b2.trans (hb3.mono b2.size)
    have rl := (rl.below hb3).mono hb3.size
    go_wp2_with fail
    refine (hP.out _ rl).mono ?_
    rintro e w4 ⟨Aw, cw, rfl, ho4, hb4⟩
    have b4 := b3.trans (hb4.mono b3.size)
    have rl := (rl.below hb4).mono hb4.size
    have rw4 := Row.of_own ho4
    clear ho4
    go_wp2_with fail
    refine (hPs.out _ rl).mono ?_
    rintro e w5 ⟨Ax, cx, rfl, ho5, hb5⟩
    have b5 := b4.trans (hb5.mono b4.size)
    have rl := (rl.below hb5).mono hb5.size
    have rw5 := (rw4.below hb5).mono hb5.size
    clear ho5 rw4 hF hFs hP hPs
    cases q
    · obtain rfl := wno.out rfl
      clear way wno rw5
      go_wp2
      go_loopw [12, 13] (fun x i wr => x = .int .i64 0 ∧ i = .int .i64 0 ∧ Row wr wr.heap.size Al (atoms l) ∧ Below w.heap.size w wr) (fun _ _ _ => 0)
      case atStart => exact ⟨rfl, rfl, rl, b5⟩
      case round =>
        obtain ⟨rfl, rfl, rl, hbel⟩ := hrel
        have b5 := hbel
        clear b1 b2 b3 b4
        by_cases hnl : 0 < nl
        · go_wp2_with fail
          refine (drawParseTr_any A n c wr (hc.below hbel)).mono ?_
          rintro e w6 ⟨t, rfl, ht, hb6⟩
          have b6 := hbel.trans (hb6.mono hbel.size)
          have rl := (rl.below hb6).mono hb6.size
          have hI := Lib.hid (fun W hm => implParTr_any t W m hm (by omega))
          have hS := Lib.hid (fun W => specParTr_any t W (by omega))
          have hml := ptR_len t.data.toList
          have hms : ∀ a ∈ ptR t.data.toList, a.t.size ≤ 1048576 := fun a ha => by have := pt_size a ha; omega
          have fin := Lib.hid (show ptOk t.data.toList = true → trOk (ptR t.data.toList) = true ∧ bs (trR (ptR t.data.toList)) = t from fun h => by
            obtain ⟨h1, h2⟩ := tr_written h
            rw [trR_yes h1, h2, bs_self]
            exact ⟨h1, rfl⟩)
          generalize ptR t.data.toList = mm at hI hS hml hms fin
          generalize ptOk t.data.toList = fine at hI hS fin
          have hff : (fine == fine) = true := by cases fine <;> rfl
          have hst := tsw_same t
          go_wp2_with fail
          refine (hI.out _ (HM.out _ b6)).mono ?_
          rintro e w7 ⟨Am, cm, rfl, ho7, hb7⟩
          have b7 := b6.trans (hb7.mono b6.size)
          have rl := (rl.below hb7).mono hb7.size
          have rm := Row.of_own ho7
          clear ho7 hI
          go_wp2_with fail
          refine (hS.out _).mono ?_
          rintro e w8 ⟨An, cn, rfl, ho8, hb8⟩
          have b8 := b7.trans (hb8.mono b7.size)
          have rl := (rl.below hb8).mono hb8.size
          have rm := (rm.below hb8).mono hb8.size
          have rn := Row.of_own ho8
          clear ho8 hS
          go_wp2_with fail
          refine (vAtoms_below Am An _ cm cn mm w8 rfl (by omega) _ rm rn).mono ?_
          rintro e w9 ⟨rfl, hb9⟩
          have b9 := b8.trans (hb9.mono b8.size)
          have rl := (rl.below hb9).mono hb9.size
          have rm := (rm.below hb9).mono hb9.size
          clear rn
          go_wp2_with fail
          refine (hB.out _ (HM.out _ b9)).mono ?_
          rintro e w10 ⟨Ab, cb, rfl, ho10, hb10⟩
          have b10 := b9.trans (hb10.mono b9.size)
          have rl := (rl.below hb10).mono hb10.size
          have rm := (rm.below hb10).mono hb10.size
          have rb := Row.of_own ho10
          clear ho10 hB
          go_wp2_with fail
          refine (implFmtTr_any Am _ cm mm w10 rfl (by unfold maxLen; omega) hms w10.heap.size (Nat.le_refl _) rm).mono ?_
          rintro e w11 ⟨rfl, hb11⟩
          have b11 := b10.trans (hb11.mono b10.size)
          have rl := (rl.below hb11).mono hb11.size
          have rb := (rb.below hb11).mono hb11.size
          clear rm
          generalize trOk mm = formed at fin
          generalize bs (trR mm) = again at fin
          cases fine
          · clear fin
            go_wp2
            go_ret
            exact ⟨rfl, b11⟩
          · obtain ⟨rfl, rfl⟩ := fin.out rfl
            clear fin
            go_wp2
            go_ret
            exact ⟨rfl, b11⟩
        · go_wp2_with fail
          refine (drawParseTr_any A n c wr (hc.below hbel)).mono ?_
          rintro e w6 ⟨t, rfl, ht, hb6⟩
          have b6 := hbel.trans (hb6.mono hbel.size)
          have rl := (rl.below hb6).mono hb6.size
          have hI := Lib.hid (fun W hm => implParTr_any t W m hm (by omega))
          have hS := Lib.hid (fun W => specParTr_any t W (by omega))
          have hml := ptR_len t.data.toList
          have hms : ∀ a ∈ ptR t.data.toList, a.t.size ≤ 1048576 := fun a ha => by have := pt_size a ha; omega
          have fin := Lib.hid (show ptOk t.data.toList = true → trOk (ptR t.data.toList) = true ∧ bs (trR (ptR t.data.toList)) = t from fun h => by
            obtain ⟨h1, h2⟩ := tr_written h
            rw [trR_yes h1, h2, bs_self]
            exact ⟨h1, rfl⟩)
          generalize ptR t.data.toList = mm at hI hS hml hms fin
          generalize ptOk t.data.toList = fine at hI hS fin
          have hff : (fine == fine) = true := by cases fine <;> rfl
          have hst := tsw_same t
          go_wp2_with fail
          refine (hI.out _ (HM.out _ b6)).mono ?_
          rintro e w7 ⟨Am, cm, rfl, ho7, hb7⟩
          have b7 := b6.trans (hb7.mono b6.size)
          have rl := (rl.below hb7).mono hb7.size
          have rm := Row.of_own ho7
          clear ho7 hI
          go_wp2_with fail
          refine (hS.out _).mono ?_
          rintro e w8 ⟨An, cn, rfl, ho8, hb8⟩
          have b8 := b7.trans (hb8.mono b7.size)
          have rl := (rl.below hb8).mono hb8.size
          have rm := (rm.below hb8).mono hb8.size
          have rn := Row.of_own ho8
          clear ho8 hS
          go_wp2_with fail
          refine (vAtoms_below Am An _ cm cn mm w8 rfl (by omega) _ rm rn).mono ?_
          rintro e w9 ⟨rfl, hb9⟩
          have b9 := b8.trans (hb9.mono b8.size)
          have rl := (rl.below hb9).mono hb9.size
          have rm := (rm.below hb9).mono hb9.size
          clear rn
          go_wp2_with fail
          refine (hB.out _ (HM.out _ b9)).mono ?_
          rintro e w10 ⟨Ab, cb, rfl, ho10, hb10⟩
          have b10 := b9.trans (hb10.mono b9.size)
          have rl := (rl.below hb10).mono hb10.size
          have rm := (rm.below hb10).mono hb10.size
          have rb := Row.of_own ho10
          clear ho10 hB
          go_wp2_with fail
          refine (implFmtTr_any Am _ cm mm w10 rfl (by unfold maxLen; omega) hms w10.heap.size (Nat.le_refl _) rm).mono ?_
          rintro e w11 ⟨rfl, hb11⟩
          have b11 := b10.trans (hb11.mono b10.size)
          have rl := (rl.below hb11).mono hb11.size
          have rb := (rb.below hb11).mono hb11.size
          clear rm
          generalize trOk mm = formed at fin
          generalize bs (trR mm) = again at fin
          cases fine
          · clear fin
            go_wp2
            go_ret
            exact ⟨rfl, b11⟩
          · obtain ⟨rfl, rfl⟩ := fin.out rfl
            clear fin
            go_wp2
            go_ret
            exact ⟨rfl, b11⟩
    · obtain ⟨hgood, rfl, hpo, hpr⟩ := way.out rfl
      rw [hpo, hpr] at hB
      rw [hpr] at hbl
      clear way wno hpo hpr
      go_wp2
      go_loopw [12, 13] (fun x i wr => ∃ k : Nat, k ≤ nl ∧ i = .int .i64 k ∧ x = .int .i64 (plainT (l.take k)).length ∧ Row wr wr.heap.size Al (atoms l) ∧ Row wr wr.heap.size Aw (strs (plainT l)) ∧ Below w.heap.size w wr) (fun _ i _ => nl - (intOf i).toNat)
      case atStart => exact ⟨0, by omega, rfl, by simp [plainT], rl, rw5, b5⟩
      case round =>
        obtain ⟨k, hk, rfl, rfl, rl, rws, hbel⟩ := hrel
        clear b1 b2 b3 b4 b5 rw5
        by_cases hlt2 : k < nl
        · obtain ⟨b, off, rfl, hbo, hc1, hc2⟩ := rl.atm (j := k) (by omega)
          have hin := att_in l k (by omega)
          have ht := hs2 _ hin
          have hg := hgood _ hin
          have hG := Lib.hid (implIsValidAtom_any (att l k).k (att l k).t wr (by unfold maxLen; omega))
          rw [show goodA (att l k).k (att l k).t.data.toList = true from hg] at hG
          have hp := Lib.hid (plainT_succ l k (by omega))
          have hat := Lib.hid (plain_at l k (by omega))
          have hpk : (plainT (l.take k)).length ≤ k := Nat.le_trans (plainT_len _) (by rw [List.length_take]; omega)
          have hbw : b < wr.heap.size := hbo
          clear hg
          go_wp2_with fail
          refine hG.out.mono ?_
          rintro e w6 ⟨rfl, hb6⟩
          have d1 := (bcell hb6 b (off + k * 2) hbw).trans hc1
          have d2 := (bcell hb6 b (off + k * 2 + 1) hbw).trans hc2
          have rl6 := (rl.below hb6).mono hb6.size
          have rws6 := (rws.below hb6).mono hb6.size
          have b6 := hbel.trans (hb6.mono hbel.size)
          clear hc1 hc2
          by_cases h1 : (att l k).k = 1
          · have e1 : ((att l k).k == 1) = true := by simpa using h1
            obtain ⟨hw1, hw2⟩ := hat.out h1
            have hp2 := Lib.hid (hp.out.trans (if_pos h1))
            obtain ⟨bw, ow, rfl, hbw2, hcw⟩ := rws6.str hw1
            rw [hw2] at hcw
            have hst := tsw_same (att l k).t
            have hge : decide (((plainT l).length : Int) ≤ ((plainT (l.take k)).length : Int)) = false := by simp; omega
            have h10 : (0 : Int) ≤ ((plainT (l.take k)).length : Int) := by omega
            have h11 : ((plainT (l.take k)).length : Int) < ((plainT l).length : Int) := by omega
            have h12 : (0 : Int) ≤ (k : Int) := by omega
            have h13 : (k : Int) < (nl : Int) := by omega
            clear hp hat h1 hw2
            go_wp2
            go_quiet (fail)
            go_wp2
            go_roundw
            case rel => exact ⟨k + 1, by omega, by go_num, by rw [hp2.out, List.length_append]; go_num, rl6.drewN' _, rws6.drewN' _, below_drewN b6 _⟩
            case measure => simp [intOf]; omega
          · have e1 : ((att l k).k == 1) = false := by simpa using h1
            have hp2 := Lib.hid (hp.out.trans (if_neg h1))
            clear hp hat h1
            go_wp2
            go_roundw
            case rel => exact ⟨k + 1, by omega, by go_num, by rw [hp2.out], rl6, rws6, b6⟩
            case measure => simp [intOf]; omega
        · obtain rfl : k = nl := by omega
          have hall : l.take k = l := List.take_of_length_le (by omega)
          rw [hall]
          go_wp2_with fail
          refine (drawParseTr_any A n c wr (hc.below hbel)).mono ?_
          rintro e w6 ⟨t, rfl, ht, hb6⟩
          have b6 := hbel.trans (hb6.mono hbel.size)
          have rl := (rl.below hb6).mono hb6.size
          have hI := Lib.hid (fun W hm => implParTr_any t W m hm (by omega))
          have hS := Lib.hid (fun W => specParTr_any t W (by omega))
          have hml := ptR_len t.data.toList
          have hms : ∀ a ∈ ptR t.data.toList, a.t.size ≤ 1048576 := fun a ha => by have := pt_size a ha; omega
          have fin := Lib.hid (show ptOk t.data.toList = true → trOk (ptR t.data.toList) = true ∧ bs (trR (ptR t.data.toList)) = t from fun h => by
            obtain ⟨h1, h2⟩ := tr_written h
            rw [trR_yes h1, h2, bs_self]
            exact ⟨h1, rfl⟩)
          generalize ptR t.data.toList = mm at hI hS hml hms fin
          generalize ptOk t.data.toList = fine at hI hS fin
          have hff : (fine == fine) = true := by cases fine <;> rfl
          have hst := tsw_same t
          go_wp2_with fail
          refine (hI.out _ (HM.out _ b6)).mono ?_
          rintro e w7 ⟨Am, cm, rfl, ho7, hb7⟩
          have b7 := b6.trans (hb7.mono b6.size)
          have rl := (rl.below hb7).mono hb7.size
          have rm := Row.of_own ho7
          clear ho7 hI
          go_wp2_with fail
          refine (hS.out _).mono ?_
          rintro e w8 ⟨An, cn, rfl, ho8, hb8⟩
          have b8 := b7.trans (hb8.mono b7.size)
          have rl := (rl.below hb8).mono hb8.size
          have rm := (rm.below hb8).mono hb8.size
          have rn := Row.of_own ho8
          clear ho8 hS
          go_wp2_with fail
          refine (vAtoms_below Am An _ cm cn mm w8 rfl (by omega) _ rm rn).mono ?_
          rintro e w9 ⟨rfl, hb9⟩
          have b9 := b8.trans (hb9.mono b8.size)
          have rl := (rl.below hb9).mono hb9.size
          have rm := (rm.below hb9).mono hb9.size
          clear rn
          go_wp2_with fail
          refine (hB.out _ (HM.out _ b9)).mono ?_
          rintro e w10 ⟨Ab, cb, rfl, ho10, hb10⟩
          have b10 := b9.trans (hb10.mono b9.size)
          have rl := (rl.below hb10).mono hb10.size
          have rm := (rm.below hb10).mono hb10.size
          have rb := Row.of_own ho10
          clear ho10 hB
          go_wp2_with fail
          refine (implFmtTr_any Am _ cm mm w10 rfl (by unfold maxLen; omega) hms w10.heap.size (Nat.le_refl _) rm).mono ?_
          rintro e w11 ⟨rfl, hb11⟩
          have b11 := b10.trans (hb11.mono b10.size)
          have rl := (rl.below hb11).mono hb11.size
          have rb := (rb.below hb11).mono hb11.size
          clear rm
          generalize trOk mm = formed at fin
          generalize bs (trR mm) = again at fin
          cases fine
          · clear fin
            go_wp2_with fail
            refine (vAtoms_below Ab Al _ cb cl l w11 hl (by omega) _ rb rl).mono ?_
            rintro e w12 ⟨rfl, hb12⟩
            go_wp2
            go_ret
            exact ⟨rfl, b11.trans (hb12.mono b11.size)⟩
          · obtain ⟨rfl, rfl⟩ := fin.out rfl
            clear fin
            go_wp2_with fail
            refine (vAtoms_below Ab Al _ cb cl l w11 hl (by omega) _ rb rl).mono ?_
            rintro e w12 ⟨rfl, hb12⟩
            go_wp2
            go_ret
            exact ⟨rfl, b11.trans (hb12.mono b11.size)⟩
end Go.Proofs.YtkgphkpckcfihaaDoor
