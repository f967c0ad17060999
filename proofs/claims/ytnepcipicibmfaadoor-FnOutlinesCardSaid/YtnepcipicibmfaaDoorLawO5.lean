/- The walk of the law FnOutlines. Condition: the cell of internal/bytealg.MaxLen is an int. -/
import Derived.Test.YtnepcipicibmfaaDoorPFmtO
import Derived.Test.YtnepcipicibmfaaDoorPoW2
import Derived.Test.YtnepcipicibmfaaDoorCurOutl
import Derived.Test.YtnepcipicibmfaaDoorLawO2
import Derived.Test.YtnepcipicibmfaaDoorLawO4
import Derived.Test.YtnepcipicibmfaaDoorVInts
namespace Go.Proofs.YtnepcipicibmfaaDoor
open Go.RowKit

set_option maxHeartbeats 1000000 in
theorem drawParseOutline_any (A : Option Addr) (n c : Nat) (w : World) (h : Code w A n) :
    Calls Tryd.prog 11 #[.slice A n c] w fun e w' => ∃ x, e = .returned (.string x) ∧ x.size ≤ 1000 ∧ Below w.heap.size w w' := by
  have hc := Lib.hid (h.cur c)
  go_enter Tryd.func11, Tryd.ntmps11
  go_wp2_with fail
  refine (outline_any _ w.heap.size 0 hc.out (by omega)).mono ?_
  rintro e w1 ⟨A1, n1, c1, l1, rfl, hl1, hn0, hn3, hgood, ho1, hc1, hg1⟩
  have b1 := below_new hg1
  go_wp2_with fail
  refine (l4Format_any A1 n1 c1 l1 w1 hl1 (by omega) hgood w1.heap.size (Nat.le_refl _) (Row.of_own ho1)).mono ?_
  rintro e w2 ⟨rfl, hb2⟩
  have hlt := hc1.lt
  have hc2 := hc1.below hb2 hlt
  have b2 := b1.trans (hb2.mono b1.size)
  have hnl := notL_len l1
  have hts : (bs (notL l1)).size ≤ 141 := by rw [bs_len]; omega
  generalize bs (notL l1) = t at hts
  go_wp2_with fail
  refine (one_any w2 w.heap.size _ 3 hc2 (by omega) (by omega)).mono ?_
  rintro e w3 ⟨b, rfl, hc3, hg3⟩
  have b3 := b2.grown hg3 b2.size (fun k e => by injection e with e; omega)
  cases b
  · go_wp2_with fail
    refine (one_any w3 w.heap.size _ 12 hc3 (by omega) (by omega)).mono ?_
    rintro e w4 ⟨b, rfl, hc4, hg4⟩
    have b4 := b3.grown hg4 b3.size (fun k e => by injection e with e; omega)
    have hlt4 := hc4.lt
    cases b
    · go_wp2
      go_ret
      exact ⟨_, rfl, by omega, b4⟩
    · go_wp2_with fail
      refine (of_any _ w.heap.size _ _ 5 5 [⟨#[]⟩, ⟨#[47]⟩, ⟨#[83, 47]⟩, ⟨#[83, 47, 83, 47, 83, 47, 83, 47, 83, 47, 83]⟩, ⟨#[83, 47, 83, 47, 83, 47, 83, 47, 83, 47, 83, 47, 83]⟩] _ (hc4.alloc _) (by omega) rfl (by omega) (by omega) (Row.lit w4 _ _) (fun b off e => by injection e with e; injection e with e; omega)).mono ?_
      rintro e w5 ⟨x, rfl, hx, hc5, hg5⟩
      have hx' : x.size ≤ 1000 := by revert x; decide
      go_wp2
      go_ret
      exact ⟨x, rfl, hx', (b4.alloc b4.size _).grown hg5 (by have := b4.size; simp; omega) (fun k e => by injection e with e; omega)⟩
  · go_wp2_with fail
    refine (spoilt_any w3 w.heap.size _ t ⟨#[47, 45, 83, 84, 65]⟩ hc3 (by omega) (by omega) (by decide) (by decide)).mono ?_
    rintro e w4 ⟨o, rfl, ho, hc4, hg4⟩
    have b4 := b3.grown hg4 b3.size (fun k e => by injection e with e; omega)
    go_wp2
    go_ret
    exact ⟨_, rfl, by omega, b4⟩
set_option maxHeartbeats 1000000 in
theorem drawConcat_any (A : Option Addr) (n c : Nat) (w : World) (h : Code w A n) :
    Calls Tryd.prog 13 #[.slice A n c] w (Two w) := by
  have hc := Lib.hid (h.cur c)
  go_enter Tryd.func13, Tryd.ntmps13
  go_wp2_with fail
  refine (anyOutline_any _ w.heap.size 0 hc.out (by omega)).mono ?_
  rintro e w1 ⟨A1, n1, c1, l1, rfl, hl1, hn1, hnc1, ho1, hc1, hg1⟩
  go_wp2_with fail
  refine (anyOutline_any w1 w.heap.size _ hc1 (by omega)).mono ?_
  rintro e w3 ⟨A3, n3, c3, l3, rfl, hl3, hn3, hnc3, ho3, hc3, hg3⟩
  have ho4 := own_kept ho1 hg3 (by simp)
  go_wp2
  go_ret2
  exact ⟨A1, n1, c1, A3, n3, c3, l1, l3, rfl, hl1, hl3, hn1, hn3, hnc1, hnc3, Row.of_own ho4, Row.of_own ho3, below_new (hg1.trans hg3)⟩
theorem tl_same (a : ByteArray) : (a.toList == a.toList) = true := by simp
theorem tl_eq {a b : ByteArray} (h : a.data.toList = b.data.toList) : (a.toList == b.toList) = true := by
  have : a = b := (bs_of h).trans (bs_of rfl).symm
  subst this
  simp

set_option maxRecDepth 100000 in
set_option maxHeartbeats 4000000 in
theorem lawOutlines (A : Option Addr) (n c : Nat) (w : World) (m : Int) (hmax : w.cell? ⟨0, 0, none⟩ = some (.int .i64 m)) (hn : n ≤ maxLen) (hcode : n ≤ 65536 → Code w A n) : Calls Tryd.prog 4 #[.slice A n c] w fun e w' => e = .returned (.bool true) ∧ Below w.heap.size w w' := by
  have hlt : 0 < w.heap.size := World.block_lt_of_cell? w _ hmax
  have HM := Lib.hid (fun wx (h : Below w.heap.size w wx) => (h.cell (p := ⟨0, 0, none⟩) hlt).trans hmax)
  clear hmax
  by_cases hb : 65536 < n
  · have hd : decide (65536 < n) = true := by simpa using hb
    go_enter Tryd.func4, Tryd.ntmps4
    go_wp2_with (go_at_call 10; refine (vBig_any A n c _ hn).mono ?_; rintro e w' ⟨rfl, rfl⟩)
    go_ret
    exact ⟨rfl, Below.refl _ _⟩
  · have hd : decide (65536 < n) = false := by simpa using hb
    have hc := hcode (by omega)
    go_enter Tryd.func4, Tryd.ntmps4
    go_wp2_with fail
    refine (vBig_any A n c w hn).mono ?_
    rintro e w' ⟨rfl, rfl⟩
    go_wp2_with fail
    refine (drawParseOutline_any A n c w hc).mono ?_
    rintro e w1 ⟨s, rfl, hs, b1⟩
    have hol := poR_len s.data.toList
    go_wp2_with fail
    refine (implParseOutline_any s w1 m (HM.out _ b1) (by omega)).mono ?_
    rintro e w2 ⟨Ao, co, rfl, ho2, hb2⟩
    have b2 := b1.trans (hb2.mono b1.size)
    have ro := Row.of_own ho2
    clear ho2
    go_wp2_with fail
    refine (specParseOutline_any s w2 (by omega)).mono ?_
    rintro e w3 ⟨Ap, cp, rfl, ho3, hb3⟩
    have b3 := b2.trans (hb3.mono b2.size)
    have ro := (ro.below hb3).mono hb3.size
    have rp := Row.of_own ho3
    clear ho3
    go_wp2_with fail
    refine (vInts_below Ao Ap _ co cp (poR s.data.toList) w3 rfl (by omega) _ ro rp).mono ?_
    rintro e w4 ⟨rfl, hb4⟩
    have b4 := b3.trans (hb4.mono b3.size)
    have ro := (ro.below hb4).mono hb4.size
    clear rp
    go_wp2_with fail
    refine (drawConcat_any A n c w4 (hc.below b4)).mono ?_
    rintro e w5 ⟨A1, n1, c1, A2, n2, c2, a, b, rfl, hl1, hl2, hn1, hn2, hnc1, hnc2, ra, rb, hb5⟩
    have b5 := b4.trans (hb5.mono b4.size)
    have ro := (ro.below hb5).mono hb5.size
    go_wp2_with fail
    refine (implConcat_any A1 A2 n1 n2 c1 c2 a b w5 hl1 hl2 (by omega) (by omega) _ (Nat.le_refl _) ra rb).mono ?_
    rintro e w6 ⟨A3, c3, rfl, ho6, hb6⟩
    have b6 := b5.trans (hb6.mono b5.size)
    have ro := (ro.below hb6).mono hb6.size
    have ra := (ra.below hb6).mono hb6.size
    have rb := (rb.below hb6).mono hb6.size
    have rc := Row.of_own ho6
    obtain ⟨_, _, hvv, hnc3⟩ := own_slice ho6
    cases hvv
    clear ho6
    go_wp2_with fail
    refine (specConcat_any A1 A2 n1 n2 c1 c2 a b w6 hl1 hl2 (by omega) (by omega) _ (Nat.le_refl _) ra rb).mono ?_
    rintro e w7 ⟨A4, c4, rfl, ho7, hb7⟩
    have b7 := b6.trans (hb7.mono b6.size)
    have ro := (ro.below hb7).mono hb7.size
    have ra := (ra.below hb7).mono hb7.size
    have rb := (rb.below hb7).mono hb7.size
    have rc := (rc.below hb7).mono hb7.size
    have rd := Row.of_own ho7
    clear ho7
    have hcl := catR_len a b
    go_wp2_with fail
    refine (vInts_below A3 A4 _ c3 c4 (catR a b) w7 rfl (by omega) _ rc rd).mono ?_
    rintro e w8 ⟨rfl, hb8⟩
    have b8 := b7.trans (hb8.mono b7.size)
    have ro := (ro.below hb8).mono hb8.size
    have ra := (ra.below hb8).mono hb8.size
    have rb := (rb.below hb8).mono hb8.size
    have rc := (rc.below hb8).mono hb8.size
    clear rd b1 b2 b3 b4 b5 b6 b7 hb2 hb3 hb4 hb5 hb6 hb7 hb8
    cases hcat : catB a b
    case' true =>
      obtain ⟨e1, e2, e3, e4, e5, e6, e7⟩ := cat_all hcat
      rw [e1] at rc hcl hnc3 ⊢
      obtain ⟨d, hdd⟩ : ∃ d, a ++ b = d := ⟨_, rfl⟩
      rw [hdd] at rc hcl hnc3 e4 e5 e6 e7 ⊢
      obtain ⟨L, hL⟩ : ∃ L, d.length = L := ⟨_, rfl⟩
      rw [hL] at hcl hnc3 ⊢
      have F1 := Lib.hid (fun W (h : Row W W.heap.size A1 (ints a)) => implFormatOut_any A1 n1 c1 a W hl1 (by unfold maxLen; omega) _ (Nat.le_refl _) h)
      have F2 := Lib.hid (fun W (h : Row W W.heap.size A2 (ints b)) => implFormatOut_any A2 n2 c2 b W hl2 (by unfold maxLen; omega) _ (Nat.le_refl _) h)
      have F3 := Lib.hid (fun W (h : Row W W.heap.size A3 (ints d)) => implFormatOut_any A3 L c3 d W hL (by unfold maxLen; omega) _ (Nat.le_refl _) h)
      have F4 := Lib.hid (fun W (h : Row W W.heap.size A3 (ints d)) (h' : Row W W.heap.size A1 (ints a)) => implHasPrefix_any A3 A1 L n1 c3 c1 d a W hL hl1 (by unfold maxLen; omega) (by unfold maxLen; omega) hnc3 _ (Nat.le_refl _) h h')
      rw [e2] at F1
      rw [e3] at F2
      rw [e4] at F3
      rw [e5, e6] at F4
      have hz := tl_eq (a := bs (fmtO d)) (b := bs (fmtO a) ++ ⟨#[47]⟩ ++ bs (fmtO b)) (by rw [fmtO_yes e2, fmtO_yes e3, fmtO_yes e4, e7]; simp [bs])
      have hxs : (bs (fmtO a)).size ≤ 282 := by rw [bs_len]; exact fmtO_len a
      have hys : (bs (fmtO b)).size ≤ 282 := by rw [bs_len]; exact fmtO_len b
      clear hdd hL
      generalize bs (fmtO d) = zt at F3 hz
      generalize bs (fmtO a) = xt at F1 hz hxs
      generalize bs (fmtO b) = yt at F2 hz hys
      clear e1 e2 e3 e4 e5 e6 e7
      go_wp2_with fail
      refine (F4.out _ rc ra).mono ?_
      rintro e w9 ⟨rfl, hb9⟩
      have b9 := b8.trans (hb9.mono b8.size)
      have ro := (ro.below hb9).mono hb9.size
      have ra := (ra.below hb9).mono hb9.size
      have rb := (rb.below hb9).mono hb9.size
      have rc := (rc.below hb9).mono hb9.size
      go_wp2_with fail
      refine (F1.out _ ra).mono ?_
      rintro e w10 ⟨rfl, hb10⟩
      have b10 := b9.trans (hb10.mono b9.size)
      have ro := (ro.below hb10).mono hb10.size
      have ra := (ra.below hb10).mono hb10.size
      have rb := (rb.below hb10).mono hb10.size
      have rc := (rc.below hb10).mono hb10.size
      go_wp2_with fail
      refine (F2.out _ rb).mono ?_
      rintro e w11 ⟨rfl, hb11⟩
      have b11 := b10.trans (hb11.mono b10.size)
      have ro := (ro.below hb11).mono hb11.size
      have ra := (ra.below hb11).mono hb11.size
      have rc := (rc.below hb11).mono hb11.size
      go_wp2_with fail
      refine (F3.out _ rc).mono ?_
      rintro e w8 ⟨rfl, hb12⟩
      have b8 := b11.trans (hb12.mono b11.size)
      have ro := (ro.below hb12).mono hb12.size
      have ra := (ra.below hb12).mono hb12.size
      clear F1 F2 F3 F4
    all_goals
      clear hcat rb rc
      have G1 := Lib.hid (fun W (h : Row W W.heap.size A1 (ints a)) => implFormatOut_any A1 n1 c1 a W hl1 (by unfold maxLen; omega) _ (Nat.le_refl _) h)
      have G2 := Lib.hid (fun W (h : Row W W.heap.size A1 (ints a)) => implValidOut_any A1 n1 c1 a W hl1 (by unfold maxLen; omega) _ h)
      have G3 := Lib.hid (fun W (h : Row W W.heap.size Ao (ints (poR s.data.toList))) => implFormatOut_any Ao (poR s.data.toList).length co (poR s.data.toList) W rfl (by unfold maxLen; omega) _ (Nat.le_refl _) h)
      have hts : (bs (fmtO a)).size ≤ 282 := by rw [bs_len]; exact fmtO_len a
      have G4 := Lib.hid (fun W hW => implParseOutline_any (bs (fmtO a)) W m hW (by omega))
      rw [bs_toList] at G4
      have hS : poOk s.data.toList = true → outB (poR s.data.toList) = true ∧ ((bs (fmtO (poR s.data.toList))).toList == s.toList) = true := fun h => by
        obtain ⟨k1, k2⟩ := written_read h
        exact ⟨k1, tl_eq (by rw [bs_toList, fmtO_yes k1, k2])⟩
      have hA : outB a = true → poOk (fmtO a) = true ∧ poR (fmtO a) = a := fun h => by rw [fmtO_yes h]; exact read_written h
      generalize bs (fmtO (poR s.data.toList)) = again at hS G3
      generalize outB (poR s.data.toList) = told at hS G3
      generalize poOk s.data.toList = ok at hS ⊢
      generalize poR s.data.toList = oo at ro hol G3 ⊢
      generalize bs (fmtO a) = tz at G1 G4 hts
      generalize poOk (fmtO a) = k5 at hA G4
      generalize poR (fmtO a) = a5 at hA G4
      cases hoa : outB a
      case' false =>
        rw [hoa] at G1 G2
        clear hA hoa
      case' true =>
        obtain ⟨k1, k2⟩ := hA hoa
        rw [hoa] at G1 G2
        rw [k1, k2, hl1] at G4
        clear hA hoa k1 k2
      all_goals
        cases ok
        case' false => clear hS
        case' true =>
          obtain ⟨rfl, hss⟩ := hS rfl
          clear hS
        all_goals
          go_wp2_with fail
          refine (G1.out _ ra).mono ?_
          rintro e w9 ⟨rfl, hb9⟩
          have b9 := b8.trans (hb9.mono b8.size)
          have ro := (ro.below hb9).mono hb9.size
          have ra := (ra.below hb9).mono hb9.size
          go_wp2_with fail
          refine (G4.out _ (HM.out _ b9)).mono ?_
          rintro e w10 ⟨A5, c5, rfl, ho10, hb10⟩
          have b10 := b9.trans (hb10.mono b9.size)
          have ro := (ro.below hb10).mono hb10.size
          have ra := (ra.below hb10).mono hb10.size
          have r5 := Row.of_own ho10
          clear ho10
          go_wp2_with fail
          refine (G3.out _ ro).mono ?_
          rintro e w11 ⟨rfl, hb11⟩
          have b11 := b10.trans (hb11.mono b10.size)
          have ra := (ra.below hb11).mono hb11.size
          have r5 := (r5.below hb11).mono hb11.size
          go_wp2_with fail
          refine (G2.out _ ra).mono ?_
          rintro e w12 ⟨rfl, hb12⟩
          have b12 := b11.trans (hb12.mono b11.size)
          have ra := (ra.below hb12).mono hb12.size
          have r5 := (r5.below hb12).mono hb12.size
          first
            | (go_wp2
               go_ret
               exact ⟨rfl, b12⟩)
            | (go_wp2_with fail
               refine (vInts_below A5 A1 _ c5 c1 a w12 hl1 (by omega) _ r5 ra).mono ?_
               rintro e w13 ⟨rfl, hb13⟩
               go_wp2
               go_ret
               exact ⟨rfl, b12.trans (hb13.mono b12.size)⟩)
end Go.Proofs.YtnepcipicibmfaaDoor
