/- The walks of the laws on strokes: FnStrokes, FnLooseStrokes. No condition. -/
import Derived.Test.YtddmejmcdjkllaaCurStroke
import Derived.Test.YtddmejmcdjkllaaPStroke2
namespace Go.Proofs.Ytddmejmcdjkllaa
open Go.RowKit

theorem strict_fmt {s : Int} (g : goodB s = true) : strictOk (fmtR s) = true ∧ strictVal (fmtR s) = s := by
  obtain ⟨g1, g2⟩ := good_bd g
  have e : fmtR s = fmtL s := by rw [fmtR, if_pos g]
  have hv := loose_fmt (s := s) (by omega) g2
  rw [e]
  have h := strict_yes (t := fmtL s) (by rw [hv]; exact g) (by rw [hv, e]; simp)
  exact ⟨h.1, by rw [h.2, hv]⟩
theorem strict_back {u : List UInt8} (h : strictOk u = true) : goodB (strictVal u) = true ∧ fmtR (strictVal u) = u := by
  have h' := h
  rw [strictOk, Bool.and_eq_true, beq_iff_eq] at h'
  have e : strictVal u = looseVal u := by rw [strictVal, if_pos h]
  rw [e, good_loose]
  exact h'

set_option maxHeartbeats 1000000 in
theorem lawStrokes (A : Option Addr) (n c : Nat) (w : World) (hn : n ≤ maxLen) (hcode : n ≤ 65536 → Code w A n) : Calls Try.prog 10 #[.slice A n c] w fun e w' => e = .returned (.bool true) ∧ Below w.heap.size w w' := by
  by_cases hb : 65536 < n
  · have hd : decide (65536 < n) = true := by simpa using hb
    go_enter Try.func10, Try.ntmps10
    go_wp2_with (go_at_call 25; refine (vBig_any A n c _ hn).mono ?_; rintro e w' ⟨rfl, rfl⟩)
    go_ret
    exact ⟨rfl, Below.refl _ _⟩
  · have hd : decide (65536 < n) = false := by simpa using hb
    have hc := hcode (by omega)
    go_enter Try.func10, Try.ntmps10
    go_wp2_with fail
    refine (vBig_any A n c w hn).mono ?_
    rintro e w' ⟨rfl, rfl⟩
    go_wp2_with fail
    refine (drawFormatStroke_any A n c w hc).mono ?_
    rintro e w1 ⟨s, rfl, s1, s2, hb1⟩
    go_wp2_with fail
    refine (implFormat_any s w1).mono ?_
    rintro e w2 ⟨rfl, hb2⟩
    have b2 := hb1.trans (hb2.mono hb1.size)
    go_wp2_with fail
    refine (specFormat_any s w2).mono ?_
    rintro e w3 ⟨rfl, hb3⟩
    have b3 := b2.trans (hb3.mono b2.size)
    go_wp2_with fail
    refine (drawParseStroke_any A n c w3 (hc.below b3)).mono ?_
    rintro e w4 ⟨u, rfl, hu, hb4⟩
    have b4 := b3.trans (hb4.mono b3.size)
    have hum : u.size ≤ maxLen := by unfold maxLen; omega
    go_wp2_with fail
    refine (implParse_any u w4 hum).mono ?_
    rintro e w5 ⟨rfl, hb5⟩
    have b5 := b4.trans (hb5.mono b4.size)
    go_wp2_with fail
    refine (specParse_any u w5 hum).mono ?_
    rintro e w6 ⟨rfl, hb6⟩
    have b6 := b5.trans (hb6.mono b5.size)
    go_wp2_with fail
    refine (implIsValidStroke_any s w6).mono ?_
    rintro e w' ⟨rfl, rfl⟩
    have hm : (bs (fmtR s)).size ≤ maxLen := by rw [bs_len]; have := fmtR_len s; unfold maxLen; omega
    go_wp2_with fail
    refine (implParse_any _ w6 hm).mono ?_
    rintro e w7 ⟨rfl, hb7⟩
    have b7 := b6.trans (hb7.mono b6.size)
    go_wp2_with fail
    refine (implFormat_any _ w7).mono ?_
    rintro e w8 ⟨rfl, hb8⟩
    have b8 := b7.trans (hb8.mono b7.size)
    clear hb1 hb2 hb3 hb4 hb5 hb6 hb7 hb8 b2 b3 b4 b5 b6 b7 hc
    have q1 : goodB s = true → strictOk (bs (fmtR s)).data.toList = true ∧ (strictVal (bs (fmtR s)).data.toList == s) = true := fun g => by
      rw [bs_toList]; obtain ⟨e1, e2⟩ := strict_fmt g; exact ⟨e1, by rw [e2]; simp⟩
    have q2 : strictOk u.data.toList = true → goodB (strictVal u.data.toList) = true ∧ ((bs (fmtR (strictVal u.data.toList))).toList == u.toList) = true := fun g => by
      obtain ⟨e1, e2⟩ := strict_back g; exact ⟨e1, by rw [bs_beq, e2]; simp⟩
    rcases Bool.eq_false_or_eq_true (goodB s) with g | g
    · obtain ⟨e1, e2⟩ := q1 g
      rcases Bool.eq_false_or_eq_true (strictOk u.data.toList) with k | k
      · obtain ⟨e3, e4⟩ := q2 k
        clear q1 q2
        go_wp2
        go_ret
        exact ⟨rfl, b8⟩
      · clear q1 q2
        go_wp2
        go_ret
        exact ⟨rfl, b8⟩
    · rcases Bool.eq_false_or_eq_true (strictOk u.data.toList) with k | k
      · obtain ⟨e3, e4⟩ := q2 k
        clear q1 q2
        go_wp2
        go_ret
        exact ⟨rfl, b8⟩
      · clear q1 q2
        go_wp2
        go_ret
        exact ⟨rfl, b8⟩

theorem labels_le (t : List UInt8) : labels t ≤ t.length := List.length_filter_le _ _

set_option maxHeartbeats 1000000 in
theorem lawLooseStrokes (A : Option Addr) (n c : Nat) (w : World) (hn : n ≤ maxLen) (hcode : n ≤ 65536 → Code w A n) : Calls Try.prog 9 #[.slice A n c] w fun e w' => e = .returned (.bool true) ∧ Below w.heap.size w w' := by
  by_cases hb : 65536 < n
  · have hd : decide (65536 < n) = true := by simpa using hb
    go_enter Try.func9, Try.ntmps9
    go_wp2_with (go_at_call 25; refine (vBig_any A n c _ hn).mono ?_; rintro e w' ⟨rfl, rfl⟩)
    go_ret
    exact ⟨rfl, Below.refl _ _⟩
  · have hd : decide (65536 < n) = false := by simpa using hb
    have hc := hcode (by omega)
    go_enter Try.func9, Try.ntmps9
    go_wp2_with fail
    refine (vBig_any A n c w hn).mono ?_
    rintro e w' ⟨rfl, rfl⟩
    go_wp2_with fail
    refine (drawParseLoose_any A n c w hc).mono ?_
    rintro e w1 ⟨t, rfl, ht, hb1⟩
    have htm : t.size ≤ maxLen := by unfold maxLen; omega
    go_wp2_with fail
    refine (implLoose_any t w1 htm).mono ?_
    rintro e w2 ⟨rfl, hb2⟩
    have b2 := hb1.trans (hb2.mono hb1.size)
    go_wp2_with fail
    refine (specLoose_any t w2 htm).mono ?_
    rintro e w3 ⟨rfl, hb3⟩
    have b3 := b2.trans (hb3.mono b2.size)
    go_wp2_with fail
    refine (implParse_any t w3 htm).mono ?_
    rintro e w4 ⟨rfl, hb4⟩
    have b4 := b3.trans (hb4.mono b3.size)
    clear hb1 hb2 hb3 hb4 b2 b3 hc
    rcases Bool.eq_false_or_eq_true (looseOk t.data.toList) with o | o
    · have hg := (good_loose t.data.toList).trans o
      have hst : (strictOk t.data.toList = true → (strictVal t.data.toList != looseVal t.data.toList) = false) := fun k => by
        rw [strictVal, if_pos k]; simp
      have hlen := loose_labels o
      have hkr : keysR (looseVal t.data.toList) = keysL (looseVal t.data.toList) := by rw [keysR, if_pos hg]
      have hleq := Lib.hid (show (keysR (looseVal t.data.toList)).length = labels t.data.toList by rw [hkr, hlen])
      clear hlen hkr
      have key : ∀ wx : World, Below w.heap.size w wx → Calls Try.prog 20 #[.int .i64 (looseVal t.data.toList)] wx fun e w' => ∃ A c, e = .returned (.tuple #[.slice A (labels t.data.toList) c, .bool true]) ∧ Below w.heap.size w w' := fun wx hbx =>
        (implKeysOfBig_any _ wx).mono fun _ _ ⟨A, c, he, _, hb⟩ => ⟨A, c, by rw [he, hleq.out, hg], hbx.trans (hb.mono hbx.size)⟩
      have Key := Lib.hid key
      clear key hleq
      rcases Bool.eq_false_or_eq_true (strictOk t.data.toList) with k | k
      all_goals
        first
        | have hs := hst k
        | skip
        clear hst
        go_wp2_with fail
        refine (Key.out _ b4).mono ?_
        rintro e w5 ⟨A5, c5, rfl, hb5⟩
        go_wp2
        go_loop [12, 13] (fun q i => ∃ j : Nat, j ≤ t.size ∧ i = .int .i64 j ∧ q = .int .i64 (labels (t.data.toList.take j))) (fun _ i => t.size - (intOf i).toNat)
        case atStart => exact ⟨0, by omega, rfl, rfl⟩
        case round =>
          obtain ⟨j, hj, rfl, rfl⟩ := hrel
          have hle := labels_le (t.data.toList.take j)
          have hlen : (t.data.toList.take j).length ≤ j := List.length_take_le _ _
          by_cases hlt : j < t.size
          · have hsn := Lib.hid (show labels (t.data.toList.take (j + 1)) = labels (t.data.toList.take j) + if t[j] = 45 then 0 else 1 by rw [take_snoc t j hlt, labels_snoc])
            by_cases h45 : t[j] = 45
            · have e45 : ((t[j].toNat : Int) != 45) = false := by have e : ((t[j].toNat : Int) == 45) = true := byte_eq (n := 45) (by omega) h45
                                                                  rw [bne, e]; rfl
              have H45 := Lib.hid h45
              clear h45
              go_wp2
              go_round
              case rel => exact ⟨j + 1, by omega, by go_num, by rw [hsn.out, if_pos H45.out]; rfl⟩
              case measure => simp [intOf]; omega
            · have e45 : ((t[j].toNat : Int) != 45) = true := by have e : ((t[j].toNat : Int) == 45) = false := byte_ne (n := 45) (by omega) h45
                                                                 rw [bne, e]; rfl
              have H45 := Lib.hid h45
              clear h45
              go_wp2
              go_round
              case rel => exact ⟨j + 1, by omega, by go_num, by rw [hsn.out, if_neg H45.out]; go_num⟩
              case measure => simp [intOf]; omega
          · obtain rfl : j = t.size := by omega
            have hfull : List.take t.size t.data.toList = t.data.toList := List.take_of_length_le (by simp)
            clear hle hlen
            go_wp2_with (go_at_call 34; refine (implIsValidStroke_any _ _).mono ?_; rintro e w' ⟨rfl, rfl⟩)
            go_ret
            exact ⟨rfl, hb5⟩
    · have hv : looseVal t.data.toList = 0 := by simpa [looseOk] using o
      have k : strictOk t.data.toList = false := by rw [strictOk, o]; rfl
      go_wp2
      go_ret
      exact ⟨rfl, b4⟩
end Go.Proofs.Ytddmejmcdjkllaa
