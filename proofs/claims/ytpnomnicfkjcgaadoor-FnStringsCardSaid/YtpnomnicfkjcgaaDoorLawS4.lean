/- The walk of the law FnSplitJoin. Condition: the cell of internal/bytealg.MaxLen is an int. -/
import Derived.Test.YtpnomnicfkjcgaaDoorCurStr
import Derived.Test.YtpnomnicfkjcgaaDoorStrJoin
import Derived.Test.YtpnomnicfkjcgaaDoorStrSplit
namespace Go.Proofs.YtpnomnicfkjcgaaDoor
open Go.RowKit

theorem vBigS_any (A : Option Addr) (n c : Nat) (w : World) (hn : n ≤ maxLen) : Calls Tryd.prog 23 #[.slice A n c] w fun e w' => e = .returned (.bool (decide (65536 < n))) ∧ w = w' := by
  unfold maxLen at hn
  go_enter Tryd.func23, Tryd.ntmps23
  go_wp2
  go_ret
  exact ⟨congrArg (fun x => Ending.returned (.bool x)) (by simp; omega), rfl⟩
theorem splitR_sizes (s sep : ByteArray) (h : splitOk s sep = true) : sizes (splitR s sep) ≤ s.size := by
  obtain ⟨h1, h2⟩ := split_back h
  have hsep : sep.size = 1 := by rw [splitOk, Bool.and_eq_true] at h; simpa using h.2
  obtain ⟨b, rfl⟩ := one_byte hsep
  have hne : splitR s (bs [b]) ≠ [] := by
    intro e
    rw [e, join_bad_nil] at h1
    cases h1
  have hz := join_size b _ hne
  have he : s.size = (Lib.join (lst (splitR s (bs [b]))) [b]).length := by
    have e2 : joinR (splitR s (bs [b])) (bs [b]) = Lib.join (lst (splitR s (bs [b]))) [b] := joinR_yes h1
    rw [← e2]
    conv => lhs; rw [← h2]
    rw [bs_size']
    simp [bs]
  omega
theorem toL_same (a : ByteArray) : (a.toList == a.toList) = true := by simp

set_option maxRecDepth 100000 in
set_option maxHeartbeats 2000000 in
theorem lawSplitJoin (A : Option Addr) (n c : Nat) (w : World) (m : Int) (hmax : w.cell? ⟨0, 0, none⟩ = some (.int .i64 m)) (hn : n ≤ maxLen) (hcode : n ≤ 65536 → Code w A n) : Calls Tryd.prog 8 #[.slice A n c] w fun e w' => e = .returned (.bool true) ∧ Below w.heap.size w w' := by
  have hlt : 0 < w.heap.size := World.block_lt_of_cell? w _ hmax
  have HM := Lib.hid (fun wx (h : Below w.heap.size w wx) => (h.cell (p := ⟨0, 0, none⟩) hlt).trans hmax)
  clear hmax
  by_cases hb : 65536 < n
  · have hd : decide (65536 < n) = true := by simpa using hb
    go_enter Tryd.func8, Tryd.ntmps8
    go_wp2_with (go_at_call 23; refine (vBigS_any A n c _ hn).mono ?_; rintro e w' ⟨rfl, rfl⟩)
    go_ret
    exact ⟨rfl, Below.refl _ _⟩
  · have hd : decide (65536 < n) = false := by simpa using hb
    have hc := hcode (by omega)
    go_enter Tryd.func8, Tryd.ntmps8
    go_wp2_with fail
    refine (vBigS_any A n c w hn).mono ?_
    rintro e w' ⟨rfl, rfl⟩
    go_wp2_with fail
    refine (drawSplit_any A n c w hc).mono ?_
    rintro e w1 ⟨s, sep, rfl, hs, hsep, b1⟩
    go_wp2_with fail
    refine (implSplit_any s sep w1 m (HM.out _ b1) (by unfold maxLen; omega) (by unfold maxLen; omega)).mono ?_
    rintro e w2 ⟨A2, c2, rfl, ho2, hb2⟩
    have b2 := b1.trans (hb2.mono b1.size)
    go_wp2_with fail
    refine (drawJoin_any A n c w2 (hc.below b2)).mono ?_
    rintro e w3 ⟨A3, n3, c3, ss, mk, rfl, hl3, hn3, hz3, hmk, ho3, hb3⟩
    have b3 := b2.trans (hb3.mono b2.size)
    have ho2 := own_below ho2 hb3 (Nat.le_refl _)
    go_wp2_with fail
    refine (implJoin_any A3 n3 c3 _ ss mk w3 hl3 (by omega) (by omega) (by unfold maxLen; omega) ho3).mono ?_
    rintro e w4 ⟨rfl, hb4⟩
    have b4 := b3.trans (hb4.mono b3.size)
    have ho2 := own_below ho2 hb4 (Nat.le_refl _)
    have r3 := (Row.of_own ho3).below hb4
    clear ho3
    go_wp2_with fail
    refine (specJoin_any A3 n3 c3 ss mk w4 hl3 (by omega) (by omega) (by unfold maxLen; omega) _ hb4.size r3).mono ?_
    rintro e w5 ⟨rfl, hb5⟩
    have b5 := b4.trans (hb5.mono b4.size)
    have ho2 := own_below ho2 hb5 (Nat.le_refl _)
    clear r3
    go_wp2_with fail
    refine (drawLess_any A n c w5 (hc.below b5)).mono ?_
    rintro e w6 ⟨a, b, rfl, ha, hbb, hb6⟩
    have b6 := b5.trans (hb6.mono b5.size)
    have ho2 := own_below ho2 hb6 (Nat.le_refl _)
    have hsm := toL_same (bs (joinR ss mk))
    generalize bs (joinR ss mk) = jt at hsm
    generalize joinOk ss mk = jo
    have hlt1 := less_asym a.toList b.toList
    have hI := fun W => implLess_any a b W
    have hI2 := fun W => implLess_any b a W
    have hS := fun W => specLess_any a b W
    generalize Op.bytesLess a.toList b.toList = p at hlt1 hI hS
    generalize Op.bytesLess b.toList a.toList = q at hlt1 hI2
    have hI := Lib.hid hI
    have hI2 := Lib.hid hI2
    have hS := Lib.hid hS
    by_cases h1 : sep.size = 1
    · have hok : splitOk s sep = true := by rw [splitOk, Bool.and_eq_true]; constructor <;> simp <;> omega
      obtain ⟨k1, k2⟩ := split_back hok
      have hz := splitR_sizes s sep hok
      have hlen := splitR_len s sep
      have KJ := Lib.hid (fun W (ho : World.ownsRow W w1.heap.size 9 1 (.slice A2 (splitR s sep).length c2) (splitR s sep).length (strs (splitR s sep))) => implJoin_any A2 (splitR s sep).length c2 _ (splitR s sep) sep W rfl (by omega) (by omega) (by unfold maxLen; omega) ho)
      rw [k1, k2] at KJ
      rw [hok]
      have hss := toL_same s
      clear hok k1 k2 hz
      cases p
      · clear hlt1
        go_wp2_with (first | (go_at_call 29; refine (hI.out _).mono ?_; rintro e w' ⟨rfl, rfl⟩) | (go_at_call 30; refine (hS.out _).mono ?_; rintro e w' ⟨rfl, rfl⟩) | (refine (KJ.out _ ho2).mono ?_; rintro e w7 ⟨rfl, hb7⟩))
        go_ret
        exact ⟨rfl, b6.trans (hb7.mono b6.size)⟩
      · obtain rfl := hlt1 rfl
        clear hlt1
        go_wp2_with (first | (go_at_call 29; refine (hI.out _).mono ?_; rintro e w' ⟨rfl, rfl⟩) | (go_at_call 29; refine (hI2.out _).mono ?_; rintro e w' ⟨rfl, rfl⟩) | (go_at_call 30; refine (hS.out _).mono ?_; rintro e w' ⟨rfl, rfl⟩) | (refine (KJ.out _ ho2).mono ?_; rintro e w7 ⟨rfl, hb7⟩))
        go_ret
        exact ⟨rfl, b6.trans (hb7.mono b6.size)⟩
    · obtain ⟨k1, k2⟩ := split_no (s := s) (sep := sep) (Or.inr h1)
      have k3 : (splitR s sep).length = 0 := by rw [k2]; rfl
      rw [k1, k3]
      clear k1 k2 k3 ho2
      cases p
      · clear hlt1
        go_wp2_with (first | (go_at_call 29; refine (hI.out _).mono ?_; rintro e w' ⟨rfl, rfl⟩) | (go_at_call 30; refine (hS.out _).mono ?_; rintro e w' ⟨rfl, rfl⟩))
        go_ret
        exact ⟨rfl, b6⟩
      · obtain rfl := hlt1 rfl
        clear hlt1
        go_wp2_with (first | (go_at_call 29; refine (hI.out _).mono ?_; rintro e w' ⟨rfl, rfl⟩) | (go_at_call 29; refine (hI2.out _).mono ?_; rintro e w' ⟨rfl, rfl⟩) | (go_at_call 30; refine (hS.out _).mono ?_; rintro e w' ⟨rfl, rfl⟩))
        go_ret
        exact ⟨rfl, b6⟩
end Go.Proofs.YtpnomnicfkjcgaaDoor
