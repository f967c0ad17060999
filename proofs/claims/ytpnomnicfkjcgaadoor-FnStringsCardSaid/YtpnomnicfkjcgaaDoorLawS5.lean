/- The walk of the law FnStrings. Condition: the library's table and error read as their initialisers lay them; the cell of internal/bytealg.MaxLen is an int. -/
import Derived.Test.YtpnomnicfkjcgaaDoorCurNum
import Derived.Test.YtpnomnicfkjcgaaDoorLawS3
import Derived.Test.YtpnomnicfkjcgaaDoorLawS4
import Derived.Lib.ConvBytes
import Derived.Laws.IdiomStrings
import Derived.Laws.BitsAllLaws
import Derived.StillTailTactics
import Derived.BigRegion
namespace Go.Proofs.YtpnomnicfkjcgaaDoor
open Go.RowKit

/-- A new row of bytes, made of a text. -/
structure BStr (W0 : World) (Y : ByteArray) (W : World) : Prop where
  bel : Below W0.heap.size W0 W
  cells : ∀ j, j < Y.size → W.cell? ⟨W0.heap.size, j, none⟩ = some (.int .u8 (Y.data.toList.getD j 0).toNat)
  free : ∀ j, j < Y.size → W.frozen? ⟨W0.heap.size, j, none⟩ = false
  size : W.heap.size = W0.heap.size + 1
theorem sbConv (W0 : World) (Y : ByteArray) : ∃ cap W, (convert 9 35 (.string Y)).run Tryd.prog W0 = .ok (.slice (some ⟨W0.heap.size, 0, none⟩) Y.size cap) W ∧ BStr W0 Y W := by
  refine ⟨_, _, Go.Lib.run_convert_string_bytes W0 9 35 5 Y Tryd.underlying9 Tryd.underlying35 Tryd.underlying5, below_bytes W0 5 Y, fun j hj => Go.Lib.bytesWorld_cell W0 _ Y j hj, fun j hj => ?_, Go.Lib.bytesWorld_size W0 _ Y⟩
  have h1 := Go.Lib.bytesWorld_at_new W0 5 Y
  have h2 : Y.size ≤ (Go.Lib.bytesCells W0 5 Y).size := by
    show Y.data.size ≤ _
    rw [Go.Lib.bytesCells, Array.size_append, Array.size_map]
    exact Nat.le_add_right _ _
  simp only [World.frozen?, h1]
  simp
  omega
theorem sbBack {W0 W : World} {Y : ByteArray} (h : BStr W0 Y W) (k : Nat) (y : UInt8) (cap N : Nat) :
    (convert 35 9 (.slice (some ⟨W0.heap.size, 0, none⟩) Y.size cap)).run Tryd.prog ((W.drewN N).setCell ⟨W0.heap.size, k, none⟩ (.int .u8 (y.toNat : Int))) = .ok (.string (bs (Y.data.toList.set k y))) ((W.drewN N).setCell ⟨W0.heap.size, k, none⟩ (.int .u8 (y.toNat : Int))) := by
  have hl : (Y.data.toList.set k y).length = Y.size := by rw [List.length_set]; exact (bs_size' Y).symm
  have := run_convert_bytes_back (P := Tryd.prog) ((W.drewN N).setCell ⟨W0.heap.size, k, none⟩ (.int .u8 (y.toNat : Int))) 35 9 5 ⟨W0.heap.size, 0, none⟩ cap (Y.data.toList.set k y) Tryd.underlying35 Tryd.underlying5 Tryd.underlying9 (fun j hj => by
    rw [hl] at hj
    have hc : (W.drewN N).cell? ⟨W0.heap.size, j, none⟩ = some (.int .u8 (Y.data.toList.getD j 0).toNat) := h.cells j hj
    rw [show (⟨W0.heap.size, 0, none⟩ : Addr).add j = ⟨W0.heap.size, j, none⟩ by simp [Addr.add]; omega]
    by_cases e : k = j
    · subst e
      rw [World.cell?_setCell_same (h := hc)]
      simp
    · rw [World.cell?_setCell_other (a := ⟨W0.heap.size, k, none⟩) (b := ⟨W0.heap.size, j, none⟩) (h := fun q => by injection q with q1 q2; exact e q2), hc]
      have hj2 : j < Y.data.toList.length := by rw [← bs_size']; exact hj
      simp [e, List.getD_eq_getElem?_getD, List.getElem?_eq_getElem hj2])
  rw [hl] at this
  exact this
/-- A byte with one of 1 to 255 laid over it is another byte. -/
theorem xor_other (y : UInt8) (q : Int) (h0 : 0 ≤ q) : ∃ y1 : UInt8, y1 ≠ y ∧ bits .xor .u8 (y.toNat : Int) (IntKind.u8.wrap (IntKind.i64.wrap (1 + q.tmod 255))) = (y1.toNat : Int) := by
  obtain ⟨n, rfl⟩ := Int.eq_ofNat_of_zero_le h0
  have e : ((n : Int).tmod 255) = ((n % 255 : Nat) : Int) := by
    rw [Int.tmod_eq_emod_of_nonneg (by omega)]
    omega
  have hlt : n % 255 < 255 := Nat.mod_lt _ (by omega)
  rw [e]
  generalize n % 255 = r at hlt
  have ew : IntKind.u8.wrap (IntKind.i64.wrap (1 + (r : Int))) = ((1 + r : Nat) : Int) := by
    have e1 : IntKind.i64.wrap (1 + (r : Int)) = 1 + (r : Int) := by
      simp [IntKind.wrap, IntKind.signed, IntKind.bits]
      omega
    rw [e1]
    exact (by simp [IntKind.wrap, IntKind.signed, IntKind.bits]; omega)
  have hy : y.toNat < 256 := y.toNat_lt
  rw [ew, u8_xor_nat _ _ hy (by omega)]
  have hx : y.toNat ^^^ (1 + r) < 2 ^ 8 := Nat.xor_lt_two_pow (by omega) (by omega)
  have ht : (UInt8.ofNat (y.toNat ^^^ (1 + r))).toNat = y.toNat ^^^ (1 + r) := ofNat_toNat (by have : (2 : Nat) ^ 8 = 256 := rfl; omega)
  refine ⟨UInt8.ofNat (y.toNat ^^^ (1 + r)), fun h => ?_, by rw [ht]⟩
  have h2 : y.toNat ^^^ (1 + r) = y.toNat := by rw [← ht, h]
  have h3 : (y.toNat ^^^ y.toNat) ^^^ (1 + r) = y.toNat ^^^ y.toNat := by rw [Nat.xor_assoc, h2]
  simp at h3
set_option maxRecDepth 100000 in
set_option maxHeartbeats 4000000 in
theorem lawStrings (A : Option Addr) (n c : Nat) (w : World) (m : Int) (hmax : w.cell? ⟨0, 0, none⟩ = some (.int .i64 m)) (ht : Tab w) (he : Err w) (hn : n ≤ maxLen) (hcode : n ≤ 65536 → Code w A n) : Calls Tryd.prog 9 #[.slice A n c] w fun e w' => e = .returned (.bool true) ∧ Below w.heap.size w w' := by
  have hlt : 0 < w.heap.size := World.block_lt_of_cell? w _ hmax
  have HM := Lib.hid (fun wx (h : Below w.heap.size w wx) => (h.cell (p := ⟨0, 0, none⟩) hlt).trans hmax)
  have HT := Lib.hid ht
  have HE := Lib.hid he
  clear hmax ht he
  by_cases hb : 65536 < n
  · have hd : decide (65536 < n) = true := by simpa using hb
    go_enter Tryd.func9, Tryd.ntmps9
    go_wp2_with (go_at_call 23; refine (vBigS_any A n c _ hn).mono ?_; rintro e w' ⟨rfl, rfl⟩)
    go_ret
    exact ⟨rfl, Below.refl _ _⟩
  · have hd : decide (65536 < n) = false := by simpa using hb
    have hc := hcode (by omega)
    obtain ⟨p9, p0, p1, hv9⟩ := vAt_any A n c 9 w (by omega) hc
    obtain ⟨q9, q0, q1, hv10⟩ := vAt_any A n c 10 w (by omega) hc
    have H9 := Lib.hid (show ∀ W, Below w.heap.size w W → Calls Tryd.prog 34 #[.slice A n c, .int .i64 9] W fun e w' => e = .returned (.int .i64 p9) ∧ W = w' from hv9)
    have H10 := Lib.hid (show ∀ W, Below w.heap.size w W → Calls Tryd.prog 34 #[.slice A n c, .int .i64 10] W fun e w' => e = .returned (.int .i64 q9) ∧ W = w' from hv10)
    clear hv9 hv10
    go_enter Tryd.func9, Tryd.ntmps9
    go_wp2_with fail
    refine (vBigS_any A n c w hn).mono ?_
    rintro e w' ⟨rfl, rfl⟩
    go_wp2_with fail
    refine (drawFormatInt_any A n c w hc).mono ?_
    rintro e w1 ⟨z, rfl, z0, z1, b1⟩
    go_wp2_with fail
    refine (implFormatInt_any z w1 (HT.out.below b1)).mono ?_
    rintro e w2 ⟨rfl, hb2⟩
    have b2 := b1.trans (hb2.mono b1.size)
    go_wp2_with fail
    refine (specFormatInt_any z w2).mono ?_
    rintro e w3 ⟨rfl, hb3⟩
    have b3 := b2.trans (hb3.mono b2.size)
    go_wp2_with fail
    refine (drawParseInt_any A n c w3 (hc.below b3)).mono ?_
    rintro e w4 ⟨t, rfl, ht, hb4⟩
    have b4 := b3.trans (hb4.mono b3.size)
    go_wp2_with fail
    refine (implParseInt_any t w4 (by omega) (HT.out.below b4) (HE.out.below b4)).mono ?_
    rintro e w5 ⟨rfl, hb5⟩
    have b5 := b4.trans (hb5.mono b4.size)
    go_wp2_with fail
    refine (specParseInt_any t w5 (by omega)).mono ?_
    rintro e w6 ⟨rfl, hb6⟩
    have b6 := b5.trans (hb6.mono b5.size)
    go_wp2_with fail
    refine (drawAppend_any A n c w6 (hc.below b6)).mono ?_
    rintro e w7 ⟨x, rfl, hx, hb7⟩
    have b7 := b6.trans (hb7.mono b6.size)
    go_wp2_with fail
    refine (implAppend_any x w7 (by omega) (HT.out.below b7)).mono ?_
    rintro e w8 ⟨rfl, hb8⟩
    have b8 := b7.trans (hb8.mono b7.size)
    go_wp2_with fail
    refine (specAppend_any x w8 (by omega)).mono ?_
    rintro e w9 ⟨rfl, hb9⟩
    have b9 := b8.trans (hb9.mono b8.size)
    clear b1 b2 b3 b4 b5 b6 b7 b8 hb2 hb3 hb4 hb5 hb6 hb7 hb8 hb9
    have hs1 := toL_same (bs (fmtI z))
    have hs2 := toL_same (bs (apR x.data.toList))
    have hfl := fmtI_len z
    have hfs : (bs (fmtI z)).size ≤ 1048576 := by rw [bs_size']; simp only [bs]; simpa using (by omega : (fmtI z).length ≤ 1048576)
    have hcall := implParseInt_any (bs (fmtI z)) w9 hfs (HT.out.below b9) (HE.out.below b9)
    obtain ⟨pv, po, hpv, hpo, hgood⟩ : ∃ pv po, pVal (bs (fmtI z)).data.toList = pv ∧ pOk (bs (fmtI z)).data.toList = po ∧ (inB z (-999999) 999999 = true → pv = z ∧ po = true) := ⟨_, _, rfl, rfl, fun hin => by
      obtain ⟨h0, h1⟩ := in_bd hin
      have := parse_val (parse_of h0 h1)
      rw [show (bs (fmtI z)).data.toList = Lib.itoa z from by simp [bs, fmtI_in hin]]
      exact this⟩
    rw [hpv, hpo] at hcall
    have HC := Lib.hid hcall
    clear hcall hpv hpo hfl
    generalize bs (fmtI z) = ft at hs1 HC
    generalize pVal t.data.toList = tv
    generalize pOk t.data.toList = tk
    cases hin : inB z (-999999) 999999
    case' false => clear hgood
    case' true => obtain ⟨rfl, rfl⟩ := hgood hin
    all_goals
      go_wp2_with fail
      refine HC.out.mono ?_
      rintro e w10 ⟨rfl, hb10⟩
      have b10 := b9.trans (hb10.mono b9.size)
      cases hap : apOk x.data.toList
      · have he : bs (apR x.data.toList) = ⟨#[]⟩ := by rw [ap_no hap]; rfl
        rw [he]
        go_wp2
        go_ret
        exact ⟨rfl, b10⟩
      · obtain ⟨k1, k2⟩ := seal_open hap
        rw [ap_yes hap] at *
        have hlen : (bs (sealL x.data.toList)).size ≤ 4000 := by
          have := apR_len x.data.toList
          rw [ap_yes hap] at this
          rw [bs_size']; simpa [bs] using this
        have hpos : 1 ≤ (bs (sealL x.data.toList)).size := by
          rw [bs_size']; simp [bs, sealL]; omega
        have KV := implVerify_any (bs (sealL x.data.toList)) w10 m (HM.out _ b10) (by omega) (HT.out.below b10)
        rw [show (bs (sealL x.data.toList)).data.toList = sealL x.data.toList from by simp [bs], k1, k2, show bs x.data.toList = x from bs_of rfl] at KV
        have hbad := Lib.hid (fun k y (hk : k < (sealL x.data.toList).length) (hy : y ≠ (sealL x.data.toList)[k]) => seal_bad hap hk hy)
        have hY : (bs (sealL x.data.toList)).data.toList = sealL x.data.toList := by simp [bs]
        have HY := Lib.hid hY
        clear hY k1 k2
        generalize bs (sealL x.data.toList) = Y at hs2 hlen hpos KV HY
        have KV := Lib.hid KV
        go_wp2_with fail
        refine KV.out.mono ?_
        rintro e w11 ⟨rfl, hb11⟩
        have b11 := b10.trans (hb11.mono b10.size)
        obtain ⟨cap, W, hcv, B⟩ := sbConv w11 Y
        obtain ⟨k, hk, hke⟩ : ∃ k : Nat, k < Y.size ∧ p9 % (Y.size : Int) = (k : Int) := ⟨(p9 % (Y.size : Int)).toNat, by have := Int.emod_lt_of_pos p9 (show (0 : Int) < Y.size by omega); have := Int.emod_nonneg p9 (show (Y.size : Int) ≠ 0 by omega); omega, by have := Int.emod_nonneg p9 (show (Y.size : Int) ≠ 0 by omega); omega⟩
        have bW := b11.trans (B.bel.mono b11.size)
        have hck := B.cells k hk
        have hfr := B.free k hk
        obtain ⟨y0, hy0⟩ : ∃ y0, Y.data.toList.getD k 0 = y0 := ⟨_, rfl⟩
        rw [hy0] at hck
        obtain ⟨y1, hne, hxor⟩ := xor_other y0 q9 q0
        have hkl : k < (sealL x.data.toList).length := by rw [← HY.out, ← bs_size']; exact hk
        have hbd : veOk ((Y.data.toList).set k y1) = false := by
          rw [HY.out] at hy0 ⊢
          refine hbad.out k y1 hkl ?_
          rw [List.getD_eq_getElem?_getD, List.getElem?_eq_getElem hkl] at hy0
          intro e
          exact hne (e.trans hy0)
        have hback := sbBack B k y1 cap
        have K9 := Lib.hid (H9.out W bW)
        have K10 := Lib.hid (fun N => H10.out (W.drewN N) (below_drewN bW N))
        have KB := Lib.hid (fun N => implVerify_any (bs (Y.data.toList.set k y1)) ((W.drewN N).setCell ⟨w11.heap.size, k, none⟩ (.int .u8 (y1.toNat : Int))) m
          (HM.out _ ((below_drewN bW N).setCell (by exact b11.size) _)) (by rw [bs_size']; simp only [bs_toList, List.length_set]; rw [← bs_size']; omega) (HT.out.below ((below_drewN bW N).setCell (by exact b11.size) _)))
        have KW := Lib.hid (fun N => (below_drewN bW N).setCell (p := ⟨w11.heap.size, k, none⟩) (by exact b11.size) (.int .u8 (y1.toNat : Int)))
        rw [bs_toList, hbd] at KB
        clear hbd hkl hne hy0 B
        generalize bs (Y.data.toList.set k y1) = Z at hback KB
        go_wp2_with (first | (go_at_call 34; refine (K9.out).mono ?_; rintro e w' ⟨rfl, rfl⟩))
        go_region_with (first | (go_at_call 34; refine (K10.out _).mono ?_; rintro e w' ⟨rfl, rfl⟩))
        all_goals
          go_wp2_with fail
          refine (KB.out _).mono ?_
          rintro e w12 ⟨rfl, hb12⟩
          have hxs := toL_same x
          have bE := (KW.out _).trans (hb12.mono (KW.out _).size)
          go_wp2
          go_ret
          exact ⟨rfl, bE⟩
end Go.Proofs.YtpnomnicfkjcgaaDoor
