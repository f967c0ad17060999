/- Contracts of the functions on decimal numerals. Condition: the library's table internal/strconv.uint64pow10 reads as its initialiser lays it; the variable strconv.ErrSyntax holds an error. -/
import Derived.Test.YtpnomnicfkjcgaaDoorPNum
import Derived.Test.YtpnomnicfkjcgaaDoorBits
import Derived.Test.YtpnomnicfkjcgaaDoorStroke
import Derived.Test.YtpnomnicfkjcgaaDoorStrJoin
import Derived.Test.YtpnomnicfkjcgaaDoorSplitW
import Derived.Ground.NamesProg
import Derived.Shelf.Lay
import Derived.Shelf.LaysC
import Derived.Shelf.Strconv.Itoa3
import Derived.Shelf.Strconv.AtoiErr
import Derived.Shelf.Strconv.ErrVar
import Derived.Lib.AppendIntMem
import Derived.Lib.SmallJoins
namespace Go.Proofs.YtpnomnicfkjcgaaDoor
open Go.RowKit Go.Shelf

def Tryd.lItoa_ren : Go.Shelf.Ren := ⟨fun | 171 => 38 | 243 => 55 | 246 => 66 | 283 => 77 | 284 => 78 | 285 => 79 | 286 => 80 | 129 => 94 | 317 => 93 | 318 => 95 | 319 => 96 | 320 => 97 | 337 => 103 | 338 => 104 | n => n, fun | 3 => 3 | 9 => 9 | 2 => 2 | 4 => 4 | 171 => 86 | 0 => 0 | 53 => 58 | 37 => 35 | 5 => 5 | 173 => 89 | 212 => 103 | 51 => 104 | 20 => 20 | 213 => 105 | 46 => 84 | 232 => 118 | 233 => 119 | n => n, fun | 17 => 3 | 18 => 6 | 19 => 7 | n => n⟩
theorem Tryd.lItoa : Go.Proofs.LaysM.n171 Tryd.prog Tryd.lItoa_ren := {
  mixed := by kernel_rfl
  f129 := Tryd.func94.trans (congrArg some (by kernel_rfl))
  f171 := Tryd.func38.trans (congrArg some (by kernel_rfl))
  f243 := Tryd.func55.trans (congrArg some (by kernel_rfl))
  f246 := Tryd.func66.trans (congrArg some (by kernel_rfl))
  f283 := Tryd.func77.trans (congrArg some (by kernel_rfl))
  f284 := Tryd.func78.trans (congrArg some (by kernel_rfl))
  f285 := Tryd.func79.trans (congrArg some (by kernel_rfl))
  f286 := Tryd.func80.trans (congrArg some (by kernel_rfl))
  f317 := Tryd.func93.trans (congrArg some (by kernel_rfl))
  f318 := Tryd.func95.trans (congrArg some (by kernel_rfl))
  f319 := Tryd.func96.trans (congrArg some (by kernel_rfl))
  f320 := Tryd.func97.trans (congrArg some (by kernel_rfl))
  f337 := Tryd.func103.trans (congrArg some (by kernel_rfl))
  f338 := Tryd.func104.trans (congrArg some (by kernel_rfl))
  t0 := Tryd.underlying0
  a0 := Tryd.isAgg0
  z0 := Tryd.sizeOf0
  v0 := Tryd.zeroValue0
  t2 := Tryd.underlying2
  a2 := Tryd.isAgg2
  z2 := Tryd.sizeOf2
  v2 := Tryd.zeroValue2
  t3 := Tryd.underlying3
  a3 := Tryd.isAgg3
  z3 := Tryd.sizeOf3
  v3 := Tryd.zeroValue3
  t4 := Tryd.underlying4
  a4 := Tryd.isAgg4
  z4 := Tryd.sizeOf4
  v4 := Tryd.zeroValue4
  t5 := Tryd.underlying5
  a5 := Tryd.isAgg5
  z5 := Tryd.sizeOf5
  v5 := Tryd.zeroValue5
  t9 := Tryd.underlying9
  a9 := Tryd.isAgg9
  z9 := Tryd.sizeOf9
  v9 := Tryd.zeroValue9
  t20 := Tryd.underlying20
  a20 := Tryd.isAgg20
  z20 := Tryd.sizeOf20
  v20 := Tryd.zeroValue20
  t37 := Tryd.underlying35
  a37 := Tryd.isAgg35
  z37 := Tryd.sizeOf35
  v37 := Tryd.zeroValue35
  t46 := Tryd.underlying84
  a46 := Tryd.isAgg84
  z46 := Tryd.sizeOf84
  v46 := Tryd.zeroValue84
  t51 := Tryd.underlying104
  a51 := Tryd.isAgg104
  z51 := Tryd.sizeOf104
  v51 := Tryd.zeroValue104
  t53 := Tryd.underlying58
  a53 := Tryd.isAgg58
  z53 := Tryd.sizeOf58
  v53 := Tryd.zeroValue58
  t171 := Tryd.underlying86
  a171 := Tryd.isAgg86
  z171 := Tryd.sizeOf86
  v171 := Tryd.zeroValue86
  t173 := Tryd.underlying89
  a173 := Tryd.isAgg89
  z173 := Tryd.sizeOf89
  v173 := Tryd.zeroValue89
  t212 := Tryd.underlying103
  a212 := Tryd.isAgg103
  z212 := Tryd.sizeOf103
  v212 := Tryd.zeroValue103
  t213 := Tryd.underlying105
  a213 := Tryd.isAgg105
  z213 := Tryd.sizeOf105
  t232 := Tryd.underlying118
  a232 := Tryd.isAgg118
  z232 := Tryd.sizeOf118
  v232 := Tryd.zeroValue118
  t233 := Tryd.underlying119
  a233 := Tryd.isAgg119
  z233 := Tryd.sizeOf119
  v233 := Tryd.zeroValue119
  g17 := by kernel_rfl
  g18 := by kernel_rfl
  g19 := by kernel_rfl
  i0 := by kernel_rfl
  i2 := by kernel_rfl
  i3 := by kernel_rfl
  i4 := by kernel_rfl
  i5 := by kernel_rfl
  i9 := by kernel_rfl
  i20 := by kernel_rfl
  i37 := by kernel_rfl
  i46 := by kernel_rfl
  i51 := by kernel_rfl
  i53 := by kernel_rfl
  i171 := by kernel_rfl
  i173 := by kernel_rfl
  i212 := by kernel_rfl
  i232 := by kernel_rfl
  i233 := by kernel_rfl
  m17 := by kernel_rfl
  m18 := by kernel_rfl
  m19 := by kernel_rfl }
def Tryd.lAtoi_ren : Go.Shelf.Ren := ⟨fun | 172 => 48 | 244 => 60 | 245 => 61 | 247 => 70 | 279 => 71 | 280 => 72 | 281 => 73 | 282 => 74 | 287 => 88 | 316 => 89 | 171 => 38 | 205 => 90 | 321 => 101 | 322 => 102 | 243 => 55 | 246 => 66 | 283 => 77 | 284 => 78 | 285 => 79 | 286 => 80 | 129 => 94 | 317 => 93 | 318 => 95 | 319 => 96 | 320 => 97 | 337 => 103 | 338 => 104 | n => n, fun | 9 => 9 | 3 => 3 | 75 => 54 | 76 => 55 | 4 => 4 | 5 => 5 | 167 => 78 | 37 => 35 | 0 => 0 | 85 => 79 | 2 => 2 | 168 => 81 | 53 => 58 | 175 => 94 | 46 => 84 | 210 => 97 | 127 => 85 | 145 => 112 | 143 => 110 | 21 => 21 | 171 => 86 | 173 => 89 | 212 => 103 | 51 => 104 | 20 => 20 | 213 => 105 | 232 => 118 | 233 => 119 | 80 => 61 | n => n, fun | 15 => 1 | 16 => 2 | 17 => 3 | 18 => 6 | 19 => 7 | n => n⟩
theorem Tryd.lAtoi : Go.Proofs.LaysC.n172 Tryd.prog Tryd.lAtoi_ren := {
  mixed := by kernel_rfl
  f129 := Tryd.func94.trans (congrArg some (by kernel_rfl))
  f171 := Tryd.func38.trans (congrArg some (by kernel_rfl))
  f172 := Tryd.func48.trans (congrArg some (by kernel_rfl))
  f205 := Tryd.func90.trans (congrArg some (by kernel_rfl))
  f243 := Tryd.func55.trans (congrArg some (by kernel_rfl))
  f244 := Tryd.func60.trans (congrArg some (by kernel_rfl))
  f245 := Tryd.func61.trans (congrArg some (by kernel_rfl))
  f246 := Tryd.func66.trans (congrArg some (by kernel_rfl))
  f247 := Tryd.func70.trans (congrArg some (by kernel_rfl))
  f279 := Tryd.func71.trans (congrArg some (by kernel_rfl))
  f280 := Tryd.func72.trans (congrArg some (by kernel_rfl))
  f281 := Tryd.func73.trans (congrArg some (by kernel_rfl))
  f282 := Tryd.func74.trans (congrArg some (by kernel_rfl))
  f283 := Tryd.func77.trans (congrArg some (by kernel_rfl))
  f284 := Tryd.func78.trans (congrArg some (by kernel_rfl))
  f285 := Tryd.func79.trans (congrArg some (by kernel_rfl))
  f286 := Tryd.func80.trans (congrArg some (by kernel_rfl))
  f287 := Tryd.func88.trans (congrArg some (by kernel_rfl))
  f316 := Tryd.func89.trans (congrArg some (by kernel_rfl))
  f317 := Tryd.func93.trans (congrArg some (by kernel_rfl))
  f318 := Tryd.func95.trans (congrArg some (by kernel_rfl))
  f319 := Tryd.func96.trans (congrArg some (by kernel_rfl))
  f320 := Tryd.func97.trans (congrArg some (by kernel_rfl))
  f321 := Tryd.func101.trans (congrArg some (by kernel_rfl))
  f322 := Tryd.func102.trans (congrArg some (by kernel_rfl))
  f337 := Tryd.func103.trans (congrArg some (by kernel_rfl))
  f338 := Tryd.func104.trans (congrArg some (by kernel_rfl))
  t0 := Tryd.underlying0
  a0 := Tryd.isAgg0
  z0 := Tryd.sizeOf0
  v0 := Tryd.zeroValue0
  t2 := Tryd.underlying2
  a2 := Tryd.isAgg2
  z2 := Tryd.sizeOf2
  v2 := Tryd.zeroValue2
  t3 := Tryd.underlying3
  a3 := Tryd.isAgg3
  z3 := Tryd.sizeOf3
  v3 := Tryd.zeroValue3
  t4 := Tryd.underlying4
  a4 := Tryd.isAgg4
  z4 := Tryd.sizeOf4
  v4 := Tryd.zeroValue4
  t5 := Tryd.underlying5
  a5 := Tryd.isAgg5
  z5 := Tryd.sizeOf5
  v5 := Tryd.zeroValue5
  t9 := Tryd.underlying9
  a9 := Tryd.isAgg9
  z9 := Tryd.sizeOf9
  v9 := Tryd.zeroValue9
  t20 := Tryd.underlying20
  a20 := Tryd.isAgg20
  z20 := Tryd.sizeOf20
  v20 := Tryd.zeroValue20
  t21 := Tryd.underlying21
  a21 := Tryd.isAgg21
  z21 := Tryd.sizeOf21
  v21 := Tryd.zeroValue21
  t37 := Tryd.underlying35
  a37 := Tryd.isAgg35
  z37 := Tryd.sizeOf35
  v37 := Tryd.zeroValue35
  t46 := Tryd.underlying84
  a46 := Tryd.isAgg84
  z46 := Tryd.sizeOf84
  v46 := Tryd.zeroValue84
  t51 := Tryd.underlying104
  a51 := Tryd.isAgg104
  z51 := Tryd.sizeOf104
  v51 := Tryd.zeroValue104
  t53 := Tryd.underlying58
  a53 := Tryd.isAgg58
  z53 := Tryd.sizeOf58
  v53 := Tryd.zeroValue58
  t75 := Tryd.underlying54
  a75 := Tryd.isAgg54
  z75 := Tryd.sizeOf54
  v75 := Tryd.zeroValue54
  t76 := Tryd.underlying55
  a76 := Tryd.isAgg55
  z76 := Tryd.sizeOf55
  v76 := Tryd.zeroValue55
  t85 := Tryd.underlying79
  a85 := Tryd.isAgg79
  z85 := Tryd.sizeOf79
  v85 := Tryd.zeroValue79
  t127 := Tryd.underlying85
  a127 := Tryd.isAgg85
  z127 := Tryd.sizeOf85
  v127 := Tryd.zeroValue85
  t143 := Tryd.underlying110
  a143 := Tryd.isAgg110
  z143 := Tryd.sizeOf110
  v143 := Tryd.zeroValue110
  t145 := Tryd.underlying112
  a145 := Tryd.isAgg112
  z145 := Tryd.sizeOf112
  v145 := Tryd.zeroValue112
  t167 := Tryd.underlying78
  a167 := Tryd.isAgg78
  z167 := Tryd.sizeOf78
  v167 := Tryd.zeroValue78
  t168 := Tryd.underlying81
  a168 := Tryd.isAgg81
  z168 := Tryd.sizeOf81
  v168 := Tryd.zeroValue81
  t171 := Tryd.underlying86
  a171 := Tryd.isAgg86
  z171 := Tryd.sizeOf86
  v171 := Tryd.zeroValue86
  t173 := Tryd.underlying89
  a173 := Tryd.isAgg89
  z173 := Tryd.sizeOf89
  v173 := Tryd.zeroValue89
  t175 := Tryd.underlying94
  a175 := Tryd.isAgg94
  z175 := Tryd.sizeOf94
  v175 := Tryd.zeroValue94
  t210 := Tryd.underlying97
  a210 := Tryd.isAgg97
  z210 := Tryd.sizeOf97
  v210 := Tryd.zeroValue97
  t212 := Tryd.underlying103
  a212 := Tryd.isAgg103
  z212 := Tryd.sizeOf103
  v212 := Tryd.zeroValue103
  t213 := Tryd.underlying105
  a213 := Tryd.isAgg105
  z213 := Tryd.sizeOf105
  t232 := Tryd.underlying118
  a232 := Tryd.isAgg118
  z232 := Tryd.sizeOf118
  v232 := Tryd.zeroValue118
  t233 := Tryd.underlying119
  a233 := Tryd.isAgg119
  z233 := Tryd.sizeOf119
  v233 := Tryd.zeroValue119
  g15 := by kernel_rfl
  g16 := by kernel_rfl
  g17 := by kernel_rfl
  g18 := by kernel_rfl
  g19 := by kernel_rfl
  t80 := Tryd.underlying61
  a80 := Tryd.isAgg61
  z80 := Tryd.sizeOf61
  v80 := Tryd.zeroValue61
  i0 := by kernel_rfl
  i2 := by kernel_rfl
  i3 := by kernel_rfl
  i4 := by kernel_rfl
  i5 := by kernel_rfl
  i9 := by kernel_rfl
  i20 := by kernel_rfl
  i21 := by kernel_rfl
  i37 := by kernel_rfl
  i46 := by kernel_rfl
  i51 := by kernel_rfl
  i53 := by kernel_rfl
  i75 := by kernel_rfl
  i76 := by kernel_rfl
  i80 := by kernel_rfl
  i85 := by kernel_rfl
  i127 := by kernel_rfl
  i143 := by kernel_rfl
  i145 := by kernel_rfl
  i167 := by kernel_rfl
  i168 := by kernel_rfl
  i171 := by kernel_rfl
  i173 := by kernel_rfl
  i175 := by kernel_rfl
  i210 := by kernel_rfl
  i212 := by kernel_rfl
  i232 := by kernel_rfl
  i233 := by kernel_rfl
  m15 := by kernel_rfl
  m16 := by kernel_rfl
  m17 := by kernel_rfl
  m18 := by kernel_rfl
  m19 := by kernel_rfl
  c0 := by kernel_rfl
  c2 := by kernel_rfl
  c3 := by kernel_rfl
  c4 := by kernel_rfl
  c5 := by kernel_rfl
  c9 := by kernel_rfl
  c20 := by kernel_rfl
  c21 := by kernel_rfl
  c37 := by kernel_rfl
  c46 := by kernel_rfl
  c51 := by kernel_rfl
  c53 := by kernel_rfl
  c75 := by kernel_rfl
  c76 := by kernel_rfl
  c80 := by kernel_rfl
  c85 := by kernel_rfl
  c127 := by kernel_rfl
  c143 := by kernel_rfl
  c145 := by kernel_rfl
  c167 := by kernel_rfl
  c168 := by kernel_rfl
  c171 := by kernel_rfl
  c173 := by kernel_rfl
  c175 := by kernel_rfl
  c210 := by kernel_rfl
  c212 := by kernel_rfl
  c213 := by kernel_rfl
  c232 := by kernel_rfl
  c233 := by kernel_rfl }
def Tab (w : World) : Prop := Lib.TabIs Tryd.prog w "internal/strconv.uint64pow10" .u64 Lib.pow10Tab
theorem Tab.below {w w' : World} (h : Tab w) (hb : Below w.heap.size w w') : Tab w' := Lib.tabBelow_of_tabIs h w' hb
theorem itoa_any (n : Int) (h0 : -1099511627776 ≤ n) (h1 : n ≤ 1099511627776) (w : World) (ht : Tab w) :
    Calls Tryd.prog 38 #[.int .i64 n] w fun e w' => e = .returned (.string (bs (Lib.itoa n))) ∧ Below w.heap.size w w' :=
  (Any.strconv_Itoa (P := Tryd.prog) (ρ := Tryd.lItoa_ren) { Tryd.lItoa with } n (by omega) (by omega) w ht).mono fun e w' ⟨he, k, os, hw⟩ => ⟨he, by rw [hw]; exact Lib.below_grow _ w (Nat.le_refl _) k os⟩

theorem dig_nat : ∀ n, n < 10 → ((⟨#[48, 49, 50, 51, 52, 53, 54, 55, 56, 57]⟩ : ByteArray).extract n (n + 1)).data.toList = [UInt8.ofNat (48 + n)] := by decide
theorem dig_slice {k : Int} (h0 : 0 ≤ k) (h1 : k ≤ 9) : (⟨#[48, 49, 50, 51, 52, 53, 54, 55, 56, 57]⟩ : ByteArray).extract k.toNat (k + 1).toNat = bs [UInt8.ofNat (48 + k.toNat)] := by
  obtain ⟨n, rfl⟩ := Int.eq_ofNat_of_zero_le h0
  rw [show ((n : Int) + 1).toNat = n + 1 by omega, Int.toNat_natCast]
  exact bs_of (dig_nat n (by omega))
set_option maxRecDepth 100000 in
set_option maxHeartbeats 1000000 in
theorem l1Num_pos (f : Nat) : ∀ (n : Nat), n ≤ f → n ≤ 1099511627776 → ∀ w : World, Calls Tryd.prog 36 #[.int .i64 (n : Int)] w fun e w' => e = .returned (.string (bs (Lib.decDigits n))) ∧ ∃ m, w' = w.drewN m := by
  induction f with
  | zero =>
    intro n hn _ w
    obtain rfl : n = 0 := by omega
    go_enter Tryd.func36, Tryd.ntmps36
    go_wp2
    go_ret
    refine ⟨?_, 0, rfl⟩
    rw [Lib.decDigits_one (by omega)]
    exact congrArg (fun x => Ending.returned (.string x)) (bs_of (dig_nat 0 (by omega)))
  | succ f ih =>
    intro n hn hb w
    by_cases h10 : n < 10
    · have hd := Lib.hid (dig_slice (k := (n : Int)) (by omega) (by omega))
      have he := Lib.hid (Lib.decDigits_one h10)
      go_enter Tryd.func36, Tryd.ntmps36
      go_wp2
      go_ret
      refine ⟨?_, 0, rfl⟩
      rw [he.out]
      exact congrArg (fun x => Ending.returned (.string x)) hd.out
    · have he := Lib.hid (digs_big h10)
      have h1 : (0 : Int) ≤ (n : Int) % 10 := by omega
      have h2 : (n : Int) % 10 + 1 ≤ 10 := by omega
      have hl : (Lib.decDigits (n / 10)).length ≤ 13 := by rw [Lib.decDigits_length]; exact nd_le 13 _ (by omega) (by omega)
      have hq := ih (n / 10) (by omega) (by omega)
      have hq2 : ∀ w : World, Calls Tryd.prog 36 #[.int .i64 ((n : Int) / 10)] w fun e w' => e = .returned (.string (bs (Lib.decDigits (n / 10)))) ∧ ∃ m, w' = w.drewN m := fun w => by
        have := hq w
        rwa [show ((n / 10 : Nat) : Int) = (n : Int) / 10 by omega] at this
      have Hq := Lib.hid hq2
      have hbz : (bs (Lib.decDigits (n / 10))).size ≤ 13 := hl
      clear hq hq2 ih
      go_enter Tryd.func36, Tryd.ntmps36
      go_wp2
      go_quiet ((go_at_call 36; exact Calls.quiet_of (Hq.out _)))
      go_wp2
      go_ret
      refine ⟨?_, _, rfl⟩
      rw [he.out]
      refine congrArg (fun x => Ending.returned (.string x)) (bs_of ?_)
      rw [bs_append3, bs_toList, dig_nat (n % 10) (by omega)]
theorem l1Num_any (n : Int) (h0 : -1099511627776 ≤ n) (h1 : n ≤ 1099511627776) (w : World) : Calls Tryd.prog 36 #[.int .i64 n] w fun e w' => e = .returned (.string (bs (Lib.itoa n))) ∧ ∃ m, w' = w.drewN m := by
  by_cases hn : n < 0
  · have he := Lib.hid (show Lib.itoa n = 45 :: Lib.decDigits n.natAbs by rw [Lib.itoa, if_pos hn])
    have hl : (Lib.decDigits n.natAbs).length ≤ 13 := by rw [Lib.decDigits_length]; exact nd_le 13 _ (by omega) (by omega)
    have hbz : (bs (Lib.decDigits n.natAbs)).size ≤ 13 := hl
    have hq := l1Num_pos n.natAbs n.natAbs (Nat.le_refl _) (by omega)
    rw [show ((n.natAbs : Nat) : Int) = -n by omega] at hq
    have Hq := Lib.hid hq
    clear hq
    go_enter Tryd.func36, Tryd.ntmps36
    go_wp2_with fail
    refine (Hq.out w).mono ?_
    rintro e w1 ⟨rfl, m, rfl⟩
    go_wp2
    go_ret
    refine ⟨?_, m, rfl⟩
    rw [he.out]
    exact congrArg (fun x => Ending.returned (.string x)) (bs_of (by rw [bs_append3, bs_toList]; rfl))
  · obtain ⟨k, rfl⟩ := Int.eq_ofNat_of_zero_le (show 0 ≤ n by omega)
    have e : Lib.itoa (k : Int) = Lib.decDigits k := Lib.itoa_nonneg k
    rw [e]
    exact l1Num_pos k k (Nat.le_refl _) (by omega) w
theorem l1Num_below (n : Int) (h0 : -1099511627776 ≤ n) (h1 : n ≤ 1099511627776) (w : World) : Calls Tryd.prog 36 #[.int .i64 n] w fun e w' => e = .returned (.string (bs (Lib.itoa n))) ∧ Below w.heap.size w w' :=
  (l1Num_any n h0 h1 w).mono fun _ _ ⟨he, m, hw⟩ => ⟨he, by rw [hw]; exact below_drewN (Below.refl _ _) m⟩

/-! FormatInt. -/
theorem fmtI_in {n : Int} (h : inB n (-999999) 999999 = true) : fmtI n = Lib.itoa n := by
  rw [fmtI, if_pos (in_bd h)]
theorem fmtI_out {n : Int} (h : inB n (-999999) 999999 = false) : fmtI n = [] := by
  rw [fmtI, if_neg]
  intro hc
  rw [inB_true hc.1 hc.2] at h
  cases h
theorem implFormatInt_any (n : Int) (w : World) (ht : Tab w) : Calls Tryd.prog 11 #[.int .i64 n] w fun e w' => e = .returned (.tuple #[.string (bs (fmtI n)), .bool (inB n (-999999) 999999)]) ∧ Below w.heap.size w w' := by
  have HT := Lib.hid ht
  clear ht
  rcases Bool.eq_false_or_eq_true (inB n (-999999) 999999) with h | h
  · obtain ⟨h0, h1⟩ := in_bd h
    have hf := Lib.hid (fmtI_in h)
    go_enter Tryd.func11, Tryd.ntmps11
    go_wp2_with (go_at_call 37; refine (implIn_any _ _ _ _).mono ?_; rintro e w' ⟨rfl, rfl⟩)
    refine (itoa_any n (by omega) (by omega) w HT.out).mono ?_
    rintro e w1 ⟨rfl, hb⟩
    go_wp2
    go_ret2
    exact ⟨ret_str (by rw [hf.out]) h.symm, hb⟩
  · have hf := Lib.hid (fmtI_out h)
    go_enter Tryd.func11, Tryd.ntmps11
    go_wp2_with (go_at_call 37; refine (implIn_any _ _ _ _).mono ?_; rintro e w' ⟨rfl, rfl⟩)
    go_ret2
    exact ⟨ret_str (by rw [hf.out]; rfl) h.symm, Below.refl _ _⟩
theorem specFormatInt_any (n : Int) (w : World) : Calls Tryd.prog 10 #[.int .i64 n] w fun e w' => e = .returned (.tuple #[.string (bs (fmtI n)), .bool (inB n (-999999) 999999)]) ∧ Below w.heap.size w w' := by
  rcases Bool.eq_false_or_eq_true (inB n (-999999) 999999) with h | h
  · obtain ⟨h0, h1⟩ := in_bd h
    have hf := Lib.hid (fmtI_in h)
    go_enter Tryd.func10, Tryd.ntmps10
    go_wp2_with (go_at_call 35; refine (l1In_any _ _ _ _).mono ?_; rintro e w' ⟨rfl, rfl⟩)
    refine (l1Num_below n (by omega) (by omega) w).mono ?_
    rintro e w1 ⟨rfl, hb⟩
    go_wp2
    go_ret2
    exact ⟨ret_str (by rw [hf.out]) h.symm, hb⟩
  · have hf := Lib.hid (fmtI_out h)
    go_enter Tryd.func10, Tryd.ntmps10
    go_wp2_with (go_at_call 35; refine (l1In_any _ _ _ _).mono ?_; rintro e w' ⟨rfl, rfl⟩)
    go_ret2
    exact ⟨ret_str (by rw [hf.out]; rfl) h.symm, Below.refl _ _⟩
theorem lawFormatInt (n : Int) (w : World) (ht : Tab w) : Calls Tryd.prog 3 #[.int .i64 n] w fun e w' => e = .returned (.bool true) ∧ Below w.heap.size w w' := by
  have HT := Lib.hid ht
  clear ht
  have hsm : ((bs (fmtI n)).toList == (bs (fmtI n)).toList) = true := by simp
  go_enter Tryd.func3, Tryd.ntmps3
  go_wp2_with fail
  refine (specFormatInt_any n w).mono ?_
  rintro e w1 ⟨rfl, hb1⟩
  go_wp2_with fail
  refine (implFormatInt_any n w1 (HT.out.below hb1)).mono ?_
  rintro e w2 ⟨rfl, hb2⟩
  go_wp2
  go_ret
  exact ⟨rfl, hb1.trans (hb2.mono hb1.size)⟩
/-! ParseInt. -/
set_option maxRecDepth 100000 in
set_option maxHeartbeats 2000000 in
theorem l1Read_any (s : ByteArray) (w : World) (hs : s.size ≤ 1048576) : Calls Tryd.prog 47 #[.string s] w fun e w' => e = .returned (.tuple #[.int .i64 (pVal s.data.toList), .bool (pOk s.data.toList)]) ∧ Below w.heap.size w w' := by
  by_cases hneg : 1 < s.size ∧ s.data.toList.head? = some 45
  · obtain ⟨hn1, hn2⟩ := hneg
    have h0s : 0 < s.size := by omega
    have hx0 : (s.extract 1 s.size).data.toList = s.data.toList.tail := by
      rw [extract_bs, bs_toList, List.take_of_length_le (by rw [List.length_drop, ← bs_size']; omega), List.drop_one]
    obtain ⟨t, hx⟩ : ∃ t, s.extract 1 s.size = t := ⟨_, rfl⟩
    rw [hx] at hx0
    have hT := Lib.hid (show t.data.toList = rdT s.data.toList by rw [hx0, rdT, if_pos ⟨by rw [← bs_size']; exact hn1, hn2⟩])
    have htz : t.size + 1 = s.size := by
      rw [bs_size', hx0, List.length_tail, ← bs_size']; omega
    have ht1 : t.size + 1 ≤ s.size := by omega
    have ht2 : s.size ≤ t.size + 1 := by omega
    have hat0 : s.data.toList[0]? = some 45 := by rw [← List.head?_eq_getElem?]; exact hn2
    have hb0 : s[0]'h0s = 45 := by
      have h := List.getElem?_eq_getElem (l := s.data.toList) (i := 0) (by rw [← bs_size']; omega)
      rw [h] at hat0
      exact Option.some.inj hat0
    have hb1 : (((s[0]'h0s).toNat : Int) == 45) = true := by rw [hb0]; rfl
    clear htz hx0 hat0 hb0 hn2
    go_enter Tryd.func47, Tryd.ntmps47
    rcases Bool.eq_false_or_eq_true (inB (t.size : Int) 1 6) with hin | hin
    · obtain ⟨hi0, hi1⟩ := in_bd hin
      go_wp2_with (first | (go_at_call 35; refine (l1In_any _ _ _ _).mono ?_; rintro e w' ⟨rfl, rfl⟩) | fail)
      go_loop [5, 6] (fun q i => ∃ k m : Nat, k ≤ t.size ∧ i = .int .i64 k ∧ q = .int .i64 m ∧ m < 1000000 ∧ Hid (Lib.decFrom 0 (t.data.toList.take k) = some m)) (fun _ i => t.size - (intOf i).toNat)
      case atStart => exact ⟨0, 0, by omega, rfl, rfl, by omega, rfl⟩
      case round =>
        obtain ⟨k, m, hk, rfl, rfl, hm, hst⟩ := hrel
        by_cases hlt : k < t.size
        · have hkl : k < t.data.toList.length := by rw [← bs_size']; exact hlt
          have hat : t.data.toList[k]? = some t[k] := by rw [List.getElem?_eq_getElem hkl]; rfl
          by_cases hdg : 48 ≤ t[k].toNat ∧ t[k].toNat ≤ 57
          · obtain ⟨hd0, hd1⟩ := hdg
            have hs2 := Lib.decFrom_take t.data.toList k 0 m t[k] (t[k].toNat - 48) hst.out hat (by rw [Lib.digitVal, if_pos ⟨hd0, hd1⟩])
            have hb2 := decFrom_bd _ _ _ hs2
            have hpw : 10 ^ (t.data.toList.take (k + 1)).length ≤ 10 ^ 6 := Nat.pow_le_pow_right (by omega) (by rw [List.length_take]; omega)
            have hb3 : m * 10 + (t[k].toNat - 48) < 1000000 := by omega
            have Hs2 := Lib.hid hs2
            have hd0' : (48 : Int) ≤ (t[k].toNat : Int) := by omega
            have hd1' : (t[k].toNat : Int) ≤ 57 := by omega
            clear hs2 hb2 hpw hat
            go_wp2
            go_round
            case rel => exact ⟨k + 1, m * 10 + (t[k].toNat - 48), by omega, by go_num, by go_num, hb3, Hs2.out⟩
            case measure => simp [intOf]; omega
          · have hf := decFrom_fail hat (by rw [Lib.digitVal, if_neg hdg])
            have hR := Lib.hid (parse_no (rd_bad (s := s.data.toList) (by rw [← hT.out]; exact hf)))
            have hd' : (t[k].toNat : Int) < 48 ∨ (57 : Int) < (t[k].toNat : Int) := by omega
            clear hf hdg
            rcases hd' with hd' | hd'
            · go_wp2
              go_ret2
              exact ⟨ret_int_bool hR.out.1.symm hR.out.2.symm, Below.refl _ _⟩
            · have hd2 : (48 : Int) ≤ (t[k].toNat : Int) := by omega
              go_wp2
              go_ret2
              exact ⟨ret_int_bool hR.out.1.symm hR.out.2.symm, Below.refl _ _⟩
        · obtain rfl : k = t.size := by omega
          have hfull : Lib.decFrom 0 (rdT s.data.toList) = some m := by
            have h := hst.out
            rw [bs_size', List.take_length] at h
            rw [← hT.out]; exact h
          have hz : (rdT s.data.toList).length ≤ 6 := by rw [← hT.out, ← bs_size']; omega
          obtain ⟨_, he1, he2⟩ := rd_end hz hfull
          rw [if_pos (show (rdT s.data.toList).length < s.data.toList.length by rw [← hT.out, ← bs_size', ← bs_size']; omega)] at he1 he2
          have hbe := bs_beq (Lib.itoa (-(m : Int))) s
          by_cases heq : Lib.itoa (-(m : Int)) = s.data.toList
          · have hR := Lib.hid (parse_val (he1 heq))
            have hbe' : ((bs (Lib.itoa (-(m : Int)))).toList == s.toList) = true := by rw [hbe, heq]; simp
            clear he1 he2 hbe heq hfull hst
            go_wp2_with fail
            refine (l1Num_below (-(m : Int)) (by omega) (by omega) w).mono ?_
            rintro e w1 ⟨rfl, hb1⟩
            go_wp2
            go_ret2
            exact ⟨ret_int_bool hR.out.1.symm hR.out.2.symm, hb1⟩
          · have hR := Lib.hid (parse_no (he2 heq))
            have hbe' : ((bs (Lib.itoa (-(m : Int)))).toList == s.toList) = false := by rw [hbe]; simpa using heq
            clear he1 he2 hbe heq hfull hst
            go_wp2_with fail
            refine (l1Num_below (-(m : Int)) (by omega) (by omega) w).mono ?_
            rintro e w1 ⟨rfl, hb1⟩
            go_wp2
            go_ret2
            exact ⟨ret_int_bool hR.out.1.symm hR.out.2.symm, hb1⟩
    · have hR := Lib.hid (parse_no (rd_bad_len (s := s.data.toList) (by
        rw [← hT.out, ← bs_size']
        have hn : ¬ (1 ≤ (t.size : Int) ∧ (t.size : Int) ≤ 6) := by simpa [inB] using hin
        omega)))
      go_wp2_with (first | (go_at_call 35; refine (l1In_any _ _ _ _).mono ?_; rintro e w' ⟨rfl, rfl⟩) | fail)
      go_ret2
      exact ⟨ret_int_bool hR.out.1.symm hR.out.2.symm, Below.refl _ _⟩
  · have hT := Lib.hid (show s.data.toList = rdT s.data.toList by rw [rdT, if_neg (by rw [← bs_size']; exact hneg)])
    have key : 1 < s.size → ∀ h : 0 < s.size, ((s[0].toNat : Int) == 45) = false := fun h1 h => by
      have hat0 := List.getElem?_eq_getElem (l := s.data.toList) (i := 0) (by rw [← bs_size']; exact h)
      rw [beq_eq_false_iff_ne]
      intro e
      have e2 : s.data.toList[0]'(by rw [← bs_size']; exact h) = 45 := UInt8.toNat_inj.1 (by exact_mod_cast e)
      exact hneg ⟨h1, by rw [List.head?_eq_getElem?, hat0, e2]⟩
    by_cases h1 : 1 < s.size
    · have hb1 := key h1 (by omega)
      clear key hneg
      go_enter Tryd.func47, Tryd.ntmps47
      rcases Bool.eq_false_or_eq_true (inB (s.size : Int) 1 6) with hin | hin
      · obtain ⟨hi0, hi1⟩ := in_bd hin
        go_wp2_with (first | (go_at_call 35; refine (l1In_any _ _ _ _).mono ?_; rintro e w' ⟨rfl, rfl⟩) | fail)
        go_loop [5, 6] (fun q i => ∃ k m : Nat, k ≤ s.size ∧ i = .int .i64 k ∧ q = .int .i64 m ∧ m < 1000000 ∧ Hid (Lib.decFrom 0 (s.data.toList.take k) = some m)) (fun _ i => s.size - (intOf i).toNat)
        case atStart => exact ⟨0, 0, by omega, rfl, rfl, by omega, rfl⟩
        case round =>
          obtain ⟨k, m, hk, rfl, rfl, hm, hst⟩ := hrel
          by_cases hlt : k < s.size
          · have hkl : k < s.data.toList.length := by rw [← bs_size']; exact hlt
            have hat : s.data.toList[k]? = some s[k] := by rw [List.getElem?_eq_getElem hkl]; rfl
            by_cases hdg : 48 ≤ s[k].toNat ∧ s[k].toNat ≤ 57
            · obtain ⟨hd0, hd1⟩ := hdg
              have hs2 := Lib.decFrom_take s.data.toList k 0 m s[k] (s[k].toNat - 48) hst.out hat (by rw [Lib.digitVal, if_pos ⟨hd0, hd1⟩])
              have hb2 := decFrom_bd _ _ _ hs2
              have hpw : 10 ^ (s.data.toList.take (k + 1)).length ≤ 10 ^ 6 := Nat.pow_le_pow_right (by omega) (by rw [List.length_take]; omega)
              have hb3 : m * 10 + (s[k].toNat - 48) < 1000000 := by omega
              have Hs2 := Lib.hid hs2
              have hd0' : (48 : Int) ≤ (s[k].toNat : Int) := by omega
              have hd1' : (s[k].toNat : Int) ≤ 57 := by omega
              clear hs2 hb2 hpw hat
              go_wp2
              go_round
              case rel => exact ⟨k + 1, m * 10 + (s[k].toNat - 48), by omega, by go_num, by go_num, hb3, Hs2.out⟩
              case measure => simp [intOf]; omega
            · have hf := decFrom_fail hat (by rw [Lib.digitVal, if_neg hdg])
              have hR := Lib.hid (parse_no (rd_bad (s := s.data.toList) (by rw [← hT.out]; exact hf)))
              have hd' : (s[k].toNat : Int) < 48 ∨ (57 : Int) < (s[k].toNat : Int) := by omega
              clear hf hdg
              rcases hd' with hd' | hd'
              · go_wp2
                go_ret2
                exact ⟨ret_int_bool hR.out.1.symm hR.out.2.symm, Below.refl _ _⟩
              · have hd2 : (48 : Int) ≤ (s[k].toNat : Int) := by omega
                go_wp2
                go_ret2
                exact ⟨ret_int_bool hR.out.1.symm hR.out.2.symm, Below.refl _ _⟩
          · obtain rfl : k = s.size := by omega
            have hfull : Lib.decFrom 0 (rdT s.data.toList) = some m := by
              have h := hst.out
              rw [bs_size', List.take_length] at h
              rw [← hT.out]; exact h
            have hz : (rdT s.data.toList).length ≤ 6 := by rw [← hT.out, ← bs_size']; omega
            obtain ⟨_, he1, he2⟩ := rd_end hz hfull
            rw [if_neg (show ¬ (rdT s.data.toList).length < s.data.toList.length by rw [← hT.out]; omega)] at he1 he2
            have hbe := bs_beq (Lib.itoa ((m : Int))) s
            by_cases heq : Lib.itoa ((m : Int)) = s.data.toList
            · have hR := Lib.hid (parse_val (he1 heq))
              have hbe' : ((bs (Lib.itoa ((m : Int)))).toList == s.toList) = true := by rw [hbe, heq]; simp
              clear he1 he2 hbe heq hfull hst
              go_wp2_with fail
              refine (l1Num_below ((m : Int)) (by omega) (by omega) w).mono ?_
              rintro e w1 ⟨rfl, hb1⟩
              go_wp2
              go_ret2
              exact ⟨ret_int_bool hR.out.1.symm hR.out.2.symm, hb1⟩
            · have hR := Lib.hid (parse_no (he2 heq))
              have hbe' : ((bs (Lib.itoa ((m : Int)))).toList == s.toList) = false := by rw [hbe]; simpa using heq
              clear he1 he2 hbe heq hfull hst
              go_wp2_with fail
              refine (l1Num_below ((m : Int)) (by omega) (by omega) w).mono ?_
              rintro e w1 ⟨rfl, hb1⟩
              go_wp2
              go_ret2
              exact ⟨ret_int_bool hR.out.1.symm hR.out.2.symm, hb1⟩
      · have hR := Lib.hid (parse_no (rd_bad_len (s := s.data.toList) (by
          rw [← hT.out, ← bs_size']
          have hn : ¬ (1 ≤ (s.size : Int) ∧ (s.size : Int) ≤ 6) := by simpa [inB] using hin
          omega)))
        go_wp2_with (first | (go_at_call 35; refine (l1In_any _ _ _ _).mono ?_; rintro e w' ⟨rfl, rfl⟩) | fail)
        go_ret2
        exact ⟨ret_int_bool hR.out.1.symm hR.out.2.symm, Below.refl _ _⟩
    · clear key hneg
      go_enter Tryd.func47, Tryd.ntmps47
      rcases Bool.eq_false_or_eq_true (inB (s.size : Int) 1 6) with hin | hin
      · obtain ⟨hi0, hi1⟩ := in_bd hin
        go_wp2_with (first | (go_at_call 35; refine (l1In_any _ _ _ _).mono ?_; rintro e w' ⟨rfl, rfl⟩) | fail)
        go_loop [5, 6] (fun q i => ∃ k m : Nat, k ≤ s.size ∧ i = .int .i64 k ∧ q = .int .i64 m ∧ m < 1000000 ∧ Hid (Lib.decFrom 0 (s.data.toList.take k) = some m)) (fun _ i => s.size - (intOf i).toNat)
        case atStart => exact ⟨0, 0, by omega, rfl, rfl, by omega, rfl⟩
        case round =>
          obtain ⟨k, m, hk, rfl, rfl, hm, hst⟩ := hrel
          by_cases hlt : k < s.size
          · have hkl : k < s.data.toList.length := by rw [← bs_size']; exact hlt
            have hat : s.data.toList[k]? = some s[k] := by rw [List.getElem?_eq_getElem hkl]; rfl
            by_cases hdg : 48 ≤ s[k].toNat ∧ s[k].toNat ≤ 57
            · obtain ⟨hd0, hd1⟩ := hdg
              have hs2 := Lib.decFrom_take s.data.toList k 0 m s[k] (s[k].toNat - 48) hst.out hat (by rw [Lib.digitVal, if_pos ⟨hd0, hd1⟩])
              have hb2 := decFrom_bd _ _ _ hs2
              have hpw : 10 ^ (s.data.toList.take (k + 1)).length ≤ 10 ^ 6 := Nat.pow_le_pow_right (by omega) (by rw [List.length_take]; omega)
              have hb3 : m * 10 + (s[k].toNat - 48) < 1000000 := by omega
              have Hs2 := Lib.hid hs2
              have hd0' : (48 : Int) ≤ (s[k].toNat : Int) := by omega
              have hd1' : (s[k].toNat : Int) ≤ 57 := by omega
              clear hs2 hb2 hpw hat
              go_wp2
              go_round
              case rel => exact ⟨k + 1, m * 10 + (s[k].toNat - 48), by omega, by go_num, by go_num, hb3, Hs2.out⟩
              case measure => simp [intOf]; omega
            · have hf := decFrom_fail hat (by rw [Lib.digitVal, if_neg hdg])
              have hR := Lib.hid (parse_no (rd_bad (s := s.data.toList) (by rw [← hT.out]; exact hf)))
              have hd' : (s[k].toNat : Int) < 48 ∨ (57 : Int) < (s[k].toNat : Int) := by omega
              clear hf hdg
              rcases hd' with hd' | hd'
              · go_wp2
                go_ret2
                exact ⟨ret_int_bool hR.out.1.symm hR.out.2.symm, Below.refl _ _⟩
              · have hd2 : (48 : Int) ≤ (s[k].toNat : Int) := by omega
                go_wp2
                go_ret2
                exact ⟨ret_int_bool hR.out.1.symm hR.out.2.symm, Below.refl _ _⟩
          · obtain rfl : k = s.size := by omega
            have hfull : Lib.decFrom 0 (rdT s.data.toList) = some m := by
              have h := hst.out
              rw [bs_size', List.take_length] at h
              rw [← hT.out]; exact h
            have hz : (rdT s.data.toList).length ≤ 6 := by rw [← hT.out, ← bs_size']; omega
            obtain ⟨_, he1, he2⟩ := rd_end hz hfull
            rw [if_neg (show ¬ (rdT s.data.toList).length < s.data.toList.length by rw [← hT.out]; omega)] at he1 he2
            have hbe := bs_beq (Lib.itoa ((m : Int))) s
            by_cases heq : Lib.itoa ((m : Int)) = s.data.toList
            · have hR := Lib.hid (parse_val (he1 heq))
              have hbe' : ((bs (Lib.itoa ((m : Int)))).toList == s.toList) = true := by rw [hbe, heq]; simp
              clear he1 he2 hbe heq hfull hst
              go_wp2_with fail
              refine (l1Num_below ((m : Int)) (by omega) (by omega) w).mono ?_
              rintro e w1 ⟨rfl, hb1⟩
              go_wp2
              go_ret2
              exact ⟨ret_int_bool hR.out.1.symm hR.out.2.symm, hb1⟩
            · have hR := Lib.hid (parse_no (he2 heq))
              have hbe' : ((bs (Lib.itoa ((m : Int)))).toList == s.toList) = false := by rw [hbe]; simpa using heq
              clear he1 he2 hbe heq hfull hst
              go_wp2_with fail
              refine (l1Num_below ((m : Int)) (by omega) (by omega) w).mono ?_
              rintro e w1 ⟨rfl, hb1⟩
              go_wp2
              go_ret2
              exact ⟨ret_int_bool hR.out.1.symm hR.out.2.symm, hb1⟩
      · have hR := Lib.hid (parse_no (rd_bad_len (s := s.data.toList) (by
          rw [← hT.out, ← bs_size']
          have hn : ¬ (1 ≤ (s.size : Int) ∧ (s.size : Int) ≤ 6) := by simpa [inB] using hin
          omega)))
        go_wp2_with (first | (go_at_call 35; refine (l1In_any _ _ _ _).mono ?_; rintro e w' ⟨rfl, rfl⟩) | fail)
        go_ret2
        exact ⟨ret_int_bool hR.out.1.symm hR.out.2.symm, Below.refl _ _⟩
end Go.Proofs.YtpnomnicfkjcgaaDoor
