/- Contracts of JoinStrings. Condition: the texts are a row of the call's own, of at most 2^20 bytes in all. -/
import Derived.Test.YtpnomnicfkjcgaaDoorJoinC
import Derived.Test.YtpnomnicfkjcgaaDoorPStr
import Derived.Test.YtpnomnicfkjcgaaDoorStands
import Derived.Shelf.Strings.Search3
import Derived.Lib.IndexAny
import Derived.Deep.RegionHeld3
namespace Go.Proofs.YtpnomnicfkjcgaaDoor
open Go.RowKit Go.Shelf

def Tryd.lCont_ren : Go.Shelf.Ren := ⟨fun | 144 => 45 | 143 => 58 | 219 => 69 | 217 => 84 | 225 => 85 | 224 => 86 | 267 => 87 | 266 => 99 | 314 => 100 | n => n, fun | 9 => 9 | 4 => 4 | 3 => 3 | 5 => 5 | 46 => 84 | 146 => 107 | 51 => 104 | n => n, fun | 1 => 0 | n => n⟩
theorem Tryd.lCont : Go.Proofs.Lays.n144 Tryd.prog Tryd.lCont_ren := {
  mixed := by kernel_rfl
  f143 := Tryd.func58.trans (congrArg some (by kernel_rfl))
  f144 := Tryd.func45.trans (congrArg some (by kernel_rfl))
  f217 := Tryd.func84.trans (congrArg some (by kernel_rfl))
  f219 := Tryd.func69.trans (congrArg some (by kernel_rfl))
  f224 := Tryd.func86.trans (congrArg some (by kernel_rfl))
  f225 := Tryd.func85.trans (congrArg some (by kernel_rfl))
  f266 := Tryd.func99.trans (congrArg some (by kernel_rfl))
  f267 := Tryd.func87.trans (congrArg some (by kernel_rfl))
  f314 := Tryd.func100.trans (congrArg some (by kernel_rfl))
  t3 := Tryd.underlying3
  a3 := Tryd.isAgg3
  z3 := Tryd.sizeOf3
  v3 := Tryd.zeroValue3
  t4 := Tryd.underlying4
  a4 := Tryd.isAgg4
  z4 := Tryd.sizeOf4
  v4 := Tryd.zeroValue4
  t5 := Tryd.underlying5
  a5 := Tryd.isAgg5
  z5 := Tryd.sizeOf5
  v5 := Tryd.zeroValue5
  t9 := Tryd.underlying9
  a9 := Tryd.isAgg9
  z9 := Tryd.sizeOf9
  v9 := Tryd.zeroValue9
  t46 := Tryd.underlying84
  a46 := Tryd.isAgg84
  z46 := Tryd.sizeOf84
  v46 := Tryd.zeroValue84
  t51 := Tryd.underlying104
  a51 := Tryd.isAgg104
  z51 := Tryd.sizeOf104
  v51 := Tryd.zeroValue104
  t146 := Tryd.underlying107
  a146 := Tryd.isAgg107
  z146 := Tryd.sizeOf107
  v146 := Tryd.zeroValue107
  g1 := by kernel_rfl }
theorem contains_any (s : ByteArray) (b : UInt8) (w : World) : Calls Tryd.prog 45 #[.string s, .string (bs [b])] w fun e w' => e = .returned (.bool (standsB s b)) ∧ w = w' := by
  refine (Any.strings_Contains_one (P := Tryd.prog) (ρ := Tryd.lCont_ren) { Tryd.lCont with } s b w).mono fun e w' ⟨he, hw⟩ => ⟨?_, hw.symm⟩
  rw [he, standsB, Lib.contains_iff_indexByte]
theorem bs_append3 (a b : ByteArray) : (a ++ b).data.toList = a.data.toList ++ b.data.toList := by simp
theorem l1Stands_at (t : ByteArray) (b x : UInt8) (h : x = b) (v : Bool) (hv : standsB t b = v) (w : World) (hm : t.size ≤ maxLen) : Calls Tryd.prog 42 #[.string t, .int .u8 x.toNat] w fun e w' => e = .returned (.bool v) ∧ w = w' := by
  subst h; subst hv; exact l1Stands_any t x w hm
theorem ret_str {a b : ByteArray} {x y : Bool} (h : a = b) (g : x = y) : Ending.returned (.tuple #[.string a, .bool x]) = .returned (.tuple #[.string b, .bool y]) := by rw [h, g]
theorem join_len_eq {ss : List ByteArray} {n : Nat} (b : UInt8) (hn : ss.length = n) (h0 : 0 < n) : (Lib.join (lst ss) [b]).length = sizes ss + (n - 1) := by
  rw [join_size b ss (by intro e; subst e; simp at hn; omega), hn]

set_option maxHeartbeats 2000000 in
theorem implJoin_any (A : Option Addr) (n c base : Nat) (ss : List ByteArray) (sep : ByteArray) (w : World) (hn : ss.length = n) (hle : n ≤ 1048576) (hsz : sizes ss ≤ 1048576) (hp : sep.size ≤ maxLen) (ho : w.ownsRow base 9 1 (.slice A n c) n (strs ss)) :
    Calls Tryd.prog 26 #[.slice A n c, .string sep] w fun e w' => e = .returned (.tuple #[.string (bs (joinR ss sep)), .bool (joinOk ss sep)]) ∧ Below w.heap.size w w' := by
  unfold maxLen at hp
  by_cases h0 : 0 < n
  · by_cases h1 : sep.size = 1
    · obtain ⟨b, rfl⟩ := one_byte h1
      have hr := Row.of_own ho
      have e1 : (bs [b]).size = 1 := rfl
      have hJ := Lib.hid (join_len_eq b hn h0)
      have hnz : ((n : Int) == 0) = false := by simp; omega
      go_enter Tryd.func26, Tryd.ntmps26
      go_wp2
      go_loop [6, 22, 8] (fun q i _ => ∃ k : Nat, k ≤ n ∧ i = .int .i64 k ∧ q = .int .i64 ((n : Int) - 1 + (sizes (ss.take k) : Int)) ∧ (k = 0 ∨ n - 1 + sizes (ss.take k) ≤ 4000) ∧ Hid (FreeTo b ss k)) (fun _ i _ => n - (intOf i).toNat)
      case atStart => exact ⟨0, by omega, rfl, by simp [sizes], Or.inl rfl, fun i _ hi => by omega⟩
      case round =>
        obtain ⟨k, hk, rfl, rfl, hq, hf⟩ := hrel
        have hst := sizes_take_le ss k
        by_cases hlt : k < n
        · obtain ⟨bb, off, rfl, hbb, hc⟩ := hr.str (k := k) (by omega)
          have hs1 := Lib.hid (sizes_take ss k (by omega))
          have hst1 := sizes_take_le ss (k + 1)
          have he := Lib.hid (elS_at ss k (by omega))
          rw [hs1.out, ← he.out] at hst1
          by_cases hbig : n - 1 + sizes (ss.take k) + (elS ss k).size ≤ 4000
          · rcases Bool.eq_false_or_eq_true (standsB (elS ss k) b) with hb | hb
            · have hR := Lib.hid (join_bad_at (ss := ss) (b := b) (k := k) (by omega) (by rw [← he.out]; exact hb))
              have hR2 := Lib.hid (joinR_no hR.out)
              go_wp2_with (go_at_call 45; refine (contains_any _ _ _).mono ?_; rintro e w' ⟨rfl, rfl⟩)
              go_ret2
              exact ⟨ret_str (by rw [hR2.out]; rfl) hR.out.symm, Below.refl _ _⟩
            · have hF := Lib.hid (free_succ (b := b) (show k < ss.length by omega) hf.out (by rw [← he.out]; exact hb))
              go_wp2_with (go_at_call 45; refine (contains_any _ _ _).mono ?_; rintro e w' ⟨rfl, rfl⟩)
              go_round
              case rel => exact ⟨k + 1, by omega, by go_num, by rw [hs1.out, ← he.out]; go_num, Or.inr (by rw [hs1.out, ← he.out]; omega), hF.out⟩
              case measure => simp [intOf]; omega
          · have hR := Lib.hid (join_bad_long (ss := ss) (b := b) (by rw [hJ.out]; omega))
            have hR2 := Lib.hid (joinR_no hR.out)
            go_wp2
            go_ret2
            exact ⟨ret_str (by rw [hR2.out]; rfl) hR.out.symm, Below.refl _ _⟩
        · obtain rfl : k = n := by omega
          have e : ss.take k = ss := List.take_of_length_le (by omega)
          rw [e] at hq hst
          have hok := Lib.hid (join_good (ss := ss) (b := b) (by intro h; subst h; simp at hn; omega) (hn ▸ hf.out) (by rw [hJ.out]; omega))
          have hR := Lib.hid (joinR_yes hok.out)
          go_wp2_with fail
          refine (join_any A k c base ss (bs [b]) w hn h0 hle ho (by show (Lib.join (lst ss) [b]).length ≤ _; rw [hJ.out]; omega)).mono ?_
          rintro e w2 ⟨rfl, hb2⟩
          go_wp2
          go_ret2
          exact ⟨ret_str (by rw [hR.out]; rfl) hok.out.symm, hb2⟩
    · have hR := Lib.hid (join_bad_sep (ss := ss) h1)
      have hR2 := Lib.hid (joinR_no hR.out)
      have hne : ((sep.size : Int) != 1) = true := by simp; omega
      clear h1
      go_enter Tryd.func26, Tryd.ntmps26
      go_wp2
      go_ret2
      exact ⟨ret_str (by rw [hR2.out]; rfl) hR.out.symm, Below.refl _ _⟩
  · have hs0 : ss = [] := List.eq_nil_of_length_eq_zero (by omega)
    have hR := Lib.hid (show joinOk ss sep = false by rw [hs0]; exact join_bad_nil)
    have hR2 := Lib.hid (joinR_no hR.out)
    have hn0 : n = 0 := by omega
    subst hn0
    go_enter Tryd.func26, Tryd.ntmps26
    go_wp2
    go_ret2
    exact ⟨ret_str (by rw [hR2.out]; rfl) hR.out.symm, Below.refl _ _⟩

set_option maxHeartbeats 2000000 in
theorem specJoin_any (A : Option Addr) (n c : Nat) (ss : List ByteArray) (sep : ByteArray) (w : World) (hn : ss.length = n) (hle : n ≤ 1048576) (hsz : sizes ss ≤ 1048576) (hp : sep.size ≤ maxLen) (B : Nat) (hB : B ≤ w.heap.size) (hr : Row w B A (strs ss)) :
    Calls Tryd.prog 27 #[.slice A n c, .string sep] w fun e w' => e = .returned (.tuple #[.string (bs (joinR ss sep)), .bool (joinOk ss sep)]) ∧ Below w.heap.size w w' := by
  unfold maxLen at hp
  by_cases h0 : 0 < n
  · by_cases h1 : sep.size = 1
    · obtain ⟨b, rfl⟩ := one_byte h1
      have e0 : ((bs [b]).data[0]'(by show 0 < 1; omega)) = b := rfl
      have e2 : ((bs [b])[0]'(by show 0 < 1; omega)) = b := rfl
      have e1 : (bs [b]).size = 1 := rfl
      have hJ := Lib.hid (join_len_eq b hn h0)
      have hnz : ((n : Int) == 0) = false := by simp; omega
      change Calls Tryd.prog 27 #[.slice A n c, .string ⟨#[b]⟩] w _
      go_enter Tryd.func27, Tryd.ntmps27
      go_wp2
      go_loopw [6, 7] (fun q i wr => ∃ k : Nat, ∃ o : ByteArray, k ≤ n ∧ i = .int .i64 k ∧ q = .string o ∧ o.size ≤ 4000 ∧ Hid (o.data.toList = Lib.join (lst (ss.take k)) [b]) ∧ Hid (FreeTo b ss k) ∧ Below w.heap.size w wr) (fun _ i _ => n - (intOf i).toNat)
      case atStart => exact ⟨0, _, by omega, rfl, rfl, by show 0 ≤ 4000; omega, rfl, fun i _ hi => by omega, Below.refl _ _⟩
      case round =>
        obtain ⟨k, o, hk, rfl, rfl, hos, ho, hf, hbel⟩ := hrel
        by_cases hlt : k < n
        · obtain ⟨bb, off, rfl, hbb, hc⟩ := (hr.below_le hbel hB).str (k := k) (by omega)
          have he := Lib.hid (elS_at ss k (by omega))
          have hes := sizes_take_le ss (k + 1)
          rw [sizes_take ss k (by omega), ← he.out] at hes
          have hi1 : (0 : Int) ≤ (k : Int) := by omega
          have hi2 : (k : Int) < (n : Int) := by omega
          have hsm : (elS ss k).size ≤ maxLen := by unfold maxLen; omega
          rcases Bool.eq_false_or_eq_true (standsB (elS ss k) b) with hb | hb
          · have hR := Lib.hid (join_bad_at (ss := ss) (b := b) (k := k) (by omega) (by rw [← he.out]; exact hb))
            have hR2 := Lib.hid (joinR_no hR.out)
            go_wp2
            go_quiet ((go_at_call 42; exact Calls.quiet_of_same ((l1Stands_at (elS ss k) b _ (by rfl) _ hb _ hsm).mono fun _ _ h => ⟨h.1, h.2.symm⟩)))
            go_wp2
            go_ret2
            exact ⟨ret_str (by rw [hR2.out]; rfl) hR.out.symm, below_drewN hbel _⟩
          · have hF := Lib.hid (free_succ (b := b) (show k < ss.length by omega) hf.out (by rw [← he.out]; exact hb))
            have hjl := Lib.hid (join_take_le b ss (k + 1) (by omega) (by omega))
            by_cases hk0 : k = 0
            · subst hk0
              have hc0 : wr.cell? ⟨bb, off, none⟩ = some (.string (elS ss 0)) := hc
              have hj := Lib.hid (show (elS ss 0).data.toList = Lib.join (lst (ss.take 1)) [b] by rw [take_str ss 0 (by omega)]; simp [lst, Lib.join_one])
              have ho0 := Lib.hid (show o = ⟨#[]⟩ from bs_of (l := []) (by rw [ho.out]; rfl))
              go_wp2
              go_quiet ((go_at_call 42; exact Calls.quiet_of_same ((l1Stands_at (elS ss 0) b _ (by rfl) _ hb _ hsm).mono fun _ _ h => ⟨h.1, h.2.symm⟩)))
              by_cases hbig : o.size + (elS ss 0).size ≤ 4000
              · go_wp2
                go_roundw
                case rel => exact ⟨1, _, by omega, by go_num, rfl, by rw [bs_size', bs_append3, List.length_append, ← bs_size', ← bs_size']; omega, by show _ = _; rw [bs_append3, ho0.out, ← hj.out]; rfl, hF.out, below_drewN hbel _⟩
                case measure => simp [intOf]; omega
              · have hR := Lib.hid (join_bad_long (ss := ss) (b := b) (by have h1 := hjl.out; rw [← hj.out, ← bs_size'] at h1; have h2 := congrArg ByteArray.size ho0.out; have h3 : (⟨#[]⟩ : ByteArray).size = 0 := rfl; omega))
                have hR2 := Lib.hid (joinR_no hR.out)
                go_wp2
                go_ret2
                exact ⟨ret_str (by rw [hR2.out]; rfl) hR.out.symm, below_drewN hbel _⟩
            · have hj := Lib.hid (show o.data.toList ++ [b] ++ (elS ss k).data.toList = Lib.join (lst (ss.take (k + 1))) [b] by
                rw [take_str ss k (by omega), lst_snoc, joinS_snoc, ho.out]
                intro e
                have := congrArg List.length e
                rw [lst_len, List.length_take, List.length_nil] at this
                omega)
              have hk0' : (0 : Int) < (k : Int) := by omega
              go_wp2
              go_quiet ((go_at_call 42; exact Calls.quiet_of_same ((l1Stands_at (elS ss k) b _ (by rfl) _ hb _ hsm).mono fun _ _ h => ⟨h.1, h.2.symm⟩)))
              by_cases hbig : o.size + 1 + (elS ss k).size ≤ 4000
              · go_wp2
                go_roundw
                case rel => exact ⟨k + 1, _, by omega, by go_num, rfl, by rw [bs_size', bs_append3, bs_append3, List.length_append, List.length_append, ← bs_size', ← bs_size']; exact hbig, by show _ = _; rw [bs_append3, bs_append3]; exact hj.out, hF.out, below_drewN hbel _⟩
                case measure => simp [intOf]; omega
              · have hR := Lib.hid (join_bad_long (ss := ss) (b := b) (by have h1 := hjl.out; rw [← hj.out, List.length_append, List.length_append, ← bs_size', ← bs_size'] at h1; simp only [List.length_cons, List.length_nil] at h1; omega))
                have hR2 := Lib.hid (joinR_no hR.out)
                go_wp2
                go_ret2
                exact ⟨ret_str (by rw [hR2.out]; rfl) hR.out.symm, below_drewN hbel _⟩
        · obtain rfl : k = n := by omega
          have ho' := Lib.hid (show o.data.toList = Lib.join (lst ss) [b] by rw [ho.out, List.take_of_length_le (by omega)])
          have hok := Lib.hid (join_good (ss := ss) (b := b) (by intro h; subst h; simp at hn; omega) (hn ▸ hf.out) (by rw [← ho'.out, ← bs_size']; exact hos))
          have hR := Lib.hid (joinR_yes hok.out)
          go_wp2
          go_ret2
          exact ⟨ret_str (by rw [hR.out]; exact bs_of ho'.out) hok.out.symm, hbel⟩
    · have hR := Lib.hid (join_bad_sep (ss := ss) h1)
      have hR2 := Lib.hid (joinR_no hR.out)
      have hne : ((sep.size : Int) != 1) = true := by simp; omega
      clear h1
      go_enter Tryd.func27, Tryd.ntmps27
      go_wp2
      go_ret2
      exact ⟨ret_str (by rw [hR2.out]; rfl) hR.out.symm, Below.refl _ _⟩
  · have hs0 : ss = [] := List.eq_nil_of_length_eq_zero (by omega)
    have hR := Lib.hid (show joinOk ss sep = false by rw [hs0]; exact join_bad_nil)
    have hR2 := Lib.hid (joinR_no hR.out)
    have hn0 : n = 0 := by omega
    subst hn0
    go_enter Tryd.func27, Tryd.ntmps27
    go_wp2
    all_goals
      go_ret2
      exact ⟨ret_str (by rw [hR2.out]; rfl) hR.out.symm, Below.refl _ _⟩
end Go.Proofs.YtpnomnicfkjcgaaDoor
