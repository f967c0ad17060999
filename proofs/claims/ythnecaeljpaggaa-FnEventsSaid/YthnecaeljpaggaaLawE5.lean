/- The walk of the law FnEvents. No condition. -/
import Derived.Test.YthnecaeljpaggaaCurEv
import Derived.Test.YthnecaeljpaggaaPEv2
import Derived.Test.YthnecaeljpaggaaVInts
import Derived.Test.YthnecaeljpaggaaEvLu
import Derived.Test.YthnecaeljpaggaaEvHeld
namespace Go.Proofs.Ythnecaeljpaggaa
open Go.RowKit

theorem row_draw {w : World} {B : Nat} {A : Option Addr} {cs : List Value} (h : Row w B A cs) (k : Nat) : Row (w.drewN k) B A cs := h.keep fun _ _ => rfl
theorem dn_take {l : List Ev} {j : Nat} (h : j < l.length) : dnAll (l.take (j + 1)) = dnStep (dnAll (l.take j)) (evt l j) := by rw [evt_take l j h, dnAll_snoc]
theorem or_take {l : List Int} {j : Nat} (h : j < l.length) : orAll (l.take (j + 1)) = orAll (l.take j) ||| (elt l j).toNat := by rw [take_int l j h, orAll_snoc]
theorem orAll_bd (l : List Int) : (∀ x ∈ l, 0 ≤ x ∧ x < 8388608) → orAll l < 2 ^ 23 := by
  refine snoc_ind (P := fun l => (∀ x ∈ l, 0 ≤ x ∧ x < 8388608) → orAll l < 2 ^ 23) (by simp [orAll]) ?_ l
  intro l x ih h
  rw [orAll_snoc]
  have := h x (by simp)
  exact Nat.or_lt_two_pow (ih fun y hy => h y (by simp [hy])) (by omega)
/-- What both modes give of any list. -/
theorem ev_facts (l : List Ev) : (luR l).length ≤ (fuR l).length ∧ (luT l).length = (luR l).length ∧ Sub (orAll (luR l)) (if evOk l then dnAll l else 0) ∧ ∀ x ∈ luR l, 0 ≤ x ∧ x < 8388608 := by
  by_cases h : evOk l = true
  · have b := both_ok h
    have e1 : luR l = (luRun l).out := by rw [luR, if_pos h]
    have e2 : fuR l = (fuRun l).2.2 := by rw [fuR, if_pos h]
    have e3 : luT l = (luRun l).times := by rw [luT, if_pos h]
    rw [e1, e2, e3, if_pos h]
    exact ⟨b.le, (lu_lens l).2, b.all, b.nn⟩
  · have e1 : luR l = [] := by rw [luR, if_neg h]
    have e3 : luT l = [] := by rw [luT, if_neg h]
    rw [e1, e3]
    exact ⟨by simp, rfl, fun i hi => by simp [orAll] at hi, fun x hx => by simp at hx⟩

set_option maxRecDepth 100000 in
set_option maxHeartbeats 4000000 in
theorem lawEvents (A : Option Addr) (n c : Nat) (w : World) (hn : n ≤ maxLen) (hcode : n ≤ 65536 → Code w A n) : Calls Try.prog 10 #[.slice A n c] w fun e w' => e = .returned (.bool true) ∧ Below w.heap.size w w' := by
  by_cases hb : 65536 < n
  · have hd : decide (65536 < n) = true := by simpa using hb
    go_enter Try.func10, Try.ntmps10
    go_wp2_with (go_at_call 32; refine (vBig_any A n c _ hn).mono ?_; rintro e w' ⟨rfl, rfl⟩)
    go_ret
    exact ⟨rfl, Below.refl _ _⟩
  · have hd : decide (65536 < n) = false := by simpa using hb
    have hc := hcode (by omega)
    go_enter Try.func10, Try.ntmps10
    go_wp2_with fail
    refine (vBig_any A n c w hn).mono ?_
    rintro e w' ⟨rfl, rfl⟩
    go_wp2_with fail
    refine (drawLastUp_any A n c w hc).mono ?_
    rintro e w1 ⟨A1, n1, c1, es, rfl, hel, hn1, rE, b1⟩
    have hm : n1 ≤ maxLen := by unfold maxLen; omega
    go_wp2_with fail
    refine (implLast_any A1 n1 c1 es w1 hel hm rE).mono ?_
    rintro e w2 ⟨Aa, ca, rfl, hoa, hb2⟩
    have b2 := b1.trans (hb2.mono b1.size)
    have rE := (rE.below_le hb2 (Nat.le_refl _)).mono hb2.size
    have ra := Row.of_own hoa
    clear hoa
    go_wp2_with fail
    refine (implFu_any A1 n1 c1 es w2 hel hm rE).mono ?_
    rintro e w3 ⟨Ab, cb, rfl, hob, hb3⟩
    have b3 := b2.trans (hb3.mono b2.size)
    have rE := (rE.below_le hb3 (Nat.le_refl _)).mono hb3.size
    have ra := (ra.below_le hb3 (Nat.le_refl _)).mono hb3.size
    have rb := Row.of_own hob
    clear hob
    go_wp2_with fail
    refine (implHeld_any A1 n1 c1 es w3 hel hm rE).mono ?_
    rintro e w4 ⟨Ah, ch, rfl, hoh, hb4⟩
    have b4 := b3.trans (hb4.mono b3.size)
    have rE := (rE.below_le hb4 (Nat.le_refl _)).mono hb4.size
    have ra := (ra.below_le hb4 (Nat.le_refl _)).mono hb4.size
    have rb := (rb.below_le hb4 (Nat.le_refl _)).mono hb4.size
    have rh := Row.of_own hoh
    clear hoh
    go_wp2_with fail
    refine (implTimes_any A1 n1 c1 es w4 hel hm rE).mono ?_
    rintro e w5 ⟨At, ct, rfl, hot, hb5⟩
    have b5 := b4.trans (hb5.mono b4.size)
    have rE := (rE.below_le hb5 (Nat.le_refl _)).mono hb5.size
    have ra := (ra.below_le hb5 (Nat.le_refl _)).mono hb5.size
    have rb := (rb.below_le hb5 (Nat.le_refl _)).mono hb5.size
    have rh := (rh.below_le hb5 (Nat.le_refl _)).mono hb5.size
    have rt := Row.of_own hot
    clear hot
    go_wp2_with fail
    refine (specLast_any A1 n1 c1 es w5 hel hm rE).mono ?_
    rintro e w6 ⟨Awa, cwa, rfl, howa, hb6⟩
    have b6 := b5.trans (hb6.mono b5.size)
    have rE := (rE.below_le hb6 (Nat.le_refl _)).mono hb6.size
    have ra := (ra.below_le hb6 (Nat.le_refl _)).mono hb6.size
    have rb := (rb.below_le hb6 (Nat.le_refl _)).mono hb6.size
    have rh := (rh.below_le hb6 (Nat.le_refl _)).mono hb6.size
    have rt := (rt.below_le hb6 (Nat.le_refl _)).mono hb6.size
    have rwa := Row.of_own howa
    clear howa
    go_wp2_with fail
    refine (specFu_any A1 n1 c1 es w6 hel hm rE).mono ?_
    rintro e w7 ⟨Awb, cwb, rfl, howb, hb7⟩
    have b7 := b6.trans (hb7.mono b6.size)
    have rE := (rE.below_le hb7 (Nat.le_refl _)).mono hb7.size
    have ra := (ra.below_le hb7 (Nat.le_refl _)).mono hb7.size
    have rb := (rb.below_le hb7 (Nat.le_refl _)).mono hb7.size
    have rh := (rh.below_le hb7 (Nat.le_refl _)).mono hb7.size
    have rt := (rt.below_le hb7 (Nat.le_refl _)).mono hb7.size
    have rwa := (rwa.below_le hb7 (Nat.le_refl _)).mono hb7.size
    have rwb := Row.of_own howb
    clear howb
    go_wp2_with fail
    refine (specHeld_any A1 n1 c1 es w7 hel hm rE).mono ?_
    rintro e w8 ⟨Awh, cwh, rfl, howh, hb8⟩
    have b8 := b7.trans (hb8.mono b7.size)
    have rE := (rE.below_le hb8 (Nat.le_refl _)).mono hb8.size
    have ra := (ra.below_le hb8 (Nat.le_refl _)).mono hb8.size
    have rb := (rb.below_le hb8 (Nat.le_refl _)).mono hb8.size
    have rh := (rh.below_le hb8 (Nat.le_refl _)).mono hb8.size
    have rt := (rt.below_le hb8 (Nat.le_refl _)).mono hb8.size
    have rwa := (rwa.below_le hb8 (Nat.le_refl _)).mono hb8.size
    have rwb := (rwb.below_le hb8 (Nat.le_refl _)).mono hb8.size
    have rwh := Row.of_own howh
    clear howh
    go_wp2_with fail
    refine (specTimes_any A1 n1 c1 es w8 hel hm rE).mono ?_
    rintro e w9 ⟨Awt, cwt, rfl, howt, hb9⟩
    have b9 := b8.trans (hb9.mono b8.size)
    have rE := (rE.below_le hb9 (Nat.le_refl _)).mono hb9.size
    have ra := (ra.below_le hb9 (Nat.le_refl _)).mono hb9.size
    have rb := (rb.below_le hb9 (Nat.le_refl _)).mono hb9.size
    have rh := (rh.below_le hb9 (Nat.le_refl _)).mono hb9.size
    have rt := (rt.below_le hb9 (Nat.le_refl _)).mono hb9.size
    have rwa := (rwa.below_le hb9 (Nat.le_refl _)).mono hb9.size
    have rwb := (rwb.below_le hb9 (Nat.le_refl _)).mono hb9.size
    have rwh := (rwh.below_le hb9 (Nat.le_refl _)).mono hb9.size
    have rwt := Row.of_own howt
    clear howt
    go_wp2_with fail
    refine (implValidEv_any A1 n1 c1 es w9 hel hm w9.heap.size (Nat.le_refl _) rE).mono ?_
    rintro e w10 ⟨rfl, hb10⟩
    have b10 := b9.trans (hb10.mono b9.size)
    have rE := (rE.below_le hb10 (Nat.le_refl _)).mono hb10.size
    have ra := (ra.below_le hb10 (Nat.le_refl _)).mono hb10.size
    have rb := (rb.below_le hb10 (Nat.le_refl _)).mono hb10.size
    have rh := (rh.below_le hb10 (Nat.le_refl _)).mono hb10.size
    have rt := (rt.below_le hb10 (Nat.le_refl _)).mono hb10.size
    have rwa := (rwa.below_le hb10 (Nat.le_refl _)).mono hb10.size
    have rwb := (rwb.below_le hb10 (Nat.le_refl _)).mono hb10.size
    have rwh := (rwh.below_le hb10 (Nat.le_refl _)).mono hb10.size
    have rwt := (rwt.below_le hb10 (Nat.le_refl _)).mono hb10.size
    have la := luR_len es
    have lb := fuR_len es
    have lh := heldR_len es
    have lt := luT_len es
    go_wp2_with fail
    refine (vInts_below Aa Awa _ ca cwa (luR es) w10 rfl (by omega) _ ra rwa).mono ?_
    rintro e w11 ⟨rfl, hb11⟩
    have b11 := b10.trans (hb11.mono b10.size)
    have rE := (rE.below_le hb11 (Nat.le_refl _)).mono hb11.size
    have ra := (ra.below_le hb11 (Nat.le_refl _)).mono hb11.size
    have rb := (rb.below_le hb11 (Nat.le_refl _)).mono hb11.size
    have rh := (rh.below_le hb11 (Nat.le_refl _)).mono hb11.size
    have rt := (rt.below_le hb11 (Nat.le_refl _)).mono hb11.size
    have rwa := (rwa.below_le hb11 (Nat.le_refl _)).mono hb11.size
    have rwb := (rwb.below_le hb11 (Nat.le_refl _)).mono hb11.size
    have rwh := (rwh.below_le hb11 (Nat.le_refl _)).mono hb11.size
    have rwt := (rwt.below_le hb11 (Nat.le_refl _)).mono hb11.size
    go_wp2_with fail
    refine (vInts_below Ab Awb _ cb cwb (fuR es) w11 rfl (by omega) _ rb rwb).mono ?_
    rintro e w12 ⟨rfl, hb12⟩
    have b12 := b11.trans (hb12.mono b11.size)
    have rE := (rE.below_le hb12 (Nat.le_refl _)).mono hb12.size
    have ra := (ra.below_le hb12 (Nat.le_refl _)).mono hb12.size
    have rb := (rb.below_le hb12 (Nat.le_refl _)).mono hb12.size
    have rh := (rh.below_le hb12 (Nat.le_refl _)).mono hb12.size
    have rt := (rt.below_le hb12 (Nat.le_refl _)).mono hb12.size
    have rwa := (rwa.below_le hb12 (Nat.le_refl _)).mono hb12.size
    have rwb := (rwb.below_le hb12 (Nat.le_refl _)).mono hb12.size
    have rwh := (rwh.below_le hb12 (Nat.le_refl _)).mono hb12.size
    have rwt := (rwt.below_le hb12 (Nat.le_refl _)).mono hb12.size
    go_wp2_with fail
    refine (vInts_below Ah Awh _ ch cwh (heldR es) w12 rfl (by omega) _ rh rwh).mono ?_
    rintro e w13 ⟨rfl, hb13⟩
    have b13 := b12.trans (hb13.mono b12.size)
    have rE := (rE.below_le hb13 (Nat.le_refl _)).mono hb13.size
    have ra := (ra.below_le hb13 (Nat.le_refl _)).mono hb13.size
    have rb := (rb.below_le hb13 (Nat.le_refl _)).mono hb13.size
    have rh := (rh.below_le hb13 (Nat.le_refl _)).mono hb13.size
    have rt := (rt.below_le hb13 (Nat.le_refl _)).mono hb13.size
    have rwa := (rwa.below_le hb13 (Nat.le_refl _)).mono hb13.size
    have rwb := (rwb.below_le hb13 (Nat.le_refl _)).mono hb13.size
    have rwh := (rwh.below_le hb13 (Nat.le_refl _)).mono hb13.size
    have rwt := (rwt.below_le hb13 (Nat.le_refl _)).mono hb13.size
    go_wp2_with fail
    refine (vInts_below At Awt _ ct cwt (luT es) w13 rfl (by omega) _ rt rwt).mono ?_
    rintro e w14 ⟨rfl, hb14⟩
    have b14 := b13.trans (hb14.mono b13.size)
    have rE := (rE.below_le hb14 (Nat.le_refl _)).mono hb14.size
    have ra := (ra.below_le hb14 (Nat.le_refl _)).mono hb14.size
    have rb := (rb.below_le hb14 (Nat.le_refl _)).mono hb14.size
    have rh := (rh.below_le hb14 (Nat.le_refl _)).mono hb14.size
    have rt := (rt.below_le hb14 (Nat.le_refl _)).mono hb14.size
    have rwa := (rwa.below_le hb14 (Nat.le_refl _)).mono hb14.size
    have rwb := (rwb.below_le hb14 (Nat.le_refl _)).mono hb14.size
    have rwh := (rwh.below_le hb14 (Nat.le_refl _)).mono hb14.size
    have rwt := (rwt.below_le hb14 (Nat.le_refl _)).mono hb14.size
    have bz := b14
    obtain ⟨f1, f2, f3, f4⟩ := ev_facts es
    have F2 := Lib.hid f2
    have F3 := Lib.hid (sub_and f3)
    have F4 := Lib.hid f4
    have hoz := orAll_bd _ f4
    have hbnd := Lib.hid (fun k => orAll_bd ((luR es).take k) (fun x hx => f4 x (List.mem_of_mem_take hx)))
    clear f2 f3 f4
    rcases Bool.eq_false_or_eq_true (evOk es) with hv | hv
    · have HV := Lib.hid hv
      obtain ⟨v1, v2⟩ := ev_valid hv
      have V2 := Lib.hid v2
      clear v2
      have hdb := Lib.hid (dnAll_bd es (fun e he => by
        obtain ⟨i, hi⟩ := List.getElem?_of_mem he
        have hlt := (List.getElem?_eq_some_iff.1 hi).1
        obtain ⟨_, _, _, _, _, _, q, _⟩ := V2.out i hlt
        have : evt es i = e := by rw [evt, List.getD_eq_getElem?_getD, hi]; rfl
        rwa [this] at q))
      rw [hv, if_pos rfl] at F3
      go_wp2
      go_loop [20, 22] (fun d i => ∃ j dn : Nat, j ≤ n1 ∧ i = .int .i64 j ∧ d = .int .i64 dn ∧ Hid (dn = dnAll (es.take j)) ∧ dn < 8388608) (fun _ i => n1 - (intOf i).toNat)
      case atStart => exact ⟨0, 0, by omega, rfl, rfl, rfl, by omega⟩
      case round =>
        obtain ⟨j, dn, hj, rfl, rfl, hdn, hdl⟩ := hrel
        by_cases hlt : j < n1
        · obtain ⟨_, _, _, _, _, k0, k1, _⟩ := V2.out j (by omega)
          obtain ⟨bq, oq, rfl, hbq, hc1, hc2, hc3⟩ := rE.ev (j := j) (by omega)
          have ht := Lib.hid (dn_take (l := es) (j := j) (by omega))
          have ho := Lib.hid (or_bit dn (evt es j).k.toNat (by omega) (by omega))
          have hol := Lib.hid (Nat.or_lt_two_pow (n := 23) (show dn < 2 ^ 23 by omega) (Nat.pow_lt_pow_right (by omega : 1 < 2) (show (evt es j).k.toNat < 23 by omega)))
          rcases Bool.eq_false_or_eq_true (evt es j).d with hd | hd
          · have hs := Lib.hid (show dnAll (es.take (j + 1)) = dn ||| 2 ^ (evt es j).k.toNat by rw [ht.out, dnStep, if_pos hd, hdn.out])
            go_wp2
            go_round
            case rel => exact ⟨j + 1, _, by omega, by go_num, by rw [ho.out], hs.out.symm, by have := hol.out; omega⟩
            case measure => simp [intOf]; omega
          · have hs := Lib.hid (show dnAll (es.take (j + 1)) = dn by rw [ht.out, dnStep, if_neg (by rw [hd]; simp), hdn.out])
            go_wp2
            go_round
            case rel => exact ⟨j + 1, dn, by omega, by go_num, rfl, hs.out.symm, hdl⟩
            case measure => simp [intOf]; omega
        · obtain rfl : j = n1 := by omega
          have hdn' := Lib.hid (show dn = dnAll es by rw [hdn.out, List.take_of_length_le (by omega)])
          clear hdn
          go_wp2
          go_loop [21, 23] (fun a i => ∃ j al : Nat, j ≤ (luR es).length ∧ i = .int .i64 j ∧ a = .int .i64 al ∧ Hid (al = orAll ((luR es).take j)) ∧ al < 8388608) (fun _ i => (luR es).length - (intOf i).toNat)
          case atStart => exact ⟨0, 0, by omega, rfl, rfl, rfl, by omega⟩
          case round =>
            obtain ⟨j, al, hj, rfl, rfl, hal, hall⟩ := hrel
            by_cases hlt : j < (luR es).length
            · obtain ⟨bq, oq, rfl, hbq, hcc⟩ := ra.int hlt
              have ht := Lib.hid (or_take (l := luR es) (j := j) hlt)
              have hx := F4.out _ (elt_in (luR es) j hlt)
              generalize elt (luR es) j = x at hcc ht hx
              obtain ⟨xn, rfl⟩ := Int.eq_ofNat_of_zero_le hx.1
              have ho := Lib.hid (or_nat al xn (by omega) (by omega))
              have hol := Lib.hid (Nat.or_lt_two_pow (n := 23) (show al < 2 ^ 23 by omega) (show xn < 2 ^ 23 by omega))
              clear hx
              go_wp2
              go_round
              case rel => exact ⟨j + 1, al ||| xn, by omega, by go_num, by rw [ho.out], by show _ = _; rw [ht.out, ← hal.out, Int.toNat_natCast], by have := hol.out; omega⟩
              case measure => simp [intOf]; omega
            · obtain rfl : j = (luR es).length := by omega
              have hand : bits .and .i64 (al : Int) (dn : Int) = (al : Int) := by
                rw [and_nat al dn (by omega) (by omega), hal.out, List.take_length, hdn'.out, F3.out]
              have hlt' : (luT es).length = (luR es).length := F2.out
              go_wp2
              go_ret
              exact ⟨rfl, bz⟩
    · have e1 : luR es = [] := by rw [luR, hv]; rfl
      have e3 : luT es = [] := by rw [luT, hv]; rfl
      have z1 : (luR es).length = 0 := by rw [e1]; rfl
      have z3 : (luT es).length = 0 := by rw [e3]; rfl
      have Z1 := Lib.hid z1
      clear e1 e3 z1 z3
      go_wp2
      go_loop [20, 22] (fun d i => i = .int .i64 0 ∧ d = .int .i64 0) (fun _ _ => 0)
      case atStart => exact ⟨rfl, rfl⟩
      case round =>
        obtain ⟨rfl, rfl⟩ := hrel
        go_wp2
        all_goals
          go_loop [21, 23] (fun d i => ∃ j : Nat, j ≤ (luR es).length ∧ i = .int .i64 j ∧ d = .int .i64 0) (fun _ i => (luR es).length - (intOf i).toNat)
          case atStart => exact ⟨0, by omega, rfl, rfl⟩
          case round =>
            obtain ⟨j, hj, rfl, rfl⟩ := hrel
            by_cases hlt : j < (luR es).length
            · exact absurd Z1.out (by omega)
            · obtain rfl : j = (luR es).length := by omega
              have hlt' : (luT es).length = (luR es).length := F2.out
              go_wp2
              go_ret
              exact ⟨rfl, bz⟩
end Go.Proofs.Ythnecaeljpaggaa
