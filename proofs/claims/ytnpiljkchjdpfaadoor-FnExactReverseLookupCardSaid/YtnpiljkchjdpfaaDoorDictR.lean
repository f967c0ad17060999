/- Contracts on the outlines that stand for a text. Condition: the cell of internal/bytealg.MaxLen is an int; sizes of at most 2^20. -/
import Derived.Test.YtnpiljkchjdpfaaDoorDictM
import Derived.Test.YtnpiljkchjdpfaaDoorDictF
namespace Go.Proofs.YtnpiljkchjdpfaaDoor
open Go.RowKit

theorem ssT : ElemT Tryd.prog 44 22 (.slice none 0 0) 1 24 := ⟨Tryd.underlying44, by kernel_rfl, rfl, by decide⟩
theorem str_t {a b : ByteArray} (h : a = b) : (a.toList == b.toList) = true := by subst h; simp
theorem str_f {a b : ByteArray} (h : ¬ a = b) : (a.toList == b.toList) = false := by
  have e := beq_lit a b.data.toList
  rw [bs_self] at e
  rw [e, decide_eq_false_iff_not]
  exact fun e => h (ByteArray.ext (Array.toList_inj.1 e))
theorem revR_yes {d : List EV} {t : ByteArray} (h : dictB d = true) : revR d t = revL d t := by rw [revR, h]; rfl
theorem revR_no {d : List EV} {t : ByteArray} (h : dictB d = false) : revR d t = [] := by rw [revR, h]; rfl
theorem revR_len (d : List EV) (t : ByteArray) : (revR d t).length ≤ 40 := by
  rcases Bool.eq_false_or_eq_true (dictB d) with h | h
  · rw [revR_yes h]
    exact Nat.le_trans (revL_len d t) (dictB_iff h).1
  · rw [revR_no h]; simp
theorem revR_six (d : List EV) (t : ByteArray) : ∀ o ∈ revR d t, o.length ≤ 6 := fun o ho => by
  rcases Bool.eq_false_or_eq_true (dictB d) with h | h
  · rw [revR_yes h, revL] at ho
    obtain ⟨e, he, rfl⟩ := List.mem_map.1 ho
    exact dict_out6 h e (List.mem_filter.1 he).1
  · rw [revR_no h] at ho; cases ho
theorem revV_yes (l : List En) (t : ByteArray) (k : Nat) (h : k < l.length) (q : (enAt l k).t = t) : revL ((vals l).take (k + 1)) t = revL ((vals l).take k) t ++ [(enAt l k).o] := by
  rw [revL_succ _ _ _ (by rw [vals_len]; exact h), evAt_vals l k h, if_pos (show (enAt l k).v.2 = t from q)]
  rfl
theorem revV_no (l : List En) (t : ByteArray) (k : Nat) (h : k < l.length) (q : ¬ (enAt l k).t = t) : revL ((vals l).take (k + 1)) t = revL ((vals l).take k) t := by
  rw [revL_succ _ _ _ (by rw [vals_len]; exact h), evAt_vals l k h, if_neg (show ¬ (enAt l k).v.2 = t from q)]
theorem copyOf_any (A : Option Addr) (n c : Nat) (xs : List Int) (w : World) (hn : xs.length = n) (hle : n ≤ 4194304) (B : Nat) (hr : Row w B A (ints xs)) (hB : B ≤ w.heap.size) :
    Calls Tryd.prog 47 #[.slice A n c] w fun e w' => ∃ A' c', e = .returned (.slice A' n c') ∧ w'.ownsRow w.heap.size 3 1 (.slice A' n c') n (ints xs) ∧ Below w.heap.size w w' := by
  have hr1 := hr.grown (World.grownBy_alloc w (.cells #[] 3) none) hB (fun g e => by cases e)
  go_enter Tryd.func47, Tryd.ntmps47
  go_wp2_with (at_builtin; refine wpList_appRow intsT ((Below.refl _ w).alloc (Nat.le_refl _) _) (World.ownsRow_made _ _ _ (Nat.le_refl _) (by unfold maxLen; omega) (by simp)) A n c (ints xs) (by simp [ints, hn]) hr1 (ints_one xs) (Nat.le_refl _) (by simp) (by omega) (by decide) rfl (.tmp 3) (.tmp 4) rfl rfl rfl ?_; intro v' w' ho' hb' _ _)
  simp only [Nat.zero_add, List.nil_append] at ho'
  obtain ⟨A', c', rfl, _⟩ := own_slice ho'
  go_wp2
  go_ret
  exact ⟨A', c', rfl, ho', hb'⟩
theorem sOwn_v {w : World} {base : Nat} {te ti : TypeId} {v : Value} {l : List En} (h : OwnAll w base (sRows te ti v l)) : w.ownsRow base te 1 v l.length (lns l) := h.own (sRow te v l) (List.mem_cons_self ..)
def mkEn (A : Option Addr) (c : Nat) (o : List Int) : En := ⟨A, c, o, ⟨#[]⟩⟩
theorem outsL_snoc (l : List En) (e : En) : outsL (l ++ [e]) = outsL l ++ [e.o] := by simp [outsL]
theorem rev_len {l' : List En} {d : List EV} {t : ByteArray} {k : Nat} (h : outsL l' = revL (d.take k) t) : l'.length ≤ k := by
  have := congrArg List.length h
  rw [outsL_len] at this
  have h2 := revL_len (d.take k) t
  rw [List.length_take] at h2
  omega
set_option maxHeartbeats 2000000 in
theorem implRev_any (A : Option Addr) (n c : Nat) (l : List En) (t : ByteArray) (w : World) (m : Int) (hmax : w.cell? ⟨0, 0, none⟩ = some (.int .i64 m)) (hn : l.length = n) (hle : n ≤ 1048576) (hs : ∀ e ∈ l, e.o.length ≤ 1048576 ∧ e.t.size ≤ 1048576) (B : Nat) (hB : B ≤ w.heap.size) (hr : DRow w B A l) :
    Calls Tryd.prog 22 #[.agg #[.slice A n c], .string t] w fun e w' => ∃ A' c' l', e = .returned (.tuple #[.slice A' (revR (vals l) t).length c', .bool (dictB (vals l))]) ∧ outsL l' = revR (vals l) t ∧ OwnAll w' w.heap.size (sRows 22 3 (.slice A' (revR (vals l) t).length c') l') ∧ Below w.heap.size w w' := by
  have hlt0 : 0 < w.heap.size := World.block_lt_of_cell? w _ hmax
  have o0 := ownC_new 38 w #[.slice A n c]
  have b0 := (Below.refl w.heap.size w).alloc (Nat.le_refl _) (.cells #[.slice A n c] 38)
  have hV := Lib.hid (implValidDict_any A n c l (w.alloc (.cells #[.slice A n c] 38)) m ((b0.cell (p := ⟨0, 0, none⟩) hlt0).trans hmax) hn hle hs B (Nat.le_trans hB b0.size) (hr.below_le b0 hB))
  clear hmax
  rcases Bool.eq_false_or_eq_true (dictB (vals l)) with q | q
  · have hR := Lib.hid (revR_yes (t := t) q)
    have h6 := Lib.hid (dict_out6 q)
    have h40 : n ≤ 40 := by have := (dictB_iff q).1; rw [vals_len] at this; omega
    rw [q] at hV ⊢
    clear q
    go_enter Tryd.func22, Tryd.ntmps22
    go_wp2_with fail
    refine hV.out.mono ?_
    rintro e w1 ⟨rfl, hb1⟩
    have b1 := b0.trans (hb1.mono b0.size)
    have s1 := b1.size
    have o1 := o0.below hb1 (Nat.le_refl _)
    have c1 := (o1.alloc (.cells #[] 22)).cell (j := 0) rfl
    have ho := sOwn_nil (ti := 3) (World.ownsRow_made (e := 22) (size := 1) (base := w.heap.size) w1 #[] 0 s1 (by unfold maxLen; omega) (by simp))
    have b2 := b1.alloc s1 (.cells #[] 22)
    clear hV
    go_wp2
    go_loopw [6, 8, 16] (fun v _ i wr => ∃ k : Nat, ∃ l' : List En, k ≤ n ∧ i = .int .i64 k ∧ Hid (outsL l' = revL ((vals l).take k) t) ∧ OwnAll wr w.heap.size (sRows 22 3 v l') ∧ Below w.heap.size w wr) (fun _ _ i _ => n - (intOf i).toNat)
    case atStart => exact ⟨0, [], by omega, rfl, by show _ = _; simp [outsL, revL], ho, b2⟩
    case round =>
      obtain ⟨k, l', hk, rfl, hv, hown, hbel⟩ := hrel
      have hsz := hbel.size
      have hl' := rev_len hv.out
      by_cases hlt : k < n
      · obtain ⟨b, off, rfl, hb, hc1, hc2, hro⟩ := (hr.below_le hbel hB).at (j := k) (by omega)
        have hol : (enAt l k).o.length ≤ 6 := h6.out (enAt l k).v (List.mem_map.2 ⟨_, enAt_in l k (by omega), rfl⟩)
        have oE := ownC_new 27 wr #[.slice (enAt l k).A (enAt l k).o.length (enAt l k).c, .string (enAt l k).t]
        have ce0 := oE.cell (j := 0) rfl
        have ce1 := oE.cell (j := 1) rfl
        have hbA := (Below.refl wr.heap.size wr).alloc (Nat.le_refl _) (.cells #[.slice (enAt l k).A (enAt l k).o.length (enAt l k).c, .string (enAt l k).t] 27)
        have hown := hown.below hbA (Nat.le_refl _)
        have hbel := hbel.trans (hbA.mono hsz)
        by_cases he : (enAt l k).t = t
        · have hq := str_t he
          have hst := Lib.hid (revV_yes l t k (by omega) he)
          have hC := Lib.hid (copyOf_any (enAt l k).A (enAt l k).o.length (enAt l k).c (enAt l k).o _ rfl (by omega) B (hro.below_le hbA (by omega)) (Nat.le_trans hB hbel.size))
          have hs2 := hbel.size
          clear hro oE he
          go_wp2_with fail
          refine hC.out.mono ?_
          rintro e w2 ⟨A2, c2, rfl, ho2, hb2⟩
          have b3 := hbel.trans (hb2.mono hs2)
          have hown2 := Lib.hid (hown.below hb2 (Nat.le_refl _))
          have hvv := sOwn_v hown2.out
          go_wp2_with (at_builtin; refine wpList_app1 (.slice A2 (enAt l k).o.length c2) ssT b3 hvv rfl (Nat.le_refl _) b3.size (by omega) (by decide) rfl (.tmp 24) (.tmp 28) rfl rfl rfl ?_; intro v5 w5 ho5 b5 hg5 hat5)
          have hP := Lib.hid (sOwn_push (e := mkEn A2 c2 (enAt l k).o) hown hb2 (Nat.le_refl _) hs2 ho2 ho5 hg5 hat5)
          clear ho2 ho5 hg5 hat5 hvv
          go_roundw
          case rel => exact ⟨k + 1, l' ++ [mkEn A2 c2 (enAt l k).o], by omega, by go_num, by show _ = _; rw [outsL_snoc, hv.out, hst.out]; rfl, hP.out, b5⟩
          case measure => simp [intOf]; omega
        · have hq := str_f he
          have hst := Lib.hid (revV_no l t k (by omega) he)
          clear hro oE he
          go_wp2
          go_roundw
          case rel => exact ⟨k + 1, l', by omega, by go_num, by show _ = _; rw [hv.out, hst.out], hown, hbel⟩
          case measure => simp [intOf]; omega
      · obtain rfl : k = n := by omega
        have hall : (vals l).take k = vals l := List.take_of_length_le (by rw [vals_len]; omega)
        rw [hall] at hv
        have hN : l'.length = (revR (vals l) t).length := by rw [hR.out, ← hv.out, outsL_len]
        obtain ⟨A', c', rfl, _⟩ := own_slice (sOwn_v hown)
        rw [hN] at hown
        have hown := Lib.hid hown
        have hN := Lib.hid hN
        go_wp2
        go_ret2
        exact ⟨A', c', l', by rw [← hN.out]; rfl, hv.out.trans hR.out.symm, hown.out, hbel⟩
  · have hR := Lib.hid (revR_no (t := t) q)
    rw [q] at hV ⊢
    clear q
    go_enter Tryd.func22, Tryd.ntmps22
    go_wp2_with fail
    refine hV.out.mono ?_
    rintro e w1 ⟨rfl, hb1⟩
    go_wp2
    go_ret2
    exact ⟨none, 0, [], by rw [hR.out]; rfl, by rw [hR.out]; rfl, by rw [hR.out]; exact sOwn_nil ⟨rfl, Or.inl ⟨rfl, rfl⟩⟩, b0.trans (hb1.mono b0.size)⟩
set_option maxHeartbeats 2000000 in
theorem specRev_any (A : Option Addr) (n c : Nat) (l : List En) (t : ByteArray) (w : World) (hn : l.length = n) (hle : n ≤ 1048576) (hs : ∀ e ∈ l, e.o.length ≤ 1048576 ∧ e.t.size ≤ 1048576) (B : Nat) (hB : B ≤ w.heap.size) (hr : DRow w B A l) :
    Calls Tryd.prog 21 #[.agg #[.slice A n c], .string t] w fun e w' => ∃ A' c' l', e = .returned (.tuple #[.slice A' (revR (vals l) t).length c', .bool (dictB (vals l))]) ∧ outsL l' = revR (vals l) t ∧ OwnAll w' w.heap.size (sRows 22 3 (.slice A' (revR (vals l) t).length c') l') ∧ Below w.heap.size w w' := by
  have o0 := (ownC_new 38 w #[.slice A n c]).alloc (.cells #[] 22)
  have bA := (Below.refl w.heap.size w).alloc (Nat.le_refl _) (.cells #[.slice A n c] 38)
  have ho := sOwn_nil (ti := 3) (World.ownsRow_made (e := 22) (size := 1) (base := w.heap.size + 1) (w.alloc (.cells #[.slice A n c] 38)) #[] 0 (by simp) (by unfold maxLen; omega) (by simp))
  rw [show (w.alloc (.cells #[.slice A n c] 38)).heap.size = w.heap.size + 1 by simp] at ho
  have b0 := bA.alloc bA.size (.cells #[] 22)
  have hV := Lib.hid (l6Good_any A n c l _ hn hle hs B (Nat.le_trans hB b0.size) (hr.below_le b0 hB))
  rcases Bool.eq_false_or_eq_true (dictB (vals l)) with q | q
  · have hR := Lib.hid (revR_yes (t := t) q)
    have h6 := Lib.hid (dict_out6 q)
    have h40 : n ≤ 40 := by have := (dictB_iff q).1; rw [vals_len] at this; omega
    rw [q] at hV ⊢
    clear q
    go_enter Tryd.func21, Tryd.ntmps21
    go_wp2_with fail
    refine hV.out.mono ?_
    rintro e w1 ⟨rfl, hb1⟩
    have b1 := b0.trans (hb1.mono b0.size)
    have o1 := o0.below hb1 (Nat.le_refl _)
    have ho1 := ho.below hb1 (Nat.le_refl _)
    clear hV ho o0
    go_wp2
    go_loopw [6, 7] (fun v i wr => ∃ k : Nat, ∃ l' : List En, k ≤ n ∧ i = .int .i64 k ∧ Hid (outsL l' = revL ((vals l).take k) t) ∧ OwnAll wr (w.heap.size + 1) (sRows 22 3 v l') ∧ ownC 38 wr w.heap.size w.heap.size [.slice A n c] ∧ Below w.heap.size w wr) (fun _ i _ => n - (intOf i).toNat)
    case atStart => exact ⟨0, [], by omega, rfl, by show _ = _; simp [outsL, revL], ho1, o1, b1⟩
    case round =>
      obtain ⟨k, l', hk, rfl, hv, hown, hoD, hbel⟩ := hrel
      have hsz := hbel.size
      have hl' := rev_len hv.out
      have hcd := hoD.cell (j := 0) rfl
      have hwl : w.heap.size + 1 ≤ wr.heap.size := hoD.lt.2
      by_cases hlt : k < n
      · obtain ⟨b, off, rfl, hb, hc1, hc2, hro⟩ := (hr.below_le hbel hB).at (j := k) (by omega)
        have hol : (enAt l k).o.length ≤ 6 := h6.out (enAt l k).v (List.mem_map.2 ⟨_, enAt_in l k (by omega), rfl⟩)
        by_cases he : (enAt l k).t = t
        · have hq := str_t he
          have hst := Lib.hid (revV_yes l t k (by omega) he)
          have hC := Lib.hid (l1Own_any (enAt l k).A (enAt l k).o.length (enAt l k).c (enAt l k).o wr rfl (by omega) B hro (Nat.le_trans hB hsz))
          clear hro he
          go_wp2_with fail
          refine hC.out.mono ?_
          rintro e w2 ⟨A2, c2, rfl, ho2, hb2⟩
          have b3 := hbel.trans (hb2.mono hsz)
          have hown2 := Lib.hid (hown.below hb2 (Nat.le_refl _))
          have hvv := sOwn_v hown2.out
          have hoD2 := Lib.hid (hoD.below hb2 (Nat.le_refl _))
          have hge := hown2.out.ge
          go_wp2_with (at_builtin; refine wpList_app1 (.slice A2 (enAt l k).o.length c2) ssT b3 hvv rfl (Nat.le_succ _) (by have := hb2.size; omega) (by omega) (by decide) rfl (.tmp 28) (.tmp 36) rfl rfl rfl ?_; intro v5 w5 ho5 b5 hg5 hat5)
          have hP := Lib.hid (sOwn_push (e := mkEn A2 c2 (enAt l k).o) hown hb2 (Nat.le_refl _) hwl ho2 ho5 hg5 hat5)
          have hoD5 := Lib.hid (hoD2.out.grown hg5 (fun e => by have := (hvv.lt _ e).1; omega))
          clear ho2 ho5 hg5 hat5 hvv hge
          go_roundw
          case rel => exact ⟨k + 1, l' ++ [mkEn A2 c2 (enAt l k).o], by omega, by go_num, by show _ = _; rw [outsL_snoc, hv.out, hst.out]; rfl, hP.out, hoD5.out, b5⟩
          case measure => simp [intOf]; omega
        · have hq := str_f he
          have hst := Lib.hid (revV_no l t k (by omega) he)
          clear hro he
          go_wp2
          go_roundw
          case rel => exact ⟨k + 1, l', by omega, by go_num, by show _ = _; rw [hv.out, hst.out], hown, hoD, hbel⟩
          case measure => simp [intOf]; omega
      · obtain rfl : k = n := by omega
        have hall : (vals l).take k = vals l := List.take_of_length_le (by rw [vals_len]; omega)
        rw [hall] at hv
        have hN : l'.length = (revR (vals l) t).length := by rw [hR.out, ← hv.out, outsL_len]
        obtain ⟨A', c', rfl, _⟩ := own_slice (sOwn_v hown)
        rw [hN] at hown
        have hown := Lib.hid (hown.base_le (Nat.le_succ _))
        have hN := Lib.hid hN
        go_wp2
        go_ret2
        exact ⟨A', c', l', by rw [← hN.out]; rfl, hv.out.trans hR.out.symm, hown.out, hbel⟩
  · have hR := Lib.hid (revR_no (t := t) q)
    rw [q] at hV ⊢
    clear q
    go_enter Tryd.func21, Tryd.ntmps21
    go_wp2_with fail
    refine hV.out.mono ?_
    rintro e w1 ⟨rfl, hb1⟩
    have ho1 := ho.below hb1 (Nat.le_refl _)
    go_wp2
    go_ret2
    exact ⟨_, _, [], by rw [hR.out]; rfl, by rw [hR.out]; rfl, by rw [hR.out]; exact ho1.base_le (Nat.le_succ _), b0.trans (hb1.mono b0.size)⟩
end Go.Proofs.YtnpiljkchjdpfaaDoor
