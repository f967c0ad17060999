/- Contracts of ChordEvents. Condition: at most 2^20 strokes. -/
import Derived.Test.YthnecaeljpaggaaPChord
import Derived.Test.YthnecaeljpaggaaMem3
import Derived.Test.YthnecaeljpaggaaEvS
import Derived.Test.YthnecaeljpaggaaKeys
namespace Go.Proofs.Ythnecaeljpaggaa
open Go.RowKit

def dnB (p : Nat) : Bool := decide (p = 0)
/-- The events of some keys in one of the two phases. -/
def blkK (iv : Int) (i p : Nat) (ks : List Int) : List Ev := ks.map fun k => ⟨(2 * (i : Int) + (p : Int)) * iv, k, dnB p⟩
def chMid (iv : Int) (i : Nat) (s : Int) : Nat → List Ev
  | 0 => []
  | p + 1 => chMid iv i s p ++ blkK iv i p (keysL s)
theorem blkK_len (iv : Int) (i p : Nat) (ks : List Int) : (blkK iv i p ks).length = ks.length := by simp [blkK]
theorem blkK_succ (iv : Int) (i p : Nat) (s : Int) (j : Nat) (h : j < (keysL s).length) : blkK iv i p ((keysL s).take (j + 1)) = blkK iv i p ((keysL s).take j) ++ [⟨(2 * (i : Int) + (p : Int)) * iv, elt (keysL s) j, dnB p⟩] := by
  rw [take_int _ j h]; simp [blkK]
theorem chMid_two (iv : Int) (l : List Int) (k : Nat) (h : k < l.length) : chordL iv (l.take k) ++ chMid iv k (elt l k) 2 = chordL iv (l.take (k + 1)) := by
  have hl : (l.take k).length = k := by rw [List.length_take]; omega
  rw [take_int l k h, chordL_snoc, hl]
  have e1 : blkK iv k 0 (keysL (elt l k)) = chordDn iv k (elt l k) := by simp [blkK, chordDn, dnB]
  have e2 : blkK iv k 1 (keysL (elt l k)) = chordUp iv k (elt l k) := by simp [blkK, chordUp, dnB]
  simp only [chMid, List.nil_append]
  rw [e1, e2, List.append_assoc]
theorem chMid_len (iv : Int) (k : Nat) (s : Int) (p : Nat) : (chMid iv k s p).length = p * (keysL s).length := by
  induction p with
  | zero => simp [chMid]
  | succ p ih => rw [chMid, List.length_append, blkK_len, ih, Nat.succ_mul]
theorem chordR_len (iv : Int) (l : List Int) : (chordR iv l).length ≤ 200 := by
  unfold chordR
  split
  · rename_i h; exact (chordOk_iff h).2.2
  · simp
def GoodTo (l : List Int) (k : Nat) : Prop := ∀ i, i < k → goodB (elt l i) = true
theorem chord_k {iv : Int} {l : List Int} {k : Nat} (hk : k ≤ l.length) (h : GoodTo l k) (h2 : (chordL iv (l.take k)).length ≤ 200) : k ≤ 100 := by
  have := chord_len2 iv (l.take k) (fun x hx => by
    obtain ⟨i, hi⟩ := List.getElem?_of_mem hx
    have hlt := (List.getElem?_eq_some_iff.1 hi).1
    rw [List.length_take] at hlt
    have := h i (by omega)
    rw [List.getElem?_take, if_pos (by omega)] at hi
    rw [elt, List.getD_eq_getElem?_getD, hi] at this
    exact this)
  rw [List.length_take] at this
  omega
theorem good_succ {l : List Int} {k : Nat} (h : GoodTo l k) (g : goodB (elt l k) = true) : GoodTo l (k + 1) := fun i hi => by
  by_cases e : i = k
  · subst e; exact g
  · exact h i (by omega)
theorem chord_done {iv : Int} {l : List Int} {n : Nat} (hn : l.length = n) (h1 : inB iv 0 1000 = true) (h2 : GoodTo l n) (h3 : (chordL iv (l.take n)).length ≤ 200) : chordOk iv l = true ∧ chordR iv l = chordL iv (l.take n) := by
  subst hn
  rw [List.take_length] at *
  have := chord_ok h1 h2 h3
  exact ⟨this, by rw [chordR, if_pos this]⟩
theorem chordR_no {iv : Int} {l : List Int} (h : chordOk iv l = false) : chordR iv l = [] := by rw [chordR, h]; rfl

theorem one3 (a b : Int) (c : Bool) : ∀ u ∈ (#[.int .i64 a, .int .i64 b, .bool c] : Array Value).toList, u.oneCell' = true := by
  intro u hu
  simp at hu
  rcases hu with rfl | rfl | rfl <;> rfl
theorem bool_cell {wr wm : World} {e : TypeId} (h : Kept (wr.alloc (.cells #[.bool true, .bool false] e)) wm wr.heap.size (wr.heap.size + 1)) {p : Nat} (hp : p < 2) : wm.cell? ⟨wr.heap.size, p, none⟩ = some (.bool (dnB p)) := by
  rw [h ⟨wr.heap.size, p, none⟩ (Nat.le_refl _) (Nat.lt_succ_self _), cell_of_row _ wr.heap.size p _ e (0, 0) (heap_alloc_new wr _)]
  have h2 : p = 0 ∨ p = 1 := by omega
  rcases h2 with rfl | rfl <;> rfl
set_option maxRecDepth 100000 in
set_option maxHeartbeats 4000000 in
theorem implChord_any (A : Option Addr) (n c : Nat) (l : List Int) (iv : Int) (w : World) (hn : l.length = n) (hle : n ≤ 1048576) (hr : Row w w.heap.size A (ints l)) :
    Calls Try.prog 18 #[.slice A n c, .int .i64 iv] w fun e w' => ∃ A' c', e = .returned (.tuple #[.slice A' (chordR iv l).length c', .bool (chordOk iv l)]) ∧ w'.ownsRow w.heap.size 44 3 (.slice A' (chordR iv l).length c') (chordR iv l).length (evs (chordR iv l)) ∧ Below w.heap.size w w' := by
  rcases Bool.eq_false_or_eq_true (inB iv 0 1000) with hin | hin
  · obtain ⟨hi0, hi1⟩ := in_bd hin
    have HI := Lib.hid hin
    go_enter Try.func18, Try.ntmps18
    go_wp2_with (go_at_call 38; refine (implIn_any _ _ _ _).mono ?_; rintro e w' ⟨rfl, rfl⟩)
    clear hin
    go_loopw [6, 19] (fun v i wr => ∃ k : Nat, k ≤ n ∧ i = .int .i64 k ∧ Hid (GoodTo l k) ∧ (chordL iv (l.take k)).length ≤ 200 ∧ wr.ownsRow w.heap.size 44 3 v (chordL iv (l.take k)).length (evs (chordL iv (l.take k))) ∧ Below w.heap.size w wr) (fun _ i _ => n - (intOf i).toNat)
    case atStart => exact ⟨0, by omega, rfl, fun i hi => by omega, by simp [chordL, chordRun], World.ownsRow_made _ _ _ (Nat.le_refl _) (by unfold maxLen; omega) (by simp), (Below.refl _ _).alloc (Nat.le_refl _) _⟩
    case round =>
      rename World => wo
      obtain ⟨k, hk, rfl, hg, hlen, hown, hbel⟩ := hrel
      have hs := hbel.size
      have hk100 := chord_k (by omega) hg.out hlen
      by_cases hlt : k < n
      · obtain ⟨b, off, rfl, hb, hc⟩ := (hr.below hbel).int (k := k) (by omega)
        rcases Bool.eq_false_or_eq_true (goodB (elt l k)) with g | g
        · obtain ⟨g1, g2⟩ := good_bd g
          have G := Lib.hid g
          have hkl := keysL_len (elt l k)
          have Hm := Lib.hid (chMid_two iv l k (by omega))
          have hcl := clear_of_own hown (Z := wo.heap.size) (Z' := wo.heap.size + 1) (Nat.le_refl _)
          have hB := kept_refl (wo.alloc (.cells #[.bool true, .bool false] 4)) wo.heap.size (wo.heap.size + 1)
          go_wp2_with (go_at_call 44; refine (implIsValidStroke_any _ _).mono ?_; rintro e w' ⟨rfl, rfl⟩)
          go_loopw [6, 29] (fun v i wm => ∃ p : Nat, p ≤ 2 ∧ i = .int .i64 p ∧ wm.ownsRow w.heap.size 44 3 v (chordL iv (l.take k) ++ chMid iv k (elt l k) p).length (evs (chordL iv (l.take k) ++ chMid iv k (elt l k) p)) ∧ Below w.heap.size w wm ∧ wo.heap.size + 1 ≤ wm.heap.size ∧ Clear v wo.heap.size (wo.heap.size + 1) ∧ Kept (wo.alloc (.cells #[.bool true, .bool false] 4)) wm wo.heap.size (wo.heap.size + 1)) (fun _ i _ => 2 - (intOf i).toNat)
          case atStart => exact ⟨0, by omega, rfl, by simpa [chMid] using hown.alloc _, hbel.alloc hs _, by simp, hcl, hB⟩
          case round =>
            rename World => wm
            obtain ⟨p, hp, rfl, hown1, hbel1, hsz1, hcl1, hB1⟩ := hrel
            have hs1 := hbel1.size
            have hml := chMid_len iv k (elt l k) p
            by_cases hp2 : p < 2
            · have hbc := bool_cell hB1 hp2
              have hmul := mul_bd (a := 2 * (k : Int) + (p : Int)) (b := iv) (A := 202) (B := 1000) (by omega) (by omega) hi0 hi1
              obtain ⟨hm0, hm1⟩ := hmul
              have hpl : p * (keysL (elt l k)).length ≤ 1 * 23 := Nat.mul_le_mul (by omega) hkl
              have Hcl2 := fun Z' => Lib.hid (clear_of_own hown1 (Z := wm.heap.size) (Z' := Z') (Nat.le_refl _))
              go_wp2_with (go_at_call 45; refine (implKeysOf_any (elt l k) _ (by omega) g2).mono ?_; rintro e w3 ⟨A3, c3, rfl, ho3, hb3⟩)
              have hs3 := hb3.size
              go_loopw [6, 37] (fun v i wi => ∃ j : Nat, j ≤ (keysL (elt l k)).length ∧ i = .int .i64 j ∧ wi.ownsRow w.heap.size 44 3 v (chordL iv (l.take k) ++ chMid iv k (elt l k) p ++ blkK iv k p ((keysL (elt l k)).take j)).length (evs (chordL iv (l.take k) ++ chMid iv k (elt l k) p ++ blkK iv k p ((keysL (elt l k)).take j))) ∧ Below w.heap.size w wi ∧ w3.heap.size ≤ wi.heap.size ∧ Clear v wo.heap.size (wo.heap.size + 1) ∧ Kept (wo.alloc (.cells #[.bool true, .bool false] 4)) wi wo.heap.size (wo.heap.size + 1) ∧ Clear v wm.heap.size w3.heap.size ∧ Kept w3 wi wm.heap.size w3.heap.size) (fun _ i _ => (keysL (elt l k)).length - (intOf i).toNat)
              case atStart => exact ⟨0, by omega, rfl, by simpa [blkK] using own_below hown1 hb3 (Nat.le_refl _), hbel1.trans (hb3.mono hs1), Nat.le_refl _, hcl1, kept_below hB1 hb3 hsz1, (Hcl2 _).out, kept_refl _ _ _⟩
              case round =>
                rename World => wi
                obtain ⟨j, hj, rfl, hown2, hbel2, hsz2, hclA, hBA, hclK, hBK⟩ := hrel
                have hs2 := hbel2.size
                have hbl := blkK_len iv k p ((keysL (elt l k)).take j)
                have htl : ((keysL (elt l k)).take j).length ≤ j := List.length_take_le _ _
                by_cases hjl : j < (keysL (elt l k)).length
                · obtain ⟨bk, ok, rfl, hbk, hck⟩ := (Row.kept ho3 (Nat.le_refl _) (Nat.le_refl _) hBK).int (k := j) hjl
                  have Hs := Lib.hid (blkK_succ iv k p (elt l k) j hjl)
                  go_wp2_with (at_builtin; refine wpList_appN #[.int .i64 ((2 * (k : Int) + (p : Int)) * iv), .int .i64 (elt (keysL (elt l k)) j), .bool (dnB p)] evT hbel2 hown2 rfl (one3 _ _ _) (Nat.le_refl _) hs2 (by simp only [List.length_append]; omega) (by decide) rfl (.tmp 41) (.tmp 51) rfl _ rfl rfl rfl ?_; intro v4 w4 ho4 hb4 hg4 hat4)
                  go_roundw
                  case rel => exact ⟨j + 1, by omega, by go_num, by rw [Hs.out, ← List.append_assoc, evs_snoc, List.length_append]; exact ho4, hb4, Nat.le_trans hsz2 hg4.size, clear_app hclA hat4 (by omega), kept_app hBA hclA hg4 (by omega), clear_app hclK hat4 (by omega), kept_app hBK hclK hg4 hsz2⟩
                  case measure => simp [intOf]; omega
                · obtain rfl : j = (keysL (elt l k)).length := by omega
                  have e : chordL iv (l.take k) ++ chMid iv k (elt l k) p ++ blkK iv k p ((keysL (elt l k)).take (keysL (elt l k)).length) = chordL iv (l.take k) ++ chMid iv k (elt l k) (p + 1) := by rw [List.take_length, List.append_assoc, chMid]
                  rw [e] at hown2
                  clear e
                  go_wp2
                  go_roundw
                  case rel => exact ⟨p + 1, by omega, by go_num, hown2, hbel2, by omega, hclA, hBA⟩
                  case measure => simp [intOf]; omega
            · obtain rfl : p = 2 := by omega
              rw [Hm.out] at hown1
              have hg' := Lib.hid (good_succ hg.out G.out)
              by_cases hlong : (chordL iv (l.take (k + 1))).length ≤ 200
              · obtain ⟨A1, c1, rfl, _⟩ := own_slice hown1
                go_wp2
                go_roundw
                case rel => exact ⟨k + 1, by omega, by go_num, hg'.out, hlong, hown1, hbel1⟩
                case measure => simp [intOf]; omega
              · have hf := Lib.hid (chord_long (iv := iv) (l := l) (k := k + 1) (by omega))
                have hR := Lib.hid (chordR_no hf.out)
                obtain ⟨A1, c1, rfl, _⟩ := own_slice hown1
                go_wp2
                go_ret2
                rw [hR.out]
                exact ⟨none, 0, ret_vb hf.out, World.ownsRow_nil _ _ _ _, hbel1⟩
        · have hf := Lib.hid (chord_bad_at (iv := iv) (by omega) g)
          have hR := Lib.hid (chordR_no hf.out)
          go_wp2_with (go_at_call 44; refine (implIsValidStroke_any _ _).mono ?_; rintro e w' ⟨rfl, rfl⟩)
          go_ret2
          rw [hR.out]
          exact ⟨none, 0, ret_vb hf.out, World.ownsRow_nil _ _ _ _, hbel⟩
      · obtain rfl : k = n := by omega
        have hst' := Lib.hid (chord_done hn HI.out hg.out hlen)
        obtain ⟨A', c', rfl, _⟩ := own_slice hown
        go_wp2
        go_ret2
        rw [hst'.out.2]
        exact ⟨A', c', ret_vb hst'.out.1, hown, hbel⟩
  · have hf := Lib.hid (chord_bad_iv (l := l) hin)
    have hR := Lib.hid (chordR_no hf.out)
    go_enter Try.func18, Try.ntmps18
    go_wp2_with (go_at_call 38; refine (implIn_any _ _ _ _).mono ?_; rintro e w' ⟨rfl, rfl⟩)
    go_ret2
    rw [hR.out]
    exact ⟨none, 0, ret_vb hf.out, World.ownsRow_nil _ _ _ _, Below.refl _ _⟩

/-- The list so far, beside what must stay. -/
structure RowSt (w : World) (e : TypeId) (v : Value) (L : List Ev) (w3 w5 wr : World) : Prop where
  own : wr.ownsRow w.heap.size e 3 v L.length (evs L)
  bel : Below w.heap.size w wr
  sz : w5.heap.size ≤ wr.heap.size
  cl : Clear v w3.heap.size w5.heap.size
  kp : Kept w5 wr w3.heap.size w5.heap.size
set_option maxRecDepth 100000 in
set_option maxHeartbeats 4000000 in
theorem specChord_any (A : Option Addr) (n c : Nat) (l : List Int) (iv : Int) (w : World) (hn : l.length = n) (hle : n ≤ 1048576) (hr : Row w w.heap.size A (ints l)) :
    Calls Try.prog 16 #[.slice A n c, .int .i64 iv] w fun e w' => ∃ A' c', e = .returned (.tuple #[.slice A' (chordR iv l).length c', .bool (chordOk iv l)]) ∧ w'.ownsRow w.heap.size 44 3 (.slice A' (chordR iv l).length c') (chordR iv l).length (evs (chordR iv l)) ∧ Below w.heap.size w w' := by
  rcases Bool.eq_false_or_eq_true (inB iv 0 1000) with hin | hin
  · obtain ⟨hi0, hi1⟩ := in_bd hin
    have HI := Lib.hid hin
    go_enter Try.func16, Try.ntmps16
    go_wp2_with (go_at_call 41; refine (l1In_any _ _ _ _).mono ?_; rintro e w' ⟨rfl, rfl⟩)
    clear hin
    go_loopw [6, 7] (fun v i wr => ∃ k : Nat, k ≤ n ∧ i = .int .i64 k ∧ Hid (GoodTo l k) ∧ (chordL iv (l.take k)).length ≤ 200 ∧ wr.ownsRow w.heap.size 44 3 v (chordL iv (l.take k)).length (evs (chordL iv (l.take k))) ∧ Below w.heap.size w wr) (fun _ i _ => n - (intOf i).toNat)
    case atStart => exact ⟨0, by omega, rfl, fun i hi => by omega, by simp [chordL, chordRun], World.ownsRow_made _ _ _ (Nat.le_refl _) (by unfold maxLen; omega) (by simp), (Below.refl _ _).alloc (Nat.le_refl _) _⟩
    case round =>
      rename World => wo
      obtain ⟨k, hk, rfl, hg, hlen, hown, hbel⟩ := hrel
      have hs := hbel.size
      have hk100 := chord_k (by omega) hg.out hlen
      by_cases hlt : k < n
      · obtain ⟨b, off, rfl, hb, hc⟩ := (hr.below hbel).int (k := k) (by omega)
        rcases Bool.eq_false_or_eq_true (goodB (elt l k)) with g | g
        · obtain ⟨g1, g2⟩ := good_bd g
          have G := Lib.hid g
          have hkl := keysL_len (elt l k)
          have Hm := Lib.hid (chMid_two iv l k (by omega))
          obtain ⟨hlenA, hlenB⟩ : (chordL iv (l.take (k + 1))).length ≤ (chordL iv (l.take k)).length + 2 * (keysL (elt l k)).length ∧ (chordL iv (l.take k)).length + 2 * (keysL (elt l k)).length ≤ (chordL iv (l.take (k + 1))).length := by
            have h1 := chMid_len iv k (elt l k) 2
            have h2 := congrArg List.length Hm.out
            rw [List.length_append] at h2
            omega
          have key : ∀ w1 : World, Below w.heap.size w w1 → w1.cell? ⟨b, off + k, none⟩ = wo.cell? ⟨b, off + k, none⟩ := fun w1 h1 =>
            (h1.cell (p := ⟨b, off + k, none⟩) hb).trans (hbel.cell (p := ⟨b, off + k, none⟩) hb).symm
          have Key := Lib.hid key
          clear key
          obtain ⟨A1, c1, rfl, _⟩ := own_slice hown
          by_cases hlong : (chordL iv (l.take k)).length + 2 * (keysL (elt l k)).length ≤ 200
          · have HL := Lib.hid hlong
            go_wp2_with (first | (go_at_call 42; refine (l2Good_any _ _).mono ?_; rintro e w' ⟨rfl, rfl⟩) | fail)
            go_wp2_with fail
            refine (l2Keys_any (elt l k) wo (by omega) g2).mono ?_
            rintro e w3 ⟨A3, c3, rfl, ho3, hb3⟩
            have k3 := (Key.out w3 (hbel.trans (hb3.mono hs))).trans hc
            have hbel3 := hbel.trans (hb3.mono hs)
            have hs3 := hbel3.size
            have hown3 := own_below hown hb3 (Nat.le_refl _)
            go_wp2_with fail
            refine (l2Keys_any (elt l k) w3 (by omega) g2).mono ?_
            rintro e w5 ⟨A5, c5, rfl, ho5, hb5⟩
            have hbel5 := hbel3.trans (hb5.mono hs3)
            have hs5 := hbel5.size
            have hown5 := own_below hown3 hb5 (Nat.le_refl _)
            have hcl5 := clear_of_own hown3 (Z := w3.heap.size) (Z' := w5.heap.size) (Nat.le_refl _)
            go_wp2
            go_loopw [6, 9] (fun v i wr => ∃ p : Nat, p ≤ 2 ∧ i = .int .i64 p ∧ wr.ownsRow w.heap.size 44 3 v (chordL iv (l.take k) ++ chMid iv k (elt l k) p).length (evs (chordL iv (l.take k) ++ chMid iv k (elt l k) p)) ∧ Below w.heap.size w wr ∧ w5.heap.size ≤ wr.heap.size ∧ Clear v w3.heap.size w5.heap.size ∧ Kept w5 wr w3.heap.size w5.heap.size) (fun _ i _ => 2 - (intOf i).toNat)
            case atStart => exact ⟨0, by omega, rfl, by simpa [chMid] using hown5, hbel5, Nat.le_refl _, hcl5, kept_refl _ _ _⟩
            case round =>
              rename World => wm
              obtain ⟨p, hp, rfl, hown1, hbel1, hsz1, hcl1, hB1⟩ := hrel
              have hs1 := hbel1.size
              have hml := Nat.le_of_eq (chMid_len iv k (elt l k) p)
              by_cases hp2 : p < 2
              · have hmul := mul_bd (a := 2 * (k : Int) + (p : Int)) (b := iv) (A := 202) (B := 1000) (by omega) (by omega) hi0 hi1
                obtain ⟨hm0, hm1⟩ := hmul
                have hpl : p * (keysL (elt l k)).length ≤ 1 * 23 := Nat.mul_le_mul (by omega) hkl
                have hq : ((p : Int) == 0) = dnB p := by rw [dnB, Bool.eq_iff_iff]; simp
                go_wp2
                go_loopw [6, 10] (fun v i wr => ∃ j : Nat, j ≤ (keysL (elt l k)).length ∧ i = .int .i64 j ∧ RowSt w 44 v (chordL iv (l.take k) ++ chMid iv k (elt l k) p ++ blkK iv k p ((keysL (elt l k)).take j)) w3 w5 wr) (fun _ i _ => (keysL (elt l k)).length - (intOf i).toNat)
                case atStart => exact ⟨0, by omega, rfl, by simpa [blkK] using hown1, hbel1, hsz1, hcl1, hB1⟩
                case round =>
                  rename World => wi
                  obtain ⟨j, hj, rfl, hown2, hbel2, hsz2, hclK, hBK⟩ := hrel
                  have hs2 := hbel2.size
                  have hbl := Nat.le_of_eq (blkK_len iv k p ((keysL (elt l k)).take j))
                  have htl : ((keysL (elt l k)).take j).length ≤ j := List.length_take_le _ _
                  by_cases hjl : j < (keysL (elt l k)).length
                  · obtain ⟨bk, ok, rfl, hbk, hck⟩ := (Row.kept ho5 (Nat.le_refl _) (Nat.le_refl _) hBK).int (k := j) hjl
                    have Hs := Lib.hid (blkK_succ iv k p (elt l k) j hjl)
                    go_wp2_with (at_builtin; refine wpList_appN #[.int .i64 ((2 * (k : Int) + (p : Int)) * iv), .int .i64 (elt (keysL (elt l k)) j), .bool (dnB p)] evT hbel2 hown2 rfl (one3 _ _ _) (Nat.le_refl _) hs2 (by simp only [List.length_append]; omega) (by decide) rfl (.tmp 57) (.tmp 71) rfl _ rfl rfl rfl ?_; intro v4 w4 ho4 hb4 hg4 hat4)
                    go_roundw
                    case rel => exact ⟨j + 1, by omega, by go_num, by rw [Hs.out]; simp only [← List.append_assoc]; rw [evs_snoc, List.length_append]; exact ho4, hb4, Nat.le_trans hsz2 hg4.size, clear_app hclK hat4 (by omega), kept_app hBK hclK hg4 hsz2⟩
                    case measure => simp [intOf]; omega
                  · obtain rfl : j = (keysL (elt l k)).length := by omega
                    have e : chordL iv (l.take k) ++ chMid iv k (elt l k) p ++ blkK iv k p ((keysL (elt l k)).take (keysL (elt l k)).length) = chordL iv (l.take k) ++ chMid iv k (elt l k) (p + 1) := by rw [List.take_length, List.append_assoc, chMid]
                    rw [e] at hown2
                    clear e
                    go_wp2
                    go_roundw
                    case rel => exact ⟨p + 1, by omega, by go_num, hown2, hbel2, by omega, hclK, hBK⟩
                    case measure => simp [intOf]; omega
              · obtain rfl : p = 2 := by omega
                rw [Hm.out] at hown1
                have hg' := Lib.hid (good_succ hg.out G.out)
                have hl2 : (chordL iv (l.take (k + 1))).length ≤ 200 := by omega
                go_wp2
                go_roundw
                case rel => exact ⟨k + 1, by omega, by go_num, hg'.out, hl2, hown1, hbel1⟩
                case measure => simp [intOf]; omega
          · have hf := Lib.hid (chord_long (iv := iv) (l := l) (k := k + 1) (by omega))
            have hR := Lib.hid (chordR_no hf.out)
            go_wp2_with (first | (go_at_call 42; refine (l2Good_any _ _).mono ?_; rintro e w' ⟨rfl, rfl⟩) | (go_at_call 43; refine (l2Keys_any (elt l k) wo (by omega) g2).mono ?_; rintro e w3 ⟨A3, c3, rfl, ho3, hb3⟩))
            have hbel3 := hbel.trans (hb3.mono hs)
            go_ret2
            rw [hR.out]
            exact ⟨_, 0, ret_vb hf.out, World.ownsRow_made _ _ _ hbel3.size (by unfold maxLen; omega) (by simp), hbel3.alloc hbel3.size _⟩
        · have hf := Lib.hid (chord_bad_at (iv := iv) (by omega) g)
          have hR := Lib.hid (chordR_no hf.out)
          obtain ⟨A1, c1, rfl, _⟩ := own_slice hown
          go_wp2_with (go_at_call 42; refine (l2Good_any _ _).mono ?_; rintro e w' ⟨rfl, rfl⟩)
          go_ret2
          rw [hR.out]
          exact ⟨_, 0, ret_vb hf.out, World.ownsRow_made _ _ _ hs (by unfold maxLen; omega) (by simp), hbel.alloc hs _⟩
      · obtain rfl : k = n := by omega
        have hst' := Lib.hid (chord_done hn HI.out hg.out hlen)
        obtain ⟨A', c', rfl, _⟩ := own_slice hown
        go_wp2
        go_ret2
        rw [hst'.out.2]
        exact ⟨A', c', ret_vb hst'.out.1, hown, hbel⟩
  · have hf := Lib.hid (chord_bad_iv (l := l) hin)
    have hR := Lib.hid (chordR_no hf.out)
    go_enter Try.func16, Try.ntmps16
    go_wp2_with (go_at_call 41; refine (l1In_any _ _ _ _).mono ?_; rintro e w' ⟨rfl, rfl⟩)
    go_ret2
    rw [hR.out]
    exact ⟨_, 0, ret_vb hf.out, World.ownsRow_made _ _ _ (Nat.le_refl _) (by unfold maxLen; omega) (by simp), (Below.refl _ _).alloc (Nat.le_refl _) _⟩
end Go.Proofs.Ythnecaeljpaggaa
