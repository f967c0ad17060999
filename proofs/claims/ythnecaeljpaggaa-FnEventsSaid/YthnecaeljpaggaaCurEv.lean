/- Contracts of the reference's draws of chords and of key events. Condition: the bytes are at most 2^20. -/
import Derived.Test.YthnecaeljpaggaaCurStroke
import Derived.Test.YthnecaeljpaggaaChord
namespace Go.Proofs.Ythnecaeljpaggaa
open Go.RowKit

def sliceLen (v : Value) : Nat := match v with | .slice _ n _ => n | _ => 0
theorem cur_row {w w' : World} {g m n base : Nat} {e : TypeId} {size : Nat} {v : Value} {xs : List Value} (h : Cur w g m) (ho : w.ownsRow base e size v n xs) (hg : w.grownBy w' v.ownBlock) (hb : g < base) : Cur w' g m :=
  h.grown hg fun k e => by have := (ho.lt k e).1; omega
theorem below_cur {w0 w w' : World} {B g : Nat} (h : Below B w0 w) (hg : w.grownBy w' (some g)) (hB : B ≤ g) (hs : B ≤ w.heap.size) : Below B w0 w' :=
  h.grown hg hs (fun k e => by injection e with e; omega)

set_option maxHeartbeats 1000000 in
theorem drawChord_any (A : Option Addr) (n c : Nat) (w : World) (h : Code w A n) :
    Calls Try.prog 33 #[.slice A n c] w fun e w' => ∃ A' n' c', ∃ xs : List Int, ∃ iv : Int, e = .returned (.tuple #[.slice A' n' c', .int .i64 iv]) ∧ xs.length = n' ∧ n' ≤ 60 ∧ Row w' w'.heap.size A' (ints xs) ∧ -1 ≤ iv ∧ iv ≤ 1001 ∧ Below w.heap.size w w' := by
  have hc := Lib.hid ((h.cur c).alloc (.cells #[] 3))
  go_enter Try.func33, Try.ntmps33
  go_wp2_with fail
  refine (pick_any _ w.heap.size 0 6 hc.out (by omega) (by omega)).mono ?_
  rintro e w1 ⟨y, rfl, y0, y1, hc1, hg1⟩
  have hs1 := hg1.size
  have ho1 := own_kept (World.ownsRow_made (w.alloc (.cells #[.slice A n c, .int .i64 0, .int .u64 0] 61)) #[] 0 (base := w.heap.size + 1) (e := 3) (size := 1) (by simp) (by unfold maxLen; omega) (by simp)) hg1 (by omega)
  have b1 : Below w.heap.size w w1 := below_new ((World.grownBy_alloc _ _ _).trans hg1)
  have hcl := hc1.lt
  go_wp2
  go_loopw [5, 6] (fun v i wr => ∃ j k : Nat, ∃ xs : List Int, i = .int .i64 j ∧ j + k ≤ 5 ∧ xs.length = k ∧ wr.ownsRow (w.heap.size + 1) 3 1 v k (ints xs) ∧ Cur wr w.heap.size (2 + 14 * k) ∧ Below w.heap.size w wr) (fun _ i _ => (intOf i).toNat)
  case atStart => exact ⟨y.toNat, 0, [], by go_num, by omega, rfl, by simpa [ints] using ho1, hc1, b1⟩
  case round =>
    obtain ⟨j, k, xs, rfl, hjk, hxl, hown, hcr, hbr⟩ := hrel
    have hcrl := hcr.lt
    by_cases hlt : 0 < j
    · go_wp2_with fail
      refine (anyStroke_any wr w.heap.size _ hcr (by omega)).mono ?_
      rintro e w3 ⟨y3, rfl, y30, y31, hc3, hg3⟩
      have ho3 := own_kept hown hg3 (by omega)
      have b3 := below_cur hbr hg3 (Nat.le_refl _) (by omega)
      have hs3 := hg3.size
      go_wp2_with (at_builtin; refine wpList_app1 (.int .i64 y3) intT b3 ho3 rfl (by omega) (by omega) (by omega) (by decide) rfl (.tmp 17) (.tmp 20) rfl rfl rfl ?_; intro v4 w4 ho4 b4 hg4 hat4)
      go_roundw
      case rel => exact ⟨j - 1, k + 1, xs ++ [y3], by go_num, by omega, by simp [hxl], by rw [ints_snoc]; exact ho4, (cur_row hc3 ho3 hg4 (by omega)).more (by omega), b4⟩
      case measure => simp [intOf]; omega
    · obtain rfl : j = 0 := by omega
      obtain ⟨A', c', rfl, _⟩ := own_slice hown
      go_wp2_with fail
      refine (one_any wr w.heap.size _ 30 hcr (by omega) (by omega)).mono ?_
      rintro e w3 ⟨b, rfl, hc3, hg3⟩
      have ho3 := own_kept hown hg3 (by omega)
      have b3 := below_cur hbr hg3 (Nat.le_refl _) (by omega)
      have hs3 := hg3.size
      have hcl3 := hc3.lt
      have fin : ∀ (wx : World) (k' : Nat) (A' : Option Addr) (c' m : Nat) (xs : List Int), wx.ownsRow (w.heap.size + 1) 3 1 (.slice A' k' c') k' (ints xs) → xs.length = k' → k' ≤ 50 → Cur wx w.heap.size m → m ≤ 10000 → Below w.heap.size w wx →
          Calls Try.prog 53 #[.pointer (some ⟨w.heap.size, 0, none⟩), .slice (some ⟨wx.heap.size, 0, none⟩) 7 7] (wx.alloc (.cells #[.int .i64 5, .int .i64 1, .int .i64 0, .int .i64 1000, .int .i64 1001, .int .i64 (-1), .int .i64 20] 3)) fun e w' => ∃ y, e = .returned (.int .i64 y) ∧ -1 ≤ y ∧ y ≤ 1001 ∧ Row w' w'.heap.size A' (ints xs) ∧ Below w.heap.size w w' := by
        intro wx k' A' c' m xs ho hx hk hcx hm hbx
        have hlx := hcx.lt
        refine (among_any _ w.heap.size _ _ 7 7 [5, 1, 0, 1000, 1001, -1, 20] _ (hcx.alloc _) (by omega) rfl (by omega) (by omega) (Row.lit wx _ _) (fun b off e => by injection e with e; injection e with e; omega)).mono ?_
        rintro e w4 ⟨y, rfl, hy, hc4, hg4⟩
        have hy' : -1 ≤ y ∧ y ≤ 1001 := by revert y; decide
        have hsx := hbx.size
        exact ⟨y, rfl, hy'.1, hy'.2, Row.of_own (own_kept (ho.alloc _) hg4 (by omega)), below_cur (hbx.alloc hsx _) hg4 (Nat.le_refl _) (by simp; omega)⟩
      cases b
      · have key := Lib.hid (fin w3 k A' c' _ xs ho3 hxl (by omega) hc3 (by omega) b3)
        clear fin
        go_wp2_with fail
        refine key.out.mono ?_
        rintro e w4 ⟨y, rfl, hy0, hy1, hr4, b4⟩
        go_wp2
        go_ret2
        exact ⟨A', k, c', xs, y, rfl, hxl, by omega, hr4, hy0, hy1, b4⟩
      · have Fin := Lib.hid fin
        clear fin
        go_wp2
        go_loopw [5] (fun v wr => ∃ q : Nat, ∃ ys : List Int, ys.length = q ∧ q ≤ 50 ∧ wr.ownsRow (w.heap.size + 1) 3 1 v q (ints ys) ∧ Cur wr w.heap.size (100 + 12 * q) ∧ Below w.heap.size w wr) (fun v _ => 50 - sliceLen v)
        case atStart => exact ⟨k, xs, hxl, by omega, ho3, hc3.more (by omega), b3⟩
        case round =>
          obtain ⟨q, ys, hyl, hq, hown4, hc4, b4⟩ := hrel
          obtain ⟨A4, c4, rfl, _⟩ := own_slice hown4
          have hs4 := b4.size
          by_cases hlq : q < 50
          · go_wp2_with fail
            refine (stroke_any wr w.heap.size _ hc4 (by omega)).mono ?_
            rintro e w5 ⟨y5, rfl, hy5, hc5, hg5⟩
            have ho5 := own_kept hown4 hg5 (by omega)
            have b5 := below_cur b4 hg5 (Nat.le_refl _) (by omega)
            have hs5 := hg5.size
            have hcl5 := hc5.lt
            go_wp2_with (at_builtin; refine wpList_app1 (.int .i64 y5) intT b5 ho5 rfl (by omega) (by omega) (by omega) (by decide) rfl (.tmp 27) (.tmp 30) rfl rfl rfl ?_; intro v6 w6 ho6 b6 hg6 hat6)
            obtain ⟨A6, c6, rfl, _⟩ := own_slice ho6
            go_roundw
            case rel => exact ⟨q + 1, ys ++ [y5], by simp [hyl], by omega, by rw [ints_snoc]; exact ho6, (cur_row hc5 ho5 hg6 (by omega)).more (by omega), b6⟩
            case measure => simp [sliceLen]; omega
          · obtain rfl : q = 50 := by omega
            have key := Lib.hid (Fin.out wr 50 A4 c4 _ ys hown4 hyl (by omega) hc4 (by omega) b4)
            go_wp2_with fail
            refine key.out.mono ?_
            rintro e w6 ⟨y, rfl, hy0, hy1, hr6, b6⟩
            go_wp2
            go_ret2
            exact ⟨A4, 50, c4, ys, y, rfl, hyl, by omega, hr6, hy0, hy1, b6⟩

/-- The state of the draws of events. -/
structure DrSt (w0 : World) (B g base : Nat) (e : TypeId) (v : Value) (es : List Ev) (m : Nat) (wr : World) : Prop where
  own : wr.ownsRow base e 3 v es.length (evs es)
  cur : Cur wr g m
  bel : Below B w0 wr
  sz : base ≤ wr.heap.size
  hB : B ≤ g
  hg : g < base
section
variable {w0 wr w' : World} {B g base : Nat} {e : TypeId} {v : Value} {es : List Ev} {m m' : Nat}
theorem DrSt.pick (h : DrSt w0 B g base e v es m wr) (hc : Cur w' g m') (hg : wr.grownBy w' (some g)) : DrSt w0 B g base e v es m' w' :=
  ⟨own_kept h.own hg h.hg, hc, below_cur h.bel hg h.hB (by have := h.sz; have := h.hB; have := h.hg; omega), Nat.le_trans h.sz hg.size, h.hB, h.hg⟩
theorem DrSt.alloc (h : DrSt w0 B g base e v es m wr) (o : Obj) : DrSt w0 B g base e v es m (wr.alloc o) :=
  ⟨h.own.alloc o, h.cur.alloc o, h.bel.alloc (by have := h.sz; have := h.hB; have := h.hg; omega) o, by have := h.sz; simp; omega, h.hB, h.hg⟩
theorem DrSt.below (h : DrSt w0 B g base e v es m wr) (hb : Below wr.heap.size wr w') : DrSt w0 B g base e v es m w' :=
  ⟨own_below h.own hb (Nat.le_refl _), h.cur.below hb h.cur.lt, h.bel.trans (hb.mono (by have := h.sz; have := h.hB; have := h.hg; omega)), Nat.le_trans h.sz hb.size, h.hB, h.hg⟩
theorem DrSt.more (h : DrSt w0 B g base e v es m wr) (hm : m ≤ m') : DrSt w0 B g base e v es m' wr := ⟨h.own, h.cur.more hm, h.bel, h.sz, h.hB, h.hg⟩
theorem DrSt.app {v' : Value} {es' : List Ev} (h : DrSt w0 B g base e v es m wr) (ho : w'.ownsRow base e 3 v' es'.length (evs es')) (hg : wr.grownBy w' v.ownBlock) : DrSt w0 B g base e v' es' m w' :=
  ⟨ho, cur_row h.cur h.own hg h.hg, h.bel.grown hg (by have := h.sz; have := h.hB; have := h.hg; omega) (fun k hk => by have := (h.own.lt k hk).1; have := h.hB; have := h.hg; omega), Nat.le_trans h.sz hg.size, h.hB, h.hg⟩
theorem DrSt.le (h : DrSt w0 B g base e v es m wr) : B ≤ base := by have := h.hB; have := h.hg; omega
end
theorem Row.of_own2 {w : World} {base : Nat} {e : TypeId} {size n m c : Nat} {A : Option Addr} {cs : List Value} (h : w.ownsRow base e size (.slice A n c) m cs) (hm : m = n) : Row w w.heap.size A cs := by
  subst hm; exact Row.of_own h
theorem evs_append (a b : List Ev) : evs (a ++ b) = evs a ++ evs b := by simp [evs]
theorem evs_set (l : List Ev) (j : Nat) (h : j < l.length) (e : Ev) : (((evs l).set (j * 3) (.int .i64 e.t)).set (j * 3 + 1) (.int .i64 e.k)).set (j * 3 + 2) (.bool e.d) = evs (l.take j ++ [e] ++ l.drop (j + 1)) := by
  have e1 : l = l.take j ++ l[j] :: l.drop (j + 1) := by rw [← List.drop_eq_getElem_cons h, List.take_append_drop]
  have e2 : evs l = evs (l.take j) ++ evs (l[j] :: l.drop (j + 1)) := by
    conv => lhs; rw [e1, evs_append]
  have e3 : evs (l.take j ++ [e] ++ l.drop (j + 1)) = evs (l.take j ++ [e]) ++ evs (l.drop (j + 1)) := evs_append _ _
  rw [e2, e3]
  exact evs_put _ _ _ e j (by rw [List.length_take]; omega)
/-- A row in the blocks from Z to Z'. -/
def RowIn (w : World) (Z Z' : Nat) (A : Option Addr) (cs : List Value) : Prop :=
  cs ≠ [] → ∃ b off, A = some ⟨b, off, none⟩ ∧ Z ≤ b ∧ b < Z' ∧ ∀ j u, cs[j]? = some u → w.cell? ⟨b, off + j, none⟩ = some u
theorem RowIn.kept {wk wr : World} {Z Z' : Nat} {A : Option Addr} {cs : List Value} (h : RowIn wk Z Z' A cs) (hk : Kept wk wr Z Z') : RowIn wr Z Z' A cs := fun hne => by
  obtain ⟨b, off, e, h1, h2, hc⟩ := h hne
  exact ⟨b, off, e, h1, h2, fun j u hu => (hk _ h1 h2).trans (hc j u hu)⟩
theorem RowIn.of_own {w : World} {base : Nat} {e : TypeId} {size n c : Nat} {A : Option Addr} {cs : List Value} (h : w.ownsRow base e size (.slice A n c) n cs) : RowIn w base w.heap.size A cs := fun hne => by
  obtain ⟨b, off, e1, h1, hc⟩ := Row.of_own h hne
  exact ⟨b, off, e1, (h.lt b (by rw [e1]; rfl)).1, h1, hc⟩
theorem RowIn.drop {w : World} {Z Z' : Nat} {b off : Nat} {cs : List Value} (h : RowIn w Z Z' (some ⟨b, off, none⟩) cs) (k : Nat) : RowIn w Z Z' (some ⟨b, off + k, none⟩) (cs.drop k) := fun hne => by
  have hne' : cs ≠ [] := fun e => hne (by rw [e]; simp)
  obtain ⟨b', off', e, h1, h2, hc⟩ := h hne'
  cases e
  refine ⟨b, off + k, rfl, h1, h2, fun j u hu => ?_⟩
  rw [Nat.add_assoc]; exact hc _ u (by rw [← hu, List.getElem?_drop])
theorem RowIn.int {w : World} {Z Z' : Nat} {A : Option Addr} {xs : List Int} (h : RowIn w Z Z' A (ints xs)) {k : Nat} (hk : k < xs.length) :
    ∃ b off, A = some ⟨b, off, none⟩ ∧ Z ≤ b ∧ b < Z' ∧ w.cell? ⟨b, off + k, none⟩ = some (.int .i64 (elt xs k)) := by
  obtain ⟨b, off, e, h1, h2, hc⟩ := h (fun e => by have := ints_length xs; rw [e] at this; simp at this; omega)
  exact ⟨b, off, e, h1, h2, hc k _ (ints_get xs k hk)⟩

set_option maxRecDepth 100000 in
set_option maxHeartbeats 4000000 in
theorem events_any (w0 w : World) (B g : Nat) (h : Cur w g 0) (hb : Below B w0 w) (hB : B ≤ g) :
    Calls Try.prog 56 #[.pointer (some ⟨g, 0, none⟩)] w fun e w' => ∃ A' n' c', ∃ es : List Ev, e = .returned (.slice A' n' c') ∧ es.length = n' ∧ n' ≤ 300 ∧ Row w' w'.heap.size A' (evs es) ∧ Below B w0 w' := by
  have hgl := h.lt
  have st0 : DrSt w0 B g w.heap.size 44 (.slice (some ⟨w.heap.size, 0, none⟩) 0 0) [] 0 (w.alloc (.cells #[] 44)) :=
    ⟨World.ownsRow_made _ _ _ (Nat.le_refl _) (by unfold maxLen; omega) (by simp), h.alloc _, hb.alloc (by omega) _, by simp, hB, hgl⟩
  go_enter Try.func56, Try.ntmps56
  go_wp2_with fail
  refine (pick_any _ g 0 16 st0.cur (by omega) (by omega)).mono ?_
  rintro e w1 ⟨y, rfl, y0, y1, hc1, hg1⟩
  have st1 := st0.pick hc1 hg1
  clear st0
  go_wp2
  go_loopw [3, 4, 5, 6] (fun v d t i wr => ∃ j dn : Nat, ∃ tm : Int, ∃ es : List Ev, i = .int .i64 j ∧ d = .int .i64 dn ∧ t = .int .i64 tm ∧ j + es.length ≤ 15 ∧ dn < 8388608 ∧ 0 ≤ tm ∧ tm ≤ 100 ∧ tm ≤ 2 * es.length ∧ DrSt w0 B g w.heap.size 44 v es (2 + 12 * es.length) wr) (fun _ _ _ i _ => (intOf i).toNat)
  case atStart => exact ⟨y.toNat, 0, 0, [], by go_num, rfl, rfl, by simp; omega, by omega, by omega, by omega, by simp, st1⟩
  case round =>
    obtain ⟨j, dn, tm, es, rfl, rfl, rfl, hj, hdn, ht0, ht1, ht2, st⟩ := hrel
    by_cases hlt : 0 < j
    · go_wp2_with fail
      refine (pick_any _ g _ 6 st.cur (by omega) (by omega)).mono ?_
      rintro e w2 ⟨k1, rfl, k10, k11, hc2, hg2⟩
      have st2 := st.pick hc2 hg2
      go_wp2_with fail
      refine (one_any _ g _ 3 st2.cur (by omega) (by omega)).mono ?_
      rintro e w3 ⟨q1, rfl, hc3, hg3⟩
      have st3 := st2.pick hc3 hg3
      cases q1
      · have hy0 := k10
        have hy1 : k1 ≤ 22 := by omega
        have st4 := st3.more (m' := 2 + 12 * es.length + 6) (by omega)
        clear k10 k11
        rename Int => kk
        go_wp2_with fail
        refine (l2Keys_any (dn : Int) _ (by omega) (by omega)).mono ?_
        rintro e w5 ⟨A5, c5, rfl, ho5, hb5⟩
        have st5 := st4.below hb5
        have hg4l := st4.cur.lt
        have hkl := keysL_len (dn : Int)
        by_cases hk0 : 0 < (keysL (dn : Int)).length
        · go_wp2_with fail
          refine (one_any _ g _ 2 st5.cur (by omega) (by omega)).mono ?_
          rintro e w6 ⟨q2, rfl, hc6, hg6⟩
          have st6 := st5.pick hc6 hg6
          have ho6 := own_kept ho5 hg6 (by omega)
          cases q2
          · have st7 := st6
            go_wp2_with fail
            refine (pick_any _ g _ 3 st7.cur (by omega) (by omega)).mono ?_
            rintro e w8 ⟨t3, rfl, t30, t31, hc8, hg8⟩
            have st8 := st7.pick hc8 hg8
            obtain ⟨ki, rfl⟩ := Int.eq_ofNat_of_zero_le hy0
            have hx := Lib.hid (xor_bit dn ki (by omega) (by omega))
            have hxb := Lib.hid (Nat.xor_lt_two_pow (n := 23) (show dn < 2 ^ 23 by omega) (Nat.pow_lt_pow_right (by omega : 1 < 2) (show ki < 23 by omega)))
            have sb8 := st8.bel
            have so8 := st8.own
            have sz8 := st8.sz
            go_wp2_with (at_builtin; refine wpList_appN #[.int .i64 (tm + t3), .int .i64 (ki : Int), .bool (bits .and .i64 ((dn : Int) / 2 ^ ki) 1 == 0)] evT sb8 so8 rfl (one3 _ _ _) st8.le sz8 (by omega) (by decide) rfl (.tmp 45) (.tmp 55) rfl _ rfl rfl rfl ?_; intro v9 w9 ho9 hb9 hg9 hat9)
            go_roundw
            case rel =>
              refine ⟨j - 1, dn ^^^ 2 ^ ki, tm + t3, es ++ [⟨tm + t3, (ki : Int), (bits .and .i64 ((dn : Int) / 2 ^ ki) 1 == 0)⟩], by go_num, by rw [hx.out], rfl, by rw [List.length_append]; simp only [List.length_cons, List.length_nil]; omega, by have := hxb.out; omega, by omega, by omega, by rw [List.length_append]; simp only [List.length_cons, List.length_nil]; omega, ?_⟩
              exact (st8.app (by rw [evs_snoc, List.length_append]; exact ho9) hg9).more (by rw [List.length_append]; simp only [List.length_cons, List.length_nil]; omega)
            case measure => simp [intOf]; omega
          · go_wp2_with fail
            refine (pick_any _ g _ ((keysL (dn : Int)).length : Int) st6.cur (by omega) (by omega)).mono ?_
            rintro e w7 ⟨kq, rfl, kq0, kq1, hc7, hg7⟩
            have st7 := st6.pick hc7 hg7
            have ho7 := own_kept ho6 hg7 (by omega)
            obtain ⟨qi, rfl⟩ := Int.eq_ofNat_of_zero_le kq0
            obtain ⟨bq, oq, rfl, hbq, hcq⟩ := (Row.of_own ho7).int (k := qi) (by omega)
            have hmem := keysL_mem (elt_in (keysL (dn : Int)) qi (by omega))
            clear hy0 hy1
            generalize elt (keysL (dn : Int)) qi = kk at hcq hmem
            obtain ⟨hy0, hy1⟩ := hmem
            go_wp2_with fail
            refine (pick_any _ g _ 3 st7.cur (by omega) (by omega)).mono ?_
            rintro e w8 ⟨t3, rfl, t30, t31, hc8, hg8⟩
            have st8 := st7.pick hc8 hg8
            obtain ⟨ki, rfl⟩ := Int.eq_ofNat_of_zero_le hy0
            have hx := Lib.hid (xor_bit dn ki (by omega) (by omega))
            have hxb := Lib.hid (Nat.xor_lt_two_pow (n := 23) (show dn < 2 ^ 23 by omega) (Nat.pow_lt_pow_right (by omega : 1 < 2) (show ki < 23 by omega)))
            have sb8 := st8.bel
            have so8 := st8.own
            have sz8 := st8.sz
            go_wp2_with (at_builtin; refine wpList_appN #[.int .i64 (tm + t3), .int .i64 (ki : Int), .bool (bits .and .i64 ((dn : Int) / 2 ^ ki) 1 == 0)] evT sb8 so8 rfl (one3 _ _ _) st8.le sz8 (by omega) (by decide) rfl (.tmp 45) (.tmp 55) rfl _ rfl rfl rfl ?_; intro v9 w9 ho9 hb9 hg9 hat9)
            go_roundw
            case rel =>
              refine ⟨j - 1, dn ^^^ 2 ^ ki, tm + t3, es ++ [⟨tm + t3, (ki : Int), (bits .and .i64 ((dn : Int) / 2 ^ ki) 1 == 0)⟩], by go_num, by rw [hx.out], rfl, by rw [List.length_append]; simp only [List.length_cons, List.length_nil]; omega, by have := hxb.out; omega, by omega, by omega, by rw [List.length_append]; simp only [List.length_cons, List.length_nil]; omega, ?_⟩
              exact (st8.app (by rw [evs_snoc, List.length_append]; exact ho9) hg9).more (by rw [List.length_append]; simp only [List.length_cons, List.length_nil]; omega)
            case measure => simp [intOf]; omega
        · have st7 := st5
          go_wp2_with fail
          refine (pick_any _ g _ 3 st7.cur (by omega) (by omega)).mono ?_
          rintro e w8 ⟨t3, rfl, t30, t31, hc8, hg8⟩
          have st8 := st7.pick hc8 hg8
          obtain ⟨ki, rfl⟩ := Int.eq_ofNat_of_zero_le hy0
          have hx := Lib.hid (xor_bit dn ki (by omega) (by omega))
          have hxb := Lib.hid (Nat.xor_lt_two_pow (n := 23) (show dn < 2 ^ 23 by omega) (Nat.pow_lt_pow_right (by omega : 1 < 2) (show ki < 23 by omega)))
          have sb8 := st8.bel
          have so8 := st8.own
          have sz8 := st8.sz
          go_wp2_with (at_builtin; refine wpList_appN #[.int .i64 (tm + t3), .int .i64 (ki : Int), .bool (bits .and .i64 ((dn : Int) / 2 ^ ki) 1 == 0)] evT sb8 so8 rfl (one3 _ _ _) st8.le sz8 (by omega) (by decide) rfl (.tmp 45) (.tmp 55) rfl _ rfl rfl rfl ?_; intro v9 w9 ho9 hb9 hg9 hat9)
          go_roundw
          case rel =>
            refine ⟨j - 1, dn ^^^ 2 ^ ki, tm + t3, es ++ [⟨tm + t3, (ki : Int), (bits .and .i64 ((dn : Int) / 2 ^ ki) 1 == 0)⟩], by go_num, by rw [hx.out], rfl, by rw [List.length_append]; simp only [List.length_cons, List.length_nil]; omega, by have := hxb.out; omega, by omega, by omega, by rw [List.length_append]; simp only [List.length_cons, List.length_nil]; omega, ?_⟩
            exact (st8.app (by rw [evs_snoc, List.length_append]; exact ho9) hg9).more (by rw [List.length_append]; simp only [List.length_cons, List.length_nil]; omega)
          case measure => simp [intOf]; omega
      · go_wp2_with fail
        refine (pick_any _ g _ 23 st3.cur (by omega) (by omega)).mono ?_
        rintro e w4 ⟨kk, rfl, hy0, k21, hc4, hg4⟩
        have st4 := st3.pick hc4 hg4
        have hy1 : kk ≤ 22 := by omega
        go_wp2_with fail
        refine (l2Keys_any (dn : Int) _ (by omega) (by omega)).mono ?_
        rintro e w5 ⟨A5, c5, rfl, ho5, hb5⟩
        have st5 := st4.below hb5
        have hg4l := st4.cur.lt
        have hkl := keysL_len (dn : Int)
        by_cases hk0 : 0 < (keysL (dn : Int)).length
        · go_wp2_with fail
          refine (one_any _ g _ 2 st5.cur (by omega) (by omega)).mono ?_
          rintro e w6 ⟨q2, rfl, hc6, hg6⟩
          have st6 := st5.pick hc6 hg6
          have ho6 := own_kept ho5 hg6 (by omega)
          cases q2
          · have st7 := st6
            go_wp2_with fail
            refine (pick_any _ g _ 3 st7.cur (by omega) (by omega)).mono ?_
            rintro e w8 ⟨t3, rfl, t30, t31, hc8, hg8⟩
            have st8 := st7.pick hc8 hg8
            obtain ⟨ki, rfl⟩ := Int.eq_ofNat_of_zero_le hy0
            have hx := Lib.hid (xor_bit dn ki (by omega) (by omega))
            have hxb := Lib.hid (Nat.xor_lt_two_pow (n := 23) (show dn < 2 ^ 23 by omega) (Nat.pow_lt_pow_right (by omega : 1 < 2) (show ki < 23 by omega)))
            have sb8 := st8.bel
            have so8 := st8.own
            have sz8 := st8.sz
            go_wp2_with (at_builtin; refine wpList_appN #[.int .i64 (tm + t3), .int .i64 (ki : Int), .bool (bits .and .i64 ((dn : Int) / 2 ^ ki) 1 == 0)] evT sb8 so8 rfl (one3 _ _ _) st8.le sz8 (by omega) (by decide) rfl (.tmp 45) (.tmp 55) rfl _ rfl rfl rfl ?_; intro v9 w9 ho9 hb9 hg9 hat9)
            go_roundw
            case rel =>
              refine ⟨j - 1, dn ^^^ 2 ^ ki, tm + t3, es ++ [⟨tm + t3, (ki : Int), (bits .and .i64 ((dn : Int) / 2 ^ ki) 1 == 0)⟩], by go_num, by rw [hx.out], rfl, by rw [List.length_append]; simp only [List.length_cons, List.length_nil]; omega, by have := hxb.out; omega, by omega, by omega, by rw [List.length_append]; simp only [List.length_cons, List.length_nil]; omega, ?_⟩
              exact (st8.app (by rw [evs_snoc, List.length_append]; exact ho9) hg9).more (by rw [List.length_append]; simp only [List.length_cons, List.length_nil]; omega)
            case measure => simp [intOf]; omega
          · go_wp2_with fail
            refine (pick_any _ g _ ((keysL (dn : Int)).length : Int) st6.cur (by omega) (by omega)).mono ?_
            rintro e w7 ⟨kq, rfl, kq0, kq1, hc7, hg7⟩
            have st7 := st6.pick hc7 hg7
            have ho7 := own_kept ho6 hg7 (by omega)
            obtain ⟨qi, rfl⟩ := Int.eq_ofNat_of_zero_le kq0
            obtain ⟨bq, oq, rfl, hbq, hcq⟩ := (Row.of_own ho7).int (k := qi) (by omega)
            have hmem := keysL_mem (elt_in (keysL (dn : Int)) qi (by omega))
            clear hy0 hy1
            generalize elt (keysL (dn : Int)) qi = kk at hcq hmem
            obtain ⟨hy0, hy1⟩ := hmem
            go_wp2_with fail
            refine (pick_any _ g _ 3 st7.cur (by omega) (by omega)).mono ?_
            rintro e w8 ⟨t3, rfl, t30, t31, hc8, hg8⟩
            have st8 := st7.pick hc8 hg8
            obtain ⟨ki, rfl⟩ := Int.eq_ofNat_of_zero_le hy0
            have hx := Lib.hid (xor_bit dn ki (by omega) (by omega))
            have hxb := Lib.hid (Nat.xor_lt_two_pow (n := 23) (show dn < 2 ^ 23 by omega) (Nat.pow_lt_pow_right (by omega : 1 < 2) (show ki < 23 by omega)))
            have sb8 := st8.bel
            have so8 := st8.own
            have sz8 := st8.sz
            go_wp2_with (at_builtin; refine wpList_appN #[.int .i64 (tm + t3), .int .i64 (ki : Int), .bool (bits .and .i64 ((dn : Int) / 2 ^ ki) 1 == 0)] evT sb8 so8 rfl (one3 _ _ _) st8.le sz8 (by omega) (by decide) rfl (.tmp 45) (.tmp 55) rfl _ rfl rfl rfl ?_; intro v9 w9 ho9 hb9 hg9 hat9)
            go_roundw
            case rel =>
              refine ⟨j - 1, dn ^^^ 2 ^ ki, tm + t3, es ++ [⟨tm + t3, (ki : Int), (bits .and .i64 ((dn : Int) / 2 ^ ki) 1 == 0)⟩], by go_num, by rw [hx.out], rfl, by rw [List.length_append]; simp only [List.length_cons, List.length_nil]; omega, by have := hxb.out; omega, by omega, by omega, by rw [List.length_append]; simp only [List.length_cons, List.length_nil]; omega, ?_⟩
              exact (st8.app (by rw [evs_snoc, List.length_append]; exact ho9) hg9).more (by rw [List.length_append]; simp only [List.length_cons, List.length_nil]; omega)
            case measure => simp [intOf]; omega
        · have st7 := st5
          go_wp2_with fail
          refine (pick_any _ g _ 3 st7.cur (by omega) (by omega)).mono ?_
          rintro e w8 ⟨t3, rfl, t30, t31, hc8, hg8⟩
          have st8 := st7.pick hc8 hg8
          obtain ⟨ki, rfl⟩ := Int.eq_ofNat_of_zero_le hy0
          have hx := Lib.hid (xor_bit dn ki (by omega) (by omega))
          have hxb := Lib.hid (Nat.xor_lt_two_pow (n := 23) (show dn < 2 ^ 23 by omega) (Nat.pow_lt_pow_right (by omega : 1 < 2) (show ki < 23 by omega)))
          have sb8 := st8.bel
          have so8 := st8.own
          have sz8 := st8.sz
          go_wp2_with (at_builtin; refine wpList_appN #[.int .i64 (tm + t3), .int .i64 (ki : Int), .bool (bits .and .i64 ((dn : Int) / 2 ^ ki) 1 == 0)] evT sb8 so8 rfl (one3 _ _ _) st8.le sz8 (by omega) (by decide) rfl (.tmp 45) (.tmp 55) rfl _ rfl rfl rfl ?_; intro v9 w9 ho9 hb9 hg9 hat9)
          go_roundw
          case rel =>
            refine ⟨j - 1, dn ^^^ 2 ^ ki, tm + t3, es ++ [⟨tm + t3, (ki : Int), (bits .and .i64 ((dn : Int) / 2 ^ ki) 1 == 0)⟩], by go_num, by rw [hx.out], rfl, by rw [List.length_append]; simp only [List.length_cons, List.length_nil]; omega, by have := hxb.out; omega, by omega, by omega, by rw [List.length_append]; simp only [List.length_cons, List.length_nil]; omega, ?_⟩
            exact (st8.app (by rw [evs_snoc, List.length_append]; exact ho9) hg9).more (by rw [List.length_append]; simp only [List.length_cons, List.length_nil]; omega)
          case measure => simp [intOf]; omega
    · obtain rfl : j = 0 := by omega
      go_wp2_with fail
      refine (one_any _ g _ 3 st.cur (by omega) (by omega)).mono ?_
      rintro e w2 ⟨q2, rfl, hc2, hg2⟩
      have st2 := st.pick hc2 hg2
      clear st
      cases q2
      · obtain ⟨esA, rfl⟩ : ∃ x, x = es := ⟨_, rfl⟩
        have stA := st2.more (m' := 300) (by omega)
        obtain ⟨A1, c1, rfl, _⟩ := own_slice stA.own
        have hslen : esA.length ≤ 40 := by omega
        by_cases hz : 0 < esA.length
        · obtain ⟨gA, capA, hvA, hbA, hgA⟩ := stA.own.form hz
          cases hvA
          go_wp2_with fail
          refine (one_any _ g _ 10 stA.cur (by omega) (by omega)).mono ?_
          rintro e w6 ⟨q6, rfl, hc6, hg6⟩
          have st6 := stA.pick hc6 hg6
          cases q6
          · have stB := st6.more (m' := 900) (by omega)
            go_wp2_with fail
            refine (one_any _ g _ 40 stB.cur (by omega) (by omega)).mono ?_
            rintro e wC ⟨qC, rfl, hcC, hgC⟩
            have stC := stB.pick hcC hgC
            cases qC
            · go_wp2
              go_ret
              exact ⟨_, _, _, _, rfl, by first | rfl | exact hl'.out, by omega, Row.of_own2 stC.own (by first | rfl | exact hl'.out), stC.bel⟩
            · have hsC := stC.sz
              have hBC := stC.le
              go_wp2_with fail
              refine (pick_any _ g _ 2 (stC.cur.alloc _) (by omega) (by omega)).mono ?_
              rintro e wD ⟨yD, rfl, yD0, yD1, hcD, hgD⟩
              have stD : DrSt w0 B g w.heap.size 44 (.slice (some ⟨wC.heap.size, 0, none⟩) 0 0) [] 1000 wD :=
                (DrSt.pick (m' := 1000) ⟨World.ownsRow_made _ _ _ hsC (by unfold maxLen; omega) (by simp), stC.cur.alloc _, stC.bel.alloc (by omega) _, by simp; omega, stC.hB, stC.hg⟩ (hcD.more (by omega)) hgD)
              go_wp2
              go_loopw [3, 11] (fun v i wr => ∃ j : Nat, ∃ fs : List Ev, i = .int .i64 j ∧ j + fs.length ≤ 201 ∧ DrSt w0 B g w.heap.size 44 v fs 1000 wr) (fun _ i _ => (intOf i).toNat)
              case atStart => exact ⟨(200 + yD).toNat, [], by go_num, by simp; omega, stD⟩
              case round =>
                obtain ⟨jj, fs, rfl, hjj, stE⟩ := hrel
                obtain ⟨A1, c1, rfl, _⟩ := own_slice stE.own
                by_cases hjl : 0 < jj
                · have sbE := stE.bel
                  have soE := stE.own
                  have szE := stE.sz
                  go_wp2_with (at_builtin; refine wpList_appN #[.int .i64 0, .int .i64 4, .bool ((fs.length : Int) % 2 == 0)] evT sbE soE rfl (one3 _ _ _) stE.le szE (by omega) (by decide) rfl (.tmp 113) (.tmp 119) rfl _ rfl rfl rfl ?_; intro vF wF hoF hbF hgF hatF)
                  go_roundw
                  case rel => exact ⟨jj - 1, fs ++ [⟨0, 4, ((fs.length : Int) % 2 == 0)⟩], by go_num, by rw [List.length_append]; simp only [List.length_cons, List.length_nil]; omega, stE.app (by rw [evs_snoc, List.length_append]; exact hoF) hgF⟩
                  case measure => simp [intOf]; omega
                · go_wp2
                  go_ret
                  exact ⟨A1, _, c1, fs, rfl, rfl, by omega, Row.of_own stE.own, stE.bel⟩
          · go_wp2_with fail
            refine (pick_any _ g _ (esA.length : Int) st6.cur (by omega) (by omega)).mono ?_
            rintro e w7 ⟨yi, rfl, yi0, yi1, hc7, hg7⟩
            have st7 := st6.pick hc7 hg7
            obtain ⟨ii, rfl⟩ := Int.eq_ofNat_of_zero_le yi0
            have hil : ii < esA.length := by omega
            have hg7l := st7.cur.lt
            go_wp2_with fail
            refine (among_any _ g _ _ 4 4 [0, -1, tm, 1000000] _ (st7.cur.alloc _) (by omega) rfl (by omega) (by omega) (Row.lit w7 _ _) (fun b off e => by injection e with e; injection e with e; omega)).mono ?_
            rintro e w8 ⟨x1, rfl, hx1, hc8, hg8⟩
            have st8 := (st7.alloc (.cells #[.int .i64 0, .int .i64 (-1), .int .i64 tm, .int .i64 1000000] 3)).pick hc8 hg8
            have hg8l := st8.cur.lt
            go_wp2_with fail
            refine (among_any _ g _ _ 4 4 [0, 23, -1, 3] _ (st8.cur.alloc _) (by omega) rfl (by omega) (by omega) (Row.lit w8 _ _) (fun b off e => by injection e with e; injection e with e; omega)).mono ?_
            rintro e w9 ⟨x2, rfl, hx2, hc9, hg9⟩
            have st9 := (st8.alloc (.cells #[.int .i64 0, .int .i64 23, .int .i64 (-1), .int .i64 3] 3)).pick hc9 hg9
            go_wp2_with fail
            refine (one_any _ g _ 2 st9.cur (by omega) (by omega)).mono ?_
            rintro e w10 ⟨x3, rfl, hc10, hg10⟩
            have st10 := st9.pick hc10 hg10
            have hown := st10.own
            have hfr0 := hown.frozenAt (ii * 3)
            have hfr1 := hown.frozenAt (ii * 3 + 1)
            have hfr2 := hown.frozenAt (ii * 3 + 2)
            obtain ⟨u0, hu0⟩ : ∃ u, w10.cell? ⟨gA, ii * 3, none⟩ = some u := ⟨_, (hown.cellAt (ii * 3) (by omega)).trans (List.getElem?_eq_getElem (by have := hown.1; omega))⟩
            obtain ⟨u1, hu1⟩ : ∃ u, w10.cell? ⟨gA, ii * 3 + 1, none⟩ = some u := ⟨_, (hown.cellAt (ii * 3 + 1) (by omega)).trans (List.getElem?_eq_getElem (by have := hown.1; omega))⟩
            obtain ⟨u2, hu2⟩ : ∃ u, w10.cell? ⟨gA, ii * 3 + 2, none⟩ = some u := ⟨_, (hown.cellAt (ii * 3 + 2) (by omega)).trans (List.getElem?_eq_getElem (by have := hown.1; omega))⟩
            obtain ⟨o3, g3⟩ := own_put3 hown (ii * 3) (.int .i64 x1) (.int .i64 x2) (.bool x3)
            have hset := evs_set esA ii hil (⟨x1, x2, x3⟩ : Ev)
            have hlen' : (esA.take ii ++ [(⟨x1, x2, x3⟩ : Ev)] ++ esA.drop (ii + 1)).length = esA.length := by simp only [List.length_append, List.length_cons, List.length_nil, List.length_take, List.length_drop]; omega
            rw [hset] at o3
            have o3' := Lib.hid o3
            have g3' := Lib.hid g3
            have hl' := Lib.hid hlen'
            clear o3 g3 hset hlen' hown
            have stB : ∀ wx, wx = ((w10.setCell ⟨gA, ii * 3, none⟩ (.int .i64 x1)).setCell ⟨gA, ii * 3 + 1, none⟩ (.int .i64 x2)).setCell ⟨gA, ii * 3 + 2, none⟩ (.bool x3) → DrSt w0 B g w.heap.size 44 (.slice (some ⟨gA, 0, none⟩) esA.length c1) (esA.take ii ++ [(⟨x1, x2, x3⟩ : Ev)] ++ esA.drop (ii + 1)) 900 wx := fun wx e => by
              subst e
              exact (st10.app (by rw [hl'.out]; exact o3'.out) g3'.out).more (by omega)
            have StB := Lib.hid stB
            clear stB
            go_wp2_with fail
            have stB := StB.out _ rfl
            have hlB : (esA.take ii ++ [(⟨x1, x2, x3⟩ : Ev)] ++ esA.drop (ii + 1)).length ≤ 40 := by rw [hl'.out]; omega
            go_wp2_with fail
            refine (one_any _ g _ 40 stB.cur (by omega) (by omega)).mono ?_
            rintro e wC ⟨qC, rfl, hcC, hgC⟩
            have stC := stB.pick hcC hgC
            cases qC
            · go_wp2
              go_ret
              exact ⟨_, _, _, _, rfl, by first | rfl | exact hl'.out, by omega, Row.of_own2 stC.own (by first | rfl | exact hl'.out), stC.bel⟩
            · have hsC := stC.sz
              have hBC := stC.le
              go_wp2_with fail
              refine (pick_any _ g _ 2 (stC.cur.alloc _) (by omega) (by omega)).mono ?_
              rintro e wD ⟨yD, rfl, yD0, yD1, hcD, hgD⟩
              have stD : DrSt w0 B g w.heap.size 44 (.slice (some ⟨wC.heap.size, 0, none⟩) 0 0) [] 1000 wD :=
                (DrSt.pick (m' := 1000) ⟨World.ownsRow_made _ _ _ hsC (by unfold maxLen; omega) (by simp), stC.cur.alloc _, stC.bel.alloc (by omega) _, by simp; omega, stC.hB, stC.hg⟩ (hcD.more (by omega)) hgD)
              go_wp2
              go_loopw [3, 11] (fun v i wr => ∃ j : Nat, ∃ fs : List Ev, i = .int .i64 j ∧ j + fs.length ≤ 201 ∧ DrSt w0 B g w.heap.size 44 v fs 1000 wr) (fun _ i _ => (intOf i).toNat)
              case atStart => exact ⟨(200 + yD).toNat, [], by go_num, by simp; omega, stD⟩
              case round =>
                obtain ⟨jj, fs, rfl, hjj, stE⟩ := hrel
                obtain ⟨A1, c1, rfl, _⟩ := own_slice stE.own
                by_cases hjl : 0 < jj
                · have sbE := stE.bel
                  have soE := stE.own
                  have szE := stE.sz
                  go_wp2_with (at_builtin; refine wpList_appN #[.int .i64 0, .int .i64 4, .bool ((fs.length : Int) % 2 == 0)] evT sbE soE rfl (one3 _ _ _) stE.le szE (by omega) (by decide) rfl (.tmp 113) (.tmp 119) rfl _ rfl rfl rfl ?_; intro vF wF hoF hbF hgF hatF)
                  go_roundw
                  case rel => exact ⟨jj - 1, fs ++ [⟨0, 4, ((fs.length : Int) % 2 == 0)⟩], by go_num, by rw [List.length_append]; simp only [List.length_cons, List.length_nil]; omega, stE.app (by rw [evs_snoc, List.length_append]; exact hoF) hgF⟩
                  case measure => simp [intOf]; omega
                · go_wp2
                  go_ret
                  exact ⟨A1, _, c1, fs, rfl, rfl, by omega, Row.of_own stE.own, stE.bel⟩
        · have stB := stA.more (m' := 900) (by omega)
          go_wp2_with fail
          refine (one_any _ g _ 40 stB.cur (by omega) (by omega)).mono ?_
          rintro e wC ⟨qC, rfl, hcC, hgC⟩
          have stC := stB.pick hcC hgC
          cases qC
          · go_wp2
            go_ret
            exact ⟨_, _, _, _, rfl, by first | rfl | exact hl'.out, by omega, Row.of_own2 stC.own (by first | rfl | exact hl'.out), stC.bel⟩
          · have hsC := stC.sz
            have hBC := stC.le
            go_wp2_with fail
            refine (pick_any _ g _ 2 (stC.cur.alloc _) (by omega) (by omega)).mono ?_
            rintro e wD ⟨yD, rfl, yD0, yD1, hcD, hgD⟩
            have stD : DrSt w0 B g w.heap.size 44 (.slice (some ⟨wC.heap.size, 0, none⟩) 0 0) [] 1000 wD :=
              (DrSt.pick (m' := 1000) ⟨World.ownsRow_made _ _ _ hsC (by unfold maxLen; omega) (by simp), stC.cur.alloc _, stC.bel.alloc (by omega) _, by simp; omega, stC.hB, stC.hg⟩ (hcD.more (by omega)) hgD)
            go_wp2
            go_loopw [3, 11] (fun v i wr => ∃ j : Nat, ∃ fs : List Ev, i = .int .i64 j ∧ j + fs.length ≤ 201 ∧ DrSt w0 B g w.heap.size 44 v fs 1000 wr) (fun _ i _ => (intOf i).toNat)
            case atStart => exact ⟨(200 + yD).toNat, [], by go_num, by simp; omega, stD⟩
            case round =>
              obtain ⟨jj, fs, rfl, hjj, stE⟩ := hrel
              obtain ⟨A1, c1, rfl, _⟩ := own_slice stE.own
              by_cases hjl : 0 < jj
              · have sbE := stE.bel
                have soE := stE.own
                have szE := stE.sz
                go_wp2_with (at_builtin; refine wpList_appN #[.int .i64 0, .int .i64 4, .bool ((fs.length : Int) % 2 == 0)] evT sbE soE rfl (one3 _ _ _) stE.le szE (by omega) (by decide) rfl (.tmp 113) (.tmp 119) rfl _ rfl rfl rfl ?_; intro vF wF hoF hbF hgF hatF)
                go_roundw
                case rel => exact ⟨jj - 1, fs ++ [⟨0, 4, ((fs.length : Int) % 2 == 0)⟩], by go_num, by rw [List.length_append]; simp only [List.length_cons, List.length_nil]; omega, stE.app (by rw [evs_snoc, List.length_append]; exact hoF) hgF⟩
                case measure => simp [intOf]; omega
              · go_wp2
                go_ret
                exact ⟨A1, _, c1, fs, rfl, rfl, by omega, Row.of_own stE.own, stE.bel⟩
      · go_wp2_with fail
        refine (l2Keys_any (dn : Int) _ (by omega) (by omega)).mono ?_
        rintro e w3 ⟨A3, c3, rfl, ho3, hb3⟩
        have st3 := (st2.below hb3).more (m' := 300) (by omega)
        have hcl3 := clear_of_own st2.own (Z := w2.heap.size) (Z' := w3.heap.size) (Nat.le_refl _)
        have hkl := keysL_len (dn : Int)
        obtain ⟨_, _, hv3, hnc3⟩ := own_slice ho3
        cases hv3
        go_wp2
        go_loopw [3, 9] (fun v hd wr => ∃ A' n' c', ∃ r : List Int, ∃ fs : List Ev, hd = .slice A' n' c' ∧ r.length = n' ∧ n' ≤ c' ∧ fs.length + n' ≤ 38 ∧ RowIn w3 w2.heap.size w3.heap.size A' (ints r) ∧ DrSt w0 B g w.heap.size 44 v fs 300 wr ∧ Clear v w2.heap.size w3.heap.size ∧ Kept w3 wr w2.heap.size w3.heap.size ∧ w3.heap.size ≤ wr.heap.size) (fun _ hd _ => sliceLen hd)
        case atStart => exact ⟨A3, _, c3, keysL (dn : Int), es, rfl, rfl, hnc3, by omega, RowIn.of_own ho3, st3, hcl3, kept_refl _ _ _, Nat.le_refl _⟩
        case round =>
          obtain ⟨A', n', c', r, fs, rfl, hrl, hnc, hfl, hrow, stL, hclL, hkL, hszL⟩ := hrel
          by_cases hn0 : 0 < n'
          · obtain ⟨bb, oo, rfl, hZ1, hZ2, hcell⟩ := (hrow.kept hkL).int (k := 0) (by omega)
            have hcell' : wr.cell? ⟨bb, oo, none⟩ = some (.int .i64 (elt r 0)) := hcell
            have sbL := stL.bel
            have soL := stL.own
            have szL := stL.sz
            have hdrop := hrow.drop 1
            have hd1 : RowIn w3 w2.heap.size w3.heap.size (some ⟨bb, oo + 1, none⟩) (ints (r.drop 1)) := by simpa [ints] using hdrop
            by_cases hc1 : c' = 1
            · obtain rfl : n' = 1 := by omega
              subst hc1
              go_wp2_with (at_builtin; refine wpList_appN #[.int .i64 tm, .int .i64 (elt r 0), .bool false] evT sbL soL rfl (one3 _ _ _) stL.le szL (by omega) (by decide) rfl (.tmp 71) (.tmp 77) rfl _ rfl rfl rfl ?_; intro vM wM hoM hbM hgM hatM)
              go_roundw
              case rel => exact ⟨_, 0, _, [], fs ++ [⟨tm, elt r 0, false⟩], rfl, rfl, by omega, by rw [List.length_append]; simp only [List.length_cons, List.length_nil]; omega, fun hne => absurd rfl hne, stL.app (by rw [evs_snoc, List.length_append]; exact hoM) hgM, clear_app hclL hatM (by omega), kept_app hkL hclL hgM hszL, Nat.le_trans hszL hgM.size⟩
              case measure => simp [sliceLen]
            · have hc1' : 1 < c' := by omega
              go_wp2_with (at_builtin; refine wpList_appN #[.int .i64 tm, .int .i64 (elt r 0), .bool false] evT sbL soL rfl (one3 _ _ _) stL.le szL (by omega) (by decide) rfl (.tmp 71) (.tmp 77) rfl _ rfl rfl rfl ?_; intro vM wM hoM hbM hgM hatM)
              go_roundw
              case rel => exact ⟨_, n' - 1, _, r.drop 1, fs ++ [⟨tm, elt r 0, false⟩], rfl, by rw [List.length_drop]; omega, by omega, by rw [List.length_append]; simp only [List.length_cons, List.length_nil]; omega, hd1, stL.app (by rw [evs_snoc, List.length_append]; exact hoM) hgM, clear_app hclL hatM (by omega), kept_app hkL hclL hgM hszL, Nat.le_trans hszL hgM.size⟩
              case measure => simp [sliceLen]; omega
          · obtain rfl : n' = 0 := by omega
            obtain ⟨esA, rfl⟩ : ∃ x, x = fs := ⟨_, rfl⟩
            have stA := stL
            obtain ⟨A1, c1, rfl, _⟩ := own_slice stA.own
            have hslen : esA.length ≤ 40 := by omega
            by_cases hz : 0 < esA.length
            · obtain ⟨gA, capA, hvA, hbA, hgA⟩ := stA.own.form hz
              cases hvA
              go_wp2_with fail
              refine (one_any _ g _ 10 stA.cur (by omega) (by omega)).mono ?_
              rintro e w6 ⟨q6, rfl, hc6, hg6⟩
              have st6 := stA.pick hc6 hg6
              cases q6
              · have stB := st6.more (m' := 900) (by omega)
                go_wp2_with fail
                refine (one_any _ g _ 40 stB.cur (by omega) (by omega)).mono ?_
                rintro e wC ⟨qC, rfl, hcC, hgC⟩
                have stC := stB.pick hcC hgC
                cases qC
                · go_wp2
                  go_ret
                  exact ⟨_, _, _, _, rfl, by first | rfl | exact hl'.out, by omega, Row.of_own2 stC.own (by first | rfl | exact hl'.out), stC.bel⟩
                · have hsC := stC.sz
                  have hBC := stC.le
                  go_wp2_with fail
                  refine (pick_any _ g _ 2 (stC.cur.alloc _) (by omega) (by omega)).mono ?_
                  rintro e wD ⟨yD, rfl, yD0, yD1, hcD, hgD⟩
                  have stD : DrSt w0 B g w.heap.size 44 (.slice (some ⟨wC.heap.size, 0, none⟩) 0 0) [] 1000 wD :=
                    (DrSt.pick (m' := 1000) ⟨World.ownsRow_made _ _ _ hsC (by unfold maxLen; omega) (by simp), stC.cur.alloc _, stC.bel.alloc (by omega) _, by simp; omega, stC.hB, stC.hg⟩ (hcD.more (by omega)) hgD)
                  go_wp2
                  go_loopw [3, 11] (fun v i wr => ∃ j : Nat, ∃ fs : List Ev, i = .int .i64 j ∧ j + fs.length ≤ 201 ∧ DrSt w0 B g w.heap.size 44 v fs 1000 wr) (fun _ i _ => (intOf i).toNat)
                  case atStart => exact ⟨(200 + yD).toNat, [], by go_num, by simp; omega, stD⟩
                  case round =>
                    obtain ⟨jj, fs, rfl, hjj, stE⟩ := hrel
                    obtain ⟨A1, c1, rfl, _⟩ := own_slice stE.own
                    by_cases hjl : 0 < jj
                    · have sbE := stE.bel
                      have soE := stE.own
                      have szE := stE.sz
                      go_wp2_with (at_builtin; refine wpList_appN #[.int .i64 0, .int .i64 4, .bool ((fs.length : Int) % 2 == 0)] evT sbE soE rfl (one3 _ _ _) stE.le szE (by omega) (by decide) rfl (.tmp 113) (.tmp 119) rfl _ rfl rfl rfl ?_; intro vF wF hoF hbF hgF hatF)
                      go_roundw
                      case rel => exact ⟨jj - 1, fs ++ [⟨0, 4, ((fs.length : Int) % 2 == 0)⟩], by go_num, by rw [List.length_append]; simp only [List.length_cons, List.length_nil]; omega, stE.app (by rw [evs_snoc, List.length_append]; exact hoF) hgF⟩
                      case measure => simp [intOf]; omega
                    · go_wp2
                      go_ret
                      exact ⟨A1, _, c1, fs, rfl, rfl, by omega, Row.of_own stE.own, stE.bel⟩
              · go_wp2_with fail
                refine (pick_any _ g _ (esA.length : Int) st6.cur (by omega) (by omega)).mono ?_
                rintro e w7 ⟨yi, rfl, yi0, yi1, hc7, hg7⟩
                have st7 := st6.pick hc7 hg7
                obtain ⟨ii, rfl⟩ := Int.eq_ofNat_of_zero_le yi0
                have hil : ii < esA.length := by omega
                have hg7l := st7.cur.lt
                go_wp2_with fail
                refine (among_any _ g _ _ 4 4 [0, -1, tm, 1000000] _ (st7.cur.alloc _) (by omega) rfl (by omega) (by omega) (Row.lit w7 _ _) (fun b off e => by injection e with e; injection e with e; omega)).mono ?_
                rintro e w8 ⟨x1, rfl, hx1, hc8, hg8⟩
                have st8 := (st7.alloc (.cells #[.int .i64 0, .int .i64 (-1), .int .i64 tm, .int .i64 1000000] 3)).pick hc8 hg8
                have hg8l := st8.cur.lt
                go_wp2_with fail
                refine (among_any _ g _ _ 4 4 [0, 23, -1, 3] _ (st8.cur.alloc _) (by omega) rfl (by omega) (by omega) (Row.lit w8 _ _) (fun b off e => by injection e with e; injection e with e; omega)).mono ?_
                rintro e w9 ⟨x2, rfl, hx2, hc9, hg9⟩
                have st9 := (st8.alloc (.cells #[.int .i64 0, .int .i64 23, .int .i64 (-1), .int .i64 3] 3)).pick hc9 hg9
                go_wp2_with fail
                refine (one_any _ g _ 2 st9.cur (by omega) (by omega)).mono ?_
                rintro e w10 ⟨x3, rfl, hc10, hg10⟩
                have st10 := st9.pick hc10 hg10
                have hown := st10.own
                have hfr0 := hown.frozenAt (ii * 3)
                have hfr1 := hown.frozenAt (ii * 3 + 1)
                have hfr2 := hown.frozenAt (ii * 3 + 2)
                obtain ⟨u0, hu0⟩ : ∃ u, w10.cell? ⟨gA, ii * 3, none⟩ = some u := ⟨_, (hown.cellAt (ii * 3) (by omega)).trans (List.getElem?_eq_getElem (by have := hown.1; omega))⟩
                obtain ⟨u1, hu1⟩ : ∃ u, w10.cell? ⟨gA, ii * 3 + 1, none⟩ = some u := ⟨_, (hown.cellAt (ii * 3 + 1) (by omega)).trans (List.getElem?_eq_getElem (by have := hown.1; omega))⟩
                obtain ⟨u2, hu2⟩ : ∃ u, w10.cell? ⟨gA, ii * 3 + 2, none⟩ = some u := ⟨_, (hown.cellAt (ii * 3 + 2) (by omega)).trans (List.getElem?_eq_getElem (by have := hown.1; omega))⟩
                obtain ⟨o3, g3⟩ := own_put3 hown (ii * 3) (.int .i64 x1) (.int .i64 x2) (.bool x3)
                have hset := evs_set esA ii hil (⟨x1, x2, x3⟩ : Ev)
                have hlen' : (esA.take ii ++ [(⟨x1, x2, x3⟩ : Ev)] ++ esA.drop (ii + 1)).length = esA.length := by simp only [List.length_append, List.length_cons, List.length_nil, List.length_take, List.length_drop]; omega
                rw [hset] at o3
                have o3' := Lib.hid o3
                have g3' := Lib.hid g3
                have hl' := Lib.hid hlen'
                clear o3 g3 hset hlen' hown
                have stB : ∀ wx, wx = ((w10.setCell ⟨gA, ii * 3, none⟩ (.int .i64 x1)).setCell ⟨gA, ii * 3 + 1, none⟩ (.int .i64 x2)).setCell ⟨gA, ii * 3 + 2, none⟩ (.bool x3) → DrSt w0 B g w.heap.size 44 (.slice (some ⟨gA, 0, none⟩) esA.length c1) (esA.take ii ++ [(⟨x1, x2, x3⟩ : Ev)] ++ esA.drop (ii + 1)) 900 wx := fun wx e => by
                  subst e
                  exact (st10.app (by rw [hl'.out]; exact o3'.out) g3'.out).more (by omega)
                have StB := Lib.hid stB
                clear stB
                go_wp2_with fail
                have stB := StB.out _ rfl
                have hlB : (esA.take ii ++ [(⟨x1, x2, x3⟩ : Ev)] ++ esA.drop (ii + 1)).length ≤ 40 := by rw [hl'.out]; omega
                go_wp2_with fail
                refine (one_any _ g _ 40 stB.cur (by omega) (by omega)).mono ?_
                rintro e wC ⟨qC, rfl, hcC, hgC⟩
                have stC := stB.pick hcC hgC
                cases qC
                · go_wp2
                  go_ret
                  exact ⟨_, _, _, _, rfl, by first | rfl | exact hl'.out, by omega, Row.of_own2 stC.own (by first | rfl | exact hl'.out), stC.bel⟩
                · have hsC := stC.sz
                  have hBC := stC.le
                  go_wp2_with fail
                  refine (pick_any _ g _ 2 (stC.cur.alloc _) (by omega) (by omega)).mono ?_
                  rintro e wD ⟨yD, rfl, yD0, yD1, hcD, hgD⟩
                  have stD : DrSt w0 B g w.heap.size 44 (.slice (some ⟨wC.heap.size, 0, none⟩) 0 0) [] 1000 wD :=
                    (DrSt.pick (m' := 1000) ⟨World.ownsRow_made _ _ _ hsC (by unfold maxLen; omega) (by simp), stC.cur.alloc _, stC.bel.alloc (by omega) _, by simp; omega, stC.hB, stC.hg⟩ (hcD.more (by omega)) hgD)
                  go_wp2
                  go_loopw [3, 11] (fun v i wr => ∃ j : Nat, ∃ fs : List Ev, i = .int .i64 j ∧ j + fs.length ≤ 201 ∧ DrSt w0 B g w.heap.size 44 v fs 1000 wr) (fun _ i _ => (intOf i).toNat)
                  case atStart => exact ⟨(200 + yD).toNat, [], by go_num, by simp; omega, stD⟩
                  case round =>
                    obtain ⟨jj, fs, rfl, hjj, stE⟩ := hrel
                    obtain ⟨A1, c1, rfl, _⟩ := own_slice stE.own
                    by_cases hjl : 0 < jj
                    · have sbE := stE.bel
                      have soE := stE.own
                      have szE := stE.sz
                      go_wp2_with (at_builtin; refine wpList_appN #[.int .i64 0, .int .i64 4, .bool ((fs.length : Int) % 2 == 0)] evT sbE soE rfl (one3 _ _ _) stE.le szE (by omega) (by decide) rfl (.tmp 113) (.tmp 119) rfl _ rfl rfl rfl ?_; intro vF wF hoF hbF hgF hatF)
                      go_roundw
                      case rel => exact ⟨jj - 1, fs ++ [⟨0, 4, ((fs.length : Int) % 2 == 0)⟩], by go_num, by rw [List.length_append]; simp only [List.length_cons, List.length_nil]; omega, stE.app (by rw [evs_snoc, List.length_append]; exact hoF) hgF⟩
                      case measure => simp [intOf]; omega
                    · go_wp2
                      go_ret
                      exact ⟨A1, _, c1, fs, rfl, rfl, by omega, Row.of_own stE.own, stE.bel⟩
            · have stB := stA.more (m' := 900) (by omega)
              go_wp2_with fail
              refine (one_any _ g _ 40 stB.cur (by omega) (by omega)).mono ?_
              rintro e wC ⟨qC, rfl, hcC, hgC⟩
              have stC := stB.pick hcC hgC
              cases qC
              · go_wp2
                go_ret
                exact ⟨_, _, _, _, rfl, by first | rfl | exact hl'.out, by omega, Row.of_own2 stC.own (by first | rfl | exact hl'.out), stC.bel⟩
              · have hsC := stC.sz
                have hBC := stC.le
                go_wp2_with fail
                refine (pick_any _ g _ 2 (stC.cur.alloc _) (by omega) (by omega)).mono ?_
                rintro e wD ⟨yD, rfl, yD0, yD1, hcD, hgD⟩
                have stD : DrSt w0 B g w.heap.size 44 (.slice (some ⟨wC.heap.size, 0, none⟩) 0 0) [] 1000 wD :=
                  (DrSt.pick (m' := 1000) ⟨World.ownsRow_made _ _ _ hsC (by unfold maxLen; omega) (by simp), stC.cur.alloc _, stC.bel.alloc (by omega) _, by simp; omega, stC.hB, stC.hg⟩ (hcD.more (by omega)) hgD)
                go_wp2
                go_loopw [3, 11] (fun v i wr => ∃ j : Nat, ∃ fs : List Ev, i = .int .i64 j ∧ j + fs.length ≤ 201 ∧ DrSt w0 B g w.heap.size 44 v fs 1000 wr) (fun _ i _ => (intOf i).toNat)
                case atStart => exact ⟨(200 + yD).toNat, [], by go_num, by simp; omega, stD⟩
                case round =>
                  obtain ⟨jj, fs, rfl, hjj, stE⟩ := hrel
                  obtain ⟨A1, c1, rfl, _⟩ := own_slice stE.own
                  by_cases hjl : 0 < jj
                  · have sbE := stE.bel
                    have soE := stE.own
                    have szE := stE.sz
                    go_wp2_with (at_builtin; refine wpList_appN #[.int .i64 0, .int .i64 4, .bool ((fs.length : Int) % 2 == 0)] evT sbE soE rfl (one3 _ _ _) stE.le szE (by omega) (by decide) rfl (.tmp 113) (.tmp 119) rfl _ rfl rfl rfl ?_; intro vF wF hoF hbF hgF hatF)
                    go_roundw
                    case rel => exact ⟨jj - 1, fs ++ [⟨0, 4, ((fs.length : Int) % 2 == 0)⟩], by go_num, by rw [List.length_append]; simp only [List.length_cons, List.length_nil]; omega, stE.app (by rw [evs_snoc, List.length_append]; exact hoF) hgF⟩
                    case measure => simp [intOf]; omega
                  · go_wp2
                    go_ret
                    exact ⟨A1, _, c1, fs, rfl, rfl, by omega, Row.of_own stE.own, stE.bel⟩

theorem drawEvents_any (A : Option Addr) (n c : Nat) (w : World) (h : Code w A n) :
    Calls Try.prog 54 #[.slice A n c] w fun e w' => ∃ A' n' c', ∃ es : List Ev, e = .returned (.slice A' n' c') ∧ es.length = n' ∧ n' ≤ 300 ∧ Row w' w'.heap.size A' (evs es) ∧ Below w.heap.size w w' := by
  have hc := Lib.hid (h.cur c)
  go_enter Try.func54, Try.ntmps54
  go_wp2_with fail
  refine (events_any w _ w.heap.size w.heap.size hc.out ((Below.refl _ w).alloc (Nat.le_refl _) _) (Nat.le_refl _)).mono ?_
  rintro e w1 ⟨A', n', c', es, rfl, h1, h2, h3, h4⟩
  go_wp2
  go_ret
  exact ⟨A', n', c', es, rfl, h1, h2, h3, h4⟩
theorem drawLastUp_any (A : Option Addr) (n c : Nat) (w : World) (h : Code w A n) :
    Calls Try.prog 35 #[.slice A n c] w fun e w' => ∃ A' n' c', ∃ es : List Ev, e = .returned (.slice A' n' c') ∧ es.length = n' ∧ n' ≤ 300 ∧ Row w' w'.heap.size A' (evs es) ∧ Below w.heap.size w w' := by
  go_enter Try.func35, Try.ntmps35
  go_wp2_with fail
  refine (drawEvents_any A n c w h).mono ?_
  rintro e w1 ⟨A', n', c', es, rfl, h1, h2, h3, h4⟩
  go_wp2
  go_ret
  exact ⟨A', n', c', es, rfl, h1, h2, h3, h4⟩
end Go.Proofs.Ythnecaeljpaggaa
