/- Plain laws on lists of strokes: begins with, compare. No condition. | Contracts on outlines: begins with, compare. Condition: lists no longer than maxLen. | Contracts on outlines: compare, begins with, HasPrefix, CompareOutlines. Condition: lists no longer than maxLen. | Appending a whole row that lies anywhere; a slice that slices.Grow has made out of nil. No condition. | Contracts on outlines: a list of its own, joined lists. Condition: lists no longer than 2^20. -/
import Derived.Test.YtnpiljkchjdpfaaGreatDoorMem
import Derived.Test.YtnpiljkchjdpfaaGreatDoorOutl
import Derived.Test.YtnpiljkchjdpfaaGreatDoorBits
import Derived.Deep.Draws
import Derived.Deep.AppendSrc
import Derived.Deep.AppendLies
import Derived.Lib.AppendZeros
import Derived.Test.YtnpiljkchjdpfaaGreatDoorIntS
namespace Go.Proofs.YtnpiljkchjdpfaaGreatDoor
open Go.RowKit

theorem eq_of_takes {xs ys : List Int} {n : Nat} (hx : xs.length = n) (hy : ys.length = n) (h : xs.take n = ys.take n) : (xs == ys) = true := by
  rw [← hx, List.take_length, hx, ← hy, List.take_length] at h
  simp [h]
theorem takes_succ {xs ys : List Int} {k : Nat} (hx : k < xs.length) (hy : k < ys.length) (h : xs.take k = ys.take k) (he : elt xs k = elt ys k) : xs.take (k + 1) = ys.take (k + 1) := by
  rw [take_int xs k hx, take_int ys k hy, h, he]
theorem ne_of_elt {xs ys : List Int} (k : Nat) (he : elt xs k ≠ elt ys k) : (xs == ys) = false := by
  apply Bool.eq_false_iff.2
  intro h
  rw [beq_iff_eq] at h
  exact he (by rw [h])
theorem ne_of_len {xs ys : List Int} (h : xs.length ≠ ys.length) : (xs == ys) = false := by
  apply Bool.eq_false_iff.2
  intro e
  rw [beq_iff_eq] at e
  exact h (by rw [e])

/-- A list begins with another one. -/
def startsB (o p : List Int) : Bool := decide (p.length ≤ o.length) && (o.take p.length == p)

/-- The order of lists. -/
def cmpL : List Int → List Int → Int
  | [], [] => 0
  | [], _ :: _ => -1
  | _ :: _, [] => 1
  | a :: l, b :: r => if a < b then -1 else if b < a then 1 else cmpL l r
theorem drop_elt (l : List Int) (k : Nat) (h : k < l.length) : l.drop k = elt l k :: l.drop (k + 1) := by
  rw [List.drop_eq_getElem_cons h]; simp [elt, h]
theorem cmp_step {a b : List Int} {k : Nat} (ha : k < a.length) (hb : k < b.length) :
    cmpL (a.drop k) (b.drop k) = if elt a k < elt b k then -1 else if elt b k < elt a k then 1 else cmpL (a.drop (k + 1)) (b.drop (k + 1)) := by
  rw [drop_elt a k ha, drop_elt b k hb, cmpL]
theorem cmp_end {a b : List Int} {k : Nat} (ha : k ≤ a.length) (hb : k ≤ b.length) (h : ¬ (k < a.length ∧ k < b.length)) :
    cmpL (a.drop k) (b.drop k) = if a.length < b.length then -1 else if b.length < a.length then 1 else 0 := by
  by_cases h1 : k < a.length
  · have e : b.drop k = [] := List.drop_eq_nil_of_le (by omega)
    rw [e, drop_elt a k h1, cmpL, if_neg (by omega), if_pos (by omega)]
  · have e : a.drop k = [] := List.drop_eq_nil_of_le (by omega)
    by_cases h2 : k < b.length
    · rw [e, drop_elt b k h2, cmpL, if_pos (by omega)]
    · have e' : b.drop k = [] := List.drop_eq_nil_of_le (by omega)
      rw [e, e', cmpL, if_neg (by omega), if_neg (by omega)]
end Go.Proofs.YtnpiljkchjdpfaaGreatDoor

namespace Go.Proofs.YtnpiljkchjdpfaaGreatDoor
open Go.RowKit Go.Shelf

end Go.Proofs.YtnpiljkchjdpfaaGreatDoor

namespace Go.Proofs.YtnpiljkchjdpfaaGreatDoor
open Go.RowKit Go.Shelf

theorem isNaN_any (x : Int) (w : World) : Calls Tryz.prog 90 #[.int .i64 x] w fun e w' => e = .returned (.bool false) ∧ w = w' := by
  go_enter Tryz.func90, Tryz.ntmps90
  go_wp2
  all_goals go_ret
  all_goals simp

def cmp1 (x y : Int) : Int := if x < y then -1 else if y < x then 1 else 0
theorem cmpCompare_any (x y : Int) (w : World) : Calls Tryz.prog 67 #[.int .i64 x, .int .i64 y] w fun e w' => e = .returned (.int .i64 (cmp1 x y)) ∧ w = w' := by
  by_cases h1 : x < y
  · have e : cmp1 x y = -1 := if_pos h1
    rw [e]
    go_enter Tryz.func67, Tryz.ntmps67
    go_wp2_with (go_at_call 90; refine (isNaN_any _ _).mono ?_; rintro e w' ⟨rfl, rfl⟩)
    go_ret
    exact ⟨rfl, rfl⟩
  · by_cases h2 : y < x
    · have e : cmp1 x y = 1 := by rw [cmp1, if_neg h1, if_pos h2]
      rw [e]
      go_enter Tryz.func67, Tryz.ntmps67
      go_wp2_with (go_at_call 90; refine (isNaN_any _ _).mono ?_; rintro e w' ⟨rfl, rfl⟩)
      go_ret
      exact ⟨rfl, rfl⟩
    · have e : cmp1 x y = 0 := by rw [cmp1, if_neg h1, if_neg h2]
      rw [e]
      go_enter Tryz.func67, Tryz.ntmps67
      go_wp2_with (go_at_call 90; refine (isNaN_any _ _).mono ?_; rintro e w' ⟨rfl, rfl⟩)
      go_ret
      exact ⟨rfl, rfl⟩

set_option maxHeartbeats 1000000 in
theorem slicesCompare_any (A A' : Option Addr) (n m c c' : Nat) (xs ys : List Int) (w : World) (hx : xs.length = n) (hy : ys.length = m) (hn : n ≤ maxLen) (hm : m ≤ maxLen) (B : Nat) (hr : Row w B A (ints xs)) (hr' : Row w B A' (ints ys)) :
    Calls Tryz.prog 47 #[.slice A n c, .slice A' m c'] w fun e w' => e = .returned (.int .i64 (cmpL xs ys)) ∧ w = w' := by
  unfold maxLen at hn hm
  go_enter Tryz.func47, Tryz.ntmps47
  go_wp2
  go_loopw [11, 5, 6, 7, 8] (fun i _ _ _ _ wr => ∃ k : Nat, k ≤ n ∧ k ≤ m ∧ i = .int .i64 k ∧ cmpL xs ys = cmpL (xs.drop k) (ys.drop k) ∧ wr = w) (fun i _ _ _ _ _ => n - (intOf i).toNat)
  case atStart => exact ⟨0, by omega, by omega, rfl, by simp, rfl⟩
  case round =>
    obtain ⟨k, hk, hk2, rfl, ht, rfl⟩ := hrel
    by_cases hlt : k < n
    · obtain ⟨b, off, rfl, hb, hc⟩ := hr.int (k := k) (by omega)
      by_cases hlm : k < m
      · obtain ⟨b', off', rfl, hb', hc'⟩ := hr'.int (k := k) (by omega)
        have hs := cmp_step (a := xs) (b := ys) (k := k) (by omega) (by omega)
        have hcc := fun W => cmpCompare_any (elt xs k) (elt ys k) W
        rw [← ht] at hs
        clear ht
        by_cases g1 : elt xs k < elt ys k
        · have e : cmp1 (elt xs k) (elt ys k) = -1 := if_pos g1
          rw [if_pos g1] at hs
          simp only [e] at hcc
          have H := Lib.hid hs
          clear hs e g1
          go_wp2_with (go_at_call 67; refine (hcc _).mono ?_; rintro e w' ⟨rfl, rfl⟩)
          go_ret
          exact ⟨ret_int H.out.symm, rfl⟩
        · by_cases g2 : elt ys k < elt xs k
          · have e : cmp1 (elt xs k) (elt ys k) = 1 := by rw [cmp1, if_neg g1, if_pos g2]
            rw [if_neg g1, if_pos g2] at hs
            simp only [e] at hcc
            have H := Lib.hid hs
            clear hs e g1 g2
            go_wp2_with (go_at_call 67; refine (hcc _).mono ?_; rintro e w' ⟨rfl, rfl⟩)
            go_ret
            exact ⟨ret_int H.out.symm, rfl⟩
          · have e : cmp1 (elt xs k) (elt ys k) = 0 := by rw [cmp1, if_neg g1, if_neg g2]
            rw [if_neg g1, if_neg g2] at hs
            simp only [e] at hcc
            have H := Lib.hid hs
            clear hs e g1 g2
            go_wp2_with (go_at_call 67; refine (hcc _).mono ?_; rintro e w' ⟨rfl, rfl⟩)
            go_roundw
            case rel => exact ⟨k + 1, by omega, by omega, by go_num, H.out, by trivial⟩
            case measure => simp [intOf]; omega
      · obtain rfl : k = m := by omega
        have he := cmp_end (a := xs) (b := ys) (k := k) (by omega) (by omega) (by omega)
        rw [← ht, if_neg (by omega), if_pos (by omega)] at he
        have H := Lib.hid he
        clear he ht
        go_wp2
        go_ret
        exact ⟨ret_int H.out.symm, rfl⟩
    · obtain rfl : k = n := by omega
      have he := cmp_end (a := xs) (b := ys) (k := k) (by omega) (by omega) (by omega)
      rw [← ht] at he
      by_cases hlm : k < m
      · rw [if_pos (by omega)] at he
        have H := Lib.hid he
        clear he ht
        go_wp2
        go_ret
        exact ⟨ret_int H.out.symm, rfl⟩
      · rw [if_neg (by omega), if_neg (by omega)] at he
        have H := Lib.hid he
        clear he ht
        go_wp2
        go_ret
        exact ⟨ret_int H.out.symm, rfl⟩

set_option maxHeartbeats 1000000 in
theorem l4Compare_any (A A' : Option Addr) (n m c c' : Nat) (xs ys : List Int) (w : World) (hx : xs.length = n) (hy : ys.length = m) (hn : n ≤ maxLen) (hm : m ≤ maxLen) (B : Nat) (hr : Row w B A (ints xs)) (hr' : Row w B A' (ints ys)) :
    Calls Tryz.prog 36 #[.slice A n c, .slice A' m c'] w fun e w' => e = .returned (.int .i64 (cmpL xs ys)) ∧ ∃ k, w' = w.drewN k := by
  unfold maxLen at hn hm
  go_enter Tryz.func36, Tryz.ntmps36
  go_wp2
  go_loopw [5] (fun i wr => ∃ k : Nat, k ≤ n ∧ k ≤ m ∧ i = .int .i64 k ∧ cmpL xs ys = cmpL (xs.drop k) (ys.drop k) ∧ ∃ q, wr = w.drewN q) (fun i _ => n - (intOf i).toNat)
  case atStart => exact ⟨0, by omega, by omega, rfl, by simp, 0, rfl⟩
  case round =>
    obtain ⟨k, hk, hk2, rfl, ht, q, rfl⟩ := hrel
    by_cases hlt : k < n
    · obtain ⟨b, off, rfl, hb, hc⟩ := hr.int (k := k) (by omega)
      by_cases hlm : k < m
      · obtain ⟨b', off', rfl, hb', hc'⟩ := hr'.int (k := k) (by omega)
        have hs := cmp_step (a := xs) (b := ys) (k := k) (by omega) (by omega)
        have h1 : (0 : Int) ≤ (k : Int) := by omega
        have h2 : (k : Int) < (n : Int) := by omega
        have h3 : (k : Int) < (m : Int) := by omega
        rw [← ht] at hs
        clear ht
        by_cases g1 : elt xs k < elt ys k
        · rw [if_pos g1] at hs
          have e : decide (elt xs k < elt ys k) = true := by simp [g1]
          have H := Lib.hid hs
          clear hs g1
          go_wp2
          go_quiet (fail)
          go_wp2
          go_ret
          exact ⟨ret_int H.out.symm, _, World.drewN_drewN ..⟩
        · have e : decide (elt xs k < elt ys k) = false := by simp; omega
          by_cases g2 : elt ys k < elt xs k
          · rw [if_neg g1, if_pos g2] at hs
            have e2 : decide (elt ys k < elt xs k) = true := by simp [g2]
            have H := Lib.hid hs
            clear hs g1 g2
            go_wp2
            go_quiet (fail)
            go_wp2
            go_quiet (fail)
            go_wp2
            go_ret
            exact ⟨ret_int H.out.symm, _, by rw [World.drewN_drewN, World.drewN_drewN]⟩
          · rw [if_neg g1, if_neg g2] at hs
            have e2 : decide (elt ys k < elt xs k) = false := by simp; omega
            have H := Lib.hid hs
            clear hs g1 g2
            go_wp2
            go_quiet (fail)
            go_wp2
            go_quiet (fail)
            go_wp2
            go_roundw
            case rel => exact ⟨k + 1, by omega, by omega, by go_num, H.out, _, rfl⟩
            case measure => simp [intOf]; omega
      · obtain rfl : k = m := by omega
        have he := cmp_end (a := xs) (b := ys) (k := k) (by omega) (by omega) (by omega)
        rw [← ht, if_neg (by omega), if_pos (by omega)] at he
        have H := Lib.hid he
        clear he ht
        go_wp2
        go_ret
        exact ⟨ret_int H.out.symm, q, rfl⟩
    · obtain rfl : k = n := by omega
      have he := cmp_end (a := xs) (b := ys) (k := k) (by omega) (by omega) (by omega)
      rw [← ht] at he
      by_cases hlm : k < m
      · rw [if_pos (by omega)] at he
        have H := Lib.hid he
        clear he ht
        go_wp2
        go_ret
        exact ⟨ret_int H.out.symm, q, rfl⟩
      · rw [if_neg (by omega), if_neg (by omega)] at he
        have H := Lib.hid he
        clear he ht
        go_wp2
        go_ret
        exact ⟨ret_int H.out.symm, q, rfl⟩

theorem starts_len {o p : List Int} (h : ¬ p.length ≤ o.length) : startsB o p = false := by simp [startsB, h]
theorem starts_eq {o p : List Int} (h : p.length ≤ o.length) : startsB o p = (o.take p.length == p) := by simp [startsB, h]

def bothB (o p : List Int) : Bool := outB o && outB p
def preB (o p : List Int) : Bool := bothB o p && startsB o p
def cmpR (o p : List Int) : Int := if bothB o p then cmpL o p else 0
theorem both_l {o p : List Int} (h : outB o = false) : bothB o p = false ∧ preB o p = false ∧ cmpR o p = 0 := by simp [bothB, preB, cmpR, h]
theorem both_r {o p : List Int} (h : outB p = false) : bothB o p = false ∧ preB o p = false ∧ cmpR o p = 0 := by simp [bothB, preB, cmpR, h]
theorem both_t {o p : List Int} (h : outB o = true) (h' : outB p = true) : bothB o p = true ∧ preB o p = startsB o p ∧ cmpR o p = cmpL o p := by simp [bothB, preB, cmpR, h, h']
theorem ret_bb {x y x' y' : Bool} (h : x = x') (h' : y = y') : Ending.returned (.tuple #[.bool x, .bool y]) = .returned (.tuple #[.bool x', .bool y']) := by rw [h, h']
theorem ret_ib {x x' : Int} {y y' : Bool} (h : x = x') (h' : y = y') : Ending.returned (.tuple #[.int .i64 x, .bool y]) = .returned (.tuple #[.int .i64 x', .bool y']) := by rw [h, h']

end Go.Proofs.YtnpiljkchjdpfaaGreatDoor

namespace Go.Proofs.YtnpiljkchjdpfaaGreatDoor
open Go.RowKit

section
variable {P : Program}
theorem run_append_nil_of_none {t e : TypeId} {z : Value} {bytes : Nat} (hT : ElemT P t e z 1 bytes) (w : World) (base : Nat) (v : Value) (n : Nat) (xs : List Value) (hown : w.ownsRow base e 1 v n xs) (ty : TypeId) (c : Nat) :
    (Builtin.append_ #[t, t] ty #[v, .slice none 0 c]).run P w = .ok v w := by
  obtain ⟨i, hi, hz, hsz, hby⟩ := info_parts hT.info
  rcases hown.2 with ⟨rfl, rfl⟩ | ⟨g, cap, cur, rfl, hbg, hg, hnc, hcm, hcs, htake⟩
  · simp [Builtin.append_, run_underlying hT.under, sizeOf, typeInfo, hi, Builtin.lenOf, Builtin.firstCells]
  · have h := run_append_room_src (P := P) w t t ty e i hT.under hi g 0 n cap (.slice none 0 c) 0 [] (Src.ofNil w hT.under c) (by omega) (fun j hj => by cases hj) (fun j hj => by cases hj)
    simpa [World.setCells] using h

/-- 'append(s, xs...)': the row 'xs' may lie anywhere. -/
theorem wpList_appRow {ops : Array Oper} {rest : List Oper} {o : Oper} {a : Act} {Q : Exit → Act → World → Prop} {w0 w : World} {B base B2 : Nat} {t e : TypeId} {z : Value} {bytes : Nat} {v : Value} {n : Nat} {xs : List Value}
    (hT : ElemT P t e z 1 bytes) (hbel : Below B w0 w) (hown : w.ownsRow base e 1 v n xs) (A : Option Addr) (m c : Nat) (news : List Value) (hl : news.length = m) (hr : Row w B2 A news) (hone : ∀ u ∈ news, u.oneCell' = true)
    (hB : B ≤ base) (hw : base ≤ w.heap.size) (h63 : n + m < 1099511627776) (hbytes : bytes ≤ 64)
    (hgd : o.guard = none) (s y : Operand) (ho : o.op = .call { callee := .builtin .append, args := #[s, y], argTypes := #[t, t] })
    (hs : a.eval s = v) (hx : a.eval y = .slice A m c)
    (h : ∀ v' w', w'.ownsRow base e 1 v' (n + m) (xs ++ news) → Below B w0 w' → w.grownBy w' v.ownBlock → (v'.ownBlock = v.ownBlock ∨ v'.ownBlock = some w.heap.size) → wpList P ops Q rest (a.put o.dst v') w') :
    wpList P ops Q (o :: rest) a w := by
  obtain ⟨i, hi, hz, hsz, hby⟩ := info_parts hT.info
  have hbm : (n + m) * bytes ≤ (n + m) * 64 := Nat.mul_le_mul_left _ hbytes
  cases A with
  | none =>
    have hn : news = [] := by
      rcases List.eq_nil_or_concat news with e | ⟨_, _, e⟩
      · exact e
      · obtain ⟨b, off, he, _⟩ := hr (by rw [e]; simp)
        cases he
    subst hn
    simp at hl
    subst hl
    refine Lib.wpList_append_run (P := P) w hgd s y t t ho v (.slice none 0 c) hs hx v w (run_append_nil_of_none hT w base v n xs hown _ c) ?_
    exact h v w (by simpa using hown) hbel ⟨rfl, rfl, rfl, Nat.le_refl _, fun _ _ _ => rfl⟩ (Or.inl rfl)
  | some ad =>
    refine wpList_append_own_at _ hgd s y t ho base e i z 1 bytes hT.under hi hz hsz hby hT.cells (by omega) v n xs hs hown ad m c news hx (by omega) ?_ hone (by unfold maxLen; omega) (by omega) hw ?_
    · intro j u hu
      obtain ⟨b, off, he, hb, hc⟩ := hr (by intro e; rw [e] at hu; simp at hu)
      cases he
      have := hc j u hu
      unfold Addr.add
      split <;> simp_all
    · intro v' w' hown' hg _ hat
      exact h v' w' hown' (hbel.grown hg (by omega) (fun k hk => by have := (hown.lt k hk).1; omega)) hg hat
end
end Go.Proofs.YtnpiljkchjdpfaaGreatDoor

namespace Go.Proofs.YtnpiljkchjdpfaaGreatDoor
open Go.RowKit

theorem ints_one (xs : List Int) : ∀ u ∈ ints xs, u.oneCell' = true := by
  intro u hu
  obtain ⟨_, _, rfl⟩ := List.mem_map.1 hu
  rfl
theorem ints_append (xs ys : List Int) : ints (xs ++ ys) = ints xs ++ ints ys := by simp [ints]

theorem l1Own_any (A : Option Addr) (n c : Nat) (xs : List Int) (w : World) (hn : xs.length = n) (hle : n ≤ 4194304) (B : Nat) (hr : Row w B A (ints xs)) (hB : B ≤ w.heap.size) :
    Calls Tryz.prog 73 #[.slice A n c] w fun e w' => ∃ A' c', e = .returned (.slice A' n c') ∧ w'.ownsRow w.heap.size 3 1 (.slice A' n c') n (ints xs) ∧ Below w.heap.size w w' := by
  have hr1 := hr.grown (World.grownBy_alloc w (.cells #[] 3) none) hB (fun g e => by cases e)
  go_enter Tryz.func73, Tryz.ntmps73
  go_wp2_with (at_builtin; refine wpList_appRow intsT ((Below.refl _ w).alloc (Nat.le_refl _) _) (World.ownsRow_made _ _ _ (Nat.le_refl _) (by unfold maxLen; omega) (by simp)) A n c (ints xs) (by simp [ints, hn]) hr1 (ints_one xs) (Nat.le_refl _) (by simp) (by omega) (by decide) rfl (.tmp 3) (.tmp 4) rfl rfl rfl ?_; intro v' w' ho' hb' _ _)
  simp only [Nat.zero_add, List.nil_append] at ho'
  obtain ⟨A', c', rfl, _⟩ := own_slice ho'
  go_wp2
  go_ret
  exact ⟨A', c', rfl, ho', hb'⟩

def catB (a b : List Int) : Bool := outB a && outB b && outB (a ++ b)
def catR (a b : List Int) : List Int := if catB a b then a ++ b else []
theorem cat_small (a b : List Int) (ha : outB a = true) (hb : outB b = true) : catB a b = decide (a.length + b.length ≤ 6) := by
  have h1 := outB_len ha
  have h2 := outB_len hb
  have h3 : (a ++ b).all goodB = true := by
    rw [List.all_append, (Bool.and_eq_true_iff.1 ha).2, (Bool.and_eq_true_iff.1 hb).2]; rfl
  rw [catB, ha, hb, outB, h3, List.length_append]
  by_cases h : a.length + b.length ≤ 6
  · simp [inB, h]; omega
  · simp [inB, h]; omega
theorem cat_l {a b : List Int} (h : outB a = false) : catB a b = false ∧ catR a b = [] := by simp [catR, catB, h]
theorem cat_r {a b : List Int} (h : outB b = false) : catB a b = false ∧ catR a b = [] := by simp [catR, catB, h]
theorem cat_f {a b : List Int} (h : catB a b = false) : catB a b = false ∧ catR a b = [] := by simp [catR, h]
theorem cat_t {a b : List Int} (h : catB a b = true) : catB a b = true ∧ catR a b = a ++ b := by simp [catR, h]
theorem catR_len (a b : List Int) : (catR a b).length ≤ 6 := by
  unfold catR
  split
  · rename_i h
    exact (outB_len (Bool.and_eq_true_iff.1 h).2).2
  · simp

theorem own_zeros (w : World) (e : TypeId) (z : Value) (hz : z.cells.size = 1) (n : Nat) (hn : n ≤ 1099511627776) :
    (w.drew.alloc (.cells (Builtin.zeroCells z.cells n ++ Builtin.zeroCells z.cells (grownCap w n 0 e - n)) e)).ownsRow w.heap.size e 1 (.slice (some ⟨w.heap.size, 0, none⟩) 0 (grownCap w n 0 e)) 0 [] := by
  have h1 := grownCap_ge w n 0 e
  have h2 := grownCap_le_maxLen w n 0 e (by unfold maxLen; omega)
  refine ⟨rfl, .inr ⟨w.heap.size, _, _, rfl, Nat.le_refl _, heap_alloc_new w.drew _, Nat.zero_le _, h2, ?_, by simp⟩⟩
  simp only [Array.size_append, size_zeroCells, hz]
  omega

end Go.Proofs.YtnpiljkchjdpfaaGreatDoor
