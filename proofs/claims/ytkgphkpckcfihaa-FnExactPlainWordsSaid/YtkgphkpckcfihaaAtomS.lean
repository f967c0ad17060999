/- Contracts of the laws' helpers on slices of atoms: szAtomS, toAtomS, eqAtomS, markAtomS, heldAtomS. Condition: at most 2^20 atoms. -/
import Derived.Test.YtkgphkpckcfihaaPAtoms
import Derived.Test.YtkgphkpckcfihaaLawA1
import Derived.Test.YtkgphkpckcfihaaStrS
import Derived.Laws.MakeOwn
import Derived.Deep.QuietTactic
import Derived.BigQuiet
import Derived.Deep.RegionHeld3
import Derived.WalkLawsBesides
import Derived.WalkSpells
import Derived.Outline
import Derived.Lib.Hide
namespace Go.Proofs.Ytkgphkpckcfihaa
open Go.RowKit

theorem atT : ElemT Try.prog 34 26 (.agg #[.int .i64 0, .string ⟨#[]⟩]) 2 24 := ⟨Try.underlying34, by kernel_rfl, rfl, by decide⟩
theorem szAtomL_any (k : Int) (t : ByteArray) (left : Int) (w : World) (h0 : 0 ≤ left) (h1 : left ≤ 1048576) (hm : t.size ≤ maxLen) : Calls Try.prog 7 #[.agg #[.int .i64 k, .string t], .int .i64 left] w fun e w' => e = .returned (.int .i64 (if (t.size : Int) ≤ left then left - (t.size : Int) else -1)) ∧ Below w.heap.size w w' := by
  unfold maxLen at hm
  by_cases h : (t.size : Int) ≤ left
  · rw [if_pos h]
    go_enter Try.func7, Try.ntmps7
    go_wp2
    go_ret
    exact ⟨rfl, (Below.refl _ _).alloc (Nat.le_refl _) _⟩
  · rw [if_neg h]
    go_enter Try.func7, Try.ntmps7
    go_wp2
    go_ret
    exact ⟨rfl, (Below.refl _ _).alloc (Nat.le_refl _) _⟩

set_option maxHeartbeats 400000 in
theorem szAtS_any (A : Option Addr) (n c : Nat) (l : List At) (w : World) (hn : l.length = n) (hm : n ≤ maxLen) (hs : ∀ a ∈ l, a.t.size ≤ maxLen) (hr : Row w w.heap.size A (atoms l)) :
    Calls Try.prog 13 #[.slice A n c, .int .i64 1048576] w fun e w' => e = .returned (.int .i64 (if n + sizesT l ≤ 1048576 then 1048576 - (n : Int) - (sizesT l : Int) else -1)) ∧ Below w.heap.size w w' := by
  unfold maxLen at hm
  by_cases h : n ≤ 1048576
  · have hd : decide (1048576 - (n : Int) < 0) = false := by simp; omega
    go_enter Try.func13, Try.ntmps13
    go_wp2
    go_loopw [1, 5] (fun left i wr => ∃ k : Nat, k ≤ n ∧ i = .int .i64 k ∧ left = .int .i64 (1048576 - (n : Int) - (sizesT (l.take k) : Int)) ∧ n + sizesT (l.take k) ≤ 1048576 ∧ Below w.heap.size w wr) (fun _ i _ => n - (intOf i).toNat)
    case atStart => exact ⟨0, by omega, rfl, by simp [sizesT], by simpa [sizesT] using h, Below.refl _ _⟩
    case round =>
      obtain ⟨k, hk, rfl, rfl, hb, hbel⟩ := hrel
      have hsz := hbel.size
      by_cases hlt : k < n
      · obtain ⟨b, off, rfl, hbb, hc1, hc2⟩ := (hr.below hbel).atm (j := k) (by omega)
        have hz := hs (att l k) (att_in l k (by omega))
        have ht := Lib.hid (sizesT_take l k (by omega))
        have hle := Lib.hid (sizesT_take_le l (k + 1))
        have hcon := Lib.hid (szAtomL_any (att l k).k (att l k).t (1048576 - (n : Int) - (sizesT (l.take k) : Int)) wr (by omega) (by omega) hz)
        by_cases hq : n + sizesT (l.take k) + (att l k).t.size ≤ 1048576
        · rw [if_pos (by omega)] at hcon
          go_wp2_with fail
          refine hcon.out.mono ?_
          rintro e w2 ⟨rfl, hb2⟩
          go_wp2
          go_roundw
          case rel => exact ⟨k + 1, by omega, by go_num, by rw [ht.out]; go_num, by rw [ht.out]; omega, hbel.trans (hb2.mono hsz)⟩
          case measure => simp [intOf]; omega
        · have hf := Lib.hid (show ¬ n + sizesT l ≤ 1048576 by have := hle.out; rw [ht.out] at this; omega)
          rw [if_neg (by omega)] at hcon
          go_wp2_with fail
          refine hcon.out.mono ?_
          rintro e w2 ⟨rfl, hb2⟩
          go_wp2
          go_ret
          exact ⟨ret_int (by first | rfl | rw [if_neg hf.out]), hbel.trans (hb2.mono hsz)⟩
      · obtain rfl : k = n := by omega
        have e : l.take k = l := List.take_of_length_le (by omega)
        rw [e] at hb ⊢
        have hf := Lib.hid hb
        go_wp2
        go_ret
        exact ⟨ret_int (by first | rfl | rw [if_pos hf.out]), hbel⟩
  · have hf := Lib.hid (show ¬ n + sizesT l ≤ 1048576 by omega)
    go_enter Try.func13, Try.ntmps13
    go_wp2
    go_ret
    exact ⟨ret_int (by first | rfl | rw [if_neg hf.out]), Below.refl _ _⟩

theorem made2 (n : Nat) : (madeCells #[.int .i64 0, .string ⟨#[]⟩] (n * 2)).toList = atoms (List.replicate n noAt) :=
  made_rows atC 2 (fun _ => rfl) _ noAt rfl n
theorem atoms_put (p r : List At) (x a : At) (k : Nat) (hk : p.length = k) :
    ((atoms p ++ atoms (x :: r)).set (k * 2) (.int .i64 a.k)).set (k * 2 + 1) (.string a.t) = atoms (p ++ [a]) ++ atoms r := by
  have hl : (atoms p).length = k * 2 := by rw [atoms_length, hk]
  rw [app_set0 _ _ _ _ hl, app_set _ _ _ 1 _ hl, atoms_snoc, List.append_assoc]
  rfl
theorem atoms_put_rep (l : List At) (k n : Nat) (hn : l.length = n) (hk : k < n) :
    ((atoms (l.take k) ++ atoms (List.replicate (n - k) noAt)).set (k * 2) (.int .i64 (att l k).k)).set (k * 2 + 1) (.string (att l k).t) = atoms (l.take (k + 1)) ++ atoms (List.replicate (n - (k + 1)) noAt) := by
  rw [show n - k = (n - (k + 1)) + 1 by omega, List.replicate_succ, atoms_put _ _ _ _ k (by simp; omega), att_take l k (by omega)]
/-- A struct of two cells is stored into a row of the call's own. -/
theorem own_put2 {w : World} {base : Nat} {e : TypeId} {g n cap : Nat} {xs : List Value} (h : w.ownsRow base e 2 (.slice (some ⟨g, 0, none⟩) n cap) n xs) (j : Nat) (a b : Value) :
    ((w.setCell ⟨g, j, none⟩ a).setCell ⟨g, j + 1, none⟩ b).ownsRow base e 2 (.slice (some ⟨g, 0, none⟩) n cap) n ((xs.set j a).set (j + 1) b) ∧
    w.grownBy ((w.setCell ⟨g, j, none⟩ a).setCell ⟨g, j + 1, none⟩ b) (some g) := by
  obtain ⟨h1, g1⟩ := h.stored j a
  obtain ⟨h2, g2⟩ := h1.stored (j + 1) b
  exact ⟨h2, g1.trans g2⟩
theorem own_made2 (w : World) (n : Nat) (hn : n ≤ 1099511627776) : (w.alloc (.cells (madeCells #[.int .i64 0, .string ⟨#[]⟩] (n * 2)) 26)).ownsRow w.heap.size 26 2 (.slice (some ⟨w.heap.size, 0, none⟩) n n) n (atoms (List.replicate n noAt)) := by
  have h := World.ownsRow_lit (base := w.heap.size) (e := 26) (size := 2) w (madeCells #[.int .i64 0, .string ⟨#[]⟩] (n * 2)) n (Nat.le_refl _) (by unfold maxLen; omega) (by rw [size_madeCells])
  rw [made2] at h
  exact h

set_option maxHeartbeats 400000 in
theorem toAtS_any (A : Option Addr) (n c : Nat) (l : List At) (w : World) (hn : l.length = n) (hle : n ≤ 1048576) (hr : Row w w.heap.size A (atoms l)) :
    Calls Try.prog 15 #[.slice A n c] w fun e w' => e = .returned (.slice (some ⟨w.heap.size, 0, none⟩) n n) ∧ w'.ownsRow w.heap.size 26 2 (.slice (some ⟨w.heap.size, 0, none⟩) n n) n (atoms l) ∧ Below w.heap.size w w' := by
  have hmk := fun W => run_make_len (P := Try.prog) atT n (by omega) (by decide) W
  go_enter Try.func15, Try.ntmps15
  go_wp2
  go_loopw [4] (fun i wr => ∃ k : Nat, k ≤ n ∧ i = .int .i64 k ∧ wr.ownsRow w.heap.size 26 2 (.slice (some ⟨w.heap.size, 0, none⟩) n n) n (atoms (l.take k) ++ atoms (List.replicate (n - k) noAt)) ∧ Below w.heap.size w wr) (fun i _ => n - (intOf i).toNat)
  case atStart => exact ⟨0, by omega, rfl, by simpa [atoms, rows] using own_made2 w n (by omega), (Below.refl _ _).alloc (Nat.le_refl _) _⟩
  case round =>
    obtain ⟨k, hk, rfl, hown, hbel⟩ := hrel
    by_cases hlt : k < n
    · obtain ⟨b, off, rfl, hb, hc1, hc2⟩ := (hr.below hbel).atm (j := k) (by omega)
      go_wp2_with fail
      refine (toAtom_any (att l k).k (att l k).t _).mono ?_
      rintro e w2 ⟨rfl, hb2⟩
      have hown2 := own_below hown hb2 (Nat.le_refl _)
      have hbel2 := hbel.trans (hb2.mono hbel.size)
      have hfr0 := hown2.frozenAt (k * 2)
      have hfr1 := hown2.frozenAt (k * 2 + 1)
      obtain ⟨u0, hg0⟩ : ∃ u, w2.cell? ⟨w.heap.size, k * 2, none⟩ = some u := ⟨_, (hown2.cellAt (k * 2) (by omega)).trans (List.getElem?_eq_getElem (by have := hown2.1; omega))⟩
      obtain ⟨u1, hg1⟩ : ∃ u, w2.cell? ⟨w.heap.size, k * 2 + 1, none⟩ = some u := ⟨_, (hown2.cellAt (k * 2 + 1) (by omega)).trans (List.getElem?_eq_getElem (by have := hown2.1; omega))⟩
      clear hc1 hc2 hown
      obtain ⟨o3, g3⟩ := own_put2 hown2 (k * 2) (.int .i64 (att l k).k) (.string (att l k).t)
      have hp := Lib.hid (atoms_put_rep l k n hn hlt)
      have o3' := Lib.hid o3
      have g3' := Lib.hid g3
      clear o3 g3
      go_wp2
      go_roundw
      case rel => exact ⟨k + 1, by omega, by go_num, by rw [← hp.out]; exact o3'.out, hbel2.grown g3'.out hbel2.size (fun q e => by injection e with e; omega)⟩
      case measure => simp [intOf]; omega
    · obtain rfl : k = n := by omega
      go_wp2
      go_ret
      exact ⟨rfl, by simpa [← hn, atoms, rows] using hown, hbel⟩

theorem eqAtom_same (k : Int) (t : ByteArray) (w : World) : Calls Try.prog 34 #[.agg #[.int .i64 k, .string t], .agg #[.int .i64 k, .string t]] w fun r w' => r = .returned (.bool true) ∧ Below w.heap.size w w' := by
  have hsm := seq_same t
  go_enter Try.func34, Try.ntmps34
  go_wp2
  go_ret
  exact ⟨rfl, ((Below.refl _ _).alloc (Nat.le_refl _) _).alloc (by simp) _⟩

set_option maxHeartbeats 1000000 in
theorem eqAtS_same (A A' : Option Addr) (n c c' : Nat) (l : List At) (w : World) (hn : l.length = n) (hle : n ≤ 1048576) (B : Nat) (hB : B ≤ w.heap.size) (hr : Row w B A (atoms l)) (hr' : Row w B A' (atoms l)) :
    Calls Try.prog 17 #[.slice A n c, .slice A' n c'] w fun e w' => e = .returned (.bool true) ∧ Below w.heap.size w w' := by
  go_enter Try.func17, Try.ntmps17
  go_wp2
  go_loopw [5] (fun i wr => ∃ k : Nat, k ≤ n ∧ i = .int .i64 k ∧ Below w.heap.size w wr) (fun i _ => n - (intOf i).toNat)
  case atStart => exact ⟨0, by omega, rfl, Below.refl _ _⟩
  case round =>
    obtain ⟨k, hk, rfl, hbel⟩ := hrel
    by_cases hlt : k < n
    · obtain ⟨b, off, rfl, hb, hc1, hc2⟩ := (hr.below_le hbel hB).atm (j := k) (by omega)
      obtain ⟨b', off', rfl, hb', hd1, hd2⟩ := (hr'.below_le hbel hB).atm (j := k) (by omega)
      have h1 : (0 : Int) ≤ (k : Int) := by omega
      have h2 : (k : Int) < (n : Int) := by omega
      have hs := hbel.size
      have hbs : b < wr.heap.size := by omega
      have hbs' : b' < wr.heap.size := by omega
      go_wp2
      go_region_held3 (fun w' => w'.cell? ⟨b, off + k * 2, none⟩ = some (.int .i64 (att l k).k) ∧ w'.cell? ⟨b, off + k * 2 + 1, none⟩ = some (.string (att l k).t) ∧ w'.cell? ⟨b', off' + k * 2, none⟩ = some (.int .i64 (att l k).k) ∧ w'.cell? ⟨b', off' + k * 2 + 1, none⟩ = some (.string (att l k).t)) (go_keep)
        (first
          | (go_at_call 34; refine (eqAtom_same (att l k).k (att l k).t _).mono ?_; rintro e w2 ⟨rfl, hb2⟩; have k1 := (bcell hb2 b (off + k * 2) hbs).trans hc1; have k2 := (bcell hb2 b (off + k * 2 + 1) hbs).trans hc2; have k4 := (bcell hb2 b' (off' + k * 2) hbs').trans hd1; have k5 := (bcell hb2 b' (off' + k * 2 + 1) hbs').trans hd2))
      clear k1 k2 k4 k5
      go_wp2
      go_roundw
      case rel => exact ⟨k + 1, by omega, by go_num, hbel.drew.trans (hb2.mono hs)⟩
      case measure => simp [intOf]; omega
    · obtain rfl : k = n := by omega
      go_wp2
      go_ret
      exact ⟨rfl, hbel⟩

/-- The marks of atoms. -/
def atMark (k : Int) (i : Nat) : At := ⟨k + 2 * (i : Int), mkT (k + 2 * (i : Int) + 1)⟩
def atMarks (k : Int) (n : Nat) : List At := (List.range n).map (atMark k)
theorem atMarks_len (k : Int) (n : Nat) : (atMarks k n).length = n := by simp [atMarks]
theorem atMarks_at (k : Int) (n i : Nat) (h : i < n) : att (atMarks k n) i = atMark k i := by simp [att, atMarks, h]
theorem atMarks_succ (k : Int) (n : Nat) : atMarks k (n + 1) = atMarks k n ++ [atMark k n] := by simp [atMarks, List.range_succ]

set_option maxHeartbeats 1000000 in
theorem markAtS_any (A : Option Addr) (n c : Nat) (l : List At) (k : Int) (base : Nat) (w : World) (hn : l.length = n) (hle : n ≤ 1048576) (hk0 : 0 ≤ k) (hk1 : k ≤ 1099511627776)
    (hown : w.ownsRow base 26 2 (.slice A n c) n (atoms l)) :
    Calls Try.prog 21 #[.slice A n c, .int .i64 k] w fun e w' => e = .returned (.int .i64 (k + 2 * n)) ∧ w'.ownsRow base 26 2 (.slice A n c) n (atoms (atMarks k n)) ∧ w.grownBy w' (Value.slice A n c).ownBlock := by
  go_enter Try.func21, Try.ntmps21
  go_wp2
  go_loopw [1, 5] (fun q i wr => ∃ j : Nat, j ≤ n ∧ i = .int .i64 j ∧ q = .int .i64 (k + 2 * j) ∧ wr.ownsRow base 26 2 (.slice A n c) n (atoms (atMarks k j) ++ atoms (l.drop j)) ∧ w.grownBy wr (Value.slice A n c).ownBlock) (fun _ i _ => n - (intOf i).toNat)
  case atStart => exact ⟨0, by omega, rfl, by go_num, by simpa [atMarks, atoms, rows] using hown, World.grownBy.refl _ _⟩
  case round =>
    obtain ⟨j, hj, rfl, rfl, hown1, hg1⟩ := hrel
    by_cases hlt : j < n
    · obtain ⟨g, cap, hv, hbase, hgl⟩ := hown1.form (by omega)
      injection hv with hv1 hv2 hv3
      subst hv1 hv3
      obtain ⟨ownA, gA⟩ := hown1.stored (j * 2) (.int .i64 (k + 2 * (j : Int)))
      have hfr0 := hown1.frozenAt (j * 2)
      obtain ⟨u0, hc0⟩ : ∃ u, wr.cell? ⟨g, j * 2, none⟩ = some u := ⟨_, (hown1.cellAt (j * 2) (by omega)).trans (List.getElem?_eq_getElem (by have := hown1.1; omega))⟩
      have hoA := Lib.hid ownA
      have hgA := Lib.hid gA
      have hszA : (wr.setCell ⟨g, j * 2, none⟩ (.int .i64 (k + 2 * (j : Int)))).heap.size = wr.heap.size := by simp
      clear ownA gA
      go_wp2_with fail
      refine (markText_any (k + 2 * j + 1) _ (by omega) (by omega)).mono ?_
      rintro e w2 ⟨rfl, hb2⟩
      have hown2 := own_below hoA.out hb2 (Nat.le_refl _)
      have hg2 : w.grownBy w2 (Value.slice (some ⟨g, 0, none⟩) n c).ownBlock := (hg1.trans hgA.out).trans (grown_of_below hb2 _)
      obtain ⟨hown3, hg3⟩ := hown2.stored (j * 2 + 1) (.string (mkT (k + 2 * (j : Int) + 1)))
      have hp : ((atoms (atMarks k j) ++ atoms (l.drop j)).set (j * 2) (.int .i64 (k + 2 * (j : Int)))).set (j * 2 + 1) (.string (mkT (k + 2 * (j : Int) + 1))) = atoms (atMarks k (j + 1)) ++ atoms (l.drop (j + 1)) := by
        rw [List.drop_eq_getElem_cons (show j < l.length by omega), atMarks_succ]
        exact atoms_put (atMarks k j) (l.drop (j + 1)) l[j] (atMark k j) j (atMarks_len k j)
      rw [hp] at hown3
      have o3 := Lib.hid hown3
      have g3 := Lib.hid (hg2.trans hg3)
      clear hown3 hg3 hp
      have hfr1 := hown2.frozenAt (j * 2 + 1)
      obtain ⟨u1, hc1⟩ : ∃ u, w2.cell? ⟨g, j * 2 + 1, none⟩ = some u := ⟨_, (hown2.cellAt (j * 2 + 1) (by omega)).trans (List.getElem?_eq_getElem (by have := hown2.1; omega))⟩
      clear hoA hgA hfr0 hc0
      go_wp2
      go_roundw
      case rel => exact ⟨j + 1, by omega, by go_num, by go_num, o3.out, g3.out⟩
      case measure => simp [intOf]; omega
    · obtain rfl : j = n := by omega
      go_wp2
      go_ret
      exact ⟨rfl, by simpa [← hn, atoms, rows] using hown1, hg1⟩

end Go.Proofs.Ytkgphkpckcfihaa
