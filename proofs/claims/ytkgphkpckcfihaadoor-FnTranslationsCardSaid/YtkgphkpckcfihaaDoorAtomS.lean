/- Contracts of the laws' helpers on slices of atoms: szAtomS, toAtomS, eqAtomS, markAtomS, heldAtomS. Condition: at most 2^20 atoms. -/
import Derived.Test.YtkgphkpckcfihaaDoorPAtoms
import Derived.Test.YtkgphkpckcfihaaDoorLawA1
import Derived.Test.YtkgphkpckcfihaaDoorStrS
import Derived.Laws.MakeOwn
import Derived.Deep.QuietTactic
import Derived.BigQuiet
import Derived.Deep.RegionHeld3
import Derived.WalkLawsBesides
import Derived.WalkSpells
import Derived.Outline
import Derived.Lib.Hide
namespace Go.Proofs.YtkgphkpckcfihaaDoor
open Go.RowKit

theorem atT : ElemT Tryd.prog 35 23 (.agg #[.int .i64 0, .string ⟨#[]⟩]) 2 24 := ⟨Tryd.underlying35, by kernel_rfl, rfl, by decide⟩
theorem made2 (n : Nat) : (madeCells #[.int .i64 0, .string ⟨#[]⟩] (n * 2)).toList = atoms (List.replicate n noAt) :=
  made_rows atC 2 (fun _ => rfl) _ noAt rfl n
theorem atoms_put (p r : List At) (x a : At) (k : Nat) (hk : p.length = k) :
    ((atoms p ++ atoms (x :: r)).set (k * 2) (.int .i64 a.k)).set (k * 2 + 1) (.string a.t) = atoms (p ++ [a]) ++ atoms r := by
  have hl : (atoms p).length = k * 2 := by rw [atoms_length, hk]
  rw [app_set0 _ _ _ _ hl, app_set _ _ _ 1 _ hl, atoms_snoc, List.append_assoc]
  rfl
theorem atoms_put_rep (l : List At) (k n : Nat) (hn : l.length = n) (hk : k < n) :
    ((atoms (l.take k) ++ atoms (List.replicate (n - k) noAt)).set (k * 2) (.int .i64 (att l k).k)).set (k * 2 + 1) (.string (att l k).t) = atoms (l.take (k + 1)) ++ atoms (List.replicate (n - (k + 1)) noAt) := by
  rw [show n - k = (n - (k + 1)) + 1 by omega, List.replicate_succ, atoms_put _ _ _ _ k (by simp; omega), att_take l k (by omega)]
/-- A struct of two cells is stored into a row of the call's own. -/
theorem own_put2 {w : World} {base : Nat} {e : TypeId} {g n cap : Nat} {xs : List Value} (h : w.ownsRow base e 2 (.slice (some ⟨g, 0, none⟩) n cap) n xs) (j : Nat) (a b : Value) :
    ((w.setCell ⟨g, j, none⟩ a).setCell ⟨g, j + 1, none⟩ b).ownsRow base e 2 (.slice (some ⟨g, 0, none⟩) n cap) n ((xs.set j a).set (j + 1) b) ∧
    w.grownBy ((w.setCell ⟨g, j, none⟩ a).setCell ⟨g, j + 1, none⟩ b) (some g) := by
  obtain ⟨h1, g1⟩ := h.stored j a
  obtain ⟨h2, g2⟩ := h1.stored (j + 1) b
  exact ⟨h2, g1.trans g2⟩
theorem own_made2 (w : World) (n : Nat) (hn : n ≤ 1099511627776) : (w.alloc (.cells (madeCells #[.int .i64 0, .string ⟨#[]⟩] (n * 2)) 23)).ownsRow w.heap.size 23 2 (.slice (some ⟨w.heap.size, 0, none⟩) n n) n (atoms (List.replicate n noAt)) := by
  have h := World.ownsRow_lit (base := w.heap.size) (e := 23) (size := 2) w (madeCells #[.int .i64 0, .string ⟨#[]⟩] (n * 2)) n (Nat.le_refl _) (by unfold maxLen; omega) (by rw [size_madeCells])
  rw [made2] at h
  exact h

theorem eqAtom_same (k : Int) (t : ByteArray) (w : World) : Calls Tryd.prog 9 #[.agg #[.int .i64 k, .string t], .agg #[.int .i64 k, .string t]] w fun r w' => r = .returned (.bool true) ∧ Below w.heap.size w w' := by
  have hsm := seq_same t
  go_enter Tryd.func9, Tryd.ntmps9
  go_wp2
  go_ret
  exact ⟨rfl, ((Below.refl _ _).alloc (Nat.le_refl _) _).alloc (by simp) _⟩

set_option maxHeartbeats 1000000 in
theorem eqAtS_same (A A' : Option Addr) (n c c' : Nat) (l : List At) (w : World) (hn : l.length = n) (hle : n ≤ 1048576) (B : Nat) (hB : B ≤ w.heap.size) (hr : Row w B A (atoms l)) (hr' : Row w B A' (atoms l)) :
    Calls Tryd.prog 18 #[.slice A n c, .slice A' n c'] w fun e w' => e = .returned (.bool true) ∧ Below w.heap.size w w' := by
  go_enter Tryd.func18, Tryd.ntmps18
  go_wp2
  go_loopw [5] (fun i wr => ∃ k : Nat, k ≤ n ∧ i = .int .i64 k ∧ Below w.heap.size w wr) (fun i _ => n - (intOf i).toNat)
  case atStart => exact ⟨0, by omega, rfl, Below.refl _ _⟩
  case round =>
    obtain ⟨k, hk, rfl, hbel⟩ := hrel
    by_cases hlt : k < n
    · obtain ⟨b, off, rfl, hb, hc1, hc2⟩ := (hr.below_le hbel hB).atm (j := k) (by omega)
      obtain ⟨b', off', rfl, hb', hd1, hd2⟩ := (hr'.below_le hbel hB).atm (j := k) (by omega)
      have h1 : (0 : Int) ≤ (k : Int) := by omega
      have h2 : (k : Int) < (n : Int) := by omega
      have hs := hbel.size
      have hbs : b < wr.heap.size := by omega
      have hbs' : b' < wr.heap.size := by omega
      go_wp2
      go_region_held3 (fun w' => w'.cell? ⟨b, off + k * 2, none⟩ = some (.int .i64 (att l k).k) ∧ w'.cell? ⟨b, off + k * 2 + 1, none⟩ = some (.string (att l k).t) ∧ w'.cell? ⟨b', off' + k * 2, none⟩ = some (.int .i64 (att l k).k) ∧ w'.cell? ⟨b', off' + k * 2 + 1, none⟩ = some (.string (att l k).t)) (go_keep)
        (first
          | (go_at_call 9; refine (eqAtom_same (att l k).k (att l k).t _).mono ?_; rintro e w2 ⟨rfl, hb2⟩; have k1 := (bcell hb2 b (off + k * 2) hbs).trans hc1; have k2 := (bcell hb2 b (off + k * 2 + 1) hbs).trans hc2; have k4 := (bcell hb2 b' (off' + k * 2) hbs').trans hd1; have k5 := (bcell hb2 b' (off' + k * 2 + 1) hbs').trans hd2))
      clear k1 k2 k4 k5
      go_wp2
      go_roundw
      case rel => exact ⟨k + 1, by omega, by go_num, hbel.drew.trans (hb2.mono hs)⟩
      case measure => simp [intOf]; omega
    · obtain rfl : k = n := by omega
      go_wp2
      go_ret
      exact ⟨rfl, hbel⟩

/-- The marks of atoms. -/
def atMark (k : Int) (i : Nat) : At := ⟨k + 2 * (i : Int), mkT (k + 2 * (i : Int) + 1)⟩
def atMarks (k : Int) (n : Nat) : List At := (List.range n).map (atMark k)
theorem atMarks_len (k : Int) (n : Nat) : (atMarks k n).length = n := by simp [atMarks]
theorem atMarks_at (k : Int) (n i : Nat) (h : i < n) : att (atMarks k n) i = atMark k i := by simp [att, atMarks, h]
theorem atMarks_succ (k : Int) (n : Nat) : atMarks k (n + 1) = atMarks k n ++ [atMark k n] := by simp [atMarks, List.range_succ]

set_option maxHeartbeats 1000000 in
theorem markAtS_any (A : Option Addr) (n c : Nat) (l : List At) (k : Int) (base : Nat) (w : World) (hn : l.length = n) (hle : n ≤ 1048576) (hk0 : 0 ≤ k) (hk1 : k ≤ 1099511627776)
    (hown : w.ownsRow base 23 2 (.slice A n c) n (atoms l)) :
    Calls Tryd.prog 19 #[.slice A n c, .int .i64 k] w fun e w' => e = .returned (.int .i64 (k + 2 * n)) ∧ w'.ownsRow base 23 2 (.slice A n c) n (atoms (atMarks k n)) ∧ w.grownBy w' (Value.slice A n c).ownBlock := by
  go_enter Tryd.func19, Tryd.ntmps19
  go_wp2
  go_loopw [1, 5] (fun q i wr => ∃ j : Nat, j ≤ n ∧ i = .int .i64 j ∧ q = .int .i64 (k + 2 * j) ∧ wr.ownsRow base 23 2 (.slice A n c) n (atoms (atMarks k j) ++ atoms (l.drop j)) ∧ w.grownBy wr (Value.slice A n c).ownBlock) (fun _ i _ => n - (intOf i).toNat)
  case atStart => exact ⟨0, by omega, rfl, by go_num, by simpa [atMarks, atoms, rows] using hown, World.grownBy.refl _ _⟩
  case round =>
    obtain ⟨j, hj, rfl, rfl, hown1, hg1⟩ := hrel
    by_cases hlt : j < n
    · obtain ⟨g, cap, hv, hbase, hgl⟩ := hown1.form (by omega)
      injection hv with hv1 hv2 hv3
      subst hv1 hv3
      obtain ⟨ownA, gA⟩ := hown1.stored (j * 2) (.int .i64 (k + 2 * (j : Int)))
      have hfr0 := hown1.frozenAt (j * 2)
      obtain ⟨u0, hc0⟩ : ∃ u, wr.cell? ⟨g, j * 2, none⟩ = some u := ⟨_, (hown1.cellAt (j * 2) (by omega)).trans (List.getElem?_eq_getElem (by have := hown1.1; omega))⟩
      have hoA := Lib.hid ownA
      have hgA := Lib.hid gA
      have hszA : (wr.setCell ⟨g, j * 2, none⟩ (.int .i64 (k + 2 * (j : Int)))).heap.size = wr.heap.size := by simp
      clear ownA gA
      go_wp2_with fail
      refine (markText_any (k + 2 * j + 1) _ (by omega) (by omega)).mono ?_
      rintro e w2 ⟨rfl, hb2⟩
      have hown2 := own_below hoA.out hb2 (Nat.le_refl _)
      have hg2 : w.grownBy w2 (Value.slice (some ⟨g, 0, none⟩) n c).ownBlock := (hg1.trans hgA.out).trans (grown_of_below hb2 _)
      obtain ⟨hown3, hg3⟩ := hown2.stored (j * 2 + 1) (.string (mkT (k + 2 * (j : Int) + 1)))
      have hp : ((atoms (atMarks k j) ++ atoms (l.drop j)).set (j * 2) (.int .i64 (k + 2 * (j : Int)))).set (j * 2 + 1) (.string (mkT (k + 2 * (j : Int) + 1))) = atoms (atMarks k (j + 1)) ++ atoms (l.drop (j + 1)) := by
        rw [List.drop_eq_getElem_cons (show j < l.length by omega), atMarks_succ]
        exact atoms_put (atMarks k j) (l.drop (j + 1)) l[j] (atMark k j) j (atMarks_len k j)
      rw [hp] at hown3
      have o3 := Lib.hid hown3
      have g3 := Lib.hid (hg2.trans hg3)
      clear hown3 hg3 hp
      have hfr1 := hown2.frozenAt (j * 2 + 1)
      obtain ⟨u1, hc1⟩ : ∃ u, w2.cell? ⟨g, j * 2 + 1, none⟩ = some u := ⟨_, (hown2.cellAt (j * 2 + 1) (by omega)).trans (List.getElem?_eq_getElem (by have := hown2.1; omega))⟩
      clear hoA hgA hfr0 hc0
      go_wp2
      go_roundw
      case rel => exact ⟨j + 1, by omega, by go_num, by go_num, o3.out, g3.out⟩
      case measure => simp [intOf]; omega
    · obtain rfl : j = n := by omega
      go_wp2
      go_ret
      exact ⟨rfl, by simpa [← hn, atoms, rows] using hown1, hg1⟩

set_option maxHeartbeats 1000000 in
theorem heldAtS_any (A : Option Addr) (n c : Nat) (k : Int) (w : World) (hle : n ≤ 1048576) (hk0 : 0 ≤ k) (hk1 : k ≤ 1099511627776) (hr : Row w w.heap.size A (atoms (atMarks k n))) :
    Calls Tryd.prog 20 #[.slice A n c, .int .i64 k] w fun e w' => e = .returned (.int .i64 (k + 2 * n)) ∧ Below w.heap.size w w' := by
  go_enter Tryd.func20, Tryd.ntmps20
  go_wp2
  go_loopw [1, 5] (fun q i wr => ∃ j : Nat, j ≤ n ∧ i = .int .i64 j ∧ q = .int .i64 (k + 2 * j) ∧ Below w.heap.size w wr) (fun _ i _ => n - (intOf i).toNat)
  case atStart => exact ⟨0, by omega, rfl, by go_num, Below.refl _ _⟩
  case round =>
    obtain ⟨j, hj, rfl, rfl, hbel⟩ := hrel
    have hs := hbel.size
    by_cases hlt : j < n
    · obtain ⟨b, off, rfl, hb, hc1, hc2⟩ := (hr.below hbel).atm (j := j) (by rw [atMarks_len]; exact hlt)
      rw [atMarks_at k n j hlt] at hc1 hc2
      have e1 : wr.cell? ⟨b, off + j * 2, none⟩ = some (.int .i64 (k + 2 * (j : Int))) := hc1
      have e2 : wr.cell? ⟨b, off + j * 2 + 1, none⟩ = some (.string (mkT (k + 2 * (j : Int) + 1))) := hc2
      clear hc1 hc2
      have h1 : (0 : Int) ≤ (j : Int) := by omega
      have h2 : (j : Int) < (n : Int) := by omega
      have hbs : b < wr.heap.size := by omega
      have hsm := seq_same (mkT (k + 2 * (j : Int) + 1))
      go_wp2
      go_region_held3 (fun w' => w'.cell? ⟨b, off + j * 2 + 1, none⟩ = some (.string (mkT (k + 2 * (j : Int) + 1)))) (go_keep)
        (first | (go_at_call 43; refine (markText_any (k + 2 * j + 1) _ (by omega) (by omega)).mono ?_; rintro e w2 ⟨rfl, hb2⟩; have k1 := below_mark hb2 hbs e2))
      clear k1
      go_wp2
      go_roundw
      case rel => exact ⟨j + 1, by omega, by go_num, by go_num, hbel.drew.trans (hb2.mono hs)⟩
      case measure => simp [intOf]; omega
    · obtain rfl : j = n := by omega
      go_wp2
      go_ret
      exact ⟨rfl, hbel⟩
end Go.Proofs.YtkgphkpckcfihaaDoor
