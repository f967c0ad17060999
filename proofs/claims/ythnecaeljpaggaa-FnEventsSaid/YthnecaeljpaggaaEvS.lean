/- Contracts of the laws' helpers on slices of key events: szKeyEventS, toKeyEventS, eqKeyEventS, markKeyEventS, heldKeyEventS. Condition: at most 2^20 events. -/
import Derived.Test.YthnecaeljpaggaaPEvent
import Derived.Test.YthnecaeljpaggaaRows
import Derived.Laws.MakeOwn
import Derived.Deep.QuietTactic
import Derived.BigQuiet
import Derived.Deep.RegionHeld3
import Derived.WalkLawsBesides
import Derived.WalkSpells
import Derived.Outline
import Derived.Lib.Hide
namespace Go.Proofs.Ythnecaeljpaggaa
open Go.RowKit

theorem below3 (w : World) (a b c : Obj) : Below w.heap.size w (((w.alloc a).alloc b).alloc c) := (((Below.refl _ _).alloc (Nat.le_refl _) a).alloc (by simp) b).alloc (by simp; omega) c
theorem below2 (w : World) (a b : Obj) : Below w.heap.size w ((w.alloc a).alloc b) := ((Below.refl _ _).alloc (Nat.le_refl _) a).alloc (by simp) b
theorem toEv_any (e : Ev) (w : World) : Calls Try.prog 37 #[.agg #[.int .i64 e.t, .int .i64 e.k, .bool e.d]] w fun r w' => r = .returned (.agg #[.int .i64 e.t, .int .i64 e.k, .bool e.d]) ∧ Below w.heap.size w w' := by
  go_enter Try.func37, Try.ntmps37
  go_wp2
  exact bodyPost_ret (v := .agg #[.int .i64 e.t, .int .i64 e.k, .bool e.d]) (by simp [results, Try.results37, go_sem]) rfl ⟨rfl, below3 _ _ _ _⟩

theorem eqEv_same (e : Ev) (w : World) : Calls Try.prog 40 #[.agg #[.int .i64 e.t, .int .i64 e.k, .bool e.d], .agg #[.int .i64 e.t, .int .i64 e.k, .bool e.d]] w fun r w' => r = .returned (.bool true) ∧ Below w.heap.size w w' := by
  go_enter Try.func40, Try.ntmps40
  go_wp2
  go_ret
  exact ⟨rfl, below2 _ _ _⟩

theorem szEv_any (A : Option Addr) (n c : Nat) (w : World) (hn : n ≤ maxLen) : Calls Try.prog 11 #[.slice A n c, .int .i64 1048576] w fun e w' => e = .returned (.int .i64 (if n ≤ 1048576 then 1048576 - (n : Int) else -1)) ∧ w = w' := by
  unfold maxLen at hn
  by_cases h : n ≤ 1048576
  · rw [if_pos h]
    go_enter Try.func11, Try.ntmps11
    go_wp2
    go_ret
    exact ⟨rfl, rfl⟩
  · rw [if_neg h]
    go_enter Try.func11, Try.ntmps11
    go_wp2
    go_ret
    exact ⟨rfl, rfl⟩

theorem evT : ElemT Try.prog 25 44 (.agg #[.int .i64 0, .int .i64 0, .bool false]) 3 24 := ⟨Try.underlying25, by kernel_rfl, rfl, by decide⟩

theorem made3 (n : Nat) : (madeCells #[.int .i64 0, .int .i64 0, .bool false] (n * 3)).toList = evs (List.replicate n noEv) :=
  made_rows evC 3 (fun _ => rfl) _ noEv rfl n
theorem evs_put (p r : List Ev) (x e : Ev) (k : Nat) (hk : p.length = k) :
    (((evs p ++ evs (x :: r)).set (k * 3) (.int .i64 e.t)).set (k * 3 + 1) (.int .i64 e.k)).set (k * 3 + 2) (.bool e.d) = evs (p ++ [e]) ++ evs r := by
  have hl : (evs p).length = k * 3 := by rw [evs_length, hk]
  rw [app_set0 _ _ _ _ hl, app_set _ _ _ 1 _ hl, app_set _ _ _ 2 _ hl, evs_snoc, List.append_assoc]
  rfl
theorem evs_put_rep (l : List Ev) (k n : Nat) (hn : l.length = n) (hk : k < n) :
    (((evs (l.take k) ++ evs (List.replicate (n - k) noEv)).set (k * 3) (.int .i64 (evt l k).t)).set (k * 3 + 1) (.int .i64 (evt l k).k)).set (k * 3 + 2) (.bool (evt l k).d) = evs (l.take (k + 1)) ++ evs (List.replicate (n - (k + 1)) noEv) := by
  rw [show n - k = (n - (k + 1)) + 1 by omega, List.replicate_succ, evs_put _ _ _ _ k (by simp; omega), evt_take l k (by omega)]
/-- A struct of three cells is stored into a row of the call's own. -/
theorem own_put3 {w : World} {base : Nat} {e : TypeId} {g n cap : Nat} {xs : List Value} (h : w.ownsRow base e 3 (.slice (some ⟨g, 0, none⟩) n cap) n xs) (j : Nat) (a b c : Value) :
    (((w.setCell ⟨g, j, none⟩ a).setCell ⟨g, j + 1, none⟩ b).setCell ⟨g, j + 2, none⟩ c).ownsRow base e 3 (.slice (some ⟨g, 0, none⟩) n cap) n (((xs.set j a).set (j + 1) b).set (j + 2) c) ∧
    w.grownBy (((w.setCell ⟨g, j, none⟩ a).setCell ⟨g, j + 1, none⟩ b).setCell ⟨g, j + 2, none⟩ c) (some g) := by
  obtain ⟨h1, g1⟩ := h.stored j a
  obtain ⟨h2, g2⟩ := h1.stored (j + 1) b
  obtain ⟨h3, g3⟩ := h2.stored (j + 2) c
  exact ⟨h3, g1.trans (g2.trans g3)⟩
theorem own_made3 (w : World) (n : Nat) (hn : n ≤ 1099511627776) : (w.alloc (.cells (madeCells #[.int .i64 0, .int .i64 0, .bool false] (n * 3)) 44)).ownsRow w.heap.size 44 3 (.slice (some ⟨w.heap.size, 0, none⟩) n n) n (evs (List.replicate n noEv)) := by
  have h := World.ownsRow_lit (base := w.heap.size) (e := 44) (size := 3) w (madeCells #[.int .i64 0, .int .i64 0, .bool false] (n * 3)) n (Nat.le_refl _) (by unfold maxLen; omega) (by rw [size_madeCells])
  rw [made3] at h
  exact h

set_option maxHeartbeats 400000 in
theorem toEvS_any (A : Option Addr) (n c : Nat) (l : List Ev) (w : World) (hn : l.length = n) (hle : n ≤ 1048576) (hr : Row w w.heap.size A (evs l)) :
    Calls Try.prog 13 #[.slice A n c] w fun e w' => e = .returned (.slice (some ⟨w.heap.size, 0, none⟩) n n) ∧ w'.ownsRow w.heap.size 44 3 (.slice (some ⟨w.heap.size, 0, none⟩) n n) n (evs l) ∧ Below w.heap.size w w' := by
  have hmk := fun W => run_make_len (P := Try.prog) evT n (by omega) (by decide) W
  go_enter Try.func13, Try.ntmps13
  go_wp2
  go_loopw [4] (fun i wr => ∃ k : Nat, k ≤ n ∧ i = .int .i64 k ∧ wr.ownsRow w.heap.size 44 3 (.slice (some ⟨w.heap.size, 0, none⟩) n n) n (evs (l.take k) ++ evs (List.replicate (n - k) noEv)) ∧ Below w.heap.size w wr) (fun i _ => n - (intOf i).toNat)
  case atStart => exact ⟨0, by omega, rfl, by simpa [evs] using own_made3 w n (by omega), (Below.refl _ _).alloc (Nat.le_refl _) _⟩
  case round =>
    obtain ⟨k, hk, rfl, hown, hbel⟩ := hrel
    by_cases hlt : k < n
    · obtain ⟨b, off, rfl, hb, hc1, hc2, hc3⟩ := (hr.below hbel).ev (j := k) (by omega)
      go_wp2_with fail
      refine (toEv_any (evt l k) _).mono ?_
      rintro e w2 ⟨rfl, hb2⟩
      have hown2 := own_below hown hb2 (Nat.le_refl _)
      have hbel2 := hbel.trans (hb2.mono hbel.size)
      have hfr0 := hown2.frozenAt (k * 3)
      have hfr1 := hown2.frozenAt (k * 3 + 1)
      have hfr2 := hown2.frozenAt (k * 3 + 2)
      obtain ⟨u0, hg0⟩ : ∃ u, w2.cell? ⟨w.heap.size, k * 3, none⟩ = some u := ⟨_, (hown2.cellAt (k * 3) (by omega)).trans (List.getElem?_eq_getElem (by have := hown2.1; omega))⟩
      obtain ⟨u1, hg1⟩ : ∃ u, w2.cell? ⟨w.heap.size, k * 3 + 1, none⟩ = some u := ⟨_, (hown2.cellAt (k * 3 + 1) (by omega)).trans (List.getElem?_eq_getElem (by have := hown2.1; omega))⟩
      obtain ⟨u2, hg2⟩ : ∃ u, w2.cell? ⟨w.heap.size, k * 3 + 2, none⟩ = some u := ⟨_, (hown2.cellAt (k * 3 + 2) (by omega)).trans (List.getElem?_eq_getElem (by have := hown2.1; omega))⟩
      clear hc1 hc2 hc3 hown
      obtain ⟨o3, g3⟩ := own_put3 hown2 (k * 3) (.int .i64 (evt l k).t) (.int .i64 (evt l k).k) (.bool (evt l k).d)
      have hp := Lib.hid (evs_put_rep l k n hn hlt)
      have o3' := Lib.hid o3
      have g3' := Lib.hid g3
      clear o3 g3
      go_wp2
      go_roundw
      case rel => exact ⟨k + 1, by omega, by go_num, by rw [← hp.out]; exact o3'.out, hbel2.grown g3'.out hbel2.size (fun q e => by injection e with e; omega)⟩
      case measure => simp [intOf]; omega
    · obtain rfl : k = n := by omega
      go_wp2
      go_ret
      exact ⟨rfl, by simpa [← hn, evs] using hown, hbel⟩

set_option maxHeartbeats 1000000 in
theorem eqEvS_same (A A' : Option Addr) (n c c' : Nat) (l : List Ev) (w : World) (hn : l.length = n) (hle : n ≤ 1048576) (B : Nat) (hB : B ≤ w.heap.size) (hr : Row w B A (evs l)) (hr' : Row w B A' (evs l)) :
    Calls Try.prog 15 #[.slice A n c, .slice A' n c'] w fun e w' => e = .returned (.bool true) ∧ Below w.heap.size w w' := by
  go_enter Try.func15, Try.ntmps15
  go_wp2
  go_loopw [5] (fun i wr => ∃ k : Nat, k ≤ n ∧ i = .int .i64 k ∧ Below w.heap.size w wr) (fun i _ => n - (intOf i).toNat)
  case atStart => exact ⟨0, by omega, rfl, Below.refl _ _⟩
  case round =>
    obtain ⟨k, hk, rfl, hbel⟩ := hrel
    by_cases hlt : k < n
    · obtain ⟨b, off, rfl, hb, hc1, hc2, hc3⟩ := (hr.below_le hbel hB).ev (j := k) (by omega)
      obtain ⟨b', off', rfl, hb', hd1, hd2, hd3⟩ := (hr'.below_le hbel hB).ev (j := k) (by omega)
      have h1 : (0 : Int) ≤ (k : Int) := by omega
      have h2 : (k : Int) < (n : Int) := by omega
      have hs := hbel.size
      have hbs : b < wr.heap.size := by omega
      have hbs' : b' < wr.heap.size := by omega
      go_wp2
      go_region_held3 (fun w' => w'.cell? ⟨b, off + k * 3, none⟩ = some (.int .i64 (evt l k).t) ∧ w'.cell? ⟨b, off + k * 3 + 1, none⟩ = some (.int .i64 (evt l k).k) ∧ w'.cell? ⟨b, off + k * 3 + 2, none⟩ = some (.bool (evt l k).d) ∧ w'.cell? ⟨b', off' + k * 3, none⟩ = some (.int .i64 (evt l k).t) ∧ w'.cell? ⟨b', off' + k * 3 + 1, none⟩ = some (.int .i64 (evt l k).k) ∧ w'.cell? ⟨b', off' + k * 3 + 2, none⟩ = some (.bool (evt l k).d)) (go_keep)
        (first
          | (go_at_call 40; refine (eqEv_same (evt l k) _).mono ?_; rintro e w2 ⟨rfl, hb2⟩; have k1 := (bcell hb2 b (off + k * 3) hbs).trans hc1; have k2 := (bcell hb2 b (off + k * 3 + 1) hbs).trans hc2; have k3 := (bcell hb2 b (off + k * 3 + 2) hbs).trans hc3; have k4 := (bcell hb2 b' (off' + k * 3) hbs').trans hd1; have k5 := (bcell hb2 b' (off' + k * 3 + 1) hbs').trans hd2; have k6 := (bcell hb2 b' (off' + k * 3 + 2) hbs').trans hd3))
      clear k1 k2 k3 k4 k5 k6
      go_wp2
      go_roundw
      case rel => exact ⟨k + 1, by omega, by go_num, hbel.drew.trans (hb2.mono hs)⟩
      case measure => simp [intOf]; omega
    · obtain rfl : k = n := by omega
      go_wp2
      go_ret
      exact ⟨rfl, hbel⟩

/-- The marks of events. -/
def evMark (k : Int) (i : Nat) : Ev := ⟨k + 3 * (i : Int), k + 3 * (i : Int) + 1, (k + 3 * (i : Int) + 1 + 1) % 3 == 0⟩
def evMarks (k : Int) (n : Nat) : List Ev := (List.range n).map (evMark k)
theorem evMarks_len (k : Int) (n : Nat) : (evMarks k n).length = n := by simp [evMarks]
theorem evMarks_at (k : Int) (n i : Nat) (h : i < n) : evt (evMarks k n) i = evMark k i := by simp [evt, evMarks, h]
theorem evMarks_succ (k : Int) (n : Nat) : evMarks k (n + 1) = evMarks k n ++ [evMark k n] := by simp [evMarks, List.range_succ]

set_option maxHeartbeats 1000000 in
theorem markEvS_any (A : Option Addr) (n c : Nat) (l : List Ev) (k : Int) (base : Nat) (w : World) (hn : l.length = n) (hle : n ≤ 1048576) (hk0 : 0 ≤ k) (hk1 : k ≤ 1099511627776)
    (hown : w.ownsRow base 44 3 (.slice A n c) n (evs l)) :
    Calls Try.prog 21 #[.slice A n c, .int .i64 k] w fun e w' => e = .returned (.int .i64 (k + 3 * n)) ∧ w'.ownsRow base 44 3 (.slice A n c) n (evs (evMarks k n)) ∧ w.grownBy w' (Value.slice A n c).ownBlock := by
  go_enter Try.func21, Try.ntmps21
  go_wp2
  go_loopw [1, 5] (fun q i wr => ∃ j : Nat, j ≤ n ∧ i = .int .i64 j ∧ q = .int .i64 (k + 3 * j) ∧ wr.ownsRow base 44 3 (.slice A n c) n (evs (evMarks k j) ++ evs (l.drop j)) ∧ w.grownBy wr (Value.slice A n c).ownBlock) (fun _ i _ => n - (intOf i).toNat)
  case atStart => exact ⟨0, by omega, rfl, by go_num, by simpa [evMarks, evs] using hown, World.grownBy.refl _ _⟩
  case round =>
    obtain ⟨j, hj, rfl, rfl, hown1, hg1⟩ := hrel
    by_cases hlt : j < n
    · obtain ⟨g, cap, hv, hbase, hgl⟩ := hown1.form (by omega)
      injection hv with hv1 hv2 hv3
      subst hv1 hv3
      obtain ⟨hown2, hg2⟩ := own_put3 hown1 (j * 3) (.int .i64 (evMark k j).t) (.int .i64 (evMark k j).k) (.bool (evMark k j).d)
      have hp : (((evs (evMarks k j) ++ evs (l.drop j)).set (j * 3) (.int .i64 (evMark k j).t)).set (j * 3 + 1) (.int .i64 (evMark k j).k)).set (j * 3 + 2) (.bool (evMark k j).d) = evs (evMarks k (j + 1)) ++ evs (l.drop (j + 1)) := by
        rw [List.drop_eq_getElem_cons (show j < l.length by omega), evs_put _ _ _ _ j (evMarks_len k j), evMarks_succ]
      rw [hp] at hown2
      have o3 := Lib.hid hown2
      have g3 := Lib.hid hg2
      clear hown2 hg2 hp
      have hfr0 := hown1.frozenAt (j * 3)
      have hfr1 := hown1.frozenAt (j * 3 + 1)
      have hfr2 := hown1.frozenAt (j * 3 + 2)
      obtain ⟨u0, hc0⟩ : ∃ u, wr.cell? ⟨g, j * 3, none⟩ = some u := ⟨_, (hown1.cellAt (j * 3) (by omega)).trans (List.getElem?_eq_getElem (by have := hown1.1; omega))⟩
      obtain ⟨u1, hc1⟩ : ∃ u, wr.cell? ⟨g, j * 3 + 1, none⟩ = some u := ⟨_, (hown1.cellAt (j * 3 + 1) (by omega)).trans (List.getElem?_eq_getElem (by have := hown1.1; omega))⟩
      obtain ⟨u2, hc2⟩ : ∃ u, wr.cell? ⟨g, j * 3 + 2, none⟩ = some u := ⟨_, (hown1.cellAt (j * 3 + 2) (by omega)).trans (List.getElem?_eq_getElem (by have := hown1.1; omega))⟩
      go_wp2
      go_roundw
      case rel => exact ⟨j + 1, by omega, by go_num, by go_num, o3.out, hg1.trans g3.out⟩
      case measure => simp [intOf]; omega
    · obtain rfl : j = n := by omega
      go_wp2
      go_ret
      exact ⟨rfl, by simpa [← hn, evs] using hown1, hg1⟩

set_option maxHeartbeats 1000000 in
theorem heldEvS_any (A : Option Addr) (n c : Nat) (k : Int) (B : Nat) (w : World) (hle : n ≤ 1048576) (hk0 : 0 ≤ k) (hk1 : k ≤ 1099511627776) (hr : Row w B A (evs (evMarks k n))) :
    Calls Try.prog 22 #[.slice A n c, .int .i64 k] w fun e w' => e = .returned (.int .i64 (k + 3 * n)) ∧ w = w' := by
  go_enter Try.func22, Try.ntmps22
  go_wp2
  go_loop [1, 5] (fun q i => ∃ j : Nat, j ≤ n ∧ i = .int .i64 j ∧ q = .int .i64 (k + 3 * j)) (fun _ i => n - (intOf i).toNat)
  case atStart => exact ⟨0, by omega, rfl, by go_num⟩
  case round =>
    obtain ⟨j, hj, rfl, rfl⟩ := hrel
    by_cases hlt : j < n
    · obtain ⟨b, off, rfl, hb, hc1, hc2, hc3⟩ := hr.ev (j := j) (by rw [evMarks_len]; exact hlt)
      rw [evMarks_at k n j hlt] at hc1 hc2 hc3
      have e1 : w.cell? ⟨b, off + j * 3, none⟩ = some (.int .i64 (k + 3 * (j : Int))) := hc1
      have e2 : w.cell? ⟨b, off + j * 3 + 1, none⟩ = some (.int .i64 (k + 3 * (j : Int) + 1)) := hc2
      have e3 : w.cell? ⟨b, off + j * 3 + 2, none⟩ = some (.bool ((k + 3 * (j : Int) + 1 + 1) % 3 == 0)) := hc3
      clear hc1 hc2 hc3
      go_wp2
      go_round
      case rel => exact ⟨j + 1, by omega, by go_num, by go_num⟩
      case measure => simp [intOf]; omega
    · obtain rfl : j = n := by omega
      go_wp2
      go_ret
      exact ⟨rfl, rfl⟩
end Go.Proofs.Ythnecaeljpaggaa
