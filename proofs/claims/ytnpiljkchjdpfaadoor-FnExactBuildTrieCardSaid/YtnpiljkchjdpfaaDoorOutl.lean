/- Contracts on outlines: valid, begins with, compare, joined. Condition: lists no longer than 2^20. -/
import Derived.Test.YtnpiljkchjdpfaaDoorMem
import Derived.Test.YtnpiljkchjdpfaaDoorStroke
import Derived.Shelf.SlicesE.IndexFunc
import Derived.Shelf.SlicesG.Equal
import Derived.Deep.QuietTactic
import Derived.BigQuiet
import Derived.Lib.Hide
namespace Go.Proofs.YtnpiljkchjdpfaaDoor
open Go.RowKit Go.Shelf
def Tryd.lContains_ren : Go.Shelf.Ren := ⟨fun | 8 => 79 | 6 => 92 | n => n, fun | 22 => 22 | 23 => 3 | 25 => 81 | 4 => 4 | 3 => 3 | 0 => 0 | n => n, fun | n => n⟩
theorem Tryd.lContains : Go.Proofs.SlLaysH.n8 Tryd.prog Tryd.lContains_ren := {
  mixed := by kernel_rfl
  f6 := ⟨Tryd.f92.name, by decide, Tryd.func92.trans (congrArg some (by kernel_rfl))⟩
  f8 := ⟨Tryd.f79.name, by decide, Tryd.func79.trans (congrArg some (by kernel_rfl))⟩
  t0 := Tryd.underlying0
  a0 := Tryd.isAgg0
  z0 := Tryd.sizeOf0
  v0 := Tryd.zeroValue0
  t3 := Tryd.underlying3
  a3 := Tryd.isAgg3
  z3 := Tryd.sizeOf3
  v3 := Tryd.zeroValue3
  t4 := Tryd.underlying4
  a4 := Tryd.isAgg4
  z4 := Tryd.sizeOf4
  v4 := Tryd.zeroValue4
  t22 := Tryd.underlying22
  a22 := Tryd.isAgg22
  z22 := Tryd.sizeOf22
  v22 := Tryd.zeroValue22
  a23 := Tryd.isAgg3
  z23 := Tryd.sizeOf3
  t25 := Tryd.underlying81
  a25 := Tryd.isAgg81
  z25 := Tryd.sizeOf81
  v25 := Tryd.zeroValue81 }

theorem notGood_pred (B : Nat) (w : World) (hB : B < w.heap.size) (hcell : w.cell? ⟨B, 0, none⟩ = some (.func (.func 62) #[] #[])) :
    PredAt Tryd.prog 80 #[.pointer (some ⟨B, 0, none⟩)] (Value.int .i64) (fun x => !goodB x) w := fun W x hb => by
  have hc : W.cell? ⟨B, 0, none⟩ = some (.func (.func 62) #[] #[]) := (hb.cell (p := ⟨B, 0, none⟩) hB).trans hcell
  show Calls Tryd.prog 80 #[.int .i64 x, .pointer (some ⟨B, 0, none⟩)] W _
  go_enter Tryd.func80, Tryd.ntmps80
  go_wp2_with (go_at_call 62; refine (implIsValidStroke_any x _).mono ?_; rintro e w' ⟨rfl, rfl⟩)
  go_ret
  exact ⟨rfl, 0, rfl⟩

theorem allGood_any (A : Option Addr) (n c : Nat) (l : List Int) (w : World) (hn : l.length = n) (h0 : 0 < n) (hle : n ≤ maxLen) (B : Nat) (hr : Row w B A (ints l)) :
    Calls Tryd.prog 61 #[.slice A n c, .func (.func 62) #[] #[]] w fun e w' => e = .returned (.bool (l.all goodB)) ∧ Below w.heap.size w w' := by
  have eg : ∀ args w, (callFunc 80 args).run Tryd.prog w = .ok (.enter 80 args) w := enters_of Tryd.func80 (by kernel_rfl) rfl
  obtain ⟨b, off, rfl, hb, hc⟩ := hr (by intro e; rw [ints] at e; simp at e; subst e; simp at hn; omega)
  have hcon := AnyE.slices_ContainsFunc Tryd.lContains (Value.int .i64) (fun x => !goodB x) 80 #[.pointer (some ⟨w.heap.size, 0, none⟩)] eg b off n c l (w.alloc (.cells #[.func (.func 62) #[] #[]] 81))
    (notGood_pred w.heap.size _ (by simp) (by simp)) (by omega) (by unfold maxLen at hle; omega) (fun j hj => Lib.cell?_alloc_some _ (by rw [hc j _ (ints_get l j hj)]; simp [elt, hj]))
  rw [show (l.take n).any (fun x => !goodB x) = !(l.all goodB) by rw [← hn, List.take_length, List.not_all_eq_any_not]] at hcon
  change Calls Tryd.prog 79 _ _ _ at hcon
  generalize l.all goodB = r at hcon ⊢
  clear hr hc
  go_enter Tryd.func61, Tryd.ntmps61
  go_wp2_with (go_at_call 79; refine hcon.mono ?_; rintro e w' ⟨rfl, q, rfl⟩)
  go_ret
  exact ⟨by simp, below_drewN ((Below.refl _ w).alloc (Nat.le_refl _) _) q⟩

/-- A valid outline. -/
def outB (l : List Int) : Bool := inB (l.length : Int) 1 6 && l.all goodB
theorem all_succ (l : List Int) (k : Nat) (h : k < l.length) : (l.take (k + 1)).all goodB = ((l.take k).all goodB && goodB (elt l k)) := by
  rw [take_int l k h]; simp
theorem all_bad (l : List Int) (k : Nat) (h : k < l.length) (hg : goodB (elt l k) = false) : l.all goodB = false := by
  rw [List.all_eq_false]
  exact ⟨_, elt_in l k h, by simp [hg]⟩
theorem outB_len {l : List Int} (h : outB l = true) : 1 ≤ l.length ∧ l.length ≤ 6 := by
  have := in_bd (Bool.and_eq_true_iff.1 h).1
  omega
theorem outB_all {l : List Int} (h : outB l = true) : ∀ x ∈ l, goodB x = true := by
  have := (Bool.and_eq_true_iff.1 h).2
  simpa using this

set_option maxHeartbeats 400000 in
theorem l4Good_any (A : Option Addr) (n c : Nat) (l : List Int) (w : World) (hn : l.length = n) (hm : n ≤ maxLen) (B : Nat) (hr : Row w B A (ints l)) :
    Calls Tryd.prog 59 #[.slice A n c] w fun e w' => e = .returned (.bool (outB l)) ∧ w = w' := by
  have ho : outB l = (inB (n : Int) 1 6 && l.all goodB) := by rw [outB, hn]
  have h1 := l1In_any (n : Int) 1 6 w
  rw [ho]
  clear ho
  rcases Bool.eq_false_or_eq_true (inB (n : Int) 1 6) with g | g
  · have h6 := in_bd g
    rw [g] at h1 ⊢
    go_enter Tryd.func59, Tryd.ntmps59
    go_wp2_with (go_at_call 77; refine h1.mono ?_; rintro e w' ⟨rfl, rfl⟩)
    clear h1
    go_loopw [3] (fun i wr => ∃ k : Nat, k ≤ n ∧ i = .int .i64 k ∧ (l.take k).all goodB = true ∧ wr = w) (fun i _ => n - (intOf i).toNat)
    case atStart => exact ⟨0, by omega, rfl, by simp, rfl⟩
    case round =>
      obtain ⟨k, hk, rfl, ha, rfl⟩ := hrel
      by_cases hlt : k < n
      · obtain ⟨b, off, rfl, hb, hc⟩ := hr.int (k := k) (by omega)
        have hs := Lib.hid (all_succ l k (by omega))
        have hbad := Lib.hid (all_bad l k (by omega))
        have hg := l2Good_any (elt l k) wr
        rcases Bool.eq_false_or_eq_true (goodB (elt l k)) with g2 | g2
        · rw [g2] at hg
          go_wp2_with (go_at_call 78; refine hg.mono ?_; rintro e w' ⟨rfl, rfl⟩)
          go_roundw
          case rel => exact ⟨k + 1, by omega, by go_num, by rw [hs.out, ha, g2]; rfl, by trivial⟩
          case measure => simp [intOf]; omega
        · rw [g2] at hg
          go_wp2_with (go_at_call 78; refine hg.mono ?_; rintro e w' ⟨rfl, rfl⟩)
          go_ret
          exact ⟨by rw [hbad.out g2]; rfl, rfl⟩
      · obtain rfl : k = n := by omega
        go_wp2
        go_ret
        rw [← hn, List.take_length] at ha
        exact ⟨by rw [ha]; rfl, rfl⟩
  · rw [g] at h1 ⊢
    go_enter Tryd.func59, Tryd.ntmps59
    go_wp2_with (go_at_call 77; refine h1.mono ?_; rintro e w' ⟨rfl, rfl⟩)
    go_ret
    exact ⟨rfl, rfl⟩

theorem implValidOut_any (A : Option Addr) (n c : Nat) (l : List Int) (w : World) (hn : l.length = n) (hm : n ≤ maxLen) (B : Nat) (hr : Row w B A (ints l)) :
    Calls Tryd.prog 37 #[.slice A n c] w fun e w' => e = .returned (.bool (outB l)) ∧ Below w.heap.size w w' := by
  have ho : outB l = (inB (n : Int) 1 6 && l.all goodB) := by rw [outB, hn]
  have h1 := implIn_any (n : Int) 1 6 w
  rw [ho]
  clear ho
  rcases Bool.eq_false_or_eq_true (inB (n : Int) 1 6) with g | g
  · have h6 := in_bd g
    have h2 := allGood_any A n c l w hn (by omega) hm B hr
    rw [g] at h1 ⊢
    go_enter Tryd.func37, Tryd.ntmps37
    go_wp2_with first | (go_at_call 60; refine h1.mono ?_; rintro e w' ⟨rfl, rfl⟩) | (go_at_call 61; refine h2.mono ?_; rintro e w1 ⟨rfl, hb1⟩)
    go_ret
    exact ⟨by simp, hb1⟩
  · rw [g] at h1 ⊢
    go_enter Tryd.func37, Tryd.ntmps37
    go_wp2_with (go_at_call 60; refine h1.mono ?_; rintro e w' ⟨rfl, rfl⟩)
    go_ret
    exact ⟨rfl, Below.refl _ _⟩

end Go.Proofs.YtnpiljkchjdpfaaDoor
