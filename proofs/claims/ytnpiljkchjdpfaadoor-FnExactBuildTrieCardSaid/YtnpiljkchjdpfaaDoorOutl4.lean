/- Contracts on outlines: a list of its own, joined lists. Condition: lists no longer than 2^20. -/
import Derived.Test.YtnpiljkchjdpfaaDoorOutl
import Derived.Test.YtnpiljkchjdpfaaDoorOutl3
import Derived.Test.YtnpiljkchjdpfaaDoorIntS
import Derived.Test.YtnpiljkchjdpfaaDoorMem2
namespace Go.Proofs.YtnpiljkchjdpfaaDoor
open Go.RowKit

theorem ints_one (xs : List Int) : ∀ u ∈ ints xs, u.oneCell' = true := by
  intro u hu
  obtain ⟨_, _, rfl⟩ := List.mem_map.1 hu
  rfl
theorem ints_append (xs ys : List Int) : ints (xs ++ ys) = ints xs ++ ints ys := by simp [ints]

theorem l1Own_any (A : Option Addr) (n c : Nat) (xs : List Int) (w : World) (hn : xs.length = n) (hle : n ≤ 4194304) (B : Nat) (hr : Row w B A (ints xs)) (hB : B ≤ w.heap.size) :
    Calls Tryd.prog 46 #[.slice A n c] w fun e w' => ∃ A' c', e = .returned (.slice A' n c') ∧ w'.ownsRow w.heap.size 3 1 (.slice A' n c') n (ints xs) ∧ Below w.heap.size w w' := by
  have hr1 := hr.grown (World.grownBy_alloc w (.cells #[] 3) none) hB (fun g e => by cases e)
  go_enter Tryd.func46, Tryd.ntmps46
  go_wp2_with (at_builtin; refine wpList_appRow intsT ((Below.refl _ w).alloc (Nat.le_refl _) _) (World.ownsRow_made _ _ _ (Nat.le_refl _) (by unfold maxLen; omega) (by simp)) A n c (ints xs) (by simp [ints, hn]) hr1 (ints_one xs) (Nat.le_refl _) (by simp) (by omega) (by decide) rfl (.tmp 3) (.tmp 4) rfl rfl rfl ?_; intro v' w' ho' hb' _ _)
  simp only [Nat.zero_add, List.nil_append] at ho'
  obtain ⟨A', c', rfl, _⟩ := own_slice ho'
  go_wp2
  go_ret
  exact ⟨A', c', rfl, ho', hb'⟩

def catB (a b : List Int) : Bool := outB a && outB b && outB (a ++ b)
def catR (a b : List Int) : List Int := if catB a b then a ++ b else []
theorem cat_small (a b : List Int) (ha : outB a = true) (hb : outB b = true) : catB a b = decide (a.length + b.length ≤ 6) := by
  have h1 := outB_len ha
  have h2 := outB_len hb
  have h3 : (a ++ b).all goodB = true := by
    rw [List.all_append, (Bool.and_eq_true_iff.1 ha).2, (Bool.and_eq_true_iff.1 hb).2]; rfl
  rw [catB, ha, hb, outB, h3, List.length_append]
  by_cases h : a.length + b.length ≤ 6
  · simp [inB, h]; omega
  · simp [inB, h]; omega
theorem cat_l {a b : List Int} (h : outB a = false) : catB a b = false ∧ catR a b = [] := by simp [catR, catB, h]
theorem cat_r {a b : List Int} (h : outB b = false) : catB a b = false ∧ catR a b = [] := by simp [catR, catB, h]
theorem cat_f {a b : List Int} (h : catB a b = false) : catB a b = false ∧ catR a b = [] := by simp [catR, h]
theorem cat_t {a b : List Int} (h : catB a b = true) : catB a b = true ∧ catR a b = a ++ b := by simp [catR, h]
theorem catR_len (a b : List Int) : (catR a b).length ≤ 6 := by
  unfold catR
  split
  · rename_i h
    exact (outB_len (Bool.and_eq_true_iff.1 h).2).2
  · simp

theorem own_zeros (w : World) (e : TypeId) (z : Value) (hz : z.cells.size = 1) (n : Nat) (hn : n ≤ 1099511627776) :
    (w.drew.alloc (.cells (Builtin.zeroCells z.cells n ++ Builtin.zeroCells z.cells (grownCap w n 0 e - n)) e)).ownsRow w.heap.size e 1 (.slice (some ⟨w.heap.size, 0, none⟩) 0 (grownCap w n 0 e)) 0 [] := by
  have h1 := grownCap_ge w n 0 e
  have h2 := grownCap_le_maxLen w n 0 e (by unfold maxLen; omega)
  refine ⟨rfl, .inr ⟨w.heap.size, _, _, rfl, Nat.le_refl _, heap_alloc_new w.drew _, Nat.zero_le _, h2, ?_, by simp⟩⟩
  simp only [Array.size_append, size_zeroCells, hz]
  omega

end Go.Proofs.YtnpiljkchjdpfaaDoor
