/- Contracts on outlines: compare, begins with, HasPrefix, CompareOutlines. Condition: lists no longer than maxLen. -/
import Derived.Test.YtnepcipicibmfaaDoorOutl2
namespace Go.Proofs.YtnepcipicibmfaaDoor
open Go.RowKit Go.Shelf

def cmp1 (x y : Int) : Int := if x < y then -1 else if y < x then 1 else 0
theorem starts_len {o p : List Int} (h : ¬ p.length ≤ o.length) : startsB o p = false := by simp [startsB, h]
theorem starts_eq {o p : List Int} (h : p.length ≤ o.length) : startsB o p = (o.take p.length == p) := by simp [startsB, h]

theorem startsWith_any (A A' : Option Addr) (n m c c' : Nat) (o p : List Int) (w : World) (ho : o.length = n) (hp : p.length = m) (hm : m ≤ maxLen) (hc : n ≤ c) (B : Nat) (hr : Row w B A (ints o)) (hr' : Row w B A' (ints p)) :
    Calls Tryd.prog 31 #[.slice A n c, .slice A' m c'] w fun e w' => e = .returned (.bool (startsB o p)) ∧ ∃ k, w' = w.drewN k := by
  by_cases hlt : m ≤ n
  · have hq := slicesEq_any A A' m m c c' (o.take m) p w (by simp; omega) hp hm hm B (by have := hr.take m; rwa [ints, ← List.map_take] at this) hr'
    have H := Lib.hid (starts_eq (o := o) (p := p) (by omega))
    rw [hp] at H
    unfold maxLen at hm
    go_enter Tryd.func31, Tryd.ntmps31
    go_wp2_with (go_at_call 47; refine hq.mono ?_; rintro e w' ⟨rfl, q, rfl⟩)
    go_ret
    exact ⟨ret_bool H.out.symm, q, rfl⟩
  · have H := Lib.hid (starts_len (o := o) (p := p) (by omega))
    unfold maxLen at hm
    go_enter Tryd.func31, Tryd.ntmps31
    go_wp2
    go_ret
    exact ⟨ret_bool H.out.symm, 0, rfl⟩

def bothB (o p : List Int) : Bool := outB o && outB p
def preB (o p : List Int) : Bool := bothB o p && startsB o p
def cmpR (o p : List Int) : Int := if bothB o p then cmpL o p else 0
theorem both_l {o p : List Int} (h : outB o = false) : bothB o p = false ∧ preB o p = false ∧ cmpR o p = 0 := by simp [bothB, preB, cmpR, h]
theorem both_r {o p : List Int} (h : outB p = false) : bothB o p = false ∧ preB o p = false ∧ cmpR o p = 0 := by simp [bothB, preB, cmpR, h]
theorem both_t {o p : List Int} (h : outB o = true) (h' : outB p = true) : bothB o p = true ∧ preB o p = startsB o p ∧ cmpR o p = cmpL o p := by simp [bothB, preB, cmpR, h, h']
theorem ret_bb {x y x' y' : Bool} (h : x = x') (h' : y = y') : Ending.returned (.tuple #[.bool x, .bool y]) = .returned (.tuple #[.bool x', .bool y']) := by rw [h, h']
theorem ret_ib {x x' : Int} {y y' : Bool} (h : x = x') (h' : y = y') : Ending.returned (.tuple #[.int .i64 x, .bool y]) = .returned (.tuple #[.int .i64 x', .bool y']) := by rw [h, h']

set_option maxHeartbeats 400000 in
theorem implHasPrefix_any (A A' : Option Addr) (n m c c' : Nat) (o p : List Int) (w : World) (ho : o.length = n) (hp : p.length = m) (hn : n ≤ maxLen) (hm : m ≤ maxLen) (hc : n ≤ c) (B : Nat) (hB : B ≤ w.heap.size) (hr : Row w B A (ints o)) (hr' : Row w B A' (ints p)) :
    Calls Tryd.prog 16 #[.slice A n c, .slice A' m c'] w fun e w' => e = .returned (.tuple #[.bool (preB o p), .bool (bothB o p)]) ∧ Below w.heap.size w w' := by
  have v1 := implValidOut_any A n c o w ho hn B hr
  rcases Bool.eq_false_or_eq_true (outB o) with g1 | g1
  · rw [g1] at v1
    rcases Bool.eq_false_or_eq_true (outB p) with g2 | g2
    · have K := Lib.hid (both_t g1 g2)
      go_enter Tryd.func16, Tryd.ntmps16
      go_wp2_with fail
      refine v1.mono ?_
      rintro e w1 ⟨rfl, b1⟩
      clear v1
      have r1 := hr.below_le b1 hB
      have r1' := hr'.below_le b1 hB
      have b1s := b1.size
      go_wp2_with fail
      refine (implValidOut_any A' m c' p _ hp hm B r1').mono ?_
      rintro e w2 ⟨rfl, b2⟩
      have b3 := b1.trans (b2.mono b1s)
      have r2 := r1.below_le b2 (Nat.le_trans hB b1s)
      have r2' := r1'.below_le b2 (Nat.le_trans hB b1s)
      simp only [g2]
      go_wp2_with fail
      refine (startsWith_any A A' n m c c' o p _ ho hp hm hc B r2 r2').mono ?_
      rintro e w3 ⟨rfl, q, rfl⟩
      go_wp2
      go_ret2
      exact ⟨ret_bb K.out.2.1.symm K.out.1.symm, below_drewN b3 _⟩
    · have K := Lib.hid (both_r (o := o) g2)
      go_enter Tryd.func16, Tryd.ntmps16
      go_wp2_with fail
      refine v1.mono ?_
      rintro e w1 ⟨rfl, b1⟩
      clear v1
      have r1' := hr'.below_le b1 hB
      have b1s := b1.size
      go_wp2_with fail
      refine (implValidOut_any A' m c' p _ hp hm B r1').mono ?_
      rintro e w2 ⟨rfl, b2⟩
      simp only [g2]
      go_wp2
      go_ret2
      exact ⟨ret_bb K.out.2.1.symm K.out.1.symm, b1.trans (b2.mono b1s)⟩
  · rw [g1] at v1
    have K := Lib.hid (both_l (p := p) g1)
    go_enter Tryd.func16, Tryd.ntmps16
    go_wp2_with fail
    refine v1.mono ?_
    rintro e w1 ⟨rfl, b1⟩
    go_wp2
    go_ret2
    exact ⟨ret_bb K.out.2.1.symm K.out.1.symm, b1⟩

end Go.Proofs.YtnepcipicibmfaaDoor
