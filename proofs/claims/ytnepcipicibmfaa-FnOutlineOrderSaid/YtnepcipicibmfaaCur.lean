/- Contracts of the reference's cursor, which reads choices from bytes: whatever it reads, it ends, and its numbers are within bounds. Condition: it has not been asked too often. -/
import Derived.Test.YtnepcipicibmfaaMem
import Derived.Test.YtnepcipicibmfaaStrs
import Derived.Test.YtnepcipicibmfaaRows
import Derived.Test.YtnepcipicibmfaaBits
import Derived.IntWalk
import Derived.Laws.Bits64
import Derived.Deep.QuietTactic
import Derived.BigQuiet
import Derived.WalkLawsBesides
import Derived.WalkSpells
import Derived.Outline
import Derived.Lib.Hide
namespace Go.Proofs.Ytnepcipicibmfaa
open Go.RowKit

/-- Block g is a cursor that was asked at most m times; its bytes lie below it. -/
def Cur (w : World) (g m : Nat) : Prop :=
  ∃ (A : Option Addr) (n c : Nat) (l : List Int) (k s : Int), w.heap[g]? = some (.cells #[.slice A n c, .int .i64 k, .int .u64 s] 49 (0, 0)) ∧ l.length = n ∧ n ≤ 1048576 ∧ 0 ≤ k ∧ k ≤ m ∧ 0 ≤ s ∧ s < 18446744073709551616 ∧
    (∀ x ∈ l, 0 ≤ x ∧ x ≤ 255) ∧ Row w g A (l.map (Value.int .u8))

theorem Cur.grown {w w' : World} {g m : Nat} {row : Option Nat} (h : Cur w g m) (hg : w.grownBy w' row) (hr : ∀ k, row = some k → g < k) : Cur w' g m := by
  obtain ⟨A, n, c, l, k, s, hb, h1, h2, h3, h4, h5, h6, h7, hrow⟩ := h
  have hlt : g < w.heap.size := (Array.getElem?_eq_some_iff.1 hb).1
  refine ⟨A, n, c, l, k, s, ?_, h1, h2, h3, h4, h5, h6, h7, hrow.grown hg (by omega) fun j e => by have := hr j e; omega⟩
  rw [hg.block g hlt (fun e => by have := hr g e.symm; omega)]
  exact hb
theorem Cur.lt {w : World} {g m : Nat} (h : Cur w g m) : g < w.heap.size := by
  obtain ⟨A, n, c, l, k, s, hb, _⟩ := h
  exact (Array.getElem?_eq_some_iff.1 hb).1
theorem Cur.below {w w' : World} {g m B : Nat} (h : Cur w g m) (hb : Below B w w') (hg : g < B) : Cur w' g m := by
  obtain ⟨A, n, c, l, k, s, hc, h1, h2, h3, h4, h5, h6, h7, hrow⟩ := h
  exact ⟨A, n, c, l, k, s, (hb.block g hg).trans hc, h1, h2, h3, h4, h5, h6, h7, hrow.below_le hb (by omega)⟩
theorem Cur.more {w : World} {g m m' : Nat} (h : Cur w g m) (hm : m ≤ m') : Cur w g m' := by
  obtain ⟨A, n, c, l, k, s, hb, h1, h2, h3, h4, h5, h6, h7, hrow⟩ := h
  exact ⟨A, n, c, l, k, s, hb, h1, h2, h3, by omega, h5, h6, h7, hrow⟩
theorem Cur.drewN {w : World} {g m : Nat} (h : Cur w g m) (n : Nat) : Cur (w.drewN n) g m := h.grown (row := none) (only_drewN' w n) fun k e => by cases e
theorem Cur.alloc {w : World} {g m : Nat} (h : Cur w g m) (o : Obj) : Cur (w.alloc o) g m := h.grown (World.grownBy_alloc w o none) fun k e => by cases e
theorem and255 {s : Int} (h0 : 0 ≤ s) (h1 : s < 18446744073709551616) : 0 ≤ bits .and .u64 (s / 1099511627776) 255 ∧ bits .and .u64 (s / 1099511627776) 255 ≤ 255 := by
  obtain ⟨n, rfl⟩ := Int.eq_ofNat_of_zero_le h0
  have e : ((n : Int) / 1099511627776) = ((n / 1099511627776 : Nat) : Int) := by simp
  rw [e, show (255 : Int) = ((255 : Nat) : Int) from rfl, u64_and_nat _ _ (by omega) (by omega)]
  have : n / 1099511627776 &&& 255 ≤ 255 := Nat.and_le_right
  omega

theorem u64_bd (x : Int) : 0 ≤ IntKind.u64.wrap x ∧ IntKind.u64.wrap x < 18446744073709551616 := by
  rw [IntKind.wrap_u64]; omega
theorem cur_step {w : World} {g m : Nat} {A : Option Addr} {n c : Nat} {l : List Int} {k s : Int} (s' : Int)
    (hb : w.heap[g]? = some (.cells #[.slice A n c, .int .i64 k, .int .u64 s] 49 (0, 0))) (h1 : l.length = n) (h2 : n ≤ 1048576) (h3 : 0 ≤ k) (h4 : k ≤ m)
    (h7 : ∀ x ∈ l, 0 ≤ x ∧ x ≤ 255) (hrow : Row w g A (l.map (Value.int .u8))) (a b : Nat) :
    Cur ((((w.drewN a).setCell ⟨g, 1, none⟩ (.int .i64 (k + 1))).setCell ⟨g, 2, none⟩ (.int .u64 (IntKind.u64.wrap s'))).drewN b) g (m + 1) ∧
    w.grownBy ((((w.drewN a).setCell ⟨g, 1, none⟩ (.int .i64 (k + 1))).setCell ⟨g, 2, none⟩ (.int .u64 (IntKind.u64.wrap s'))).drewN b) (some g) := by
  have hg : w.grownBy ((((w.drewN a).setCell ⟨g, 1, none⟩ (.int .i64 (k + 1))).setCell ⟨g, 2, none⟩ (.int .u64 (IntKind.u64.wrap s'))).drewN b) (some g) := by
    refine ⟨rfl, rfl, rfl, by simp [World.setCell], fun j hj hne => ?_⟩
    have hjg : j ≠ g := fun e => hne (by rw [e])
    exact ((Below.heap_setCell ((w.drewN a).setCell ⟨g, 1, none⟩ (.int .i64 (k + 1))) ⟨g, 2, none⟩ _ j hjg).trans (Below.heap_setCell (w.drewN a) ⟨g, 1, none⟩ _ j hjg))
  have hbd := u64_bd s'
  refine ⟨⟨A, n, c, l, k + 1, _, ?_, h1, h2, by omega, by omega, hbd.1, hbd.2, h7, hrow.grown hg ?_ (fun j e => by injection e with e; omega)⟩, hg⟩
  · have e1 := heap_setCell_same (w.drewN a) g 1 _ _ (.int .i64 (k + 1)) hb
    exact heap_setCell_same _ g 2 _ _ (.int .u64 (IntKind.u64.wrap s')) e1
  · have := (Array.getElem?_eq_some_iff.1 hb).1
    omega
theorem wrap_255 {x : Int} (h0 : 0 ≤ x) (h1 : x ≤ 255) : wrap64 x = x := IntWalk.wrap64_in x (by omega)

set_option maxHeartbeats 1000000 in
theorem next_any (w : World) (g m : Nat) (h : Cur w g m) (hm : m ≤ 1099511627776) :
    Calls Try.prog 57 #[.pointer (some ⟨g, 0, none⟩)] w fun e w' => ∃ x, e = .returned (.int .i64 x) ∧ 0 ≤ x ∧ x ≤ 255 ∧ Cur w' g (m + 1) ∧ w.grownBy w' (some g) := by
  obtain ⟨A, n, c, l, k, s, hb, h1, h2, h3, h4, h5, h6, h7, hrow⟩ := h
  have c0 : w.cell? ⟨g, 0, none⟩ = some (.slice A n c) := by rw [cell_of_row w g 0 _ _ _ hb]; rfl
  have c1 : w.cell? ⟨g, 1, none⟩ = some (.int .i64 k) := by rw [cell_of_row w g 1 _ _ _ hb]; rfl
  have c2 : w.cell? ⟨g, 2, none⟩ = some (.int .u64 s) := by rw [cell_of_row w g 2 _ _ _ hb]; rfl
  have f1 : w.frozen? ⟨g, 1, none⟩ = false := frozen_of_row w g 1 _ _ hb
  have f2 : w.frozen? ⟨g, 2, none⟩ = false := frozen_of_row w g 2 _ _ hb
  by_cases hk : k < n
  · obtain ⟨j, rfl⟩ := Int.eq_ofNat_of_zero_le h3
    have hj : j < l.length := by omega
    obtain ⟨b, off, rfl, hbl, hc⟩ := hrow (fun e => by have := congrArg List.length e; simp at this; rw [this] at hj; simp at hj)
    obtain ⟨hx0, hx1⟩ := h7 l[j] (List.getElem_mem hj)
    have hcj := hc j (.int .u8 l[j]) (by simp [hj])
    generalize l[j] = x at hx0 hx1 hcj
    have hk' : (j : Int) < (n : Int) := by omega
    have hd : decide ((j : Int) < (n : Int)) = true := by simp; omega
    have hrow' := Lib.hid hrow
    have hc' := Lib.hid hc
    clear hrow hc
    go_enter Try.func57, Try.ntmps57
    go_wp2
    go_quiet (fail)
    go_wp2
    go_quiet (fail)
    go_wp2
    go_quiet (fail)
    go_wp2
    go_ret
    obtain ⟨e1, e2⟩ := cur_step (m := m) _ hb h1 h2 h3 h4 h7 hrow'.out _ _
    exact ⟨_, rfl, hx0, hx1, e1, e2⟩
  · have hd : decide (k < (n : Int)) = false := by simp; omega
    go_enter Try.func57, Try.ntmps57
    go_wp2
    go_quiet (fail)
    go_wp2
    go_quiet (fail)
    go_wp2
    go_ret
    obtain ⟨e1, e2⟩ := cur_step (m := m) _ hb h1 h2 h3 h4 h7 hrow _ _
    obtain ⟨b1, b2⟩ := u64_bd (IntKind.u64.wrap (IntKind.u64.wrap (s * 6364136223846793005)) + 882882)
    obtain ⟨a1, a2⟩ := and255 b1 b2
    exact ⟨_, rfl, by rw [wrap_255 a1 a2]; exact a1, by rw [wrap_255 a1 a2]; exact a2, e1, e2⟩

theorem grown_trans {a b c : World} {row : Option Nat} (h : a.grownBy b row) (k : b.grownBy c row) : a.grownBy c row := h.trans k

theorem pick_any (w : World) (g m : Nat) (n : Int) (h : Cur w g m) (hm : m ≤ 549755813888) (hn : n ≤ 1099511627776) :
    Calls Try.prog 42 #[.pointer (some ⟨g, 0, none⟩), .int .i64 n] w fun e w' => ∃ y, e = .returned (.int .i64 y) ∧ 0 ≤ y ∧ (y = 0 ∨ y < n) ∧ Cur w' g (m + 2) ∧ w.grownBy w' (some g) := by
  by_cases h1 : n ≤ 1
  · go_enter Try.func42, Try.ntmps42
    go_wp2
    go_ret
    exact ⟨0, rfl, by omega, Or.inl rfl, h.more (by omega), World.grownBy.refl _ _⟩
  · by_cases h2 : n ≤ 200
    · go_enter Try.func42, Try.ntmps42
      go_wp2_with fail
      refine (next_any w g m h (by omega)).mono ?_
      rintro e w1 ⟨x, rfl, x0, x1, hc1, hg1⟩
      go_wp2
      go_ret
      exact ⟨_, rfl, Int.emod_nonneg _ (by omega), Or.inr (Int.emod_lt_of_pos _ (by omega)), hc1.more (by omega), hg1⟩
    · go_enter Try.func42, Try.ntmps42
      go_wp2_with fail
      refine (next_any w g m h (by omega)).mono ?_
      rintro e w1 ⟨x, rfl, x0, x1, hc1, hg1⟩
      go_wp2_with fail
      refine (next_any w1 g (m + 1) hc1 (by omega)).mono ?_
      rintro e w2 ⟨y, rfl, y0, y1, hc2, hg2⟩
      go_wp2
      go_ret
      exact ⟨_, rfl, Int.emod_nonneg _ (by omega), Or.inr (Int.emod_lt_of_pos _ (by omega)), hc2, hg1.trans hg2⟩

theorem one_any (w : World) (g m : Nat) (n : Int) (h : Cur w g m) (hm : m ≤ 549755813888) (hn : n ≤ 1099511627776) :
    Calls Try.prog 41 #[.pointer (some ⟨g, 0, none⟩), .int .i64 n] w fun e w' => ∃ b, e = .returned (.bool b) ∧ Cur w' g (m + 2) ∧ w.grownBy w' (some g) := by
  go_enter Try.func41, Try.ntmps41
  go_wp2_with fail
  refine (pick_any w g m n h hm hn).mono ?_
  rintro e w1 ⟨y, rfl, y0, y1, hc1, hg1⟩
  go_wp2
  go_ret
  exact ⟨_, rfl, hc1, hg1⟩


theorem among_any (w : World) (g m : Nat) (A : Option Addr) (n c : Nat) (xs : List Int) (B : Nat) (h : Cur w g m) (hm : m ≤ 549755813888) (hn : xs.length = n) (h0 : 0 < n) (hle : n ≤ 1048576) (hr : Row w B A (ints xs)) (hgB : ∀ b off, A = some ⟨b, off, none⟩ → b ≠ g) :
    Calls Try.prog 65 #[.pointer (some ⟨g, 0, none⟩), .slice A n c] w fun e w' => ∃ x, e = .returned (.int .i64 x) ∧ x ∈ xs ∧ Cur w' g (m + 2) ∧ w.grownBy w' (some g) := by
  go_enter Try.func65, Try.ntmps65
  go_wp2_with fail
  refine (pick_any w g m n h hm (by omega)).mono ?_
  rintro e w1 ⟨y, rfl, y0, y1, hc1, hg1⟩
  obtain ⟨j, rfl⟩ := Int.eq_ofNat_of_zero_le y0
  have hj : j < n := by omega
  obtain ⟨b, off, rfl, hb, hcell⟩ := hr.int (k := j) (by omega)
  have hc := hg1.cell (a := ⟨b, off + j, none⟩) hcell (by have := hgB b off rfl; simpa using this)
  go_wp2
  go_ret
  exact ⟨_, rfl, elt_in xs j (by omega), hc1, hg1⟩

theorem Row.lit (w : World) (cs : Array Value) (e : TypeId) : Row (w.alloc (.cells cs e)) (w.heap.size + 1) (some ⟨w.heap.size, 0, none⟩) cs.toList := fun _ =>
  ⟨w.heap.size, 0, rfl, by omega, fun j u hu => by
    rw [Nat.zero_add, cell_of_row _ w.heap.size j cs e (0, 0) (heap_alloc_new w _)]
    simpa using hu⟩

/-- A cursor is made over the bytes that came in. -/
theorem cur_new {w : World} {A : Option Addr} {n c : Nat} {l : List Int} (hl : l.length = n) (hle : n ≤ 1048576) (hb : ∀ x ∈ l, (Lit.int .u8 x).wf = true) (hr : Row w w.heap.size A (l.map (Value.int .u8))) :
    Cur (w.alloc (.cells #[.slice A n c, .int .i64 0, .int .u64 0] 49)) w.heap.size 0 := by
  refine ⟨A, n, c, l, 0, 0, heap_alloc_new w _, hl, hle, by omega, by omega, by omega, by omega, fun x hx => ?_, hr.grown (World.grownBy_alloc w _ none) (Nat.le_refl _) (fun k e => by cases e)⟩
  have := hb x hx
  simp [Lit.wf, IntKind.min, IntKind.max, IntKind.signed, IntKind.bits] at this
  omega
/-- What was made behind a new block leaves all that was there. -/
theorem below_new {w w' : World} {o : Obj} (hg : (w.alloc o).grownBy w' (some w.heap.size)) : Below w.heap.size w w' :=
  ((Below.refl _ w).alloc (Nat.le_refl _) o).grown hg (by simp) (fun k e => by injection e with e; omega)

/-- The bytes that came in. -/
def Code (w : World) (A : Option Addr) (n : Nat) : Prop :=
  ∃ l : List Int, l.length = n ∧ n ≤ 1048576 ∧ (∀ x ∈ l, (Lit.int .u8 x).wf = true) ∧ Row w w.heap.size A (l.map (Value.int .u8))
theorem Code.below {w w' : World} {A : Option Addr} {n : Nat} (h : Code w A n) (hb : Below w.heap.size w w') : Code w' A n := by
  obtain ⟨l, h1, h2, h3, h4⟩ := h
  exact ⟨l, h1, h2, h3, (h4.below hb).mono hb.size⟩
theorem Code.cur {w : World} {A : Option Addr} {n : Nat} (h : Code w A n) (c : Nat) : Cur (w.alloc (.cells #[.slice A n c, .int .i64 0, .int .u64 0] 49)) w.heap.size 0 := by
  obtain ⟨l, h1, h2, h3, h4⟩ := h
  exact cur_new h1 h2 h3 h4
end Go.Proofs.Ytnepcipicibmfaa
