/- Contracts of the reference's cursor, which reads choices from bytes: whatever it reads, it ends, and its numbers are within bounds. Condition: it has not been asked too often. | Contract of the reference's 'spoilt': a text with a byte more, less, or another one. Condition: the texts are short. | Contracts of the reference's draws of strokes. Condition: the bytes are at most 2^20. | Contracts of the reference's draws of outlines. Condition: the bytes are at most 2^20. | Contracts of the reference's draws of atoms: whatever is drawn, they end, and texts are short. Condition: the cursor has not been asked too often. | Contracts of the reference's draws of translations. Condition: the bytes are at most 2^20. -/
import Derived.Test.YtnpiljkchjdpfaaGreatDoorMem
import Derived.Test.YtnpiljkchjdpfaaGreatDoorStrs
import Derived.Test.YtnpiljkchjdpfaaGreatDoorRows
import Derived.Test.YtnpiljkchjdpfaaGreatDoorBits
import Derived.IntWalk
import Derived.Laws.Bits64
import Derived.Deep.QuietTactic
import Derived.BigQuiet
import Derived.WalkLawsBesides
import Derived.WalkSpells
import Derived.Outline
import Derived.Lib.Hide
import Derived.Test.YtnpiljkchjdpfaaGreatDoorGL
import Derived.Test.YtnpiljkchjdpfaaGreatDoorGO
import Derived.Test.YtnpiljkchjdpfaaGreatDoorParA
import Derived.Test.YtnpiljkchjdpfaaGreatDoorMem3
import Derived.Test.YtnpiljkchjdpfaaGreatDoorTr
import Derived.Test.YtnpiljkchjdpfaaGreatDoorAtomS
import Derived.Test.YtnpiljkchjdpfaaGreatDoorParT
namespace Go.Proofs.YtnpiljkchjdpfaaGreatDoor
open Go.RowKit

/-- Block g is a cursor that was asked at most m times; its bytes lie below it. -/
def Cur (w : World) (g m : Nat) : Prop :=
  ∃ (A : Option Addr) (n c : Nat) (l : List Int) (k s : Int), w.heap[g]? = some (.cells #[.slice A n c, .int .i64 k, .int .u64 s] 53 (0, 0)) ∧ l.length = n ∧ n ≤ 1048576 ∧ 0 ≤ k ∧ k ≤ m ∧ 0 ≤ s ∧ s < 18446744073709551616 ∧
    (∀ x ∈ l, 0 ≤ x ∧ x ≤ 255) ∧ Row w g A (l.map (Value.int .u8))

theorem Cur.grown {w w' : World} {g m : Nat} {row : Option Nat} (h : Cur w g m) (hg : w.grownBy w' row) (hr : ∀ k, row = some k → g < k) : Cur w' g m := by
  obtain ⟨A, n, c, l, k, s, hb, h1, h2, h3, h4, h5, h6, h7, hrow⟩ := h
  have hlt : g < w.heap.size := (Array.getElem?_eq_some_iff.1 hb).1
  refine ⟨A, n, c, l, k, s, ?_, h1, h2, h3, h4, h5, h6, h7, hrow.grown hg (by omega) fun j e => by have := hr j e; omega⟩
  rw [hg.block g hlt (fun e => by have := hr g e.symm; omega)]
  exact hb
theorem Cur.lt {w : World} {g m : Nat} (h : Cur w g m) : g < w.heap.size := by
  obtain ⟨A, n, c, l, k, s, hb, _⟩ := h
  exact (Array.getElem?_eq_some_iff.1 hb).1
theorem Cur.below {w w' : World} {g m B : Nat} (h : Cur w g m) (hb : Below B w w') (hg : g < B) : Cur w' g m := by
  obtain ⟨A, n, c, l, k, s, hc, h1, h2, h3, h4, h5, h6, h7, hrow⟩ := h
  exact ⟨A, n, c, l, k, s, (hb.block g hg).trans hc, h1, h2, h3, h4, h5, h6, h7, hrow.below_le hb (by omega)⟩
theorem Cur.more {w : World} {g m m' : Nat} (h : Cur w g m) (hm : m ≤ m') : Cur w g m' := by
  obtain ⟨A, n, c, l, k, s, hb, h1, h2, h3, h4, h5, h6, h7, hrow⟩ := h
  exact ⟨A, n, c, l, k, s, hb, h1, h2, h3, by omega, h5, h6, h7, hrow⟩
theorem Cur.drewN {w : World} {g m : Nat} (h : Cur w g m) (n : Nat) : Cur (w.drewN n) g m := h.grown (row := none) (only_drewN' w n) fun k e => by cases e
theorem Cur.alloc {w : World} {g m : Nat} (h : Cur w g m) (o : Obj) : Cur (w.alloc o) g m := h.grown (World.grownBy_alloc w o none) fun k e => by cases e
theorem and255 {s : Int} (h0 : 0 ≤ s) (h1 : s < 18446744073709551616) : 0 ≤ bits .and .u64 (s / 1099511627776) 255 ∧ bits .and .u64 (s / 1099511627776) 255 ≤ 255 := by
  obtain ⟨n, rfl⟩ := Int.eq_ofNat_of_zero_le h0
  have e : ((n : Int) / 1099511627776) = ((n / 1099511627776 : Nat) : Int) := by simp
  rw [e, show (255 : Int) = ((255 : Nat) : Int) from rfl, u64_and_nat _ _ (by omega) (by omega)]
  have : n / 1099511627776 &&& 255 ≤ 255 := Nat.and_le_right
  omega

theorem u64_bd (x : Int) : 0 ≤ IntKind.u64.wrap x ∧ IntKind.u64.wrap x < 18446744073709551616 := by
  rw [IntKind.wrap_u64]; omega
theorem cur_step {w : World} {g m : Nat} {A : Option Addr} {n c : Nat} {l : List Int} {k s : Int} (s' : Int)
    (hb : w.heap[g]? = some (.cells #[.slice A n c, .int .i64 k, .int .u64 s] 53 (0, 0))) (h1 : l.length = n) (h2 : n ≤ 1048576) (h3 : 0 ≤ k) (h4 : k ≤ m)
    (h7 : ∀ x ∈ l, 0 ≤ x ∧ x ≤ 255) (hrow : Row w g A (l.map (Value.int .u8))) (a b : Nat) :
    Cur ((((w.drewN a).setCell ⟨g, 1, none⟩ (.int .i64 (k + 1))).setCell ⟨g, 2, none⟩ (.int .u64 (IntKind.u64.wrap s'))).drewN b) g (m + 1) ∧
    w.grownBy ((((w.drewN a).setCell ⟨g, 1, none⟩ (.int .i64 (k + 1))).setCell ⟨g, 2, none⟩ (.int .u64 (IntKind.u64.wrap s'))).drewN b) (some g) := by
  have hg : w.grownBy ((((w.drewN a).setCell ⟨g, 1, none⟩ (.int .i64 (k + 1))).setCell ⟨g, 2, none⟩ (.int .u64 (IntKind.u64.wrap s'))).drewN b) (some g) := by
    refine ⟨rfl, rfl, rfl, by simp [World.setCell], fun j hj hne => ?_⟩
    have hjg : j ≠ g := fun e => hne (by rw [e])
    exact ((Below.heap_setCell ((w.drewN a).setCell ⟨g, 1, none⟩ (.int .i64 (k + 1))) ⟨g, 2, none⟩ _ j hjg).trans (Below.heap_setCell (w.drewN a) ⟨g, 1, none⟩ _ j hjg))
  have hbd := u64_bd s'
  refine ⟨⟨A, n, c, l, k + 1, _, ?_, h1, h2, by omega, by omega, hbd.1, hbd.2, h7, hrow.grown hg ?_ (fun j e => by injection e with e; omega)⟩, hg⟩
  · have e1 := heap_setCell_same (w.drewN a) g 1 _ _ (.int .i64 (k + 1)) hb
    exact heap_setCell_same _ g 2 _ _ (.int .u64 (IntKind.u64.wrap s')) e1
  · have := (Array.getElem?_eq_some_iff.1 hb).1
    omega
theorem wrap_255 {x : Int} (h0 : 0 ≤ x) (h1 : x ≤ 255) : wrap64 x = x := IntWalk.wrap64_in x (by omega)

set_option maxHeartbeats 1000000 in
theorem next_any (w : World) (g m : Nat) (h : Cur w g m) (hm : m ≤ 1099511627776) :
    Calls Tryz.prog 72 #[.pointer (some ⟨g, 0, none⟩)] w fun e w' => ∃ x, e = .returned (.int .i64 x) ∧ 0 ≤ x ∧ x ≤ 255 ∧ Cur w' g (m + 1) ∧ w.grownBy w' (some g) := by
  obtain ⟨A, n, c, l, k, s, hb, h1, h2, h3, h4, h5, h6, h7, hrow⟩ := h
  have c0 : w.cell? ⟨g, 0, none⟩ = some (.slice A n c) := by rw [cell_of_row w g 0 _ _ _ hb]; rfl
  have c1 : w.cell? ⟨g, 1, none⟩ = some (.int .i64 k) := by rw [cell_of_row w g 1 _ _ _ hb]; rfl
  have c2 : w.cell? ⟨g, 2, none⟩ = some (.int .u64 s) := by rw [cell_of_row w g 2 _ _ _ hb]; rfl
  have f1 : w.frozen? ⟨g, 1, none⟩ = false := frozen_of_row w g 1 _ _ hb
  have f2 : w.frozen? ⟨g, 2, none⟩ = false := frozen_of_row w g 2 _ _ hb
  by_cases hk : k < n
  · obtain ⟨j, rfl⟩ := Int.eq_ofNat_of_zero_le h3
    have hj : j < l.length := by omega
    obtain ⟨b, off, rfl, hbl, hc⟩ := hrow (fun e => by have := congrArg List.length e; simp at this; rw [this] at hj; simp at hj)
    obtain ⟨hx0, hx1⟩ := h7 l[j] (List.getElem_mem hj)
    have hcj := hc j (.int .u8 l[j]) (by simp [hj])
    generalize l[j] = x at hx0 hx1 hcj
    have hk' : (j : Int) < (n : Int) := by omega
    have hd : decide ((j : Int) < (n : Int)) = true := by simp; omega
    have hrow' := Lib.hid hrow
    have hc' := Lib.hid hc
    clear hrow hc
    go_enter Tryz.func72, Tryz.ntmps72
    go_wp2
    go_quiet (fail)
    go_wp2
    go_quiet (fail)
    go_wp2
    go_quiet (fail)
    go_wp2
    go_ret
    obtain ⟨e1, e2⟩ := cur_step (m := m) _ hb h1 h2 h3 h4 h7 hrow'.out _ _
    exact ⟨_, rfl, hx0, hx1, e1, e2⟩
  · have hd : decide (k < (n : Int)) = false := by simp; omega
    go_enter Tryz.func72, Tryz.ntmps72
    go_wp2
    go_quiet (fail)
    go_wp2
    go_quiet (fail)
    go_wp2
    go_ret
    obtain ⟨e1, e2⟩ := cur_step (m := m) _ hb h1 h2 h3 h4 h7 hrow _ _
    obtain ⟨b1, b2⟩ := u64_bd (IntKind.u64.wrap (IntKind.u64.wrap (s * 6364136223846793005)) + 882882)
    obtain ⟨a1, a2⟩ := and255 b1 b2
    exact ⟨_, rfl, by rw [wrap_255 a1 a2]; exact a1, by rw [wrap_255 a1 a2]; exact a2, e1, e2⟩

theorem grown_trans {a b c : World} {row : Option Nat} (h : a.grownBy b row) (k : b.grownBy c row) : a.grownBy c row := h.trans k

theorem pick_any (w : World) (g m : Nat) (n : Int) (h : Cur w g m) (hm : m ≤ 549755813888) (hn : n ≤ 1099511627776) :
    Calls Tryz.prog 50 #[.pointer (some ⟨g, 0, none⟩), .int .i64 n] w fun e w' => ∃ y, e = .returned (.int .i64 y) ∧ 0 ≤ y ∧ (y = 0 ∨ y < n) ∧ Cur w' g (m + 2) ∧ w.grownBy w' (some g) := by
  by_cases h1 : n ≤ 1
  · go_enter Tryz.func50, Tryz.ntmps50
    go_wp2
    go_ret
    exact ⟨0, rfl, by omega, Or.inl rfl, h.more (by omega), World.grownBy.refl _ _⟩
  · by_cases h2 : n ≤ 200
    · go_enter Tryz.func50, Tryz.ntmps50
      go_wp2_with fail
      refine (next_any w g m h (by omega)).mono ?_
      rintro e w1 ⟨x, rfl, x0, x1, hc1, hg1⟩
      go_wp2
      go_ret
      exact ⟨_, rfl, Int.emod_nonneg _ (by omega), Or.inr (Int.emod_lt_of_pos _ (by omega)), hc1.more (by omega), hg1⟩
    · go_enter Tryz.func50, Tryz.ntmps50
      go_wp2_with fail
      refine (next_any w g m h (by omega)).mono ?_
      rintro e w1 ⟨x, rfl, x0, x1, hc1, hg1⟩
      go_wp2_with fail
      refine (next_any w1 g (m + 1) hc1 (by omega)).mono ?_
      rintro e w2 ⟨y, rfl, y0, y1, hc2, hg2⟩
      go_wp2
      go_ret
      exact ⟨_, rfl, Int.emod_nonneg _ (by omega), Or.inr (Int.emod_lt_of_pos _ (by omega)), hc2, hg1.trans hg2⟩

theorem one_any (w : World) (g m : Nat) (n : Int) (h : Cur w g m) (hm : m ≤ 549755813888) (hn : n ≤ 1099511627776) :
    Calls Tryz.prog 29 #[.pointer (some ⟨g, 0, none⟩), .int .i64 n] w fun e w' => ∃ b, e = .returned (.bool b) ∧ Cur w' g (m + 2) ∧ w.grownBy w' (some g) := by
  go_enter Tryz.func29, Tryz.ntmps29
  go_wp2_with fail
  refine (pick_any w g m n h hm hn).mono ?_
  rintro e w1 ⟨y, rfl, y0, y1, hc1, hg1⟩
  go_wp2
  go_ret
  exact ⟨_, rfl, hc1, hg1⟩


theorem among_any (w : World) (g m : Nat) (A : Option Addr) (n c : Nat) (xs : List Int) (B : Nat) (h : Cur w g m) (hm : m ≤ 549755813888) (hn : xs.length = n) (h0 : 0 < n) (hle : n ≤ 1048576) (hr : Row w B A (ints xs)) (hgB : ∀ b off, A = some ⟨b, off, none⟩ → b ≠ g) :
    Calls Tryz.prog 105 #[.pointer (some ⟨g, 0, none⟩), .slice A n c] w fun e w' => ∃ x, e = .returned (.int .i64 x) ∧ x ∈ xs ∧ Cur w' g (m + 2) ∧ w.grownBy w' (some g) := by
  go_enter Tryz.func105, Tryz.ntmps105
  go_wp2_with fail
  refine (pick_any w g m n h hm (by omega)).mono ?_
  rintro e w1 ⟨y, rfl, y0, y1, hc1, hg1⟩
  obtain ⟨j, rfl⟩ := Int.eq_ofNat_of_zero_le y0
  have hj : j < n := by omega
  obtain ⟨b, off, rfl, hb, hcell⟩ := hr.int (k := j) (by omega)
  have hc := hg1.cell (a := ⟨b, off + j, none⟩) hcell (by have := hgB b off rfl; simpa using this)
  go_wp2
  go_ret
  exact ⟨_, rfl, elt_in xs j (by omega), hc1, hg1⟩

theorem Row.lit (w : World) (cs : Array Value) (e : TypeId) : Row (w.alloc (.cells cs e)) (w.heap.size + 1) (some ⟨w.heap.size, 0, none⟩) cs.toList := fun _ =>
  ⟨w.heap.size, 0, rfl, by omega, fun j u hu => by
    rw [Nat.zero_add, cell_of_row _ w.heap.size j cs e (0, 0) (heap_alloc_new w _)]
    simpa using hu⟩

theorem of_any (w : World) (g m : Nat) (A : Option Addr) (n c : Nat) (ss : List ByteArray) (B : Nat) (h : Cur w g m) (hm : m ≤ 549755813888) (hn : ss.length = n) (h0 : 0 < n) (hle : n ≤ 1048576) (hr : Row w B A (strs ss)) (hgB : ∀ b off, A = some ⟨b, off, none⟩ → b ≠ g) :
    Calls Tryz.prog 31 #[.pointer (some ⟨g, 0, none⟩), .slice A n c] w fun e w' => ∃ x, e = .returned (.string x) ∧ x ∈ ss ∧ Cur w' g (m + 2) ∧ w.grownBy w' (some g) := by
  go_enter Tryz.func31, Tryz.ntmps31
  go_wp2_with fail
  refine (pick_any w g m n h hm (by omega)).mono ?_
  rintro e w1 ⟨y, rfl, y0, y1, hc1, hg1⟩
  obtain ⟨j, rfl⟩ := Int.eq_ofNat_of_zero_le y0
  have hj : j < n := by omega
  have hj' : j < ss.length := by omega
  obtain ⟨b, off, rfl, hb, hcell⟩ := hr (fun e => by have := strs_length ss; rw [e] at this; simp at this; omega)
  obtain ⟨x, hx⟩ : ∃ x, ss[j]? = some x := ⟨_, List.getElem?_eq_getElem hj'⟩
  have hc := hg1.cell (a := ⟨b, off + j, none⟩) (hcell j (.string x) (by simp [strs, hx])) (by have := hgB b off rfl; simpa using this)
  have hx' := Lib.hid hx
  clear hx hcell
  go_wp2
  go_ret
  exact ⟨_, rfl, List.mem_of_getElem? hx'.out, hc1, hg1⟩

/-- A cursor is made over the bytes that came in. -/
theorem cur_new {w : World} {A : Option Addr} {n c : Nat} {l : List Int} (hl : l.length = n) (hle : n ≤ 1048576) (hb : ∀ x ∈ l, (Lit.int .u8 x).wf = true) (hr : Row w w.heap.size A (l.map (Value.int .u8))) :
    Cur (w.alloc (.cells #[.slice A n c, .int .i64 0, .int .u64 0] 53)) w.heap.size 0 := by
  refine ⟨A, n, c, l, 0, 0, heap_alloc_new w _, hl, hle, by omega, by omega, by omega, by omega, fun x hx => ?_, hr.grown (World.grownBy_alloc w _ none) (Nat.le_refl _) (fun k e => by cases e)⟩
  have := hb x hx
  simp [Lit.wf, IntKind.min, IntKind.max, IntKind.signed, IntKind.bits] at this
  omega
/-- What was made behind a new block leaves all that was there. -/
theorem below_new {w w' : World} {o : Obj} (hg : (w.alloc o).grownBy w' (some w.heap.size)) : Below w.heap.size w w' :=
  ((Below.refl _ w).alloc (Nat.le_refl _) o).grown hg (by simp) (fun k e => by injection e with e; omega)

/-- The bytes that came in. -/
def Code (w : World) (A : Option Addr) (n : Nat) : Prop :=
  ∃ l : List Int, l.length = n ∧ n ≤ 1048576 ∧ (∀ x ∈ l, (Lit.int .u8 x).wf = true) ∧ Row w w.heap.size A (l.map (Value.int .u8))
theorem Code.below {w w' : World} {A : Option Addr} {n : Nat} (h : Code w A n) (hb : Below w.heap.size w w') : Code w' A n := by
  obtain ⟨l, h1, h2, h3, h4⟩ := h
  exact ⟨l, h1, h2, h3, (h4.below hb).mono hb.size⟩
theorem Code.cur {w : World} {A : Option Addr} {n : Nat} (h : Code w A n) (c : Nat) : Cur (w.alloc (.cells #[.slice A n c, .int .i64 0, .int .u64 0] 53)) w.heap.size 0 := by
  obtain ⟨l, h1, h2, h3, h4⟩ := h
  exact cur_new h1 h2 h3 h4
end Go.Proofs.YtnpiljkchjdpfaaGreatDoor

namespace Go.Proofs.YtnpiljkchjdpfaaGreatDoor
open Go.RowKit

set_option maxHeartbeats 1000000 in
theorem spoilt_any (w : World) (g m : Nat) (t x : ByteArray) (h : Cur w g m) (hm : m ≤ 1000000) (ht : t.size ≤ 1048576) (hx : x.size ≤ 1048576) (hx0 : 0 < x.size) :
    Calls Tryz.prog 30 #[.pointer (some ⟨g, 0, none⟩), .string t, .string x] w fun e w' => ∃ o : ByteArray, e = .returned (.string o) ∧ o.size ≤ t.size + 1 ∧ Cur w' g (m + 6) ∧ w.grownBy w' (some g) := by
  have hl := str_list t
  by_cases h0 : t.size = 0
  · have he : t.toList.isEmpty = true := by rw [hl]; cases e : t.data.toList with
      | nil => rfl
      | cons a b => rw [bs_size', e] at h0; simp at h0
    have hx1 : (1 : Int) ≤ (x.size : Int) := by omega
    clear hl
    go_enter Tryz.func30, Tryz.ntmps30
    go_wp2
    go_ret
    exact ⟨_, rfl, by simp only [ByteArray.size_extract]; omega, h.more (by omega), World.grownBy.refl _ _⟩
  · have he : t.toList.isEmpty = false := by rw [hl]; cases e : t.data.toList with
      | nil => rw [bs_size', e] at h0; simp at h0
      | cons a b => rfl
    clear hl
    go_enter Tryz.func30, Tryz.ntmps30
    go_wp2_with fail
    refine (pick_any w g m t.size h (by omega) (by omega)).mono ?_
    rintro e w1 ⟨i, rfl, i0, i1, hc1, hg1⟩
    obtain ⟨i, rfl⟩ := Int.eq_ofNat_of_zero_le i0
    have hi : i < t.size := by omega
    go_wp2_with fail
    refine (pick_any w1 g (m + 2) x.size hc1 (by omega) (by omega)).mono ?_
    rintro e w2 ⟨j, rfl, j0, j1, hc2, hg2⟩
    obtain ⟨j, rfl⟩ := Int.eq_ofNat_of_zero_le j0
    have hj : j < x.size := by omega
    have hj' : (j : Int) < (x.size : Int) := by omega
    have hj'' : (0 : Int) ≤ (j : Int) := by omega
    have hij : (i : Int) ≤ (t.size : Int) := by omega
    have hi0 : (0 : Int) ≤ (i : Int) := by omega
    have hii : (i : Int) + 1 ≤ (t.size : Int) := by omega
    go_wp2_with fail
    refine (pick_any w2 g (m + 4) 3 hc2 (by omega) (by omega)).mono ?_
    rintro e w3 ⟨k, rfl, k0, k1, hc3, hg3⟩
    by_cases hk0 : k = 0
    · subst hk0
      go_wp2
      go_quiet (fail)
      go_wp2
      go_ret
      exact ⟨_, rfl, by simp only [ByteArray.size_append, ByteArray.size_extract]; omega, (hc3.more (by omega)).drewN _, (hg1.trans hg2).trans (hg3.trans (only_drewN' w3 _))⟩
    · by_cases hk1 : k = 1
      · subst hk1
        go_wp2
        go_quiet (fail)
        go_wp2
        go_ret
        exact ⟨_, rfl, by simp only [ByteArray.size_append, ByteArray.size_extract]; omega, (hc3.more (by omega)).drewN _, (hg1.trans hg2).trans (hg3.trans (only_drewN' w3 _))⟩
      · obtain rfl : k = 2 := by omega
        go_wp2
        go_quiet (fail)
        go_wp2
        go_ret
        exact ⟨_, rfl, by simp only [ByteArray.size_append, ByteArray.size_extract]; omega, (hc3.more (by omega)).drewN _, (hg1.trans hg2).trans (hg3.trans (only_drewN' w3 _))⟩
end Go.Proofs.YtnpiljkchjdpfaaGreatDoor

namespace Go.Proofs.YtnpiljkchjdpfaaGreatDoor
open Go.RowKit

theorem vBig_any (A : Option Addr) (n c : Nat) (w : World) (hn : n ≤ maxLen) : Calls Tryz.prog 10 #[.slice A n c] w fun e w' => e = .returned (.bool (decide (65536 < n))) ∧ w = w' := by
  unfold maxLen at hn
  by_cases h : n ≤ 65536
  · go_enter Tryz.func10, Tryz.ntmps10
    go_wp2
    go_ret
    exact ⟨ret_bool (by simp; omega), rfl⟩
  · go_enter Tryz.func10, Tryz.ntmps10
    go_wp2
    go_ret
    exact ⟨ret_bool (by simp; omega), rfl⟩

theorem stroke_any (w : World) (g m : Nat) (h : Cur w g m) (hm : m ≤ 1000000) :
    Calls Tryz.prog 93 #[.pointer (some ⟨g, 0, none⟩)] w fun e w' => ∃ x, e = .returned (.int .i64 x) ∧ goodB x = true ∧ Cur w' g (m + 12) ∧ w.grownBy w' (some g) := by
  have hgl := h.lt
  go_enter Tryz.func93, Tryz.ntmps93
  go_wp2_with fail
  refine (one_any w g m 2 h (by omega) (by omega)).mono ?_
  rintro e w1 ⟨b, rfl, hc1, hg1⟩
  cases b
  · go_wp2_with fail
    refine (pick_any w1 g (m + 2) 4 hc1 (by omega) (by omega)).mono ?_
    rintro e w2 ⟨y, rfl, y0, y1, hc2, hg2⟩
    go_wp2
    go_loopw [3, 4] (fun s n wr => ∃ st j : Nat, s = .int .i64 st ∧ n = .int .i64 j ∧ j ≤ 4 ∧ st < 8388608 ∧ (st = 0 → 1 ≤ j) ∧ Cur wr g (m + 4 + 2 * (4 - j)) ∧ w2.grownBy wr (some g)) (fun _ n _ => (intOf n).toNat)
    case atStart => exact ⟨0, (1 + y).toNat, rfl, by go_num, by omega, by omega, fun _ => by omega, hc2.more (by omega), World.grownBy.refl _ _⟩
    case round =>
      obtain ⟨st, j, rfl, rfl, hj, hst, hz, hcr, hgr⟩ := hrel
      by_cases hlt : 0 < j
      · go_wp2_with fail
        refine (pick_any wr g _ 23 hcr (by omega) (by omega)).mono ?_
        rintro e w3 ⟨y3, rfl, y30, y31, hc3, hg3⟩
        obtain ⟨i, rfl⟩ := Int.eq_ofNat_of_zero_le y30
        have ho := Lib.hid (or_bit st i (by omega) (by omega))
        have hb := Lib.hid (lt_two_pow_or (a := st) (b := i) (n := 23) (by omega) (by omega))
        have hnz := Lib.hid (or_ne_zero st i)
        go_wp2
        go_roundw
        case rel =>
          refine ⟨st ||| 2 ^ i, j - 1, by rw [ho.out], by go_num, by omega, by have := hb.out; omega, fun e => absurd e hnz.out, hc3.more (by omega), hgr.trans hg3⟩
        case measure => simp [intOf]; omega
      · obtain rfl : j = 0 := by omega
        go_wp2
        go_ret
        exact ⟨_, rfl, inB_true (by omega) (by omega), hcr.more (by omega), (hg1.trans hg2).trans hgr⟩
  · go_wp2_with fail
    refine (among_any _ g (m + 2) _ 9 9 [524552, 260, 1048576, 262144, 4194304, 514, 8, 2064, 2097152] _ (hc1.alloc _) (by omega) rfl (by omega) (by omega) (Row.lit w1 _ _) (fun b off e => by have := hc1.lt; injection e with e; injection e with e; omega)).mono ?_
    rintro e w2 ⟨x, rfl, hx, hc2, hg2⟩
    have hx' : goodB x = true := by revert x; decide
    go_wp2
    go_ret
    exact ⟨x, rfl, hx', hc2.more (by omega), hg1.trans ((World.grownBy_alloc w1 _ _).trans hg2)⟩

theorem anyStroke_any (w : World) (g m : Nat) (h : Cur w g m) (hm : m ≤ 100000) :
    Calls Tryz.prog 88 #[.pointer (some ⟨g, 0, none⟩)] w fun e w' => ∃ x, e = .returned (.int .i64 x) ∧ -9223372036854775808 ≤ x ∧ x ≤ 9223372036854775807 ∧ Cur w' g (m + 14) ∧ w.grownBy w' (some g) := by
  go_enter Tryz.func88, Tryz.ntmps88
  go_wp2_with fail
  refine (one_any w g m 12 h (by omega) (by omega)).mono ?_
  rintro e w1 ⟨b, rfl, hc1, hg1⟩
  cases b
  · go_wp2_with fail
    refine (stroke_any w1 g (m + 2) hc1 (by omega)).mono ?_
    rintro e w2 ⟨x, rfl, hx, hc2, hg2⟩
    have hb := good_bd hx
    go_wp2
    go_ret
    exact ⟨x, rfl, by omega, by omega, hc2.more (by omega), hg1.trans hg2⟩
  · go_wp2_with fail
    refine (among_any _ g (m + 2) _ 6 6 [0, -1, 8388608, 8388607, 1, 1099511627776] _ (hc1.alloc _) (by omega) rfl (by omega) (by omega) (Row.lit w1 _ _) (fun b off e => by have := hc1.lt; injection e with e; injection e with e; omega)).mono ?_
    rintro e w2 ⟨x, rfl, hx, hc2, hg2⟩
    have hx' : -9223372036854775808 ≤ x ∧ x ≤ 9223372036854775807 := by revert x; decide
    obtain ⟨hx1, hx2⟩ := hx'
    go_wp2
    go_ret
    exact ⟨x, rfl, hx1, hx2, hc2.more (by omega), hg1.trans ((World.grownBy_alloc w1 _ _).trans hg2)⟩

theorem own_kept {w w' : World} {base g : Nat} {e : TypeId} {size : Nat} {v : Value} {n : Nat} {cs : List Value} (h : w.ownsRow base e size v n cs) (hg : w.grownBy w' (some g)) (hb : g < base) : w'.ownsRow base e size v n cs :=
  h.kept hg (by
    cases hv : v.ownBlock with
    | none => exact Or.inl rfl
    | some k => right; intro e; injection e with e; have := (h.lt k hv).1; omega)

end Go.Proofs.YtnpiljkchjdpfaaGreatDoor

namespace Go.Proofs.YtnpiljkchjdpfaaGreatDoor
open Go.RowKit

theorem grown_own {w wr w' : World} {g : Nat} {e : TypeId} {size n : Nat} {v : Value} {xs : List Value} (h : w.grownBy wr (some g)) (ho : wr.ownsRow w.heap.size e size v n xs) (hg : wr.grownBy w' v.ownBlock) : w.grownBy w' (some g) :=
  ⟨hg.os.trans h.os, hg.tape.trans h.tape, hg.output.trans h.output, Nat.le_trans h.size hg.size, fun i hi hne =>
    (hg.block i (Nat.lt_of_lt_of_le hi h.size) (fun e => by have := (ho.lt i e.symm).1; omega)).trans (h.block i hi hne)⟩
theorem below_of_grown {w w' : World} {g : Nat} (h : w.grownBy w' (some g)) (hg : g ≤ w.heap.size) : Below g w w' :=
  (Below.refl g w).grown h hg (fun k e => by injection e with e; omega)
theorem Cur.own {w w' : World} {g m : Nat} {base : Nat} {e : TypeId} {size n : Nat} {v : Value} {xs : List Value} (h : Cur w g m) (ho : w.ownsRow base e size v n xs) (hg : w.grownBy w' v.ownBlock) (hb : g < base) : Cur w' g m :=
  h.grown hg fun k e => by have := (ho.lt k e).1; omega

theorem few_any (w : World) (g m : Nat) (h : Cur w g m) (hm : m ≤ 1000000) :
    Calls Tryz.prog 87 #[.pointer (some ⟨g, 0, none⟩)] w fun e w' => ∃ x, e = .returned (.int .i64 x) ∧ goodB x = true ∧ Cur w' g (m + 2) ∧ w.grownBy w' (some g) := by
  have hlt := h.lt
  go_enter Tryz.func87, Tryz.ntmps87
  go_wp2_with fail
  refine (among_any _ g m _ 4 4 [524552, 260, 1048576, 262144] _ (h.alloc _) (by omega) rfl (by omega) (by omega) (Row.lit w _ _) (fun b off e => by injection e with e; injection e with e; omega)).mono ?_
  rintro e w2 ⟨x, rfl, hx, hc2, hg2⟩
  have hx' : goodB x = true := by revert x; decide
  go_wp2
  go_ret
  exact ⟨x, rfl, hx', hc2, (World.grownBy_alloc w _ _).trans hg2⟩

set_option maxHeartbeats 1000000 in
theorem outline_any (w : World) (g m : Nat) (h : Cur w g m) (hm : m ≤ 100000) :
    Calls Tryz.prog 74 #[.pointer (some ⟨g, 0, none⟩)] w fun e w' => ∃ A' n' c', ∃ l : List Int, e = .returned (.slice A' n' c') ∧ l.length = n' ∧ 1 ≤ n' ∧ n' ≤ 3 ∧ (∀ x ∈ l, goodB x = true) ∧
      w'.ownsRow w.heap.size 3 1 (.slice A' n' c') n' (ints l) ∧ Cur w' g (m + 44) ∧ w.grownBy w' (some g) := by
  have hlt := h.lt
  go_enter Tryz.func74, Tryz.ntmps74
  go_wp2_with fail
  refine (pick_any _ g m 3 (h.alloc _) (by omega) (by omega)).mono ?_
  rintro e w1 ⟨y, rfl, y0, y1, hc1, hg1⟩
  have ho1 := own_kept (World.ownsRow_made w #[] 0 (base := w.heap.size) (e := 3) (size := 1) (Nat.le_refl _) (by unfold maxLen; omega) (by simp)) hg1 hlt
  have g1 := (World.grownBy_alloc w (.cells #[] 3) (some g)).trans hg1
  go_wp2
  go_loopw [3, 4] (fun v i wr => ∃ j k : Nat, ∃ l : List Int, i = .int .i64 j ∧ j + k ≤ 3 ∧ 1 ≤ j + k ∧ l.length = k ∧ (∀ x ∈ l, goodB x = true) ∧ wr.ownsRow w.heap.size 3 1 v k (ints l) ∧ Cur wr g (m + 2 + 14 * k) ∧ w.grownBy wr (some g)) (fun _ i _ => (intOf i).toNat)
  case atStart => exact ⟨(1 + y).toNat, 0, [], by go_num, by omega, by omega, rfl, by simp, by simpa [ints] using ho1, hc1, g1⟩
  case round =>
    obtain ⟨j, k, l, rfl, hjk, hj1, hl, hgood, hown, hcr, hgr⟩ := hrel
    by_cases hlt2 : 0 < j
    · go_wp2_with fail
      refine (one_any wr g _ 5 hcr (by omega) (by omega)).mono ?_
      rintro e w3 ⟨b, rfl, hc3, hg3⟩
      have ho3 := own_kept hown hg3 hlt
      have g3 := hgr.trans hg3
      cases b
      · go_wp2_with fail
        refine (few_any w3 g _ hc3 (by omega)).mono ?_
        rintro e w4 ⟨x, rfl, hx, hc4, hg4⟩
        have ho4 := own_kept ho3 hg4 hlt
        have g4 := g3.trans hg4
        have s4 := g4.size
        go_wp2_with (at_builtin; refine wpList_app1 (.int .i64 x) intT (below_of_grown g4 (Nat.le_of_lt hlt)) ho4 rfl (Nat.le_of_lt hlt) s4 (by omega) (by decide) rfl (.tmp 20) (.tmp 23) rfl rfl rfl ?_; intro v5 w5 ho5 _ hg5 _)
        go_roundw
        case rel =>
          exact ⟨j - 1, k + 1, l ++ [x], by go_num, by omega, by omega, by simp [hl], fun z hz => by rcases List.mem_append.1 hz with h | h; exact hgood z h; simp at h; rw [h]; exact hx, by rw [ints_snoc]; exact ho5, (hc4.own ho4 hg5 hlt).more (by omega), grown_own g4 ho4 hg5⟩
        case measure => simp [intOf]; omega
      · go_wp2_with fail
        refine (stroke_any w3 g _ hc3 (by omega)).mono ?_
        rintro e w4 ⟨x, rfl, hx, hc4, hg4⟩
        have ho4 := own_kept ho3 hg4 hlt
        have g4 := g3.trans hg4
        have s4 := g4.size
        go_wp2_with (at_builtin; refine wpList_app1 (.int .i64 x) intT (below_of_grown g4 (Nat.le_of_lt hlt)) ho4 rfl (Nat.le_of_lt hlt) s4 (by omega) (by decide) rfl (.tmp 15) (.tmp 18) rfl rfl rfl ?_; intro v5 w5 ho5 _ hg5 _)
        go_roundw
        case rel =>
          exact ⟨j - 1, k + 1, l ++ [x], by go_num, by omega, by omega, by simp [hl], fun z hz => by rcases List.mem_append.1 hz with h | h; exact hgood z h; simp at h; rw [h]; exact hx, by rw [ints_snoc]; exact ho5, (hc4.own ho4 hg5 hlt).more (by omega), grown_own g4 ho4 hg5⟩
        case measure => simp [intOf]; omega
    · obtain rfl : j = 0 := by omega
      obtain ⟨A', c', rfl, _⟩ := own_slice hown
      go_wp2
      go_ret
      exact ⟨A', k, c', l, rfl, hl, by omega, by omega, hgood, hown, hcr.more (by omega), hgr⟩

set_option maxHeartbeats 2000000 in
theorem anyOutline_any (w : World) (g m : Nat) (h : Cur w g m) (hm : m ≤ 10000) :
    Calls Tryz.prog 65 #[.pointer (some ⟨g, 0, none⟩)] w fun e w' => ∃ A' n' c', ∃ l : List Int, e = .returned (.slice A' n' c') ∧ l.length = n' ∧ n' ≤ 8 ∧ n' ≤ c' ∧
      w'.ownsRow w.heap.size 3 1 (.slice A' n' c') n' (ints l) ∧ Cur w' g (m + 70) ∧ w.grownBy w' (some g) := by
  have hlt := h.lt
  go_enter Tryz.func65, Tryz.ntmps65
  go_wp2_with fail
  refine (pick_any w g m 16 h (by omega) (by omega)).mono ?_
  rintro e w1 ⟨y, rfl, y0, y1, hc1, hg1⟩
  have s1 := hg1.size
  have hlt1 := hc1.lt
  by_cases h0 : y = 0
  · subst h0
    go_wp2
    go_ret
    exact ⟨_, 0, _, [], rfl, rfl, by omega, by omega, World.ownsRow_made _ _ _ s1 (by unfold maxLen; omega) (by simp), (hc1.alloc _).more (by omega), hg1.trans (World.grownBy_alloc _ _ _)⟩
  · have e0 : (y == 0) = false := by simpa using h0
    by_cases h1 : y = 1
    · subst h1
      go_wp2_with fail
      refine (pick_any _ g _ 2 (hc1.alloc _) (by omega) (by omega)).mono ?_
      rintro e w2 ⟨z, rfl, z0, z1, hc2, hg2⟩
      have ho2 := own_kept (World.ownsRow_made w1 #[] 0 (base := w.heap.size) (e := 3) (size := 1) s1 (by unfold maxLen; omega) (by simp)) hg2 hlt
      have g2 := (hg1.trans (World.grownBy_alloc w1 (.cells #[] 3) (some g))).trans hg2
      go_wp2
      go_loopw [3, 4] (fun v i wr => ∃ j k : Nat, ∃ l : List Int, i = .int .i64 j ∧ j + k ≤ 7 ∧ l.length = k ∧ wr.ownsRow w.heap.size 3 1 v k (ints l) ∧ Cur wr g (m + 4 + 2 * k) ∧ w.grownBy wr (some g)) (fun _ i _ => (intOf i).toNat)
      case atStart => exact ⟨(6 + z).toNat, 0, [], by go_num, by omega, rfl, by simpa [ints] using ho2, hc2, g2⟩
      case round =>
        obtain ⟨j, k, l, rfl, hjk, hl, hown, hcr, hgr⟩ := hrel
        by_cases hlt2 : 0 < j
        · go_wp2_with fail
          refine (few_any wr g _ hcr (by omega)).mono ?_
          rintro e w4 ⟨x, rfl, hx, hc4, hg4⟩
          have ho4 := own_kept hown hg4 hlt
          have g4 := hgr.trans hg4
          have s4 := g4.size
          go_wp2_with (at_builtin; refine wpList_app1 (.int .i64 x) intT (below_of_grown g4 (Nat.le_of_lt hlt)) ho4 rfl (Nat.le_of_lt hlt) s4 (by omega) (by decide) rfl (.tmp 20) (.tmp 23) rfl rfl rfl ?_; intro v5 w5 ho5 _ hg5 _)
          go_roundw
          case rel => exact ⟨j - 1, k + 1, l ++ [x], by go_num, by omega, by simp [hl], by rw [ints_snoc]; exact ho5, (hc4.own ho4 hg5 hlt).more (by omega), grown_own g4 ho4 hg5⟩
          case measure => simp [intOf]; omega
        · obtain rfl : j = 0 := by omega
          obtain ⟨A', c', rfl, hnc⟩ := own_slice hown
          go_wp2
          go_ret
          exact ⟨A', k, c', l, rfl, hl, by omega, hnc, hown, hcr.more (by omega), hgr⟩
    · have e1 : (y == 1) = false := by simpa using h1
      by_cases h2 : y = 2
      · subst h2
        go_wp2_with fail
        refine (outline_any w1 g _ hc1 (by omega)).mono ?_
        rintro e w2 ⟨A2, n2, c2, l, rfl, hl, hn1, hn3, hgood, ho2, hc2, hg2⟩
        have g2 := hg1.trans hg2
        go_wp2_with fail
        refine (anyStroke_any w2 g _ hc2 (by omega)).mono ?_
        rintro e w3 ⟨x, rfl, hx0, hx1, hc3, hg3⟩
        have ho3 := own_base (own_kept ho2 hg3 hlt1) s1
        have g3 := g2.trans hg3
        have s3 := g3.size
        go_wp2_with (at_builtin; refine wpList_app1 (.int .i64 x) intT (below_of_grown g3 (Nat.le_of_lt hlt)) ho3 rfl (Nat.le_of_lt hlt) s3 (by omega) (by decide) rfl (.tmp 29) (.tmp 32) rfl rfl rfl ?_; intro v5 w5 ho5 _ hg5 _)
        obtain ⟨A', c', rfl, hnc⟩ := own_slice ho5
        go_wp2
        go_ret
        exact ⟨A', n2 + 1, c', l ++ [x], rfl, by simp [hl], by omega, hnc, by rw [ints_snoc]; exact ho5, (hc3.own ho3 hg5 hlt).more (by omega), grown_own g3 ho3 hg5⟩
      · have e2 : (y == 2) = false := by simpa using h2
        go_wp2_with fail
        refine (outline_any w1 g _ hc1 (by omega)).mono ?_
        rintro e w2 ⟨A2, n2, c2, l, rfl, hl, hn1, hn3, hgood, ho2, hc2, hg2⟩
        obtain ⟨_, _, hv, hnc⟩ := own_slice ho2
        cases hv
        go_wp2
        go_ret
        exact ⟨A2, n2, c2, l, rfl, hl, by omega, hnc, own_base ho2 s1, hc2.more (by omega), hg1.trans hg2⟩

/-- What a draw of two lists hands back. -/
def Two (w : World) (e : Ending) (w' : World) : Prop :=
  ∃ A1 n1 c1 A2 n2 c2, ∃ l1 l2 : List Int, e = .returned (.tuple #[.slice A1 n1 c1, .slice A2 n2 c2]) ∧ l1.length = n1 ∧ l2.length = n2 ∧ n1 ≤ 8 ∧ n2 ≤ 8 ∧ n1 ≤ c1 ∧ n2 ≤ c2 ∧
    Row w' w'.heap.size A1 (ints l1) ∧ Row w' w'.heap.size A2 (ints l2) ∧ Below w.heap.size w w'

end Go.Proofs.YtnpiljkchjdpfaaGreatDoor

namespace Go.Proofs.YtnpiljkchjdpfaaGreatDoor
open Go.RowKit

theorem endq {fn : Func} (hr : fn.results = #[.cell 2 (95)]) (Q : Ending → World → Prop) (w' : World) (a : Act) (H : Nat) (fr : Nat × Nat) (k : Int) (s : ByteArray) (ha : a.tmps.getD 2 undef = .pointer (some ⟨H, 0, none⟩)) (hd : a.defers = [])
    (hc : w'.heap[H]? = some (.cells #[.int .i64 k, .string s] 95 fr)) (hQ : Q (.returned (.agg #[.int .i64 k, .string s])) w') : bodyPost Tryz.prog fn Q .ret a w' :=
  bodyPost_ret (results_cell_row hr _ _ H 95 #[.int .i64 k, .string s] fr _ ha hc Tryz.underlying95 rfl (by kernel_rfl)) hd hQ
theorem grown_new {w a b : World} {g H : Nat} (h : w.grownBy a (some g)) (k : a.grownBy b (some H)) (hH : w.heap.size ≤ H) : w.grownBy b (some g) :=
  ⟨k.os.trans h.os, k.tape.trans h.tape, k.output.trans h.output, Nat.le_trans h.size k.size, fun i hi hne => (k.block i (Nat.lt_of_lt_of_le hi h.size) (fun e => by injection e with e; omega)).trans (h.block i hi hne)⟩
theorem ownP.grown {w w' : World} {B H g : Nat} {a b : Value} (h : ownP w B H a b) (hg : w.grownBy w' (some g)) (hne : g ≠ H) : ownP w' B H a b := World.ownsRow.kept h hg (Or.inr (by simp [Value.ownBlock]; omega))
theorem ownP.other {w w' : World} {B H G : Nat} {a b : Value} (h : ownP w B H a b) (hg : w.grownBy w' (some G)) (hne : H ≠ G) : ownP w' B H a b := World.ownsRow.kept h hg (Or.inr (by simp [Value.ownBlock]; omega))
theorem ownP.put0 {w : World} {B H : Nat} {a b : Value} (h : ownP w B H a b) (x : Value) : ownP (w.setCell ⟨H, 0, none⟩ x) B H x b ∧ w.grownBy (w.setCell ⟨H, 0, none⟩ x) (some H) := World.ownsRow.stored h 0 x
theorem ownP.put1 {w : World} {B H : Nat} {a b : Value} (h : ownP w B H a b) (x : Value) : ownP (w.setCell ⟨H, 1, none⟩ x) B H a x ∧ w.grownBy (w.setCell ⟨H, 1, none⟩ x) (some H) := World.ownsRow.stored h 1 x
theorem cur_put {w w' : World} {g m H : Nat} (h : Cur w g m) (hg : w.grownBy w' (some H)) (hH : g < H) : Cur w' g m := h.grown hg fun k e => by injection e with e; omega

def wordsW : List ByteArray := [⟨#[99, 97, 116]⟩, ⟨#[104, 97, 112, 112, 121]⟩, ⟨#[109, 97, 107, 101]⟩, ⟨#[114, 117, 110]⟩, ⟨#[116, 114, 121]⟩, ⟨#[98, 111, 120]⟩, ⟨#[100, 105, 101]⟩, ⟨#[97]⟩, ⟨#[71, 111]⟩, ⟨#[52, 50]⟩, ⟨#[100, 111, 110, 39, 116]⟩, ⟨#[98, 101, 101]⟩, ⟨#[115]⟩, ⟨#[105, 110, 103]⟩, ⟨#[99, 104, 117, 114, 99, 104]⟩, ⟨#[112, 108, 97, 121]⟩]
theorem wordText_any (w : World) (g m : Nat) (h : Cur w g m) (hm : m ≤ 1000000) :
    Calls Tryz.prog 116 #[.pointer (some ⟨g, 0, none⟩)] w fun e w' => ∃ x : ByteArray, e = .returned (.string x) ∧ x.size ≤ 10 ∧ Cur w' g (m + 2) ∧ w.grownBy w' (some g) := by
  have hlt := h.lt
  go_enter Tryz.func116, Tryz.ntmps116
  go_wp2_with fail
  refine (of_any _ g m _ 16 16 wordsW _ (h.alloc _) (by omega) rfl (by omega) (by omega) (Row.lit w _ _) (fun b off e => by injection e with e; injection e with e; omega)).mono ?_
  rintro e w1 ⟨x, rfl, hx, hc1, hg1⟩
  have hx' : x.size ≤ 10 := by revert x; decide
  go_wp2
  go_ret
  exact ⟨x, rfl, hx', hc1, (World.grownBy_alloc w _ _).trans hg1⟩

set_option maxHeartbeats 2000000 in
theorem atom_any (w : World) (g m : Nat) (h : Cur w g m) (hm : m ≤ 100000) :
    Calls Tryz.prog 109 #[.pointer (some ⟨g, 0, none⟩)] w fun e w' => ∃ k t, e = .returned (.agg #[.int .i64 k, .string t]) ∧ 0 ≤ k ∧ k ≤ 10 ∧ t.size ≤ 10 ∧ Cur w' g (m + 4) ∧ w.grownBy w' (some g) := by
  have hlt := h.lt
  have o0 := ownP_new w (.int .i64 0) (.string ⟨#[]⟩)
  have hne : g ≠ w.heap.size := by omega
  go_enter Tryz.func109, Tryz.ntmps109
  go_wp2_with fail
  refine (pick_any _ g m 14 (h.alloc _) (by omega) (by omega)).mono ?_
  rintro e w1 ⟨y, rfl, hy0, hy1, hc1, hg1⟩
  have o1 := o0.grown hg1 hne
  have g1 := (World.grownBy_alloc w (.cells #[.int .i64 0, .string ⟨#[]⟩] 95) (some g)).trans hg1
  have s1 : w.heap.size + 1 ≤ w1.heap.size := by simpa using hg1.size
  clear o0 hg1
  have hcs : y = 0 ∨ y = 1 ∨ y = 2 ∨ y = 3 ∨ y = 4 ∨ y = 5 ∨ y = 6 ∨ y = 7 ∨ 8 ≤ y := by omega
  rcases hcs with rfl | rfl | rfl | rfl | rfl | rfl | rfl | rfl | hy8
  · go_wp2_with fail
    refine (of_any _ g (m + 2) _ 6 6 [⟨#[105, 110, 103]⟩, ⟨#[115]⟩, ⟨#[101, 100]⟩, ⟨#[110, 101, 115, 115]⟩, ⟨#[101, 114]⟩, ⟨#[108, 121]⟩] _ (hc1.alloc _) (by omega) rfl (by omega) (by omega) (Row.lit w1 _ _) (fun b off e => by injection e with e; injection e with e; omega)).mono ?_
    rintro e w2 ⟨x, rfl, hx, hc2, hg2⟩
    have hx' : x.size ≤ 10 := by revert x; decide
    have o2 := (o1.alloc _).grown hg2 hne
    have g2 := (g1.trans (World.grownBy_alloc w1 _ _)).trans hg2
    clear hx
    obtain ⟨oE, gE⟩ := o2.put (.int .i64 (2)) (.string x)
    have oE := Lib.hid oE
    have gE := Lib.hid gE
    obtain ⟨d0, d1, d2, d3, d4, d5⟩ := o2.facts
    go_wp2
    exact endq rfl _ _ _ w.heap.size (0, 0) (2) x rfl rfl oE.out.heap ⟨2, x, rfl, by omega, by omega, hx', (cur_put hc2 gE.out hlt).more (by omega), grown_new g2 gE.out (Nat.le_refl _)⟩
  · go_wp2_with fail
    refine (of_any _ g (m + 2) _ 6 6 [⟨#[105, 110, 103]⟩, ⟨#[115]⟩, ⟨#[101, 100]⟩, ⟨#[110, 101, 115, 115]⟩, ⟨#[101, 114]⟩, ⟨#[108, 121]⟩] _ (hc1.alloc _) (by omega) rfl (by omega) (by omega) (Row.lit w1 _ _) (fun b off e => by injection e with e; injection e with e; omega)).mono ?_
    rintro e w2 ⟨x, rfl, hx, hc2, hg2⟩
    have hx' : x.size ≤ 10 := by revert x; decide
    have o2 := (o1.alloc _).grown hg2 hne
    have g2 := (g1.trans (World.grownBy_alloc w1 _ _)).trans hg2
    clear hx
    obtain ⟨oE, gE⟩ := o2.put (.int .i64 (2)) (.string x)
    have oE := Lib.hid oE
    have gE := Lib.hid gE
    obtain ⟨d0, d1, d2, d3, d4, d5⟩ := o2.facts
    go_wp2
    exact endq rfl _ _ _ w.heap.size (0, 0) (2) x rfl rfl oE.out.heap ⟨2, x, rfl, by omega, by omega, hx', (cur_put hc2 gE.out hlt).more (by omega), grown_new g2 gE.out (Nat.le_refl _)⟩
  · go_wp2_with fail
    refine (of_any _ g (m + 2) _ 3 3 [⟨#[117, 110]⟩, ⟨#[114, 101]⟩, ⟨#[40]⟩] _ (hc1.alloc _) (by omega) rfl (by omega) (by omega) (Row.lit w1 _ _) (fun b off e => by injection e with e; injection e with e; omega)).mono ?_
    rintro e w2 ⟨x, rfl, hx, hc2, hg2⟩
    have hx' : x.size ≤ 10 := by revert x; decide
    have o2 := (o1.alloc _).grown hg2 hne
    have g2 := (g1.trans (World.grownBy_alloc w1 _ _)).trans hg2
    clear hx
    obtain ⟨oE, gE⟩ := o2.put (.int .i64 (3)) (.string x)
    have oE := Lib.hid oE
    have gE := Lib.hid gE
    obtain ⟨d0, d1, d2, d3, d4, d5⟩ := o2.facts
    go_wp2
    exact endq rfl _ _ _ w.heap.size (0, 0) (3) x rfl rfl oE.out.heap ⟨3, x, rfl, by omega, by omega, hx', (cur_put hc2 gE.out hlt).more (by omega), grown_new g2 gE.out (Nat.le_refl _)⟩
  · go_wp2_with fail
    refine (of_any _ g (m + 2) _ 3 3 [⟨#[45]⟩, ⟨#[47]⟩, ⟨#[39]⟩] _ (hc1.alloc _) (by omega) rfl (by omega) (by omega) (Row.lit w1 _ _) (fun b off e => by injection e with e; injection e with e; omega)).mono ?_
    rintro e w2 ⟨x, rfl, hx, hc2, hg2⟩
    have hx' : x.size ≤ 10 := by revert x; decide
    have o2 := (o1.alloc _).grown hg2 hne
    have g2 := (g1.trans (World.grownBy_alloc w1 _ _)).trans hg2
    clear hx
    obtain ⟨oE, gE⟩ := o2.put (.int .i64 (4)) (.string x)
    have oE := Lib.hid oE
    have gE := Lib.hid gE
    obtain ⟨d0, d1, d2, d3, d4, d5⟩ := o2.facts
    go_wp2
    exact endq rfl _ _ _ w.heap.size (0, 0) (4) x rfl rfl oE.out.heap ⟨4, x, rfl, by omega, by omega, hx', (cur_put hc2 gE.out hlt).more (by omega), grown_new g2 gE.out (Nat.le_refl _)⟩
  · go_wp2_with fail
    refine (of_any _ g (m + 2) _ 3 3 [⟨#[97]⟩, ⟨#[98]⟩, ⟨#[55]⟩] _ (hc1.alloc _) (by omega) rfl (by omega) (by omega) (Row.lit w1 _ _) (fun b off e => by injection e with e; injection e with e; omega)).mono ?_
    rintro e w2 ⟨x, rfl, hx, hc2, hg2⟩
    have hx' : x.size ≤ 10 := by revert x; decide
    have o2 := (o1.alloc _).grown hg2 hne
    have g2 := (g1.trans (World.grownBy_alloc w1 _ _)).trans hg2
    clear hx
    obtain ⟨oE, gE⟩ := o2.put (.int .i64 (5)) (.string x)
    have oE := Lib.hid oE
    have gE := Lib.hid gE
    obtain ⟨d0, d1, d2, d3, d4, d5⟩ := o2.facts
    go_wp2
    exact endq rfl _ _ _ w.heap.size (0, 0) (5) x rfl rfl oE.out.heap ⟨5, x, rfl, by omega, by omega, hx', (cur_put hc2 gE.out hlt).more (by omega), grown_new g2 gE.out (Nat.le_refl _)⟩
  · go_wp2_with fail
    refine (of_any _ g (m + 2) _ 3 3 [⟨#[46]⟩, ⟨#[33]⟩, ⟨#[63]⟩] _ (hc1.alloc _) (by omega) rfl (by omega) (by omega) (Row.lit w1 _ _) (fun b off e => by injection e with e; injection e with e; omega)).mono ?_
    rintro e w2 ⟨x, rfl, hx, hc2, hg2⟩
    have hx' : x.size ≤ 10 := by revert x; decide
    have o2 := (o1.alloc _).grown hg2 hne
    have g2 := (g1.trans (World.grownBy_alloc w1 _ _)).trans hg2
    clear hx
    obtain ⟨oE, gE⟩ := o2.put (.int .i64 (6)) (.string x)
    have oE := Lib.hid oE
    have gE := Lib.hid gE
    obtain ⟨d0, d1, d2, d3, d4, d5⟩ := o2.facts
    go_wp2
    exact endq rfl _ _ _ w.heap.size (0, 0) (6) x rfl rfl oE.out.heap ⟨6, x, rfl, by omega, by omega, hx', (cur_put hc2 gE.out hlt).more (by omega), grown_new g2 gE.out (Nat.le_refl _)⟩
  · go_wp2_with fail
    refine (of_any _ g (m + 2) _ 3 3 [⟨#[44]⟩, ⟨#[59]⟩, ⟨#[58]⟩] _ (hc1.alloc _) (by omega) rfl (by omega) (by omega) (Row.lit w1 _ _) (fun b off e => by injection e with e; injection e with e; omega)).mono ?_
    rintro e w2 ⟨x, rfl, hx, hc2, hg2⟩
    have hx' : x.size ≤ 10 := by revert x; decide
    have o2 := (o1.alloc _).grown hg2 hne
    have g2 := (g1.trans (World.grownBy_alloc w1 _ _)).trans hg2
    clear hx
    obtain ⟨oE, gE⟩ := o2.put (.int .i64 (7)) (.string x)
    have oE := Lib.hid oE
    have gE := Lib.hid gE
    obtain ⟨d0, d1, d2, d3, d4, d5⟩ := o2.facts
    go_wp2
    exact endq rfl _ _ _ w.heap.size (0, 0) (7) x rfl rfl oE.out.heap ⟨7, x, rfl, by omega, by omega, hx', (cur_put hc2 gE.out hlt).more (by omega), grown_new g2 gE.out (Nat.le_refl _)⟩
  · go_wp2_with fail
    refine (pick_any _ g (m + 2) 3 hc1 (by omega) (by omega)).mono ?_
    rintro e w2 ⟨z, rfl, hz0, hz1, hc2, hg2⟩
    have o2 := o1.grown hg2 hne
    have g2 := g1.trans hg2
    obtain ⟨oE, gE⟩ := o2.put (.int .i64 (8 + z)) (.string ⟨#[]⟩)
    have oE := Lib.hid oE
    have gE := Lib.hid gE
    obtain ⟨d0, d1, d2, d3, d4, d5⟩ := o2.facts
    go_wp2
    exact endq rfl _ _ _ w.heap.size (0, 0) (8 + z) ⟨#[]⟩ rfl rfl oE.out.heap ⟨8 + z, ⟨#[]⟩, rfl, by omega, by omega, by decide, (cur_put hc2 gE.out hlt).more (by omega), grown_new g2 gE.out (Nat.le_refl _)⟩
  · have hf : ∀ q : Int, q < 8 → (y == q) = false := fun q hq => by simp; omega
    have hf0 := hf 0 (by omega)
    have hf1 := hf 1 (by omega)
    have hf2 := hf 2 (by omega)
    have hf3 := hf 3 (by omega)
    have hf4 := hf 4 (by omega)
    have hf5 := hf 5 (by omega)
    have hf6 := hf 6 (by omega)
    have hf7 := hf 7 (by omega)
    clear hf
    go_wp2_with fail
    refine (wordText_any _ g (m + 2) hc1 (by omega)).mono ?_
    rintro e w2 ⟨x, rfl, hx', hc2, hg2⟩
    have o2 := o1.grown hg2 hne
    have g2 := g1.trans hg2
    obtain ⟨oE, gE⟩ := o2.put (.int .i64 (1)) (.string x)
    have oE := Lib.hid oE
    have gE := Lib.hid gE
    obtain ⟨d0, d1, d2, d3, d4, d5⟩ := o2.facts
    go_wp2
    exact endq rfl _ _ _ w.heap.size (0, 0) (1) x rfl rfl oE.out.heap ⟨1, x, rfl, by omega, by omega, hx', (cur_put hc2 gE.out hlt).more (by omega), grown_new g2 gE.out (Nat.le_refl _)⟩

end Go.Proofs.YtnpiljkchjdpfaaGreatDoor

namespace Go.Proofs.YtnpiljkchjdpfaaGreatDoor
open Go.RowKit

theorem own_grownA {w wr w' : World} {g : Nat} {e : TypeId} {size n : Nat} {v : Value} {xs : List Value} (h : w.grownBy wr (some g)) (ho : wr.ownsRow w.heap.size e size v n xs) (hg : wr.grownBy w' v.ownBlock) : w.grownBy w' (some g) :=
  ⟨hg.os.trans h.os, hg.tape.trans h.tape, hg.output.trans h.output, Nat.le_trans h.size hg.size, fun i hi hne =>
    (hg.block i (Nat.lt_of_lt_of_le hi h.size) (fun e => by have := (ho.lt i e.symm).1; omega)).trans (h.block i hi hne)⟩
theorem below_grownA {w w' : World} {g : Nat} (h : w.grownBy w' (some g)) (hg : g ≤ w.heap.size) : Below g w w' :=
  (Below.refl g w).grown h hg (fun k e => by injection e with e; omega)
theorem Cur.ownA {w w' : World} {g m : Nat} {base : Nat} {e : TypeId} {size n : Nat} {v : Value} {xs : List Value} (h : Cur w g m) (ho : w.ownsRow base e size v n xs) (hg : w.grownBy w' v.ownBlock) (hb : g < base) : Cur w' g m :=
  h.grown hg fun k e => by have := (ho.lt k e).1; omega
def lenV : Value → Nat
  | .slice _ n _ => n
  | _ => 0

set_option maxHeartbeats 1000000 in
theorem atomsD_any (w : World) (g m : Nat) (h : Cur w g m) (hm : m ≤ 10000) :
    Calls Tryz.prog 94 #[.pointer (some ⟨g, 0, none⟩)] w fun e w' => ∃ A' n' c', ∃ l : List At, e = .returned (.slice A' n' c') ∧ l.length = n' ∧ 1 ≤ n' ∧ n' ≤ 4 ∧ (∀ a ∈ l, a.t.size ≤ 30) ∧
      w'.ownsRow w.heap.size 95 2 (.slice A' n' c') n' (atoms l) ∧ Cur w' g (m + 18) ∧ w.grownBy w' (some g) := by
  have hlt := h.lt
  go_enter Tryz.func94, Tryz.ntmps94
  go_wp2_with fail
  refine (pick_any _ g m 4 (h.alloc _) (by omega) (by omega)).mono ?_
  rintro e w1 ⟨y, rfl, y0, y1, hc1, hg1⟩
  have ho1 := own_kept (World.ownsRow_made w #[] 0 (base := w.heap.size) (e := 95) (size := 2) (Nat.le_refl _) (by unfold maxLen; omega) (by simp)) hg1 hlt
  have g1 := (World.grownBy_alloc w (.cells #[] 95) (some g)).trans hg1
  go_wp2
  go_loopw [3, 4] (fun v i wr => ∃ j k : Nat, ∃ l : List At, i = .int .i64 j ∧ j + k ≤ 4 ∧ 1 ≤ j + k ∧ l.length = k ∧ (∀ a ∈ l, a.t.size ≤ 30) ∧ wr.ownsRow w.heap.size 95 2 v k (atoms l) ∧ Cur wr g (m + 2 + 4 * k) ∧ w.grownBy wr (some g)) (fun _ i _ => (intOf i).toNat)
  case atStart => exact ⟨(1 + y).toNat, 0, [], by go_num, by omega, by omega, rfl, by simp, by simpa [atoms, rows] using ho1, hc1, g1⟩
  case round =>
    obtain ⟨j, k, l, rfl, hjk, hj1, hl, hgood, hown, hcr, hgr⟩ := hrel
    by_cases hlt2 : 0 < j
    · go_wp2_with fail
      refine (atom_any wr g _ hcr (by omega)).mono ?_
      rintro e w4 ⟨ka, ta, rfl, hk0, hk1, ht, hc4, hg4⟩
      have ho4 := own_kept hown hg4 hlt
      have g4 := hgr.trans hg4
      have s4 := g4.size
      go_wp2_with (at_builtin; refine wpList_appN #[.int .i64 ka, .string ta] atT (below_grownA g4 (Nat.le_of_lt hlt)) ho4 rfl (atC_one ⟨ka, ta⟩) (Nat.le_of_lt hlt) s4 (by omega) (by decide) rfl (.tmp 13) (.tmp 16) rfl (w4.heap.size) rfl rfl rfl ?_; intro v5 w5 ho5 _ hg5 _)
      go_roundw
      case rel =>
        exact ⟨j - 1, k + 1, l ++ [⟨ka, ta⟩], by go_num, by omega, by omega, by simp [hl], fun z hz => by rcases List.mem_append.1 hz with h | h; exact hgood z h; simp at h; rw [h]; show ta.size ≤ 30; omega, by rw [atoms_snoc]; exact ho5, (hc4.ownA ho4 hg5 hlt).more (by omega), own_grownA g4 ho4 hg5⟩
      case measure => simp [intOf]; omega
    · obtain rfl : j = 0 := by omega
      obtain ⟨A', c', rfl, _⟩ := own_slice hown
      go_wp2
      go_ret
      exact ⟨A', k, c', l, rfl, hl, by omega, by omega, hgood, hown, hcr.more (by omega), hgr⟩

set_option maxHeartbeats 1000000 in
theorem translation_any (w : World) (g m : Nat) (h : Cur w g m) (hm : m ≤ 10000) :
    Calls Tryz.prog 75 #[.pointer (some ⟨g, 0, none⟩)] w fun e w' => ∃ x : ByteArray, e = .returned (.string x) ∧ x.size ≤ 100 ∧ Cur w' g (m + 18) ∧ w.grownBy w' (some g) := by
  have hlt := h.lt
  go_enter Tryz.func75, Tryz.ntmps75
  go_wp2_with fail
  refine (atomsD_any w g m h hm).mono ?_
  rintro e w1 ⟨A1, n1, c1, l, rfl, hl, hn1, hn4, hsz, ho1, hc1, hg1⟩
  have hs2 : ∀ a ∈ l, a.t.size ≤ 1048576 := fun a ha => by have := hsz a ha; omega
  have hL := Lib.hid (l5List_any A1 n1 c1 l w1 hl (by unfold maxLen; omega) hs2 w1.heap.size (Nat.le_refl _) (Row.of_own ho1))
  rcases Bool.eq_false_or_eq_true (trOk l) with q | q
  · obtain ⟨_, _, hgood, h60⟩ := trOk_iff q
    have hlen : (bs (trL l)).size ≤ 100 := by rw [bs_len]; omega
    rw [q] at hL
    clear q h60
    go_wp2_with fail
    refine hL.out.mono ?_
    rintro e w2 ⟨rfl, hb2⟩
    have g2 := hg1.trans (grown_of_below hb2 (some g))
    have hc2 := hc1.below hb2 hc1.lt
    go_wp2_with fail
    refine (l5Text_any A1 n1 c1 l w2 hl (by omega) hgood hs2 w1.heap.size hb2.size ((Row.of_own ho1).below hb2)).mono ?_
    rintro e w3 ⟨rfl, hb3⟩
    go_wp2
    go_ret
    exact ⟨_, rfl, hlen, hc2.below hb3 hc2.lt, g2.trans (grown_of_below hb3 (some g))⟩
  · rw [q] at hL
    clear q
    go_wp2_with fail
    refine hL.out.mono ?_
    rintro e w2 ⟨rfl, hb2⟩
    have g2 := hg1.trans (grown_of_below hb2 (some g))
    go_wp2
    go_ret
    exact ⟨_, rfl, by decide, hc1.below hb2 hc1.lt, g2⟩
end Go.Proofs.YtnpiljkchjdpfaaGreatDoor
