/- Contracts of the reference's draws of atoms: whatever is drawn, they end, and texts are short. Condition: the cursor has not been asked too often. -/
import Derived.Test.YtkgphkpckcfihaaDoorParA
import Derived.Test.YtkgphkpckcfihaaDoorCur
import Derived.Test.YtkgphkpckcfihaaDoorCurSpoil
namespace Go.Proofs.YtkgphkpckcfihaaDoor
open Go.RowKit

theorem endq {fn : Func} (hr : fn.results = #[.cell 2 (23)]) (Q : Ending → World → Prop) (w' : World) (a : Act) (H : Nat) (fr : Nat × Nat) (k : Int) (s : ByteArray) (ha : a.tmps.getD 2 undef = .pointer (some ⟨H, 0, none⟩)) (hd : a.defers = [])
    (hc : w'.heap[H]? = some (.cells #[.int .i64 k, .string s] 23 fr)) (hQ : Q (.returned (.agg #[.int .i64 k, .string s])) w') : bodyPost Tryd.prog fn Q .ret a w' :=
  bodyPost_ret (results_cell_row hr _ _ H 23 #[.int .i64 k, .string s] fr _ ha hc Tryd.underlying23 rfl (by kernel_rfl)) hd hQ
theorem grown_new {w a b : World} {g H : Nat} (h : w.grownBy a (some g)) (k : a.grownBy b (some H)) (hH : w.heap.size ≤ H) : w.grownBy b (some g) :=
  ⟨k.os.trans h.os, k.tape.trans h.tape, k.output.trans h.output, Nat.le_trans h.size k.size, fun i hi hne => (k.block i (Nat.lt_of_lt_of_le hi h.size) (fun e => by injection e with e; omega)).trans (h.block i hi hne)⟩
theorem ownP.grown {w w' : World} {B H g : Nat} {a b : Value} (h : ownP w B H a b) (hg : w.grownBy w' (some g)) (hne : g ≠ H) : ownP w' B H a b := World.ownsRow.kept h hg (Or.inr (by simp [Value.ownBlock]; omega))
theorem ownP.other {w w' : World} {B H G : Nat} {a b : Value} (h : ownP w B H a b) (hg : w.grownBy w' (some G)) (hne : H ≠ G) : ownP w' B H a b := World.ownsRow.kept h hg (Or.inr (by simp [Value.ownBlock]; omega))
theorem ownP.put0 {w : World} {B H : Nat} {a b : Value} (h : ownP w B H a b) (x : Value) : ownP (w.setCell ⟨H, 0, none⟩ x) B H x b ∧ w.grownBy (w.setCell ⟨H, 0, none⟩ x) (some H) := World.ownsRow.stored h 0 x
theorem ownP.put1 {w : World} {B H : Nat} {a b : Value} (h : ownP w B H a b) (x : Value) : ownP (w.setCell ⟨H, 1, none⟩ x) B H a x ∧ w.grownBy (w.setCell ⟨H, 1, none⟩ x) (some H) := World.ownsRow.stored h 1 x
theorem cur_put {w w' : World} {g m H : Nat} (h : Cur w g m) (hg : w.grownBy w' (some H)) (hH : g < H) : Cur w' g m := h.grown hg fun k e => by injection e with e; omega

def wordsW : List ByteArray := [⟨#[99, 97, 116]⟩, ⟨#[104, 97, 112, 112, 121]⟩, ⟨#[109, 97, 107, 101]⟩, ⟨#[114, 117, 110]⟩, ⟨#[116, 114, 121]⟩, ⟨#[98, 111, 120]⟩, ⟨#[100, 105, 101]⟩, ⟨#[97]⟩, ⟨#[71, 111]⟩, ⟨#[52, 50]⟩, ⟨#[100, 111, 110, 39, 116]⟩, ⟨#[98, 101, 101]⟩, ⟨#[115]⟩, ⟨#[105, 110, 103]⟩, ⟨#[99, 104, 117, 114, 99, 104]⟩, ⟨#[112, 108, 97, 121]⟩]
theorem wordText_any (w : World) (g m : Nat) (h : Cur w g m) (hm : m ≤ 1000000) :
    Calls Tryd.prog 62 #[.pointer (some ⟨g, 0, none⟩)] w fun e w' => ∃ x : ByteArray, e = .returned (.string x) ∧ x.size ≤ 10 ∧ Cur w' g (m + 2) ∧ w.grownBy w' (some g) := by
  have hlt := h.lt
  go_enter Tryd.func62, Tryd.ntmps62
  go_wp2_with fail
  refine (of_any _ g m _ 16 16 wordsW _ (h.alloc _) (by omega) rfl (by omega) (by omega) (Row.lit w _ _) (fun b off e => by injection e with e; injection e with e; omega)).mono ?_
  rintro e w1 ⟨x, rfl, hx, hc1, hg1⟩
  have hx' : x.size ≤ 10 := by revert x; decide
  go_wp2
  go_ret
  exact ⟨x, rfl, hx', hc1, (World.grownBy_alloc w _ _).trans hg1⟩

set_option maxHeartbeats 2000000 in
theorem atom_any (w : World) (g m : Nat) (h : Cur w g m) (hm : m ≤ 100000) :
    Calls Tryd.prog 37 #[.pointer (some ⟨g, 0, none⟩)] w fun e w' => ∃ k t, e = .returned (.agg #[.int .i64 k, .string t]) ∧ 0 ≤ k ∧ k ≤ 10 ∧ t.size ≤ 10 ∧ Cur w' g (m + 4) ∧ w.grownBy w' (some g) := by
  have hlt := h.lt
  have o0 := ownP_new w (.int .i64 0) (.string ⟨#[]⟩)
  have hne : g ≠ w.heap.size := by omega
  go_enter Tryd.func37, Tryd.ntmps37
  go_wp2_with fail
  refine (pick_any _ g m 14 (h.alloc _) (by omega) (by omega)).mono ?_
  rintro e w1 ⟨y, rfl, hy0, hy1, hc1, hg1⟩
  have o1 := o0.grown hg1 hne
  have g1 := (World.grownBy_alloc w (.cells #[.int .i64 0, .string ⟨#[]⟩] 23) (some g)).trans hg1
  have s1 : w.heap.size + 1 ≤ w1.heap.size := by simpa using hg1.size
  clear o0 hg1
  have hcs : y = 0 ∨ y = 1 ∨ y = 2 ∨ y = 3 ∨ y = 4 ∨ y = 5 ∨ y = 6 ∨ y = 7 ∨ 8 ≤ y := by omega
  rcases hcs with rfl | rfl | rfl | rfl | rfl | rfl | rfl | rfl | hy8
  · go_wp2_with fail
    refine (of_any _ g (m + 2) _ 6 6 [⟨#[105, 110, 103]⟩, ⟨#[115]⟩, ⟨#[101, 100]⟩, ⟨#[110, 101, 115, 115]⟩, ⟨#[101, 114]⟩, ⟨#[108, 121]⟩] _ (hc1.alloc _) (by omega) rfl (by omega) (by omega) (Row.lit w1 _ _) (fun b off e => by injection e with e; injection e with e; omega)).mono ?_
    rintro e w2 ⟨x, rfl, hx, hc2, hg2⟩
    have hx' : x.size ≤ 10 := by revert x; decide
    have o2 := (o1.alloc _).grown hg2 hne
    have g2 := (g1.trans (World.grownBy_alloc w1 _ _)).trans hg2
    clear hx
    obtain ⟨oE, gE⟩ := o2.put (.int .i64 (2)) (.string x)
    have oE := Lib.hid oE
    have gE := Lib.hid gE
    obtain ⟨d0, d1, d2, d3, d4, d5⟩ := o2.facts
    go_wp2
    exact endq rfl _ _ _ w.heap.size (0, 0) (2) x rfl rfl oE.out.heap ⟨2, x, rfl, by omega, by omega, hx', (cur_put hc2 gE.out hlt).more (by omega), grown_new g2 gE.out (Nat.le_refl _)⟩
  · go_wp2_with fail
    refine (of_any _ g (m + 2) _ 6 6 [⟨#[105, 110, 103]⟩, ⟨#[115]⟩, ⟨#[101, 100]⟩, ⟨#[110, 101, 115, 115]⟩, ⟨#[101, 114]⟩, ⟨#[108, 121]⟩] _ (hc1.alloc _) (by omega) rfl (by omega) (by omega) (Row.lit w1 _ _) (fun b off e => by injection e with e; injection e with e; omega)).mono ?_
    rintro e w2 ⟨x, rfl, hx, hc2, hg2⟩
    have hx' : x.size ≤ 10 := by revert x; decide
    have o2 := (o1.alloc _).grown hg2 hne
    have g2 := (g1.trans (World.grownBy_alloc w1 _ _)).trans hg2
    clear hx
    obtain ⟨oE, gE⟩ := o2.put (.int .i64 (2)) (.string x)
    have oE := Lib.hid oE
    have gE := Lib.hid gE
    obtain ⟨d0, d1, d2, d3, d4, d5⟩ := o2.facts
    go_wp2
    exact endq rfl _ _ _ w.heap.size (0, 0) (2) x rfl rfl oE.out.heap ⟨2, x, rfl, by omega, by omega, hx', (cur_put hc2 gE.out hlt).more (by omega), grown_new g2 gE.out (Nat.le_refl _)⟩
  · go_wp2_with fail
    refine (of_any _ g (m + 2) _ 3 3 [⟨#[117, 110]⟩, ⟨#[114, 101]⟩, ⟨#[40]⟩] _ (hc1.alloc _) (by omega) rfl (by omega) (by omega) (Row.lit w1 _ _) (fun b off e => by injection e with e; injection e with e; omega)).mono ?_
    rintro e w2 ⟨x, rfl, hx, hc2, hg2⟩
    have hx' : x.size ≤ 10 := by revert x; decide
    have o2 := (o1.alloc _).grown hg2 hne
    have g2 := (g1.trans (World.grownBy_alloc w1 _ _)).trans hg2
    clear hx
    obtain ⟨oE, gE⟩ := o2.put (.int .i64 (3)) (.string x)
    have oE := Lib.hid oE
    have gE := Lib.hid gE
    obtain ⟨d0, d1, d2, d3, d4, d5⟩ := o2.facts
    go_wp2
    exact endq rfl _ _ _ w.heap.size (0, 0) (3) x rfl rfl oE.out.heap ⟨3, x, rfl, by omega, by omega, hx', (cur_put hc2 gE.out hlt).more (by omega), grown_new g2 gE.out (Nat.le_refl _)⟩
  · go_wp2_with fail
    refine (of_any _ g (m + 2) _ 3 3 [⟨#[45]⟩, ⟨#[47]⟩, ⟨#[39]⟩] _ (hc1.alloc _) (by omega) rfl (by omega) (by omega) (Row.lit w1 _ _) (fun b off e => by injection e with e; injection e with e; omega)).mono ?_
    rintro e w2 ⟨x, rfl, hx, hc2, hg2⟩
    have hx' : x.size ≤ 10 := by revert x; decide
    have o2 := (o1.alloc _).grown hg2 hne
    have g2 := (g1.trans (World.grownBy_alloc w1 _ _)).trans hg2
    clear hx
    obtain ⟨oE, gE⟩ := o2.put (.int .i64 (4)) (.string x)
    have oE := Lib.hid oE
    have gE := Lib.hid gE
    obtain ⟨d0, d1, d2, d3, d4, d5⟩ := o2.facts
    go_wp2
    exact endq rfl _ _ _ w.heap.size (0, 0) (4) x rfl rfl oE.out.heap ⟨4, x, rfl, by omega, by omega, hx', (cur_put hc2 gE.out hlt).more (by omega), grown_new g2 gE.out (Nat.le_refl _)⟩
  · go_wp2_with fail
    refine (of_any _ g (m + 2) _ 3 3 [⟨#[97]⟩, ⟨#[98]⟩, ⟨#[55]⟩] _ (hc1.alloc _) (by omega) rfl (by omega) (by omega) (Row.lit w1 _ _) (fun b off e => by injection e with e; injection e with e; omega)).mono ?_
    rintro e w2 ⟨x, rfl, hx, hc2, hg2⟩
    have hx' : x.size ≤ 10 := by revert x; decide
    have o2 := (o1.alloc _).grown hg2 hne
    have g2 := (g1.trans (World.grownBy_alloc w1 _ _)).trans hg2
    clear hx
    obtain ⟨oE, gE⟩ := o2.put (.int .i64 (5)) (.string x)
    have oE := Lib.hid oE
    have gE := Lib.hid gE
    obtain ⟨d0, d1, d2, d3, d4, d5⟩ := o2.facts
    go_wp2
    exact endq rfl _ _ _ w.heap.size (0, 0) (5) x rfl rfl oE.out.heap ⟨5, x, rfl, by omega, by omega, hx', (cur_put hc2 gE.out hlt).more (by omega), grown_new g2 gE.out (Nat.le_refl _)⟩
  · go_wp2_with fail
    refine (of_any _ g (m + 2) _ 3 3 [⟨#[46]⟩, ⟨#[33]⟩, ⟨#[63]⟩] _ (hc1.alloc _) (by omega) rfl (by omega) (by omega) (Row.lit w1 _ _) (fun b off e => by injection e with e; injection e with e; omega)).mono ?_
    rintro e w2 ⟨x, rfl, hx, hc2, hg2⟩
    have hx' : x.size ≤ 10 := by revert x; decide
    have o2 := (o1.alloc _).grown hg2 hne
    have g2 := (g1.trans (World.grownBy_alloc w1 _ _)).trans hg2
    clear hx
    obtain ⟨oE, gE⟩ := o2.put (.int .i64 (6)) (.string x)
    have oE := Lib.hid oE
    have gE := Lib.hid gE
    obtain ⟨d0, d1, d2, d3, d4, d5⟩ := o2.facts
    go_wp2
    exact endq rfl _ _ _ w.heap.size (0, 0) (6) x rfl rfl oE.out.heap ⟨6, x, rfl, by omega, by omega, hx', (cur_put hc2 gE.out hlt).more (by omega), grown_new g2 gE.out (Nat.le_refl _)⟩
  · go_wp2_with fail
    refine (of_any _ g (m + 2) _ 3 3 [⟨#[44]⟩, ⟨#[59]⟩, ⟨#[58]⟩] _ (hc1.alloc _) (by omega) rfl (by omega) (by omega) (Row.lit w1 _ _) (fun b off e => by injection e with e; injection e with e; omega)).mono ?_
    rintro e w2 ⟨x, rfl, hx, hc2, hg2⟩
    have hx' : x.size ≤ 10 := by revert x; decide
    have o2 := (o1.alloc _).grown hg2 hne
    have g2 := (g1.trans (World.grownBy_alloc w1 _ _)).trans hg2
    clear hx
    obtain ⟨oE, gE⟩ := o2.put (.int .i64 (7)) (.string x)
    have oE := Lib.hid oE
    have gE := Lib.hid gE
    obtain ⟨d0, d1, d2, d3, d4, d5⟩ := o2.facts
    go_wp2
    exact endq rfl _ _ _ w.heap.size (0, 0) (7) x rfl rfl oE.out.heap ⟨7, x, rfl, by omega, by omega, hx', (cur_put hc2 gE.out hlt).more (by omega), grown_new g2 gE.out (Nat.le_refl _)⟩
  · go_wp2_with fail
    refine (pick_any _ g (m + 2) 3 hc1 (by omega) (by omega)).mono ?_
    rintro e w2 ⟨z, rfl, hz0, hz1, hc2, hg2⟩
    have o2 := o1.grown hg2 hne
    have g2 := g1.trans hg2
    obtain ⟨oE, gE⟩ := o2.put (.int .i64 (8 + z)) (.string ⟨#[]⟩)
    have oE := Lib.hid oE
    have gE := Lib.hid gE
    obtain ⟨d0, d1, d2, d3, d4, d5⟩ := o2.facts
    go_wp2
    exact endq rfl _ _ _ w.heap.size (0, 0) (8 + z) ⟨#[]⟩ rfl rfl oE.out.heap ⟨8 + z, ⟨#[]⟩, rfl, by omega, by omega, by decide, (cur_put hc2 gE.out hlt).more (by omega), grown_new g2 gE.out (Nat.le_refl _)⟩
  · have hf : ∀ q : Int, q < 8 → (y == q) = false := fun q hq => by simp; omega
    have hf0 := hf 0 (by omega)
    have hf1 := hf 1 (by omega)
    have hf2 := hf 2 (by omega)
    have hf3 := hf 3 (by omega)
    have hf4 := hf 4 (by omega)
    have hf5 := hf 5 (by omega)
    have hf6 := hf 6 (by omega)
    have hf7 := hf 7 (by omega)
    clear hf
    go_wp2_with fail
    refine (wordText_any _ g (m + 2) hc1 (by omega)).mono ?_
    rintro e w2 ⟨x, rfl, hx', hc2, hg2⟩
    have o2 := o1.grown hg2 hne
    have g2 := g1.trans hg2
    obtain ⟨oE, gE⟩ := o2.put (.int .i64 (1)) (.string x)
    have oE := Lib.hid oE
    have gE := Lib.hid gE
    obtain ⟨d0, d1, d2, d3, d4, d5⟩ := o2.facts
    go_wp2
    exact endq rfl _ _ _ w.heap.size (0, 0) (1) x rfl rfl oE.out.heap ⟨1, x, rfl, by omega, by omega, hx', (cur_put hc2 gE.out hlt).more (by omega), grown_new g2 gE.out (Nat.le_refl _)⟩

set_option maxHeartbeats 2000000 in
theorem anyAtom_any (w : World) (g m : Nat) (h : Cur w g m) (hm : m ≤ 100000) :
    Calls Tryd.prog 58 #[.pointer (some ⟨g, 0, none⟩)] w fun e w' => ∃ k t, e = .returned (.agg #[.int .i64 k, .string t]) ∧ -1 ≤ k ∧ k ≤ 20 ∧ t.size ≤ 30 ∧ Cur w' g (m + 8) ∧ w.grownBy w' (some g) := by
  have hlt := h.lt
  have o0 := ownP_new w (.int .i64 0) (.string ⟨#[]⟩)
  have hne : g ≠ w.heap.size := by omega
  go_enter Tryd.func58, Tryd.ntmps58
  go_wp2_with fail
  refine (atom_any _ g m (h.alloc _) (by omega)).mono ?_
  rintro e w1 ⟨k, t, rfl, hk0, hk1, ht, hc1, hg1⟩
  have o1 := o0.grown hg1 hne
  have g1 := (World.grownBy_alloc w (.cells #[.int .i64 0, .string ⟨#[]⟩] 23) (some g)).trans hg1
  have s1 : w.heap.size + 1 ≤ w1.heap.size := by simpa using hg1.size
  have oA := ownP_new w1 (.int .i64 k) (.string t)
  have hneA : g ≠ w1.heap.size := by omega
  have g1 := g1.trans (World.grownBy_alloc w1 (.cells #[.int .i64 k, .string t] 23) (some g))
  clear o0 hg1
  go_wp2_with fail
  refine (pick_any _ g (m + 4) 16 (hc1.alloc _) (by omega) (by omega)).mono ?_
  rintro e w2 ⟨y, rfl, hy0, hy1, hc2, hg2⟩
  have o2 := (o1.alloc _).grown hg2 hne
  have oA2 := oA.grown hg2 hneA
  have g2 := g1.trans hg2
  have s2 : w1.heap.size + 1 ≤ w2.heap.size := by simpa using hg2.size
  clear o1 oA g1 hg2
  have hcs : y = 0 ∨ y = 1 ∨ 2 ≤ y := by omega
  rcases hcs with rfl | rfl | hy2
  · go_wp2_with fail
    refine (pick_any _ g (m + 6) 13 hc2 (by omega) (by omega)).mono ?_
    rintro e w3 ⟨z, rfl, hz0, hz1, hc3, hg3⟩
    have o3 := o2.grown hg3 hne
    have oA3 := oA2.grown hg3 hneA
    have g3 := g2.trans hg3
    clear o2 oA2
    obtain ⟨oB, gB⟩ := oA3.put0 (.int .i64 (z - 1))
    have o4 := o3.other gB (by omega)
    have g4 := grown_new g3 gB (by omega)
    have hc4 := cur_put hc3 gB (by omega)
    obtain ⟨a0, a1, a2, a3, a4, a5⟩ := oA3.facts
    obtain ⟨b0, b1, b2, b3, b4, b5⟩ := oB.facts
    obtain ⟨oE, gE⟩ := o4.put (.int .i64 (z - 1)) (.string t)
    have oE := Lib.hid oE
    have gE := Lib.hid gE
    obtain ⟨d0, d1, d2, d3, d4, d5⟩ := o4.facts
    go_wp2
    exact endq rfl _ _ _ w.heap.size (0, 0) (z - 1) t rfl rfl oE.out.heap ⟨z - 1, t, rfl, by omega, by omega, by omega, (cur_put hc4 gE.out hlt).more (by omega), grown_new g4 gE.out (Nat.le_refl _)⟩
  · go_wp2_with fail
    refine (of_any _ g (m + 6) _ 9 9 [⟨#[]⟩, ⟨#[97, 32, 98]⟩, ⟨#[123, 97, 125]⟩, ⟨#[120, 94]⟩, ⟨#[38]⟩, ⟨#[97, 62, 98]⟩, ⟨#[97, 98, 99, 100, 101, 102, 103, 104, 105, 106, 107, 108, 109, 110, 111, 112, 113, 114, 115, 116, 117]⟩, ⟨#[97, 35]⟩, ⟨#[97, 98, 99, 100, 101, 102, 103, 104, 105, 106, 107, 108, 109, 110, 111, 112, 113, 114, 115, 116]⟩] _ (hc2.alloc _) (by omega) rfl (by omega) (by omega) (Row.lit w2 _ _) (fun b off e => by injection e with e; injection e with e; omega)).mono ?_
    rintro e w3 ⟨x, rfl, hx, hc3, hg3⟩
    have hx' : x.size ≤ 30 := by revert x; decide
    clear hx
    have o3 := (o2.alloc _).grown hg3 hne
    have oA3 := (oA2.alloc _).grown hg3 hneA
    have g3 := (g2.trans (World.grownBy_alloc w2 _ _)).trans hg3
    clear o2 oA2
    obtain ⟨oB, gB⟩ := oA3.put1 (.string x)
    have o4 := o3.other gB (by omega)
    have g4 := grown_new g3 gB (by omega)
    have hc4 := cur_put hc3 gB (by omega)
    obtain ⟨a0, a1, a2, a3, a4, a5⟩ := oA3.facts
    obtain ⟨b0, b1, b2, b3, b4, b5⟩ := oB.facts
    obtain ⟨oE, gE⟩ := o4.put (.int .i64 k) (.string x)
    have oE := Lib.hid oE
    have gE := Lib.hid gE
    obtain ⟨d0, d1, d2, d3, d4, d5⟩ := o4.facts
    go_wp2
    exact endq rfl _ _ _ w.heap.size (0, 0) k x rfl rfl oE.out.heap ⟨k, x, rfl, by omega, by omega, hx', (cur_put hc4 gE.out hlt).more (by omega), grown_new g4 gE.out (Nat.le_refl _)⟩
  · have hf0 : (y == 0) = false := by simp; omega
    have hf1 : (y == 1) = false := by simp; omega
    obtain ⟨a0, a1, a2, a3, a4, a5⟩ := oA2.facts
    obtain ⟨oE, gE⟩ := o2.put (.int .i64 k) (.string t)
    have oE := Lib.hid oE
    have gE := Lib.hid gE
    obtain ⟨d0, d1, d2, d3, d4, d5⟩ := o2.facts
    go_wp2
    exact endq rfl _ _ _ w.heap.size (0, 0) k t rfl rfl oE.out.heap ⟨k, t, rfl, by omega, by omega, by omega, (cur_put hc2 gE.out hlt).more (by omega), grown_new g2 gE.out (Nat.le_refl _)⟩
theorem drawIsValidAtom_any (A : Option Addr) (n c : Nat) (w : World) (h : Code w A n) :
    Calls Tryd.prog 32 #[.slice A n c] w fun e w' => ∃ k t, e = .returned (.agg #[.int .i64 k, .string t]) ∧ t.size ≤ 30 ∧ Below w.heap.size w w' := by
  have o0 := ownP_new w (.int .i64 0) (.string ⟨#[]⟩)
  have b0 := (Below.refl w.heap.size w).alloc (Nat.le_refl _) (.cells #[.int .i64 0, .string ⟨#[]⟩] 23)
  have hc0 := (h.below b0).cur c
  have hsz : (w.alloc (.cells #[.int .i64 0, .string ⟨#[]⟩] 23)).heap.size = w.heap.size + 1 := by simp
  rw [hsz] at hc0
  have hc := Lib.hid hc0
  have o1 := o0.alloc (.cells #[.slice A n c, .int .i64 0, .int .u64 0] 54)
  have b1 := b0.alloc b0.size (.cells #[.slice A n c, .int .i64 0, .int .u64 0] 54)
  clear hsz hc0
  go_enter Tryd.func32, Tryd.ntmps32
  go_wp2_with fail
  refine (anyAtom_any _ (w.heap.size + 1) 0 hc.out (by omega)).mono ?_
  rintro e w1 ⟨k, t, rfl, hk0, hk1, ht, hc1, hg1⟩
  have o2 := o1.grown hg1 (by omega)
  have b2 := b1.grown hg1 b1.size (fun k e => by injection e with e; omega)
  obtain ⟨oE, gE⟩ := o2.put (.int .i64 k) (.string t)
  have oE := Lib.hid oE
  have gE := Lib.hid gE
  obtain ⟨d0, d1, d2, d3, d4, d5⟩ := o2.facts
  go_wp2
  exact endq rfl _ _ _ w.heap.size (0, 0) k t rfl rfl oE.out.heap ⟨k, t, rfl, ht, b2.grown gE.out b2.size (fun q e => by injection e with e; omega)⟩
theorem drawFormatAtom_any (A : Option Addr) (n c : Nat) (w : World) (h : Code w A n) :
    Calls Tryd.prog 11 #[.slice A n c] w fun e w' => ∃ k t, e = .returned (.agg #[.int .i64 k, .string t]) ∧ t.size ≤ 30 ∧ Below w.heap.size w w' := by
  have o0 := ownP_new w (.int .i64 0) (.string ⟨#[]⟩)
  have b0 := (Below.refl w.heap.size w).alloc (Nat.le_refl _) (.cells #[.int .i64 0, .string ⟨#[]⟩] 23)
  have hh := Lib.hid (h.below b0)
  go_enter Tryd.func11, Tryd.ntmps11
  go_wp2_with fail
  refine (drawIsValidAtom_any A n c _ hh.out).mono ?_
  rintro e w1 ⟨k, t, rfl, ht, hb1⟩
  have o2 := o0.below hb1 (Nat.le_refl _)
  have b2 := b0.trans (hb1.mono (by simp))
  obtain ⟨oE, gE⟩ := o2.put (.int .i64 k) (.string t)
  have oE := Lib.hid oE
  have gE := Lib.hid gE
  obtain ⟨d0, d1, d2, d3, d4, d5⟩ := o2.facts
  go_wp2
  exact endq rfl _ _ _ w.heap.size (0, 0) k t rfl rfl oE.out.heap ⟨k, t, rfl, ht, b2.grown gE.out b2.size (fun q e => by injection e with e; omega)⟩
set_option maxHeartbeats 1000000 in
theorem drawParseAtom_any (A : Option Addr) (n c : Nat) (w : World) (h : Code w A n) :
    Calls Tryd.prog 15 #[.slice A n c] w fun e w' => ∃ x : ByteArray, e = .returned (.string x) ∧ x.size ≤ 1000 ∧ Below w.heap.size w w' := by
  have hc := Lib.hid (h.cur c)
  go_enter Tryd.func15, Tryd.ntmps15
  go_wp2_with fail
  refine (atom_any _ w.heap.size 0 hc.out (by omega)).mono ?_
  rintro e w1 ⟨k, t, rfl, hk0, hk1, ht, hc1, hg1⟩
  have b1 := below_new hg1
  go_wp2_with fail
  refine (l5Format_any k t w1 (by omega)).mono ?_
  rintro e w2 ⟨rfl, hb2⟩
  have hlt := hc1.lt
  have hc2 := hc1.below hb2 hlt
  have b2 := b1.trans (hb2.mono b1.size)
  have hfl := fmtA_len k t.data.toList
  have hts : (bs (fmtA k t.data.toList)).size ≤ 20 := by rw [bs_len]; have := bs_size' t; omega
  clear hfl
  generalize bs (fmtA k t.data.toList) = t at hts
  go_wp2_with fail
  refine (one_any w2 w.heap.size _ 3 hc2 (by omega) (by omega)).mono ?_
  rintro e w3 ⟨b, rfl, hc3, hg3⟩
  have b3 := b2.grown hg3 b2.size (fun k e => by injection e with e; omega)
  cases b
  · go_wp2_with fail
    refine (one_any w3 w.heap.size _ 8 hc3 (by omega) (by omega)).mono ?_
    rintro e w4 ⟨b, rfl, hc4, hg4⟩
    have b4 := b3.grown hg4 b3.size (fun k e => by injection e with e; omega)
    have hlt4 := hc4.lt
    cases b
    · go_wp2
      go_ret
      exact ⟨_, rfl, by omega, b4⟩
    · go_wp2_with fail
      refine (of_any _ w.heap.size _ _ 13 13 [⟨#[]⟩, ⟨#[123, 125]⟩, ⟨#[123]⟩, ⟨#[123, 94, 125]⟩, ⟨#[123, 94, 94, 125]⟩, ⟨#[123, 94, 94, 94, 125]⟩, ⟨#[123, 38, 125]⟩, ⟨#[123, 97, 125]⟩, ⟨#[123, 94, 97]⟩, ⟨#[123, 97, 94]⟩, ⟨#[123, 45, 124]⟩, ⟨#[123, 124, 125]⟩, ⟨#[123, 94, 45, 124, 125]⟩] _ (hc4.alloc _) (by omega) rfl (by omega) (by omega) (Row.lit w4 _ _) (fun b off e => by injection e with e; injection e with e; omega)).mono ?_
      rintro e w5 ⟨x, rfl, hx, hc5, hg5⟩
      have hx' : x.size ≤ 1000 := by revert x; decide
      go_wp2
      go_ret
      exact ⟨x, rfl, hx', (b4.alloc b4.size _).grown hg5 (by have := b4.size; simp; omega) (fun k e => by injection e with e; omega)⟩
  · go_wp2_with fail
    refine (spoilt_any w3 w.heap.size _ t ⟨#[123, 125, 94, 38, 45, 124, 46, 62, 32]⟩ hc3 (by omega) (by omega) (by decide) (by decide)).mono ?_
    rintro e w4 ⟨o, rfl, ho, hc4, hg4⟩
    have b4 := b3.grown hg4 b3.size (fun k e => by injection e with e; omega)
    go_wp2
    go_ret
    exact ⟨_, rfl, by omega, b4⟩
end Go.Proofs.YtkgphkpckcfihaaDoor
