/- Contracts of both BuildTrie. Conditions: at most 2^20 values; the cell of internal/bytealg.MaxLen is an int. | Contracts of the laws' helpers on tries: eq, mark, held. Condition: at most 2^20 values. | The walk of the law on BuildTrie. Condition: the cell of internal/bytealg.MaxLen is an int. -/
import Derived.Test.YtnpiljkchjdpfaaDoorTrieU
import Derived.Test.YtnpiljkchjdpfaaDoorDictV
import Derived.Test.YtnpiljkchjdpfaaDoorGT
import Derived.Test.YtnpiljkchjdpfaaDoorGA
import Derived.Test.YtnpiljkchjdpfaaDoorDictM
namespace Go.Proofs.YtnpiljkchjdpfaaDoor
open Go.RowKit

set_option maxHeartbeats 2000000 in
theorem trieOf_any (A : Option Addr) (n c : Nat) (l : List En) (w : World) (hn : l.length = n) (hnc : n ≤ c) (hd : dictB (vals l) = true) (B : Nat) (hB : B ≤ w.heap.size) (hr : DRow w B A l) :
    Calls Tryd.prog 54 #[.agg #[.slice A n c]] w fun e w' => ∃ (A' : Option Addr) (c' : Nat) (S : List Tn), e = .returned (.agg #[.slice A' S.length c']) ∧ tvals S = trieL (vals l) ∧ OwnAll w' w.heap.size (tRows 94 3 (.slice A' S.length c') S) ∧ Below w.heap.size w w' := by
  have h40 : n ≤ 40 := by have := (dictB_iff hd).1; rw [vals_len] at this; omega
  obtain ⟨oD, oR, oG, b3⟩ := three_new 38 55 91 w #[.slice A n c] #[.slice none 0 0] #[.slice none 0 0]
  have hxs : (((w.alloc (.cells #[.slice A n c] 38)).alloc (.cells #[.slice none 0 0] 55)).alloc (.cells #[.slice none 0 0] 91)).heap.size = w.heap.size + 3 := by simp
  obtain ⟨x, hx⟩ : ∃ x, x = (((w.alloc (.cells #[.slice A n c] 38)).alloc (.cells #[.slice none 0 0] 55)).alloc (.cells #[.slice none 0 0] 91)) := ⟨_, rfl⟩
  rw [← hx] at oD oR oG b3 hxs
  have hnil : OwnAll x w.heap.size [nRow 94 (.slice none 0 0) 0 []] := ⟨fun r hr => by rw [List.mem_singleton.1 hr]; exact ⟨rfl, Or.inl ⟨rfl, rfl⟩⟩, List.pairwise_singleton _ _⟩
  have hP := Lib.hid (plant_any 7 0 A n c l (w.heap.size + 1 + 1) 0 w.heap.size B w.heap.size (.slice none 0 0) [] x (by omega) rfl hn hnc h40 (dict_tri hd) (hr.below_le b3 hB) hB hB b3.size hnil (oG.base (by omega)) (fun q e => by cases e) (by omega))
  rw [hx] at hP
  go_enter Tryd.func54, Tryd.ntmps54
  go_wp2_with fail
  refine hP.out.mono ?_
  rintro e w4 ⟨rfl, v4, S, hS, own4, ge4, hG4, vb4, ch4⟩
  rw [← hx] at ge4 vb4 ch4
  have hv4 : w4.ownsRow w.heap.size 94 4 v4 (0 + S.length) ([] ++ tns S) := own4.own (nRow 94 v4 (0 + S.length) ([] ++ tns S)) (List.mem_cons_self ..)
  obtain ⟨A4, c4, rfl, _⟩ := own_slice hv4
  rw [Nat.zero_add] at own4 hG4 vb4
  rw [List.nil_append] at own4
  have hR4 := ch4.ownC oR (fun f => by rcases f with f | f; omega; cases f)
  have cG := hG4.cell (j := 0) rfl
  have fR := hR4.frozen 0
  have cR := hR4.cell (j := 0) rfl
  obtain ⟨hR5, g5⟩ := hR4.set 0 (.slice A4 S.length c4)
  have own5 := own4.chg (Chg.of_set g5) (fun r hr q hq f => by
    have f2 : q = w.heap.size + 1 := f
    rcases List.mem_cons.1 hr with rfl | hr
    · rcases (vb4 q hq).2 with h9 | h9
      · cases h9
      · omega
    · have := ge4 r hr q hq
      omega)
  have b4 := b3.trans (ch4.below (B := w.heap.size) (fun k f => by rcases f with f | f; omega; cases f) b3.size)
  have b5 := b4.grown g5 b4.size (fun q e => by have := Option.some.inj e; omega)
  have E := Lib.hid hR5
  have X := Lib.hid (And.intro own5 b5)
  clear hR4 hR5 g5 own4 own5 b4 b5 ge4 vb4 ch4 hv4 oD oR oG b3 hxs hnil hx
  go_wp2
  exact endC rfl _ _ _ w.heap.size (w.heap.size + 1) _ rfl rfl E.out Tryd.underlying55 rfl (by kernel_rfl) ⟨A4, c4, S, rfl, hS, X.out.1, X.out.2⟩
set_option maxHeartbeats 2000000 in
theorem l7Build_any (A : Option Addr) (n c : Nat) (l : List En) (w : World) (hn : l.length = n) (_hnc : n ≤ c) (hd : dictB (vals l) = true) (B : Nat) (hB : B ≤ w.heap.size) (hr : DRow w B A l) :
    Calls Tryd.prog 53 #[.agg #[.slice A n c]] w fun e w' => ∃ (A' : Option Addr) (c' : Nat) (S : List Tn), e = .returned (.agg #[.slice A' S.length c']) ∧ tvals S = trieL (vals l) ∧ OwnAll w' w.heap.size (tRows 94 3 (.slice A' S.length c') S) ∧ Below w.heap.size w w' := by
  have h40 : n ≤ 40 := by have := (dictB_iff hd).1; rw [vals_len] at this; omega
  obtain ⟨oD, oR, oG, b3⟩ := three_new 38 55 55 w #[.slice A n c] #[.slice none 0 0] #[.slice none 0 0]
  have hxs : (((w.alloc (.cells #[.slice A n c] 38)).alloc (.cells #[.slice none 0 0] 55)).alloc (.cells #[.slice none 0 0] 55)).heap.size = w.heap.size + 3 := by simp
  obtain ⟨x, hx⟩ : ∃ x, x = (((w.alloc (.cells #[.slice A n c] 38)).alloc (.cells #[.slice none 0 0] 55)).alloc (.cells #[.slice none 0 0] 55)) := ⟨_, rfl⟩
  rw [← hx] at oD oR oG b3 hxs
  have hnil : OwnAll x w.heap.size [nRow 94 (.slice none 0 0) 0 []] := ⟨fun r hr => by rw [List.mem_singleton.1 hr]; exact ⟨rfl, Or.inl ⟨rfl, rfl⟩⟩, List.pairwise_singleton _ _⟩
  have hsg : seg l 0 n = l := by rw [← hn]; exact seg_all l
  have hP := Lib.hid (l7Add_any 7 0 A n c l 0 n (w.heap.size + 1 + 1) 0 w.heap.size B w.heap.size (.slice none 0 0) [] x (by omega) rfl hn h40 (Nat.zero_le _) (Nat.le_refl _) (by rw [hsg]; exact dict_tri hd) (hr.below_le b3 hB) hB hB b3.size hnil (oG.base (by omega)) (fun q e => by cases e) (by omega))
  rw [hsg] at hP
  rw [hx] at hP
  go_enter Tryd.func53, Tryd.ntmps53
  go_wp2_with fail
  refine hP.out.mono ?_
  rintro e w4 ⟨rfl, v4, S, hS, own4, ge4, hG4, vb4, ch4⟩
  rw [← hx] at ge4 vb4 ch4
  have hv4 : w4.ownsRow w.heap.size 94 4 v4 (0 + S.length) ([] ++ tns S) := own4.own (nRow 94 v4 (0 + S.length) ([] ++ tns S)) (List.mem_cons_self ..)
  obtain ⟨A4, c4, rfl, _⟩ := own_slice hv4
  rw [Nat.zero_add] at own4 hG4 vb4
  rw [List.nil_append] at own4
  have hR4 := ch4.ownC oR (fun f => by rcases f with f | f; omega; cases f)
  have cG := hG4.cell (j := 0) rfl
  have fR := hR4.frozen 0
  have cR := hR4.cell (j := 0) rfl
  obtain ⟨hR5, g5⟩ := hR4.set 0 (.slice A4 S.length c4)
  have own5 := own4.chg (Chg.of_set g5) (fun r hr q hq f => by
    have f2 : q = w.heap.size + 1 := f
    rcases List.mem_cons.1 hr with rfl | hr
    · rcases (vb4 q hq).2 with h9 | h9
      · cases h9
      · omega
    · have := ge4 r hr q hq
      omega)
  have b4 := b3.trans (ch4.below (B := w.heap.size) (fun k f => by rcases f with f | f; omega; cases f) b3.size)
  have b5 := b4.grown g5 b4.size (fun q e => by have := Option.some.inj e; omega)
  have E := Lib.hid hR5
  have X := Lib.hid (And.intro own5 b5)
  clear hR4 hR5 g5 own4 own5 b4 b5 ge4 vb4 ch4 hv4 oD oR oG b3 hxs hnil hx
  go_wp2
  exact endC rfl _ _ _ w.heap.size (w.heap.size + 1) _ rfl rfl E.out Tryd.underlying55 rfl (by kernel_rfl) ⟨A4, c4, S, rfl, hS, X.out.1, X.out.2⟩
set_option maxHeartbeats 2000000 in
theorem implBuild_any (A : Option Addr) (n c : Nat) (l : List En) (w : World) (m : Int) (hmax : w.cell? ⟨0, 0, none⟩ = some (.int .i64 m)) (hn : l.length = n) (hle : n ≤ 1048576) (hnc : n ≤ c) (hs : ∀ e ∈ l, e.o.length ≤ 1048576 ∧ e.t.size ≤ 1048576) (B : Nat) (hB : B ≤ w.heap.size) (hr : DRow w B A l) :
    Calls Tryd.prog 30 #[.agg #[.slice A n c]] w fun e w' => ∃ (A' : Option Addr) (c' : Nat) (S : List Tn), e = .returned (.tuple #[.agg #[.slice A' (btR (vals l)).length c'], .bool (dictB (vals l))]) ∧ tvals S = btR (vals l) ∧ OwnAll w' w.heap.size (tRows 94 3 (.slice A' (btR (vals l)).length c') S) ∧ Below w.heap.size w w' := by
  have hlt0 : 0 < w.heap.size := World.block_lt_of_cell? w _ hmax
  obtain ⟨oD, oR, b2⟩ := two_new 38 55 w #[.slice A n c] #[.slice none 0 0]
  have hxs : ((w.alloc (.cells #[.slice A n c] 38)).alloc (.cells #[.slice none 0 0] 55)).heap.size = w.heap.size + 2 := by simp
  obtain ⟨x, hx⟩ : ∃ x, x = ((w.alloc (.cells #[.slice A n c] 38)).alloc (.cells #[.slice none 0 0] 55)) := ⟨_, rfl⟩
  rw [← hx] at oD oR b2 hxs
  have hV := Lib.hid (implValidDict_any A n c l x m ((b2.cell (p := ⟨0, 0, none⟩) hlt0).trans hmax) hn hle hs B (by omega) (hr.below_le b2 hB))
  have hT := Lib.hid (fun W (hW : Below x.heap.size x W) (hd : dictB (vals l) = true) => trieOf_any A n c l W hn hnc hd B (by have := hW.size; omega) ((hr.below_le b2 hB).below_le hW (by omega)))
  have hY := Lib.hid (@btR_yes (vals l))
  have hN := Lib.hid (@btR_no (vals l))
  generalize dictB (vals l) = ok at *
  rw [hx] at hV
  go_enter Tryd.func30, Tryd.ntmps30
  go_wp2_with fail
  refine hV.out.mono ?_
  rintro e w3 ⟨rfl, hb3⟩
  rw [← hx] at hb3
  clear hV hx
  have hR3 := oR.below hb3 (Nat.le_refl _)
  have hD3 := oD.below hb3 (Nat.le_refl _)
  have b3 := b2.trans (hb3.mono b2.size)
  have s3 := hb3.size
  cases ok
  · replace hN := Lib.hid (hN.out (by simp))
    have fR := hR3.frozen 0
    have cR := hR3.cell (j := 0) rfl
    obtain ⟨hR5, g5⟩ := hR3.set 0 (.slice none 0 0)
    have b5 := b3.grown g5 b3.size (fun q e => by have := Option.some.inj e; omega)
    have E := Lib.hid hR5
    have X := Lib.hid b5
    clear hR3 hR5 g5 b5 hT hY
    go_wp2
    exact endCb rfl _ _ _ w.heap.size (w.heap.size + 1) _ _ rfl rfl rfl E.out Tryd.underlying55 rfl (by kernel_rfl) ⟨none, 0, [], by rw [hN.out]; rfl, by rw [hN.out]; rfl, by rw [hN.out]; exact ⟨fun r hr => by rw [List.mem_singleton.1 hr]; exact ⟨rfl, Or.inl ⟨rfl, rfl⟩⟩, List.pairwise_singleton _ _⟩, X.out⟩
  · replace hY := Lib.hid (hY.out (by simp))
    have cD := hD3.cell (j := 0) rfl
    go_wp2_with fail
    refine (hT.out w3 hb3 (by simp)).mono ?_
    rintro e w4 ⟨A4, c4, S, rfl, hS, own4, hb4⟩
    have hl : S.length = (btR (vals l)).length := by rw [hY.out, ← hS, tvals_len]
    have hR4 := hR3.below hb4 (Nat.le_refl _)
    have b4 := b3.trans (hb4.mono b3.size)
    have fR := hR4.frozen 0
    have cR := hR4.cell (j := 0) rfl
    obtain ⟨hR5, g5⟩ := hR4.set 0 (.slice A4 S.length c4)
    have own5 := (own4.chg (Chg.of_set g5) (fun r hr q hq f => by have h1 := own4.ge r hr q hq; have f2 : q = w.heap.size + 1 := f; omega)).base_le (show w.heap.size ≤ w3.heap.size by omega)
    have b5 := b4.grown g5 b4.size (fun q e => by have := Option.some.inj e; omega)
    have E := Lib.hid hR5
    have X := Lib.hid (And.intro own5 b5)
    replace hl := Lib.hid hl
    clear hR3 hR4 hR5 g5 own4 own5 b4 b5 hT hN cD
    go_wp2
    exact endCb rfl _ _ _ w.heap.size (w.heap.size + 1) _ _ rfl rfl rfl E.out Tryd.underlying55 rfl (by kernel_rfl) ⟨A4, c4, S, by rw [hl.out]; rfl, by rw [hY.out]; exact hS, by rw [← hl.out]; exact X.out.1, X.out.2⟩
set_option maxHeartbeats 2000000 in
theorem specBuild_any (A : Option Addr) (n c : Nat) (l : List En) (w : World) (hn : l.length = n) (hle : n ≤ 1048576) (hnc : n ≤ c) (hs : ∀ e ∈ l, e.o.length ≤ 1048576 ∧ e.t.size ≤ 1048576) (B : Nat) (hB : B ≤ w.heap.size) (hr : DRow w B A l) :
    Calls Tryd.prog 29 #[.agg #[.slice A n c]] w fun e w' => ∃ (A' : Option Addr) (c' : Nat) (S : List Tn), e = .returned (.tuple #[.agg #[.slice A' (btR (vals l)).length c'], .bool (dictB (vals l))]) ∧ tvals S = btR (vals l) ∧ OwnAll w' w.heap.size (tRows 94 3 (.slice A' (btR (vals l)).length c') S) ∧ Below w.heap.size w w' := by
  obtain ⟨oD, oR, b2⟩ := two_new 38 55 w #[.slice A n c] #[.slice none 0 0]
  have hxs : ((w.alloc (.cells #[.slice A n c] 38)).alloc (.cells #[.slice none 0 0] 55)).heap.size = w.heap.size + 2 := by simp
  obtain ⟨x, hx⟩ : ∃ x, x = ((w.alloc (.cells #[.slice A n c] 38)).alloc (.cells #[.slice none 0 0] 55)) := ⟨_, rfl⟩
  rw [← hx] at oD oR b2 hxs
  have hV := Lib.hid (l6Good_any A n c l x hn hle hs B (by omega) (hr.below_le b2 hB))
  have hT := Lib.hid (fun W (hW : Below x.heap.size x W) (hd : dictB (vals l) = true) => l7Build_any A n c l W hn hnc hd B (by have := hW.size; omega) ((hr.below_le b2 hB).below_le hW (by omega)))
  have hY := Lib.hid (@btR_yes (vals l))
  have hN := Lib.hid (@btR_no (vals l))
  generalize dictB (vals l) = ok at *
  rw [hx] at hV
  go_enter Tryd.func29, Tryd.ntmps29
  go_wp2_with fail
  refine hV.out.mono ?_
  rintro e w3 ⟨rfl, hb3⟩
  rw [← hx] at hb3
  clear hV hx
  have hR3 := oR.below hb3 (Nat.le_refl _)
  have hD3 := oD.below hb3 (Nat.le_refl _)
  have b3 := b2.trans (hb3.mono b2.size)
  have s3 := hb3.size
  cases ok
  · replace hN := Lib.hid (hN.out (by simp))
    have fR := hR3.frozen 0
    have cR := hR3.cell (j := 0) rfl
    obtain ⟨hR5, g5⟩ := hR3.set 0 (.slice none 0 0)
    have b5 := b3.grown g5 b3.size (fun q e => by have := Option.some.inj e; omega)
    have E := Lib.hid hR5
    have X := Lib.hid b5
    clear hR3 hR5 g5 b5 hT hY
    go_wp2
    exact endCb rfl _ _ _ w.heap.size (w.heap.size + 1) _ _ rfl rfl rfl E.out Tryd.underlying55 rfl (by kernel_rfl) ⟨none, 0, [], by rw [hN.out]; rfl, by rw [hN.out]; rfl, by rw [hN.out]; exact ⟨fun r hr => by rw [List.mem_singleton.1 hr]; exact ⟨rfl, Or.inl ⟨rfl, rfl⟩⟩, List.pairwise_singleton _ _⟩, X.out⟩
  · replace hY := Lib.hid (hY.out (by simp))
    have cD := hD3.cell (j := 0) rfl
    go_wp2_with fail
    refine (hT.out w3 hb3 (by simp)).mono ?_
    rintro e w4 ⟨A4, c4, S, rfl, hS, own4, hb4⟩
    have hl : S.length = (btR (vals l)).length := by rw [hY.out, ← hS, tvals_len]
    have hR4 := hR3.below hb4 (Nat.le_refl _)
    have b4 := b3.trans (hb4.mono b3.size)
    have fR := hR4.frozen 0
    have cR := hR4.cell (j := 0) rfl
    obtain ⟨hR5, g5⟩ := hR4.set 0 (.slice A4 S.length c4)
    have own5 := (own4.chg (Chg.of_set g5) (fun r hr q hq f => by have h1 := own4.ge r hr q hq; have f2 : q = w.heap.size + 1 := f; omega)).base_le (show w.heap.size ≤ w3.heap.size by omega)
    have b5 := b4.grown g5 b4.size (fun q e => by have := Option.some.inj e; omega)
    have E := Lib.hid hR5
    have X := Lib.hid (And.intro own5 b5)
    replace hl := Lib.hid hl
    clear hR3 hR4 hR5 g5 own4 own5 b4 b5 hT hN cD
    go_wp2
    exact endCb rfl _ _ _ w.heap.size (w.heap.size + 1) _ _ rfl rfl rfl E.out Tryd.underlying55 rfl (by kernel_rfl) ⟨A4, c4, S, by rw [hl.out]; rfl, by rw [hY.out]; exact hS, by rw [← hl.out]; exact X.out.1, X.out.2⟩
end Go.Proofs.YtnpiljkchjdpfaaDoor

namespace Go.Proofs.YtnpiljkchjdpfaaDoor
open Go.RowKit

set_option maxHeartbeats 1000000 in
theorem eqTrieNode_same (A1 A1' A2 A2' : Option Addr) (c1 c1' c2 c2' : Nat) (ss cs : List Int) (b : Bool) (t : ByteArray) (w : World) (h1 : ss.length ≤ 1048576) (h2 : cs.length ≤ 1048576) (B : Nat) (hB : B ≤ w.heap.size) (r1 : Row w B A1 (ints ss)) (r1' : Row w B A1' (ints ss)) (r2 : Row w B A2 (ints cs)) (r2' : Row w B A2' (ints cs)) :
    Calls Tryd.prog 73 #[.agg #[.slice A1 ss.length c1, .slice A2 cs.length c2, .bool b, .string t], .agg #[.slice A1' ss.length c1', .slice A2' cs.length c2', .bool b, .string t]] w fun e w' => e = .returned (.bool true) ∧ Below w.heap.size w w' := by
  obtain ⟨o1, o2, b2⟩ := two_new 94 94 w #[.slice A1 ss.length c1, .slice A2 cs.length c2, .bool b, .string t] #[.slice A1' ss.length c1', .slice A2' cs.length c2', .bool b, .string t]
  have hI := Lib.hid (eqIntS_same A1 A1' ss.length c1 c1' ss _ rfl h1 B (r1.below_le b2 hB) (r1'.below_le b2 hB))
  have hJ := Lib.hid (fun W (hW : Below w.heap.size w W) => eqIntS_same A2 A2' cs.length c2 c2' cs W rfl h2 B (r2.below_le hW hB) (r2'.below_le hW hB))
  have hsm := seq_same t
  have hbb : (b == b) = true := by cases b <;> rfl
  go_enter Tryd.func73, Tryd.ntmps73
  go_wp2_with fail
  refine hI.out.mono ?_
  rintro e w3 ⟨rfl, hb3⟩
  have o1 := o1.below hb3 (Nat.le_refl _)
  have o2 := o2.below hb3 (Nat.le_refl _)
  have b3 := b2.trans (hb3.mono b2.size)
  have c11 : w3.cell? ⟨w.heap.size, 1, none⟩ = some (.slice A2 cs.length c2) := o1.cell (j := 1) rfl
  have c21 : w3.cell? ⟨w.heap.size + 1, 1, none⟩ = some (.slice A2' cs.length c2') := o2.cell (j := 1) rfl
  go_wp2_with fail
  refine (hJ.out w3 b3).mono ?_
  rintro e w4 ⟨rfl, hb4⟩
  have b4 := b3.trans (hb4.mono b3.size)
  have o1 := o1.below hb4 (Nat.le_refl _)
  have o2 := o2.below hb4 (Nat.le_refl _)
  have d12 : w4.cell? ⟨w.heap.size, 2, none⟩ = some (.bool b) := o1.cell (j := 2) rfl
  have d22 : w4.cell? ⟨w.heap.size + 1, 2, none⟩ = some (.bool b) := o2.cell (j := 2) rfl
  have d13 : w4.cell? ⟨w.heap.size, 3, none⟩ = some (.string t) := o1.cell (j := 3) rfl
  have d23 : w4.cell? ⟨w.heap.size + 1, 3, none⟩ = some (.string t) := o2.cell (j := 3) rfl
  clear o1 o2 c11 c21
  go_wp2
  go_ret
  exact ⟨rfl, b4⟩
set_option maxHeartbeats 4000000 in
theorem eqTrieNodeS_same (A A' : Option Addr) (n c c' : Nat) (l l' : List Tn) (w : World) (hn : l.length = n) (hv : tvals l = tvals l') (hle : n ≤ 1048576) (hs : ∀ e ∈ l, e.ss.length ≤ 1048576 ∧ e.cs.length ≤ 1048576) (B : Nat) (hB : B ≤ w.heap.size) (hr : TRow w B A l) (hr' : TRow w B A' l') :
    Calls Tryd.prog 55 #[.slice A n c, .slice A' n c'] w fun e w' => e = .returned (.bool true) ∧ Below w.heap.size w w' := by
  have hv := Lib.hid hv
  go_enter Tryd.func55, Tryd.ntmps55
  go_wp2
  go_loopw [5] (fun i wr => ∃ k : Nat, k ≤ n ∧ i = .int .i64 k ∧ Below w.heap.size w wr) (fun i _ => n - (intOf i).toNat)
  case atStart => exact ⟨0, by omega, rfl, Below.refl _ _⟩
  case round =>
    obtain ⟨k, hk, rfl, hbel⟩ := hrel
    by_cases hlt : k < n
    · obtain ⟨hk', ev⟩ := tvals_at hv.out k (by omega)
      have e1 : (tnAt l k).ss = (tnAt l' k).ss := congrArg TV.ss ev
      have e2 : (tnAt l k).cs = (tnAt l' k).cs := congrArg TV.cs ev
      have e3 : (tnAt l k).b = (tnAt l' k).b := congrArg TV.b ev
      have e4 : (tnAt l k).t = (tnAt l' k).t := congrArg TV.t ev
      obtain ⟨b, off, rfl, hb, hc1, hc2, hc3, hc4, ro1, ro2⟩ := (hr.below_le hbel hB).at (j := k) (by omega)
      obtain ⟨b', off', rfl, hb', hd1, hd2, hd3, hd4, ro1', ro2'⟩ := (hr'.below_le hbel hB).at (j := k) hk'
      have hin := hs _ (tnAt_in l k (by omega))
      have hsz := hbel.size
      rw [← e1] at ro1' hd1
      rw [← e2] at ro2' hd2
      rw [← e3] at hd3
      rw [← e4] at hd4
      have hE := Lib.hid (fun (W : World) (hW : Below wr.heap.size wr W) => eqTrieNode_same (tnAt l k).A1 (tnAt l' k).A1 (tnAt l k).A2 (tnAt l' k).A2 (tnAt l k).c1 (tnAt l' k).c1 (tnAt l k).c2 (tnAt l' k).c2 (tnAt l k).ss (tnAt l k).cs (tnAt l k).b (tnAt l k).t W hin.1 hin.2 B (by have := hW.size; omega) (ro1.below_le hW (by omega)) (ro1'.below_le hW (by omega)) (ro2.below_le hW (by omega)) (ro2'.below_le hW (by omega)))
      clear ro1 ro2 ro1' ro2' e1 e2 e3 e4 ev hk'
      generalize (tnAt l k).A1 = P1 at hc1 hE
      generalize (tnAt l' k).A1 = P2 at hd1 hE
      generalize (tnAt l k).A2 = P3 at hc2 hE
      generalize (tnAt l' k).A2 = P4 at hd2 hE
      generalize (tnAt l k).c1 = q1 at hc1 hE
      generalize (tnAt l' k).c1 = q2 at hd1 hE
      generalize (tnAt l k).c2 = q3 at hc2 hE
      generalize (tnAt l' k).c2 = q4 at hd2 hE
      generalize (tnAt l k).ss.length = ln at hc1 hd1 hE
      generalize (tnAt l k).cs.length = lm at hc2 hd2 hE
      generalize (tnAt l k).b = bb at hc3 hd3 hE
      generalize (tnAt l k).t = tx at hc4 hd4 hE
      have h1 : (0 : Int) ≤ (k : Int) := by omega
      have h2 : (k : Int) < (n : Int) := by omega
      have hbs : b < wr.heap.size := by omega
      have hbs' : b' < wr.heap.size := by omega
      clear hr hr'
      go_wp2
      go_region_held3 (fun w' => w'.cell? ⟨b, off + k * 4, none⟩ = some (.slice P1 ln q1) ∧ w'.cell? ⟨b, off + k * 4 + 1, none⟩ = some (.slice P3 lm q3) ∧ w'.cell? ⟨b, off + k * 4 + 2, none⟩ = some (.bool bb) ∧ w'.cell? ⟨b, off + k * 4 + 3, none⟩ = some (.string tx) ∧ w'.cell? ⟨b', off' + k * 4, none⟩ = some (.slice P2 ln q2) ∧ w'.cell? ⟨b', off' + k * 4 + 1, none⟩ = some (.slice P4 lm q4) ∧ w'.cell? ⟨b', off' + k * 4 + 2, none⟩ = some (.bool bb) ∧ w'.cell? ⟨b', off' + k * 4 + 3, none⟩ = some (.string tx)) (go_keep)
        (first
          | (go_at_call 73; refine (hE.out _ (by first | exact Below.refl _ _ | exact (Below.refl _ _).drew)).mono ?_; rintro e w2 ⟨rfl, hb2⟩; have k1 := (bcell hb2 b (off + k * 4) hbs).trans hc1; have k2 := (bcell hb2 b (off + k * 4 + 1) hbs).trans hc2; have k3 := (bcell hb2 b (off + k * 4 + 2) hbs).trans hc3; have k4 := (bcell hb2 b (off + k * 4 + 3) hbs).trans hc4; have k5 := (bcell hb2 b' (off' + k * 4) hbs').trans hd1; have k6 := (bcell hb2 b' (off' + k * 4 + 1) hbs').trans hd2; have k7 := (bcell hb2 b' (off' + k * 4 + 2) hbs').trans hd3; have k8 := (bcell hb2 b' (off' + k * 4 + 3) hbs').trans hd4))
      clear k1 k2 k3 k4 k5 k6 k7 k8
      go_wp2
      go_roundw
      case rel => exact ⟨k + 1, by omega, by go_num, hbel.drew.trans (hb2.mono hsz)⟩
      case measure => simp [intOf]; omega
    · obtain rfl : k = n := by omega
      go_wp2
      go_ret
      exact ⟨rfl, hbel⟩
theorem eqTrie_same (A A' : Option Addr) (n c c' : Nat) (l l' : List Tn) (w : World) (hn : l.length = n) (hv : tvals l = tvals l') (hle : n ≤ 1048576) (hs : ∀ e ∈ l, e.ss.length ≤ 1048576 ∧ e.cs.length ≤ 1048576) (B : Nat) (hB : B ≤ w.heap.size) (hr : TRow w B A l) (hr' : TRow w B A' l') :
    Calls Tryd.prog 31 #[.agg #[.slice A n c], .agg #[.slice A' n c']] w fun e w' => e = .returned (.bool true) ∧ Below w.heap.size w w' := by
  obtain ⟨o1, o2, b2⟩ := two_new 55 55 w #[.slice A n c] #[.slice A' n c']
  have hI := Lib.hid (eqTrieNodeS_same A A' n c c' l l' _ hn hv hle hs B (Nat.le_trans hB b2.size) (hr.below_le b2 hB) (hr'.below_le b2 hB))
  clear hv
  go_enter Tryd.func31, Tryd.ntmps31
  go_wp2_with fail
  refine hI.out.mono ?_
  rintro e w3 ⟨rfl, hb3⟩
  go_wp2
  go_ret
  exact ⟨rfl, b2.trans (hb3.mono b2.size)⟩

set_option maxHeartbeats 4000000 in
theorem markTrieNodeS_any (A : Option Addr) (n c : Nat) (l : List Tn) (k : Int) (base hi : Nat) (w : World) (hn : l.length = n) (hle : n ≤ 1048576) (hs : ∀ e ∈ l, e.ss.length ≤ 1048576 ∧ e.cs.length ≤ 1048576) (hk0 : 0 ≤ k) (hk1 : k + cntT l ≤ 1099511627776)
    (h : OwnAll w base (tRows 94 3 (.slice A n c) l)) (hlt : AllLt hi (tRows 94 3 (.slice A n c) l)) :
    Calls Tryd.prog 56 #[.slice A n c, .int .i64 k] w fun e w' => e = .returned (.int .i64 (k + cntT l)) ∧ OwnAll w' base (tRows 94 3 (.slice A n c) (markT k l)) ∧ Chg w w' (fun g => base ≤ g ∧ g < hi) := by
  have hlt := Lib.hid hlt
  go_enter Tryd.func56, Tryd.ntmps56
  go_wp2
  go_loopw [1, 5] (fun q i wr => ∃ j : Nat, j ≤ n ∧ i = .int .i64 j ∧ q = .int .i64 (k + cntT (l.take j)) ∧ OwnAll wr base (tRows 94 3 (.slice A n c) (markT k (l.take j) ++ l.drop j)) ∧ Chg w wr (fun g => base ≤ g ∧ g < hi)) (fun _ i _ => n - (intOf i).toNat)
  case atStart => exact ⟨0, by omega, rfl, by simp [cntT], by simpa [markT] using h, Chg.refl _ _⟩
  case round =>
    obtain ⟨j, hj, rfl, rfl, hown, hch⟩ := hrel
    have hcn := cntT_nn (l.take j)
    by_cases hjn : j < n
    · have hst := Lib.hid (cntT_succ l j (by omega))
      have hct := Lib.hid (cntT_take_le l (j + 1))
      have hkk : k + cntT (l.take j) + ((tnAt l j).ss.length : Int) + ((tnAt l j).cs.length : Int) + 2 ≤ 1099511627776 := by have := hst.out; have := hct.out; omega
      have hsh : (markT k (l.take j) ++ l.drop j).map sh = l.map sh := by rw [List.map_append, sh_mark, ← List.map_append, List.take_append_drop]
      have hal := Lib.hid (allLt_sh hlt.out hsh)
      rw [drop_tn l j (by omega)] at hown hal
      have hpl : (markT k (l.take j)).length = j := by rw [markT_len, List.length_take]; omega
      have hL : (markT k (l.take j) ++ tnAt l j :: l.drop (j + 1)).length = n := by simp [hpl]; omega
      have hrow := tOwn_n hown hL
      obtain ⟨g, cap, hv, hbase, hgl⟩ := hrow.form (by omega)
      injection hv with hv1 hv2 hv3
      subst hv1 hv3
      have hget := tns_get (markT k (l.take j) ++ tnAt l j :: l.drop (j + 1)) j (by omega)
      rw [tnAt_mid _ _ _ j hpl] at hget
      have hcell : wr.cell? ⟨g, j * 4, none⟩ = some (.slice (tnAt l j).A1 (tnAt l j).ss.length (tnAt l j).c1) := (hrow.cellAt (j * 4) (by omega)).trans hget.1
      have hin : tnAt l j ∈ markT k (l.take j) ++ tnAt l j :: l.drop (j + 1) := by simp
      have hgb : base ≤ g ∧ g < hi := ⟨hbase, hal.out (nRow 94 (.slice (some ⟨g, 0, none⟩) n c) _ _) (List.mem_cons_self ..) g rfl⟩
      have hlen := hs _ (tnAt_in l j (by omega))
      have q1 : ∀ q, (Value.slice (tnAt l j).A1 (tnAt l j).ss.length (tnAt l j).c1).ownBlock = some q → base ≤ q ∧ q < hi := fun q e => ⟨((tOwn_1 hown hin).lt q e).1, hal.out (ndRow1 3 (tnAt l j)) (List.mem_cons_of_mem _ (nd_mem 3 hin).1) q e⟩
      have q2 : ∀ q, (Value.slice (tnAt l j).A2 (tnAt l j).cs.length (tnAt l j).c2).ownBlock = some q → base ≤ q ∧ q < hi := fun q e => ⟨((tOwn_2 hown hin).lt q e).1, hal.out (ndRow2 3 (tnAt l j)) (List.mem_cons_of_mem _ (nd_mem 3 hin).2) q e⟩
      have hc := Lib.hid (markIntS_any (tnAt l j).A1 (tnAt l j).ss.length (tnAt l j).c1 (tnAt l j).ss (k + cntT (l.take j)) base wr rfl hlen.1 (by omega) (by omega) (tOwn_1 hown hin))
      have hms := Lib.hid (markT_succ k l j (by omega))
      have hown := Lib.hid hown
      have q1 := Lib.hid q1
      have q2 := Lib.hid q2
      have hsh2 := Lib.hid hsh
      have hK0 : 0 ≤ k + cntT (l.take j) := by omega
      have hKs := Lib.hid (show k + cntT (l.take (j + 1)) = k + cntT (l.take j) + ((tnAt l j).ss.length : Int) + ((tnAt l j).cs.length : Int) + 2 by rw [hst.out]; omega)
      clear hst hct
      generalize tnAt l j = E at *
      generalize k + cntT (l.take j) = K at *
      clear hrow hget hsh hcn
      go_wp2_with fail
      refine hc.out.mono ?_
      rintro e w2 ⟨rfl, ho2, hg2⟩
      have o2 := tOwn_up1 hown.out (marks_len _ _) hg2 ho2
      have c2 := hch.trans (Chg.of_grown hg2 q1.out)
      have hL2 : (markT k (l.take j) ++ { E with ss := marks K E.ss.length } :: l.drop (j + 1)).length = n := by simpa using hL
      have row2 := tOwn_n o2 hL2
      have hget2 := tns_get (markT k (l.take j) ++ { E with ss := marks K E.ss.length } :: l.drop (j + 1)) j (by omega)
      rw [tnAt_mid _ _ _ j hpl] at hget2
      have hcell2 : w2.cell? ⟨g, j * 4 + 1, none⟩ = some (.slice E.A2 E.cs.length E.c2) := (row2.cellAt (j * 4 + 1) (by omega)).trans hget2.2.1
      have hc2 := Lib.hid (markIntS_any E.A2 E.cs.length E.c2 E.cs (K + (E.ss.length : Int)) base w2 rfl hlen.2 (by omega) (by omega) (tOwn_2 o2 (e := { E with ss := marks K E.ss.length }) (by simp)))
      have o2 := Lib.hid o2
      clear hc hown hcell ho2 hg2 row2 hget2 hch
      go_wp2_with fail
      refine hc2.out.mono ?_
      rintro e w3 ⟨rfl, ho3, hg3⟩
      have o3 := tOwn_up2 (e := { E with ss := marks K E.ss.length }) o2.out (marks_len _ _) hg3 ho3
      have c3 := c2.trans (Chg.of_grown hg3 q2.out)
      have hL3 : (markT k (l.take j) ++ { E with ss := marks K E.ss.length, cs := marks (K + (E.ss.length : Int)) E.cs.length } :: l.drop (j + 1)).length = n := by simpa using hL
      have row3 := tOwn_n o3 hL3
      have fr3 := row3.frozenAt (j * 4 + 2)
      obtain ⟨u3, hu3⟩ : ∃ u, w3.cell? ⟨g, j * 4 + 2, none⟩ = some u := ⟨_, (row3.cellAt (j * 4 + 2) (by omega)).trans (List.getElem?_eq_getElem (by have := row3.1; omega))⟩
      obtain ⟨o4, g4⟩ := tOwn_b o3 hL3 hpl (m3 (K + (E.ss.length : Int) + (E.cs.length : Int)))
      have c4 := c3.trans (Chg.of_grown (F := fun g => base ≤ g ∧ g < hi) g4 (fun q e => by have e2 := Option.some.inj e; rw [← e2]; exact hgb))
      have o4 := Lib.hid o4
      have c4 := Lib.hid c4
      clear o2 o3 c2 c3 row3 ho3 hg3 hc2 hcell2 g4
      go_wp2_with fail
      refine (markText_any (K + (E.ss.length : Int) + (E.cs.length : Int) + 1) _ (by omega) (by omega)).mono ?_
      rintro e w5 ⟨rfl, hb5⟩
      have o5 := o4.out.below hb5 (Nat.le_refl _)
      have c5 := c4.out.trans (Chg.of_below hb5 (Nat.le_refl _) _)
      have hL5 : (markT k (l.take j) ++ { E with ss := marks K E.ss.length, cs := marks (K + (E.ss.length : Int)) E.cs.length, b := m3 (K + (E.ss.length : Int) + (E.cs.length : Int)) } :: l.drop (j + 1)).length = n := by simpa using hL
      have row5 := tOwn_n o5 hL5
      have fr5 := row5.frozenAt (j * 4 + 3)
      obtain ⟨u5, hu5⟩ : ∃ u, w5.cell? ⟨g, j * 4 + 3, none⟩ = some u := ⟨_, (row5.cellAt (j * 4 + 3) (by omega)).trans (List.getElem?_eq_getElem (by have := row5.1; omega))⟩
      obtain ⟨o6, g6⟩ := tOwn_t o5 hL5 hpl (mkT (K + (E.ss.length : Int) + (E.cs.length : Int) + 1))
      have c6 := Lib.hid (c5.trans (Chg.of_grown (F := fun g => base ≤ g ∧ g < hi) g6 (fun q e => by have e2 := Option.some.inj e; rw [← e2]; exact hgb)))
      have o6 := Lib.hid o6
      clear o5 c5 row5 g6 hb5 fr3 hu3
      go_wp2
      go_roundw
      case rel => exact ⟨j + 1, by omega, by go_num, by rw [hKs.out]; go_num, by rw [hms.out, List.append_assoc]; exact o6.out, c6.out⟩
      case measure => simp [intOf]; omega
    · obtain rfl : j = n := by omega
      have hall : l.take j = l := List.take_of_length_le (by omega)
      have hdr : l.drop j = [] := List.drop_of_length_le (by omega)
      rw [hall, hdr, List.append_nil] at hown
      rw [hall]
      go_wp2
      go_ret
      exact ⟨rfl, hown, hch⟩
theorem markTrie_any (A : Option Addr) (n c : Nat) (l : List Tn) (k : Int) (base hi : Nat) (w : World) (hn : l.length = n) (hle : n ≤ 1048576) (hs : ∀ e ∈ l, e.ss.length ≤ 1048576 ∧ e.cs.length ≤ 1048576) (hk0 : 0 ≤ k) (hk1 : k + cntT l ≤ 1099511627776)
    (h : OwnAll w base (tRows 94 3 (.slice A n c) l)) (hlt : AllLt hi (tRows 94 3 (.slice A n c) l)) :
    Calls Tryd.prog 32 #[.agg #[.slice A n c], .int .i64 k] w fun e w' => e = .returned (.int .i64 (k + cntT l)) ∧ OwnAll w' base (tRows 94 3 (.slice A n c) (markT k l)) ∧ Chg w w' (fun g => base ≤ g ∧ g < hi) := by
  have c0 := Chg.alloc w (.cells #[.slice A n c] 55) (fun g => base ≤ g ∧ g < hi)
  have h0 := h.chg (Chg.alloc w (.cells #[.slice A n c] 55) (fun _ => False)) (fun _ _ _ _ f => f)
  have hM := Lib.hid (markTrieNodeS_any A n c l k base hi _ hn hle hs hk0 hk1 h0 hlt)
  clear h h0
  have hcn := cntT_nn l
  generalize k + cntT l = r at hM hk1 ⊢
  go_enter Tryd.func32, Tryd.ntmps32
  go_wp2_with fail
  refine hM.out.mono ?_
  rintro e w2 ⟨rfl, ho2, hc2⟩
  go_wp2
  go_ret
  exact ⟨rfl, ho2, c0.trans hc2⟩
set_option maxHeartbeats 2000000 in
theorem heldTrieNodeS_any (A : Option Addr) (n c : Nat) (l : List Tn) (k : Int) (w : World) (hn : l.length = n) (hle : n ≤ 1048576) (hs : ∀ e ∈ l, e.ss.length ≤ 1048576 ∧ e.cs.length ≤ 1048576) (hk0 : 0 ≤ k) (hk1 : k + cntT l ≤ 1099511627776) (B : Nat) (hB : B ≤ w.heap.size)
    (hr : TRow w B A (markT k l)) :
    Calls Tryd.prog 57 #[.slice A n c, .int .i64 k] w fun e w' => e = .returned (.int .i64 (k + cntT l)) ∧ Below w.heap.size w w' := by
  go_enter Tryd.func57, Tryd.ntmps57
  go_wp2
  go_loopw [1, 5] (fun q i wr => ∃ j : Nat, j ≤ n ∧ i = .int .i64 j ∧ q = .int .i64 (k + cntT (l.take j)) ∧ Below w.heap.size w wr) (fun _ i _ => n - (intOf i).toNat)
  case atStart => exact ⟨0, by omega, rfl, by simp [cntT], Below.refl _ _⟩
  case round =>
    obtain ⟨j, hj, rfl, rfl, hbel⟩ := hrel
    have hsz := hbel.size
    have hcn := cntT_nn (l.take j)
    by_cases hjn : j < n
    · have hst := cntT_succ l j (by omega)
      have hct := cntT_take_le l (j + 1)
      have hKs := Lib.hid (show k + cntT (l.take (j + 1)) = k + cntT (l.take j) + ((tnAt l j).ss.length : Int) + ((tnAt l j).cs.length : Int) + 2 by rw [hst]; omega)
      have hkk : k + cntT (l.take j) + ((tnAt l j).ss.length : Int) + ((tnAt l j).cs.length : Int) + 2 ≤ 1099511627776 := by omega
      obtain ⟨b, off, rfl, hb, hc1, hc2, hc3, hc4, hro, hro2⟩ := (hr.below_le hbel hB).at (j := j) (by rw [markT_len]; omega)
      rw [markT_at k l j (by omega)] at hc1 hc2 hc3 hc4 hro hro2
      simp only [mkTn, marks_len, m3] at hc1 hc2 hc3 hc4 hro hro2
      have hlen := hs _ (tnAt_in l j (by omega))
      have hK0 : 0 ≤ k + cntT (l.take j) := by omega
      clear hst hct hcn
      generalize tnAt l j = E at *
      generalize k + cntT (l.take j) = K at *
      have hc := Lib.hid (heldIntS_any E.A1 E.ss.length E.c1 K B wr hlen.1 (by omega) (by omega) hro)
      have hcb := Lib.hid (heldIntS_any E.A2 E.cs.length E.c2 (K + (E.ss.length : Int)) B wr hlen.2 (by omega) (by omega) hro2)
      have hn1 : decide (K + (E.ss.length : Int) < 0) = false := by simp; omega
      have hn2 : decide (K + (E.ss.length : Int) + (E.cs.length : Int) < 0) = false := by simp; omega
      have hT := Lib.hid (fun W => markText_any (K + (E.ss.length : Int) + (E.cs.length : Int) + 1) W (by omega) (by omega))
      have hbs : b < wr.heap.size := by omega
      have hsm := seq_same (mkT (K + (E.ss.length : Int) + (E.cs.length : Int) + 1))
      have hmm : (((K + (E.ss.length : Int) + (E.cs.length : Int)) % 3 == 0) == ((K + (E.ss.length : Int) + (E.cs.length : Int)) % 3 == 0)) = true := by simp
      have h1 : (0 : Int) ≤ (j : Int) := by omega
      have h2 : (j : Int) < (n : Int) := by omega
      clear hro hro2
      go_wp2_with fail
      refine hc.out.mono ?_
      rintro e w2 ⟨rfl, rfl⟩
      go_wp2_with fail
      refine hcb.out.mono ?_
      rintro e w3 ⟨rfl, rfl⟩
      go_wp2
      go_region_held3 (fun w' => w'.cell? ⟨b, off + j * 4 + 3, none⟩ = some (.string (mkT (K + (E.ss.length : Int) + (E.cs.length : Int) + 1)))) (go_keep)
        (first | (go_at_call 67; refine (hT.out _).mono ?_; rintro e w2 ⟨rfl, hb2⟩; have k1 := (bcell hb2 b (off + j * 4 + 3) hbs).trans hc4))
      clear k1
      go_wp2
      go_roundw
      case rel => exact ⟨j + 1, by omega, by go_num, by rw [hKs.out]; go_num, hbel.drew.trans (hb2.mono hsz)⟩
      case measure => simp [intOf]; omega
    · obtain rfl : j = n := by omega
      have hall : l.take j = l := List.take_of_length_le (by omega)
      rw [hall]
      go_wp2
      go_ret
      exact ⟨rfl, hbel⟩
theorem heldTrie_any (A : Option Addr) (n c : Nat) (l : List Tn) (k : Int) (w : World) (hn : l.length = n) (hle : n ≤ 1048576) (hs : ∀ e ∈ l, e.ss.length ≤ 1048576 ∧ e.cs.length ≤ 1048576) (hk0 : 0 ≤ k) (hk1 : k + cntT l ≤ 1099511627776) (B : Nat) (hB : B ≤ w.heap.size)
    (hr : TRow w B A (markT k l)) :
    Calls Tryd.prog 33 #[.agg #[.slice A n c], .int .i64 k] w fun e w' => e = .returned (.int .i64 (k + cntT l)) ∧ Below w.heap.size w w' := by
  have b0 := (Below.refl w.heap.size w).alloc (Nat.le_refl _) (.cells #[.slice A n c] 55)
  have hM := Lib.hid (heldTrieNodeS_any A n c l k _ hn hle hs hk0 hk1 B (Nat.le_trans hB b0.size) (hr.below_le b0 hB))
  have hcn := cntT_nn l
  have hnn : decide (k + cntT l < 0) = false := by simp; omega
  generalize k + cntT l = r at hM hk1 hnn ⊢
  go_enter Tryd.func33, Tryd.ntmps33
  go_wp2_with fail
  refine hM.out.mono ?_
  rintro e w2 ⟨rfl, hb2⟩
  go_wp2
  go_ret
  exact ⟨rfl, b0.trans (hb2.mono b0.size)⟩
end Go.Proofs.YtnpiljkchjdpfaaDoor

namespace Go.Proofs.YtnpiljkchjdpfaaDoor
open Go.RowKit

theorem tv_len {l : List Tn} {R : List TV} (h : tvals l = R) : l.length = R.length := by rw [← h, tvals_len]
theorem tv_small {l : List Tn} {R : List TV} (h : tvals l = R) (hR : ∀ x ∈ R, x.ss.length ≤ 40 ∧ x.cs.length ≤ 40) : ∀ e ∈ l, e.ss.length ≤ 1048576 ∧ e.cs.length ≤ 1048576 := fun e he => by
  have := hR e.v (by rw [← h]; exact List.mem_map.2 ⟨e, he, rfl⟩)
  have h1 : e.ss.length ≤ 40 := this.1
  have h2 : e.cs.length ≤ 40 := this.2
  omega
/-- What the marks count. -/
def cntTV (R : List TV) : Int := (R.map fun e => (e.ss.length : Int) + (e.cs.length : Int) + 2).sum
theorem cntTV_of {l : List Tn} {R : List TV} (h : tvals l = R) : cntT l = cntTV R := by rw [← h, cntTV, tvals, List.map_map]; rfl
theorem cntTV_bd {R : List TV} (h : R.length ≤ 281) (hR : ∀ x ∈ R, x.ss.length ≤ 40 ∧ x.cs.length ≤ 40) : 0 ≤ cntTV R ∧ cntTV R ≤ 23042 := by
  have key : 0 ≤ cntTV R ∧ cntTV R ≤ 82 * (R.length : Int) := by
    clear h
    induction R with
    | nil => simp [cntTV]
    | cons e R ih =>
      have h1 := hR e (by simp)
      have h2 := ih (fun x hx => hR x (by simp [hx]))
      simp only [cntTV, List.map_cons, List.sum_cons, List.length_cons] at h2 ⊢
      omega
  omega
set_option maxHeartbeats 8000000 in
theorem lawBuildTrie (A : Option Addr) (n c : Nat) (l : List En) (w : World) (m : Int) (hmax : w.cell? ⟨0, 0, none⟩ = some (.int .i64 m)) (hn : l.length = n) (hm : n ≤ maxLen) (hs : ∀ e ∈ l, e.o.length ≤ maxLen ∧ e.t.size ≤ maxLen) (hr : DRow w w.heap.size A l) :
    Calls Tryd.prog 8 #[.agg #[.slice A n c]] w fun e w' => e = .returned (.bool true) ∧ Below w.heap.size w w' := by
  have hlt0 : 0 < w.heap.size := World.block_lt_of_cell? w _ hmax
  have HM := Lib.hid (fun wx (h : Below w.heap.size w wx) => (h.cell (p := ⟨0, 0, none⟩) hlt0).trans hmax)
  clear hmax
  have oB := ownC_new 33 w #[.slice A n c]
  have b0 := (Below.refl w.heap.size w).alloc (Nat.le_refl _) (.cells #[.slice A n c] 33)
  have hz := Lib.hid (szDict_any A n c l (w.alloc (.cells #[.slice A n c] 33)) hn hm hs ((hr.below b0).mono b0.size))
  by_cases h : n + szD l ≤ 1048576
  · rw [if_pos h] at hz
    have hs2 := sizes_smallE h
    have hs1 : ∀ e ∈ l, e.o.length ≤ 1048576 := fun e he => (hs2 e he).1
    have hT := Lib.hid (fun W (hW : Below w.heap.size w W) => toDict_any A n c l W hn (by omega) hs1 ((hr.below hW).mono hW.size))
    have hS := Lib.hid (fun W A' c' l' (hnc : n ≤ c') (hv : vals l' = vals l) (ho : OwnAll W w.heap.size (dRows 27 3 (.slice A' n c') l')) => (hv ▸ specBuild_any A' n c' l' W (by have := congrArg List.length hv; rwa [vals_len, vals_len, hn] at this) (by omega) hnc (vals_small hv hs2) W.heap.size (Nat.le_refl _) (DRow.of_own (by have := congrArg List.length hv; rwa [vals_len, vals_len, hn] at this) ho)))
    have hI := Lib.hid (fun W A' c' l' (hW : Below w.heap.size w W) (hnc : n ≤ c') (hv : vals l' = vals l) (ho : OwnAll W w.heap.size (dRows 27 3 (.slice A' n c') l')) => (hv ▸ implBuild_any A' n c' l' W m (HM.out _ hW) (by have := congrArg List.length hv; rwa [vals_len, vals_len, hn] at this) (by omega) hnc (vals_small hv hs2) W.heap.size (Nat.le_refl _) (DRow.of_own (by have := congrArg List.length hv; rwa [vals_len, vals_len, hn] at this) ho)))
    have hce : ∀ l', vals l' = vals l → cntE l' ≤ 2097152 := fun l' hv => by
      have h1 := cntE_le l
      have h2 : cntE l' = cntE l := by
        have e1 : ∀ x : List En, cntE x = ((vals x).map fun v => (v.1.length : Int) + 1).sum := fun x => by rw [cntE, vals, List.map_map]; rfl
        rw [e1, e1, hv]
      rw [h2, hn] at *
      omega
    have hRb := btR_bd (vals l)
    generalize dictB (vals l) = q at hS hI
    have hqq : (q == q) = true := by cases q <;> rfl
    generalize btR (vals l) = R at hS hI hRb
    obtain ⟨hRn, hR4⟩ := hRb
    obtain ⟨hc0, hc1⟩ := cntTV_bd hRn hR4
    have hR4 := Lib.hid hR4
    go_enter Tryd.func8, Tryd.ntmps8
    go_wp2_with fail
    refine hz.out.mono ?_
    rintro e w1 ⟨rfl, hb1⟩
    have b1 := b0.trans (hb1.mono b0.size)
    have oB := oB.below hb1 (Nat.le_refl _)
    have cB0 := oB.cell (j := 0) rfl
    go_wp2_with fail
    refine (hT.out w1 b1).mono ?_
    rintro e w2 ⟨A2, c2, l2, rfl, hv2, hc2, ho2, hb2⟩
    have b2 := b1.trans (hb2.mono b1.size)
    have oB2 := oB.below hb2 (Nat.le_refl _)
    go_wp2_with fail
    refine (hS.out w2 A2 c2 l2 hc2 hv2 (ho2.base_le b1.size)).mono ?_
    rintro e w3 ⟨A3, c3, S3, rfl, hv3, ho3, hb3⟩
    have hl3 := tv_len hv3
    have hv3 := Lib.hid hv3
    have hv3r := hv3
    have oW := ownC_new 55 w3 #[.slice A3 R.length c3]
    have bw := (Below.refl w3.heap.size w3).alloc (Nat.le_refl _) (.cells #[.slice A3 R.length c3] 55)
    have T3 := (TRow.of_own hl3 ho3).below bw
    have b3 := (b2.trans (hb3.mono b2.size)).trans (bw.mono (b2.trans (hb3.mono b2.size)).size)
    have oB3 := (oB2.below hb3 (Nat.le_refl _)).below bw (Nat.le_refl _)
    have hwB : w.heap.size < w3.heap.size := (oB2.below hb3 (Nat.le_refl _)).lt.2
    have hz3 : (w3.alloc (.cells #[.slice A3 R.length c3] 55)).heap.size = w3.heap.size + 1 := by simp
    clear cB0 oB2 ho2 ho3 oB
    have cB0 := oB3.cell (j := 0) rfl
    go_wp2_with fail
    refine (hT.out _ b3).mono ?_
    rintro e w4 ⟨A4, c4, l4, rfl, hv4, hc4, ho4, hb4⟩
    generalize hx3 : w3.alloc (.cells #[.slice A3 R.length c3] 55) = x3 at *
    clear hx3
    have hal4 := Lib.hid ho4.lt
    have b4 := b3.trans (hb4.mono b3.size)
    have b4a := (Below.refl w4.heap.size w4).alloc (Nat.le_refl _) (.cells #[.slice A4 n c4] 38)
    have oB4 := (oB3.below hb4 (Nat.le_refl _)).below b4a (Nat.le_refl _)
    have oW4 := (oW.below hb4 (Nat.le_refl _)).below b4a (Nat.le_refl _)
    have oX := ownC_new 38 w4 #[.slice A4 n c4]
    have hz34 := hb4.size
    have T4 := (T3.below_le hb4 (by omega)).below_le b4a (by omega)
    have ho4 := ho4.below b4a (Nat.le_refl _)
    have b4 := b4.trans (b4a.mono b4.size)
    have hz4 : (w4.alloc (.cells #[.slice A4 n c4] 38)).heap.size = w4.heap.size + 1 := by simp
    have hs4 := fun e he => (vals_small hv4 hs2 e he).1
    have hl4 : l4.length = n := by have := congrArg List.length hv4; rwa [vals_len, vals_len, hn] at this
    have hce4 := hce l4 hv4
    have hcn4 := cntE_nn l4
    clear cB0
    have cB0 := oB4.cell (j := 0) rfl
    have cX0 := oX.cell (j := 0) rfl
    go_wp2_with fail
    refine (hI.out _ A4 c4 l4 b4 hc4 hv4 (ho4.base_le b3.size)).mono ?_
    rintro e w5 ⟨A5, c5, S5, rfl, hv5, ho5, hb5⟩
    generalize hx4 : w4.alloc (.cells #[.slice A4 n c4] 38) = x4 at *
    clear hx4 cB0 cX0
    have hl5 := tv_len hv5
    have hs5 := Lib.hid (tv_small hv5 hR4.out)
    have hcs := Lib.hid (cntTV_of hv5)
    have hvq := Lib.hid (hv5.trans hv3.out.symm)
    have hal5 := Lib.hid ho5.lt
    have hz5 := hb5.size
    have b5a := (Below.refl w5.heap.size w5).alloc (Nat.le_refl _) (.cells #[.slice A5 R.length c5] 55)
    have b5 := b4.trans (hb5.mono b4.size)
    have hsz5 := b5.size
    have b5 := b5.trans (b5a.mono b5.size)
    have oB5 := (oB4.below hb5 (Nat.le_refl _)).below b5a (Nat.le_refl _)
    have oW5 := (oW4.below hb5 (Nat.le_refl _)).below b5a (Nat.le_refl _)
    have oX5 := (oX.below hb5 (Nat.le_refl _)).below b5a (Nat.le_refl _)
    have X5 := (ho4.below hb5 (Nat.le_refl _)).below b5a (Nat.le_refl _)
    have T5 := (T4.below_le hb5 (by omega)).below_le b5a (by omega)
    have oG := ownC_new 55 w5 #[.slice A5 R.length c5]
    have G5 := ho5.below b5a (Nat.le_refl _)
    have hzx5 : (w5.alloc (.cells #[.slice A5 R.length c5] 55)).heap.size = w5.heap.size + 1 := by simp
    have hE5 := Lib.hid (eqTrie_same A5 A3 R.length c5 c3 S5 S3 (w5.alloc (.cells #[.slice A5 R.length c5] 55)) hl5 hvq.out (by omega) hs5.out _ (Nat.le_refl _) (TRow.of_own hl5 G5) (T5.mono (by omega)))
    have cW := oW5.cell (j := 0) rfl
    have cG := oG.cell (j := 0) rfl
    clear b0 b1 b2 b3 b4 oB3 oB4 oX ho4 T3 T4 hS hz h hce hv2 hc2 hc4 hs1 hv3 hb3 hb4 hb5 b4a b5a hs2 oW oW4 bw ho5
    go_wp2_with fail
    refine hE5.out.mono ?_
    rintro e w6 ⟨rfl, hb6⟩
    generalize hx5 : w5.alloc (.cells #[.slice A5 R.length c5] 55) = x5 at *
    clear hx5 cW cG
    have hz6 := hb6.size
    have b6 := Lib.hid (b5.trans (hb6.mono b5.size))
    have oB6 := oB5.below hb6 (Nat.le_refl _)
    have oX6 := oX5.below hb6 (Nat.le_refl _)
    have oW6 := oW5.below hb6 (Nat.le_refl _)
    have oG6 := oG.below hb6 (Nat.le_refl _)
    have X6 := X5.below hb6 (Nat.le_refl _)
    have T6 := T5.below_le hb6 (by omega)
    have G6 := G5.below hb6 (Nat.le_refl _)
    have cB0 := oB6.cell (j := 0) rfl
    have cX0 := oX6.cell (j := 0) rfl
    have hlB6 := oB6.lt.2
    have hlX6 := oX6.lt.2
    have hR := Lib.hid (fun W A7 c7 l7 (hW : Below w6.heap.size w6 W) (hv7 : vals l7 = vals l) (hl7 : l7.length = n) (ho : OwnAll W w6.heap.size (dRows 27 3 (.slice A7 n c7) l7)) => eqDict_same A4 A7 n c4 c7 l4 l7 W hl4 (hv4.trans hv7.symm) (by omega) hs4 W.heap.size (Nat.le_refl _) (((DRow.of_own hl4 X6).below hW).mono hW.size) (DRow.of_own hl7 ho))
    have hn2 := Lib.hid hn
    have hv4 := Lib.hid hv4
    have hs4 := Lib.hid hs4
    have hcn4 := Lib.hid hcn4
    have hce4 := Lib.hid hce4
    have hcb := Lib.hid (And.intro hc0 hc1)
    clear b5 oB5 oX5 X5 T5 hE5 hb6 oB6 oX6 oW5 oG G5
    go_wp2
    go_region_held3 (fun w' => w'.cell? ⟨w.heap.size, 0, none⟩ = some (.slice A n c) ∧ w'.cell? ⟨w4.heap.size, 0, none⟩ = some (.slice A4 n c4)) (go_keep)
      (first
        | (go_at_call 16; refine (hT.out _ (by first | exact b6.out.drew | exact b6.out)).mono ?_; rintro e w7 ⟨A7, c7, l7, rfl, hv7, hc7, ho7, hb7⟩; have hv7 := Lib.hid hv7; have k1 := (bcell hb7 w.heap.size 0 (by simpa using hlB6)).trans cB0; have k3 := (bcell hb7 w4.heap.size 0 (by simpa using hlX6)).trans cX0)
        | (go_at_call 18; refine (hR.out _ A7 c7 l7 ((Below.refl _ _).drew.trans hb7) hv7.out (by have := congrArg List.length hv7.out; rw [vals_len, vals_len] at this; exact this.trans hn2.out) ho7).mono ?_; rintro e w8 ⟨rfl, hb8⟩; have k1 := (bcell hb8 w.heap.size 0 (by have := hb7.size; have : w6.drew.heap.size = w6.heap.size := rfl; omega)).trans k1; have k3 := (bcell hb8 w4.heap.size 0 (by have := hb7.size; have : w6.drew.heap.size = w6.heap.size := rfl; omega)).trans k3))
    have hb67 := (Below.refl w6.heap.size w6).drew.trans hb7
    have hb68 := hb67.trans (hb8.mono hb67.size)
    have hz8 := hb68.size
    have b8 := b6.out.trans (hb68.mono b6.out.size)
    have X8 := X6.below hb68 (Nat.le_refl _)
    have T8 := T6.below_le hb68 (by omega)
    have G8 := G6.below hb68 (Nat.le_refl _)
    have oW8 := oW6.below hb68 (Nat.le_refl _)
    have oG8 := oG6.below hb68 (Nat.le_refl _)
    have hM := Lib.hid (markDict_any A4 n c4 l4 1 x3.heap.size w4.heap.size w8 hl4 (by omega) hs4.out (by omega) (by have := hce4.out; omega) X8 hal4.out)
    have hr9 : decide (1 + cntE l4 < 0) = false := by have := hcn4.out; simp; omega
    clear b6 T6 X6 G6 hR hb7 hb8 hb67 hv7 ho7 cB0 cX0 X8 oW6 oG6
    go_wp2_with fail
    refine hM.out.mono ?_
    rintro e w9 ⟨rfl, _, hc9⟩
    have hz9 := hc9.size
    have b9 := b8.trans (hc9.below (B := w.heap.size) (fun k hk => by have := hk.1; omega) b8.size)
    have T9 := T8.chg hc9 (by omega) (fun k hk f => by have := f.1; omega)
    have cB9 := hc9.cell k1 (fun f => by have h2 : x3.heap.size ≤ w.heap.size := f.1; omega)
    have G9 := G8.chg hc9 (fun r hr g hg f => by have h1 := G8.ge r hr g hg; have h2 := f.2; omega)
    have oW9 := hc9.ownC oW8 (fun f => by have := f.1; omega)
    have oG9 := hc9.ownC oG8 (fun f => by have := f.2; omega)
    have hE9 := Lib.hid (eqTrie_same A5 A3 R.length c5 c3 S5 S3 w9 hl5 hvq.out (by omega) hs5.out w9.heap.size (Nat.le_refl _) (TRow.of_own hl5 G9) (T9.mono (by omega)))
    have cW := oW9.cell (j := 0) rfl
    have cG := oG9.cell (j := 0) rfl
    clear b8 T8 G8 k1 k3 hc9 hM hb68 oW8 oG8
    go_wp2_with fail
    refine hE9.out.mono ?_
    rintro e w10 ⟨rfl, hb10⟩
    clear cW cG
    have hz10 := hb10.size
    have b10 := b9.trans (hb10.mono b9.size)
    have T10 := T9.below_le hb10 (by omega)
    have G10 := G9.below hb10 (Nat.le_refl _)
    have oW10 := oW9.below hb10 (Nat.le_refl _)
    have oG10 := oG9.below hb10 (Nat.le_refl _)
    have cB10 := (bcell hb10 w.heap.size 0 (by omega)).trans cB9
    have cG := oG10.cell (j := 0) rfl
    have hM := Lib.hid (markTrie_any A5 R.length c5 S5 1 x4.heap.size w5.heap.size w10 hl5 (by omega) hs5.out (by omega) (by rw [hcs.out]; omega) G10 hal5.out)
    rw [hcs.out] at hM
    clear b9 T9 G9 cB9 hE9 hb10 oW9 oG9
    have hr11 : decide (1 + cntTV R < 0) = false := by have := hcb.out.1; simp; omega
    go_wp2_with fail
    refine hM.out.mono ?_
    rintro e w11 ⟨rfl, G11, hc11⟩
    clear cG
    have hz11 := hc11.size
    have b11 := b10.trans (hc11.below (B := w.heap.size) (fun k hk => by have := hk.1; omega) b10.size)
    have T11 := T10.chg hc11 (by omega) (fun k hk f => by have := f.1; omega)
    have cB11 := hc11.cell cB10 (fun f => by have h2 : x4.heap.size ≤ w.heap.size := f.1; omega)
    have oW11 := hc11.ownC oW10 (fun f => by have := f.1; omega)
    have oG11 := hc11.ownC oG10 (fun f => by have := f.2; omega)
    have hml : (markT 1 S5).length = R.length := by rw [markT_len, hl5]
    have G11 : OwnAll w11 x4.heap.size (tRows 94 3 (.slice A5 R.length c5) (markT 1 S5)) := G11
    have cG := oG11.cell (j := 0) rfl
    have hH := Lib.hid (heldTrie_any A5 R.length c5 S5 1 w11 hl5 (by omega) hs5.out (by omega) (by rw [hcs.out]; omega) w11.heap.size (Nat.le_refl _) (TRow.of_own hml G11))
    rw [hcs.out] at hH
    clear b10 T10 G10 cB10 hc11 hM oW10 oG10
    go_wp2_with fail
    refine hH.out.mono ?_
    rintro e w12 ⟨rfl, hb12⟩
    clear cG hH
    have hz12 := hb12.size
    have b12 := b11.trans (hb12.mono b11.size)
    have T12 := T11.below_le hb12 (by omega)
    have G12 := G11.below hb12 (Nat.le_refl _)
    have oW12 := oW11.below hb12 (Nat.le_refl _)
    have oG12 := oG11.below hb12 (Nat.le_refl _)
    have cB12 := (bcell hb12 w.heap.size 0 (by omega)).trans cB11
    clear b11 T11 G11 cB11 oW11 oG11 hb12
    go_wp2_with fail
    refine (hT.out w12 b12).mono ?_
    rintro e w13 ⟨A13, c13, l13, rfl, hv13, hc13, ho13, hb13⟩
    have b13 := b12.trans (hb13.mono b12.size)
    have hz13 := hb13.size
    have T13 := T12.below_le hb13 (by omega)
    have G13 := G12.below hb13 (Nat.le_refl _)
    have oW13 := oW12.below hb13 (Nat.le_refl _)
    have oG13 := oG12.below hb13 (Nat.le_refl _)
    go_wp2_with fail
    refine (hI.out w13 A13 c13 l13 b13 hc13 hv13 (ho13.base_le b12.size)).mono ?_
    rintro e w14 ⟨A14, c14, S14, rfl, hv14, ho14, hb14⟩
    have hl14 := tv_len hv14
    have hs14 := Lib.hid (tv_small hv14 hR4.out)
    have hvs := Lib.hid (hv14.trans hv3r.out.symm)
    have b14 := b13.trans (hb14.mono b13.size)
    have hz14 := hb14.size
    have b14a := (Below.refl w14.heap.size w14).alloc (Nat.le_refl _) (.cells #[.slice A14 R.length c14] 55)
    have T14 := (T13.below_le hb14 (by omega)).below_le b14a (by omega)
    have G14 := (G13.below hb14 (Nat.le_refl _)).below b14a (Nat.le_refl _)
    have oW14 := (oW13.below hb14 (Nat.le_refl _)).below b14a (Nat.le_refl _)
    have oG14 := (oG13.below hb14 (Nat.le_refl _)).below b14a (Nat.le_refl _)
    have oH := ownC_new 55 w14 #[.slice A14 R.length c14]
    have H14 := ho14.below b14a (Nat.le_refl _)
    have hzx14 : (w14.alloc (.cells #[.slice A14 R.length c14] 55)).heap.size = w14.heap.size + 1 := by simp
    have b14 := b14.trans (b14a.mono b14.size)
    have hE14 := Lib.hid (eqTrie_same A14 A3 R.length c14 c3 S14 S3 (w14.alloc (.cells #[.slice A14 R.length c14] 55)) hl14 hvs.out (by omega) hs14.out _ (Nat.le_refl _) (TRow.of_own hl14 H14) (T14.mono (by omega)))
    have cW := oW14.cell (j := 0) rfl
    have cH := oH.cell (j := 0) rfl
    clear b12 b13 T12 T13 G12 G13 oW12 oW13 oG12 oG13 ho13 ho14 hb13 hb14 b14a hv13 hv14 cB12
    go_wp2_with fail
    refine hE14.out.mono ?_
    rintro e w15 ⟨rfl, hb15⟩
    generalize hx14 : w14.alloc (.cells #[.slice A14 R.length c14] 55) = x14 at *
    clear hx14 cW cH hE14
    have hz15 := hb15.size
    have b15 := b14.trans (hb15.mono b14.size)
    have G15 := G14.below hb15 (Nat.le_refl _)
    have cG := (oG14.below hb15 (Nat.le_refl _)).cell (j := 0) rfl
    have hH := Lib.hid (heldTrie_any A5 R.length c5 S5 1 w15 hl5 (by omega) hs5.out (by omega) (by rw [hcs.out]; omega) w15.heap.size (Nat.le_refl _) (TRow.of_own hml G15))
    rw [hcs.out] at hH
    clear G14 oG14 oW14 oH H14 T14
    go_wp2_with fail
    refine hH.out.mono ?_
    rintro e w16 ⟨rfl, hb16⟩
    go_wp2
    go_ret
    exact ⟨rfl, b15.trans (hb16.mono b15.size)⟩
  · rw [if_neg h] at hz
    go_enter Tryd.func8, Tryd.ntmps8
    go_wp2_with fail
    refine hz.out.mono ?_
    rintro e w1 ⟨rfl, hb1⟩
    go_wp2
    go_ret
    exact ⟨rfl, b0.trans (hb1.mono b0.size)⟩
end Go.Proofs.YtnpiljkchjdpfaaDoor
