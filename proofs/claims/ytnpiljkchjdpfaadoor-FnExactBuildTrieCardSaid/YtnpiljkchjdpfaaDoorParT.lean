/- Contracts of both readers of a translation's notation. Condition: the cell of internal/bytealg.MaxLen is an int; the text is at most 2^20 bytes. -/
import Derived.Test.YtnpiljkchjdpfaaDoorPPt
import Derived.Test.YtnpiljkchjdpfaaDoorParA
import Derived.Test.YtnpiljkchjdpfaaDoorMem3
import Derived.Test.YtnpiljkchjdpfaaDoorSplitC
import Derived.Test.YtnpiljkchjdpfaaDoorTr
import Derived.Test.YtnpiljkchjdpfaaDoorAtomS
import Derived.Lib.Hide
namespace Go.Proofs.YtnpiljkchjdpfaaDoor
open Go.RowKit

theorem Row.pat {w : World} {B : Nat} {A : Option Addr} {ps : List (List UInt8)} (h : Row w B A (partsV ps)) {k : Nat} (hk : k < ps.length) :
    ∃ b off, A = some ⟨b, off, none⟩ ∧ b < B ∧ w.cell? ⟨b, off + k, none⟩ = some (.string (bs (patAt ps k))) := by
  obtain ⟨b, off, e, hb, hc⟩ := h (fun e => by have : (partsV ps).length = ps.length := by simp [partsV]
                                               rw [e] at this; simp at this; omega)
  exact ⟨b, off, e, hb, hc k _ (by simp [partsV, patAt, hk])⟩
/-- The state of the loop that reads words: the row of atoms, the parts that stay. -/
structure PtSt (w w2 : World) (Z : Nat) (v : Value) (xs : List At) (wr : World) : Prop where
  own : wr.ownsRow w.heap.size 97 2 v xs.length (atoms xs)
  bel : Below w.heap.size w wr
  sz : w2.heap.size ≤ wr.heap.size
  cl : Clear v Z w2.heap.size
  kp : Kept w2 wr Z w2.heap.size
theorem PtSt.below {w w2 wr w' : World} {Z : Nat} {v : Value} {xs : List At} (h : PtSt w w2 Z v xs wr) (hb : Below wr.heap.size wr w') : PtSt w w2 Z v xs w' :=
  ⟨own_below h.own hb (Nat.le_refl _), h.bel.trans (hb.mono h.bel.size), Nat.le_trans h.sz hb.size, h.cl, kept_below h.kp hb h.sz⟩
theorem PtSt.alloc {w w2 wr : World} {Z : Nat} {v : Value} {xs : List At} (h : PtSt w w2 Z v xs wr) (o : Obj) : PtSt w w2 Z v xs (wr.alloc o) := h.below ((Below.refl _ _).alloc (Nat.le_refl _) o)
theorem PtSt.app {w w2 wr w' : World} {Z : Nat} {v v' : Value} {xs : List At} {x : At} (h : PtSt w w2 Z v xs wr) (ho : w'.ownsRow w.heap.size 97 2 v' (xs.length + 1) (atoms xs ++ atC x)) (hb : Below w.heap.size w w') (hg : wr.grownBy w' v.ownBlock) (hv : v'.ownBlock = v.ownBlock ∨ v'.ownBlock = some (wr.heap.size + 1)) : PtSt w w2 Z v' (xs ++ [x]) w' :=
  ⟨by rw [atoms_snoc, List.length_append]; exact ho, hb, Nat.le_trans h.sz hg.size, clear_app h.cl hv (Nat.le_trans h.sz (Nat.le_succ _)), kept_app h.kp h.cl hg h.sz⟩
theorem own_nilA (w : World) (base : Nat) (e : TypeId) (size : Nat) : w.ownsRow base e size (.slice none 0 0) 0 [] := ⟨by simp, Or.inl ⟨rfl, rfl⟩⟩
theorem all_pat {ps : List (List UInt8)} {k : Nat} (h : k < ps.length) (hg : ∀ p ∈ ps.take k, paOk p = true) (g : paOk (patAt ps k) = true) : ∀ p ∈ ps.take (k + 1), paOk p = true := fun p hp => by
  rw [take_pat ps k h] at hp
  rcases List.mem_append.1 hp with hp | hp
  · exact hg p hp
  · rw [List.mem_singleton.1 hp]; exact g
theorem vals_pat {ps : List (List UInt8)} {k : Nat} (h : k < ps.length) : (ps.take (k + 1)).map atOf = (ps.take k).map atOf ++ [atOf (patAt ps k)] := by
  rw [take_pat ps k h, List.map_append]; rfl
theorem pat_len {b : UInt8} {l p : List UInt8} (h : p ∈ splits b l) : p.length ≤ l.length := by
  have key : ∀ l, ∀ p ∈ splits b l, p.length ≤ l.length := fun l => by
    induction l with
    | nil => intro p hp; simp [splits] at hp; subst hp; simp
    | cons x r ih =>
      intro p hp
      rw [splits] at hp
      split at hp
      · rcases List.mem_cons.1 hp with rfl | hp
        · simp
        · have := ih p hp; simp only [List.length_cons]; omega
      · cases hs : splits b r with
        | nil => exact absurd hs (splits_ne b r)
        | cons q qs =>
          rw [hs] at hp ih
          simp only at hp
          rcases List.mem_cons.1 hp with rfl | hp
          · have := ih q (by simp); simp only [List.length_cons]; omega
          · have := ih p (List.mem_cons_of_mem _ hp); simp only [List.length_cons]; omega
  exact key l p h
theorem atC_one (a : At) : ∀ u ∈ atC a, u.oneCell' = true := by
  intro u hu
  simp [atC] at hu
  rcases hu with rfl | rfl <;> rfl

set_option maxHeartbeats 2000000 in
theorem implParTr_any (t : ByteArray) (w : World) (m : Int) (hmax : w.cell? ⟨0, 0, none⟩ = some (.int .i64 m)) (hm : t.size ≤ 1048576) :
    Calls Tryd.prog 63 #[.string t] w fun e w' => ∃ A c, e = .returned (.tuple #[.slice A (ptR t.data.toList).length c, .bool (ptOk t.data.toList)]) ∧ w'.ownsRow w.heap.size 97 2 (.slice A (ptR t.data.toList).length c) (ptR t.data.toList).length (atoms (ptR t.data.toList)) ∧ Below w.heap.size w w' := by
  have ht := bs_size' t
  by_cases h60 : 60 < t.size
  · have hno := ptOk_long (l := t.data.toList) (by omega)
    have hR := Lib.hid (ptR_no hno)
    have hnoH := Lib.hid hno
    clear hno ht
    go_enter Tryd.func63, Tryd.ntmps63
    go_wp2
    go_ret2
    rw [hR.out, hnoH.out]
    exact ⟨none, 0, rfl, own_nilA _ _ _ _, Below.refl _ _⟩
  · have hlt : 0 < w.heap.size := World.block_lt_of_cell? w _ hmax
    have ho1 := World.ownsRow_made w #[] 0 (base := w.heap.size) (e := 97) (size := 2) (Nat.le_refl _) (by unfold maxLen; omega) (by simp)
    have b1 := (Below.refl w.heap.size w).alloc (Nat.le_refl _) (.cells #[] 97)
    have hmax1 := (b1.cell (p := ⟨0, 0, none⟩) hlt).trans hmax
    have hSP := Lib.hid (split_any t 32 (w.alloc (.cells #[] 97)) m hmax1 hm)
    have hN := splits_len 32 t.data.toList
    have hP := Lib.hid (fun p (h : p ∈ splits 32 t.data.toList) => (pat_len h : p.length ≤ _))
    have hA := Lib.hid (fun k (h : k < (splits 32 t.data.toList).length) => ptOk_bad (l := t.data.toList) h)
    have hmany := Lib.hid (fun h => ptOk_many (l := t.data.toList) h)
    have hgood := Lib.hid (fun h2 h3 => ptOk_good (l := t.data.toList) (by omega) h2 h3)
    have hV : Hid (ptV t.data.toList = (splits 32 t.data.toList).map atOf) := rfl
    rw [← ht] at hN hP
    generalize hps : splits 32 t.data.toList = ps at *
    clear hmax hmax1 hps ht
    go_enter Tryd.func63, Tryd.ntmps63
    go_wp2_with fail
    refine hSP.out.mono ?_
    rintro e w2 ⟨A, c, rfl, ho2, hb2⟩
    have hs2 := hb2.size
    have hsz1 : (w.alloc (.cells #[] 97)).heap.size = w.heap.size + 1 := by simp
    have D1 : PtSt w w2 (w.heap.size + 1) (.slice (some ⟨w.heap.size, 0, none⟩) 0 0) ((ps.take 0).map atOf) w2 :=
      ⟨by simpa [atoms, rows] using own_below ho1 hb2 (Nat.le_refl _), b1.trans (hb2.mono (by simp)), Nat.le_refl _, clear_of_own ho1 (by simp), kept_refl _ _ _⟩
    clear ho1 b1 hSP hb2
    go_wp2
    go_loopw [4, 6, 7, 8, 16] (fun v _ _ _ i wr => ∃ k : Nat, k ≤ ps.length ∧ i = .int .i64 k ∧ Hid (∀ p ∈ ps.take k, paOk p = true) ∧ PtSt w w2 (w.heap.size + 1) v ((ps.take k).map atOf) wr) (fun _ _ _ _ i _ => ps.length - (intOf i).toNat)
    case atStart => exact ⟨0, by omega, rfl, fun p hp => by simp at hp, D1⟩
    case round =>
      obtain ⟨k, hk, rfl, hg, D⟩ := hrel
      clear D1
      by_cases hlt2 : k < ps.length
      · obtain ⟨b, off, rfl, hb, hc⟩ := (Row.kept ho2 (by omega) (Nat.le_refl _) D.kp).pat (k := k) hlt2
        have hz := hP.out _ (patAt_in ps k hlt2)
        have hpm : (bs (patAt ps k)).size ≤ 1048576 := by rw [bs_len]; omega
        have hip := Lib.hid (implParseAtom_any (bs (patAt ps k)) wr hpm)
        rw [bs_toList] at hip
        rcases Bool.eq_false_or_eq_true (paOk (patAt ps k)) with hok | hok
        · have hlen : ((ps.take k).map atOf).length ≤ k := by simp; omega
          have hgn := Lib.hid (all_pat hlt2 hg.out hok)
          have hvn := Lib.hid (vals_pat (k := k) hlt2)
          rw [hok] at hip
          have hat : Hid (atOf (patAt ps k) = ⟨paK (patAt ps k), bs (paT (patAt ps k))⟩) := rfl
          generalize paK (patAt ps k) = ka at hip hat
          generalize bs (paT (patAt ps k)) = ta at hip hat
          clear hok
          go_wp2_with fail
          refine hip.out.mono ?_
          rintro e w3 ⟨rfl, hb3⟩
          have D3 := (D.below hb3).alloc (.cells #[.int .i64 ka, .string ta] 97)
          have hsn : w.heap.size ≤ (w3.alloc (.cells #[.int .i64 ka, .string ta] 97)).heap.size := D3.bel.size
          go_wp2_with (at_builtin; refine wpList_appN #[.int .i64 ka, .string ta] atT D3.bel D3.own rfl (atC_one ⟨ka, ta⟩) (Nat.le_refl _) hsn (by omega) (by decide) rfl (.tmp 27) (.tmp 29) rfl (w3.heap.size + 1) (by simp) rfl rfl ?_; intro v5 w5 ho5 hb5 hg5 hv5)
          go_roundw
          case rel => exact ⟨k + 1, by omega, by go_num, hgn.out, by rw [hvn.out, hat.out]; exact D3.app ho5 hb5 hg5 (by simpa using hv5)⟩
          case measure => simp [intOf]; omega
        · have hno := hA.out k hlt2 hok
          have hR := Lib.hid (ptR_no hno)
          have hnoH := Lib.hid hno
          rw [hok] at hip
          clear hno hok
          go_wp2_with fail
          refine hip.out.mono ?_
          rintro e w3 ⟨rfl, hb3⟩
          have D3 := D.below hb3
          have bE := D3.bel.alloc D3.bel.size (.cells #[.int .i64 (paK (patAt ps k)), .string (bs (paT (patAt ps k)))] 97)
          go_wp2
          go_ret2
          rw [hR.out, hnoH.out]
          exact ⟨none, 0, rfl, own_nilA _ _ _ _, bE⟩
      · obtain rfl : k = ps.length := by omega
        obtain ⟨A', c', rfl, _⟩ := own_slice D.own
        have hlen : ((ps.take ps.length).map atOf).length = ps.length := by simp
        have hall : ps.take ps.length = ps := List.take_length
        rw [hall] at hg D
        have ho := D.own
        have hbel := D.bel
        rw [List.length_map] at ho
        by_cases h10 : ps.length ≤ 10
        · have hy := hgood.out hg.out h10
          have hR := Lib.hid (ptR_yes hy)
          have hyH := Lib.hid hy
          clear hlen hall D hy
          simp only [List.take_length, List.length_map]
          go_wp2
          go_ret2
          rw [hR.out, hyH.out, hV.out, List.length_map]
          exact ⟨A', c', rfl, ho, hbel⟩
        · have hno := hmany.out (by omega)
          have hR := Lib.hid (ptR_no hno)
          have hnoH := Lib.hid hno
          clear hlen hall D hno
          simp only [List.take_length, List.length_map]
          go_wp2
          go_ret2
          rw [hR.out, hnoH.out]
          exact ⟨none, 0, rfl, own_nilA _ _ _ _, hbel⟩

set_option maxHeartbeats 2000000 in
theorem l5Parse_any (t : ByteArray) (w : World) (hm : t.size ≤ 1048576) :
    Calls Tryd.prog 58 #[.string t] w fun e w' => ∃ A c, e = .returned (.tuple #[.slice A (ptR t.data.toList).length c, .bool (ptOk t.data.toList)]) ∧ w'.ownsRow w.heap.size 97 2 (.slice A (ptR t.data.toList).length c) (ptR t.data.toList).length (atoms (ptR t.data.toList)) ∧ Below w.heap.size w w' := by
  have ht := bs_size' t
  have ho1 := World.ownsRow_made w #[] 0 (base := w.heap.size) (e := 97) (size := 2) (Nat.le_refl _) (by unfold maxLen; omega) (by simp)
  have b1 := (Below.refl w.heap.size w).alloc (Nat.le_refl _) (.cells #[] 97)
  by_cases h60 : 60 < t.size
  · have hno := ptOk_long (l := t.data.toList) (by omega)
    have hR := Lib.hid (ptR_no hno)
    have hnoH := Lib.hid hno
    clear hno ht
    go_enter Tryd.func58, Tryd.ntmps58
    go_wp2
    go_ret2
    rw [hR.out, hnoH.out]
    exact ⟨_, _, rfl, by simpa [atoms, rows] using ho1, b1⟩
  · have hSP := Lib.hid (l1Split_any t 32 (w.alloc (.cells #[] 97)) hm)
    have hN := splits_len 32 t.data.toList
    have hP := Lib.hid (fun p (h : p ∈ splits 32 t.data.toList) => (pat_len h : p.length ≤ _))
    have hA := Lib.hid (fun k (h : k < (splits 32 t.data.toList).length) => ptOk_bad (l := t.data.toList) h)
    have hmany := Lib.hid (fun h => ptOk_many (l := t.data.toList) h)
    have hgood := Lib.hid (fun h2 h3 => ptOk_good (l := t.data.toList) (by omega) h2 h3)
    have hV : Hid (ptV t.data.toList = (splits 32 t.data.toList).map atOf) := rfl
    have hL := Lib.hid (fun h2 => trOk_ptV (l := t.data.toList) (by omega) h2)
    rw [← ht] at hN hP
    generalize hps : splits 32 t.data.toList = ps at *
    clear hps ht
    go_enter Tryd.func58, Tryd.ntmps58
    go_wp2_with fail
    refine hSP.out.mono ?_
    rintro e w2 ⟨A, c, rfl, ho2, hb2⟩
    have hs2 := hb2.size
    have hsz1 : (w.alloc (.cells #[] 97)).heap.size = w.heap.size + 1 := by simp
    have D1 : PtSt w w2 (w.heap.size + 1) (.slice (some ⟨w.heap.size, 0, none⟩) 0 0) ((ps.take 0).map atOf) w2 :=
      ⟨by simpa [atoms, rows] using own_below ho1 hb2 (Nat.le_refl _), b1.trans (hb2.mono (by simp)), Nat.le_refl _, clear_of_own ho1 (by simp), kept_refl _ _ _⟩
    clear ho1 b1 hSP hb2
    go_wp2
    go_loopw [4, 6, 7, 8] (fun v i _ _ wr => ∃ k : Nat, k ≤ ps.length ∧ i = .int .i64 k ∧ Hid (∀ p ∈ ps.take k, paOk p = true) ∧ PtSt w w2 (w.heap.size + 1) v ((ps.take k).map atOf) wr) (fun _ i _ _ _ => ps.length - (intOf i).toNat)
    case atStart => exact ⟨0, by omega, rfl, fun p hp => by simp at hp, D1⟩
    case round =>
      obtain ⟨k, hk, rfl, hg, D⟩ := hrel
      clear D1
      by_cases hlt2 : k < ps.length
      · obtain ⟨b, off, rfl, hb, hc⟩ := (Row.kept ho2 (by omega) (Nat.le_refl _) D.kp).pat (k := k) hlt2
        have hz := hP.out _ (patAt_in ps k hlt2)
        have hpm : (bs (patAt ps k)).size ≤ 1048576 := by rw [bs_len]; omega
        have hip := Lib.hid (specParseAtom_any (bs (patAt ps k)) wr hpm)
        rw [bs_toList] at hip
        rcases Bool.eq_false_or_eq_true (paOk (patAt ps k)) with hok | hok
        · have hlen : ((ps.take k).map atOf).length ≤ k := by simp; omega
          have hgn := Lib.hid (all_pat hlt2 hg.out hok)
          have hvn := Lib.hid (vals_pat (k := k) hlt2)
          rw [hok] at hip
          have hat : Hid (atOf (patAt ps k) = ⟨paK (patAt ps k), bs (paT (patAt ps k))⟩) := rfl
          generalize paK (patAt ps k) = ka at hip hat
          generalize bs (paT (patAt ps k)) = ta at hip hat
          clear hok
          go_wp2_with fail
          refine hip.out.mono ?_
          rintro e w3 ⟨rfl, hb3⟩
          have D3 := (D.below hb3).alloc (.cells #[.int .i64 ka, .string ta] 97)
          have hsn : w.heap.size ≤ (w3.alloc (.cells #[.int .i64 ka, .string ta] 97)).heap.size := D3.bel.size
          go_wp2_with (at_builtin; refine wpList_appN #[.int .i64 ka, .string ta] atT D3.bel D3.own rfl (atC_one ⟨ka, ta⟩) (Nat.le_refl _) hsn (by omega) (by decide) rfl (.tmp 33) (.tmp 35) rfl (w3.heap.size + 1) (by simp) rfl rfl ?_; intro v5 w5 ho5 hb5 hg5 hv5)
          go_roundw
          case rel => exact ⟨k + 1, by omega, by go_num, hgn.out, by rw [hvn.out, hat.out]; exact D3.app ho5 hb5 hg5 (by simpa using hv5)⟩
          case measure => simp [intOf]; omega
        · have hno := hA.out k hlt2 hok
          have hR := Lib.hid (ptR_no hno)
          have hnoH := Lib.hid hno
          rw [hok] at hip
          clear hno hok
          go_wp2_with fail
          refine hip.out.mono ?_
          rintro e w3 ⟨rfl, hb3⟩
          have D3 := D.below hb3
          have bE := D3.bel.alloc D3.bel.size (.cells #[.int .i64 (paK (patAt ps k)), .string (bs (paT (patAt ps k)))] 97)
          have oE := World.ownsRow_made (w3.alloc (.cells #[.int .i64 (paK (patAt ps k)), .string (bs (paT (patAt ps k)))] 97)) #[] 0 (base := w.heap.size) (e := 97) (size := 2) bE.size (by unfold maxLen; omega) (by simp)
          have bF := bE.alloc bE.size (.cells #[] 97)
          have oE := Lib.hid oE
          have bF := Lib.hid bF
          go_wp2
          go_ret2
          rw [hR.out, hnoH.out]
          exact ⟨_, _, rfl, by simpa [atoms, rows] using oE.out, by simpa using bF.out⟩
      · obtain rfl : k = ps.length := by omega
        obtain ⟨A', c', rfl, _⟩ := own_slice D.own
        have hall : ps.take ps.length = ps := List.take_length
        rw [hall] at hg D
        have ho := D.own
        have hbel := D.bel
        rw [List.length_map] at ho
        have hsm : ∀ a ∈ ps.map atOf, a.t.size ≤ 1048576 := fun a ha => by
          obtain ⟨p, hp, rfl⟩ := List.mem_map.1 ha
          have := paT_len p
          show (bs (paT p)).size ≤ _
          rw [bs_len]; omega
        have hLi := Lib.hid (l5List_any A' ps.length c' (ps.map atOf) wr (by simp) (by unfold maxLen; omega) hsm _ (Nat.le_refl _) (Row.of_own ho))
        have hLv := hL.out hg.out
        rw [hV.out] at hLv
        rw [hLv] at hLi
        by_cases h10 : ps.length ≤ 10
        · have hy := hgood.out hg.out h10
          have hR := Lib.hid (ptR_yes hy)
          have hyH := Lib.hid hy
          rw [show decide (ps.length ≤ 10) = true by simpa using h10] at hLi
          clear hall D hy hLv hsm
          simp only [List.take_length, List.length_map]
          go_wp2_with fail
          refine hLi.out.mono ?_
          rintro e w3 ⟨rfl, hb3⟩
          have ho3 := own_below ho hb3 (Nat.le_refl _)
          go_wp2
          go_ret2
          rw [hR.out, hyH.out, hV.out, List.length_map]
          exact ⟨A', c', rfl, ho3, hbel.trans (hb3.mono hbel.size)⟩
        · have hno := hmany.out (by omega)
          have hR := Lib.hid (ptR_no hno)
          have hnoH := Lib.hid hno
          rw [show decide (ps.length ≤ 10) = false by simpa using h10] at hLi
          clear hall D hno hLv hsm
          simp only [List.take_length, List.length_map]
          go_wp2_with fail
          refine hLi.out.mono ?_
          rintro e w3 ⟨rfl, hb3⟩
          have bE := hbel.trans (hb3.mono hbel.size)
          have oE := World.ownsRow_made w3 #[] 0 (base := w.heap.size) (e := 97) (size := 2) bE.size (by unfold maxLen; omega) (by simp)
          have bF := bE.alloc bE.size (.cells #[] 97)
          have oE := Lib.hid oE
          have bF := Lib.hid bF
          go_wp2
          go_ret2
          rw [hR.out, hnoH.out]
          exact ⟨_, _, rfl, by simpa [atoms, rows] using oE.out, by simpa using bF.out⟩
end Go.Proofs.YtnpiljkchjdpfaaDoor
