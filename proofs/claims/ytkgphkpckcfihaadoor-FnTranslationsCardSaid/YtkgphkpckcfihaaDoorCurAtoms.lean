/- Contracts of the reference's draws of translations. Condition: the bytes are at most 2^20. -/
import Derived.Test.YtkgphkpckcfihaaDoorCurAtom
import Derived.Test.YtkgphkpckcfihaaDoorCurStroke
import Derived.Test.YtkgphkpckcfihaaDoorMem3
import Derived.Test.YtkgphkpckcfihaaDoorTr
import Derived.Test.YtkgphkpckcfihaaDoorAtomS
import Derived.Test.YtkgphkpckcfihaaDoorParT
namespace Go.Proofs.YtkgphkpckcfihaaDoor
open Go.RowKit

theorem own_grownA {w wr w' : World} {g : Nat} {e : TypeId} {size n : Nat} {v : Value} {xs : List Value} (h : w.grownBy wr (some g)) (ho : wr.ownsRow w.heap.size e size v n xs) (hg : wr.grownBy w' v.ownBlock) : w.grownBy w' (some g) :=
  ⟨hg.os.trans h.os, hg.tape.trans h.tape, hg.output.trans h.output, Nat.le_trans h.size hg.size, fun i hi hne =>
    (hg.block i (Nat.lt_of_lt_of_le hi h.size) (fun e => by have := (ho.lt i e.symm).1; omega)).trans (h.block i hi hne)⟩
theorem below_grownA {w w' : World} {g : Nat} (h : w.grownBy w' (some g)) (hg : g ≤ w.heap.size) : Below g w w' :=
  (Below.refl g w).grown h hg (fun k e => by injection e with e; omega)
theorem Cur.ownA {w w' : World} {g m : Nat} {base : Nat} {e : TypeId} {size n : Nat} {v : Value} {xs : List Value} (h : Cur w g m) (ho : w.ownsRow base e size v n xs) (hg : w.grownBy w' v.ownBlock) (hb : g < base) : Cur w' g m :=
  h.grown hg fun k e => by have := (ho.lt k e).1; omega
def lenV : Value → Nat
  | .slice _ n _ => n
  | _ => 0

set_option maxHeartbeats 1000000 in
theorem atomsD_any (w : World) (g m : Nat) (h : Cur w g m) (hm : m ≤ 10000) :
    Calls Tryd.prog 65 #[.pointer (some ⟨g, 0, none⟩)] w fun e w' => ∃ A' n' c', ∃ l : List At, e = .returned (.slice A' n' c') ∧ l.length = n' ∧ 1 ≤ n' ∧ n' ≤ 4 ∧ (∀ a ∈ l, a.t.size ≤ 30) ∧
      w'.ownsRow w.heap.size 23 2 (.slice A' n' c') n' (atoms l) ∧ Cur w' g (m + 18) ∧ w.grownBy w' (some g) := by
  have hlt := h.lt
  go_enter Tryd.func65, Tryd.ntmps65
  go_wp2_with fail
  refine (pick_any _ g m 4 (h.alloc _) (by omega) (by omega)).mono ?_
  rintro e w1 ⟨y, rfl, y0, y1, hc1, hg1⟩
  have ho1 := own_kept (World.ownsRow_made w #[] 0 (base := w.heap.size) (e := 23) (size := 2) (Nat.le_refl _) (by unfold maxLen; omega) (by simp)) hg1 hlt
  have g1 := (World.grownBy_alloc w (.cells #[] 23) (some g)).trans hg1
  go_wp2
  go_loopw [3, 4] (fun v i wr => ∃ j k : Nat, ∃ l : List At, i = .int .i64 j ∧ j + k ≤ 4 ∧ 1 ≤ j + k ∧ l.length = k ∧ (∀ a ∈ l, a.t.size ≤ 30) ∧ wr.ownsRow w.heap.size 23 2 v k (atoms l) ∧ Cur wr g (m + 2 + 4 * k) ∧ w.grownBy wr (some g)) (fun _ i _ => (intOf i).toNat)
  case atStart => exact ⟨(1 + y).toNat, 0, [], by go_num, by omega, by omega, rfl, by simp, by simpa [atoms, rows] using ho1, hc1, g1⟩
  case round =>
    obtain ⟨j, k, l, rfl, hjk, hj1, hl, hgood, hown, hcr, hgr⟩ := hrel
    by_cases hlt2 : 0 < j
    · go_wp2_with fail
      refine (atom_any wr g _ hcr (by omega)).mono ?_
      rintro e w4 ⟨ka, ta, rfl, hk0, hk1, ht, hc4, hg4⟩
      have ho4 := own_kept hown hg4 hlt
      have g4 := hgr.trans hg4
      have s4 := g4.size
      go_wp2_with (at_builtin; refine wpList_appN #[.int .i64 ka, .string ta] atT (below_grownA g4 (Nat.le_of_lt hlt)) ho4 rfl (atC_one ⟨ka, ta⟩) (Nat.le_of_lt hlt) s4 (by omega) (by decide) rfl (.tmp 13) (.tmp 16) rfl (w4.heap.size) rfl rfl rfl ?_; intro v5 w5 ho5 _ hg5 _)
      go_roundw
      case rel =>
        exact ⟨j - 1, k + 1, l ++ [⟨ka, ta⟩], by go_num, by omega, by omega, by simp [hl], fun z hz => by rcases List.mem_append.1 hz with h | h; exact hgood z h; simp at h; rw [h]; show ta.size ≤ 30; omega, by rw [atoms_snoc]; exact ho5, (hc4.ownA ho4 hg5 hlt).more (by omega), own_grownA g4 ho4 hg5⟩
      case measure => simp [intOf]; omega
    · obtain rfl : j = 0 := by omega
      obtain ⟨A', c', rfl, _⟩ := own_slice hown
      go_wp2
      go_ret
      exact ⟨A', k, c', l, rfl, hl, by omega, by omega, hgood, hown, hcr.more (by omega), hgr⟩

set_option maxHeartbeats 2000000 in
theorem anyAtoms_any (w : World) (g m : Nat) (h : Cur w g m) (hm : m ≤ 10000) :
    Calls Tryd.prog 44 #[.pointer (some ⟨g, 0, none⟩)] w fun e w' => ∃ A' n' c', ∃ l : List At, e = .returned (.slice A' n' c') ∧ l.length = n' ∧ n' ≤ 11 ∧ (∀ a ∈ l, a.t.size ≤ 30) ∧
      w'.ownsRow w.heap.size 23 2 (.slice A' n' c') n' (atoms l) ∧ Cur w' g (m + 80) ∧ w.grownBy w' (some g) := by
  have hlt := h.lt
  go_enter Tryd.func44, Tryd.ntmps44
  go_wp2_with fail
  refine (atomsD_any w g m h hm).mono ?_
  rintro e w1 ⟨A1, n1, c1, l, rfl, hl, hn1, hn4, hsz, ho1, hc1, hg1⟩
  go_wp2_with fail
  refine (pick_any w1 g _ 16 hc1 (by omega) (by omega)).mono ?_
  rintro e w2 ⟨y, rfl, y0, y1, hc2, hg2⟩
  have ho2 := own_kept ho1 hg2 hlt
  have g2 := hg1.trans hg2
  have s2 := g2.size
  clear ho1 hg1 hg2 hc1
  have hcs : y = 0 ∨ y = 1 ∨ y = 2 ∨ 3 ≤ y := by omega
  rcases hcs with rfl | rfl | rfl | hy3
  · go_wp2_with fail
    refine (anyAtom_any w2 g _ hc2 (by omega)).mono ?_
    rintro e w4 ⟨ka, ta, rfl, hk0, hk1, ht, hc4, hg4⟩
    have ho4 := own_kept ho2 hg4 hlt
    have g4 := g2.trans hg4
    have s4 := g4.size
    go_wp2_with (at_builtin; refine wpList_appN #[.int .i64 ka, .string ta] atT (below_grownA g4 (Nat.le_of_lt hlt)) ho4 rfl (atC_one ⟨ka, ta⟩) (Nat.le_of_lt hlt) s4 (by omega) (by decide) rfl (.tmp 10) (.tmp 13) rfl (w4.heap.size) rfl rfl rfl ?_; intro v5 w5 ho5 _ hg5 _)
    obtain ⟨A', c', rfl, _⟩ := own_slice ho5
    go_wp2
    go_ret
    exact ⟨A', n1 + 1, c', rfl, l ++ [⟨ka, ta⟩], by simp [hl], by omega, fun z hz => by rcases List.mem_append.1 hz with h | h; exact hsz z h; simp at h; rw [h]; exact ht, by rw [atoms_snoc]; exact ho5, (hc4.ownA ho4 hg5 hlt).more (by omega), own_grownA g4 ho4 hg5⟩
  · go_wp2
    go_ret
    exact ⟨_, 0, _, [], rfl, rfl, by omega, by simp, World.ownsRow_made _ _ _ s2 (by unfold maxLen; omega) (by simp), (hc2.alloc _).more (by omega), g2.trans (World.grownBy_alloc _ _ _)⟩
  · go_wp2
    go_loopw [3] (fun v wr => ∃ A c, ∃ k : Nat, ∃ l : List At, v = .slice A k c ∧ k ≤ 11 ∧ l.length = k ∧ (∀ a ∈ l, a.t.size ≤ 30) ∧ wr.ownsRow w.heap.size 23 2 v k (atoms l) ∧ Cur wr g (m + 20 + 4 * k) ∧ w.grownBy wr (some g)) (fun v _ => 11 - lenV v)
    case atStart => exact ⟨A1, c1, n1, l, rfl, by omega, hl, hsz, ho2, hc2.more (by omega), g2⟩
    case round =>
      obtain ⟨A, cc, k, l', rfl, hk, hl', hsz', hown, hcr, hgr⟩ := hrel
      go_wp2_with fail
      refine (pick_any wr g _ 2 hcr (by omega) (by omega)).mono ?_
      rintro e w3 ⟨z, rfl, z0, z1, hc3, hg3⟩
      have ho3 := own_kept hown hg3 hlt
      have g3 := hgr.trans hg3
      have s3 := g3.size
      by_cases hk2 : (k : Int) < 10 + z
      · have hlt3 := hc3.lt
        go_wp2_with fail
        refine (of_any _ g _ _ 2 2 [⟨#[97]⟩, ⟨#[104, 97, 112, 112, 121]⟩] _ (hc3.alloc _) (by omega) rfl (by omega) (by omega) (Row.lit w3 _ _) (fun b off e => by injection e with e; injection e with e; omega)).mono ?_
        rintro e w4 ⟨x, rfl, hx, hc4, hg4⟩
        have hx' : x.size ≤ 30 := by revert x; decide
        clear hx
        have ho4 := own_kept (ho3.alloc _) hg4 hlt
        have g4 := (g3.trans (World.grownBy_alloc _ _ _)).trans hg4
        have s4 := g4.size
        go_wp2_with (at_builtin; refine wpList_appN #[.int .i64 1, .string x] atT (below_grownA g4 (Nat.le_of_lt hlt)) ho4 rfl (atC_one ⟨1, x⟩) (Nat.le_of_lt hlt) s4 (by omega) (by decide) rfl (.tmp 26) (.tmp 31) rfl (w4.heap.size) rfl rfl rfl ?_; intro v5 w5 ho5 _ hg5 _)
        obtain ⟨A', c', rfl, _⟩ := own_slice ho5
        go_roundw
        case rel =>
          exact ⟨A', c', k + 1, l' ++ [⟨1, x⟩], rfl, by omega, by simp [hl'], fun z hz => by rcases List.mem_append.1 hz with h | h; exact hsz' z h; simp at h; rw [h]; exact hx', by rw [atoms_snoc]; exact ho5, (hc4.ownA ho4 hg5 hlt).more (by omega), own_grownA g4 ho4 hg5⟩
        case measure => simp [lenV]; omega
      · go_wp2
        go_ret
        exact ⟨A, k, cc, l', rfl, hl', by omega, hsz', ho3, hc3.more (by omega), g3⟩
  · have hf0 : (y == 0) = false := by simp; omega
    have hf1 : (y == 1) = false := by simp; omega
    have hf2 : (y == 2) = false := by simp; omega
    go_wp2
    go_ret
    exact ⟨A1, n1, c1, l, rfl, hl, by omega, hsz, ho2, hc2.more (by omega), g2⟩

set_option maxHeartbeats 1000000 in
theorem translation_any (w : World) (g m : Nat) (h : Cur w g m) (hm : m ≤ 10000) :
    Calls Tryd.prog 49 #[.pointer (some ⟨g, 0, none⟩)] w fun e w' => ∃ x : ByteArray, e = .returned (.string x) ∧ x.size ≤ 100 ∧ Cur w' g (m + 18) ∧ w.grownBy w' (some g) := by
  have hlt := h.lt
  go_enter Tryd.func49, Tryd.ntmps49
  go_wp2_with fail
  refine (atomsD_any w g m h hm).mono ?_
  rintro e w1 ⟨A1, n1, c1, l, rfl, hl, hn1, hn4, hsz, ho1, hc1, hg1⟩
  have hs2 : ∀ a ∈ l, a.t.size ≤ 1048576 := fun a ha => by have := hsz a ha; omega
  have hL := Lib.hid (l5List_any A1 n1 c1 l w1 hl (by unfold maxLen; omega) hs2 w1.heap.size (Nat.le_refl _) (Row.of_own ho1))
  rcases Bool.eq_false_or_eq_true (trOk l) with q | q
  · obtain ⟨_, _, hgood, h60⟩ := trOk_iff q
    have hlen : (bs (trL l)).size ≤ 100 := by rw [bs_len]; omega
    rw [q] at hL
    clear q h60
    go_wp2_with fail
    refine hL.out.mono ?_
    rintro e w2 ⟨rfl, hb2⟩
    have g2 := hg1.trans (grown_of_below hb2 (some g))
    have hc2 := hc1.below hb2 hc1.lt
    go_wp2_with fail
    refine (l5Text_any A1 n1 c1 l w2 hl (by omega) hgood hs2 w1.heap.size hb2.size ((Row.of_own ho1).below hb2)).mono ?_
    rintro e w3 ⟨rfl, hb3⟩
    go_wp2
    go_ret
    exact ⟨_, rfl, hlen, hc2.below hb3 hc2.lt, g2.trans (grown_of_below hb3 (some g))⟩
  · rw [q] at hL
    clear q
    go_wp2_with fail
    refine hL.out.mono ?_
    rintro e w2 ⟨rfl, hb2⟩
    have g2 := hg1.trans (grown_of_below hb2 (some g))
    go_wp2
    go_ret
    exact ⟨_, rfl, by decide, hc1.below hb2 hc1.lt, g2⟩
theorem drawFmtTr_any (A : Option Addr) (n c : Nat) (w : World) (h : Code w A n) :
    Calls Tryd.prog 21 #[.slice A n c] w fun e w' => ∃ A' n' c', ∃ l : List At, e = .returned (.slice A' n' c') ∧ l.length = n' ∧ n' ≤ 11 ∧ (∀ a ∈ l, a.t.size ≤ 30) ∧
      w'.ownsRow w.heap.size 23 2 (.slice A' n' c') n' (atoms l) ∧ Below w.heap.size w w' := by
  have hc := Lib.hid (h.cur c)
  go_enter Tryd.func21, Tryd.ntmps21
  go_wp2_with fail
  refine (anyAtoms_any _ w.heap.size 0 hc.out (by omega)).mono ?_
  rintro e w1 ⟨A1, n1, c1, l, rfl, hl, hn1, hsz, ho1, hc1, hg1⟩
  go_wp2
  go_ret
  exact ⟨A1, n1, c1, l, rfl, hl, hn1, hsz, own_base ho1 (by simp), below_new hg1⟩
set_option maxHeartbeats 1000000 in
theorem drawParseTr_any (A : Option Addr) (n c : Nat) (w : World) (h : Code w A n) :
    Calls Tryd.prog 26 #[.slice A n c] w fun e w' => ∃ x : ByteArray, e = .returned (.string x) ∧ x.size ≤ 1000 ∧ Below w.heap.size w w' := by
  have hc := Lib.hid (h.cur c)
  go_enter Tryd.func26, Tryd.ntmps26
  go_wp2_with fail
  refine (translation_any _ w.heap.size 0 hc.out (by omega)).mono ?_
  rintro e w2 ⟨t, rfl, hts, hc2, hg2⟩
  have b2 := below_new hg2
  go_wp2_with fail
  refine (one_any w2 w.heap.size _ 3 hc2 (by omega) (by omega)).mono ?_
  rintro e w3 ⟨b, rfl, hc3, hg3⟩
  have b3 := b2.grown hg3 b2.size (fun k e => by injection e with e; omega)
  cases b
  · go_wp2_with fail
    refine (one_any w3 w.heap.size _ 16 hc3 (by omega) (by omega)).mono ?_
    rintro e w4 ⟨b, rfl, hc4, hg4⟩
    have b4 := b3.grown hg4 b3.size (fun k e => by injection e with e; omega)
    have hlt4 := hc4.lt
    cases b
    · go_wp2
      go_ret
      exact ⟨_, rfl, by omega, b4⟩
    · go_wp2_with fail
      refine (of_any _ w.heap.size _ _ 5 5 [⟨#[]⟩, ⟨#[32]⟩, ⟨#[97, 32, 32, 98]⟩, ⟨#[97, 32, 98, 32, 99, 32, 100, 32, 101, 32, 102, 32, 103, 32, 104, 32, 105, 32, 106]⟩, ⟨#[97, 32, 98, 32, 99, 32, 100, 32, 101, 32, 102, 32, 103, 32, 104, 32, 105, 32, 106, 32, 107]⟩] _ (hc4.alloc _) (by omega) rfl (by omega) (by omega) (Row.lit w4 _ _) (fun b off e => by injection e with e; injection e with e; omega)).mono ?_
      rintro e w5 ⟨x, rfl, hx, hc5, hg5⟩
      have hx' : x.size ≤ 1000 := by revert x; decide
      go_wp2
      go_ret
      exact ⟨x, rfl, hx', (b4.alloc b4.size _).grown hg5 (by have := b4.size; simp; omega) (fun k e => by injection e with e; omega)⟩
  · go_wp2_with fail
    refine (spoilt_any w3 w.heap.size _ t ⟨#[123, 125, 94, 38, 45, 124, 46, 62, 32]⟩ hc3 (by omega) (by omega) (by decide) (by decide)).mono ?_
    rintro e w4 ⟨o, rfl, ho, hc4, hg4⟩
    have b4 := b3.grown hg4 b3.size (fun k e => by injection e with e; omega)
    go_wp2
    go_ret
    exact ⟨_, rfl, by omega, b4⟩
end Go.Proofs.YtkgphkpckcfihaaDoor
