/- Contracts of the reference's draws of texts. Condition: the bytes are at most 2^20. -/
import Derived.Test.YtpnomnicfkjcgaaDoorCur
import Derived.Test.YtpnomnicfkjcgaaDoorStrS
import Derived.Test.YtpnomnicfkjcgaaDoorPStr
namespace Go.Proofs.YtpnomnicfkjcgaaDoor
open Go.RowKit

theorem own_keptS {w w' : World} {base g : Nat} {e : TypeId} {size : Nat} {v : Value} {n : Nat} {cs : List Value} (h : w.ownsRow base e size v n cs) (hg : w.grownBy w' (some g)) (hb : g < base) : w'.ownsRow base e size v n cs :=
  h.kept hg (by
    cases hv : v.ownBlock with
    | none => exact Or.inl rfl
    | some k => right; intro e; injection e with e; have := (h.lt k hv).1; omega)
theorem grown_ownS {w wr w' : World} {g base : Nat} {e : TypeId} {size n : Nat} {v : Value} {xs : List Value} (h : w.grownBy wr (some g)) (hb : w.heap.size ≤ base) (ho : wr.ownsRow base e size v n xs) (hg : wr.grownBy w' v.ownBlock) : w.grownBy w' (some g) :=
  ⟨hg.os.trans h.os, hg.tape.trans h.tape, hg.output.trans h.output, Nat.le_trans h.size hg.size, fun i hi hne =>
    (hg.block i (Nat.lt_of_lt_of_le hi h.size) (fun e => by have := (ho.lt i e.symm).1; omega)).trans (h.block i hi hne)⟩
theorem cur_ownS {w w' : World} {g m : Nat} {base : Nat} {e : TypeId} {size n : Nat} {v : Value} {xs : List Value} (h : Cur w g m) (ho : w.ownsRow base e size v n xs) (hg : w.grownBy w' v.ownBlock) (hb : g < base) : Cur w' g m :=
  h.grown hg fun k e => by have := (ho.lt k e).1; omega
theorem bytesT : ElemT Tryd.prog 35 5 (.int .u8 0) 1 1 := ⟨Tryd.underlying35, by kernel_rfl, rfl, by decide⟩
def zObj (m : Nat) : Obj := .cells (madeCells #[.int .u8 0] m) 5
def zText (m : Nat) : ByteArray := strOfNums (List.replicate m 0)
theorem zText_size (m : Nat) : (zText m).size = m := by simp [zText, strOfNums, ByteArray.size]
theorem zmake (z : Int) (m : Nat) (h : z = m) (hm : m ≤ 1099511627776) (W : World) : (Instr.makeSlice 35 (.int .i64 z) (.int .i64 z)).run Tryd.prog W = .ok (.slice (some ⟨W.heap.size, 0, none⟩) m m) (W.alloc (zObj m)) := by
  subst h
  have := run_make_len (P := Tryd.prog) bytesT m hm (by decide) W
  rw [Nat.mul_one] at this
  exact this
theorem zconv (m : Nat) (W : World) : (convert 35 9 (.slice (some ⟨W.heap.size, 0, none⟩) m m)).run Tryd.prog (W.alloc (zObj m)) = .ok (.string (zText m)) (W.alloc (zObj m)) :=
  run_convert_bytes_arg (P := Tryd.prog) (W.alloc (zObj m)) 35 5 Tryd.underlying35 Tryd.underlying5 W.heap.size 0 m m (List.replicate m 0) (by simp) (fun i hi => by
    rw [Nat.zero_add, zObj, cell_of_row _ W.heap.size i _ 5 (0, 0) (heap_alloc_new W _), ← Array.getElem?_toList, toList_madeCells_one]
    simp [hi]) 9 Tryd.underlying9
structure DrS (w0 : World) (g base : Nat) (v : Value) (ss : List ByteArray) (m : Nat) (wr : World) : Prop where
  own : wr.ownsRow base 9 1 v ss.length (strs ss)
  cur : Cur wr g m
  gr : w0.grownBy wr (some g)
  sz : base ≤ wr.heap.size
def anyL : List ByteArray := [⟨#[]⟩, ⟨#[97]⟩, ⟨#[97, 44, 98]⟩, ⟨#[115, 111, 109, 101, 32, 119, 111, 114, 100, 115]⟩, ⟨#[120, 35, 121]⟩, ⟨#[45, 49, 50]⟩, ⟨#[0, 255]⟩, ⟨#[44, 44]⟩, ⟨#[48]⟩]
theorem anyL_size : ∀ s ∈ anyL, s.size ≤ 10 := by decide
theorem any1_any (w : World) (g m : Nat) (h : Cur w g m) (hm : m ≤ 1000000) :
    Calls Tryd.prog 49 #[.pointer (some ⟨g, 0, none⟩)] w fun e w' => ∃ x, e = .returned (.string x) ∧ x ∈ anyL ∧ Cur w' g (m + 2) ∧ w.grownBy w' (some g) := by
  have hlt := h.lt
  go_enter Tryd.func49, Tryd.ntmps49
  go_wp2_with fail
  refine (of_any _ g m _ 9 9 anyL _ (h.alloc _) (by omega) rfl (by omega) (by omega) (Row.lit w _ _) (fun b off e => by injection e with e; injection e with e; omega)).mono ?_
  rintro e w2 ⟨x, rfl, hx, hc2, hg2⟩
  go_wp2
  go_ret
  exact ⟨x, rfl, hx, hc2, (World.grownBy_alloc w _ _).trans hg2⟩
theorem drawLess_any (A : Option Addr) (n c : Nat) (w : World) (h : Code w A n) :
    Calls Tryd.prog 28 #[.slice A n c] w fun e w' => ∃ a b, e = .returned (.tuple #[.string a, .string b]) ∧ a ∈ anyL ∧ b ∈ anyL ∧ Below w.heap.size w w' := by
  go_enter Tryd.func28, Tryd.ntmps28
  go_wp2_with fail
  refine (any1_any _ w.heap.size 0 (h.cur c) (by omega)).mono ?_
  rintro e w1 ⟨x, rfl, hx, hc1, hg1⟩
  go_wp2_with fail
  refine (any1_any w1 w.heap.size _ hc1 (by omega)).mono ?_
  rintro e w2 ⟨y, rfl, hy, hc2, hg2⟩
  go_wp2
  go_ret2
  exact ⟨x, y, rfl, hx, hy, below_new (hg1.trans hg2)⟩
theorem drawSplit_any (A : Option Addr) (n c : Nat) (w : World) (h : Code w A n) :
    Calls Tryd.prog 24 #[.slice A n c] w fun e w' => ∃ a b, e = .returned (.tuple #[.string a, .string b]) ∧ a.size ≤ 10 ∧ b.size ≤ 2 ∧ Below w.heap.size w w' := by
  go_enter Tryd.func24, Tryd.ntmps24
  go_wp2_with fail
  refine (any1_any _ w.heap.size 0 (h.cur c) (by omega)).mono ?_
  rintro e w1 ⟨x, rfl, hx, hc1, hg1⟩
  have hlt := hc1.lt
  go_wp2_with fail
  refine (of_any _ w.heap.size _ _ 5 5 [⟨#[44]⟩, ⟨#[44]⟩, ⟨#[32]⟩, ⟨#[]⟩, ⟨#[44, 44]⟩] _ (hc1.alloc _) (by omega) rfl (by omega) (by omega) (Row.lit w1 _ _) (fun b off e => by injection e with e; injection e with e; omega)).mono ?_
  rintro e w2 ⟨y, rfl, hy, hc2, hg2⟩
  go_wp2
  go_ret2
  exact ⟨x, y, rfl, anyL_size _ hx, by revert y; decide, below_new ((hg1.trans (World.grownBy_alloc w1 _ _)).trans hg2)⟩
theorem implLess_any (a b : ByteArray) (w : World) : Calls Tryd.prog 29 #[.string a, .string b] w fun e w' => e = .returned (.bool (Op.bytesLess a.toList b.toList)) ∧ w = w' := by
  go_enter Tryd.func29, Tryd.ntmps29
  go_wp2
  go_ret
  exact ⟨rfl, rfl⟩
theorem specLess_any (a b : ByteArray) (w : World) : Calls Tryd.prog 30 #[.string a, .string b] w fun e w' => e = .returned (.bool (Op.bytesLess a.toList b.toList)) ∧ w = w' := by
  go_enter Tryd.func30, Tryd.ntmps30
  go_wp2
  go_ret
  exact ⟨rfl, rfl⟩
theorem less_asym : ∀ a b : List UInt8, Op.bytesLess a b = true → Op.bytesLess b a = false
  | [], _, h => by simp [Op.bytesLess]
  | _ :: _, [], h => by simp [Op.bytesLess] at h
  | a :: x, b :: y, h => by
    have := less_asym x y
    simp only [Op.bytesLess, Bool.or_eq_true, decide_eq_true_eq, Bool.and_eq_true, beq_iff_eq] at h
    simp only [Op.bytesLess]
    rcases h with h | ⟨rfl, h⟩
    · have h1 : ¬ b < a := by rw [UInt8.lt_iff_toNat_lt] at *; omega
      have h2 : (b == a) = false := by rw [beq_eq_false_iff_ne]; rintro rfl; rw [UInt8.lt_iff_toNat_lt] at h; omega
      simp [h1, h2]
    · have h1 : ¬ a < a := by rw [UInt8.lt_iff_toNat_lt]; omega
      simp [h1, this h]
theorem sizes_le {ss : List ByteArray} {k : Nat} (h : ∀ s ∈ ss, s.size ≤ k) : sizes ss ≤ k * ss.length := by
  induction ss with
  | nil => simp [sizes]
  | cons a l ih =>
    have h1 := h a (by simp)
    have h2 := ih (fun s hs => h s (by simp [hs]))
    simp only [sizes, List.map_cons, List.sum_cons, List.length_cons] at *
    rw [Nat.mul_add]
    omega
set_option maxRecDepth 100000 in
set_option maxHeartbeats 1000000 in
theorem drawJoin_any (A : Option Addr) (n c : Nat) (w : World) (h : Code w A n) :
    Calls Tryd.prog 25 #[.slice A n c] w fun e w' => ∃ A' n' c', ∃ ss : List ByteArray, ∃ x : ByteArray, e = .returned (.tuple #[.slice A' n' c', .string x]) ∧ ss.length = n' ∧ n' ≤ 5 ∧ sizes ss ≤ 5000 ∧ x.size ≤ 2 ∧
      w'.ownsRow w.heap.size 9 1 (.slice A' n' c') n' (strs ss) ∧ Below w.heap.size w w' := by
  go_enter Tryd.func25, Tryd.ntmps25
  go_wp2_with fail
  have hcw := h.cur c
  have hlt0 := hcw.lt
  refine (pick_any _ w.heap.size 0 4 (hcw.alloc (.cells #[] 9)) (by omega) (by omega)).mono ?_
  rintro e w1 ⟨y, rfl, y0, y1, hc1, hg1⟩
  have ho1 := own_keptS (World.ownsRow_made (w.alloc (.cells #[.slice A n c, .int .i64 0, .int .u64 0] 60)) #[] 0 (base := w.heap.size + 1) (e := 9) (size := 1) (by simp) (by unfold maxLen; omega) (by simp)) hg1 (by omega)
  have g1 := ((World.grownBy_alloc (w.alloc (.cells #[.slice A n c, .int .i64 0, .int .u64 0] 60)) (.cells #[] 9) (some w.heap.size))).trans hg1
  have D1 : DrS (w.alloc (.cells #[.slice A n c, .int .i64 0, .int .u64 0] 60)) w.heap.size (w.heap.size + 1) (.slice (some ⟨w.heap.size + 1, 0, none⟩) 0 0) [] 2 w1 := ⟨by simpa [strs] using ho1, hc1, g1, by have := g1.size; simp at this; omega⟩
  clear hg1 ho1 g1 hcw hc1
  go_wp2
  go_loopw [5, 7] (fun v i wr => ∃ j : Nat, ∃ ss : List ByteArray, i = .int .i64 j ∧ j ≤ 4 ∧ ss.length ≤ 4 ∧ j = ss.length ∧ (∀ s ∈ ss, s.size ≤ 10) ∧ DrS (w.alloc (.cells #[.slice A n c, .int .i64 0, .int .u64 0] 60)) w.heap.size (w.heap.size + 1) v ss (2 + 2 * j) wr) (fun _ i _ => 4 - (intOf i).toNat)
  case atStart => exact ⟨0, [], rfl, by omega, by simp, rfl, by simp, D1⟩
  case round =>
    obtain ⟨j, ss, rfl, hj, hl, hjl, hs, D⟩ := hrel
    clear D1
    by_cases hlt : (j : Int) < y
    · go_wp2_with fail
      refine (any1_any wr w.heap.size _ D.cur (by omega)).mono ?_
      rintro e w2 ⟨x, rfl, hx, hc2, hg2⟩
      have hx10 := anyL_size _ hx
      have ho2 := own_keptS D.own hg2 (by omega)
      have g2 := D.gr.trans hg2
      have s2 := Nat.le_trans D.sz hg2.size
      clear D
      go_wp2_with (at_builtin; refine wpList_app1 (.string x) strsT (Below.refl 0 w2) ho2 rfl (Nat.zero_le _) s2 (by omega) (by decide) rfl (.tmp 19) (.tmp 22) rfl rfl rfl ?_; intro v5 w5 ho5 _ hg5 _)
      go_roundw
      case rel => exact ⟨j + 1, ss ++ [x], by go_num, by omega, by simp; omega, by simp; omega, fun z hz => by rcases List.mem_append.1 hz with h | h; exact hs z h; simp at h; rw [h]; exact hx10, ⟨by rw [strs_snoc]; simpa using ho5, (cur_ownS hc2 ho2 hg5 (by omega)).more (by omega), grown_ownS g2 (by simp) ho2 hg5, Nat.le_trans s2 hg5.size⟩⟩
      case measure => simp [intOf]; omega
    · have hsz := sizes_le hs
      go_wp2_with fail
      refine (one_any wr w.heap.size _ 20 D.cur (by omega) (by omega)).mono ?_
      rintro e w2 ⟨b, rfl, hc2, hg2⟩
      have ho2 := own_keptS D.own hg2 (by omega)
      have g2 := D.gr.trans hg2
      have s2 := Nat.le_trans D.sz hg2.size
      clear D
      cases b
      · have hlt9 := hc2.lt
        go_wp2_with fail
        refine (of_any _ w.heap.size _ _ 5 5 [⟨#[44]⟩, ⟨#[59]⟩, ⟨#[59]⟩, ⟨#[]⟩, ⟨#[97, 98]⟩] _ (hc2.alloc _) (by omega) rfl (by omega) (by omega) (Row.lit w2 _ _) (fun b off e => by injection e with e; injection e with e; omega)).mono ?_
        rintro e w9 ⟨x9, rfl, hx9, hc9, hg9⟩
        have ho9 := own_keptS (ho2.alloc (.cells #[.string ⟨#[44]⟩, .string ⟨#[59]⟩, .string ⟨#[59]⟩, .string ⟨#[]⟩, .string ⟨#[97, 98]⟩] 9)) hg9 (by omega)
        obtain ⟨A', c', rfl, _⟩ := own_slice ho9
        have hx9' : x9.size ≤ 2 := by revert x9; decide
        go_wp2
        go_ret2
        exact ⟨A', _, c', ss, x9, rfl, rfl, by omega, by omega, hx9', own_base ho9 (by omega), below_new ((g2.trans (World.grownBy_alloc w2 _ _)).trans hg9)⟩
      · go_wp2_with fail
        refine (pick_any w2 w.heap.size _ 20 hc2 (by omega) (by omega)).mono ?_
        rintro e w3 ⟨z, rfl, z0, z1, hc3, hg3⟩
        have ho3 := own_keptS ho2 hg3 (by omega)
        have g3 := g2.trans hg3
        have s3 := Nat.le_trans s2 hg3.size
        obtain ⟨k, rfl⟩ := Int.eq_ofNat_of_zero_le z0
        have hmk := zmake (3990 + (k : Int)) (3990 + k) (by omega) (by omega) w3
        have hcv := zconv (3990 + k) w3
        have hzs := zText_size (3990 + k)
        generalize zText (3990 + k) = x at hcv hzs
        have ho4 := ho3.alloc (zObj (3990 + k))
        have g4 := g3.trans (World.grownBy_alloc w3 (zObj (3990 + k)) (some w.heap.size))
        have hc4 := hc3.alloc (zObj (3990 + k))
        have s4 : w.heap.size + 1 ≤ (w3.alloc (zObj (3990 + k))).heap.size := by simp; omega
        have hw4 := Lib.hid (rfl : w3.alloc (zObj (3990 + k)) = w3.alloc (zObj (3990 + k)))
        generalize w3.alloc (zObj (3990 + k)) = w4 at hmk hcv ho4 g4 hc4 s4
        go_wp2_with (at_builtin; refine wpList_app1 (.string x) strsT (Below.refl 0 w4) ho4 rfl (Nat.zero_le _) s4 (by omega) (by decide) rfl (.tmp 26) (.tmp 32) rfl rfl rfl ?_; intro v5 w5 ho5 _ hg5 _)
        have hc5 := cur_ownS hc4 ho4 hg5 (by omega)
        have g5 := grown_ownS g4 (by simp) ho4 hg5
        have ss5 : sizes (ss ++ [x]) ≤ 5000 := by rw [sizes_snoc]; omega
        have hlt9 := hc5.lt
        have ho5' : w5.ownsRow (w.heap.size + 1) 9 1 v5 (ss.length + 1) (strs (ss ++ [x])) := by rw [strs_snoc]; exact ho5
        go_wp2_with fail
        refine (of_any _ w.heap.size _ _ 5 5 [⟨#[44]⟩, ⟨#[59]⟩, ⟨#[59]⟩, ⟨#[]⟩, ⟨#[97, 98]⟩] _ (hc5.alloc _) (by omega) rfl (by omega) (by omega) (Row.lit w5 _ _) (fun b off e => by injection e with e; injection e with e; omega)).mono ?_
        rintro e w9 ⟨x9, rfl, hx9, hc9, hg9⟩
        have ho9 := own_keptS (ho5'.alloc (.cells #[.string ⟨#[44]⟩, .string ⟨#[59]⟩, .string ⟨#[59]⟩, .string ⟨#[]⟩, .string ⟨#[97, 98]⟩] 9)) hg9 (by omega)
        obtain ⟨A', c', rfl, _⟩ := own_slice ho9
        have hx9' : x9.size ≤ 2 := by revert x9; decide
        go_wp2
        go_ret2
        exact ⟨A', _, c', ss ++ [x], x9, rfl, by simp, by omega, ss5, hx9', own_base ho9 (by omega), below_new ((g5.trans (World.grownBy_alloc w5 _ _)).trans hg9)⟩
end Go.Proofs.YtpnomnicfkjcgaaDoor
