/- The contract of l5Kind. Condition: the text is at most 2^20 bytes. -/
import Derived.Test.YtnpiljkchjdpfaaDoorFmtA
namespace Go.Proofs.YtnpiljkchjdpfaaDoor
open Go.RowKit

/-- The atom of what stands between the braces. -/
def kindU (u : List UInt8) : Int × List UInt8 :=
  if u = [45, 124] then (8, []) else if u = [62] then (9, []) else if u = [42, 45, 124] then (10, [])
  else if u = [46] ∨ u = [33] ∨ u = [63] then (6, u) else if u = [44] ∨ u = [59] ∨ u = [58] then (7, u)
  else if u.head? = some 38 then (5, u.drop 1)
  else if u.head? = some 94 ∧ u.getLast? = some 94 ∧ 2 < u.length then (4, (u.drop 1).take (u.length - 1 - 1))
  else if u.head? = some 94 then (2, u.drop 1)
  else if u.getLast? = some 94 then (3, u.take (u.length - 1))
  else (0, [])
theorem lit_t {U : ByteArray} {l : List UInt8} (h : U.data.toList = l) : (U.toList == (bs l).toList) = true ∧ (U.toList == l) = true := ⟨by rw [beq_lit]; simpa using h, by rw [beq_lit2]; simpa using h⟩
theorem lit_f {U : ByteArray} {l : List UInt8} (h : ¬ U.data.toList = l) : (U.toList == (bs l).toList) = false ∧ (U.toList == l) = false := ⟨by rw [beq_lit]; simpa using h, by rw [beq_lit2]; simpa using h⟩
theorem byte_t {a b : UInt8} (h : a = b) : ((a.toNat : Int) == (b.toNat : Int)) = true := by rw [h]; simp
theorem byte_f {a b : UInt8} (h : ¬ a = b) : ((a.toNat : Int) == (b.toNat : Int)) = false := by
  simp only [beq_eq_false_iff_ne, ne_eq, Int.natCast_inj]
  exact fun e => h (UInt8.toNat_inj.1 e)
theorem bne_of {a b : Int} {x : Bool} (h : (a == b) = x) : (a != b) = !x := by rw [bne, h]
theorem extractA (t : ByteArray) (f k : Nat) : t.extract f k = bs ((t.data.toList.drop f).take (k - f)) := by
  apply bs_of
  simp
theorem ends (w w' : World) (a : Act) (k : Int) (s : ByteArray) {x : Int × List UInt8} (h : x = (k, s.data.toList)) (hw : w' = w.alloc (.cells #[.int .i64 k, .string s] 97)) (ha : a.eval (.tmp 2) = .pointer (some ⟨w.heap.size, 0, none⟩)) (hd : a.defers = []) :
    bodyPost Tryd.prog Tryd.f89 (fun e w' => e = .returned (.agg #[.int .i64 x.1, .string (bs x.2)]) ∧ Below w.heap.size w w') .ret a w' := by
  subst h hw
  refine bodyPost_ret (results_cell_row rfl _ _ w.heap.size 97 #[.int .i64 k, .string s] (0, 0) _ ha ?_ Tryd.underlying97 rfl (by kernel_rfl)) hd ?_
  · exact heap_alloc_new w _
  exact ⟨rfl, (Below.refl _ _).alloc (Nat.le_refl _) _⟩
theorem head_at {l : List UInt8} (h : 0 < l.length) : l.head? = some (l[0]) := by
  match l, h with
  | a :: r, _ => rfl
theorem last_at {l : List UInt8} (h : 0 < l.length) : l.getLast? = some (l[l.length - 1]) := by
  rw [List.getLast?_eq_getElem?, List.getElem?_eq_getElem]

set_option linter.unusedVariables false
set_option maxHeartbeats 8000000 in
theorem l5Kind_in (t U : ByteArray) (w : World) (hm : t.size ≤ 1048576) (h3 : 3 ≤ t.size)
   (hd : t.data.size = t.size)
   (f1 : (((t.data[0]'(by omega)).toNat : Int) != 123) = false) (f2 : (((t[0]'(by omega)).toNat : Int) != 123) = false)
   (g1 : (((t.data[t.size - 1]'(by omega)).toNat : Int) != 125) = false) (g2 : (((t[t.size - 1]'(by omega)).toNat : Int) != 125) = false) (hs1 : ((t.size : Int) - 1).toNat = t.size - 1) (hx : t.extract 1 (t.size - 1) = U) (hU : 1 ≤ U.size) (hUm : U.size ≤ 1048576) :
    Calls Tryd.prog 89 #[.string t] w fun e w' => e = .returned (.agg #[.int .i64 (kindU U.data.toList).1, .string (bs (kindU U.data.toList).2)]) ∧ Below w.heap.size w w' := by
  have e3 : decide ((t.size : Int) < 3) = false := by simp; omega
  have h0 : 0 < t.size := by omega
  have h1 : t.size - 1 < t.size := by omega
  have h4 : (0 : Int) ≤ (t.size : Int) - 1 := by omega
  have h5 : (t.size : Int) - 1 < (t.size : Int) := by omega
  have h6 : (1 : Int) ≤ (t.size : Int) := by omega
  have h7 : (1 : Int) ≤ (t.size : Int) - 1 := by omega
  have h8 : (t.size : Int) - 1 ≤ (t.size : Int) := by omega
  have u0 : 0 < U.size := by omega
  have u1 : U.size - 1 < U.size := by omega
  have u2 : (0 : Int) ≤ (U.size : Int) - 1 := by omega
  have u3 : (U.size : Int) - 1 < (U.size : Int) := by omega
  have u4 : (1 : Int) ≤ (U.size : Int) := by omega
  have u5 : (U.size : Int) - 1 ≤ (U.size : Int) := by omega
  have us1 : ((U.size : Int) - 1).toNat = U.size - 1 := by omega
  have hUl : U.data.toList.length = U.size := (bs_size' U).symm
  have hUd : U.data.size = U.size := rfl
  have hhd := Lib.hid (head_at (l := U.data.toList) (by omega))
  have hla := Lib.hid (last_at (l := U.data.toList) (by omega))
  have hS : Hid (bs U.data.toList = U) := bs_self U
  by_cases c0 : U.data.toList = [45, 124]
  · have q0a : (U.toList == (⟨#[45, 124]⟩ : ByteArray).toList) = true := (lit_t c0).1
    have q0b : (U.toList == [45, 124]) = true := (lit_t c0).2
    have K := Lib.hid (show kindU U.data.toList = (8, ((⟨#[]⟩ : ByteArray) : ByteArray).data.toList) by simp [kindU, c0])
    clear c0
    go_enter Tryd.func89, Tryd.ntmps89
    go_wp2
    exact ends _ _ _ _ _ K.out rfl rfl rfl
  have q0a : (U.toList == (⟨#[45, 124]⟩ : ByteArray).toList) = false := (lit_f c0).1
  have q0b : (U.toList == [45, 124]) = false := (lit_f c0).2
  by_cases c1 : U.data.toList = [62]
  · have q1a : (U.toList == (⟨#[62]⟩ : ByteArray).toList) = true := (lit_t c1).1
    have q1b : (U.toList == [62]) = true := (lit_t c1).2
    have K := Lib.hid (show kindU U.data.toList = (9, ((⟨#[]⟩ : ByteArray) : ByteArray).data.toList) by simp [kindU, c1])
    clear c1
    go_enter Tryd.func89, Tryd.ntmps89
    go_wp2
    exact ends _ _ _ _ _ K.out rfl rfl rfl
  have q1a : (U.toList == (⟨#[62]⟩ : ByteArray).toList) = false := (lit_f c1).1
  have q1b : (U.toList == [62]) = false := (lit_f c1).2
  by_cases c2 : U.data.toList = [42, 45, 124]
  · have q2a : (U.toList == (⟨#[42, 45, 124]⟩ : ByteArray).toList) = true := (lit_t c2).1
    have q2b : (U.toList == [42, 45, 124]) = true := (lit_t c2).2
    have K := Lib.hid (show kindU U.data.toList = (10, ((⟨#[]⟩ : ByteArray) : ByteArray).data.toList) by simp [kindU, c2])
    clear c2
    go_enter Tryd.func89, Tryd.ntmps89
    go_wp2
    exact ends _ _ _ _ _ K.out rfl rfl rfl
  have q2a : (U.toList == (⟨#[42, 45, 124]⟩ : ByteArray).toList) = false := (lit_f c2).1
  have q2b : (U.toList == [42, 45, 124]) = false := (lit_f c2).2
  by_cases c3 : U.data.toList = [46]
  · have q3a : (U.toList == (⟨#[46]⟩ : ByteArray).toList) = true := (lit_t c3).1
    have q3b : (U.toList == [46]) = true := (lit_t c3).2
    have K := Lib.hid (show kindU U.data.toList = (6, (U : ByteArray).data.toList) by simp [kindU, c3])
    clear c3
    go_enter Tryd.func89, Tryd.ntmps89
    go_wp2
    exact ends _ _ _ _ _ K.out rfl rfl rfl
  have q3a : (U.toList == (⟨#[46]⟩ : ByteArray).toList) = false := (lit_f c3).1
  have q3b : (U.toList == [46]) = false := (lit_f c3).2
  by_cases c4 : U.data.toList = [33]
  · have q4a : (U.toList == (⟨#[33]⟩ : ByteArray).toList) = true := (lit_t c4).1
    have q4b : (U.toList == [33]) = true := (lit_t c4).2
    have K := Lib.hid (show kindU U.data.toList = (6, (U : ByteArray).data.toList) by simp [kindU, c4])
    clear c4
    go_enter Tryd.func89, Tryd.ntmps89
    go_wp2
    exact ends _ _ _ _ _ K.out rfl rfl rfl
  have q4a : (U.toList == (⟨#[33]⟩ : ByteArray).toList) = false := (lit_f c4).1
  have q4b : (U.toList == [33]) = false := (lit_f c4).2
  by_cases c5 : U.data.toList = [63]
  · have q5a : (U.toList == (⟨#[63]⟩ : ByteArray).toList) = true := (lit_t c5).1
    have q5b : (U.toList == [63]) = true := (lit_t c5).2
    have K := Lib.hid (show kindU U.data.toList = (6, (U : ByteArray).data.toList) by simp [kindU, c5])
    clear c5
    go_enter Tryd.func89, Tryd.ntmps89
    go_wp2
    exact ends _ _ _ _ _ K.out rfl rfl rfl
  have q5a : (U.toList == (⟨#[63]⟩ : ByteArray).toList) = false := (lit_f c5).1
  have q5b : (U.toList == [63]) = false := (lit_f c5).2
  by_cases c6 : U.data.toList = [44]
  · have q6a : (U.toList == (⟨#[44]⟩ : ByteArray).toList) = true := (lit_t c6).1
    have q6b : (U.toList == [44]) = true := (lit_t c6).2
    have K := Lib.hid (show kindU U.data.toList = (7, (U : ByteArray).data.toList) by simp [kindU, c6])
    clear c6
    go_enter Tryd.func89, Tryd.ntmps89
    go_wp2
    exact ends _ _ _ _ _ K.out rfl rfl rfl
  have q6a : (U.toList == (⟨#[44]⟩ : ByteArray).toList) = false := (lit_f c6).1
  have q6b : (U.toList == [44]) = false := (lit_f c6).2
  by_cases c7 : U.data.toList = [59]
  · have q7a : (U.toList == (⟨#[59]⟩ : ByteArray).toList) = true := (lit_t c7).1
    have q7b : (U.toList == [59]) = true := (lit_t c7).2
    have K := Lib.hid (show kindU U.data.toList = (7, (U : ByteArray).data.toList) by simp [kindU, c7])
    clear c7
    go_enter Tryd.func89, Tryd.ntmps89
    go_wp2
    exact ends _ _ _ _ _ K.out rfl rfl rfl
  have q7a : (U.toList == (⟨#[59]⟩ : ByteArray).toList) = false := (lit_f c7).1
  have q7b : (U.toList == [59]) = false := (lit_f c7).2
  by_cases c8 : U.data.toList = [58]
  · have q8a : (U.toList == (⟨#[58]⟩ : ByteArray).toList) = true := (lit_t c8).1
    have q8b : (U.toList == [58]) = true := (lit_t c8).2
    have K := Lib.hid (show kindU U.data.toList = (7, (U : ByteArray).data.toList) by simp [kindU, c8])
    clear c8
    go_enter Tryd.func89, Tryd.ntmps89
    go_wp2
    exact ends _ _ _ _ _ K.out rfl rfl rfl
  have q8a : (U.toList == (⟨#[58]⟩ : ByteArray).toList) = false := (lit_f c8).1
  have q8b : (U.toList == [58]) = false := (lit_f c8).2
  have n1 : ∀ a : UInt8, (U.data.toList.head? = some a) = (U.data[0] = a) := fun a => by rw [hhd.out]; simp
  have n2 : ∀ a : UInt8, (U.data.toList.getLast? = some a) = (U.data[U.size - 1] = a) := fun a => by rw [hla.out]; simp
  have N := Lib.hid n1
  have M := Lib.hid n2
  clear n1 n2 hhd hla
  by_cases b5 : U.data[0] = 38
  · have b5a : ((U.data[0].toNat : Int) == 38) = true := byte_t b5
    have b5b : ((U[0].toNat : Int) == 38) = true := byte_t b5
    have K := Lib.hid (show kindU U.data.toList = (5, (U.extract 1 U.size : ByteArray).data.toList) by rw [kindU, if_neg c0, if_neg c1, if_neg c2, if_neg (by rintro (h | h | h) <;> contradiction), if_neg (by rintro (h | h | h) <;> contradiction), if_pos (by rw [N.out]; exact b5), extractA, bs_toList, List.take_of_length_le (by rw [List.length_drop]; omega)])
    go_enter Tryd.func89, Tryd.ntmps89
    go_wp2
    exact ends _ _ _ _ _ K.out rfl rfl rfl
  have b5a : ((U.data[0].toNat : Int) == 38) = false := byte_f b5
  have b5b : ((U[0].toNat : Int) == 38) = false := byte_f b5
  by_cases b9 : U.data[0] = 94
  · have b9a : ((U.data[0].toNat : Int) == 94) = true := byte_t b9
    have b9b : ((U[0].toNat : Int) == 94) = true := byte_t b9
    by_cases b8 : U.data[U.size - 1] = 94
    · have b8a : ((U.data[U.size - 1].toNat : Int) == 94) = true := byte_t b8
      have b8b : ((U[U.size - 1].toNat : Int) == 94) = true := byte_t b8
      by_cases l2 : 2 < U.size
      · have l2a : decide (2 < (U.size : Int)) = true := by simp; omega
        have l3 : (1 : Int) ≤ (U.size : Int) - 1 := by omega
        have K := Lib.hid (show kindU U.data.toList = (4, (U.extract 1 (U.size - 1) : ByteArray).data.toList) by rw [kindU, if_neg c0, if_neg c1, if_neg c2, if_neg (by rintro (h | h | h) <;> contradiction), if_neg (by rintro (h | h | h) <;> contradiction), if_neg (by rw [N.out]; exact b5), if_pos ⟨by rw [N.out]; exact b9, by rw [M.out]; exact b8, by omega⟩, extractA, bs_toList, hUl])
        go_enter Tryd.func89, Tryd.ntmps89
        go_wp2
        exact ends _ _ _ _ _ K.out rfl rfl rfl
      · have l2a : decide (2 < (U.size : Int)) = false := by simp; omega
        have K := Lib.hid (show kindU U.data.toList = (2, (U.extract 1 U.size : ByteArray).data.toList) by rw [kindU, if_neg c0, if_neg c1, if_neg c2, if_neg (by rintro (h | h | h) <;> contradiction), if_neg (by rintro (h | h | h) <;> contradiction), if_neg (by rw [N.out]; exact b5), if_neg (by rintro ⟨_, _, h⟩; omega), if_pos (by rw [N.out]; exact b9), extractA, bs_toList, List.take_of_length_le (by rw [List.length_drop]; omega)])
        go_enter Tryd.func89, Tryd.ntmps89
        go_wp2
        exact ends _ _ _ _ _ K.out rfl rfl rfl
    have b8a : ((U.data[U.size - 1].toNat : Int) == 94) = false := byte_f b8
    have b8b : ((U[U.size - 1].toNat : Int) == 94) = false := byte_f b8
    have K := Lib.hid (show kindU U.data.toList = (2, (U.extract 1 U.size : ByteArray).data.toList) by rw [kindU, if_neg c0, if_neg c1, if_neg c2, if_neg (by rintro (h | h | h) <;> contradiction), if_neg (by rintro (h | h | h) <;> contradiction), if_neg (by rw [N.out]; exact b5), if_neg (by rintro ⟨_, h, _⟩; rw [M.out] at h; exact b8 h), if_pos (by rw [N.out]; exact b9), extractA, bs_toList, List.take_of_length_le (by rw [List.length_drop]; omega)])
    go_enter Tryd.func89, Tryd.ntmps89
    go_wp2
    exact ends _ _ _ _ _ K.out rfl rfl rfl
  have b9a : ((U.data[0].toNat : Int) == 94) = false := byte_f b9
  have b9b : ((U[0].toNat : Int) == 94) = false := byte_f b9
  by_cases b8 : U.data[U.size - 1] = 94
  · have b8a : ((U.data[U.size - 1].toNat : Int) == 94) = true := byte_t b8
    have b8b : ((U[U.size - 1].toNat : Int) == 94) = true := byte_t b8
    have K := Lib.hid (show kindU U.data.toList = (3, (U.extract 0 (U.size - 1) : ByteArray).data.toList) by rw [kindU, if_neg c0, if_neg c1, if_neg c2, if_neg (by rintro (h | h | h) <;> contradiction), if_neg (by rintro (h | h | h) <;> contradiction), if_neg (by rw [N.out]; exact b5), if_neg (by rintro ⟨h, _, _⟩; rw [N.out] at h; exact b9 h), if_neg (by rw [N.out]; exact b9), if_pos (by rw [M.out]; exact b8), extractA, bs_toList, List.drop_zero, hUl, Nat.sub_zero])
    go_enter Tryd.func89, Tryd.ntmps89
    go_wp2
    exact ends _ _ _ _ _ K.out rfl rfl rfl
  have b8a : ((U.data[U.size - 1].toNat : Int) == 94) = false := byte_f b8
  have b8b : ((U[U.size - 1].toNat : Int) == 94) = false := byte_f b8
  have K := Lib.hid (show kindU U.data.toList = (0, ((⟨#[]⟩ : ByteArray) : ByteArray).data.toList) by rw [kindU, if_neg c0, if_neg c1, if_neg c2, if_neg (by rintro (h | h | h) <;> contradiction), if_neg (by rintro (h | h | h) <;> contradiction), if_neg (by rw [N.out]; exact b5), if_neg (by rintro ⟨h, _, _⟩; rw [N.out] at h; exact b9 h), if_neg (by rw [N.out]; exact b9), if_neg (by rw [M.out]; exact b8)])
  go_enter Tryd.func89, Tryd.ntmps89
  go_wp2
  exact ends _ _ _ _ _ K.out rfl rfl rfl

theorem kindA_in (s : List UInt8) (h : ¬ (s.length < 3 ∨ s.head? ≠ some 123 ∨ s.getLast? ≠ some 125)) : kindA s = kindU ((s.drop 1).take (s.length - 1 - 1)) := by rw [kindA, if_neg h]; rfl
set_option maxHeartbeats 2000000 in
theorem l5Kind_any (t : ByteArray) (w : World) (hm : t.size ≤ 1048576) :
    Calls Tryd.prog 89 #[.string t] w fun e w' => e = .returned (.agg #[.int .i64 (kindA t.data.toList).1, .string (bs (kindA t.data.toList).2)]) ∧ Below w.heap.size w w' := by
  have hl : t.data.toList.length = t.size := (bs_size' t).symm
  have hd : t.data.size = t.size := rfl
  by_cases h3 : t.size < 3
  · have e3 : decide ((t.size : Int) < 3) = true := by simp; omega
    have K := Lib.hid (show kindA t.data.toList = (1, t.data.toList) by rw [kindA, if_pos (Or.inl (by omega))])
    go_enter Tryd.func89, Tryd.ntmps89
    go_wp2
    exact ends _ _ _ _ _ K.out rfl rfl rfl
  · have h0 : 0 < t.size := by omega
    have h1 : t.size - 1 < t.size := by omega
    have hh := head_at (l := t.data.toList) (by omega)
    have hla := last_at (l := t.data.toList) (by omega)
    have N := Lib.hid (show ∀ a : UInt8, (t.data.toList.head? = some a) = (t.data[0] = a) from fun a => by rw [hh]; simp)
    have M := Lib.hid (show ∀ a : UInt8, (t.data.toList.getLast? = some a) = (t.data[t.size - 1] = a) from fun a => by rw [hla]; simp)
    clear hh hla
    have e3 : decide ((t.size : Int) < 3) = false := by simp; omega
    have hs1 : ((t.size : Int) - 1).toNat = t.size - 1 := by omega
    have h4 : (0 : Int) ≤ (t.size : Int) - 1 := by omega
    have h5 : (t.size : Int) - 1 < (t.size : Int) := by omega
    by_cases c1 : t.data[0] = 123
    · have f1 : ((t.data[0].toNat : Int) != 123) = false := bne_of (byte_t c1)
      have f2 : ((t[0].toNat : Int) != 123) = false := f1
      by_cases c2 : t.data[t.size - 1] = 125
      · have g1 : ((t.data[t.size - 1].toNat : Int) != 125) = false := bne_of (byte_t c2)
        have g2 : ((t[t.size - 1].toNat : Int) != 125) = false := g1
        have e := kindA_in t.data.toList (by
          rintro (h | h | h)
          · omega
          · exact h (by rw [N.out]; exact c1)
          · exact h (by rw [M.out]; exact c2))
        have hx := extractA t 1 (t.size - 1)
        rw [e, hl]
        have := l5Kind_in t (bs ((t.data.toList.drop 1).take (t.size - 1 - 1))) w hm (by omega) hd f1 f2 g1 g2 hs1 hx (by rw [bs_len, List.length_take, List.length_drop]; omega) (by rw [bs_len, List.length_take, List.length_drop]; omega)
        exact this
      · have g1 : ((t.data[t.size - 1].toNat : Int) != 125) = true := bne_of (byte_f c2)
        have g2 : ((t[t.size - 1].toNat : Int) != 125) = true := g1
        have K := Lib.hid (show kindA t.data.toList = (1, t.data.toList) by rw [kindA, if_pos (Or.inr (Or.inr (by rw [ne_eq, M.out]; exact c2)))])
        go_enter Tryd.func89, Tryd.ntmps89
        go_wp2
        exact ends _ _ _ _ _ K.out rfl rfl rfl
    · have f1 : ((t.data[0].toNat : Int) != 123) = true := bne_of (byte_f c1)
      have f2 : ((t[0].toNat : Int) != 123) = true := f1
      have K := Lib.hid (show kindA t.data.toList = (1, t.data.toList) by rw [kindA, if_pos (Or.inr (Or.inl (by rw [ne_eq, N.out]; exact c1)))])
      go_enter Tryd.func89, Tryd.ntmps89
      go_wp2
      exact ends _ _ _ _ _ K.out rfl rfl rfl
end Go.Proofs.YtnpiljkchjdpfaaDoor
