/- Contracts of the two checks of an atom. Condition: its text is a string's length. -/
import Derived.Test.YtnpiljkchjdpfaaDoorWord
import Derived.Shelf.Strings.Search3
namespace Go.Proofs.YtnpiljkchjdpfaaDoor
open Go.RowKit Go.Shelf

/-- Is it a valid atom? -/
def goodA (k : Int) (t : List UInt8) : Bool :=
  if k = 1 ∨ k = 2 ∨ k = 3 ∨ k = 4 ∨ k = 5 then wordB t
  else if k = 6 then decide (t = [46] ∨ t = [33] ∨ t = [63])
  else if k = 7 then decide (t = [44] ∨ t = [59] ∨ t = [58])
  else decide (k = 8 ∨ k = 9 ∨ k = 10) && decide (t = [])
theorem beq_lit (t : ByteArray) (l : List UInt8) : (t.toList == (bs l).toList) = decide (t.data.toList = l) := by
  rw [Bool.eq_iff_iff]
  simp only [beq_iff_eq, decide_eq_true_eq]
  constructor
  · intro h
    have q := bs_beq l t
    rw [h, beq_self_eq_true] at q
    exact (beq_iff_eq.1 q.symm).symm
  · intro h
    rw [bs_of h]
theorem beq_lit2 (t : ByteArray) (l : List UInt8) : (t.toList == l) = decide (t.data.toList = l) := by
  rw [str_list, Bool.eq_iff_iff]
  simp only [beq_iff_eq, decide_eq_true_eq]

set_option maxHeartbeats 1000000 in
theorem l5Good_any (k : Int) (t : ByteArray) (w : World) (hm : t.size ≤ maxLen) :
    Calls Tryd.prog 90 #[.agg #[.int .i64 k, .string t]] w fun e w' => e = .returned (.bool (goodA k t.data.toList)) ∧ Below w.heap.size w w' := by
  by_cases hk : k = 1 ∨ k = 2 ∨ k = 3 ∨ k = 4 ∨ k = 5
  · have H := Lib.hid (show goodA k t.data.toList = wordB t.data.toList by rw [goodA, if_pos hk])
    rcases hk with rfl | rfl | rfl | rfl | rfl
    all_goals
      go_enter Tryd.func90, Tryd.ntmps90
      go_wp2_with fail
      refine (l5Word_any t _ hm).mono ?_
      rintro e w' ⟨rfl, rfl⟩
      go_wp2
      go_ret
      exact ⟨ret_bool H.out.symm, (Below.refl _ _).alloc (Nat.le_refl _) _⟩
  · by_cases hk6 : k = 6
    · subst hk6
      have f1 : (t.toList == (⟨#[46]⟩ : ByteArray).toList) = decide (t.data.toList = [46]) := beq_lit t [46]
      have g1 : (t.toList == [46]) = decide (t.data.toList = [46]) := beq_lit2 t [46]
      have f2 : (t.toList == (⟨#[33]⟩ : ByteArray).toList) = decide (t.data.toList = [33]) := beq_lit t [33]
      have g2 : (t.toList == [33]) = decide (t.data.toList = [33]) := beq_lit2 t [33]
      have f3 : (t.toList == (⟨#[63]⟩ : ByteArray).toList) = decide (t.data.toList = [63]) := beq_lit t [63]
      have g3 : (t.toList == [63]) = decide (t.data.toList = [63]) := beq_lit2 t [63]
      have H : goodA 6 t.data.toList = (decide (t.data.toList = [46]) || decide (t.data.toList = [33]) || decide (t.data.toList = [63])) := by simp [goodA, Bool.or_assoc]
      rw [H]
      clear H hk
      generalize decide (t.data.toList = [46]) = x1 at f1 g1 ⊢
      generalize decide (t.data.toList = [33]) = x2 at f2 g2 ⊢
      generalize decide (t.data.toList = [63]) = x3 at f3 g3 ⊢
      cases x1 <;> cases x2 <;> cases x3
      all_goals
        go_enter Tryd.func90, Tryd.ntmps90
        go_wp2
        go_ret
        exact ⟨rfl, (Below.refl _ _).alloc (Nat.le_refl _) _⟩
    · by_cases hk7 : k = 7
      · subst hk7
        have f1 : (t.toList == (⟨#[44]⟩ : ByteArray).toList) = decide (t.data.toList = [44]) := beq_lit t [44]
        have g1 : (t.toList == [44]) = decide (t.data.toList = [44]) := beq_lit2 t [44]
        have f2 : (t.toList == (⟨#[59]⟩ : ByteArray).toList) = decide (t.data.toList = [59]) := beq_lit t [59]
        have g2 : (t.toList == [59]) = decide (t.data.toList = [59]) := beq_lit2 t [59]
        have f3 : (t.toList == (⟨#[58]⟩ : ByteArray).toList) = decide (t.data.toList = [58]) := beq_lit t [58]
        have g3 : (t.toList == [58]) = decide (t.data.toList = [58]) := beq_lit2 t [58]
        have H : goodA 7 t.data.toList = (decide (t.data.toList = [44]) || decide (t.data.toList = [59]) || decide (t.data.toList = [58])) := by simp [goodA, Bool.or_assoc]
        rw [H]
        clear H hk
        generalize decide (t.data.toList = [44]) = x1 at f1 g1 ⊢
        generalize decide (t.data.toList = [59]) = x2 at f2 g2 ⊢
        generalize decide (t.data.toList = [58]) = x3 at f3 g3 ⊢
        cases x1 <;> cases x2 <;> cases x3
        all_goals
          go_enter Tryd.func90, Tryd.ntmps90
          go_wp2
          go_ret
          exact ⟨rfl, (Below.refl _ _).alloc (Nat.le_refl _) _⟩
      · by_cases hk8 : k = 8 ∨ k = 9 ∨ k = 10
        · have f1 : (t.toList == (⟨#[]⟩ : ByteArray).toList) = decide (t.data.toList = []) := beq_lit t []
          have f2 : t.toList.isEmpty = decide (t.data.toList = []) := by rw [str_list]; cases t.data.toList <;> simp
          have H : goodA k t.data.toList = decide (t.data.toList = []) := by simp [goodA, hk, hk6, hk7, hk8]
          rw [H]
          clear H
          generalize decide (t.data.toList = []) = x1 at f1 f2 ⊢
          clear hk hk6 hk7
          rcases hk8 with rfl | rfl | rfl
          all_goals
            go_enter Tryd.func90, Tryd.ntmps90
            go_wp2
            go_ret
            exact ⟨rfl, (Below.refl _ _).alloc (Nat.le_refl _) _⟩
        · have H : goodA k t.data.toList = false := by simp [goodA, hk, hk6, hk7, hk8]
          rw [H]
          clear H
          simp only [not_or] at hk hk8
          obtain ⟨n1, n2, n3, n4, n5⟩ := hk
          obtain ⟨n8, n9, n10⟩ := hk8
          have m1 : (k == 1) = false := by simpa using n1
          have m2 : (k == 2) = false := by simpa using n2
          have m3 : (k == 3) = false := by simpa using n3
          have m4 : (k == 4) = false := by simpa using n4
          have m5 : (k == 5) = false := by simpa using n5
          have m6 : (k == 6) = false := by simpa using hk6
          have m7 : (k == 7) = false := by simpa using hk7
          have m8 : (k == 8) = false := by simpa using n8
          have m9 : (k == 9) = false := by simpa using n9
          have m10 : (k == 10) = false := by simpa using n10
          clear n1 n2 n3 n4 n5 n8 n9 n10 hk6 hk7
          go_enter Tryd.func90, Tryd.ntmps90
          go_wp2
          go_ret
          exact ⟨rfl, (Below.refl _ _).alloc (Nat.le_refl _) _⟩

def Tryd.lContA_ren : Go.Shelf.Ren := ⟨fun | 144 => 122 | 143 => 102 | 219 => 117 | 217 => 124 | 225 => 125 | 224 => 126 | 267 => 127 | 266 => 131 | 314 => 132 | n => n, fun | 9 => 9 | 4 => 4 | 3 => 3 | 5 => 5 | 46 => 103 | 146 => 148 | 51 => 147 | n => n, fun | 1 => 0 | n => n⟩
theorem Tryd.lContA : Go.Proofs.Lays.n144 Tryd.prog Tryd.lContA_ren := {
  mixed := by kernel_rfl
  f143 := Tryd.func102.trans (congrArg some (by kernel_rfl))
  f144 := Tryd.func122.trans (congrArg some (by kernel_rfl))
  f217 := Tryd.func124.trans (congrArg some (by kernel_rfl))
  f219 := Tryd.func117.trans (congrArg some (by kernel_rfl))
  f224 := Tryd.func126.trans (congrArg some (by kernel_rfl))
  f225 := Tryd.func125.trans (congrArg some (by kernel_rfl))
  f266 := Tryd.func131.trans (congrArg some (by kernel_rfl))
  f267 := Tryd.func127.trans (congrArg some (by kernel_rfl))
  f314 := Tryd.func132.trans (congrArg some (by kernel_rfl))
  t3 := Tryd.underlying3
  a3 := Tryd.isAgg3
  z3 := Tryd.sizeOf3
  v3 := Tryd.zeroValue3
  t4 := Tryd.underlying4
  a4 := Tryd.isAgg4
  z4 := Tryd.sizeOf4
  v4 := Tryd.zeroValue4
  t5 := Tryd.underlying5
  a5 := Tryd.isAgg5
  z5 := Tryd.sizeOf5
  v5 := Tryd.zeroValue5
  t9 := Tryd.underlying9
  a9 := Tryd.isAgg9
  z9 := Tryd.sizeOf9
  v9 := Tryd.zeroValue9
  t46 := Tryd.underlying103
  a46 := Tryd.isAgg103
  z46 := Tryd.sizeOf103
  v46 := Tryd.zeroValue103
  t51 := Tryd.underlying147
  a51 := Tryd.isAgg147
  z51 := Tryd.sizeOf147
  v51 := Tryd.zeroValue147
  t146 := Tryd.underlying148
  a146 := Tryd.isAgg148
  z146 := Tryd.sizeOf148
  v146 := Tryd.zeroValue148
  g1 := by kernel_rfl }
theorem contA_any (s : ByteArray) (b : UInt8) (w : World) : Calls Tryd.prog 122 #[.string s, .string (bs [b])] w fun e w' => e = .returned (.bool (s.data.toList.contains b)) ∧ w = w' := by
  refine (Any.strings_Contains_one (P := Tryd.prog) (ρ := Tryd.lContA_ren) { Tryd.lContA with } s b w).mono fun e w' ⟨he, hw⟩ => ⟨?_, hw.symm⟩
  rw [he, Lib.contains_iff_indexByte]
theorem one_byteA {t : ByteArray} (h : t.size = 1) : ∃ b, t = bs [b] := by
  rw [bs_size'] at h
  obtain ⟨b, hb⟩ := List.length_eq_one_iff.1 h
  exact ⟨b, bs_of hb⟩

set_option maxHeartbeats 1000000 in
theorem implIsValidAtom_any (k : Int) (t : ByteArray) (w : World) (hm : t.size ≤ maxLen) :
    Calls Tryd.prog 110 #[.agg #[.int .i64 k, .string t]] w fun e w' => e = .returned (.bool (goodA k t.data.toList)) ∧ Below w.heap.size w w' := by
  by_cases hk : k = 1 ∨ k = 2 ∨ k = 3 ∨ k = 4 ∨ k = 5
  · have H := Lib.hid (show goodA k t.data.toList = wordB t.data.toList by rw [goodA, if_pos hk])
    rcases hk with rfl | rfl | rfl | rfl | rfl
    all_goals
      go_enter Tryd.func110, Tryd.ntmps110
      go_wp2_with fail
      refine (isWord_any t _ hm).mono ?_
      rintro e w' ⟨rfl, rfl⟩
      go_wp2
      go_ret
      exact ⟨ret_bool H.out.symm, (Below.refl _ _).alloc (Nat.le_refl _) _⟩
  · by_cases hk6 : k = 6
    · subst hk6
      clear hk
      by_cases h1 : t.size = 1
      · obtain ⟨b, rfl⟩ := one_byteA h1
        have H := Lib.hid (show goodA 6 (bs [b]).data.toList = (decide (b = 46) || (decide (b = 33) || decide (b = 63))) by rw [bs_toList]; simp [goodA])
        have e1 : (bs [b]).size = 1 := rfl
        have hc := Lib.hid (fun W => contA_any ⟨#[46, 33, 63]⟩ b W)
        go_enter Tryd.func110, Tryd.ntmps110
        go_wp2_with fail
        refine (hc.out _).mono ?_
        rintro e w' ⟨rfl, rfl⟩
        go_wp2
        go_ret
        exact ⟨ret_bool H.out.symm, (Below.refl _ _).alloc (Nat.le_refl _) _⟩
      · have H := Lib.hid (show goodA 6 t.data.toList = false by
          simp [goodA]
          refine ⟨?_, ?_, ?_⟩ <;> (intro q; exact h1 (by rw [bs_size', q]; rfl)))
        have e1 : ((t.size : Int) == 1) = false := by simp; omega
        go_enter Tryd.func110, Tryd.ntmps110
        go_wp2
        go_ret
        exact ⟨ret_bool H.out.symm, (Below.refl _ _).alloc (Nat.le_refl _) _⟩
    · by_cases hk7 : k = 7
      · subst hk7
        clear hk
        by_cases h1 : t.size = 1
        · obtain ⟨b, rfl⟩ := one_byteA h1
          have H := Lib.hid (show goodA 7 (bs [b]).data.toList = (decide (b = 44) || (decide (b = 59) || decide (b = 58))) by rw [bs_toList]; simp [goodA])
          have e1 : (bs [b]).size = 1 := rfl
          have hc := Lib.hid (fun W => contA_any ⟨#[44, 59, 58]⟩ b W)
          go_enter Tryd.func110, Tryd.ntmps110
          go_wp2_with fail
          refine (hc.out _).mono ?_
          rintro e w' ⟨rfl, rfl⟩
          go_wp2
          go_ret
          exact ⟨ret_bool H.out.symm, (Below.refl _ _).alloc (Nat.le_refl _) _⟩
        · have H := Lib.hid (show goodA 7 t.data.toList = false by
            simp [goodA]
            refine ⟨?_, ?_, ?_⟩ <;> (intro q; exact h1 (by rw [bs_size', q]; rfl)))
          have e1 : ((t.size : Int) == 1) = false := by simp; omega
          go_enter Tryd.func110, Tryd.ntmps110
          go_wp2
          go_ret
          exact ⟨ret_bool H.out.symm, (Below.refl _ _).alloc (Nat.le_refl _) _⟩
      · have f1 : (t.toList == (⟨#[]⟩ : ByteArray).toList) = decide (t.data.toList = []) := beq_lit t []
        have f2 : t.toList.isEmpty = decide (t.data.toList = []) := by rw [str_list]; cases t.data.toList <;> simp
        have hk8 : decide (k = 8 ∨ k = 9 ∨ k = 10) = inB k 8 10 := by
          rcases Bool.eq_false_or_eq_true (inB k 8 10) with e | e
          · have := in_bd e; rw [e]; simp; omega
          · rw [e]
            have : ¬ (k = 8 ∨ k = 9 ∨ k = 10) := fun h => by rw [inB_true (by omega) (by omega)] at e; cases e
            simpa using this
        have H : goodA k t.data.toList = (inB k 8 10 && decide (t.data.toList = [])) := by rw [goodA, if_neg hk, if_neg hk6, if_neg hk7, hk8]
        rw [H]
        clear H hk8
        simp only [not_or] at hk
        obtain ⟨n1, n2, n3, n4, n5⟩ := hk
        have m1 : (k == 1) = false := by simpa using n1
        have m2 : (k == 2) = false := by simpa using n2
        have m3 : (k == 3) = false := by simpa using n3
        have m4 : (k == 4) = false := by simpa using n4
        have m5 : (k == 5) = false := by simpa using n5
        have m6 : (k == 6) = false := by simpa using hk6
        have m7 : (k == 7) = false := by simpa using hk7
        clear n1 n2 n3 n4 n5 hk6 hk7
        have hI := Lib.hid (fun W => implIn_any k 8 10 W)
        generalize inB k 8 10 = q at hI ⊢
        generalize decide (t.data.toList = []) = x1 at f1 f2 ⊢
        cases q
        all_goals
          go_enter Tryd.func110, Tryd.ntmps110
          go_wp2_with fail
          refine (hI.out _).mono ?_
          rintro e w' ⟨rfl, rfl⟩
          cases x1
          all_goals
            go_wp2
            go_ret
            exact ⟨rfl, (Below.refl _ _).alloc (Nat.le_refl _) _⟩
end Go.Proofs.YtnpiljkchjdpfaaDoor
