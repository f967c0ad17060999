/- Plain laws on strokes, with no program in sight: their keys, their notation, the relaxed notation. No condition. -/
import Derived.Test.YtnpiljkchjdpfaaDoorBits
namespace Go.Proofs.YtnpiljkchjdpfaaDoor
open Go.RowKit

/-- The keys below k of a stroke. -/
def keysTo (s : Int) (k : Nat) : List Int := ((List.range k).filter fun (i : Nat) => s.toNat.testBit i).map fun (i : Nat) => (i : Int)
def keysL (s : Int) : List Int := keysTo s 23
theorem keysTo_succ (s : Int) (k : Nat) : keysTo s (k + 1) = keysTo s k ++ if bitB s k then [(k : Int)] else [] := by
  unfold keysTo bitB
  rw [List.range_succ, List.filter_append, List.map_append, Int.toNat_natCast]
  cases h : s.toNat.testBit k <;> simp [h]
theorem keysTo_len (s : Int) (k : Nat) : (keysTo s k).length ≤ k := by
  unfold keysTo
  rw [List.length_map]
  exact Nat.le_trans (List.length_filter_le _ _) (by simp)
theorem keysL_len (s : Int) : (keysL s).length ≤ 23 := keysTo_len s 23
theorem keysL_mem {s k : Int} (h : k ∈ keysL s) : 0 ≤ k ∧ k ≤ 22 := by
  simp only [keysL, keysTo, List.mem_map, List.mem_filter, List.mem_range] at h
  obtain ⟨i, ⟨h1, _⟩, rfl⟩ := h
  omega
theorem keysL_sorted (s : Int) : (keysL s).Pairwise (· < ·) := by
  unfold keysL keysTo
  rw [List.pairwise_map]
  refine List.Pairwise.imp (R := (· < ·)) (fun h => by omega) (List.Pairwise.filter _ List.pairwise_lt_range)

/-- The labels. -/
def labs : List UInt8 := [35, 83, 84, 75, 80, 87, 72, 82, 65, 79, 42, 69, 85, 70, 82, 80, 66, 76, 71, 84, 83, 68, 90]
def lab (k : Int) : UInt8 := labs.getD k.toNat 0

/-- The program's step over one key: the text so far, and 'no hyphen is wanted any more'. -/
def stepI (st : List UInt8 × Bool) (k : Int) : List UInt8 × Bool :=
  if 13 ≤ k ∧ st.2 = false then (st.1 ++ [45] ++ [lab k], true) else (st.1 ++ [lab k], st.2)
/-- The reference's: the text, 'a key of the middle was seen', 'a hyphen was written'. -/
def stepS (st : List UInt8 × Bool × Bool) (k : Int) : List UInt8 × Bool × Bool :=
  if 12 < k ∧ (st.2.1 || decide (8 ≤ k ∧ k ≤ 12)) = false ∧ st.2.2 = false then (st.1 ++ [45] ++ [lab k], st.2.1 || decide (8 ≤ k ∧ k ≤ 12), true)
  else (st.1 ++ [lab k], st.2.1 || decide (8 ≤ k ∧ k ≤ 12), st.2.2)

/-- Is a key of the middle among these? -/
def midL (l : List Int) : Bool := l.any fun k => decide (8 ≤ k ∧ k ≤ 12)

theorem step_meet (l : List Int) (hs : l.Pairwise (· < ·)) (out : List UInt8) (m h : Bool) :
    (l.foldl stepI (out, m || h || midL l)).1 = (l.foldl stepS (out, m, h)).1 := by
  induction l generalizing out m h with
  | nil => rfl
  | cons k l ih =>
    rw [List.pairwise_cons] at hs
    obtain ⟨h1, h2⟩ := hs
    rw [List.foldl_cons, List.foldl_cons]
    by_cases hk : 8 ≤ k ∧ k ≤ 12
    · have e1 : midL (k :: l) = true := by simp [midL, hk]
      have e2 : stepI (out, m || h || midL (k :: l)) k = (out ++ [lab k], true) := by
        rw [stepI, e1, if_neg (by omega)]; simp
      have e3 : stepS (out, m, h) k = (out ++ [lab k], true, h) := by
        rw [stepS, if_neg (by omega)]; simp [hk]
      rw [e2, e3, ← ih h2 (out ++ [lab k]) true h]
      simp
    · have e1 : midL (k :: l) = midL l := by simp [midL, hk]
      have d : decide (8 ≤ k ∧ k ≤ 12) = false := by simp; omega
      by_cases hr : 13 ≤ k
      · have e4 : midL l = false := by
          simp only [midL, List.any_eq_false, decide_eq_true_eq]
          intro x hx
          have := h1 x hx
          omega
        rw [e1, e4]
        cases m <;> cases h
        · have e2 : stepI (out, false || false || false) k = (out ++ [45] ++ [lab k], true) := by simp [stepI, hr]
          have e3 : stepS (out, false, false) k = (out ++ [45] ++ [lab k], false, true) := by simp [stepS, d]; omega
          rw [e2, e3, ← ih h2 _ false true]; simp
        · have e2 : stepI (out, false || true || false) k = (out ++ [lab k], true) := by simp [stepI]
          have e3 : stepS (out, false, true) k = (out ++ [lab k], false, true) := by simp [stepS, d]
          rw [e2, e3, ← ih h2 _ false true]; simp
        · have e2 : stepI (out, true || false || false) k = (out ++ [lab k], true) := by simp [stepI]
          have e3 : stepS (out, true, false) k = (out ++ [lab k], true, false) := by simp [stepS]
          rw [e2, e3, ← ih h2 _ true false]; simp
        · have e2 : stepI (out, true || true || false) k = (out ++ [lab k], true) := by simp [stepI]
          have e3 : stepS (out, true, true) k = (out ++ [lab k], true, true) := by simp [stepS]
          rw [e2, e3, ← ih h2 _ true true]; simp
      · have e2 : stepI (out, m || h || midL (k :: l)) k = (out ++ [lab k], m || h || midL l) := by
          rw [stepI, e1, if_neg (by omega)]
        have e3 : stepS (out, m, h) k = (out ++ [lab k], m, h) := by
          rw [stepS, if_neg (by omega), d]; simp
        rw [e2, e3, ih h2]

/-- The notation of a stroke. -/
def fmtL (s : Int) : List UInt8 := ((keysL s).foldl stepS ([], false, false)).1
theorem fmt_meet (s : Int) : ((keysL s).foldl stepI ([], midL (keysL s))).1 = fmtL s := by
  have := step_meet (keysL s) (keysL_sorted s) [] false false
  rw [Bool.false_or, Bool.false_or] at this
  exact this

theorem stepS_len (st : List UInt8 × Bool × Bool) (k : Int) : (stepS st k).1.length ≤ st.1.length + 2 := by
  unfold stepS
  split <;> simp
theorem foldS_len (l : List Int) (st : List UInt8 × Bool × Bool) : (l.foldl stepS st).1.length ≤ st.1.length + 2 * l.length := by
  induction l generalizing st with
  | nil => simp
  | cons k l ih =>
    rw [List.foldl_cons]
    have := ih (stepS st k)
    have := stepS_len st k
    simp only [List.length_cons]
    omega
theorem fmtL_len (s : Int) : (fmtL s).length ≤ 46 := by
  have := foldS_len (keysL s) ([], false, false)
  have := keysL_len s
  simp only [List.length_nil] at *
  unfold fmtL
  omega

theorem bs_append (a b : ByteArray) : (a ++ b).data.toList = a.data.toList ++ b.data.toList := by simp
theorem bs_size (a : ByteArray) : a.size = a.data.toList.length := by simp
theorem lab_slice_nat : ∀ n, n < 23 → ((⟨#[35, 83, 84, 75, 80, 87, 72, 82, 65, 79, 42, 69, 85, 70, 82, 80, 66, 76, 71, 84, 83, 68, 90]⟩ : ByteArray).extract n (n + 1)).data.toList = [labs.getD n 0] := by decide
theorem lab_slice {k : Int} (h0 : 0 ≤ k) (h1 : k ≤ 22) : ((⟨#[35, 83, 84, 75, 80, 87, 72, 82, 65, 79, 42, 69, 85, 70, 82, 80, 66, 76, 71, 84, 83, 68, 90]⟩ : ByteArray).extract k.toNat (k + 1).toNat).data.toList = [lab k] := by
  obtain ⟨n, rfl⟩ := Int.eq_ofNat_of_zero_le h0
  rw [show ((n : Int) + 1).toNat = n + 1 by omega, Int.toNat_natCast, lab_slice_nat n (by omega), lab, Int.toNat_natCast]
theorem elt_mem (l : List Int) (j : Nat) (h : j < l.length) : l.getD j 0 ∈ l := by
  simp [List.getD, h]

theorem midL_iff (s : Int) : midL (keysL s) = true ↔ ∃ i, 8 ≤ i ∧ i ≤ 12 ∧ s.toNat.testBit i = true := by
  simp only [midL, List.any_eq_true, decide_eq_true_eq, keysL, keysTo, List.mem_map, List.mem_filter, List.mem_range]
  constructor
  · rintro ⟨k, ⟨i, ⟨h1, h2⟩, rfl⟩, h3⟩
    exact ⟨i, by omega, by omega, h2⟩
  · rintro ⟨i, h1, h2, h3⟩
    exact ⟨i, ⟨i, ⟨by omega, h3⟩, rfl⟩, by omega, by omega⟩
theorem mid_nat (n : Nat) : n / 256 % 32 ≠ 0 ↔ ∃ i, 8 ≤ i ∧ i ≤ 12 ∧ n.testBit i = true := by
  have hb : ∀ i, (n / 256 % 32).testBit i = (decide (i < 5) && n.testBit (8 + i)) := fun i => by
    have e1 : n / 256 % 32 = n / 2 ^ 8 % 2 ^ 5 := rfl
    rw [e1, Nat.testBit_mod_two_pow, Nat.testBit_div_two_pow, Nat.add_comm i 8]
  constructor
  · intro h
    refine Classical.byContradiction fun hc => h ?_
    apply Nat.eq_of_testBit_eq
    intro i
    rw [hb, Nat.zero_testBit]
    by_cases hi : i < 5
    · have : n.testBit (8 + i) = false := by
        rcases Bool.eq_false_or_eq_true (n.testBit (8 + i)) with e | e
        · exact absurd ⟨8 + i, by omega, by omega, e⟩ hc
        · exact e
      simp [this]
    · simp [hi]
  · rintro ⟨i, h1, h2, h3⟩ h
    have := hb (i - 8)
    rw [h, show 8 + (i - 8) = i by omega, h3, Nat.zero_testBit] at this
    simp at this
    omega
theorem mid_bits {s : Int} (h0 : 0 ≤ s) (h1 : s ≤ 8388607) : (bits .and .i64 (s / 256) 31 != 0) = midL (keysL s) := by
  obtain ⟨n, rfl⟩ := Int.eq_ofNat_of_zero_le h0
  have e : ((n : Int) / 256) = ((n / 256 : Nat) : Int) := by simp
  rw [e, show (31 : Int) = ((31 : Nat) : Int) from rfl, and_nat _ _ (by omega) (by omega), show (31 : Nat) = 2 ^ 5 - 1 from rfl, Nat.and_two_pow_sub_one_eq_mod]
  have hm := midL_iff (n : Int)
  rw [Int.toNat_natCast] at hm
  rw [Bool.eq_iff_iff, hm, ← mid_nat n, bne_iff_ne]
  show ((n / 256 % 32 : Nat) : Int) ≠ 0 ↔ _
  omega

/-- The first key from k on with a label; 23 if there is none (f: how many keys are left). -/
def findK (b : UInt8) : Nat → Nat → Nat
  | 0, k => k
  | f + 1, k => if labs.getD k 0 == b then k else findK b f (k + 1)
theorem findK_le (b : UInt8) (f k : Nat) : k ≤ findK b f k ∧ findK b f k ≤ k + f := by
  induction f generalizing k with
  | zero => simp [findK]
  | succ f ih =>
    unfold findK
    split
    · omega
    · have := ih (k + 1); omega

theorem labs_at : ∀ k, ∀ h : k < 23, (⟨#[35, 83, 84, 75, 80, 87, 72, 82, 65, 79, 42, 69, 85, 70, 82, 80, 66, 76, 71, 84, 83, 68, 90]⟩ : ByteArray)[k]'h = labs.getD k 0 := by decide
theorem lab_ne {k : Nat} (hk : k < 23) {b : UInt8} (h : ((((⟨#[35, 83, 84, 75, 80, 87, 72, 82, 65, 79, 42, 69, 85, 70, 82, 80, 66, 76, 71, 84, 83, 68, 90]⟩ : ByteArray)[k]'hk).toNat : Int) != (b.toNat : Int)) = true) : (labs.getD k 0 == b) = false := by
  rw [labs_at k hk] at h
  rw [bne_iff_ne] at h
  rw [beq_eq_false_iff_ne]
  intro e
  exact h (by rw [e])
theorem lab_eq {k : Nat} (hk : k < 23) {b : UInt8} (h : ((((⟨#[35, 83, 84, 75, 80, 87, 72, 82, 65, 79, 42, 69, 85, 70, 82, 80, 66, 76, 71, 84, 83, 68, 90]⟩ : ByteArray)[k]'hk).toNat : Int) != (b.toNat : Int)) = false) : (labs.getD k 0 == b) = true := by
  rw [labs_at k hk] at h
  rw [bne_eq_false_iff_eq] at h
  rw [beq_iff_eq]
  exact UInt8.toNat_inj.1 (by omega)
theorem findK_hit {b : UInt8} {k : Nat} (hk : k < 23) (h : (labs.getD k 0 == b) = true) : findK b (23 - k) k = k := by
  rw [show 23 - k = (22 - k) + 1 by omega, findK, if_pos h]
theorem findK_miss {b : UInt8} {k : Nat} (hk : k < 23) (h : (labs.getD k 0 == b) = false) : findK b (23 - k) k = findK b (23 - (k + 1)) (k + 1) := by
  rw [show 23 - k = (22 - k) + 1 by omega, findK, h, if_neg (by simp), show 23 - (k + 1) = 22 - k by omega]
theorem byte_eq {a : UInt8} {n : Nat} (hn : n < 256) (h : a = UInt8.ofNat n) : ((a.toNat : Int) == (n : Int)) = true := by
  subst h
  simp
  omega
theorem byte_ne {a : UInt8} {n : Nat} (hn : n < 256) (h : a ≠ UInt8.ofNat n) : ((a.toNat : Int) == (n : Int)) = false := by
  rw [beq_eq_false_iff_ne]
  intro e
  refine h (UInt8.toNat_inj.1 ?_)
  have : a.toNat = n := by omega
  rw [this]
  simp
  omega

/-- One byte of a relaxed notation: the stroke so far, the next key, 'a hyphen was met'. -/
def looseStep (st : Option (Nat × Nat × Bool)) (b : UInt8) : Option (Nat × Nat × Bool) :=
  match st with
  | none => none
  | some (s, n, d) =>
    if b = 45 then (if d = true ∨ 13 < n then none else some (s, 13, true))
    else if findK b (23 - n) n < 23 then some (s ||| 2 ^ findK b (23 - n) n, findK b (23 - n) n + 1, d) else none
def looseL (t : List UInt8) : Option (Nat × Nat × Bool) := t.foldl looseStep (some (0, 0, false))
def looseVal (t : List UInt8) : Int := match looseL t with | none => 0 | some (s, _, _) => (s : Int)
def looseOk (t : List UInt8) : Bool := looseVal t != 0

theorem looseL_snoc (t : List UInt8) (b : UInt8) : looseL (t ++ [b]) = looseStep (looseL t) b := by simp [looseL, List.foldl_append]
theorem looseStep_none (t : List UInt8) : t.foldl looseStep none = none := by
  induction t with
  | nil => rfl
  | cons b t ih => rw [List.foldl_cons]; exact ih
theorem loose_take_none {t : List UInt8} {k : Nat} (h : looseL (t.take k) = none) : looseL t = none := by
  unfold looseL at *
  rw [← List.take_append_drop k t, List.foldl_append, h, looseStep_none]

theorem lt_two_pow_or {a b n : Nat} (h : a < 2 ^ n) (hb : b < n) : a ||| 2 ^ b < 2 ^ n := Nat.or_lt_two_pow h (Nat.pow_lt_pow_right (by omega) hb)
theorem fold_inv {α β : Type} (f : α → β → α) (P : α → Prop) (h : ∀ a b, P a → P (f a b)) (l : List β) (a : α) (ha : P a) : P (l.foldl f a) := by
  induction l generalizing a with
  | nil => exact ha
  | cons b l ih => rw [List.foldl_cons]; exact ih _ (h a b ha)
/-- What is read keeps below its next key. -/
def LooseIn (st : Option (Nat × Nat × Bool)) : Prop := ∀ s n d, st = some (s, n, d) → n ≤ 23 ∧ s < 2 ^ n
theorem loose_step_in (st : Option (Nat × Nat × Bool)) (b : UInt8) (ih : LooseIn st) : LooseIn (looseStep st b) := by
  intro s n d h
  match st, ih, h with
  | none, _, h => rw [looseStep] at h; cases h
  | some (s', n', d'), ih, h =>
    obtain ⟨i1, i2⟩ := ih s' n' d' rfl
    rw [looseStep] at h
    split at h
    · split at h
      · cases h
      · simp only [Option.some.injEq, Prod.mk.injEq] at h
        obtain ⟨rfl, rfl, rfl⟩ := h
        exact ⟨by omega, Nat.lt_of_lt_of_le i2 (Nat.pow_le_pow_right (by omega) (by omega))⟩
    · split at h
      · rename_i hf
        simp only [Option.some.injEq, Prod.mk.injEq] at h
        obtain ⟨rfl, rfl, rfl⟩ := h
        have := findK_le b (23 - n') n'
        refine ⟨by omega, lt_two_pow_or (Nat.lt_of_lt_of_le i2 (Nat.pow_le_pow_right (by omega) (by omega))) (by omega)⟩
      · cases h
theorem loose_inv (t : List UInt8) {s n : Nat} {d : Bool} (h : looseL t = some (s, n, d)) : n ≤ 23 ∧ s < 2 ^ n :=
  fold_inv looseStep LooseIn loose_step_in t (some (0, 0, false)) (by intro s n d h; simp only [Option.some.injEq, Prod.mk.injEq] at h; obtain ⟨rfl, rfl, rfl⟩ := h; simp) s n d h
theorem loose_fail {t : List UInt8} {k : Nat} (h : looseL (t.take k) = none) : looseVal t = 0 ∧ looseOk t = false := by
  have := loose_take_none h
  simp [looseOk, looseVal, this]
theorem looseVal_bd (t : List UInt8) : 0 ≤ looseVal t ∧ looseVal t ≤ 8388607 := by
  unfold looseVal
  match e : looseL t with
  | none => simp
  | some (s, n, d) =>
    obtain ⟨h1, h2⟩ := loose_inv t e
    have : (2 : Nat) ^ n ≤ 2 ^ 23 := Nat.pow_le_pow_right (by omega) h1
    simp only
    omega

/-! NewStroke. -/
def newStep (st : Option Nat) (k : Int) : Option Nat :=
  match st with
  | none => none
  | some s => if 0 ≤ k ∧ k ≤ 22 ∧ s.testBit k.toNat = false then some (s ||| 2 ^ k.toNat) else none
def newL (l : List Int) : Option Nat := l.foldl newStep (some 0)
def newVal (l : List Int) : Int := match newL l with | none => 0 | some s => (s : Int)
def newOk (l : List Int) : Bool := newVal l != 0
theorem newL_snoc (l : List Int) (k : Int) : newL (l ++ [k]) = newStep (newL l) k := by simp [newL, List.foldl_append]
theorem newStep_none (l : List Int) : l.foldl newStep none = none := by
  induction l with
  | nil => rfl
  | cons b t ih => rw [List.foldl_cons]; exact ih
theorem new_take_none {t : List Int} {k : Nat} (h : newL (t.take k) = none) : newL t = none := by
  unfold newL at *
  rw [← List.take_append_drop k t, List.foldl_append, h, newStep_none]
def NewIn (st : Option Nat) : Prop := ∀ s, st = some s → s < 2 ^ 23
theorem new_step_in (st : Option Nat) (k : Int) (ih : NewIn st) : NewIn (newStep st k) := by
  intro s h
  match st, ih, h with
  | none, _, h => rw [newStep] at h; cases h
  | some s', ih, h =>
    rw [newStep] at h
    split at h
    · simp only [Option.some.injEq] at h
      subst h
      exact lt_two_pow_or (ih s' rfl) (by omega)
    · cases h
theorem newL_bd (l : List Int) {s : Nat} (h : newL l = some s) : s < 2 ^ 23 :=
  fold_inv newStep NewIn new_step_in l (some 0) (by intro s h; simp only [Option.some.injEq] at h; omega) s h
theorem new_fail {t : List Int} {k : Nat} (h : newL (t.take k) = none) : newVal t = 0 ∧ newOk t = false := by
  have := new_take_none h
  simp [newOk, newVal, this]
theorem newVal_bd (l : List Int) : 0 ≤ newVal l ∧ newVal l ≤ 8388607 := by
  unfold newVal
  match e : newL l with
  | none => simp
  | some s =>
    have := newL_bd l e
    simp only
    omega
end Go.Proofs.YtnpiljkchjdpfaaDoor
