/- Plain laws on strokes, with no program in sight: writing and reading back, counting keys. No condition. -/
import Derived.Test.YtnpiljkchjdpfaaDoorPStroke
namespace Go.Proofs.YtnpiljkchjdpfaaDoor
open Go.RowKit

theorem findK_first {b : UInt8} {k : Nat} (hk : k < 23) (hb : labs.getD k 0 = b) (d n : Nat) (hd : k - n = d) (hn : n ≤ k) (hne : ∀ j, n ≤ j → j < k → labs.getD j 0 ≠ b) : findK b (23 - n) n = k := by
  induction d generalizing n with
  | zero =>
    obtain rfl : n = k := by omega
    exact findK_hit hk (by simpa using hb)
  | succ d ih =>
    rw [findK_miss (by omega) (by simpa using hne n (Nat.le_refl _) (by omega))]
    exact ih (n + 1) (by omega) (by omega) (fun j h1 h2 => hne j (by omega) h2)
theorem labs_left : ∀ k, k < 13 → ∀ j, j < k → labs.getD j 0 ≠ labs.getD k 0 := by decide
theorem labs_right : ∀ k, k < 23 → ∀ j, j < k → 8 ≤ j → labs.getD j 0 ≠ labs.getD k 0 := by decide
theorem labs_45 : ∀ k, k < 23 → labs.getD k 0 ≠ 45 := by decide
theorem find_lab {k n : Nat} (hk : k < 23) (hn : n ≤ k) (h : k < 13 ∨ 8 ≤ n) : findK (labs.getD k 0) (23 - n) n = k :=
  findK_first hk rfl (k - n) n rfl hn fun j h1 h2 => by
    rcases h with h | h
    · exact labs_left k h j h2
    · exact labs_right k hk j h2 (by omega)

/-- The stroke of some keys. -/
def orL (a : Nat) (l : List Int) : Nat := l.foldl (fun s k => s ||| 2 ^ k.toNat) a
theorem loose_lab {out : List UInt8} {v n : Nat} {d : Bool} {k : Nat} (hl : looseL out = some (v, n, d)) (hk : k < 23) (hn : n ≤ k) (h : k < 13 ∨ 8 ≤ n) :
    looseL (out ++ [labs.getD k 0]) = some (v ||| 2 ^ k, k + 1, d) := by
  rw [looseL_snoc, hl, looseStep, if_neg (labs_45 k hk)]
  simp only [find_lab hk hn h, hk, if_true]

theorem loose_fold (l : List Int) (hs : l.Pairwise (· < ·)) (hb : ∀ k ∈ l, 0 ≤ k ∧ k ≤ 22) (out : List UInt8) (m h : Bool) (v n : Nat) (hl : looseL out = some (v, n, h)) (hn : ∀ k ∈ l, (n : Int) ≤ k)
    (h1 : m = false → h = false → n ≤ 8) (h2 : m = true ∨ h = true → 8 ≤ n) : ∃ n', looseL (l.foldl stepS (out, m, h)).1 = some (orL v l, n', (l.foldl stepS (out, m, h)).2.2) := by
  induction l generalizing out m h v n with
  | nil => exact ⟨n, hl⟩
  | cons k l ih =>
    rw [List.pairwise_cons] at hs
    obtain ⟨s1, s2⟩ := hs
    obtain ⟨k0, k1⟩ := hb k (by simp)
    obtain ⟨i, rfl⟩ := Int.eq_ofNat_of_zero_le k0
    have hni : n ≤ i := by have := hn i (by simp); omega
    have hlab : lab (i : Int) = labs.getD i 0 := by rw [lab, Int.toNat_natCast]
    have hor : orL v ((i : Int) :: l) = orL (v ||| 2 ^ i) l := by rw [orL, List.foldl_cons, Int.toNat_natCast]; rfl
    have hnext : ∀ q ∈ l, ((i + 1 : Nat) : Int) ≤ q := fun q hq => by have := s1 q hq; omega
    rw [List.foldl_cons, hor]
    by_cases hc : 12 < (i : Int) ∧ (m || decide (8 ≤ (i : Int) ∧ (i : Int) ≤ 12)) = false ∧ h = false
    · have e : stepS (out, m, h) i = (out ++ [45] ++ [lab i], m || decide (8 ≤ (i : Int) ∧ (i : Int) ≤ 12), true) := by rw [stepS, if_pos hc]
      obtain ⟨c1, c2, c3⟩ := hc
      have cm : m = false := by
        cases m
        · rfl
        · simp at c2
      have h45 : looseL (out ++ [45]) = some (v, 13, true) := by
        rw [looseL_snoc, hl, looseStep, if_pos rfl, if_neg]
        have := h1 cm c3
        rw [c3]
        simp
        omega
      rw [e]
      refine ih s2 (fun q hq => hb q (by simp [hq])) _ _ _ (v ||| 2 ^ i) (i + 1) ?_ hnext (fun _ e => by cases e) (fun _ => by omega)
      rw [hlab]
      exact loose_lab h45 (by omega) (by omega) (Or.inr (by omega))
    · have e : stepS (out, m, h) i = (out ++ [lab i], m || decide (8 ≤ (i : Int) ∧ (i : Int) ≤ 12), h) := by rw [stepS, if_neg hc]
      rw [e]
      refine ih s2 (fun q hq => hb q (by simp [hq])) _ _ _ (v ||| 2 ^ i) (i + 1) ?_ hnext ?_ ?_
      · rw [hlab]
        refine loose_lab hl (by omega) hni ?_
        by_cases hi : i < 13
        · exact Or.inl hi
        · refine Or.inr (h2 ?_)
          cases m
          · cases h
            · exact absurd ⟨by omega, by simp; omega, rfl⟩ hc
            · exact Or.inr rfl
          · exact Or.inl rfl
      · intro a1 a2
        have a3 : decide (8 ≤ (i : Int) ∧ (i : Int) ≤ 12) = false := by
          cases m
          · simpa using a1
          · simp at a1
        have a4 : m = false := by
          cases m
          · rfl
          · simp at a1
        have a5 : ¬ (8 ≤ (i : Int) ∧ (i : Int) ≤ 12) := by simpa using a3
        by_cases hi : i < 8
        · omega
        · exact absurd ⟨by omega, by rw [a4, a3]; rfl, a2⟩ hc
      · intro a1
        by_cases hi : 8 ≤ i
        · omega
        · have a3 : decide (8 ≤ (i : Int) ∧ (i : Int) ≤ 12) = false := by simp; omega
          rw [a3, Bool.or_false] at a1
          have := h2 a1
          omega

theorem mod_succ (x k : Nat) : x % 2 ^ (k + 1) = x % 2 ^ k + 2 ^ k * (x.testBit k).toNat := by
  rw [Nat.pow_succ, Nat.mod_mul, Nat.testBit_eq_decide_div_mod_eq]
  have h2 : x / 2 ^ k % 2 = 0 ∨ x / 2 ^ k % 2 = 1 := by omega
  rcases h2 with h2 | h2 <;> simp [h2]
theorem orL_keys (s : Int) (k : Nat) : orL 0 (keysTo s k) = s.toNat % 2 ^ k := by
  induction k with
  | zero => simp [keysTo, orL, Nat.mod_one]
  | succ k ih =>
    rw [keysTo_succ, orL, List.foldl_append]
    have ih' : List.foldl (fun s k => s ||| 2 ^ k.toNat) 0 (keysTo s k) = s.toNat % 2 ^ k := ih
    rw [ih', mod_succ]
    have hb : bitB s (k : Int) = s.toNat.testBit k := by rw [bitB, Int.toNat_natCast]
    have hlt : s.toNat % 2 ^ k < 2 ^ k := Nat.mod_lt _ (Nat.two_pow_pos k)
    rw [hb]
    cases s.toNat.testBit k
    · simp
    · simp only [if_true, List.foldl_cons, List.foldl_nil, Int.toNat_natCast, Bool.toNat_true, Nat.mul_one]
      rw [Nat.or_comm, nat_join k (2 ^ k) _ (Nat.mod_self _) hlt, Nat.add_comm]
theorem orL_keysL {s : Int} (h0 : 0 ≤ s) (h1 : s ≤ 8388607) : orL 0 (keysL s) = s.toNat := by
  rw [keysL, orL_keys, Nat.mod_eq_of_lt (by omega)]

/-- What is written is read back. -/
theorem loose_fmt {s : Int} (h0 : 0 ≤ s) (h1 : s ≤ 8388607) : looseVal (fmtL s) = s := by
  obtain ⟨n', e⟩ := loose_fold (keysL s) (keysL_sorted s) (fun k hk => keysL_mem hk) [] false false 0 0 rfl (fun k hk => by have := keysL_mem hk; omega) (fun _ _ => by omega) (fun h => by rcases h with h | h <;> cases h)
  rw [orL_keysL h0 h1] at e
  unfold looseVal
  rw [show looseL (fmtL s) = _ from e]
  show ((s.toNat : Nat) : Int) = s
  omega

/-! Counting. -/
theorem filter_or (l : List Nat) (p q : Nat → Bool) (h : ∀ i ∈ l, p i = true → q i = false) : (l.filter fun i => p i || q i).length = (l.filter p).length + (l.filter q).length := by
  induction l with
  | nil => rfl
  | cons a l ih =>
    have ih' := ih (fun i hi => h i (by simp [hi]))
    have ha := h a (by simp)
    rw [List.filter_cons, List.filter_cons, List.filter_cons]
    cases hp : p a
    · cases hq : q a <;> simp [ih'] <;> omega
    · rw [ha hp]
      simp [ih']
      omega
theorem keysTo_count (s : Int) (k : Nat) : (keysTo s k).length = ((List.range k).filter fun (i : Nat) => s.toNat.testBit i).length := by
  rw [keysTo, List.length_map]
theorem filter_one (n k : Nat) (h : k < n) : ((List.range n).filter fun i => decide (i = k)).length = 1 := by
  induction n with
  | zero => omega
  | succ n ih =>
    rw [List.range_succ, List.filter_append]
    by_cases e : n = k
    · subst e
      have : ((List.range n).filter fun i => decide (i = n)) = [] := by
        rw [List.filter_eq_nil_iff]
        intro a ha
        have := List.mem_range.1 ha
        simp; omega
      simp [this]
    · have := ih (by omega)
      simp [e, this]
theorem keys_add {v k : Nat} (hk : k < 23) (hb : v.testBit k = false) : (keysL ((v ||| 2 ^ k : Nat) : Int)).length = (keysL (v : Int)).length + 1 := by
  unfold keysL
  rw [keysTo_count, keysTo_count, Int.toNat_natCast, Int.toNat_natCast, ← filter_one 23 k hk, ← filter_or]
  · congr 1
    apply List.filter_congr
    intro i _
    rw [Nat.testBit_or, Nat.testBit_two_pow]
    congr 1
    exact decide_eq_decide.2 ⟨fun e => e.symm, fun e => e.symm⟩
  · intro i _ hi
    simp only [decide_eq_false_iff_not]
    rintro rfl
    rw [hb] at hi
    cases hi
theorem keys_zero : (keysL 0).length = 0 := by decide
theorem keys_merge {a b : Nat} (h : a &&& b = 0) : (keysL ((a ||| b : Nat) : Int)).length = (keysL (a : Int)).length + (keysL (b : Int)).length := by
  unfold keysL
  rw [keysTo_count, keysTo_count, keysTo_count, Int.toNat_natCast, Int.toNat_natCast, Int.toNat_natCast, ← filter_or]
  · congr 1
    apply List.filter_congr
    intro i _
    rw [Nat.testBit_or]
  · intro i _ hi
    have := congrArg (fun n => n.testBit i) h
    simp only [Nat.testBit_and, hi, Bool.true_and, Nat.zero_testBit] at this
    exact this

/-- The bytes of a text that are no hyphens. -/
def labels (t : List UInt8) : Nat := (t.filter fun b => decide (b ≠ 45)).length
theorem labels_snoc (t : List UInt8) (b : UInt8) : labels (t ++ [b]) = labels t + if b = 45 then 0 else 1 := by
  unfold labels
  rw [List.filter_append, List.length_append]
  by_cases h : b = 45 <;> simp [h]

theorem loose_count (t u : List UInt8) (v n : Nat) (d : Bool) (hu : looseL u = some (v, n, d)) (hc : (keysL (v : Int)).length = labels u) {v' n' : Nat} {d' : Bool} (h : looseL (u ++ t) = some (v', n', d')) : (keysL (v' : Int)).length = labels (u ++ t) := by
  induction t generalizing u v n d with
  | nil =>
    rw [List.append_nil] at h ⊢
    rw [hu] at h
    simp only [Option.some.injEq, Prod.mk.injEq] at h
    obtain ⟨rfl, rfl, rfl⟩ := h
    exact hc
  | cons b t ih =>
    rw [List.append_cons] at h ⊢
    obtain ⟨i1, i2⟩ := loose_inv u hu
    have hstep := looseL_snoc u b
    rw [hu] at hstep
    rw [looseStep] at hstep
    by_cases hb : b = 45
    · rw [if_pos hb] at hstep
      by_cases hd : d = true ∨ 13 < n
      · rw [if_pos hd] at hstep
        have : looseL (u ++ [b] ++ t) = none := by
          unfold looseL at hstep ⊢
          rw [List.foldl_append, hstep, looseStep_none]
        rw [this] at h
        cases h
      · rw [if_neg hd] at hstep
        exact ih _ _ _ _ hstep (by rw [labels_snoc, if_pos hb, hc]; rfl) h
    · rw [if_neg hb] at hstep
      by_cases hf : findK b (23 - n) n < 23
      · rw [if_pos hf] at hstep
        have hle := (findK_le b (23 - n) n).1
        have hbit : v.testBit (findK b (23 - n) n) = false := Nat.testBit_lt_two_pow (Nat.lt_of_lt_of_le i2 (Nat.pow_le_pow_right (by omega) hle))
        exact ih _ _ _ _ hstep (by rw [keys_add hf hbit, labels_snoc, if_neg hb, hc]) h
      · rw [if_neg hf] at hstep
        have : looseL (u ++ [b] ++ t) = none := by
          unfold looseL at hstep ⊢
          rw [List.foldl_append, hstep, looseStep_none]
        rw [this] at h
        cases h
theorem loose_labels {t : List UInt8} (h : looseOk t = true) : (keysL (looseVal t)).length = labels t := by
  unfold looseOk looseVal at *
  match e : looseL t with
  | none => rw [e] at h; cases h
  | some (v, n, d) =>
    simp only
    have := loose_count t [] 0 0 false rfl keys_zero (v' := v) (n' := n) (d' := d) (by rw [List.nil_append]; exact e)
    rwa [List.nil_append] at this

theorem new_count (l u : List Int) (v : Nat) (hu : newL u = some v) (hc : (keysL (v : Int)).length = u.length) {v' : Nat} (h : newL (u ++ l) = some v') : (keysL (v' : Int)).length = (u ++ l).length := by
  induction l generalizing u v with
  | nil =>
    rw [List.append_nil] at h ⊢
    rw [hu] at h
    simp only [Option.some.injEq] at h
    subst h
    exact hc
  | cons k l ih =>
    rw [List.append_cons] at h ⊢
    have hstep := newL_snoc u k
    rw [hu, newStep] at hstep
    by_cases hk : 0 ≤ k ∧ k ≤ 22 ∧ v.testBit k.toNat = false
    · rw [if_pos hk] at hstep
      exact ih _ _ hstep (by rw [keys_add (by omega) hk.2.2, hc]; simp) h
    · rw [if_neg hk] at hstep
      have : newL (u ++ [k] ++ l) = none := by
        unfold newL at hstep ⊢
        rw [List.foldl_append, hstep, newStep_none]
      rw [this] at h
      cases h
theorem new_len {l : List Int} (h : newOk l = true) : (keysL (newVal l)).length = l.length := by
  unfold newOk newVal at *
  match e : newL l with
  | none => rw [e] at h; cases h
  | some v =>
    simp only
    have := new_count l [] 0 rfl keys_zero (v' := v) (by rw [List.nil_append]; exact e)
    rwa [List.nil_append] at this

theorem new_fold (l : List Int) (hs : l.Pairwise (· < ·)) (hb : ∀ k ∈ l, 0 ≤ k ∧ k ≤ 22) (v : Nat) (hv : ∀ k ∈ l, v < 2 ^ k.toNat) : l.foldl newStep (some v) = some (orL v l) := by
  induction l generalizing v with
  | nil => rfl
  | cons k l ih =>
    rw [List.pairwise_cons] at hs
    obtain ⟨s1, s2⟩ := hs
    obtain ⟨k0, k1⟩ := hb k (by simp)
    have hk := hv k (by simp)
    rw [List.foldl_cons, newStep, if_pos ⟨k0, k1, Nat.testBit_lt_two_pow hk⟩]
    have := ih s2 (fun q hq => hb q (by simp [hq])) (v ||| 2 ^ k.toNat) (fun q hq => by
      have h1 := s1 q hq
      have h2 : 2 ^ k.toNat < 2 ^ q.toNat := Nat.pow_lt_pow_right (by omega) (by omega)
      exact Nat.or_lt_two_pow (by omega) h2)
    rw [this]
    rfl
theorem new_keys {s : Int} (h0 : 0 ≤ s) (h1 : s ≤ 8388607) : newVal (keysL s) = s := by
  have e : newL (keysL s) = some (orL 0 (keysL s)) := new_fold (keysL s) (keysL_sorted s) (fun k hk => keysL_mem hk) 0 (fun k _ => Nat.two_pow_pos _)
  rw [newVal, e, orL_keysL h0 h1]
  show ((s.toNat : Nat) : Int) = s
  omega
theorem keys_bit {s k : Int} (h : k ∈ keysL s) : bitB s k = true := by
  simp only [keysL, keysTo, List.mem_map, List.mem_filter, List.mem_range] at h
  obtain ⟨i, ⟨_, h2⟩, rfl⟩ := h
  rw [bitB, Int.toNat_natCast]
  exact h2
end Go.Proofs.YtnpiljkchjdpfaaDoor
