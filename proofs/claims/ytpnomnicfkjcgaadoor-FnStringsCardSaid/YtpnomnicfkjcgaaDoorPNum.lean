/- Plain laws on decimal numerals, with no program in sight. No condition. -/
import Derived.WalkKit
import Derived.Lib.ItoaNum
import Derived.Lib.ItoaMem
import Derived.Lib.Atoi
namespace Go.Proofs.YtpnomnicfkjcgaaDoor
open Go.RowKit

theorem digs_big {u : Nat} (h : ¬ u < 10) : Lib.decDigits u = Lib.decDigits (u / 10) ++ [UInt8.ofNat (48 + u % 10)] := by
  rw [Lib.decDigits, dif_neg h]
theorem ofNat_toNat {k : Nat} (h : k < 256) : (UInt8.ofNat k).toNat = k := by
  simp; omega
theorem digit_ofNat {d : Nat} (h : d < 10) : Lib.digitVal (UInt8.ofNat (48 + d)) = some d := by
  rw [Lib.digitVal, ofNat_toNat (by omega), if_pos (by omega)]
  congr 1
  omega
theorem decFrom_append (l r : List UInt8) (a : Nat) : Lib.decFrom a (l ++ r) = (Lib.decFrom a l).bind fun b => Lib.decFrom b r := by
  induction l generalizing a with
  | nil => rfl
  | cons b l ih =>
    rw [List.cons_append, Lib.decFrom, Lib.decFrom]
    cases Lib.digitVal b with
    | none => rfl
    | some d => exact ih _
theorem dec_digs (u : Nat) : Lib.decFrom 0 (Lib.decDigits u) = some u := by
  induction u using Nat.strongRecOn with
  | _ u ih =>
    by_cases h : u < 10
    · rw [Lib.decDigits_one h, Lib.decFrom, digit_ofNat h]
      simp [Lib.decFrom]
    · rw [digs_big h, decFrom_append, ih (u / 10) (by omega)]
      show Lib.decFrom (u / 10) [UInt8.ofNat (48 + u % 10)] = some u
      rw [Lib.decFrom, digit_ofNat (by omega)]
      simp only [Lib.decFrom, Option.some.injEq]
      omega
theorem digs_mem {u : Nat} {b : UInt8} (h : b ∈ Lib.decDigits u) : 48 ≤ b.toNat ∧ b.toNat ≤ 57 := by
  induction u using Nat.strongRecOn with
  | _ u ih =>
    by_cases h10 : u < 10
    · rw [Lib.decDigits_one h10, List.mem_singleton] at h
      rw [h, ofNat_toNat (by omega)]
      omega
    · rw [digs_big h10, List.mem_append, List.mem_singleton] at h
      rcases h with h | h
      · exact ih (u / 10) (by omega) h
      · rw [h, ofNat_toNat (by omega)]
        omega
theorem digs_ne (u : Nat) : Lib.decDigits u ≠ [] := by
  intro e
  have := dec_digs u
  have hl := Lib.decDigits_length u
  rw [e] at hl
  have := Lib.nDigits_pos u
  simp at hl
  omega
theorem nd_le (k u : Nat) (h0 : 1 ≤ k) (h : u < 10 ^ k) : Lib.nDigits u ≤ k := by
  induction k generalizing u with
  | zero => omega
  | succ k ih =>
    by_cases h10 : u < 10
    · rw [Lib.nDigits_small h10]; omega
    · rw [Lib.nDigits_big h10]
      rw [Nat.pow_succ] at h
      have hk : 1 ≤ k := by
        rcases Nat.eq_zero_or_pos k with e | e
        · subst e; simp at h; omega
        · exact e
      have := ih (u / 10) hk (by omega)
      omega
theorem digs_len {u : Nat} (h : u < 1000000) : (Lib.decDigits u).length ≤ 6 := by
  rw [Lib.decDigits_length]
  exact nd_le 6 u (by omega) (by omega)
theorem itoa_len {n : Int} (h0 : -999999 ≤ n) (h1 : n ≤ 999999) : (Lib.itoa n).length ≤ 7 := by
  unfold Lib.itoa
  split
  · have := digs_len (u := n.natAbs) (by omega)
    simp only [List.length_cons]
    omega
  · have := digs_len (u := n.toNat) (by omega)
    omega
theorem atoi_itoa (n : Int) : Lib.atoi (Lib.itoa n) = some n := by
  have key : ∀ u : Nat, Lib.decNat (Lib.decDigits u) = some u := fun u => by
    rw [Lib.decNat, dec_digs]
    have := digs_ne u
    cases h : Lib.decDigits u with
    | nil => exact absurd h this
    | cons b r => rfl
  unfold Lib.itoa
  split
  · rename_i h
    rw [Lib.atoi]
    simp only [beq_self_eq_true, if_true, key, Option.map_some, Option.some.injEq]
    omega
  · rename_i h
    have hk := key n.toNat
    have hm : ∀ b ∈ Lib.decDigits n.toNat, 48 ≤ b.toNat ∧ b.toNat ≤ 57 := fun b hb => digs_mem hb
    cases hd : Lib.decDigits n.toNat with
    | nil => exact absurd hd (digs_ne _)
    | cons b r =>
      rw [hd] at hk hm
      have hb := hm b (by simp)
      have h1 : (b == 45) = false := by
        rw [beq_eq_false_iff_ne]; intro e; rw [e] at hb; simp at hb
      have h2 : (b == 43) = false := by
        rw [beq_eq_false_iff_ne]; intro e; rw [e] at hb; simp at hb
      rw [Lib.atoi]
      simp only [h1, h2, Bool.false_eq_true, if_false, hk, Option.map_some, Option.some.injEq]
      omega
theorem itoa_inj {a b : Int} (h : Lib.itoa a = Lib.itoa b) : a = b := by
  have := atoi_itoa a
  rw [h, atoi_itoa] at this
  exact (Option.some.inj this).symm
theorem itoa_mem {n : Int} {b : UInt8} (h : b ∈ Lib.itoa n) : b = 45 ∨ (48 ≤ b.toNat ∧ b.toNat ≤ 57) := by
  unfold Lib.itoa at h
  split at h
  · rcases List.mem_cons.1 h with h | h
    · exact Or.inl h
    · exact Or.inr (digs_mem h)
  · exact Or.inr (digs_mem h)

/-- What FormatInt returns. -/
def fmtI (n : Int) : List UInt8 := if -999999 ≤ n ∧ n ≤ 999999 then Lib.itoa n else []
theorem fmtI_len (n : Int) : (fmtI n).length ≤ 7 := by
  unfold fmtI
  split
  · rename_i h; exact itoa_len h.1 h.2
  · simp
/-- What ParseInt returns. -/
def parseL (s : List UInt8) : Option Int :=
  match Lib.atoi s with
  | some n => if (-999999 ≤ n ∧ n ≤ 999999) ∧ Lib.itoa n = s then some n else none
  | none => none
def pVal (s : List UInt8) : Int := (parseL s).getD 0
def pOk (s : List UInt8) : Bool := (parseL s).isSome
theorem parse_some {s : List UInt8} {n : Int} (h : parseL s = some n) : -999999 ≤ n ∧ n ≤ 999999 ∧ Lib.itoa n = s ∧ Lib.atoi s = some n := by
  unfold parseL at h
  split at h
  · rename_i m hm
    split at h
    · rename_i hc
      cases h
      exact ⟨hc.1.1, hc.1.2, hc.2, hm⟩
    · cases h
  · cases h
theorem parse_of {n : Int} (h0 : -999999 ≤ n) (h1 : n ≤ 999999) : parseL (Lib.itoa n) = some n := by
  unfold parseL
  rw [atoi_itoa]
  simp [h0, h1]
theorem parse_long {s : List UInt8} (h : 7 < s.length) : parseL s = none := by
  cases e : parseL s with
  | none => rfl
  | some n =>
    obtain ⟨h1, h2, h3, _⟩ := parse_some e
    have := itoa_len h1 h2
    rw [h3] at this
    omega
theorem parse_none {s : List UInt8} (h : Lib.atoi s = none) : parseL s = none := by rw [parseL, h]
theorem parse_test {s : List UInt8} {n : Int} (h : Lib.atoi s = some n) : parseL s = if (-999999 ≤ n ∧ n ≤ 999999) ∧ Lib.itoa n = s then some n else none := by rw [parseL, h]
theorem parse_val {s : List UInt8} {n : Int} (h : parseL s = some n) : pVal s = n ∧ pOk s = true := by rw [pVal, pOk, h]; exact ⟨rfl, rfl⟩
theorem parse_no {s : List UInt8} (h : parseL s = none) : pVal s = 0 ∧ pOk s = false := by rw [pVal, pOk, h]; exact ⟨rfl, rfl⟩

/-- The reference's reading: behind a sign of a longer text. -/
def rdT (s : List UInt8) : List UInt8 := if 1 < s.length ∧ s.head? = some 45 then s.tail else s
theorem rd_atoi {s : List UInt8} {n : Int} (h : parseL s = some n) : (1 ≤ (rdT s).length ∧ (rdT s).length ≤ 6) ∧ ∃ m, Lib.decFrom 0 (rdT s) = some m ∧ n = if (rdT s).length < s.length then -(m : Int) else (m : Int) := by
  obtain ⟨h1, h2, h3, _⟩ := parse_some h
  subst h3
  unfold Lib.itoa
  split
  · rename_i hn
    have hne := digs_ne n.natAbs
    have hl := digs_len (u := n.natAbs) (by omega)
    have hp := List.length_pos_iff.2 hne
    have e : rdT (45 :: Lib.decDigits n.natAbs) = Lib.decDigits n.natAbs := by
      rw [rdT, if_pos ⟨by simp only [List.length_cons]; omega, rfl⟩]; rfl
    rw [e]
    refine ⟨⟨by omega, hl⟩, n.natAbs, dec_digs _, ?_⟩
    rw [if_pos (by simp)]
    omega
  · rename_i hn
    have hne := digs_ne n.toNat
    have hl := digs_len (u := n.toNat) (by omega)
    have hp := List.length_pos_iff.2 hne
    have e : rdT (Lib.decDigits n.toNat) = Lib.decDigits n.toNat := by
      rw [rdT, if_neg]
      rintro ⟨_, hh⟩
      have hm : (45 : UInt8) ∈ Lib.decDigits n.toNat := List.mem_of_head? hh
      have := digs_mem hm
      simp at this
    rw [e]
    refine ⟨⟨by omega, hl⟩, n.toNat, dec_digs _, ?_⟩
    rw [if_neg (by omega)]
    omega
theorem rd_bad_len {s : List UInt8} (h : (rdT s).length < 1 ∨ 6 < (rdT s).length) : parseL s = none := by
  cases e : parseL s with
  | none => rfl
  | some n =>
    have := (rd_atoi e).1
    omega
theorem rd_bad {s : List UInt8} (h : Lib.decFrom 0 (rdT s) = none) : parseL s = none := by
  cases e : parseL s with
  | none => rfl
  | some n =>
    obtain ⟨_, m, hm, _⟩ := rd_atoi e
    rw [h] at hm
    cases hm
theorem decFrom_bd : ∀ (l : List UInt8) (a m : Nat), Lib.decFrom a l = some m → m < (a + 1) * 10 ^ l.length := Lib.decFrom_lt
theorem rd_end {s : List UInt8} {m : Nat} (hl : (rdT s).length ≤ 6) (h : Lib.decFrom 0 (rdT s) = some m) :
    m < 1000000 ∧ (Lib.itoa (if (rdT s).length < s.length then -(m : Int) else (m : Int)) = s → parseL s = some (if (rdT s).length < s.length then -(m : Int) else (m : Int))) ∧
    (Lib.itoa (if (rdT s).length < s.length then -(m : Int) else (m : Int)) ≠ s → parseL s = none) := by
  have hm : m < 1000000 := by
    have h1 := decFrom_bd _ _ _ h
    have h2 : 10 ^ (rdT s).length ≤ 10 ^ 6 := Nat.pow_le_pow_right (by omega) hl
    omega
  refine ⟨hm, fun e => ?_, fun e => ?_⟩
  · have hp := parse_of (n := if (rdT s).length < s.length then -(m : Int) else (m : Int)) (by split <;> omega) (by split <;> omega)
    rwa [e] at hp
  · cases hq : parseL s with
    | none => rfl
    | some n =>
      obtain ⟨_, m', hm', hn⟩ := rd_atoi hq
      rw [h] at hm'
      cases hm'
      rw [← hn] at e
      exact absurd (parse_some hq).2.2.1 e
theorem decFrom_fail {l : List UInt8} {k : Nat} {b : UInt8} (hb : l[k]? = some b) (hd : Lib.digitVal b = none) : Lib.decFrom 0 l = none := by
  cases e : Lib.decFrom 0 l with
  | none => rfl
  | some m =>
    obtain ⟨d, h⟩ := Lib.digit_of_decFrom l 0 m e k b hb
    rw [hd] at h
    cases h
end Go.Proofs.YtpnomnicfkjcgaaDoor
