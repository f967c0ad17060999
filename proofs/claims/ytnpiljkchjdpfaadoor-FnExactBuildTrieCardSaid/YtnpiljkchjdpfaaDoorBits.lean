/- Plain lemmas on the bits of numbers that are not negative, with no program in sight. -/
import Derived.WalkKit
import Derived.Laws.BitsAllLaws
import Derived.IntWalk
namespace Go.Proofs.YtnpiljkchjdpfaaDoor
open Go.RowKit

theorem ofInt64 (a : Nat) (ha : a < 9223372036854775808) : (BitVec.ofInt 64 (a : Int)).toNat = a := by
  rw [BitVec.ofInt_natCast, BitVec.toNat_ofNat]; exact Nat.mod_eq_of_lt (by omega)
theorem wrapNat (a : Nat) (ha : a < 9223372036854775808) : IntKind.i64.wrap (a : Int) = (a : Int) := by
  rw [IntKind.wrap_i64]; omega
theorem and_nat (a b : Nat) (ha : a < 9223372036854775808) (hb : b < 9223372036854775808) : bits .and .i64 (a : Int) (b : Int) = ((a &&& b : Nat) : Int) := by
  have hx : a &&& b < 2 ^ 63 := Nat.and_lt_two_pow _ (by omega)
  show IntKind.i64.wrap ((BitVec.ofInt 64 (a : Int) &&& BitVec.ofInt 64 (b : Int)).toNat : Int) = _
  rw [BitVec.toNat_and, ofInt64 a ha, ofInt64 b hb, wrapNat _ (by omega)]
theorem or_nat (a b : Nat) (ha : a < 9223372036854775808) (hb : b < 9223372036854775808) : bits .or .i64 (a : Int) (b : Int) = ((a ||| b : Nat) : Int) := by
  have hx : a ||| b < 2 ^ 63 := Nat.or_lt_two_pow (by omega) (by omega)
  show IntKind.i64.wrap ((BitVec.ofInt 64 (a : Int) ||| BitVec.ofInt 64 (b : Int)).toNat : Int) = _
  rw [BitVec.toNat_or, ofInt64 a ha, ofInt64 b hb, wrapNat _ (by omega)]
theorem xor_nat (a b : Nat) (ha : a < 9223372036854775808) (hb : b < 9223372036854775808) : bits .xor .i64 (a : Int) (b : Int) = ((a ^^^ b : Nat) : Int) := by
  have hx : a ^^^ b < 2 ^ 63 := Nat.xor_lt_two_pow (by omega) (by omega)
  show IntKind.i64.wrap ((BitVec.ofInt 64 (a : Int) ^^^ BitVec.ofInt 64 (b : Int)).toNat : Int) = _
  rw [BitVec.toNat_xor, ofInt64 a ha, ofInt64 b hb, wrapNat _ (by omega)]

/-- Is bit k of s set? -/
def bitB (s k : Int) : Bool := s.toNat.testBit k.toNat

/-- 's>>k&1', as the walk writes it. -/
theorem shr_and_one {s : Int} (k : Nat) (h : 0 ≤ s) (h' : s < 9223372036854775808) : bits .and .i64 (s / 2 ^ k) 1 = if bitB s k then 1 else 0 := by
  obtain ⟨n, rfl⟩ := Int.eq_ofNat_of_zero_le h
  have e : ((n : Int) / 2 ^ k) = ((n / 2 ^ k : Nat) : Int) := by simp
  have hl : n / 2 ^ k ≤ n := Nat.div_le_self _ _
  rw [e, show (1 : Int) = ((1 : Nat) : Int) from rfl, and_nat _ _ (by omega) (by omega), Nat.and_one_is_mod]
  unfold bitB
  rw [Int.toNat_natCast, Int.toNat_natCast, Nat.testBit_eq_decide_div_mod_eq]
  have h2 : n / 2 ^ k % 2 = 0 ∨ n / 2 ^ k % 2 = 1 := by omega
  rcases h2 with h2 | h2 <;> simp [h2]
theorem bit_test {s : Int} (k : Nat) (h : 0 ≤ s) (h' : s < 9223372036854775808) : (bits .and .i64 (s / 2 ^ k) 1 == 1) = bitB s k := by
  rw [shr_and_one k h h']; cases bitB s k <;> rfl
theorem bit_test_int {s : Int} (k : Int) (h : 0 ≤ s) (h' : s < 9223372036854775808) : (bits .and .i64 (s / 2 ^ k.toNat) 1 == 1) = bitB s k := by
  rw [bit_test k.toNat h h']; unfold bitB; rw [Int.toNat_natCast]

theorem wrap_pow (k : Nat) (h : k ≤ 62) : wrap64 (2 ^ k) = ((2 ^ k : Nat) : Int) := by
  have h1 : (2 : Nat) ^ k ≤ 2 ^ 62 := Nat.pow_le_pow_right (by omega) h
  have h2 : ((2 ^ k : Nat) : Int) = (2 : Int) ^ k := by simp
  rw [← h2]
  clear h2
  generalize (2 : Nat) ^ k = x at h1 ⊢
  exact IntWalk.wrap64_in _ (by omega)
theorem or_bit (st k : Nat) (h : st < 9223372036854775808) (hk : k ≤ 62) : bits .or .i64 (st : Int) (wrap64 (2 ^ k)) = ((st ||| 2 ^ k : Nat) : Int) := by
  have h1 : (2 : Nat) ^ k ≤ 2 ^ 62 := Nat.pow_le_pow_right (by omega) hk
  rw [wrap_pow k hk, or_nat _ _ h (by omega)]
theorem xor_bit (st k : Nat) (h : st < 9223372036854775808) (hk : k ≤ 62) : bits .xor .i64 (st : Int) (wrap64 (2 ^ k)) = ((st ^^^ 2 ^ k : Nat) : Int) := by
  have h1 : (2 : Nat) ^ k ≤ 2 ^ 62 := Nat.pow_le_pow_right (by omega) hk
  rw [wrap_pow k hk, xor_nat _ _ h (by omega)]

/-- A list of bytes as a string's content. -/
def bs (l : List UInt8) : ByteArray := ⟨l.toArray⟩
theorem bs_of {o : ByteArray} {l : List UInt8} (h : o.data.toList = l) : o = bs l := by subst h; rfl
theorem bs_toList (l : List UInt8) : (bs l).data.toList = l := rfl
theorem bs_self (o : ByteArray) : bs o.data.toList = o := rfl
theorem bs_len (l : List UInt8) : (bs l).size = l.length := rfl

theorem bs_list (l : List UInt8) : (bs l).toList = l := by
  unfold bs
  rw [ByteArray.toList_mk]
theorem str_list (t : ByteArray) : t.toList = t.data.toList := by
  have := bs_list t.data.toList
  rwa [bs_self] at this
/-- The walk's test on two strings. -/
theorem bs_beq (l : List UInt8) (t : ByteArray) : ((bs l).toList == t.toList) = (l == t.data.toList) := by rw [bs_list, str_list]

theorem or_ne_zero (st k : Nat) : st ||| 2 ^ k ≠ 0 := by
  intro e
  have h := congrArg (fun n => n.testBit k) e
  simp [Nat.testBit_or, Nat.testBit_two_pow_self] at h

theorem bs_size' (a : ByteArray) : a.size = a.data.toList.length := by simp

/-! The ends of a walk. -/
theorem ret_int {k : IntKind} {a b : Int} (h : a = b) : Ending.returned (.int k a) = .returned (.int k b) := by rw [h]
theorem ret_vb {v : Value} {x y : Bool} (g : y = x) : Ending.returned (.tuple #[v, .bool x]) = .returned (.tuple #[v, .bool y]) := by rw [g]
theorem ret_bool {a b : Bool} (h : a = b) : Ending.returned (.bool a) = .returned (.bool b) := by rw [h]
theorem ret_int_bool {k : IntKind} {a b : Int} {x y : Bool} (h : a = b) (g : x = y) : Ending.returned (.tuple #[.int k a, .bool x]) = .returned (.tuple #[.int k b, .bool y]) := by rw [h, g]
end Go.Proofs.YtnpiljkchjdpfaaDoor
