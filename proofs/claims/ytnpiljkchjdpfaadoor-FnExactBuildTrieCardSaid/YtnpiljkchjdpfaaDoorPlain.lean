/- Plain lemmas on lists of bytes and on numbers, with no program in sight: the checksum of a text. No condition. -/
import Derived.WalkKit
namespace Go.Proofs.YtnpiljkchjdpfaaDoor
open Go.RowKit

theorem take_snoc (s : ByteArray) (k : Nat) (h : k < s.size) : s.data.toList.take (k + 1) = s.data.toList.take k ++ [s[k]] := by
  rw [List.take_succ_eq_append_getElem (by simpa using h)]; rfl

/-- The checksum of a list of bytes. -/
def sumOf (l : List UInt8) : Int := l.foldl (fun h b => (41 * h + (b.toNat : Int) + 1) % 999979) 7

theorem sumOf_snoc (l : List UInt8) (b : UInt8) : sumOf (l ++ [b]) = (41 * sumOf l + (b.toNat : Int) + 1) % 999979 := by
  simp [sumOf, List.foldl_append]

theorem sumOf_bd (l : List UInt8) : 0 ≤ sumOf l ∧ sumOf l < 999979 := by
  rcases List.eq_nil_or_concat l with rfl | ⟨l, b, rfl⟩
  · simp [sumOf]
  · rw [List.concat_eq_append, sumOf_snoc]; omega

/-- What Checksum returns. -/
def sumVal (l : List UInt8) : Int := if l.length ≤ 4000 then sumOf l else 0
def sumOk (l : List UInt8) : Bool := decide (l.length ≤ 4000)

end Go.Proofs.YtnpiljkchjdpfaaDoor
