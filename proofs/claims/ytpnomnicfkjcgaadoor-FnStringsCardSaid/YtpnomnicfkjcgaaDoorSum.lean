/- Contracts of the functions that compute a checksum: spec.l1Sum, spec.Checksum, impl.Checksum. No condition but that the string has a string's length. -/
import Derived.Test.YtpnomnicfkjcgaaDoorRows
import Derived.Test.YtpnomnicfkjcgaaDoorPlain
import Derived.Test.YtpnomnicfkjcgaaDoorBits
import Derived.WalkKit
import Derived.WalkLawsBesides
import Derived.WalkSpells
import Derived.Outline
import Derived.Lib.Hide
namespace Go.Proofs.YtpnomnicfkjcgaaDoor
open Go.RowKit

theorem l1Sum_any (s : ByteArray) (w : World) (hs : s.size ≤ maxLen) :
    Calls Tryd.prog 57 #[.string s] w fun e w' => e = .returned (.int .i64 (sumOf s.data.toList)) ∧ w = w' := by
  unfold maxLen at hs
  go_enter Tryd.func57, Tryd.ntmps57
  go_wp2
  go_loop [3, 4] (fun n i => ∃ k : Nat, k ≤ s.size ∧ i = .int .i64 k ∧ n = .int .i64 (sumOf (s.data.toList.take k))) (fun _ i => s.size - (intOf i).toNat)
  case atStart => exact ⟨0, Nat.zero_le _, rfl, rfl⟩
  case round =>
    obtain ⟨k, hk, rfl, rfl⟩ := hrel
    have hd := sumOf_bd (s.data.toList.take k)
    obtain ⟨hd1, hd2⟩ := hd
    by_cases hlt : k < s.size
    · have hb := s[k].toNat_lt
      go_wp2
      go_round
      case rel => exact ⟨k + 1, by omega, by go_num, by rw [take_snoc s k hlt, sumOf_snoc]⟩
      case measure => simp [intOf]; omega
    · go_wp2
      go_ret
      exact ⟨ret_int (by rw [List.take_of_length_le (by simp; omega)]), rfl⟩

theorem implChecksum_any (s : ByteArray) (w : World) (hs : s.size ≤ maxLen) :
    Calls Tryd.prog 44 #[.string s] w fun e w' => e = .returned (.tuple #[.int .i64 (sumVal s.data.toList), .bool (sumOk s.data.toList)]) ∧ w = w' := by
  unfold maxLen at hs
  by_cases h : s.size ≤ 4000
  · go_enter Tryd.func44, Tryd.ntmps44
    go_wp2
    go_loop [4, 11] (fun n i => ∃ k : Nat, k ≤ s.size ∧ i = .int .i64 k ∧ n = .int .i64 (sumOf (s.data.toList.take k))) (fun _ i => s.size - (intOf i).toNat)
    case atStart => exact ⟨0, Nat.zero_le _, rfl, rfl⟩
    case round =>
      obtain ⟨k, hk, rfl, rfl⟩ := hrel
      have hd := sumOf_bd (s.data.toList.take k)
      obtain ⟨hd1, hd2⟩ := hd
      by_cases hlt : k < s.size
      · have hb := s[k].toNat_lt
        go_wp2
        go_round
        case rel => exact ⟨k + 1, by omega, by go_num, by rw [take_snoc s k hlt, sumOf_snoc]⟩
        case measure => simp [intOf]; omega
      · go_wp2
        go_ret2
        exact ⟨ret_int_bool (by rw [List.take_of_length_le (by simp; omega)]; simp [sumVal, h]) (by simp [sumOk, h]), rfl⟩
  · go_enter Tryd.func44, Tryd.ntmps44
    go_wp2
    go_ret2
    exact ⟨ret_int_bool (by simp [sumVal, h]) (by simp [sumOk]; omega), rfl⟩

end Go.Proofs.YtpnomnicfkjcgaaDoor
