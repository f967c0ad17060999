/- The contract of the reference's l1Stands. No condition. -/
import Derived.Test.YtpnomnicfkjcgaaDoorMem
import Derived.Test.YtpnomnicfkjcgaaDoorBits
import Derived.Test.YtpnomnicfkjcgaaDoorPlain
import Derived.Test.YtpnomnicfkjcgaaDoorRows
import Derived.Deep.QuietTactic
import Derived.BigQuiet
import Derived.WalkLawsBesides
import Derived.WalkSpells
import Derived.Outline
import Derived.Lib.Hide
namespace Go.Proofs.YtpnomnicfkjcgaaDoor
open Go.RowKit

/-- Does the byte stand in the text? -/
def standsB (t : ByteArray) (b : UInt8) : Bool := t.data.toList.contains b
theorem mem_take_succ {l : List UInt8} {k : Nat} {b : UInt8} (h : k < l.length) (h1 : b ∉ l.take k) (h2 : l[k] ≠ b) : b ∉ l.take (k + 1) := by
  rw [List.take_succ_eq_append_getElem h]
  simp only [List.mem_append, List.mem_cons, List.not_mem_nil, or_false, not_or]
  exact ⟨h1, fun e => h2 e.symm⟩
theorem stands_at {t : ByteArray} {k : Nat} {b : UInt8} (h : k < t.data.toList.length) (h2 : t.data.toList[k] = b) : standsB t b = true := by
  rw [standsB, List.contains_iff_mem, ← h2]
  exact List.getElem_mem h
theorem stands_no {t : ByteArray} {b : UInt8} (h : b ∉ t.data.toList) : standsB t b = false := by
  unfold standsB
  cases e : t.data.toList.contains b
  · rfl
  · rw [List.contains_iff_mem] at e
    exact absurd e h

set_option maxHeartbeats 1000000 in
theorem l1Stands_any (t : ByteArray) (b : UInt8) (w : World) (hm : t.size ≤ maxLen) :
    Calls Tryd.prog 42 #[.string t, .int .u8 b.toNat] w fun e w' => e = .returned (.bool (standsB t b)) ∧ w = w' := by
  unfold maxLen at hm
  have hlen : t.data.toList.length = t.size := (bs_size' t).symm
  go_enter Tryd.func42, Tryd.ntmps42
  go_wp2
  go_loop [5] (fun i => ∃ k : Nat, k ≤ t.size ∧ i = .int .i64 k ∧ Hid (b ∉ t.data.toList.take k)) (fun i => t.size - (intOf i).toNat)
  case atStart => exact ⟨0, by omega, rfl, by show _ ∉ _; simp⟩
  case round =>
    obtain ⟨k, hk, rfl, hst⟩ := hrel
    by_cases hlt : k < t.size
    · have hkl : k < t.data.toList.length := by omega
      have hg : t.data[k] = t.data.toList[k] := rfl
      by_cases he : t.data[k] = b
      · have H := Lib.hid (stands_at (b := b) hkl he)
        have he' : ((t.data[k].toNat : Int) == (b.toNat : Int)) = true := by rw [he]; exact beq_self_eq_true _
        have he2 : ((t[k].toNat : Int) == (b.toNat : Int)) = true := he'
        clear he
        go_wp2
        go_ret
        exact ⟨ret_bool H.out.symm, rfl⟩
      · have H := Lib.hid (mem_take_succ hkl hst.out (by rw [← hg]; exact he))
        have he' : ((t.data[k].toNat : Int) == (b.toNat : Int)) = false := by
          simp only [beq_eq_false_iff_ne, ne_eq, Int.natCast_inj]
          exact fun e => he (UInt8.toNat_inj.1 e)
        have he2 : ((t[k].toNat : Int) == (b.toNat : Int)) = false := he'
        clear he
        go_wp2
        go_round
        case rel => exact ⟨k + 1, by omega, by go_num, H.out⟩
        case measure => simp [intOf]; omega
    · obtain rfl : k = t.size := by omega
      have H := Lib.hid (stands_no (by have := hst.out; rwa [List.take_of_length_le (by omega)] at this))
      go_wp2
      go_ret
      exact ⟨ret_bool H.out.symm, rfl⟩
end Go.Proofs.YtpnomnicfkjcgaaDoor
