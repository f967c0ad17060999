/- Contracts on splitting at one byte. Condition: the text is at most 2^20 bytes long. -/
import Derived.Test.YtnpiljkchjdpfaaDoorMem
import Derived.Test.YtnpiljkchjdpfaaDoorBits
import Derived.Test.YtnpiljkchjdpfaaDoorPSplit
import Derived.Test.YtnpiljkchjdpfaaDoorRows
import Derived.Laws.MakeOwn
import Derived.Deep.QuietTactic
import Derived.BigQuiet
import Derived.WalkLawsBesides
import Derived.WalkSpells
import Derived.Outline
import Derived.Lib.Hide
namespace Go.Proofs.YtnpiljkchjdpfaaDoor
open Go.RowKit

theorem strT' : ElemT Tryd.prog 84 9 (.string ⟨#[]⟩) 1 16 := ⟨Tryd.underlying84, by kernel_rfl, rfl, by decide⟩
def partsV (ps : List (List UInt8)) : List Value := ps.map fun p => Value.string (bs p)
theorem partsV_snoc (ps : List (List UInt8)) (p : List UInt8) : partsV (ps ++ [p]) = partsV ps ++ [.string (bs p)] := by simp [partsV]
theorem extract_bs (t : ByteArray) (f k : Nat) : t.extract f k = bs ((t.data.toList.drop f).take (k - f)) := by
  apply bs_of
  simp

set_option maxHeartbeats 1000000 in
theorem l1Split_any (t : ByteArray) (b : UInt8) (w : World) (hm : t.size ≤ 1048576) :
    Calls Tryd.prog 74 #[.string t, .int .u8 b.toNat] w fun e w' => ∃ A c, e = .returned (.slice A (splits b t.data.toList).length c) ∧ w'.ownsRow w.heap.size 9 1 (.slice A (splits b t.data.toList).length c) (splits b t.data.toList).length (partsV (splits b t.data.toList)) ∧ Below w.heap.size w w' := by
  have hlen : t.data.toList.length = t.size := (bs_size' t).symm
  go_enter Tryd.func74, Tryd.ntmps74
  go_wp2
  go_loopw [5, 6, 7] (fun v fr i wr => ∃ k f : Nat, ∃ ps : List (List UInt8), k ≤ t.size ∧ ps.length ≤ k ∧ i = .int .i64 k ∧ fr = .int .i64 f ∧ SpAt b t.data.toList k f ps ∧ wr.ownsRow w.heap.size 9 1 v ps.length (partsV ps) ∧ Below w.heap.size w wr) (fun _ _ i _ => t.size - (intOf i).toNat)
  case atStart => exact ⟨0, 0, [], by omega, by simp, rfl, rfl, sp_start _ _, World.ownsRow_made _ _ _ (Nat.le_refl _) (by unfold maxLen; omega) (by simp), (Below.refl _ _).alloc (Nat.le_refl _) _⟩
  case round =>
    obtain ⟨k, f, ps, hk, hpl, rfl, rfl, hst, hown, hbel⟩ := hrel
    have hs := hbel.size
    have hf := hst.1
    by_cases hlt : k < t.size
    · have hkl : k < t.data.toList.length := by omega
      have hg : t.data[k] = t.data.toList[k] := rfl
      by_cases he : t.data[k] = b
      · have H := Lib.hid (sp_hit hst hkl (by rw [← hg]; exact he))
        have hx := Lib.hid (extract_bs t f k)
        have he' : ((t.data[k].toNat : Int) == (b.toNat : Int)) = true := by rw [he]; simp
        have he2 : ((t[k].toNat : Int) == (b.toNat : Int)) = true := he'
        clear hst he
        go_wp2_with (at_builtin; go_loud (refine wpList_app1 (.string (t.extract f k)) strT' hbel hown rfl (Nat.le_refl _) hs (by omega) (by decide) rfl (.tmp 20) (.tmp 25) rfl rfl rfl ?_; intro v2 w2 ho2 b2 _ _))
        go_roundw
        case rel => exact ⟨k + 1, k + 1, _, by omega, by simp; omega, by go_num, by go_num, H.out, by rw [partsV_snoc, ← hx.out]; simpa using ho2, b2⟩
        case measure => simp [intOf]; omega
      · have H := Lib.hid (sp_miss hst hkl (by rw [← hg]; exact he))
        have he' : ((t.data[k].toNat : Int) == (b.toNat : Int)) = false := by
          simp only [beq_eq_false_iff_ne, ne_eq, Int.natCast_inj]
          exact fun e => he (UInt8.toNat_inj.1 e)
        have he2 : ((t[k].toNat : Int) == (b.toNat : Int)) = false := he'
        clear hst he
        go_wp2
        go_roundw
        case rel => exact ⟨k + 1, f, ps, by omega, by omega, by go_num, rfl, H.out, hown, hbel⟩
        case measure => simp [intOf]; omega
    · obtain rfl : k = t.size := by omega
      have H := Lib.hid (sp_end (by rw [hlen]; exact hst))
      have hx := Lib.hid (extract_bs t f t.size)
      go_wp2_with (at_builtin; refine wpList_app1 (.string (t.extract f t.size)) strT' hbel hown rfl (Nat.le_refl _) hs (by omega) (by decide) rfl (.tmp 29) (.tmp 33) rfl rfl rfl ?_; intro v2 w2 ho2 b2 _ _)
      obtain ⟨A, c, rfl, _⟩ := own_slice ho2
      go_ret
      have e : bs ((t.data.toList.drop f).take (t.size - f)) = bs (t.data.toList.drop f) := by rw [List.take_of_length_le (by rw [List.length_drop]; omega)]
      rw [H.out, List.length_append]
      exact ⟨A, c, rfl, by rw [partsV_snoc, ← e, ← hx.out]; exact ho2, b2⟩
end Go.Proofs.YtnpiljkchjdpfaaDoor
