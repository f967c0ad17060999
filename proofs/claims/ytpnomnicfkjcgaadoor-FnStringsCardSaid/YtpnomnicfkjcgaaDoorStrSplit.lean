/- Contracts of SplitString. Condition: the cell of internal/bytealg.MaxLen is an int. -/
import Derived.Test.YtpnomnicfkjcgaaDoorSplitC
import Derived.Test.YtpnomnicfkjcgaaDoorStrS
namespace Go.Proofs.YtpnomnicfkjcgaaDoor
open Go.RowKit Go.Shelf

theorem partsV_strs (ps : List (List UInt8)) : partsV ps = strs (partsB ps) := by
  unfold partsV strs partsB
  rw [List.map_map]
  rfl
theorem partsB_len (ps : List (List UInt8)) : (partsB ps).length = ps.length := by simp [partsB]
theorem ret_sl {A A' : Option Addr} {n n' c c' : Nat} {x y : Bool} (h : (Value.slice A n c) = .slice A' n' c') (g : x = y) : Ending.returned (.tuple #[.slice A n c, .bool x]) = .returned (.tuple #[.slice A' n' c', .bool y]) := by rw [h, g]
theorem split_yes {s : ByteArray} {b : UInt8} (h : s.size ≤ 4000) : splitOk s (bs [b]) = true ∧ splitR s (bs [b]) = partsB (splits b s.data.toList) := by
  have h0 : splitOk s (bs [b]) = true := by rw [splitOk, bs_len]; simpa using h
  exact ⟨h0, by rw [splitR, if_pos h0]; rfl⟩
theorem split_no {s sep : ByteArray} (h : 4000 < s.size ∨ sep.size ≠ 1) : splitOk s sep = false ∧ splitR s sep = [] := by
  have h0 : splitOk s sep = false := by
    rw [splitOk, Bool.and_eq_false_iff]
    rcases h with h | h
    · left; simp; omega
    · right; simp; omega
  exact ⟨h0, by rw [splitR, h0]; rfl⟩

theorem implSplit_any (s sep : ByteArray) (w : World) (m : Int) (hmax : w.cell? ⟨0, 0, none⟩ = some (.int .i64 m)) (hs : s.size ≤ maxLen) (hp : sep.size ≤ maxLen) :
    Calls Tryd.prog 13 #[.string s, .string sep] w fun e w' => ∃ A c, e = .returned (.tuple #[.slice A (splitR s sep).length c, .bool (splitOk s sep)]) ∧ w'.ownsRow w.heap.size 9 1 (.slice A (splitR s sep).length c) (splitR s sep).length (strs (splitR s sep)) ∧ Below w.heap.size w w' := by
  unfold maxLen at hs hp
  by_cases h1 : s.size ≤ 4000
  · by_cases h2 : sep.size = 1
    · obtain ⟨b, rfl⟩ := one_byte h2
      have H := Lib.hid (split_yes (b := b) h1)
      have hmax' := Lib.hid hmax
      clear hmax
      go_enter Tryd.func13, Tryd.ntmps13
      go_wp2_with fail
      refine (split_any s b w m hmax'.out (by omega)).mono ?_
      rintro e w1 ⟨A, c, rfl, ho, hb⟩
      go_wp2
      go_ret2
      rw [H.out.2, partsB_len, ← partsV_strs]
      exact ⟨A, c, ret_vb H.out.1, ho, hb⟩
    · have H := Lib.hid (split_no (s := s) (Or.inr h2))
      have hne : ((sep.size : Int) != 1) = true := by simp; omega
      clear h2
      go_enter Tryd.func13, Tryd.ntmps13
      go_wp2
      go_ret2
      rw [H.out.2]
      exact ⟨none, 0, ret_vb H.out.1, World.ownsRow_nil _ _ _ _, Below.refl _ _⟩
  · have H := Lib.hid (split_no (sep := sep) (Or.inl (show 4000 < s.size by omega)))
    go_enter Tryd.func13, Tryd.ntmps13
    go_wp2
    go_ret2
    rw [H.out.2]
    exact ⟨none, 0, ret_vb H.out.1, World.ownsRow_nil _ _ _ _, Below.refl _ _⟩

theorem specSplit_any (s sep : ByteArray) (w : World) (hs : s.size ≤ maxLen) (hp : sep.size ≤ maxLen) :
    Calls Tryd.prog 12 #[.string s, .string sep] w fun e w' => ∃ A c, e = .returned (.tuple #[.slice A (splitR s sep).length c, .bool (splitOk s sep)]) ∧ w'.ownsRow w.heap.size 9 1 (.slice A (splitR s sep).length c) (splitR s sep).length (strs (splitR s sep)) ∧ Below w.heap.size w w' := by
  unfold maxLen at hs hp
  by_cases h1 : s.size ≤ 4000
  · by_cases h2 : sep.size = 1
    · obtain ⟨b, rfl⟩ := one_byte h2
      have H := Lib.hid (split_yes (b := b) h1)
      have e1 : ((bs [b]).data[0]'(by show 0 < 1; omega)) = b := rfl
      have e2 : ((bs [b])[0]'(by show 0 < 1; omega)) = b := rfl
      go_enter Tryd.func12, Tryd.ntmps12
      go_wp2_with fail
      refine (l1Split_any s b w (by omega)).mono ?_
      rintro e w1 ⟨A, c, rfl, ho, hb⟩
      go_wp2
      go_ret2
      rw [H.out.2, partsB_len, ← partsV_strs]
      exact ⟨A, c, ret_vb H.out.1, ho, hb⟩
    · have H := Lib.hid (split_no (s := s) (Or.inr h2))
      have hne : ((sep.size : Int) != 1) = true := by simp; omega
      clear h2
      go_enter Tryd.func12, Tryd.ntmps12
      go_wp2
      go_ret2
      rw [H.out.2]
      exact ⟨_, 0, ret_vb H.out.1, World.ownsRow_made _ _ _ (Nat.le_refl _) (by unfold maxLen; omega) (by simp), (Below.refl _ _).alloc (Nat.le_refl _) _⟩
  · have H := Lib.hid (split_no (sep := sep) (Or.inl (show 4000 < s.size by omega)))
    go_enter Tryd.func12, Tryd.ntmps12
    go_wp2
    all_goals
      go_ret2
      rw [H.out.2]
      exact ⟨_, 0, ret_vb H.out.1, World.ownsRow_made _ _ _ (Nat.le_refl _) (by unfold maxLen; omega) (by simp), (Below.refl _ _).alloc (Nat.le_refl _) _⟩
end Go.Proofs.YtpnomnicfkjcgaaDoor
