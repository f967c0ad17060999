/- The contract of strings.Split at a separator of one byte. Condition: the text is at most 2^20 bytes long. -/
import Derived.Test.YtkgphkpckcfihaaDoorSplitW
import Derived.Ground.NamesProg
import Derived.Shelf.Lay
import Derived.Shelf.Strings.Split
import Derived.Shelf.Strings.SplitShaped
namespace Go.Proofs.YtkgphkpckcfihaaDoor
open Go.RowKit Go.Shelf

shelf_lay LaysM.n146 Nm 146 at Tryd as Tryd.lSplit

theorem countB_one (t : ByteArray) (b : UInt8) : Lib.countB t ⟨#[b]⟩ = t.data.toList.count b := by
  show Lib.count t.data.toList [b] = _
  exact Lib.count_one b _
theorem splitB_one (t : ByteArray) (b : UInt8) : ((Lib.splitB ⟨#[b]⟩ 0 (Lib.countB t ⟨#[b]⟩) t).map Value.string) = partsV (splits b t.data.toList) := by
  have h := Lib.splitB_data ⟨#[b]⟩ 0 (Lib.countB t ⟨#[b]⟩) t
  rw [countB_one] at h ⊢
  have h2 : (Lib.splitB ⟨#[b]⟩ 0 (t.data.toList.count b) t).map (·.data.toList) = splits b t.data.toList := h.trans (splitK_one b _ _ (Nat.le_refl _))
  rw [← h2, partsV, List.map_map]
  apply List.map_congr_left
  intro x _
  rfl
theorem split_any (t : ByteArray) (b : UInt8) (w : World) (m : Int) (hmax : w.cell? ⟨0, 0, none⟩ = some (.int .i64 m)) (hm : t.size ≤ 1048576) :
    Calls Tryd.prog 42 #[.string t, .string ⟨#[b]⟩] w fun e w' => ∃ A c, e = .returned (.slice A (splits b t.data.toList).length c) ∧ w'.ownsRow w.heap.size 9 1 (.slice A (splits b t.data.toList).length c) (splits b t.data.toList).length (partsV (splits b t.data.toList)) ∧ Below w.heap.size w w' := by
  have h := Any.strings_Split (P := Tryd.prog) (ρ := Tryd.lSplit_ren) { Tryd.lSplit with } Tryd.lSplit.i9 t ⟨#[b]⟩ m w (by omega) hmax (Nat.le_refl 1)
  have e1 : Lib.countB t ⟨#[b]⟩ + 1 = (splits b t.data.toList).length := by
    have := congrArg List.length (splitB_one t b)
    rw [List.length_map, Lib.splitB_all ⟨#[b]⟩ (Nat.le_refl 1) 0 _ t rfl] at this
    rw [this]; simp [partsV]
  rw [splitB_one, e1] at h
  refine h.mono fun e w' ⟨he, hw⟩ => ⟨_, _, he, ?_, by rw [hw]; exact (Below.refl _ w).alloc (Nat.le_refl _) _⟩
  rw [hw]
  have hl : (splits b t.data.toList).length ≤ 1048577 := by rw [← e1, countB_one]; have := List.count_le_length (a := b) (l := t.data.toList); have := bs_size' t; omega
  refine ⟨by simp [partsV], .inr ⟨w.heap.size, _, _, rfl, Nat.le_refl _, heap_alloc_new w _, Nat.le_refl _, by unfold maxLen; omega, by simp [partsV], ?_⟩⟩
  rw [List.take_of_length_le (by simp [partsV])]
end Go.Proofs.YtkgphkpckcfihaaDoor
