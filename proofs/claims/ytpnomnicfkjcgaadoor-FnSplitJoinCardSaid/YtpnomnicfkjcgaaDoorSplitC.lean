/- The contract of strings.Split at a separator of one byte. Condition: the text is at most 2^20 bytes long. -/
import Derived.Test.YtpnomnicfkjcgaaDoorSplitW
import Derived.Ground.NamesProg
import Derived.Shelf.Lay
import Derived.Shelf.Strings.Split
import Derived.Shelf.Strings.SplitShaped
namespace Go.Proofs.YtpnomnicfkjcgaaDoor
open Go.RowKit Go.Shelf

def Tryd.lSplit_ren : Go.Shelf.Ren := ⟨fun | 146 => 40 | 221 => 56 | 268 => 67 | 138 => 68 | 143 => 58 | 195 => 81 | 197 => 82 | 218 => 83 | 219 => 69 | 260 => 98 | 217 => 84 | 225 => 85 | 224 => 86 | 267 => 87 | 266 => 99 | 314 => 100 | n => n, fun | 9 => 9 | 31 => 25 | 3 => 3 | 4 => 4 | 0 => 0 | 105 => 91 | 21 => 21 | 5 => 5 | 46 => 84 | 119 => 114 | 139 => 117 | 138 => 116 | 146 => 107 | 51 => 104 | n => n, fun | 1 => 0 | 3 => 4 | 4 => 5 | n => n⟩
theorem Tryd.lSplit : Go.Proofs.LaysM.n146 Tryd.prog Tryd.lSplit_ren := {
  mixed := by kernel_rfl
  f138 := Tryd.func68.trans (congrArg some (by kernel_rfl))
  f143 := Tryd.func58.trans (congrArg some (by kernel_rfl))
  f146 := Tryd.func40.trans (congrArg some (by kernel_rfl))
  f195 := Tryd.func81.trans (congrArg some (by kernel_rfl))
  f197 := Tryd.func82.trans (congrArg some (by kernel_rfl))
  f217 := Tryd.func84.trans (congrArg some (by kernel_rfl))
  f218 := Tryd.func83.trans (congrArg some (by kernel_rfl))
  f219 := Tryd.func69.trans (congrArg some (by kernel_rfl))
  f221 := Tryd.func56.trans (congrArg some (by kernel_rfl))
  f224 := Tryd.func86.trans (congrArg some (by kernel_rfl))
  f225 := Tryd.func85.trans (congrArg some (by kernel_rfl))
  f260 := Tryd.func98.trans (congrArg some (by kernel_rfl))
  f266 := Tryd.func99.trans (congrArg some (by kernel_rfl))
  f267 := Tryd.func87.trans (congrArg some (by kernel_rfl))
  f268 := Tryd.func67.trans (congrArg some (by kernel_rfl))
  f314 := Tryd.func100.trans (congrArg some (by kernel_rfl))
  t0 := Tryd.underlying0
  a0 := Tryd.isAgg0
  z0 := Tryd.sizeOf0
  v0 := Tryd.zeroValue0
  t3 := Tryd.underlying3
  a3 := Tryd.isAgg3
  z3 := Tryd.sizeOf3
  v3 := Tryd.zeroValue3
  t4 := Tryd.underlying4
  a4 := Tryd.isAgg4
  z4 := Tryd.sizeOf4
  v4 := Tryd.zeroValue4
  t5 := Tryd.underlying5
  a5 := Tryd.isAgg5
  z5 := Tryd.sizeOf5
  v5 := Tryd.zeroValue5
  t9 := Tryd.underlying9
  a9 := Tryd.isAgg9
  z9 := Tryd.sizeOf9
  v9 := Tryd.zeroValue9
  t21 := Tryd.underlying21
  a21 := Tryd.isAgg21
  z21 := Tryd.sizeOf21
  v21 := Tryd.zeroValue21
  t31 := Tryd.underlying25
  a31 := Tryd.isAgg25
  z31 := Tryd.sizeOf25
  v31 := Tryd.zeroValue25
  t46 := Tryd.underlying84
  a46 := Tryd.isAgg84
  z46 := Tryd.sizeOf84
  v46 := Tryd.zeroValue84
  t51 := Tryd.underlying104
  a51 := Tryd.isAgg104
  z51 := Tryd.sizeOf104
  v51 := Tryd.zeroValue104
  t105 := Tryd.underlying91
  a105 := Tryd.isAgg91
  z105 := Tryd.sizeOf91
  v105 := Tryd.zeroValue91
  t119 := Tryd.underlying114
  a119 := Tryd.isAgg114
  z119 := Tryd.sizeOf114
  t138 := Tryd.underlying116
  a138 := Tryd.isAgg116
  z138 := Tryd.sizeOf116
  v138 := Tryd.zeroValue116
  t139 := Tryd.underlying117
  a139 := Tryd.isAgg117
  z139 := Tryd.sizeOf117
  v139 := Tryd.zeroValue117
  t146 := Tryd.underlying107
  a146 := Tryd.isAgg107
  z146 := Tryd.sizeOf107
  v146 := Tryd.zeroValue107
  g1 := by kernel_rfl
  g3 := by kernel_rfl
  g4 := by kernel_rfl
  i0 := by kernel_rfl
  i3 := by kernel_rfl
  i4 := by kernel_rfl
  i5 := by kernel_rfl
  i9 := by kernel_rfl
  i21 := by kernel_rfl
  i31 := by kernel_rfl
  i46 := by kernel_rfl
  i51 := by kernel_rfl
  i105 := by kernel_rfl
  i138 := by kernel_rfl
  i139 := by kernel_rfl
  i146 := by kernel_rfl
  m1 := by kernel_rfl
  s1_3 := fun w h => Go.Proofs.cell_of_shapedOpen_int (zero := #[.int .i64 0]) (t := 3) h (of_decide_eq_true (by kernel_rfl)) (by kernel_rfl) rfl (by kernel_rfl) (by kernel_rfl) Tryd.underlying3
  m3 := by kernel_rfl
  m4 := by kernel_rfl }

theorem countB_one (t : ByteArray) (b : UInt8) : Lib.countB t ⟨#[b]⟩ = t.data.toList.count b := by
  show Lib.count t.data.toList [b] = _
  exact Lib.count_one b _
theorem splitB_one (t : ByteArray) (b : UInt8) : ((Lib.splitB ⟨#[b]⟩ 0 (Lib.countB t ⟨#[b]⟩) t).map Value.string) = partsV (splits b t.data.toList) := by
  have h := Lib.splitB_data ⟨#[b]⟩ 0 (Lib.countB t ⟨#[b]⟩) t
  rw [countB_one] at h ⊢
  have h2 : (Lib.splitB ⟨#[b]⟩ 0 (t.data.toList.count b) t).map (·.data.toList) = splits b t.data.toList := h.trans (splitK_one b _ _ (Nat.le_refl _))
  rw [← h2, partsV, List.map_map]
  apply List.map_congr_left
  intro x _
  rfl
theorem split_any (t : ByteArray) (b : UInt8) (w : World) (m : Int) (hmax : w.cell? ⟨0, 0, none⟩ = some (.int .i64 m)) (hm : t.size ≤ 1048576) :
    Calls Tryd.prog 40 #[.string t, .string ⟨#[b]⟩] w fun e w' => ∃ A c, e = .returned (.slice A (splits b t.data.toList).length c) ∧ w'.ownsRow w.heap.size 9 1 (.slice A (splits b t.data.toList).length c) (splits b t.data.toList).length (partsV (splits b t.data.toList)) ∧ Below w.heap.size w w' := by
  have h := Any.strings_Split (P := Tryd.prog) (ρ := Tryd.lSplit_ren) { Tryd.lSplit with } Tryd.lSplit.i9 t ⟨#[b]⟩ m w (by omega) hmax (Nat.le_refl 1)
  have e1 : Lib.countB t ⟨#[b]⟩ + 1 = (splits b t.data.toList).length := by
    have := congrArg List.length (splitB_one t b)
    rw [List.length_map, Lib.splitB_all ⟨#[b]⟩ (Nat.le_refl 1) 0 _ t rfl] at this
    rw [this]; simp [partsV]
  rw [splitB_one, e1] at h
  refine h.mono fun e w' ⟨he, hw⟩ => ⟨_, _, he, ?_, by rw [hw]; exact (Below.refl _ w).alloc (Nat.le_refl _) _⟩
  rw [hw]
  have hl : (splits b t.data.toList).length ≤ 1048577 := by rw [← e1, countB_one]; have := List.count_le_length (a := b) (l := t.data.toList); have := bs_size' t; omega
  refine ⟨by simp [partsV], .inr ⟨w.heap.size, _, _, rfl, Nat.le_refl _, heap_alloc_new w _, Nat.le_refl _, by unfold maxLen; omega, by simp [partsV], ?_⟩⟩
  rw [List.take_of_length_le (by simp [partsV])]
end Go.Proofs.YtpnomnicfkjcgaaDoor
