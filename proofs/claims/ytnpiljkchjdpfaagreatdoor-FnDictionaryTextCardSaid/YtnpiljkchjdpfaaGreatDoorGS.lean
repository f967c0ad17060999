/- Contracts on splitting at one byte. Condition: the text is at most 2^20 bytes long. | The contract of strings.Split at a separator of one byte. Condition: the text is at most 2^20 bytes long. -/
import Derived.Test.YtnpiljkchjdpfaaGreatDoorMem
import Derived.Test.YtnpiljkchjdpfaaGreatDoorBits
import Derived.Test.YtnpiljkchjdpfaaGreatDoorPSplit
import Derived.Test.YtnpiljkchjdpfaaGreatDoorRows
import Derived.Laws.MakeOwn
import Derived.Deep.QuietTactic
import Derived.BigQuiet
import Derived.WalkLawsBesides
import Derived.WalkSpells
import Derived.Outline
import Derived.Lib.Hide
import Derived.Ground.NamesProg
import Derived.Shelf.Lay
import Derived.Shelf.Strings.Split
import Derived.Shelf.Strings.SplitShaped
namespace Go.Proofs.YtnpiljkchjdpfaaGreatDoor
open Go.RowKit

theorem strT' : ElemT Tryz.prog 36 9 (.string ⟨#[]⟩) 1 16 := ⟨Tryz.underlying36, by kernel_rfl, rfl, by decide⟩
def partsV (ps : List (List UInt8)) : List Value := ps.map fun p => Value.string (bs p)
theorem partsV_snoc (ps : List (List UInt8)) (p : List UInt8) : partsV (ps ++ [p]) = partsV ps ++ [.string (bs p)] := by simp [partsV]
theorem extract_bs (t : ByteArray) (f k : Nat) : t.extract f k = bs ((t.data.toList.drop f).take (k - f)) := by
  apply bs_of
  simp

set_option maxHeartbeats 1000000 in
theorem l1Split_any (t : ByteArray) (b : UInt8) (w : World) (hm : t.size ≤ 1048576) :
    Calls Tryz.prog 16 #[.string t, .int .u8 b.toNat] w fun e w' => ∃ A c, e = .returned (.slice A (splits b t.data.toList).length c) ∧ w'.ownsRow w.heap.size 9 1 (.slice A (splits b t.data.toList).length c) (splits b t.data.toList).length (partsV (splits b t.data.toList)) ∧ Below w.heap.size w w' := by
  have hlen : t.data.toList.length = t.size := (bs_size' t).symm
  go_enter Tryz.func16, Tryz.ntmps16
  go_wp2
  go_loopw [5, 6, 7] (fun v fr i wr => ∃ k f : Nat, ∃ ps : List (List UInt8), k ≤ t.size ∧ ps.length ≤ k ∧ i = .int .i64 k ∧ fr = .int .i64 f ∧ SpAt b t.data.toList k f ps ∧ wr.ownsRow w.heap.size 9 1 v ps.length (partsV ps) ∧ Below w.heap.size w wr) (fun _ _ i _ => t.size - (intOf i).toNat)
  case atStart => exact ⟨0, 0, [], by omega, by simp, rfl, rfl, sp_start _ _, World.ownsRow_made _ _ _ (Nat.le_refl _) (by unfold maxLen; omega) (by simp), (Below.refl _ _).alloc (Nat.le_refl _) _⟩
  case round =>
    obtain ⟨k, f, ps, hk, hpl, rfl, rfl, hst, hown, hbel⟩ := hrel
    have hs := hbel.size
    have hf := hst.1
    by_cases hlt : k < t.size
    · have hkl : k < t.data.toList.length := by omega
      have hg : t.data[k] = t.data.toList[k] := rfl
      by_cases he : t.data[k] = b
      · have H := Lib.hid (sp_hit hst hkl (by rw [← hg]; exact he))
        have hx := Lib.hid (extract_bs t f k)
        have he' : ((t.data[k].toNat : Int) == (b.toNat : Int)) = true := by rw [he]; simp
        have he2 : ((t[k].toNat : Int) == (b.toNat : Int)) = true := he'
        clear hst he
        go_wp2_with (at_builtin; go_loud (refine wpList_app1 (.string (t.extract f k)) strT' hbel hown rfl (Nat.le_refl _) hs (by omega) (by decide) rfl (.tmp 20) (.tmp 25) rfl rfl rfl ?_; intro v2 w2 ho2 b2 _ _))
        go_roundw
        case rel => exact ⟨k + 1, k + 1, _, by omega, by simp; omega, by go_num, by go_num, H.out, by rw [partsV_snoc, ← hx.out]; simpa using ho2, b2⟩
        case measure => simp [intOf]; omega
      · have H := Lib.hid (sp_miss hst hkl (by rw [← hg]; exact he))
        have he' : ((t.data[k].toNat : Int) == (b.toNat : Int)) = false := by
          simp only [beq_eq_false_iff_ne, ne_eq, Int.natCast_inj]
          exact fun e => he (UInt8.toNat_inj.1 e)
        have he2 : ((t[k].toNat : Int) == (b.toNat : Int)) = false := he'
        clear hst he
        go_wp2
        go_roundw
        case rel => exact ⟨k + 1, f, ps, by omega, by omega, by go_num, rfl, H.out, hown, hbel⟩
        case measure => simp [intOf]; omega
    · obtain rfl : k = t.size := by omega
      have H := Lib.hid (sp_end (by rw [hlen]; exact hst))
      have hx := Lib.hid (extract_bs t f t.size)
      go_wp2_with (at_builtin; refine wpList_app1 (.string (t.extract f t.size)) strT' hbel hown rfl (Nat.le_refl _) hs (by omega) (by decide) rfl (.tmp 29) (.tmp 33) rfl rfl rfl ?_; intro v2 w2 ho2 b2 _ _)
      obtain ⟨A, c, rfl, _⟩ := own_slice ho2
      go_ret
      have e : bs ((t.data.toList.drop f).take (t.size - f)) = bs (t.data.toList.drop f) := by rw [List.take_of_length_le (by rw [List.length_drop]; omega)]
      rw [H.out, List.length_append]
      exact ⟨A, c, rfl, by rw [partsV_snoc, ← e, ← hx.out]; exact ho2, b2⟩
end Go.Proofs.YtnpiljkchjdpfaaGreatDoor

namespace Go.Proofs.YtnpiljkchjdpfaaGreatDoor
open Go.RowKit Go.Shelf

def Tryz.lSplit_ren : Go.Shelf.Ren := ⟨fun | 146 => 59 | 221 => 83 | 268 => 101 | 138 => 102 | 143 => 103 | 195 => 111 | 197 => 112 | 218 => 113 | 219 => 58 | 260 => 117 | 217 => 79 | 225 => 80 | 224 => 81 | 267 => 82 | 266 => 99 | 314 => 100 | n => n, fun | 9 => 9 | 31 => 36 | 3 => 3 | 4 => 4 | 0 => 0 | 105 => 118 | 21 => 21 | 5 => 5 | 46 => 81 | 119 => 128 | 139 => 131 | 138 => 130 | 146 => 108 | 51 => 107 | n => n, fun | 1 => 0 | 3 => 1 | 4 => 2 | n => n⟩
theorem Tryz.lSplit : Go.Proofs.LaysM.n146 Tryz.prog Tryz.lSplit_ren := {
  mixed := by kernel_rfl
  f138 := Tryz.func102.trans (congrArg some (by kernel_rfl))
  f143 := Tryz.func103.trans (congrArg some (by kernel_rfl))
  f146 := Tryz.func59.trans (congrArg some (by kernel_rfl))
  f195 := Tryz.func111.trans (congrArg some (by kernel_rfl))
  f197 := Tryz.func112.trans (congrArg some (by kernel_rfl))
  f217 := Tryz.func79.trans (congrArg some (by kernel_rfl))
  f218 := Tryz.func113.trans (congrArg some (by kernel_rfl))
  f219 := Tryz.func58.trans (congrArg some (by kernel_rfl))
  f221 := Tryz.func83.trans (congrArg some (by kernel_rfl))
  f224 := Tryz.func81.trans (congrArg some (by kernel_rfl))
  f225 := Tryz.func80.trans (congrArg some (by kernel_rfl))
  f260 := Tryz.func117.trans (congrArg some (by kernel_rfl))
  f266 := Tryz.func99.trans (congrArg some (by kernel_rfl))
  f267 := Tryz.func82.trans (congrArg some (by kernel_rfl))
  f268 := Tryz.func101.trans (congrArg some (by kernel_rfl))
  f314 := Tryz.func100.trans (congrArg some (by kernel_rfl))
  t0 := Tryz.underlying0
  a0 := Tryz.isAgg0
  z0 := Tryz.sizeOf0
  v0 := Tryz.zeroValue0
  t3 := Tryz.underlying3
  a3 := Tryz.isAgg3
  z3 := Tryz.sizeOf3
  v3 := Tryz.zeroValue3
  t4 := Tryz.underlying4
  a4 := Tryz.isAgg4
  z4 := Tryz.sizeOf4
  v4 := Tryz.zeroValue4
  t5 := Tryz.underlying5
  a5 := Tryz.isAgg5
  z5 := Tryz.sizeOf5
  v5 := Tryz.zeroValue5
  t9 := Tryz.underlying9
  a9 := Tryz.isAgg9
  z9 := Tryz.sizeOf9
  v9 := Tryz.zeroValue9
  t21 := Tryz.underlying21
  a21 := Tryz.isAgg21
  z21 := Tryz.sizeOf21
  v21 := Tryz.zeroValue21
  t31 := Tryz.underlying36
  a31 := Tryz.isAgg36
  z31 := Tryz.sizeOf36
  v31 := Tryz.zeroValue36
  t46 := Tryz.underlying81
  a46 := Tryz.isAgg81
  z46 := Tryz.sizeOf81
  v46 := Tryz.zeroValue81
  t51 := Tryz.underlying107
  a51 := Tryz.isAgg107
  z51 := Tryz.sizeOf107
  v51 := Tryz.zeroValue107
  t105 := Tryz.underlying118
  a105 := Tryz.isAgg118
  z105 := Tryz.sizeOf118
  v105 := Tryz.zeroValue118
  t119 := Tryz.underlying128
  a119 := Tryz.isAgg128
  z119 := Tryz.sizeOf128
  t138 := Tryz.underlying130
  a138 := Tryz.isAgg130
  z138 := Tryz.sizeOf130
  v138 := Tryz.zeroValue130
  t139 := Tryz.underlying131
  a139 := Tryz.isAgg131
  z139 := Tryz.sizeOf131
  v139 := Tryz.zeroValue131
  t146 := Tryz.underlying108
  a146 := Tryz.isAgg108
  z146 := Tryz.sizeOf108
  v146 := Tryz.zeroValue108
  g1 := by kernel_rfl
  g3 := by kernel_rfl
  g4 := by kernel_rfl
  i0 := by kernel_rfl
  i3 := by kernel_rfl
  i4 := by kernel_rfl
  i5 := by kernel_rfl
  i9 := by kernel_rfl
  i21 := by kernel_rfl
  i31 := by kernel_rfl
  i46 := by kernel_rfl
  i51 := by kernel_rfl
  i105 := by kernel_rfl
  i138 := by kernel_rfl
  i139 := by kernel_rfl
  i146 := by kernel_rfl
  m1 := by kernel_rfl
  s1_3 := fun w h => Go.Proofs.cell_of_shapedOpen_int (zero := #[.int .i64 0]) (t := 3) h (of_decide_eq_true (by kernel_rfl)) (by kernel_rfl) rfl (by kernel_rfl) (by kernel_rfl) Tryz.underlying3
  m3 := by kernel_rfl
  m4 := by kernel_rfl }

theorem countB_one (t : ByteArray) (b : UInt8) : Lib.countB t ⟨#[b]⟩ = t.data.toList.count b := by
  show Lib.count t.data.toList [b] = _
  exact Lib.count_one b _
theorem splitB_one (t : ByteArray) (b : UInt8) : ((Lib.splitB ⟨#[b]⟩ 0 (Lib.countB t ⟨#[b]⟩) t).map Value.string) = partsV (splits b t.data.toList) := by
  have h := Lib.splitB_data ⟨#[b]⟩ 0 (Lib.countB t ⟨#[b]⟩) t
  rw [countB_one] at h ⊢
  have h2 : (Lib.splitB ⟨#[b]⟩ 0 (t.data.toList.count b) t).map (·.data.toList) = splits b t.data.toList := h.trans (splitK_one b _ _ (Nat.le_refl _))
  rw [← h2, partsV, List.map_map]
  apply List.map_congr_left
  intro x _
  rfl
theorem split_any (t : ByteArray) (b : UInt8) (w : World) (m : Int) (hmax : w.cell? ⟨0, 0, none⟩ = some (.int .i64 m)) (hm : t.size ≤ 1048576) :
    Calls Tryz.prog 59 #[.string t, .string ⟨#[b]⟩] w fun e w' => ∃ A c, e = .returned (.slice A (splits b t.data.toList).length c) ∧ w'.ownsRow w.heap.size 9 1 (.slice A (splits b t.data.toList).length c) (splits b t.data.toList).length (partsV (splits b t.data.toList)) ∧ Below w.heap.size w w' := by
  have h := Any.strings_Split (P := Tryz.prog) (ρ := Tryz.lSplit_ren) { Tryz.lSplit with } Tryz.lSplit.i9 t ⟨#[b]⟩ m w (by omega) hmax (Nat.le_refl 1)
  have e1 : Lib.countB t ⟨#[b]⟩ + 1 = (splits b t.data.toList).length := by
    have := congrArg List.length (splitB_one t b)
    rw [List.length_map, Lib.splitB_all ⟨#[b]⟩ (Nat.le_refl 1) 0 _ t rfl] at this
    rw [this]; simp [partsV]
  rw [splitB_one, e1] at h
  refine h.mono fun e w' ⟨he, hw⟩ => ⟨_, _, he, ?_, by rw [hw]; exact (Below.refl _ w).alloc (Nat.le_refl _) _⟩
  rw [hw]
  have hl : (splits b t.data.toList).length ≤ 1048577 := by rw [← e1, countB_one]; have := List.count_le_length (a := b) (l := t.data.toList); have := bs_size' t; omega
  refine ⟨by simp [partsV], .inr ⟨w.heap.size, _, _, rfl, Nat.le_refl _, heap_alloc_new w _, Nat.le_refl _, by unfold maxLen; omega, by simp [partsV], ?_⟩⟩
  rw [List.take_of_length_le (by simp [partsV])]
end Go.Proofs.YtnpiljkchjdpfaaGreatDoor
