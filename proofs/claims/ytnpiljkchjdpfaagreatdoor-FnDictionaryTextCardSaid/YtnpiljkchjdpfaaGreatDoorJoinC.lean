/- The contract of strings.Join at a row of the call's own. Condition: the whole is no longer than 2^40. -/
import Derived.Test.YtnpiljkchjdpfaaGreatDoorStrs
import Derived.Test.YtnpiljkchjdpfaaGreatDoorBits
import Derived.Test.YtnpiljkchjdpfaaGreatDoorRows
import Derived.Lib.Join
import Derived.Ground.NamesProg
import Derived.Shelf.Lay
import Derived.Shelf.Strings.OnBuilder
namespace Go.Proofs.YtnpiljkchjdpfaaGreatDoor
open Go.RowKit Go.Shelf

def Tryz.lJoin_ren : Go.Shelf.Ren := ⟨fun | 156 => 49 | 165 => 69 | 166 => 70 | 169 => 71 | 240 => 91 | 241 => 92 | 276 => 107 | 277 => 108 | n => n, fun | 31 => 36 | 9 => 9 | 3 => 3 | 4 => 4 | 0 => 0 | 20 => 20 | 72 => 85 | 76 => 89 | 70 => 83 | 37 => 30 | 75 => 88 | 127 => 101 | 164 => 113 | 5 => 5 | 80 => 91 | n => n, fun | n => n⟩
theorem Tryz.lJoin : Go.Proofs.Lays.n156 Tryz.prog Tryz.lJoin_ren := {
  mixed := by kernel_rfl
  f156 := Tryz.func49.trans (congrArg some (by kernel_rfl))
  f165 := Tryz.func69.trans (congrArg some (by kernel_rfl))
  f166 := Tryz.func70.trans (congrArg some (by kernel_rfl))
  f169 := Tryz.func71.trans (congrArg some (by kernel_rfl))
  f240 := Tryz.func91.trans (congrArg some (by kernel_rfl))
  f241 := Tryz.func92.trans (congrArg some (by kernel_rfl))
  f276 := Tryz.func107.trans (congrArg some (by kernel_rfl))
  f277 := Tryz.func108.trans (congrArg some (by kernel_rfl))
  t0 := Tryz.underlying0
  a0 := Tryz.isAgg0
  z0 := Tryz.sizeOf0
  v0 := Tryz.zeroValue0
  t3 := Tryz.underlying3
  a3 := Tryz.isAgg3
  z3 := Tryz.sizeOf3
  v3 := Tryz.zeroValue3
  t4 := Tryz.underlying4
  a4 := Tryz.isAgg4
  z4 := Tryz.sizeOf4
  v4 := Tryz.zeroValue4
  t9 := Tryz.underlying9
  a9 := Tryz.isAgg9
  z9 := Tryz.sizeOf9
  v9 := Tryz.zeroValue9
  t20 := Tryz.underlying20
  a20 := Tryz.isAgg20
  z20 := Tryz.sizeOf20
  v20 := Tryz.zeroValue20
  t31 := Tryz.underlying36
  a31 := Tryz.isAgg36
  z31 := Tryz.sizeOf36
  v31 := Tryz.zeroValue36
  t37 := Tryz.underlying30
  a37 := Tryz.isAgg30
  z37 := Tryz.sizeOf30
  v37 := Tryz.zeroValue30
  t70 := Tryz.underlying83
  a70 := Tryz.isAgg83
  z70 := Tryz.sizeOf83
  v70 := Tryz.zeroValue83
  t72 := Tryz.underlying85
  a72 := Tryz.isAgg85
  z72 := Tryz.sizeOf85
  v72 := Tryz.zeroValue85
  t75 := Tryz.underlying88
  a75 := Tryz.isAgg88
  z75 := Tryz.sizeOf88
  v75 := Tryz.zeroValue88
  t76 := Tryz.underlying89
  a76 := Tryz.isAgg89
  z76 := Tryz.sizeOf89
  v76 := Tryz.zeroValue89
  t127 := Tryz.underlying101
  a127 := Tryz.isAgg101
  z127 := Tryz.sizeOf101
  v127 := Tryz.zeroValue101
  t164 := Tryz.underlying113
  a164 := Tryz.isAgg113
  z164 := Tryz.sizeOf113
  v164 := Tryz.zeroValue113 }
theorem joinExtra : Builder.Extra Tryz.prog Tryz.lJoin_ren := {
  sizeBuilder := by kernel_rfl
  liesBuilder := by kernel_rfl
  t5 := Tryz.underlying5
  a5 := Tryz.isAgg5
  z5 := Tryz.sizeOf5
  v5 := Tryz.zeroValue5
  infoByte := by kernel_rfl
  cellsByte := by kernel_rfl
  sizeByte := by kernel_rfl
  neB5 := by decide }
theorem strT : ElemT Tryz.prog 36 9 (.string ⟨#[]⟩) 1 16 := ⟨Tryz.underlying36, by kernel_rfl, rfl, by decide⟩

/-- strings.Join of a row of the call's own. -/
theorem join_any (A : Option Addr) (n c base : Nat) (ss : List ByteArray) (sep : ByteArray) (w : World) (hn : ss.length = n) (h0 : 0 < n) (hle : n ≤ 1048576) (ho : w.ownsRow base 9 1 (.slice A n c) n (strs ss)) (hl : (Lib.join (ss.map (·.data.toList)) sep.data.toList).length ≤ 1099511627776) :
    Calls Tryz.prog 49 #[.slice A n c, .string sep] w fun e w' => e = .returned (.string (bs (Lib.join (ss.map (·.data.toList)) sep.data.toList))) ∧ Below w.heap.size w w' := by
  obtain ⟨g, cap, hv, hbg, hlt⟩ := ho.form h0
  obtain ⟨_, _, hv', hnc⟩ := own_slice ho
  cases hv
  cases hv'
  subst hn
  have hr := Row.of_own ho
  obtain ⟨b, off, e, hb, hc⟩ := hr (by intro e; rw [strs] at e; simp at e; subst e; simp at h0)
  cases e
  exact Any.strings_Join Tryz.lJoin joinExtra g 0 c ss sep w (fun j x hx => hc j _ (by simp [strs, hx])) hlt (by omega) hnc (by omega)
end Go.Proofs.YtnpiljkchjdpfaaGreatDoor
