/- The contract of strings.Join at a row of the call's own. Condition: the whole is no longer than 2^40. -/
import Derived.Test.YtnpiljkchjdpfaaDoorStrs
import Derived.Test.YtnpiljkchjdpfaaDoorBits
import Derived.Test.YtnpiljkchjdpfaaDoorRows
import Derived.Lib.Join
import Derived.Ground.NamesProg
import Derived.Shelf.Lay
import Derived.Shelf.Strings.OnBuilder
namespace Go.Proofs.YtnpiljkchjdpfaaDoor
open Go.RowKit Go.Shelf

def Tryd.lJoin_ren : Go.Shelf.Ren := ⟨fun | 156 => 70 | 165 => 86 | 166 => 87 | 169 => 88 | 240 => 97 | 241 => 98 | 276 => 112 | 277 => 113 | n => n, fun | 31 => 84 | 9 => 9 | 3 => 3 | 4 => 4 | 0 => 0 | 20 => 20 | 72 => 107 | 76 => 111 | 70 => 105 | 37 => 102 | 75 => 110 | 127 => 121 | 164 => 131 | 5 => 5 | 80 => 113 | n => n, fun | n => n⟩
theorem Tryd.lJoin : Go.Proofs.Lays.n156 Tryd.prog Tryd.lJoin_ren := {
  mixed := by kernel_rfl
  f156 := Tryd.func70.trans (congrArg some (by kernel_rfl))
  f165 := Tryd.func86.trans (congrArg some (by kernel_rfl))
  f166 := Tryd.func87.trans (congrArg some (by kernel_rfl))
  f169 := Tryd.func88.trans (congrArg some (by kernel_rfl))
  f240 := Tryd.func97.trans (congrArg some (by kernel_rfl))
  f241 := Tryd.func98.trans (congrArg some (by kernel_rfl))
  f276 := Tryd.func112.trans (congrArg some (by kernel_rfl))
  f277 := Tryd.func113.trans (congrArg some (by kernel_rfl))
  t0 := Tryd.underlying0
  a0 := Tryd.isAgg0
  z0 := Tryd.sizeOf0
  v0 := Tryd.zeroValue0
  t3 := Tryd.underlying3
  a3 := Tryd.isAgg3
  z3 := Tryd.sizeOf3
  v3 := Tryd.zeroValue3
  t4 := Tryd.underlying4
  a4 := Tryd.isAgg4
  z4 := Tryd.sizeOf4
  v4 := Tryd.zeroValue4
  t9 := Tryd.underlying9
  a9 := Tryd.isAgg9
  z9 := Tryd.sizeOf9
  v9 := Tryd.zeroValue9
  t20 := Tryd.underlying20
  a20 := Tryd.isAgg20
  z20 := Tryd.sizeOf20
  v20 := Tryd.zeroValue20
  t31 := Tryd.underlying84
  a31 := Tryd.isAgg84
  z31 := Tryd.sizeOf84
  v31 := Tryd.zeroValue84
  t37 := Tryd.underlying102
  a37 := Tryd.isAgg102
  z37 := Tryd.sizeOf102
  v37 := Tryd.zeroValue102
  t70 := Tryd.underlying105
  a70 := Tryd.isAgg105
  z70 := Tryd.sizeOf105
  v70 := Tryd.zeroValue105
  t72 := Tryd.underlying107
  a72 := Tryd.isAgg107
  z72 := Tryd.sizeOf107
  v72 := Tryd.zeroValue107
  t75 := Tryd.underlying110
  a75 := Tryd.isAgg110
  z75 := Tryd.sizeOf110
  v75 := Tryd.zeroValue110
  t76 := Tryd.underlying111
  a76 := Tryd.isAgg111
  z76 := Tryd.sizeOf111
  v76 := Tryd.zeroValue111
  t127 := Tryd.underlying121
  a127 := Tryd.isAgg121
  z127 := Tryd.sizeOf121
  v127 := Tryd.zeroValue121
  t164 := Tryd.underlying131
  a164 := Tryd.isAgg131
  z164 := Tryd.sizeOf131
  v164 := Tryd.zeroValue131 }
theorem joinExtra : Builder.Extra Tryd.prog Tryd.lJoin_ren := {
  sizeBuilder := by kernel_rfl
  liesBuilder := by kernel_rfl
  t5 := Tryd.underlying5
  a5 := Tryd.isAgg5
  z5 := Tryd.sizeOf5
  v5 := Tryd.zeroValue5
  infoByte := by kernel_rfl
  cellsByte := by kernel_rfl
  sizeByte := by kernel_rfl
  neB5 := by decide }
theorem strT : ElemT Tryd.prog 84 9 (.string ⟨#[]⟩) 1 16 := ⟨Tryd.underlying84, by kernel_rfl, rfl, by decide⟩

/-- strings.Join of a row of the call's own. -/
theorem join_any (A : Option Addr) (n c base : Nat) (ss : List ByteArray) (sep : ByteArray) (w : World) (hn : ss.length = n) (h0 : 0 < n) (hle : n ≤ 1048576) (ho : w.ownsRow base 9 1 (.slice A n c) n (strs ss)) (hl : (Lib.join (ss.map (·.data.toList)) sep.data.toList).length ≤ 1099511627776) :
    Calls Tryd.prog 70 #[.slice A n c, .string sep] w fun e w' => e = .returned (.string (bs (Lib.join (ss.map (·.data.toList)) sep.data.toList))) ∧ Below w.heap.size w w' := by
  obtain ⟨g, cap, hv, hbg, hlt⟩ := ho.form h0
  obtain ⟨_, _, hv', hnc⟩ := own_slice ho
  cases hv
  cases hv'
  subst hn
  have hr := Row.of_own ho
  obtain ⟨b, off, e, hb, hc⟩ := hr (by intro e; rw [strs] at e; simp at e; subst e; simp at h0)
  cases e
  exact Any.strings_Join Tryd.lJoin joinExtra g 0 c ss sep w (fun j x hx => hc j _ (by simp [strs, hx])) hlt (by omega) hnc (by omega)
end Go.Proofs.YtnpiljkchjdpfaaDoor
