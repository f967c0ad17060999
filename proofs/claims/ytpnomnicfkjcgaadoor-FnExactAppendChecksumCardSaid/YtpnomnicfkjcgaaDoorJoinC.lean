/- The contract of strings.Join at a row of the call's own. Condition: the whole is no longer than 2^40. -/
import Derived.Test.YtpnomnicfkjcgaaDoorStrs
import Derived.Test.YtpnomnicfkjcgaaDoorBits
import Derived.Test.YtpnomnicfkjcgaaDoorRows
import Derived.Lib.Join
import Derived.Ground.NamesProg
import Derived.Shelf.Lay
import Derived.Shelf.Strings.OnBuilder
namespace Go.Proofs.YtpnomnicfkjcgaaDoor
open Go.RowKit Go.Shelf

def Tryd.lJoin_ren : Go.Shelf.Ren := ⟨fun | 156 => 53 | 165 => 63 | 166 => 64 | 169 => 65 | 240 => 75 | 241 => 76 | 276 => 91 | 277 => 92 | n => n, fun | 31 => 25 | 9 => 9 | 3 => 3 | 4 => 4 | 0 => 0 | 20 => 20 | 72 => 74 | 76 => 55 | 70 => 72 | 37 => 35 | 75 => 54 | 127 => 85 | 164 => 99 | 5 => 5 | 80 => 61 | n => n, fun | n => n⟩
theorem Tryd.lJoin : Go.Proofs.Lays.n156 Tryd.prog Tryd.lJoin_ren := {
  mixed := by kernel_rfl
  f156 := Tryd.func53.trans (congrArg some (by kernel_rfl))
  f165 := Tryd.func63.trans (congrArg some (by kernel_rfl))
  f166 := Tryd.func64.trans (congrArg some (by kernel_rfl))
  f169 := Tryd.func65.trans (congrArg some (by kernel_rfl))
  f240 := Tryd.func75.trans (congrArg some (by kernel_rfl))
  f241 := Tryd.func76.trans (congrArg some (by kernel_rfl))
  f276 := Tryd.func91.trans (congrArg some (by kernel_rfl))
  f277 := Tryd.func92.trans (congrArg some (by kernel_rfl))
  t0 := Tryd.underlying0
  a0 := Tryd.isAgg0
  z0 := Tryd.sizeOf0
  v0 := Tryd.zeroValue0
  t3 := Tryd.underlying3
  a3 := Tryd.isAgg3
  z3 := Tryd.sizeOf3
  v3 := Tryd.zeroValue3
  t4 := Tryd.underlying4
  a4 := Tryd.isAgg4
  z4 := Tryd.sizeOf4
  v4 := Tryd.zeroValue4
  t9 := Tryd.underlying9
  a9 := Tryd.isAgg9
  z9 := Tryd.sizeOf9
  v9 := Tryd.zeroValue9
  t20 := Tryd.underlying20
  a20 := Tryd.isAgg20
  z20 := Tryd.sizeOf20
  v20 := Tryd.zeroValue20
  t31 := Tryd.underlying25
  a31 := Tryd.isAgg25
  z31 := Tryd.sizeOf25
  v31 := Tryd.zeroValue25
  t37 := Tryd.underlying35
  a37 := Tryd.isAgg35
  z37 := Tryd.sizeOf35
  v37 := Tryd.zeroValue35
  t70 := Tryd.underlying72
  a70 := Tryd.isAgg72
  z70 := Tryd.sizeOf72
  v70 := Tryd.zeroValue72
  t72 := Tryd.underlying74
  a72 := Tryd.isAgg74
  z72 := Tryd.sizeOf74
  v72 := Tryd.zeroValue74
  t75 := Tryd.underlying54
  a75 := Tryd.isAgg54
  z75 := Tryd.sizeOf54
  v75 := Tryd.zeroValue54
  t76 := Tryd.underlying55
  a76 := Tryd.isAgg55
  z76 := Tryd.sizeOf55
  v76 := Tryd.zeroValue55
  t127 := Tryd.underlying85
  a127 := Tryd.isAgg85
  z127 := Tryd.sizeOf85
  v127 := Tryd.zeroValue85
  t164 := Tryd.underlying99
  a164 := Tryd.isAgg99
  z164 := Tryd.sizeOf99
  v164 := Tryd.zeroValue99 }
theorem joinExtra : Builder.Extra Tryd.prog Tryd.lJoin_ren := {
  sizeBuilder := by kernel_rfl
  liesBuilder := by kernel_rfl
  t5 := Tryd.underlying5
  a5 := Tryd.isAgg5
  z5 := Tryd.sizeOf5
  v5 := Tryd.zeroValue5
  infoByte := by kernel_rfl
  cellsByte := by kernel_rfl
  sizeByte := by kernel_rfl
  neB5 := by decide }
theorem strT : ElemT Tryd.prog 25 9 (.string ⟨#[]⟩) 1 16 := ⟨Tryd.underlying25, by kernel_rfl, rfl, by decide⟩

/-- strings.Join of a row of the call's own. -/
theorem join_any (A : Option Addr) (n c base : Nat) (ss : List ByteArray) (sep : ByteArray) (w : World) (hn : ss.length = n) (h0 : 0 < n) (hle : n ≤ 1048576) (ho : w.ownsRow base 9 1 (.slice A n c) n (strs ss)) (hl : (Lib.join (ss.map (·.data.toList)) sep.data.toList).length ≤ 1099511627776) :
    Calls Tryd.prog 53 #[.slice A n c, .string sep] w fun e w' => e = .returned (.string (bs (Lib.join (ss.map (·.data.toList)) sep.data.toList))) ∧ Below w.heap.size w w' := by
  obtain ⟨g, cap, hv, hbg, hlt⟩ := ho.form h0
  obtain ⟨_, _, hv', hnc⟩ := own_slice ho
  cases hv
  cases hv'
  subst hn
  have hr := Row.of_own ho
  obtain ⟨b, off, e, hb, hc⟩ := hr (by intro e; rw [strs] at e; simp at e; subst e; simp at h0)
  cases e
  exact Any.strings_Join Tryd.lJoin joinExtra g 0 c ss sep w (fun j x hx => hc j _ (by simp [strs, hx])) hlt (by omega) hnc (by omega)
end Go.Proofs.YtpnomnicfkjcgaaDoor
