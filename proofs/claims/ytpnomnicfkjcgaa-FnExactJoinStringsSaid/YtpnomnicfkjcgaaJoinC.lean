/- The contract of strings.Join at a row of the call's own. Condition: the whole is no longer than 2^40. -/
import Derived.Test.YtpnomnicfkjcgaaStrs
import Derived.Test.YtpnomnicfkjcgaaBits
import Derived.Test.YtpnomnicfkjcgaaRows
import Derived.Lib.Join
import Derived.Ground.NamesProg
import Derived.Shelf.Lay
import Derived.Shelf.Strings.OnBuilder
namespace Go.Proofs.Ytpnomnicfkjcgaa
open Go.RowKit Go.Shelf

def Try.lJoin_ren : Go.Shelf.Ren := ⟨fun | 156 => 11 | 165 => 13 | 166 => 14 | 169 => 15 | 240 => 17 | 241 => 18 | 276 => 23 | 277 => 24 | n => n, fun | 31 => 22 | 9 => 9 | 3 => 3 | 4 => 4 | 0 => 0 | 20 => 20 | 72 => 36 | 76 => 40 | 70 => 33 | 37 => 34 | 75 => 39 | 127 => 43 | 164 => 47 | 5 => 5 | 80 => 42 | n => n, fun | n => n⟩
theorem Try.lJoin : Go.Proofs.Lays.n156 Try.prog Try.lJoin_ren := {
  mixed := by kernel_rfl
  f156 := Try.func11.trans (congrArg some (by kernel_rfl))
  f165 := Try.func13.trans (congrArg some (by kernel_rfl))
  f166 := Try.func14.trans (congrArg some (by kernel_rfl))
  f169 := Try.func15.trans (congrArg some (by kernel_rfl))
  f240 := Try.func17.trans (congrArg some (by kernel_rfl))
  f241 := Try.func18.trans (congrArg some (by kernel_rfl))
  f276 := Try.func23.trans (congrArg some (by kernel_rfl))
  f277 := Try.func24.trans (congrArg some (by kernel_rfl))
  t0 := Try.underlying0
  a0 := Try.isAgg0
  z0 := Try.sizeOf0
  v0 := Try.zeroValue0
  t3 := Try.underlying3
  a3 := Try.isAgg3
  z3 := Try.sizeOf3
  v3 := Try.zeroValue3
  t4 := Try.underlying4
  a4 := Try.isAgg4
  z4 := Try.sizeOf4
  v4 := Try.zeroValue4
  t9 := Try.underlying9
  a9 := Try.isAgg9
  z9 := Try.sizeOf9
  v9 := Try.zeroValue9
  t20 := Try.underlying20
  a20 := Try.isAgg20
  z20 := Try.sizeOf20
  v20 := Try.zeroValue20
  t31 := Try.underlying22
  a31 := Try.isAgg22
  z31 := Try.sizeOf22
  v31 := Try.zeroValue22
  t37 := Try.underlying34
  a37 := Try.isAgg34
  z37 := Try.sizeOf34
  v37 := Try.zeroValue34
  t70 := Try.underlying33
  a70 := Try.isAgg33
  z70 := Try.sizeOf33
  v70 := Try.zeroValue33
  t72 := Try.underlying36
  a72 := Try.isAgg36
  z72 := Try.sizeOf36
  v72 := Try.zeroValue36
  t75 := Try.underlying39
  a75 := Try.isAgg39
  z75 := Try.sizeOf39
  v75 := Try.zeroValue39
  t76 := Try.underlying40
  a76 := Try.isAgg40
  z76 := Try.sizeOf40
  v76 := Try.zeroValue40
  t127 := Try.underlying43
  a127 := Try.isAgg43
  z127 := Try.sizeOf43
  v127 := Try.zeroValue43
  t164 := Try.underlying47
  a164 := Try.isAgg47
  z164 := Try.sizeOf47
  v164 := Try.zeroValue47 }
theorem joinExtra : Builder.Extra Try.prog Try.lJoin_ren := {
  sizeBuilder := by kernel_rfl
  liesBuilder := by kernel_rfl
  t5 := Try.underlying5
  a5 := Try.isAgg5
  z5 := Try.sizeOf5
  v5 := Try.zeroValue5
  infoByte := by kernel_rfl
  cellsByte := by kernel_rfl
  sizeByte := by kernel_rfl
  neB5 := by decide }
theorem strT : ElemT Try.prog 22 9 (.string ⟨#[]⟩) 1 16 := ⟨Try.underlying22, by kernel_rfl, rfl, by decide⟩

/-- strings.Join of a row of the call's own. -/
theorem join_any (A : Option Addr) (n c base : Nat) (ss : List ByteArray) (sep : ByteArray) (w : World) (hn : ss.length = n) (h0 : 0 < n) (hle : n ≤ 1048576) (ho : w.ownsRow base 9 1 (.slice A n c) n (strs ss)) (hl : (Lib.join (ss.map (·.data.toList)) sep.data.toList).length ≤ 1099511627776) :
    Calls Try.prog 11 #[.slice A n c, .string sep] w fun e w' => e = .returned (.string (bs (Lib.join (ss.map (·.data.toList)) sep.data.toList))) ∧ Below w.heap.size w w' := by
  obtain ⟨g, cap, hv, hbg, hlt⟩ := ho.form h0
  obtain ⟨_, _, hv', hnc⟩ := own_slice ho
  cases hv
  cases hv'
  subst hn
  have hr := Row.of_own ho
  obtain ⟨b, off, e, hb, hc⟩ := hr (by intro e; rw [strs] at e; simp at e; subst e; simp at h0)
  cases e
  exact Any.strings_Join Try.lJoin joinExtra g 0 c ss sep w (fun j x hx => hc j _ (by simp [strs, hx])) hlt (by omega) hnc (by omega)
end Go.Proofs.Ytpnomnicfkjcgaa
