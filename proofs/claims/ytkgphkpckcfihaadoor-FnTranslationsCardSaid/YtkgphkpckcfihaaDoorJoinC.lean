/- The contract of strings.Join at a row of the call's own. Condition: the whole is no longer than 2^40. -/
import Derived.Test.YtkgphkpckcfihaaDoorStrs
import Derived.Test.YtkgphkpckcfihaaDoorBits
import Derived.Test.YtkgphkpckcfihaaDoorRows
import Derived.Lib.Join
import Derived.Ground.NamesProg
import Derived.Shelf.Lay
import Derived.Shelf.Strings.OnBuilder
namespace Go.Proofs.YtkgphkpckcfihaaDoor
open Go.RowKit Go.Shelf

shelf_lay Lays.n156 Nm 156 at Tryd as Tryd.lJoin
theorem joinExtra : Builder.Extra Tryd.prog Tryd.lJoin_ren where
  sizeBuilder := by kernel_rfl
  liesBuilder := by kernel_rfl
  t5 := Tryd.underlying5
  a5 := Tryd.isAgg5
  z5 := Tryd.sizeOf5
  v5 := Tryd.zeroValue5
  infoByte := by kernel_rfl
  cellsByte := by kernel_rfl
  sizeByte := by kernel_rfl
  neB5 := by decide
theorem strT : ElemT Tryd.prog 42 9 (.string ⟨#[]⟩) 1 16 := ⟨Tryd.underlying42, by kernel_rfl, rfl, by decide⟩

/-- strings.Join of a row of the call's own. -/
theorem join_any (A : Option Addr) (n c base : Nat) (ss : List ByteArray) (sep : ByteArray) (w : World) (hn : ss.length = n) (h0 : 0 < n) (hle : n ≤ 1048576) (ho : w.ownsRow base 9 1 (.slice A n c) n (strs ss)) (hl : (Lib.join (ss.map (·.data.toList)) sep.data.toList).length ≤ 1099511627776) :
    Calls Tryd.prog 46 #[.slice A n c, .string sep] w fun e w' => e = .returned (.string (bs (Lib.join (ss.map (·.data.toList)) sep.data.toList))) ∧ Below w.heap.size w w' := by
  obtain ⟨g, cap, hv, hbg, hlt⟩ := ho.form h0
  obtain ⟨_, _, hv', hnc⟩ := own_slice ho
  cases hv
  cases hv'
  subst hn
  have hr := Row.of_own ho
  obtain ⟨b, off, e, hb, hc⟩ := hr (by intro e; rw [strs] at e; simp at e; subst e; simp at h0)
  cases e
  exact Any.strings_Join Tryd.lJoin joinExtra g 0 c ss sep w (fun j x hx => hc j _ (by simp [strs, hx])) hlt (by omega) hnc (by omega)
end Go.Proofs.YtkgphkpckcfihaaDoor
