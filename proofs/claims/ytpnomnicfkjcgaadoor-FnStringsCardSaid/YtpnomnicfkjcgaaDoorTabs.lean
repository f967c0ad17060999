/- What the listed variables give: the table internal/strconv.uint64pow10, the error strconv.ErrSyntax. Condition: they read as their initialisers lay them. -/
import Derived.Test.YtpnomnicfkjcgaaDoorNum
import Derived.Test.YtpnomnicfkjcgaaDoorChecked
import Derived.Lib.LaidTab
import Derived.Lib.LaidU8
import Derived.Stop.LaidErr
namespace Go.Proofs.YtpnomnicfkjcgaaDoor
open Go.RowKit Go.Shelf

theorem tab_of {w : World} {l : List (String × DataW Unit)} (h : laidMet Tryd.prog l w) (hm : ("internal/strconv.uint64pow10", Lib.tabData .u64 Lib.pow10Tab) ∈ l) : Tab w := by
  obtain ⟨g, t, cs, fuel, p, h1, h2, h3, h4⟩ := Lib.laidMet.reads h hm
  obtain rfl := Option.some.inj ((show Tryd.prog.globalNamed "internal/strconv.uint64pow10" = some 3 by kernel_rfl).symm.trans h1)
  obtain rfl := Option.some.inj ((show (Tryd.prog.globals[3]?).map (·.type) = some 103 by kernel_rfl).symm.trans h2)
  show w.var? Tryd.prog "internal/strconv.uint64pow10" = _
  rw [h3, ← Lib.cells_of_tab Tryd.underlying103 Tryd.underlying58 (by kernel_rfl) (by kernel_rfl) h4]
def Err (w : World) : Prop := ∃ tp p, w.var? Tryd.prog "strconv.ErrSyntax" = some #[.iface tp p]
theorem Err.below {w w' : World} (h : Err w) (hb : Below w.heap.size w w') : Err w' := by
  obtain ⟨tp, p, hv⟩ := h
  exact ⟨tp, p, Go.Joins.var_stays (show Tryd.prog.globalNamed "strconv.ErrSyntax" = some 1 by kernel_rfl) hv hb (Nat.le_refl _)⟩
theorem star_err : "*" ++ "errors.errorString" = "*errors.errorString" := by decide
theorem row_err (u : TypeId) (h : Tryd.prog.typeName? 3 u = some "*errors.errorString") : u = 110 :=
  typeName_ptr_named (nm := "errors.errorString") (by rw [star_err]; kernel_rfl) (by kernel_rfl) (by decide) u (by rw [star_err]; exact h)
theorem err_of {w : World} {r : List (String × DataW Unit)} (h : laidMet Tryd.prog (("strconv.ErrSyntax", .iface "*errors.errorString" (.ptr (.agg [.lit (.string [105, 110, 118, 97, 108, 105, 100, 32, 115, 121, 110, 116, 97, 120])]))) :: r) w) : Err w := by
  obtain ⟨a0, s0, hv0, -, -, -⟩ := laid_sentinel h (show Tryd.prog.globalNamed "strconv.ErrSyntax" = some 1 by kernel_rfl) (show (Tryd.prog.globals[1]?).map (·.type) = some 54 by kernel_rfl) Tryd.underlying54 row_err Tryd.underlying110 Tryd.underlying112 rfl rfl Tryd.underlying9 (by kernel_rfl) (by kernel_rfl)
  exact ⟨_, _, hv0⟩
end Go.Proofs.YtpnomnicfkjcgaaDoor
