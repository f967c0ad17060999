/- How a list of atoms that came in is opened. No condition. -/
import Derived.Test.YtkgphkpckcfihaaOpenSt
import Derived.Test.YtkgphkpckcfihaaPAtoms
import Derived.Test.YtkgphkpckcfihaaChecked
import Derived.Deep.Strs
import Derived.ChangeArms
namespace Go.Proofs.Ytkgphkpckcfihaa
open Go.RowKit Go.ChangeShapes Go.WideShapes Go.Deep

theorem at_open {H : Type} {enc : TypeId × Value → H} {w : World} (n : Nat) (cs : List Value) (y : DataW H × List MemPlace)
    (h : DataW.trod enc Try.prog w 0 (fun _ => true) true n 23 cs = some y) : ∃ a : At, ((Lit.int .i64 a.k).wf = true ∧ a.t.size ≤ maxLen) ∧ cs = atC a := by
  obtain ⟨y0, y1, m, _, hl, h0, h1⟩ := trod_struct2 Try.underlying23 h
  obtain ⟨z0, e0, _, g0⟩ := DataW.trod_int Try.underlying3 h0
  obtain ⟨z1, e1, _, g1⟩ := DataW.trod_string Try.underlying9 h1
  have c2 : Try.prog.cellsOf 23 = 2 := by kernel_rfl
  have ci : Try.prog.cellsOf 3 = 1 := by kernel_rfl
  have cb : Try.prog.cellsOf 9 = 1 := by kernel_rfl
  rw [c2] at hl
  simp only [ci] at e0
  simp only [cb] at e1
  match cs, hl with
  | [v0, v1], _ =>
    simp at e0 e1
    subst e0 e1
    exact ⟨⟨z0, z1⟩, ⟨g0, g1⟩, rfl⟩

theorem atoms_open {H : Type} {enc : TypeId × Value → H} {w : World} {fuel : Nat} {a0 : Option Addr} {len cap : Nat} {x : DataW H × List MemPlace}
    (h : DataW.trod enc Try.prog w 0 (fun _ => true) true fuel 31 [.slice a0 len cap] = some x) :
    ∃ l : List At, l.length = len ∧ (∀ a ∈ l, (Lit.int .i64 a.k).wf = true ∧ a.t.size ≤ maxLen) ∧ Row w w.heap.size a0 (atoms l) ∧ len ≤ maxLen :=
  open_rows atC 2 (fun _ => rfl) (fun a : At => (Lit.int .i64 a.k).wf = true ∧ a.t.size ≤ maxLen) (by omega) Try.underlying31 (by kernel_rfl) at_open h
end Go.Proofs.Ytkgphkpckcfihaa
