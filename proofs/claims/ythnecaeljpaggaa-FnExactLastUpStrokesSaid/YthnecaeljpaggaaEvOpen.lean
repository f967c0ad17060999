/- How a list of key events that came in is opened. No condition. -/
import Derived.Test.YthnecaeljpaggaaOpenSt
import Derived.Test.YthnecaeljpaggaaPEvent
import Derived.Test.YthnecaeljpaggaaChecked
import Derived.Deep.Strs
namespace Go.Proofs.Ythnecaeljpaggaa
open Go.RowKit Go.ChangeShapes Go.WideShapes Go.Deep

theorem ev_open {H : Type} {enc : TypeId × Value → H} {w : World} (n : Nat) (cs : List Value) (y : DataW H × List MemPlace)
    (h : DataW.trod enc Try.prog w 0 (fun _ => true) true n 48 cs = some y) : ∃ a : Ev, ((Lit.int .i64 a.t).wf = true ∧ (Lit.int .i64 a.k).wf = true) ∧ cs = evC a := by
  obtain ⟨y0, y1, y2, m, _, hl, h0, h1, h2⟩ := trod_struct3 Try.underlying48 h
  obtain ⟨z0, e0, _, g0⟩ := DataW.trod_int Try.underlying3 h0
  obtain ⟨z1, e1, _, g1⟩ := DataW.trod_int Try.underlying3 h1
  obtain ⟨z2, e2, _⟩ := DataW.trod_bool Try.underlying4 h2
  have c3 : Try.prog.cellsOf 48 = 3 := by kernel_rfl
  have ci : Try.prog.cellsOf 3 = 1 := by kernel_rfl
  have cb : Try.prog.cellsOf 4 = 1 := by kernel_rfl
  rw [c3] at hl
  simp only [ci] at e0 e1
  simp only [cb] at e2
  match cs, hl with
  | [v0, v1, v2], _ =>
    simp at e0 e1 e2
    subst e0 e1 e2
    exact ⟨⟨z0, z1, z2⟩, ⟨g0, g1⟩, rfl⟩

theorem evs_open {H : Type} {enc : TypeId × Value → H} {w : World} {fuel : Nat} {a0 : Option Addr} {len cap : Nat} {x : DataW H × List MemPlace}
    (h : DataW.trod enc Try.prog w 0 (fun _ => true) true fuel 22 [.slice a0 len cap] = some x) :
    ∃ l : List Ev, l.length = len ∧ (∀ a ∈ l, (Lit.int .i64 a.t).wf = true ∧ (Lit.int .i64 a.k).wf = true) ∧ Row w w.heap.size a0 (evs l) ∧ len ≤ maxLen :=
  open_rows evC 3 (fun _ => rfl) (fun a : Ev => (Lit.int .i64 a.t).wf = true ∧ (Lit.int .i64 a.k).wf = true) (by omega) Try.underlying22 (by kernel_rfl) ev_open h
end Go.Proofs.Ythnecaeljpaggaa
