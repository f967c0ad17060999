/-
  No cell of these rows narrows 'for every input' (looked for: loops, veiled, ifaces, maps, wideKeys, modest, calm, conditions, laid).
  DERIVED. THE GIVEN ROWS OF THIS SEAT. 8 by the template 'for every input the law returns true; each argument reads behind the call as it read before'; 0 by the template 'total and deterministic' (their statements: YthnecaeljpaggaaTotals.lean).
  GIVEN WITH THE SEED: the statements are not yours to turn. If you find one false, say at which input.
  Laid BY PROGRAM, IN A SANDBOX (cutbox-rows.mjs): the forced cells as the released guide's own fill.sh prints them over the translation ef94814520f1ee7b… (all of the seat's roots in one cut). By AI agents, Wed Nov 11 2026. No macro, syntax, notation, axiom, sorry.
-/
import Derived.Test.YthnecaeljpaggaaChecked
import GoSem.Claim
import GoSem.ClaimJoined
import GoSem.ClaimMapViews
import Derived.JoinedTies
import Derived.KernelRfl
namespace Go.Proofs.Ythnecaeljpaggaa
/- THE CELL 'sum', in the pinned program and in every row, IS THE sha256 OF THE DUMP (.gsa) THAT YthnecaeljpaggaaProg.lean LOADS. Nothing in Lean hashes anything: it is a label: what it is worth is what the hold of that sum in a sandbox is worth. -/
noncomputable def Try.pinned : Pinned := { name := "ythnecaeljpaggaa", sum := "ef94814520f1ee7bc994e58d46e0a0cb831498d2c7775598c0ebea4a12c623c4", checked := Try.checked }
namespace Rows
def none {H : Type} : Left H := { results := [], args := [] }

/-- 'laws.FnExactIsValidEvents': WHATEVER THE INPUT: true; the input reads as it did. -/
def fnExactIsValidEventsSpec : ChangeSpec := { name := "fnExactIsValidEvents", fn := fun _ => fun
  | [d] => { results := [.lit (.bool true)], args := [d] }
  | _ => none }
def fnExactIsValidEventsRow : OpenClaim := { program := "ythnecaeljpaggaa", sum := "ef94814520f1ee7bc994e58d46e0a0cb831498d2c7775598c0ebea4a12c623c4", func := "loop.example/g00882/laws.FnExactIsValidEvents", spec := "fnExactIsValidEvents", apart := false }
def FnExactIsValidEventsSaid : Prop := fnExactIsValidEventsRow.holds Try.pinned (OpenSpec.ofChange fnExactIsValidEventsSpec)

/-- ITS FALSE NEIGHBOUR: 'it returns false'. Refute it at one input. -/
def fnExactIsValidEventsWrong : ChangeSpec := { name := "fnExactIsValidEvents", fn := fun _ => fun
  | [d] => { results := [.lit (.bool false)], args := [d] }
  | _ => none }
def FnExactIsValidEventsWrongFalsely : Prop := fnExactIsValidEventsRow.holds Try.pinned (OpenSpec.ofChange fnExactIsValidEventsWrong)

/-- 'laws.FnExactChordEvents': WHATEVER THE INPUT: true; the input reads as it did. -/
def fnExactChordEventsSpec : ChangeSpec := { name := "fnExactChordEvents", fn := fun _ => fun
  | [d1, d2] => { results := [.lit (.bool true)], args := [d1, d2] }
  | _ => none }
def fnExactChordEventsRow : OpenClaim := { program := "ythnecaeljpaggaa", sum := "ef94814520f1ee7bc994e58d46e0a0cb831498d2c7775598c0ebea4a12c623c4", func := "loop.example/g00882/laws.FnExactChordEvents", spec := "fnExactChordEvents", apart := false }
def FnExactChordEventsSaid : Prop := fnExactChordEventsRow.holds Try.pinned (OpenSpec.ofChange fnExactChordEventsSpec)

/-- ITS FALSE NEIGHBOUR: 'it returns false'. Refute it at one input. -/
def fnExactChordEventsWrong : ChangeSpec := { name := "fnExactChordEvents", fn := fun _ => fun
  | [d1, d2] => { results := [.lit (.bool false)], args := [d1, d2] }
  | _ => none }
def FnExactChordEventsWrongFalsely : Prop := fnExactChordEventsRow.holds Try.pinned (OpenSpec.ofChange fnExactChordEventsWrong)

/-- 'laws.FnExactFirstUpStrokes': WHATEVER THE INPUT: true; the input reads as it did. -/
def fnExactFirstUpStrokesSpec : ChangeSpec := { name := "fnExactFirstUpStrokes", fn := fun _ => fun
  | [d] => { results := [.lit (.bool true)], args := [d] }
  | _ => none }
def fnExactFirstUpStrokesRow : OpenClaim := { program := "ythnecaeljpaggaa", sum := "ef94814520f1ee7bc994e58d46e0a0cb831498d2c7775598c0ebea4a12c623c4", func := "loop.example/g00882/laws.FnExactFirstUpStrokes", spec := "fnExactFirstUpStrokes", apart := false }
def FnExactFirstUpStrokesSaid : Prop := fnExactFirstUpStrokesRow.holds Try.pinned (OpenSpec.ofChange fnExactFirstUpStrokesSpec)

/-- ITS FALSE NEIGHBOUR: 'it returns false'. Refute it at one input. -/
def fnExactFirstUpStrokesWrong : ChangeSpec := { name := "fnExactFirstUpStrokes", fn := fun _ => fun
  | [d] => { results := [.lit (.bool false)], args := [d] }
  | _ => none }
def FnExactFirstUpStrokesWrongFalsely : Prop := fnExactFirstUpStrokesRow.holds Try.pinned (OpenSpec.ofChange fnExactFirstUpStrokesWrong)

/-- 'laws.FnExactHeldKeys': WHATEVER THE INPUT: true; the input reads as it did. -/
def fnExactHeldKeysSpec : ChangeSpec := { name := "fnExactHeldKeys", fn := fun _ => fun
  | [d] => { results := [.lit (.bool true)], args := [d] }
  | _ => none }
def fnExactHeldKeysRow : OpenClaim := { program := "ythnecaeljpaggaa", sum := "ef94814520f1ee7bc994e58d46e0a0cb831498d2c7775598c0ebea4a12c623c4", func := "loop.example/g00882/laws.FnExactHeldKeys", spec := "fnExactHeldKeys", apart := false }
def FnExactHeldKeysSaid : Prop := fnExactHeldKeysRow.holds Try.pinned (OpenSpec.ofChange fnExactHeldKeysSpec)

/-- ITS FALSE NEIGHBOUR: 'it returns false'. Refute it at one input. -/
def fnExactHeldKeysWrong : ChangeSpec := { name := "fnExactHeldKeys", fn := fun _ => fun
  | [d] => { results := [.lit (.bool false)], args := [d] }
  | _ => none }
def FnExactHeldKeysWrongFalsely : Prop := fnExactHeldKeysRow.holds Try.pinned (OpenSpec.ofChange fnExactHeldKeysWrong)

/-- 'laws.FnExactLastUpStrokes': WHATEVER THE INPUT: true; the input reads as it did. -/
def fnExactLastUpStrokesSpec : ChangeSpec := { name := "fnExactLastUpStrokes", fn := fun _ => fun
  | [d] => { results := [.lit (.bool true)], args := [d] }
  | _ => none }
def fnExactLastUpStrokesRow : OpenClaim := { program := "ythnecaeljpaggaa", sum := "ef94814520f1ee7bc994e58d46e0a0cb831498d2c7775598c0ebea4a12c623c4", func := "loop.example/g00882/laws.FnExactLastUpStrokes", spec := "fnExactLastUpStrokes", apart := false }
def FnExactLastUpStrokesSaid : Prop := fnExactLastUpStrokesRow.holds Try.pinned (OpenSpec.ofChange fnExactLastUpStrokesSpec)

/-- ITS FALSE NEIGHBOUR: 'it returns false'. Refute it at one input. -/
def fnExactLastUpStrokesWrong : ChangeSpec := { name := "fnExactLastUpStrokes", fn := fun _ => fun
  | [d] => { results := [.lit (.bool false)], args := [d] }
  | _ => none }
def FnExactLastUpStrokesWrongFalsely : Prop := fnExactLastUpStrokesRow.holds Try.pinned (OpenSpec.ofChange fnExactLastUpStrokesWrong)

/-- 'laws.FnExactStrokeTimes': WHATEVER THE INPUT: true; the input reads as it did. -/
def fnExactStrokeTimesSpec : ChangeSpec := { name := "fnExactStrokeTimes", fn := fun _ => fun
  | [d] => { results := [.lit (.bool true)], args := [d] }
  | _ => none }
def fnExactStrokeTimesRow : OpenClaim := { program := "ythnecaeljpaggaa", sum := "ef94814520f1ee7bc994e58d46e0a0cb831498d2c7775598c0ebea4a12c623c4", func := "loop.example/g00882/laws.FnExactStrokeTimes", spec := "fnExactStrokeTimes", apart := false }
def FnExactStrokeTimesSaid : Prop := fnExactStrokeTimesRow.holds Try.pinned (OpenSpec.ofChange fnExactStrokeTimesSpec)

/-- ITS FALSE NEIGHBOUR: 'it returns false'. Refute it at one input. -/
def fnExactStrokeTimesWrong : ChangeSpec := { name := "fnExactStrokeTimes", fn := fun _ => fun
  | [d] => { results := [.lit (.bool false)], args := [d] }
  | _ => none }
def FnExactStrokeTimesWrongFalsely : Prop := fnExactStrokeTimesRow.holds Try.pinned (OpenSpec.ofChange fnExactStrokeTimesWrong)

/-- 'laws.FnChords': WHATEVER THE INPUT: true; the input reads as it did. -/
def fnChordsSpec : ChangeSpec := { name := "fnChords", fn := fun _ => fun
  | [d] => { results := [.lit (.bool true)], args := [d] }
  | _ => none }
def fnChordsRow : OpenClaim := { program := "ythnecaeljpaggaa", sum := "ef94814520f1ee7bc994e58d46e0a0cb831498d2c7775598c0ebea4a12c623c4", func := "loop.example/g00882/laws.FnChords", spec := "fnChords", apart := false }
def FnChordsSaid : Prop := fnChordsRow.holds Try.pinned (OpenSpec.ofChange fnChordsSpec)

/-- ITS FALSE NEIGHBOUR: 'it returns false'. Refute it at one input. -/
def fnChordsWrong : ChangeSpec := { name := "fnChords", fn := fun _ => fun
  | [d] => { results := [.lit (.bool false)], args := [d] }
  | _ => none }
def FnChordsWrongFalsely : Prop := fnChordsRow.holds Try.pinned (OpenSpec.ofChange fnChordsWrong)

/-- 'laws.FnEvents': WHATEVER THE INPUT: true; the input reads as it did. -/
def fnEventsSpec : ChangeSpec := { name := "fnEvents", fn := fun _ => fun
  | [d] => { results := [.lit (.bool true)], args := [d] }
  | _ => none }
def fnEventsRow : OpenClaim := { program := "ythnecaeljpaggaa", sum := "ef94814520f1ee7bc994e58d46e0a0cb831498d2c7775598c0ebea4a12c623c4", func := "loop.example/g00882/laws.FnEvents", spec := "fnEvents", apart := false }
def FnEventsSaid : Prop := fnEventsRow.holds Try.pinned (OpenSpec.ofChange fnEventsSpec)

/-- ITS FALSE NEIGHBOUR: 'it returns false'. Refute it at one input. -/
def fnEventsWrong : ChangeSpec := { name := "fnEvents", fn := fun _ => fun
  | [d] => { results := [.lit (.bool false)], args := [d] }
  | _ => none }
def FnEventsWrongFalsely : Prop := fnEventsRow.holds Try.pinned (OpenSpec.ofChange fnEventsWrong)

/- THE SECOND FORM. 'bulk': how many values and letters a reading holds, each counted each time it is reached (what is shared counts as often as it is met; a slice's spare places count too). A statement '..UptoSaid' is the law's where the arguments, and the package variables that the reading takes, are together of bulk at most 1048576: NARROWER than '..Said'. Prove '..Said' where nothing that the law and all that it calls make is longer than what came in: it says more and counts as full. Else prove '..UptoSaid'. A law counts once. -/
mutual
def uptoBulk {H : Type} : DataW H → Nat
  | .lit (.string bytes) => bytes.length + 1
  | .lit _ => 1
  | .nil => 1
  | .ptr d => uptoBulk d + 1
  | .slice elems spare => uptoBulkAll elems + uptoBulkAll spare + 1
  | .agg parts => uptoBulkAll parts + 1
  | .iface _ d => uptoBulk d + 1
  | .map entries => uptoBulkEntries entries + 1
  | .held _ => 1
def uptoBulkAll {H : Type} : List (DataW H) → Nat
  | [] => 0
  | d :: r => uptoBulk d + uptoBulkAll r
def uptoBulkEntries {H : Type} : List (Lit × DataW H) → Nat
  | [] => 0
  | x :: r => uptoBulkEntry x + uptoBulkEntries r
def uptoBulkEntry {H : Type} : Lit × DataW H → Nat
  | (.string bytes, d) => bytes.length + uptoBulk d + 1
  | (_, d) => uptoBulk d + 1
 end
def uptoSmall : (H : Type) → List (DataW H) → Bool := fun _ ds => decide (uptoBulkAll ds ≤ 1048576)
def OpenSpec.upto (s : _root_.Go.ChangeSpec) : _root_.Go.OpenSpec := { _root_.Go.OpenSpec.ofChange s with cond := some uptoSmall }

/-- 'laws.FnExactIsValidEvents', WHERE WHAT IT READS IS OF BULK AT MOST 1048576: true; the input reads as it did. -/
def fnExactIsValidEventsUptoRow : OpenClaim := { program := "ythnecaeljpaggaa", sum := "ef94814520f1ee7bc994e58d46e0a0cb831498d2c7775598c0ebea4a12c623c4", func := "loop.example/g00882/laws.FnExactIsValidEvents", spec := "fnExactIsValidEvents", apart := false, narrowed := true }
def FnExactIsValidEventsUptoSaid : Prop := fnExactIsValidEventsUptoRow.holds Try.pinned (OpenSpec.upto fnExactIsValidEventsSpec)

/-- 'laws.FnExactChordEvents', WHERE WHAT IT READS IS OF BULK AT MOST 1048576: true; the input reads as it did. -/
def fnExactChordEventsUptoRow : OpenClaim := { program := "ythnecaeljpaggaa", sum := "ef94814520f1ee7bc994e58d46e0a0cb831498d2c7775598c0ebea4a12c623c4", func := "loop.example/g00882/laws.FnExactChordEvents", spec := "fnExactChordEvents", apart := false, narrowed := true }
def FnExactChordEventsUptoSaid : Prop := fnExactChordEventsUptoRow.holds Try.pinned (OpenSpec.upto fnExactChordEventsSpec)

/-- 'laws.FnExactFirstUpStrokes', WHERE WHAT IT READS IS OF BULK AT MOST 1048576: true; the input reads as it did. -/
def fnExactFirstUpStrokesUptoRow : OpenClaim := { program := "ythnecaeljpaggaa", sum := "ef94814520f1ee7bc994e58d46e0a0cb831498d2c7775598c0ebea4a12c623c4", func := "loop.example/g00882/laws.FnExactFirstUpStrokes", spec := "fnExactFirstUpStrokes", apart := false, narrowed := true }
def FnExactFirstUpStrokesUptoSaid : Prop := fnExactFirstUpStrokesUptoRow.holds Try.pinned (OpenSpec.upto fnExactFirstUpStrokesSpec)

/-- 'laws.FnExactHeldKeys', WHERE WHAT IT READS IS OF BULK AT MOST 1048576: true; the input reads as it did. -/
def fnExactHeldKeysUptoRow : OpenClaim := { program := "ythnecaeljpaggaa", sum := "ef94814520f1ee7bc994e58d46e0a0cb831498d2c7775598c0ebea4a12c623c4", func := "loop.example/g00882/laws.FnExactHeldKeys", spec := "fnExactHeldKeys", apart := false, narrowed := true }
def FnExactHeldKeysUptoSaid : Prop := fnExactHeldKeysUptoRow.holds Try.pinned (OpenSpec.upto fnExactHeldKeysSpec)

/-- 'laws.FnExactLastUpStrokes', WHERE WHAT IT READS IS OF BULK AT MOST 1048576: true; the input reads as it did. -/
def fnExactLastUpStrokesUptoRow : OpenClaim := { program := "ythnecaeljpaggaa", sum := "ef94814520f1ee7bc994e58d46e0a0cb831498d2c7775598c0ebea4a12c623c4", func := "loop.example/g00882/laws.FnExactLastUpStrokes", spec := "fnExactLastUpStrokes", apart := false, narrowed := true }
def FnExactLastUpStrokesUptoSaid : Prop := fnExactLastUpStrokesUptoRow.holds Try.pinned (OpenSpec.upto fnExactLastUpStrokesSpec)

/-- 'laws.FnExactStrokeTimes', WHERE WHAT IT READS IS OF BULK AT MOST 1048576: true; the input reads as it did. -/
def fnExactStrokeTimesUptoRow : OpenClaim := { program := "ythnecaeljpaggaa", sum := "ef94814520f1ee7bc994e58d46e0a0cb831498d2c7775598c0ebea4a12c623c4", func := "loop.example/g00882/laws.FnExactStrokeTimes", spec := "fnExactStrokeTimes", apart := false, narrowed := true }
def FnExactStrokeTimesUptoSaid : Prop := fnExactStrokeTimesUptoRow.holds Try.pinned (OpenSpec.upto fnExactStrokeTimesSpec)

/-- 'laws.FnChords', WHERE WHAT IT READS IS OF BULK AT MOST 1048576: true; the input reads as it did. -/
def fnChordsUptoRow : OpenClaim := { program := "ythnecaeljpaggaa", sum := "ef94814520f1ee7bc994e58d46e0a0cb831498d2c7775598c0ebea4a12c623c4", func := "loop.example/g00882/laws.FnChords", spec := "fnChords", apart := false, narrowed := true }
def FnChordsUptoSaid : Prop := fnChordsUptoRow.holds Try.pinned (OpenSpec.upto fnChordsSpec)

/-- 'laws.FnEvents', WHERE WHAT IT READS IS OF BULK AT MOST 1048576: true; the input reads as it did. -/
def fnEventsUptoRow : OpenClaim := { program := "ythnecaeljpaggaa", sum := "ef94814520f1ee7bc994e58d46e0a0cb831498d2c7775598c0ebea4a12c623c4", func := "loop.example/g00882/laws.FnEvents", spec := "fnEvents", apart := false, narrowed := true }
def FnEventsUptoSaid : Prop := fnEventsUptoRow.holds Try.pinned (OpenSpec.upto fnEventsSpec)

end Rows
end Go.Proofs.Ythnecaeljpaggaa
