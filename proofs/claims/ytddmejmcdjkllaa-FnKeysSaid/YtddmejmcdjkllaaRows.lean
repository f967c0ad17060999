/-
  No cell of these rows narrows 'for every input' (looked for: loops, veiled, ifaces, maps, wideKeys, modest, calm, conditions, laid).
  DERIVED. THE GIVEN ROWS OF THIS SEAT. 8 by the template 'for every input the law returns true; each argument reads behind the call as it read before'; 0 by the template 'total and deterministic' (their statements: YtddmejmcdjkllaaTotals.lean).
  GIVEN WITH THE SEED: the statements are not yours to turn. If you find one false, say at which input.
  Laid BY PROGRAM, IN A SANDBOX (cutbox-rows.mjs): the forced cells as the released guide's own fill.sh prints them over the translation f7f71251baeb13ca… (all of the seat's roots in one cut). By AI agents, Wed Nov 11 2026. No macro, syntax, notation, axiom, sorry.
-/
import Derived.Test.YtddmejmcdjkllaaChecked
import GoSem.Claim
import GoSem.ClaimJoined
import GoSem.ClaimMapViews
import Derived.JoinedTies
import Derived.KernelRfl
namespace Go.Proofs.Ytddmejmcdjkllaa
/- THE CELL 'sum', in the pinned program and in every row, IS THE sha256 OF THE DUMP (.gsa) THAT YtddmejmcdjkllaaProg.lean LOADS. Nothing in Lean hashes anything: it is a label: what it is worth is what the hold of that sum in a sandbox is worth. -/
noncomputable def Try.pinned : Pinned := { name := "ytddmejmcdjkllaa", sum := "f7f71251baeb13ca6845f45c06e0041d7839cee3382c1b9d2f38d2a7f770488e", checked := Try.checked }
namespace Rows
def none {H : Type} : Left H := { results := [], args := [] }

/-- 'laws.FnExactNewStroke': WHATEVER THE INPUT: true; the input reads as it did. -/
def fnExactNewStrokeSpec : ChangeSpec := { name := "fnExactNewStroke", fn := fun _ => fun
  | [d] => { results := [.lit (.bool true)], args := [d] }
  | _ => none }
def fnExactNewStrokeRow : OpenClaim := { program := "ytddmejmcdjkllaa", sum := "f7f71251baeb13ca6845f45c06e0041d7839cee3382c1b9d2f38d2a7f770488e", func := "loop.example/g00882/laws.FnExactNewStroke", spec := "fnExactNewStroke", apart := false }
def FnExactNewStrokeSaid : Prop := fnExactNewStrokeRow.holds Try.pinned (OpenSpec.ofChange fnExactNewStrokeSpec)

/-- ITS FALSE NEIGHBOUR: 'it returns false'. Refute it at one input. -/
def fnExactNewStrokeWrong : ChangeSpec := { name := "fnExactNewStroke", fn := fun _ => fun
  | [d] => { results := [.lit (.bool false)], args := [d] }
  | _ => none }
def FnExactNewStrokeWrongFalsely : Prop := fnExactNewStrokeRow.holds Try.pinned (OpenSpec.ofChange fnExactNewStrokeWrong)

/-- 'laws.FnExactParseLooseStroke': WHATEVER THE INPUT: true; the input reads as it did. -/
def fnExactParseLooseStrokeSpec : ChangeSpec := { name := "fnExactParseLooseStroke", fn := fun _ => fun
  | [d] => { results := [.lit (.bool true)], args := [d] }
  | _ => none }
def fnExactParseLooseStrokeRow : OpenClaim := { program := "ytddmejmcdjkllaa", sum := "f7f71251baeb13ca6845f45c06e0041d7839cee3382c1b9d2f38d2a7f770488e", func := "loop.example/g00882/laws.FnExactParseLooseStroke", spec := "fnExactParseLooseStroke", apart := false }
def FnExactParseLooseStrokeSaid : Prop := fnExactParseLooseStrokeRow.holds Try.pinned (OpenSpec.ofChange fnExactParseLooseStrokeSpec)

/-- ITS FALSE NEIGHBOUR: 'it returns false'. Refute it at one input. -/
def fnExactParseLooseStrokeWrong : ChangeSpec := { name := "fnExactParseLooseStroke", fn := fun _ => fun
  | [d] => { results := [.lit (.bool false)], args := [d] }
  | _ => none }
def FnExactParseLooseStrokeWrongFalsely : Prop := fnExactParseLooseStrokeRow.holds Try.pinned (OpenSpec.ofChange fnExactParseLooseStrokeWrong)

/-- 'laws.FnExactFormatStroke': WHATEVER THE INPUT: true; the input reads as it did. -/
def fnExactFormatStrokeSpec : ChangeSpec := { name := "fnExactFormatStroke", fn := fun _ => fun
  | [d] => { results := [.lit (.bool true)], args := [d] }
  | _ => none }
def fnExactFormatStrokeRow : OpenClaim := { program := "ytddmejmcdjkllaa", sum := "f7f71251baeb13ca6845f45c06e0041d7839cee3382c1b9d2f38d2a7f770488e", func := "loop.example/g00882/laws.FnExactFormatStroke", spec := "fnExactFormatStroke", apart := false }
def FnExactFormatStrokeSaid : Prop := fnExactFormatStrokeRow.holds Try.pinned (OpenSpec.ofChange fnExactFormatStrokeSpec)

/-- ITS FALSE NEIGHBOUR: 'it returns false'. Refute it at one input. -/
def fnExactFormatStrokeWrong : ChangeSpec := { name := "fnExactFormatStroke", fn := fun _ => fun
  | [d] => { results := [.lit (.bool false)], args := [d] }
  | _ => none }
def FnExactFormatStrokeWrongFalsely : Prop := fnExactFormatStrokeRow.holds Try.pinned (OpenSpec.ofChange fnExactFormatStrokeWrong)

/-- 'laws.FnExactKeysOf': WHATEVER THE INPUT: true; the input reads as it did. -/
def fnExactKeysOfSpec : ChangeSpec := { name := "fnExactKeysOf", fn := fun _ => fun
  | [d] => { results := [.lit (.bool true)], args := [d] }
  | _ => none }
def fnExactKeysOfRow : OpenClaim := { program := "ytddmejmcdjkllaa", sum := "f7f71251baeb13ca6845f45c06e0041d7839cee3382c1b9d2f38d2a7f770488e", func := "loop.example/g00882/laws.FnExactKeysOf", spec := "fnExactKeysOf", apart := false }
def FnExactKeysOfSaid : Prop := fnExactKeysOfRow.holds Try.pinned (OpenSpec.ofChange fnExactKeysOfSpec)

/-- ITS FALSE NEIGHBOUR: 'it returns false'. Refute it at one input. -/
def fnExactKeysOfWrong : ChangeSpec := { name := "fnExactKeysOf", fn := fun _ => fun
  | [d] => { results := [.lit (.bool false)], args := [d] }
  | _ => none }
def FnExactKeysOfWrongFalsely : Prop := fnExactKeysOfRow.holds Try.pinned (OpenSpec.ofChange fnExactKeysOfWrong)

/-- 'laws.FnExactParseStroke': WHATEVER THE INPUT: true; the input reads as it did. -/
def fnExactParseStrokeSpec : ChangeSpec := { name := "fnExactParseStroke", fn := fun _ => fun
  | [d] => { results := [.lit (.bool true)], args := [d] }
  | _ => none }
def fnExactParseStrokeRow : OpenClaim := { program := "ytddmejmcdjkllaa", sum := "f7f71251baeb13ca6845f45c06e0041d7839cee3382c1b9d2f38d2a7f770488e", func := "loop.example/g00882/laws.FnExactParseStroke", spec := "fnExactParseStroke", apart := false }
def FnExactParseStrokeSaid : Prop := fnExactParseStrokeRow.holds Try.pinned (OpenSpec.ofChange fnExactParseStrokeSpec)

/-- ITS FALSE NEIGHBOUR: 'it returns false'. Refute it at one input. -/
def fnExactParseStrokeWrong : ChangeSpec := { name := "fnExactParseStroke", fn := fun _ => fun
  | [d] => { results := [.lit (.bool false)], args := [d] }
  | _ => none }
def FnExactParseStrokeWrongFalsely : Prop := fnExactParseStrokeRow.holds Try.pinned (OpenSpec.ofChange fnExactParseStrokeWrong)

/-- 'laws.FnKeys': WHATEVER THE INPUT: true; the input reads as it did. -/
def fnKeysSpec : ChangeSpec := { name := "fnKeys", fn := fun _ => fun
  | [d] => { results := [.lit (.bool true)], args := [d] }
  | _ => none }
def fnKeysRow : OpenClaim := { program := "ytddmejmcdjkllaa", sum := "f7f71251baeb13ca6845f45c06e0041d7839cee3382c1b9d2f38d2a7f770488e", func := "loop.example/g00882/laws.FnKeys", spec := "fnKeys", apart := false }
def FnKeysSaid : Prop := fnKeysRow.holds Try.pinned (OpenSpec.ofChange fnKeysSpec)

/-- ITS FALSE NEIGHBOUR: 'it returns false'. Refute it at one input. -/
def fnKeysWrong : ChangeSpec := { name := "fnKeys", fn := fun _ => fun
  | [d] => { results := [.lit (.bool false)], args := [d] }
  | _ => none }
def FnKeysWrongFalsely : Prop := fnKeysRow.holds Try.pinned (OpenSpec.ofChange fnKeysWrong)

/-- 'laws.FnLooseStrokes': WHATEVER THE INPUT: true; the input reads as it did. -/
def fnLooseStrokesSpec : ChangeSpec := { name := "fnLooseStrokes", fn := fun _ => fun
  | [d] => { results := [.lit (.bool true)], args := [d] }
  | _ => none }
def fnLooseStrokesRow : OpenClaim := { program := "ytddmejmcdjkllaa", sum := "f7f71251baeb13ca6845f45c06e0041d7839cee3382c1b9d2f38d2a7f770488e", func := "loop.example/g00882/laws.FnLooseStrokes", spec := "fnLooseStrokes", apart := false }
def FnLooseStrokesSaid : Prop := fnLooseStrokesRow.holds Try.pinned (OpenSpec.ofChange fnLooseStrokesSpec)

/-- ITS FALSE NEIGHBOUR: 'it returns false'. Refute it at one input. -/
def fnLooseStrokesWrong : ChangeSpec := { name := "fnLooseStrokes", fn := fun _ => fun
  | [d] => { results := [.lit (.bool false)], args := [d] }
  | _ => none }
def FnLooseStrokesWrongFalsely : Prop := fnLooseStrokesRow.holds Try.pinned (OpenSpec.ofChange fnLooseStrokesWrong)

/-- 'laws.FnStrokes': WHATEVER THE INPUT: true; the input reads as it did. -/
def fnStrokesSpec : ChangeSpec := { name := "fnStrokes", fn := fun _ => fun
  | [d] => { results := [.lit (.bool true)], args := [d] }
  | _ => none }
def fnStrokesRow : OpenClaim := { program := "ytddmejmcdjkllaa", sum := "f7f71251baeb13ca6845f45c06e0041d7839cee3382c1b9d2f38d2a7f770488e", func := "loop.example/g00882/laws.FnStrokes", spec := "fnStrokes", apart := false }
def FnStrokesSaid : Prop := fnStrokesRow.holds Try.pinned (OpenSpec.ofChange fnStrokesSpec)

/-- ITS FALSE NEIGHBOUR: 'it returns false'. Refute it at one input. -/
def fnStrokesWrong : ChangeSpec := { name := "fnStrokes", fn := fun _ => fun
  | [d] => { results := [.lit (.bool false)], args := [d] }
  | _ => none }
def FnStrokesWrongFalsely : Prop := fnStrokesRow.holds Try.pinned (OpenSpec.ofChange fnStrokesWrong)

/- THE SECOND FORM. 'bulk': how many values and letters a reading holds, each counted each time it is reached (what is shared counts as often as it is met; a slice's spare places count too). A statement '..UptoSaid' is the law's where the arguments, and the package variables that the reading takes, are together of bulk at most 1048576: NARROWER than '..Said'. Prove '..Said' where nothing that the law and all that it calls make is longer than what came in: it says more and counts as full. Else prove '..UptoSaid'. A law counts once. -/
mutual
def uptoBulk {H : Type} : DataW H → Nat
  | .lit (.string bytes) => bytes.length + 1
  | .lit _ => 1
  | .nil => 1
  | .ptr d => uptoBulk d + 1
  | .slice elems spare => uptoBulkAll elems + uptoBulkAll spare + 1
  | .agg parts => uptoBulkAll parts + 1
  | .iface _ d => uptoBulk d + 1
  | .map entries => uptoBulkEntries entries + 1
  | .held _ => 1
def uptoBulkAll {H : Type} : List (DataW H) → Nat
  | [] => 0
  | d :: r => uptoBulk d + uptoBulkAll r
def uptoBulkEntries {H : Type} : List (Lit × DataW H) → Nat
  | [] => 0
  | x :: r => uptoBulkEntry x + uptoBulkEntries r
def uptoBulkEntry {H : Type} : Lit × DataW H → Nat
  | (.string bytes, d) => bytes.length + uptoBulk d + 1
  | (_, d) => uptoBulk d + 1
 end
def uptoSmall : (H : Type) → List (DataW H) → Bool := fun _ ds => decide (uptoBulkAll ds ≤ 1048576)
def OpenSpec.upto (s : _root_.Go.ChangeSpec) : _root_.Go.OpenSpec := { _root_.Go.OpenSpec.ofChange s with cond := some uptoSmall }

/-- 'laws.FnExactNewStroke', WHERE WHAT IT READS IS OF BULK AT MOST 1048576: true; the input reads as it did. -/
def fnExactNewStrokeUptoRow : OpenClaim := { program := "ytddmejmcdjkllaa", sum := "f7f71251baeb13ca6845f45c06e0041d7839cee3382c1b9d2f38d2a7f770488e", func := "loop.example/g00882/laws.FnExactNewStroke", spec := "fnExactNewStroke", apart := false, narrowed := true }
def FnExactNewStrokeUptoSaid : Prop := fnExactNewStrokeUptoRow.holds Try.pinned (OpenSpec.upto fnExactNewStrokeSpec)

/-- 'laws.FnExactParseLooseStroke', WHERE WHAT IT READS IS OF BULK AT MOST 1048576: true; the input reads as it did. -/
def fnExactParseLooseStrokeUptoRow : OpenClaim := { program := "ytddmejmcdjkllaa", sum := "f7f71251baeb13ca6845f45c06e0041d7839cee3382c1b9d2f38d2a7f770488e", func := "loop.example/g00882/laws.FnExactParseLooseStroke", spec := "fnExactParseLooseStroke", apart := false, narrowed := true }
def FnExactParseLooseStrokeUptoSaid : Prop := fnExactParseLooseStrokeUptoRow.holds Try.pinned (OpenSpec.upto fnExactParseLooseStrokeSpec)

/-- 'laws.FnExactFormatStroke', WHERE WHAT IT READS IS OF BULK AT MOST 1048576: true; the input reads as it did. -/
def fnExactFormatStrokeUptoRow : OpenClaim := { program := "ytddmejmcdjkllaa", sum := "f7f71251baeb13ca6845f45c06e0041d7839cee3382c1b9d2f38d2a7f770488e", func := "loop.example/g00882/laws.FnExactFormatStroke", spec := "fnExactFormatStroke", apart := false, narrowed := true }
def FnExactFormatStrokeUptoSaid : Prop := fnExactFormatStrokeUptoRow.holds Try.pinned (OpenSpec.upto fnExactFormatStrokeSpec)

/-- 'laws.FnExactKeysOf', WHERE WHAT IT READS IS OF BULK AT MOST 1048576: true; the input reads as it did. -/
def fnExactKeysOfUptoRow : OpenClaim := { program := "ytddmejmcdjkllaa", sum := "f7f71251baeb13ca6845f45c06e0041d7839cee3382c1b9d2f38d2a7f770488e", func := "loop.example/g00882/laws.FnExactKeysOf", spec := "fnExactKeysOf", apart := false, narrowed := true }
def FnExactKeysOfUptoSaid : Prop := fnExactKeysOfUptoRow.holds Try.pinned (OpenSpec.upto fnExactKeysOfSpec)

/-- 'laws.FnExactParseStroke', WHERE WHAT IT READS IS OF BULK AT MOST 1048576: true; the input reads as it did. -/
def fnExactParseStrokeUptoRow : OpenClaim := { program := "ytddmejmcdjkllaa", sum := "f7f71251baeb13ca6845f45c06e0041d7839cee3382c1b9d2f38d2a7f770488e", func := "loop.example/g00882/laws.FnExactParseStroke", spec := "fnExactParseStroke", apart := false, narrowed := true }
def FnExactParseStrokeUptoSaid : Prop := fnExactParseStrokeUptoRow.holds Try.pinned (OpenSpec.upto fnExactParseStrokeSpec)

/-- 'laws.FnKeys', WHERE WHAT IT READS IS OF BULK AT MOST 1048576: true; the input reads as it did. -/
def fnKeysUptoRow : OpenClaim := { program := "ytddmejmcdjkllaa", sum := "f7f71251baeb13ca6845f45c06e0041d7839cee3382c1b9d2f38d2a7f770488e", func := "loop.example/g00882/laws.FnKeys", spec := "fnKeys", apart := false, narrowed := true }
def FnKeysUptoSaid : Prop := fnKeysUptoRow.holds Try.pinned (OpenSpec.upto fnKeysSpec)

/-- 'laws.FnLooseStrokes', WHERE WHAT IT READS IS OF BULK AT MOST 1048576: true; the input reads as it did. -/
def fnLooseStrokesUptoRow : OpenClaim := { program := "ytddmejmcdjkllaa", sum := "f7f71251baeb13ca6845f45c06e0041d7839cee3382c1b9d2f38d2a7f770488e", func := "loop.example/g00882/laws.FnLooseStrokes", spec := "fnLooseStrokes", apart := false, narrowed := true }
def FnLooseStrokesUptoSaid : Prop := fnLooseStrokesUptoRow.holds Try.pinned (OpenSpec.upto fnLooseStrokesSpec)

/-- 'laws.FnStrokes', WHERE WHAT IT READS IS OF BULK AT MOST 1048576: true; the input reads as it did. -/
def fnStrokesUptoRow : OpenClaim := { program := "ytddmejmcdjkllaa", sum := "f7f71251baeb13ca6845f45c06e0041d7839cee3382c1b9d2f38d2a7f770488e", func := "loop.example/g00882/laws.FnStrokes", spec := "fnStrokes", apart := false, narrowed := true }
def FnStrokesUptoSaid : Prop := fnStrokesUptoRow.holds Try.pinned (OpenSpec.upto fnStrokesSpec)

end Rows
end Go.Proofs.Ytddmejmcdjkllaa
