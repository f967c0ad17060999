/-
  No cell of these rows narrows 'for every input' (looked for: loops, veiled, ifaces, maps, wideKeys, modest, calm, conditions, laid).
  DERIVED. THE GIVEN ROWS OF THIS SEAT. 4 by the template 'for every input the law returns true; each argument reads behind the call as it read before'; 0 by the template 'total and deterministic' (their statements: YtkgphkpckcfihaaTotals.lean).
  GIVEN WITH THE SEED: the statements are not yours to turn. If you find one false, say at which input.
  Laid BY PROGRAM, IN A SANDBOX (cutbox-rows.mjs): the forced cells as the released guide's own fill.sh prints them over the translation e96aeb504ca53760… (all of the seat's roots in one cut). By AI agents, Wed Nov 11 2026. No macro, syntax, notation, axiom, sorry.
-/
import Derived.Test.YtkgphkpckcfihaaChecked
import GoSem.Claim
import GoSem.ClaimJoined
import GoSem.ClaimMapViews
import Derived.JoinedTies
import Derived.KernelRfl
namespace Go.Proofs.Ytkgphkpckcfihaa
/- THE CELL 'sum', in the pinned program and in every row, IS THE sha256 OF THE DUMP (.gsa) THAT YtkgphkpckcfihaaProg.lean LOADS. Nothing in Lean hashes anything: it is a label: what it is worth is what the hold of that sum in a sandbox is worth. -/
noncomputable def Try.pinned : Pinned := { name := "ytkgphkpckcfihaa", sum := "e96aeb504ca53760f162cc6f8334b8d09d9a31043a5fdd4100f779a5fe194817", checked := Try.checked }
namespace Rows
def none {H : Type} : Left H := { results := [], args := [] }

/-- 'laws.FnExactIsValidAtom': WHATEVER THE INPUT: true; the input reads as it did. -/
def fnExactIsValidAtomSpec : ChangeSpec := { name := "fnExactIsValidAtom", fn := fun _ => fun
  | [d] => { results := [.lit (.bool true)], args := [d] }
  | _ => none }
def fnExactIsValidAtomRow : OpenClaim := { program := "ytkgphkpckcfihaa", sum := "e96aeb504ca53760f162cc6f8334b8d09d9a31043a5fdd4100f779a5fe194817", func := "loop.example/g00882/laws.FnExactIsValidAtom", spec := "fnExactIsValidAtom", inPlace := ["internal/bytealg.IndexByteString", "internal/bytealg.IndexString"], named := ["internal/bytealg.MaxLen"], apart := false }
def FnExactIsValidAtomSaid : Prop := fnExactIsValidAtomRow.holds Try.pinned (OpenSpec.ofChange fnExactIsValidAtomSpec)

/-- ITS FALSE NEIGHBOUR: 'it returns false'. Refute it at one input. -/
def fnExactIsValidAtomWrong : ChangeSpec := { name := "fnExactIsValidAtom", fn := fun _ => fun
  | [d] => { results := [.lit (.bool false)], args := [d] }
  | _ => none }
def FnExactIsValidAtomWrongFalsely : Prop := fnExactIsValidAtomRow.holds Try.pinned (OpenSpec.ofChange fnExactIsValidAtomWrong)

/-- 'laws.FnExactFormatAtom': WHATEVER THE INPUT: true; the input reads as it did. -/
def fnExactFormatAtomSpec : ChangeSpec := { name := "fnExactFormatAtom", fn := fun _ => fun
  | [d] => { results := [.lit (.bool true)], args := [d] }
  | _ => none }
def fnExactFormatAtomRow : OpenClaim := { program := "ytkgphkpckcfihaa", sum := "e96aeb504ca53760f162cc6f8334b8d09d9a31043a5fdd4100f779a5fe194817", func := "loop.example/g00882/laws.FnExactFormatAtom", spec := "fnExactFormatAtom", inPlace := ["internal/bytealg.IndexByteString", "internal/bytealg.IndexString"], named := ["internal/bytealg.MaxLen"], apart := false }
def FnExactFormatAtomSaid : Prop := fnExactFormatAtomRow.holds Try.pinned (OpenSpec.ofChange fnExactFormatAtomSpec)

/-- ITS FALSE NEIGHBOUR: 'it returns false'. Refute it at one input. -/
def fnExactFormatAtomWrong : ChangeSpec := { name := "fnExactFormatAtom", fn := fun _ => fun
  | [d] => { results := [.lit (.bool false)], args := [d] }
  | _ => none }
def FnExactFormatAtomWrongFalsely : Prop := fnExactFormatAtomRow.holds Try.pinned (OpenSpec.ofChange fnExactFormatAtomWrong)

/-- 'laws.FnExactFormatTranslation': WHATEVER THE INPUT: true; the input reads as it did. -/
def fnExactFormatTranslationSpec : ChangeSpec := { name := "fnExactFormatTranslation", fn := fun _ => fun
  | [d] => { results := [.lit (.bool true)], args := [d] }
  | _ => none }
def fnExactFormatTranslationRow : OpenClaim := { program := "ytkgphkpckcfihaa", sum := "e96aeb504ca53760f162cc6f8334b8d09d9a31043a5fdd4100f779a5fe194817", func := "loop.example/g00882/laws.FnExactFormatTranslation", spec := "fnExactFormatTranslation", inPlace := ["internal/bytealg.IndexByteString", "internal/bytealg.IndexString", "internal/abi.NoEscape", "internal/bytealg.MakeNoZero"], unfollowed := true, recurses := true, named := ["internal/bytealg.MaxLen"], apart := false }
def FnExactFormatTranslationSaid : Prop := fnExactFormatTranslationRow.holds Try.pinned (OpenSpec.ofChange fnExactFormatTranslationSpec)

/-- ITS FALSE NEIGHBOUR: 'it returns false'. Refute it at one input. -/
def fnExactFormatTranslationWrong : ChangeSpec := { name := "fnExactFormatTranslation", fn := fun _ => fun
  | [d] => { results := [.lit (.bool false)], args := [d] }
  | _ => none }
def FnExactFormatTranslationWrongFalsely : Prop := fnExactFormatTranslationRow.holds Try.pinned (OpenSpec.ofChange fnExactFormatTranslationWrong)

/-- 'laws.FnExactPlainWords': WHATEVER THE INPUT: true; the input reads as it did. -/
def fnExactPlainWordsSpec : ChangeSpec := { name := "fnExactPlainWords", fn := fun _ => fun
  | [d] => { results := [.lit (.bool true)], args := [d] }
  | _ => none }
def fnExactPlainWordsRow : OpenClaim := { program := "ytkgphkpckcfihaa", sum := "e96aeb504ca53760f162cc6f8334b8d09d9a31043a5fdd4100f779a5fe194817", func := "loop.example/g00882/laws.FnExactPlainWords", spec := "fnExactPlainWords", inPlace := ["internal/bytealg.IndexByteString", "internal/bytealg.IndexString", "internal/abi.NoEscape", "internal/bytealg.MakeNoZero"], unfollowed := true, recurses := true, named := ["internal/bytealg.MaxLen"], apart := false }
def FnExactPlainWordsSaid : Prop := fnExactPlainWordsRow.holds Try.pinned (OpenSpec.ofChange fnExactPlainWordsSpec)

/-- ITS FALSE NEIGHBOUR: 'it returns false'. Refute it at one input. -/
def fnExactPlainWordsWrong : ChangeSpec := { name := "fnExactPlainWords", fn := fun _ => fun
  | [d] => { results := [.lit (.bool false)], args := [d] }
  | _ => none }
def FnExactPlainWordsWrongFalsely : Prop := fnExactPlainWordsRow.holds Try.pinned (OpenSpec.ofChange fnExactPlainWordsWrong)

/- THE SECOND FORM. 'bulk': how many values and letters a reading holds, each counted each time it is reached (what is shared counts as often as it is met; a slice's spare places count too). A statement '..UptoSaid' is the law's where the arguments, and the package variables that the reading takes, are together of bulk at most 1048576: NARROWER than '..Said'. Prove '..Said' where nothing that the law and all that it calls make is longer than what came in: it says more and counts as full. Else prove '..UptoSaid'. A law counts once. -/
mutual
def uptoBulk {H : Type} : DataW H → Nat
  | .lit (.string bytes) => bytes.length + 1
  | .lit _ => 1
  | .nil => 1
  | .ptr d => uptoBulk d + 1
  | .slice elems spare => uptoBulkAll elems + uptoBulkAll spare + 1
  | .agg parts => uptoBulkAll parts + 1
  | .iface _ d => uptoBulk d + 1
  | .map entries => uptoBulkEntries entries + 1
  | .held _ => 1
def uptoBulkAll {H : Type} : List (DataW H) → Nat
  | [] => 0
  | d :: r => uptoBulk d + uptoBulkAll r
def uptoBulkEntries {H : Type} : List (Lit × DataW H) → Nat
  | [] => 0
  | x :: r => uptoBulkEntry x + uptoBulkEntries r
def uptoBulkEntry {H : Type} : Lit × DataW H → Nat
  | (.string bytes, d) => bytes.length + uptoBulk d + 1
  | (_, d) => uptoBulk d + 1
 end
def uptoSmall : (H : Type) → List (DataW H) → Bool := fun _ ds => decide (uptoBulkAll ds ≤ 1048576)
def OpenSpec.upto (s : _root_.Go.ChangeSpec) : _root_.Go.OpenSpec := { _root_.Go.OpenSpec.ofChange s with cond := some uptoSmall }

/-- 'laws.FnExactIsValidAtom', WHERE WHAT IT READS IS OF BULK AT MOST 1048576: true; the input reads as it did. -/
def fnExactIsValidAtomUptoRow : OpenClaim := { program := "ytkgphkpckcfihaa", sum := "e96aeb504ca53760f162cc6f8334b8d09d9a31043a5fdd4100f779a5fe194817", func := "loop.example/g00882/laws.FnExactIsValidAtom", spec := "fnExactIsValidAtom", inPlace := ["internal/bytealg.IndexByteString", "internal/bytealg.IndexString"], named := ["internal/bytealg.MaxLen"], apart := false, narrowed := true }
def FnExactIsValidAtomUptoSaid : Prop := fnExactIsValidAtomUptoRow.holds Try.pinned (OpenSpec.upto fnExactIsValidAtomSpec)

/-- 'laws.FnExactFormatAtom', WHERE WHAT IT READS IS OF BULK AT MOST 1048576: true; the input reads as it did. -/
def fnExactFormatAtomUptoRow : OpenClaim := { program := "ytkgphkpckcfihaa", sum := "e96aeb504ca53760f162cc6f8334b8d09d9a31043a5fdd4100f779a5fe194817", func := "loop.example/g00882/laws.FnExactFormatAtom", spec := "fnExactFormatAtom", inPlace := ["internal/bytealg.IndexByteString", "internal/bytealg.IndexString"], named := ["internal/bytealg.MaxLen"], apart := false, narrowed := true }
def FnExactFormatAtomUptoSaid : Prop := fnExactFormatAtomUptoRow.holds Try.pinned (OpenSpec.upto fnExactFormatAtomSpec)

/-- 'laws.FnExactFormatTranslation', WHERE WHAT IT READS IS OF BULK AT MOST 1048576: true; the input reads as it did. -/
def fnExactFormatTranslationUptoRow : OpenClaim := { program := "ytkgphkpckcfihaa", sum := "e96aeb504ca53760f162cc6f8334b8d09d9a31043a5fdd4100f779a5fe194817", func := "loop.example/g00882/laws.FnExactFormatTranslation", spec := "fnExactFormatTranslation", inPlace := ["internal/bytealg.IndexByteString", "internal/bytealg.IndexString", "internal/abi.NoEscape", "internal/bytealg.MakeNoZero"], unfollowed := true, recurses := true, named := ["internal/bytealg.MaxLen"], apart := false, narrowed := true }
def FnExactFormatTranslationUptoSaid : Prop := fnExactFormatTranslationUptoRow.holds Try.pinned (OpenSpec.upto fnExactFormatTranslationSpec)

/-- 'laws.FnExactPlainWords', WHERE WHAT IT READS IS OF BULK AT MOST 1048576: true; the input reads as it did. -/
def fnExactPlainWordsUptoRow : OpenClaim := { program := "ytkgphkpckcfihaa", sum := "e96aeb504ca53760f162cc6f8334b8d09d9a31043a5fdd4100f779a5fe194817", func := "loop.example/g00882/laws.FnExactPlainWords", spec := "fnExactPlainWords", inPlace := ["internal/bytealg.IndexByteString", "internal/bytealg.IndexString", "internal/abi.NoEscape", "internal/bytealg.MakeNoZero"], unfollowed := true, recurses := true, named := ["internal/bytealg.MaxLen"], apart := false, narrowed := true }
def FnExactPlainWordsUptoSaid : Prop := fnExactPlainWordsUptoRow.holds Try.pinned (OpenSpec.upto fnExactPlainWordsSpec)

end Rows
end Go.Proofs.Ytkgphkpckcfihaa
