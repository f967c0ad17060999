/-
  No cell of these rows narrows 'for every input' (looked for: loops, veiled, ifaces, maps, wideKeys, modest, calm, conditions, laid).
  DERIVED. THE GIVEN ROWS OF THIS SEAT. 6 by the template 'for every input the law returns true; each argument reads behind the call as it read before'; 0 by the template 'total and deterministic' (their statements: YtnepcipicibmfaaTotals.lean).
  GIVEN WITH THE SEED: the statements are not yours to turn. If you find one false, say at which input.
  Laid BY PROGRAM, IN A SANDBOX (cutbox-rows.mjs): the forced cells as the released guide's own fill.sh prints them over the translation 131b3f3ab6814c08… (all of the seat's roots in one cut). By AI agents, Wed Nov 11 2026. No macro, syntax, notation, axiom, sorry.
-/
import Derived.Test.YtnepcipicibmfaaChecked
import GoSem.Claim
import GoSem.ClaimJoined
import GoSem.ClaimMapViews
import Derived.JoinedTies
import Derived.KernelRfl
namespace Go.Proofs.Ytnepcipicibmfaa
/- THE CELL 'sum', in the pinned program and in every row, IS THE sha256 OF THE DUMP (.gsa) THAT YtnepcipicibmfaaProg.lean LOADS. Nothing in Lean hashes anything: it is a label: what it is worth is what the hold of that sum in a sandbox is worth. -/
noncomputable def Try.pinned : Pinned := { name := "ytnepcipicibmfaa", sum := "131b3f3ab6814c08ea138affcbea282f94ef01b1ce7e6caec7562c7d066ece6d", checked := Try.checked }
namespace Rows
def none {H : Type} : Left H := { results := [], args := [] }

/-- 'laws.FnExactIsValidOutline': WHATEVER THE INPUT: true; the input reads as it did. -/
def fnExactIsValidOutlineSpec : ChangeSpec := { name := "fnExactIsValidOutline", fn := fun _ => fun
  | [d] => { results := [.lit (.bool true)], args := [d] }
  | _ => none }
def fnExactIsValidOutlineRow : OpenClaim := { program := "ytnepcipicibmfaa", sum := "131b3f3ab6814c08ea138affcbea282f94ef01b1ce7e6caec7562c7d066ece6d", func := "loop.example/g00882/laws.FnExactIsValidOutline", spec := "fnExactIsValidOutline", unfollowed := true, recurses := true, apart := false }
def FnExactIsValidOutlineSaid : Prop := fnExactIsValidOutlineRow.holds Try.pinned (OpenSpec.ofChange fnExactIsValidOutlineSpec)

/-- ITS FALSE NEIGHBOUR: 'it returns false'. Refute it at one input. -/
def fnExactIsValidOutlineWrong : ChangeSpec := { name := "fnExactIsValidOutline", fn := fun _ => fun
  | [d] => { results := [.lit (.bool false)], args := [d] }
  | _ => none }
def FnExactIsValidOutlineWrongFalsely : Prop := fnExactIsValidOutlineRow.holds Try.pinned (OpenSpec.ofChange fnExactIsValidOutlineWrong)

/-- 'laws.FnExactHasPrefix': WHATEVER THE INPUT: true; the input reads as it did. -/
def fnExactHasPrefixSpec : ChangeSpec := { name := "fnExactHasPrefix", fn := fun _ => fun
  | [d1, d2] => { results := [.lit (.bool true)], args := [d1, d2] }
  | _ => none }
def fnExactHasPrefixRow : OpenClaim := { program := "ytnepcipicibmfaa", sum := "131b3f3ab6814c08ea138affcbea282f94ef01b1ce7e6caec7562c7d066ece6d", func := "loop.example/g00882/laws.FnExactHasPrefix", spec := "fnExactHasPrefix", unfollowed := true, recurses := true, apart := false }
def FnExactHasPrefixSaid : Prop := fnExactHasPrefixRow.holds Try.pinned (OpenSpec.ofChange fnExactHasPrefixSpec)

/-- ITS FALSE NEIGHBOUR: 'it returns false'. Refute it at one input. -/
def fnExactHasPrefixWrong : ChangeSpec := { name := "fnExactHasPrefix", fn := fun _ => fun
  | [d1, d2] => { results := [.lit (.bool false)], args := [d1, d2] }
  | _ => none }
def FnExactHasPrefixWrongFalsely : Prop := fnExactHasPrefixRow.holds Try.pinned (OpenSpec.ofChange fnExactHasPrefixWrong)

/-- 'laws.FnExactConcatOutlines': WHATEVER THE INPUT: true; the input reads as it did. -/
def fnExactConcatOutlinesSpec : ChangeSpec := { name := "fnExactConcatOutlines", fn := fun _ => fun
  | [d1, d2] => { results := [.lit (.bool true)], args := [d1, d2] }
  | _ => none }
def fnExactConcatOutlinesRow : OpenClaim := { program := "ytnepcipicibmfaa", sum := "131b3f3ab6814c08ea138affcbea282f94ef01b1ce7e6caec7562c7d066ece6d", func := "loop.example/g00882/laws.FnExactConcatOutlines", spec := "fnExactConcatOutlines", unfollowed := true, recurses := true, apart := false }
def FnExactConcatOutlinesSaid : Prop := fnExactConcatOutlinesRow.holds Try.pinned (OpenSpec.ofChange fnExactConcatOutlinesSpec)

/-- ITS FALSE NEIGHBOUR: 'it returns false'. Refute it at one input. -/
def fnExactConcatOutlinesWrong : ChangeSpec := { name := "fnExactConcatOutlines", fn := fun _ => fun
  | [d1, d2] => { results := [.lit (.bool false)], args := [d1, d2] }
  | _ => none }
def FnExactConcatOutlinesWrongFalsely : Prop := fnExactConcatOutlinesRow.holds Try.pinned (OpenSpec.ofChange fnExactConcatOutlinesWrong)

/-- 'laws.FnExactCompareOutlines': WHATEVER THE INPUT: true; the input reads as it did. -/
def fnExactCompareOutlinesSpec : ChangeSpec := { name := "fnExactCompareOutlines", fn := fun _ => fun
  | [d1, d2] => { results := [.lit (.bool true)], args := [d1, d2] }
  | _ => none }
def fnExactCompareOutlinesRow : OpenClaim := { program := "ytnepcipicibmfaa", sum := "131b3f3ab6814c08ea138affcbea282f94ef01b1ce7e6caec7562c7d066ece6d", func := "loop.example/g00882/laws.FnExactCompareOutlines", spec := "fnExactCompareOutlines", unfollowed := true, recurses := true, apart := false }
def FnExactCompareOutlinesSaid : Prop := fnExactCompareOutlinesRow.holds Try.pinned (OpenSpec.ofChange fnExactCompareOutlinesSpec)

/-- ITS FALSE NEIGHBOUR: 'it returns false'. Refute it at one input. -/
def fnExactCompareOutlinesWrong : ChangeSpec := { name := "fnExactCompareOutlines", fn := fun _ => fun
  | [d1, d2] => { results := [.lit (.bool false)], args := [d1, d2] }
  | _ => none }
def FnExactCompareOutlinesWrongFalsely : Prop := fnExactCompareOutlinesRow.holds Try.pinned (OpenSpec.ofChange fnExactCompareOutlinesWrong)

/-- 'laws.FnExactFormatOutline': WHATEVER THE INPUT: true; the input reads as it did. -/
def fnExactFormatOutlineSpec : ChangeSpec := { name := "fnExactFormatOutline", fn := fun _ => fun
  | [d] => { results := [.lit (.bool true)], args := [d] }
  | _ => none }
def fnExactFormatOutlineRow : OpenClaim := { program := "ytnepcipicibmfaa", sum := "131b3f3ab6814c08ea138affcbea282f94ef01b1ce7e6caec7562c7d066ece6d", func := "loop.example/g00882/laws.FnExactFormatOutline", spec := "fnExactFormatOutline", inPlace := ["internal/abi.NoEscape", "internal/bytealg.MakeNoZero"], unfollowed := true, recurses := true, apart := false }
def FnExactFormatOutlineSaid : Prop := fnExactFormatOutlineRow.holds Try.pinned (OpenSpec.ofChange fnExactFormatOutlineSpec)

/-- ITS FALSE NEIGHBOUR: 'it returns false'. Refute it at one input. -/
def fnExactFormatOutlineWrong : ChangeSpec := { name := "fnExactFormatOutline", fn := fun _ => fun
  | [d] => { results := [.lit (.bool false)], args := [d] }
  | _ => none }
def FnExactFormatOutlineWrongFalsely : Prop := fnExactFormatOutlineRow.holds Try.pinned (OpenSpec.ofChange fnExactFormatOutlineWrong)

/-- 'laws.FnOutlineOrder': WHATEVER THE INPUT: true; the input reads as it did. -/
def fnOutlineOrderSpec : ChangeSpec := { name := "fnOutlineOrder", fn := fun _ => fun
  | [d] => { results := [.lit (.bool true)], args := [d] }
  | _ => none }
def fnOutlineOrderRow : OpenClaim := { program := "ytnepcipicibmfaa", sum := "131b3f3ab6814c08ea138affcbea282f94ef01b1ce7e6caec7562c7d066ece6d", func := "loop.example/g00882/laws.FnOutlineOrder", spec := "fnOutlineOrder", unfollowed := true, recurses := true, apart := false }
def FnOutlineOrderSaid : Prop := fnOutlineOrderRow.holds Try.pinned (OpenSpec.ofChange fnOutlineOrderSpec)

/-- ITS FALSE NEIGHBOUR: 'it returns false'. Refute it at one input. -/
def fnOutlineOrderWrong : ChangeSpec := { name := "fnOutlineOrder", fn := fun _ => fun
  | [d] => { results := [.lit (.bool false)], args := [d] }
  | _ => none }
def FnOutlineOrderWrongFalsely : Prop := fnOutlineOrderRow.holds Try.pinned (OpenSpec.ofChange fnOutlineOrderWrong)

/- THE SECOND FORM. 'bulk': how many values and letters a reading holds, each counted each time it is reached (what is shared counts as often as it is met; a slice's spare places count too). A statement '..UptoSaid' is the law's where the arguments, and the package variables that the reading takes, are together of bulk at most 1048576: NARROWER than '..Said'. Prove '..Said' where nothing that the law and all that it calls make is longer than what came in: it says more and counts as full. Else prove '..UptoSaid'. A law counts once. -/
mutual
def uptoBulk {H : Type} : DataW H → Nat
  | .lit (.string bytes) => bytes.length + 1
  | .lit _ => 1
  | .nil => 1
  | .ptr d => uptoBulk d + 1
  | .slice elems spare => uptoBulkAll elems + uptoBulkAll spare + 1
  | .agg parts => uptoBulkAll parts + 1
  | .iface _ d => uptoBulk d + 1
  | .map entries => uptoBulkEntries entries + 1
  | .held _ => 1
def uptoBulkAll {H : Type} : List (DataW H) → Nat
  | [] => 0
  | d :: r => uptoBulk d + uptoBulkAll r
def uptoBulkEntries {H : Type} : List (Lit × DataW H) → Nat
  | [] => 0
  | x :: r => uptoBulkEntry x + uptoBulkEntries r
def uptoBulkEntry {H : Type} : Lit × DataW H → Nat
  | (.string bytes, d) => bytes.length + uptoBulk d + 1
  | (_, d) => uptoBulk d + 1
 end
def uptoSmall : (H : Type) → List (DataW H) → Bool := fun _ ds => decide (uptoBulkAll ds ≤ 1048576)
def OpenSpec.upto (s : _root_.Go.ChangeSpec) : _root_.Go.OpenSpec := { _root_.Go.OpenSpec.ofChange s with cond := some uptoSmall }

/-- 'laws.FnExactIsValidOutline', WHERE WHAT IT READS IS OF BULK AT MOST 1048576: true; the input reads as it did. -/
def fnExactIsValidOutlineUptoRow : OpenClaim := { program := "ytnepcipicibmfaa", sum := "131b3f3ab6814c08ea138affcbea282f94ef01b1ce7e6caec7562c7d066ece6d", func := "loop.example/g00882/laws.FnExactIsValidOutline", spec := "fnExactIsValidOutline", unfollowed := true, recurses := true, apart := false, narrowed := true }
def FnExactIsValidOutlineUptoSaid : Prop := fnExactIsValidOutlineUptoRow.holds Try.pinned (OpenSpec.upto fnExactIsValidOutlineSpec)

/-- 'laws.FnExactHasPrefix', WHERE WHAT IT READS IS OF BULK AT MOST 1048576: true; the input reads as it did. -/
def fnExactHasPrefixUptoRow : OpenClaim := { program := "ytnepcipicibmfaa", sum := "131b3f3ab6814c08ea138affcbea282f94ef01b1ce7e6caec7562c7d066ece6d", func := "loop.example/g00882/laws.FnExactHasPrefix", spec := "fnExactHasPrefix", unfollowed := true, recurses := true, apart := false, narrowed := true }
def FnExactHasPrefixUptoSaid : Prop := fnExactHasPrefixUptoRow.holds Try.pinned (OpenSpec.upto fnExactHasPrefixSpec)

/-- 'laws.FnExactConcatOutlines', WHERE WHAT IT READS IS OF BULK AT MOST 1048576: true; the input reads as it did. -/
def fnExactConcatOutlinesUptoRow : OpenClaim := { program := "ytnepcipicibmfaa", sum := "131b3f3ab6814c08ea138affcbea282f94ef01b1ce7e6caec7562c7d066ece6d", func := "loop.example/g00882/laws.FnExactConcatOutlines", spec := "fnExactConcatOutlines", unfollowed := true, recurses := true, apart := false, narrowed := true }
def FnExactConcatOutlinesUptoSaid : Prop := fnExactConcatOutlinesUptoRow.holds Try.pinned (OpenSpec.upto fnExactConcatOutlinesSpec)

/-- 'laws.FnExactCompareOutlines', WHERE WHAT IT READS IS OF BULK AT MOST 1048576: true; the input reads as it did. -/
def fnExactCompareOutlinesUptoRow : OpenClaim := { program := "ytnepcipicibmfaa", sum := "131b3f3ab6814c08ea138affcbea282f94ef01b1ce7e6caec7562c7d066ece6d", func := "loop.example/g00882/laws.FnExactCompareOutlines", spec := "fnExactCompareOutlines", unfollowed := true, recurses := true, apart := false, narrowed := true }
def FnExactCompareOutlinesUptoSaid : Prop := fnExactCompareOutlinesUptoRow.holds Try.pinned (OpenSpec.upto fnExactCompareOutlinesSpec)

/-- 'laws.FnExactFormatOutline', WHERE WHAT IT READS IS OF BULK AT MOST 1048576: true; the input reads as it did. -/
def fnExactFormatOutlineUptoRow : OpenClaim := { program := "ytnepcipicibmfaa", sum := "131b3f3ab6814c08ea138affcbea282f94ef01b1ce7e6caec7562c7d066ece6d", func := "loop.example/g00882/laws.FnExactFormatOutline", spec := "fnExactFormatOutline", inPlace := ["internal/abi.NoEscape", "internal/bytealg.MakeNoZero"], unfollowed := true, recurses := true, apart := false, narrowed := true }
def FnExactFormatOutlineUptoSaid : Prop := fnExactFormatOutlineUptoRow.holds Try.pinned (OpenSpec.upto fnExactFormatOutlineSpec)

/-- 'laws.FnOutlineOrder', WHERE WHAT IT READS IS OF BULK AT MOST 1048576: true; the input reads as it did. -/
def fnOutlineOrderUptoRow : OpenClaim := { program := "ytnepcipicibmfaa", sum := "131b3f3ab6814c08ea138affcbea282f94ef01b1ce7e6caec7562c7d066ece6d", func := "loop.example/g00882/laws.FnOutlineOrder", spec := "fnOutlineOrder", unfollowed := true, recurses := true, apart := false, narrowed := true }
def FnOutlineOrderUptoSaid : Prop := fnOutlineOrderUptoRow.holds Try.pinned (OpenSpec.upto fnOutlineOrderSpec)

end Rows
end Go.Proofs.Ytnepcipicibmfaa
