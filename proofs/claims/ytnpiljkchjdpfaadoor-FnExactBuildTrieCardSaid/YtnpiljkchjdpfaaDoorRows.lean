/-
  NARROWER THAN 'FOR EVERY INPUT', by the rows' own cells (each row's printed sentence says how): FnExactIsValidEntry: laid · FnExactIsValidDictionary: laid · FnExactLongestOutline: laid · FnExactReverseLookup: laid · FnExactFormatDictionary: laid · FnExactBuildTrie: laid.
  DERIVED. THE GIVEN ROWS OF THIS SEAT. 6 by the template 'for every input the law returns true; each argument reads behind the call as it read before'; 0 by the template 'total and deterministic' (their statements: YtnpiljkchjdpfaaDoorTotals.lean).
  GIVEN WITH THE SEED: the statements are not yours to turn. If you find one false, say at which input.
  Laid BY PROGRAM, IN A SANDBOX (cutbox-rows.mjs): the forced cells as the released guide's own fill.sh prints them over the translation 6b6161af86191654… (all of the seat's roots in one cut). By AI agents, Wed Nov 11 2026. No macro, syntax, notation, axiom, sorry.
-/
import Derived.Test.YtnpiljkchjdpfaaDoorChecked
import GoSem.PinnedTables
import GoSem.Claim
import GoSem.ClaimJoined
import GoSem.ClaimMapViews
import Derived.JoinedTies
import Derived.KernelRfl
namespace Go.Proofs.YtnpiljkchjdpfaaDoor
/- THE CELL 'sum', in the pinned program and in every row, IS THE sha256 OF THE DUMP (.gsa) THAT YtnpiljkchjdpfaaDoorProg.lean LOADS. Nothing in Lean hashes anything: it is a label: what it is worth is what the hold of that sum in a sandbox is worth. -/
noncomputable def Tryd.pinned : Pinned := { name := "ytnpiljkchjdpfaadoor", sum := "6b6161af861916541f437e98bf6b93092cfca0c7d2a6f0ace966ac03c29b4cc5", checked := Tryd.checked }
namespace Rows
def none {H : Type} : Left H := { results := [], args := [] }

/- WHAT THE LISTED PACKAGE-LEVEL VARIABLES READ AS WHEN THE CALL BEGINS. Each datum BY PROGRAM (the guide's laid-datum.mjs) off the statement by which the dump's own 'gosem.cut.vars' lays the variable. In a bare row this is a premise. The card (YtnpiljkchjdpfaaDoorCards.lean) ties it to the program's text. -/
def laid_unicode_utf8_acceptRanges {H : Type} : DataW H := .agg [.agg [.lit (.int .u8 128), .lit (.int .u8 191)], .agg [.lit (.int .u8 160), .lit (.int .u8 191)], .agg [.lit (.int .u8 128), .lit (.int .u8 159)], .agg [.lit (.int .u8 144), .lit (.int .u8 191)], .agg [.lit (.int .u8 128), .lit (.int .u8 143)], .agg [.lit (.int .u8 0), .lit (.int .u8 0)], .agg [.lit (.int .u8 0), .lit (.int .u8 0)], .agg [.lit (.int .u8 0), .lit (.int .u8 0)], .agg [.lit (.int .u8 0), .lit (.int .u8 0)], .agg [.lit (.int .u8 0), .lit (.int .u8 0)], .agg [.lit (.int .u8 0), .lit (.int .u8 0)], .agg [.lit (.int .u8 0), .lit (.int .u8 0)], .agg [.lit (.int .u8 0), .lit (.int .u8 0)], .agg [.lit (.int .u8 0), .lit (.int .u8 0)], .agg [.lit (.int .u8 0), .lit (.int .u8 0)], .agg [.lit (.int .u8 0), .lit (.int .u8 0)]]
/-- One of Go's own tables, pinned by name: the form's constant. -/
def laid_unicode_utf8_first : DataW Unit := Go.Pinned.utf8First

/-- 'laws.FnExactIsValidEntry': WHATEVER THE INPUT: true; the input reads as it did. -/
def fnExactIsValidEntrySpec : ChangeSpec := { name := "fnExactIsValidEntry", fn := fun _ => fun
  | [d] => { results := [.lit (.bool true)], args := [d] }
  | _ => none }
def fnExactIsValidEntryRow : OpenClaim := { program := "ytnpiljkchjdpfaadoor", sum := "6b6161af861916541f437e98bf6b93092cfca0c7d2a6f0ace966ac03c29b4cc5", func := "loop.example/g00882/laws.FnExactIsValidEntry", spec := "fnExactIsValidEntry", inPlace := ["internal/bytealg.CountString", "internal/bytealg.IndexByteString", "internal/bytealg.IndexString"], unfollowed := true, recurses := true, named := ["unicode/utf8.first", "unicode/utf8.acceptRanges", "internal/bytealg.MaxLen"], apart := false, laid := [("unicode/utf8.acceptRanges", laid_unicode_utf8_acceptRanges), ("unicode/utf8.first", laid_unicode_utf8_first)] }
def FnExactIsValidEntrySaid : Prop := fnExactIsValidEntryRow.holds Tryd.pinned (OpenSpec.ofChange fnExactIsValidEntrySpec)

/-- ITS FALSE NEIGHBOUR: 'it returns false'. Refute it at one input. -/
def fnExactIsValidEntryWrong : ChangeSpec := { name := "fnExactIsValidEntry", fn := fun _ => fun
  | [d] => { results := [.lit (.bool false)], args := [d] }
  | _ => none }
def FnExactIsValidEntryWrongFalsely : Prop := fnExactIsValidEntryRow.holds Tryd.pinned (OpenSpec.ofChange fnExactIsValidEntryWrong)

/-- 'laws.FnExactIsValidDictionary': WHATEVER THE INPUT: true; the input reads as it did. -/
def fnExactIsValidDictionarySpec : ChangeSpec := { name := "fnExactIsValidDictionary", fn := fun _ => fun
  | [d] => { results := [.lit (.bool true)], args := [d] }
  | _ => none }
def fnExactIsValidDictionaryRow : OpenClaim := { program := "ytnpiljkchjdpfaadoor", sum := "6b6161af861916541f437e98bf6b93092cfca0c7d2a6f0ace966ac03c29b4cc5", func := "loop.example/g00882/laws.FnExactIsValidDictionary", spec := "fnExactIsValidDictionary", inPlace := ["internal/bytealg.CountString", "internal/bytealg.IndexByteString", "internal/bytealg.IndexString"], unfollowed := true, recurses := true, named := ["unicode/utf8.first", "unicode/utf8.acceptRanges", "internal/bytealg.MaxLen"], apart := false, laid := [("unicode/utf8.acceptRanges", laid_unicode_utf8_acceptRanges), ("unicode/utf8.first", laid_unicode_utf8_first)] }
def FnExactIsValidDictionarySaid : Prop := fnExactIsValidDictionaryRow.holds Tryd.pinned (OpenSpec.ofChange fnExactIsValidDictionarySpec)

/-- ITS FALSE NEIGHBOUR: 'it returns false'. Refute it at one input. -/
def fnExactIsValidDictionaryWrong : ChangeSpec := { name := "fnExactIsValidDictionary", fn := fun _ => fun
  | [d] => { results := [.lit (.bool false)], args := [d] }
  | _ => none }
def FnExactIsValidDictionaryWrongFalsely : Prop := fnExactIsValidDictionaryRow.holds Tryd.pinned (OpenSpec.ofChange fnExactIsValidDictionaryWrong)

/-- 'laws.FnExactLongestOutline': WHATEVER THE INPUT: true; the input reads as it did. -/
def fnExactLongestOutlineSpec : ChangeSpec := { name := "fnExactLongestOutline", fn := fun _ => fun
  | [d] => { results := [.lit (.bool true)], args := [d] }
  | _ => none }
def fnExactLongestOutlineRow : OpenClaim := { program := "ytnpiljkchjdpfaadoor", sum := "6b6161af861916541f437e98bf6b93092cfca0c7d2a6f0ace966ac03c29b4cc5", func := "loop.example/g00882/laws.FnExactLongestOutline", spec := "fnExactLongestOutline", inPlace := ["internal/bytealg.CountString", "internal/bytealg.IndexByteString", "internal/bytealg.IndexString"], unfollowed := true, recurses := true, named := ["unicode/utf8.first", "unicode/utf8.acceptRanges", "internal/bytealg.MaxLen"], apart := false, laid := [("unicode/utf8.acceptRanges", laid_unicode_utf8_acceptRanges), ("unicode/utf8.first", laid_unicode_utf8_first)] }
def FnExactLongestOutlineSaid : Prop := fnExactLongestOutlineRow.holds Tryd.pinned (OpenSpec.ofChange fnExactLongestOutlineSpec)

/-- ITS FALSE NEIGHBOUR: 'it returns false'. Refute it at one input. -/
def fnExactLongestOutlineWrong : ChangeSpec := { name := "fnExactLongestOutline", fn := fun _ => fun
  | [d] => { results := [.lit (.bool false)], args := [d] }
  | _ => none }
def FnExactLongestOutlineWrongFalsely : Prop := fnExactLongestOutlineRow.holds Tryd.pinned (OpenSpec.ofChange fnExactLongestOutlineWrong)

/-- 'laws.FnExactReverseLookup': WHATEVER THE INPUT: true; the input reads as it did. -/
def fnExactReverseLookupSpec : ChangeSpec := { name := "fnExactReverseLookup", fn := fun _ => fun
  | [d1, d2] => { results := [.lit (.bool true)], args := [d1, d2] }
  | _ => none }
def fnExactReverseLookupRow : OpenClaim := { program := "ytnpiljkchjdpfaadoor", sum := "6b6161af861916541f437e98bf6b93092cfca0c7d2a6f0ace966ac03c29b4cc5", func := "loop.example/g00882/laws.FnExactReverseLookup", spec := "fnExactReverseLookup", inPlace := ["internal/bytealg.CountString", "internal/bytealg.IndexByteString", "internal/bytealg.IndexString"], unfollowed := true, recurses := true, named := ["unicode/utf8.first", "unicode/utf8.acceptRanges", "internal/bytealg.MaxLen"], apart := false, laid := [("unicode/utf8.acceptRanges", laid_unicode_utf8_acceptRanges), ("unicode/utf8.first", laid_unicode_utf8_first)] }
def FnExactReverseLookupSaid : Prop := fnExactReverseLookupRow.holds Tryd.pinned (OpenSpec.ofChange fnExactReverseLookupSpec)

/-- ITS FALSE NEIGHBOUR: 'it returns false'. Refute it at one input. -/
def fnExactReverseLookupWrong : ChangeSpec := { name := "fnExactReverseLookup", fn := fun _ => fun
  | [d1, d2] => { results := [.lit (.bool false)], args := [d1, d2] }
  | _ => none }
def FnExactReverseLookupWrongFalsely : Prop := fnExactReverseLookupRow.holds Tryd.pinned (OpenSpec.ofChange fnExactReverseLookupWrong)

/-- 'laws.FnExactFormatDictionary': WHATEVER THE INPUT: true; the input reads as it did. -/
def fnExactFormatDictionarySpec : ChangeSpec := { name := "fnExactFormatDictionary", fn := fun _ => fun
  | [d] => { results := [.lit (.bool true)], args := [d] }
  | _ => none }
def fnExactFormatDictionaryRow : OpenClaim := { program := "ytnpiljkchjdpfaadoor", sum := "6b6161af861916541f437e98bf6b93092cfca0c7d2a6f0ace966ac03c29b4cc5", func := "loop.example/g00882/laws.FnExactFormatDictionary", spec := "fnExactFormatDictionary", inPlace := ["internal/bytealg.CountString", "internal/bytealg.IndexByteString", "internal/bytealg.IndexString", "internal/abi.NoEscape", "internal/bytealg.MakeNoZero"], unfollowed := true, recurses := true, named := ["unicode/utf8.first", "unicode/utf8.acceptRanges", "internal/bytealg.MaxLen"], apart := false, laid := [("unicode/utf8.acceptRanges", laid_unicode_utf8_acceptRanges), ("unicode/utf8.first", laid_unicode_utf8_first)] }
def FnExactFormatDictionarySaid : Prop := fnExactFormatDictionaryRow.holds Tryd.pinned (OpenSpec.ofChange fnExactFormatDictionarySpec)

/-- ITS FALSE NEIGHBOUR: 'it returns false'. Refute it at one input. -/
def fnExactFormatDictionaryWrong : ChangeSpec := { name := "fnExactFormatDictionary", fn := fun _ => fun
  | [d] => { results := [.lit (.bool false)], args := [d] }
  | _ => none }
def FnExactFormatDictionaryWrongFalsely : Prop := fnExactFormatDictionaryRow.holds Tryd.pinned (OpenSpec.ofChange fnExactFormatDictionaryWrong)

/-- 'laws.FnExactBuildTrie': WHATEVER THE INPUT: true; the input reads as it did. -/
def fnExactBuildTrieSpec : ChangeSpec := { name := "fnExactBuildTrie", fn := fun _ => fun
  | [d] => { results := [.lit (.bool true)], args := [d] }
  | _ => none }
def fnExactBuildTrieRow : OpenClaim := { program := "ytnpiljkchjdpfaadoor", sum := "6b6161af861916541f437e98bf6b93092cfca0c7d2a6f0ace966ac03c29b4cc5", func := "loop.example/g00882/laws.FnExactBuildTrie", spec := "fnExactBuildTrie", inPlace := ["internal/bytealg.CountString", "internal/bytealg.IndexByteString", "internal/bytealg.IndexString"], unfollowed := true, recurses := true, named := ["unicode/utf8.first", "unicode/utf8.acceptRanges", "internal/bytealg.MaxLen"], apart := false, laid := [("unicode/utf8.acceptRanges", laid_unicode_utf8_acceptRanges), ("unicode/utf8.first", laid_unicode_utf8_first)] }
def FnExactBuildTrieSaid : Prop := fnExactBuildTrieRow.holds Tryd.pinned (OpenSpec.ofChange fnExactBuildTrieSpec)

/-- ITS FALSE NEIGHBOUR: 'it returns false'. Refute it at one input. -/
def fnExactBuildTrieWrong : ChangeSpec := { name := "fnExactBuildTrie", fn := fun _ => fun
  | [d] => { results := [.lit (.bool false)], args := [d] }
  | _ => none }
def FnExactBuildTrieWrongFalsely : Prop := fnExactBuildTrieRow.holds Tryd.pinned (OpenSpec.ofChange fnExactBuildTrieWrong)

/- THE SECOND FORM. 'bulk': how many values and letters a reading holds, each counted each time it is reached (what is shared counts as often as it is met; a slice's spare places count too). A statement '..UptoSaid' is the law's where the arguments, and the package variables that the reading takes, are together of bulk at most 1048576: NARROWER than '..Said'. Prove '..Said' where nothing that the law and all that it calls make is longer than what came in: it says more and counts as full. Else prove '..UptoSaid'. A law counts once. -/
mutual
def uptoBulk {H : Type} : DataW H → Nat
  | .lit (.string bytes) => bytes.length + 1
  | .lit _ => 1
  | .nil => 1
  | .ptr d => uptoBulk d + 1
  | .slice elems spare => uptoBulkAll elems + uptoBulkAll spare + 1
  | .agg parts => uptoBulkAll parts + 1
  | .iface _ d => uptoBulk d + 1
  | .map entries => uptoBulkEntries entries + 1
  | .held _ => 1
def uptoBulkAll {H : Type} : List (DataW H) → Nat
  | [] => 0
  | d :: r => uptoBulk d + uptoBulkAll r
def uptoBulkEntries {H : Type} : List (Lit × DataW H) → Nat
  | [] => 0
  | x :: r => uptoBulkEntry x + uptoBulkEntries r
def uptoBulkEntry {H : Type} : Lit × DataW H → Nat
  | (.string bytes, d) => bytes.length + uptoBulk d + 1
  | (_, d) => uptoBulk d + 1
 end
def uptoSmall : (H : Type) → List (DataW H) → Bool := fun _ ds => decide (uptoBulkAll ds ≤ 1048576)
def OpenSpec.upto (s : _root_.Go.ChangeSpec) : _root_.Go.OpenSpec := { _root_.Go.OpenSpec.ofChange s with cond := some uptoSmall }

/-- 'laws.FnExactIsValidEntry', WHERE WHAT IT READS IS OF BULK AT MOST 1048576: true; the input reads as it did. -/
def fnExactIsValidEntryUptoRow : OpenClaim := { program := "ytnpiljkchjdpfaadoor", sum := "6b6161af861916541f437e98bf6b93092cfca0c7d2a6f0ace966ac03c29b4cc5", func := "loop.example/g00882/laws.FnExactIsValidEntry", spec := "fnExactIsValidEntry", inPlace := ["internal/bytealg.CountString", "internal/bytealg.IndexByteString", "internal/bytealg.IndexString"], unfollowed := true, recurses := true, named := ["unicode/utf8.first", "unicode/utf8.acceptRanges", "internal/bytealg.MaxLen"], apart := false, laid := [("unicode/utf8.acceptRanges", laid_unicode_utf8_acceptRanges), ("unicode/utf8.first", laid_unicode_utf8_first)], narrowed := true }
def FnExactIsValidEntryUptoSaid : Prop := fnExactIsValidEntryUptoRow.holds Tryd.pinned (OpenSpec.upto fnExactIsValidEntrySpec)

/-- 'laws.FnExactIsValidDictionary', WHERE WHAT IT READS IS OF BULK AT MOST 1048576: true; the input reads as it did. -/
def fnExactIsValidDictionaryUptoRow : OpenClaim := { program := "ytnpiljkchjdpfaadoor", sum := "6b6161af861916541f437e98bf6b93092cfca0c7d2a6f0ace966ac03c29b4cc5", func := "loop.example/g00882/laws.FnExactIsValidDictionary", spec := "fnExactIsValidDictionary", inPlace := ["internal/bytealg.CountString", "internal/bytealg.IndexByteString", "internal/bytealg.IndexString"], unfollowed := true, recurses := true, named := ["unicode/utf8.first", "unicode/utf8.acceptRanges", "internal/bytealg.MaxLen"], apart := false, laid := [("unicode/utf8.acceptRanges", laid_unicode_utf8_acceptRanges), ("unicode/utf8.first", laid_unicode_utf8_first)], narrowed := true }
def FnExactIsValidDictionaryUptoSaid : Prop := fnExactIsValidDictionaryUptoRow.holds Tryd.pinned (OpenSpec.upto fnExactIsValidDictionarySpec)

/-- 'laws.FnExactLongestOutline', WHERE WHAT IT READS IS OF BULK AT MOST 1048576: true; the input reads as it did. -/
def fnExactLongestOutlineUptoRow : OpenClaim := { program := "ytnpiljkchjdpfaadoor", sum := "6b6161af861916541f437e98bf6b93092cfca0c7d2a6f0ace966ac03c29b4cc5", func := "loop.example/g00882/laws.FnExactLongestOutline", spec := "fnExactLongestOutline", inPlace := ["internal/bytealg.CountString", "internal/bytealg.IndexByteString", "internal/bytealg.IndexString"], unfollowed := true, recurses := true, named := ["unicode/utf8.first", "unicode/utf8.acceptRanges", "internal/bytealg.MaxLen"], apart := false, laid := [("unicode/utf8.acceptRanges", laid_unicode_utf8_acceptRanges), ("unicode/utf8.first", laid_unicode_utf8_first)], narrowed := true }
def FnExactLongestOutlineUptoSaid : Prop := fnExactLongestOutlineUptoRow.holds Tryd.pinned (OpenSpec.upto fnExactLongestOutlineSpec)

/-- 'laws.FnExactReverseLookup', WHERE WHAT IT READS IS OF BULK AT MOST 1048576: true; the input reads as it did. -/
def fnExactReverseLookupUptoRow : OpenClaim := { program := "ytnpiljkchjdpfaadoor", sum := "6b6161af861916541f437e98bf6b93092cfca0c7d2a6f0ace966ac03c29b4cc5", func := "loop.example/g00882/laws.FnExactReverseLookup", spec := "fnExactReverseLookup", inPlace := ["internal/bytealg.CountString", "internal/bytealg.IndexByteString", "internal/bytealg.IndexString"], unfollowed := true, recurses := true, named := ["unicode/utf8.first", "unicode/utf8.acceptRanges", "internal/bytealg.MaxLen"], apart := false, laid := [("unicode/utf8.acceptRanges", laid_unicode_utf8_acceptRanges), ("unicode/utf8.first", laid_unicode_utf8_first)], narrowed := true }
def FnExactReverseLookupUptoSaid : Prop := fnExactReverseLookupUptoRow.holds Tryd.pinned (OpenSpec.upto fnExactReverseLookupSpec)

/-- 'laws.FnExactFormatDictionary', WHERE WHAT IT READS IS OF BULK AT MOST 1048576: true; the input reads as it did. -/
def fnExactFormatDictionaryUptoRow : OpenClaim := { program := "ytnpiljkchjdpfaadoor", sum := "6b6161af861916541f437e98bf6b93092cfca0c7d2a6f0ace966ac03c29b4cc5", func := "loop.example/g00882/laws.FnExactFormatDictionary", spec := "fnExactFormatDictionary", inPlace := ["internal/bytealg.CountString", "internal/bytealg.IndexByteString", "internal/bytealg.IndexString", "internal/abi.NoEscape", "internal/bytealg.MakeNoZero"], unfollowed := true, recurses := true, named := ["unicode/utf8.first", "unicode/utf8.acceptRanges", "internal/bytealg.MaxLen"], apart := false, laid := [("unicode/utf8.acceptRanges", laid_unicode_utf8_acceptRanges), ("unicode/utf8.first", laid_unicode_utf8_first)], narrowed := true }
def FnExactFormatDictionaryUptoSaid : Prop := fnExactFormatDictionaryUptoRow.holds Tryd.pinned (OpenSpec.upto fnExactFormatDictionarySpec)

/-- 'laws.FnExactBuildTrie', WHERE WHAT IT READS IS OF BULK AT MOST 1048576: true; the input reads as it did. -/
def fnExactBuildTrieUptoRow : OpenClaim := { program := "ytnpiljkchjdpfaadoor", sum := "6b6161af861916541f437e98bf6b93092cfca0c7d2a6f0ace966ac03c29b4cc5", func := "loop.example/g00882/laws.FnExactBuildTrie", spec := "fnExactBuildTrie", inPlace := ["internal/bytealg.CountString", "internal/bytealg.IndexByteString", "internal/bytealg.IndexString"], unfollowed := true, recurses := true, named := ["unicode/utf8.first", "unicode/utf8.acceptRanges", "internal/bytealg.MaxLen"], apart := false, laid := [("unicode/utf8.acceptRanges", laid_unicode_utf8_acceptRanges), ("unicode/utf8.first", laid_unicode_utf8_first)], narrowed := true }
def FnExactBuildTrieUptoSaid : Prop := fnExactBuildTrieUptoRow.holds Tryd.pinned (OpenSpec.upto fnExactBuildTrieSpec)

end Rows
end Go.Proofs.YtnpiljkchjdpfaaDoor
