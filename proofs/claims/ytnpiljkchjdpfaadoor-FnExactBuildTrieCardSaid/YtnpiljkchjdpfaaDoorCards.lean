/-
  DERIVED. GIVEN WITH THE SEED: THE CARDS: each row of YtnpiljkchjdpfaaDoorRows.lean that lists a variable, with what it lists TIED to the program's text (the seventh form; the later family's looks); each row that meets fmt, with fmt's text TOLD by the authors' own Lean function (tested against real Go, not proved from fmt's source: count such statements apart). THE CARD IS WHAT COUNTS. Prove the row's statement (the work); the ties are given (YtnpiljkchjdpfaaDoorTie.lean); close each card by the builder's one call (the guide's Derived/Test/ToyasCard.lean, 'card_holds'). Laid BY PROGRAM, IN A SANDBOX (cutbox-door.mjs). By AI agents, Wed Nov 11 2026. No macro, syntax, notation, axiom, sorry.
-/
import Derived.Test.YtnpiljkchjdpfaaDoorRows
import GoSem.ClaimSeven
namespace Go.Proofs.YtnpiljkchjdpfaaDoor
namespace Rows

/-- THE TIED CARD OF 'laws.FnExactIsValidEntry'. -/
def fnExactIsValidEntryCard : Claim7 := { stood := { row := fnExactIsValidEntryRow, standIns := [], harness := (true, "2e07512fa62bbb439fcd7d2740c36fa0ac17024c88fee4a12293c599d87d725d"), looks := false }, kinds := [], alts := [], laidByText := true, laidKinds := [.data, .pinned], laidTests := true, laidLooks := .later }
def FnExactIsValidEntryCardSaid : Prop := Claim7.holds Tryd.pinned (.plain (OpenSpec.ofChange fnExactIsValidEntrySpec)) fnExactIsValidEntryCard

/-- THE TIED CARD OF 'laws.FnExactIsValidDictionary'. -/
def fnExactIsValidDictionaryCard : Claim7 := { stood := { row := fnExactIsValidDictionaryRow, standIns := [], harness := (true, "2e07512fa62bbb439fcd7d2740c36fa0ac17024c88fee4a12293c599d87d725d"), looks := false }, kinds := [], alts := [], laidByText := true, laidKinds := [.data, .pinned], laidTests := true, laidLooks := .later }
def FnExactIsValidDictionaryCardSaid : Prop := Claim7.holds Tryd.pinned (.plain (OpenSpec.ofChange fnExactIsValidDictionarySpec)) fnExactIsValidDictionaryCard

/-- THE TIED CARD OF 'laws.FnExactLongestOutline'. -/
def fnExactLongestOutlineCard : Claim7 := { stood := { row := fnExactLongestOutlineRow, standIns := [], harness := (true, "2e07512fa62bbb439fcd7d2740c36fa0ac17024c88fee4a12293c599d87d725d"), looks := false }, kinds := [], alts := [], laidByText := true, laidKinds := [.data, .pinned], laidTests := true, laidLooks := .later }
def FnExactLongestOutlineCardSaid : Prop := Claim7.holds Tryd.pinned (.plain (OpenSpec.ofChange fnExactLongestOutlineSpec)) fnExactLongestOutlineCard

/-- THE TIED CARD OF 'laws.FnExactReverseLookup'. -/
def fnExactReverseLookupCard : Claim7 := { stood := { row := fnExactReverseLookupRow, standIns := [], harness := (true, "2e07512fa62bbb439fcd7d2740c36fa0ac17024c88fee4a12293c599d87d725d"), looks := false }, kinds := [], alts := [], laidByText := true, laidKinds := [.data, .pinned], laidTests := true, laidLooks := .later }
def FnExactReverseLookupCardSaid : Prop := Claim7.holds Tryd.pinned (.plain (OpenSpec.ofChange fnExactReverseLookupSpec)) fnExactReverseLookupCard

/-- THE TIED CARD OF 'laws.FnExactFormatDictionary'. -/
def fnExactFormatDictionaryCard : Claim7 := { stood := { row := fnExactFormatDictionaryRow, standIns := [], harness := (true, "2e07512fa62bbb439fcd7d2740c36fa0ac17024c88fee4a12293c599d87d725d"), looks := false }, kinds := [], alts := [], laidByText := true, laidKinds := [.data, .pinned], laidTests := true, laidLooks := .later }
def FnExactFormatDictionaryCardSaid : Prop := Claim7.holds Tryd.pinned (.plain (OpenSpec.ofChange fnExactFormatDictionarySpec)) fnExactFormatDictionaryCard

/-- THE TIED CARD OF 'laws.FnExactBuildTrie'. -/
def fnExactBuildTrieCard : Claim7 := { stood := { row := fnExactBuildTrieRow, standIns := [], harness := (true, "2e07512fa62bbb439fcd7d2740c36fa0ac17024c88fee4a12293c599d87d725d"), looks := false }, kinds := [], alts := [], laidByText := true, laidKinds := [.data, .pinned], laidTests := true, laidLooks := .later }
def FnExactBuildTrieCardSaid : Prop := Claim7.holds Tryd.pinned (.plain (OpenSpec.ofChange fnExactBuildTrieSpec)) fnExactBuildTrieCard

/-- THE SECOND FORM's CARD OF 'laws.FnExactIsValidEntry'. -/
def fnExactIsValidEntryUptoCard : Claim7 := { stood := { row := fnExactIsValidEntryUptoRow, standIns := [], harness := (true, "2e07512fa62bbb439fcd7d2740c36fa0ac17024c88fee4a12293c599d87d725d"), looks := false }, kinds := [], alts := [], laidByText := true, laidKinds := [.data, .pinned], laidTests := true, laidLooks := .later }
def FnExactIsValidEntryUptoCardSaid : Prop := Claim7.holds Tryd.pinned (.plain (OpenSpec.upto fnExactIsValidEntrySpec)) fnExactIsValidEntryUptoCard

/-- THE SECOND FORM's CARD OF 'laws.FnExactIsValidDictionary'. -/
def fnExactIsValidDictionaryUptoCard : Claim7 := { stood := { row := fnExactIsValidDictionaryUptoRow, standIns := [], harness := (true, "2e07512fa62bbb439fcd7d2740c36fa0ac17024c88fee4a12293c599d87d725d"), looks := false }, kinds := [], alts := [], laidByText := true, laidKinds := [.data, .pinned], laidTests := true, laidLooks := .later }
def FnExactIsValidDictionaryUptoCardSaid : Prop := Claim7.holds Tryd.pinned (.plain (OpenSpec.upto fnExactIsValidDictionarySpec)) fnExactIsValidDictionaryUptoCard

/-- THE SECOND FORM's CARD OF 'laws.FnExactLongestOutline'. -/
def fnExactLongestOutlineUptoCard : Claim7 := { stood := { row := fnExactLongestOutlineUptoRow, standIns := [], harness := (true, "2e07512fa62bbb439fcd7d2740c36fa0ac17024c88fee4a12293c599d87d725d"), looks := false }, kinds := [], alts := [], laidByText := true, laidKinds := [.data, .pinned], laidTests := true, laidLooks := .later }
def FnExactLongestOutlineUptoCardSaid : Prop := Claim7.holds Tryd.pinned (.plain (OpenSpec.upto fnExactLongestOutlineSpec)) fnExactLongestOutlineUptoCard

/-- THE SECOND FORM's CARD OF 'laws.FnExactReverseLookup'. -/
def fnExactReverseLookupUptoCard : Claim7 := { stood := { row := fnExactReverseLookupUptoRow, standIns := [], harness := (true, "2e07512fa62bbb439fcd7d2740c36fa0ac17024c88fee4a12293c599d87d725d"), looks := false }, kinds := [], alts := [], laidByText := true, laidKinds := [.data, .pinned], laidTests := true, laidLooks := .later }
def FnExactReverseLookupUptoCardSaid : Prop := Claim7.holds Tryd.pinned (.plain (OpenSpec.upto fnExactReverseLookupSpec)) fnExactReverseLookupUptoCard

/-- THE SECOND FORM's CARD OF 'laws.FnExactFormatDictionary'. -/
def fnExactFormatDictionaryUptoCard : Claim7 := { stood := { row := fnExactFormatDictionaryUptoRow, standIns := [], harness := (true, "2e07512fa62bbb439fcd7d2740c36fa0ac17024c88fee4a12293c599d87d725d"), looks := false }, kinds := [], alts := [], laidByText := true, laidKinds := [.data, .pinned], laidTests := true, laidLooks := .later }
def FnExactFormatDictionaryUptoCardSaid : Prop := Claim7.holds Tryd.pinned (.plain (OpenSpec.upto fnExactFormatDictionarySpec)) fnExactFormatDictionaryUptoCard

/-- THE SECOND FORM's CARD OF 'laws.FnExactBuildTrie'. -/
def fnExactBuildTrieUptoCard : Claim7 := { stood := { row := fnExactBuildTrieUptoRow, standIns := [], harness := (true, "2e07512fa62bbb439fcd7d2740c36fa0ac17024c88fee4a12293c599d87d725d"), looks := false }, kinds := [], alts := [], laidByText := true, laidKinds := [.data, .pinned], laidTests := true, laidLooks := .later }
def FnExactBuildTrieUptoCardSaid : Prop := Claim7.holds Tryd.pinned (.plain (OpenSpec.upto fnExactBuildTrieSpec)) fnExactBuildTrieUptoCard
end Rows
end Go.Proofs.YtnpiljkchjdpfaaDoor
