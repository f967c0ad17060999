/-
  DERIVED. GIVEN WITH THE SEED: THE CARDS: each row of YtnpiljkchjdpfaaGreatDoorRows.lean that lists a variable, with what it lists TIED to the program's text (the seventh form; the later family's looks); each row that meets fmt, with fmt's text TOLD by the authors' own Lean function (tested against real Go, not proved from fmt's source: count such statements apart). THE CARD IS WHAT COUNTS. Prove the row's statement (the work); the ties are given (YtnpiljkchjdpfaaGreatDoorTie.lean); close each card by the builder's one call (the guide's Derived/Test/ToyasCard.lean, 'card_holds'). Laid BY PROGRAM, IN A SANDBOX (cutbox-door.mjs). By AI agents, Wed Nov 11 2026. No macro, syntax, notation, axiom, sorry.
-/
import Derived.Test.YtnpiljkchjdpfaaGreatDoorRows
import GoSem.ClaimSeven
namespace Go.Proofs.YtnpiljkchjdpfaaGreatDoor
namespace Rows

/-- THE TIED CARD OF 'laws.FnExactParseDictionary'. -/
def fnExactParseDictionaryCard : Claim7 := { stood := { row := fnExactParseDictionaryRow, standIns := [], harness := (true, "0800dda935e01128f8e4cb1f42dd594a067d8ab4452ccda58956250721a0a7a9"), looks := false }, kinds := [], alts := [], laidByText := true, laidKinds := [.data, .pinned], laidTests := true, laidLooks := .later }
def FnExactParseDictionaryCardSaid : Prop := Claim7.holds Tryz.pinned (.plain (OpenSpec.ofChange fnExactParseDictionarySpec)) fnExactParseDictionaryCard

/-- THE TIED CARD OF 'laws.FnDictionaryText'. -/
def fnDictionaryTextCard : Claim7 := { stood := { row := fnDictionaryTextRow, standIns := [], harness := (true, "0800dda935e01128f8e4cb1f42dd594a067d8ab4452ccda58956250721a0a7a9"), looks := false }, kinds := [], alts := [], laidByText := true, laidKinds := [.data, .pinned], laidTests := true, laidLooks := .later }
def FnDictionaryTextCardSaid : Prop := Claim7.holds Tryz.pinned (.plain (OpenSpec.ofChange fnDictionaryTextSpec)) fnDictionaryTextCard

/-- THE SECOND FORM's CARD OF 'laws.FnExactParseDictionary'. -/
def fnExactParseDictionaryUptoCard : Claim7 := { stood := { row := fnExactParseDictionaryUptoRow, standIns := [], harness := (true, "0800dda935e01128f8e4cb1f42dd594a067d8ab4452ccda58956250721a0a7a9"), looks := false }, kinds := [], alts := [], laidByText := true, laidKinds := [.data, .pinned], laidTests := true, laidLooks := .later }
def FnExactParseDictionaryUptoCardSaid : Prop := Claim7.holds Tryz.pinned (.plain (OpenSpec.upto fnExactParseDictionarySpec)) fnExactParseDictionaryUptoCard

/-- THE SECOND FORM's CARD OF 'laws.FnDictionaryText'. -/
def fnDictionaryTextUptoCard : Claim7 := { stood := { row := fnDictionaryTextUptoRow, standIns := [], harness := (true, "0800dda935e01128f8e4cb1f42dd594a067d8ab4452ccda58956250721a0a7a9"), looks := false }, kinds := [], alts := [], laidByText := true, laidKinds := [.data, .pinned], laidTests := true, laidLooks := .later }
def FnDictionaryTextUptoCardSaid : Prop := Claim7.holds Tryz.pinned (.plain (OpenSpec.upto fnDictionaryTextSpec)) fnDictionaryTextUptoCard
end Rows
end Go.Proofs.YtnpiljkchjdpfaaGreatDoor
