/-
  DERIVED. GIVEN WITH THE SEED: THE CARDS: each row of YtkgphkpckcfihaaDoorRows.lean that lists a variable, with what it lists TIED to the program's text (the seventh form; the later family's looks); each row that meets fmt, with fmt's text TOLD by the authors' own Lean function (tested against real Go, not proved from fmt's source: count such statements apart). THE CARD IS WHAT COUNTS. Prove the row's statement (the work); the ties are given (YtkgphkpckcfihaaDoorTie.lean); close each card by the builder's one call (the guide's Derived/Test/ToyasCard.lean, 'card_holds'). Laid BY PROGRAM, IN A SANDBOX (cutbox-door.mjs). By AI agents, Wed Nov 11 2026. No macro, syntax, notation, axiom, sorry.
-/
import Derived.Test.YtkgphkpckcfihaaDoorRows
import GoSem.ClaimSeven
namespace Go.Proofs.YtkgphkpckcfihaaDoor
namespace Rows

/-- THE TIED CARD OF 'laws.FnExactParseAtom'. -/
def fnExactParseAtomCard : Claim7 := { stood := { row := fnExactParseAtomRow, standIns := [], harness := (true, "91da1a8e3a63b542485f4cd5bb535309366029abbdcdcdbae8a69bb59975b67c"), looks := false }, kinds := [], alts := [], laidByText := true, laidKinds := [.data, .pinned], laidTests := true, laidLooks := .later }
def FnExactParseAtomCardSaid : Prop := Claim7.holds Tryd.pinned (.plain (OpenSpec.ofChange fnExactParseAtomSpec)) fnExactParseAtomCard

/-- THE TIED CARD OF 'laws.FnAtoms'. -/
def fnAtomsCard : Claim7 := { stood := { row := fnAtomsRow, standIns := [], harness := (true, "91da1a8e3a63b542485f4cd5bb535309366029abbdcdcdbae8a69bb59975b67c"), looks := false }, kinds := [], alts := [], laidByText := true, laidKinds := [.data, .pinned], laidTests := true, laidLooks := .later }
def FnAtomsCardSaid : Prop := Claim7.holds Tryd.pinned (.plain (OpenSpec.ofChange fnAtomsSpec)) fnAtomsCard

/-- THE TIED CARD OF 'laws.FnExactParseTranslation'. -/
def fnExactParseTranslationCard : Claim7 := { stood := { row := fnExactParseTranslationRow, standIns := [], harness := (true, "91da1a8e3a63b542485f4cd5bb535309366029abbdcdcdbae8a69bb59975b67c"), looks := false }, kinds := [], alts := [], laidByText := true, laidKinds := [.data, .pinned], laidTests := true, laidLooks := .later }
def FnExactParseTranslationCardSaid : Prop := Claim7.holds Tryd.pinned (.plain (OpenSpec.ofChange fnExactParseTranslationSpec)) fnExactParseTranslationCard

/-- THE TIED CARD OF 'laws.FnTranslations'. -/
def fnTranslationsCard : Claim7 := { stood := { row := fnTranslationsRow, standIns := [], harness := (true, "91da1a8e3a63b542485f4cd5bb535309366029abbdcdcdbae8a69bb59975b67c"), looks := false }, kinds := [], alts := [], laidByText := true, laidKinds := [.data, .pinned], laidTests := true, laidLooks := .later }
def FnTranslationsCardSaid : Prop := Claim7.holds Tryd.pinned (.plain (OpenSpec.ofChange fnTranslationsSpec)) fnTranslationsCard

/-- THE SECOND FORM's CARD OF 'laws.FnExactParseAtom'. -/
def fnExactParseAtomUptoCard : Claim7 := { stood := { row := fnExactParseAtomUptoRow, standIns := [], harness := (true, "91da1a8e3a63b542485f4cd5bb535309366029abbdcdcdbae8a69bb59975b67c"), looks := false }, kinds := [], alts := [], laidByText := true, laidKinds := [.data, .pinned], laidTests := true, laidLooks := .later }
def FnExactParseAtomUptoCardSaid : Prop := Claim7.holds Tryd.pinned (.plain (OpenSpec.upto fnExactParseAtomSpec)) fnExactParseAtomUptoCard

/-- THE SECOND FORM's CARD OF 'laws.FnAtoms'. -/
def fnAtomsUptoCard : Claim7 := { stood := { row := fnAtomsUptoRow, standIns := [], harness := (true, "91da1a8e3a63b542485f4cd5bb535309366029abbdcdcdbae8a69bb59975b67c"), looks := false }, kinds := [], alts := [], laidByText := true, laidKinds := [.data, .pinned], laidTests := true, laidLooks := .later }
def FnAtomsUptoCardSaid : Prop := Claim7.holds Tryd.pinned (.plain (OpenSpec.upto fnAtomsSpec)) fnAtomsUptoCard

/-- THE SECOND FORM's CARD OF 'laws.FnExactParseTranslation'. -/
def fnExactParseTranslationUptoCard : Claim7 := { stood := { row := fnExactParseTranslationUptoRow, standIns := [], harness := (true, "91da1a8e3a63b542485f4cd5bb535309366029abbdcdcdbae8a69bb59975b67c"), looks := false }, kinds := [], alts := [], laidByText := true, laidKinds := [.data, .pinned], laidTests := true, laidLooks := .later }
def FnExactParseTranslationUptoCardSaid : Prop := Claim7.holds Tryd.pinned (.plain (OpenSpec.upto fnExactParseTranslationSpec)) fnExactParseTranslationUptoCard

/-- THE SECOND FORM's CARD OF 'laws.FnTranslations'. -/
def fnTranslationsUptoCard : Claim7 := { stood := { row := fnTranslationsUptoRow, standIns := [], harness := (true, "91da1a8e3a63b542485f4cd5bb535309366029abbdcdcdbae8a69bb59975b67c"), looks := false }, kinds := [], alts := [], laidByText := true, laidKinds := [.data, .pinned], laidTests := true, laidLooks := .later }
def FnTranslationsUptoCardSaid : Prop := Claim7.holds Tryd.pinned (.plain (OpenSpec.upto fnTranslationsSpec)) fnTranslationsUptoCard
end Rows
end Go.Proofs.YtkgphkpckcfihaaDoor
