/-
  DERIVED. GIVEN WITH THE SEED: THE CARDS: each row of YtnepcipicibmfaaDoorRows.lean that lists a variable, with what it lists TIED to the program's text (the seventh form; the later family's looks); each row that meets fmt, with fmt's text TOLD by the authors' own Lean function (tested against real Go, not proved from fmt's source: count such statements apart). THE CARD IS WHAT COUNTS. Prove the row's statement (the work); the ties are given (YtnepcipicibmfaaDoorTie.lean); close each card by the builder's one call (the guide's Derived/Test/ToyasCard.lean, 'card_holds'). Laid BY PROGRAM, IN A SANDBOX (cutbox-door.mjs). By AI agents, Wed Nov 11 2026. No macro, syntax, notation, axiom, sorry.
-/
import Derived.Test.YtnepcipicibmfaaDoorRows
import GoSem.ClaimSeven
namespace Go.Proofs.YtnepcipicibmfaaDoor
namespace Rows

/-- THE TIED CARD OF 'laws.FnExactParseOutline'. -/
def fnExactParseOutlineCard : Claim7 := { stood := { row := fnExactParseOutlineRow, standIns := [], harness := (true, "6ae0e8609852604af11bd70fba8fbc4162d06f9d8888bc2daec4eb114c451962"), looks := false }, kinds := [], alts := [], laidByText := true, laidKinds := [.data, .pinned], laidTests := true, laidLooks := .later }
def FnExactParseOutlineCardSaid : Prop := Claim7.holds Tryd.pinned (.plain (OpenSpec.ofChange fnExactParseOutlineSpec)) fnExactParseOutlineCard

/-- THE TIED CARD OF 'laws.FnOutlines'. -/
def fnOutlinesCard : Claim7 := { stood := { row := fnOutlinesRow, standIns := [], harness := (true, "6ae0e8609852604af11bd70fba8fbc4162d06f9d8888bc2daec4eb114c451962"), looks := false }, kinds := [], alts := [], laidByText := true, laidKinds := [.data, .pinned], laidTests := true, laidLooks := .later }
def FnOutlinesCardSaid : Prop := Claim7.holds Tryd.pinned (.plain (OpenSpec.ofChange fnOutlinesSpec)) fnOutlinesCard

/-- THE SECOND FORM's CARD OF 'laws.FnExactParseOutline'. -/
def fnExactParseOutlineUptoCard : Claim7 := { stood := { row := fnExactParseOutlineUptoRow, standIns := [], harness := (true, "6ae0e8609852604af11bd70fba8fbc4162d06f9d8888bc2daec4eb114c451962"), looks := false }, kinds := [], alts := [], laidByText := true, laidKinds := [.data, .pinned], laidTests := true, laidLooks := .later }
def FnExactParseOutlineUptoCardSaid : Prop := Claim7.holds Tryd.pinned (.plain (OpenSpec.upto fnExactParseOutlineSpec)) fnExactParseOutlineUptoCard

/-- THE SECOND FORM's CARD OF 'laws.FnOutlines'. -/
def fnOutlinesUptoCard : Claim7 := { stood := { row := fnOutlinesUptoRow, standIns := [], harness := (true, "6ae0e8609852604af11bd70fba8fbc4162d06f9d8888bc2daec4eb114c451962"), looks := false }, kinds := [], alts := [], laidByText := true, laidKinds := [.data, .pinned], laidTests := true, laidLooks := .later }
def FnOutlinesUptoCardSaid : Prop := Claim7.holds Tryd.pinned (.plain (OpenSpec.upto fnOutlinesSpec)) fnOutlinesUptoCard
end Rows
end Go.Proofs.YtnepcipicibmfaaDoor
