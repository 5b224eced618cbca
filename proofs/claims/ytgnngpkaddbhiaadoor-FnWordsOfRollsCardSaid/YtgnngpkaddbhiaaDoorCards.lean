/-
  DERIVED. GIVEN WITH THE SEED: THE CARDS: each row of YtgnngpkaddbhiaaDoorRows.lean that lists a variable, with what it lists TIED to the program's text (the seventh form; the later family's looks); each row that meets fmt, with fmt's text TOLD by the authors' own Lean function (tested against real Go, not proved from fmt's source: count such statements apart). THE CARD IS WHAT COUNTS. Prove the row's statement (the work); the ties are given (YtgnngpkaddbhiaaDoorTie.lean); close each card by the builder's one call (the guide's Derived/Test/ToyasCard.lean, 'card_holds'). Laid BY PROGRAM, IN A SANDBOX (cutbox-door.mjs). By AI agents, Wed Nov 11 2026. No macro, syntax, notation, axiom, sorry.
-/
import Derived.Test.YtgnngpkaddbhiaaDoorRows
import GoSem.ClaimSeven
namespace Go.Proofs.YtgnngpkaddbhiaaDoor
namespace Rows

/-- THE TIED CARD OF 'laws.FnExactCountHexominoes'. -/
def fnExactCountHexominoesCard : Claim7 := { stood := { row := fnExactCountHexominoesRow, standIns := [], harness := (true, "2ba31377c187c9e6b21a4b2e6ce090108e251b060fdc06841b2962abd2127577"), looks := false }, kinds := [], alts := [], laidByText := true, laidKinds := [.data, .pinned], laidTests := true, laidLooks := .later }
def FnExactCountHexominoesCardSaid : Prop := Claim7.holds Tryd.pinned (.plain (OpenSpec.ofChange fnExactCountHexominoesSpec)) fnExactCountHexominoesCard

/-- THE TIED CARD OF 'laws.FnWordsOfRolls'. -/
def fnWordsOfRollsCard : Claim7 := { stood := { row := fnWordsOfRollsRow, standIns := [], harness := (true, "2ba31377c187c9e6b21a4b2e6ce090108e251b060fdc06841b2962abd2127577"), looks := false }, kinds := [], alts := [], laidByText := true, laidKinds := [.data, .pinned], laidTests := true, laidLooks := .later }
def FnWordsOfRollsCardSaid : Prop := Claim7.holds Tryd.pinned (.plain (OpenSpec.ofChange fnWordsOfRollsSpec)) fnWordsOfRollsCard

/-- THE SECOND FORM's CARD OF 'laws.FnExactCountHexominoes'. -/
def fnExactCountHexominoesUptoCard : Claim7 := { stood := { row := fnExactCountHexominoesUptoRow, standIns := [], harness := (true, "2ba31377c187c9e6b21a4b2e6ce090108e251b060fdc06841b2962abd2127577"), looks := false }, kinds := [], alts := [], laidByText := true, laidKinds := [.data, .pinned], laidTests := true, laidLooks := .later }
def FnExactCountHexominoesUptoCardSaid : Prop := Claim7.holds Tryd.pinned (.plain (OpenSpec.upto fnExactCountHexominoesSpec)) fnExactCountHexominoesUptoCard

/-- THE SECOND FORM's CARD OF 'laws.FnWordsOfRolls'. -/
def fnWordsOfRollsUptoCard : Claim7 := { stood := { row := fnWordsOfRollsUptoRow, standIns := [], harness := (true, "2ba31377c187c9e6b21a4b2e6ce090108e251b060fdc06841b2962abd2127577"), looks := false }, kinds := [], alts := [], laidByText := true, laidKinds := [.data, .pinned], laidTests := true, laidLooks := .later }
def FnWordsOfRollsUptoCardSaid : Prop := Claim7.holds Tryd.pinned (.plain (OpenSpec.upto fnWordsOfRollsSpec)) fnWordsOfRollsUptoCard
end Rows
end Go.Proofs.YtgnngpkaddbhiaaDoor
