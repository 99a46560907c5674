/-
  DERIVED. GIVEN WITH THE SEED: THE CARDS: each row of YtojlffnlenldiaaDoorRows.lean that lists a variable, with what it lists TIED to the program's text (the seventh form; the later family's looks); each row that meets fmt, with fmt's text TOLD by the authors' own Lean function (tested against real Go, not proved from fmt's source: count such statements apart). THE CARD IS WHAT COUNTS. Prove the row's statement (the work); the ties are given (YtojlffnlenldiaaDoorTie.lean); close each card by the builder's one call (the guide's Derived/Test/ToyasCard.lean, 'card_holds'). Laid BY PROGRAM, IN A SANDBOX (cutbox-door.mjs). By AI agents, Wed Nov 11 2026. No macro, syntax, notation, axiom, sorry.
-/
import Derived.Test.YtojlffnlenldiaaDoorRows
import GoSem.ClaimSeven
namespace Go.Proofs.YtojlffnlenldiaaDoor
namespace Rows

/-- THE TIED CARD OF 'laws.FnExactCallParse'. -/
def fnExactCallParseCard : Claim7 := { stood := { row := fnExactCallParseRow, standIns := [], harness := (true, "a9014b65e380e3e2c58c27d406ebda5e67d761925d8b54c138e57e02ecd00530"), looks := true }, kinds := [], alts := [], laidByText := true, laidKinds := [.data, .data, .data, .data, .sentinel, .sentinel, .widerDeep, .pinned], laidTests := true, laidLooks := .later }
def FnExactCallParseCardSaid : Prop := Claim7.holds Tryd.pinned (.plain (OpenSpec.ofChange fnExactCallParseSpec)) fnExactCallParseCard

/-- THE SECOND FORM's CARD OF 'laws.FnExactCallParse'. -/
def fnExactCallParseUptoCard : Claim7 := { stood := { row := fnExactCallParseUptoRow, standIns := [], harness := (true, "a9014b65e380e3e2c58c27d406ebda5e67d761925d8b54c138e57e02ecd00530"), looks := true }, kinds := [], alts := [], laidByText := true, laidKinds := [.data, .data, .data, .data, .sentinel, .sentinel, .widerDeep, .pinned], laidTests := true, laidLooks := .later }
def FnExactCallParseUptoCardSaid : Prop := Claim7.holds Tryd.pinned (.plain (OpenSpec.upto fnExactCallParseSpec)) fnExactCallParseUptoCard
end Rows
end Go.Proofs.YtojlffnlenldiaaDoor
