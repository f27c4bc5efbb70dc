/-
  DERIVED. GIVEN WITH THE SEED: THE CARDS: each row of YtbdgahjfipdeoaaGreatDoorRows.lean that lists a variable, with what it lists TIED to the program's text (the seventh form; the later family's looks); each row that meets fmt, with fmt's text TOLD by the authors' own Lean function (tested against real Go, not proved from fmt's source: count such statements apart). THE CARD IS WHAT COUNTS. Prove the row's statement (the work); the ties are given (YtbdgahjfipdeoaaGreatDoorTie.lean); close each card by the builder's one call (the guide's Derived/Test/ToyasCard.lean, 'card_holds'). Laid BY PROGRAM, IN A SANDBOX (cutbox-door.mjs). By AI agents, Wed Nov 11 2026. No macro, syntax, notation, axiom, sorry.
-/
import Derived.Test.YtbdgahjfipdeoaaGreatDoorRows
import GoSem.ClaimSeven
namespace Go.Proofs.YtbdgahjfipdeoaaGreatDoor
namespace Rows

/-- THE TIED CARD OF 'laws.FnResponses'. -/
def fnResponsesCard : Claim7 := { stood := { row := fnResponsesRow, standIns := [], harness := (true, "5d5a4491156fd207bb638514b6a703e6a9e3bd44119a4386527a3c8f51f1dfed"), looks := true }, kinds := [], alts := [], laidByText := true, laidKinds := [.data, .data, .data, .data, .sentinel, .sentinel, .pinned], laidTests := true, laidLooks := .later }
def FnResponsesCardSaid : Prop := Claim7.holds Tryz.pinned (.plain (OpenSpec.ofChange fnResponsesSpec)) fnResponsesCard

/-- THE SECOND FORM's CARD OF 'laws.FnResponses'. -/
def fnResponsesUptoCard : Claim7 := { stood := { row := fnResponsesUptoRow, standIns := [], harness := (true, "5d5a4491156fd207bb638514b6a703e6a9e3bd44119a4386527a3c8f51f1dfed"), looks := true }, kinds := [], alts := [], laidByText := true, laidKinds := [.data, .data, .data, .data, .sentinel, .sentinel, .pinned], laidTests := true, laidLooks := .later }
def FnResponsesUptoCardSaid : Prop := Claim7.holds Tryz.pinned (.plain (OpenSpec.upto fnResponsesSpec)) fnResponsesUptoCard
end Rows
end Go.Proofs.YtbdgahjfipdeoaaGreatDoor
