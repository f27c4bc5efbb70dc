/-
  DERIVED. GIVEN WITH THE SEED: THE CARDS: each row of YtmhmaokbicgmbaaGreatDoorRows.lean that lists a variable, with what it lists TIED to the program's text (the seventh form; the later family's looks); each row that meets fmt, with fmt's text TOLD by the authors' own Lean function (tested against real Go, not proved from fmt's source: count such statements apart). THE CARD IS WHAT COUNTS. Prove the row's statement (the work); the ties are given (YtmhmaokbicgmbaaGreatDoorTie.lean); close each card by the builder's one call (the guide's Derived/Test/ToyasCard.lean, 'card_holds'). Laid BY PROGRAM, IN A SANDBOX (cutbox-door.mjs). By AI agents, Wed Nov 11 2026. No macro, syntax, notation, axiom, sorry.
-/
import Derived.Test.YtmhmaokbicgmbaaGreatDoorRows
import GoSem.ClaimSeven
namespace Go.Proofs.YtmhmaokbicgmbaaGreatDoor
namespace Rows

/-- THE TIED CARD OF 'laws.FnExactRequestVars'. -/
def fnExactRequestVarsCard : Claim7 := { stood := { row := fnExactRequestVarsRow, standIns := [], harness := (true, "3052c692c9ae05a1cdb8b9ed7aa905fae15e62f739773538123f62ce53f8f95c"), looks := true }, kinds := [], alts := [], laidByText := true, laidKinds := [.data, .data, .data, .data, .sentinel, .sentinel, .pinned], laidTests := true, laidLooks := .later }
def FnExactRequestVarsCardSaid : Prop := Claim7.holds Tryz.pinned (.plain (OpenSpec.ofChange fnExactRequestVarsSpec)) fnExactRequestVarsCard

/-- THE TIED CARD OF 'laws.FnRequests'. -/
def fnRequestsCard : Claim7 := { stood := { row := fnRequestsRow, standIns := [], harness := (true, "3052c692c9ae05a1cdb8b9ed7aa905fae15e62f739773538123f62ce53f8f95c"), looks := true }, kinds := [], alts := [], laidByText := true, laidKinds := [.data, .data, .data, .data, .sentinel, .sentinel, .pinned], laidTests := true, laidLooks := .later }
def FnRequestsCardSaid : Prop := Claim7.holds Tryz.pinned (.plain (OpenSpec.ofChange fnRequestsSpec)) fnRequestsCard

/-- THE SECOND FORM's CARD OF 'laws.FnExactRequestVars'. -/
def fnExactRequestVarsUptoCard : Claim7 := { stood := { row := fnExactRequestVarsUptoRow, standIns := [], harness := (true, "3052c692c9ae05a1cdb8b9ed7aa905fae15e62f739773538123f62ce53f8f95c"), looks := true }, kinds := [], alts := [], laidByText := true, laidKinds := [.data, .data, .data, .data, .sentinel, .sentinel, .pinned], laidTests := true, laidLooks := .later }
def FnExactRequestVarsUptoCardSaid : Prop := Claim7.holds Tryz.pinned (.plain (OpenSpec.upto fnExactRequestVarsSpec)) fnExactRequestVarsUptoCard

/-- THE SECOND FORM's CARD OF 'laws.FnRequests'. -/
def fnRequestsUptoCard : Claim7 := { stood := { row := fnRequestsUptoRow, standIns := [], harness := (true, "3052c692c9ae05a1cdb8b9ed7aa905fae15e62f739773538123f62ce53f8f95c"), looks := true }, kinds := [], alts := [], laidByText := true, laidKinds := [.data, .data, .data, .data, .sentinel, .sentinel, .pinned], laidTests := true, laidLooks := .later }
def FnRequestsUptoCardSaid : Prop := Claim7.holds Tryz.pinned (.plain (OpenSpec.upto fnRequestsSpec)) fnRequestsUptoCard
end Rows
end Go.Proofs.YtmhmaokbicgmbaaGreatDoor
