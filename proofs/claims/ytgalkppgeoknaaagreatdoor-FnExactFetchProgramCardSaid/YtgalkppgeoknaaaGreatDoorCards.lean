/-
  DERIVED. GIVEN WITH THE SEED: THE CARDS: each row of YtgalkppgeoknaaaGreatDoorRows.lean that lists a variable, with what it lists TIED to the program's text (the seventh form; the later family's looks); each row that meets fmt, with fmt's text TOLD by the authors' own Lean function (tested against real Go, not proved from fmt's source: count such statements apart). THE CARD IS WHAT COUNTS. Prove the row's statement (the work); the ties are given (YtgalkppgeoknaaaGreatDoorTie.lean); close each card by the builder's one call (the guide's Derived/Test/ToyasCard.lean, 'card_holds'). Laid BY PROGRAM, IN A SANDBOX (cutbox-door.mjs). By AI agents, Wed Nov 11 2026. No macro, syntax, notation, axiom, sorry.
-/
import Derived.Test.YtgalkppgeoknaaaGreatDoorRows
import GoSem.ClaimSeven
namespace Go.Proofs.YtgalkppgeoknaaaGreatDoor
namespace Rows

/-- THE TIED CARD OF 'laws.FnExactPublishProgram'. -/
def fnExactPublishProgramCard : Claim7 := { stood := { row := fnExactPublishProgramRow, standIns := [], harness := (true, "e1b47befa3b4b8c5ca0ea450dea76d1912675c7f31a76215ce5011452d24c4bc"), looks := true }, kinds := [], alts := [], laidByText := true, laidKinds := [.data, .data, .data, .sentinel, .sentinel], laidTests := true, laidLooks := .later }
def FnExactPublishProgramCardSaid : Prop := Claim7.holds Tryz.pinned (.plain (OpenSpec.ofChange fnExactPublishProgramSpec)) fnExactPublishProgramCard

/-- THE TIED CARD OF 'laws.FnExactFetchProgram'. -/
def fnExactFetchProgramCard : Claim7 := { stood := { row := fnExactFetchProgramRow, standIns := [], harness := (true, "e1b47befa3b4b8c5ca0ea450dea76d1912675c7f31a76215ce5011452d24c4bc"), looks := true }, kinds := [], alts := [], laidByText := true, laidKinds := [.data, .data, .data, .sentinel, .sentinel], laidTests := true, laidLooks := .later }
def FnExactFetchProgramCardSaid : Prop := Claim7.holds Tryz.pinned (.plain (OpenSpec.ofChange fnExactFetchProgramSpec)) fnExactFetchProgramCard

/-- THE SECOND FORM's CARD OF 'laws.FnExactPublishProgram'. -/
def fnExactPublishProgramUptoCard : Claim7 := { stood := { row := fnExactPublishProgramUptoRow, standIns := [], harness := (true, "e1b47befa3b4b8c5ca0ea450dea76d1912675c7f31a76215ce5011452d24c4bc"), looks := true }, kinds := [], alts := [], laidByText := true, laidKinds := [.data, .data, .data, .sentinel, .sentinel], laidTests := true, laidLooks := .later }
def FnExactPublishProgramUptoCardSaid : Prop := Claim7.holds Tryz.pinned (.plain (OpenSpec.upto fnExactPublishProgramSpec)) fnExactPublishProgramUptoCard

/-- THE SECOND FORM's CARD OF 'laws.FnExactFetchProgram'. -/
def fnExactFetchProgramUptoCard : Claim7 := { stood := { row := fnExactFetchProgramUptoRow, standIns := [], harness := (true, "e1b47befa3b4b8c5ca0ea450dea76d1912675c7f31a76215ce5011452d24c4bc"), looks := true }, kinds := [], alts := [], laidByText := true, laidKinds := [.data, .data, .data, .sentinel, .sentinel], laidTests := true, laidLooks := .later }
def FnExactFetchProgramUptoCardSaid : Prop := Claim7.holds Tryz.pinned (.plain (OpenSpec.upto fnExactFetchProgramSpec)) fnExactFetchProgramUptoCard
end Rows
end Go.Proofs.YtgalkppgeoknaaaGreatDoor
