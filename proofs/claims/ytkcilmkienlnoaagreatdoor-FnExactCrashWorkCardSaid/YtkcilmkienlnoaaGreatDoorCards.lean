/-
  DERIVED. GIVEN WITH THE SEED: THE CARDS: each row of YtkcilmkienlnoaaGreatDoorRows.lean that lists a variable, with what it lists TIED to the program's text (the seventh form; the later family's looks); each row that meets fmt, with fmt's text TOLD by the authors' own Lean function (tested against real Go, not proved from fmt's source: count such statements apart). THE CARD IS WHAT COUNTS. Prove the row's statement (the work); the ties are given (YtkcilmkienlnoaaGreatDoorTie.lean); close each card by the builder's one call (the guide's Derived/Test/ToyasCard.lean, 'card_holds'). Laid BY PROGRAM, IN A SANDBOX (cutbox-door.mjs). By AI agents, Wed Nov 11 2026. No macro, syntax, notation, axiom, sorry.
-/
import Derived.Test.YtkcilmkienlnoaaGreatDoorRows
import GoSem.ClaimSeven
namespace Go.Proofs.YtkcilmkienlnoaaGreatDoor
namespace Rows

/-- THE TIED CARD OF 'laws.FnExactCrashWork'. -/
def fnExactCrashWorkCard : Claim7 := { stood := { row := fnExactCrashWorkRow, standIns := [], harness := (true, "d7733ab904820832c0eefca8798a50e8709943da30463d2fd16b29250ecd7818"), looks := false }, kinds := [], alts := [], laidByText := true, laidKinds := [.data, .pinned], laidTests := true, laidLooks := .later }
def FnExactCrashWorkCardSaid : Prop := Claim7.holds Tryz.pinned (.plain (OpenSpec.ofChange fnExactCrashWorkSpec)) fnExactCrashWorkCard

/-- THE SECOND FORM's CARD OF 'laws.FnExactCrashWork'. -/
def fnExactCrashWorkUptoCard : Claim7 := { stood := { row := fnExactCrashWorkUptoRow, standIns := [], harness := (true, "d7733ab904820832c0eefca8798a50e8709943da30463d2fd16b29250ecd7818"), looks := false }, kinds := [], alts := [], laidByText := true, laidKinds := [.data, .pinned], laidTests := true, laidLooks := .later }
def FnExactCrashWorkUptoCardSaid : Prop := Claim7.holds Tryz.pinned (.plain (OpenSpec.upto fnExactCrashWorkSpec)) fnExactCrashWorkUptoCard
end Rows
end Go.Proofs.YtkcilmkienlnoaaGreatDoor
