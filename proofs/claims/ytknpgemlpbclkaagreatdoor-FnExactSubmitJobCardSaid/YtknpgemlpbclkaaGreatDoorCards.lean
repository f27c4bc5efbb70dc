/-
  DERIVED. GIVEN WITH THE SEED: THE CARDS: each row of YtknpgemlpbclkaaGreatDoorRows.lean that lists a variable, with what it lists TIED to the program's text (the seventh form; the later family's looks); each row that meets fmt, with fmt's text TOLD by the authors' own Lean function (tested against real Go, not proved from fmt's source: count such statements apart). THE CARD IS WHAT COUNTS. Prove the row's statement (the work); the ties are given (YtknpgemlpbclkaaGreatDoorTie.lean); close each card by the builder's one call (the guide's Derived/Test/ToyasCard.lean, 'card_holds'). Laid BY PROGRAM, IN A SANDBOX (cutbox-door.mjs). By AI agents, Wed Nov 11 2026. No macro, syntax, notation, axiom, sorry.
-/
import Derived.Test.YtknpgemlpbclkaaGreatDoorRows
import GoSem.ClaimSeven
namespace Go.Proofs.YtknpgemlpbclkaaGreatDoor
namespace Rows

/-- THE TIED CARD OF 'laws.FnExactIsServer'. -/
def fnExactIsServerCard : Claim7 := { stood := { row := fnExactIsServerRow, standIns := [], harness := (true, "c9f94ab561e34120c089aab448dc304a812bc3067061be2d94994cf48947320e"), looks := false }, kinds := [], alts := [], laidByText := true, laidKinds := [.data, .pinned], laidTests := true, laidLooks := .later }
def FnExactIsServerCardSaid : Prop := Claim7.holds Tryz.pinned (.plain (OpenSpec.ofChange fnExactIsServerSpec)) fnExactIsServerCard

/-- THE TIED CARD OF 'laws.FnExactSubmitJob'. -/
def fnExactSubmitJobCard : Claim7 := { stood := { row := fnExactSubmitJobRow, standIns := [], harness := (true, "c9f94ab561e34120c089aab448dc304a812bc3067061be2d94994cf48947320e"), looks := false }, kinds := [], alts := [], laidByText := true, laidKinds := [.data, .pinned], laidTests := true, laidLooks := .later }
def FnExactSubmitJobCardSaid : Prop := Claim7.holds Tryz.pinned (.plain (OpenSpec.ofChange fnExactSubmitJobSpec)) fnExactSubmitJobCard

/-- THE TIED CARD OF 'laws.FnExactCrashWork'. -/
def fnExactCrashWorkCard : Claim7 := { stood := { row := fnExactCrashWorkRow, standIns := [], harness := (true, "c9f94ab561e34120c089aab448dc304a812bc3067061be2d94994cf48947320e"), looks := false }, kinds := [], alts := [], laidByText := true, laidKinds := [.data, .pinned], laidTests := true, laidLooks := .later }
def FnExactCrashWorkCardSaid : Prop := Claim7.holds Tryz.pinned (.plain (OpenSpec.ofChange fnExactCrashWorkSpec)) fnExactCrashWorkCard

/-- THE SECOND FORM's CARD OF 'laws.FnExactIsServer'. -/
def fnExactIsServerUptoCard : Claim7 := { stood := { row := fnExactIsServerUptoRow, standIns := [], harness := (true, "c9f94ab561e34120c089aab448dc304a812bc3067061be2d94994cf48947320e"), looks := false }, kinds := [], alts := [], laidByText := true, laidKinds := [.data, .pinned], laidTests := true, laidLooks := .later }
def FnExactIsServerUptoCardSaid : Prop := Claim7.holds Tryz.pinned (.plain (OpenSpec.upto fnExactIsServerSpec)) fnExactIsServerUptoCard

/-- THE SECOND FORM's CARD OF 'laws.FnExactSubmitJob'. -/
def fnExactSubmitJobUptoCard : Claim7 := { stood := { row := fnExactSubmitJobUptoRow, standIns := [], harness := (true, "c9f94ab561e34120c089aab448dc304a812bc3067061be2d94994cf48947320e"), looks := false }, kinds := [], alts := [], laidByText := true, laidKinds := [.data, .pinned], laidTests := true, laidLooks := .later }
def FnExactSubmitJobUptoCardSaid : Prop := Claim7.holds Tryz.pinned (.plain (OpenSpec.upto fnExactSubmitJobSpec)) fnExactSubmitJobUptoCard

/-- THE SECOND FORM's CARD OF 'laws.FnExactCrashWork'. -/
def fnExactCrashWorkUptoCard : Claim7 := { stood := { row := fnExactCrashWorkUptoRow, standIns := [], harness := (true, "c9f94ab561e34120c089aab448dc304a812bc3067061be2d94994cf48947320e"), looks := false }, kinds := [], alts := [], laidByText := true, laidKinds := [.data, .pinned], laidTests := true, laidLooks := .later }
def FnExactCrashWorkUptoCardSaid : Prop := Claim7.holds Tryz.pinned (.plain (OpenSpec.upto fnExactCrashWorkSpec)) fnExactCrashWorkUptoCard
end Rows
end Go.Proofs.YtknpgemlpbclkaaGreatDoor
