/-
  DERIVED. GIVEN WITH THE SEED: THE CARDS: each row of YtfcimcoanlgldaaDoorRows.lean that lists a variable, with what it lists TIED to the program's text (the seventh form; the later family's looks); each row that meets fmt, with fmt's text TOLD by the authors' own Lean function (tested against real Go, not proved from fmt's source: count such statements apart). THE CARD IS WHAT COUNTS. Prove the row's statement (the work); the ties are given (YtfcimcoanlgldaaDoorTie.lean); close each card by the builder's one call (the guide's Derived/Test/ToyasCard.lean, 'card_holds'). Laid BY PROGRAM, IN A SANDBOX (cutbox-door.mjs). By AI agents, Wed Nov 11 2026. No macro, syntax, notation, axiom, sorry.
-/
import Derived.Test.YtfcimcoanlgldaaDoorRows
import GoSem.ClaimSeven
namespace Go.Proofs.YtfcimcoanlgldaaDoor
namespace Rows

/-- THE TIED CARD OF 'laws.FnExactParseCookies'. -/
def fnExactParseCookiesCard : Claim7 := { stood := { row := fnExactParseCookiesRow, standIns := [], harness := (true, "2cb6cac27b9a77bf08fd44a4234f4a850919c20f4a819349723dfe6c40e77754"), looks := true }, kinds := [], alts := [], laidByText := true, laidKinds := [.data, .pinned], laidTests := true, laidLooks := .later }
def FnExactParseCookiesCardSaid : Prop := Claim7.holds Tryd.pinned (.plain (OpenSpec.ofChange fnExactParseCookiesSpec)) fnExactParseCookiesCard

/-- THE TIED CARD OF 'laws.FnExactParseQuery'. -/
def fnExactParseQueryCard : Claim7 := { stood := { row := fnExactParseQueryRow, standIns := [], harness := (true, "2cb6cac27b9a77bf08fd44a4234f4a850919c20f4a819349723dfe6c40e77754"), looks := true }, kinds := [], alts := [], laidByText := true, laidKinds := [.data, .pinned], laidTests := true, laidLooks := .later }
def FnExactParseQueryCardSaid : Prop := Claim7.holds Tryd.pinned (.plain (OpenSpec.ofChange fnExactParseQuerySpec)) fnExactParseQueryCard

/-- THE TIED CARD OF 'laws.FnExactFormatResponse'. -/
def fnExactFormatResponseCard : Claim7 := { stood := { row := fnExactFormatResponseRow, standIns := [], harness := (true, "2cb6cac27b9a77bf08fd44a4234f4a850919c20f4a819349723dfe6c40e77754"), looks := true }, kinds := [], alts := [], laidByText := true, laidKinds := [.data, .data, .data], laidTests := true, laidLooks := .later }
def FnExactFormatResponseCardSaid : Prop := Claim7.holds Tryd.pinned (.plain (OpenSpec.ofChange fnExactFormatResponseSpec)) fnExactFormatResponseCard

/-- THE TIED CARD OF 'laws.FnExactSiteStamp'. -/
def fnExactSiteStampCard : Claim7 := { stood := { row := fnExactSiteStampRow, standIns := [], harness := (true, "2cb6cac27b9a77bf08fd44a4234f4a850919c20f4a819349723dfe6c40e77754"), looks := true }, kinds := [], alts := [], laidByText := true, laidKinds := [.data, .pinned], laidTests := true, laidLooks := .later }
def FnExactSiteStampCardSaid : Prop := Claim7.holds Tryd.pinned (.plain (OpenSpec.ofChange fnExactSiteStampSpec)) fnExactSiteStampCard

/-- THE TIED CARD OF 'laws.FnExactIsRequest'. -/
def fnExactIsRequestCard : Claim7 := { stood := { row := fnExactIsRequestRow, standIns := [], harness := (true, "2cb6cac27b9a77bf08fd44a4234f4a850919c20f4a819349723dfe6c40e77754"), looks := true }, kinds := [], alts := [], laidByText := true, laidKinds := [.data, .pinned], laidTests := true, laidLooks := .later }
def FnExactIsRequestCardSaid : Prop := Claim7.holds Tryd.pinned (.plain (OpenSpec.ofChange fnExactIsRequestSpec)) fnExactIsRequestCard

/-- THE TIED CARD OF 'laws.FnExactFormatRequest'. -/
def fnExactFormatRequestCard : Claim7 := { stood := { row := fnExactFormatRequestRow, standIns := [], harness := (true, "2cb6cac27b9a77bf08fd44a4234f4a850919c20f4a819349723dfe6c40e77754"), looks := true }, kinds := [], alts := [], laidByText := true, laidKinds := [.data, .pinned], laidTests := true, laidLooks := .later }
def FnExactFormatRequestCardSaid : Prop := Claim7.holds Tryd.pinned (.plain (OpenSpec.ofChange fnExactFormatRequestSpec)) fnExactFormatRequestCard

/-- THE TIED CARD OF 'laws.FnExactParseRequest'. -/
def fnExactParseRequestCard : Claim7 := { stood := { row := fnExactParseRequestRow, standIns := [], harness := (true, "2cb6cac27b9a77bf08fd44a4234f4a850919c20f4a819349723dfe6c40e77754"), looks := true }, kinds := [], alts := [], laidByText := true, laidKinds := [.data, .pinned], laidTests := true, laidLooks := .later }
def FnExactParseRequestCardSaid : Prop := Claim7.holds Tryd.pinned (.plain (OpenSpec.ofChange fnExactParseRequestSpec)) fnExactParseRequestCard

/-- THE TIED CARD OF 'laws.FnExactParseResponse'. -/
def fnExactParseResponseCard : Claim7 := { stood := { row := fnExactParseResponseRow, standIns := [], harness := (true, "2cb6cac27b9a77bf08fd44a4234f4a850919c20f4a819349723dfe6c40e77754"), looks := true }, kinds := [], alts := [], laidByText := true, laidKinds := [.data, .data, .data, .data, .sentinel, .sentinel, .pinned], laidTests := true, laidLooks := .later }
def FnExactParseResponseCardSaid : Prop := Claim7.holds Tryd.pinned (.plain (OpenSpec.ofChange fnExactParseResponseSpec)) fnExactParseResponseCard

/-- THE TIED CARD OF 'laws.FnExactNewServer'. -/
def fnExactNewServerCard : Claim7 := { stood := { row := fnExactNewServerRow, standIns := [], harness := (true, "2cb6cac27b9a77bf08fd44a4234f4a850919c20f4a819349723dfe6c40e77754"), looks := true }, kinds := [], alts := [], laidByText := true, laidKinds := [.data, .pinned], laidTests := true, laidLooks := .later }
def FnExactNewServerCardSaid : Prop := Claim7.holds Tryd.pinned (.plain (OpenSpec.ofChange fnExactNewServerSpec)) fnExactNewServerCard

/-- THE SECOND FORM's CARD OF 'laws.FnExactParseCookies'. -/
def fnExactParseCookiesUptoCard : Claim7 := { stood := { row := fnExactParseCookiesUptoRow, standIns := [], harness := (true, "2cb6cac27b9a77bf08fd44a4234f4a850919c20f4a819349723dfe6c40e77754"), looks := true }, kinds := [], alts := [], laidByText := true, laidKinds := [.data, .pinned], laidTests := true, laidLooks := .later }
def FnExactParseCookiesUptoCardSaid : Prop := Claim7.holds Tryd.pinned (.plain (OpenSpec.upto fnExactParseCookiesSpec)) fnExactParseCookiesUptoCard

/-- THE SECOND FORM's CARD OF 'laws.FnExactParseQuery'. -/
def fnExactParseQueryUptoCard : Claim7 := { stood := { row := fnExactParseQueryUptoRow, standIns := [], harness := (true, "2cb6cac27b9a77bf08fd44a4234f4a850919c20f4a819349723dfe6c40e77754"), looks := true }, kinds := [], alts := [], laidByText := true, laidKinds := [.data, .pinned], laidTests := true, laidLooks := .later }
def FnExactParseQueryUptoCardSaid : Prop := Claim7.holds Tryd.pinned (.plain (OpenSpec.upto fnExactParseQuerySpec)) fnExactParseQueryUptoCard

/-- THE SECOND FORM's CARD OF 'laws.FnExactFormatResponse'. -/
def fnExactFormatResponseUptoCard : Claim7 := { stood := { row := fnExactFormatResponseUptoRow, standIns := [], harness := (true, "2cb6cac27b9a77bf08fd44a4234f4a850919c20f4a819349723dfe6c40e77754"), looks := true }, kinds := [], alts := [], laidByText := true, laidKinds := [.data, .data, .data], laidTests := true, laidLooks := .later }
def FnExactFormatResponseUptoCardSaid : Prop := Claim7.holds Tryd.pinned (.plain (OpenSpec.upto fnExactFormatResponseSpec)) fnExactFormatResponseUptoCard

/-- THE SECOND FORM's CARD OF 'laws.FnExactSiteStamp'. -/
def fnExactSiteStampUptoCard : Claim7 := { stood := { row := fnExactSiteStampUptoRow, standIns := [], harness := (true, "2cb6cac27b9a77bf08fd44a4234f4a850919c20f4a819349723dfe6c40e77754"), looks := true }, kinds := [], alts := [], laidByText := true, laidKinds := [.data, .pinned], laidTests := true, laidLooks := .later }
def FnExactSiteStampUptoCardSaid : Prop := Claim7.holds Tryd.pinned (.plain (OpenSpec.upto fnExactSiteStampSpec)) fnExactSiteStampUptoCard

/-- THE SECOND FORM's CARD OF 'laws.FnExactIsRequest'. -/
def fnExactIsRequestUptoCard : Claim7 := { stood := { row := fnExactIsRequestUptoRow, standIns := [], harness := (true, "2cb6cac27b9a77bf08fd44a4234f4a850919c20f4a819349723dfe6c40e77754"), looks := true }, kinds := [], alts := [], laidByText := true, laidKinds := [.data, .pinned], laidTests := true, laidLooks := .later }
def FnExactIsRequestUptoCardSaid : Prop := Claim7.holds Tryd.pinned (.plain (OpenSpec.upto fnExactIsRequestSpec)) fnExactIsRequestUptoCard

/-- THE SECOND FORM's CARD OF 'laws.FnExactFormatRequest'. -/
def fnExactFormatRequestUptoCard : Claim7 := { stood := { row := fnExactFormatRequestUptoRow, standIns := [], harness := (true, "2cb6cac27b9a77bf08fd44a4234f4a850919c20f4a819349723dfe6c40e77754"), looks := true }, kinds := [], alts := [], laidByText := true, laidKinds := [.data, .pinned], laidTests := true, laidLooks := .later }
def FnExactFormatRequestUptoCardSaid : Prop := Claim7.holds Tryd.pinned (.plain (OpenSpec.upto fnExactFormatRequestSpec)) fnExactFormatRequestUptoCard

/-- THE SECOND FORM's CARD OF 'laws.FnExactParseRequest'. -/
def fnExactParseRequestUptoCard : Claim7 := { stood := { row := fnExactParseRequestUptoRow, standIns := [], harness := (true, "2cb6cac27b9a77bf08fd44a4234f4a850919c20f4a819349723dfe6c40e77754"), looks := true }, kinds := [], alts := [], laidByText := true, laidKinds := [.data, .pinned], laidTests := true, laidLooks := .later }
def FnExactParseRequestUptoCardSaid : Prop := Claim7.holds Tryd.pinned (.plain (OpenSpec.upto fnExactParseRequestSpec)) fnExactParseRequestUptoCard

/-- THE SECOND FORM's CARD OF 'laws.FnExactParseResponse'. -/
def fnExactParseResponseUptoCard : Claim7 := { stood := { row := fnExactParseResponseUptoRow, standIns := [], harness := (true, "2cb6cac27b9a77bf08fd44a4234f4a850919c20f4a819349723dfe6c40e77754"), looks := true }, kinds := [], alts := [], laidByText := true, laidKinds := [.data, .data, .data, .data, .sentinel, .sentinel, .pinned], laidTests := true, laidLooks := .later }
def FnExactParseResponseUptoCardSaid : Prop := Claim7.holds Tryd.pinned (.plain (OpenSpec.upto fnExactParseResponseSpec)) fnExactParseResponseUptoCard

/-- THE SECOND FORM's CARD OF 'laws.FnExactNewServer'. -/
def fnExactNewServerUptoCard : Claim7 := { stood := { row := fnExactNewServerUptoRow, standIns := [], harness := (true, "2cb6cac27b9a77bf08fd44a4234f4a850919c20f4a819349723dfe6c40e77754"), looks := true }, kinds := [], alts := [], laidByText := true, laidKinds := [.data, .pinned], laidTests := true, laidLooks := .later }
def FnExactNewServerUptoCardSaid : Prop := Claim7.holds Tryd.pinned (.plain (OpenSpec.upto fnExactNewServerSpec)) fnExactNewServerUptoCard
end Rows
end Go.Proofs.YtfcimcoanlgldaaDoor
