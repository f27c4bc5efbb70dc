/-
  No cell of these rows narrows 'for every input' (looked for: loops, veiled, ifaces, maps, wideKeys, modest, calm, conditions, laid).
  DERIVED. THE GIVEN ROWS OF THIS SEAT. 16 by the template 'for every input the law returns true; each argument reads behind the call as it read before'; 0 by the template 'total and deterministic' (their statements: YtgiiipbpadgcgaaTotals.lean).
  GIVEN WITH THE SEED: the statements are not yours to turn. If you find one false, say at which input.
  Laid BY PROGRAM, IN A SANDBOX (cutbox-rows.mjs): the forced cells as the released guide's own fill.sh prints them over the translation eeb4cafdbf7265d6… (all of the seat's roots in one cut). By AI agents, Wed Nov 11 2026. No macro, syntax, notation, axiom, sorry.
-/
import Derived.Test.YtgiiipbpadgcgaaChecked
import GoSem.Claim
import GoSem.ClaimJoined
import GoSem.ClaimMapViews
import Derived.JoinedTies
import Derived.KernelRfl
namespace Go.Proofs.Ytgiiipbpadgcgaa
/- THE CELL 'sum', in the pinned program and in every row, IS THE sha256 OF THE DUMP (.gsa) THAT YtgiiipbpadgcgaaProg.lean LOADS. Nothing in Lean hashes anything: it is a label: what it is worth is what the hold of that sum in a sandbox is worth. -/
noncomputable def Try.pinned : Pinned := { name := "ytgiiipbpadgcgaa", sum := "eeb4cafdbf7265d68241d2b399cfecb4ca50019ca63710a7fa8c99ee275bfa76", checked := Try.checked }
namespace Rows
def none {H : Type} : Left H := { results := [], args := [] }

/-- 'laws.FnExactAreSessions': WHATEVER THE INPUT: true; the input reads as it did. -/
def fnExactAreSessionsSpec : ChangeSpec := { name := "fnExactAreSessions", fn := fun _ => fun
  | [d] => { results := [.lit (.bool true)], args := [d] }
  | _ => none }
def fnExactAreSessionsRow : OpenClaim := { program := "ytgiiipbpadgcgaa", sum := "eeb4cafdbf7265d68241d2b399cfecb4ca50019ca63710a7fa8c99ee275bfa76", func := "loop.example/g03011/laws.FnExactAreSessions", spec := "fnExactAreSessions", apart := false }
def FnExactAreSessionsSaid : Prop := fnExactAreSessionsRow.holds Try.pinned (OpenSpec.ofChange fnExactAreSessionsSpec)

/-- ITS FALSE NEIGHBOUR: 'it returns false'. Refute it at one input. -/
def fnExactAreSessionsWrong : ChangeSpec := { name := "fnExactAreSessions", fn := fun _ => fun
  | [d] => { results := [.lit (.bool false)], args := [d] }
  | _ => none }
def FnExactAreSessionsWrongFalsely : Prop := fnExactAreSessionsRow.holds Try.pinned (OpenSpec.ofChange fnExactAreSessionsWrong)

/-- 'laws.FnExactDropHolds': WHATEVER THE INPUT: true; the input reads as it did. -/
def fnExactDropHoldsSpec : ChangeSpec := { name := "fnExactDropHolds", fn := fun _ => fun
  | [d1, d2] => { results := [.lit (.bool true)], args := [d1, d2] }
  | _ => none }
def fnExactDropHoldsRow : OpenClaim := { program := "ytgiiipbpadgcgaa", sum := "eeb4cafdbf7265d68241d2b399cfecb4ca50019ca63710a7fa8c99ee275bfa76", func := "loop.example/g03011/laws.FnExactDropHolds", spec := "fnExactDropHolds", apart := false }
def FnExactDropHoldsSaid : Prop := fnExactDropHoldsRow.holds Try.pinned (OpenSpec.ofChange fnExactDropHoldsSpec)

/-- ITS FALSE NEIGHBOUR: 'it returns false'. Refute it at one input. -/
def fnExactDropHoldsWrong : ChangeSpec := { name := "fnExactDropHolds", fn := fun _ => fun
  | [d1, d2] => { results := [.lit (.bool false)], args := [d1, d2] }
  | _ => none }
def FnExactDropHoldsWrongFalsely : Prop := fnExactDropHoldsRow.holds Try.pinned (OpenSpec.ofChange fnExactDropHoldsWrong)

/-- 'laws.FnExactSweepSessions': WHATEVER THE INPUT: true; the input reads as it did. -/
def fnExactSweepSessionsSpec : ChangeSpec := { name := "fnExactSweepSessions", fn := fun _ => fun
  | [d1, d2, d3] => { results := [.lit (.bool true)], args := [d1, d2, d3] }
  | _ => none }
def fnExactSweepSessionsRow : OpenClaim := { program := "ytgiiipbpadgcgaa", sum := "eeb4cafdbf7265d68241d2b399cfecb4ca50019ca63710a7fa8c99ee275bfa76", func := "loop.example/g03011/laws.FnExactSweepSessions", spec := "fnExactSweepSessions", apart := false }
def FnExactSweepSessionsSaid : Prop := fnExactSweepSessionsRow.holds Try.pinned (OpenSpec.ofChange fnExactSweepSessionsSpec)

/-- ITS FALSE NEIGHBOUR: 'it returns false'. Refute it at one input. -/
def fnExactSweepSessionsWrong : ChangeSpec := { name := "fnExactSweepSessions", fn := fun _ => fun
  | [d1, d2, d3] => { results := [.lit (.bool false)], args := [d1, d2, d3] }
  | _ => none }
def FnExactSweepSessionsWrongFalsely : Prop := fnExactSweepSessionsRow.holds Try.pinned (OpenSpec.ofChange fnExactSweepSessionsWrong)

/-- 'laws.FnExactReadLine': WHATEVER THE INPUT: true; the input reads as it did. -/
def fnExactReadLineSpec : ChangeSpec := { name := "fnExactReadLine", fn := fun _ => fun
  | [d1, d2, d3] => { results := [.lit (.bool true)], args := [d1, d2, d3] }
  | _ => none }
def fnExactReadLineRow : OpenClaim := { program := "ytgiiipbpadgcgaa", sum := "eeb4cafdbf7265d68241d2b399cfecb4ca50019ca63710a7fa8c99ee275bfa76", func := "loop.example/g03011/laws.FnExactReadLine", spec := "fnExactReadLine", apart := false }
def FnExactReadLineSaid : Prop := fnExactReadLineRow.holds Try.pinned (OpenSpec.ofChange fnExactReadLineSpec)

/-- ITS FALSE NEIGHBOUR: 'it returns false'. Refute it at one input. -/
def fnExactReadLineWrong : ChangeSpec := { name := "fnExactReadLine", fn := fun _ => fun
  | [d1, d2, d3] => { results := [.lit (.bool false)], args := [d1, d2, d3] }
  | _ => none }
def FnExactReadLineWrongFalsely : Prop := fnExactReadLineRow.holds Try.pinned (OpenSpec.ofChange fnExactReadLineWrong)

/-- 'laws.FnExactSaveSession': WHATEVER THE INPUT: true; the input reads as it did. -/
def fnExactSaveSessionSpec : ChangeSpec := { name := "fnExactSaveSession", fn := fun _ => fun
  | [d1, d2, d3, d4, d5] => { results := [.lit (.bool true)], args := [d1, d2, d3, d4, d5] }
  | _ => none }
def fnExactSaveSessionRow : OpenClaim := { program := "ytgiiipbpadgcgaa", sum := "eeb4cafdbf7265d68241d2b399cfecb4ca50019ca63710a7fa8c99ee275bfa76", func := "loop.example/g03011/laws.FnExactSaveSession", spec := "fnExactSaveSession", unfollowed := true, recurses := true, apart := false }
def FnExactSaveSessionSaid : Prop := fnExactSaveSessionRow.holds Try.pinned (OpenSpec.ofChange fnExactSaveSessionSpec)

/-- ITS FALSE NEIGHBOUR: 'it returns false'. Refute it at one input. -/
def fnExactSaveSessionWrong : ChangeSpec := { name := "fnExactSaveSession", fn := fun _ => fun
  | [d1, d2, d3, d4, d5] => { results := [.lit (.bool false)], args := [d1, d2, d3, d4, d5] }
  | _ => none }
def FnExactSaveSessionWrongFalsely : Prop := fnExactSaveSessionRow.holds Try.pinned (OpenSpec.ofChange fnExactSaveSessionWrong)

/-- 'laws.FnSweeps': WHATEVER THE INPUT: true; the input reads as it did. -/
def fnSweepsSpec : ChangeSpec := { name := "fnSweeps", fn := fun _ => fun
  | [d] => { results := [.lit (.bool true)], args := [d] }
  | _ => none }
def fnSweepsRow : OpenClaim := { program := "ytgiiipbpadgcgaa", sum := "eeb4cafdbf7265d68241d2b399cfecb4ca50019ca63710a7fa8c99ee275bfa76", func := "loop.example/g03011/laws.FnSweeps", spec := "fnSweeps", apart := false }
def FnSweepsSaid : Prop := fnSweepsRow.holds Try.pinned (OpenSpec.ofChange fnSweepsSpec)

/-- ITS FALSE NEIGHBOUR: 'it returns false'. Refute it at one input. -/
def fnSweepsWrong : ChangeSpec := { name := "fnSweeps", fn := fun _ => fun
  | [d] => { results := [.lit (.bool false)], args := [d] }
  | _ => none }
def FnSweepsWrongFalsely : Prop := fnSweepsRow.holds Try.pinned (OpenSpec.ofChange fnSweepsWrong)

/-- 'laws.FnExactFormatCookies': WHATEVER THE INPUT: true; the input reads as it did. -/
def fnExactFormatCookiesSpec : ChangeSpec := { name := "fnExactFormatCookies", fn := fun _ => fun
  | [d] => { results := [.lit (.bool true)], args := [d] }
  | _ => none }
def fnExactFormatCookiesRow : OpenClaim := { program := "ytgiiipbpadgcgaa", sum := "eeb4cafdbf7265d68241d2b399cfecb4ca50019ca63710a7fa8c99ee275bfa76", func := "loop.example/g03011/laws.FnExactFormatCookies", spec := "fnExactFormatCookies", inPlace := ["internal/abi.NoEscape", "internal/bytealg.MakeNoZero"], apart := false }
def FnExactFormatCookiesSaid : Prop := fnExactFormatCookiesRow.holds Try.pinned (OpenSpec.ofChange fnExactFormatCookiesSpec)

/-- ITS FALSE NEIGHBOUR: 'it returns false'. Refute it at one input. -/
def fnExactFormatCookiesWrong : ChangeSpec := { name := "fnExactFormatCookies", fn := fun _ => fun
  | [d] => { results := [.lit (.bool false)], args := [d] }
  | _ => none }
def FnExactFormatCookiesWrongFalsely : Prop := fnExactFormatCookiesRow.holds Try.pinned (OpenSpec.ofChange fnExactFormatCookiesWrong)

/-- 'laws.FnExactFormatQuery': WHATEVER THE INPUT: true; the input reads as it did. -/
def fnExactFormatQuerySpec : ChangeSpec := { name := "fnExactFormatQuery", fn := fun _ => fun
  | [d] => { results := [.lit (.bool true)], args := [d] }
  | _ => none }
def fnExactFormatQueryRow : OpenClaim := { program := "ytgiiipbpadgcgaa", sum := "eeb4cafdbf7265d68241d2b399cfecb4ca50019ca63710a7fa8c99ee275bfa76", func := "loop.example/g03011/laws.FnExactFormatQuery", spec := "fnExactFormatQuery", inPlace := ["internal/abi.NoEscape", "internal/bytealg.MakeNoZero"], apart := false }
def FnExactFormatQuerySaid : Prop := fnExactFormatQueryRow.holds Try.pinned (OpenSpec.ofChange fnExactFormatQuerySpec)

/-- ITS FALSE NEIGHBOUR: 'it returns false'. Refute it at one input. -/
def fnExactFormatQueryWrong : ChangeSpec := { name := "fnExactFormatQuery", fn := fun _ => fun
  | [d] => { results := [.lit (.bool false)], args := [d] }
  | _ => none }
def FnExactFormatQueryWrongFalsely : Prop := fnExactFormatQueryRow.holds Try.pinned (OpenSpec.ofChange fnExactFormatQueryWrong)

/-- 'laws.FnExactWriteLine': WHATEVER THE INPUT: true; the input reads as it did. -/
def fnExactWriteLineSpec : ChangeSpec := { name := "fnExactWriteLine", fn := fun _ => fun
  | [d1, d2, d3, d4] => { results := [.lit (.bool true)], args := [d1, d2, d3, d4] }
  | _ => none }
def fnExactWriteLineRow : OpenClaim := { program := "ytgiiipbpadgcgaa", sum := "eeb4cafdbf7265d68241d2b399cfecb4ca50019ca63710a7fa8c99ee275bfa76", func := "loop.example/g03011/laws.FnExactWriteLine", spec := "fnExactWriteLine", apart := false }
def FnExactWriteLineSaid : Prop := fnExactWriteLineRow.holds Try.pinned (OpenSpec.ofChange fnExactWriteLineSpec)

/-- ITS FALSE NEIGHBOUR: 'it returns false'. Refute it at one input. -/
def fnExactWriteLineWrong : ChangeSpec := { name := "fnExactWriteLine", fn := fun _ => fun
  | [d1, d2, d3, d4] => { results := [.lit (.bool false)], args := [d1, d2, d3, d4] }
  | _ => none }
def FnExactWriteLineWrongFalsely : Prop := fnExactWriteLineRow.holds Try.pinned (OpenSpec.ofChange fnExactWriteLineWrong)

/-- 'laws.FnExactRecover': WHATEVER THE INPUT: true; the input reads as it did. -/
def fnExactRecoverSpec : ChangeSpec := { name := "fnExactRecover", fn := fun _ => fun
  | [d1, d2] => { results := [.lit (.bool true)], args := [d1, d2] }
  | _ => none }
def fnExactRecoverRow : OpenClaim := { program := "ytgiiipbpadgcgaa", sum := "eeb4cafdbf7265d68241d2b399cfecb4ca50019ca63710a7fa8c99ee275bfa76", func := "loop.example/g03011/laws.FnExactRecover", spec := "fnExactRecover", apart := false }
def FnExactRecoverSaid : Prop := fnExactRecoverRow.holds Try.pinned (OpenSpec.ofChange fnExactRecoverSpec)

/-- ITS FALSE NEIGHBOUR: 'it returns false'. Refute it at one input. -/
def fnExactRecoverWrong : ChangeSpec := { name := "fnExactRecover", fn := fun _ => fun
  | [d1, d2] => { results := [.lit (.bool false)], args := [d1, d2] }
  | _ => none }
def FnExactRecoverWrongFalsely : Prop := fnExactRecoverRow.holds Try.pinned (OpenSpec.ofChange fnExactRecoverWrong)

/-- 'laws.FnSessions': WHATEVER THE INPUT: true; the input reads as it did. -/
def fnSessionsSpec : ChangeSpec := { name := "fnSessions", fn := fun _ => fun
  | [d] => { results := [.lit (.bool true)], args := [d] }
  | _ => none }
def fnSessionsRow : OpenClaim := { program := "ytgiiipbpadgcgaa", sum := "eeb4cafdbf7265d68241d2b399cfecb4ca50019ca63710a7fa8c99ee275bfa76", func := "loop.example/g03011/laws.FnSessions", spec := "fnSessions", unfollowed := true, recurses := true, apart := false }
def FnSessionsSaid : Prop := fnSessionsRow.holds Try.pinned (OpenSpec.ofChange fnSessionsSpec)

/-- ITS FALSE NEIGHBOUR: 'it returns false'. Refute it at one input. -/
def fnSessionsWrong : ChangeSpec := { name := "fnSessions", fn := fun _ => fun
  | [d] => { results := [.lit (.bool false)], args := [d] }
  | _ => none }
def FnSessionsWrongFalsely : Prop := fnSessionsRow.holds Try.pinned (OpenSpec.ofChange fnSessionsWrong)

/-- 'laws.FnExactIsResponse': WHATEVER THE INPUT: true; the input reads as it did. -/
def fnExactIsResponseSpec : ChangeSpec := { name := "fnExactIsResponse", fn := fun _ => fun
  | [d] => { results := [.lit (.bool true)], args := [d] }
  | _ => none }
def fnExactIsResponseRow : OpenClaim := { program := "ytgiiipbpadgcgaa", sum := "eeb4cafdbf7265d68241d2b399cfecb4ca50019ca63710a7fa8c99ee275bfa76", func := "loop.example/g03011/laws.FnExactIsResponse", spec := "fnExactIsResponse", apart := false }
def FnExactIsResponseSaid : Prop := fnExactIsResponseRow.holds Try.pinned (OpenSpec.ofChange fnExactIsResponseSpec)

/-- ITS FALSE NEIGHBOUR: 'it returns false'. Refute it at one input. -/
def fnExactIsResponseWrong : ChangeSpec := { name := "fnExactIsResponse", fn := fun _ => fun
  | [d] => { results := [.lit (.bool false)], args := [d] }
  | _ => none }
def FnExactIsResponseWrongFalsely : Prop := fnExactIsResponseRow.holds Try.pinned (OpenSpec.ofChange fnExactIsResponseWrong)

/-- 'laws.FnExactOpenSession': WHATEVER THE INPUT: true; the input reads as it did. -/
def fnExactOpenSessionSpec : ChangeSpec := { name := "fnExactOpenSession", fn := fun _ => fun
  | [d1, d2, d3, d4] => { results := [.lit (.bool true)], args := [d1, d2, d3, d4] }
  | _ => none }
def fnExactOpenSessionRow : OpenClaim := { program := "ytgiiipbpadgcgaa", sum := "eeb4cafdbf7265d68241d2b399cfecb4ca50019ca63710a7fa8c99ee275bfa76", func := "loop.example/g03011/laws.FnExactOpenSession", spec := "fnExactOpenSession", unfollowed := true, recurses := true, apart := false }
def FnExactOpenSessionSaid : Prop := fnExactOpenSessionRow.holds Try.pinned (OpenSpec.ofChange fnExactOpenSessionSpec)

/-- ITS FALSE NEIGHBOUR: 'it returns false'. Refute it at one input. -/
def fnExactOpenSessionWrong : ChangeSpec := { name := "fnExactOpenSession", fn := fun _ => fun
  | [d1, d2, d3, d4] => { results := [.lit (.bool false)], args := [d1, d2, d3, d4] }
  | _ => none }
def FnExactOpenSessionWrongFalsely : Prop := fnExactOpenSessionRow.holds Try.pinned (OpenSpec.ofChange fnExactOpenSessionWrong)

/-- 'laws.FnNeverTorn': WHATEVER THE INPUT: true; the input reads as it did. -/
def fnNeverTornSpec : ChangeSpec := { name := "fnNeverTorn", fn := fun _ => fun
  | [d] => { results := [.lit (.bool true)], args := [d] }
  | _ => none }
def fnNeverTornRow : OpenClaim := { program := "ytgiiipbpadgcgaa", sum := "eeb4cafdbf7265d68241d2b399cfecb4ca50019ca63710a7fa8c99ee275bfa76", func := "loop.example/g03011/laws.FnNeverTorn", spec := "fnNeverTorn", apart := false }
def FnNeverTornSaid : Prop := fnNeverTornRow.holds Try.pinned (OpenSpec.ofChange fnNeverTornSpec)

/-- ITS FALSE NEIGHBOUR: 'it returns false'. Refute it at one input. -/
def fnNeverTornWrong : ChangeSpec := { name := "fnNeverTorn", fn := fun _ => fun
  | [d] => { results := [.lit (.bool false)], args := [d] }
  | _ => none }
def FnNeverTornWrongFalsely : Prop := fnNeverTornRow.holds Try.pinned (OpenSpec.ofChange fnNeverTornWrong)

/-- 'laws.FnRecovered': WHATEVER THE INPUT: true; the input reads as it did. -/
def fnRecoveredSpec : ChangeSpec := { name := "fnRecovered", fn := fun _ => fun
  | [d] => { results := [.lit (.bool true)], args := [d] }
  | _ => none }
def fnRecoveredRow : OpenClaim := { program := "ytgiiipbpadgcgaa", sum := "eeb4cafdbf7265d68241d2b399cfecb4ca50019ca63710a7fa8c99ee275bfa76", func := "loop.example/g03011/laws.FnRecovered", spec := "fnRecovered", apart := false }
def FnRecoveredSaid : Prop := fnRecoveredRow.holds Try.pinned (OpenSpec.ofChange fnRecoveredSpec)

/-- ITS FALSE NEIGHBOUR: 'it returns false'. Refute it at one input. -/
def fnRecoveredWrong : ChangeSpec := { name := "fnRecovered", fn := fun _ => fun
  | [d] => { results := [.lit (.bool false)], args := [d] }
  | _ => none }
def FnRecoveredWrongFalsely : Prop := fnRecoveredRow.holds Try.pinned (OpenSpec.ofChange fnRecoveredWrong)

/-- 'laws.FnExactIsSequential': WHATEVER THE INPUT: true; the input reads as it did. -/
def fnExactIsSequentialSpec : ChangeSpec := { name := "fnExactIsSequential", fn := fun _ => fun
  | [d] => { results := [.lit (.bool true)], args := [d] }
  | _ => none }
def fnExactIsSequentialRow : OpenClaim := { program := "ytgiiipbpadgcgaa", sum := "eeb4cafdbf7265d68241d2b399cfecb4ca50019ca63710a7fa8c99ee275bfa76", func := "loop.example/g03011/laws.FnExactIsSequential", spec := "fnExactIsSequential", apart := false }
def FnExactIsSequentialSaid : Prop := fnExactIsSequentialRow.holds Try.pinned (OpenSpec.ofChange fnExactIsSequentialSpec)

/-- ITS FALSE NEIGHBOUR: 'it returns false'. Refute it at one input. -/
def fnExactIsSequentialWrong : ChangeSpec := { name := "fnExactIsSequential", fn := fun _ => fun
  | [d] => { results := [.lit (.bool false)], args := [d] }
  | _ => none }
def FnExactIsSequentialWrongFalsely : Prop := fnExactIsSequentialRow.holds Try.pinned (OpenSpec.ofChange fnExactIsSequentialWrong)

/- THE SECOND FORM. 'bulk': how many values and letters a reading holds, each counted each time it is reached (what is shared counts as often as it is met; a slice's spare places count too). A statement '..UptoSaid' is the law's where the arguments, and the package variables that the reading takes, are together of bulk at most 1048576: NARROWER than '..Said'. Prove '..Said' where nothing that the law and all that it calls make is longer than what came in: it says more and counts as full. Else prove '..UptoSaid'. A law counts once. -/
mutual
def uptoBulk {H : Type} : DataW H → Nat
  | .lit (.string bytes) => bytes.length + 1
  | .lit _ => 1
  | .nil => 1
  | .ptr d => uptoBulk d + 1
  | .slice elems spare => uptoBulkAll elems + uptoBulkAll spare + 1
  | .agg parts => uptoBulkAll parts + 1
  | .iface _ d => uptoBulk d + 1
  | .map entries => uptoBulkEntries entries + 1
  | .held _ => 1
def uptoBulkAll {H : Type} : List (DataW H) → Nat
  | [] => 0
  | d :: r => uptoBulk d + uptoBulkAll r
def uptoBulkEntries {H : Type} : List (Lit × DataW H) → Nat
  | [] => 0
  | x :: r => uptoBulkEntry x + uptoBulkEntries r
def uptoBulkEntry {H : Type} : Lit × DataW H → Nat
  | (.string bytes, d) => bytes.length + uptoBulk d + 1
  | (_, d) => uptoBulk d + 1
 end
def uptoSmall : (H : Type) → List (DataW H) → Bool := fun _ ds => decide (uptoBulkAll ds ≤ 1048576)
def OpenSpec.upto (s : _root_.Go.ChangeSpec) : _root_.Go.OpenSpec := { _root_.Go.OpenSpec.ofChange s with cond := some uptoSmall }

/-- 'laws.FnExactAreSessions', WHERE WHAT IT READS IS OF BULK AT MOST 1048576: true; the input reads as it did. -/
def fnExactAreSessionsUptoRow : OpenClaim := { program := "ytgiiipbpadgcgaa", sum := "eeb4cafdbf7265d68241d2b399cfecb4ca50019ca63710a7fa8c99ee275bfa76", func := "loop.example/g03011/laws.FnExactAreSessions", spec := "fnExactAreSessions", apart := false, narrowed := true }
def FnExactAreSessionsUptoSaid : Prop := fnExactAreSessionsUptoRow.holds Try.pinned (OpenSpec.upto fnExactAreSessionsSpec)

/-- 'laws.FnExactDropHolds', WHERE WHAT IT READS IS OF BULK AT MOST 1048576: true; the input reads as it did. -/
def fnExactDropHoldsUptoRow : OpenClaim := { program := "ytgiiipbpadgcgaa", sum := "eeb4cafdbf7265d68241d2b399cfecb4ca50019ca63710a7fa8c99ee275bfa76", func := "loop.example/g03011/laws.FnExactDropHolds", spec := "fnExactDropHolds", apart := false, narrowed := true }
def FnExactDropHoldsUptoSaid : Prop := fnExactDropHoldsUptoRow.holds Try.pinned (OpenSpec.upto fnExactDropHoldsSpec)

/-- 'laws.FnExactSweepSessions', WHERE WHAT IT READS IS OF BULK AT MOST 1048576: true; the input reads as it did. -/
def fnExactSweepSessionsUptoRow : OpenClaim := { program := "ytgiiipbpadgcgaa", sum := "eeb4cafdbf7265d68241d2b399cfecb4ca50019ca63710a7fa8c99ee275bfa76", func := "loop.example/g03011/laws.FnExactSweepSessions", spec := "fnExactSweepSessions", apart := false, narrowed := true }
def FnExactSweepSessionsUptoSaid : Prop := fnExactSweepSessionsUptoRow.holds Try.pinned (OpenSpec.upto fnExactSweepSessionsSpec)

/-- 'laws.FnExactReadLine', WHERE WHAT IT READS IS OF BULK AT MOST 1048576: true; the input reads as it did. -/
def fnExactReadLineUptoRow : OpenClaim := { program := "ytgiiipbpadgcgaa", sum := "eeb4cafdbf7265d68241d2b399cfecb4ca50019ca63710a7fa8c99ee275bfa76", func := "loop.example/g03011/laws.FnExactReadLine", spec := "fnExactReadLine", apart := false, narrowed := true }
def FnExactReadLineUptoSaid : Prop := fnExactReadLineUptoRow.holds Try.pinned (OpenSpec.upto fnExactReadLineSpec)

/-- 'laws.FnExactSaveSession', WHERE WHAT IT READS IS OF BULK AT MOST 1048576: true; the input reads as it did. -/
def fnExactSaveSessionUptoRow : OpenClaim := { program := "ytgiiipbpadgcgaa", sum := "eeb4cafdbf7265d68241d2b399cfecb4ca50019ca63710a7fa8c99ee275bfa76", func := "loop.example/g03011/laws.FnExactSaveSession", spec := "fnExactSaveSession", unfollowed := true, recurses := true, apart := false, narrowed := true }
def FnExactSaveSessionUptoSaid : Prop := fnExactSaveSessionUptoRow.holds Try.pinned (OpenSpec.upto fnExactSaveSessionSpec)

/-- 'laws.FnSweeps', WHERE WHAT IT READS IS OF BULK AT MOST 1048576: true; the input reads as it did. -/
def fnSweepsUptoRow : OpenClaim := { program := "ytgiiipbpadgcgaa", sum := "eeb4cafdbf7265d68241d2b399cfecb4ca50019ca63710a7fa8c99ee275bfa76", func := "loop.example/g03011/laws.FnSweeps", spec := "fnSweeps", apart := false, narrowed := true }
def FnSweepsUptoSaid : Prop := fnSweepsUptoRow.holds Try.pinned (OpenSpec.upto fnSweepsSpec)

/-- 'laws.FnExactFormatCookies', WHERE WHAT IT READS IS OF BULK AT MOST 1048576: true; the input reads as it did. -/
def fnExactFormatCookiesUptoRow : OpenClaim := { program := "ytgiiipbpadgcgaa", sum := "eeb4cafdbf7265d68241d2b399cfecb4ca50019ca63710a7fa8c99ee275bfa76", func := "loop.example/g03011/laws.FnExactFormatCookies", spec := "fnExactFormatCookies", inPlace := ["internal/abi.NoEscape", "internal/bytealg.MakeNoZero"], apart := false, narrowed := true }
def FnExactFormatCookiesUptoSaid : Prop := fnExactFormatCookiesUptoRow.holds Try.pinned (OpenSpec.upto fnExactFormatCookiesSpec)

/-- 'laws.FnExactFormatQuery', WHERE WHAT IT READS IS OF BULK AT MOST 1048576: true; the input reads as it did. -/
def fnExactFormatQueryUptoRow : OpenClaim := { program := "ytgiiipbpadgcgaa", sum := "eeb4cafdbf7265d68241d2b399cfecb4ca50019ca63710a7fa8c99ee275bfa76", func := "loop.example/g03011/laws.FnExactFormatQuery", spec := "fnExactFormatQuery", inPlace := ["internal/abi.NoEscape", "internal/bytealg.MakeNoZero"], apart := false, narrowed := true }
def FnExactFormatQueryUptoSaid : Prop := fnExactFormatQueryUptoRow.holds Try.pinned (OpenSpec.upto fnExactFormatQuerySpec)

/-- 'laws.FnExactWriteLine', WHERE WHAT IT READS IS OF BULK AT MOST 1048576: true; the input reads as it did. -/
def fnExactWriteLineUptoRow : OpenClaim := { program := "ytgiiipbpadgcgaa", sum := "eeb4cafdbf7265d68241d2b399cfecb4ca50019ca63710a7fa8c99ee275bfa76", func := "loop.example/g03011/laws.FnExactWriteLine", spec := "fnExactWriteLine", apart := false, narrowed := true }
def FnExactWriteLineUptoSaid : Prop := fnExactWriteLineUptoRow.holds Try.pinned (OpenSpec.upto fnExactWriteLineSpec)

/-- 'laws.FnExactRecover', WHERE WHAT IT READS IS OF BULK AT MOST 1048576: true; the input reads as it did. -/
def fnExactRecoverUptoRow : OpenClaim := { program := "ytgiiipbpadgcgaa", sum := "eeb4cafdbf7265d68241d2b399cfecb4ca50019ca63710a7fa8c99ee275bfa76", func := "loop.example/g03011/laws.FnExactRecover", spec := "fnExactRecover", apart := false, narrowed := true }
def FnExactRecoverUptoSaid : Prop := fnExactRecoverUptoRow.holds Try.pinned (OpenSpec.upto fnExactRecoverSpec)

/-- 'laws.FnSessions', WHERE WHAT IT READS IS OF BULK AT MOST 1048576: true; the input reads as it did. -/
def fnSessionsUptoRow : OpenClaim := { program := "ytgiiipbpadgcgaa", sum := "eeb4cafdbf7265d68241d2b399cfecb4ca50019ca63710a7fa8c99ee275bfa76", func := "loop.example/g03011/laws.FnSessions", spec := "fnSessions", unfollowed := true, recurses := true, apart := false, narrowed := true }
def FnSessionsUptoSaid : Prop := fnSessionsUptoRow.holds Try.pinned (OpenSpec.upto fnSessionsSpec)

/-- 'laws.FnExactIsResponse', WHERE WHAT IT READS IS OF BULK AT MOST 1048576: true; the input reads as it did. -/
def fnExactIsResponseUptoRow : OpenClaim := { program := "ytgiiipbpadgcgaa", sum := "eeb4cafdbf7265d68241d2b399cfecb4ca50019ca63710a7fa8c99ee275bfa76", func := "loop.example/g03011/laws.FnExactIsResponse", spec := "fnExactIsResponse", apart := false, narrowed := true }
def FnExactIsResponseUptoSaid : Prop := fnExactIsResponseUptoRow.holds Try.pinned (OpenSpec.upto fnExactIsResponseSpec)

/-- 'laws.FnExactOpenSession', WHERE WHAT IT READS IS OF BULK AT MOST 1048576: true; the input reads as it did. -/
def fnExactOpenSessionUptoRow : OpenClaim := { program := "ytgiiipbpadgcgaa", sum := "eeb4cafdbf7265d68241d2b399cfecb4ca50019ca63710a7fa8c99ee275bfa76", func := "loop.example/g03011/laws.FnExactOpenSession", spec := "fnExactOpenSession", unfollowed := true, recurses := true, apart := false, narrowed := true }
def FnExactOpenSessionUptoSaid : Prop := fnExactOpenSessionUptoRow.holds Try.pinned (OpenSpec.upto fnExactOpenSessionSpec)

/-- 'laws.FnNeverTorn', WHERE WHAT IT READS IS OF BULK AT MOST 1048576: true; the input reads as it did. -/
def fnNeverTornUptoRow : OpenClaim := { program := "ytgiiipbpadgcgaa", sum := "eeb4cafdbf7265d68241d2b399cfecb4ca50019ca63710a7fa8c99ee275bfa76", func := "loop.example/g03011/laws.FnNeverTorn", spec := "fnNeverTorn", apart := false, narrowed := true }
def FnNeverTornUptoSaid : Prop := fnNeverTornUptoRow.holds Try.pinned (OpenSpec.upto fnNeverTornSpec)

/-- 'laws.FnRecovered', WHERE WHAT IT READS IS OF BULK AT MOST 1048576: true; the input reads as it did. -/
def fnRecoveredUptoRow : OpenClaim := { program := "ytgiiipbpadgcgaa", sum := "eeb4cafdbf7265d68241d2b399cfecb4ca50019ca63710a7fa8c99ee275bfa76", func := "loop.example/g03011/laws.FnRecovered", spec := "fnRecovered", apart := false, narrowed := true }
def FnRecoveredUptoSaid : Prop := fnRecoveredUptoRow.holds Try.pinned (OpenSpec.upto fnRecoveredSpec)

/-- 'laws.FnExactIsSequential', WHERE WHAT IT READS IS OF BULK AT MOST 1048576: true; the input reads as it did. -/
def fnExactIsSequentialUptoRow : OpenClaim := { program := "ytgiiipbpadgcgaa", sum := "eeb4cafdbf7265d68241d2b399cfecb4ca50019ca63710a7fa8c99ee275bfa76", func := "loop.example/g03011/laws.FnExactIsSequential", spec := "fnExactIsSequential", apart := false, narrowed := true }
def FnExactIsSequentialUptoSaid : Prop := fnExactIsSequentialUptoRow.holds Try.pinned (OpenSpec.upto fnExactIsSequentialSpec)

end Rows
end Go.Proofs.Ytgiiipbpadgcgaa
