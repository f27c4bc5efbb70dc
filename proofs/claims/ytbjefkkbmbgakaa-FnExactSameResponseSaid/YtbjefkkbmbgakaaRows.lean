/-
  No cell of these rows narrows 'for every input' (looked for: loops, veiled, ifaces, maps, wideKeys, modest, calm, conditions, laid).
  DERIVED. THE GIVEN ROWS OF THIS SEAT. 6 by the template 'for every input the law returns true; each argument reads behind the call as it read before'; 0 by the template 'total and deterministic' (their statements: YtbjefkkbmbgakaaTotals.lean).
  GIVEN WITH THE SEED: the statements are not yours to turn. If you find one false, say at which input.
  Laid BY PROGRAM, IN A SANDBOX (cutbox-rows.mjs): the forced cells as the released guide's own fill.sh prints them over the translation 574ea61a1234bf82… (all of the seat's roots in one cut). By AI agents, Wed Nov 11 2026. No macro, syntax, notation, axiom, sorry.
-/
import Derived.Test.YtbjefkkbmbgakaaChecked
import GoSem.Claim
import GoSem.ClaimJoined
import GoSem.ClaimMapViews
import Derived.JoinedTies
import Derived.KernelRfl
namespace Go.Proofs.Ytbjefkkbmbgakaa
/- THE CELL 'sum', in the pinned program and in every row, IS THE sha256 OF THE DUMP (.gsa) THAT YtbjefkkbmbgakaaProg.lean LOADS. Nothing in Lean hashes anything: it is a label: what it is worth is what the hold of that sum in a sandbox is worth. -/
noncomputable def Try.pinned : Pinned := { name := "ytbjefkkbmbgakaa", sum := "574ea61a1234bf82162515e81655f7fef6e056ddff73abec8778c9cc773231dd", checked := Try.checked }
namespace Rows
def none {H : Type} : Left H := { results := [], args := [] }

/-- 'laws.FnExactReason': WHATEVER THE INPUT: true; the input reads as it did. -/
def fnExactReasonSpec : ChangeSpec := { name := "fnExactReason", fn := fun _ => fun
  | [d] => { results := [.lit (.bool true)], args := [d] }
  | _ => none }
def fnExactReasonRow : OpenClaim := { program := "ytbjefkkbmbgakaa", sum := "574ea61a1234bf82162515e81655f7fef6e056ddff73abec8778c9cc773231dd", func := "loop.example/g03011/laws.FnExactReason", spec := "fnExactReason", apart := false }
def FnExactReasonSaid : Prop := fnExactReasonRow.holds Try.pinned (OpenSpec.ofChange fnExactReasonSpec)

/-- ITS FALSE NEIGHBOUR: 'it returns false'. Refute it at one input. -/
def fnExactReasonWrong : ChangeSpec := { name := "fnExactReason", fn := fun _ => fun
  | [d] => { results := [.lit (.bool false)], args := [d] }
  | _ => none }
def FnExactReasonWrongFalsely : Prop := fnExactReasonRow.holds Try.pinned (OpenSpec.ofChange fnExactReasonWrong)

/-- 'laws.FnExactFindSession': WHATEVER THE INPUT: true; the input reads as it did. -/
def fnExactFindSessionSpec : ChangeSpec := { name := "fnExactFindSession", fn := fun _ => fun
  | [d1, d2] => { results := [.lit (.bool true)], args := [d1, d2] }
  | _ => none }
def fnExactFindSessionRow : OpenClaim := { program := "ytbjefkkbmbgakaa", sum := "574ea61a1234bf82162515e81655f7fef6e056ddff73abec8778c9cc773231dd", func := "loop.example/g03011/laws.FnExactFindSession", spec := "fnExactFindSession", unfollowed := true, recurses := true, apart := false }
def FnExactFindSessionSaid : Prop := fnExactFindSessionRow.holds Try.pinned (OpenSpec.ofChange fnExactFindSessionSpec)

/-- ITS FALSE NEIGHBOUR: 'it returns false'. Refute it at one input. -/
def fnExactFindSessionWrong : ChangeSpec := { name := "fnExactFindSession", fn := fun _ => fun
  | [d1, d2] => { results := [.lit (.bool false)], args := [d1, d2] }
  | _ => none }
def FnExactFindSessionWrongFalsely : Prop := fnExactFindSessionRow.holds Try.pinned (OpenSpec.ofChange fnExactFindSessionWrong)

/-- 'laws.FnExactNewLines': WHATEVER THE INPUT: true; the input reads as it did. -/
def fnExactNewLinesSpec : ChangeSpec := { name := "fnExactNewLines", fn := fun _ => fun
  | [] => { results := [.lit (.bool true)], args := [] }
  | _ => none }
def fnExactNewLinesRow : OpenClaim := { program := "ytbjefkkbmbgakaa", sum := "574ea61a1234bf82162515e81655f7fef6e056ddff73abec8778c9cc773231dd", func := "loop.example/g03011/laws.FnExactNewLines", spec := "fnExactNewLines", apart := false }
def FnExactNewLinesSaid : Prop := fnExactNewLinesRow.holds Try.pinned (OpenSpec.ofChange fnExactNewLinesSpec)

/-- ITS FALSE NEIGHBOUR: 'it returns false'. Refute it at one input. -/
def fnExactNewLinesWrong : ChangeSpec := { name := "fnExactNewLines", fn := fun _ => fun
  | [] => { results := [.lit (.bool false)], args := [] }
  | _ => none }
def FnExactNewLinesWrongFalsely : Prop := fnExactNewLinesRow.holds Try.pinned (OpenSpec.ofChange fnExactNewLinesWrong)

/-- 'laws.FnExactAreLines': WHATEVER THE INPUT: true; the input reads as it did. -/
def fnExactAreLinesSpec : ChangeSpec := { name := "fnExactAreLines", fn := fun _ => fun
  | [d] => { results := [.lit (.bool true)], args := [d] }
  | _ => none }
def fnExactAreLinesRow : OpenClaim := { program := "ytbjefkkbmbgakaa", sum := "574ea61a1234bf82162515e81655f7fef6e056ddff73abec8778c9cc773231dd", func := "loop.example/g03011/laws.FnExactAreLines", spec := "fnExactAreLines", apart := false }
def FnExactAreLinesSaid : Prop := fnExactAreLinesRow.holds Try.pinned (OpenSpec.ofChange fnExactAreLinesSpec)

/-- ITS FALSE NEIGHBOUR: 'it returns false'. Refute it at one input. -/
def fnExactAreLinesWrong : ChangeSpec := { name := "fnExactAreLines", fn := fun _ => fun
  | [d] => { results := [.lit (.bool false)], args := [d] }
  | _ => none }
def FnExactAreLinesWrongFalsely : Prop := fnExactAreLinesRow.holds Try.pinned (OpenSpec.ofChange fnExactAreLinesWrong)

/-- 'laws.FnExactSameResponse': WHATEVER THE INPUT: true; the input reads as it did. -/
def fnExactSameResponseSpec : ChangeSpec := { name := "fnExactSameResponse", fn := fun _ => fun
  | [d1, d2] => { results := [.lit (.bool true)], args := [d1, d2] }
  | _ => none }
def fnExactSameResponseRow : OpenClaim := { program := "ytbjefkkbmbgakaa", sum := "574ea61a1234bf82162515e81655f7fef6e056ddff73abec8778c9cc773231dd", func := "loop.example/g03011/laws.FnExactSameResponse", spec := "fnExactSameResponse", apart := false }
def FnExactSameResponseSaid : Prop := fnExactSameResponseRow.holds Try.pinned (OpenSpec.ofChange fnExactSameResponseSpec)

/-- ITS FALSE NEIGHBOUR: 'it returns false'. Refute it at one input. -/
def fnExactSameResponseWrong : ChangeSpec := { name := "fnExactSameResponse", fn := fun _ => fun
  | [d1, d2] => { results := [.lit (.bool false)], args := [d1, d2] }
  | _ => none }
def FnExactSameResponseWrongFalsely : Prop := fnExactSameResponseRow.holds Try.pinned (OpenSpec.ofChange fnExactSameResponseWrong)

/-- 'laws.FnExactAreActors': WHATEVER THE INPUT: true; the input reads as it did. -/
def fnExactAreActorsSpec : ChangeSpec := { name := "fnExactAreActors", fn := fun _ => fun
  | [d] => { results := [.lit (.bool true)], args := [d] }
  | _ => none }
def fnExactAreActorsRow : OpenClaim := { program := "ytbjefkkbmbgakaa", sum := "574ea61a1234bf82162515e81655f7fef6e056ddff73abec8778c9cc773231dd", func := "loop.example/g03011/laws.FnExactAreActors", spec := "fnExactAreActors", apart := false }
def FnExactAreActorsSaid : Prop := fnExactAreActorsRow.holds Try.pinned (OpenSpec.ofChange fnExactAreActorsSpec)

/-- ITS FALSE NEIGHBOUR: 'it returns false'. Refute it at one input. -/
def fnExactAreActorsWrong : ChangeSpec := { name := "fnExactAreActors", fn := fun _ => fun
  | [d] => { results := [.lit (.bool false)], args := [d] }
  | _ => none }
def FnExactAreActorsWrongFalsely : Prop := fnExactAreActorsRow.holds Try.pinned (OpenSpec.ofChange fnExactAreActorsWrong)

/- THE SECOND FORM. 'bulk': how many values and letters a reading holds, each counted each time it is reached (what is shared counts as often as it is met; a slice's spare places count too). A statement '..UptoSaid' is the law's where the arguments, and the package variables that the reading takes, are together of bulk at most 1048576: NARROWER than '..Said'. Prove '..Said' where nothing that the law and all that it calls make is longer than what came in: it says more and counts as full. Else prove '..UptoSaid'. A law counts once. -/
mutual
def uptoBulk {H : Type} : DataW H → Nat
  | .lit (.string bytes) => bytes.length + 1
  | .lit _ => 1
  | .nil => 1
  | .ptr d => uptoBulk d + 1
  | .slice elems spare => uptoBulkAll elems + uptoBulkAll spare + 1
  | .agg parts => uptoBulkAll parts + 1
  | .iface _ d => uptoBulk d + 1
  | .map entries => uptoBulkEntries entries + 1
  | .held _ => 1
def uptoBulkAll {H : Type} : List (DataW H) → Nat
  | [] => 0
  | d :: r => uptoBulk d + uptoBulkAll r
def uptoBulkEntries {H : Type} : List (Lit × DataW H) → Nat
  | [] => 0
  | x :: r => uptoBulkEntry x + uptoBulkEntries r
def uptoBulkEntry {H : Type} : Lit × DataW H → Nat
  | (.string bytes, d) => bytes.length + uptoBulk d + 1
  | (_, d) => uptoBulk d + 1
 end
def uptoSmall : (H : Type) → List (DataW H) → Bool := fun _ ds => decide (uptoBulkAll ds ≤ 1048576)
def OpenSpec.upto (s : _root_.Go.ChangeSpec) : _root_.Go.OpenSpec := { _root_.Go.OpenSpec.ofChange s with cond := some uptoSmall }

/-- 'laws.FnExactReason', WHERE WHAT IT READS IS OF BULK AT MOST 1048576: true; the input reads as it did. -/
def fnExactReasonUptoRow : OpenClaim := { program := "ytbjefkkbmbgakaa", sum := "574ea61a1234bf82162515e81655f7fef6e056ddff73abec8778c9cc773231dd", func := "loop.example/g03011/laws.FnExactReason", spec := "fnExactReason", apart := false, narrowed := true }
def FnExactReasonUptoSaid : Prop := fnExactReasonUptoRow.holds Try.pinned (OpenSpec.upto fnExactReasonSpec)

/-- 'laws.FnExactFindSession', WHERE WHAT IT READS IS OF BULK AT MOST 1048576: true; the input reads as it did. -/
def fnExactFindSessionUptoRow : OpenClaim := { program := "ytbjefkkbmbgakaa", sum := "574ea61a1234bf82162515e81655f7fef6e056ddff73abec8778c9cc773231dd", func := "loop.example/g03011/laws.FnExactFindSession", spec := "fnExactFindSession", unfollowed := true, recurses := true, apart := false, narrowed := true }
def FnExactFindSessionUptoSaid : Prop := fnExactFindSessionUptoRow.holds Try.pinned (OpenSpec.upto fnExactFindSessionSpec)

/-- 'laws.FnExactNewLines', WHERE WHAT IT READS IS OF BULK AT MOST 1048576: true; the input reads as it did. -/
def fnExactNewLinesUptoRow : OpenClaim := { program := "ytbjefkkbmbgakaa", sum := "574ea61a1234bf82162515e81655f7fef6e056ddff73abec8778c9cc773231dd", func := "loop.example/g03011/laws.FnExactNewLines", spec := "fnExactNewLines", apart := false, narrowed := true }
def FnExactNewLinesUptoSaid : Prop := fnExactNewLinesUptoRow.holds Try.pinned (OpenSpec.upto fnExactNewLinesSpec)

/-- 'laws.FnExactAreLines', WHERE WHAT IT READS IS OF BULK AT MOST 1048576: true; the input reads as it did. -/
def fnExactAreLinesUptoRow : OpenClaim := { program := "ytbjefkkbmbgakaa", sum := "574ea61a1234bf82162515e81655f7fef6e056ddff73abec8778c9cc773231dd", func := "loop.example/g03011/laws.FnExactAreLines", spec := "fnExactAreLines", apart := false, narrowed := true }
def FnExactAreLinesUptoSaid : Prop := fnExactAreLinesUptoRow.holds Try.pinned (OpenSpec.upto fnExactAreLinesSpec)

/-- 'laws.FnExactSameResponse', WHERE WHAT IT READS IS OF BULK AT MOST 1048576: true; the input reads as it did. -/
def fnExactSameResponseUptoRow : OpenClaim := { program := "ytbjefkkbmbgakaa", sum := "574ea61a1234bf82162515e81655f7fef6e056ddff73abec8778c9cc773231dd", func := "loop.example/g03011/laws.FnExactSameResponse", spec := "fnExactSameResponse", apart := false, narrowed := true }
def FnExactSameResponseUptoSaid : Prop := fnExactSameResponseUptoRow.holds Try.pinned (OpenSpec.upto fnExactSameResponseSpec)

/-- 'laws.FnExactAreActors', WHERE WHAT IT READS IS OF BULK AT MOST 1048576: true; the input reads as it did. -/
def fnExactAreActorsUptoRow : OpenClaim := { program := "ytbjefkkbmbgakaa", sum := "574ea61a1234bf82162515e81655f7fef6e056ddff73abec8778c9cc773231dd", func := "loop.example/g03011/laws.FnExactAreActors", spec := "fnExactAreActors", apart := false, narrowed := true }
def FnExactAreActorsUptoSaid : Prop := fnExactAreActorsUptoRow.holds Try.pinned (OpenSpec.upto fnExactAreActorsSpec)

end Rows
end Go.Proofs.Ytbjefkkbmbgakaa
