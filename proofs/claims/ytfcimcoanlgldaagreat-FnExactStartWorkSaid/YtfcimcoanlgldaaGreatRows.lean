/-
  No cell of these rows narrows 'for every input' (looked for: loops, veiled, ifaces, maps, wideKeys, modest, calm, conditions, laid).
  DERIVED. THE GIVEN ROWS OF THIS SEAT. 2 by the template 'for every input the law returns true; each argument reads behind the call as it read before'; 0 by the template 'total and deterministic' (their statements: YtfcimcoanlgldaaGreatTotals.lean).
  GIVEN WITH THE SEED: the statements are not yours to turn. If you find one false, say at which input.
  Laid BY PROGRAM, IN A SANDBOX (cutbox-rows.mjs): the forced cells as the released guide's own fill.sh prints them over the translation 848bb2d328c31beb… (all of the seat's roots in one cut). By AI agents, Wed Nov 11 2026. No macro, syntax, notation, axiom, sorry.
-/
import Derived.Test.YtfcimcoanlgldaaGreatChecked
import GoSem.Claim
import GoSem.ClaimJoined
import GoSem.ClaimMapViews
import Derived.JoinedTies
import Derived.KernelRfl
namespace Go.Proofs.YtfcimcoanlgldaaGreat
/- THE CELL 'sum', in the pinned program and in every row, IS THE sha256 OF THE DUMP (.gsa) THAT YtfcimcoanlgldaaGreatProg.lean LOADS. Nothing in Lean hashes anything: it is a label: what it is worth is what the hold of that sum in a sandbox is worth. -/
noncomputable def Tryz.pinned : Pinned := { name := "ytfcimcoanlgldaagreat", sum := "848bb2d328c31bebe837d6c6c5581b018c7525cbf8a7f85edc90b88127ae0acc", checked := Tryz.checked }
namespace Rows
def none {H : Type} : Left H := { results := [], args := [] }

/-- 'laws.FnExactReviveWork': WHATEVER THE INPUT: true; the input reads as it did. -/
def fnExactReviveWorkSpec : ChangeSpec := { name := "fnExactReviveWork", fn := fun _ => fun
  | [d1, d2] => { results := [.lit (.bool true)], args := [d1, d2] }
  | _ => none }
def fnExactReviveWorkRow : OpenClaim := { program := "ytfcimcoanlgldaagreat", sum := "848bb2d328c31bebe837d6c6c5581b018c7525cbf8a7f85edc90b88127ae0acc", func := "loop.example/g03011/laws.FnExactReviveWork", spec := "fnExactReviveWork", apart := false }
def FnExactReviveWorkSaid : Prop := fnExactReviveWorkRow.holds Tryz.pinned (OpenSpec.ofChange fnExactReviveWorkSpec)

/-- ITS FALSE NEIGHBOUR: 'it returns false'. Refute it at one input. -/
def fnExactReviveWorkWrong : ChangeSpec := { name := "fnExactReviveWork", fn := fun _ => fun
  | [d1, d2] => { results := [.lit (.bool false)], args := [d1, d2] }
  | _ => none }
def FnExactReviveWorkWrongFalsely : Prop := fnExactReviveWorkRow.holds Tryz.pinned (OpenSpec.ofChange fnExactReviveWorkWrong)

/-- 'laws.FnExactStartWork': WHATEVER THE INPUT: true; the input reads as it did. -/
def fnExactStartWorkSpec : ChangeSpec := { name := "fnExactStartWork", fn := fun _ => fun
  | [d1, d2] => { results := [.lit (.bool true)], args := [d1, d2] }
  | _ => none }
def fnExactStartWorkRow : OpenClaim := { program := "ytfcimcoanlgldaagreat", sum := "848bb2d328c31bebe837d6c6c5581b018c7525cbf8a7f85edc90b88127ae0acc", func := "loop.example/g03011/laws.FnExactStartWork", spec := "fnExactStartWork", unfollowed := true, recurses := true, apart := false }
def FnExactStartWorkSaid : Prop := fnExactStartWorkRow.holds Tryz.pinned (OpenSpec.ofChange fnExactStartWorkSpec)

/-- ITS FALSE NEIGHBOUR: 'it returns false'. Refute it at one input. -/
def fnExactStartWorkWrong : ChangeSpec := { name := "fnExactStartWork", fn := fun _ => fun
  | [d1, d2] => { results := [.lit (.bool false)], args := [d1, d2] }
  | _ => none }
def FnExactStartWorkWrongFalsely : Prop := fnExactStartWorkRow.holds Tryz.pinned (OpenSpec.ofChange fnExactStartWorkWrong)

/- THE SECOND FORM. 'bulk': how many values and letters a reading holds, each counted each time it is reached (what is shared counts as often as it is met; a slice's spare places count too). A statement '..UptoSaid' is the law's where the arguments, and the package variables that the reading takes, are together of bulk at most 1048576: NARROWER than '..Said'. Prove '..Said' where nothing that the law and all that it calls make is longer than what came in: it says more and counts as full. Else prove '..UptoSaid'. A law counts once. -/
mutual
def uptoBulk {H : Type} : DataW H → Nat
  | .lit (.string bytes) => bytes.length + 1
  | .lit _ => 1
  | .nil => 1
  | .ptr d => uptoBulk d + 1
  | .slice elems spare => uptoBulkAll elems + uptoBulkAll spare + 1
  | .agg parts => uptoBulkAll parts + 1
  | .iface _ d => uptoBulk d + 1
  | .map entries => uptoBulkEntries entries + 1
  | .held _ => 1
def uptoBulkAll {H : Type} : List (DataW H) → Nat
  | [] => 0
  | d :: r => uptoBulk d + uptoBulkAll r
def uptoBulkEntries {H : Type} : List (Lit × DataW H) → Nat
  | [] => 0
  | x :: r => uptoBulkEntry x + uptoBulkEntries r
def uptoBulkEntry {H : Type} : Lit × DataW H → Nat
  | (.string bytes, d) => bytes.length + uptoBulk d + 1
  | (_, d) => uptoBulk d + 1
 end
def uptoSmall : (H : Type) → List (DataW H) → Bool := fun _ ds => decide (uptoBulkAll ds ≤ 1048576)
def OpenSpec.upto (s : _root_.Go.ChangeSpec) : _root_.Go.OpenSpec := { _root_.Go.OpenSpec.ofChange s with cond := some uptoSmall }

/-- 'laws.FnExactReviveWork', WHERE WHAT IT READS IS OF BULK AT MOST 1048576: true; the input reads as it did. -/
def fnExactReviveWorkUptoRow : OpenClaim := { program := "ytfcimcoanlgldaagreat", sum := "848bb2d328c31bebe837d6c6c5581b018c7525cbf8a7f85edc90b88127ae0acc", func := "loop.example/g03011/laws.FnExactReviveWork", spec := "fnExactReviveWork", apart := false, narrowed := true }
def FnExactReviveWorkUptoSaid : Prop := fnExactReviveWorkUptoRow.holds Tryz.pinned (OpenSpec.upto fnExactReviveWorkSpec)

/-- 'laws.FnExactStartWork', WHERE WHAT IT READS IS OF BULK AT MOST 1048576: true; the input reads as it did. -/
def fnExactStartWorkUptoRow : OpenClaim := { program := "ytfcimcoanlgldaagreat", sum := "848bb2d328c31bebe837d6c6c5581b018c7525cbf8a7f85edc90b88127ae0acc", func := "loop.example/g03011/laws.FnExactStartWork", spec := "fnExactStartWork", unfollowed := true, recurses := true, apart := false, narrowed := true }
def FnExactStartWorkUptoSaid : Prop := fnExactStartWorkUptoRow.holds Tryz.pinned (OpenSpec.upto fnExactStartWorkSpec)

end Rows
end Go.Proofs.YtfcimcoanlgldaaGreat
