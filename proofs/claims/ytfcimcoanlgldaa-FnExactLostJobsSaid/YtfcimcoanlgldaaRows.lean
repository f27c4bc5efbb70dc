/-
  No cell of these rows narrows 'for every input' (looked for: loops, veiled, ifaces, maps, wideKeys, modest, calm, conditions, laid).
  DERIVED. THE GIVEN ROWS OF THIS SEAT. 3 by the template 'for every input the law returns true; each argument reads behind the call as it read before'; 0 by the template 'total and deterministic' (their statements: YtfcimcoanlgldaaTotals.lean).
  GIVEN WITH THE SEED: the statements are not yours to turn. If you find one false, say at which input.
  Laid BY PROGRAM, IN A SANDBOX (cutbox-rows.mjs): the forced cells as the released guide's own fill.sh prints them over the translation 71083c3bd002cfb2… (all of the seat's roots in one cut). By AI agents, Wed Nov 11 2026. No macro, syntax, notation, axiom, sorry.
-/
import Derived.Test.YtfcimcoanlgldaaChecked
import GoSem.Claim
import GoSem.ClaimJoined
import GoSem.ClaimMapViews
import Derived.JoinedTies
import Derived.KernelRfl
namespace Go.Proofs.Ytfcimcoanlgldaa
/- THE CELL 'sum', in the pinned program and in every row, IS THE sha256 OF THE DUMP (.gsa) THAT YtfcimcoanlgldaaProg.lean LOADS. Nothing in Lean hashes anything: it is a label: what it is worth is what the hold of that sum in a sandbox is worth. -/
noncomputable def Try.pinned : Pinned := { name := "ytfcimcoanlgldaa", sum := "71083c3bd002cfb26aa9a5fb1230decc636ea7bf9ed936d07e8f06f966fbc668", checked := Try.checked }
namespace Rows
def none {H : Type} : Left H := { results := [], args := [] }

/-- 'laws.FnExactRunActors': WHATEVER THE INPUT: true; the input reads as it did. -/
def fnExactRunActorsSpec : ChangeSpec := { name := "fnExactRunActors", fn := fun _ => fun
  | [d1, d2, d3] => { results := [.lit (.bool true)], args := [d1, d2, d3] }
  | _ => none }
def fnExactRunActorsRow : OpenClaim := { program := "ytfcimcoanlgldaa", sum := "71083c3bd002cfb26aa9a5fb1230decc636ea7bf9ed936d07e8f06f966fbc668", func := "loop.example/g03011/laws.FnExactRunActors", spec := "fnExactRunActors", apart := false }
def FnExactRunActorsSaid : Prop := fnExactRunActorsRow.holds Try.pinned (OpenSpec.ofChange fnExactRunActorsSpec)

/-- ITS FALSE NEIGHBOUR: 'it returns false'. Refute it at one input. -/
def fnExactRunActorsWrong : ChangeSpec := { name := "fnExactRunActors", fn := fun _ => fun
  | [d1, d2, d3] => { results := [.lit (.bool false)], args := [d1, d2, d3] }
  | _ => none }
def FnExactRunActorsWrongFalsely : Prop := fnExactRunActorsRow.holds Try.pinned (OpenSpec.ofChange fnExactRunActorsWrong)

/-- 'laws.FnExactJobPlaces': WHATEVER THE INPUT: true; the input reads as it did. -/
def fnExactJobPlacesSpec : ChangeSpec := { name := "fnExactJobPlaces", fn := fun _ => fun
  | [d1, d2] => { results := [.lit (.bool true)], args := [d1, d2] }
  | _ => none }
def fnExactJobPlacesRow : OpenClaim := { program := "ytfcimcoanlgldaa", sum := "71083c3bd002cfb26aa9a5fb1230decc636ea7bf9ed936d07e8f06f966fbc668", func := "loop.example/g03011/laws.FnExactJobPlaces", spec := "fnExactJobPlaces", apart := false }
def FnExactJobPlacesSaid : Prop := fnExactJobPlacesRow.holds Try.pinned (OpenSpec.ofChange fnExactJobPlacesSpec)

/-- ITS FALSE NEIGHBOUR: 'it returns false'. Refute it at one input. -/
def fnExactJobPlacesWrong : ChangeSpec := { name := "fnExactJobPlaces", fn := fun _ => fun
  | [d1, d2] => { results := [.lit (.bool false)], args := [d1, d2] }
  | _ => none }
def FnExactJobPlacesWrongFalsely : Prop := fnExactJobPlacesRow.holds Try.pinned (OpenSpec.ofChange fnExactJobPlacesWrong)

/-- 'laws.FnExactLostJobs': WHATEVER THE INPUT: true; the input reads as it did. -/
def fnExactLostJobsSpec : ChangeSpec := { name := "fnExactLostJobs", fn := fun _ => fun
  | [d] => { results := [.lit (.bool true)], args := [d] }
  | _ => none }
def fnExactLostJobsRow : OpenClaim := { program := "ytfcimcoanlgldaa", sum := "71083c3bd002cfb26aa9a5fb1230decc636ea7bf9ed936d07e8f06f966fbc668", func := "loop.example/g03011/laws.FnExactLostJobs", spec := "fnExactLostJobs", apart := false }
def FnExactLostJobsSaid : Prop := fnExactLostJobsRow.holds Try.pinned (OpenSpec.ofChange fnExactLostJobsSpec)

/-- ITS FALSE NEIGHBOUR: 'it returns false'. Refute it at one input. -/
def fnExactLostJobsWrong : ChangeSpec := { name := "fnExactLostJobs", fn := fun _ => fun
  | [d] => { results := [.lit (.bool false)], args := [d] }
  | _ => none }
def FnExactLostJobsWrongFalsely : Prop := fnExactLostJobsRow.holds Try.pinned (OpenSpec.ofChange fnExactLostJobsWrong)

/- THE SECOND FORM. 'bulk': how many values and letters a reading holds, each counted each time it is reached (what is shared counts as often as it is met; a slice's spare places count too). A statement '..UptoSaid' is the law's where the arguments, and the package variables that the reading takes, are together of bulk at most 1048576: NARROWER than '..Said'. Prove '..Said' where nothing that the law and all that it calls make is longer than what came in: it says more and counts as full. Else prove '..UptoSaid'. A law counts once. -/
mutual
def uptoBulk {H : Type} : DataW H → Nat
  | .lit (.string bytes) => bytes.length + 1
  | .lit _ => 1
  | .nil => 1
  | .ptr d => uptoBulk d + 1
  | .slice elems spare => uptoBulkAll elems + uptoBulkAll spare + 1
  | .agg parts => uptoBulkAll parts + 1
  | .iface _ d => uptoBulk d + 1
  | .map entries => uptoBulkEntries entries + 1
  | .held _ => 1
def uptoBulkAll {H : Type} : List (DataW H) → Nat
  | [] => 0
  | d :: r => uptoBulk d + uptoBulkAll r
def uptoBulkEntries {H : Type} : List (Lit × DataW H) → Nat
  | [] => 0
  | x :: r => uptoBulkEntry x + uptoBulkEntries r
def uptoBulkEntry {H : Type} : Lit × DataW H → Nat
  | (.string bytes, d) => bytes.length + uptoBulk d + 1
  | (_, d) => uptoBulk d + 1
 end
def uptoSmall : (H : Type) → List (DataW H) → Bool := fun _ ds => decide (uptoBulkAll ds ≤ 1048576)
def OpenSpec.upto (s : _root_.Go.ChangeSpec) : _root_.Go.OpenSpec := { _root_.Go.OpenSpec.ofChange s with cond := some uptoSmall }

/-- 'laws.FnExactRunActors', WHERE WHAT IT READS IS OF BULK AT MOST 1048576: true; the input reads as it did. -/
def fnExactRunActorsUptoRow : OpenClaim := { program := "ytfcimcoanlgldaa", sum := "71083c3bd002cfb26aa9a5fb1230decc636ea7bf9ed936d07e8f06f966fbc668", func := "loop.example/g03011/laws.FnExactRunActors", spec := "fnExactRunActors", apart := false, narrowed := true }
def FnExactRunActorsUptoSaid : Prop := fnExactRunActorsUptoRow.holds Try.pinned (OpenSpec.upto fnExactRunActorsSpec)

/-- 'laws.FnExactJobPlaces', WHERE WHAT IT READS IS OF BULK AT MOST 1048576: true; the input reads as it did. -/
def fnExactJobPlacesUptoRow : OpenClaim := { program := "ytfcimcoanlgldaa", sum := "71083c3bd002cfb26aa9a5fb1230decc636ea7bf9ed936d07e8f06f966fbc668", func := "loop.example/g03011/laws.FnExactJobPlaces", spec := "fnExactJobPlaces", apart := false, narrowed := true }
def FnExactJobPlacesUptoSaid : Prop := fnExactJobPlacesUptoRow.holds Try.pinned (OpenSpec.upto fnExactJobPlacesSpec)

/-- 'laws.FnExactLostJobs', WHERE WHAT IT READS IS OF BULK AT MOST 1048576: true; the input reads as it did. -/
def fnExactLostJobsUptoRow : OpenClaim := { program := "ytfcimcoanlgldaa", sum := "71083c3bd002cfb26aa9a5fb1230decc636ea7bf9ed936d07e8f06f966fbc668", func := "loop.example/g03011/laws.FnExactLostJobs", spec := "fnExactLostJobs", apart := false, narrowed := true }
def FnExactLostJobsUptoSaid : Prop := fnExactLostJobsUptoRow.holds Try.pinned (OpenSpec.upto fnExactLostJobsSpec)

end Rows
end Go.Proofs.Ytfcimcoanlgldaa
