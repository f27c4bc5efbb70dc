/-
  Facts of the whole program that every row of the seat asks, each worked out once. No condition.
-/
import Derived.Test.YtfcimcoanlgldaaRows
import Derived.OpenShut
namespace Go.Proofs.Ytfcimcoanlgldaa.Closed
open Go.ChangeShapes Go.WideShapes Go.RowKit
theorem heard : Try.pinned.checked.prog.stopsHeard = true := by kernel_rfl
theorem enter : Try.pinned.checked.prog.mayEnter = true := by kernel_rfl
theorem make : Try.pinned.checked.prog.make = some Rows.fnExactRunActorsRow.make := by kernel_rfl
theorem lifts : Try.pinned.checked.prog.liftsFinal = Rows.fnExactRunActorsRow.lifted := by kernel_rfl
end Go.Proofs.Ytfcimcoanlgldaa.Closed
