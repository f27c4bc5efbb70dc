import Derived.Test.YtbdgahjfipdeoaaGreatDoorRows
import Derived.OpenShut
import Derived.Test.YtbdgahjfipdeoaaGreatDoorB01
/- FnResponses: a part of its proof. No condition. -/
set_option linter.all false
set_option maxRecDepth 100000
namespace Go.Proofs.YtbdgahjfipdeoaaGreatDoor.Closed
open Go.ChangeShapes Go.WideShapes Go.RowKit
def heard:Tryz.pinned.checked.prog.stopsHeard=true:=by kernel_rfl
def enter:Tryz.pinned.checked.prog.mayEnter=true:=by kernel_rfl
def make:Tryz.pinned.checked.prog.make=some Rows.fnResponsesRow.make:=by kernel_rfl
def lifts:Tryz.pinned.checked.prog.liftsFinal=Rows.fnResponsesRow.lifted:=by kernel_rfl
end Go.Proofs.YtbdgahjfipdeoaaGreatDoor.Closed
