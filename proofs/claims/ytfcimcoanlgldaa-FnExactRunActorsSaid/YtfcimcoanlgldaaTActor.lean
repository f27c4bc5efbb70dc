/-
  The type Actor stands in another text. No condition.
-/
import Derived.Test.YtfcimcoanlgldaaTLine
namespace Go.Proofs.Ytfcimcoanlgldaa
namespace A
end A
end Go.Proofs.Ytfcimcoanlgldaa
