/-
  The code that a law of the second kind is given: a slice of bytes. No condition.
-/
import Derived.Test.YtgiiipbpadgcgaaCur
import Derived.Test.YtgiiipbpadgcgaaFam
namespace Go.Proofs.Ytgiiipbpadgcgaa
namespace A
set_option linter.unusedVariables false
theorem shByteS {n : Nat} {a : AV} (h : ShC Try.prog n 49 [a]) : ∃ s : SL Int, a = s.av 1 encU ∧ s.list.length ≤ mx := by
  obtain ⟨s, h1, h2, h3⟩ := sh_slc (P := Try.prog) (t := 49) (el := 5) (w := 1) (enc := encU) (ok := fun _ => True) (by kernel_rfl) (by kernel_rfl) (fun n row h => by obtain ⟨i, h1, _⟩ := sh_int1 (k := .u8) (P := Try.prog) (t := 5) (by kernel_rfl) h; exact ⟨i, h1, trivial⟩) h
  exact ⟨s, h1, h2⟩
end A
end Go.Proofs.Ytgiiipbpadgcgaa
