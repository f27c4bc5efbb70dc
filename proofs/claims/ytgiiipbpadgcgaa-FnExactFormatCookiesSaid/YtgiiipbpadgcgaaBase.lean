/-
  Ranges, and what is asked of all elements. No condition.
-/
import Derived.Test.YtgiiipbpadgcgaaIR
import Derived.Test.YtgiiipbpadgcgaaSlc
namespace Go.Proofs.Ytgiiipbpadgcgaa
namespace A
set_option linter.unusedVariables false
set_option linter.unusedSimpArgs false
set_option maxRecDepth 100000

def inR (x lo hi : Int) : Bool := decide (lo ≤ x) && decide (x ≤ hi)

theorem l1In_fn (x lo hi : Int) : Fnc Try.prog 80 [.int .i64 x, .int .i64 lo, .int .i64 hi] (.bool (inR x lo hi)) := by
  refine fn_of c80 (by simp [F80]) fun c => ?_
  unfold F80 inR
  by_cases h1 : lo ≤ x <;> simp [h1] <;> exact fin_plain ⟨rfl, rfl⟩
theorem inRange_fn (x lo hi : Int) : Fnc Try.prog 83 [.int .i64 x, .int .i64 lo, .int .i64 hi] (.bool (inR x lo hi)) := by
  refine fn_of c83 (by simp [F83]) fun c => ?_
  unfold F83 inR
  by_cases h1 : lo ≤ x <;> simp [h1] <;> exact fin_plain ⟨rfl, rfl⟩
theorem inR_true {x lo hi : Int} (h : inR x lo hi = true) : lo ≤ x ∧ x ≤ hi := by simpa [inR] using h

theorem all_step {α : Type} {p : α → Bool} {l : List α} {i : Nat} (h : (l.take i).all p = true) (hi : i < l.length) (hx : p l[i] = true) : (l.take (i + 1)).all p = true := by
  rw [List.take_succ_eq_append_getElem hi, List.all_append, h]; simp [hx]
end A
end Go.Proofs.Ytgiiipbpadgcgaa
