/-
  Lists of sessions, kept as objects. No condition.
-/
import Derived.Test.YtgiiipbpadgcgaaMSess
import Derived.Test.YtgiiipbpadgcgaaSlc
namespace Go.Proofs.Ytgiiipbpadgcgaa
namespace A
set_option linter.unusedVariables false
set_option linter.unusedSimpArgs false
set_option maxRecDepth 100000

theorem toSessionSO {s : SL TSession} (h : szSessionS s ≤ 1048576) (c : Nat) : Con Try.prog 21 [s.av 4 TSession.enc] [] c fun r H' _ => ∃ b : SL TSession, r = b.ref 4 ∧ H' = b.wood 4 TSession.enc noInn ∧ b.list.map TSession.con = s.list.map TSession.con := by
  unfold szSessionS at h
  exact toSO_fn (g := 81) (z := [.str [], .str [], .int .i64 0, .int .i64 0]) (bytes := 48) c21 rfl (fun _ => rfl) (fun _ => rfl) (fun x a ha => (TSession.flat x a ha).2) (fun x o ho => by cases ho) (by omega) (by omega)
    (fun x hx c => (TSession.to_fn (by have := szL_mem (sz := TSession.sz) hx; omega) c).mono fun r H' c' _ ⟨hH, ⟨b, hr, hb⟩, _⟩ => ⟨b, hr, hH, hb⟩) c
theorem sessCon {l m : List TSession} (h : l.map TSession.con = m.map TSession.con) : l = m := by
  have e : ∀ l : List TSession, l.map TSession.con = l := fun l => List.map_id' l
  rwa [e, e] at h
end A
end Go.Proofs.Ytgiiipbpadgcgaa
