/-
  Actors kept as objects: copies, marks, and what reads marks. No condition.
-/
import Derived.Test.YtfcimcoanlgldaaAct5
namespace Go.Proofs.Ytfcimcoanlgldaa
namespace A
set_option linter.unusedVariables false
set_option linter.unusedSimpArgs false
set_option maxRecDepth 100000

theorem TActor.freeI : ∀ (x : TActor) o, o ∈ x.inn → ∀ T, AvRows T o := fun x o ho => flat_free encI_flat _ _ o ho
theorem TActor.viewO {S : List AObj} (x : TActor) (h : ∀ o, o ∈ x.inn → o ∈ S) : ∀ (j : Nat) (a a' : AV), x.encO[j]? = some a → x.enc[j]? = some a' → View S a a' := fun j a a' h1 h2 => by
  match j, h1, h2 with
  | 0, h1, h2 => simp [TActor.encO] at h1; simp [TActor.enc] at h2; subst h1; subst h2; exact .refl _
  | 1, h1, h2 => simp [TActor.encO] at h1; simp [TActor.enc] at h2; subst h1; subst h2; exact .refl _
  | 2, h1, h2 => simp [TActor.encO] at h1; simp [TActor.enc] at h2; subst h1; subst h2; exact .refl _
  | 3, h1, h2 => simp [TActor.encO] at h1; simp [TActor.enc] at h2; subst h1; subst h2; exact view_flat h encI_flat.cells
  | 4, h1, h2 => simp [TActor.encO] at h1; simp [TActor.enc] at h2; subst h1; subst h2; exact .refl _
  | 5, h1, h2 => simp [TActor.encO] at h1; simp [TActor.enc] at h2; subst h1; subst h2; exact .refl _
  | 6, h1, h2 => simp [TActor.encO] at h1; simp [TActor.enc] at h2; subst h1; subst h2; exact .refl _
  | j + 7, h1, h2 => simp [TActor.encO] at h1
theorem view_actor {S : List AObj} {s : SL TActor} (hs : ∀ o, o ∈ s.wood 7 TActor.encO TActor.inn → o ∈ S) : View S (s.ref 7) (s.av 7 TActor.enc) :=
  view_wood hs (fun x => TActor.cells x) (fun _ => rfl) fun x h => TActor.viewO x h
theorem actor_from {c : Nat} {s : SL TActor} (ht : ∀ t, t ∈ tags (s.wood 7 TActor.encO TActor.inn) → c ≤ t) : From c (s.av 7 TActor.enc) := by
  cases s with
  | nil => exact from_nsl c
  | mk t l =>
    have ht' : ∀ u, u ∈ t :: tags (l.flatMap TActor.inn) → c ≤ u := ht
    refine from_slc (ht' t (List.mem_cons_self ..)) fun row hr a ha => ?_
    obtain ⟨x, hx, rfl⟩ := List.mem_map.1 hr
    simp [TActor.enc] at ha
    rcases ha with rfl | rfl | rfl | rfl | rfl | rfl | rfl
    · simp
    · simp
    · simp
    · refine flat_from encI_flat fun u hu => ht' u (List.mem_cons_of_mem _ ?_)
      obtain ⟨o, ho, rfl⟩ := of_mem_tags hu
      exact mem_tags (List.mem_flatMap.2 ⟨x, hx, ho⟩)
    · simp
    · simp
    · simp
end A
end Go.Proofs.Ytfcimcoanlgldaa
