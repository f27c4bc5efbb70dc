/-
  Calls that are handed objects, or hand objects back. No condition.
-/
import Derived.Test.YtbjefkkbmbgakaaFam
namespace Go.Proofs.Ytbjefkkbmbgakaa
namespace A
set_option linter.unusedVariables false
section
variable {P : Program} {H : List AObj} {c : Nat} {K : AV → List AObj → Nat → Prop}

theorem From.nil {c : Nat} {a : AV} (h : From c a) : Av [] a := h [] (by simp)

/-- A call that is handed all the objects. -/
theorem call_con {f : Nat} {as : List AV} {Q : AV → List AObj → Nat → Prop} (hf : Con P f as H c Q)
    (k : ∀ r H' c', c ≤ c' → Q r H' c' → (∀ t, t < c → t ∈ tags H' → t ∈ tags H) → (tags H').Nodup → Av [] r ∧ (∀ o, o ∈ H' → AvRows [] o) ∧ K r H' c') : CallW P f as H c K := by
  intro hn hlt
  obtain ⟨h1, h2⟩ := (Views.refl [] as).spec
  refine ⟨H, [], as, Q, List.Sublist.refl _, by simp, by simp [tags], h1, h2, hf, fun r H' c' hc hq ho hd => ?_⟩
  obtain ⟨k1, k2, k3⟩ := k r H' c' hc hq ho hd
  exact ⟨H', r, fun o h => .inl h, hd, .refl r, k1, fun o h _ => k2 o h, k3⟩

/-- Any run of objects may be left out of a call, and only read there. -/
theorem call_part {f : Nat} {as as' : List AV} {H1 S : List AObj} {Q : AV → List AObj → Nat → Prop} (hsub : H1.Sublist H) (hS : ∀ o, o ∈ S → o ∈ H) (hd : ∀ t, t ∈ tags H1 → t ∉ tags S) (hv : Views S as as') (hf : Con P f as' H1 c Q)
    (k : ∀ r H1' c', c ≤ c' → Q r H1' c' → (∀ t, t < c → t ∈ tags H1' → t ∈ tags H1) → (tags H1').Nodup → ∃ H' r', (∀ o, o ∈ H' → o ∈ H1' ∨ (o ∈ H ∧ o.tag ∉ tags H1)) ∧ (tags H').Nodup ∧ View [] r r' ∧ Av (tags S) r' ∧
      (∀ o, o ∈ H' → o ∈ H1' → AvRows (tags S) o) ∧ K r' H' c') : CallW P f as H c K := by
  intro hn hlt
  obtain ⟨h1, h2⟩ := hv.spec
  exact ⟨H1, S, as', Q, hsub, hS, hd, h1, h2, hf, k⟩

@[simp] theorem callvW_fn (f : Nat) (caps as : List AV) : callvW P (.fn f caps) as H c K = (bodyOk P f = true ∧ CallW P f (as ++ caps) H c K) := (rfl)

/-- A variable seen as what it holds. -/
theorem view_ptr {S : List AObj} {i tag w r o : Nat} {rows : List (List AV)} {row : List AV} (ho : (⟨false, tag, w, rows⟩ : AObj) ∈ S) (hrow : rows[r]? = some row) (hc : ∀ a, a ∈ row → a.cell = true) : View S (.ptr i tag w r o) (.cpt row o) :=
  .ptr ho hrow rfl (fun j a ha => hc a (List.mem_of_getElem? ha)) fun j a a' h1 h2 => by rw [h1] at h2; cases h2; exact .refl _

/-- All the objects are handed back. -/
theorem fin_all {Q : AV → List AObj → Nat → Prop} {v : AV} (h : Q v H c) : finW Q v H c := ⟨[], H, v, List.Sublist.refl _, by simp, by simp [tags], .refl v, h⟩

theorem avRows_of {T : List Nat} {o : AObj} (h : ∀ row, row ∈ o.rows → ∀ a, a ∈ row → Av T a) : AvRows T o := fun r j x a hr ha => h x (List.mem_of_getElem? hr) a (List.mem_of_getElem? ha)
end
end A
end Go.Proofs.Ytbjefkkbmbgakaa
