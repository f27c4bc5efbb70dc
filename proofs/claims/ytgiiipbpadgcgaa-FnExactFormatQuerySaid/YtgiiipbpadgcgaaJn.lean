/-
  strings.Join as a function of the small language. No condition.
-/
import Derived.Test.YtgiiipbpadgcgaaShelf
import Derived.Test.YtgiiipbpadgcgaaSlc
namespace Go.Proofs.Ytgiiipbpadgcgaa
namespace A
set_option linter.unusedVariables false
set_option linter.unusedSimpArgs false
open Go.RowKit

/-- A function that leaves what lay below as it was. -/
theorem con_below {P : Program} {f : Nat} {args : List AV} {H : List AObj} {c : Nat} {res : AV} {Q : AV → List AObj → Nat → Prop}
    (h : ∀ (G : Gh) (w : World) (vs : Array Value), G.c = c → Inv G H w.heap → vs.size = args.length → (∀ (j : Nat) (a : AV), args[j]? = some a → Rep G w.heap (vs.getD j undef) a) →
      Calls P f vs w fun e w' => ∃ v, e = .returned v ∧ Below w.heap.size w w' ∧ Rep G w.heap v res) (hq : Q res H c) : Con P f args H c Q := by
  intro G w vs hc I hs hr
  subst hc
  refine (h G w vs rfl I hs hr).mono fun e w' ⟨v, he, hb, hv⟩ => ?_
  have hx : Ext1 G w.heap G w'.heap :=
    ⟨Nat.le_refl _, fun _ _ => rfl, fun _ _ x => x, fun t ht hF => hb.block _ (I.fz t hF).2, fun b c e fr hbb => ⟨c, fr, by
      rw [hb.block b (by
        rcases Nat.lt_or_ge b w.heap.size with h1 | h1
        · exact h1
        · rw [Array.getElem?_eq_none h1] at hbb; cases hbb), hbb], rfl⟩⟩
  refine ⟨v, res, H, G, he, hq, ⟨hx, hb.os, hb.tape, hb.output, hb.size, fun b hbl _ => hb.block b hbl, fun t h1 h2 => absurd h2 (by omega), fun _ _ h => h, fun _ _ h => .inl h⟩, ?_, hv.ext hx⟩
  exact ⟨fun t hF => ⟨(I.fz t hF).1, Nat.lt_of_lt_of_le (I.fz t hF).2 hb.size⟩, fun o ho => (I.obj o ho).ext hx (hb.block _ (I.obj o ho).block), I.nfz, I.nodup, I.inj⟩

def joinL (sep : List UInt8) (l : List (List UInt8)) : List UInt8 := Lib.join l sep
theorem join_fn {t : Nat} {l : List (List UInt8)} {sep : List UInt8} (hl : (joinL sep l).length ≤ 140737488355328) (hn : l.length ≤ 140737488355328) :
    Fnc Try.prog 136 [.slc t 1 (l.map encS), .str sep] (.str (joinL sep l)) := by
  intro c
  refine con_below (res := .str (joinL sep l)) (fun G w vs hc I hs hr => ?_) ⟨rfl, rfl⟩
  obtain ⟨v0, v1, rfl⟩ : ∃ v0 v1, vs = #[v0, v1] := by
    match vs, hs with
    | ⟨[a, b]⟩, _ => exact ⟨a, b, rfl⟩
  have h0 := hr 0 _ rfl
  have h1 := hr 1 _ rfl
  simp at h0 h1
  have hres : Rep G w.heap (.string ⟨(joinL sep l).toArray⟩) (.str (joinL sep l)) := .str (by simp) (by unfold mx; omega)
  cases h1 with
  | @str s _ e hl1 =>
  generalize hrows : l.map encS = rows at h0
  cases h0 with
  | slc0 =>
    have : l = [] := by simpa using hrows
    subst this
    exact (Try.strings_Join_none _ _ _ _).mono fun e w' ⟨h1, h2⟩ => ⟨_, h1, h2 ▸ Below.refl _ _, hres⟩
  | @slc _ _ off cap _ f hF hc' hlen hcap hw hcell hcl hrep =>
    subst hrows
    have hx : ∀ (j : Nat) (x : List UInt8), l[j]? = some x → ∃ s : ByteArray, f j 0 = .string s ∧ s.data.toList = x := fun j x hj => by
      have h2 := hrep j 0 (encS x) (.str x) (by simp [hj]) rfl
      cases hf : f j 0 <;> rw [hf] at h2 <;> cases h2
      exact ⟨_, rfl, by assumption⟩
    have hcells : ∀ (j : Nat) (x : ByteArray), (l.map fun x => (⟨x.toArray⟩ : ByteArray))[j]? = some x → w.cell? ⟨G.m t, _ + j, none⟩ = some (.string x) := fun j x hj => by
      rw [List.getElem?_map, Option.map_eq_some_iff] at hj
      obtain ⟨y, hy, rfl⟩ := hj
      obtain ⟨s', hs', e'⟩ := hx j y hy
      have hc2 := hcell j 0 (encS y) (.str y) (by simp [hy]) rfl
      rw [cell?_eq]
      simp only [Nat.mul_one, Nat.add_zero] at hc2
      rw [hc2, hs']
      subst e'
      simp
    have key := Try.strings_Join _ _ _ _ s w hcells (I.fz t hF).2 (by simp; omega) (by simpa using hcap) (by simp [Function.comp_def, e]; exact hl)
    have key2 : Calls Try.prog 136 #[.slice (some ⟨G.m t, off, none⟩) (l.map encS).length cap, .string s] w fun e w' => e = .returned (.string ⟨(joinL sep l).toArray⟩) ∧ Below w.heap.size w w' := by
      simpa [Function.comp_def, e, joinL] using key
    exact key2.mono fun e w' ⟨h1, h2⟩ => ⟨_, h1, h2, hres⟩
end A
end Go.Proofs.Ytgiiipbpadgcgaa
