/-
  A reader that is done has read whole words, whatever the order of the accesses: in plain words. No condition.
-/
import Derived.Test.YtfcimcoanlgldaaActP
namespace Go.Proofs.Ytfcimcoanlgldaa
namespace A
set_option linter.unusedVariables false
set_option linter.unusedSimpArgs false

/-- Where the words of a line come from: the beginning, or a writer that is done. -/
def Src (l0 : List PL) (as : List PA) (k : Nat) (v : Int) (ws : List Int) : Prop :=
  (∃ x, l0[k]? = some x ∧ x.Version = v ∧ x.Words = ws) ∨ ∃ w, w ∈ as ∧ w.Writer = true ∧ w.State = 2 ∧ w.Line.toNat = k ∧ w.Version = v ∧ w.Words = ws
theorem mem_set_of {α : Type} {l : List α} {i : Nat} {a a' w : α} (ha : l[i]? = some a) (hw : w ∈ l) (h : w = a → a' = a) : w ∈ l.set i a' := by
  obtain ⟨j, hj, rfl⟩ := List.mem_iff_getElem.1 hw
  obtain ⟨hi, e⟩ := List.getElem?_eq_some_iff.1 ha
  by_cases hij : i = j
  · subst hij
    have h2 := h e
    rw [e, ← h2]
    exact List.mem_set hi a'
  · exact List.mem_iff_getElem.2 ⟨j, by simpa using hj, by rw [List.getElem_set_ne hij]⟩
theorem Src.mono {l0 : List PL} {as : List PA} {i k : Nat} {v : Int} {ws : List Int} {a a' : PA} (h : Src l0 as k v ws) (ha : as[i]? = some a) (hd : a.Writer = true → a.State = 2 → a' = a) : Src l0 (as.set i a') k v ws := by
  rcases h with h | ⟨w, hw, h1, h2, h3⟩
  · exact .inl h
  · exact .inr ⟨w, mem_set_of ha hw (fun e => by subst e; exact hd h1 h2), h1, h2, h3⟩

structure LOk (B n : Nat) (x : PL) : Prop where
  s0 : 0 ≤ x.Seq
  s1 : x.Seq ≤ B + n
  o0 : 0 ≤ x.Owner
  o1 : x.Owner ≤ 8
  v0 : 0 ≤ x.Version
  v1 : x.Version ≤ 1000000000000
  w : x.Words.length ≤ 4100
  p : x.Seq.tmod 2 = 1 ↔ 0 < x.Owner
structure AOk (a : PA) : Prop where
  v0 : 1 ≤ a.Version
  v1 : a.Version ≤ 1000000000000
  w : a.Words.length ≤ 4100
  r : a.State = 0 → a.At = 0 ∧ (a.Writer = false → a.Words = [])
/-- A writer at work holds its line. -/
def WrI (i : Nat) (a : PA) (x : PL) : Prop := x.Owner = (i : Int) + 1 ∧ 0 ≤ a.At ∧ (1 ≤ a.At → x.Version = a.Version ∧ a.At - 1 ≤ a.Words.length ∧ x.Words = a.Words.take (a.At - 1).toNat)
/-- A reader at work has read what stands there, if nobody wrote. -/
def RdI (a : PA) (x : PL) : Prop := a.Seq ≤ x.Seq ∧ ¬ a.Seq.tmod 2 = 1 ∧ (0 ≤ a.At ∧ (1 ≤ a.At → (a.Words.length : Int) = a.At - 1)) ∧ (a.At = 0 → a.Words = []) ∧ (x.Seq = a.Seq → 1 ≤ a.At → x.Version = a.Version ∧ a.At - 1 ≤ x.Words.length ∧ a.Words = x.Words.take (a.At - 1).toNat)
structure NT (B : Nat) (l0 : List PL) (n : Nat) (p : List PL × List PA) : Prop where
  al : p.2.length ≤ 8
  ok : ∀ x, x ∈ p.1 → LOk B n x
  ao : ∀ a, a ∈ p.2 → AOk a
  wr : ∀ (i : Nat) a, p.2[i]? = some a → a.Writer = true → a.State = 1 → ∃ x, p.1[a.Line.toNat]? = some x ∧ WrI i a x
  rd : ∀ (i : Nat) a, p.2[i]? = some a → a.Writer = false → a.State = 1 → ∃ x, p.1[a.Line.toNat]? = some x ∧ RdI a x
  src : ∀ (k : Nat) x, p.1[k]? = some x → ¬ x.Seq.tmod 2 = 1 → x.Version = 0 ∨ Src l0 p.2 k x.Version x.Words
  dn : ∀ a, a ∈ p.2 → a.Writer = false → a.State = 2 → Src l0 p.2 a.Line.toNat a.Version a.Words

theorem LOk.succ {B n : Nat} {x : PL} (h : LOk B n x) : LOk B (n + 1) x := ⟨h.s0, by have := h.s1; omega, h.o0, h.o1, h.v0, h.v1, h.w, h.p⟩
theorem NT.succ {B : Nat} {l0 : List PL} {n : Nat} {p : List PL × List PA} (h : NT B l0 n p) : NT B l0 (n + 1) p := ⟨h.al, fun x hx => (h.ok x hx).succ, h.ao, h.wr, h.rd, h.src, h.dn⟩

/-- One actor and its line change. -/
theorem NT.upd {B : Nat} {l0 : List PL} {n i : Nat} {p : List PL × List PA} (h : NT B l0 n p) {a a' : PA} {x x' : PL} (ha : p.2[i]? = some a) (hx : p.1[a.Line.toNat]? = some x)
    (h1 : LOk B (n + 1) x') (h2 : AOk a') (hl : a'.Line = a.Line) (hk : a.Writer = true → a.State = 2 → a' = a)
    (h3 : a'.Writer = true → a'.State = 1 → WrI i a' x') (h4 : x' = x ∨ x.Owner = (i : Int) + 1 ∨ x.Owner = 0)
    (h5 : a'.Writer = false → a'.State = 1 → RdI a' x') (h6 : x' = x ∨ x.Seq < x'.Seq ∨ (x'.Seq = x.Seq ∧ x.Seq.tmod 2 = 1))
    (h7 : ¬ x'.Seq.tmod 2 = 1 → x'.Version = 0 ∨ Src l0 (p.2.set i a') a.Line.toNat x'.Version x'.Words)
    (h8 : a'.Writer = false → a'.State = 2 → Src l0 (p.2.set i a') a'.Line.toNat a'.Version a'.Words) : NT B l0 (n + 1) (p.1.set a.Line.toNat x', p.2.set i a') := by
  obtain ⟨hi, ea⟩ := List.getElem?_eq_some_iff.1 ha
  obtain ⟨hL, ex⟩ := List.getElem?_eq_some_iff.1 hx
  have gl : ∀ k : Nat, (p.1.set a.Line.toNat x')[k]? = if a.Line.toNat = k then some x' else p.1[k]? := fun k => by
    rw [List.getElem?_set]; split
    · rename_i e; subst e; simp [hL]
    · rfl
  have ga : ∀ k : Nat, (p.2.set i a')[k]? = if i = k then some a' else p.2[k]? := fun k => by
    rw [List.getElem?_set]; split
    · rename_i e; subst e; simp [hi]
    · rfl
  refine ⟨by simpa using h.al, fun y hy => ?_, fun y hy => ?_, fun j b hb hw hs => ?_, fun j b hb hw hs => ?_, fun k y hy hp => ?_, fun b hb hw hs => ?_⟩
  · rcases List.mem_or_eq_of_mem_set hy with q | rfl
    · exact (h.ok y q).succ
    · exact h1
  · rcases List.mem_or_eq_of_mem_set hy with q | rfl
    · exact h.ao y q
    · exact h2
  · rw [ga] at hb
    split at hb
    · rename_i e; subst e; cases hb
      exact ⟨x', by rw [gl, hl, if_pos rfl], h3 hw hs⟩
    · rename_i hne
      obtain ⟨y, hy, hI⟩ := h.wr j b hb hw hs
      show ∃ x_1, (p.1.set a.Line.toNat x')[b.Line.toNat]? = some x_1 ∧ WrI j b x_1
      rw [gl]
      split
      · rename_i e
        rw [← e, hx] at hy; cases hy
        rcases h4 with rfl | q | q
        · exact ⟨_, rfl, hI⟩
        · have := hI.1; omega
        · have := hI.1; omega
      · exact ⟨y, hy, hI⟩
  · rw [ga] at hb
    split at hb
    · rename_i e; subst e; cases hb
      exact ⟨x', by rw [gl, hl, if_pos rfl], h5 hw hs⟩
    · rename_i hne
      obtain ⟨y, hy, hI⟩ := h.rd j b hb hw hs
      show ∃ x_1, (p.1.set a.Line.toNat x')[b.Line.toNat]? = some x_1 ∧ RdI b x_1
      rw [gl]
      split
      · rename_i e
        rw [← e, hx] at hy; cases hy
        refine ⟨x', rfl, ?_⟩
        obtain ⟨q1, q2, q3, q4, q5⟩ := hI
        rcases h6 with rfl | q | ⟨qa, qb⟩
        · exact ⟨q1, q2, q3, q4, q5⟩
        · exact ⟨by omega, q2, q3, q4, fun e => by omega⟩
        · refine ⟨by omega, q2, q3, q4, fun e => ?_⟩
          rw [qa] at e; rw [e] at qb; exact absurd qb q2
      · exact ⟨y, hy, hI⟩
  · have hy' : (p.1.set a.Line.toNat x')[k]? = some y := hy
    rw [gl] at hy'
    split at hy'
    · rename_i e; subst e; cases hy'
      exact h7 hp
    · rcases h.src k y hy' hp with q | q
      · exact .inl q
      · exact .inr (q.mono ha hk)
  · rcases List.mem_or_eq_of_mem_set hb with q | rfl
    · exact (h.dn b q hw hs).mono ha hk
    · exact h8 hw hs

theorem take_snoc {l : List Int} {n : Nat} (h : n < l.length) : l.take n ++ [l.getD n 0] = l.take (n + 1) := by
  rw [List.take_succ_eq_append_getElem h]; simp [List.getD, List.getElem?_eq_getElem h]

theorem NT.acc {B : Nat} {l0 : List PL} {n i : Nat} {p : List PL × List PA} (h : NT B l0 n p) : NT B l0 (n + 1) (accAt i p) := by
  unfold accAt
  split
  · exact h.succ
  rename_i a ha
  split
  · exact h.succ
  rename_i x hx
  have hax := h.ao a (List.mem_of_getElem? ha)
  have hlx := h.ok x (List.mem_of_getElem? hx)
  obtain ⟨hi, e'⟩ := List.getElem?_eq_some_iff.1 ha
  have hal := h.al
  have hwr := h.wr i a ha
  have hrd := h.rd i a ha
  have hsrc := h.src _ x hx
  have hself : p.2.set i a = p.2 := List.ext_getElem? fun k => by
    rw [List.getElem?_set]; split
    · rename_i e; subst e; simp [hi]; exact e'.symm
    · rfl
  unfold A.acc
  split
  · -- nothing
    rename_i hs
    refine h.upd ha hx hlx.succ hax rfl (fun _ _ => rfl) (fun _ e => absurd (.inr e) hs) (.inl rfl) (fun _ e => absurd (.inr e) hs) (.inl rfl) (fun e => by rw [hself]; exact hsrc e) (fun e1 e2 => by rw [hself]; exact h.dn a (List.mem_of_getElem? ha) e1 e2)
  rename_i hs
  have hs : a.State = 0 ∨ a.State = 1 := Decidable.not_not.1 hs
  have hk : ∀ a' : PA, a.Writer = true → a.State = 2 → a' = a := fun a' _ e => by omega
  have keep : ∀ a' : PA, ¬ x.Seq.tmod 2 = 1 → x.Version = 0 ∨ Src l0 (p.2.set i a') a.Line.toNat x.Version x.Words := fun a' e => (hsrc e).imp id fun q => q.mono ha (hk a')
  split
  · rename_i h0
    obtain ⟨hr1, hr2⟩ := hax.r h0
    split
    · rename_i hp
      by_cases hw : a.Writer = true
      · rw [if_pos hw]
        exact h.upd (a' := a) (x' := x) ha hx hlx.succ hax rfl (fun _ _ => rfl) (fun _ e => by omega) (.inl rfl) (fun _ e => by omega) (.inl rfl) (fun e => by rw [hself]; exact hsrc e) (fun e1 e2 => by omega)
      · rw [if_neg hw]
        have hw : a.Writer = false := by simpa using hw
        exact h.upd (a' := { a with State := 3 }) ha hx hlx.succ ⟨hax.v0, hax.v1, hax.w, by simp⟩ rfl (hk _) (fun _ e => by simp at e) (.inl rfl) (fun _ e => by simp at e) (.inl rfl) (keep _) (fun e1 e2 => by simp at e2)
    · rename_i hp
      have hO : x.Owner = 0 := by have := hlx.o0; have := mt hlx.p.2 hp; omega
      have hS := hlx.s0
      have hS1 := hlx.s1
      have hp2 : x.Seq % 2 = 0 := by rw [Int.tmod_eq_emod_of_nonneg hS] at hp; omega
      by_cases hw : a.Writer = true
      · rw [if_pos hw]
        refine h.upd (a' := { a with State := 1, At := 0 }) (x' := { x with Seq := x.Seq + 1, Owner := (i : Int) + 1 }) ha hx ⟨by simp; omega, by simp; omega, by simp; omega, by simp; omega, hlx.v0, hlx.v1, hlx.w, ?_⟩ ⟨hax.v0, hax.v1, hax.w, by simp⟩ rfl (hk _) (fun _ _ => ⟨rfl, by simp, by simp⟩) (.inr (.inr hO)) (fun e => by simp [hw] at e) (.inr (.inl (by simp; omega))) (fun e => ?_) (fun e1 e2 => by simp at e2)
        · simp only
          rw [Int.tmod_eq_emod_of_nonneg (by omega)]; omega
        · simp only at e
          rw [Int.tmod_eq_emod_of_nonneg (by omega)] at e; omega
      · rw [if_neg hw]
        have hw : a.Writer = false := by simpa using hw
        refine h.upd (a' := { a with State := 1, At := 0, Seq := x.Seq }) ha hx hlx.succ ⟨hax.v0, hax.v1, hax.w, by simp⟩ rfl (hk _) (fun e => by simp [hw] at e) (.inl rfl) (fun _ _ => ⟨by simp, hp, ⟨by simp, by simp⟩, fun _ => hr2 hw, by simp⟩) (.inl rfl) (keep _) (fun e1 e2 => by simp at e2)
  rename_i h0
  have h1 : a.State = 1 := by omega
  split
  · rename_i hw
    obtain ⟨y, hy, hI⟩ := hwr hw h1
    rw [hx] at hy; cases hy
    obtain ⟨q1, q2, q3⟩ := hI
    have hodd : x.Seq.tmod 2 = 1 := hlx.p.2 (by omega)
    split
    · rename_i hat
      refine h.upd (a' := { a with At := a.At + 1 }) (x' := { x with Version := a.Version, Words := [] }) ha hx ⟨hlx.s0, hlx.succ.s1, hlx.o0, hlx.o1, by have := hax.v0; simp; omega, hax.v1, by simp, hlx.p⟩ ⟨hax.v0, hax.v1, hax.w, fun e => absurd e h0⟩ rfl (hk _) (fun _ _ => ⟨q1, by simp; omega, fun _ => ⟨rfl, by simp; omega, by simp [hat]⟩⟩) (.inr (.inl q1)) (fun e => by simp [hw] at e) (.inr (.inr ⟨rfl, hodd⟩)) (fun e => absurd hodd e) (fun e1 e2 => by simp [hw] at e1)
    · rename_i hat
      obtain ⟨r1, r2, r3⟩ := q3 (by omega)
      split
      · rename_i hle
        have hlt : (a.At - 1).toNat < a.Words.length := by omega
        have ht : x.Words ++ [a.Words.getD (a.At - 1).toNat 0] = a.Words.take ((a.At + 1) - 1).toNat := by
          rw [r3, take_snoc hlt]; congr 1; omega
        have hwl := hax.w
        refine h.upd (a' := { a with At := a.At + 1 }) (x' := { x with Words := x.Words ++ [a.Words.getD (a.At - 1).toNat 0] }) ha hx ⟨hlx.s0, hlx.succ.s1, hlx.o0, hlx.o1, hlx.v0, hlx.v1, by rw [show ({ x with Words := x.Words ++ [a.Words.getD (a.At - 1).toNat 0] } : PL).Words = x.Words ++ [a.Words.getD (a.At - 1).toNat 0] from rfl, ht, List.length_take]; omega, hlx.p⟩ ⟨hax.v0, hax.v1, hax.w, fun e => absurd e h0⟩ rfl (hk _) (fun _ _ => ⟨q1, by simp; omega, fun _ => ⟨r1, by simp; omega, ht⟩⟩) (.inr (.inl q1)) (fun e => by simp [hw] at e) (.inr (.inr ⟨rfl, hodd⟩)) (fun e => absurd hodd e) (fun e1 e2 => by simp [hw] at e1)
      · rename_i hle
        have ht : x.Words = a.Words := by rw [r3, List.take_of_length_le (by omega)]
        have hS := hlx.s0
        have hS1 := hlx.s1
        have hp2 : x.Seq % 2 = 1 := by rw [Int.tmod_eq_emod_of_nonneg hS] at hodd; omega
        refine h.upd (a' := { a with State := 2 }) (x' := { x with Seq := x.Seq + 1, Owner := 0 }) ha hx ⟨by simp; omega, by simp; omega, by simp, by simp, hlx.v0, hlx.v1, hlx.w, ?_⟩ ⟨hax.v0, hax.v1, hax.w, by simp⟩ rfl (hk _) (fun _ e => by simp at e) (.inr (.inl q1)) (fun e => by simp [hw] at e) (.inr (.inl (by simp; omega))) (fun e => .inr (.inr ⟨{ a with State := 2 }, List.mem_set hi _, hw, rfl, rfl, r1.symm, ht.symm⟩)) (fun e1 e2 => by simp [hw] at e1)
        simp only
        rw [Int.tmod_eq_emod_of_nonneg (by omega)]; omega
  · rename_i hw
    have hw : a.Writer = false := by simpa using hw
    obtain ⟨y, hy, hI⟩ := hrd hw h1
    rw [hx] at hy; cases hy
    obtain ⟨q1, q2, q3, q4, q5⟩ := hI
    split
    · rename_i hat
      split
      · rename_i hv
        refine h.upd (a' := { a with At := a.At + 1 }) ha hx hlx.succ ⟨hax.v0, hax.v1, hax.w, fun e => absurd e h0⟩ rfl (hk _) (fun e => by simp [hw] at e) (.inl rfl) (fun _ _ => ⟨q1, q2, ⟨by simp; omega, fun _ => by simp [hat, q4 hat]⟩, fun e => by simp at e; omega, fun _ _ => ⟨hv, by simp; omega, by simp [hat, q4 hat]⟩⟩) (.inl rfl) (keep _) (fun e1 e2 => by simp [h1] at e2)
      · exact h.upd (a' := { a with State := 3 }) ha hx hlx.succ ⟨hax.v0, hax.v1, hax.w, by simp⟩ rfl (hk _) (fun _ e => by simp at e) (.inl rfl) (fun _ e => by simp at e) (.inl rfl) (keep _) (fun e1 e2 => by simp at e2)
    · rename_i hat
      split
      · rename_i hle
        have hlt : (a.At - 1).toNat < x.Words.length := by omega
        refine h.upd (a' := { a with Words := a.Words ++ [x.Words.getD (a.At - 1).toNat 0], At := a.At + 1 }) ha hx hlx.succ ⟨hax.v0, hax.v1, by have := q3.2 (by omega); have := hlx.w; simp; omega, fun e => absurd e h0⟩ rfl (hk _) (fun e => by simp [hw] at e) (.inl rfl) (fun _ _ => ⟨q1, q2, ⟨by simp; omega, fun _ => by have := q3.2 (by omega); simp; omega⟩, fun e => by simp at e; omega, fun e _ => ?_⟩) (.inl rfl) (keep _) (fun e1 e2 => by simp [h1] at e2)
        obtain ⟨r1, r2, r3⟩ := q5 e (by omega)
        refine ⟨r1, by simp; omega, ?_⟩
        simp only
        rw [r3, take_snoc hlt]; congr 1; omega
      · rename_i hle
        refine h.upd (a' := { a with State := if x.Seq = a.Seq then 2 else 3 }) ha hx hlx.succ ⟨hax.v0, hax.v1, hax.w, fun e => by simp at e; split at e <;> simp at e⟩ rfl (hk _) (fun e => by simp [hw] at e) (.inl rfl) (fun _ e => by simp at e; split at e <;> simp at e) (.inl rfl) (keep _) (fun e1 e2 => ?_)
        simp only at e2
        split at e2
        · rename_i hq
          obtain ⟨r1, r2, r3⟩ := q5 hq (by omega)
          have hev : ¬ x.Seq.tmod 2 = 1 := by rw [hq]; exact q2
          have ht : a.Words = x.Words := by rw [r3, List.take_of_length_le (by omega)]
          rcases keep { a with State := if x.Seq = a.Seq then 2 else 3 } hev with q | q
          · have := hax.v0; omega
          · rw [r1, ← ht] at q; exact q
        · simp at e2

theorem NT.kill {B : Nat} {l0 : List PL} {n i : Nat} {p : List PL × List PA} (h : NT B l0 n p) : NT B l0 (n + 1) (killAt i p) := by
  unfold killAt
  split
  · exact h.succ
  rename_i a ha
  have hi : i < p.2.length := (List.getElem?_eq_some_iff.1 ha).1
  have ga : ∀ k : Nat, (p.2.set i (deadP a))[k]? = if i = k then some (deadP a) else p.2[k]? := fun k => by
    rw [List.getElem?_set]; split
    · rename_i e; subst e; simp [hi]
    · rfl
  have hk : a.Writer = true → a.State = 2 → deadP a = a := fun _ e => by unfold deadP; rw [if_neg (by omega)]
  have hd1 : ¬ (deadP a).State = 1 := by
    unfold deadP; split
    · simp
    · omega
  have rec_ok : ∀ x, LOk B n x → LOk B (n + 1) (recP (i + 1) x) := fun x hx => by
    unfold recP
    split
    · rename_i e
      have := hx.s0; have := hx.s1
      have hp := hx.p.2 (by omega)
      rw [Int.tmod_eq_emod_of_nonneg (by omega)] at hp
      exact ⟨by simp; omega, by simp; omega, by simp, by simp, by simp, by simp, by simp, by simp only; rw [Int.tmod_eq_emod_of_nonneg (by omega)]; omega⟩
    · exact hx.succ
  refine ⟨by simpa using h.al, fun y hy => ?_, fun y hy => ?_, fun j b hb hw hs => ?_, fun j b hb hw hs => ?_, fun k y hy hp => ?_, fun b hb hw hs => ?_⟩
  · obtain ⟨x, hx, rfl⟩ := List.mem_map.1 hy
    exact rec_ok x (h.ok x hx)
  · rcases List.mem_or_eq_of_mem_set hy with q | rfl
    · exact h.ao y q
    · have hg := h.ao a (List.mem_of_getElem? ha)
      unfold deadP
      split
      · exact ⟨hg.v0, hg.v1, hg.w, by simp⟩
      · exact hg
  · rw [ga] at hb
    split at hb
    · cases hb; exact absurd hs hd1
    · rename_i hne
      obtain ⟨y, hy, hI⟩ := h.wr j b hb hw hs
      refine ⟨y, ?_, hI⟩
      simp only [List.getElem?_map, hy, Option.map_some]
      unfold recP; rw [if_neg (by have := hI.1; omega)]
  · rw [ga] at hb
    split at hb
    · cases hb; exact absurd hs hd1
    · obtain ⟨y, hy, q1, q2, q3, q4, q5⟩ := h.rd j b hb hw hs
      refine ⟨recP (i + 1) y, by simp only [List.getElem?_map, hy, Option.map_some], ?_⟩
      unfold recP
      split
      · exact ⟨by simp; omega, q2, q3, q4, fun e => by simp at e; omega⟩
      · exact ⟨q1, q2, q3, q4, q5⟩
  · simp only [List.getElem?_map, Option.map_eq_some_iff] at hy
    obtain ⟨x, hx, rfl⟩ := hy
    unfold recP at hp ⊢
    split
    · exact .inl rfl
    · rename_i e
      rw [if_neg e] at hp
      rcases h.src k x hx hp with q | q
      · exact .inl q
      · exact .inr (q.mono ha hk)
  · rcases List.mem_or_eq_of_mem_set hb with q | rfl
    · exact (h.dn b q hw hs).mono ha hk
    · have e : deadP a = a := by
        unfold deadP at hs ⊢
        split at hs
        · simp at hs
        · rename_i e; rw [if_neg e]
      rw [e] at hw hs ⊢
      exact (h.dn a (List.mem_of_getElem? ha) hw hs).mono ha (fun _ _ => rfl)
theorem NT.step {B : Nat} {l0 : List PL} {n : Nat} {p : List PL × List PA} (h : NT B l0 n p) (k : Int) : NT B l0 (n + 1) (stepA k p) := by
  unfold stepA
  split
  · exact h.acc
  · exact h.kill
theorem NT.run {B : Nat} {l0 : List PL} {p : List PL × List PA} (s : List Int) (i : Nat) (hi : i ≤ s.length) (h : NT B l0 0 p) : NT B l0 i (runA p (s.take i)) := by
  induction i with
  | zero => simpa [runA] using h
  | succ i ih => rw [run_take p s (by omega)]; exact (ih (by omega)).step _
end A
end Go.Proofs.Ytfcimcoanlgldaa
