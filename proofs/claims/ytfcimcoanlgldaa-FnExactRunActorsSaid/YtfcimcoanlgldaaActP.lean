/-
  Accesses to lines as a plain function; a reader that is done has read whole words. No condition.
-/
import Derived.Test.YtfcimcoanlgldaaCore
namespace Go.Proofs.Ytfcimcoanlgldaa
namespace A
set_option linter.unusedVariables false
set_option linter.unusedSimpArgs false

structure PL where
  Seq : Int
  Owner : Int
  Version : Int
  Words : List Int
structure PA where
  Writer : Bool
  Line : Int
  Version : Int
  Words : List Int
  State : Int
  At : Int
  Seq : Int
def acc (me : Int) (x : PL) (a : PA) : PL × PA :=
  if ¬ (a.State = 0 ∨ a.State = 1) then (x, a)
  else if a.State = 0 then
    if x.Seq.tmod 2 = 1 then (x, if a.Writer then a else { a with State := 3 })
    else if a.Writer then ({ x with Seq := x.Seq + 1, Owner := me }, { a with State := 1, At := 0 })
    else (x, { a with State := 1, At := 0, Seq := x.Seq })
  else if a.Writer then
    if a.At = 0 then ({ x with Version := a.Version, Words := [] }, { a with At := a.At + 1 })
    else if a.At ≤ a.Words.length then ({ x with Words := x.Words ++ [a.Words.getD (a.At - 1).toNat 0] }, { a with At := a.At + 1 })
    else ({ x with Seq := x.Seq + 1, Owner := 0 }, { a with State := 2 })
  else if a.At = 0 then (if x.Version = a.Version then (x, { a with At := a.At + 1 }) else (x, { a with State := 3 }))
  else if a.At ≤ x.Words.length then (x, { a with Words := a.Words ++ [x.Words.getD (a.At - 1).toNat 0], At := a.At + 1 })
  else (x, { a with State := if x.Seq = a.Seq then 2 else 3 })
def accAt (i : Nat) (p : List PL × List PA) : List PL × List PA :=
  match p.2[i]? with
  | none => p
  | some a => match p.1[a.Line.toNat]? with
    | none => p
    | some x => (p.1.set a.Line.toNat (acc (i + 1) x a).1, p.2.set i (acc (i + 1) x a).2)
def recP (o : Int) (x : PL) : PL := if x.Owner = o then ⟨x.Seq + 1, 0, 0, []⟩ else x
def deadP (a : PA) : PA := if a.State = 0 ∨ a.State = 1 then { a with State := 4 } else a
def killAt (i : Nat) (p : List PL × List PA) : List PL × List PA :=
  match p.2[i]? with
  | none => p
  | some a => (p.1.map (recP (i + 1)), p.2.set i (deadP a))
def stepA (k : Int) (p : List PL × List PA) : List PL × List PA := if 0 ≤ k then accAt (k.tmod p.2.length).toNat p else killAt ((-(k + 1)).tmod p.2.length).toNat p
def runA (p : List PL × List PA) (s : List Int) : List PL × List PA := s.foldl (fun p k => stepA k p) p

theorem step_len (k : Int) (p : List PL × List PA) : (stepA k p).1.length = p.1.length ∧ (stepA k p).2.length = p.2.length := by
  unfold stepA accAt killAt
  split
  · split
    · simp
    · split <;> simp
  · split <;> simp
theorem run_len (p : List PL × List PA) (s : List Int) : (runA p s).1.length = p.1.length ∧ (runA p s).2.length = p.2.length := by
  unfold runA
  induction s generalizing p with
  | nil => simp
  | cons k s ih => have := step_len k p; simp only [List.foldl_cons]; rw [(ih _).1, (ih _).2, this.1, this.2]; simp
theorem run_take (p : List PL × List PA) (s : List Int) {i : Nat} (h : i < s.length) : runA p (s.take (i + 1)) = stepA s[i] (runA p (s.take i)) := by
  unfold runA
  rw [List.take_succ_eq_append_getElem h, List.foldl_append]; rfl

/-- What the code needs: nothing runs over. -/
structure GdL (n : Nat) (x : PL) : Prop where
  s0 : 0 ≤ x.Seq
  s1 : x.Seq ≤ 1000000000000 + n
  w : x.Words.length ≤ 4100 + n
structure GdA (n : Nat) (a : PA) : Prop where
  l0 : 0 ≤ a.Line
  l1 : a.Line ≤ 7
  t0 : 0 ≤ a.At
  t1 : a.At ≤ n
  r : a.State = 0 → a.At = 0
  w : a.Words.length ≤ 4100 + n
structure Gd (n : Nat) (p : List PL × List PA) : Prop where
  l : ∀ x, x ∈ p.1 → GdL n x
  a : ∀ a, a ∈ p.2 → GdA n a
theorem GdL.succ {n : Nat} {x : PL} (h : GdL n x) : GdL (n + 1) x := ⟨h.s0, by have := h.s1; omega, by have := h.w; omega⟩
theorem GdA.succ {n : Nat} {a : PA} (h : GdA n a) : GdA (n + 1) a := ⟨h.l0, h.l1, h.t0, by have := h.t1; omega, h.r, by have := h.w; omega⟩
theorem Gd.acc {n : Nat} {x : PL} {a : PA} (hx : GdL n x) (ha : GdA n a) (me : Int) : GdL (n + 1) (acc me x a).1 ∧ GdA (n + 1) (acc me x a).2 := by
  obtain ⟨x1, x2, x3⟩ := hx
  obtain ⟨a1, a2, a3, a4, a5, a6⟩ := ha
  unfold A.acc
  repeat' split
  all_goals
    refine ⟨⟨?_, ?_, ?_⟩, ⟨?_, ?_, ?_, ?_, ?_, ?_⟩⟩ <;> dsimp only <;> first | omega | (simp; done) | (simp; omega) | (intro h; simp at h; done)
theorem Gd.step {n : Nat} {p : List PL × List PA} (h : Gd n p) (k : Int) : Gd (n + 1) (stepA k p) := by
  have h' : Gd (n + 1) p := ⟨fun x hx => (h.l x hx).succ, fun a ha => (h.a a ha).succ⟩
  unfold stepA accAt killAt
  split
  · split
    · exact h'
    · rename_i a ha
      split
      · exact h'
      · rename_i x hx
        have := Gd.acc (h.l x (List.mem_of_getElem? hx)) (h.a a (List.mem_of_getElem? ha)) (((k.tmod p.2.length).toNat : Int) + 1)
        refine ⟨fun y hy => ?_, fun y hy => ?_⟩
        · rcases List.mem_or_eq_of_mem_set hy with h1 | rfl
          · exact h'.l y h1
          · exact this.1
        · rcases List.mem_or_eq_of_mem_set hy with h1 | rfl
          · exact h'.a y h1
          · exact this.2
  · split
    · exact h'
    · rename_i a ha
      refine ⟨fun y hy => ?_, fun y hy => ?_⟩
      · obtain ⟨x, hx, rfl⟩ := List.mem_map.1 hy
        have hg := h.l x hx
        unfold recP
        split
        · exact ⟨by have := hg.s0; simp; omega, by have := hg.s1; simp; omega, by simp⟩
        · exact hg.succ
      · rcases List.mem_or_eq_of_mem_set hy with h1 | rfl
        · exact h'.a y h1
        · have hg := (h.a a (List.mem_of_getElem? ha)).succ
          unfold deadP
          split
          · exact ⟨hg.l0, hg.l1, hg.t0, hg.t1, by simp, hg.w⟩
          · exact hg
theorem Gd.run {p : List PL × List PA} (h : Gd 0 p) (s : List Int) (i : Nat) (hi : i ≤ s.length) : Gd i (runA p (s.take i)) := by
  induction i with
  | zero => simpa [runA] using h
  | succ i ih => rw [run_take p s (by omega)]; exact (ih (by omega)).step _
end A
end Go.Proofs.Ytfcimcoanlgldaa
