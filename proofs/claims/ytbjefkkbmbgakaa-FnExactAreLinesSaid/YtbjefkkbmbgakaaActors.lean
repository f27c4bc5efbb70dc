/-
  AreActors of the reference and of the program are the same plain function of the list of actors, and the law answers true. No condition.
-/
import Derived.Test.YtbjefkkbmbgakaaTypes
namespace Go.Proofs.Ytbjefkkbmbgakaa
namespace A
set_option linter.unusedVariables false
set_option linter.unusedSimpArgs false
set_option maxRecDepth 100000

def inR (x lo hi : Int) : Bool := decide (lo ≤ x) && decide (x ≤ hi)

theorem l1In_fn (x lo hi : Int) : Fnc Try.prog 44 [.int .i64 x, .int .i64 lo, .int .i64 hi] (.bool (inR x lo hi)) := by
  refine fn_of c44 (by simp [F44]) fun c => ?_
  unfold F44 inR
  by_cases h1 : lo ≤ x <;> simp [h1] <;> exact fin_plain ⟨rfl, rfl⟩
theorem inRange_fn (x lo hi : Int) : Fnc Try.prog 46 [.int .i64 x, .int .i64 lo, .int .i64 hi] (.bool (inR x lo hi)) := by
  refine fn_of c46 (by simp [F46]) fun c => ?_
  unfold F46 inR
  by_cases h1 : lo ≤ x <;> simp [h1] <;> exact fin_plain ⟨rfl, rfl⟩

def actorOk (a : TActor) : Bool :=
  inR a.Line 0 7 && inR a.Version 1 1000000000000 && decide (a.Words.list.length ≤ 4100) && decide (a.State = 0) && decide (a.At = 0) && decide (a.Seq = 0) && (a.Writer || decide (a.Words.list.length = 0))

def areActors (l : List TActor) : Bool := l.all actorOk && decide (l.length ≤ 8)

theorem all_step {α : Type} {p : α → Bool} {l : List α} {i : Nat} (h : (l.take i).all p = true) (hi : i < l.length) (hx : p l[i] = true) : (l.take (i + 1)).all p = true := by
  rw [List.take_succ_eq_append_getElem hi, List.all_append, h]; simp [hx]

theorem spec_areActors {s : SL TActor} (hn : s.list.length ≤ mx) : Fnc Try.prog 31 [s.av 7 TActor.enc] (.bool (areActors s.list)) := by
  refine fn_of c31 (by simp [F31]) fun c => ?_
  unfold F31
  simp
  refine loop_drop s.list.length (fun i e H c' => e 0 = s.av 7 TActor.enc ∧ e 3 = .int .i64 i ∧ (s.list.take i).all actorOk = true ∧ H = []) ⟨rfl, rfl, by simp, rfl⟩ ?_
  intro i e H c hi ⟨e0, e3, hall, hH⟩ N hN
  subst hH
  simp [e0, e3]
  refine ⟨fun h => ⟨s.list[i], List.getElem?_eq_getElem h, ?_⟩, fun h => ?_⟩
  · generalize hx : s.list[i] = x
    have bad : actorOk x = false → areActors s.list = false := fun hb => by
      unfold areActors
      have : s.list.all actorOk = false := by
        rw [List.all_eq_false]; exact ⟨x, hx ▸ List.getElem_mem h, by simp [hb]⟩
      simp [this]
    simp [e0, e3]
    refine call_fn0 (l1In_fn _ _ _) .bool fun _ _ => ?_
    cases h1 : inR x.Line 0 7
    · simp [e0, e3]; exact fin_plain ⟨by rw [bad (by simp [actorOk, h1])], rfl⟩
    simp [e0, e3]
    refine call_fn0 (l1In_fn _ _ _) .bool fun _ _ => ?_
    cases h2 : inR x.Version 1 1000000000000
    · simp [e0, e3]; exact fin_plain ⟨by rw [bad (by simp [actorOk, h2])], rfl⟩
    simp [e0, e3]
    by_cases h3 : (4100 : Int) < x.Words.list.length
    · simp [e0, e3, h3]; exact fin_plain ⟨by rw [bad (by simp [actorOk]; intros; omega)], rfl⟩
    simp [e0, e3, h3]
    by_cases h4 : x.State = 0
    rotate_left
    · simp [e0, e3, h4]; exact fin_plain ⟨by rw [bad (by simp [actorOk, h4])], rfl⟩
    simp [e0, e3, h4]
    by_cases h5 : x.At = 0
    rotate_left
    · simp [e0, e3, h5]; exact fin_plain ⟨by rw [bad (by simp [actorOk, h5])], rfl⟩
    simp [e0, e3, h5]
    by_cases h6 : x.Seq = 0
    rotate_left
    · simp [e0, e3, h6]; exact fin_plain ⟨by rw [bad (by simp [actorOk, h6])], rfl⟩
    simp [e0, e3, h6]
    have good : (x.Writer || decide (x.Words.list.length = 0)) = true → actorOk x = true := fun hg => by
      have : x.Words.list.length ≤ 4100 := by omega
      simp [actorOk, h1, h2, h4, h5, h6, this]; simpa using hg
    cases h7 : x.Writer
    · simp [e0, e3, h6, h7]
      refine ⟨fun h8 => fin_plain ⟨by rw [bad (by simp [actorOk, h7]; intros; intro h; simp [h] at h8)], rfl⟩, fun h8 => ?_⟩
      have hg := good (by simp [h7, h8])
      exact hN _ _ _ _ h (List.nil_sublist _) ⟨by simp [upd, e0], by simp [upd]; exact step64 hn h, all_step hall h (hx ▸ hg), rfl⟩
    · simp [e0, e3, h6, h7]
      have hg := good (by simp [h7])
      exact hN _ _ _ _ h (List.nil_sublist _) ⟨by simp [upd, e0], by simp [upd]; exact step64 hn h, all_step hall h (hx ▸ hg), rfl⟩
  · have : i = s.list.length := by omega
    subst this
    rw [List.take_length] at hall
    refine fin_plain ⟨?_, rfl⟩
    simp [areActors, hall]
    omega

theorem impl_areActors {s : SL TActor} (hn : s.list.length ≤ mx) : Fnc Try.prog 33 [s.av 7 TActor.enc] (.bool (areActors s.list)) := by
  refine fn_of c33 (by simp [F33]) fun c => ?_
  unfold F33
  simp
  refine loop_drop s.list.length (fun i e H c' => e 0 = s.av 7 TActor.enc ∧ e 5 = s.av 7 TActor.enc ∧ e 6 = .int .i64 s.list.length ∧ e 7 = .int .i64 i ∧ (s.list.take i).all actorOk = true ∧ H = []) ⟨rfl, rfl, rfl, rfl, by simp, rfl⟩ ?_
  intro i e H c hi ⟨e0, e5, e6, e7, hall, hH⟩ N hN
  subst hH
  simp [e0, e5, e6, e7]
  refine ⟨fun h => ⟨s.list[i], List.getElem?_eq_getElem h, ?_⟩, fun h => ?_⟩
  · generalize hx : s.list[i] = x
    have bad : actorOk x = false → areActors s.list = false := fun hb => by
      unfold areActors
      have : s.list.all actorOk = false := by
        rw [List.all_eq_false]; exact ⟨x, hx ▸ List.getElem_mem h, by simp [hb]⟩
      simp [this]
    simp [e0, e5, e6, e7]
    refine call_fn0 (inRange_fn _ _ _) .bool fun _ _ => ?_
    cases h1 : inR x.Line 0 7
    · simp [e0, e5, e6, e7]; exact fin_plain ⟨by rw [bad (by simp [actorOk, h1])], rfl⟩
    simp [e0, e5, e6, e7]
    refine call_fn0 (inRange_fn _ _ _) .bool fun _ _ => ?_
    cases h2 : inR x.Version 1 1000000000000
    · simp [e0, e5, e6, e7]; exact fin_plain ⟨by rw [bad (by simp [actorOk, h2])], rfl⟩
    simp [e0, e5, e6, e7]
    by_cases h3 : (4100 : Int) < x.Words.list.length
    · simp [e0, e5, e6, e7, h3]; exact fin_plain ⟨by rw [bad (by simp [actorOk]; intros; omega)], rfl⟩
    have key : ∀ (hw : x.Writer = true ∨ x.Words.list = []), x.State = 0 → x.At = 0 → x.Seq = 0 → actorOk x = true := fun hw h4 h5 h6 => by
      have : x.Words.list.length ≤ 4100 := by omega
      simp [actorOk, h1, h2, h4, h5, h6, this]; exact hw
    by_cases hw : x.Writer = true ∨ x.Words.list = []
    rotate_left
    · have hw1 : x.Writer = false := by simpa using fun h => hw (.inl h)
      have hw2 : x.Words.list ≠ [] := fun h => hw (.inr h)
      have hp : 0 < x.Words.list.length := List.length_pos_iff.2 hw2
      simp [e0, e5, e6, e7, h3, hw1, hp]
      exact fin_plain ⟨by rw [bad (by simp [actorOk, hw1, hw2])], rfl⟩
    have hok := key hw
    have hws : ∀ b, x.Writer = b → (b = false → x.Words.list = []) := fun b hb hf => hw.resolve_left (by rw [hb, hf]; simp)
    cases h7 : x.Writer
    · have h8 := hws _ h7 rfl
      simp [e0, e5, e6, e7, h3, h7, h8]
      by_cases h4 : x.State = 0
      rotate_left
      · simp [e0, e5, e6, e7, h3, h7, h8, h4]; exact fin_plain ⟨by rw [bad (by simp [actorOk, h4])], rfl⟩
      by_cases h5 : x.At = 0
      rotate_left
      · simp [e0, e5, e6, e7, h3, h7, h8, h4, h5]; exact fin_plain ⟨by rw [bad (by simp [actorOk, h5])], rfl⟩
      by_cases h6 : x.Seq = 0
      rotate_left
      · simp [e0, e5, e6, e7, h3, h7, h8, h4, h5, h6]; exact fin_plain ⟨by rw [bad (by simp [actorOk, h6])], rfl⟩
      simp [e0, e5, e6, e7, h3, h7, h8, h4, h5, h6]
      exact hN _ _ _ _ h (List.nil_sublist _) ⟨by simp [upd, e0], by simp [upd, e5], by simp [upd, e6], by simp [upd]; exact step64 hn h, all_step hall h (hx ▸ hok h4 h5 h6), rfl⟩
    · simp [e0, e5, e6, e7, h3, h7]
      by_cases h4 : x.State = 0
      rotate_left
      · simp [e0, e5, e6, e7, h3, h7, h4]; exact fin_plain ⟨by rw [bad (by simp [actorOk, h4])], rfl⟩
      by_cases h5 : x.At = 0
      rotate_left
      · simp [e0, e5, e6, e7, h3, h7, h4, h5]; exact fin_plain ⟨by rw [bad (by simp [actorOk, h5])], rfl⟩
      by_cases h6 : x.Seq = 0
      rotate_left
      · simp [e0, e5, e6, e7, h3, h7, h4, h5, h6]; exact fin_plain ⟨by rw [bad (by simp [actorOk, h6])], rfl⟩
      simp [e0, e5, e6, e7, h3, h7, h4, h5, h6]
      exact hN _ _ _ _ h (List.nil_sublist _) ⟨by simp [upd, e0], by simp [upd, e5], by simp [upd, e6], by simp [upd]; exact step64 hn h, all_step hall h (hx ▸ hok h4 h5 h6), rfl⟩
  · have : i = s.list.length := by omega
    subst this
    rw [List.take_length] at hall
    refine fin_plain ⟨?_, rfl⟩
    simp [areActors, hall]
    omega

theorem areActors_con {s t : SL TActor} (h : s.list.map TActor.con = t.list.map TActor.con) : areActors s.list = areActors t.list := by
  have e : ∀ l : List TActor, areActors l = areActors (l.map TActor.con) := fun l => by
    unfold areActors
    rw [List.all_map, List.length_map]
    rfl
  rw [e, e t.list, h]

theorem law_areActors {s : SL TActor} (hs : okActorS s) (c : Nat) : Con Try.prog 8 [s.av 7 TActor.enc] [] c fun r H' _ => r = .bool true ∧ H' = [] := by
  refine con_of c8 (by simp [F8]) ?_
  unfold F8
  simp
  refine call_fn0 (szActorS_fn hs ⟨by omega, by omega⟩) .int fun _ _ => ?_
  simp
  refine ⟨fun _ => fin_plain ⟨rfl, rfl⟩, fun h => ?_⟩
  have hz : szActorS s ≤ 1048576 := by have := (szOf_ge h).2; omega
  have hsz : ∀ b : SL TActor, b.list.map TActor.con = s.list.map TActor.con → szActorS b ≤ 1048576 := fun b hb => by rw [szActorS_con hb]; exact hz
  have hmx : ∀ b : SL TActor, b.list.map TActor.con = s.list.map TActor.con → b.list.length ≤ mx := fun b hb => by have := hsz b hb; unfold szActorS at this; unfold mx; omega
  refine call_tree0 (toActorS_fn hz) fun r1 _ _ ⟨b1, e1, q1⟩ _ => ?_
  subst e1
  simp
  refine call_fn0 (spec_areActors (hmx _ q1)) .bool fun _ _ => ?_
  simp
  refine call_tree0 (toActorS_fn hz) fun r2 _ _ ⟨b2, e2, q2⟩ _ => ?_
  subst e2
  simp
  refine call_fn0 (impl_areActors (hmx _ q2)) .bool fun _ _ => ?_
  simp [areActors_con q1, areActors_con q2]
  refine call_tree0 (toActorS_fn hz) fun r3 _ _ ⟨b3, e3, q3⟩ _ => ?_
  subst e3
  simp
  refine call_fn0 (eqActorS_fn (hsz _ q2) (q2.trans q3.symm)) .bool fun _ _ => ?_
  simp
  exact fin_plain ⟨rfl, rfl⟩
end A
end Go.Proofs.Ytbjefkkbmbgakaa
