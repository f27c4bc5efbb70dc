/-
  AreActors of the reference and of the program are the same plain function. No condition.
-/
import Derived.Test.YtfcimcoanlgldaaTActor
import Derived.Test.YtfcimcoanlgldaaBase
namespace Go.Proofs.Ytfcimcoanlgldaa
namespace A
set_option linter.unusedVariables false
set_option linter.unusedSimpArgs false
set_option maxRecDepth 100000

def actorOk (a : TActor) : Bool :=
  inR a.Line 0 7 && inR a.Version 1 1000000000000 && decide (a.Words.list.length ≤ 4100) && decide (a.State = 0) && decide (a.At = 0) && decide (a.Seq = 0) && (a.Writer || decide (a.Words.list.length = 0))

def areActors (l : List TActor) : Bool := l.all actorOk && decide (l.length ≤ 8)

theorem spec_areActors {s : SL TActor} (hn : s.list.length ≤ mx) : Fnc Try.prog 35 [s.av 7 TActor.enc] (.bool (areActors s.list)) := by
  refine fn_of c35 (by simp [F35]) fun c => ?_
  unfold F35
  simp
  refine loop_drop s.list.length (fun i e H c' => e 0 = s.av 7 TActor.enc ∧ e 3 = .int .i64 i ∧ (s.list.take i).all actorOk = true ∧ H = []) ⟨rfl, rfl, by simp, rfl⟩ ?_
  intro i e H c hi ⟨e0, e3, hall, hH⟩ N hN
  subst hH
  simp [e0, e3]
  refine ⟨fun h => ⟨s.list[i], List.getElem?_eq_getElem h, ?_⟩, fun h => ?_⟩
  · generalize hx : s.list[i] = x
    have bad : actorOk x = false → areActors s.list = false := fun hb => by
      unfold areActors
      have : s.list.all actorOk = false := by
        rw [List.all_eq_false]; exact ⟨x, hx ▸ List.getElem_mem h, by simp [hb]⟩
      simp [this]
    simp [e0, e3]
    refine call_fn0 (l1In_fn _ _ _) .bool fun _ _ => ?_
    cases h1 : inR x.Line 0 7
    · simp [e0, e3]; exact fin_plain ⟨by rw [bad (by simp [actorOk, h1])], rfl⟩
    simp [e0, e3]
    refine call_fn0 (l1In_fn _ _ _) .bool fun _ _ => ?_
    cases h2 : inR x.Version 1 1000000000000
    · simp [e0, e3]; exact fin_plain ⟨by rw [bad (by simp [actorOk, h2])], rfl⟩
    simp [e0, e3]
    by_cases h3 : (4100 : Int) < x.Words.list.length
    · simp [e0, e3, h3]; exact fin_plain ⟨by rw [bad (by simp [actorOk]; intros; omega)], rfl⟩
    simp [e0, e3, h3]
    by_cases h4 : x.State = 0
    rotate_left
    · simp [e0, e3, h4]; exact fin_plain ⟨by rw [bad (by simp [actorOk, h4])], rfl⟩
    simp [e0, e3, h4]
    by_cases h5 : x.At = 0
    rotate_left
    · simp [e0, e3, h5]; exact fin_plain ⟨by rw [bad (by simp [actorOk, h5])], rfl⟩
    simp [e0, e3, h5]
    by_cases h6 : x.Seq = 0
    rotate_left
    · simp [e0, e3, h6]; exact fin_plain ⟨by rw [bad (by simp [actorOk, h6])], rfl⟩
    simp [e0, e3, h6]
    have good : (x.Writer || decide (x.Words.list.length = 0)) = true → actorOk x = true := fun hg => by
      have : x.Words.list.length ≤ 4100 := by omega
      simp [actorOk, h1, h2, h4, h5, h6, this]; simpa using hg
    cases h7 : x.Writer
    · simp [e0, e3, h6, h7]
      refine ⟨fun h8 => fin_plain ⟨by rw [bad (by simp [actorOk, h7]; intros; intro h; simp [h] at h8)], rfl⟩, fun h8 => ?_⟩
      have hg := good (by simp [h7, h8])
      exact hN _ _ _ _ h (List.nil_sublist _) ⟨by simp [upd, e0], by simp [upd]; exact step64 hn h, all_step hall h (hx ▸ hg), rfl⟩
    · simp [e0, e3, h6, h7]
      have hg := good (by simp [h7])
      exact hN _ _ _ _ h (List.nil_sublist _) ⟨by simp [upd, e0], by simp [upd]; exact step64 hn h, all_step hall h (hx ▸ hg), rfl⟩
  · have : i = s.list.length := by omega
    subst this
    rw [List.take_length] at hall
    refine fin_plain ⟨?_, rfl⟩
    simp [areActors, hall]
    omega

theorem impl_areActors {s : SL TActor} (hn : s.list.length ≤ mx) : Fnc Try.prog 44 [s.av 7 TActor.enc] (.bool (areActors s.list)) := by
  refine fn_of c44 (by simp [F44]) fun c => ?_
  unfold F44
  simp
  refine loop_drop s.list.length (fun i e H c' => e 0 = s.av 7 TActor.enc ∧ e 5 = s.av 7 TActor.enc ∧ e 6 = .int .i64 s.list.length ∧ e 7 = .int .i64 i ∧ (s.list.take i).all actorOk = true ∧ H = []) ⟨rfl, rfl, rfl, rfl, by simp, rfl⟩ ?_
  intro i e H c hi ⟨e0, e5, e6, e7, hall, hH⟩ N hN
  subst hH
  simp [e0, e5, e6, e7]
  refine ⟨fun h => ⟨s.list[i], List.getElem?_eq_getElem h, ?_⟩, fun h => ?_⟩
  · generalize hx : s.list[i] = x
    have bad : actorOk x = false → areActors s.list = false := fun hb => by
      unfold areActors
      have : s.list.all actorOk = false := by
        rw [List.all_eq_false]; exact ⟨x, hx ▸ List.getElem_mem h, by simp [hb]⟩
      simp [this]
    simp [e0, e5, e6, e7]
    refine call_fn0 (inRange_fn _ _ _) .bool fun _ _ => ?_
    cases h1 : inR x.Line 0 7
    · simp [e0, e5, e6, e7]; exact fin_plain ⟨by rw [bad (by simp [actorOk, h1])], rfl⟩
    simp [e0, e5, e6, e7]
    refine call_fn0 (inRange_fn _ _ _) .bool fun _ _ => ?_
    cases h2 : inR x.Version 1 1000000000000
    · simp [e0, e5, e6, e7]; exact fin_plain ⟨by rw [bad (by simp [actorOk, h2])], rfl⟩
    simp [e0, e5, e6, e7]
    by_cases h3 : (4100 : Int) < x.Words.list.length
    · simp [e0, e5, e6, e7, h3]; exact fin_plain ⟨by rw [bad (by simp [actorOk]; intros; omega)], rfl⟩
    have key : ∀ (hw : x.Writer = true ∨ x.Words.list = []), x.State = 0 → x.At = 0 → x.Seq = 0 → actorOk x = true := fun hw h4 h5 h6 => by
      have : x.Words.list.length ≤ 4100 := by omega
      simp [actorOk, h1, h2, h4, h5, h6, this]; exact hw
    by_cases hw : x.Writer = true ∨ x.Words.list = []
    rotate_left
    · have hw1 : x.Writer = false := by simpa using fun h => hw (.inl h)
      have hw2 : x.Words.list ≠ [] := fun h => hw (.inr h)
      have hp : 0 < x.Words.list.length := List.length_pos_iff.2 hw2
      simp [e0, e5, e6, e7, h3, hw1, hp]
      exact fin_plain ⟨by rw [bad (by simp [actorOk, hw1, hw2])], rfl⟩
    have hok := key hw
    have hws : ∀ b, x.Writer = b → (b = false → x.Words.list = []) := fun b hb hf => hw.resolve_left (by rw [hb, hf]; simp)
    cases h7 : x.Writer
    · have h8 := hws _ h7 rfl
      simp [e0, e5, e6, e7, h3, h7, h8]
      by_cases h4 : x.State = 0
      rotate_left
      · simp [e0, e5, e6, e7, h3, h7, h8, h4]; exact fin_plain ⟨by rw [bad (by simp [actorOk, h4])], rfl⟩
      by_cases h5 : x.At = 0
      rotate_left
      · simp [e0, e5, e6, e7, h3, h7, h8, h4, h5]; exact fin_plain ⟨by rw [bad (by simp [actorOk, h5])], rfl⟩
      by_cases h6 : x.Seq = 0
      rotate_left
      · simp [e0, e5, e6, e7, h3, h7, h8, h4, h5, h6]; exact fin_plain ⟨by rw [bad (by simp [actorOk, h6])], rfl⟩
      simp [e0, e5, e6, e7, h3, h7, h8, h4, h5, h6]
      exact hN _ _ _ _ h (List.nil_sublist _) ⟨by simp [upd, e0], by simp [upd, e5], by simp [upd, e6], by simp [upd]; exact step64 hn h, all_step hall h (hx ▸ hok h4 h5 h6), rfl⟩
    · simp [e0, e5, e6, e7, h3, h7]
      by_cases h4 : x.State = 0
      rotate_left
      · simp [e0, e5, e6, e7, h3, h7, h4]; exact fin_plain ⟨by rw [bad (by simp [actorOk, h4])], rfl⟩
      by_cases h5 : x.At = 0
      rotate_left
      · simp [e0, e5, e6, e7, h3, h7, h4, h5]; exact fin_plain ⟨by rw [bad (by simp [actorOk, h5])], rfl⟩
      by_cases h6 : x.Seq = 0
      rotate_left
      · simp [e0, e5, e6, e7, h3, h7, h4, h5, h6]; exact fin_plain ⟨by rw [bad (by simp [actorOk, h6])], rfl⟩
      simp [e0, e5, e6, e7, h3, h7, h4, h5, h6]
      exact hN _ _ _ _ h (List.nil_sublist _) ⟨by simp [upd, e0], by simp [upd, e5], by simp [upd, e6], by simp [upd]; exact step64 hn h, all_step hall h (hx ▸ hok h4 h5 h6), rfl⟩
  · have : i = s.list.length := by omega
    subst this
    rw [List.take_length] at hall
    refine fin_plain ⟨?_, rfl⟩
    simp [areActors, hall]
    omega

theorem areActors_con {s t : SL TActor} (h : s.list.map TActor.con = t.list.map TActor.con) : areActors s.list = areActors t.list := by
  have e : ∀ l : List TActor, areActors l = areActors (l.map TActor.con) := fun l => by
    unfold areActors
    rw [List.all_map, List.length_map]
    rfl
  rw [e, e t.list, h]

end A
end Go.Proofs.Ytfcimcoanlgldaa
