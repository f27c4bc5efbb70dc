/-
  Plain laws of lists of sessions: what stays when one session is exchanged for another of the same name. No condition.
-/
import Derived.Test.YtgiiipbpadgcgaaOpen
import Derived.Test.YtgiiipbpadgcgaaSave
import Derived.Test.YtgiiipbpadgcgaaAreS
import Derived.Test.YtgiiipbpadgcgaaDrop
namespace Go.Proofs.Ytgiiipbpadgcgaa
namespace A
set_option linter.unusedVariables false
set_option linter.unusedSimpArgs false

theorem once_ids : ∀ {l m : List TSession}, l.map (·.Id) = m.map (·.Id) → once l = once m := by
  intro l
  induction l with
  | nil => intro m h; cases m with
    | nil => rfl
    | cons y m => simp at h
  | cons x l ih =>
    intro m h
    cases m with
    | nil => simp at h
    | cons y m =>
      simp only [List.map_cons, List.cons.injEq] at h
      simp only [once, h.1, h.2, ih h.2]
theorem findS_ids {id : List UInt8} : ∀ {l m : List TSession} (i : Nat), l.map (·.Id) = m.map (·.Id) → findS id l i = findS id m i := by
  intro l
  induction l with
  | nil => intro m i h; cases m with
    | nil => rfl
    | cons y m => simp at h
  | cons x l ih =>
    intro m i h
    cases m with
    | nil => simp at h
    | cons y m =>
      simp only [List.map_cons, List.cons.injEq] at h
      simp only [findS, h.1, ih (i + 1) h.2]
theorem set_ids {l : List TSession} {k : Nat} {z : TSession} (h : k < l.length) (hz : z.Id = l[k].Id) : (l.set k z).map (·.Id) = l.map (·.Id) := by
  refine List.ext_getElem? fun j => ?_
  rw [List.map_set, List.getElem?_set]
  split
  · rename_i hj; subst hj
    simp [h, hz]
  · rfl
theorem set_good {l : List TSession} {k : Nat} {z : TSession} (ha : areSessions l = true) (h : k < l.length) (hz : z.Id = l[k].Id) (ho : sessOk z = true) : areSessions (l.set k z) = true := by
  unfold areSessions at ha ⊢
  simp only [Bool.and_eq_true, List.all_eq_true, decide_eq_true_eq, List.length_set] at ha ⊢
  refine ⟨⟨fun x hx => ?_, ?_⟩, ha.2⟩
  · rcases List.mem_or_eq_of_mem_set hx with hx | rfl
    · exact ha.1.1 x hx
    · exact ho
  · rw [once_ids (m := l.reverse)]
    · exact ha.1.2
    · rw [List.map_reverse, List.map_reverse, set_ids h hz]

theorem findS_some {id : List UInt8} : ∀ (l : List TSession) (i k : Nat), findS id l i = (k : Int) → i ≤ k ∧ ∃ z, l[k - i]? = some z ∧ z.Id = id := by
  intro l
  induction l with
  | nil => intro i k h; simp [findS] at h
  | cons x l ih =>
    intro i k h
    by_cases hx : x.Id = id
    · simp [findS, hx] at h
      have : i = k := by omega
      subst this
      exact ⟨Nat.le_refl _, x, by simp, hx⟩
    · simp [findS, hx] at h
      obtain ⟨h1, z, hz, hi⟩ := ih (i + 1) k h
      refine ⟨by omega, z, ?_, hi⟩
      rw [show k - i = (k - (i + 1)) + 1 by omega, List.getElem?_cons_succ]; exact hz
theorem findS_none {id : List UInt8} : ∀ (l : List TSession) (i : Nat), findS id l i < 0 → ∀ x, x ∈ l → x.Id ≠ id := by
  intro l
  induction l with
  | nil => intro i _ x hx; cases hx
  | cons y l ih =>
    intro i h x hx
    by_cases hy : y.Id = id
    · simp [findS, hy] at h; omega
    · simp [findS, hy] at h
      rcases List.mem_cons.1 hx with rfl | hx
      · exact hy
      · exact ih (i + 1) h x hx
theorem findS_append {id : List UInt8} {z : TSession} (hz : z.Id = id) : ∀ (l : List TSession) (i : Nat), (∀ x, x ∈ l → x.Id ≠ id) → findS id (l ++ [z]) i = ((i + l.length : Nat) : Int) := by
  intro l
  induction l with
  | nil => intro i _; simp [findS, hz]
  | cons y l ih =>
    intro i h
    have hy : y.Id ≠ id := h y (List.mem_cons_self ..)
    rw [List.cons_append, findS, if_neg hy, ih (i + 1) fun x hx => h x (List.mem_cons_of_mem _ hx)]
    simp only [List.length_cons]
    congr 1; omega
theorem append_good {l : List TSession} {z : TSession} (ha : areSessions l = true) (hl : l.length < 8) (hn : ∀ x, x ∈ l → x.Id ≠ z.Id) (ho : sessOk z = true) : areSessions (l ++ [z]) = true := by
  unfold areSessions at ha ⊢
  simp only [Bool.and_eq_true, List.all_eq_true, decide_eq_true_eq] at ha ⊢
  refine ⟨⟨fun x hx => ?_, ?_⟩, by simp; omega⟩
  · rcases List.mem_append.1 hx with hx | hx
    · exact ha.1.1 x hx
    · simp at hx; subst hx; exact ho
  · rw [List.reverse_append]
    simp only [List.reverse_cons, List.reverse_nil, List.nil_append, List.singleton_append, once, Bool.and_eq_true, Bool.not_eq_true', List.contains_eq_mem, decide_eq_false_iff_not]
    refine ⟨fun hm => ?_, ha.1.2⟩
    obtain ⟨x, hx, hxi⟩ := List.mem_map.1 hm
    exact hn x (List.mem_reverse.1 hx) hxi

theorem sess_of {l : List TSession} (ha : areSessions l = true) {x : TSession} (hx : x ∈ l) : sessOk x = true := by
  unfold areSessions at ha
  simp only [Bool.and_eq_true, List.all_eq_true] at ha
  exact ha.1.1 x hx
/-- What opening well leaves. -/
theorem open_case {id data : List UInt8} {who now : Int} {l a : List TSession} (h : openS id who now l = (a, data, 0)) :
    ∃ (k : Nat) (z : TSession), a[k]? = some z ∧ findS id a 0 = (k : Int) ∧ z.Id = id ∧ z.Holder = who ∧ z.Data = data ∧ areSessions a = true ∧ isName id = true ∧ inR who 1 1000000000000 = true ∧ inR now 0 1000000000000 = true := by
  cases hc : (isName id && areSessions l && inR who 1 1000000000000 && inR now 0 1000000000000) with
  | false => rw [openS_bad hc] at h; simp at h
  | true =>
    have hc' := hc
    simp only [Bool.and_eq_true] at hc'
    obtain ⟨⟨⟨h1, h2⟩, h3⟩, h4⟩ := hc'
    have hw0 : inR who 0 1000000000000 = true := by simp [inR] at h3 ⊢; omega
    by_cases hf : findS id l 0 < 0
    · rw [openS_no hc hf] at h
      split at h
      · simp at h
      · rename_i h8
        simp only [Prod.mk.injEq] at h
        obtain ⟨rfl, rfl, _⟩ := h
        have hno := findS_none l 0 hf
        refine ⟨l.length, ⟨id, [], who, now⟩, by simp, by rw [findS_append (id := id) (z := ⟨id, [], who, now⟩) rfl l 0 hno]; simp, rfl, rfl, rfl, append_good h2 (by omega) hno ?_, h1, h3, h4⟩
        simp [sessOk, h1, hw0, h4]
    · obtain ⟨k, hk⟩ := Int.eq_ofNat_of_zero_le (Int.not_lt.1 hf)
      obtain ⟨_, z, hz, hzi⟩ := findS_some l 0 k hk
      simp only [Nat.sub_zero] at hz
      obtain ⟨hkl, hzk⟩ := List.getElem?_eq_some_iff.1 hz
      rw [openS_at hc hk hkl, hzk] at h
      split at h
      · rename_i hh
        simp only [Prod.mk.injEq] at h
        obtain ⟨rfl, rfl, _⟩ := h
        have hid : ({ z with Holder := who } : TSession).Id = l[k].Id := by rw [hzk]
        have hso := sess_of h2 (List.mem_of_getElem? hz)
        refine ⟨k, { z with Holder := who }, by simp [hkl], by rw [findS_ids 0 (set_ids hkl hid)]; exact hk, hzi, rfl, rfl, set_good h2 hkl hid ?_, h1, h3, h4⟩
        simp only [sessOk, Bool.and_eq_true] at hso ⊢
        exact ⟨⟨hso.1.1, hw0⟩, hso.2⟩
      · simp at h

/-- Opened again by another: held. -/
theorem open_held {id : List UInt8} {who now : Int} {a : List TSession} {k : Nat} {z : TSession} (hz : a[k]? = some z) (hf : findS id a 0 = (k : Int)) (hh : z.Holder = who) (h0 : who ≠ 0) (ha : areSessions a = true) (h1 : isName id = true)
    (h2 : inR (who + 1) 1 1000000000000 = true) (h3 : inR now 0 1000000000000 = true) : openS id (who + 1) now a = (a, [], 2) := by
  obtain ⟨hk, hzk⟩ := List.getElem?_eq_some_iff.1 hz
  rw [openS_at (by simp [h1, ha, h2, h3]) hf hk, hzk, if_neg (by rw [hh]; exact h0)]
/-- Opened where nobody holds it. -/
theorem open_free {id : List UInt8} {who now : Int} {a : List TSession} {k : Nat} {z : TSession} (hz : a[k]? = some z) (hf : findS id a 0 = (k : Int)) (hh : z.Holder = 0) (ha : areSessions a = true) (h1 : isName id = true)
    (h2 : inR who 1 1000000000000 = true) (h3 : inR now 0 1000000000000 = true) : openS id who now a = (a.set k { z with Holder := who }, z.Data, 0) := by
  obtain ⟨hk, hzk⟩ := List.getElem?_eq_some_iff.1 hz
  rw [openS_at (by simp [h1, ha, h2, h3]) hf hk, hzk, if_pos hh]
theorem drop_ids (who : Int) (a : List TSession) : (a.map (dropH who)).map (·.Id) = a.map (·.Id) := by
  rw [List.map_map]
  refine List.map_congr_left fun x _ => ?_
  simp only [Function.comp, dropH]
  split <;> rfl
theorem drop_good {who : Int} {a : List TSession} (ha : areSessions a = true) : areSessions (a.map (dropH who)) = true := by
  unfold areSessions at ha ⊢
  simp only [Bool.and_eq_true, List.all_eq_true, decide_eq_true_eq, List.length_map] at ha ⊢
  refine ⟨⟨fun x hx => ?_, ?_⟩, ha.2⟩
  · obtain ⟨y, hy, rfl⟩ := List.mem_map.1 hx
    have := ha.1.1 y hy
    unfold dropH
    split
    · simp only [sessOk, Bool.and_eq_true] at this ⊢
      exact ⟨⟨this.1.1, by simp [inR]⟩, this.2⟩
    · exact this
  · rw [once_ids (m := a.reverse)]
    · exact ha.1.2
    · rw [List.map_reverse, List.map_reverse, drop_ids]
end A
end Go.Proofs.Ytgiiipbpadgcgaa
