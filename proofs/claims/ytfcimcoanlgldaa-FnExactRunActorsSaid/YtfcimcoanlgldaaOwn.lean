/-
  Calls that are handed objects, or hand objects back. No condition.
-/
import Derived.Test.YtfcimcoanlgldaaFam
namespace Go.Proofs.Ytfcimcoanlgldaa
namespace A
set_option linter.unusedVariables false
section
variable {P : Program} {H : List AObj} {c : Nat} {K : AV → List AObj → Nat → Prop}

theorem From.nil {c : Nat} {a : AV} (h : From c a) : Av [] a := h [] (by simp)

/-- A call that is handed all the objects. -/
theorem call_con {f : Nat} {as : List AV} {Q : AV → List AObj → Nat → Prop} (hf : Con P f as H c Q)
    (k : ∀ r H' c', c ≤ c' → Q r H' c' → (∀ t, t < c → t ∈ tags H' → t ∈ tags H) → (tags H').Nodup → Av [] r ∧ (∀ o, o ∈ H' → AvRows [] o) ∧ K r H' c') : CallW P f as H c K := by
  intro hn hlt
  obtain ⟨h1, h2⟩ := (Views.refl [] as).spec
  refine ⟨H, [], as, Q, List.Sublist.refl _, by simp, by simp [tags], h1, h2, hf, fun r H' c' hc hq ho hd => ?_⟩
  obtain ⟨k1, k2, k3⟩ := k r H' c' hc hq ho hd
  exact ⟨H', r, fun o h => .inl h, hd, .refl r, k1, fun o h _ => k2 o h, k3⟩

/-- Any run of objects may be left out of a call, and only read there. -/
theorem call_part {f : Nat} {as as' : List AV} {H1 S : List AObj} {Q : AV → List AObj → Nat → Prop} (hsub : H1.Sublist H) (hS : ∀ o, o ∈ S → o ∈ H) (hd : ∀ t, t ∈ tags H1 → t ∉ tags S) (hv : Views S as as') (hf : Con P f as' H1 c Q)
    (k : ∀ r H1' c', c ≤ c' → Q r H1' c' → (∀ t, t < c → t ∈ tags H1' → t ∈ tags H1) → (tags H1').Nodup → ∃ H' r', (∀ o, o ∈ H' → o ∈ H1' ∨ (o ∈ H ∧ o.tag ∉ tags H1)) ∧ (tags H').Nodup ∧ View [] r r' ∧ Av (tags S) r' ∧
      (∀ o, o ∈ H' → o ∈ H1' → AvRows (tags S) o) ∧ K r' H' c') : CallW P f as H c K := by
  intro hn hlt
  obtain ⟨h1, h2⟩ := hv.spec
  exact ⟨H1, S, as', Q, hsub, hS, hd, h1, h2, hf, k⟩

/-- A call that reads the objects and hands back objects of its own. -/
theorem call_new {f : Nat} {as as' : List AV} {Q : AV → List AObj → Nat → Prop} (hf : Con P f as' [] c Q) (hv : Views H as as')
    (k : ∀ r O c', c ≤ c' → Q r O c' → (∀ t, t ∈ tags O → c ≤ t) → (tags O).Nodup → ∃ r', View [] r r' ∧ Av (tags H) r' ∧ (∀ o, o ∈ O → AvRows (tags H) o) ∧ K r' (H ++ O) c') : CallW P f as H c K := by
  intro hn hlt
  obtain ⟨h1, h2⟩ := hv.spec
  refine ⟨[], H, as', Q, List.nil_sublist _, fun o h => h, by simp [tags], h1, h2, hf, fun r O c' hc hq ho hd => ?_⟩
  have hfresh : ∀ t, t ∈ tags O → c ≤ t := fun t ht => by
    rcases Nat.lt_or_ge t c with h | h
    · have := ho t h ht; simp [tags] at this
    · exact h
  obtain ⟨r', k1, k2, k3, k4⟩ := k r O c' hc hq hfresh hd
  refine ⟨H ++ O, r', fun o h => ?_, ?_, k1, k2, fun o _ h => k3 o h, k4⟩
  · rcases List.mem_append.1 h with h | h
    · exact .inr ⟨h, by simp [tags]⟩
    · exact .inl h
  · have : tags (H ++ O) = tags H ++ tags O := by simp [tags]
    rw [this]
    refine List.nodup_append.2 ⟨hn, hd, fun a ha b hb hab => ?_⟩
    subst hab
    exact absurd (hlt a ha) (Nat.not_lt.2 (hfresh a hb))

/-- A call that is handed some of the objects, and leaves them in their places. -/
theorem call_mid {f : Nat} {as as' : List AV} {A B C : List AObj} {Q : AV → List AObj → Nat → Prop} (hf : Con P f as' B c Q) (hv : Views [] as as')
    (k : ∀ r B' c', c ≤ c' → Q r B' c' → tags B' = tags B ∧ Av [] r ∧ (∀ o, o ∈ B' → AvRows [] o) ∧ K r (A ++ B' ++ C) c') : CallW P f as (A ++ B ++ C) c K := by
  intro hn hlt
  obtain ⟨h1, h2⟩ := hv.spec
  have hsub : B.Sublist (A ++ B ++ C) := (List.sublist_append_right A B).trans (List.sublist_append_left _ _)
  refine ⟨B, [], as', Q, hsub, by simp, by simp [tags], h1, h2, hf, fun r B' c' hc hq ho hd => ?_⟩
  obtain ⟨k0, k1, k2, k3⟩ := k r B' c' hc hq
  have e : ∀ X, tags (A ++ X ++ C) = tags A ++ tags X ++ tags C := fun X => by simp [tags]
  have hn' := hn
  rw [e] at hn'
  refine ⟨A ++ B' ++ C, r, fun o h => ?_, by rw [e, k0, ← e]; exact hn, .refl r, k1, fun o _ h => k2 o h, k3⟩
  rw [List.append_assoc] at h
  have hAB := List.nodup_append.1 hn'
  have hA := List.nodup_append.1 hAB.1
  rcases List.mem_append.1 h with h | h
  · exact .inr ⟨by simp [h], fun hb => hA.2.2 _ (mem_tags h) _ hb rfl⟩
  · rcases List.mem_append.1 h with h | h
    · exact .inl h
    · exact .inr ⟨by simp [h], fun hb => hAB.2.2 _ (List.mem_append_right _ hb) _ (mem_tags h) rfl⟩

@[simp] theorem callvW_fn (f : Nat) (caps as : List AV) : callvW P (.fn f caps) as H c K = (bodyOk P f = true ∧ CallW P f (as ++ caps) H c K) := (rfl)

/-- A variable seen as what it holds. -/
theorem view_ptr {S : List AObj} {i tag w r o : Nat} {rows : List (List AV)} {row : List AV} (ho : (⟨false, tag, w, rows⟩ : AObj) ∈ S) (hrow : rows[r]? = some row) (hc : ∀ a, a ∈ row → a.cell = true) : View S (.ptr i tag w r o) (.cpt row o) :=
  .ptr ho hrow rfl (fun j a ha => hc a (List.mem_of_getElem? ha)) fun j a a' h1 h2 => by rw [h1] at h2; cases h2; exact .refl _

/-- All the objects are handed back. -/
theorem fin_all {Q : AV → List AObj → Nat → Prop} {v : AV} (h : Q v H c) : finW Q v H c := ⟨[], H, H, v, List.Sublist.refl _, .refl _ _, by simp, by simp [tags], .refl v, h⟩

theorem avRows_of {T : List Nat} {o : AObj} (h : ∀ row, row ∈ o.rows → ∀ a, a ∈ row → Av T a) : AvRows T o := fun r j x a hr ha => h x (List.mem_of_getElem? hr) a (List.mem_of_getElem? ha)

/-- A slice of the state's seen as a tree. -/
theorem view_ref {α : Type} {enc : α → List AV} {S : List AObj} {i tag w n : Nat} {l : List α} (ho : (⟨false, tag, w, l.map enc⟩ : AObj) ∈ S) (hn : l.length = n) (hc : ∀ x, x ∈ l → ∀ a, a ∈ enc x → a.cell = true) : View S (.ref i tag w n) ((SL.mk tag l).av w enc) :=
  .ref ho (by simp; omega) (by simp [hn]) (fun r x x' h1 h2 => by rw [h1] at h2; cases h2; rfl)
    (fun r j x a hx ha => by
      obtain ⟨y, hy, rfl⟩ := List.mem_map.1 (List.mem_of_getElem? hx)
      exact hc y hy a (List.mem_of_getElem? ha))
    fun r j x x' a a' h1 h2 h3 h4 => by rw [h1] at h2; cases h2; rw [h3] at h4; cases h4; exact .refl _

@[simp high] theorem getW_set {α : Type} (l : List α) (i : Nat) (x : α) (K : α → Prop) : getW (l.set i x) i K = (i < l.length ∧ K x) := by
  unfold getW
  apply propext
  constructor
  · rintro ⟨y, h1, h2⟩
    have hi : i < l.length := by simpa using (List.getElem?_eq_some_iff.1 h1).1
    rw [List.getElem?_set_self hi] at h1
    cases h1
    exact ⟨hi, h2⟩
  · rintro ⟨hi, h2⟩
    exact ⟨x, List.getElem?_set_self hi, h2⟩

/-- Marks: element by element, from a number on. -/
def mks {α : Type} (mk : Int → α → α) (cnt : α → Nat) : Int → List α → List α
  | _, [] => []
  | k, x :: l => mk k x :: mks mk cnt (k + cnt x) l
theorem mks_len {α : Type} (mk : Int → α → α) (cnt : α → Nat) : ∀ (k : Int) (l : List α), (mks mk cnt k l).length = l.length
  | _, [] => rfl
  | k, x :: l => by simp [mks, mks_len mk cnt (k + cnt x) l]
theorem mks_app {α : Type} (mk : Int → α → α) (cnt : α → Nat) : ∀ (k : Int) (l m : List α), mks mk cnt k (l ++ m) = mks mk cnt k l ++ mks mk cnt (k + szL cnt l) m
  | k, [], m => by simp [mks, szL]
  | k, x :: l, m => by
    have e : k + (cnt x : Int) + (szL cnt l : Int) = k + (szL cnt (x :: l) : Int) := by simp [szL]; omega
    simp [mks, mks_app mk cnt (k + cnt x) l m, e]
theorem mks_step {α : Type} (mk : Int → α → α) (cnt : α → Nat) (k : Int) (l : List α) {i : Nat} (h : i < l.length) : mks mk cnt k (l.take (i + 1)) = mks mk cnt k (l.take i) ++ [mk (k + szL cnt (l.take i)) l[i]] := by
  rw [List.take_succ_eq_append_getElem h, mks_app]; rfl
theorem mks_get {α : Type} (mk : Int → α → α) (cnt : α → Nat) (k : Int) (l : List α) {i : Nat} (h : i < l.length) : (mks mk cnt k l)[i]? = some (mk (k + szL cnt (l.take i)) l[i]) := by
  have e : l = l.take i ++ l[i] :: l.drop (i + 1) := by rw [← List.drop_eq_getElem_cons h, List.take_append_drop]
  conv => lhs; rw [e, mks_app]
  rw [List.getElem?_append_right (by rw [mks_len]; simp; omega), mks_len, List.length_take, Nat.min_eq_left (by omega), Nat.sub_self]
  rfl
/-- Marked so far, and not yet. -/
def mixed {α : Type} (mk : Int → α → α) (cnt : α → Nat) (k : Int) (l : List α) (i : Nat) : List α := mks mk cnt k (l.take i) ++ l.drop i
theorem mixed_zero {α : Type} (mk : Int → α → α) (cnt : α → Nat) (k : Int) (l : List α) : mixed mk cnt k l 0 = l := by simp [mixed, mks]
theorem mixed_all {α : Type} (mk : Int → α → α) (cnt : α → Nat) (k : Int) (l : List α) : mixed mk cnt k l l.length = mks mk cnt k l := by simp [mixed]
theorem mixed_len {α : Type} (mk : Int → α → α) (cnt : α → Nat) (k : Int) (l : List α) (i : Nat) : (mixed mk cnt k l i).length = l.length := by simp [mixed, mks_len]; omega
theorem mixed_get {α : Type} (mk : Int → α → α) (cnt : α → Nat) (k : Int) (l : List α) {i : Nat} (h : i < l.length) : (mixed mk cnt k l i)[i]? = some l[i] := by
  unfold mixed
  rw [List.getElem?_append_right (by rw [mks_len]; simp; omega), mks_len, List.length_take, Nat.min_eq_left (by omega), Nat.sub_self, List.getElem?_drop]
  simp [h]
theorem mixed_set {α : Type} (mk : Int → α → α) (cnt : α → Nat) (k : Int) (l : List α) {i : Nat} (h : i < l.length) : (mixed mk cnt k l i).set i (mk (k + szL cnt (l.take i)) l[i]) = mixed mk cnt k l (i + 1) := by
  unfold mixed
  rw [List.set_append_right _ _ (by rw [mks_len]; simp; omega), mks_len, List.length_take, Nat.min_eq_left (by omega), Nat.sub_self, mks_step mk cnt k l h, List.drop_eq_getElem_cons h, List.set_cons_zero]
  simp
end
end A
end Go.Proofs.Ytfcimcoanlgldaa
