/-
  Slices: copies by append, changes in place, what is kept of one. No condition.
-/
import Derived.Test.YtfcimcoanlgldaaGive
namespace Go.Proofs.Ytfcimcoanlgldaa
namespace A
set_option linter.unusedVariables false
set_option linter.unusedSimpArgs false

/-- slices.Clone. -/
def cloneF (w : Nat) (z : List AV) (b : Nat) : Fun := ⟨8,
  .seq (.reg [o 2 (.mv (.c .nsl))])
  (.seq (.seq (.reg [o 3 (.mv (.t 0)), o 4 (.isnl false (.t 3))])
  (.cond (.t 4) (.seq (.reg [o 2 (.mv (.c .nsl))])
   (.ret)) (.skip)))
  (.seq (.reg [o 5 (.bslice w z 0 []), o 6 (.mv (.t 0)), o 7 (.append w b (.t 5) (.t 6)), o 2 (.mv (.t 7))])
  (.ret))),
  [.tmp 2]⟩

theorem sub_one {α : Type} (a : α) (l : List α) : [a].Sublist (a :: l) := (List.nil_sublist l).cons_cons a
theorem sub_two {α : Type} (a b : α) (l : List α) : [a, b].Sublist (a :: b :: l) := (sub_one b l).cons_cons a

@[simp] theorem getW_len {α : Type} (L M : List α) (x : α) (K : α → Prop) : getW (L ++ x :: M) L.length K = K x := getW_of (by rw [List.getElem?_append_right (Nat.le_refl _)]; simp) K
@[simp] theorem set_len {α : Type} (L M : List α) (x y : α) : (L ++ x :: M).set L.length y = L ++ y :: M := by
  rw [List.set_append_right _ _ (Nat.le_refl _), Nat.sub_self, List.set_cons_zero]
@[simp] theorem getW_len1 {α : Type} (L M : List α) (x y : α) (K : α → Prop) : getW (L ++ x :: y :: M) (L.length + 1) K = K y := getW_of (by rw [List.getElem?_append_right (by omega)]; simp) K
@[simp] theorem set_len1 {α : Type} (L M : List α) (x y z : α) : (L ++ x :: y :: M).set (L.length + 1) z = L ++ x :: z :: M := by
  rw [List.set_append_right _ _ (by omega)]; simp
@[simp] theorem getW_len2 {α : Type} (L M : List α) (x y z : α) (K : α → Prop) : getW (L ++ x :: y :: z :: M) (L.length + 2) K = K z := getW_of (by rw [List.getElem?_append_right (by omega)]; simp) K
@[simp] theorem getW_len2' {α : Type} (L M : List α) (x y z : α) (K : α → Prop) : getW (L ++ x :: y :: z :: M) (L.length + 1 + 1) K = K z := getW_len2 L M x y z K
/-- Some of the objects are let go. -/
theorem fin_sub {Q : AV → List AObj → Nat → Prop} {v v' : AV} {H Hk : List AObj} {c : Nat} (hs : Hk.Sublist H) (hv : View [] v v') (h : Q v' Hk c) : finW Q v H c := ⟨[], Hk, Hk, v', hs, .refl _ _, by simp, by simp [tags], hv, h⟩
/-- Some of the objects are let go, those that stay are named anew. -/
theorem fin_ren {Q : AV → List AObj → Nat → Prop} {v v' : AV} {H Hk Hk' : List AObj} {c : Nat} (hs : Hk.Sublist H) (hr : Rens [] Hk Hk') (hv : View [] v v') (h : Q v' Hk' c) : finW Q v H c := ⟨[], Hk, Hk', v', hs, hr, by simp, by simp [tags], hv, h⟩

section
variable {α : Type}
def SL.lmap (f : List α → List α) : SL α → SL α
  | .nil => .nil
  | .mk t l => .mk t (f l)
theorem ref_mk (t w : Nat) (l : List α) : (SL.mk t l).ref w = .ref 0 t w l.length := rfl
theorem ref_nil (w : Nat) : (SL.nil : SL α).ref w = .nsl := rfl
theorem SL.lmap_list {f : List α → List α} (h : f [] = []) (s : SL α) : (s.lmap f).list = f s.list := by cases s <;> simp [SL.lmap, h]
theorem SL.wood_lmap (w : Nat) (enc : α → List AV) (s : SL α) : (s.lmap id).wood w enc noInn = s.wood w enc noInn := by cases s <;> rfl

section
variable {P : Program} {enc : α → List AV} {w b f : Nat} {z : List AV}
theorem clone_con (hf : compF P f = some (cloneF w z b)) {s : SL α} (hn : s.list.length * b ≤ 140737488355328) (hn' : s.list.length ≤ mx) (c : Nat) :
    Con P f [s.av w enc] [] c fun r O _ => ∃ x : SL α, r = x.ref w ∧ O = x.wood w enc noInn ∧ x.list = s.list := by
  refine con_of hf (by simp [cloneF]) ?_
  unfold cloneF
  simp
  refine isnl_av _ _ _ _ _ (fun h => ?_) ?_
  · simp
    exact fin_all ⟨.nil, rfl, rfl, by rw [h]; rfl⟩
  · simp
    exact ⟨hn, hn', fin_all ⟨.mk (c + 1) s.list, by simp [SL.ref], by simp [flat_wood], rfl⟩⟩
theorem clone_tr (hf : compF P f = some (cloneF w z b)) (hE : Flat enc) {s : SL α} (hn : s.list.length * b ≤ 140737488355328) (hn' : s.list.length ≤ mx) : Tr P f [s.av w enc] fun _ r => ∃ x : SL α, r = x.av w enc ∧ x.list = s.list :=
  flat_tr hE (clone_con hf hn hn')
end

/-- Changed up to an index. -/
def mixM (f : α → α) (l : List α) (i : Nat) : List α := (l.take i).map f ++ l.drop i
theorem mixM_zero (f : α → α) (l : List α) : mixM f l 0 = l := by simp [mixM]
theorem mixM_all (f : α → α) (l : List α) : mixM f l l.length = l.map f := by simp [mixM]
@[simp] theorem mixM_len (f : α → α) (l : List α) (i : Nat) : (mixM f l i).length = l.length := by simp [mixM]; omega
@[simp] theorem mixM_nil (f : α → α) (i : Nat) : mixM f [] i = [] := by simp [mixM]
theorem mixM_get (f : α → α) {l : List α} {i : Nat} (h : i < l.length) : (mixM f l i)[i]? = some l[i] := by
  unfold mixM
  rw [List.getElem?_append_right (by simp; omega)]
  simp [h, Nat.min_eq_left (Nat.le_of_lt h)]
theorem mixM_set (f : α → α) {l : List α} {i : Nat} (h : i < l.length) : (mixM f l i).set i (f l[i]) = mixM f l (i + 1) := by
  unfold mixM
  rw [List.set_append_right _ _ (by simp; omega), List.length_map, List.length_take, Nat.min_eq_left (by omega), Nat.sub_self, List.drop_eq_getElem_cons h, List.set_cons_zero, List.take_succ_eq_append_getElem h, List.map_append]
  simp
theorem mixM_same (f : α → α) {l : List α} {i : Nat} (h : i < l.length) (e : f l[i] = l[i]) : mixM f l i = mixM f l (i + 1) := by
  have := mixM_set f h
  rw [e] at this
  rw [← this]
  refine List.ext_getElem? fun j => ?_
  by_cases hj : j = i
  · subst hj; rw [mixM_get f h, List.getElem?_set_self (by simp; exact h)]
  · rw [List.getElem?_set_ne (by omega)]

/-- Kept up to an index. -/
theorem filter_step (p : α → Bool) {l : List α} {i : Nat} (h : i < l.length) : (l.take (i + 1)).filter p = (l.take i).filter p ++ (if p l[i] then [l[i]] else []) := by
  rw [List.take_succ_eq_append_getElem h, List.filter_append]
  by_cases hp : p l[i] = true <;> simp [hp]
end
/-! ### the ends of the laws: marks on what was handed in, on what was handed back -/
section
variable {P : Program} {K : AV → List AObj → Nat → Prop} {α : Type} {enc encO : α → List AV} {inn : α → List AObj} {w f : Nat} {mk : Int → α → α} {cnt : α → Nat}
theorem call_midr {f : Nat} {l l' : List AV} {a : AObj} {A B C : List AObj} {c : Nat} {Q : AV → List AObj → Nat → Prop} (hf : Con P f l' B c Q) (hv : Views [] l l')
    (k : ∀ r B' c', c ≤ c' → Q r B' c' → tags B' = tags B ∧ Av [] r ∧ (∀ o, o ∈ B' → AvRows [] o) ∧ K r (a :: (A ++ (B' ++ C))) c') : CallW P f l (a :: (A ++ (B ++ C))) c K := by
  have e : ∀ X : List AObj, a :: (A ++ (X ++ C)) = (a :: A) ++ X ++ C := fun X => by simp
  rw [e]
  exact call_mid hf hv fun r B' c' hc hq => by rw [← e]; exact k r B' c' hc hq
theorem SL.marks_ref (k : Int) (s : SL α) : (s.marks mk cnt k).ref w = s.ref w := by cases s <;> simp [SL.marks, SL.ref, mks_len]
theorem view_marks {S : List AObj} {s : SL α} {k : Int} (hs : ∀ o, o ∈ (s.marks mk cnt k).wood w enc noInn → o ∈ S) (hc : ∀ x a, a ∈ enc x → a.cell = true) : View S (s.ref w) ((s.marks mk cnt k).av w enc) := by
  rw [← SL.marks_ref (mk := mk) (cnt := cnt) k s]
  exact view_flat hs hc
theorem mark_mid {A C : List AObj} {s : SL α} {k n : Int} {c : Nat} (hf : Con P f [s.ref w, .int .i64 k] (s.wood w encO inn) c fun r H' _ => r = .int .i64 n ∧ H' = (s.marks mk cnt k).wood w encO inn)
    (hi : ∀ k x, tags (inn (mk k x)) = tags (inn x)) (hO : ∀ x a, a ∈ encO x → Free a) (hI : ∀ x o, o ∈ inn x → ∀ T, AvRows T o) (kk : ∀ c', c ≤ c' → K (.int .i64 n) (A ++ (s.marks mk cnt k).wood w encO inn ++ C) c') :
    CallW P f [s.ref w, .int .i64 k] (A ++ s.wood w encO inn ++ C) c K :=
  call_mid hf (Views.refl _ _) fun r B' c' hc ⟨h1, h2⟩ => by
    subst h1; subst h2
    exact ⟨tags_wood hi _ s, .int, fun o ho => free_wood hO hI _ o ho _, kk c' hc⟩
theorem mark_first {C : List AObj} {s : SL α} {k n : Int} {c : Nat} (hE : Flat enc) (hf : Con P f [s.ref w, .int .i64 k] (s.wood w enc noInn) c fun r H' _ => r = .int .i64 n ∧ H' = (s.marks mk cnt k).wood w enc noInn)
    (kk : ∀ c', c ≤ c' → K (.int .i64 n) ((s.marks mk cnt k).wood w enc noInn ++ C) c') : CallW P f [s.ref w, .int .i64 k] (s.wood w enc noInn ++ C) c K :=
  mark_mid (A := []) hf (fun _ _ => rfl) (fun x a ha => (hE x a ha).2) (fun x o ho => by cases ho) kk
theorem mark_last {A : List AObj} {s : SL α} {k n : Int} {c : Nat} (hE : Flat enc) (hf : Con P f [s.ref w, .int .i64 k] (s.wood w enc noInn) c fun r H' _ => r = .int .i64 n ∧ H' = (s.marks mk cnt k).wood w enc noInn)
    (kk : ∀ c', c ≤ c' → K (.int .i64 n) (A ++ (s.marks mk cnt k).wood w enc noInn) c') : CallW P f [s.ref w, .int .i64 k] (A ++ s.wood w enc noInn) c K := by
  have := mark_mid (A := A) (C := []) (K := K) hf (fun _ _ => rfl) (fun x a ha => (hE x a ha).2) (fun x o ho => by cases ho) (by simpa using kk)
  simpa using this
end
end A
end Go.Proofs.Ytfcimcoanlgldaa
