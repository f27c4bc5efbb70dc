import Derived.Test.YtfcimcoanlgldaaB07

/-
  Slices that stay objects: copies, marks, and what reads marks. No condition.
-/

namespace Go.Proofs.Ytfcimcoanlgldaa
namespace A
set_option linter.unusedVariables false
set_option linter.unusedSimpArgs false

/-- Slices of numbers: marks. -/
def markIF : Fun := ⟨19,
  .seq (.reg [o 4 (.mv (.c (.int .i64 0)))])
  (.seq (.seq (.reg [o 5 (.mv (.c (.int .i64 0)))])
  (.block 0 (.loop (.seq (.seq (.reg [o 6 (.mv (.t 5)), o 7 (.mv (.t 0)), o 8 (.lenL (.t 7)), o 9 (.bin .lss (.t 6) (.t 8))])
    (.cond (.t 9) (.skip) (.exit 0)))
    (.seq (.block 1 (.seq (.reg [o 12 (.mv (.t 0)), o 13 (.mv (.t 5)), o 14 (.mv (.t 1)), o 15 (.iaddr 1 (.t 12) (.t 13)), st (.store 1 (.t 15) (.t 14))])
     (.reg [o 16 (.mv (.t 1)), o 17 (.bin .add (.t 16) (.c (.int .i64 1))), o 1 (.mv (.t 17))])))
    (.reg [o 10 (.mv (.t 5)), o 11 (.bin .add (.t 10) (.c (.int .i64 1))), o 5 (.mv (.t 11))]))))))
  (.seq (.reg [o 18 (.mv (.t 1)), o 4 (.mv (.t 18))])
  (.ret))),
  [.tmp 4]⟩
def heldIF : Fun := ⟨21,
  .seq (.reg [o 4 (.mv (.c (.int .i64 0)))])
  (.seq (.seq (.reg [o 5 (.mv (.c (.int .i64 0)))])
  (.block 0 (.loop (.seq (.seq (.reg [o 6 (.mv (.t 5)), o 7 (.mv (.t 0)), o 8 (.lenL (.t 7)), o 9 (.bin .lss (.t 6) (.t 8))])
    (.cond (.t 9) (.skip) (.exit 0)))
    (.seq (.block 1 (.seq (.seq (.reg [o 12 (.mv (.t 0)), o 13 (.mv (.t 5)), o 14 (.iaddr 1 (.t 12) (.t 13)), o 15 (.load none (.t 14)), o 16 (.mv (.t 1)), o 17 (.bin .neq (.t 15) (.t 16))])
     (.cond (.t 17) (.seq (.reg [o 4 (.mv (.c (.int .i64 (-1))))])
      (.ret)) (.skip)))
     (.reg [o 18 (.mv (.t 1)), o 19 (.bin .add (.t 18) (.c (.int .i64 1))), o 1 (.mv (.t 19))])))
    (.reg [o 10 (.mv (.t 5)), o 11 (.bin .add (.t 10) (.c (.int .i64 1))), o 5 (.mv (.t 11))]))))))
  (.seq (.reg [o 20 (.mv (.t 1)), o 4 (.mv (.t 20))])
  (.ret))),
  [.tmp 4]⟩
def mkI (k : Int) (x : Int) : Int := k
def cI (x : Int) : Nat := 1
theorem szL_le_mul {α : Type} (sz : α → Nat) (m : Nat) (h : ∀ x, sz x ≤ m) (l : List α) : szL sz l ≤ m * l.length := by
  induction l with
  | nil => simp [szL]
  | cons x l ih =>
    have := h x
    simp only [szL, List.map_cons, List.sum_cons, List.length_cons, Nat.mul_add] at ih ⊢
    omega
theorem szL_cI (l : List Int) : szL cI l = l.length := by
  induction l with
  | nil => rfl
  | cons x l ih => simp only [szL, List.map_cons, List.sum_cons, List.length_cons] at ih ⊢; rw [ih]; simp [cI]; omega

section
variable {P : Program} {f : Nat}
theorem markI_nil (hf : compF P f = some markIF) (k : Int) : Fnc P f [.nsl, .int .i64 k] (.int .i64 k) := by
  refine fn_of hf (by simp [markIF]) fun c => ?_
  unfold markIF
  simp
  refine loop_drop 0 (fun i e H c' => e 0 = .nsl ∧ e 1 = .int .i64 k ∧ e 5 = .int .i64 0 ∧ H = []) ⟨rfl, rfl, rfl, rfl⟩ ?_
  intro i e H c hi ⟨e0, e1, e5, hH⟩ N hN
  subst hH
  simp [e0, e1, e5]
  exact fin_plain ⟨rfl, rfl⟩
theorem heldI_nil (hf : compF P f = some heldIF) (k : Int) : Fnc P f [.nsl, .int .i64 k] (.int .i64 k) := by
  refine fn_of hf (by simp [heldIF]) fun c => ?_
  unfold heldIF
  simp
  refine loop_drop 0 (fun i e H c' => e 0 = .nsl ∧ e 1 = .int .i64 k ∧ e 5 = .int .i64 0 ∧ H = []) ⟨rfl, rfl, rfl, rfl⟩ ?_
  intro i e H c hi ⟨e0, e1, e5, hH⟩ N hN
  subst hH
  simp [e0, e1, e5]
  exact fin_plain ⟨rfl, rfl⟩
theorem markI_con1 (hf : compF P f = some markIF) {l : List Int} (hn : l.length ≤ 1048576) {k : Int} (hk : 0 ≤ k ∧ k ≤ 1099511627776) (t c : Nat) :
    Con P f [.ref 0 t 1 l.length, .int .i64 k] [⟨false, t, 1, l.map encI⟩] c fun r H' _ => r = .int .i64 (k + l.length) ∧ H' = [⟨false, t, 1, (mks mkI cI k l).map encI⟩] := by
  refine con_of hf (by simp [markIF]) ?_
  unfold markIF
  simp
  refine loop_drop l.length (fun i e H c' => e 0 = .ref 0 t 1 l.length ∧ e 1 = .int .i64 (k + i) ∧ e 5 = .int .i64 i ∧ H = [⟨false, t, 1, (mixed mkI cI k l i).map encI⟩]) ⟨rfl, by simp, rfl, by rw [mixed_zero]⟩ ?_
  intro i e H c hi ⟨e0, e1, e5, hH⟩ N hN
  subst hH
  have hs := mixed_set mkI cI k l (i := i)
  rw [szL_cI, List.length_take, Nat.min_eq_left hi] at hs
  have w1 : IntKind.i64.wrap (k + i + 1) = k + i + 1 := wrap64 (by omega) (by omega)
  simp [e0, e1, e5]
  refine ⟨fun h => ?_, fun h => ?_⟩
  · refine ⟨h, l[i], mixed_get _ _ _ _ h, ?_⟩
    have hs := hs h
    simp [e0, e1, e5, h, mixed_len, w1, putA, encI]
    refine hN _ _ _ _ h (List.Sublist.refl _) ⟨by simp [upd, e0], ?_, by simp [upd]; exact step64 (by unfold mx; omega) h, ?_⟩
    · simp [upd, w1]; omega
    · rw [← hs, List.map_set]; rfl
  · have h1 : i = l.length := by omega
    subst h1
    exact fin_all ⟨rfl, by rw [mixed_all]⟩
theorem heldI_fn1 (hf : compF P f = some heldIF) {l : List Int} (hn : l.length ≤ 1048576) {k : Int} (hk : 0 ≤ k ∧ k ≤ 1099511627776) (t : Nat) :
    Fnc P f [(SL.mk t (mks mkI cI k l)).av 1 encI, .int .i64 k] (.int .i64 (k + l.length)) := by
  refine fn_of hf (by simp [heldIF]) fun c => ?_
  unfold heldIF
  simp
  have hlen := mks_len mkI cI k l
  refine loop_drop l.length (fun i e H c' => e 0 = (SL.mk t (mks mkI cI k l)).av 1 encI ∧ e 1 = .int .i64 (k + i) ∧ e 5 = .int .i64 i ∧ H = []) ⟨rfl, by simp, rfl, rfl⟩ ?_
  intro i e H c hi ⟨e0, e1, e5, hH⟩ N hN
  subst hH
  have hg := fun h : i < l.length => mks_get mkI cI k l h
  rw [szL_cI, List.length_take, Nat.min_eq_left hi] at hg
  have w1 : IntKind.i64.wrap (k + i + 1) = k + i + 1 := wrap64 (by omega) (by omega)
  simp [e0, e1, e5, hlen]
  refine ⟨fun h => ⟨_, hg h, ?_⟩, fun h => ?_⟩
  · simp [e0, e1, e5, h, w1, mkI]
    refine hN _ _ _ _ h (List.Sublist.refl _) ⟨by simp [upd, e0], ?_, by simp [upd]; exact step64 (by unfold mx; omega) h, rfl⟩
    simp [upd, w1]; omega
  · have h1 : i = l.length := by omega
    subst h1
    exact fin_plain ⟨rfl, rfl⟩
end

/-! ### slices as0 objects -/
section
variable {α : Type}
/-- A slice of the state's, and what hangs on it. -/
def wood (t w : Nat) (encO : α → List AV) (inn : α → List AObj) (l : List α) : List AObj := ⟨false, t, w, l.map encO⟩ :: l.flatMap inn
def noInn (_ : α) : List AObj := []
theorem wood_flat (t w : Nat) (encO : α → List AV) (l : List α) : wood t w encO noInn l = [⟨false, t, w, l.map encO⟩] := by
  unfold wood noInn
  have : l.flatMap (fun _ : α => ([] : List AObj)) = [] := by induction l with | nil => rfl | cons x l ih => simp [List.flatMap_cons, ih]
  rw [this]

/-- Nothing in it is frozen. -/
def Free (a : AV) : Prop := ∀ T, Av T a
theorem free_agg {l : List AV} (h : ∀ a, a ∈ l → Free a) : Free (.agg l) := fun T => .agg fun j a ha => h a (List.mem_of_getElem? ha) T
theorem avRows_free {T : List Nat} {o : AObj} (h : ∀ row, row ∈ o.rows → ∀ a, a ∈ row → Free a) : AvRows T o := avRows_of fun row hr a ha => h row hr a ha T

/-- Seen as0 a tree. -/
theorem view_wood1 {enc encO : α → List AV} {inn : α → List AObj} {S : List AObj} {i t w n : Nat} {l : List α} (hs : ∀ o, o ∈ wood t w encO inn l → o ∈ S) (hn : l.length = n) (hc : ∀ x a, a ∈ enc x → a.cell = true)
    (hl : ∀ x, (encO x).length = (enc x).length) (hv : ∀ x, (∀ o, o ∈ inn x → o ∈ S) → ∀ (j : Nat) (a a' : AV), (encO x)[j]? = some a → (enc x)[j]? = some a' → View S a a') : View S (.ref i t w n) ((SL.mk t l).av w enc) := by
  have get : ∀ (r : Nat) (x x' : List AV), (l.map encO)[r]? = some x → (l.map enc)[r]? = some x' → ∃ y, y ∈ l ∧ x = encO y ∧ x' = enc y := fun r x x' h1 h2 => by
    rw [List.getElem?_map] at h1 h2
    obtain ⟨y, hy, rfl⟩ := Option.map_eq_some_iff.1 h1
    rw [hy] at h2
    simp at h2
    exact ⟨y, List.mem_of_getElem? hy, rfl, h2.symm⟩
  refine .ref (hs _ (by unfold wood; exact List.mem_cons_self ..)) (by simp; omega) (by simp [hn]) (fun r x x' h1 h2 => ?_) (fun r j x a hx ha => ?_) fun r j x x' a a' h1 h2 h3 h4 => ?_
  · obtain ⟨y, _, rfl, rfl⟩ := get r x x' h1 h2; exact hl y
  · obtain ⟨y, hy, rfl⟩ := List.mem_map.1 (List.mem_of_getElem? hx)
    exact hc y a (List.mem_of_getElem? ha)
  · obtain ⟨y, hy, rfl, rfl⟩ := get r x x' h1 h2
    exact hv y (fun o ho => hs o (by unfold wood; exact List.mem_cons_of_mem _ (List.mem_flatMap.2 ⟨y, hy, ho⟩))) j a a' h3 h4

/-- A slice, nil or not, as0 objects. -/
def SL.ref (w : Nat) : SL α → AV
  | .nil => .nsl
  | .mk t xs => .ref 0 t w xs.length
def SL.wood (w : Nat) (encO : α → List AV) (inn : α → List AObj) : SL α → List AObj
  | .nil => []
  | .mk t xs => A.wood t w encO inn xs
def SL.marks (mk : Int → α → α) (cnt : α → Nat) (k : Int) : SL α → SL α
  | .nil => .nil
  | .mk t xs => .mk t (mks mk cnt k xs)
theorem SL.marks_len (mk : Int → α → α) (cnt : α → Nat) (k : Int) (s : SL α) : (s.marks mk cnt k).list.length = s.list.length := by
  cases s <;> simp [SL.marks, mks_len]
theorem free_ref (w : Nat) (s : SL α) : Free (s.ref w) := fun T => by cases s <;> constructor
theorem view_wood {enc encO : α → List AV} {inn : α → List AObj} {S : List AObj} {w : Nat} {s : SL α} (hs : ∀ o, o ∈ s.wood w encO inn → o ∈ S) (hc : ∀ x a, a ∈ enc x → a.cell = true)
    (hl : ∀ x, (encO x).length = (enc x).length) (hv : ∀ x, (∀ o, o ∈ inn x → o ∈ S) → ∀ (j : Nat) (a a' : AV), (encO x)[j]? = some a → (enc x)[j]? = some a' → View S a a') : View S (s.ref w) (s.av w enc) := by
  cases s with
  | nil => exact .refl _
  | mk t l => exact view_wood1 hs rfl hc hl hv
theorem view_flat {enc : α → List AV} {S : List AObj} {w : Nat} {s : SL α} (hs : ∀ o, o ∈ s.wood w enc noInn → o ∈ S) (hc : ∀ x a, a ∈ enc x → a.cell = true) : View S (s.ref w) (s.av w enc) :=
  view_wood hs hc (fun _ => rfl) fun x _ j a a' h1 h2 => by rw [h1] at h2; cases h2; exact .refl _
theorem tags_wood {w : Nat} {encO : α → List AV} {inn : α → List AObj} {mk : Int → α → α} {cnt : α → Nat} (hi : ∀ k x, tags (inn (mk k x)) = tags (inn x)) (k : Int) (s : SL α) : tags ((s.marks mk cnt k).wood w encO inn) = tags (s.wood w encO inn) := by
  have key : ∀ (l : List α) (k : Int), tags ((mks mk cnt k l).flatMap inn) = tags (l.flatMap inn) := by
    intro l
    induction l with
    | nil => intro k; rfl
    | cons x l ih =>
      intro k
      have e : ∀ X Y : List AObj, tags (X ++ Y) = tags X ++ tags Y := fun X Y => by simp [tags]
      simp only [mks, List.flatMap_cons, e, hi, ih]
  cases s with
  | nil => rfl
  | mk t l =>
    show t :: tags ((mks mk cnt k l).flatMap inn) = t :: tags (l.flatMap inn)
    rw [key]
theorem free_wood {w : Nat} {encO : α → List AV} {inn : α → List AObj} (hO : ∀ x a, a ∈ encO x → Free a) (hI : ∀ x o, o ∈ inn x → ∀ T, AvRows T o) (s : SL α) : ∀ o, o ∈ s.wood w encO inn → ∀ T, AvRows T o := by
  cases s with
  | nil => intro o ho; cases ho
  | mk t l =>
    intro o ho T
    rcases List.mem_cons.1 ho with rfl | ho
    · exact avRows_free fun row hr a ha => by
        obtain ⟨x, _, rfl⟩ := List.mem_map.1 hr
        exact hO x a ha
    · obtain ⟨x, _, hx⟩ := List.mem_flatMap.1 ho
      exact hI x o hx T
end

section
variable {P : Program} {α : Type} {enc encO : α → List AV} {inn : α → List AObj} {con : α → α} {w : Nat} {f g : Nat}
/-- A copy of a slice, kept as0 objects. -/
theorem toSO_fn {z : List AV} {bytes : Nat} (hf : compF P f = some (toSF w z bytes g)) (hz : z.length = w) (hw : ∀ x, (enc x).length = w) (hwO : ∀ x, (encO x).length = w) (hO : ∀ x a, a ∈ encO x → Free a) (hI : ∀ x o, o ∈ inn x → ∀ T, AvRows T o)
    {s : SL α} (hn : s.list.length * bytes ≤ 281474976710656) (hn' : s.list.length ≤ 281474976710656)
    (hg : ∀ x, x ∈ s.list → ∀ c, Con P g [.agg (enc x)] [] c fun r O _ => ∃ b, r = .agg (encO b) ∧ O = inn b ∧ con b = con x) (c : Nat) :
    Con P f [s.av w enc] [] c fun r H' _ => ∃ b : SL α, r = b.ref w ∧ H' = b.wood w encO inn ∧ b.list.map con = s.list.map con := by
  refine con_of hf (by simp [toSF]) ?_
  unfold toSF
  simp
  refine ⟨by omega, by omega, loop_nat s.list.length (fun i e H c' => e 0 = s.av w enc ∧ e 3 = .ref 0 c w s.list.length ∧ e 4 = .int .i64 i ∧ ∃ ys : List α, ys.length = i ∧ ys.map con = (s.list.take i).map con ∧ H = ⟨false, c, w, grow encO z s.list.length ys⟩ :: ys.flatMap inn)
    ⟨rfl, rfl, rfl, [], rfl, rfl, by rw [grow_nil]; rfl⟩ ?_⟩
  intro i e H c' hi ⟨e0, e3, e4, ys, hy, hcon, hH⟩ N hN
  subst hH
  simp [e0, e3, e4]
  refine ⟨fun h => ⟨s.list[i], List.getElem?_eq_getElem h, ?_⟩, fun h => ?_⟩
  · simp [hw, take_len, e0, e3, e4]
    refine call_new (hg _ (List.getElem_mem h) _) (Views.refl _ _) fun r O c'' hc' ⟨b, hr, hO', hb⟩ _ _ => ?_
    subst hr; subst hO'
    refine ⟨_, .refl _, free_agg (hO b) _, fun o ho => hI b o ho _, ?_⟩
    simp [h, hwO, e0, e3, e4]
    refine ⟨_, grow_get _ _ hy h, hN _ _ _ h ⟨by simp [upd, e0], by simp [upd, e3], by simp [upd]; exact step64 (by unfold mx; omega) h, ys ++ [b], by simp [hy], ?_, ?_⟩⟩
    · rw [List.take_succ_eq_append_getElem h, List.map_append, List.map_append, hcon]; simp [hb]
    · rw [putA_all (by rw [hwO, hz]), grow_set _ _ hy h, List.flatMap_append]
      simp
  · have : i = s.list.length := by omega
    subst this
    rw [grow_all _ _ hy]
    exact fin_all ⟨.mk c ys, by rw [← hy]; rfl, rfl, by simpa using hcon⟩
/-- The same, of plain cells. -/
theorem toPO_fn {v : α → AV} {z : AV} {bytes : Nat} (hf : compF P f = some (toPF z bytes)) (hv : ∀ x (K : List AV → Prop), cellsW (v x) K = K [v x]) {s : SL α} (hn : s.list.length * bytes ≤ 281474976710656) (hn' : s.list.length ≤ 281474976710656) (c : Nat) :
    Con P f [s.av 1 fun x => [v x]] [] c fun r H' _ => ∃ b : SL α, r = b.ref 1 ∧ H' = b.wood 1 (fun x => [v x]) noInn ∧ b.list = s.list := by
  refine con_of hf (by simp [toPF]) ?_
  unfold toPF
  simp
  refine ⟨by omega, by omega, loop_nat s.list.length (fun i e H c' => e 0 = (s.av 1 fun x => [v x]) ∧ e 3 = .ref 0 c 1 s.list.length ∧ e 4 = .int .i64 i ∧ H = [⟨false, c, 1, grow (fun x => [v x]) [z] s.list.length (s.list.take i)⟩]) ⟨rfl, rfl, rfl, by rw [List.take_zero, grow_nil]⟩ ?_⟩
  intro i e H c' hi ⟨e0, e3, e4, hH⟩ N hN
  subst hH
  simp [e0, e3, e4]
  refine ⟨fun h => ⟨s.list[i], List.getElem?_eq_getElem h, ?_⟩, fun h => ?_⟩
  · have hl : (s.list.take i).length = i := by simp; omega
    simp [h, hv, e0, e3, e4]
    refine ⟨_, grow_get _ _ hl h, hN _ _ _ h ⟨by simp [upd, e0], by simp [upd, e3], by simp [upd]; exact step64 (by unfold mx; omega) h, ?_⟩⟩
    rw [List.take_succ_eq_append_getElem h, ← grow_set _ _ hl h]; rfl
  · have : i = s.list.length := by omega
    subst this
    rw [List.take_length, grow_all _ _ rfl]
    exact fin_all ⟨.mk c s.list, rfl, (wood_flat ..).symm, rfl⟩
end
section
variable {P : Program} {f : Nat}
theorem markI_con (hf : compF P f = some markIF) {s : SL Int} (hn : s.list.length ≤ 1048576) {k : Int} (hk : 0 ≤ k ∧ k ≤ 1099511627776) (c : Nat) :
    Con P f [s.ref 1, .int .i64 k] (s.wood 1 encI noInn) c fun r H' _ => r = .int .i64 (k + s.list.length) ∧ H' = (s.marks mkI cI k).wood 1 encI noInn := by
  cases s with
  | nil =>
    have := markI_nil hf k c
    simpa [SL.ref, SL.wood, SL.marks] using this
  | mk t l =>
    have := markI_con1 hf (l := l) hn hk t c
    simpa [SL.ref, SL.wood, SL.marks, wood_flat] using this
theorem heldI_fn (hf : compF P f = some heldIF) {s : SL Int} (hn : s.list.length ≤ 1048576) {k : Int} (hk : 0 ≤ k ∧ k ≤ 1099511627776) :
    Fnc P f [(s.marks mkI cI k).av 1 encI, .int .i64 k] (.int .i64 (k + s.list.length)) := by
  cases s with
  | nil =>
    have := heldI_nil hf k
    simpa [SL.av, SL.marks] using this
  | mk t l => exact heldI_fn1 hf (l := l) hn hk t
end
end A
end Go.Proofs.Ytfcimcoanlgldaa

/-
  Slices handed back as0 objects, and the same seen as0 trees; appends. No condition.
-/

namespace Go.Proofs.Ytfcimcoanlgldaa
namespace A
set_option linter.unusedVariables false
set_option linter.unusedSimpArgs false

theorem szL_const {α : Type} (n : Nat) (l : List α) : szL (fun _ => n) l = n * l.length := by
  induction l with
  | nil => simp [szL]
  | cons x l ih => simp [szL] at ih ⊢; rw [Nat.mul_add]; omega

section
variable {P : Program} {H : List AObj} {c : Nat} {K : AV → List AObj → Nat → Prop}
@[simp] theorem srcW_slc (wd t w : Nat) (rows : List (List AV)) (K : List (List AV) → Prop) : srcW wd (.slc t w rows) H K = (w = wd ∧ K rows) := (rfl)
@[simp] theorem srcW_nsl (wd : Nat) (K : List (List AV) → Prop) : srcW wd .nsl H K = K [] := (rfl)
@[simp] theorem srcW_str (wd : Nat) (l : List UInt8) (K : List (List AV) → Prop) : srcW wd (.str l) H K = (wd = 1 ∧ K (l.map byteRow)) := (rfl)
@[simp] theorem srcW_ref (wd j t w n : Nat) (K : List (List AV) → Prop) : srcW wd (.ref j t w n) H K = (w = wd ∧ getW H j fun ob => ob.tag = t ∧ ob.mp = false ∧ ob.w = w ∧ n ≤ ob.rows.length ∧ K (ob.rows.take n)) := (rfl)
@[simp] theorem srcW_sl {α : Type} (w : Nat) (f : α → List AV) (s : SL α) (K : List (List AV) → Prop) : srcW w (s.av w f) H K = K (s.list.map f) := by
  cases s <;> simp [SL.av]
@[simp] theorem appendW_ref (wd b i t w n : Nat) (y : AV) : appendW wd b (.ref i t w n) y H c K = srcW wd y H fun rows' => w = wd ∧ getW H i fun ob => ob.tag = t ∧ ob.mp = false ∧ ob.w = w ∧ ob.rows.length = n ∧ (n + rows'.length) * b ≤ 140737488355328 ∧ n + rows'.length ≤ mx ∧
        K (.ref i c wd (n + rows'.length)) (H.set i ⟨false, c, wd, ob.rows ++ rows'⟩) (c + 1) := (rfl)
@[simp] theorem appendW_nsl (wd b : Nat) (y : AV) : appendW wd b .nsl y H c K = srcW wd y H fun rows' => (rows' = [] → K .nsl H c) ∧ (rows' ≠ [] → rows'.length * b ≤ 140737488355328 ∧ rows'.length ≤ mx ∧ K (.ref H.length c wd rows'.length) (H ++ [⟨false, c, wd, rows'⟩]) (c + 1)) := (rfl)

theorem tr_fn {f : Nat} {l : List AV} {res : AV} (hf : Fnc P f l res) (hfr : ∀ c, From c res) : Tr P f l fun _ r => r = res := fun c => (hf c).mono fun r H' c' _ ⟨h1, h2⟩ => ⟨h2, h1, h1 ▸ hfr c⟩
theorem callD_fn0 {R : AV → Prop} {f : Nat} {l : List AV} {K : AV → Prop} {res : AV} (hf : Fnc P f l res) (hR : ∀ v, R v ↔ v = res) (hfr : ∀ c, From c res) (k : K res) : callD P R f l H c K :=
  ⟨l, Views.refl _ _, (fun c => (hf c).mono fun r H' c' _ ⟨h1, h2⟩ => ⟨h2, (hR r).2 h1, h1 ▸ hfr c⟩), ⟨res, (hR res).2 rfl, hfr c⟩, fun r hr _ => by rw [(hR r).1 hr]; exact k⟩
theorem callD_tree0 {R : AV → Prop} {f : Nat} {l : List AV} {K : AV → Prop} (hf : Tr P f l fun _ r => R r) (hx : ∃ r, R r ∧ From c r) (k : ∀ r, R r → From c r → K r) : callD P R f l H c K := ⟨l, Views.refl _ _, hf, hx, k⟩

theorem toStrW_ref {i t n : Nat} {l : List UInt8} {K : AV → Prop} (ho : H[i]? = some ⟨false, t, 1, l.map byteRow⟩) (hn : l.length = n) (hl : l.length ≤ mx) (k : K (.str l)) : toStrW (.ref i t 1 n) H K := by
  unfold toStrW
  simp only [srcW_ref]
  exact ⟨trivial, _, ho, rfl, rfl, rfl, by simp; omega, l, by rw [← hn]; exact List.take_of_length_le (by simp), hl, k⟩
theorem wrap_u8 {n : Nat} (h : n < 256) : IntKind.u8.wrap (IntKind.i64.wrap n) = ((UInt8.ofNat n).toNat : Int) := by
  rw [wrap64 (by omega) (by omega), IntKind.wrap_u8]
  simp [UInt8.toNat_ofNat']
/-- What a call gives, seen otherwise behind it. -/
theorem Con.fin {f : Nat} {args : List AV} {Q Q' : AV → List AObj → Nat → Prop} (h : Con P f args H c Q)
    (k : ∀ r H' c', c ≤ c' → Q r H' c' → (∀ t, t < c → t ∈ tags H' → t ∈ tags H) → (tags H').Nodup → finW Q' r H' c') : Con P f args H c Q' := by
  intro G w vs e I hs hr
  refine (h G w vs e I hs hr).mono fun en w' ⟨v, res, H', G1, h1, h2, x1, I1, r1⟩ => ?_
  subst e
  obtain ⟨S, Hk, Hk', v', q1, qr, q2, q3, q4, q5⟩ := k res H' G1.c x1.x.c h2 x1.oldH I1.nodup
  have hS : ∀ t, t ∈ tags S → t ∈ tags H' := fun t ht => by obtain ⟨o, ho, rfl⟩ := of_mem_tags ht; exact mem_tags (q2 o ho)
  exact ⟨v, v', Hk', G1.freeze S, h1, q5, ⟨x1.x.trans (Ext1.freeze _ _ _), x1.os, x1.tape, x1.output, x1.size, x1.frame, x1.newm, fun t h1 h2 => x1.oldH t h1 ((q1.map _).subset (by rw [qr.tags_eq] at h2; exact h2)), fun t h1 h2 => by
    rcases h2 with h2 | h2
    · exact x1.oldF t h1 h2
    · exact .inr (x1.oldH t h1 (hS t h2))⟩, I1.ren q1.subset q2 (I1.freeze q1 q2 q3) qr, q4.rep I1 q2 r1⟩

/-- A function that hands back objects of its own hands back trees of its own. -/
theorem tr_of {f : Nat} {args : List AV} {Q : AV → List AObj → Nat → Prop} {Q' : Nat → AV → Prop} (h : ∀ c, Con P f args [] c Q)
    (k : ∀ c r O c', c ≤ c' → Q r O c' → (∀ t, t ∈ tags O → c ≤ t) → ∃ v', View O r v' ∧ Q' c v' ∧ From c v') : Tr P f args Q' := by
  intro c
  refine (h c).fin fun r O c' hc hq ho hd => ?_
  obtain ⟨v', h1, h2, h3⟩ := k c r O c' hc hq fun t ht => by
    rcases Nat.lt_or_ge t c with h | h
    · have := ho t h ht; simp [tags] at this
    · exact h
  exact ⟨O, [], [], v', List.nil_sublist _, .nil, fun _ h => h, by simp [tags], h1, rfl, h2, h3⟩

theorem free_tup {l : List AV} (h : ∀ a, a ∈ l → Free a) : Free (.tup l) := fun T => .tup fun j a ha => h a (List.mem_of_getElem? ha) T
theorem free_bool (b : Bool) : Free (.bool b) := fun _ => .bool
theorem free_int (k : IntKind) (n : Int) : Free (.int k n) := fun _ => .int
theorem free_str (l : List UInt8) : Free (.str l) := fun _ => .str
theorem view_tup {S : List AObj} {l l' : List AV} (h : Views S l l') : View S (.tup l) (.tup l') := .tup h.spec.1 h.spec.2
theorem from_tup {c : Nat} {l : List AV} (h : ∀ a, a ∈ l → From c a) : From c (.tup l) := fun T hT => .tup fun j a ha => h a (List.mem_of_getElem? ha) T hT

section
variable {α : Type}
/-- A slice as0 an object at a place of the state. -/
def SL.at_ (i w : Nat) : SL α → AV
  | .nil => .nsl
  | .mk t xs => .ref i t w xs.length
theorem view_at (i w : Nat) (s : SL α) (S : List AObj) : View S (s.ref w) (s.at_ i w) := by cases s <;> constructor
theorem view_at' (i w : Nat) (s : SL α) (S : List AObj) : View S (s.at_ i w) (s.ref w) := by cases s <;> constructor
@[simp] theorem at_len (i w : Nat) (s : SL α) (K : AV → Prop) : lenSlcW (s.at_ i w) K = K (.int .i64 s.list.length) := by cases s <;> rfl
@[simp] theorem at_cells (i w : Nat) (s : SL α) (K : List AV → Prop) : cellsW (s.at_ i w) K = K [s.at_ i w] := by cases s <;> rfl
@[simp] theorem ref_cells (w : Nat) (s : SL α) (K : List AV → Prop) : cellsW (s.ref w) K = K [s.ref w] := by cases s <;> rfl
@[simp] theorem cell_at (i w : Nat) (s : SL α) : (s.at_ i w).cell = true := by cases s <;> rfl
@[simp] theorem cell_ref (w : Nat) (s : SL α) : (s.ref w).cell = true := by cases s <;> rfl
theorem isnl_av (neg : Bool) (w : Nat) (f : α → List AV) (s : SL α) (K : AV → Prop) (h0 : s.list = [] → K (.bool (true != neg))) (h1 : K (.bool (false != neg))) : isnlW neg (s.av w f) K := by
  cases s with
  | nil => exact h0 rfl
  | mk t l => cases l with
    | nil => exact ⟨h0 rfl, h1⟩
    | cons x l => exact h1

/-- Flat elements: cells that hang on nothing. -/
def Flat (enc : α → List AV) : Prop := ∀ x a, a ∈ enc x → a.cell = true ∧ Free a
theorem Flat.cells {enc : α → List AV} (h : Flat enc) : ∀ x a, a ∈ enc x → a.cell = true := fun x a ha => (h x a ha).1
theorem Free.from {a : AV} (h : Free a) (c : Nat) : From c a := fun T _ => h T
theorem flat_wood (t w : Nat) (enc : α → List AV) (l : List α) : (SL.mk t l).wood w enc noInn = [⟨false, t, w, l.map enc⟩] := wood_flat ..
theorem flat_free {enc : α → List AV} (h : Flat enc) (w : Nat) (s : SL α) : ∀ o, o ∈ s.wood w enc noInn → ∀ T, AvRows T o :=
  free_wood (fun x a ha => (h x a ha).2) (fun x o ho => by cases ho) s
theorem flat_from {enc : α → List AV} (h : Flat enc) {w c : Nat} {s : SL α} (ht : ∀ t, t ∈ tags (s.wood w enc noInn) → c ≤ t) : From c (s.av w enc) := by
  cases s with
  | nil => exact from_nsl c
  | mk t l =>
    refine from_slc (ht t ?_) fun row hr a ha => ?_
    · rw [flat_wood]; simp [tags]
    · obtain ⟨x, _, rfl⟩ := List.mem_map.1 hr
      exact ((h x a ha).2).from c
theorem flat_tr {enc : α → List AV} (hE : Flat enc) {w : Nat} {f : Nat} {args : List AV} {Q : SL α → Prop} (h : ∀ c, Con P f args [] c fun r O _ => ∃ b : SL α, r = b.ref w ∧ O = b.wood w enc noInn ∧ Q b) :
    Tr P f args fun _ r => ∃ b : SL α, r = b.av w enc ∧ Q b :=
  tr_of h fun c r O c' _ ⟨b, h1, h2, h3⟩ ht => ⟨b.av w enc, by rw [h1]; exact view_flat (by rw [h2]; exact fun _ h => h) hE.cells, ⟨b, rfl, h3⟩, flat_from hE (by rw [← h2]; exact ht)⟩
/-- The same with more results, which hang on nothing. -/
theorem flat_tr2 {enc : α → List AV} (hE : Flat enc) {w : Nat} {f : Nat} {args : List AV} {Q : SL α → List AV → Prop} (hF : ∀ b l, Q b l → ∀ a, a ∈ l → Free a)
    (h : ∀ c, Con P f args [] c fun r O _ => ∃ (b : SL α) (l : List AV), r = .tup (b.ref w :: l) ∧ O = b.wood w enc noInn ∧ Q b l) :
    Tr P f args fun _ r => ∃ (b : SL α) (l : List AV), r = .tup (b.av w enc :: l) ∧ Q b l :=
  tr_of h fun c r O c' _ ⟨b, l, h1, h2, h3⟩ ht => ⟨.tup (b.av w enc :: l), by rw [h1]; exact view_tup (.cons (view_flat (by rw [h2]; exact fun _ h => h) hE.cells) (Views.refl _ _)), ⟨b, l, rfl, h3⟩,
    from_tup fun a ha => by
      rcases List.mem_cons.1 ha with rfl | ha
      · exact flat_from hE (by rw [← h2]; exact ht)
      · exact (hF b l h3 a ha).from c⟩

theorem flat_marks {enc : α → List AV} {w : Nat} (mk : Int → α → α) (cnt : α → Nat) (k : Int) (s : SL α) : tags ((s.marks mk cnt k).wood w enc noInn) = tags (s.wood w enc noInn) := tags_wood (inn := noInn) (mk := mk) (cnt := cnt) (fun _ _ => rfl) k s
end
end
end A
end Go.Proofs.Ytfcimcoanlgldaa

/-
  Slices: copies by append, changes in place, what is kept of one. No condition.
-/

namespace Go.Proofs.Ytfcimcoanlgldaa
namespace A
set_option linter.unusedVariables false
set_option linter.unusedSimpArgs false

/-- slices.Clone. -/
def cloneF (w : Nat) (z : List AV) (b : Nat) : Fun := ⟨8,
  .seq (.reg [o 2 (.mv (.c .nsl))])
  (.seq (.seq (.reg [o 3 (.mv (.t 0)), o 4 (.isnl false (.t 3))])
  (.cond (.t 4) (.seq (.reg [o 2 (.mv (.c .nsl))])
   (.ret)) (.skip)))
  (.seq (.reg [o 5 (.bslice w z 0 []), o 6 (.mv (.t 0)), o 7 (.append w b (.t 5) (.t 6)), o 2 (.mv (.t 7))])
  (.ret))),
  [.tmp 2]⟩

theorem sub_one {α : Type} (a : α) (l : List α) : [a].Sublist (a :: l) := (List.nil_sublist l).cons_cons a
theorem sub_two {α : Type} (a b : α) (l : List α) : [a, b].Sublist (a :: b :: l) := (sub_one b l).cons_cons a

@[simp] theorem getW_len {α : Type} (L M : List α) (x : α) (K : α → Prop) : getW (L ++ x :: M) L.length K = K x := getW_of (by rw [List.getElem?_append_right (Nat.le_refl _)]; simp) K
@[simp] theorem set_len {α : Type} (L M : List α) (x y : α) : (L ++ x :: M).set L.length y = L ++ y :: M := by
  rw [List.set_append_right _ _ (Nat.le_refl _), Nat.sub_self, List.set_cons_zero]
@[simp] theorem getW_len1 {α : Type} (L M : List α) (x y : α) (K : α → Prop) : getW (L ++ x :: y :: M) (L.length + 1) K = K y := getW_of (by rw [List.getElem?_append_right (by omega)]; simp) K
@[simp] theorem set_len1 {α : Type} (L M : List α) (x y z : α) : (L ++ x :: y :: M).set (L.length + 1) z = L ++ x :: z :: M := by
  rw [List.set_append_right _ _ (by omega)]; simp
@[simp] theorem getW_len2 {α : Type} (L M : List α) (x y z : α) (K : α → Prop) : getW (L ++ x :: y :: z :: M) (L.length + 2) K = K z := getW_of (by rw [List.getElem?_append_right (by omega)]; simp) K
@[simp] theorem getW_len2' {α : Type} (L M : List α) (x y z : α) (K : α → Prop) : getW (L ++ x :: y :: z :: M) (L.length + 1 + 1) K = K z := getW_len2 L M x y z K
/-- Some of the objects are let go. -/
theorem fin_sub {Q : AV → List AObj → Nat → Prop} {v v' : AV} {H Hk : List AObj} {c : Nat} (hs : Hk.Sublist H) (hv : View [] v v') (h : Q v' Hk c) : finW Q v H c := ⟨[], Hk, Hk, v', hs, .refl _ _, by simp, by simp [tags], hv, h⟩
/-- Some of the objects are let go, those that stay are named anew. -/
theorem fin_ren {Q : AV → List AObj → Nat → Prop} {v v' : AV} {H Hk Hk' : List AObj} {c : Nat} (hs : Hk.Sublist H) (hr : Rens [] Hk Hk') (hv : View [] v v') (h : Q v' Hk' c) : finW Q v H c := ⟨[], Hk, Hk', v', hs, hr, by simp, by simp [tags], hv, h⟩

section
variable {α : Type}
def SL.lmap (f : List α → List α) : SL α → SL α
  | .nil => .nil
  | .mk t l => .mk t (f l)
theorem ref_mk (t w : Nat) (l : List α) : (SL.mk t l).ref w = .ref 0 t w l.length := rfl
theorem ref_nil (w : Nat) : (SL.nil : SL α).ref w = .nsl := rfl
theorem SL.lmap_list {f : List α → List α} (h : f [] = []) (s : SL α) : (s.lmap f).list = f s.list := by cases s <;> simp [SL.lmap, h]
theorem SL.wood_lmap (w : Nat) (enc : α → List AV) (s : SL α) : (s.lmap id).wood w enc noInn = s.wood w enc noInn := by cases s <;> rfl

section
variable {P : Program} {enc : α → List AV} {w b f : Nat} {z : List AV}
theorem clone_con (hf : compF P f = some (cloneF w z b)) {s : SL α} (hn : s.list.length * b ≤ 140737488355328) (hn' : s.list.length ≤ mx) (c : Nat) :
    Con P f [s.av w enc] [] c fun r O _ => ∃ x : SL α, r = x.ref w ∧ O = x.wood w enc noInn ∧ x.list = s.list := by
  refine con_of hf (by simp [cloneF]) ?_
  unfold cloneF
  simp
  refine isnl_av _ _ _ _ _ (fun h => ?_) ?_
  · simp
    exact fin_all ⟨.nil, rfl, rfl, by rw [h]; rfl⟩
  · simp
    exact ⟨hn, hn', fin_all ⟨.mk (c + 1) s.list, by simp [SL.ref], by simp [flat_wood], rfl⟩⟩
theorem clone_tr (hf : compF P f = some (cloneF w z b)) (hE : Flat enc) {s : SL α} (hn : s.list.length * b ≤ 140737488355328) (hn' : s.list.length ≤ mx) : Tr P f [s.av w enc] fun _ r => ∃ x : SL α, r = x.av w enc ∧ x.list = s.list :=
  flat_tr hE (clone_con hf hn hn')
end

/-- Changed up to an index. -/
def mixM (f : α → α) (l : List α) (i : Nat) : List α := (l.take i).map f ++ l.drop i
theorem mixM_zero (f : α → α) (l : List α) : mixM f l 0 = l := by simp [mixM]
theorem mixM_all (f : α → α) (l : List α) : mixM f l l.length = l.map f := by simp [mixM]
@[simp] theorem mixM_len (f : α → α) (l : List α) (i : Nat) : (mixM f l i).length = l.length := by simp [mixM]; omega
@[simp] theorem mixM_nil (f : α → α) (i : Nat) : mixM f [] i = [] := by simp [mixM]
theorem mixM_get (f : α → α) {l : List α} {i : Nat} (h : i < l.length) : (mixM f l i)[i]? = some l[i] := by
  unfold mixM
  rw [List.getElem?_append_right (by simp; omega)]
  simp [h, Nat.min_eq_left (Nat.le_of_lt h)]
theorem mixM_set (f : α → α) {l : List α} {i : Nat} (h : i < l.length) : (mixM f l i).set i (f l[i]) = mixM f l (i + 1) := by
  unfold mixM
  rw [List.set_append_right _ _ (by simp; omega), List.length_map, List.length_take, Nat.min_eq_left (by omega), Nat.sub_self, List.drop_eq_getElem_cons h, List.set_cons_zero, List.take_succ_eq_append_getElem h, List.map_append]
  simp
theorem mixM_same (f : α → α) {l : List α} {i : Nat} (h : i < l.length) (e : f l[i] = l[i]) : mixM f l i = mixM f l (i + 1) := by
  have := mixM_set f h
  rw [e] at this
  rw [← this]
  refine List.ext_getElem? fun j => ?_
  by_cases hj : j = i
  · subst hj; rw [mixM_get f h, List.getElem?_set_self (by simp; exact h)]
  · rw [List.getElem?_set_ne (by omega)]

/-- Kept up to an index. -/
theorem filter_step (p : α → Bool) {l : List α} {i : Nat} (h : i < l.length) : (l.take (i + 1)).filter p = (l.take i).filter p ++ (if p l[i] then [l[i]] else []) := by
  rw [List.take_succ_eq_append_getElem h, List.filter_append]
  by_cases hp : p l[i] = true <;> simp [hp]
end
/-! ### the ends of the laws: marks on what was handed in, on what was handed back -/
section
variable {P : Program} {K : AV → List AObj → Nat → Prop} {α : Type} {enc encO : α → List AV} {inn : α → List AObj} {w f : Nat} {mk : Int → α → α} {cnt : α → Nat}
theorem call_midr {f : Nat} {l l' : List AV} {a : AObj} {A B C : List AObj} {c : Nat} {Q : AV → List AObj → Nat → Prop} (hf : Con P f l' B c Q) (hv : Views [] l l')
    (k : ∀ r B' c', c ≤ c' → Q r B' c' → tags B' = tags B ∧ Av [] r ∧ (∀ o, o ∈ B' → AvRows [] o) ∧ K r (a :: (A ++ (B' ++ C))) c') : CallW P f l (a :: (A ++ (B ++ C))) c K := by
  have e : ∀ X : List AObj, a :: (A ++ (X ++ C)) = (a :: A) ++ X ++ C := fun X => by simp
  rw [e]
  exact call_mid hf hv fun r B' c' hc hq => by rw [← e]; exact k r B' c' hc hq
theorem SL.marks_ref (k : Int) (s : SL α) : (s.marks mk cnt k).ref w = s.ref w := by cases s <;> simp [SL.marks, SL.ref, mks_len]
theorem view_marks {S : List AObj} {s : SL α} {k : Int} (hs : ∀ o, o ∈ (s.marks mk cnt k).wood w enc noInn → o ∈ S) (hc : ∀ x a, a ∈ enc x → a.cell = true) : View S (s.ref w) ((s.marks mk cnt k).av w enc) := by
  rw [← SL.marks_ref (mk := mk) (cnt := cnt) k s]
  exact view_flat hs hc
theorem mark_mid {A C : List AObj} {s : SL α} {k n : Int} {c : Nat} (hf : Con P f [s.ref w, .int .i64 k] (s.wood w encO inn) c fun r H' _ => r = .int .i64 n ∧ H' = (s.marks mk cnt k).wood w encO inn)
    (hi : ∀ k x, tags (inn (mk k x)) = tags (inn x)) (hO : ∀ x a, a ∈ encO x → Free a) (hI : ∀ x o, o ∈ inn x → ∀ T, AvRows T o) (kk : ∀ c', c ≤ c' → K (.int .i64 n) (A ++ (s.marks mk cnt k).wood w encO inn ++ C) c') :
    CallW P f [s.ref w, .int .i64 k] (A ++ s.wood w encO inn ++ C) c K :=
  call_mid hf (Views.refl _ _) fun r B' c' hc ⟨h1, h2⟩ => by
    subst h1; subst h2
    exact ⟨tags_wood hi _ s, .int, fun o ho => free_wood hO hI _ o ho _, kk c' hc⟩
theorem mark_first {C : List AObj} {s : SL α} {k n : Int} {c : Nat} (hE : Flat enc) (hf : Con P f [s.ref w, .int .i64 k] (s.wood w enc noInn) c fun r H' _ => r = .int .i64 n ∧ H' = (s.marks mk cnt k).wood w enc noInn)
    (kk : ∀ c', c ≤ c' → K (.int .i64 n) ((s.marks mk cnt k).wood w enc noInn ++ C) c') : CallW P f [s.ref w, .int .i64 k] (s.wood w enc noInn ++ C) c K :=
  mark_mid (A := []) hf (fun _ _ => rfl) (fun x a ha => (hE x a ha).2) (fun x o ho => by cases ho) kk
theorem mark_last {A : List AObj} {s : SL α} {k n : Int} {c : Nat} (hE : Flat enc) (hf : Con P f [s.ref w, .int .i64 k] (s.wood w enc noInn) c fun r H' _ => r = .int .i64 n ∧ H' = (s.marks mk cnt k).wood w enc noInn)
    (kk : ∀ c', c ≤ c' → K (.int .i64 n) (A ++ (s.marks mk cnt k).wood w enc noInn) c') : CallW P f [s.ref w, .int .i64 k] (A ++ s.wood w enc noInn) c K := by
  have := mark_mid (A := A) (C := []) (K := K) hf (fun _ _ => rfl) (fun x a ha => (hE x a ha).2) (fun x o ho => by cases ho) (by simpa using kk)
  simpa using this
end
end A
end Go.Proofs.Ytfcimcoanlgldaa

/-
  Ranges, and what is asked of all elements. No condition.
-/


namespace Go.Proofs.Ytfcimcoanlgldaa
namespace A
set_option linter.unusedVariables false
set_option linter.unusedSimpArgs false
set_option maxRecDepth 100000

def inR (x lo hi : Int) : Bool := decide (lo ≤ x) && decide (x ≤ hi)

theorem l1In_fn (x lo hi : Int) : Fnc Try.prog 73 [.int .i64 x, .int .i64 lo, .int .i64 hi] (.bool (inR x lo hi)) := by
  refine fn_of c73 (by simp [F73]) fun c => ?_
  unfold F73 inR
  by_cases h1 : lo ≤ x <;> simp [h1] <;> exact fin_plain ⟨rfl, rfl⟩
theorem inRange_fn (x lo hi : Int) : Fnc Try.prog 77 [.int .i64 x, .int .i64 lo, .int .i64 hi] (.bool (inR x lo hi)) := by
  refine fn_of c77 (by simp [F77]) fun c => ?_
  unfold F77 inR
  by_cases h1 : lo ≤ x <;> simp [h1] <;> exact fin_plain ⟨rfl, rfl⟩
theorem inR_true {x lo hi : Int} (h : inR x lo hi = true) : lo ≤ x ∧ x ≤ hi := by simpa [inR] using h

theorem all_step {α : Type} {p : α → Bool} {l : List α} {i : Nat} (h : (l.take i).all p = true) (hi : i < l.length) (hx : p l[i] = true) : (l.take (i + 1)).all p = true := by
  rw [List.take_succ_eq_append_getElem hi, List.all_append, h]; simp [hx]
end A
end Go.Proofs.Ytfcimcoanlgldaa

/-
  JobPlaces of the reference and of the program are the same plain function; the law answers true. No condition.
-/



namespace Go.Proofs.Ytfcimcoanlgldaa
namespace A
set_option linter.unusedVariables false
set_option linter.unusedSimpArgs false
set_option maxRecDepth 100000

def qP (id : Int) (x : TJob) : Bool := decide (x.Id = id)
def wP (id : Int) (x : TWorker) : Bool := decide (x.State = 1) && decide (x.Job.Id = id)
def aP (id : Int) (x : TAnswer) : Bool := decide (x.Id = id)
def jp (s : TServer) (id : Int) : Int := ((s.Queue.list.countP (qP id) + s.Workers.list.countP (wP id) + s.Done.list.countP (aP id) : Nat) : Int)
theorem count_step {α : Type} (p : α → Bool) (l : List α) {i : Nat} (h : i < l.length) : (l.take (i + 1)).countP p = (l.take i).countP p + (if p l[i] then 1 else 0) := by
  rw [List.take_succ_eq_append_getElem h, List.countP_append]; simp [List.countP_cons]
theorem boolNum_fn (b : Bool) : Fnc Try.prog 59 [.bool b] (.int .i64 (if b then 1 else 0)) := by
  refine fn_of c59 (by simp [F59]) fun c => ?_
  unfold F59
  cases b <;> simp <;> exact fin_plain ⟨rfl, rfl⟩
def SmS (s : TServer) : Prop := s.Queue.list.length ≤ 1048576 ∧ s.Workers.list.length ≤ 1048576 ∧ s.Done.list.length ≤ 1048576

theorem spec_jp {s : TServer} {id : Int} (hs : SmS s) : Fnc Try.prog 22 [.agg s.enc, .int .i64 id] (.int .i64 (jp s id)) := by
  obtain ⟨z1, z2, z3⟩ := hs
  refine fn_of c22 (by simp [F22]) fun c => ?_
  unfold F22
  simp
  refine loop_drop s.Queue.list.length (fun i e H c' => e 1 = .int .i64 id ∧ e 2 = .ptr 0 c 8 0 0 ∧ e 5 = .int .i64 ((s.Queue.list.take i).countP (qP id)) ∧ e 6 = .int .i64 i ∧ H = [⟨false, c, 8, [s.enc]⟩]) ⟨rfl, rfl, by simp [upd], rfl, rfl⟩ ?_
  intro i e H c' hi ⟨e1, e2, e5, e6, hH⟩ N hN
  subst hH
  have hle : (s.Queue.list.take i).countP (qP id) ≤ i := Nat.le_trans List.countP_le_length (by simp; omega)
  by_cases h : i < s.Queue.list.length
  · have hg : s.Queue.list[i]? = some s.Queue.list[i] := List.getElem?_eq_getElem h
    have hst := count_step (qP id) s.Queue.list h
    generalize s.Queue.list[i] = x at hg hst
    generalize (s.Queue.list.take i).countP (qP id) = n at e5 hst hle
    have hw : IntKind.i64.wrap ((n : Int) + 1) = ((n + 1 : Nat) : Int) := by rw [wrap64 (by omega) (by omega)]; omega
    simp [e1, e2, e5, e6, h]
    refine ⟨x, hg, ?_⟩
    by_cases hx : x.Id = id
    · simp [e1, e2, e5, e6, h, hx, hw]
      exact hN _ _ _ _ h (List.Sublist.refl _) ⟨by simp [upd, e1], by simp [upd, e2], by simp [upd, hst, qP, hx, hw], by simp [upd]; exact step64 (by unfold mx; omega) h, rfl⟩
    · simp [e1, e2, e5, e6, h, hx, hw]
      exact hN _ _ _ _ h (List.Sublist.refl _) ⟨by simp [upd, e1], by simp [upd, e2], by simp [upd, hst, qP, hx, e5], by simp [upd]; exact step64 (by unfold mx; omega) h, rfl⟩
  have hiq : i = s.Queue.list.length := by omega
  subst hiq
  rw [List.take_length] at e5 hle
  have hq : s.Queue.list.countP (qP id) ≤ 1048576 := by omega
  generalize hqq : s.Queue.list.countP (qP id) = q at e5 hq
  simp [e1, e2, e5, e6, h]
  refine loop_drop s.Workers.list.length (fun i e H c' => e 1 = .int .i64 id ∧ e 2 = .ptr 0 c 8 0 0 ∧ e 5 = .int .i64 (q + (s.Workers.list.take i).countP (wP id) : Nat) ∧ e 7 = .int .i64 i ∧ H = [⟨false, c, 8, [s.enc]⟩]) ⟨by simp [upd, e1], by simp [upd, e2], by simp [upd, e5], by simp [upd], rfl⟩ ?_
  clear e1 e2 e5 e6 hle
  intro i e H c' hi ⟨e1, e2, e5, e7, hH⟩ N hN
  subst hH
  have hle : (s.Workers.list.take i).countP (wP id) ≤ i := Nat.le_trans List.countP_le_length (by simp; omega)
  by_cases h : i < s.Workers.list.length
  · have hg : s.Workers.list[i]? = some s.Workers.list[i] := List.getElem?_eq_getElem h
    have hst := count_step (wP id) s.Workers.list h
    generalize s.Workers.list[i] = x at hg hst
    generalize (s.Workers.list.take i).countP (wP id) = n at e5 hst hle
    have hw : IntKind.i64.wrap (((q + n : Nat) : Int) + 1) = ((q + (n + 1) : Nat) : Int) := by rw [wrap64 (by omega) (by omega)]; omega
    simp [e1, e2, e5, e7, h, -Int.natCast_add]
    refine ⟨x, hg, ?_⟩
    by_cases hx : x.State = 1
    · simp [e1, e2, e5, e7, h, hx, hw, -Int.natCast_add]
      refine ⟨x, hg, ?_⟩
      by_cases hy : x.Job.Id = id
      · simp [e1, e2, e5, e7, h, hx, hy, hw, -Int.natCast_add]
        exact hN _ _ _ _ h (List.Sublist.refl _) ⟨by simp [upd, e1], by simp [upd, e2], by simp [upd, hst, wP, hx, hy, hw, -Int.natCast_add], by simp [upd]; exact step64 (by unfold mx; omega) h, rfl⟩
      · simp [e1, e2, e5, e7, h, hx, hy, hw, -Int.natCast_add]
        exact hN _ _ _ _ h (List.Sublist.refl _) ⟨by simp [upd, e1], by simp [upd, e2], by simp [upd, hst, wP, hx, hy, e5, -Int.natCast_add], by simp [upd]; exact step64 (by unfold mx; omega) h, rfl⟩
    · simp [e1, e2, e5, e7, h, hx, hw, -Int.natCast_add]
      exact hN _ _ _ _ h (List.Sublist.refl _) ⟨by simp [upd, e1], by simp [upd, e2], by simp [upd, hst, wP, hx, e5, -Int.natCast_add], by simp [upd]; exact step64 (by unfold mx; omega) h, rfl⟩
  have hiw : i = s.Workers.list.length := by omega
  subst hiw
  rw [List.take_length] at e5 hle
  have hwb : s.Workers.list.countP (wP id) ≤ 1048576 := by omega
  generalize hww : s.Workers.list.countP (wP id) = w at e5 hwb
  simp [e1, e2, e5, e7, h, -Int.natCast_add]
  refine loop_drop s.Done.list.length (fun i e H c' => e 1 = .int .i64 id ∧ e 2 = .ptr 0 c 8 0 0 ∧ e 5 = .int .i64 (q + w + (s.Done.list.take i).countP (aP id) : Nat) ∧ e 8 = .int .i64 i ∧ H = [⟨false, c, 8, [s.enc]⟩]) ⟨by simp [upd, e1], by simp [upd, e2], by simp [upd, e5, -Int.natCast_add], by simp [upd], rfl⟩ ?_
  clear e1 e2 e5 e7 hle
  intro i e H c' hi ⟨e1, e2, e5, e8, hH⟩ N hN
  subst hH
  have hle : (s.Done.list.take i).countP (aP id) ≤ i := Nat.le_trans List.countP_le_length (by simp; omega)
  by_cases h : i < s.Done.list.length
  · have hg : s.Done.list[i]? = some s.Done.list[i] := List.getElem?_eq_getElem h
    have hst := count_step (aP id) s.Done.list h
    generalize s.Done.list[i] = x at hg hst
    generalize (s.Done.list.take i).countP (aP id) = n at e5 hst hle
    have hw : IntKind.i64.wrap (((q + w + n : Nat) : Int) + 1) = ((q + w + (n + 1) : Nat) : Int) := by rw [wrap64 (by omega) (by omega)]; omega
    simp [e1, e2, e5, e8, h, -Int.natCast_add]
    refine ⟨x, hg, ?_⟩
    by_cases hx : x.Id = id
    · simp [e1, e2, e5, e8, h, hx, hw, -Int.natCast_add]
      exact hN _ _ _ _ h (List.Sublist.refl _) ⟨by simp [upd, e1], by simp [upd, e2], by simp [upd, hst, aP, hx, hw, -Int.natCast_add], by simp [upd]; exact step64 (by unfold mx; omega) h, rfl⟩
    · simp [e1, e2, e5, e8, h, hx, hw, -Int.natCast_add]
      exact hN _ _ _ _ h (List.Sublist.refl _) ⟨by simp [upd, e1], by simp [upd, e2], by simp [upd, hst, aP, hx, e5, -Int.natCast_add], by simp [upd]; exact step64 (by unfold mx; omega) h, rfl⟩
  have hid : i = s.Done.list.length := by omega
  subst hid
  rw [List.take_length] at e5
  simp [e1, e2, e5, e8, h, -Int.natCast_add]
  exact fin_sub (List.nil_sublist _) (.refl _) ⟨by unfold jp; rw [hqq, hww], rfl⟩

theorem impl_jp {s : TServer} {id : Int} (hs : SmS s) : Fnc Try.prog 24 [.agg s.enc, .int .i64 id] (.int .i64 (jp s id)) := by
  obtain ⟨z1, z2, z3⟩ := hs
  refine fn_of c24 (by simp [F24]) fun c => ?_
  unfold F24
  simp
  refine loop_drop s.Queue.list.length (fun i e H c' => e 1 = .int .i64 id ∧ e 2 = .ptr 0 c 8 0 0 ∧ e 5 = .int .i64 ((s.Queue.list.take i).countP (qP id)) ∧ e 13 = s.Queue.av 5 TJob.enc ∧ e 14 = .int .i64 s.Queue.list.length ∧ e 15 = .int .i64 i ∧ H = [⟨false, c, 8, [s.enc]⟩]) ⟨rfl, rfl, by simp [upd], rfl, rfl, rfl, rfl⟩ ?_
  intro i e H c' hi ⟨e1, e2, e5, e13, e14, e15, hH⟩ N hN
  subst hH
  have hle : (s.Queue.list.take i).countP (qP id) ≤ i := Nat.le_trans List.countP_le_length (by simp; omega)
  by_cases h : i < s.Queue.list.length
  · have hg : s.Queue.list[i]? = some s.Queue.list[i] := List.getElem?_eq_getElem h
    have hst := count_step (qP id) s.Queue.list h
    generalize s.Queue.list[i] = x at hg hst
    generalize (s.Queue.list.take i).countP (qP id) = n at e5 hst hle
    have hw : IntKind.i64.wrap ((n : Int) + (if decide (x.Id = id) then 1 else 0)) = ((n + (if qP id x then 1 else 0) : Nat) : Int) := by unfold qP; rw [wrap64 (by split <;> omega) (by split <;> omega)]; split <;> omega
    simp [e1, e2, e5, e13, e14, e15, h, putA]
    refine ⟨x, hg, ?_⟩
    simp [e1, e2, e5, e13, e14, e15, h, putA]
    refine call_fn0 (boolNum_fn _) .int fun _ _ => ?_
    simp [e1, e2, e5, e13, e14, e15, h, -Int.natCast_add]
    exact hN _ _ _ _ h (sub_one _ _) ⟨by simp [upd, e1], by simp [upd, e2], by simp [upd, hst]; simpa using hw, by simp [upd, e13], by simp [upd, e14], by simp [upd]; exact step64 (by unfold mx; omega) h, rfl⟩
  have hiq : i = s.Queue.list.length := by omega
  subst hiq
  rw [List.take_length] at e5 hle
  have hq : s.Queue.list.countP (qP id) ≤ 1048576 := by omega
  generalize hqq : s.Queue.list.countP (qP id) = q at e5 hq
  simp [e1, e2, e5, e13, e14, e15, h]
  refine loop_drop s.Workers.list.length (fun i e H c' => e 1 = .int .i64 id ∧ e 2 = .ptr 0 c 8 0 0 ∧ e 5 = .int .i64 (q + (s.Workers.list.take i).countP (wP id) : Nat) ∧ e 28 = s.Workers.av 9 TWorker.enc ∧ e 29 = .int .i64 s.Workers.list.length ∧ e 30 = .int .i64 i ∧ H = [⟨false, c, 8, [s.enc]⟩]) ⟨by simp [upd, e1], by simp [upd, e2], by simp [upd, e5], by simp [upd], by simp [upd], by simp [upd], rfl⟩ ?_
  clear e1 e2 e5 e13 e14 e15 hle
  intro i e H c' hi ⟨e1, e2, e5, e28, e29, e30, hH⟩ N hN
  subst hH
  have hle : (s.Workers.list.take i).countP (wP id) ≤ i := Nat.le_trans List.countP_le_length (by simp; omega)
  by_cases h : i < s.Workers.list.length
  · have hg : s.Workers.list[i]? = some s.Workers.list[i] := List.getElem?_eq_getElem h
    have hst := count_step (wP id) s.Workers.list h
    generalize s.Workers.list[i] = x at hg hst
    generalize (s.Workers.list.take i).countP (wP id) = n at e5 hst hle
    have hw : ∀ b : Bool, b = wP id x → IntKind.i64.wrap (((q + n : Nat) : Int) + (if b then 1 else 0)) = ((q + (n + (if wP id x then 1 else 0)) : Nat) : Int) := fun b hb => by
      subst hb
      rw [wrap64 (by split <;> omega) (by split <;> omega)]; split <;> omega
    simp [e1, e2, e5, e28, e29, e30, h, putA, -Int.natCast_add]
    refine ⟨x, hg, ?_⟩
    by_cases hx : x.State = 1
    · simp [e1, e2, e5, e28, e29, e30, h, putA, hx, -Int.natCast_add]
      refine call_fn0 (boolNum_fn _) .int fun _ _ => ?_
      have hw := hw (decide (x.Job.Id = id)) (by simp [wP, hx])
      simp [e1, e2, e5, e28, e29, e30, h, -Int.natCast_add]
      exact hN _ _ _ _ h (sub_one _ _) ⟨by simp [upd, e1], by simp [upd, e2], by simp [upd, hst, -Int.natCast_add]; simpa [-Int.natCast_add] using hw, by simp [upd, e28], by simp [upd, e29], by simp [upd]; exact step64 (by unfold mx; omega) h, rfl⟩
    · simp [e1, e2, e5, e28, e29, e30, h, putA, hx, -Int.natCast_add]
      refine call_fn0 (boolNum_fn _) .int fun _ _ => ?_
      have hw := hw false (by simp [wP, hx])
      simp [e1, e2, e5, e28, e29, e30, h, -Int.natCast_add]
      exact hN _ _ _ _ h (sub_one _ _) ⟨by simp [upd, e1], by simp [upd, e2], by simp [upd, hst, -Int.natCast_add]; simpa [-Int.natCast_add] using hw, by simp [upd, e28], by simp [upd, e29], by simp [upd]; exact step64 (by unfold mx; omega) h, rfl⟩
  have hiw : i = s.Workers.list.length := by omega
  subst hiw
  rw [List.take_length] at e5 hle
  have hwb : s.Workers.list.countP (wP id) ≤ 1048576 := by omega
  generalize hww : s.Workers.list.countP (wP id) = w at e5 hwb
  simp [e1, e2, e5, e28, e29, e30, h, -Int.natCast_add]
  refine loop_drop s.Done.list.length (fun i e H c' => e 1 = .int .i64 id ∧ e 2 = .ptr 0 c 8 0 0 ∧ e 5 = .int .i64 (q + w + (s.Done.list.take i).countP (aP id) : Nat) ∧ e 49 = s.Done.av 11 TAnswer.enc ∧ e 50 = .int .i64 s.Done.list.length ∧ e 51 = .int .i64 i ∧ H = [⟨false, c, 8, [s.enc]⟩]) ⟨by simp [upd, e1], by simp [upd, e2], by simp [upd, e5, -Int.natCast_add], by simp [upd], by simp [upd], by simp [upd], rfl⟩ ?_
  clear e1 e2 e5 e28 e29 e30 hle
  intro i e H c' hi ⟨e1, e2, e5, e49, e50, e51, hH⟩ N hN
  subst hH
  have hle : (s.Done.list.take i).countP (aP id) ≤ i := Nat.le_trans List.countP_le_length (by simp; omega)
  by_cases h : i < s.Done.list.length
  · have hg : s.Done.list[i]? = some s.Done.list[i] := List.getElem?_eq_getElem h
    have hst := count_step (aP id) s.Done.list h
    generalize s.Done.list[i] = x at hg hst
    generalize (s.Done.list.take i).countP (aP id) = n at e5 hst hle
    have hw : IntKind.i64.wrap (((q + w + n : Nat) : Int) + (if decide (x.Id = id) then 1 else 0)) = ((q + w + (n + (if aP id x then 1 else 0)) : Nat) : Int) := by unfold aP; rw [wrap64 (by split <;> omega) (by split <;> omega)]; split <;> omega
    simp [e1, e2, e5, e49, e50, e51, h, putA, -Int.natCast_add]
    refine ⟨x, hg, ?_⟩
    simp [e1, e2, e5, e49, e50, e51, h, putA, -Int.natCast_add]
    refine call_fn0 (boolNum_fn _) .int fun _ _ => ?_
    simp [e1, e2, e5, e49, e50, e51, h, -Int.natCast_add]
    exact hN _ _ _ _ h (sub_one _ _) ⟨by simp [upd, e1], by simp [upd, e2], by simp [upd, hst, -Int.natCast_add]; simpa [-Int.natCast_add] using hw, by simp [upd, e49], by simp [upd, e50], by simp [upd]; exact step64 (by unfold mx; omega) h, rfl⟩
  have hid : i = s.Done.list.length := by omega
  subst hid
  rw [List.take_length] at e5
  simp [e1, e2, e5, e49, e50, e51, h, -Int.natCast_add]
  exact fin_sub (List.nil_sublist _) (.refl _) ⟨by unfold jp; rw [hqq, hww], rfl⟩
end A
end Go.Proofs.Ytfcimcoanlgldaa

/-
  Copies whose trees bear one tag: printed by a program (wip/tools/genat.py). No condition.
-/


namespace Go.Proofs.Ytfcimcoanlgldaa
namespace A
set_option linter.unusedVariables false
set_option linter.unusedSimpArgs false
set_option maxRecDepth 100000

theorem from_sl {α : Type} {enc : α → List AV} {c w : Nat} {l : List α} (h : ∀ x, x ∈ l → ∀ a, a ∈ enc x → From c a) : From c ((SL.mk c l).av w enc) :=
  from_slc (Nat.le_refl _) fun row hr a ha => by
    obtain ⟨x, hx, rfl⟩ := List.mem_map.1 hr
    exact h x hx a ha
def TFile.at (c : Nat) (s : TFile) : TFile := s
theorem TFile.at_con (c : Nat) (s : TFile) : (s.at c).con = s.con := rfl
theorem TFile.at_from (c : Nat) (s : TFile) : ∀ a, a ∈ (s.at c).enc → From c a := fun a ha => by
  simp only [TFile.enc, List.mem_cons, List.not_mem_nil, or_false] at ha
  rcases ha with rfl | rfl | rfl
  · simp
  · simp
  · simp
def TLine.at (c : Nat) (s : TLine) : TLine := { s with Words := .mk c s.Words.list }
theorem TLine.at_con (c : Nat) (s : TLine) : (s.at c).con = s.con := by
  simp [TLine.at, TLine.con, SL.con, SL.pcon, List.map_map, Function.comp_def]
theorem TLine.at_from (c : Nat) (s : TLine) : ∀ a, a ∈ (s.at c).enc → From c a := fun a ha => by
  simp only [TLine.enc, List.mem_cons, List.not_mem_nil, or_false] at ha
  rcases ha with rfl | rfl | rfl | rfl
  · simp
  · simp
  · simp
  · exact from_sl fun y hy a ha => by
      simp [encI, encS, encB] at ha; subst ha; simp
def TSession.at (c : Nat) (s : TSession) : TSession := s
theorem TSession.at_con (c : Nat) (s : TSession) : (s.at c).con = s.con := rfl
theorem TSession.at_from (c : Nat) (s : TSession) : ∀ a, a ∈ (s.at c).enc → From c a := fun a ha => by
  simp only [TSession.enc, List.mem_cons, List.not_mem_nil, or_false] at ha
  rcases ha with rfl | rfl | rfl | rfl
  · simp
  · simp
  · simp
  · simp
def TPair.at (c : Nat) (s : TPair) : TPair := s
theorem TPair.at_con (c : Nat) (s : TPair) : (s.at c).con = s.con := rfl
theorem TPair.at_from (c : Nat) (s : TPair) : ∀ a, a ∈ (s.at c).enc → From c a := fun a ha => by
  simp only [TPair.enc, List.mem_cons, List.not_mem_nil, or_false] at ha
  rcases ha with rfl | rfl
  · simp
  · simp
def TRequest.at (c : Nat) (s : TRequest) : TRequest := { s with Query := .mk c (s.Query.list.map (TPair.at c)), Cookies := .mk c (s.Cookies.list.map (TPair.at c)) }
theorem TRequest.at_con (c : Nat) (s : TRequest) : (s.at c).con = s.con := by
  simp [TRequest.at, TRequest.con, SL.con, SL.pcon, List.map_map, Function.comp_def, TPair.at_con]
theorem TRequest.at_from (c : Nat) (s : TRequest) : ∀ a, a ∈ (s.at c).enc → From c a := fun a ha => by
  simp only [TRequest.enc, List.mem_cons, List.not_mem_nil, or_false] at ha
  rcases ha with rfl | rfl | rfl
  · simp
  · exact from_sl fun y hy a ha => by
      obtain ⟨z, _, rfl⟩ := List.mem_map.1 hy
      exact TPair.at_from c z a ha
  · exact from_sl fun y hy a ha => by
      obtain ⟨z, _, rfl⟩ := List.mem_map.1 hy
      exact TPair.at_from c z a ha
def TJob.at (c : Nat) (s : TJob) : TJob := { s with Request := s.Request.at c }
theorem TJob.at_con (c : Nat) (s : TJob) : (s.at c).con = s.con := by
  simp [TJob.at, TJob.con, SL.con, SL.pcon, List.map_map, Function.comp_def, TRequest.at_con]
theorem TJob.at_from (c : Nat) (s : TJob) : ∀ a, a ∈ (s.at c).enc → From c a := fun a ha => by
  simp only [TJob.enc, List.mem_cons, List.not_mem_nil, or_false] at ha
  rcases ha with rfl | rfl | rfl | rfl | rfl
  · simp
  · exact TRequest.at_from c s.Request _ (List.mem_of_getElem? (i := 0) rfl)
  · exact TRequest.at_from c s.Request _ (List.mem_of_getElem? (i := 1) rfl)
  · exact TRequest.at_from c s.Request _ (List.mem_of_getElem? (i := 2) rfl)
  · simp
def TWorker.at (c : Nat) (s : TWorker) : TWorker := { s with Job := s.Job.at c, Files := .mk c (s.Files.list.map (TFile.at c)) }
theorem TWorker.at_con (c : Nat) (s : TWorker) : (s.at c).con = s.con := by
  simp [TWorker.at, TWorker.con, SL.con, SL.pcon, List.map_map, Function.comp_def, TFile.at_con, TJob.at_con]
theorem TWorker.at_from (c : Nat) (s : TWorker) : ∀ a, a ∈ (s.at c).enc → From c a := fun a ha => by
  simp only [TWorker.enc, List.mem_cons, List.not_mem_nil, or_false] at ha
  rcases ha with rfl | rfl | rfl | rfl | rfl | rfl | rfl | rfl | rfl
  · simp
  · exact TJob.at_from c s.Job _ (List.mem_of_getElem? (i := 0) rfl)
  · exact TJob.at_from c s.Job _ (List.mem_of_getElem? (i := 1) rfl)
  · exact TJob.at_from c s.Job _ (List.mem_of_getElem? (i := 2) rfl)
  · exact TJob.at_from c s.Job _ (List.mem_of_getElem? (i := 3) rfl)
  · exact TJob.at_from c s.Job _ (List.mem_of_getElem? (i := 4) rfl)
  · simp
  · exact from_sl fun y hy a ha => by
      obtain ⟨z, _, rfl⟩ := List.mem_map.1 hy
      exact TFile.at_from c z a ha
  · simp
def THeader.at (c : Nat) (s : THeader) : THeader := s
theorem THeader.at_con (c : Nat) (s : THeader) : (s.at c).con = s.con := rfl
theorem THeader.at_from (c : Nat) (s : THeader) : ∀ a, a ∈ (s.at c).enc → From c a := fun a ha => by
  simp only [THeader.enc, List.mem_cons, List.not_mem_nil, or_false] at ha
  rcases ha with rfl | rfl
  · simp
  · simp
def TResponse.at (c : Nat) (s : TResponse) : TResponse := { s with Headers := .mk c (s.Headers.list.map (THeader.at c)) }
theorem TResponse.at_con (c : Nat) (s : TResponse) : (s.at c).con = s.con := by
  simp [TResponse.at, TResponse.con, SL.con, SL.pcon, List.map_map, Function.comp_def, THeader.at_con]
theorem TResponse.at_from (c : Nat) (s : TResponse) : ∀ a, a ∈ (s.at c).enc → From c a := fun a ha => by
  simp only [TResponse.enc, List.mem_cons, List.not_mem_nil, or_false] at ha
  rcases ha with rfl | rfl | rfl
  · simp
  · exact from_sl fun y hy a ha => by
      obtain ⟨z, _, rfl⟩ := List.mem_map.1 hy
      exact THeader.at_from c z a ha
  · simp
def TAnswer.at (c : Nat) (s : TAnswer) : TAnswer := { s with Files := .mk c (s.Files.list.map (TFile.at c)), Request := s.Request.at c, Response := s.Response.at c }
theorem TAnswer.at_con (c : Nat) (s : TAnswer) : (s.at c).con = s.con := by
  simp [TAnswer.at, TAnswer.con, SL.con, SL.pcon, List.map_map, Function.comp_def, TFile.at_con, TRequest.at_con, TResponse.at_con]
theorem TAnswer.at_from (c : Nat) (s : TAnswer) : ∀ a, a ∈ (s.at c).enc → From c a := fun a ha => by
  simp only [TAnswer.enc, List.mem_cons, List.not_mem_nil, or_false] at ha
  rcases ha with rfl | rfl | rfl | rfl | rfl | rfl | rfl | rfl | rfl | rfl | rfl
  · simp
  · simp
  · exact from_sl fun y hy a ha => by
      obtain ⟨z, _, rfl⟩ := List.mem_map.1 hy
      exact TFile.at_from c z a ha
  · exact TRequest.at_from c s.Request _ (List.mem_of_getElem? (i := 0) rfl)
  · exact TRequest.at_from c s.Request _ (List.mem_of_getElem? (i := 1) rfl)
  · exact TRequest.at_from c s.Request _ (List.mem_of_getElem? (i := 2) rfl)
  · simp
  · exact TResponse.at_from c s.Response _ (List.mem_of_getElem? (i := 0) rfl)
  · exact TResponse.at_from c s.Response _ (List.mem_of_getElem? (i := 1) rfl)
  · exact TResponse.at_from c s.Response _ (List.mem_of_getElem? (i := 2) rfl)
  · simp
def TServer.at (c : Nat) (s : TServer) : TServer := { s with Files := .mk c (s.Files.list.map (TFile.at c)), Lines := .mk c (s.Lines.list.map (TLine.at c)), Sessions := .mk c (s.Sessions.list.map (TSession.at c)), Queue := .mk c (s.Queue.list.map (TJob.at c)), Workers := .mk c (s.Workers.list.map (TWorker.at c)), Done := .mk c (s.Done.list.map (TAnswer.at c)) }
theorem TServer.at_con (c : Nat) (s : TServer) : (s.at c).con = s.con := by
  simp [TServer.at, TServer.con, SL.con, SL.pcon, List.map_map, Function.comp_def, TAnswer.at_con, TFile.at_con, TJob.at_con, TLine.at_con, TSession.at_con, TWorker.at_con]
theorem TServer.at_from (c : Nat) (s : TServer) : ∀ a, a ∈ (s.at c).enc → From c a := fun a ha => by
  simp only [TServer.enc, List.mem_cons, List.not_mem_nil, or_false] at ha
  rcases ha with rfl | rfl | rfl | rfl | rfl | rfl | rfl | rfl
  · exact from_sl fun y hy a ha => by
      obtain ⟨z, _, rfl⟩ := List.mem_map.1 hy
      exact TFile.at_from c z a ha
  · exact from_sl fun y hy a ha => by
      obtain ⟨z, _, rfl⟩ := List.mem_map.1 hy
      exact TLine.at_from c z a ha
  · exact from_sl fun y hy a ha => by
      obtain ⟨z, _, rfl⟩ := List.mem_map.1 hy
      exact TSession.at_from c z a ha
  · exact from_sl fun y hy a ha => by
      obtain ⟨z, _, rfl⟩ := List.mem_map.1 hy
      exact TJob.at_from c z a ha
  · exact from_sl fun y hy a ha => by
      obtain ⟨z, _, rfl⟩ := List.mem_map.1 hy
      exact TWorker.at_from c z a ha
  · exact from_sl fun y hy a ha => by
      obtain ⟨z, _, rfl⟩ := List.mem_map.1 hy
      exact TAnswer.at_from c z a ha
  · simp
  · simp
end A
end Go.Proofs.Ytfcimcoanlgldaa

/-
  The law of JobPlaces answers true. No condition.
-/


namespace Go.Proofs.Ytfcimcoanlgldaa
namespace A
set_option linter.unusedVariables false
set_option linter.unusedSimpArgs false
set_option maxRecDepth 100000

theorem jp_con {a b : TServer} (h : a.con = b.con) (id : Int) : jp a id = jp b id := by
  have key : ∀ s : TServer, jp s id = jp s.con id := fun s => by
    have e1 : s.con.Queue.list.countP (qP id) = s.Queue.list.countP (qP id) := by
      have : s.con.Queue.list = s.Queue.list.map TJob.con := rfl
      rw [this, List.countP_map]; rfl
    have e2 : s.con.Workers.list.countP (wP id) = s.Workers.list.countP (wP id) := by
      have : s.con.Workers.list = s.Workers.list.map TWorker.con := rfl
      rw [this, List.countP_map]; rfl
    have e3 : s.con.Done.list.countP (aP id) = s.Done.list.countP (aP id) := by
      have : s.con.Done.list = s.Done.list.map TAnswer.con := rfl
      rw [this, List.countP_map]; rfl
    unfold jp; rw [e1, e2, e3]
  rw [key a, key b, h]
theorem smS_of {s : TServer} (h : s.sz ≤ 1048576) : SmS s := by
  simp only [TServer.sz, szJobS, szWorkerS, szAnswerS] at h
  exact ⟨by omega, by omega, by omega⟩
def IsSrv (a : TServer) (v : AV) : Prop := ∃ b : TServer, v = .agg b.enc ∧ b.con = a.con
theorem IsSrv_some (a : TServer) (c : Nat) : ∃ r, IsSrv a r ∧ From c r := ⟨_, ⟨a.at c, rfl, a.at_con c⟩, from_agg (TServer.at_from c a)⟩

theorem law_jp {a : TServer} (ha : a.ok) {id : Int} (hid : IOk .i64 id) (c : Nat) : Con Try.prog 4 [.agg a.enc, .int .i64 id] [] c fun r H' _ => r = .bool true ∧ H' = [] := by
  refine con_of c4 (by simp [F4]) ?_
  unfold F4
  simp
  refine call_fn0 (TServer.sz_fn ha ⟨by omega, by omega⟩) .int fun _ _ => ?_
  simp
  refine ⟨fun _ => fin_plain ⟨rfl, rfl⟩, fun h1 => ?_⟩
  obtain ⟨h1', h1''⟩ := szOf_ge h1
  have hz : ∀ x : TServer, x.con = a.con → x.sz ≤ 1048576 := fun x hx => by rw [← x.sz_con, hx, a.sz_con]; omega
  refine call_tree0 (TServer.to_fn (hz a rfl)) fun r1 _ _ ⟨a1, e1, q1⟩ _ => ?_
  subst e1
  simp
  refine call_fn0 (spec_jp (smS_of (hz _ q1))) .int fun _ _ => ?_
  simp
  refine call_tree0 (TServer.to_fn (hz a rfl)) fun r2 _ _ ⟨a2, e2, q2⟩ _ => ?_
  subst e2
  simp
  refine call_fn0 (impl_jp (smS_of (hz _ q2))) .int fun _ _ => ?_
  simp [jp_con q1, jp_con q2]
  refine ⟨fun d v => if d = 28 then IsSrv a v else v = .bool true, ?_⟩
  simp
  refine callD_tree0 (TServer.to_fn (hz a rfl)) (IsSrv_some a _) fun r3 ⟨a3, e3, q3⟩ _ => ?_
  subst e3
  simp
  refine callD_fn0 (TServer.eq_fn (by have := hz _ q2; omega) (q2.trans q3.symm)) (fun v => Iff.rfl) (by simp) ?_
  simp
  intro c2 _
  exact fin_plain ⟨rfl, rfl⟩
end A
end Go.Proofs.Ytfcimcoanlgldaa

/-
  The words that mark strings. No condition.
-/


namespace Go.Proofs.Ytfcimcoanlgldaa
namespace A
set_option linter.unusedVariables false
set_option linter.unusedSimpArgs false
set_option maxRecDepth 100000

def mtD : Nat → Nat → List UInt8 → List UInt8
  | 0, _, acc => acc
  | f + 1, k, acc => if k = 0 then acc else mtD f (k / 10) (UInt8.ofNat (48 + k % 10) :: acc)
def mtext (k : Int) : List UInt8 := if k ≤ 0 then [109, 48] else 109 :: mtD 40 k.toNat []
theorem mtD_len : ∀ (f k : Nat) (acc : List UInt8), (mtD f k acc).length ≤ f + acc.length
  | 0, _, _ => by simp [mtD]
  | f + 1, k, acc => by
    unfold mtD
    split
    · omega
    · have := mtD_len f (k / 10) (UInt8.ofNat (48 + k % 10) :: acc)
      rw [List.length_cons] at this; omega
theorem mtext_len (k : Int) : (mtext k).length ≤ 41 := by
  unfold mtext
  split
  · simp
  · have := mtD_len 40 k.toNat []
    simp at this ⊢; omega

theorem mtext_fn {k : Int} (hk : k ≤ 1000000000000000000) : Fnc Try.prog 95 [.int .i64 k] (.str (mtext k)) := by
  refine fn_of c95 (by simp [F95]) fun c => ?_
  unfold F95
  simp
  refine ⟨fun h => fin_plain ⟨by simp [mtext, h], rfl⟩, fun h => ?_⟩
  have hm : mtext k = 109 :: mtD 40 k.toNat [] := by simp [mtext]; omega
  refine loop_drop 20 (fun i e H c' => ∃ (n : Nat) (acc : List UInt8), e 0 = .int .i64 n ∧ e 3 = .str acc ∧ acc.length = i ∧ n * 10 ^ i ≤ k.toNat ∧ mtD (40 - i) n acc = mtD 40 k.toNat [] ∧ H = []) ⟨k.toNat, [], by simp; omega, rfl, rfl, by simp, rfl, rfl⟩ ?_
  intro i e H c hi ⟨n, acc, e0, e3, hl, hn, hd, hH⟩ N hN
  subst hH
  simp [e0, e3]
  refine ⟨fun h => ?_, fun h => ?_⟩
  · have hi' : i < 20 := by
      rcases Nat.lt_or_ge i 20 with h1 | h1
      · exact h1
      · have : i = 20 := by omega
        subst this
        omega
    have h10 : ((n : Int)).tmod 10 = ((n % 10 : Nat) : Int) := by rw [Int.tmod_eq_emod_of_nonneg (by omega)]; omega
    have hq : ((n : Int)).tdiv 10 = ((n / 10 : Nat) : Int) := by rw [Int.tdiv_eq_ediv_of_nonneg (by omega)]; omega
    have h48 : (48 : Int) + ((n % 10 : Nat) : Int) = ((48 + n % 10 : Nat) : Int) := by omega
    have hw : IntKind.u8.wrap (IntKind.i64.wrap (48 + ((n % 10 : Nat) : Int))) = ((UInt8.ofNat (48 + n % 10)).toNat : Int) := by rw [h48]; exact wrap_u8 (by omega)
    rw [h10]
    refine toStrW_ref (l := [UInt8.ofNat (48 + n % 10)]) (by rw [hw]; rfl) rfl (by simp [mx]) ?_
    have hm1 : 1 + acc.length ≤ mx := by unfold mx; omega
    have hq' : IntKind.i64.wrap ((n / 10 : Nat) : Int) = ((n / 10 : Nat) : Int) := by
      have : n ≤ k.toNat := Nat.le_trans (Nat.le_mul_of_pos_right n (Nat.pos_of_ne_zero (by simp))) hn
      exact wrap64 (by omega) (by omega)
    simp [e0, e3, hm1, hq, hq', -Int.natCast_ediv]
    refine hN _ _ [] _ hi' (by simp) ⟨n / 10, UInt8.ofNat (48 + n % 10) :: acc, ?_, ?_, by simp [hl], ?_, ?_, rfl⟩
    · simp [upd]
    · simp [upd]
    · refine Nat.le_trans ?_ hn
      rw [Nat.pow_succ, Nat.mul_comm (10 ^ i) 10, ← Nat.mul_assoc]
      exact Nat.mul_le_mul_right _ (Nat.div_mul_le_self n 10)
    · rw [← hd]
      have e40 : 40 - i = (40 - (i + 1)) + 1 := by omega
      rw [e40]
      conv => rhs; unfold mtD
      rw [if_neg (by omega)]
  · have h0 : n = 0 := by omega
    subst h0
    have ha : acc = mtD 40 k.toNat [] := by
      rw [← hd]
      have e40 : 40 - i = (39 - i) + 1 := by omega
      rw [e40]; simp [mtD]
    have hm1 : 1 + acc.length ≤ mx := by unfold mx; omega
    exact ⟨hm1, fin_plain ⟨by rw [hm, ← ha], rfl⟩⟩
end A
end Go.Proofs.Ytfcimcoanlgldaa

/-
  Lines kept as0 objects: copies, marks, and what reads marks. No condition.
-/



namespace Go.Proofs.Ytfcimcoanlgldaa
namespace A
set_option linter.unusedVariables false
set_option linter.unusedSimpArgs false
set_option maxRecDepth 100000

theorem encI_flat : Flat encI := fun x a ha => by simp [encI] at ha; subst ha; exact ⟨rfl, free_int _ _⟩
def TLine.encO (s : TLine) : List AV := [.int .i64 s.Seq, .int .i64 s.Owner, .int .i64 s.Version, s.Words.ref 1]
def TLine.inn (s : TLine) : List AObj := s.Words.wood 1 encI noInn
theorem TLine.lenO (s : TLine) : s.encO.length = 4 := (rfl)
@[simp] theorem TLine.o0 (s : TLine) (K : AV → Prop) : getW s.encO 0 K = K (.int .i64 s.Seq) := by simp [TLine.encO]
@[simp] theorem TLine.o1 (s : TLine) (K : AV → Prop) : getW s.encO 1 K = K (.int .i64 s.Owner) := by simp [TLine.encO]
@[simp] theorem TLine.o2 (s : TLine) (K : AV → Prop) : getW s.encO 2 K = K (.int .i64 s.Version) := by simp [TLine.encO]
@[simp] theorem TLine.o3 (s : TLine) (K : AV → Prop) : getW s.encO 3 K = K (s.Words.ref 1) := by simp [TLine.encO]
theorem TLine.freeO : ∀ (x : TLine) a, a ∈ x.encO → Free a := fun x a ha => by
  simp [TLine.encO] at ha
  rcases ha with rfl | rfl | rfl | rfl
  · exact free_int _ _
  · exact free_int _ _
  · exact free_int _ _
  · exact free_ref _ _
theorem TLine.freeI : ∀ (x : TLine) o, o ∈ x.inn → ∀ T, AvRows T o := fun x o ho => flat_free encI_flat _ _ o ho
theorem TLine.viewO {S : List AObj} (x : TLine) (h : ∀ o, o ∈ x.inn → o ∈ S) : ∀ (j : Nat) (a a' : AV), x.encO[j]? = some a → x.enc[j]? = some a' → View S a a' := fun j a a' h1 h2 => by
  match j, h1, h2 with
  | 0, h1, h2 => simp [TLine.encO] at h1; simp [TLine.enc] at h2; subst h1; subst h2; exact .refl _
  | 1, h1, h2 => simp [TLine.encO] at h1; simp [TLine.enc] at h2; subst h1; subst h2; exact .refl _
  | 2, h1, h2 => simp [TLine.encO] at h1; simp [TLine.enc] at h2; subst h1; subst h2; exact .refl _
  | 3, h1, h2 => simp [TLine.encO] at h1; simp [TLine.enc] at h2; subst h1; subst h2; exact view_flat h encI_flat.cells
  | j + 4, h1, h2 => simp [TLine.encO] at h1
/-- Lines, seen as0 trees. -/
theorem view_line {S : List AObj} {s : SL TLine} (hs : ∀ o, o ∈ s.wood 4 TLine.encO TLine.inn → o ∈ S) : View S (s.ref 4) (s.av 4 TLine.enc) :=
  view_wood hs (fun x => TLine.cells x) (fun _ => rfl) fun x h => TLine.viewO x h

theorem toLineO {x : TLine} (h : x.sz ≤ 1048576) (c : Nat) : Con Try.prog 38 [.agg x.enc] [] c fun r O _ => ∃ b : TLine, r = .agg b.encO ∧ O = b.inn ∧ b.con = x.con := by
  simp only [TLine.sz] at h
  refine con_of c38 (by simp [F38]) ?_
  unfold F38
  simp [putA]
  refine call_new (toPO_fn (v := fun n => .int .i64 n) (z := .int .i64 0) (bytes := 8) c11 (fun _ _ => by simp) (by unfold szIntS at h; omega) (by unfold szIntS at h; omega) _) (Views.refl _ _) fun r O c1 hc ⟨w, hr, hO, hw⟩ _ _ => ?_
  subst hr; subst hO
  refine ⟨_, .refl _, free_ref _ _ _, fun o ho => flat_free encI_flat _ _ o ho _, ?_⟩
  simp [putA]
  refine fin_sub (Hk := w.wood 1 encI noInn) ?_ (.refl _) ⟨⟨x.Seq, x.Owner, x.Version, w⟩, rfl, rfl, by simp [TLine.con, SL.pcon, hw]⟩
  exact ((List.Sublist.refl _).cons _).cons _ |>.cons _
theorem toLineSO {s : SL TLine} (h : szLineS s ≤ 1048576) (c : Nat) : Con Try.prog 9 [s.av 4 TLine.enc] [] c fun r H' _ => ∃ b : SL TLine, r = b.ref 4 ∧ H' = b.wood 4 TLine.encO TLine.inn ∧ b.list.map TLine.con = s.list.map TLine.con := by
  unfold szLineS at h
  exact toSO_fn (g := 38) (z := [.int .i64 0, .int .i64 0, .int .i64 0, .nsl]) (bytes := 48) c9 rfl (fun _ => rfl) TLine.lenO TLine.freeO TLine.freeI (by omega) (by omega)
    (fun x hx c => toLineO (by have := szL_mem (sz := TLine.sz) hx; omega) c) c

/-! ### marks -/
def mkLine (k : Int) (x : TLine) : TLine := ⟨k, k + 1, k + 2, x.Words.marks mkI cI (k + 3)⟩
def cLine (x : TLine) : Nat := 3 + x.Words.list.length
theorem mkLine_encO (k : Int) (x : TLine) : (mkLine k x).encO = [.int .i64 k, .int .i64 (k + 1), .int .i64 (k + 2), x.Words.ref 1] := by
  simp [mkLine, TLine.encO, SL.marks_ref]
theorem mkLine_tags (k : Int) (x : TLine) : tags (mkLine k x).inn = tags x.inn := flat_marks (enc := encI) (w := 1) mkI cI (k + 3) x.Words

theorem mixed_flat {α : Type} {mk : Int → α → α} {cnt : α → Nat} {k : Int} {l : List α} {inn : α → List AObj} {i : Nat} (h : i < l.length) :
    (mixed mk cnt k l i).flatMap inn = (mks mk cnt k (l.take i)).flatMap inn ++ inn l[i] ++ (l.drop (i + 1)).flatMap inn := by
  unfold mixed
  rw [List.drop_eq_getElem_cons h, List.flatMap_append, List.flatMap_cons, List.append_assoc]
theorem mixed_flat' {α : Type} {mk : Int → α → α} {cnt : α → Nat} {k : Int} {l : List α} {inn : α → List AObj} {i : Nat} (h : i < l.length) :
    (mixed mk cnt k l (i + 1)).flatMap inn = (mks mk cnt k (l.take i)).flatMap inn ++ inn (mk (k + szL cnt (l.take i)) l[i]) ++ (l.drop (i + 1)).flatMap inn := by
  unfold mixed
  rw [mks_step mk cnt k l h, List.flatMap_append, List.flatMap_append]
  simp

theorem markLine_nil (k : Int) : Fnc Try.prog 16 [.nsl, .int .i64 k] (.int .i64 k) := by
  refine fn_of c16 (by simp [F16]) fun c => ?_
  unfold F16
  simp
  refine loop_drop 0 (fun i e H c' => e 0 = .nsl ∧ e 1 = .int .i64 k ∧ e 5 = .int .i64 0 ∧ H = []) ⟨rfl, rfl, rfl, rfl⟩ ?_
  intro i e H c hi ⟨e0, e1, e5, hH⟩ N hN
  subst hH
  simp [e0, e1, e5]
  exact fin_plain ⟨rfl, rfl⟩
theorem heldLine_nil (k : Int) : Fnc Try.prog 19 [.nsl, .int .i64 k] (.int .i64 k) := by
  refine fn_of c19 (by simp [F19]) fun c => ?_
  unfold F19
  simp
  refine loop_drop 0 (fun i e H c' => e 0 = .nsl ∧ e 1 = .int .i64 k ∧ e 5 = .int .i64 0 ∧ H = []) ⟨rfl, rfl, rfl, rfl⟩ ?_
  intro i e H c hi ⟨e0, e1, e5, hH⟩ N hN
  subst hH
  simp [e0, e1, e5]
  exact fin_plain ⟨rfl, rfl⟩

theorem markLine_con1 {l : List TLine} (hz : szL cLine l ≤ 8388608) (hw : ∀ x, x ∈ l → x.Words.list.length ≤ 1048576) {k : Int} (hk : 0 ≤ k ∧ k ≤ 549755813888) (t c : Nat) :
    Con Try.prog 16 [.ref 0 t 4 l.length, .int .i64 k] (wood t 4 TLine.encO TLine.inn l) c fun r H' _ => r = .int .i64 (k + szL cLine l) ∧ H' = wood t 4 TLine.encO TLine.inn (mks mkLine cLine k l) := by
  have hln : l.length ≤ szL cLine l := by
    have : ∀ l : List TLine, l.length ≤ szL cLine l := fun l => by
      induction l with
      | nil => simp
      | cons x l ih => simp [szL, cLine] at ih ⊢; omega
    exact this l
  refine con_of c16 (by simp [F16]) ?_
  unfold F16
  simp
  refine loop_drop l.length (fun i e H c' => e 0 = .ref 0 t 4 l.length ∧ e 1 = .int .i64 (k + szL cLine (l.take i)) ∧ e 5 = .int .i64 i ∧ H = ⟨false, t, 4, (mixed mkLine cLine k l i).map TLine.encO⟩ :: (mixed mkLine cLine k l i).flatMap TLine.inn) ⟨rfl, by simp [szL], rfl, by rw [mixed_zero]; rfl⟩ ?_
  intro i e H c hi ⟨e0, e1, e5, hH⟩ N hN
  subst hH
  have hs := mixed_set mkLine cLine k l (i := i)
  have hst := fun h : i < l.length => szL_step cLine l h
  have hle := szL_le cLine l i
  have hfl := fun h : i < l.length => mixed_flat (mk := mkLine) (cnt := cLine) (k := k) (inn := TLine.inn) h
  have hfl' := fun h : i < l.length => mixed_flat' (mk := mkLine) (cnt := cLine) (k := k) (inn := TLine.inn) h
  generalize hjj : k + (szL cLine (l.take i) : Int) = j at e1 hs hfl'
  have w1 : IntKind.i64.wrap (j + 1) = j + 1 := wrap64 (by omega) (by omega)
  have w2 : IntKind.i64.wrap (j + 1 + 1) = j + 1 + 1 := wrap64 (by omega) (by omega)
  have w3 : IntKind.i64.wrap (j + 1 + 1 + 1) = j + 1 + 1 + 1 := wrap64 (by omega) (by omega)
  simp [e0, e1, e5]
  refine ⟨fun h => ?_, fun h => ?_⟩
  · have hs := hs h
    have hst := hst h
    have hg := mixed_get mkLine cLine k l h
    have hx := hw _ (List.getElem_mem h)
    rw [hfl h]
    have hfl' := hfl' h
    generalize l[i] = x at hs hst hg hx hfl'
    refine ⟨h, x, hg, ?_⟩
    simp [e0, e1, e5, h, mixed_len, w1, w2, w3, putA, TLine.encO]
    refine call_midr (f := 18) (B := x.inn) (markI_con c18 (s := x.Words) hx (k := j + 1 + 1 + 1) ⟨by omega, by omega⟩ c) (Views.refl _ _) fun r B' c' hc ⟨q1, q2⟩ => ?_
    subst q1; subst q2
    refine ⟨flat_marks (enc := encI) (w := 1) mkI cI _ x.Words, .int, fun o ho => flat_free encI_flat _ _ o ho _, ?_⟩
    simp [e0, e1, e5]
    refine hN _ _ _ _ h (List.Sublist.refl _) ⟨by simp [upd, e0], ?_, by simp [upd]; exact step64 (by unfold mx; omega) h, ?_⟩
    · simp [upd, hst, cLine]; omega
    · rw [hfl', ← hs, List.map_set, mkLine_encO]
      simp [mkLine, TLine.inn, Int.add_assoc]
  · have h1 : i = l.length := by omega
    subst h1
    refine fin_all ⟨?_, ?_⟩
    · rw [← hjj]; simp
    · rw [mixed_all]; rfl

theorem heldLine_fn1 {l : List TLine} (hz : szL cLine l ≤ 8388608) (hw : ∀ x, x ∈ l → x.Words.list.length ≤ 1048576) {k : Int} (hk : 0 ≤ k ∧ k ≤ 549755813888) (t : Nat) :
    Fnc Try.prog 19 [(SL.mk t (mks mkLine cLine k l)).av 4 TLine.enc, .int .i64 k] (.int .i64 (k + szL cLine l)) := by
  have hln : l.length ≤ szL cLine l := by
    have : ∀ l : List TLine, l.length ≤ szL cLine l := fun l => by
      induction l with
      | nil => simp
      | cons x l ih => simp [szL, cLine] at ih ⊢; omega
    exact this l
  refine fn_of c19 (by simp [F19]) fun c => ?_
  unfold F19
  simp
  have hlen := mks_len mkLine cLine k l
  refine loop_drop l.length (fun i e H c' => e 0 = (SL.mk t (mks mkLine cLine k l)).av 4 TLine.enc ∧ e 1 = .int .i64 (k + szL cLine (l.take i)) ∧ e 5 = .int .i64 i ∧ H = []) ⟨rfl, by simp [szL], rfl, rfl⟩ ?_
  intro i e H c hi ⟨e0, e1, e5, hH⟩ N hN
  subst hH
  have hg := fun h : i < l.length => mks_get mkLine cLine k l h
  have hst := fun h : i < l.length => szL_step cLine l h
  have hle := szL_le cLine l i
  have hle' := szL_le cLine l (i + 1)
  generalize hjj : k + (szL cLine (l.take i) : Int) = j at e1 hg
  have w1 : IntKind.i64.wrap (j + 1) = j + 1 := wrap64 (by omega) (by omega)
  have w2 : IntKind.i64.wrap (j + 1 + 1) = j + 1 + 1 := wrap64 (by omega) (by omega)
  have w3 : IntKind.i64.wrap (j + 1 + 1 + 1) = j + 1 + 1 + 1 := wrap64 (by omega) (by omega)
  simp [e0, e1, e5, hlen]
  refine ⟨fun h => ?_, fun h => ?_⟩
  · have hg := hg h
    have hst := hst h
    have hx := hw _ (List.getElem_mem h)
    generalize l[i] = x at hg hst hx
    have f0 : (mkLine j x).Seq = j := rfl
    have f1 : (mkLine j x).Owner = j + 1 := rfl
    have f2 : (mkLine j x).Version = j + 1 + 1 := by simp [mkLine]; omega
    have f3 : (mkLine j x).Words = x.Words.marks mkI cI (j + 1 + 1 + 1) := by simp [mkLine]; congr 1; omega
    refine ⟨_, hg, ?_⟩
    simp [e0, e1, e5, h, w1, w2, w3, f0, f1, f2, f3]
    refine ⟨_, hg, ?_⟩
    simp [e0, e1, e5, h, w1, w2, w3, f0, f1, f2, f3]
    refine ⟨_, hg, ?_⟩
    simp [e0, e1, e5, h, w1, w2, w3, f0, f1, f2, f3]
    refine ⟨_, hg, ?_⟩
    simp [e0, e1, e5, h, w1, w2, w3, f0, f1, f2, f3]
    refine call_fn0 (heldI_fn c29 (s := x.Words) hx ⟨by omega, by omega⟩) .int fun _ _ => ?_
    have hp : ¬ (j + 1 + 1 + 1 + (x.Words.list.length : Int) < 0) := by omega
    simp [e0, e1, e5, h, w1, w2, w3, hp]
    refine hN _ _ _ _ h (List.Sublist.refl _) ⟨by simp [upd, e0], ?_, by simp [upd]; exact step64 (by unfold mx; omega) h, rfl⟩
    simp [upd, hst, cLine]; omega
  · have h1 : i = l.length := by omega
    subst h1
    refine fin_plain ⟨?_, rfl⟩
    rw [← hjj]; simp

theorem markLine_con {s : SL TLine} (hz : szL cLine s.list ≤ 8388608) (hw : ∀ x, x ∈ s.list → x.Words.list.length ≤ 1048576) {k : Int} (hk : 0 ≤ k ∧ k ≤ 549755813888) (c : Nat) :
    Con Try.prog 16 [s.ref 4, .int .i64 k] (s.wood 4 TLine.encO TLine.inn) c fun r H' _ => r = .int .i64 (k + szL cLine s.list) ∧ H' = (s.marks mkLine cLine k).wood 4 TLine.encO TLine.inn := by
  cases s with
  | nil =>
    have := markLine_nil k c
    simpa [SL.ref, SL.wood, SL.marks, szL] using this
  | mk t l => exact markLine_con1 (l := l) hz hw hk t c
theorem heldLine_fn {s : SL TLine} (hz : szL cLine s.list ≤ 8388608) (hw : ∀ x, x ∈ s.list → x.Words.list.length ≤ 1048576) {k : Int} (hk : 0 ≤ k ∧ k ≤ 549755813888) :
    Fnc Try.prog 19 [(s.marks mkLine cLine k).av 4 TLine.enc, .int .i64 k] (.int .i64 (k + szL cLine s.list)) := by
  cases s with
  | nil =>
    have := heldLine_nil k
    simpa [SL.av, SL.marks, szL] using this
  | mk t l => exact heldLine_fn1 (l := l) hz hw hk t
theorem line_first {K : AV → List AObj → Nat → Prop} {C : List AObj} {s : SL TLine} {c : Nat} (hz : szL cLine s.list ≤ 8388608) (hw : ∀ x, x ∈ s.list → x.Words.list.length ≤ 1048576)
    (kk : ∀ c', c ≤ c' → K (.int .i64 (1 + szL cLine s.list)) ((s.marks mkLine cLine 1).wood 4 TLine.encO TLine.inn ++ C) c') : CallW Try.prog 16 [s.ref 4, .int .i64 1] (s.wood 4 TLine.encO TLine.inn ++ C) c K :=
  mark_mid (A := []) (markLine_con hz hw ⟨by omega, by omega⟩ c) mkLine_tags TLine.freeO TLine.freeI kk
theorem line_last {K : AV → List AObj → Nat → Prop} {A : List AObj} {s : SL TLine} {c : Nat} (hz : szL cLine s.list ≤ 8388608) (hw : ∀ x, x ∈ s.list → x.Words.list.length ≤ 1048576)
    (kk : ∀ c', c ≤ c' → K (.int .i64 (1 + szL cLine s.list)) (A ++ (s.marks mkLine cLine 1).wood 4 TLine.encO TLine.inn) c') : CallW Try.prog 16 [s.ref 4, .int .i64 1] (A ++ s.wood 4 TLine.encO TLine.inn) c K := by
  have := mark_mid (A := A) (C := []) (K := K) (markLine_con hz hw (k := 1) ⟨by omega, by omega⟩ c) mkLine_tags TLine.freeO TLine.freeI (by simpa using kk)
  simpa using this
theorem cloneIO {s : SL Int} (hn : s.list.length ≤ 1048576) (c : Nat) : Con Try.prog 42 [s.av 1 encI] [] c fun r O _ => ∃ x : SL Int, r = x.ref 1 ∧ O = x.wood 1 encI noInn ∧ x.list = s.list :=
  clone_con (b := 8) (z := [.int .i64 0]) c42 (by omega) (by unfold mx; omega) c

theorem szLine_bounds {l : List TLine} (h : l.length + szL TLine.sz l ≤ 1048576) : szL cLine l ≤ 8388608 ∧ (∀ x, x ∈ l → x.Words.list.length ≤ 1048576) ∧ l.length ≤ 1048576 := by
  have key : ∀ l : List TLine, szL cLine l ≤ 3 * l.length + szL TLine.sz l := fun l => by
    induction l with
    | nil => simp [szL]
    | cons x l ih =>
      have e : x.sz = x.Words.list.length := rfl
      simp only [szL, List.map_cons, List.sum_cons, List.length_cons, cLine, e] at ih ⊢; omega
  refine ⟨by have := key l; omega, fun x hx => ?_, by omega⟩
  have := szL_mem (sz := TLine.sz) hx
  have e : x.sz = x.Words.list.length := rfl
  omega

theorem line_from {c : Nat} {s : SL TLine} (ht : ∀ t, t ∈ tags (s.wood 4 TLine.encO TLine.inn) → c ≤ t) : From c (s.av 4 TLine.enc) := by
  cases s with
  | nil => exact from_nsl c
  | mk t l =>
    have ht' : ∀ u, u ∈ t :: tags (l.flatMap TLine.inn) → c ≤ u := ht
    refine from_slc (ht' t (List.mem_cons_self ..)) fun row hr a ha => ?_
    obtain ⟨x, hx, rfl⟩ := List.mem_map.1 hr
    simp [TLine.enc] at ha
    rcases ha with rfl | rfl | rfl | rfl
    · simp
    · simp
    · simp
    · refine flat_from encI_flat fun u hu => ht' u (List.mem_cons_of_mem _ ?_)
      obtain ⟨o, ho, rfl⟩ := of_mem_tags hu
      exact mem_tags (List.mem_flatMap.2 ⟨x, hx, ho⟩)
theorem line_tr {f : Nat} {args : List AV} {Q : SL TLine → Prop} (h : ∀ c, Con Try.prog f args [] c fun r O _ => ∃ b : SL TLine, r = b.ref 4 ∧ O = b.wood 4 TLine.encO TLine.inn ∧ Q b) :
    Tr Try.prog f args fun _ r => ∃ b : SL TLine, r = b.av 4 TLine.enc ∧ Q b :=
  tr_of h fun c r O c' _ ⟨b, h1, h2, h3⟩ ht => ⟨b.av 4 TLine.enc, by rw [h1]; exact view_line (by rw [h2]; exact fun _ h => h), ⟨b, rfl, h3⟩, line_from (by rw [← h2]; exact ht)⟩
theorem line_tr2 {f : Nat} {args : List AV} {Q : SL TLine → List AV → Prop} (hF : ∀ b l, Q b l → ∀ a, a ∈ l → Free a) (h : ∀ c, Con Try.prog f args [] c fun r O _ => ∃ (b : SL TLine) (l : List AV), r = .tup (b.ref 4 :: l) ∧ O = b.wood 4 TLine.encO TLine.inn ∧ Q b l) :
    Tr Try.prog f args fun _ r => ∃ (b : SL TLine) (l : List AV), r = .tup (b.av 4 TLine.enc :: l) ∧ Q b l :=
  tr_of h fun c r O c' _ ⟨b, l, h1, h2, h3⟩ ht => ⟨.tup (b.av 4 TLine.enc :: l), by rw [h1]; exact view_tup (.cons (view_line (by rw [h2]; exact fun _ h => h)) (Views.refl _ _)), ⟨b, l, rfl, h3⟩,
    from_tup fun a ha => by
      rcases List.mem_cons.1 ha with rfl | ha
      · exact line_from (by rw [← h2]; exact ht)
      · exact (hF b l h3 a ha).from c⟩
theorem view_lmarks {S : List AObj} {s : SL TLine} {k : Int} (hs : ∀ o, o ∈ (s.marks mkLine cLine k).wood 4 TLine.encO TLine.inn → o ∈ S) : View S (s.ref 4) ((s.marks mkLine cLine k).av 4 TLine.enc) := by
  rw [← SL.marks_ref (mk := mkLine) (cnt := cLine) k s]
  exact view_line hs
end A
end Go.Proofs.Ytfcimcoanlgldaa
