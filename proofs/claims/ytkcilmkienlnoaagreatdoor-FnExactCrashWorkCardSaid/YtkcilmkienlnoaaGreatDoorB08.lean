import Derived.Test.YtkcilmkienlnoaaGreatDoorB07

/-
  The families of helpers over slices (sizes, copies, comparisons): each once, for every element. No condition.
-/

namespace Go.Proofs.YtkcilmkienlnoaaGreatDoor
namespace A
set_option linter.unusedVariables false
set_option linter.unusedSimpArgs false

/-- rows made so far, and the blank ones -/
def grow {α : Type} (f : α → List AV) (z : List AV) (n : Nat) (ys : List α) : List (List AV) := ys.map f ++ List.replicate (n - ys.length) z
theorem grow_nil {α : Type} (f : α → List AV) (z : List AV) (n : Nat) : grow f z n [] = List.replicate n z := by simp [grow]
theorem grow_all {α : Type} (f : α → List AV) (z : List AV) {n : Nat} {ys : List α} (h : ys.length = n) : grow f z n ys = ys.map f := by simp [grow, h]
theorem grow_len {α : Type} (f : α → List AV) (z : List AV) {n : Nat} {ys : List α} (h : ys.length ≤ n) : (grow f z n ys).length = n := by simp [grow]; omega
theorem grow_get {α : Type} (f : α → List AV) (z : List AV) {n i : Nat} {ys : List α} (hi : ys.length = i) (h : i < n) : (grow f z n ys)[i]? = some z := by
  unfold grow
  rw [List.getElem?_append_right (by simp; omega), List.length_map, hi, Nat.sub_self, List.getElem?_replicate, if_pos (by omega)]
theorem grow_set {α : Type} (f : α → List AV) (z : List AV) {n i : Nat} {ys : List α} (hi : ys.length = i) (h : i < n) (y : α) : (grow f z n ys).set i (f y) = grow f z n (ys ++ [y]) := by
  unfold grow
  have e : n - ys.length = (n - (i + 1)) + 1 := by omega
  rw [e, List.replicate_succ, List.set_append_right _ _ (by simp; omega), List.length_map, hi, Nat.sub_self, List.set_cons_zero]
  simp [hi]

theorem from_agg_mem {c : Nat} {l : List AV} (h : From c (.agg l)) : ∀ a, a ∈ l → From c a := fun a ha T hT => by
  have := h T hT
  cases this with
  | agg h => obtain ⟨j, hj, e⟩ := List.mem_iff_getElem.1 ha; exact h j a (by rw [← e]; exact List.getElem?_eq_getElem hj)

theorem take_len {α : Type} (l : List α) {w : Nat} (h : l.length = w) : l.take w = l := by rw [List.take_of_length_le (by omega)]
/-- A copy of a slice, element by element, by a function. -/
def toSF (w : Nat) (z : List AV) (bytes g : Nat) : Fun := ⟨23,
  .seq (.reg [o 2 (.mv (.c .nsl))])
  (.seq (.reg [o 5 (.mv (.t 0)), o 6 (.lenL (.t 5)), o 7 (.mkslice w z bytes (.t 6) (.t 6)), o 3 (.mv (.t 7))])
  (.seq (.seq (.reg [o 4 (.mv (.c (.int .i64 0)))])
  (.block 0 (.loop (.seq (.seq (.reg [o 8 (.mv (.t 4)), o 9 (.mv (.t 0)), o 10 (.lenL (.t 9)), o 11 (.bin .lss (.t 8) (.t 10))])
    (.cond (.t 11) (.skip) (.exit 0)))
    (.seq (.block 1 (.reg [o 14 (.mv (.t 3)), o 15 (.mv (.t 4)), o 16 (.mv (.t 0)), o 17 (.mv (.t 4)), o 18 (.iaddr w (.t 16) (.t 17)), o 19 (.load (some w) (.t 18)), o 20 (.call g [(.t 19)]), o 21 (.iaddr w (.t 14) (.t 15)), st (.store w (.t 21) (.t 20))]))
    (.reg [o 12 (.mv (.t 4)), o 13 (.bin .add (.t 12) (.c (.int .i64 1))), o 4 (.mv (.t 13))]))))))
  (.seq (.reg [o 22 (.mv (.t 3)), o 2 (.mv (.t 22))])
  (.ret)))),
  [.tmp 2]⟩

/-- The same, of plain elements. -/
def toPF (z : AV) (bytes : Nat) : Fun := ⟨22,
  .seq (.reg [o 2 (.mv (.c .nsl))])
  (.seq (.reg [o 5 (.mv (.t 0)), o 6 (.lenL (.t 5)), o 7 (.mkslice 1 [z] bytes (.t 6) (.t 6)), o 3 (.mv (.t 7))])
  (.seq (.seq (.reg [o 4 (.mv (.c (.int .i64 0)))])
  (.block 0 (.loop (.seq (.seq (.reg [o 8 (.mv (.t 4)), o 9 (.mv (.t 0)), o 10 (.lenL (.t 9)), o 11 (.bin .lss (.t 8) (.t 10))])
    (.cond (.t 11) (.skip) (.exit 0)))
    (.seq (.block 1 (.reg [o 14 (.mv (.t 3)), o 15 (.mv (.t 4)), o 16 (.mv (.t 0)), o 17 (.mv (.t 4)), o 18 (.iaddr 1 (.t 16) (.t 17)), o 19 (.load none (.t 18)), o 20 (.iaddr 1 (.t 14) (.t 15)), st (.store 1 (.t 20) (.t 19))]))
    (.reg [o 12 (.mv (.t 4)), o 13 (.bin .add (.t 12) (.c (.int .i64 1))), o 4 (.mv (.t 13))]))))))
  (.seq (.reg [o 21 (.mv (.t 3)), o 2 (.mv (.t 21))])
  (.ret)))),
  [.tmp 2]⟩

/-- A slice's size: its elements' and their number. -/
def szSF (w g : Nat) : Fun := ⟨27,
  .seq (.reg [o 4 (.mv (.c (.int .i64 0)))])
  (.seq (.reg [o 6 (.mv (.t 1)), o 7 (.mv (.t 0)), o 8 (.lenL (.t 7)), o 9 (.bin .sub (.t 6) (.t 8)), o 1 (.mv (.t 9))])
  (.seq (.seq (.reg [o 10 (.mv (.t 1)), o 11 (.bin .lss (.t 10) (.c (.int .i64 0)))])
  (.cond (.t 11) (.seq (.reg [o 4 (.mv (.c (.int .i64 (-1))))])
   (.ret)) (.skip)))
  (.seq (.seq (.reg [o 5 (.mv (.c (.int .i64 0)))])
  (.block 0 (.loop (.seq (.seq (.reg [o 12 (.mv (.t 5)), o 13 (.mv (.t 0)), o 14 (.lenL (.t 13)), o 15 (.bin .lss (.t 12) (.t 14))])
    (.cond (.t 15) (.skip) (.exit 0)))
    (.seq (.block 1 (.seq (.reg [o 18 (.mv (.t 0)), o 19 (.mv (.t 5)), o 20 (.iaddr w (.t 18) (.t 19)), o 21 (.load (some w) (.t 20)), o 22 (.mv (.t 1)), o 23 (.call g [(.t 21), (.t 22)]), o 1 (.mv (.t 23))])
     (.seq (.reg [o 24 (.mv (.t 1)), o 25 (.bin .lss (.t 24) (.c (.int .i64 0)))])
     (.cond (.t 25) (.seq (.reg [o 4 (.mv (.c (.int .i64 (-1))))])
      (.ret)) (.skip)))))
    (.reg [o 16 (.mv (.t 5)), o 17 (.bin .add (.t 16) (.c (.int .i64 1))), o 5 (.mv (.t 17))]))))))
  (.seq (.reg [o 26 (.mv (.t 1)), o 4 (.mv (.t 26))])
  (.ret))))),
  [.tmp 4]⟩

/-- Two slices, compared by a function. -/
def eqSF (w g : Nat) : Fun := ⟨27,
  .seq (.reg [o 4 (.mv (.c (.bool false)))])
  (.seq (.seq (.reg [o 6 (.mv (.t 0)), o 7 (.lenL (.t 6)), o 8 (.mv (.t 1)), o 9 (.lenL (.t 8)), o 10 (.bin .neq (.t 7) (.t 9))])
  (.cond (.t 10) (.seq (.reg [o 4 (.mv (.c (.bool false)))])
   (.ret)) (.skip)))
  (.seq (.seq (.reg [o 5 (.mv (.c (.int .i64 0)))])
  (.block 0 (.loop (.seq (.seq (.reg [o 11 (.mv (.t 5)), o 12 (.mv (.t 0)), o 13 (.lenL (.t 12)), o 14 (.bin .lss (.t 11) (.t 13))])
    (.cond (.t 14) (.skip) (.exit 0)))
    (.seq (.block 1 (.seq (.reg [o 17 (.mv (.t 0)), o 18 (.mv (.t 5)), o 19 (.iaddr w (.t 17) (.t 18)), o 20 (.load (some w) (.t 19)), o 21 (.mv (.t 1)), o 22 (.mv (.t 5)), o 23 (.iaddr w (.t 21) (.t 22)), o 24 (.load (some w) (.t 23)), o 25 (.callF g [(.t 20), (.t 24)]), o 26 (.un .not (.t 25))])
     (.cond (.t 26) (.seq (.reg [o 4 (.mv (.c (.bool false)))])
      (.ret)) (.skip))))
    (.reg [o 15 (.mv (.t 5)), o 16 (.bin .add (.t 15) (.c (.int .i64 1))), o 5 (.mv (.t 16))]))))))
  (.seq (.reg [o 4 (.mv (.c (.bool true)))])
  (.ret)))),
  [.tmp 4]⟩

def eqPF : Fun := ⟨26,
  .seq (.reg [o 4 (.mv (.c (.bool false)))])
  (.seq (.seq (.reg [o 6 (.mv (.t 0)), o 7 (.lenL (.t 6)), o 8 (.mv (.t 1)), o 9 (.lenL (.t 8)), o 10 (.bin .neq (.t 7) (.t 9))])
  (.cond (.t 10) (.seq (.reg [o 4 (.mv (.c (.bool false)))])
   (.ret)) (.skip)))
  (.seq (.seq (.reg [o 5 (.mv (.c (.int .i64 0)))])
  (.block 0 (.loop (.seq (.seq (.reg [o 11 (.mv (.t 5)), o 12 (.mv (.t 0)), o 13 (.lenL (.t 12)), o 14 (.bin .lss (.t 11) (.t 13))])
    (.cond (.t 14) (.skip) (.exit 0)))
    (.seq (.block 1 (.seq (.reg [o 17 (.mv (.t 0)), o 18 (.mv (.t 5)), o 19 (.iaddr 1 (.t 17) (.t 18)), o 20 (.load none (.t 19)), o 21 (.mv (.t 1)), o 22 (.mv (.t 5)), o 23 (.iaddr 1 (.t 21) (.t 22)), o 24 (.load none (.t 23)), o 25 (.bin .neq (.t 20) (.t 24))])
     (.cond (.t 25) (.seq (.reg [o 4 (.mv (.c (.bool false)))])
      (.ret)) (.skip))))
    (.reg [o 15 (.mv (.t 5)), o 16 (.bin .add (.t 15) (.c (.int .i64 1))), o 5 (.mv (.t 16))]))))))
  (.seq (.reg [o 4 (.mv (.c (.bool true)))])
  (.ret)))),
  [.tmp 4]⟩

section
variable {P : Program} {α : Type} {enc : α → List AV} {con : α → α} {w : Nat} {f g : Nat}

theorem toS_fn {z : List AV} {bytes : Nat} (hf : compF P f = some (toSF w z bytes g)) (hz : z.length = w) (hw : ∀ x, (enc x).length = w) (hcell : ∀ x a, a ∈ enc x → a.cell = true) {s : SL α} (hn : s.list.length * bytes ≤ 281474976710656) (hn' : s.list.length ≤ 281474976710656)
    (hg : ∀ x, x ∈ s.list → Tr P g [.agg (enc x)] fun _ r => ∃ b, r = .agg (enc b) ∧ con b = con x) :
    Tr P f [s.av w enc] fun _ r => ∃ b : SL α, r = b.av w enc ∧ b.list.map con = s.list.map con := by
  intro c
  refine con_of hf (by simp [toSF]) ?_
  unfold toSF
  simp
  refine ⟨by omega, by omega, loop_nat s.list.length (fun i e H c' => c ≤ c' ∧ e 0 = s.av w enc ∧ e 3 = .ref 0 c w s.list.length ∧ e 4 = .int .i64 i ∧ ∃ ys : List α, ys.length = i ∧ ys.map con = (s.list.take i).map con ∧ (∀ y ∈ ys, From c (.agg (enc y))) ∧ H = [⟨false, c, w, grow enc z s.list.length ys⟩])
    ⟨by omega, rfl, rfl, rfl, [], rfl, rfl, by simp, by rw [grow_nil]⟩ ?_⟩
  intro i e H c' hi ⟨hc, e0, e3, e4, ys, hy, hcon, hfr, hH⟩ N hN
  subst hH
  simp [e0, e3, e4]
  refine ⟨fun h => ⟨s.list[i], List.getElem?_eq_getElem h, ?_⟩, fun h => ?_⟩
  · simp [hw, take_len, e0, e3, e4]
    refine call_tree0 (hg _ (List.getElem_mem h)) fun r c'' hc' ⟨b, hr, hb⟩ hf => ?_
    subst hr
    simp [h, hw, e0, e3, e4]
    refine ⟨_, grow_get _ _ hy h, hN _ _ _ h ⟨by omega, by simp [upd, e0], by simp [upd, e3], by simp [upd]; exact step64 (by unfold mx; omega) h, ys ++ [b], by simp [hy], ?_, ?_, ?_⟩⟩
    · rw [List.take_succ_eq_append_getElem h, List.map_append, List.map_append, hcon]; simp [hb]
    · intro y hym
      rcases List.mem_append.1 hym with h1 | h1
      · exact hfr y h1
      · simp at h1; subst h1; exact hf.mono hc
    · rw [putA_all (by rw [hw, hz]), grow_set _ _ hy h]
  · have : i = s.list.length := by omega
    subst this
    rw [grow_all _ _ hy]
    refine fin_slc (by simp) (by simpa using hy) (by simp; exact fun x _ a ha => hcell x a ha) ⟨rfl, ⟨.mk c ys, rfl, by simpa using hcon⟩, from_slc (Nat.le_refl _) ?_⟩
    simp [e0, e3, e4]
    exact fun y hym a ha => from_agg_mem (hfr y hym) a ha

theorem szS_fn (hf : compF P f = some (szSF w g)) (hw : ∀ x, (enc x).length = w) {sz : α → Nat} {s : SL α} (hn : s.list.length ≤ mx) {left : Int} (hl : Room left)
    (hg : ∀ x, x ∈ s.list → ∀ left, Room left → Fnc P g [.agg (enc x), .int .i64 left] (.int .i64 (szOf (sz x) left))) :
    Fnc P f [s.av w enc, .int .i64 left] (.int .i64 (szOf (s.list.length + szL sz s.list) left)) := by
  refine fn_of hf (by simp [szSF]) fun c => ?_
  unfold szSF
  simp [szOf_wrap hn hl]
  constructor
  · intro h; exact fin_plain (by simp; unfold szOf; split <;> omega)
  · intro h
    refine loop_nat s.list.length (fun i e H c => e 0 = s.av w enc ∧ e 5 = .int .i64 i ∧ e 1 = .int .i64 (left - s.list.length - szL sz (s.list.take i)) ∧ 0 ≤ left - s.list.length - szL sz (s.list.take i) ∧ H = []) ⟨rfl, rfl, by simp [szL], by simpa [szL] using h, rfl⟩ ?_
    intro i e H c hi ⟨e0, e5, e1, hp, hH⟩ N hN
    subst hH
    simp [e0, e5, e1]
    refine ⟨fun h => ⟨s.list[i], List.getElem?_eq_getElem h, ?_⟩, fun h => ?_⟩
    · have hr : Room (left - s.list.length - szL sz (s.list.take i)) := ⟨by omega, by have := hl.2; omega⟩
      have hst : szL sz (s.list.take (i + 1)) = szL sz (s.list.take i) + sz s.list[i] := szL_step _ _ h
      have hle := szL_le sz s.list (i + 1)
      simp [hw, take_len, e0, e5, e1]
      refine call_fn0 (hg _ (List.getElem_mem h) _ hr) .int fun c' _ => ?_
      simp [e0, e5, e1]
      unfold szOf
      split
      · refine ⟨fun h' => by omega, fun h' => hN _ _ _ h ⟨by simp [upd, e0], ?_, by simp [upd]; omega, by omega, rfl⟩⟩
        simp [upd]; exact step64 hn h
      · refine ⟨fun h' => fin_plain (by rw [if_neg (by omega)]; exact ⟨rfl, rfl⟩), fun h' => by omega⟩
    · have : i = s.list.length := by omega
      subst this
      refine fin_plain ⟨?_, rfl⟩
      rw [List.take_length] at hp ⊢
      unfold szOf
      rw [if_pos (by push_cast; omega)]
      congr 1
      push_cast; omega

theorem eqS_fn (hf : compF P f = some (eqSF w g)) (hw : ∀ x, (enc x).length = w) {s t : SL α} (hn : s.list.length ≤ mx) (he : s.list.map con = t.list.map con)
    (hg : ∀ x, x ∈ s.list → ∀ y, con x = con y → Fnc P g [.agg (enc x), .agg (enc y)] (.bool true)) : Fnc P f [s.av w enc, t.av w enc] (.bool true) := by
  have hlen : s.list.length = t.list.length := by have := congrArg List.length he; simpa using this
  refine fn_of hf (by simp [eqSF]) fun c => ?_
  unfold eqSF
  simp [hlen]
  refine loop_nat s.list.length (fun i e H c => e 0 = s.av w enc ∧ e 1 = t.av w enc ∧ e 5 = .int .i64 i ∧ H = []) ⟨rfl, rfl, rfl, rfl⟩ ?_
  intro i e H c hi ⟨e0, e1, e5, hH⟩ N hN
  subst hH
  simp [e0, e1, e5]
  refine ⟨fun h => ⟨s.list[i], List.getElem?_eq_getElem h, ?_⟩, fun h => fin_plain ⟨rfl, rfl⟩⟩
  have ht : i < t.list.length := by omega
  have hc : con s.list[i] = con t.list[i] := by
    have h1 : (s.list.map con)[i]? = (t.list.map con)[i]? := by rw [he]
    simpa [h, ht] using h1
  simp [hw, take_len, e0, e1, e5]
  refine ⟨t.list[i], List.getElem?_eq_getElem ht, ?_⟩
  simp [hw, take_len, e0, e1, e5]
  refine callF_fn0 (hg _ (List.getElem_mem h) _ hc) .bool fun c' _ => ?_
  simp [e0, e1, e5]
  exact hN _ _ _ h ⟨by simp [upd, e0], by simp [upd, e1], by simp [upd]; exact step64 hn h, rfl⟩

theorem toP_fn {v : α → AV} {z : AV} {bytes : Nat} (hf : compF P f = some (toPF z bytes)) (hc : ∀ x, (v x).cell = true) (hfr : ∀ x c, From c (v x)) (hv : ∀ x (K : List AV → Prop), cellsW (v x) K = K [v x]) {s : SL α} (hn : s.list.length * bytes ≤ 281474976710656) (hn' : s.list.length ≤ 281474976710656) :
    Tr P f [s.av 1 fun x => [v x]] fun _ r => ∃ t, r = (SL.mk t s.list).av 1 fun x => [v x] := by
  intro c
  refine con_of hf (by simp [toPF]) ?_
  unfold toPF
  simp
  refine ⟨by omega, by omega, loop_nat s.list.length (fun i e H c' => e 0 = (s.av 1 fun x => [v x]) ∧ e 3 = .ref 0 c 1 s.list.length ∧ e 4 = .int .i64 i ∧ H = [⟨false, c, 1, grow (fun x => [v x]) [z] s.list.length (s.list.take i)⟩]) ⟨rfl, rfl, rfl, by rw [List.take_zero, grow_nil]⟩ ?_⟩
  intro i e H c' hi ⟨e0, e3, e4, hH⟩ N hN
  subst hH
  simp [e0, e3, e4]
  refine ⟨fun h => ⟨s.list[i], List.getElem?_eq_getElem h, ?_⟩, fun h => ?_⟩
  · have hl : (s.list.take i).length = i := by simp; omega
    simp [h, hv, e0, e3, e4]
    refine ⟨_, grow_get _ _ hl h, hN _ _ _ h ⟨by simp [upd, e0], by simp [upd, e3], by simp [upd]; exact step64 (by unfold mx; omega) h, ?_⟩⟩
    rw [List.take_succ_eq_append_getElem h, ← grow_set _ _ hl h]; rfl
  · have : i = s.list.length := by omega
    subst this
    rw [List.take_length, grow_all _ _ rfl]
    refine fin_slc (by simp) (by simp) (by simp; exact fun x _ => hc x) ⟨rfl, ⟨c, rfl⟩, from_slc (Nat.le_refl _) ?_⟩
    simp [e0, e3, e4]
    exact fun x _ => hfr x c

theorem eqP_fn {v : α → AV} (hf : compF P f = some eqPF) (hv : ∀ x (K : AV → Prop), binW .neq (v x) (v x) K = K (.bool false)) {s t : SL α} (hn : s.list.length ≤ mx) (he : s.list = t.list) : Fnc P f [s.av 1 fun x => [v x], t.av 1 fun x => [v x]] (.bool true) := by
  refine fn_of hf (by simp [eqPF]) fun c => ?_
  unfold eqPF
  simp [← he]
  refine loop_nat s.list.length (fun i e H c => e 0 = (s.av 1 fun x => [v x]) ∧ e 1 = (t.av 1 fun x => [v x]) ∧ e 5 = .int .i64 i ∧ H = []) ⟨rfl, rfl, rfl, rfl⟩ ?_
  intro i e H c hi ⟨e0, e1, e5, hH⟩ N hN
  subst hH
  simp [e0, e1, e5]
  refine ⟨fun h => ⟨s.list[i], List.getElem?_eq_getElem h, ?_⟩, fun h => fin_plain ⟨rfl, rfl⟩⟩
  simp [e0, e1, e5]
  refine ⟨s.list[i], by rw [← he]; exact List.getElem?_eq_getElem h, ?_⟩
  simp [hv, e0, e1, e5]
  exact hN _ _ _ h ⟨by simp [upd, e0], by simp [upd, e1], by simp [upd]; exact step64 hn h, rfl⟩

/-- A slice's size, of elements without one. -/
def szPF : Fun := ⟨12,
  .seq (.reg [o 4 (.mv (.c (.int .i64 0)))])
  (.seq (.reg [o 5 (.mv (.t 1)), o 6 (.mv (.t 0)), o 7 (.lenL (.t 6)), o 8 (.bin .sub (.t 5) (.t 7)), o 1 (.mv (.t 8))])
  (.seq (.seq (.reg [o 9 (.mv (.t 1)), o 10 (.bin .lss (.t 9) (.c (.int .i64 0)))])
  (.cond (.t 10) (.seq (.reg [o 4 (.mv (.c (.int .i64 (-1))))])
   (.ret)) (.skip)))
  (.seq (.reg [o 11 (.mv (.t 1)), o 4 (.mv (.t 11))])
  (.ret)))),
  [.tmp 4]⟩
theorem szP_fn (hf : compF P f = some szPF) {s : SL α} (hn : s.list.length ≤ mx) {left : Int} (hl : Room left) : Fnc P f [s.av w enc, .int .i64 left] (.int .i64 (szOf s.list.length left)) := by
  refine fn_of hf (by simp [szPF]) fun c => ?_
  unfold szPF
  simp [szOf_wrap hn hl]
  unfold szOf
  constructor
  · intro h; exact fin_plain (by simp; omega)
  · intro h; exact fin_plain (by simp; omega)

theorem szOf_neg {n : Nat} {left : Int} (h : left < n) : szOf n left = -1 := if_neg (by omega)
theorem szOf_lt {n : Nat} {left : Int} (h : szOf n left < 0) : left < n := by unfold szOf at h; split at h <;> omega
theorem szOf_ge {n : Nat} {left : Int} (h : 0 ≤ szOf n left) : szOf n left = left - n ∧ n ≤ left := by unfold szOf at *; split at h <;> first | (rw [if_pos (by assumption)]; exact ⟨rfl, by assumption⟩) | omega
theorem szL_mem {sz : α → Nat} {l : List α} {x : α} (h : x ∈ l) : sz x ≤ szL sz l := by
  obtain ⟨i, hi, rfl⟩ := List.mem_iff_getElem.1 h
  have h1 := szL_step sz l hi
  have h2 := szL_le sz l (i + 1)
  omega
theorem szL_map {sz : α → Nat} (h : ∀ x, sz (con x) = sz x) (l : List α) : szL sz (l.map con) = szL sz l := by
  unfold szL; rw [List.map_map]; congr 1; exact List.map_congr_left fun x _ => h x

/-! ### shapes -/
theorem sh_int {n : Nat} {t : TypeId} {k : IntKind} (hu : P.underlying t = some (.int k)) {a : AV} (h : ShC P n t [a]) : ∃ i, a = .int k i ∧ IOk k i := by
  cases n with
  | zero => exact h.elim
  | succ n => simp only [ShC, hu] at h; obtain ⟨i, h1, h2⟩ := h; cases h1; exact ⟨i, rfl, h2⟩
theorem sh_bool {n : Nat} {t : TypeId} (hu : P.underlying t = some .bool) {a : AV} (h : ShC P n t [a]) : ∃ b, a = .bool b := by
  cases n with
  | zero => exact h.elim
  | succ n => simp only [ShC, hu] at h; obtain ⟨i, h1⟩ := h; cases h1; exact ⟨i, rfl⟩
theorem sh_str {n : Nat} {t : TypeId} (hu : P.underlying t = some .string) {a : AV} (h : ShC P n t [a]) : ∃ l, a = .str l ∧ l.length ≤ mx := by
  cases n with
  | zero => exact h.elim
  | succ n => simp only [ShC, hu] at h; obtain ⟨i, h1, h2⟩ := h; cases h1; exact ⟨i, rfl, h2⟩
theorem rows_typed {ok : α → Prop} : ∀ (rows : List (List AV)), (∀ row, row ∈ rows → ∃ x, row = enc x ∧ ok x) → ∃ xs : List α, rows = xs.map enc ∧ ∀ x, x ∈ xs → ok x := by
  intro rows
  induction rows with
  | nil => intro _; exact ⟨[], rfl, by simp⟩
  | cons r rows ih =>
    intro h
    obtain ⟨x, hx, ox⟩ := h r (List.mem_cons_self ..)
    obtain ⟨xs, hxs, oxs⟩ := ih fun row hr => h row (List.mem_cons_of_mem _ hr)
    exact ⟨x :: xs, by simp [hx, hxs], by simpa using ⟨ox, oxs⟩⟩
theorem sh_slc {ok : α → Prop} {n : Nat} {t el : TypeId} (hu : P.underlying t = some (.slice el)) (hw : P.cellsOf el = w) (he : ∀ n row, ShC P n el row → ∃ x, row = enc x ∧ ok x) {a : AV} (h : ShC P n t [a]) :
    ∃ s : SL α, a = s.av w enc ∧ s.list.length ≤ mx ∧ ∀ x, x ∈ s.list → ok x := by
  cases n with
  | zero => exact h.elim
  | succ n =>
    simp only [ShC, hu] at h
    rcases h with h | ⟨tag, rows, h1, h2, h3⟩
    · cases h; exact ⟨.nil, rfl, by simp, by simp⟩
    · cases h1
      obtain ⟨xs, hxs, ox⟩ := rows_typed (enc := enc) (ok := ok) rows fun row hr => he n row (h3 row hr)
      subst hxs
      exact ⟨.mk tag xs, by rw [hw]; rfl, by simpa using h2, by simpa using ox⟩
theorem sh_struct {n : Nat} {t : TypeId} {fs : Array Field} (hu : P.underlying t = some (.struct fs)) {as0 : List AV} (h : ShC P n t as0) : ∃ m, as0.length = P.cellsOf t ∧ ∀ f, f ∈ fs.toList → ShC P m f.type ((as0.drop f.offset).take (P.cellsOf f.type)) := by
  cases n with
  | zero => exact h.elim
  | succ n => simp only [ShC, hu] at h; exact ⟨n, h⟩
def fieldsAre (P : Program) (t : TypeId) (l : List (TypeId × Nat)) : Bool :=
  match P.underlying t with
  | some (.struct fs) => (fs.toList.map fun f => (f.type, f.offset)) == l
  | _ => false
theorem sh_fields {n : Nat} {t : TypeId} {l : List (TypeId × Nat)} (hu : fieldsAre P t l = true) {as0 : List AV} (h : ShC P n t as0) : ∃ m, as0.length = P.cellsOf t ∧ ∀ p, p ∈ l → ShC P m p.1 ((as0.drop p.2).take (P.cellsOf p.1)) := by
  unfold fieldsAre at hu
  split at hu
  · rename_i fs hfs
    simp only [beq_iff_eq] at hu
    obtain ⟨m, h1, h2⟩ := sh_struct hfs h
    refine ⟨m, h1, fun p hp => ?_⟩
    rw [← hu] at hp
    obtain ⟨f, hf, rfl⟩ := List.mem_map.1 hp
    exact h2 f hf
  · cases hu
theorem sh_int1 {n : Nat} {t : TypeId} {k : IntKind} (hu : P.underlying t = some (.int k)) {row : List AV} (h : ShC P n t row) : ∃ i, row = [.int k i] ∧ IOk k i := by
  cases n with
  | zero => exact h.elim
  | succ n => simp only [ShC, hu] at h; exact h
theorem sh_str1 {n : Nat} {t : TypeId} (hu : P.underlying t = some .string) {row : List AV} (h : ShC P n t row) : ∃ l, row = [.str l] ∧ l.length ≤ mx := by
  cases n with
  | zero => exact h.elim
  | succ n => simp only [ShC, hu] at h; exact h
theorem sh_bool1 {n : Nat} {t : TypeId} (hu : P.underlying t = some .bool) {row : List AV} (h : ShC P n t row) : ∃ b, row = [.bool b] := by
  cases n with
  | zero => exact h.elim
  | succ n => simp only [ShC, hu] at h; exact h
end
end A
end Go.Proofs.YtkcilmkienlnoaaGreatDoor

/-
  The types that the laws of this seat speak of, and the helpers over them: printed by a program (wip/tools/gen.py). No condition.
-/


namespace Go.Proofs.YtkcilmkienlnoaaGreatDoor
namespace A
set_option linter.unusedVariables false
set_option linter.unusedSimpArgs false
set_option maxRecDepth 100000

structure TFile where
  Path : List UInt8
  Source : List UInt8
  Version : Int
def TFile.enc (s : TFile) : List AV := [.str s.Path, .str s.Source, .int .i64 s.Version]
@[simp] theorem TFile.len (s : TFile) : s.enc.length = 3 := (rfl)
@[simp] theorem TFile.all (s : TFile) : s.enc.take 3 = s.enc := (rfl)
@[simp] theorem TFile.g0 (s : TFile) (K : AV → Prop) : getW s.enc 0 K = K (.str s.Path) := by simp [TFile.enc]
@[simp] theorem TFile.g1 (s : TFile) (K : AV → Prop) : getW s.enc 1 K = K (.str s.Source) := by simp [TFile.enc]
@[simp] theorem TFile.g2 (s : TFile) (K : AV → Prop) : getW s.enc 2 K = K (.int .i64 s.Version) := by simp [TFile.enc]
theorem TFile.cells (s : TFile) : ∀ a, a ∈ s.enc → a.cell = true := by simp [TFile.enc]
def TFile.sz (s : TFile) : Nat := s.Path.length + s.Source.length
def TFile.ok (s : TFile) : Prop := s.Path.length ≤ mx ∧ s.Source.length ≤ mx
def TFile.con (s : TFile) : TFile := s
theorem TFile.sz_con (s : TFile) : s.con.sz = s.sz := rfl
theorem TFile.sh : ∀ (n : Nat) (row : List AV), ShC Tryz.prog n 87 row → ∃ s : TFile, row = s.enc ∧ s.ok := by
  intro n row h
  obtain ⟨m, hl, hf⟩ := sh_fields (l := [(9, 0), (9, 1), (3, 2)]) (by kernel_rfl) h
  have hl' : row.length = 3 := hl.trans (by kernel_rfl)
  match row, hl' with
  | [x0, x1, x2], _ =>
    have h0 := hf (9, 0) (by simp)
    rw [show Tryz.prog.cellsOf 9 = 1 by kernel_rfl] at h0
    obtain ⟨v0, rfl, k0⟩ := sh_str (t := 9) (by kernel_rfl) (show ShC Tryz.prog m 9 [x0] from h0)
    have h1 := hf (9, 1) (by simp)
    rw [show Tryz.prog.cellsOf 9 = 1 by kernel_rfl] at h1
    obtain ⟨v1, rfl, k1⟩ := sh_str (t := 9) (by kernel_rfl) (show ShC Tryz.prog m 9 [x1] from h1)
    have h2 := hf (3, 2) (by simp)
    rw [show Tryz.prog.cellsOf 3 = 1 by kernel_rfl] at h2
    obtain ⟨v2, rfl, _⟩ := sh_int (k := .i64) (t := 3) (by kernel_rfl) (show ShC Tryz.prog m 3 [x2] from h2)
    exact ⟨⟨v0, v1, v2⟩, rfl, ⟨k0, k1⟩⟩
theorem TFile.sz_fn {s : TFile} (hs : s.ok) {left : Int} (hl : Room left) : Fnc Tryz.prog 52 [.agg s.enc, .int .i64 left] (.int .i64 (szOf s.sz left)) := by
  unfold TFile.ok at hs
  have hr := hl.2
  refine fn_of c52 (by simp [F52]) fun c => ?_
  unfold F52
  simp
  rw [szOf_wrap hs.1 hl]
  refine ⟨fun h => fin_plain ⟨by rw [szOf_neg (by simp only [TFile.sz]; omega)], rfl⟩, fun h => ?_⟩
  rw [szOf_wrap hs.2 ⟨by omega, by omega⟩]
  refine ⟨fun h => fin_plain ⟨by rw [szOf_neg (by simp only [TFile.sz]; omega)], rfl⟩, fun h => ?_⟩
  have hz : s.sz = s.Path.length + s.Source.length := rfl
  have e : szOf s.sz left = left - (s.Path.length : Int) - (s.Source.length : Int) := by
    unfold szOf
    rw [if_pos (by omega)]
    omega
  exact fin_plain ⟨by rw [e], rfl⟩
theorem TFile.to_fn {s : TFile} (h : s.sz ≤ 1048576) : Tr Tryz.prog 64 [.agg s.enc] fun _ r => ∃ b : TFile, r = .agg b.enc ∧ b.con = s.con := by
  simp only [TFile.sz] at h
  intro c
  refine con_of c64 (by simp [F64]) ?_
  unfold F64
  simp [putA]
  refine fin_plain ⟨rfl, ⟨⟨s.Path, s.Source, s.Version⟩, rfl, ?_⟩, from_agg ?_⟩
  · rfl
  · simp
theorem TFile.eq_fn {a b : TFile} (h : a.sz ≤ 1099511627776) (he : a.con = b.con) : Fnc Tryz.prog 80 [.agg a.enc, .agg b.enc] (.bool true) := by
  simp only [TFile.sz] at h
  have e0 : a.Path = b.Path := (congrArg TFile.Path he : a.con.Path = b.con.Path)
  have e1 : a.Source = b.Source := (congrArg TFile.Source he : a.con.Source = b.con.Source)
  have e2 : a.Version = b.Version := (congrArg TFile.Version he : a.con.Version = b.con.Version)
  refine fn_of c80 (by simp [F80]) fun c => ?_
  unfold F80
  simp [e0, e1, e2]
  exact fin_plain ⟨rfl, rfl⟩
def szFileS (s : SL TFile) : Nat := s.list.length + szL TFile.sz s.list
def okFileS (s : SL TFile) : Prop := s.list.length ≤ mx ∧ ∀ x, x ∈ s.list → TFile.ok x
theorem szFileS_con {s t : SL TFile} (h : s.list.map TFile.con = t.list.map TFile.con) : szFileS s = szFileS t := by
  unfold szFileS
  rw [← szL_map (con := TFile.con) TFile.sz_con s.list, ← szL_map (con := TFile.con) TFile.sz_con t.list, h]
  have := congrArg List.length h; simp at this; rw [this]
theorem shFileS {n : Nat} {a : AV} (h : ShC Tryz.prog n 22 [a]) : ∃ s : SL TFile, a = s.av 3 TFile.enc ∧ okFileS s := by
  obtain ⟨s, h1, h2, h3⟩ := sh_slc (P := Tryz.prog) (t := 22) (el := 87) (w := 3) (enc := TFile.enc) (ok := TFile.ok) (by kernel_rfl) (by kernel_rfl) (TFile.sh) h
  exact ⟨s, h1, h2, h3⟩
theorem szFileS_fn {s : SL TFile} (hs : okFileS s) {left : Int} (hl : Room left) : Fnc Tryz.prog 11 [s.av 3 TFile.enc, .int .i64 left] (.int .i64 (szOf (szFileS s) left)) :=
  szS_fn (g := 52) c11 (fun _ => rfl) hs.1 hl fun x hx left hl => TFile.sz_fn (hs.2 x hx) hl
theorem toFileS_fn {s : SL TFile} (h : szFileS s ≤ 1048576) : Tr Tryz.prog 22 [s.av 3 TFile.enc] fun _ r => ∃ b : SL TFile, r = b.av 3 TFile.enc ∧ b.list.map TFile.con = s.list.map TFile.con := by
  unfold szFileS at h
  exact toS_fn (g := 64) (z := [.str [], .str [], .int .i64 0]) (bytes := 40) c22 rfl (fun _ => rfl) (fun x => TFile.cells x) (by omega) (by omega) fun x hx => TFile.to_fn (by have := szL_mem (sz := TFile.sz) hx; omega)
theorem eqFileS_fn {s t : SL TFile} (h : szFileS s ≤ 1099511627776) (he : s.list.map TFile.con = t.list.map TFile.con) : Fnc Tryz.prog 34 [s.av 3 TFile.enc, t.av 3 TFile.enc] (.bool true) := by
  unfold szFileS at h
  exact eqS_fn (g := 80) (con := TFile.con) c34 (fun _ => rfl) (by unfold mx; omega) he fun x hx y hxy => TFile.eq_fn (by have := szL_mem (sz := TFile.sz) hx; omega) hxy
def szIntS (s : SL Int) : Nat := s.list.length
def okIntS (s : SL Int) : Prop := s.list.length ≤ mx ∧ ∀ x, x ∈ s.list → IOk .i64 x
theorem shIntS {n : Nat} {a : AV} (h : ShC Tryz.prog n 62 [a]) : ∃ s : SL Int, a = s.av 1 encI ∧ okIntS s := by
  obtain ⟨s, h1, h2, h3⟩ := sh_slc (P := Tryz.prog) (t := 62) (el := 3) (w := 1) (enc := encI) (ok := fun x => IOk .i64 x) (by kernel_rfl) (by kernel_rfl) (fun n row h => by obtain ⟨i, h1, h2⟩ := sh_int1 (k := .i64) (P := Tryz.prog) (t := 3) (by kernel_rfl) h; exact ⟨i, h1, h2⟩) h
  exact ⟨s, h1, h2, h3⟩
theorem szIntS_fn {s : SL Int} (hs : okIntS s) {left : Int} (hl : Room left) : Fnc Tryz.prog 93 [s.av 1 encI, .int .i64 left] (.int .i64 (szOf (szIntS s) left)) := szP_fn c93 hs.1 hl
theorem toIntS_fn {s : SL Int} (h : szIntS s ≤ 1048576) : Tr Tryz.prog 99 [s.av 1 encI] fun _ r => ∃ t, r = (SL.mk t s.list).av 1 encI := by
  unfold szIntS at h
  exact toP_fn (v := fun n => .int .i64 n) (z := .int .i64 0) (bytes := 8) c99 (fun _ => rfl) (fun _ _ => by simp) (fun _ _ => rfl) (by omega) (by omega)
theorem eqIntS_fn {s t : SL Int} (h : szIntS s ≤ 1099511627776) (he : s.list = t.list) : Fnc Tryz.prog 109 [s.av 1 encI, t.av 1 encI] (.bool true) := by
  unfold szIntS at h
  exact eqP_fn (v := fun n => .int .i64 n) c109 (fun x K => by simp) (by unfold mx; omega) he
structure TLine where
  Seq : Int
  Owner : Int
  Version : Int
  Words : SL Int
def TLine.enc (s : TLine) : List AV := [.int .i64 s.Seq, .int .i64 s.Owner, .int .i64 s.Version, s.Words.av 1 encI]
@[simp] theorem TLine.len (s : TLine) : s.enc.length = 4 := (rfl)
@[simp] theorem TLine.all (s : TLine) : s.enc.take 4 = s.enc := (rfl)
@[simp] theorem TLine.g0 (s : TLine) (K : AV → Prop) : getW s.enc 0 K = K (.int .i64 s.Seq) := by simp [TLine.enc]
@[simp] theorem TLine.g1 (s : TLine) (K : AV → Prop) : getW s.enc 1 K = K (.int .i64 s.Owner) := by simp [TLine.enc]
@[simp] theorem TLine.g2 (s : TLine) (K : AV → Prop) : getW s.enc 2 K = K (.int .i64 s.Version) := by simp [TLine.enc]
@[simp] theorem TLine.g3 (s : TLine) (K : AV → Prop) : getW s.enc 3 K = K (s.Words.av 1 encI) := by simp [TLine.enc]
theorem TLine.cells (s : TLine) : ∀ a, a ∈ s.enc → a.cell = true := by simp [TLine.enc]
def TLine.sz (s : TLine) : Nat := (szIntS s.Words)
def TLine.ok (s : TLine) : Prop := okIntS s.Words
def TLine.con (s : TLine) : TLine := { s with Words := s.Words.pcon }
theorem TLine.sz_con (s : TLine) : s.con.sz = s.sz := by
  simp [TLine.sz, TLine.con, szIntS]
theorem TLine.sh : ∀ (n : Nat) (row : List AV), ShC Tryz.prog n 89 row → ∃ s : TLine, row = s.enc ∧ s.ok := by
  intro n row h
  obtain ⟨m, hl, hf⟩ := sh_fields (l := [(3, 0), (3, 1), (3, 2), (62, 3)]) (by kernel_rfl) h
  have hl' : row.length = 4 := hl.trans (by kernel_rfl)
  match row, hl' with
  | [x0, x1, x2, x3], _ =>
    have h0 := hf (3, 0) (by simp)
    rw [show Tryz.prog.cellsOf 3 = 1 by kernel_rfl] at h0
    obtain ⟨v0, rfl, _⟩ := sh_int (k := .i64) (t := 3) (by kernel_rfl) (show ShC Tryz.prog m 3 [x0] from h0)
    have h1 := hf (3, 1) (by simp)
    rw [show Tryz.prog.cellsOf 3 = 1 by kernel_rfl] at h1
    obtain ⟨v1, rfl, _⟩ := sh_int (k := .i64) (t := 3) (by kernel_rfl) (show ShC Tryz.prog m 3 [x1] from h1)
    have h2 := hf (3, 2) (by simp)
    rw [show Tryz.prog.cellsOf 3 = 1 by kernel_rfl] at h2
    obtain ⟨v2, rfl, _⟩ := sh_int (k := .i64) (t := 3) (by kernel_rfl) (show ShC Tryz.prog m 3 [x2] from h2)
    have h3 := hf (62, 3) (by simp)
    rw [show Tryz.prog.cellsOf 62 = 1 by kernel_rfl] at h3
    obtain ⟨v3, rfl, k3⟩ := shIntS (show ShC Tryz.prog m 62 [x3] from h3)
    exact ⟨⟨v0, v1, v2, v3⟩, rfl, k3⟩
theorem TLine.sz_fn {s : TLine} (hs : s.ok) {left : Int} (hl : Room left) : Fnc Tryz.prog 53 [.agg s.enc, .int .i64 left] (.int .i64 (szOf s.sz left)) := by
  unfold TLine.ok at hs
  have hr := hl.2
  refine fn_of c53 (by simp [F53]) fun c => ?_
  unfold F53
  simp
  refine call_fn0 (szIntS_fn hs hl) .int fun _ _ => ?_
  simp
  refine ⟨fun h => fin_plain ⟨by have := szOf_lt h; rw [szOf_neg (by simp only [TLine.sz]; omega)], rfl⟩, fun h => ?_⟩
  obtain ⟨h0, k0⟩ := szOf_ge h
  rw [h0]
  have hz : s.sz = (szIntS s.Words) := rfl
  have e : szOf s.sz left = left - ((szIntS s.Words) : Int) := by
    unfold szOf
    rw [if_pos (by omega)]
    omega
  exact fin_plain ⟨by rw [e], rfl⟩
theorem TLine.to_fn {s : TLine} (h : s.sz ≤ 1048576) : Tr Tryz.prog 65 [.agg s.enc] fun _ r => ∃ b : TLine, r = .agg b.enc ∧ b.con = s.con := by
  simp only [TLine.sz] at h
  intro c
  refine con_of c65 (by simp [F65]) ?_
  unfold F65
  simp [putA]
  refine call_tree0 (toIntS_fn (by omega)) fun r3 c3 hc3 ⟨t3, e3⟩ f3 => ?_
  subst e3
  simp [putA]
  refine fin_plain ⟨rfl, ⟨⟨s.Seq, s.Owner, s.Version, .mk t3 s.Words.list⟩, rfl, ?_⟩, from_agg ?_⟩
  · simp [TLine.con, SL.con, SL.pcon]
  · simp
    exact f3.mono (by omega)
theorem TLine.eq_fn {a b : TLine} (h : a.sz ≤ 1099511627776) (he : a.con = b.con) : Fnc Tryz.prog 81 [.agg a.enc, .agg b.enc] (.bool true) := by
  simp only [TLine.sz] at h
  have e0 : a.Seq = b.Seq := (congrArg TLine.Seq he : a.con.Seq = b.con.Seq)
  have e1 : a.Owner = b.Owner := (congrArg TLine.Owner he : a.con.Owner = b.con.Owner)
  have e2 : a.Version = b.Version := (congrArg TLine.Version he : a.con.Version = b.con.Version)
  have e3 : a.Words.list = b.Words.list := congrArg (fun s => s.Words.list) he
  refine fn_of c81 (by simp [F81]) fun c => ?_
  unfold F81
  simp [e0, e1, e2]
  refine call_fn0 (eqIntS_fn (by omega) e3) .bool fun _ _ => ?_
  simp [e0, e1, e2]
  exact fin_plain ⟨rfl, rfl⟩
def szLineS (s : SL TLine) : Nat := s.list.length + szL TLine.sz s.list
def okLineS (s : SL TLine) : Prop := s.list.length ≤ mx ∧ ∀ x, x ∈ s.list → TLine.ok x
theorem szLineS_con {s t : SL TLine} (h : s.list.map TLine.con = t.list.map TLine.con) : szLineS s = szLineS t := by
  unfold szLineS
  rw [← szL_map (con := TLine.con) TLine.sz_con s.list, ← szL_map (con := TLine.con) TLine.sz_con t.list, h]
  have := congrArg List.length h; simp at this; rw [this]
theorem shLineS {n : Nat} {a : AV} (h : ShC Tryz.prog n 23 [a]) : ∃ s : SL TLine, a = s.av 4 TLine.enc ∧ okLineS s := by
  obtain ⟨s, h1, h2, h3⟩ := sh_slc (P := Tryz.prog) (t := 23) (el := 89) (w := 4) (enc := TLine.enc) (ok := TLine.ok) (by kernel_rfl) (by kernel_rfl) (TLine.sh) h
  exact ⟨s, h1, h2, h3⟩
theorem szLineS_fn {s : SL TLine} (hs : okLineS s) {left : Int} (hl : Room left) : Fnc Tryz.prog 12 [s.av 4 TLine.enc, .int .i64 left] (.int .i64 (szOf (szLineS s) left)) :=
  szS_fn (g := 53) c12 (fun _ => rfl) hs.1 hl fun x hx left hl => TLine.sz_fn (hs.2 x hx) hl
theorem toLineS_fn {s : SL TLine} (h : szLineS s ≤ 1048576) : Tr Tryz.prog 23 [s.av 4 TLine.enc] fun _ r => ∃ b : SL TLine, r = b.av 4 TLine.enc ∧ b.list.map TLine.con = s.list.map TLine.con := by
  unfold szLineS at h
  exact toS_fn (g := 65) (z := [.int .i64 0, .int .i64 0, .int .i64 0, .nsl]) (bytes := 48) c23 rfl (fun _ => rfl) (fun x => TLine.cells x) (by omega) (by omega) fun x hx => TLine.to_fn (by have := szL_mem (sz := TLine.sz) hx; omega)
theorem eqLineS_fn {s t : SL TLine} (h : szLineS s ≤ 1099511627776) (he : s.list.map TLine.con = t.list.map TLine.con) : Fnc Tryz.prog 35 [s.av 4 TLine.enc, t.av 4 TLine.enc] (.bool true) := by
  unfold szLineS at h
  exact eqS_fn (g := 81) (con := TLine.con) c35 (fun _ => rfl) (by unfold mx; omega) he fun x hx y hxy => TLine.eq_fn (by have := szL_mem (sz := TLine.sz) hx; omega) hxy
structure TSession where
  Id : List UInt8
  Data : List UInt8
  Holder : Int
  At : Int
def TSession.enc (s : TSession) : List AV := [.str s.Id, .str s.Data, .int .i64 s.Holder, .int .i64 s.At]
@[simp] theorem TSession.len (s : TSession) : s.enc.length = 4 := (rfl)
@[simp] theorem TSession.all (s : TSession) : s.enc.take 4 = s.enc := (rfl)
@[simp] theorem TSession.g0 (s : TSession) (K : AV → Prop) : getW s.enc 0 K = K (.str s.Id) := by simp [TSession.enc]
@[simp] theorem TSession.g1 (s : TSession) (K : AV → Prop) : getW s.enc 1 K = K (.str s.Data) := by simp [TSession.enc]
@[simp] theorem TSession.g2 (s : TSession) (K : AV → Prop) : getW s.enc 2 K = K (.int .i64 s.Holder) := by simp [TSession.enc]
@[simp] theorem TSession.g3 (s : TSession) (K : AV → Prop) : getW s.enc 3 K = K (.int .i64 s.At) := by simp [TSession.enc]
theorem TSession.cells (s : TSession) : ∀ a, a ∈ s.enc → a.cell = true := by simp [TSession.enc]
def TSession.sz (s : TSession) : Nat := s.Id.length + s.Data.length
def TSession.ok (s : TSession) : Prop := s.Id.length ≤ mx ∧ s.Data.length ≤ mx
def TSession.con (s : TSession) : TSession := s
theorem TSession.sz_con (s : TSession) : s.con.sz = s.sz := rfl
theorem TSession.sh : ∀ (n : Nat) (row : List AV), ShC Tryz.prog n 92 row → ∃ s : TSession, row = s.enc ∧ s.ok := by
  intro n row h
  obtain ⟨m, hl, hf⟩ := sh_fields (l := [(9, 0), (9, 1), (3, 2), (3, 3)]) (by kernel_rfl) h
  have hl' : row.length = 4 := hl.trans (by kernel_rfl)
  match row, hl' with
  | [x0, x1, x2, x3], _ =>
    have h0 := hf (9, 0) (by simp)
    rw [show Tryz.prog.cellsOf 9 = 1 by kernel_rfl] at h0
    obtain ⟨v0, rfl, k0⟩ := sh_str (t := 9) (by kernel_rfl) (show ShC Tryz.prog m 9 [x0] from h0)
    have h1 := hf (9, 1) (by simp)
    rw [show Tryz.prog.cellsOf 9 = 1 by kernel_rfl] at h1
    obtain ⟨v1, rfl, k1⟩ := sh_str (t := 9) (by kernel_rfl) (show ShC Tryz.prog m 9 [x1] from h1)
    have h2 := hf (3, 2) (by simp)
    rw [show Tryz.prog.cellsOf 3 = 1 by kernel_rfl] at h2
    obtain ⟨v2, rfl, _⟩ := sh_int (k := .i64) (t := 3) (by kernel_rfl) (show ShC Tryz.prog m 3 [x2] from h2)
    have h3 := hf (3, 3) (by simp)
    rw [show Tryz.prog.cellsOf 3 = 1 by kernel_rfl] at h3
    obtain ⟨v3, rfl, _⟩ := sh_int (k := .i64) (t := 3) (by kernel_rfl) (show ShC Tryz.prog m 3 [x3] from h3)
    exact ⟨⟨v0, v1, v2, v3⟩, rfl, ⟨k0, k1⟩⟩
theorem TSession.sz_fn {s : TSession} (hs : s.ok) {left : Int} (hl : Room left) : Fnc Tryz.prog 54 [.agg s.enc, .int .i64 left] (.int .i64 (szOf s.sz left)) := by
  unfold TSession.ok at hs
  have hr := hl.2
  refine fn_of c54 (by simp [F54]) fun c => ?_
  unfold F54
  simp
  rw [szOf_wrap hs.1 hl]
  refine ⟨fun h => fin_plain ⟨by rw [szOf_neg (by simp only [TSession.sz]; omega)], rfl⟩, fun h => ?_⟩
  rw [szOf_wrap hs.2 ⟨by omega, by omega⟩]
  refine ⟨fun h => fin_plain ⟨by rw [szOf_neg (by simp only [TSession.sz]; omega)], rfl⟩, fun h => ?_⟩
  have hz : s.sz = s.Id.length + s.Data.length := rfl
  have e : szOf s.sz left = left - (s.Id.length : Int) - (s.Data.length : Int) := by
    unfold szOf
    rw [if_pos (by omega)]
    omega
  exact fin_plain ⟨by rw [e], rfl⟩
theorem TSession.to_fn {s : TSession} (h : s.sz ≤ 1048576) : Tr Tryz.prog 66 [.agg s.enc] fun _ r => ∃ b : TSession, r = .agg b.enc ∧ b.con = s.con := by
  simp only [TSession.sz] at h
  intro c
  refine con_of c66 (by simp [F66]) ?_
  unfold F66
  simp [putA]
  refine fin_plain ⟨rfl, ⟨⟨s.Id, s.Data, s.Holder, s.At⟩, rfl, ?_⟩, from_agg ?_⟩
  · rfl
  · simp
theorem TSession.eq_fn {a b : TSession} (h : a.sz ≤ 1099511627776) (he : a.con = b.con) : Fnc Tryz.prog 82 [.agg a.enc, .agg b.enc] (.bool true) := by
  simp only [TSession.sz] at h
  have e0 : a.Id = b.Id := (congrArg TSession.Id he : a.con.Id = b.con.Id)
  have e1 : a.Data = b.Data := (congrArg TSession.Data he : a.con.Data = b.con.Data)
  have e2 : a.Holder = b.Holder := (congrArg TSession.Holder he : a.con.Holder = b.con.Holder)
  have e3 : a.At = b.At := (congrArg TSession.At he : a.con.At = b.con.At)
  refine fn_of c82 (by simp [F82]) fun c => ?_
  unfold F82
  simp [e0, e1, e2, e3]
  exact fin_plain ⟨rfl, rfl⟩
def szSessionS (s : SL TSession) : Nat := s.list.length + szL TSession.sz s.list
def okSessionS (s : SL TSession) : Prop := s.list.length ≤ mx ∧ ∀ x, x ∈ s.list → TSession.ok x
theorem szSessionS_con {s t : SL TSession} (h : s.list.map TSession.con = t.list.map TSession.con) : szSessionS s = szSessionS t := by
  unfold szSessionS
  rw [← szL_map (con := TSession.con) TSession.sz_con s.list, ← szL_map (con := TSession.con) TSession.sz_con t.list, h]
  have := congrArg List.length h; simp at this; rw [this]
theorem shSessionS {n : Nat} {a : AV} (h : ShC Tryz.prog n 24 [a]) : ∃ s : SL TSession, a = s.av 4 TSession.enc ∧ okSessionS s := by
  obtain ⟨s, h1, h2, h3⟩ := sh_slc (P := Tryz.prog) (t := 24) (el := 92) (w := 4) (enc := TSession.enc) (ok := TSession.ok) (by kernel_rfl) (by kernel_rfl) (TSession.sh) h
  exact ⟨s, h1, h2, h3⟩
theorem szSessionS_fn {s : SL TSession} (hs : okSessionS s) {left : Int} (hl : Room left) : Fnc Tryz.prog 13 [s.av 4 TSession.enc, .int .i64 left] (.int .i64 (szOf (szSessionS s) left)) :=
  szS_fn (g := 54) c13 (fun _ => rfl) hs.1 hl fun x hx left hl => TSession.sz_fn (hs.2 x hx) hl
theorem toSessionS_fn {s : SL TSession} (h : szSessionS s ≤ 1048576) : Tr Tryz.prog 24 [s.av 4 TSession.enc] fun _ r => ∃ b : SL TSession, r = b.av 4 TSession.enc ∧ b.list.map TSession.con = s.list.map TSession.con := by
  unfold szSessionS at h
  exact toS_fn (g := 66) (z := [.str [], .str [], .int .i64 0, .int .i64 0]) (bytes := 48) c24 rfl (fun _ => rfl) (fun x => TSession.cells x) (by omega) (by omega) fun x hx => TSession.to_fn (by have := szL_mem (sz := TSession.sz) hx; omega)
theorem eqSessionS_fn {s t : SL TSession} (h : szSessionS s ≤ 1099511627776) (he : s.list.map TSession.con = t.list.map TSession.con) : Fnc Tryz.prog 36 [s.av 4 TSession.enc, t.av 4 TSession.enc] (.bool true) := by
  unfold szSessionS at h
  exact eqS_fn (g := 82) (con := TSession.con) c36 (fun _ => rfl) (by unfold mx; omega) he fun x hx y hxy => TSession.eq_fn (by have := szL_mem (sz := TSession.sz) hx; omega) hxy
structure TPair where
  Name : List UInt8
  Value : List UInt8
def TPair.enc (s : TPair) : List AV := [.str s.Name, .str s.Value]
@[simp] theorem TPair.len (s : TPair) : s.enc.length = 2 := (rfl)
@[simp] theorem TPair.all (s : TPair) : s.enc.take 2 = s.enc := (rfl)
@[simp] theorem TPair.g0 (s : TPair) (K : AV → Prop) : getW s.enc 0 K = K (.str s.Name) := by simp [TPair.enc]
@[simp] theorem TPair.g1 (s : TPair) (K : AV → Prop) : getW s.enc 1 K = K (.str s.Value) := by simp [TPair.enc]
theorem TPair.cells (s : TPair) : ∀ a, a ∈ s.enc → a.cell = true := by simp [TPair.enc]
def TPair.sz (s : TPair) : Nat := s.Name.length + s.Value.length
def TPair.ok (s : TPair) : Prop := s.Name.length ≤ mx ∧ s.Value.length ≤ mx
def TPair.con (s : TPair) : TPair := s
theorem TPair.sz_con (s : TPair) : s.con.sz = s.sz := rfl
theorem TPair.sh : ∀ (n : Nat) (row : List AV), ShC Tryz.prog n 180 row → ∃ s : TPair, row = s.enc ∧ s.ok := by
  intro n row h
  obtain ⟨m, hl, hf⟩ := sh_fields (l := [(9, 0), (9, 1)]) (by kernel_rfl) h
  have hl' : row.length = 2 := hl.trans (by kernel_rfl)
  match row, hl' with
  | [x0, x1], _ =>
    have h0 := hf (9, 0) (by simp)
    rw [show Tryz.prog.cellsOf 9 = 1 by kernel_rfl] at h0
    obtain ⟨v0, rfl, k0⟩ := sh_str (t := 9) (by kernel_rfl) (show ShC Tryz.prog m 9 [x0] from h0)
    have h1 := hf (9, 1) (by simp)
    rw [show Tryz.prog.cellsOf 9 = 1 by kernel_rfl] at h1
    obtain ⟨v1, rfl, k1⟩ := sh_str (t := 9) (by kernel_rfl) (show ShC Tryz.prog m 9 [x1] from h1)
    exact ⟨⟨v0, v1⟩, rfl, ⟨k0, k1⟩⟩
theorem TPair.sz_fn {s : TPair} (hs : s.ok) {left : Int} (hl : Room left) : Fnc Tryz.prog 125 [.agg s.enc, .int .i64 left] (.int .i64 (szOf s.sz left)) := by
  unfold TPair.ok at hs
  have hr := hl.2
  refine fn_of c125 (by simp [F125]) fun c => ?_
  unfold F125
  simp
  rw [szOf_wrap hs.1 hl]
  refine ⟨fun h => fin_plain ⟨by rw [szOf_neg (by simp only [TPair.sz]; omega)], rfl⟩, fun h => ?_⟩
  rw [szOf_wrap hs.2 ⟨by omega, by omega⟩]
  refine ⟨fun h => fin_plain ⟨by rw [szOf_neg (by simp only [TPair.sz]; omega)], rfl⟩, fun h => ?_⟩
  have hz : s.sz = s.Name.length + s.Value.length := rfl
  have e : szOf s.sz left = left - (s.Name.length : Int) - (s.Value.length : Int) := by
    unfold szOf
    rw [if_pos (by omega)]
    omega
  exact fin_plain ⟨by rw [e], rfl⟩
theorem TPair.to_fn {s : TPair} (h : s.sz ≤ 1048576) : Tr Tryz.prog 129 [.agg s.enc] fun _ r => ∃ b : TPair, r = .agg b.enc ∧ b.con = s.con := by
  simp only [TPair.sz] at h
  intro c
  refine con_of c129 (by simp [F129]) ?_
  unfold F129
  simp [putA]
  refine fin_plain ⟨rfl, ⟨⟨s.Name, s.Value⟩, rfl, ?_⟩, from_agg ?_⟩
  · rfl
  · simp
theorem TPair.eq_fn {a b : TPair} (h : a.sz ≤ 1099511627776) (he : a.con = b.con) : Fnc Tryz.prog 136 [.agg a.enc, .agg b.enc] (.bool true) := by
  simp only [TPair.sz] at h
  have e0 : a.Name = b.Name := (congrArg TPair.Name he : a.con.Name = b.con.Name)
  have e1 : a.Value = b.Value := (congrArg TPair.Value he : a.con.Value = b.con.Value)
  refine fn_of c136 (by simp [F136]) fun c => ?_
  unfold F136
  simp [e0, e1]
  exact fin_plain ⟨rfl, rfl⟩
def szPairS (s : SL TPair) : Nat := s.list.length + szL TPair.sz s.list
def okPairS (s : SL TPair) : Prop := s.list.length ≤ mx ∧ ∀ x, x ∈ s.list → TPair.ok x
theorem szPairS_con {s t : SL TPair} (h : s.list.map TPair.con = t.list.map TPair.con) : szPairS s = szPairS t := by
  unfold szPairS
  rw [← szL_map (con := TPair.con) TPair.sz_con s.list, ← szL_map (con := TPair.con) TPair.sz_con t.list, h]
  have := congrArg List.length h; simp at this; rw [this]
theorem shPairS {n : Nat} {a : AV} (h : ShC Tryz.prog n 94 [a]) : ∃ s : SL TPair, a = s.av 2 TPair.enc ∧ okPairS s := by
  obtain ⟨s, h1, h2, h3⟩ := sh_slc (P := Tryz.prog) (t := 94) (el := 180) (w := 2) (enc := TPair.enc) (ok := TPair.ok) (by kernel_rfl) (by kernel_rfl) (TPair.sh) h
  exact ⟨s, h1, h2, h3⟩
theorem szPairS_fn {s : SL TPair} (hs : okPairS s) {left : Int} (hl : Room left) : Fnc Tryz.prog 112 [s.av 2 TPair.enc, .int .i64 left] (.int .i64 (szOf (szPairS s) left)) :=
  szS_fn (g := 125) c112 (fun _ => rfl) hs.1 hl fun x hx left hl => TPair.sz_fn (hs.2 x hx) hl
theorem toPairS_fn {s : SL TPair} (h : szPairS s ≤ 1048576) : Tr Tryz.prog 115 [s.av 2 TPair.enc] fun _ r => ∃ b : SL TPair, r = b.av 2 TPair.enc ∧ b.list.map TPair.con = s.list.map TPair.con := by
  unfold szPairS at h
  exact toS_fn (g := 129) (z := [.str [], .str []]) (bytes := 32) c115 rfl (fun _ => rfl) (fun x => TPair.cells x) (by omega) (by omega) fun x hx => TPair.to_fn (by have := szL_mem (sz := TPair.sz) hx; omega)
theorem eqPairS_fn {s t : SL TPair} (h : szPairS s ≤ 1099511627776) (he : s.list.map TPair.con = t.list.map TPair.con) : Fnc Tryz.prog 123 [s.av 2 TPair.enc, t.av 2 TPair.enc] (.bool true) := by
  unfold szPairS at h
  exact eqS_fn (g := 136) (con := TPair.con) c123 (fun _ => rfl) (by unfold mx; omega) he fun x hx y hxy => TPair.eq_fn (by have := szL_mem (sz := TPair.sz) hx; omega) hxy
structure TRequest where
  Path : List UInt8
  Query : SL TPair
  Cookies : SL TPair
def TRequest.enc (s : TRequest) : List AV := [.str s.Path, s.Query.av 2 TPair.enc, s.Cookies.av 2 TPair.enc]
@[simp] theorem TRequest.len (s : TRequest) : s.enc.length = 3 := (rfl)
@[simp] theorem TRequest.all (s : TRequest) : s.enc.take 3 = s.enc := (rfl)
@[simp] theorem TRequest.g0 (s : TRequest) (K : AV → Prop) : getW s.enc 0 K = K (.str s.Path) := by simp [TRequest.enc]
@[simp] theorem TRequest.g1 (s : TRequest) (K : AV → Prop) : getW s.enc 1 K = K (s.Query.av 2 TPair.enc) := by simp [TRequest.enc]
@[simp] theorem TRequest.g2 (s : TRequest) (K : AV → Prop) : getW s.enc 2 K = K (s.Cookies.av 2 TPair.enc) := by simp [TRequest.enc]
theorem TRequest.cells (s : TRequest) : ∀ a, a ∈ s.enc → a.cell = true := by simp [TRequest.enc]
def TRequest.sz (s : TRequest) : Nat := s.Path.length + (szPairS s.Query) + (szPairS s.Cookies)
def TRequest.ok (s : TRequest) : Prop := s.Path.length ≤ mx ∧ okPairS s.Query ∧ okPairS s.Cookies
def TRequest.con (s : TRequest) : TRequest := { s with Query := s.Query.con TPair.con, Cookies := s.Cookies.con TPair.con }
theorem TRequest.sz_con (s : TRequest) : s.con.sz = s.sz := by
  simp [TRequest.sz, TRequest.con, szPairS, szPairS, szL_map TPair.sz_con, szL_map TPair.sz_con]
theorem TRequest.sh : ∀ (n : Nat) (row : List AV), ShC Tryz.prog n 96 row → ∃ s : TRequest, row = s.enc ∧ s.ok := by
  intro n row h
  obtain ⟨m, hl, hf⟩ := sh_fields (l := [(9, 0), (94, 1), (94, 2)]) (by kernel_rfl) h
  have hl' : row.length = 3 := hl.trans (by kernel_rfl)
  match row, hl' with
  | [x0, x1, x2], _ =>
    have h0 := hf (9, 0) (by simp)
    rw [show Tryz.prog.cellsOf 9 = 1 by kernel_rfl] at h0
    obtain ⟨v0, rfl, k0⟩ := sh_str (t := 9) (by kernel_rfl) (show ShC Tryz.prog m 9 [x0] from h0)
    have h1 := hf (94, 1) (by simp)
    rw [show Tryz.prog.cellsOf 94 = 1 by kernel_rfl] at h1
    obtain ⟨v1, rfl, k1⟩ := shPairS (show ShC Tryz.prog m 94 [x1] from h1)
    have h2 := hf (94, 2) (by simp)
    rw [show Tryz.prog.cellsOf 94 = 1 by kernel_rfl] at h2
    obtain ⟨v2, rfl, k2⟩ := shPairS (show ShC Tryz.prog m 94 [x2] from h2)
    exact ⟨⟨v0, v1, v2⟩, rfl, ⟨k0, k1, k2⟩⟩
theorem TRequest.sz_fn {s : TRequest} (hs : s.ok) {left : Int} (hl : Room left) : Fnc Tryz.prog 94 [.agg s.enc, .int .i64 left] (.int .i64 (szOf s.sz left)) := by
  unfold TRequest.ok at hs
  have hr := hl.2
  refine fn_of c94 (by simp [F94]) fun c => ?_
  unfold F94
  simp
  rw [szOf_wrap hs.1 hl]
  refine ⟨fun h => fin_plain ⟨by rw [szOf_neg (by simp only [TRequest.sz]; omega)], rfl⟩, fun h => ?_⟩
  refine call_fn0 (szPairS_fn hs.2.1 ⟨by omega, by omega⟩) .int fun _ _ => ?_
  simp
  refine ⟨fun h => fin_plain ⟨by have := szOf_lt h; rw [szOf_neg (by simp only [TRequest.sz]; omega)], rfl⟩, fun h => ?_⟩
  obtain ⟨h1, k1⟩ := szOf_ge h
  rw [h1]
  refine call_fn0 (szPairS_fn hs.2.2 ⟨by omega, by omega⟩) .int fun _ _ => ?_
  simp
  refine ⟨fun h => fin_plain ⟨by have := szOf_lt h; rw [szOf_neg (by simp only [TRequest.sz]; omega)], rfl⟩, fun h => ?_⟩
  obtain ⟨h2, k2⟩ := szOf_ge h
  rw [h2]
  have hz : s.sz = s.Path.length + (szPairS s.Query) + (szPairS s.Cookies) := rfl
  have e : szOf s.sz left = left - (s.Path.length : Int) - ((szPairS s.Query) : Int) - ((szPairS s.Cookies) : Int) := by
    unfold szOf
    rw [if_pos (by omega)]
    omega
  exact fin_plain ⟨by rw [e], rfl⟩
theorem TRequest.to_fn {s : TRequest} (h : s.sz ≤ 1048576) : Tr Tryz.prog 100 [.agg s.enc] fun _ r => ∃ b : TRequest, r = .agg b.enc ∧ b.con = s.con := by
  simp only [TRequest.sz] at h
  intro c
  refine con_of c100 (by simp [F100]) ?_
  unfold F100
  simp [putA]
  refine call_tree0 (toPairS_fn (by omega)) fun r1 c1 hc1 ⟨b1, e1, q1⟩ f1 => ?_
  subst e1
  simp [putA]
  refine call_tree0 (toPairS_fn (by omega)) fun r2 c2 hc2 ⟨b2, e2, q2⟩ f2 => ?_
  subst e2
  simp [putA]
  refine fin_plain ⟨rfl, ⟨⟨s.Path, b1, b2⟩, rfl, ?_⟩, from_agg ?_⟩
  · simp [TRequest.con, SL.con, SL.pcon, q1, q2]
  · simp
    exact ⟨f1.mono (by omega), f2.mono (by omega)⟩
theorem TRequest.eq_fn {a b : TRequest} (h : a.sz ≤ 1099511627776) (he : a.con = b.con) : Fnc Tryz.prog 110 [.agg a.enc, .agg b.enc] (.bool true) := by
  simp only [TRequest.sz] at h
  have e0 : a.Path = b.Path := (congrArg TRequest.Path he : a.con.Path = b.con.Path)
  have e1 : a.Query.list.map TPair.con = b.Query.list.map TPair.con := congrArg (fun s => s.Query.list) he
  have e2 : a.Cookies.list.map TPair.con = b.Cookies.list.map TPair.con := congrArg (fun s => s.Cookies.list) he
  refine fn_of c110 (by simp [F110]) fun c => ?_
  unfold F110
  simp [e0]
  refine call_fn0 (eqPairS_fn (by omega) e1) .bool fun _ _ => ?_
  simp [e0]
  refine call_fn0 (eqPairS_fn (by omega) e2) .bool fun _ _ => ?_
  simp [e0]
  exact fin_plain ⟨rfl, rfl⟩
structure TJob where
  Id : Int
  Request : TRequest
  Session : List UInt8
def TJob.enc (s : TJob) : List AV := [.int .i64 s.Id, .str s.Request.Path, s.Request.Query.av 2 TPair.enc, s.Request.Cookies.av 2 TPair.enc, .str s.Session]
@[simp] theorem TJob.len (s : TJob) : s.enc.length = 5 := (rfl)
@[simp] theorem TJob.all (s : TJob) : s.enc.take 5 = s.enc := (rfl)
@[simp] theorem TJob.g0 (s : TJob) (K : AV → Prop) : getW s.enc 0 K = K (.int .i64 s.Id) := by simp [TJob.enc]
@[simp] theorem TJob.g1 (s : TJob) (K : AV → Prop) : getW s.enc 1 K = K (.str s.Request.Path) := by simp [TJob.enc]
@[simp] theorem TJob.g2 (s : TJob) (K : AV → Prop) : getW s.enc 2 K = K (s.Request.Query.av 2 TPair.enc) := by simp [TJob.enc]
@[simp] theorem TJob.g3 (s : TJob) (K : AV → Prop) : getW s.enc 3 K = K (s.Request.Cookies.av 2 TPair.enc) := by simp [TJob.enc]
@[simp] theorem TJob.g4 (s : TJob) (K : AV → Prop) : getW s.enc 4 K = K (.str s.Session) := by simp [TJob.enc]
@[simp] theorem TJob.seg1 (s : TJob) : (s.enc.drop 1).take 3 = s.Request.enc := (rfl)
theorem TJob.cells (s : TJob) : ∀ a, a ∈ s.enc → a.cell = true := by simp [TJob.enc]
def TJob.sz (s : TJob) : Nat := s.Request.sz + s.Session.length
def TJob.ok (s : TJob) : Prop := s.Request.ok ∧ s.Session.length ≤ mx
def TJob.con (s : TJob) : TJob := { s with Request := s.Request.con }
theorem TJob.sz_con (s : TJob) : s.con.sz = s.sz := by
  simp [TJob.sz, TJob.con, TRequest.sz_con]
theorem TJob.sh : ∀ (n : Nat) (row : List AV), ShC Tryz.prog n 98 row → ∃ s : TJob, row = s.enc ∧ s.ok := by
  intro n row h
  obtain ⟨m, hl, hf⟩ := sh_fields (l := [(3, 0), (96, 1), (9, 4)]) (by kernel_rfl) h
  have hl' : row.length = 5 := hl.trans (by kernel_rfl)
  match row, hl' with
  | [x0, x1, x2, x3, x4], _ =>
    have h0 := hf (3, 0) (by simp)
    rw [show Tryz.prog.cellsOf 3 = 1 by kernel_rfl] at h0
    obtain ⟨v0, rfl, _⟩ := sh_int (k := .i64) (t := 3) (by kernel_rfl) (show ShC Tryz.prog m 3 [x0] from h0)
    have h1 := hf (96, 1) (by simp)
    rw [show Tryz.prog.cellsOf 96 = 3 by kernel_rfl] at h1
    obtain ⟨v1, u1, k1⟩ := TRequest.sh m _ (show ShC Tryz.prog m 96 [x1, x2, x3] from h1)
    simp only [TRequest.enc, List.cons.injEq, and_true] at u1
    obtain ⟨rfl, rfl, rfl⟩ := u1
    have h2 := hf (9, 4) (by simp)
    rw [show Tryz.prog.cellsOf 9 = 1 by kernel_rfl] at h2
    obtain ⟨v2, rfl, k2⟩ := sh_str (t := 9) (by kernel_rfl) (show ShC Tryz.prog m 9 [x4] from h2)
    exact ⟨⟨v0, v1, v2⟩, rfl, ⟨k1, k2⟩⟩
theorem TJob.sz_fn {s : TJob} (hs : s.ok) {left : Int} (hl : Room left) : Fnc Tryz.prog 55 [.agg s.enc, .int .i64 left] (.int .i64 (szOf s.sz left)) := by
  unfold TJob.ok at hs
  have hr := hl.2
  refine fn_of c55 (by simp [F55]) fun c => ?_
  unfold F55
  simp
  refine call_fn0 (TRequest.sz_fn hs.1 hl) .int fun _ _ => ?_
  simp
  refine ⟨fun h => fin_plain ⟨by have := szOf_lt h; rw [szOf_neg (by simp only [TJob.sz]; omega)], rfl⟩, fun h => ?_⟩
  obtain ⟨h0, k0⟩ := szOf_ge h
  rw [h0]
  rw [szOf_wrap hs.2 ⟨by omega, by omega⟩]
  refine ⟨fun h => fin_plain ⟨by rw [szOf_neg (by simp only [TJob.sz]; omega)], rfl⟩, fun h => ?_⟩
  have hz : s.sz = s.Request.sz + s.Session.length := rfl
  have e : szOf s.sz left = left - (s.Request.sz : Int) - (s.Session.length : Int) := by
    unfold szOf
    rw [if_pos (by omega)]
    omega
  exact fin_plain ⟨by rw [e], rfl⟩
theorem TJob.to_fn {s : TJob} (h : s.sz ≤ 1048576) : Tr Tryz.prog 67 [.agg s.enc] fun _ r => ∃ b : TJob, r = .agg b.enc ∧ b.con = s.con := by
  simp only [TJob.sz] at h
  intro c
  refine con_of c67 (by simp [F67]) ?_
  unfold F67
  simp [putA, TRequest.enc]
  refine call_tree0 (TRequest.to_fn (by omega)) fun r1 c1 hc1 ⟨b1, e1, q1⟩ f1 => ?_
  subst e1
  simp [putA, TRequest.enc]
  refine fin_plain ⟨rfl, ⟨⟨s.Id, b1, s.Session⟩, rfl, ?_⟩, from_agg ?_⟩
  · simp [TJob.con, SL.con, SL.pcon, q1]
  · simp
    exact ⟨(from_agg_mem f1 _ (by simp [TRequest.enc])).mono (by omega), (from_agg_mem f1 _ (by simp [TRequest.enc])).mono (by omega)⟩
theorem TJob.eq_fn {a b : TJob} (h : a.sz ≤ 1099511627776) (he : a.con = b.con) : Fnc Tryz.prog 83 [.agg a.enc, .agg b.enc] (.bool true) := by
  simp only [TJob.sz] at h
  have e0 : a.Id = b.Id := (congrArg TJob.Id he : a.con.Id = b.con.Id)
  have e1 : a.Request.con = b.Request.con := congrArg TJob.Request he
  have e2 : a.Session = b.Session := (congrArg TJob.Session he : a.con.Session = b.con.Session)
  refine fn_of c83 (by simp [F83]) fun c => ?_
  unfold F83
  simp [e0, e2]
  refine call_fn0 (TRequest.eq_fn (by omega) e1) .bool fun _ _ => ?_
  simp [e0, e2]
  exact fin_plain ⟨rfl, rfl⟩
def szJobS (s : SL TJob) : Nat := s.list.length + szL TJob.sz s.list
def okJobS (s : SL TJob) : Prop := s.list.length ≤ mx ∧ ∀ x, x ∈ s.list → TJob.ok x
theorem szJobS_con {s t : SL TJob} (h : s.list.map TJob.con = t.list.map TJob.con) : szJobS s = szJobS t := by
  unfold szJobS
  rw [← szL_map (con := TJob.con) TJob.sz_con s.list, ← szL_map (con := TJob.con) TJob.sz_con t.list, h]
  have := congrArg List.length h; simp at this; rw [this]
theorem shJobS {n : Nat} {a : AV} (h : ShC Tryz.prog n 25 [a]) : ∃ s : SL TJob, a = s.av 5 TJob.enc ∧ okJobS s := by
  obtain ⟨s, h1, h2, h3⟩ := sh_slc (P := Tryz.prog) (t := 25) (el := 98) (w := 5) (enc := TJob.enc) (ok := TJob.ok) (by kernel_rfl) (by kernel_rfl) (TJob.sh) h
  exact ⟨s, h1, h2, h3⟩
theorem szJobS_fn {s : SL TJob} (hs : okJobS s) {left : Int} (hl : Room left) : Fnc Tryz.prog 14 [s.av 5 TJob.enc, .int .i64 left] (.int .i64 (szOf (szJobS s) left)) :=
  szS_fn (g := 55) c14 (fun _ => rfl) hs.1 hl fun x hx left hl => TJob.sz_fn (hs.2 x hx) hl
theorem toJobS_fn {s : SL TJob} (h : szJobS s ≤ 1048576) : Tr Tryz.prog 25 [s.av 5 TJob.enc] fun _ r => ∃ b : SL TJob, r = b.av 5 TJob.enc ∧ b.list.map TJob.con = s.list.map TJob.con := by
  unfold szJobS at h
  exact toS_fn (g := 67) (z := [.int .i64 0, .str [], .nsl, .nsl, .str []]) (bytes := 88) c25 rfl (fun _ => rfl) (fun x => TJob.cells x) (by omega) (by omega) fun x hx => TJob.to_fn (by have := szL_mem (sz := TJob.sz) hx; omega)
theorem eqJobS_fn {s t : SL TJob} (h : szJobS s ≤ 1099511627776) (he : s.list.map TJob.con = t.list.map TJob.con) : Fnc Tryz.prog 37 [s.av 5 TJob.enc, t.av 5 TJob.enc] (.bool true) := by
  unfold szJobS at h
  exact eqS_fn (g := 83) (con := TJob.con) c37 (fun _ => rfl) (by unfold mx; omega) he fun x hx y hxy => TJob.eq_fn (by have := szL_mem (sz := TJob.sz) hx; omega) hxy
structure TWorker where
  State : Int
  Job : TJob
  Data : List UInt8
  Files : SL TFile
  Served : Int
def TWorker.enc (s : TWorker) : List AV := [.int .i64 s.State, .int .i64 s.Job.Id, .str s.Job.Request.Path, s.Job.Request.Query.av 2 TPair.enc, s.Job.Request.Cookies.av 2 TPair.enc, .str s.Job.Session, .str s.Data, s.Files.av 3 TFile.enc, .int .i64 s.Served]
@[simp] theorem TWorker.len (s : TWorker) : s.enc.length = 9 := (rfl)
@[simp] theorem TWorker.all (s : TWorker) : s.enc.take 9 = s.enc := (rfl)
@[simp] theorem TWorker.g0 (s : TWorker) (K : AV → Prop) : getW s.enc 0 K = K (.int .i64 s.State) := by simp [TWorker.enc]
@[simp] theorem TWorker.g1 (s : TWorker) (K : AV → Prop) : getW s.enc 1 K = K (.int .i64 s.Job.Id) := by simp [TWorker.enc]
@[simp] theorem TWorker.g2 (s : TWorker) (K : AV → Prop) : getW s.enc 2 K = K (.str s.Job.Request.Path) := by simp [TWorker.enc]
@[simp] theorem TWorker.g3 (s : TWorker) (K : AV → Prop) : getW s.enc 3 K = K (s.Job.Request.Query.av 2 TPair.enc) := by simp [TWorker.enc]
@[simp] theorem TWorker.g4 (s : TWorker) (K : AV → Prop) : getW s.enc 4 K = K (s.Job.Request.Cookies.av 2 TPair.enc) := by simp [TWorker.enc]
@[simp] theorem TWorker.g5 (s : TWorker) (K : AV → Prop) : getW s.enc 5 K = K (.str s.Job.Session) := by simp [TWorker.enc]
@[simp] theorem TWorker.g6 (s : TWorker) (K : AV → Prop) : getW s.enc 6 K = K (.str s.Data) := by simp [TWorker.enc]
@[simp] theorem TWorker.g7 (s : TWorker) (K : AV → Prop) : getW s.enc 7 K = K (s.Files.av 3 TFile.enc) := by simp [TWorker.enc]
@[simp] theorem TWorker.g8 (s : TWorker) (K : AV → Prop) : getW s.enc 8 K = K (.int .i64 s.Served) := by simp [TWorker.enc]
@[simp] theorem TWorker.seg1 (s : TWorker) : (s.enc.drop 1).take 5 = s.Job.enc := (rfl)
theorem TWorker.cells (s : TWorker) : ∀ a, a ∈ s.enc → a.cell = true := by simp [TWorker.enc]
def TWorker.sz (s : TWorker) : Nat := s.Job.sz + s.Data.length + (szFileS s.Files)
def TWorker.ok (s : TWorker) : Prop := s.Job.ok ∧ s.Data.length ≤ mx ∧ okFileS s.Files
def TWorker.con (s : TWorker) : TWorker := { s with Job := s.Job.con, Files := s.Files.con TFile.con }
theorem TWorker.sz_con (s : TWorker) : s.con.sz = s.sz := by
  simp [TWorker.sz, TWorker.con, szFileS, TJob.sz_con, szL_map TFile.sz_con]
theorem TWorker.sh : ∀ (n : Nat) (row : List AV), ShC Tryz.prog n 101 row → ∃ s : TWorker, row = s.enc ∧ s.ok := by
  intro n row h
  obtain ⟨m, hl, hf⟩ := sh_fields (l := [(3, 0), (98, 1), (9, 6), (22, 7), (3, 8)]) (by kernel_rfl) h
  have hl' : row.length = 9 := hl.trans (by kernel_rfl)
  match row, hl' with
  | [x0, x1, x2, x3, x4, x5, x6, x7, x8], _ =>
    have h0 := hf (3, 0) (by simp)
    rw [show Tryz.prog.cellsOf 3 = 1 by kernel_rfl] at h0
    obtain ⟨v0, rfl, _⟩ := sh_int (k := .i64) (t := 3) (by kernel_rfl) (show ShC Tryz.prog m 3 [x0] from h0)
    have h1 := hf (98, 1) (by simp)
    rw [show Tryz.prog.cellsOf 98 = 5 by kernel_rfl] at h1
    obtain ⟨v1, u1, k1⟩ := TJob.sh m _ (show ShC Tryz.prog m 98 [x1, x2, x3, x4, x5] from h1)
    simp only [TJob.enc, TRequest.enc, List.cons.injEq, and_true] at u1
    obtain ⟨rfl, rfl, rfl, rfl, rfl⟩ := u1
    have h2 := hf (9, 6) (by simp)
    rw [show Tryz.prog.cellsOf 9 = 1 by kernel_rfl] at h2
    obtain ⟨v2, rfl, k2⟩ := sh_str (t := 9) (by kernel_rfl) (show ShC Tryz.prog m 9 [x6] from h2)
    have h3 := hf (22, 7) (by simp)
    rw [show Tryz.prog.cellsOf 22 = 1 by kernel_rfl] at h3
    obtain ⟨v3, rfl, k3⟩ := shFileS (show ShC Tryz.prog m 22 [x7] from h3)
    have h4 := hf (3, 8) (by simp)
    rw [show Tryz.prog.cellsOf 3 = 1 by kernel_rfl] at h4
    obtain ⟨v4, rfl, _⟩ := sh_int (k := .i64) (t := 3) (by kernel_rfl) (show ShC Tryz.prog m 3 [x8] from h4)
    exact ⟨⟨v0, v1, v2, v3, v4⟩, rfl, ⟨k1, k2, k3⟩⟩
theorem TWorker.sz_fn {s : TWorker} (hs : s.ok) {left : Int} (hl : Room left) : Fnc Tryz.prog 56 [.agg s.enc, .int .i64 left] (.int .i64 (szOf s.sz left)) := by
  unfold TWorker.ok at hs
  have hr := hl.2
  refine fn_of c56 (by simp [F56]) fun c => ?_
  unfold F56
  simp
  refine call_fn0 (TJob.sz_fn hs.1 hl) .int fun _ _ => ?_
  simp
  refine ⟨fun h => fin_plain ⟨by have := szOf_lt h; rw [szOf_neg (by simp only [TWorker.sz]; omega)], rfl⟩, fun h => ?_⟩
  obtain ⟨h0, k0⟩ := szOf_ge h
  rw [h0]
  rw [szOf_wrap hs.2.1 ⟨by omega, by omega⟩]
  refine ⟨fun h => fin_plain ⟨by rw [szOf_neg (by simp only [TWorker.sz]; omega)], rfl⟩, fun h => ?_⟩
  refine call_fn0 (szFileS_fn hs.2.2 ⟨by omega, by omega⟩) .int fun _ _ => ?_
  simp
  refine ⟨fun h => fin_plain ⟨by have := szOf_lt h; rw [szOf_neg (by simp only [TWorker.sz]; omega)], rfl⟩, fun h => ?_⟩
  obtain ⟨h2, k2⟩ := szOf_ge h
  rw [h2]
  have hz : s.sz = s.Job.sz + s.Data.length + (szFileS s.Files) := rfl
  have e : szOf s.sz left = left - (s.Job.sz : Int) - (s.Data.length : Int) - ((szFileS s.Files) : Int) := by
    unfold szOf
    rw [if_pos (by omega)]
    omega
  exact fin_plain ⟨by rw [e], rfl⟩
theorem TWorker.to_fn {s : TWorker} (h : s.sz ≤ 1048576) : Tr Tryz.prog 68 [.agg s.enc] fun _ r => ∃ b : TWorker, r = .agg b.enc ∧ b.con = s.con := by
  simp only [TWorker.sz] at h
  intro c
  refine con_of c68 (by simp [F68]) ?_
  unfold F68
  simp [putA, TJob.enc, TRequest.enc]
  refine call_tree0 (TJob.to_fn (by omega)) fun r1 c1 hc1 ⟨b1, e1, q1⟩ f1 => ?_
  subst e1
  simp [putA, TJob.enc, TRequest.enc]
  refine call_tree0 (toFileS_fn (by omega)) fun r3 c3 hc3 ⟨b3, e3, q3⟩ f3 => ?_
  subst e3
  simp [putA, TJob.enc, TRequest.enc]
  refine fin_plain ⟨rfl, ⟨⟨s.State, b1, s.Data, b3, s.Served⟩, rfl, ?_⟩, from_agg ?_⟩
  · simp [TWorker.con, SL.con, SL.pcon, q1, q3]
  · simp
    exact ⟨(from_agg_mem f1 _ (by simp [TJob.enc, TRequest.enc])).mono (by omega), (from_agg_mem f1 _ (by simp [TJob.enc, TRequest.enc])).mono (by omega), f3.mono (by omega)⟩
theorem TWorker.eq_fn {a b : TWorker} (h : a.sz ≤ 1099511627776) (he : a.con = b.con) : Fnc Tryz.prog 84 [.agg a.enc, .agg b.enc] (.bool true) := by
  simp only [TWorker.sz] at h
  have e0 : a.State = b.State := (congrArg TWorker.State he : a.con.State = b.con.State)
  have e1 : a.Job.con = b.Job.con := congrArg TWorker.Job he
  have e2 : a.Data = b.Data := (congrArg TWorker.Data he : a.con.Data = b.con.Data)
  have e3 : a.Files.list.map TFile.con = b.Files.list.map TFile.con := congrArg (fun s => s.Files.list) he
  have e4 : a.Served = b.Served := (congrArg TWorker.Served he : a.con.Served = b.con.Served)
  refine fn_of c84 (by simp [F84]) fun c => ?_
  unfold F84
  simp [e0, e2, e4]
  refine call_fn0 (TJob.eq_fn (by omega) e1) .bool fun _ _ => ?_
  simp [e0, e2, e4]
  refine call_fn0 (eqFileS_fn (by omega) e3) .bool fun _ _ => ?_
  simp [e0, e2, e4]
  exact fin_plain ⟨rfl, rfl⟩
def szWorkerS (s : SL TWorker) : Nat := s.list.length + szL TWorker.sz s.list
def okWorkerS (s : SL TWorker) : Prop := s.list.length ≤ mx ∧ ∀ x, x ∈ s.list → TWorker.ok x
theorem szWorkerS_con {s t : SL TWorker} (h : s.list.map TWorker.con = t.list.map TWorker.con) : szWorkerS s = szWorkerS t := by
  unfold szWorkerS
  rw [← szL_map (con := TWorker.con) TWorker.sz_con s.list, ← szL_map (con := TWorker.con) TWorker.sz_con t.list, h]
  have := congrArg List.length h; simp at this; rw [this]
theorem shWorkerS {n : Nat} {a : AV} (h : ShC Tryz.prog n 26 [a]) : ∃ s : SL TWorker, a = s.av 9 TWorker.enc ∧ okWorkerS s := by
  obtain ⟨s, h1, h2, h3⟩ := sh_slc (P := Tryz.prog) (t := 26) (el := 101) (w := 9) (enc := TWorker.enc) (ok := TWorker.ok) (by kernel_rfl) (by kernel_rfl) (TWorker.sh) h
  exact ⟨s, h1, h2, h3⟩
theorem szWorkerS_fn {s : SL TWorker} (hs : okWorkerS s) {left : Int} (hl : Room left) : Fnc Tryz.prog 15 [s.av 9 TWorker.enc, .int .i64 left] (.int .i64 (szOf (szWorkerS s) left)) :=
  szS_fn (g := 56) c15 (fun _ => rfl) hs.1 hl fun x hx left hl => TWorker.sz_fn (hs.2 x hx) hl
theorem toWorkerS_fn {s : SL TWorker} (h : szWorkerS s ≤ 1048576) : Tr Tryz.prog 26 [s.av 9 TWorker.enc] fun _ r => ∃ b : SL TWorker, r = b.av 9 TWorker.enc ∧ b.list.map TWorker.con = s.list.map TWorker.con := by
  unfold szWorkerS at h
  exact toS_fn (g := 68) (z := [.int .i64 0, .int .i64 0, .str [], .nsl, .nsl, .str [], .str [], .nsl, .int .i64 0]) (bytes := 144) c26 rfl (fun _ => rfl) (fun x => TWorker.cells x) (by omega) (by omega) fun x hx => TWorker.to_fn (by have := szL_mem (sz := TWorker.sz) hx; omega)
theorem eqWorkerS_fn {s t : SL TWorker} (h : szWorkerS s ≤ 1099511627776) (he : s.list.map TWorker.con = t.list.map TWorker.con) : Fnc Tryz.prog 38 [s.av 9 TWorker.enc, t.av 9 TWorker.enc] (.bool true) := by
  unfold szWorkerS at h
  exact eqS_fn (g := 84) (con := TWorker.con) c38 (fun _ => rfl) (by unfold mx; omega) he fun x hx y hxy => TWorker.eq_fn (by have := szL_mem (sz := TWorker.sz) hx; omega) hxy
structure THeader where
  Name : List UInt8
  Value : List UInt8
def THeader.enc (s : THeader) : List AV := [.str s.Name, .str s.Value]
@[simp] theorem THeader.len (s : THeader) : s.enc.length = 2 := (rfl)
@[simp] theorem THeader.all (s : THeader) : s.enc.take 2 = s.enc := (rfl)
@[simp] theorem THeader.g0 (s : THeader) (K : AV → Prop) : getW s.enc 0 K = K (.str s.Name) := by simp [THeader.enc]
@[simp] theorem THeader.g1 (s : THeader) (K : AV → Prop) : getW s.enc 1 K = K (.str s.Value) := by simp [THeader.enc]
theorem THeader.cells (s : THeader) : ∀ a, a ∈ s.enc → a.cell = true := by simp [THeader.enc]
def THeader.sz (s : THeader) : Nat := s.Name.length + s.Value.length
def THeader.ok (s : THeader) : Prop := s.Name.length ≤ mx ∧ s.Value.length ≤ mx
def THeader.con (s : THeader) : THeader := s
theorem THeader.sz_con (s : THeader) : s.con.sz = s.sz := rfl
theorem THeader.sh : ∀ (n : Nat) (row : List AV), ShC Tryz.prog n 182 row → ∃ s : THeader, row = s.enc ∧ s.ok := by
  intro n row h
  obtain ⟨m, hl, hf⟩ := sh_fields (l := [(9, 0), (9, 1)]) (by kernel_rfl) h
  have hl' : row.length = 2 := hl.trans (by kernel_rfl)
  match row, hl' with
  | [x0, x1], _ =>
    have h0 := hf (9, 0) (by simp)
    rw [show Tryz.prog.cellsOf 9 = 1 by kernel_rfl] at h0
    obtain ⟨v0, rfl, k0⟩ := sh_str (t := 9) (by kernel_rfl) (show ShC Tryz.prog m 9 [x0] from h0)
    have h1 := hf (9, 1) (by simp)
    rw [show Tryz.prog.cellsOf 9 = 1 by kernel_rfl] at h1
    obtain ⟨v1, rfl, k1⟩ := sh_str (t := 9) (by kernel_rfl) (show ShC Tryz.prog m 9 [x1] from h1)
    exact ⟨⟨v0, v1⟩, rfl, ⟨k0, k1⟩⟩
theorem THeader.sz_fn {s : THeader} (hs : s.ok) {left : Int} (hl : Room left) : Fnc Tryz.prog 126 [.agg s.enc, .int .i64 left] (.int .i64 (szOf s.sz left)) := by
  unfold THeader.ok at hs
  have hr := hl.2
  refine fn_of c126 (by simp [F126]) fun c => ?_
  unfold F126
  simp
  rw [szOf_wrap hs.1 hl]
  refine ⟨fun h => fin_plain ⟨by rw [szOf_neg (by simp only [THeader.sz]; omega)], rfl⟩, fun h => ?_⟩
  rw [szOf_wrap hs.2 ⟨by omega, by omega⟩]
  refine ⟨fun h => fin_plain ⟨by rw [szOf_neg (by simp only [THeader.sz]; omega)], rfl⟩, fun h => ?_⟩
  have hz : s.sz = s.Name.length + s.Value.length := rfl
  have e : szOf s.sz left = left - (s.Name.length : Int) - (s.Value.length : Int) := by
    unfold szOf
    rw [if_pos (by omega)]
    omega
  exact fin_plain ⟨by rw [e], rfl⟩
theorem THeader.to_fn {s : THeader} (h : s.sz ≤ 1048576) : Tr Tryz.prog 130 [.agg s.enc] fun _ r => ∃ b : THeader, r = .agg b.enc ∧ b.con = s.con := by
  simp only [THeader.sz] at h
  intro c
  refine con_of c130 (by simp [F130]) ?_
  unfold F130
  simp [putA]
  refine fin_plain ⟨rfl, ⟨⟨s.Name, s.Value⟩, rfl, ?_⟩, from_agg ?_⟩
  · rfl
  · simp
theorem THeader.eq_fn {a b : THeader} (h : a.sz ≤ 1099511627776) (he : a.con = b.con) : Fnc Tryz.prog 137 [.agg a.enc, .agg b.enc] (.bool true) := by
  simp only [THeader.sz] at h
  have e0 : a.Name = b.Name := (congrArg THeader.Name he : a.con.Name = b.con.Name)
  have e1 : a.Value = b.Value := (congrArg THeader.Value he : a.con.Value = b.con.Value)
  refine fn_of c137 (by simp [F137]) fun c => ?_
  unfold F137
  simp [e0, e1]
  exact fin_plain ⟨rfl, rfl⟩
def szHeaderS (s : SL THeader) : Nat := s.list.length + szL THeader.sz s.list
def okHeaderS (s : SL THeader) : Prop := s.list.length ≤ mx ∧ ∀ x, x ∈ s.list → THeader.ok x
theorem szHeaderS_con {s t : SL THeader} (h : s.list.map THeader.con = t.list.map THeader.con) : szHeaderS s = szHeaderS t := by
  unfold szHeaderS
  rw [← szL_map (con := THeader.con) THeader.sz_con s.list, ← szL_map (con := THeader.con) THeader.sz_con t.list, h]
  have := congrArg List.length h; simp at this; rw [this]
theorem shHeaderS {n : Nat} {a : AV} (h : ShC Tryz.prog n 103 [a]) : ∃ s : SL THeader, a = s.av 2 THeader.enc ∧ okHeaderS s := by
  obtain ⟨s, h1, h2, h3⟩ := sh_slc (P := Tryz.prog) (t := 103) (el := 182) (w := 2) (enc := THeader.enc) (ok := THeader.ok) (by kernel_rfl) (by kernel_rfl) (THeader.sh) h
  exact ⟨s, h1, h2, h3⟩
theorem szHeaderS_fn {s : SL THeader} (hs : okHeaderS s) {left : Int} (hl : Room left) : Fnc Tryz.prog 113 [s.av 2 THeader.enc, .int .i64 left] (.int .i64 (szOf (szHeaderS s) left)) :=
  szS_fn (g := 126) c113 (fun _ => rfl) hs.1 hl fun x hx left hl => THeader.sz_fn (hs.2 x hx) hl
theorem toHeaderS_fn {s : SL THeader} (h : szHeaderS s ≤ 1048576) : Tr Tryz.prog 116 [s.av 2 THeader.enc] fun _ r => ∃ b : SL THeader, r = b.av 2 THeader.enc ∧ b.list.map THeader.con = s.list.map THeader.con := by
  unfold szHeaderS at h
  exact toS_fn (g := 130) (z := [.str [], .str []]) (bytes := 32) c116 rfl (fun _ => rfl) (fun x => THeader.cells x) (by omega) (by omega) fun x hx => THeader.to_fn (by have := szL_mem (sz := THeader.sz) hx; omega)
theorem eqHeaderS_fn {s t : SL THeader} (h : szHeaderS s ≤ 1099511627776) (he : s.list.map THeader.con = t.list.map THeader.con) : Fnc Tryz.prog 124 [s.av 2 THeader.enc, t.av 2 THeader.enc] (.bool true) := by
  unfold szHeaderS at h
  exact eqS_fn (g := 137) (con := THeader.con) c124 (fun _ => rfl) (by unfold mx; omega) he fun x hx y hxy => THeader.eq_fn (by have := szL_mem (sz := THeader.sz) hx; omega) hxy
structure TResponse where
  Code : Int
  Headers : SL THeader
  Body : List UInt8
def TResponse.enc (s : TResponse) : List AV := [.int .i64 s.Code, s.Headers.av 2 THeader.enc, .str s.Body]
@[simp] theorem TResponse.len (s : TResponse) : s.enc.length = 3 := (rfl)
@[simp] theorem TResponse.all (s : TResponse) : s.enc.take 3 = s.enc := (rfl)
@[simp] theorem TResponse.g0 (s : TResponse) (K : AV → Prop) : getW s.enc 0 K = K (.int .i64 s.Code) := by simp [TResponse.enc]
@[simp] theorem TResponse.g1 (s : TResponse) (K : AV → Prop) : getW s.enc 1 K = K (s.Headers.av 2 THeader.enc) := by simp [TResponse.enc]
@[simp] theorem TResponse.g2 (s : TResponse) (K : AV → Prop) : getW s.enc 2 K = K (.str s.Body) := by simp [TResponse.enc]
theorem TResponse.cells (s : TResponse) : ∀ a, a ∈ s.enc → a.cell = true := by simp [TResponse.enc]
def TResponse.sz (s : TResponse) : Nat := (szHeaderS s.Headers) + s.Body.length
def TResponse.ok (s : TResponse) : Prop := okHeaderS s.Headers ∧ s.Body.length ≤ mx
def TResponse.con (s : TResponse) : TResponse := { s with Headers := s.Headers.con THeader.con }
theorem TResponse.sz_con (s : TResponse) : s.con.sz = s.sz := by
  simp [TResponse.sz, TResponse.con, szHeaderS, szL_map THeader.sz_con]
theorem TResponse.sh : ∀ (n : Nat) (row : List AV), ShC Tryz.prog n 105 row → ∃ s : TResponse, row = s.enc ∧ s.ok := by
  intro n row h
  obtain ⟨m, hl, hf⟩ := sh_fields (l := [(3, 0), (103, 1), (9, 2)]) (by kernel_rfl) h
  have hl' : row.length = 3 := hl.trans (by kernel_rfl)
  match row, hl' with
  | [x0, x1, x2], _ =>
    have h0 := hf (3, 0) (by simp)
    rw [show Tryz.prog.cellsOf 3 = 1 by kernel_rfl] at h0
    obtain ⟨v0, rfl, _⟩ := sh_int (k := .i64) (t := 3) (by kernel_rfl) (show ShC Tryz.prog m 3 [x0] from h0)
    have h1 := hf (103, 1) (by simp)
    rw [show Tryz.prog.cellsOf 103 = 1 by kernel_rfl] at h1
    obtain ⟨v1, rfl, k1⟩ := shHeaderS (show ShC Tryz.prog m 103 [x1] from h1)
    have h2 := hf (9, 2) (by simp)
    rw [show Tryz.prog.cellsOf 9 = 1 by kernel_rfl] at h2
    obtain ⟨v2, rfl, k2⟩ := sh_str (t := 9) (by kernel_rfl) (show ShC Tryz.prog m 9 [x2] from h2)
    exact ⟨⟨v0, v1, v2⟩, rfl, ⟨k1, k2⟩⟩
theorem TResponse.sz_fn {s : TResponse} (hs : s.ok) {left : Int} (hl : Room left) : Fnc Tryz.prog 95 [.agg s.enc, .int .i64 left] (.int .i64 (szOf s.sz left)) := by
  unfold TResponse.ok at hs
  have hr := hl.2
  refine fn_of c95 (by simp [F95]) fun c => ?_
  unfold F95
  simp
  refine call_fn0 (szHeaderS_fn hs.1 hl) .int fun _ _ => ?_
  simp
  refine ⟨fun h => fin_plain ⟨by have := szOf_lt h; rw [szOf_neg (by simp only [TResponse.sz]; omega)], rfl⟩, fun h => ?_⟩
  obtain ⟨h0, k0⟩ := szOf_ge h
  rw [h0]
  rw [szOf_wrap hs.2 ⟨by omega, by omega⟩]
  refine ⟨fun h => fin_plain ⟨by rw [szOf_neg (by simp only [TResponse.sz]; omega)], rfl⟩, fun h => ?_⟩
  have hz : s.sz = (szHeaderS s.Headers) + s.Body.length := rfl
  have e : szOf s.sz left = left - ((szHeaderS s.Headers) : Int) - (s.Body.length : Int) := by
    unfold szOf
    rw [if_pos (by omega)]
    omega
  exact fin_plain ⟨by rw [e], rfl⟩
theorem TResponse.to_fn {s : TResponse} (h : s.sz ≤ 1048576) : Tr Tryz.prog 101 [.agg s.enc] fun _ r => ∃ b : TResponse, r = .agg b.enc ∧ b.con = s.con := by
  simp only [TResponse.sz] at h
  intro c
  refine con_of c101 (by simp [F101]) ?_
  unfold F101
  simp [putA]
  refine call_tree0 (toHeaderS_fn (by omega)) fun r1 c1 hc1 ⟨b1, e1, q1⟩ f1 => ?_
  subst e1
  simp [putA]
  refine fin_plain ⟨rfl, ⟨⟨s.Code, b1, s.Body⟩, rfl, ?_⟩, from_agg ?_⟩
  · simp [TResponse.con, SL.con, SL.pcon, q1]
  · simp
    exact f1.mono (by omega)
theorem TResponse.eq_fn {a b : TResponse} (h : a.sz ≤ 1099511627776) (he : a.con = b.con) : Fnc Tryz.prog 111 [.agg a.enc, .agg b.enc] (.bool true) := by
  simp only [TResponse.sz] at h
  have e0 : a.Code = b.Code := (congrArg TResponse.Code he : a.con.Code = b.con.Code)
  have e1 : a.Headers.list.map THeader.con = b.Headers.list.map THeader.con := congrArg (fun s => s.Headers.list) he
  have e2 : a.Body = b.Body := (congrArg TResponse.Body he : a.con.Body = b.con.Body)
  refine fn_of c111 (by simp [F111]) fun c => ?_
  unfold F111
  simp [e0, e2]
  refine call_fn0 (eqHeaderS_fn (by omega) e1) .bool fun _ _ => ?_
  simp [e0, e2]
  exact fin_plain ⟨rfl, rfl⟩
structure TAnswer where
  Id : Int
  Session : List UInt8
  Files : SL TFile
  Request : TRequest
  Before : List UInt8
  Response : TResponse
  After : List UInt8
def TAnswer.enc (s : TAnswer) : List AV := [.int .i64 s.Id, .str s.Session, s.Files.av 3 TFile.enc, .str s.Request.Path, s.Request.Query.av 2 TPair.enc, s.Request.Cookies.av 2 TPair.enc, .str s.Before, .int .i64 s.Response.Code, s.Response.Headers.av 2 THeader.enc, .str s.Response.Body, .str s.After]
@[simp] theorem TAnswer.len (s : TAnswer) : s.enc.length = 11 := (rfl)
@[simp] theorem TAnswer.all (s : TAnswer) : s.enc.take 11 = s.enc := (rfl)
@[simp] theorem TAnswer.g0 (s : TAnswer) (K : AV → Prop) : getW s.enc 0 K = K (.int .i64 s.Id) := by simp [TAnswer.enc]
@[simp] theorem TAnswer.g1 (s : TAnswer) (K : AV → Prop) : getW s.enc 1 K = K (.str s.Session) := by simp [TAnswer.enc]
@[simp] theorem TAnswer.g2 (s : TAnswer) (K : AV → Prop) : getW s.enc 2 K = K (s.Files.av 3 TFile.enc) := by simp [TAnswer.enc]
@[simp] theorem TAnswer.g3 (s : TAnswer) (K : AV → Prop) : getW s.enc 3 K = K (.str s.Request.Path) := by simp [TAnswer.enc]
@[simp] theorem TAnswer.g4 (s : TAnswer) (K : AV → Prop) : getW s.enc 4 K = K (s.Request.Query.av 2 TPair.enc) := by simp [TAnswer.enc]
@[simp] theorem TAnswer.g5 (s : TAnswer) (K : AV → Prop) : getW s.enc 5 K = K (s.Request.Cookies.av 2 TPair.enc) := by simp [TAnswer.enc]
@[simp] theorem TAnswer.g6 (s : TAnswer) (K : AV → Prop) : getW s.enc 6 K = K (.str s.Before) := by simp [TAnswer.enc]
@[simp] theorem TAnswer.g7 (s : TAnswer) (K : AV → Prop) : getW s.enc 7 K = K (.int .i64 s.Response.Code) := by simp [TAnswer.enc]
@[simp] theorem TAnswer.g8 (s : TAnswer) (K : AV → Prop) : getW s.enc 8 K = K (s.Response.Headers.av 2 THeader.enc) := by simp [TAnswer.enc]
@[simp] theorem TAnswer.g9 (s : TAnswer) (K : AV → Prop) : getW s.enc 9 K = K (.str s.Response.Body) := by simp [TAnswer.enc]
@[simp] theorem TAnswer.g10 (s : TAnswer) (K : AV → Prop) : getW s.enc 10 K = K (.str s.After) := by simp [TAnswer.enc]
@[simp] theorem TAnswer.seg3 (s : TAnswer) : (s.enc.drop 3).take 3 = s.Request.enc := (rfl)
@[simp] theorem TAnswer.seg7 (s : TAnswer) : (s.enc.drop 7).take 3 = s.Response.enc := (rfl)
theorem TAnswer.cells (s : TAnswer) : ∀ a, a ∈ s.enc → a.cell = true := by simp [TAnswer.enc]
def TAnswer.sz (s : TAnswer) : Nat := s.Session.length + (szFileS s.Files) + s.Request.sz + s.Before.length + s.Response.sz + s.After.length
def TAnswer.ok (s : TAnswer) : Prop := s.Session.length ≤ mx ∧ okFileS s.Files ∧ s.Request.ok ∧ s.Before.length ≤ mx ∧ s.Response.ok ∧ s.After.length ≤ mx
def TAnswer.con (s : TAnswer) : TAnswer := { s with Files := s.Files.con TFile.con, Request := s.Request.con, Response := s.Response.con }
theorem TAnswer.sz_con (s : TAnswer) : s.con.sz = s.sz := by
  simp [TAnswer.sz, TAnswer.con, szFileS, szL_map TFile.sz_con, TRequest.sz_con, TResponse.sz_con]
theorem TAnswer.sh : ∀ (n : Nat) (row : List AV), ShC Tryz.prog n 107 row → ∃ s : TAnswer, row = s.enc ∧ s.ok := by
  intro n row h
  obtain ⟨m, hl, hf⟩ := sh_fields (l := [(3, 0), (9, 1), (22, 2), (96, 3), (9, 6), (105, 7), (9, 10)]) (by kernel_rfl) h
  have hl' : row.length = 11 := hl.trans (by kernel_rfl)
  match row, hl' with
  | [x0, x1, x2, x3, x4, x5, x6, x7, x8, x9, x10], _ =>
    have h0 := hf (3, 0) (by simp)
    rw [show Tryz.prog.cellsOf 3 = 1 by kernel_rfl] at h0
    obtain ⟨v0, rfl, _⟩ := sh_int (k := .i64) (t := 3) (by kernel_rfl) (show ShC Tryz.prog m 3 [x0] from h0)
    have h1 := hf (9, 1) (by simp)
    rw [show Tryz.prog.cellsOf 9 = 1 by kernel_rfl] at h1
    obtain ⟨v1, rfl, k1⟩ := sh_str (t := 9) (by kernel_rfl) (show ShC Tryz.prog m 9 [x1] from h1)
    have h2 := hf (22, 2) (by simp)
    rw [show Tryz.prog.cellsOf 22 = 1 by kernel_rfl] at h2
    obtain ⟨v2, rfl, k2⟩ := shFileS (show ShC Tryz.prog m 22 [x2] from h2)
    have h3 := hf (96, 3) (by simp)
    rw [show Tryz.prog.cellsOf 96 = 3 by kernel_rfl] at h3
    obtain ⟨v3, u3, k3⟩ := TRequest.sh m _ (show ShC Tryz.prog m 96 [x3, x4, x5] from h3)
    simp only [TRequest.enc, List.cons.injEq, and_true] at u3
    obtain ⟨rfl, rfl, rfl⟩ := u3
    have h4 := hf (9, 6) (by simp)
    rw [show Tryz.prog.cellsOf 9 = 1 by kernel_rfl] at h4
    obtain ⟨v4, rfl, k4⟩ := sh_str (t := 9) (by kernel_rfl) (show ShC Tryz.prog m 9 [x6] from h4)
    have h5 := hf (105, 7) (by simp)
    rw [show Tryz.prog.cellsOf 105 = 3 by kernel_rfl] at h5
    obtain ⟨v5, u5, k5⟩ := TResponse.sh m _ (show ShC Tryz.prog m 105 [x7, x8, x9] from h5)
    simp only [TResponse.enc, List.cons.injEq, and_true] at u5
    obtain ⟨rfl, rfl, rfl⟩ := u5
    have h6 := hf (9, 10) (by simp)
    rw [show Tryz.prog.cellsOf 9 = 1 by kernel_rfl] at h6
    obtain ⟨v6, rfl, k6⟩ := sh_str (t := 9) (by kernel_rfl) (show ShC Tryz.prog m 9 [x10] from h6)
    exact ⟨⟨v0, v1, v2, v3, v4, v5, v6⟩, rfl, ⟨k1, k2, k3, k4, k5, k6⟩⟩
theorem TAnswer.sz_fn {s : TAnswer} (hs : s.ok) {left : Int} (hl : Room left) : Fnc Tryz.prog 57 [.agg s.enc, .int .i64 left] (.int .i64 (szOf s.sz left)) := by
  unfold TAnswer.ok at hs
  have hr := hl.2
  refine fn_of c57 (by simp [F57]) fun c => ?_
  unfold F57
  simp
  rw [szOf_wrap hs.1 hl]
  refine ⟨fun h => fin_plain ⟨by rw [szOf_neg (by simp only [TAnswer.sz]; omega)], rfl⟩, fun h => ?_⟩
  refine call_fn0 (szFileS_fn hs.2.1 ⟨by omega, by omega⟩) .int fun _ _ => ?_
  simp
  refine ⟨fun h => fin_plain ⟨by have := szOf_lt h; rw [szOf_neg (by simp only [TAnswer.sz]; omega)], rfl⟩, fun h => ?_⟩
  obtain ⟨h1, k1⟩ := szOf_ge h
  rw [h1]
  refine call_fn0 (TRequest.sz_fn hs.2.2.1 ⟨by omega, by omega⟩) .int fun _ _ => ?_
  simp
  refine ⟨fun h => fin_plain ⟨by have := szOf_lt h; rw [szOf_neg (by simp only [TAnswer.sz]; omega)], rfl⟩, fun h => ?_⟩
  obtain ⟨h2, k2⟩ := szOf_ge h
  rw [h2]
  rw [szOf_wrap hs.2.2.2.1 ⟨by omega, by omega⟩]
  refine ⟨fun h => fin_plain ⟨by rw [szOf_neg (by simp only [TAnswer.sz]; omega)], rfl⟩, fun h => ?_⟩
  refine call_fn0 (TResponse.sz_fn hs.2.2.2.2.1 ⟨by omega, by omega⟩) .int fun _ _ => ?_
  simp
  refine ⟨fun h => fin_plain ⟨by have := szOf_lt h; rw [szOf_neg (by simp only [TAnswer.sz]; omega)], rfl⟩, fun h => ?_⟩
  obtain ⟨h4, k4⟩ := szOf_ge h
  rw [h4]
  rw [szOf_wrap hs.2.2.2.2.2 ⟨by omega, by omega⟩]
  refine ⟨fun h => fin_plain ⟨by rw [szOf_neg (by simp only [TAnswer.sz]; omega)], rfl⟩, fun h => ?_⟩
  have hz : s.sz = s.Session.length + (szFileS s.Files) + s.Request.sz + s.Before.length + s.Response.sz + s.After.length := rfl
  have e : szOf s.sz left = left - (s.Session.length : Int) - ((szFileS s.Files) : Int) - (s.Request.sz : Int) - (s.Before.length : Int) - (s.Response.sz : Int) - (s.After.length : Int) := by
    unfold szOf
    rw [if_pos (by omega)]
    omega
  exact fin_plain ⟨by rw [e], rfl⟩
theorem TAnswer.to_fn {s : TAnswer} (h : s.sz ≤ 1048576) : Tr Tryz.prog 69 [.agg s.enc] fun _ r => ∃ b : TAnswer, r = .agg b.enc ∧ b.con = s.con := by
  simp only [TAnswer.sz] at h
  intro c
  refine con_of c69 (by simp [F69]) ?_
  unfold F69
  simp [putA, TRequest.enc, TResponse.enc]
  refine call_tree0 (toFileS_fn (by omega)) fun r2 c2 hc2 ⟨b2, e2, q2⟩ f2 => ?_
  subst e2
  simp [putA, TRequest.enc, TResponse.enc]
  refine call_tree0 (TRequest.to_fn (by omega)) fun r3 c3 hc3 ⟨b3, e3, q3⟩ f3 => ?_
  subst e3
  simp [putA, TRequest.enc, TResponse.enc]
  refine call_tree0 (TResponse.to_fn (by omega)) fun r5 c5 hc5 ⟨b5, e5, q5⟩ f5 => ?_
  subst e5
  simp [putA, TRequest.enc, TResponse.enc]
  refine fin_plain ⟨rfl, ⟨⟨s.Id, s.Session, b2, b3, s.Before, b5, s.After⟩, rfl, ?_⟩, from_agg ?_⟩
  · simp [TAnswer.con, SL.con, SL.pcon, q2, q3, q5]
  · simp
    exact ⟨f2.mono (by omega), (from_agg_mem f3 _ (by simp [TRequest.enc])).mono (by omega), (from_agg_mem f3 _ (by simp [TRequest.enc])).mono (by omega), (from_agg_mem f5 _ (by simp [TResponse.enc])).mono (by omega)⟩
theorem TAnswer.eq_fn {a b : TAnswer} (h : a.sz ≤ 1099511627776) (he : a.con = b.con) : Fnc Tryz.prog 85 [.agg a.enc, .agg b.enc] (.bool true) := by
  simp only [TAnswer.sz] at h
  have e0 : a.Id = b.Id := (congrArg TAnswer.Id he : a.con.Id = b.con.Id)
  have e1 : a.Session = b.Session := (congrArg TAnswer.Session he : a.con.Session = b.con.Session)
  have e2 : a.Files.list.map TFile.con = b.Files.list.map TFile.con := congrArg (fun s => s.Files.list) he
  have e3 : a.Request.con = b.Request.con := congrArg TAnswer.Request he
  have e4 : a.Before = b.Before := (congrArg TAnswer.Before he : a.con.Before = b.con.Before)
  have e5 : a.Response.con = b.Response.con := congrArg TAnswer.Response he
  have e6 : a.After = b.After := (congrArg TAnswer.After he : a.con.After = b.con.After)
  refine fn_of c85 (by simp [F85]) fun c => ?_
  unfold F85
  simp [e0, e1, e4, e6]
  refine call_fn0 (eqFileS_fn (by omega) e2) .bool fun _ _ => ?_
  simp [e0, e1, e4, e6]
  refine call_fn0 (TRequest.eq_fn (by omega) e3) .bool fun _ _ => ?_
  simp [e0, e1, e4, e6]
  refine call_fn0 (TResponse.eq_fn (by omega) e5) .bool fun _ _ => ?_
  simp [e0, e1, e4, e6]
  exact fin_plain ⟨rfl, rfl⟩
def szAnswerS (s : SL TAnswer) : Nat := s.list.length + szL TAnswer.sz s.list
def okAnswerS (s : SL TAnswer) : Prop := s.list.length ≤ mx ∧ ∀ x, x ∈ s.list → TAnswer.ok x
theorem szAnswerS_con {s t : SL TAnswer} (h : s.list.map TAnswer.con = t.list.map TAnswer.con) : szAnswerS s = szAnswerS t := by
  unfold szAnswerS
  rw [← szL_map (con := TAnswer.con) TAnswer.sz_con s.list, ← szL_map (con := TAnswer.con) TAnswer.sz_con t.list, h]
  have := congrArg List.length h; simp at this; rw [this]
theorem shAnswerS {n : Nat} {a : AV} (h : ShC Tryz.prog n 27 [a]) : ∃ s : SL TAnswer, a = s.av 11 TAnswer.enc ∧ okAnswerS s := by
  obtain ⟨s, h1, h2, h3⟩ := sh_slc (P := Tryz.prog) (t := 27) (el := 107) (w := 11) (enc := TAnswer.enc) (ok := TAnswer.ok) (by kernel_rfl) (by kernel_rfl) (TAnswer.sh) h
  exact ⟨s, h1, h2, h3⟩
theorem szAnswerS_fn {s : SL TAnswer} (hs : okAnswerS s) {left : Int} (hl : Room left) : Fnc Tryz.prog 16 [s.av 11 TAnswer.enc, .int .i64 left] (.int .i64 (szOf (szAnswerS s) left)) :=
  szS_fn (g := 57) c16 (fun _ => rfl) hs.1 hl fun x hx left hl => TAnswer.sz_fn (hs.2 x hx) hl
theorem toAnswerS_fn {s : SL TAnswer} (h : szAnswerS s ≤ 1048576) : Tr Tryz.prog 27 [s.av 11 TAnswer.enc] fun _ r => ∃ b : SL TAnswer, r = b.av 11 TAnswer.enc ∧ b.list.map TAnswer.con = s.list.map TAnswer.con := by
  unfold szAnswerS at h
  exact toS_fn (g := 69) (z := [.int .i64 0, .str [], .nsl, .str [], .nsl, .nsl, .str [], .int .i64 0, .nsl, .str [], .str []]) (bytes := 192) c27 rfl (fun _ => rfl) (fun x => TAnswer.cells x) (by omega) (by omega) fun x hx => TAnswer.to_fn (by have := szL_mem (sz := TAnswer.sz) hx; omega)
theorem eqAnswerS_fn {s t : SL TAnswer} (h : szAnswerS s ≤ 1099511627776) (he : s.list.map TAnswer.con = t.list.map TAnswer.con) : Fnc Tryz.prog 39 [s.av 11 TAnswer.enc, t.av 11 TAnswer.enc] (.bool true) := by
  unfold szAnswerS at h
  exact eqS_fn (g := 85) (con := TAnswer.con) c39 (fun _ => rfl) (by unfold mx; omega) he fun x hx y hxy => TAnswer.eq_fn (by have := szL_mem (sz := TAnswer.sz) hx; omega) hxy
structure TServer where
  Files : SL TFile
  Lines : SL TLine
  Sessions : SL TSession
  Queue : SL TJob
  Workers : SL TWorker
  Done : SL TAnswer
  Next : Int
  Now : Int
def TServer.enc (s : TServer) : List AV := [s.Files.av 3 TFile.enc, s.Lines.av 4 TLine.enc, s.Sessions.av 4 TSession.enc, s.Queue.av 5 TJob.enc, s.Workers.av 9 TWorker.enc, s.Done.av 11 TAnswer.enc, .int .i64 s.Next, .int .i64 s.Now]
@[simp] theorem TServer.len (s : TServer) : s.enc.length = 8 := (rfl)
@[simp] theorem TServer.all (s : TServer) : s.enc.take 8 = s.enc := (rfl)
@[simp] theorem TServer.g0 (s : TServer) (K : AV → Prop) : getW s.enc 0 K = K (s.Files.av 3 TFile.enc) := by simp [TServer.enc]
@[simp] theorem TServer.g1 (s : TServer) (K : AV → Prop) : getW s.enc 1 K = K (s.Lines.av 4 TLine.enc) := by simp [TServer.enc]
@[simp] theorem TServer.g2 (s : TServer) (K : AV → Prop) : getW s.enc 2 K = K (s.Sessions.av 4 TSession.enc) := by simp [TServer.enc]
@[simp] theorem TServer.g3 (s : TServer) (K : AV → Prop) : getW s.enc 3 K = K (s.Queue.av 5 TJob.enc) := by simp [TServer.enc]
@[simp] theorem TServer.g4 (s : TServer) (K : AV → Prop) : getW s.enc 4 K = K (s.Workers.av 9 TWorker.enc) := by simp [TServer.enc]
@[simp] theorem TServer.g5 (s : TServer) (K : AV → Prop) : getW s.enc 5 K = K (s.Done.av 11 TAnswer.enc) := by simp [TServer.enc]
@[simp] theorem TServer.g6 (s : TServer) (K : AV → Prop) : getW s.enc 6 K = K (.int .i64 s.Next) := by simp [TServer.enc]
@[simp] theorem TServer.g7 (s : TServer) (K : AV → Prop) : getW s.enc 7 K = K (.int .i64 s.Now) := by simp [TServer.enc]
theorem TServer.cells (s : TServer) : ∀ a, a ∈ s.enc → a.cell = true := by simp [TServer.enc]
def TServer.sz (s : TServer) : Nat := (szFileS s.Files) + (szLineS s.Lines) + (szSessionS s.Sessions) + (szJobS s.Queue) + (szWorkerS s.Workers) + (szAnswerS s.Done)
def TServer.ok (s : TServer) : Prop := okFileS s.Files ∧ okLineS s.Lines ∧ okSessionS s.Sessions ∧ okJobS s.Queue ∧ okWorkerS s.Workers ∧ okAnswerS s.Done
def TServer.con (s : TServer) : TServer := { s with Files := s.Files.con TFile.con, Lines := s.Lines.con TLine.con, Sessions := s.Sessions.con TSession.con, Queue := s.Queue.con TJob.con, Workers := s.Workers.con TWorker.con, Done := s.Done.con TAnswer.con }
theorem TServer.sz_con (s : TServer) : s.con.sz = s.sz := by
  simp [TServer.sz, TServer.con, szFileS, szLineS, szSessionS, szJobS, szWorkerS, szAnswerS, szL_map TFile.sz_con, szL_map TLine.sz_con, szL_map TSession.sz_con, szL_map TJob.sz_con, szL_map TWorker.sz_con, szL_map TAnswer.sz_con]
theorem TServer.sh : ∀ (n : Nat) (row : List AV), ShC Tryz.prog n 29 row → ∃ s : TServer, row = s.enc ∧ s.ok := by
  intro n row h
  obtain ⟨m, hl, hf⟩ := sh_fields (l := [(22, 0), (23, 1), (24, 2), (25, 3), (26, 4), (27, 5), (3, 6), (3, 7)]) (by kernel_rfl) h
  have hl' : row.length = 8 := hl.trans (by kernel_rfl)
  match row, hl' with
  | [x0, x1, x2, x3, x4, x5, x6, x7], _ =>
    have h0 := hf (22, 0) (by simp)
    rw [show Tryz.prog.cellsOf 22 = 1 by kernel_rfl] at h0
    obtain ⟨v0, rfl, k0⟩ := shFileS (show ShC Tryz.prog m 22 [x0] from h0)
    have h1 := hf (23, 1) (by simp)
    rw [show Tryz.prog.cellsOf 23 = 1 by kernel_rfl] at h1
    obtain ⟨v1, rfl, k1⟩ := shLineS (show ShC Tryz.prog m 23 [x1] from h1)
    have h2 := hf (24, 2) (by simp)
    rw [show Tryz.prog.cellsOf 24 = 1 by kernel_rfl] at h2
    obtain ⟨v2, rfl, k2⟩ := shSessionS (show ShC Tryz.prog m 24 [x2] from h2)
    have h3 := hf (25, 3) (by simp)
    rw [show Tryz.prog.cellsOf 25 = 1 by kernel_rfl] at h3
    obtain ⟨v3, rfl, k3⟩ := shJobS (show ShC Tryz.prog m 25 [x3] from h3)
    have h4 := hf (26, 4) (by simp)
    rw [show Tryz.prog.cellsOf 26 = 1 by kernel_rfl] at h4
    obtain ⟨v4, rfl, k4⟩ := shWorkerS (show ShC Tryz.prog m 26 [x4] from h4)
    have h5 := hf (27, 5) (by simp)
    rw [show Tryz.prog.cellsOf 27 = 1 by kernel_rfl] at h5
    obtain ⟨v5, rfl, k5⟩ := shAnswerS (show ShC Tryz.prog m 27 [x5] from h5)
    have h6 := hf (3, 6) (by simp)
    rw [show Tryz.prog.cellsOf 3 = 1 by kernel_rfl] at h6
    obtain ⟨v6, rfl, _⟩ := sh_int (k := .i64) (t := 3) (by kernel_rfl) (show ShC Tryz.prog m 3 [x6] from h6)
    have h7 := hf (3, 7) (by simp)
    rw [show Tryz.prog.cellsOf 3 = 1 by kernel_rfl] at h7
    obtain ⟨v7, rfl, _⟩ := sh_int (k := .i64) (t := 3) (by kernel_rfl) (show ShC Tryz.prog m 3 [x7] from h7)
    exact ⟨⟨v0, v1, v2, v3, v4, v5, v6, v7⟩, rfl, ⟨k0, k1, k2, k3, k4, k5⟩⟩
theorem TServer.sz_fn {s : TServer} (hs : s.ok) {left : Int} (hl : Room left) : Fnc Tryz.prog 4 [.agg s.enc, .int .i64 left] (.int .i64 (szOf s.sz left)) := by
  unfold TServer.ok at hs
  have hr := hl.2
  refine fn_of c4 (by simp [F4]) fun c => ?_
  unfold F4
  simp
  refine call_fn0 (szFileS_fn hs.1 hl) .int fun _ _ => ?_
  simp
  refine ⟨fun h => fin_plain ⟨by have := szOf_lt h; rw [szOf_neg (by simp only [TServer.sz]; omega)], rfl⟩, fun h => ?_⟩
  obtain ⟨h0, k0⟩ := szOf_ge h
  rw [h0]
  refine call_fn0 (szLineS_fn hs.2.1 ⟨by omega, by omega⟩) .int fun _ _ => ?_
  simp
  refine ⟨fun h => fin_plain ⟨by have := szOf_lt h; rw [szOf_neg (by simp only [TServer.sz]; omega)], rfl⟩, fun h => ?_⟩
  obtain ⟨h1, k1⟩ := szOf_ge h
  rw [h1]
  refine call_fn0 (szSessionS_fn hs.2.2.1 ⟨by omega, by omega⟩) .int fun _ _ => ?_
  simp
  refine ⟨fun h => fin_plain ⟨by have := szOf_lt h; rw [szOf_neg (by simp only [TServer.sz]; omega)], rfl⟩, fun h => ?_⟩
  obtain ⟨h2, k2⟩ := szOf_ge h
  rw [h2]
  refine call_fn0 (szJobS_fn hs.2.2.2.1 ⟨by omega, by omega⟩) .int fun _ _ => ?_
  simp
  refine ⟨fun h => fin_plain ⟨by have := szOf_lt h; rw [szOf_neg (by simp only [TServer.sz]; omega)], rfl⟩, fun h => ?_⟩
  obtain ⟨h3, k3⟩ := szOf_ge h
  rw [h3]
  refine call_fn0 (szWorkerS_fn hs.2.2.2.2.1 ⟨by omega, by omega⟩) .int fun _ _ => ?_
  simp
  refine ⟨fun h => fin_plain ⟨by have := szOf_lt h; rw [szOf_neg (by simp only [TServer.sz]; omega)], rfl⟩, fun h => ?_⟩
  obtain ⟨h4, k4⟩ := szOf_ge h
  rw [h4]
  refine call_fn0 (szAnswerS_fn hs.2.2.2.2.2 ⟨by omega, by omega⟩) .int fun _ _ => ?_
  simp
  refine ⟨fun h => fin_plain ⟨by have := szOf_lt h; rw [szOf_neg (by simp only [TServer.sz]; omega)], rfl⟩, fun h => ?_⟩
  obtain ⟨h5, k5⟩ := szOf_ge h
  rw [h5]
  have hz : s.sz = (szFileS s.Files) + (szLineS s.Lines) + (szSessionS s.Sessions) + (szJobS s.Queue) + (szWorkerS s.Workers) + (szAnswerS s.Done) := rfl
  have e : szOf s.sz left = left - ((szFileS s.Files) : Int) - ((szLineS s.Lines) : Int) - ((szSessionS s.Sessions) : Int) - ((szJobS s.Queue) : Int) - ((szWorkerS s.Workers) : Int) - ((szAnswerS s.Done) : Int) := by
    unfold szOf
    rw [if_pos (by omega)]
    omega
  exact fin_plain ⟨by rw [e], rfl⟩
theorem TServer.to_fn {s : TServer} (h : s.sz ≤ 1048576) : Tr Tryz.prog 6 [.agg s.enc] fun _ r => ∃ b : TServer, r = .agg b.enc ∧ b.con = s.con := by
  simp only [TServer.sz] at h
  intro c
  refine con_of c6 (by simp [F6]) ?_
  unfold F6
  simp [putA]
  refine call_tree0 (toFileS_fn (by omega)) fun r0 c0 hc0 ⟨b0, e0, q0⟩ f0 => ?_
  subst e0
  simp [putA]
  refine call_tree0 (toLineS_fn (by omega)) fun r1 c1 hc1 ⟨b1, e1, q1⟩ f1 => ?_
  subst e1
  simp [putA]
  refine call_tree0 (toSessionS_fn (by omega)) fun r2 c2 hc2 ⟨b2, e2, q2⟩ f2 => ?_
  subst e2
  simp [putA]
  refine call_tree0 (toJobS_fn (by omega)) fun r3 c3 hc3 ⟨b3, e3, q3⟩ f3 => ?_
  subst e3
  simp [putA]
  refine call_tree0 (toWorkerS_fn (by omega)) fun r4 c4 hc4 ⟨b4, e4, q4⟩ f4 => ?_
  subst e4
  simp [putA]
  refine call_tree0 (toAnswerS_fn (by omega)) fun r5 c5 hc5 ⟨b5, e5, q5⟩ f5 => ?_
  subst e5
  simp [putA]
  refine fin_plain ⟨rfl, ⟨⟨b0, b1, b2, b3, b4, b5, s.Next, s.Now⟩, rfl, ?_⟩, from_agg ?_⟩
  · simp [TServer.con, SL.con, SL.pcon, q0, q1, q2, q3, q4, q5]
  · simp
    exact ⟨f0.mono (by omega), f1.mono (by omega), f2.mono (by omega), f3.mono (by omega), f4.mono (by omega), f5.mono (by omega)⟩
theorem TServer.eq_fn {a b : TServer} (h : a.sz ≤ 1099511627776) (he : a.con = b.con) : Fnc Tryz.prog 8 [.agg a.enc, .agg b.enc] (.bool true) := by
  simp only [TServer.sz] at h
  have e0 : a.Files.list.map TFile.con = b.Files.list.map TFile.con := congrArg (fun s => s.Files.list) he
  have e1 : a.Lines.list.map TLine.con = b.Lines.list.map TLine.con := congrArg (fun s => s.Lines.list) he
  have e2 : a.Sessions.list.map TSession.con = b.Sessions.list.map TSession.con := congrArg (fun s => s.Sessions.list) he
  have e3 : a.Queue.list.map TJob.con = b.Queue.list.map TJob.con := congrArg (fun s => s.Queue.list) he
  have e4 : a.Workers.list.map TWorker.con = b.Workers.list.map TWorker.con := congrArg (fun s => s.Workers.list) he
  have e5 : a.Done.list.map TAnswer.con = b.Done.list.map TAnswer.con := congrArg (fun s => s.Done.list) he
  have e6 : a.Next = b.Next := (congrArg TServer.Next he : a.con.Next = b.con.Next)
  have e7 : a.Now = b.Now := (congrArg TServer.Now he : a.con.Now = b.con.Now)
  refine fn_of c8 (by simp [F8]) fun c => ?_
  unfold F8
  simp [e6, e7]
  refine call_fn0 (eqFileS_fn (by omega) e0) .bool fun _ _ => ?_
  simp [e6, e7]
  refine call_fn0 (eqLineS_fn (by omega) e1) .bool fun _ _ => ?_
  simp [e6, e7]
  refine call_fn0 (eqSessionS_fn (by omega) e2) .bool fun _ _ => ?_
  simp [e6, e7]
  refine call_fn0 (eqJobS_fn (by omega) e3) .bool fun _ _ => ?_
  simp [e6, e7]
  refine call_fn0 (eqWorkerS_fn (by omega) e4) .bool fun _ _ => ?_
  simp [e6, e7]
  refine call_fn0 (eqAnswerS_fn (by omega) e5) .bool fun _ _ => ?_
  simp [e6, e7]
  exact fin_plain ⟨rfl, rfl⟩
end A
end Go.Proofs.YtkcilmkienlnoaaGreatDoor

/-
  Calls that are handed objects, or hand objects back. No condition.
-/

namespace Go.Proofs.YtkcilmkienlnoaaGreatDoor
namespace A
set_option linter.unusedVariables false
section
variable {P : Program} {H : List AObj} {c : Nat} {K : AV → List AObj → Nat → Prop}

theorem From.nil {c : Nat} {a : AV} (h : From c a) : Av [] a := h [] (by simp)

/-- A call that is handed all the objects. -/
theorem call_con {f : Nat} {as0 : List AV} {Q : AV → List AObj → Nat → Prop} (hf : Con P f as0 H c Q)
    (k : ∀ r H' c', c ≤ c' → Q r H' c' → (∀ t, t < c → t ∈ tags H' → t ∈ tags H) → (tags H').Nodup → Av [] r ∧ (∀ o, o ∈ H' → AvRows [] o) ∧ K r H' c') : CallW P f as0 H c K := by
  intro hn hlt
  obtain ⟨h1, h2⟩ := (Views.refl [] as0).spec
  refine ⟨H, [], as0, Q, List.Sublist.refl _, by simp, by simp [tags], h1, h2, hf, fun r H' c' hc hq ho hd => ?_⟩
  obtain ⟨k1, k2, k3⟩ := k r H' c' hc hq ho hd
  exact ⟨H', r, fun o h => .inl h, hd, .refl r, k1, fun o h _ => k2 o h, k3⟩

/-- Any run of objects may be left out of a call, and only read there. -/
theorem call_part {f : Nat} {as0 as' : List AV} {H1 S : List AObj} {Q : AV → List AObj → Nat → Prop} (hsub : H1.Sublist H) (hS : ∀ o, o ∈ S → o ∈ H) (hd : ∀ t, t ∈ tags H1 → t ∉ tags S) (hv : Views S as0 as') (hf : Con P f as' H1 c Q)
    (k : ∀ r H1' c', c ≤ c' → Q r H1' c' → (∀ t, t < c → t ∈ tags H1' → t ∈ tags H1) → (tags H1').Nodup → ∃ H' r', (∀ o, o ∈ H' → o ∈ H1' ∨ (o ∈ H ∧ o.tag ∉ tags H1)) ∧ (tags H').Nodup ∧ View [] r r' ∧ Av (tags S) r' ∧
      (∀ o, o ∈ H' → o ∈ H1' → AvRows (tags S) o) ∧ K r' H' c') : CallW P f as0 H c K := by
  intro hn hlt
  obtain ⟨h1, h2⟩ := hv.spec
  exact ⟨H1, S, as', Q, hsub, hS, hd, h1, h2, hf, k⟩

/-- A call that reads the objects and hands back objects of its own. -/
theorem call_new {f : Nat} {as0 as' : List AV} {Q : AV → List AObj → Nat → Prop} (hf : Con P f as' [] c Q) (hv : Views H as0 as')
    (k : ∀ r O c', c ≤ c' → Q r O c' → (∀ t, t ∈ tags O → c ≤ t) → (tags O).Nodup → ∃ r', View [] r r' ∧ Av (tags H) r' ∧ (∀ o, o ∈ O → AvRows (tags H) o) ∧ K r' (H ++ O) c') : CallW P f as0 H c K := by
  intro hn hlt
  obtain ⟨h1, h2⟩ := hv.spec
  refine ⟨[], H, as', Q, List.nil_sublist _, fun o h => h, by simp [tags], h1, h2, hf, fun r O c' hc hq ho hd => ?_⟩
  have hfresh : ∀ t, t ∈ tags O → c ≤ t := fun t ht => by
    rcases Nat.lt_or_ge t c with h | h
    · have := ho t h ht; simp [tags] at this
    · exact h
  obtain ⟨r', k1, k2, k3, k4⟩ := k r O c' hc hq hfresh hd
  refine ⟨H ++ O, r', fun o h => ?_, ?_, k1, k2, fun o _ h => k3 o h, k4⟩
  · rcases List.mem_append.1 h with h | h
    · exact .inr ⟨h, by simp [tags]⟩
    · exact .inl h
  · have : tags (H ++ O) = tags H ++ tags O := by simp [tags]
    rw [this]
    refine List.nodup_append.2 ⟨hn, hd, fun a ha b hb hab => ?_⟩
    subst hab
    exact absurd (hlt a ha) (Nat.not_lt.2 (hfresh a hb))

/-- A call that is handed some of the objects, and leaves them in their places. -/
theorem call_mid {f : Nat} {as0 as' : List AV} {A B C : List AObj} {Q : AV → List AObj → Nat → Prop} (hf : Con P f as' B c Q) (hv : Views [] as0 as')
    (k : ∀ r B' c', c ≤ c' → Q r B' c' → tags B' = tags B ∧ Av [] r ∧ (∀ o, o ∈ B' → AvRows [] o) ∧ K r (A ++ B' ++ C) c') : CallW P f as0 (A ++ B ++ C) c K := by
  intro hn hlt
  obtain ⟨h1, h2⟩ := hv.spec
  have hsub : B.Sublist (A ++ B ++ C) := (List.sublist_append_right A B).trans (List.sublist_append_left _ _)
  refine ⟨B, [], as', Q, hsub, by simp, by simp [tags], h1, h2, hf, fun r B' c' hc hq ho hd => ?_⟩
  obtain ⟨k0, k1, k2, k3⟩ := k r B' c' hc hq
  have e : ∀ X, tags (A ++ X ++ C) = tags A ++ tags X ++ tags C := fun X => by simp [tags]
  have hn' := hn
  rw [e] at hn'
  refine ⟨A ++ B' ++ C, r, fun o h => ?_, by rw [e, k0, ← e]; exact hn, .refl r, k1, fun o _ h => k2 o h, k3⟩
  rw [List.append_assoc] at h
  have hAB := List.nodup_append.1 hn'
  have hA := List.nodup_append.1 hAB.1
  rcases List.mem_append.1 h with h | h
  · exact .inr ⟨by simp [h], fun hb => hA.2.2 _ (mem_tags h) _ hb rfl⟩
  · rcases List.mem_append.1 h with h | h
    · exact .inl h
    · exact .inr ⟨by simp [h], fun hb => hAB.2.2 _ (List.mem_append_right _ hb) _ (mem_tags h) rfl⟩

@[simp] theorem callvW_fn (f : Nat) (caps as0 : List AV) : callvW P (.fn f caps) as0 H c K = (bodyOk P f = true ∧ CallW P f (as0 ++ caps) H c K) := (rfl)

/-- A variable seen as0 what it holds. -/
theorem view_ptr {S : List AObj} {i tag w r o : Nat} {rows : List (List AV)} {row : List AV} (ho : (⟨false, tag, w, rows⟩ : AObj) ∈ S) (hrow : rows[r]? = some row) (hc : ∀ a, a ∈ row → a.cell = true) : View S (.ptr i tag w r o) (.cpt row o) :=
  .ptr ho hrow rfl (fun j a ha => hc a (List.mem_of_getElem? ha)) fun j a a' h1 h2 => by rw [h1] at h2; cases h2; exact .refl _

/-- All the objects are handed back. -/
theorem fin_all {Q : AV → List AObj → Nat → Prop} {v : AV} (h : Q v H c) : finW Q v H c := ⟨[], H, H, v, List.Sublist.refl _, .refl _ _, by simp, by simp [tags], .refl v, h⟩

theorem avRows_of {T : List Nat} {o : AObj} (h : ∀ row, row ∈ o.rows → ∀ a, a ∈ row → Av T a) : AvRows T o := fun r j x a hr ha => h x (List.mem_of_getElem? hr) a (List.mem_of_getElem? ha)

/-- A slice of the state's seen as0 a tree. -/
theorem view_ref {α : Type} {enc : α → List AV} {S : List AObj} {i tag w n : Nat} {l : List α} (ho : (⟨false, tag, w, l.map enc⟩ : AObj) ∈ S) (hn : l.length = n) (hc : ∀ x, x ∈ l → ∀ a, a ∈ enc x → a.cell = true) : View S (.ref i tag w n) ((SL.mk tag l).av w enc) :=
  .ref ho (by simp; omega) (by simp [hn]) (fun r x x' h1 h2 => by rw [h1] at h2; cases h2; rfl)
    (fun r j x a hx ha => by
      obtain ⟨y, hy, rfl⟩ := List.mem_map.1 (List.mem_of_getElem? hx)
      exact hc y hy a (List.mem_of_getElem? ha))
    fun r j x x' a a' h1 h2 h3 h4 => by rw [h1] at h2; cases h2; rw [h3] at h4; cases h4; exact .refl _

@[simp high] theorem getW_set {α : Type} (l : List α) (i : Nat) (x : α) (K : α → Prop) : getW (l.set i x) i K = (i < l.length ∧ K x) := by
  unfold getW
  apply propext
  constructor
  · rintro ⟨y, h1, h2⟩
    have hi : i < l.length := by simpa using (List.getElem?_eq_some_iff.1 h1).1
    rw [List.getElem?_set_self hi] at h1
    cases h1
    exact ⟨hi, h2⟩
  · rintro ⟨hi, h2⟩
    exact ⟨x, List.getElem?_set_self hi, h2⟩

/-- Marks: element by element, from a number on. -/
def mks {α : Type} (mk : Int → α → α) (cnt : α → Nat) : Int → List α → List α
  | _, [] => []
  | k, x :: l => mk k x :: mks mk cnt (k + cnt x) l
theorem mks_len {α : Type} (mk : Int → α → α) (cnt : α → Nat) : ∀ (k : Int) (l : List α), (mks mk cnt k l).length = l.length
  | _, [] => rfl
  | k, x :: l => by simp [mks, mks_len mk cnt (k + cnt x) l]
theorem mks_app {α : Type} (mk : Int → α → α) (cnt : α → Nat) : ∀ (k : Int) (l m : List α), mks mk cnt k (l ++ m) = mks mk cnt k l ++ mks mk cnt (k + szL cnt l) m
  | k, [], m => by simp [mks, szL]
  | k, x :: l, m => by
    have e : k + (cnt x : Int) + (szL cnt l : Int) = k + (szL cnt (x :: l) : Int) := by simp [szL]; omega
    simp [mks, mks_app mk cnt (k + cnt x) l m, e]
theorem mks_step {α : Type} (mk : Int → α → α) (cnt : α → Nat) (k : Int) (l : List α) {i : Nat} (h : i < l.length) : mks mk cnt k (l.take (i + 1)) = mks mk cnt k (l.take i) ++ [mk (k + szL cnt (l.take i)) l[i]] := by
  rw [List.take_succ_eq_append_getElem h, mks_app]; rfl
theorem mks_get {α : Type} (mk : Int → α → α) (cnt : α → Nat) (k : Int) (l : List α) {i : Nat} (h : i < l.length) : (mks mk cnt k l)[i]? = some (mk (k + szL cnt (l.take i)) l[i]) := by
  have e : l = l.take i ++ l[i] :: l.drop (i + 1) := by rw [← List.drop_eq_getElem_cons h, List.take_append_drop]
  conv => lhs; rw [e, mks_app]
  rw [List.getElem?_append_right (by rw [mks_len]; simp; omega), mks_len, List.length_take, Nat.min_eq_left (by omega), Nat.sub_self]
  rfl
/-- Marked so far, and not yet. -/
def mixed {α : Type} (mk : Int → α → α) (cnt : α → Nat) (k : Int) (l : List α) (i : Nat) : List α := mks mk cnt k (l.take i) ++ l.drop i
theorem mixed_zero {α : Type} (mk : Int → α → α) (cnt : α → Nat) (k : Int) (l : List α) : mixed mk cnt k l 0 = l := by simp [mixed, mks]
theorem mixed_all {α : Type} (mk : Int → α → α) (cnt : α → Nat) (k : Int) (l : List α) : mixed mk cnt k l l.length = mks mk cnt k l := by simp [mixed]
theorem mixed_len {α : Type} (mk : Int → α → α) (cnt : α → Nat) (k : Int) (l : List α) (i : Nat) : (mixed mk cnt k l i).length = l.length := by simp [mixed, mks_len]; omega
theorem mixed_get {α : Type} (mk : Int → α → α) (cnt : α → Nat) (k : Int) (l : List α) {i : Nat} (h : i < l.length) : (mixed mk cnt k l i)[i]? = some l[i] := by
  unfold mixed
  rw [List.getElem?_append_right (by rw [mks_len]; simp; omega), mks_len, List.length_take, Nat.min_eq_left (by omega), Nat.sub_self, List.getElem?_drop]
  simp [h]
theorem mixed_set {α : Type} (mk : Int → α → α) (cnt : α → Nat) (k : Int) (l : List α) {i : Nat} (h : i < l.length) : (mixed mk cnt k l i).set i (mk (k + szL cnt (l.take i)) l[i]) = mixed mk cnt k l (i + 1) := by
  unfold mixed
  rw [List.set_append_right _ _ (by rw [mks_len]; simp; omega), mks_len, List.length_take, Nat.min_eq_left (by omega), Nat.sub_self, mks_step mk cnt k l h, List.drop_eq_getElem_cons h, List.set_cons_zero]
  simp
end
end A
end Go.Proofs.YtkcilmkienlnoaaGreatDoor

/-
  Slices that stay objects: copies, marks, and what reads marks. No condition.
-/

namespace Go.Proofs.YtkcilmkienlnoaaGreatDoor
namespace A
set_option linter.unusedVariables false
set_option linter.unusedSimpArgs false

/-- Slices of numbers: marks. -/
def markIF : Fun := ⟨19,
  .seq (.reg [o 4 (.mv (.c (.int .i64 0)))])
  (.seq (.seq (.reg [o 5 (.mv (.c (.int .i64 0)))])
  (.block 0 (.loop (.seq (.seq (.reg [o 6 (.mv (.t 5)), o 7 (.mv (.t 0)), o 8 (.lenL (.t 7)), o 9 (.bin .lss (.t 6) (.t 8))])
    (.cond (.t 9) (.skip) (.exit 0)))
    (.seq (.block 1 (.seq (.reg [o 12 (.mv (.t 0)), o 13 (.mv (.t 5)), o 14 (.mv (.t 1)), o 15 (.iaddr 1 (.t 12) (.t 13)), st (.store 1 (.t 15) (.t 14))])
     (.reg [o 16 (.mv (.t 1)), o 17 (.bin .add (.t 16) (.c (.int .i64 1))), o 1 (.mv (.t 17))])))
    (.reg [o 10 (.mv (.t 5)), o 11 (.bin .add (.t 10) (.c (.int .i64 1))), o 5 (.mv (.t 11))]))))))
  (.seq (.reg [o 18 (.mv (.t 1)), o 4 (.mv (.t 18))])
  (.ret))),
  [.tmp 4]⟩
def heldIF : Fun := ⟨21,
  .seq (.reg [o 4 (.mv (.c (.int .i64 0)))])
  (.seq (.seq (.reg [o 5 (.mv (.c (.int .i64 0)))])
  (.block 0 (.loop (.seq (.seq (.reg [o 6 (.mv (.t 5)), o 7 (.mv (.t 0)), o 8 (.lenL (.t 7)), o 9 (.bin .lss (.t 6) (.t 8))])
    (.cond (.t 9) (.skip) (.exit 0)))
    (.seq (.block 1 (.seq (.seq (.reg [o 12 (.mv (.t 0)), o 13 (.mv (.t 5)), o 14 (.iaddr 1 (.t 12) (.t 13)), o 15 (.load none (.t 14)), o 16 (.mv (.t 1)), o 17 (.bin .neq (.t 15) (.t 16))])
     (.cond (.t 17) (.seq (.reg [o 4 (.mv (.c (.int .i64 (-1))))])
      (.ret)) (.skip)))
     (.reg [o 18 (.mv (.t 1)), o 19 (.bin .add (.t 18) (.c (.int .i64 1))), o 1 (.mv (.t 19))])))
    (.reg [o 10 (.mv (.t 5)), o 11 (.bin .add (.t 10) (.c (.int .i64 1))), o 5 (.mv (.t 11))]))))))
  (.seq (.reg [o 20 (.mv (.t 1)), o 4 (.mv (.t 20))])
  (.ret))),
  [.tmp 4]⟩
def mkI (k : Int) (x : Int) : Int := k
def cI (x : Int) : Nat := 1
theorem szL_le_mul {α : Type} (sz : α → Nat) (m : Nat) (h : ∀ x, sz x ≤ m) (l : List α) : szL sz l ≤ m * l.length := by
  induction l with
  | nil => simp [szL]
  | cons x l ih =>
    have := h x
    simp only [szL, List.map_cons, List.sum_cons, List.length_cons, Nat.mul_add] at ih ⊢
    omega
theorem szL_cI (l : List Int) : szL cI l = l.length := by
  induction l with
  | nil => rfl
  | cons x l ih => simp only [szL, List.map_cons, List.sum_cons, List.length_cons] at ih ⊢; rw [ih]; simp [cI]; omega

section
variable {P : Program} {f : Nat}
theorem markI_nil (hf : compF P f = some markIF) (k : Int) : Fnc P f [.nsl, .int .i64 k] (.int .i64 k) := by
  refine fn_of hf (by simp [markIF]) fun c => ?_
  unfold markIF
  simp
  refine loop_drop 0 (fun i e H c' => e 0 = .nsl ∧ e 1 = .int .i64 k ∧ e 5 = .int .i64 0 ∧ H = []) ⟨rfl, rfl, rfl, rfl⟩ ?_
  intro i e H c hi ⟨e0, e1, e5, hH⟩ N hN
  subst hH
  simp [e0, e1, e5]
  exact fin_plain ⟨rfl, rfl⟩
theorem heldI_nil (hf : compF P f = some heldIF) (k : Int) : Fnc P f [.nsl, .int .i64 k] (.int .i64 k) := by
  refine fn_of hf (by simp [heldIF]) fun c => ?_
  unfold heldIF
  simp
  refine loop_drop 0 (fun i e H c' => e 0 = .nsl ∧ e 1 = .int .i64 k ∧ e 5 = .int .i64 0 ∧ H = []) ⟨rfl, rfl, rfl, rfl⟩ ?_
  intro i e H c hi ⟨e0, e1, e5, hH⟩ N hN
  subst hH
  simp [e0, e1, e5]
  exact fin_plain ⟨rfl, rfl⟩
theorem markI_con1 (hf : compF P f = some markIF) {l : List Int} (hn : l.length ≤ 1048576) {k : Int} (hk : 0 ≤ k ∧ k ≤ 1099511627776) (t c : Nat) :
    Con P f [.ref 0 t 1 l.length, .int .i64 k] [⟨false, t, 1, l.map encI⟩] c fun r H' _ => r = .int .i64 (k + l.length) ∧ H' = [⟨false, t, 1, (mks mkI cI k l).map encI⟩] := by
  refine con_of hf (by simp [markIF]) ?_
  unfold markIF
  simp
  refine loop_drop l.length (fun i e H c' => e 0 = .ref 0 t 1 l.length ∧ e 1 = .int .i64 (k + i) ∧ e 5 = .int .i64 i ∧ H = [⟨false, t, 1, (mixed mkI cI k l i).map encI⟩]) ⟨rfl, by simp, rfl, by rw [mixed_zero]⟩ ?_
  intro i e H c hi ⟨e0, e1, e5, hH⟩ N hN
  subst hH
  have hs := mixed_set mkI cI k l (i := i)
  rw [szL_cI, List.length_take, Nat.min_eq_left hi] at hs
  have w1 : IntKind.i64.wrap (k + i + 1) = k + i + 1 := wrap64 (by omega) (by omega)
  simp [e0, e1, e5]
  refine ⟨fun h => ?_, fun h => ?_⟩
  · refine ⟨h, l[i], mixed_get _ _ _ _ h, ?_⟩
    have hs := hs h
    simp [e0, e1, e5, h, mixed_len, w1, putA, encI]
    refine hN _ _ _ _ h (List.Sublist.refl _) ⟨by simp [upd, e0], ?_, by simp [upd]; exact step64 (by unfold mx; omega) h, ?_⟩
    · simp [upd, w1]; omega
    · rw [← hs, List.map_set]; rfl
  · have h1 : i = l.length := by omega
    subst h1
    exact fin_all ⟨rfl, by rw [mixed_all]⟩
theorem heldI_fn1 (hf : compF P f = some heldIF) {l : List Int} (hn : l.length ≤ 1048576) {k : Int} (hk : 0 ≤ k ∧ k ≤ 1099511627776) (t : Nat) :
    Fnc P f [(SL.mk t (mks mkI cI k l)).av 1 encI, .int .i64 k] (.int .i64 (k + l.length)) := by
  refine fn_of hf (by simp [heldIF]) fun c => ?_
  unfold heldIF
  simp
  have hlen := mks_len mkI cI k l
  refine loop_drop l.length (fun i e H c' => e 0 = (SL.mk t (mks mkI cI k l)).av 1 encI ∧ e 1 = .int .i64 (k + i) ∧ e 5 = .int .i64 i ∧ H = []) ⟨rfl, by simp, rfl, rfl⟩ ?_
  intro i e H c hi ⟨e0, e1, e5, hH⟩ N hN
  subst hH
  have hg := fun h : i < l.length => mks_get mkI cI k l h
  rw [szL_cI, List.length_take, Nat.min_eq_left hi] at hg
  have w1 : IntKind.i64.wrap (k + i + 1) = k + i + 1 := wrap64 (by omega) (by omega)
  simp [e0, e1, e5, hlen]
  refine ⟨fun h => ⟨_, hg h, ?_⟩, fun h => ?_⟩
  · simp [e0, e1, e5, h, w1, mkI]
    refine hN _ _ _ _ h (List.Sublist.refl _) ⟨by simp [upd, e0], ?_, by simp [upd]; exact step64 (by unfold mx; omega) h, rfl⟩
    simp [upd, w1]; omega
  · have h1 : i = l.length := by omega
    subst h1
    exact fin_plain ⟨rfl, rfl⟩
end

/-! ### slices as0 objects -/
section
variable {α : Type}
/-- A slice of the state's, and what hangs on it. -/
def wood (t w : Nat) (encO : α → List AV) (inn : α → List AObj) (l : List α) : List AObj := ⟨false, t, w, l.map encO⟩ :: l.flatMap inn
def noInn (_ : α) : List AObj := []
theorem wood_flat (t w : Nat) (encO : α → List AV) (l : List α) : wood t w encO noInn l = [⟨false, t, w, l.map encO⟩] := by
  unfold wood noInn
  have : l.flatMap (fun _ : α => ([] : List AObj)) = [] := by induction l with | nil => rfl | cons x l ih => simp [List.flatMap_cons, ih]
  rw [this]

/-- Nothing in it is frozen. -/
def Free (a : AV) : Prop := ∀ T, Av T a
theorem free_agg {l : List AV} (h : ∀ a, a ∈ l → Free a) : Free (.agg l) := fun T => .agg fun j a ha => h a (List.mem_of_getElem? ha) T
theorem avRows_free {T : List Nat} {o : AObj} (h : ∀ row, row ∈ o.rows → ∀ a, a ∈ row → Free a) : AvRows T o := avRows_of fun row hr a ha => h row hr a ha T

/-- Seen as0 a tree. -/
theorem view_wood1 {enc encO : α → List AV} {inn : α → List AObj} {S : List AObj} {i t w n : Nat} {l : List α} (hs : ∀ o, o ∈ wood t w encO inn l → o ∈ S) (hn : l.length = n) (hc : ∀ x a, a ∈ enc x → a.cell = true)
    (hl : ∀ x, (encO x).length = (enc x).length) (hv : ∀ x, (∀ o, o ∈ inn x → o ∈ S) → ∀ (j : Nat) (a a' : AV), (encO x)[j]? = some a → (enc x)[j]? = some a' → View S a a') : View S (.ref i t w n) ((SL.mk t l).av w enc) := by
  have get : ∀ (r : Nat) (x x' : List AV), (l.map encO)[r]? = some x → (l.map enc)[r]? = some x' → ∃ y, y ∈ l ∧ x = encO y ∧ x' = enc y := fun r x x' h1 h2 => by
    rw [List.getElem?_map] at h1 h2
    obtain ⟨y, hy, rfl⟩ := Option.map_eq_some_iff.1 h1
    rw [hy] at h2
    simp at h2
    exact ⟨y, List.mem_of_getElem? hy, rfl, h2.symm⟩
  refine .ref (hs _ (by unfold wood; exact List.mem_cons_self ..)) (by simp; omega) (by simp [hn]) (fun r x x' h1 h2 => ?_) (fun r j x a hx ha => ?_) fun r j x x' a a' h1 h2 h3 h4 => ?_
  · obtain ⟨y, _, rfl, rfl⟩ := get r x x' h1 h2; exact hl y
  · obtain ⟨y, hy, rfl⟩ := List.mem_map.1 (List.mem_of_getElem? hx)
    exact hc y a (List.mem_of_getElem? ha)
  · obtain ⟨y, hy, rfl, rfl⟩ := get r x x' h1 h2
    exact hv y (fun o ho => hs o (by unfold wood; exact List.mem_cons_of_mem _ (List.mem_flatMap.2 ⟨y, hy, ho⟩))) j a a' h3 h4

/-- A slice, nil or not, as0 objects. -/
def SL.ref (w : Nat) : SL α → AV
  | .nil => .nsl
  | .mk t xs => .ref 0 t w xs.length
def SL.wood (w : Nat) (encO : α → List AV) (inn : α → List AObj) : SL α → List AObj
  | .nil => []
  | .mk t xs => A.wood t w encO inn xs
def SL.marks (mk : Int → α → α) (cnt : α → Nat) (k : Int) : SL α → SL α
  | .nil => .nil
  | .mk t xs => .mk t (mks mk cnt k xs)
theorem SL.marks_len (mk : Int → α → α) (cnt : α → Nat) (k : Int) (s : SL α) : (s.marks mk cnt k).list.length = s.list.length := by
  cases s <;> simp [SL.marks, mks_len]
theorem free_ref (w : Nat) (s : SL α) : Free (s.ref w) := fun T => by cases s <;> constructor
theorem view_wood {enc encO : α → List AV} {inn : α → List AObj} {S : List AObj} {w : Nat} {s : SL α} (hs : ∀ o, o ∈ s.wood w encO inn → o ∈ S) (hc : ∀ x a, a ∈ enc x → a.cell = true)
    (hl : ∀ x, (encO x).length = (enc x).length) (hv : ∀ x, (∀ o, o ∈ inn x → o ∈ S) → ∀ (j : Nat) (a a' : AV), (encO x)[j]? = some a → (enc x)[j]? = some a' → View S a a') : View S (s.ref w) (s.av w enc) := by
  cases s with
  | nil => exact .refl _
  | mk t l => exact view_wood1 hs rfl hc hl hv
theorem view_flat {enc : α → List AV} {S : List AObj} {w : Nat} {s : SL α} (hs : ∀ o, o ∈ s.wood w enc noInn → o ∈ S) (hc : ∀ x a, a ∈ enc x → a.cell = true) : View S (s.ref w) (s.av w enc) :=
  view_wood hs hc (fun _ => rfl) fun x _ j a a' h1 h2 => by rw [h1] at h2; cases h2; exact .refl _
theorem tags_wood {w : Nat} {encO : α → List AV} {inn : α → List AObj} {mk : Int → α → α} {cnt : α → Nat} (hi : ∀ k x, tags (inn (mk k x)) = tags (inn x)) (k : Int) (s : SL α) : tags ((s.marks mk cnt k).wood w encO inn) = tags (s.wood w encO inn) := by
  have key : ∀ (l : List α) (k : Int), tags ((mks mk cnt k l).flatMap inn) = tags (l.flatMap inn) := by
    intro l
    induction l with
    | nil => intro k; rfl
    | cons x l ih =>
      intro k
      have e : ∀ X Y : List AObj, tags (X ++ Y) = tags X ++ tags Y := fun X Y => by simp [tags]
      simp only [mks, List.flatMap_cons, e, hi, ih]
  cases s with
  | nil => rfl
  | mk t l =>
    show t :: tags ((mks mk cnt k l).flatMap inn) = t :: tags (l.flatMap inn)
    rw [key]
theorem free_wood {w : Nat} {encO : α → List AV} {inn : α → List AObj} (hO : ∀ x a, a ∈ encO x → Free a) (hI : ∀ x o, o ∈ inn x → ∀ T, AvRows T o) (s : SL α) : ∀ o, o ∈ s.wood w encO inn → ∀ T, AvRows T o := by
  cases s with
  | nil => intro o ho; cases ho
  | mk t l =>
    intro o ho T
    rcases List.mem_cons.1 ho with rfl | ho
    · exact avRows_free fun row hr a ha => by
        obtain ⟨x, _, rfl⟩ := List.mem_map.1 hr
        exact hO x a ha
    · obtain ⟨x, _, hx⟩ := List.mem_flatMap.1 ho
      exact hI x o hx T
end

section
variable {P : Program} {α : Type} {enc encO : α → List AV} {inn : α → List AObj} {con : α → α} {w : Nat} {f g : Nat}
/-- A copy of a slice, kept as0 objects. -/
theorem toSO_fn {z : List AV} {bytes : Nat} (hf : compF P f = some (toSF w z bytes g)) (hz : z.length = w) (hw : ∀ x, (enc x).length = w) (hwO : ∀ x, (encO x).length = w) (hO : ∀ x a, a ∈ encO x → Free a) (hI : ∀ x o, o ∈ inn x → ∀ T, AvRows T o)
    {s : SL α} (hn : s.list.length * bytes ≤ 281474976710656) (hn' : s.list.length ≤ 281474976710656)
    (hg : ∀ x, x ∈ s.list → ∀ c, Con P g [.agg (enc x)] [] c fun r O _ => ∃ b, r = .agg (encO b) ∧ O = inn b ∧ con b = con x) (c : Nat) :
    Con P f [s.av w enc] [] c fun r H' _ => ∃ b : SL α, r = b.ref w ∧ H' = b.wood w encO inn ∧ b.list.map con = s.list.map con := by
  refine con_of hf (by simp [toSF]) ?_
  unfold toSF
  simp
  refine ⟨by omega, by omega, loop_nat s.list.length (fun i e H c' => e 0 = s.av w enc ∧ e 3 = .ref 0 c w s.list.length ∧ e 4 = .int .i64 i ∧ ∃ ys : List α, ys.length = i ∧ ys.map con = (s.list.take i).map con ∧ H = ⟨false, c, w, grow encO z s.list.length ys⟩ :: ys.flatMap inn)
    ⟨rfl, rfl, rfl, [], rfl, rfl, by rw [grow_nil]; rfl⟩ ?_⟩
  intro i e H c' hi ⟨e0, e3, e4, ys, hy, hcon, hH⟩ N hN
  subst hH
  simp [e0, e3, e4]
  refine ⟨fun h => ⟨s.list[i], List.getElem?_eq_getElem h, ?_⟩, fun h => ?_⟩
  · simp [hw, take_len, e0, e3, e4]
    refine call_new (hg _ (List.getElem_mem h) _) (Views.refl _ _) fun r O c'' hc' ⟨b, hr, hO', hb⟩ _ _ => ?_
    subst hr; subst hO'
    refine ⟨_, .refl _, free_agg (hO b) _, fun o ho => hI b o ho _, ?_⟩
    simp [h, hwO, e0, e3, e4]
    refine ⟨_, grow_get _ _ hy h, hN _ _ _ h ⟨by simp [upd, e0], by simp [upd, e3], by simp [upd]; exact step64 (by unfold mx; omega) h, ys ++ [b], by simp [hy], ?_, ?_⟩⟩
    · rw [List.take_succ_eq_append_getElem h, List.map_append, List.map_append, hcon]; simp [hb]
    · rw [putA_all (by rw [hwO, hz]), grow_set _ _ hy h, List.flatMap_append]
      simp
  · have : i = s.list.length := by omega
    subst this
    rw [grow_all _ _ hy]
    exact fin_all ⟨.mk c ys, by rw [← hy]; rfl, rfl, by simpa using hcon⟩
/-- The same, of plain cells. -/
theorem toPO_fn {v : α → AV} {z : AV} {bytes : Nat} (hf : compF P f = some (toPF z bytes)) (hv : ∀ x (K : List AV → Prop), cellsW (v x) K = K [v x]) {s : SL α} (hn : s.list.length * bytes ≤ 281474976710656) (hn' : s.list.length ≤ 281474976710656) (c : Nat) :
    Con P f [s.av 1 fun x => [v x]] [] c fun r H' _ => ∃ b : SL α, r = b.ref 1 ∧ H' = b.wood 1 (fun x => [v x]) noInn ∧ b.list = s.list := by
  refine con_of hf (by simp [toPF]) ?_
  unfold toPF
  simp
  refine ⟨by omega, by omega, loop_nat s.list.length (fun i e H c' => e 0 = (s.av 1 fun x => [v x]) ∧ e 3 = .ref 0 c 1 s.list.length ∧ e 4 = .int .i64 i ∧ H = [⟨false, c, 1, grow (fun x => [v x]) [z] s.list.length (s.list.take i)⟩]) ⟨rfl, rfl, rfl, by rw [List.take_zero, grow_nil]⟩ ?_⟩
  intro i e H c' hi ⟨e0, e3, e4, hH⟩ N hN
  subst hH
  simp [e0, e3, e4]
  refine ⟨fun h => ⟨s.list[i], List.getElem?_eq_getElem h, ?_⟩, fun h => ?_⟩
  · have hl : (s.list.take i).length = i := by simp; omega
    simp [h, hv, e0, e3, e4]
    refine ⟨_, grow_get _ _ hl h, hN _ _ _ h ⟨by simp [upd, e0], by simp [upd, e3], by simp [upd]; exact step64 (by unfold mx; omega) h, ?_⟩⟩
    rw [List.take_succ_eq_append_getElem h, ← grow_set _ _ hl h]; rfl
  · have : i = s.list.length := by omega
    subst this
    rw [List.take_length, grow_all _ _ rfl]
    exact fin_all ⟨.mk c s.list, rfl, (wood_flat ..).symm, rfl⟩
end
section
variable {P : Program} {f : Nat}
theorem markI_con (hf : compF P f = some markIF) {s : SL Int} (hn : s.list.length ≤ 1048576) {k : Int} (hk : 0 ≤ k ∧ k ≤ 1099511627776) (c : Nat) :
    Con P f [s.ref 1, .int .i64 k] (s.wood 1 encI noInn) c fun r H' _ => r = .int .i64 (k + s.list.length) ∧ H' = (s.marks mkI cI k).wood 1 encI noInn := by
  cases s with
  | nil =>
    have := markI_nil hf k c
    simpa [SL.ref, SL.wood, SL.marks] using this
  | mk t l =>
    have := markI_con1 hf (l := l) hn hk t c
    simpa [SL.ref, SL.wood, SL.marks, wood_flat] using this
theorem heldI_fn (hf : compF P f = some heldIF) {s : SL Int} (hn : s.list.length ≤ 1048576) {k : Int} (hk : 0 ≤ k ∧ k ≤ 1099511627776) :
    Fnc P f [(s.marks mkI cI k).av 1 encI, .int .i64 k] (.int .i64 (k + s.list.length)) := by
  cases s with
  | nil =>
    have := heldI_nil hf k
    simpa [SL.av, SL.marks] using this
  | mk t l => exact heldI_fn1 hf (l := l) hn hk t
end
end A
end Go.Proofs.YtkcilmkienlnoaaGreatDoor
