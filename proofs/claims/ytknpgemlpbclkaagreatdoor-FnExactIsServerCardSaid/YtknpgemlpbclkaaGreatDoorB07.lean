import Derived.Lib.Split
import Derived.Shelf.Strings.OnBuilder
import Derived.Shelf.LaysM
import Derived.Shelf.Strings.Split
import Derived.Test.YtknpgemlpbclkaaGreatDoorProg
import Derived.Below
import Derived.Test.YtknpgemlpbclkaaGreatDoorB06

/-
  The families of helpers over slices (sizes, copies, comparisons): each once, for every element. No condition.
-/

namespace Go.Proofs.YtknpgemlpbclkaaGreatDoor
namespace A
set_option linter.unusedVariables false
set_option linter.unusedSimpArgs false

/-- rows made so far, and the blank ones -/
def grow {α : Type} (f : α → List AV) (z : List AV) (n : Nat) (ys : List α) : List (List AV) := ys.map f ++ List.replicate (n - ys.length) z
theorem grow_nil {α : Type} (f : α → List AV) (z : List AV) (n : Nat) : grow f z n [] = List.replicate n z := by simp [grow]
theorem grow_all {α : Type} (f : α → List AV) (z : List AV) {n : Nat} {ys : List α} (h : ys.length = n) : grow f z n ys = ys.map f := by simp [grow, h]
theorem grow_len {α : Type} (f : α → List AV) (z : List AV) {n : Nat} {ys : List α} (h : ys.length ≤ n) : (grow f z n ys).length = n := by simp [grow]; omega
theorem grow_get {α : Type} (f : α → List AV) (z : List AV) {n i : Nat} {ys : List α} (hi : ys.length = i) (h : i < n) : (grow f z n ys)[i]? = some z := by
  unfold grow
  rw [List.getElem?_append_right (by simp; omega), List.length_map, hi, Nat.sub_self, List.getElem?_replicate, if_pos (by omega)]
theorem grow_set {α : Type} (f : α → List AV) (z : List AV) {n i : Nat} {ys : List α} (hi : ys.length = i) (h : i < n) (y : α) : (grow f z n ys).set i (f y) = grow f z n (ys ++ [y]) := by
  unfold grow
  have e : n - ys.length = (n - (i + 1)) + 1 := by omega
  rw [e, List.replicate_succ, List.set_append_right _ _ (by simp; omega), List.length_map, hi, Nat.sub_self, List.set_cons_zero]
  simp [hi]

theorem from_agg_mem {c : Nat} {l : List AV} (h : From c (.agg l)) : ∀ a, a ∈ l → From c a := fun a ha T hT => by
  have := h T hT
  cases this with
  | agg h => obtain ⟨j, hj, e⟩ := List.mem_iff_getElem.1 ha; exact h j a (by rw [← e]; exact List.getElem?_eq_getElem hj)

theorem take_len {α : Type} (l : List α) {w : Nat} (h : l.length = w) : l.take w = l := by rw [List.take_of_length_le (by omega)]
/-- A copy of a slice, element by element, by a function. -/
def toSF (w : Nat) (z : List AV) (bytes g : Nat) : Fun := ⟨23,
  .seq (.reg [o 2 (.mv (.c .nsl))])
  (.seq (.reg [o 5 (.mv (.t 0)), o 6 (.lenL (.t 5)), o 7 (.mkslice w z bytes (.t 6) (.t 6)), o 3 (.mv (.t 7))])
  (.seq (.seq (.reg [o 4 (.mv (.c (.int .i64 0)))])
  (.block 0 (.loop (.seq (.seq (.reg [o 8 (.mv (.t 4)), o 9 (.mv (.t 0)), o 10 (.lenL (.t 9)), o 11 (.bin .lss (.t 8) (.t 10))])
    (.cond (.t 11) (.skip) (.exit 0)))
    (.seq (.block 1 (.reg [o 14 (.mv (.t 3)), o 15 (.mv (.t 4)), o 16 (.mv (.t 0)), o 17 (.mv (.t 4)), o 18 (.iaddr w (.t 16) (.t 17)), o 19 (.load (some w) (.t 18)), o 20 (.call g [(.t 19)]), o 21 (.iaddr w (.t 14) (.t 15)), st (.store w (.t 21) (.t 20))]))
    (.reg [o 12 (.mv (.t 4)), o 13 (.bin .add (.t 12) (.c (.int .i64 1))), o 4 (.mv (.t 13))]))))))
  (.seq (.reg [o 22 (.mv (.t 3)), o 2 (.mv (.t 22))])
  (.ret)))),
  [.tmp 2]⟩

/-- The same, of plain elements. -/
def toPF (z : AV) (bytes : Nat) : Fun := ⟨22,
  .seq (.reg [o 2 (.mv (.c .nsl))])
  (.seq (.reg [o 5 (.mv (.t 0)), o 6 (.lenL (.t 5)), o 7 (.mkslice 1 [z] bytes (.t 6) (.t 6)), o 3 (.mv (.t 7))])
  (.seq (.seq (.reg [o 4 (.mv (.c (.int .i64 0)))])
  (.block 0 (.loop (.seq (.seq (.reg [o 8 (.mv (.t 4)), o 9 (.mv (.t 0)), o 10 (.lenL (.t 9)), o 11 (.bin .lss (.t 8) (.t 10))])
    (.cond (.t 11) (.skip) (.exit 0)))
    (.seq (.block 1 (.reg [o 14 (.mv (.t 3)), o 15 (.mv (.t 4)), o 16 (.mv (.t 0)), o 17 (.mv (.t 4)), o 18 (.iaddr 1 (.t 16) (.t 17)), o 19 (.load none (.t 18)), o 20 (.iaddr 1 (.t 14) (.t 15)), st (.store 1 (.t 20) (.t 19))]))
    (.reg [o 12 (.mv (.t 4)), o 13 (.bin .add (.t 12) (.c (.int .i64 1))), o 4 (.mv (.t 13))]))))))
  (.seq (.reg [o 21 (.mv (.t 3)), o 2 (.mv (.t 21))])
  (.ret)))),
  [.tmp 2]⟩

/-- A slice's size: its elements' and their number. -/
def szSF (w g : Nat) : Fun := ⟨27,
  .seq (.reg [o 4 (.mv (.c (.int .i64 0)))])
  (.seq (.reg [o 6 (.mv (.t 1)), o 7 (.mv (.t 0)), o 8 (.lenL (.t 7)), o 9 (.bin .sub (.t 6) (.t 8)), o 1 (.mv (.t 9))])
  (.seq (.seq (.reg [o 10 (.mv (.t 1)), o 11 (.bin .lss (.t 10) (.c (.int .i64 0)))])
  (.cond (.t 11) (.seq (.reg [o 4 (.mv (.c (.int .i64 (-1))))])
   (.ret)) (.skip)))
  (.seq (.seq (.reg [o 5 (.mv (.c (.int .i64 0)))])
  (.block 0 (.loop (.seq (.seq (.reg [o 12 (.mv (.t 5)), o 13 (.mv (.t 0)), o 14 (.lenL (.t 13)), o 15 (.bin .lss (.t 12) (.t 14))])
    (.cond (.t 15) (.skip) (.exit 0)))
    (.seq (.block 1 (.seq (.reg [o 18 (.mv (.t 0)), o 19 (.mv (.t 5)), o 20 (.iaddr w (.t 18) (.t 19)), o 21 (.load (some w) (.t 20)), o 22 (.mv (.t 1)), o 23 (.call g [(.t 21), (.t 22)]), o 1 (.mv (.t 23))])
     (.seq (.reg [o 24 (.mv (.t 1)), o 25 (.bin .lss (.t 24) (.c (.int .i64 0)))])
     (.cond (.t 25) (.seq (.reg [o 4 (.mv (.c (.int .i64 (-1))))])
      (.ret)) (.skip)))))
    (.reg [o 16 (.mv (.t 5)), o 17 (.bin .add (.t 16) (.c (.int .i64 1))), o 5 (.mv (.t 17))]))))))
  (.seq (.reg [o 26 (.mv (.t 1)), o 4 (.mv (.t 26))])
  (.ret))))),
  [.tmp 4]⟩

/-- Two slices, compared by a function. -/
def eqSF (w g : Nat) : Fun := ⟨27,
  .seq (.reg [o 4 (.mv (.c (.bool false)))])
  (.seq (.seq (.reg [o 6 (.mv (.t 0)), o 7 (.lenL (.t 6)), o 8 (.mv (.t 1)), o 9 (.lenL (.t 8)), o 10 (.bin .neq (.t 7) (.t 9))])
  (.cond (.t 10) (.seq (.reg [o 4 (.mv (.c (.bool false)))])
   (.ret)) (.skip)))
  (.seq (.seq (.reg [o 5 (.mv (.c (.int .i64 0)))])
  (.block 0 (.loop (.seq (.seq (.reg [o 11 (.mv (.t 5)), o 12 (.mv (.t 0)), o 13 (.lenL (.t 12)), o 14 (.bin .lss (.t 11) (.t 13))])
    (.cond (.t 14) (.skip) (.exit 0)))
    (.seq (.block 1 (.seq (.reg [o 17 (.mv (.t 0)), o 18 (.mv (.t 5)), o 19 (.iaddr w (.t 17) (.t 18)), o 20 (.load (some w) (.t 19)), o 21 (.mv (.t 1)), o 22 (.mv (.t 5)), o 23 (.iaddr w (.t 21) (.t 22)), o 24 (.load (some w) (.t 23)), o 25 (.callF g [(.t 20), (.t 24)]), o 26 (.un .not (.t 25))])
     (.cond (.t 26) (.seq (.reg [o 4 (.mv (.c (.bool false)))])
      (.ret)) (.skip))))
    (.reg [o 15 (.mv (.t 5)), o 16 (.bin .add (.t 15) (.c (.int .i64 1))), o 5 (.mv (.t 16))]))))))
  (.seq (.reg [o 4 (.mv (.c (.bool true)))])
  (.ret)))),
  [.tmp 4]⟩

def eqPF : Fun := ⟨26,
  .seq (.reg [o 4 (.mv (.c (.bool false)))])
  (.seq (.seq (.reg [o 6 (.mv (.t 0)), o 7 (.lenL (.t 6)), o 8 (.mv (.t 1)), o 9 (.lenL (.t 8)), o 10 (.bin .neq (.t 7) (.t 9))])
  (.cond (.t 10) (.seq (.reg [o 4 (.mv (.c (.bool false)))])
   (.ret)) (.skip)))
  (.seq (.seq (.reg [o 5 (.mv (.c (.int .i64 0)))])
  (.block 0 (.loop (.seq (.seq (.reg [o 11 (.mv (.t 5)), o 12 (.mv (.t 0)), o 13 (.lenL (.t 12)), o 14 (.bin .lss (.t 11) (.t 13))])
    (.cond (.t 14) (.skip) (.exit 0)))
    (.seq (.block 1 (.seq (.reg [o 17 (.mv (.t 0)), o 18 (.mv (.t 5)), o 19 (.iaddr 1 (.t 17) (.t 18)), o 20 (.load none (.t 19)), o 21 (.mv (.t 1)), o 22 (.mv (.t 5)), o 23 (.iaddr 1 (.t 21) (.t 22)), o 24 (.load none (.t 23)), o 25 (.bin .neq (.t 20) (.t 24))])
     (.cond (.t 25) (.seq (.reg [o 4 (.mv (.c (.bool false)))])
      (.ret)) (.skip))))
    (.reg [o 15 (.mv (.t 5)), o 16 (.bin .add (.t 15) (.c (.int .i64 1))), o 5 (.mv (.t 16))]))))))
  (.seq (.reg [o 4 (.mv (.c (.bool true)))])
  (.ret)))),
  [.tmp 4]⟩

section
variable {P : Program} {α : Type} {enc : α → List AV} {con : α → α} {w : Nat} {f g : Nat}

theorem toS_fn {z : List AV} {bytes : Nat} (hf : compF P f = some (toSF w z bytes g)) (hz : z.length = w) (hw : ∀ x, (enc x).length = w) (hcell : ∀ x a, a ∈ enc x → a.cell = true) {s : SL α} (hn : s.list.length * bytes ≤ 281474976710656) (hn' : s.list.length ≤ 281474976710656)
    (hg : ∀ x, x ∈ s.list → Tr P g [.agg (enc x)] fun _ r => ∃ b, r = .agg (enc b) ∧ con b = con x) :
    Tr P f [s.av w enc] fun _ r => ∃ b : SL α, r = b.av w enc ∧ b.list.map con = s.list.map con := by
  intro c
  refine con_of hf (by simp [toSF]) ?_
  unfold toSF
  simp
  refine ⟨by omega, by omega, loop_nat s.list.length (fun i e H c' => c ≤ c' ∧ e 0 = s.av w enc ∧ e 3 = .ref 0 c w s.list.length ∧ e 4 = .int .i64 i ∧ ∃ ys : List α, ys.length = i ∧ ys.map con = (s.list.take i).map con ∧ (∀ y ∈ ys, From c (.agg (enc y))) ∧ H = [⟨false, c, w, grow enc z s.list.length ys⟩])
    ⟨by omega, rfl, rfl, rfl, [], rfl, rfl, by simp, by rw [grow_nil]⟩ ?_⟩
  intro i e H c' hi ⟨hc, e0, e3, e4, ys, hy, hcon, hfr, hH⟩ N hN
  subst hH
  simp [e0, e3, e4]
  refine ⟨fun h => ⟨s.list[i], List.getElem?_eq_getElem h, ?_⟩, fun h => ?_⟩
  · simp [hw, take_len, e0, e3, e4]
    refine call_tree0 (hg _ (List.getElem_mem h)) fun r c'' hc' ⟨b, hr, hb⟩ hf => ?_
    subst hr
    simp [h, hw, e0, e3, e4]
    refine ⟨_, grow_get _ _ hy h, hN _ _ _ h ⟨by omega, by simp [upd, e0], by simp [upd, e3], by simp [upd]; exact step64 (by unfold mx; omega) h, ys ++ [b], by simp [hy], ?_, ?_, ?_⟩⟩
    · rw [List.take_succ_eq_append_getElem h, List.map_append, List.map_append, hcon]; simp [hb]
    · intro y hym
      rcases List.mem_append.1 hym with h1 | h1
      · exact hfr y h1
      · simp at h1; subst h1; exact hf.mono hc
    · rw [putA_all (by rw [hw, hz]), grow_set _ _ hy h]
  · have : i = s.list.length := by omega
    subst this
    rw [grow_all _ _ hy]
    refine fin_slc (by simp) (by simpa using hy) (by simp; exact fun x _ a ha => hcell x a ha) ⟨rfl, ⟨.mk c ys, rfl, by simpa using hcon⟩, from_slc (Nat.le_refl _) ?_⟩
    simp [e0, e3, e4]
    exact fun y hym a ha => from_agg_mem (hfr y hym) a ha

theorem szS_fn (hf : compF P f = some (szSF w g)) (hw : ∀ x, (enc x).length = w) {sz : α → Nat} {s : SL α} (hn : s.list.length ≤ mx) {left : Int} (hl : Room left)
    (hg : ∀ x, x ∈ s.list → ∀ left, Room left → Fnc P g [.agg (enc x), .int .i64 left] (.int .i64 (szOf (sz x) left))) :
    Fnc P f [s.av w enc, .int .i64 left] (.int .i64 (szOf (s.list.length + szL sz s.list) left)) := by
  refine fn_of hf (by simp [szSF]) fun c => ?_
  unfold szSF
  simp [szOf_wrap hn hl]
  constructor
  · intro h; exact fin_plain (by simp; unfold szOf; split <;> omega)
  · intro h
    refine loop_nat s.list.length (fun i e H c => e 0 = s.av w enc ∧ e 5 = .int .i64 i ∧ e 1 = .int .i64 (left - s.list.length - szL sz (s.list.take i)) ∧ 0 ≤ left - s.list.length - szL sz (s.list.take i) ∧ H = []) ⟨rfl, rfl, by simp [szL], by simpa [szL] using h, rfl⟩ ?_
    intro i e H c hi ⟨e0, e5, e1, hp, hH⟩ N hN
    subst hH
    simp [e0, e5, e1]
    refine ⟨fun h => ⟨s.list[i], List.getElem?_eq_getElem h, ?_⟩, fun h => ?_⟩
    · have hr : Room (left - s.list.length - szL sz (s.list.take i)) := ⟨by omega, by have := hl.2; omega⟩
      have hst : szL sz (s.list.take (i + 1)) = szL sz (s.list.take i) + sz s.list[i] := szL_step _ _ h
      have hle := szL_le sz s.list (i + 1)
      simp [hw, take_len, e0, e5, e1]
      refine call_fn0 (hg _ (List.getElem_mem h) _ hr) .int fun c' _ => ?_
      simp [e0, e5, e1]
      unfold szOf
      split
      · refine ⟨fun h' => by omega, fun h' => hN _ _ _ h ⟨by simp [upd, e0], ?_, by simp [upd]; omega, by omega, rfl⟩⟩
        simp [upd]; exact step64 hn h
      · refine ⟨fun h' => fin_plain (by rw [if_neg (by omega)]; exact ⟨rfl, rfl⟩), fun h' => by omega⟩
    · have : i = s.list.length := by omega
      subst this
      refine fin_plain ⟨?_, rfl⟩
      rw [List.take_length] at hp ⊢
      unfold szOf
      rw [if_pos (by push_cast; omega)]
      congr 1
      push_cast; omega

theorem eqS_fn (hf : compF P f = some (eqSF w g)) (hw : ∀ x, (enc x).length = w) {s t : SL α} (hn : s.list.length ≤ mx) (he : s.list.map con = t.list.map con)
    (hg : ∀ x, x ∈ s.list → ∀ y, con x = con y → Fnc P g [.agg (enc x), .agg (enc y)] (.bool true)) : Fnc P f [s.av w enc, t.av w enc] (.bool true) := by
  have hlen : s.list.length = t.list.length := by have := congrArg List.length he; simpa using this
  refine fn_of hf (by simp [eqSF]) fun c => ?_
  unfold eqSF
  simp [hlen]
  refine loop_nat s.list.length (fun i e H c => e 0 = s.av w enc ∧ e 1 = t.av w enc ∧ e 5 = .int .i64 i ∧ H = []) ⟨rfl, rfl, rfl, rfl⟩ ?_
  intro i e H c hi ⟨e0, e1, e5, hH⟩ N hN
  subst hH
  simp [e0, e1, e5]
  refine ⟨fun h => ⟨s.list[i], List.getElem?_eq_getElem h, ?_⟩, fun h => fin_plain ⟨rfl, rfl⟩⟩
  have ht : i < t.list.length := by omega
  have hc : con s.list[i] = con t.list[i] := by
    have h1 : (s.list.map con)[i]? = (t.list.map con)[i]? := by rw [he]
    simpa [h, ht] using h1
  simp [hw, take_len, e0, e1, e5]
  refine ⟨t.list[i], List.getElem?_eq_getElem ht, ?_⟩
  simp [hw, take_len, e0, e1, e5]
  refine callF_fn0 (hg _ (List.getElem_mem h) _ hc) .bool fun c' _ => ?_
  simp [e0, e1, e5]
  exact hN _ _ _ h ⟨by simp [upd, e0], by simp [upd, e1], by simp [upd]; exact step64 hn h, rfl⟩

theorem toP_fn {v : α → AV} {z : AV} {bytes : Nat} (hf : compF P f = some (toPF z bytes)) (hc : ∀ x, (v x).cell = true) (hfr : ∀ x c, From c (v x)) (hv : ∀ x (K : List AV → Prop), cellsW (v x) K = K [v x]) {s : SL α} (hn : s.list.length * bytes ≤ 281474976710656) (hn' : s.list.length ≤ 281474976710656) :
    Tr P f [s.av 1 fun x => [v x]] fun _ r => ∃ t, r = (SL.mk t s.list).av 1 fun x => [v x] := by
  intro c
  refine con_of hf (by simp [toPF]) ?_
  unfold toPF
  simp
  refine ⟨by omega, by omega, loop_nat s.list.length (fun i e H c' => e 0 = (s.av 1 fun x => [v x]) ∧ e 3 = .ref 0 c 1 s.list.length ∧ e 4 = .int .i64 i ∧ H = [⟨false, c, 1, grow (fun x => [v x]) [z] s.list.length (s.list.take i)⟩]) ⟨rfl, rfl, rfl, by rw [List.take_zero, grow_nil]⟩ ?_⟩
  intro i e H c' hi ⟨e0, e3, e4, hH⟩ N hN
  subst hH
  simp [e0, e3, e4]
  refine ⟨fun h => ⟨s.list[i], List.getElem?_eq_getElem h, ?_⟩, fun h => ?_⟩
  · have hl : (s.list.take i).length = i := by simp; omega
    simp [h, hv, e0, e3, e4]
    refine ⟨_, grow_get _ _ hl h, hN _ _ _ h ⟨by simp [upd, e0], by simp [upd, e3], by simp [upd]; exact step64 (by unfold mx; omega) h, ?_⟩⟩
    rw [List.take_succ_eq_append_getElem h, ← grow_set _ _ hl h]; rfl
  · have : i = s.list.length := by omega
    subst this
    rw [List.take_length, grow_all _ _ rfl]
    refine fin_slc (by simp) (by simp) (by simp; exact fun x _ => hc x) ⟨rfl, ⟨c, rfl⟩, from_slc (Nat.le_refl _) ?_⟩
    simp [e0, e3, e4]
    exact fun x _ => hfr x c

theorem eqP_fn {v : α → AV} (hf : compF P f = some eqPF) (hv : ∀ x (K : AV → Prop), binW .neq (v x) (v x) K = K (.bool false)) {s t : SL α} (hn : s.list.length ≤ mx) (he : s.list = t.list) : Fnc P f [s.av 1 fun x => [v x], t.av 1 fun x => [v x]] (.bool true) := by
  refine fn_of hf (by simp [eqPF]) fun c => ?_
  unfold eqPF
  simp [← he]
  refine loop_nat s.list.length (fun i e H c => e 0 = (s.av 1 fun x => [v x]) ∧ e 1 = (t.av 1 fun x => [v x]) ∧ e 5 = .int .i64 i ∧ H = []) ⟨rfl, rfl, rfl, rfl⟩ ?_
  intro i e H c hi ⟨e0, e1, e5, hH⟩ N hN
  subst hH
  simp [e0, e1, e5]
  refine ⟨fun h => ⟨s.list[i], List.getElem?_eq_getElem h, ?_⟩, fun h => fin_plain ⟨rfl, rfl⟩⟩
  simp [e0, e1, e5]
  refine ⟨s.list[i], by rw [← he]; exact List.getElem?_eq_getElem h, ?_⟩
  simp [hv, e0, e1, e5]
  exact hN _ _ _ h ⟨by simp [upd, e0], by simp [upd, e1], by simp [upd]; exact step64 hn h, rfl⟩

/-- A slice's size, of elements without one. -/
def szPF : Fun := ⟨12,
  .seq (.reg [o 4 (.mv (.c (.int .i64 0)))])
  (.seq (.reg [o 5 (.mv (.t 1)), o 6 (.mv (.t 0)), o 7 (.lenL (.t 6)), o 8 (.bin .sub (.t 5) (.t 7)), o 1 (.mv (.t 8))])
  (.seq (.seq (.reg [o 9 (.mv (.t 1)), o 10 (.bin .lss (.t 9) (.c (.int .i64 0)))])
  (.cond (.t 10) (.seq (.reg [o 4 (.mv (.c (.int .i64 (-1))))])
   (.ret)) (.skip)))
  (.seq (.reg [o 11 (.mv (.t 1)), o 4 (.mv (.t 11))])
  (.ret)))),
  [.tmp 4]⟩
theorem szP_fn (hf : compF P f = some szPF) {s : SL α} (hn : s.list.length ≤ mx) {left : Int} (hl : Room left) : Fnc P f [s.av w enc, .int .i64 left] (.int .i64 (szOf s.list.length left)) := by
  refine fn_of hf (by simp [szPF]) fun c => ?_
  unfold szPF
  simp [szOf_wrap hn hl]
  unfold szOf
  constructor
  · intro h; exact fin_plain (by simp; omega)
  · intro h; exact fin_plain (by simp; omega)

theorem szOf_neg {n : Nat} {left : Int} (h : left < n) : szOf n left = -1 := if_neg (by omega)
theorem szOf_lt {n : Nat} {left : Int} (h : szOf n left < 0) : left < n := by unfold szOf at h; split at h <;> omega
theorem szOf_ge {n : Nat} {left : Int} (h : 0 ≤ szOf n left) : szOf n left = left - n ∧ n ≤ left := by unfold szOf at *; split at h <;> first | (rw [if_pos (by assumption)]; exact ⟨rfl, by assumption⟩) | omega
theorem szL_mem {sz : α → Nat} {l : List α} {x : α} (h : x ∈ l) : sz x ≤ szL sz l := by
  obtain ⟨i, hi, rfl⟩ := List.mem_iff_getElem.1 h
  have h1 := szL_step sz l hi
  have h2 := szL_le sz l (i + 1)
  omega
theorem szL_map {sz : α → Nat} (h : ∀ x, sz (con x) = sz x) (l : List α) : szL sz (l.map con) = szL sz l := by
  unfold szL; rw [List.map_map]; congr 1; exact List.map_congr_left fun x _ => h x

/-! ### shapes -/
theorem sh_int {n : Nat} {t : TypeId} {k : IntKind} (hu : P.underlying t = some (.int k)) {a : AV} (h : ShC P n t [a]) : ∃ i, a = .int k i ∧ IOk k i := by
  cases n with
  | zero => exact h.elim
  | succ n => simp only [ShC, hu] at h; obtain ⟨i, h1, h2⟩ := h; cases h1; exact ⟨i, rfl, h2⟩
theorem sh_bool {n : Nat} {t : TypeId} (hu : P.underlying t = some .bool) {a : AV} (h : ShC P n t [a]) : ∃ b, a = .bool b := by
  cases n with
  | zero => exact h.elim
  | succ n => simp only [ShC, hu] at h; obtain ⟨i, h1⟩ := h; cases h1; exact ⟨i, rfl⟩
theorem sh_str {n : Nat} {t : TypeId} (hu : P.underlying t = some .string) {a : AV} (h : ShC P n t [a]) : ∃ l, a = .str l ∧ l.length ≤ mx := by
  cases n with
  | zero => exact h.elim
  | succ n => simp only [ShC, hu] at h; obtain ⟨i, h1, h2⟩ := h; cases h1; exact ⟨i, rfl, h2⟩
theorem rows_typed {ok : α → Prop} : ∀ (rows : List (List AV)), (∀ row, row ∈ rows → ∃ x, row = enc x ∧ ok x) → ∃ xs : List α, rows = xs.map enc ∧ ∀ x, x ∈ xs → ok x := by
  intro rows
  induction rows with
  | nil => intro _; exact ⟨[], rfl, by simp⟩
  | cons r rows ih =>
    intro h
    obtain ⟨x, hx, ox⟩ := h r (List.mem_cons_self ..)
    obtain ⟨xs, hxs, oxs⟩ := ih fun row hr => h row (List.mem_cons_of_mem _ hr)
    exact ⟨x :: xs, by simp [hx, hxs], by simpa using ⟨ox, oxs⟩⟩
theorem sh_slc {ok : α → Prop} {n : Nat} {t el : TypeId} (hu : P.underlying t = some (.slice el)) (hw : P.cellsOf el = w) (he : ∀ n row, ShC P n el row → ∃ x, row = enc x ∧ ok x) {a : AV} (h : ShC P n t [a]) :
    ∃ s : SL α, a = s.av w enc ∧ s.list.length ≤ mx ∧ ∀ x, x ∈ s.list → ok x := by
  cases n with
  | zero => exact h.elim
  | succ n =>
    simp only [ShC, hu] at h
    rcases h with h | ⟨tag, rows, h1, h2, h3⟩
    · cases h; exact ⟨.nil, rfl, by simp, by simp⟩
    · cases h1
      obtain ⟨xs, hxs, ox⟩ := rows_typed (enc := enc) (ok := ok) rows fun row hr => he n row (h3 row hr)
      subst hxs
      exact ⟨.mk tag xs, by rw [hw]; rfl, by simpa using h2, by simpa using ox⟩
theorem sh_struct {n : Nat} {t : TypeId} {fs : Array Field} (hu : P.underlying t = some (.struct fs)) {as0 : List AV} (h : ShC P n t as0) : ∃ m, as0.length = P.cellsOf t ∧ ∀ f, f ∈ fs.toList → ShC P m f.type ((as0.drop f.offset).take (P.cellsOf f.type)) := by
  cases n with
  | zero => exact h.elim
  | succ n => simp only [ShC, hu] at h; exact ⟨n, h⟩
def fieldsAre (P : Program) (t : TypeId) (l : List (TypeId × Nat)) : Bool :=
  match P.underlying t with
  | some (.struct fs) => (fs.toList.map fun f => (f.type, f.offset)) == l
  | _ => false
theorem sh_fields {n : Nat} {t : TypeId} {l : List (TypeId × Nat)} (hu : fieldsAre P t l = true) {as0 : List AV} (h : ShC P n t as0) : ∃ m, as0.length = P.cellsOf t ∧ ∀ p, p ∈ l → ShC P m p.1 ((as0.drop p.2).take (P.cellsOf p.1)) := by
  unfold fieldsAre at hu
  split at hu
  · rename_i fs hfs
    simp only [beq_iff_eq] at hu
    obtain ⟨m, h1, h2⟩ := sh_struct hfs h
    refine ⟨m, h1, fun p hp => ?_⟩
    rw [← hu] at hp
    obtain ⟨f, hf, rfl⟩ := List.mem_map.1 hp
    exact h2 f hf
  · cases hu
theorem sh_int1 {n : Nat} {t : TypeId} {k : IntKind} (hu : P.underlying t = some (.int k)) {row : List AV} (h : ShC P n t row) : ∃ i, row = [.int k i] ∧ IOk k i := by
  cases n with
  | zero => exact h.elim
  | succ n => simp only [ShC, hu] at h; exact h
theorem sh_str1 {n : Nat} {t : TypeId} (hu : P.underlying t = some .string) {row : List AV} (h : ShC P n t row) : ∃ l, row = [.str l] ∧ l.length ≤ mx := by
  cases n with
  | zero => exact h.elim
  | succ n => simp only [ShC, hu] at h; exact h
theorem sh_bool1 {n : Nat} {t : TypeId} (hu : P.underlying t = some .bool) {row : List AV} (h : ShC P n t row) : ∃ b, row = [.bool b] := by
  cases n with
  | zero => exact h.elim
  | succ n => simp only [ShC, hu] at h; exact h
end
end A
end Go.Proofs.YtknpgemlpbclkaaGreatDoor

/-
  Calls that are handed objects, or hand objects back. No condition.
-/

namespace Go.Proofs.YtknpgemlpbclkaaGreatDoor
namespace A
set_option linter.unusedVariables false
section
variable {P : Program} {H : List AObj} {c : Nat} {K : AV → List AObj → Nat → Prop}

theorem From.nil {c : Nat} {a : AV} (h : From c a) : Av [] a := h [] (by simp)

/-- A call that is handed all the objects. -/
theorem call_con {f : Nat} {as0 : List AV} {Q : AV → List AObj → Nat → Prop} (hf : Con P f as0 H c Q)
    (k : ∀ r H' c', c ≤ c' → Q r H' c' → (∀ t, t < c → t ∈ tags H' → t ∈ tags H) → (tags H').Nodup → Av [] r ∧ (∀ o, o ∈ H' → AvRows [] o) ∧ K r H' c') : CallW P f as0 H c K := by
  intro hn hlt
  obtain ⟨h1, h2⟩ := (Views.refl [] as0).spec
  refine ⟨H, [], as0, Q, List.Sublist.refl _, by simp, by simp [tags], h1, h2, hf, fun r H' c' hc hq ho hd => ?_⟩
  obtain ⟨k1, k2, k3⟩ := k r H' c' hc hq ho hd
  exact ⟨H', r, fun o h => .inl h, hd, .refl r, k1, fun o h _ => k2 o h, k3⟩

/-- Any run of objects may be left out of a call, and only read there. -/
theorem call_part {f : Nat} {as0 as' : List AV} {H1 S : List AObj} {Q : AV → List AObj → Nat → Prop} (hsub : H1.Sublist H) (hS : ∀ o, o ∈ S → o ∈ H) (hd : ∀ t, t ∈ tags H1 → t ∉ tags S) (hv : Views S as0 as') (hf : Con P f as' H1 c Q)
    (k : ∀ r H1' c', c ≤ c' → Q r H1' c' → (∀ t, t < c → t ∈ tags H1' → t ∈ tags H1) → (tags H1').Nodup → ∃ H' r', (∀ o, o ∈ H' → o ∈ H1' ∨ (o ∈ H ∧ o.tag ∉ tags H1)) ∧ (tags H').Nodup ∧ View [] r r' ∧ Av (tags S) r' ∧
      (∀ o, o ∈ H' → o ∈ H1' → AvRows (tags S) o) ∧ K r' H' c') : CallW P f as0 H c K := by
  intro hn hlt
  obtain ⟨h1, h2⟩ := hv.spec
  exact ⟨H1, S, as', Q, hsub, hS, hd, h1, h2, hf, k⟩

/-- A call that reads the objects and hands back objects of its own. -/
theorem call_new {f : Nat} {as0 as' : List AV} {Q : AV → List AObj → Nat → Prop} (hf : Con P f as' [] c Q) (hv : Views H as0 as')
    (k : ∀ r O c', c ≤ c' → Q r O c' → (∀ t, t ∈ tags O → c ≤ t) → (tags O).Nodup → ∃ r', View [] r r' ∧ Av (tags H) r' ∧ (∀ o, o ∈ O → AvRows (tags H) o) ∧ K r' (H ++ O) c') : CallW P f as0 H c K := by
  intro hn hlt
  obtain ⟨h1, h2⟩ := hv.spec
  refine ⟨[], H, as', Q, List.nil_sublist _, fun o h => h, by simp [tags], h1, h2, hf, fun r O c' hc hq ho hd => ?_⟩
  have hfresh : ∀ t, t ∈ tags O → c ≤ t := fun t ht => by
    rcases Nat.lt_or_ge t c with h | h
    · have := ho t h ht; simp [tags] at this
    · exact h
  obtain ⟨r', k1, k2, k3, k4⟩ := k r O c' hc hq hfresh hd
  refine ⟨H ++ O, r', fun o h => ?_, ?_, k1, k2, fun o _ h => k3 o h, k4⟩
  · rcases List.mem_append.1 h with h | h
    · exact .inr ⟨h, by simp [tags]⟩
    · exact .inl h
  · have : tags (H ++ O) = tags H ++ tags O := by simp [tags]
    rw [this]
    refine List.nodup_append.2 ⟨hn, hd, fun a ha b hb hab => ?_⟩
    subst hab
    exact absurd (hlt a ha) (Nat.not_lt.2 (hfresh a hb))

/-- A call that is handed some of the objects, and leaves them in their places. -/
theorem call_mid {f : Nat} {as0 as' : List AV} {A B C : List AObj} {Q : AV → List AObj → Nat → Prop} (hf : Con P f as' B c Q) (hv : Views [] as0 as')
    (k : ∀ r B' c', c ≤ c' → Q r B' c' → tags B' = tags B ∧ Av [] r ∧ (∀ o, o ∈ B' → AvRows [] o) ∧ K r (A ++ B' ++ C) c') : CallW P f as0 (A ++ B ++ C) c K := by
  intro hn hlt
  obtain ⟨h1, h2⟩ := hv.spec
  have hsub : B.Sublist (A ++ B ++ C) := (List.sublist_append_right A B).trans (List.sublist_append_left _ _)
  refine ⟨B, [], as', Q, hsub, by simp, by simp [tags], h1, h2, hf, fun r B' c' hc hq ho hd => ?_⟩
  obtain ⟨k0, k1, k2, k3⟩ := k r B' c' hc hq
  have e : ∀ X, tags (A ++ X ++ C) = tags A ++ tags X ++ tags C := fun X => by simp [tags]
  have hn' := hn
  rw [e] at hn'
  refine ⟨A ++ B' ++ C, r, fun o h => ?_, by rw [e, k0, ← e]; exact hn, .refl r, k1, fun o _ h => k2 o h, k3⟩
  rw [List.append_assoc] at h
  have hAB := List.nodup_append.1 hn'
  have hA := List.nodup_append.1 hAB.1
  rcases List.mem_append.1 h with h | h
  · exact .inr ⟨by simp [h], fun hb => hA.2.2 _ (mem_tags h) _ hb rfl⟩
  · rcases List.mem_append.1 h with h | h
    · exact .inl h
    · exact .inr ⟨by simp [h], fun hb => hAB.2.2 _ (List.mem_append_right _ hb) _ (mem_tags h) rfl⟩

@[simp] theorem callvW_fn (f : Nat) (caps as0 : List AV) : callvW P (.fn f caps) as0 H c K = (bodyOk P f = true ∧ CallW P f (as0 ++ caps) H c K) := (rfl)

/-- A variable seen as0 what it holds. -/
theorem view_ptr {S : List AObj} {i tag w r o : Nat} {rows : List (List AV)} {row : List AV} (ho : (⟨false, tag, w, rows⟩ : AObj) ∈ S) (hrow : rows[r]? = some row) (hc : ∀ a, a ∈ row → a.cell = true) : View S (.ptr i tag w r o) (.cpt row o) :=
  .ptr ho hrow rfl (fun j a ha => hc a (List.mem_of_getElem? ha)) fun j a a' h1 h2 => by rw [h1] at h2; cases h2; exact .refl _

/-- All the objects are handed back. -/
theorem fin_all {Q : AV → List AObj → Nat → Prop} {v : AV} (h : Q v H c) : finW Q v H c := ⟨[], H, H, v, List.Sublist.refl _, .refl _ _, by simp, by simp [tags], .refl v, h⟩

theorem avRows_of {T : List Nat} {o : AObj} (h : ∀ row, row ∈ o.rows → ∀ a, a ∈ row → Av T a) : AvRows T o := fun r j x a hr ha => h x (List.mem_of_getElem? hr) a (List.mem_of_getElem? ha)

/-- A slice of the state's seen as0 a tree. -/
theorem view_ref {α : Type} {enc : α → List AV} {S : List AObj} {i tag w n : Nat} {l : List α} (ho : (⟨false, tag, w, l.map enc⟩ : AObj) ∈ S) (hn : l.length = n) (hc : ∀ x, x ∈ l → ∀ a, a ∈ enc x → a.cell = true) : View S (.ref i tag w n) ((SL.mk tag l).av w enc) :=
  .ref ho (by simp; omega) (by simp [hn]) (fun r x x' h1 h2 => by rw [h1] at h2; cases h2; rfl)
    (fun r j x a hx ha => by
      obtain ⟨y, hy, rfl⟩ := List.mem_map.1 (List.mem_of_getElem? hx)
      exact hc y hy a (List.mem_of_getElem? ha))
    fun r j x x' a a' h1 h2 h3 h4 => by rw [h1] at h2; cases h2; rw [h3] at h4; cases h4; exact .refl _

@[simp high] theorem getW_set {α : Type} (l : List α) (i : Nat) (x : α) (K : α → Prop) : getW (l.set i x) i K = (i < l.length ∧ K x) := by
  unfold getW
  apply propext
  constructor
  · rintro ⟨y, h1, h2⟩
    have hi : i < l.length := by simpa using (List.getElem?_eq_some_iff.1 h1).1
    rw [List.getElem?_set_self hi] at h1
    cases h1
    exact ⟨hi, h2⟩
  · rintro ⟨hi, h2⟩
    exact ⟨x, List.getElem?_set_self hi, h2⟩

/-- Marks: element by element, from a number on. -/
def mks {α : Type} (mk : Int → α → α) (cnt : α → Nat) : Int → List α → List α
  | _, [] => []
  | k, x :: l => mk k x :: mks mk cnt (k + cnt x) l
theorem mks_len {α : Type} (mk : Int → α → α) (cnt : α → Nat) : ∀ (k : Int) (l : List α), (mks mk cnt k l).length = l.length
  | _, [] => rfl
  | k, x :: l => by simp [mks, mks_len mk cnt (k + cnt x) l]
theorem mks_app {α : Type} (mk : Int → α → α) (cnt : α → Nat) : ∀ (k : Int) (l m : List α), mks mk cnt k (l ++ m) = mks mk cnt k l ++ mks mk cnt (k + szL cnt l) m
  | k, [], m => by simp [mks, szL]
  | k, x :: l, m => by
    have e : k + (cnt x : Int) + (szL cnt l : Int) = k + (szL cnt (x :: l) : Int) := by simp [szL]; omega
    simp [mks, mks_app mk cnt (k + cnt x) l m, e]
theorem mks_step {α : Type} (mk : Int → α → α) (cnt : α → Nat) (k : Int) (l : List α) {i : Nat} (h : i < l.length) : mks mk cnt k (l.take (i + 1)) = mks mk cnt k (l.take i) ++ [mk (k + szL cnt (l.take i)) l[i]] := by
  rw [List.take_succ_eq_append_getElem h, mks_app]; rfl
theorem mks_get {α : Type} (mk : Int → α → α) (cnt : α → Nat) (k : Int) (l : List α) {i : Nat} (h : i < l.length) : (mks mk cnt k l)[i]? = some (mk (k + szL cnt (l.take i)) l[i]) := by
  have e : l = l.take i ++ l[i] :: l.drop (i + 1) := by rw [← List.drop_eq_getElem_cons h, List.take_append_drop]
  conv => lhs; rw [e, mks_app]
  rw [List.getElem?_append_right (by rw [mks_len]; simp; omega), mks_len, List.length_take, Nat.min_eq_left (by omega), Nat.sub_self]
  rfl
/-- Marked so far, and not yet. -/
def mixed {α : Type} (mk : Int → α → α) (cnt : α → Nat) (k : Int) (l : List α) (i : Nat) : List α := mks mk cnt k (l.take i) ++ l.drop i
theorem mixed_zero {α : Type} (mk : Int → α → α) (cnt : α → Nat) (k : Int) (l : List α) : mixed mk cnt k l 0 = l := by simp [mixed, mks]
theorem mixed_all {α : Type} (mk : Int → α → α) (cnt : α → Nat) (k : Int) (l : List α) : mixed mk cnt k l l.length = mks mk cnt k l := by simp [mixed]
theorem mixed_len {α : Type} (mk : Int → α → α) (cnt : α → Nat) (k : Int) (l : List α) (i : Nat) : (mixed mk cnt k l i).length = l.length := by simp [mixed, mks_len]; omega
theorem mixed_get {α : Type} (mk : Int → α → α) (cnt : α → Nat) (k : Int) (l : List α) {i : Nat} (h : i < l.length) : (mixed mk cnt k l i)[i]? = some l[i] := by
  unfold mixed
  rw [List.getElem?_append_right (by rw [mks_len]; simp; omega), mks_len, List.length_take, Nat.min_eq_left (by omega), Nat.sub_self, List.getElem?_drop]
  simp [h]
theorem mixed_set {α : Type} (mk : Int → α → α) (cnt : α → Nat) (k : Int) (l : List α) {i : Nat} (h : i < l.length) : (mixed mk cnt k l i).set i (mk (k + szL cnt (l.take i)) l[i]) = mixed mk cnt k l (i + 1) := by
  unfold mixed
  rw [List.set_append_right _ _ (by rw [mks_len]; simp; omega), mks_len, List.length_take, Nat.min_eq_left (by omega), Nat.sub_self, mks_step mk cnt k l h, List.drop_eq_getElem_cons h, List.set_cons_zero]
  simp
end
end A
end Go.Proofs.YtknpgemlpbclkaaGreatDoor

/-
  Slices that stay objects: copies, marks, and what reads marks. No condition.
-/

namespace Go.Proofs.YtknpgemlpbclkaaGreatDoor
namespace A
set_option linter.unusedVariables false
set_option linter.unusedSimpArgs false

/-- Slices of numbers: marks. -/
def markIF : Fun := ⟨19,
  .seq (.reg [o 4 (.mv (.c (.int .i64 0)))])
  (.seq (.seq (.reg [o 5 (.mv (.c (.int .i64 0)))])
  (.block 0 (.loop (.seq (.seq (.reg [o 6 (.mv (.t 5)), o 7 (.mv (.t 0)), o 8 (.lenL (.t 7)), o 9 (.bin .lss (.t 6) (.t 8))])
    (.cond (.t 9) (.skip) (.exit 0)))
    (.seq (.block 1 (.seq (.reg [o 12 (.mv (.t 0)), o 13 (.mv (.t 5)), o 14 (.mv (.t 1)), o 15 (.iaddr 1 (.t 12) (.t 13)), st (.store 1 (.t 15) (.t 14))])
     (.reg [o 16 (.mv (.t 1)), o 17 (.bin .add (.t 16) (.c (.int .i64 1))), o 1 (.mv (.t 17))])))
    (.reg [o 10 (.mv (.t 5)), o 11 (.bin .add (.t 10) (.c (.int .i64 1))), o 5 (.mv (.t 11))]))))))
  (.seq (.reg [o 18 (.mv (.t 1)), o 4 (.mv (.t 18))])
  (.ret))),
  [.tmp 4]⟩
def heldIF : Fun := ⟨21,
  .seq (.reg [o 4 (.mv (.c (.int .i64 0)))])
  (.seq (.seq (.reg [o 5 (.mv (.c (.int .i64 0)))])
  (.block 0 (.loop (.seq (.seq (.reg [o 6 (.mv (.t 5)), o 7 (.mv (.t 0)), o 8 (.lenL (.t 7)), o 9 (.bin .lss (.t 6) (.t 8))])
    (.cond (.t 9) (.skip) (.exit 0)))
    (.seq (.block 1 (.seq (.seq (.reg [o 12 (.mv (.t 0)), o 13 (.mv (.t 5)), o 14 (.iaddr 1 (.t 12) (.t 13)), o 15 (.load none (.t 14)), o 16 (.mv (.t 1)), o 17 (.bin .neq (.t 15) (.t 16))])
     (.cond (.t 17) (.seq (.reg [o 4 (.mv (.c (.int .i64 (-1))))])
      (.ret)) (.skip)))
     (.reg [o 18 (.mv (.t 1)), o 19 (.bin .add (.t 18) (.c (.int .i64 1))), o 1 (.mv (.t 19))])))
    (.reg [o 10 (.mv (.t 5)), o 11 (.bin .add (.t 10) (.c (.int .i64 1))), o 5 (.mv (.t 11))]))))))
  (.seq (.reg [o 20 (.mv (.t 1)), o 4 (.mv (.t 20))])
  (.ret))),
  [.tmp 4]⟩
def mkI (k : Int) (x : Int) : Int := k
def cI (x : Int) : Nat := 1
theorem szL_le_mul {α : Type} (sz : α → Nat) (m : Nat) (h : ∀ x, sz x ≤ m) (l : List α) : szL sz l ≤ m * l.length := by
  induction l with
  | nil => simp [szL]
  | cons x l ih =>
    have := h x
    simp only [szL, List.map_cons, List.sum_cons, List.length_cons, Nat.mul_add] at ih ⊢
    omega
theorem szL_cI (l : List Int) : szL cI l = l.length := by
  induction l with
  | nil => rfl
  | cons x l ih => simp only [szL, List.map_cons, List.sum_cons, List.length_cons] at ih ⊢; rw [ih]; simp [cI]; omega

section
variable {P : Program} {f : Nat}
theorem markI_nil (hf : compF P f = some markIF) (k : Int) : Fnc P f [.nsl, .int .i64 k] (.int .i64 k) := by
  refine fn_of hf (by simp [markIF]) fun c => ?_
  unfold markIF
  simp
  refine loop_drop 0 (fun i e H c' => e 0 = .nsl ∧ e 1 = .int .i64 k ∧ e 5 = .int .i64 0 ∧ H = []) ⟨rfl, rfl, rfl, rfl⟩ ?_
  intro i e H c hi ⟨e0, e1, e5, hH⟩ N hN
  subst hH
  simp [e0, e1, e5]
  exact fin_plain ⟨rfl, rfl⟩
theorem heldI_nil (hf : compF P f = some heldIF) (k : Int) : Fnc P f [.nsl, .int .i64 k] (.int .i64 k) := by
  refine fn_of hf (by simp [heldIF]) fun c => ?_
  unfold heldIF
  simp
  refine loop_drop 0 (fun i e H c' => e 0 = .nsl ∧ e 1 = .int .i64 k ∧ e 5 = .int .i64 0 ∧ H = []) ⟨rfl, rfl, rfl, rfl⟩ ?_
  intro i e H c hi ⟨e0, e1, e5, hH⟩ N hN
  subst hH
  simp [e0, e1, e5]
  exact fin_plain ⟨rfl, rfl⟩
theorem markI_con1 (hf : compF P f = some markIF) {l : List Int} (hn : l.length ≤ 1048576) {k : Int} (hk : 0 ≤ k ∧ k ≤ 1099511627776) (t c : Nat) :
    Con P f [.ref 0 t 1 l.length, .int .i64 k] [⟨false, t, 1, l.map encI⟩] c fun r H' _ => r = .int .i64 (k + l.length) ∧ H' = [⟨false, t, 1, (mks mkI cI k l).map encI⟩] := by
  refine con_of hf (by simp [markIF]) ?_
  unfold markIF
  simp
  refine loop_drop l.length (fun i e H c' => e 0 = .ref 0 t 1 l.length ∧ e 1 = .int .i64 (k + i) ∧ e 5 = .int .i64 i ∧ H = [⟨false, t, 1, (mixed mkI cI k l i).map encI⟩]) ⟨rfl, by simp, rfl, by rw [mixed_zero]⟩ ?_
  intro i e H c hi ⟨e0, e1, e5, hH⟩ N hN
  subst hH
  have hs := mixed_set mkI cI k l (i := i)
  rw [szL_cI, List.length_take, Nat.min_eq_left hi] at hs
  have w1 : IntKind.i64.wrap (k + i + 1) = k + i + 1 := wrap64 (by omega) (by omega)
  simp [e0, e1, e5]
  refine ⟨fun h => ?_, fun h => ?_⟩
  · refine ⟨h, l[i], mixed_get _ _ _ _ h, ?_⟩
    have hs := hs h
    simp [e0, e1, e5, h, mixed_len, w1, putA, encI]
    refine hN _ _ _ _ h (List.Sublist.refl _) ⟨by simp [upd, e0], ?_, by simp [upd]; exact step64 (by unfold mx; omega) h, ?_⟩
    · simp [upd, w1]; omega
    · rw [← hs, List.map_set]; rfl
  · have h1 : i = l.length := by omega
    subst h1
    exact fin_all ⟨rfl, by rw [mixed_all]⟩
theorem heldI_fn1 (hf : compF P f = some heldIF) {l : List Int} (hn : l.length ≤ 1048576) {k : Int} (hk : 0 ≤ k ∧ k ≤ 1099511627776) (t : Nat) :
    Fnc P f [(SL.mk t (mks mkI cI k l)).av 1 encI, .int .i64 k] (.int .i64 (k + l.length)) := by
  refine fn_of hf (by simp [heldIF]) fun c => ?_
  unfold heldIF
  simp
  have hlen := mks_len mkI cI k l
  refine loop_drop l.length (fun i e H c' => e 0 = (SL.mk t (mks mkI cI k l)).av 1 encI ∧ e 1 = .int .i64 (k + i) ∧ e 5 = .int .i64 i ∧ H = []) ⟨rfl, by simp, rfl, rfl⟩ ?_
  intro i e H c hi ⟨e0, e1, e5, hH⟩ N hN
  subst hH
  have hg := fun h : i < l.length => mks_get mkI cI k l h
  rw [szL_cI, List.length_take, Nat.min_eq_left hi] at hg
  have w1 : IntKind.i64.wrap (k + i + 1) = k + i + 1 := wrap64 (by omega) (by omega)
  simp [e0, e1, e5, hlen]
  refine ⟨fun h => ⟨_, hg h, ?_⟩, fun h => ?_⟩
  · simp [e0, e1, e5, h, w1, mkI]
    refine hN _ _ _ _ h (List.Sublist.refl _) ⟨by simp [upd, e0], ?_, by simp [upd]; exact step64 (by unfold mx; omega) h, rfl⟩
    simp [upd, w1]; omega
  · have h1 : i = l.length := by omega
    subst h1
    exact fin_plain ⟨rfl, rfl⟩
end

/-! ### slices as0 objects -/
section
variable {α : Type}
/-- A slice of the state's, and what hangs on it. -/
def wood (t w : Nat) (encO : α → List AV) (inn : α → List AObj) (l : List α) : List AObj := ⟨false, t, w, l.map encO⟩ :: l.flatMap inn
def noInn (_ : α) : List AObj := []
theorem wood_flat (t w : Nat) (encO : α → List AV) (l : List α) : wood t w encO noInn l = [⟨false, t, w, l.map encO⟩] := by
  unfold wood noInn
  have : l.flatMap (fun _ : α => ([] : List AObj)) = [] := by induction l with | nil => rfl | cons x l ih => simp [List.flatMap_cons, ih]
  rw [this]

/-- Nothing in it is frozen. -/
def Free (a : AV) : Prop := ∀ T, Av T a
theorem free_agg {l : List AV} (h : ∀ a, a ∈ l → Free a) : Free (.agg l) := fun T => .agg fun j a ha => h a (List.mem_of_getElem? ha) T
theorem avRows_free {T : List Nat} {o : AObj} (h : ∀ row, row ∈ o.rows → ∀ a, a ∈ row → Free a) : AvRows T o := avRows_of fun row hr a ha => h row hr a ha T

/-- Seen as0 a tree. -/
theorem view_wood1 {enc encO : α → List AV} {inn : α → List AObj} {S : List AObj} {i t w n : Nat} {l : List α} (hs : ∀ o, o ∈ wood t w encO inn l → o ∈ S) (hn : l.length = n) (hc : ∀ x a, a ∈ enc x → a.cell = true)
    (hl : ∀ x, (encO x).length = (enc x).length) (hv : ∀ x, (∀ o, o ∈ inn x → o ∈ S) → ∀ (j : Nat) (a a' : AV), (encO x)[j]? = some a → (enc x)[j]? = some a' → View S a a') : View S (.ref i t w n) ((SL.mk t l).av w enc) := by
  have get : ∀ (r : Nat) (x x' : List AV), (l.map encO)[r]? = some x → (l.map enc)[r]? = some x' → ∃ y, y ∈ l ∧ x = encO y ∧ x' = enc y := fun r x x' h1 h2 => by
    rw [List.getElem?_map] at h1 h2
    obtain ⟨y, hy, rfl⟩ := Option.map_eq_some_iff.1 h1
    rw [hy] at h2
    simp at h2
    exact ⟨y, List.mem_of_getElem? hy, rfl, h2.symm⟩
  refine .ref (hs _ (by unfold wood; exact List.mem_cons_self ..)) (by simp; omega) (by simp [hn]) (fun r x x' h1 h2 => ?_) (fun r j x a hx ha => ?_) fun r j x x' a a' h1 h2 h3 h4 => ?_
  · obtain ⟨y, _, rfl, rfl⟩ := get r x x' h1 h2; exact hl y
  · obtain ⟨y, hy, rfl⟩ := List.mem_map.1 (List.mem_of_getElem? hx)
    exact hc y a (List.mem_of_getElem? ha)
  · obtain ⟨y, hy, rfl, rfl⟩ := get r x x' h1 h2
    exact hv y (fun o ho => hs o (by unfold wood; exact List.mem_cons_of_mem _ (List.mem_flatMap.2 ⟨y, hy, ho⟩))) j a a' h3 h4

/-- A slice, nil or not, as0 objects. -/
def SL.ref (w : Nat) : SL α → AV
  | .nil => .nsl
  | .mk t xs => .ref 0 t w xs.length
def SL.wood (w : Nat) (encO : α → List AV) (inn : α → List AObj) : SL α → List AObj
  | .nil => []
  | .mk t xs => A.wood t w encO inn xs
def SL.marks (mk : Int → α → α) (cnt : α → Nat) (k : Int) : SL α → SL α
  | .nil => .nil
  | .mk t xs => .mk t (mks mk cnt k xs)
theorem SL.marks_len (mk : Int → α → α) (cnt : α → Nat) (k : Int) (s : SL α) : (s.marks mk cnt k).list.length = s.list.length := by
  cases s <;> simp [SL.marks, mks_len]
theorem free_ref (w : Nat) (s : SL α) : Free (s.ref w) := fun T => by cases s <;> constructor
theorem view_wood {enc encO : α → List AV} {inn : α → List AObj} {S : List AObj} {w : Nat} {s : SL α} (hs : ∀ o, o ∈ s.wood w encO inn → o ∈ S) (hc : ∀ x a, a ∈ enc x → a.cell = true)
    (hl : ∀ x, (encO x).length = (enc x).length) (hv : ∀ x, (∀ o, o ∈ inn x → o ∈ S) → ∀ (j : Nat) (a a' : AV), (encO x)[j]? = some a → (enc x)[j]? = some a' → View S a a') : View S (s.ref w) (s.av w enc) := by
  cases s with
  | nil => exact .refl _
  | mk t l => exact view_wood1 hs rfl hc hl hv
theorem view_flat {enc : α → List AV} {S : List AObj} {w : Nat} {s : SL α} (hs : ∀ o, o ∈ s.wood w enc noInn → o ∈ S) (hc : ∀ x a, a ∈ enc x → a.cell = true) : View S (s.ref w) (s.av w enc) :=
  view_wood hs hc (fun _ => rfl) fun x _ j a a' h1 h2 => by rw [h1] at h2; cases h2; exact .refl _
theorem tags_wood {w : Nat} {encO : α → List AV} {inn : α → List AObj} {mk : Int → α → α} {cnt : α → Nat} (hi : ∀ k x, tags (inn (mk k x)) = tags (inn x)) (k : Int) (s : SL α) : tags ((s.marks mk cnt k).wood w encO inn) = tags (s.wood w encO inn) := by
  have key : ∀ (l : List α) (k : Int), tags ((mks mk cnt k l).flatMap inn) = tags (l.flatMap inn) := by
    intro l
    induction l with
    | nil => intro k; rfl
    | cons x l ih =>
      intro k
      have e : ∀ X Y : List AObj, tags (X ++ Y) = tags X ++ tags Y := fun X Y => by simp [tags]
      simp only [mks, List.flatMap_cons, e, hi, ih]
  cases s with
  | nil => rfl
  | mk t l =>
    show t :: tags ((mks mk cnt k l).flatMap inn) = t :: tags (l.flatMap inn)
    rw [key]
theorem free_wood {w : Nat} {encO : α → List AV} {inn : α → List AObj} (hO : ∀ x a, a ∈ encO x → Free a) (hI : ∀ x o, o ∈ inn x → ∀ T, AvRows T o) (s : SL α) : ∀ o, o ∈ s.wood w encO inn → ∀ T, AvRows T o := by
  cases s with
  | nil => intro o ho; cases ho
  | mk t l =>
    intro o ho T
    rcases List.mem_cons.1 ho with rfl | ho
    · exact avRows_free fun row hr a ha => by
        obtain ⟨x, _, rfl⟩ := List.mem_map.1 hr
        exact hO x a ha
    · obtain ⟨x, _, hx⟩ := List.mem_flatMap.1 ho
      exact hI x o hx T
end

section
variable {P : Program} {α : Type} {enc encO : α → List AV} {inn : α → List AObj} {con : α → α} {w : Nat} {f g : Nat}
/-- A copy of a slice, kept as0 objects. -/
theorem toSO_fn {z : List AV} {bytes : Nat} (hf : compF P f = some (toSF w z bytes g)) (hz : z.length = w) (hw : ∀ x, (enc x).length = w) (hwO : ∀ x, (encO x).length = w) (hO : ∀ x a, a ∈ encO x → Free a) (hI : ∀ x o, o ∈ inn x → ∀ T, AvRows T o)
    {s : SL α} (hn : s.list.length * bytes ≤ 281474976710656) (hn' : s.list.length ≤ 281474976710656)
    (hg : ∀ x, x ∈ s.list → ∀ c, Con P g [.agg (enc x)] [] c fun r O _ => ∃ b, r = .agg (encO b) ∧ O = inn b ∧ con b = con x) (c : Nat) :
    Con P f [s.av w enc] [] c fun r H' _ => ∃ b : SL α, r = b.ref w ∧ H' = b.wood w encO inn ∧ b.list.map con = s.list.map con := by
  refine con_of hf (by simp [toSF]) ?_
  unfold toSF
  simp
  refine ⟨by omega, by omega, loop_nat s.list.length (fun i e H c' => e 0 = s.av w enc ∧ e 3 = .ref 0 c w s.list.length ∧ e 4 = .int .i64 i ∧ ∃ ys : List α, ys.length = i ∧ ys.map con = (s.list.take i).map con ∧ H = ⟨false, c, w, grow encO z s.list.length ys⟩ :: ys.flatMap inn)
    ⟨rfl, rfl, rfl, [], rfl, rfl, by rw [grow_nil]; rfl⟩ ?_⟩
  intro i e H c' hi ⟨e0, e3, e4, ys, hy, hcon, hH⟩ N hN
  subst hH
  simp [e0, e3, e4]
  refine ⟨fun h => ⟨s.list[i], List.getElem?_eq_getElem h, ?_⟩, fun h => ?_⟩
  · simp [hw, take_len, e0, e3, e4]
    refine call_new (hg _ (List.getElem_mem h) _) (Views.refl _ _) fun r O c'' hc' ⟨b, hr, hO', hb⟩ _ _ => ?_
    subst hr; subst hO'
    refine ⟨_, .refl _, free_agg (hO b) _, fun o ho => hI b o ho _, ?_⟩
    simp [h, hwO, e0, e3, e4]
    refine ⟨_, grow_get _ _ hy h, hN _ _ _ h ⟨by simp [upd, e0], by simp [upd, e3], by simp [upd]; exact step64 (by unfold mx; omega) h, ys ++ [b], by simp [hy], ?_, ?_⟩⟩
    · rw [List.take_succ_eq_append_getElem h, List.map_append, List.map_append, hcon]; simp [hb]
    · rw [putA_all (by rw [hwO, hz]), grow_set _ _ hy h, List.flatMap_append]
      simp
  · have : i = s.list.length := by omega
    subst this
    rw [grow_all _ _ hy]
    exact fin_all ⟨.mk c ys, by rw [← hy]; rfl, rfl, by simpa using hcon⟩
/-- The same, of plain cells. -/
theorem toPO_fn {v : α → AV} {z : AV} {bytes : Nat} (hf : compF P f = some (toPF z bytes)) (hv : ∀ x (K : List AV → Prop), cellsW (v x) K = K [v x]) {s : SL α} (hn : s.list.length * bytes ≤ 281474976710656) (hn' : s.list.length ≤ 281474976710656) (c : Nat) :
    Con P f [s.av 1 fun x => [v x]] [] c fun r H' _ => ∃ b : SL α, r = b.ref 1 ∧ H' = b.wood 1 (fun x => [v x]) noInn ∧ b.list = s.list := by
  refine con_of hf (by simp [toPF]) ?_
  unfold toPF
  simp
  refine ⟨by omega, by omega, loop_nat s.list.length (fun i e H c' => e 0 = (s.av 1 fun x => [v x]) ∧ e 3 = .ref 0 c 1 s.list.length ∧ e 4 = .int .i64 i ∧ H = [⟨false, c, 1, grow (fun x => [v x]) [z] s.list.length (s.list.take i)⟩]) ⟨rfl, rfl, rfl, by rw [List.take_zero, grow_nil]⟩ ?_⟩
  intro i e H c' hi ⟨e0, e3, e4, hH⟩ N hN
  subst hH
  simp [e0, e3, e4]
  refine ⟨fun h => ⟨s.list[i], List.getElem?_eq_getElem h, ?_⟩, fun h => ?_⟩
  · have hl : (s.list.take i).length = i := by simp; omega
    simp [h, hv, e0, e3, e4]
    refine ⟨_, grow_get _ _ hl h, hN _ _ _ h ⟨by simp [upd, e0], by simp [upd, e3], by simp [upd]; exact step64 (by unfold mx; omega) h, ?_⟩⟩
    rw [List.take_succ_eq_append_getElem h, ← grow_set _ _ hl h]; rfl
  · have : i = s.list.length := by omega
    subst this
    rw [List.take_length, grow_all _ _ rfl]
    exact fin_all ⟨.mk c s.list, rfl, (wood_flat ..).symm, rfl⟩
end
section
variable {P : Program} {f : Nat}
theorem markI_con (hf : compF P f = some markIF) {s : SL Int} (hn : s.list.length ≤ 1048576) {k : Int} (hk : 0 ≤ k ∧ k ≤ 1099511627776) (c : Nat) :
    Con P f [s.ref 1, .int .i64 k] (s.wood 1 encI noInn) c fun r H' _ => r = .int .i64 (k + s.list.length) ∧ H' = (s.marks mkI cI k).wood 1 encI noInn := by
  cases s with
  | nil =>
    have := markI_nil hf k c
    simpa [SL.ref, SL.wood, SL.marks] using this
  | mk t l =>
    have := markI_con1 hf (l := l) hn hk t c
    simpa [SL.ref, SL.wood, SL.marks, wood_flat] using this
theorem heldI_fn (hf : compF P f = some heldIF) {s : SL Int} (hn : s.list.length ≤ 1048576) {k : Int} (hk : 0 ≤ k ∧ k ≤ 1099511627776) :
    Fnc P f [(s.marks mkI cI k).av 1 encI, .int .i64 k] (.int .i64 (k + s.list.length)) := by
  cases s with
  | nil =>
    have := heldI_nil hf k
    simpa [SL.av, SL.marks] using this
  | mk t l => exact heldI_fn1 hf (l := l) hn hk t
end
end A
end Go.Proofs.YtknpgemlpbclkaaGreatDoor

/-
  Slices handed back as0 objects, and the same seen as0 trees; appends. No condition.
-/

namespace Go.Proofs.YtknpgemlpbclkaaGreatDoor
namespace A
set_option linter.unusedVariables false
set_option linter.unusedSimpArgs false

theorem szL_const {α : Type} (n : Nat) (l : List α) : szL (fun _ => n) l = n * l.length := by
  induction l with
  | nil => simp [szL]
  | cons x l ih => simp [szL] at ih ⊢; rw [Nat.mul_add]; omega

section
variable {P : Program} {H : List AObj} {c : Nat} {K : AV → List AObj → Nat → Prop}
@[simp] theorem srcW_slc (wd t w : Nat) (rows : List (List AV)) (K : List (List AV) → Prop) : srcW wd (.slc t w rows) H K = (w = wd ∧ K rows) := (rfl)
@[simp] theorem srcW_nsl (wd : Nat) (K : List (List AV) → Prop) : srcW wd .nsl H K = K [] := (rfl)
@[simp] theorem srcW_str (wd : Nat) (l : List UInt8) (K : List (List AV) → Prop) : srcW wd (.str l) H K = (wd = 1 ∧ K (l.map byteRow)) := (rfl)
@[simp] theorem srcW_ref (wd j t w n : Nat) (K : List (List AV) → Prop) : srcW wd (.ref j t w n) H K = (w = wd ∧ getW H j fun ob => ob.tag = t ∧ ob.mp = false ∧ ob.w = w ∧ n ≤ ob.rows.length ∧ K (ob.rows.take n)) := (rfl)
@[simp] theorem srcW_sl {α : Type} (w : Nat) (f : α → List AV) (s : SL α) (K : List (List AV) → Prop) : srcW w (s.av w f) H K = K (s.list.map f) := by
  cases s <;> simp [SL.av]
@[simp] theorem appendW_ref (wd b i t w n : Nat) (y : AV) : appendW wd b (.ref i t w n) y H c K = srcW wd y H fun rows' => w = wd ∧ getW H i fun ob => ob.tag = t ∧ ob.mp = false ∧ ob.w = w ∧ cutW ob.rows n fun rs => (n + rows'.length) * b ≤ 140737488355328 ∧ n + rows'.length ≤ mx ∧
        K (.ref i c wd (n + rows'.length)) (H.set i ⟨false, c, wd, rs ++ rows'⟩) (c + 1) := (rfl)
@[simp] theorem cutW_all {rows : List (List AV)} {n : Nat} (h : rows.length = n) (K : List (List AV) → Prop) : cutW rows n K = K rows := by
  subst h; simp [cutW]
@[simp] theorem appendW_nsl (wd b : Nat) (y : AV) : appendW wd b .nsl y H c K = srcW wd y H fun rows' => (rows' = [] → K .nsl H c) ∧ (rows' ≠ [] → rows'.length * b ≤ 140737488355328 ∧ rows'.length ≤ mx ∧ K (.ref H.length c wd rows'.length) (H ++ [⟨false, c, wd, rows'⟩]) (c + 1)) := (rfl)

theorem tr_fn {f : Nat} {l : List AV} {res : AV} (hf : Fnc P f l res) (hfr : ∀ c, From c res) : Tr P f l fun _ r => r = res := fun c => (hf c).mono fun r H' c' _ ⟨h1, h2⟩ => ⟨h2, h1, h1 ▸ hfr c⟩
theorem callD_fn0 {R : AV → Prop} {f : Nat} {l : List AV} {K : AV → Prop} {res : AV} (hf : Fnc P f l res) (hR : ∀ v, R v ↔ v = res) (hfr : ∀ c, From c res) (k : K res) : callD P R f l H c K :=
  ⟨l, Views.refl _ _, (fun c => (hf c).mono fun r H' c' _ ⟨h1, h2⟩ => ⟨h2, (hR r).2 h1, h1 ▸ hfr c⟩), ⟨res, (hR res).2 rfl, hfr c⟩, fun r hr _ => by rw [(hR r).1 hr]; exact k⟩
theorem callD_tree0 {R : AV → Prop} {f : Nat} {l : List AV} {K : AV → Prop} (hf : Tr P f l fun _ r => R r) (hx : ∃ r, R r ∧ From c r) (k : ∀ r, R r → From c r → K r) : callD P R f l H c K := ⟨l, Views.refl _ _, hf, hx, k⟩

theorem toStrW_ref {i t n : Nat} {l : List UInt8} {K : AV → Prop} (ho : H[i]? = some ⟨false, t, 1, l.map byteRow⟩) (hn : l.length = n) (hl : l.length ≤ mx) (k : K (.str l)) : toStrW (.ref i t 1 n) H K := by
  unfold toStrW
  simp only [srcW_ref]
  exact ⟨trivial, _, ho, rfl, rfl, rfl, by simp; omega, l, by rw [← hn]; exact List.take_of_length_le (by simp), hl, k⟩
theorem wrap_u8 {n : Nat} (h : n < 256) : IntKind.u8.wrap (IntKind.i64.wrap n) = ((UInt8.ofNat n).toNat : Int) := by
  rw [wrap64 (by omega) (by omega), IntKind.wrap_u8]
  simp [UInt8.toNat_ofNat']
/-- What a call gives, seen otherwise behind it. -/
theorem Con.fin {f : Nat} {args : List AV} {Q Q' : AV → List AObj → Nat → Prop} (h : Con P f args H c Q)
    (k : ∀ r H' c', c ≤ c' → Q r H' c' → (∀ t, t < c → t ∈ tags H' → t ∈ tags H) → (tags H').Nodup → finW Q' r H' c') : Con P f args H c Q' := by
  intro G w vs e I hs hr
  refine (h G w vs e I hs hr).mono fun en w' ⟨v, res, H', G1, h1, h2, x1, I1, r1⟩ => ?_
  subst e
  obtain ⟨S, Hk, Hk', v', q1, qr, q2, q3, q4, q5⟩ := k res H' G1.c x1.x.c h2 x1.oldH I1.nodup
  have hS : ∀ t, t ∈ tags S → t ∈ tags H' := fun t ht => by obtain ⟨o, ho, rfl⟩ := of_mem_tags ht; exact mem_tags (q2 o ho)
  exact ⟨v, v', Hk', G1.freeze S, h1, q5, ⟨x1.x.trans (Ext1.freeze _ _ _), x1.os, x1.tape, x1.output, x1.size, x1.frame, x1.newm, fun t h1 h2 => x1.oldH t h1 ((q1.map _).subset (by rw [qr.tags_eq] at h2; exact h2)), fun t h1 h2 => by
    rcases h2 with h2 | h2
    · exact x1.oldF t h1 h2
    · exact .inr (x1.oldH t h1 (hS t h2))⟩, I1.ren q1.subset q2 (I1.freeze q1 q2 q3) qr, q4.rep I1 q2 r1⟩

/-- A function that hands back objects of its own hands back trees of its own. -/
theorem tr_of {f : Nat} {args : List AV} {Q : AV → List AObj → Nat → Prop} {Q' : Nat → AV → Prop} (h : ∀ c, Con P f args [] c Q)
    (k : ∀ c r O c', c ≤ c' → Q r O c' → (∀ t, t ∈ tags O → c ≤ t) → ∃ v', View O r v' ∧ Q' c v' ∧ From c v') : Tr P f args Q' := by
  intro c
  refine (h c).fin fun r O c' hc hq ho hd => ?_
  obtain ⟨v', h1, h2, h3⟩ := k c r O c' hc hq fun t ht => by
    rcases Nat.lt_or_ge t c with h | h
    · have := ho t h ht; simp [tags] at this
    · exact h
  exact ⟨O, [], [], v', List.nil_sublist _, .nil, fun _ h => h, by simp [tags], h1, rfl, h2, h3⟩

theorem free_tup {l : List AV} (h : ∀ a, a ∈ l → Free a) : Free (.tup l) := fun T => .tup fun j a ha => h a (List.mem_of_getElem? ha) T
theorem free_bool (b : Bool) : Free (.bool b) := fun _ => .bool
theorem free_int (k : IntKind) (n : Int) : Free (.int k n) := fun _ => .int
theorem free_str (l : List UInt8) : Free (.str l) := fun _ => .str
theorem view_tup {S : List AObj} {l l' : List AV} (h : Views S l l') : View S (.tup l) (.tup l') := .tup h.spec.1 h.spec.2
theorem from_tup {c : Nat} {l : List AV} (h : ∀ a, a ∈ l → From c a) : From c (.tup l) := fun T hT => .tup fun j a ha => h a (List.mem_of_getElem? ha) T hT

section
variable {α : Type}
/-- A slice as0 an object at a place of the state. -/
def SL.at_ (i w : Nat) : SL α → AV
  | .nil => .nsl
  | .mk t xs => .ref i t w xs.length
theorem view_at (i w : Nat) (s : SL α) (S : List AObj) : View S (s.ref w) (s.at_ i w) := by cases s <;> constructor
theorem view_at' (i w : Nat) (s : SL α) (S : List AObj) : View S (s.at_ i w) (s.ref w) := by cases s <;> constructor
@[simp] theorem at_len (i w : Nat) (s : SL α) (K : AV → Prop) : lenSlcW (s.at_ i w) K = K (.int .i64 s.list.length) := by cases s <;> rfl
@[simp] theorem at_cells (i w : Nat) (s : SL α) (K : List AV → Prop) : cellsW (s.at_ i w) K = K [s.at_ i w] := by cases s <;> rfl
@[simp] theorem ref_cells (w : Nat) (s : SL α) (K : List AV → Prop) : cellsW (s.ref w) K = K [s.ref w] := by cases s <;> rfl
@[simp] theorem cell_at (i w : Nat) (s : SL α) : (s.at_ i w).cell = true := by cases s <;> rfl
@[simp] theorem cell_ref (w : Nat) (s : SL α) : (s.ref w).cell = true := by cases s <;> rfl
theorem isnl_av (neg : Bool) (w : Nat) (f : α → List AV) (s : SL α) (K : AV → Prop) (h0 : s.list = [] → K (.bool (true != neg))) (h1 : K (.bool (false != neg))) : isnlW neg (s.av w f) K := by
  cases s with
  | nil => exact h0 rfl
  | mk t l => cases l with
    | nil => exact ⟨h0 rfl, h1⟩
    | cons x l => exact h1

/-- Flat elements: cells that hang on nothing. -/
def Flat (enc : α → List AV) : Prop := ∀ x a, a ∈ enc x → a.cell = true ∧ Free a
theorem Flat.cells {enc : α → List AV} (h : Flat enc) : ∀ x a, a ∈ enc x → a.cell = true := fun x a ha => (h x a ha).1
theorem Free.from {a : AV} (h : Free a) (c : Nat) : From c a := fun T _ => h T
theorem flat_wood (t w : Nat) (enc : α → List AV) (l : List α) : (SL.mk t l).wood w enc noInn = [⟨false, t, w, l.map enc⟩] := wood_flat ..
theorem flat_free {enc : α → List AV} (h : Flat enc) (w : Nat) (s : SL α) : ∀ o, o ∈ s.wood w enc noInn → ∀ T, AvRows T o :=
  free_wood (fun x a ha => (h x a ha).2) (fun x o ho => by cases ho) s
theorem flat_from {enc : α → List AV} (h : Flat enc) {w c : Nat} {s : SL α} (ht : ∀ t, t ∈ tags (s.wood w enc noInn) → c ≤ t) : From c (s.av w enc) := by
  cases s with
  | nil => exact from_nsl c
  | mk t l =>
    refine from_slc (ht t ?_) fun row hr a ha => ?_
    · rw [flat_wood]; simp [tags]
    · obtain ⟨x, _, rfl⟩ := List.mem_map.1 hr
      exact ((h x a ha).2).from c
theorem flat_tr {enc : α → List AV} (hE : Flat enc) {w : Nat} {f : Nat} {args : List AV} {Q : SL α → Prop} (h : ∀ c, Con P f args [] c fun r O _ => ∃ b : SL α, r = b.ref w ∧ O = b.wood w enc noInn ∧ Q b) :
    Tr P f args fun _ r => ∃ b : SL α, r = b.av w enc ∧ Q b :=
  tr_of h fun c r O c' _ ⟨b, h1, h2, h3⟩ ht => ⟨b.av w enc, by rw [h1]; exact view_flat (by rw [h2]; exact fun _ h => h) hE.cells, ⟨b, rfl, h3⟩, flat_from hE (by rw [← h2]; exact ht)⟩
/-- The same with more results, which hang on nothing. -/
theorem flat_tr2 {enc : α → List AV} (hE : Flat enc) {w : Nat} {f : Nat} {args : List AV} {Q : SL α → List AV → Prop} (hF : ∀ b l, Q b l → ∀ a, a ∈ l → Free a)
    (h : ∀ c, Con P f args [] c fun r O _ => ∃ (b : SL α) (l : List AV), r = .tup (b.ref w :: l) ∧ O = b.wood w enc noInn ∧ Q b l) :
    Tr P f args fun _ r => ∃ (b : SL α) (l : List AV), r = .tup (b.av w enc :: l) ∧ Q b l :=
  tr_of h fun c r O c' _ ⟨b, l, h1, h2, h3⟩ ht => ⟨.tup (b.av w enc :: l), by rw [h1]; exact view_tup (.cons (view_flat (by rw [h2]; exact fun _ h => h) hE.cells) (Views.refl _ _)), ⟨b, l, rfl, h3⟩,
    from_tup fun a ha => by
      rcases List.mem_cons.1 ha with rfl | ha
      · exact flat_from hE (by rw [← h2]; exact ht)
      · exact (hF b l h3 a ha).from c⟩

theorem flat_marks {enc : α → List AV} {w : Nat} (mk : Int → α → α) (cnt : α → Nat) (k : Int) (s : SL α) : tags ((s.marks mk cnt k).wood w enc noInn) = tags (s.wood w enc noInn) := tags_wood (inn := noInn) (mk := mk) (cnt := cnt) (fun _ _ => rfl) k s
end
end
end A
end Go.Proofs.YtknpgemlpbclkaaGreatDoor

/-
  Slices: copies by append, changes in place, what is kept of one. No condition.
-/

namespace Go.Proofs.YtknpgemlpbclkaaGreatDoor
namespace A
set_option linter.unusedVariables false
set_option linter.unusedSimpArgs false

/-- slices.Clone. -/
def cloneF (w : Nat) (z : List AV) (b : Nat) : Fun := ⟨8,
  .seq (.reg [o 2 (.mv (.c .nsl))])
  (.seq (.seq (.reg [o 3 (.mv (.t 0)), o 4 (.isnl false (.t 3))])
  (.cond (.t 4) (.seq (.reg [o 2 (.mv (.c .nsl))])
   (.ret)) (.skip)))
  (.seq (.reg [o 5 (.bslice w z 0 []), o 6 (.mv (.t 0)), o 7 (.append w b (.t 5) (.t 6)), o 2 (.mv (.t 7))])
  (.ret))),
  [.tmp 2]⟩

theorem sub_one {α : Type} (a : α) (l : List α) : [a].Sublist (a :: l) := (List.nil_sublist l).cons_cons a
theorem sub_two {α : Type} (a b : α) (l : List α) : [a, b].Sublist (a :: b :: l) := (sub_one b l).cons_cons a

@[simp] theorem getW_len {α : Type} (L M : List α) (x : α) (K : α → Prop) : getW (L ++ x :: M) L.length K = K x := getW_of (by rw [List.getElem?_append_right (Nat.le_refl _)]; simp) K
@[simp] theorem set_len {α : Type} (L M : List α) (x y : α) : (L ++ x :: M).set L.length y = L ++ y :: M := by
  rw [List.set_append_right _ _ (Nat.le_refl _), Nat.sub_self, List.set_cons_zero]
@[simp] theorem getW_len1 {α : Type} (L M : List α) (x y : α) (K : α → Prop) : getW (L ++ x :: y :: M) (L.length + 1) K = K y := getW_of (by rw [List.getElem?_append_right (by omega)]; simp) K
@[simp] theorem set_len1 {α : Type} (L M : List α) (x y z : α) : (L ++ x :: y :: M).set (L.length + 1) z = L ++ x :: z :: M := by
  rw [List.set_append_right _ _ (by omega)]; simp
@[simp] theorem getW_len2 {α : Type} (L M : List α) (x y z : α) (K : α → Prop) : getW (L ++ x :: y :: z :: M) (L.length + 2) K = K z := getW_of (by rw [List.getElem?_append_right (by omega)]; simp) K
@[simp] theorem getW_len2' {α : Type} (L M : List α) (x y z : α) (K : α → Prop) : getW (L ++ x :: y :: z :: M) (L.length + 1 + 1) K = K z := getW_len2 L M x y z K
/-- Some of the objects are let go. -/
theorem fin_sub {Q : AV → List AObj → Nat → Prop} {v v' : AV} {H Hk : List AObj} {c : Nat} (hs : Hk.Sublist H) (hv : View [] v v') (h : Q v' Hk c) : finW Q v H c := ⟨[], Hk, Hk, v', hs, .refl _ _, by simp, by simp [tags], hv, h⟩
/-- Some of the objects are let go, those that stay are named anew. -/
theorem fin_ren {Q : AV → List AObj → Nat → Prop} {v v' : AV} {H Hk Hk' : List AObj} {c : Nat} (hs : Hk.Sublist H) (hr : Rens [] Hk Hk') (hv : View [] v v') (h : Q v' Hk' c) : finW Q v H c := ⟨[], Hk, Hk', v', hs, hr, by simp, by simp [tags], hv, h⟩

section
variable {α : Type}
def SL.lmap (f : List α → List α) : SL α → SL α
  | .nil => .nil
  | .mk t l => .mk t (f l)
theorem ref_mk (t w : Nat) (l : List α) : (SL.mk t l).ref w = .ref 0 t w l.length := rfl
theorem ref_nil (w : Nat) : (SL.nil : SL α).ref w = .nsl := rfl
theorem SL.lmap_list {f : List α → List α} (h : f [] = []) (s : SL α) : (s.lmap f).list = f s.list := by cases s <;> simp [SL.lmap, h]
theorem SL.wood_lmap (w : Nat) (enc : α → List AV) (s : SL α) : (s.lmap id).wood w enc noInn = s.wood w enc noInn := by cases s <;> rfl

section
variable {P : Program} {enc : α → List AV} {w b f : Nat} {z : List AV}
theorem clone_con (hf : compF P f = some (cloneF w z b)) {s : SL α} (hn : s.list.length * b ≤ 140737488355328) (hn' : s.list.length ≤ mx) (c : Nat) :
    Con P f [s.av w enc] [] c fun r O _ => ∃ x : SL α, r = x.ref w ∧ O = x.wood w enc noInn ∧ x.list = s.list := by
  refine con_of hf (by simp [cloneF]) ?_
  unfold cloneF
  simp
  refine isnl_av _ _ _ _ _ (fun h => ?_) ?_
  · simp
    exact fin_all ⟨.nil, rfl, rfl, by rw [h]; rfl⟩
  · simp
    exact ⟨hn, hn', fin_all ⟨.mk (c + 1) s.list, by simp [SL.ref], by simp [flat_wood], rfl⟩⟩
theorem clone_tr (hf : compF P f = some (cloneF w z b)) (hE : Flat enc) {s : SL α} (hn : s.list.length * b ≤ 140737488355328) (hn' : s.list.length ≤ mx) : Tr P f [s.av w enc] fun _ r => ∃ x : SL α, r = x.av w enc ∧ x.list = s.list :=
  flat_tr hE (clone_con hf hn hn')
end

/-- Changed up to an index. -/
def mixM (f : α → α) (l : List α) (i : Nat) : List α := (l.take i).map f ++ l.drop i
theorem mixM_zero (f : α → α) (l : List α) : mixM f l 0 = l := by simp [mixM]
theorem mixM_all (f : α → α) (l : List α) : mixM f l l.length = l.map f := by simp [mixM]
@[simp] theorem mixM_len (f : α → α) (l : List α) (i : Nat) : (mixM f l i).length = l.length := by simp [mixM]; omega
@[simp] theorem mixM_nil (f : α → α) (i : Nat) : mixM f [] i = [] := by simp [mixM]
theorem mixM_get (f : α → α) {l : List α} {i : Nat} (h : i < l.length) : (mixM f l i)[i]? = some l[i] := by
  unfold mixM
  rw [List.getElem?_append_right (by simp; omega)]
  simp [h, Nat.min_eq_left (Nat.le_of_lt h)]
theorem mixM_set (f : α → α) {l : List α} {i : Nat} (h : i < l.length) : (mixM f l i).set i (f l[i]) = mixM f l (i + 1) := by
  unfold mixM
  rw [List.set_append_right _ _ (by simp; omega), List.length_map, List.length_take, Nat.min_eq_left (by omega), Nat.sub_self, List.drop_eq_getElem_cons h, List.set_cons_zero, List.take_succ_eq_append_getElem h, List.map_append]
  simp
theorem mixM_same (f : α → α) {l : List α} {i : Nat} (h : i < l.length) (e : f l[i] = l[i]) : mixM f l i = mixM f l (i + 1) := by
  have := mixM_set f h
  rw [e] at this
  rw [← this]
  refine List.ext_getElem? fun j => ?_
  by_cases hj : j = i
  · subst hj; rw [mixM_get f h, List.getElem?_set_self (by simp; exact h)]
  · rw [List.getElem?_set_ne (by omega)]

/-- Kept up to an index. -/
theorem filter_step (p : α → Bool) {l : List α} {i : Nat} (h : i < l.length) : (l.take (i + 1)).filter p = (l.take i).filter p ++ (if p l[i] then [l[i]] else []) := by
  rw [List.take_succ_eq_append_getElem h, List.filter_append]
  by_cases hp : p l[i] = true <;> simp [hp]
end
/-! ### the ends of the laws: marks on what was handed in, on what was handed back -/
section
variable {P : Program} {K : AV → List AObj → Nat → Prop} {α : Type} {enc encO : α → List AV} {inn : α → List AObj} {w f : Nat} {mk : Int → α → α} {cnt : α → Nat}
theorem call_midr {f : Nat} {l l' : List AV} {a : AObj} {A B C : List AObj} {c : Nat} {Q : AV → List AObj → Nat → Prop} (hf : Con P f l' B c Q) (hv : Views [] l l')
    (k : ∀ r B' c', c ≤ c' → Q r B' c' → tags B' = tags B ∧ Av [] r ∧ (∀ o, o ∈ B' → AvRows [] o) ∧ K r (a :: (A ++ (B' ++ C))) c') : CallW P f l (a :: (A ++ (B ++ C))) c K := by
  have e : ∀ X : List AObj, a :: (A ++ (X ++ C)) = (a :: A) ++ X ++ C := fun X => by simp
  rw [e]
  exact call_mid hf hv fun r B' c' hc hq => by rw [← e]; exact k r B' c' hc hq
theorem SL.marks_ref (k : Int) (s : SL α) : (s.marks mk cnt k).ref w = s.ref w := by cases s <;> simp [SL.marks, SL.ref, mks_len]
theorem view_marks {S : List AObj} {s : SL α} {k : Int} (hs : ∀ o, o ∈ (s.marks mk cnt k).wood w enc noInn → o ∈ S) (hc : ∀ x a, a ∈ enc x → a.cell = true) : View S (s.ref w) ((s.marks mk cnt k).av w enc) := by
  rw [← SL.marks_ref (mk := mk) (cnt := cnt) k s]
  exact view_flat hs hc
theorem mark_mid {A C : List AObj} {s : SL α} {k n : Int} {c : Nat} (hf : Con P f [s.ref w, .int .i64 k] (s.wood w encO inn) c fun r H' _ => r = .int .i64 n ∧ H' = (s.marks mk cnt k).wood w encO inn)
    (hi : ∀ k x, tags (inn (mk k x)) = tags (inn x)) (hO : ∀ x a, a ∈ encO x → Free a) (hI : ∀ x o, o ∈ inn x → ∀ T, AvRows T o) (kk : ∀ c', c ≤ c' → K (.int .i64 n) (A ++ (s.marks mk cnt k).wood w encO inn ++ C) c') :
    CallW P f [s.ref w, .int .i64 k] (A ++ s.wood w encO inn ++ C) c K :=
  call_mid hf (Views.refl _ _) fun r B' c' hc ⟨h1, h2⟩ => by
    subst h1; subst h2
    exact ⟨tags_wood hi _ s, .int, fun o ho => free_wood hO hI _ o ho _, kk c' hc⟩
theorem mark_first {C : List AObj} {s : SL α} {k n : Int} {c : Nat} (hE : Flat enc) (hf : Con P f [s.ref w, .int .i64 k] (s.wood w enc noInn) c fun r H' _ => r = .int .i64 n ∧ H' = (s.marks mk cnt k).wood w enc noInn)
    (kk : ∀ c', c ≤ c' → K (.int .i64 n) ((s.marks mk cnt k).wood w enc noInn ++ C) c') : CallW P f [s.ref w, .int .i64 k] (s.wood w enc noInn ++ C) c K :=
  mark_mid (A := []) hf (fun _ _ => rfl) (fun x a ha => (hE x a ha).2) (fun x o ho => by cases ho) kk
theorem mark_last {A : List AObj} {s : SL α} {k n : Int} {c : Nat} (hE : Flat enc) (hf : Con P f [s.ref w, .int .i64 k] (s.wood w enc noInn) c fun r H' _ => r = .int .i64 n ∧ H' = (s.marks mk cnt k).wood w enc noInn)
    (kk : ∀ c', c ≤ c' → K (.int .i64 n) (A ++ (s.marks mk cnt k).wood w enc noInn) c') : CallW P f [s.ref w, .int .i64 k] (A ++ s.wood w enc noInn) c K := by
  have := mark_mid (A := A) (C := []) (K := K) hf (fun _ _ => rfl) (fun x a ha => (hE x a ha).2) (fun x o ho => by cases ho) (by simpa using kk)
  simpa using this
end
end A
end Go.Proofs.YtknpgemlpbclkaaGreatDoor

/-
  Ranges, and what is asked of all elements. No condition.
-/


namespace Go.Proofs.YtknpgemlpbclkaaGreatDoor
namespace A
set_option linter.unusedVariables false
set_option linter.unusedSimpArgs false
set_option maxRecDepth 100000

def inR (x lo hi : Int) : Bool := decide (lo ≤ x) && decide (x ≤ hi)

theorem l1In_fn (x lo hi : Int) : Fnc Tryz.prog 30 [.int .i64 x, .int .i64 lo, .int .i64 hi] (.bool (inR x lo hi)) := by
  refine fn_of c30 (by simp [F30]) fun c => ?_
  unfold F30 inR
  by_cases h1 : lo ≤ x <;> simp [h1] <;> exact fin_plain ⟨rfl, rfl⟩
theorem inRange_fn (x lo hi : Int) : Fnc Tryz.prog 43 [.int .i64 x, .int .i64 lo, .int .i64 hi] (.bool (inR x lo hi)) := by
  refine fn_of c43 (by simp [F43]) fun c => ?_
  unfold F43 inR
  by_cases h1 : lo ≤ x <;> simp [h1] <;> exact fin_plain ⟨rfl, rfl⟩
theorem inR_true {x lo hi : Int} (h : inR x lo hi = true) : lo ≤ x ∧ x ≤ hi := by simpa [inR] using h

theorem all_step {α : Type} {p : α → Bool} {l : List α} {i : Nat} (h : (l.take i).all p = true) (hi : i < l.length) (hx : p l[i] = true) : (l.take (i + 1)).all p = true := by
  rw [List.take_succ_eq_append_getElem hi, List.all_append, h]; simp [hx]
end A
end Go.Proofs.YtknpgemlpbclkaaGreatDoor

/-
  Letters and digits, of the reference and of the program. No condition.
-/

namespace Go.Proofs.YtknpgemlpbclkaaGreatDoor
namespace A
set_option linter.unusedVariables false
set_option linter.unusedSimpArgs false
set_option maxRecDepth 100000

def isL (b : UInt8) : Bool := inR b.toNat 97 122 || inR b.toNat 65 90 || decide (b.toNat = 95)
def isD (b : UInt8) : Bool := inR b.toNat 48 57
theorem wrap_b (b : UInt8) : IntKind.i64.wrap (b.toNat : Int) = b.toNat := by
  have := b.toNat_lt
  exact wrap64 (by omega) (by omega)
theorem letter_fn (b : UInt8) : Fnc Tryz.prog 151 [.int .u8 b.toNat] (.bool (isL b)) := by
  refine fn_of c151 (by simp [F151]) fun c => ?_
  unfold F151
  simp [wrap_b]
  refine call_fn0 (l1In_fn _ _ _) .bool fun _ _ => ?_
  cases h1 : inR b.toNat 97 122 <;> simp [wrap_b]
  · refine call_fn0 (l1In_fn _ _ _) .bool fun _ _ => ?_
    cases h2 : inR b.toNat 65 90 <;> simp
    · exact fin_plain ⟨by simp [isL, h1, h2]; omega, rfl⟩
    · exact fin_plain ⟨by simp [isL, h1, h2], rfl⟩
  · exact fin_plain ⟨by simp [isL, h1], rfl⟩
theorem digit_fn (b : UInt8) : Fnc Tryz.prog 152 [.int .u8 b.toNat] (.bool (isD b)) := by
  refine fn_of c152 (by simp [F152]) fun c => ?_
  unfold F152
  simp [wrap_b]
  refine call_fn0 (l1In_fn _ _ _) .bool fun _ _ => ?_
  simp
  exact fin_plain ⟨rfl, rfl⟩
def isA (b : UInt8) : Bool := inR b.toNat 65 90 || inR b.toNat 97 122
theorem isLetter_fn (b : UInt8) : Fnc Tryz.prog 144 [.int .u8 b.toNat] (.bool (isA b)) := by
  refine fn_of c144 (by simp [F144]) fun c => ?_
  unfold F144 isA inR
  by_cases h1 : (65 : Int) ≤ b.toNat <;> by_cases h2 : (b.toNat : Int) ≤ 90 <;> by_cases h3 : (97 : Int) ≤ b.toNat <;> simp [h1, h2, h3] <;> exact fin_plain (by simp)
theorem isDigit_fn (b : UInt8) : Fnc Tryz.prog 145 [.int .u8 b.toNat] (.bool (isD b)) := by
  refine fn_of c145 (by simp [F145]) fun c => ?_
  unfold F145 isD inR
  by_cases h1 : (48 : Int) ≤ b.toNat <;> simp [h1] <;> exact fin_plain (by simp)
theorem isL_A (b : UInt8) : isL b = (isA b || decide (b.toNat = 95)) := by
  simp [isL, isA, Bool.or_comm (inR b.toNat 97 122)]
end A
end Go.Proofs.YtknpgemlpbclkaaGreatDoor

/-
  Cutting a text at another: plain laws. No condition.
-/


namespace Go.Proofs.YtknpgemlpbclkaaGreatDoor
namespace A
set_option linter.unusedVariables false
set_option linter.unusedSimpArgs false

theorem split_miss {s sep : List UInt8} (h : Lib.index s sep = -1) : Lib.split s sep = [s] := by
  unfold Lib.split; rw [Lib.count_miss h]; rfl
theorem split_hit {s sep : List UInt8} {i : Nat} (hs : sep ≠ []) (h : Lib.index s sep = i) : Lib.split s sep = s.take i :: Lib.split (s.drop (i + sep.length)) sep := by
  have hm : ¬ (Lib.index s sep == -1) = true := fun e => by have := beq_iff_eq.1 e; omega
  have e : (Lib.index s sep).toNat = i := by omega
  unfold Lib.split
  rw [Lib.count_hit hs h, Nat.add_comm, Lib.splitK, if_neg hm, e]
  rfl
theorem occ_drop (l sep : List UInt8) (a j : Nat) : Lib.occAt (l.drop a) sep j = Lib.occAt l sep (a + j) := by
  unfold Lib.occAt; rw [List.drop_drop]
theorem drop_take' (l : List UInt8) (a i : Nat) : (l.drop a).take (i - a) = (l.take i).drop a := by
  rw [List.drop_take]
theorem index_at {l sep : List UInt8} {a i : Nat} (ha : a ≤ i) (hi : i ≤ l.length) (hno : ∀ j, a ≤ j → j < i → Lib.occAt l sep j = false) (ho : Lib.occAt l sep i = true) : Lib.index (l.drop a) sep = ((i - a : Nat) : Int) := by
  refine Lib.index_first (by simp; omega) (by rw [occ_drop, show a + (i - a) = i by omega]; exact ho) fun j hj => ?_
  rw [occ_drop]
  exact hno _ (by omega) (by omega)
theorem split_at {l sep : List UInt8} {a i : Nat} (hs : sep ≠ []) (ha : a ≤ i) (hi : i ≤ l.length) (hno : ∀ j, a ≤ j → j < i → Lib.occAt l sep j = false) (ho : Lib.occAt l sep i = true) :
    Lib.split (l.drop a) sep = (l.take i).drop a :: Lib.split (l.drop (i + sep.length)) sep := by
  rw [split_hit hs (index_at ha hi hno ho), drop_take', List.drop_drop, show a + (i - a + sep.length) = i + sep.length by omega]
theorem occ_end {l sep : List UInt8} (hs : sep ≠ []) {i : Nat} (hi : l.length ≤ i) : Lib.occAt l sep i = false := by
  cases h : Lib.occAt l sep i
  · rfl
  · have := Lib.occAt_room h
    have h2 : sep.length ≠ 0 := fun e => hs (List.length_eq_zero_iff.1 e)
    rcases this with h1 | h1
    · omega
    · exact absurd h1 hs
theorem index_no {l sep : List UInt8} {a : Nat} (hs : sep ≠ []) (hno : ∀ j, a ≤ j → j < l.length → Lib.occAt l sep j = false) : Lib.index (l.drop a) sep = -1 := by
  refine Lib.index_none fun j hj => ?_
  rw [occ_drop]
  rcases Nat.lt_or_ge (a + j) l.length with h | h
  · exact hno _ (by omega) h
  · exact occ_end hs h
theorem split_end {l sep : List UInt8} {a : Nat} (hs : sep ≠ []) (hno : ∀ j, a ≤ j → j < l.length → Lib.occAt l sep j = false) : Lib.split (l.drop a) sep = [l.drop a] := split_miss (index_no hs hno)
theorem occ_room {l sep : List UInt8} (hs : sep ≠ []) {i : Nat} (h : Lib.occAt l sep i = true) : i + sep.length ≤ l.length := (Lib.occAt_room h).resolve_right hs

/-- where a byte stands first, or the end -/
def upTo (b : UInt8) (l : List UInt8) : Nat := (l.takeWhile (fun x => !decide (x = b))).length
theorem upTo_le (b : UInt8) (l : List UInt8) : upTo b l ≤ l.length := by
  unfold upTo
  exact (List.takeWhile_sublist _).length_le
theorem upTo_eq {b : UInt8} : ∀ {l : List UInt8} {i : Nat}, i ≤ l.length → (∀ j, j < i → l[j]? ≠ some b) → (i = l.length ∨ l[i]? = some b) → upTo b l = i
  | [], i, hi, _, _ => by simp at hi; subst hi; rfl
  | x :: l, 0, _, _, h => by
    rcases h with h | h
    · simp at h
    · simp at h; subst h; simp [upTo]
  | x :: l, i + 1, hi, hn, h => by
    have h0 := hn 0 (by omega)
    simp at h0
    have ih := upTo_eq (b := b) (l := l) (i := i) (by simpa using hi) (fun j hj => by simpa using hn (j + 1) (by omega)) (by simpa using h)
    unfold upTo at ih ⊢
    simp [h0, ih]
theorem upTo_spec (b : UInt8) : ∀ (l : List UInt8), (∀ j, j < upTo b l → l[j]? ≠ some b) ∧ (upTo b l = l.length ∨ l[upTo b l]? = some b)
  | [] => by simp [upTo]
  | x :: l => by
    by_cases h : x = b
    · subst h; simp [upTo]
    · obtain ⟨h1, h2⟩ := upTo_spec b l
      have e : upTo b (x :: l) = upTo b l + 1 := by simp [upTo, h]
      rw [e]
      refine ⟨fun j hj => ?_, by simpa using h2⟩
      cases j with
      | zero => simpa using h
      | succ j => simpa using h1 j (by omega)
theorem occ_one (l : List UInt8) (b : UInt8) (i : Nat) : Lib.occAt l [b] i = decide (l[i]? = some b) := by
  unfold Lib.occAt
  cases h : l.drop i with
  | nil =>
    have : l[i]? = none := by
      rw [List.getElem?_eq_none_iff]
      have := List.drop_eq_nil_iff.1 h
      exact this
    simp [this]
  | cons x r =>
    have : l[i]? = some x := by
      have h2 : (l.drop i)[0]? = some x := by rw [h]; rfl
      simpa using h2
    rw [this]
    simp only [List.isPrefixOf, Bool.and_true, Option.some.injEq]
    by_cases hx : b = x
    · subst hx; simp
    · have : ¬ x = b := fun e => hx e.symm
      simp [hx, this]
theorem cut_one (b : UInt8) (l : List UInt8) : (Lib.cut l [b]).1 = l.take (upTo b l) ∧ (Lib.cut l [b]).2.1 = l.drop (upTo b l + 1) := by
  obtain ⟨h1, h2⟩ := upTo_spec b l
  unfold Lib.cut
  rcases h2 with h2 | h2
  · have : Lib.index l [b] = -1 := Lib.index_none fun j hj => by
      rw [occ_one]
      rcases Nat.lt_or_ge j l.length with h | h
      · simpa using h1 j (by omega)
      · simp [h]
    rw [this, if_neg (by omega), h2]
    simp
  · have : Lib.index l [b] = upTo b l := Lib.index_first (upTo_le b l) (by rw [occ_one]; simpa using h2) fun j hj => by rw [occ_one]; simpa using h1 j hj
    rw [this, if_pos (by omega)]
    simp
end A
end Go.Proofs.YtknpgemlpbclkaaGreatDoor

/-
  Library contracts at this program, laid by the kit's tool (lay-shelf, lay-plain). No condition.
-/




namespace Go.Proofs
open Go.Shelf
def Tryz.lays156_ren : Go.Shelf.Ren := ⟨fun | 156 => 149 | 165 => 159 | 166 => 160 | 169 => 161 | 240 => 166 | 241 => 167 | 276 => 171 | 277 => 172 | n => n, fun | 31 => 183 | 9 => 9 | 3 => 3 | 4 => 4 | 0 => 0 | 20 => 20 | 72 => 194 | 76 => 198 | 70 => 192 | 37 => 182 | 75 => 197 | 127 => 206 | 164 => 209 | 5 => 5 | 80 => 200 | n => n, fun | n => n⟩
theorem Tryz.lays156 : Go.Proofs.Lays.n156 Tryz.prog Tryz.lays156_ren := {
  mixed := by kernel_rfl
  f156 := Tryz.func149.trans (congrArg some (by kernel_rfl))
  f165 := Tryz.func159.trans (congrArg some (by kernel_rfl))
  f166 := Tryz.func160.trans (congrArg some (by kernel_rfl))
  f169 := Tryz.func161.trans (congrArg some (by kernel_rfl))
  f240 := Tryz.func166.trans (congrArg some (by kernel_rfl))
  f241 := Tryz.func167.trans (congrArg some (by kernel_rfl))
  f276 := Tryz.func171.trans (congrArg some (by kernel_rfl))
  f277 := Tryz.func172.trans (congrArg some (by kernel_rfl))
  t0 := Tryz.underlying0
  a0 := Tryz.isAgg0
  z0 := Tryz.sizeOf0
  v0 := Tryz.zeroValue0
  t3 := Tryz.underlying3
  a3 := Tryz.isAgg3
  z3 := Tryz.sizeOf3
  v3 := Tryz.zeroValue3
  t4 := Tryz.underlying4
  a4 := Tryz.isAgg4
  z4 := Tryz.sizeOf4
  v4 := Tryz.zeroValue4
  t9 := Tryz.underlying9
  a9 := Tryz.isAgg9
  z9 := Tryz.sizeOf9
  v9 := Tryz.zeroValue9
  t20 := Tryz.underlying20
  a20 := Tryz.isAgg20
  z20 := Tryz.sizeOf20
  v20 := Tryz.zeroValue20
  t31 := Tryz.underlying183
  a31 := Tryz.isAgg183
  z31 := Tryz.sizeOf183
  v31 := Tryz.zeroValue183
  t37 := Tryz.underlying182
  a37 := Tryz.isAgg182
  z37 := Tryz.sizeOf182
  v37 := Tryz.zeroValue182
  t70 := Tryz.underlying192
  a70 := Tryz.isAgg192
  z70 := Tryz.sizeOf192
  v70 := Tryz.zeroValue192
  t72 := Tryz.underlying194
  a72 := Tryz.isAgg194
  z72 := Tryz.sizeOf194
  v72 := Tryz.zeroValue194
  t75 := Tryz.underlying197
  a75 := Tryz.isAgg197
  z75 := Tryz.sizeOf197
  v75 := Tryz.zeroValue197
  t76 := Tryz.underlying198
  a76 := Tryz.isAgg198
  z76 := Tryz.sizeOf198
  v76 := Tryz.zeroValue198
  t127 := Tryz.underlying206
  a127 := Tryz.isAgg206
  z127 := Tryz.sizeOf206
  v127 := Tryz.zeroValue206
  t164 := Tryz.underlying209
  a164 := Tryz.isAgg209
  z164 := Tryz.sizeOf209
  v164 := Tryz.zeroValue209 }
theorem Tryz.Builder_Extra_156 : Builder.Extra Tryz.prog Tryz.lays156_ren := {
  sizeBuilder := by kernel_rfl
  liesBuilder := by kernel_rfl
  t5 := Tryz.underlying5
  a5 := Tryz.isAgg5
  z5 := Tryz.sizeOf5
  v5 := Tryz.zeroValue5
  infoByte := by kernel_rfl
  cellsByte := by kernel_rfl
  sizeByte := by kernel_rfl
  neB5 := by decide }
open Go.RowKit in
theorem Tryz.strings_Join_none (a : Option Addr) (c : Nat) (sep : ByteArray) (w : World) :
    Calls Tryz.prog 149 #[.slice a 0 c, .string sep] w fun e w' => e = .returned (.string ⟨#[]⟩) ∧ w' = w := Any.strings_Join_none Tryz.lays156 Tryz.Builder_Extra_156 a c sep w
open Go.RowKit in
theorem Tryz.strings_Join (bk o c : Nat) (xs : List ByteArray) (sep : ByteArray) (w : World) (hcells : ∀ (j : Nat) x, xs[j]? = some x → w.cell? ⟨bk, o + j, none⟩ = some (.string x)) (hbk : bk < w.heap.size) (hN : xs.length ≤ 140737488355328) (hcap : xs.length ≤ c) (hlen : (Lib.join (xs.map (·.data.toList)) sep.data.toList).length ≤ 140737488355328) :
    Calls Tryz.prog 149 #[.slice (some ⟨bk, o, none⟩) xs.length c, .string sep] w fun e w' => e = .returned (.string ⟨(Lib.join (xs.map (·.data.toList)) sep.data.toList).toArray⟩) ∧ Below w.heap.size w w' := Any.strings_Join Tryz.lays156 Tryz.Builder_Extra_156 bk o c xs sep w hcells hbk hN hcap hlen
def Tryz.lays146_ren : Go.Shelf.Ren := ⟨fun | 146 => 157 | 221 => 165 | 268 => 168 | 138 => 169 | 143 => 170 | 195 => 173 | 197 => 174 | 218 => 175 | 219 => 176 | 260 => 177 | 217 => 178 | 225 => 179 | 224 => 180 | 267 => 181 | 266 => 182 | 314 => 183 | n => n, fun | 9 => 9 | 31 => 183 | 3 => 3 | 4 => 4 | 0 => 0 | 105 => 212 | 21 => 21 | 5 => 5 | 46 => 216 | 119 => 217 | 139 => 220 | 138 => 219 | 146 => 222 | 51 => 221 | n => n, fun | 1 => 0 | 3 => 1 | 4 => 2 | n => n⟩
theorem Tryz.lays146 : Go.Proofs.Lays.n146 Tryz.prog Tryz.lays146_ren := {
  mixed := by kernel_rfl
  f138 := Tryz.func169.trans (congrArg some (by kernel_rfl))
  f143 := Tryz.func170.trans (congrArg some (by kernel_rfl))
  f146 := Tryz.func157.trans (congrArg some (by kernel_rfl))
  f195 := Tryz.func173.trans (congrArg some (by kernel_rfl))
  f197 := Tryz.func174.trans (congrArg some (by kernel_rfl))
  f217 := Tryz.func178.trans (congrArg some (by kernel_rfl))
  f218 := Tryz.func175.trans (congrArg some (by kernel_rfl))
  f219 := Tryz.func176.trans (congrArg some (by kernel_rfl))
  f221 := Tryz.func165.trans (congrArg some (by kernel_rfl))
  f224 := Tryz.func180.trans (congrArg some (by kernel_rfl))
  f225 := Tryz.func179.trans (congrArg some (by kernel_rfl))
  f260 := Tryz.func177.trans (congrArg some (by kernel_rfl))
  f266 := Tryz.func182.trans (congrArg some (by kernel_rfl))
  f267 := Tryz.func181.trans (congrArg some (by kernel_rfl))
  f268 := Tryz.func168.trans (congrArg some (by kernel_rfl))
  f314 := Tryz.func183.trans (congrArg some (by kernel_rfl))
  t0 := Tryz.underlying0
  a0 := Tryz.isAgg0
  z0 := Tryz.sizeOf0
  v0 := Tryz.zeroValue0
  t3 := Tryz.underlying3
  a3 := Tryz.isAgg3
  z3 := Tryz.sizeOf3
  v3 := Tryz.zeroValue3
  t4 := Tryz.underlying4
  a4 := Tryz.isAgg4
  z4 := Tryz.sizeOf4
  v4 := Tryz.zeroValue4
  t5 := Tryz.underlying5
  a5 := Tryz.isAgg5
  z5 := Tryz.sizeOf5
  v5 := Tryz.zeroValue5
  t9 := Tryz.underlying9
  a9 := Tryz.isAgg9
  z9 := Tryz.sizeOf9
  v9 := Tryz.zeroValue9
  t21 := Tryz.underlying21
  a21 := Tryz.isAgg21
  z21 := Tryz.sizeOf21
  v21 := Tryz.zeroValue21
  t31 := Tryz.underlying183
  a31 := Tryz.isAgg183
  z31 := Tryz.sizeOf183
  v31 := Tryz.zeroValue183
  t46 := Tryz.underlying216
  a46 := Tryz.isAgg216
  z46 := Tryz.sizeOf216
  v46 := Tryz.zeroValue216
  t51 := Tryz.underlying221
  a51 := Tryz.isAgg221
  z51 := Tryz.sizeOf221
  v51 := Tryz.zeroValue221
  t105 := Tryz.underlying212
  a105 := Tryz.isAgg212
  z105 := Tryz.sizeOf212
  v105 := Tryz.zeroValue212
  t119 := Tryz.underlying217
  a119 := Tryz.isAgg217
  z119 := Tryz.sizeOf217
  t138 := Tryz.underlying219
  a138 := Tryz.isAgg219
  z138 := Tryz.sizeOf219
  v138 := Tryz.zeroValue219
  t139 := Tryz.underlying220
  a139 := Tryz.isAgg220
  z139 := Tryz.sizeOf220
  v139 := Tryz.zeroValue220
  t146 := Tryz.underlying222
  a146 := Tryz.isAgg222
  z146 := Tryz.sizeOf222
  v146 := Tryz.zeroValue222
  g1 := by kernel_rfl
  g3 := by kernel_rfl
  g4 := by kernel_rfl }
open Go.RowKit Go.Lib in
theorem Tryz.strings_Split (s sep : ByteArray) (m : Int) (w : World) (hs : s.size < 4294967281) (hm : w.cell? ⟨0, 0, none⟩ = some (.int .i64 m)) (h1 : 1 ≤ sep.size) :
    Calls Tryz.prog 157 #[.string s, .string sep] w fun e w' =>
      e = .returned (.slice (some ⟨w.heap.size, 0, none⟩) (Lib.countB s sep + 1) (Lib.countB s sep + 1)) ∧ w' = w.alloc (.cells ((Lib.splitB sep 0 (Lib.countB s sep) s).map Value.string).toArray 9) := Any.strings_Split Tryz.lays146 (by kernel_rfl) s sep m w hs hm h1
def Tryz.laysM146_ren : Go.Shelf.Ren := ⟨fun | 146 => 157 | 221 => 165 | 268 => 168 | 138 => 169 | 143 => 170 | 195 => 173 | 197 => 174 | 218 => 175 | 219 => 176 | 260 => 177 | 217 => 178 | 225 => 179 | 224 => 180 | 267 => 181 | 266 => 182 | 314 => 183 | n => n, fun | 9 => 9 | 31 => 183 | 3 => 3 | 4 => 4 | 0 => 0 | 105 => 212 | 21 => 21 | 5 => 5 | 46 => 216 | 119 => 217 | 139 => 220 | 138 => 219 | 146 => 222 | 51 => 221 | n => n, fun | 1 => 0 | 3 => 1 | 4 => 2 | n => n⟩
theorem Tryz.laysM146 : Go.Proofs.LaysM.n146 Tryz.prog Tryz.laysM146_ren := {
  mixed := by kernel_rfl
  f138 := Tryz.func169.trans (congrArg some (by kernel_rfl))
  f143 := Tryz.func170.trans (congrArg some (by kernel_rfl))
  f146 := Tryz.func157.trans (congrArg some (by kernel_rfl))
  f195 := Tryz.func173.trans (congrArg some (by kernel_rfl))
  f197 := Tryz.func174.trans (congrArg some (by kernel_rfl))
  f217 := Tryz.func178.trans (congrArg some (by kernel_rfl))
  f218 := Tryz.func175.trans (congrArg some (by kernel_rfl))
  f219 := Tryz.func176.trans (congrArg some (by kernel_rfl))
  f221 := Tryz.func165.trans (congrArg some (by kernel_rfl))
  f224 := Tryz.func180.trans (congrArg some (by kernel_rfl))
  f225 := Tryz.func179.trans (congrArg some (by kernel_rfl))
  f260 := Tryz.func177.trans (congrArg some (by kernel_rfl))
  f266 := Tryz.func182.trans (congrArg some (by kernel_rfl))
  f267 := Tryz.func181.trans (congrArg some (by kernel_rfl))
  f268 := Tryz.func168.trans (congrArg some (by kernel_rfl))
  f314 := Tryz.func183.trans (congrArg some (by kernel_rfl))
  t0 := Tryz.underlying0
  a0 := Tryz.isAgg0
  z0 := Tryz.sizeOf0
  v0 := Tryz.zeroValue0
  t3 := Tryz.underlying3
  a3 := Tryz.isAgg3
  z3 := Tryz.sizeOf3
  v3 := Tryz.zeroValue3
  t4 := Tryz.underlying4
  a4 := Tryz.isAgg4
  z4 := Tryz.sizeOf4
  v4 := Tryz.zeroValue4
  t5 := Tryz.underlying5
  a5 := Tryz.isAgg5
  z5 := Tryz.sizeOf5
  v5 := Tryz.zeroValue5
  t9 := Tryz.underlying9
  a9 := Tryz.isAgg9
  z9 := Tryz.sizeOf9
  v9 := Tryz.zeroValue9
  t21 := Tryz.underlying21
  a21 := Tryz.isAgg21
  z21 := Tryz.sizeOf21
  v21 := Tryz.zeroValue21
  t31 := Tryz.underlying183
  a31 := Tryz.isAgg183
  z31 := Tryz.sizeOf183
  v31 := Tryz.zeroValue183
  t46 := Tryz.underlying216
  a46 := Tryz.isAgg216
  z46 := Tryz.sizeOf216
  v46 := Tryz.zeroValue216
  t51 := Tryz.underlying221
  a51 := Tryz.isAgg221
  z51 := Tryz.sizeOf221
  v51 := Tryz.zeroValue221
  t105 := Tryz.underlying212
  a105 := Tryz.isAgg212
  z105 := Tryz.sizeOf212
  v105 := Tryz.zeroValue212
  t119 := Tryz.underlying217
  a119 := Tryz.isAgg217
  z119 := Tryz.sizeOf217
  t138 := Tryz.underlying219
  a138 := Tryz.isAgg219
  z138 := Tryz.sizeOf219
  v138 := Tryz.zeroValue219
  t139 := Tryz.underlying220
  a139 := Tryz.isAgg220
  z139 := Tryz.sizeOf220
  v139 := Tryz.zeroValue220
  t146 := Tryz.underlying222
  a146 := Tryz.isAgg222
  z146 := Tryz.sizeOf222
  v146 := Tryz.zeroValue222
  g1 := by kernel_rfl
  g3 := by kernel_rfl
  g4 := by kernel_rfl
  i0 := by kernel_rfl
  i3 := by kernel_rfl
  i4 := by kernel_rfl
  i5 := by kernel_rfl
  i9 := by kernel_rfl
  i21 := by kernel_rfl
  i31 := by kernel_rfl
  i46 := by kernel_rfl
  i51 := by kernel_rfl
  i105 := by kernel_rfl
  i138 := by kernel_rfl
  i139 := by kernel_rfl
  i146 := by kernel_rfl
  m1 := by kernel_rfl
  s1_3 := fun w h => Go.Proofs.cell_of_shapedOpen_int (zero := #[.int .i64 0]) (t := 3) h (of_decide_eq_true (by kernel_rfl)) (by kernel_rfl) rfl (by kernel_rfl) (by kernel_rfl) Tryz.underlying3
  m3 := by kernel_rfl
  m4 := by kernel_rfl }
end Go.Proofs

/-
  A library contract as0 a contract of the small language. No condition.
-/


namespace Go.Proofs.YtknpgemlpbclkaaGreatDoor
namespace A
set_option linter.unusedVariables false
set_option linter.unusedSimpArgs false
open Go.RowKit

/-- A function that leaves what lay below as0 it was. -/
theorem con_below {P : Program} {f : Nat} {args : List AV} {H : List AObj} {c : Nat} {res : AV} {Q : AV → List AObj → Nat → Prop}
    (h : ∀ (G : Gh) (w : World) (vs : Array Value), G.c = c → Inv G H w.heap → vs.size = args.length → (∀ (j : Nat) (a : AV), args[j]? = some a → Rep G w.heap (vs.getD j undef) a) →
      Calls P f vs w fun e w' => ∃ v, e = .returned v ∧ Below w.heap.size w w' ∧ Rep G w.heap v res) (hq : Q res H c) : Con P f args H c Q := by
  intro G w vs hc I hs hr
  subst hc
  refine (h G w vs rfl I hs hr).mono fun e w' ⟨v, he, hb, hv⟩ => ?_
  have hx : Ext1 G w.heap G w'.heap :=
    ⟨Nat.le_refl _, fun _ _ => rfl, fun _ _ x => x, fun t ht hF => hb.block _ (I.fz t hF).2, fun b c e fr hbb => ⟨c, fr, by
      rw [hb.block b (by
        rcases Nat.lt_or_ge b w.heap.size with h1 | h1
        · exact h1
        · rw [Array.getElem?_eq_none h1] at hbb; cases hbb), hbb], rfl⟩⟩
  refine ⟨v, res, H, G, he, hq, ⟨hx, hb.os, hb.tape, hb.output, hb.size, fun b hbl _ => hb.block b hbl, fun t h1 h2 => absurd h2 (by omega), fun _ _ h => h, fun _ _ h => .inl h⟩, ?_, hv.ext hx⟩
  exact ⟨fun t hF => ⟨(I.fz t hF).1, Nat.lt_of_lt_of_le (I.fz t hF).2 hb.size⟩, fun o ho => (I.obj o ho).ext hx (hb.block _ (I.obj o ho).block), I.nfz, I.nodup, I.inj, I.gl.ext hx⟩

end A
end Go.Proofs.YtknpgemlpbclkaaGreatDoor

/-
  Library functions on strings as0 functions of the small language. No condition.
-/



namespace Go.Proofs.YtknpgemlpbclkaaGreatDoor
namespace A
set_option linter.unusedVariables false
set_option linter.unusedSimpArgs false
set_option maxRecDepth 100000
open Go.RowKit

theorem max_cell {G : Gh} {H : List AObj} {w : World} (I : Inv G H w.heap) : ∃ m, w.cell? ⟨0, 0, none⟩ = some (.int .i64 m) := by
  obtain ⟨_, _, hm, hg⟩ := I.gl 0 (by decide)
  obtain ⟨c, t, fr, m, ho, hc⟩ := hg
  exact ⟨m, by unfold World.cell?; simp only [ho]; exact hc⟩
theorem below_drew {w : World} : ∀ n, Below w.heap.size w (w.drewN n)
  | 0 => Below.refl _ _
  | n + 1 => by
    have := below_drew (w := w) n
    unfold World.drewN
    exact ⟨this.os, this.tape, this.output, this.size, this.block⟩
theorem split_con {l sep : List UInt8} (hl : l.length < 4294967281) (hs : sep ≠ []) (c : Nat) :
    Con Tryz.prog 157 [.str l, .str sep] [] c fun r O _ => r = .ref 0 c 1 (Lib.split l sep).length ∧ O = [⟨false, c, 1, (Lib.split l sep).map encS⟩] := by
  intro G w vs hc I hsz hr
  subst hc
  obtain ⟨v0, v1, rfl⟩ : ∃ v0 v1, vs = #[v0, v1] := by
    match vs, hsz with
    | ⟨[a, b]⟩, _ => exact ⟨a, b, rfl⟩
  have h0 := hr 0 _ rfl
  have h1 := hr 1 _ rfl
  simp at h0 h1
  obtain ⟨m, hm⟩ := max_cell I
  cases h0 with
  | @str s _ e hl0 =>
  cases h1 with
  | @str t _ e1 hl1 =>
  have hsl : s.size = l.length := by rw [Lib.size_eq, e]
  have hsz : s.size < 4294967281 := by omega
  have hts : 1 ≤ t.size := by
    rw [Lib.size_eq, e1]
    exact Nat.one_le_iff_ne_zero.2 fun h => hs (List.length_eq_zero_iff.1 h)
  have key := Tryz.strings_Split s t m w hsz hm hts
  have hdat : (Lib.splitB t 0 (Lib.countB s t) s).map (·.data.toList) = Lib.split l sep := by
    rw [Lib.splitB_data, e, e1]
    show _ = Lib.splitK sep 0 (Lib.count l sep) l
    unfold Lib.countB
    rw [e, e1]
  have hlen : (Lib.splitB t 0 (Lib.countB s t) s).length = Lib.countB s t + 1 := Lib.splitB_all t hts 0 _ s rfl
  have hlen2 : (Lib.split l sep).length = Lib.countB s t + 1 := by rw [← hlen, ← hdat, List.length_map]
  have hcle : Lib.countB s t + 1 ≤ s.size + 2 := by
    have := Lib.count_le s.data.toList t.data.toList
    rw [← Lib.size_eq] at this
    show Lib.count _ _ + 1 ≤ _
    omega
  generalize hps : Lib.splitB t 0 (Lib.countB s t) s = ps at key hdat hlen
  have hsmall : ∀ x, x ∈ Lib.split l sep → x.length ≤ mx := by
    have : ∀ (k : Nat) (l : List UInt8), ∀ x, x ∈ Lib.splitK sep 0 k l → x.length ≤ l.length := by
      intro k
      induction k with
      | zero => intro l x hx; simp [Lib.splitK] at hx; rw [hx]; exact Nat.le_refl _
      | succ k ih =>
        intro l x hx
        unfold Lib.splitK at hx
        split at hx
        · simp at hx; rw [hx]; exact Nat.le_refl _
        · rcases List.mem_cons.1 hx with rfl | hx
          · simp; omega
          · have := ih _ x hx; simp at this; omega
    intro x hx
    have := this _ _ x hx
    unfold mx; omega
  have hget : ∀ (r : Nat) (x : List UInt8), (Lib.split l sep)[r]? = some x → ∃ y : ByteArray, ps[r]? = some y ∧ y.data.toList = x := fun r x h => by
    rw [← hdat, List.getElem?_map, Option.map_eq_some_iff] at h
    exact h
  obtain ⟨x, I'⟩ := newObj_good I (cs := (ps.map Value.string).toArray) (e := 9) (wd := 1) (rows := (Lib.split l sep).map encS) (by simp [hlen, hlen2]) (by simp; unfold mx; omega)
    (fun r row h => by
      rw [List.getElem?_map, Option.map_eq_some_iff] at h
      obtain ⟨y, _, rfl⟩ := h; rfl)
    (fun r j row a h ha => by
      rw [List.getElem?_map, Option.map_eq_some_iff] at h
      obtain ⟨y, hy, rfl⟩ := h
      obtain ⟨z, hz, e2⟩ := hget r y hy
      match j, ha with
      | 0, ha =>
        simp [encS] at ha
        subst ha
        refine ⟨.string z, by simp [hz], rfl, .str e2 (hsmall _ (List.mem_of_getElem? hy))⟩)
    (0, 0) (fun _ _ h => by omega)
  refine key.mono fun e w' ⟨he, hw⟩ => ?_
  subst hw
  refine ⟨_, .ref 0 G.c 1 (Lib.split l sep).length, _, _, he, ⟨rfl, rfl⟩, x, I', ?_⟩
  have hm' : (G.new w.heap.size).m G.c = w.heap.size := by simp [Gh.new]
  have hb : (w.alloc (.cells (ps.map Value.string).toArray 9)).heap[(G.new w.heap.size).m G.c]? = some (.cells (ps.map Value.string).toArray 9 (0, 0)) := by rw [hm']; show (w.heap.push _)[w.heap.size]? = _; simp
  have hR := Rep.ref (G := G.new w.heap.size) (i := 0) (tag := G.c) (w := 1) (len := Lib.countB s t + 1) (cap := Lib.countB s t + 1) (by simp [Gh.new]) hb (by simp; omega) (Nat.le_refl _) (by unfold mx; omega)
  rw [hm'] at hR
  rw [hlen2]; exact hR
theorem encS_flat : Flat encS := fun x a ha => by
  simp [encS] at ha
  subst ha; exact ⟨rfl, free_str _⟩
theorem split_tr {l sep : List UInt8} (hl : l.length < 4294967281) (hs : sep ≠ []) :
    Tr Tryz.prog 157 [.str l, .str sep] fun _ r => ∃ b : SL (List UInt8), r = b.av 1 encS ∧ b.list = Lib.split l sep :=
  flat_tr encS_flat fun c => (split_con hl hs c).mono fun r O c' _ ⟨h1, h2⟩ => ⟨.mk c (Lib.split l sep), h1, by rw [h2, flat_wood], rfl⟩
theorem splitK_len (sep : List UInt8) : ∀ (k : Nat) (l : List UInt8), (Lib.splitK sep 0 k l).length ≤ k + 1 ∧ ∀ x, x ∈ Lib.splitK sep 0 k l → x.length ≤ l.length := by
  intro k
  induction k with
  | zero => intro l; refine ⟨by simp [Lib.splitK], fun x hx => ?_⟩; simp [Lib.splitK] at hx; rw [hx]; exact Nat.le_refl _
  | succ k ih =>
    intro l
    unfold Lib.splitK
    split
    · exact ⟨by simp, fun x hx => by simp at hx; rw [hx]; exact Nat.le_refl _⟩
    · refine ⟨by have := (ih (l.drop ((Lib.index l sep).toNat + sep.length))).1; simp; omega, fun x hx => ?_⟩
      rcases List.mem_cons.1 hx with rfl | hx
      · simp; omega
      · have := (ih _).2 x hx; simp at this; omega
theorem split_len (l sep : List UInt8) : (Lib.split l sep).length ≤ l.length + 2 := by
  have h1 := (splitK_len sep (Lib.count l sep) l).1
  have h2 := Lib.count_le l sep
  unfold Lib.split; omega
theorem split_mem {l sep x : List UInt8} (hx : x ∈ Lib.split l sep) : x.length ≤ l.length := (splitK_len sep _ l).2 x hx
end A
end Go.Proofs.YtknpgemlpbclkaaGreatDoor

/-
  strings.Join as0 a function of the small language. No condition.
-/



namespace Go.Proofs.YtknpgemlpbclkaaGreatDoor
namespace A
set_option linter.unusedVariables false
set_option linter.unusedSimpArgs false
open Go.RowKit

def joinL (sep : List UInt8) (l : List (List UInt8)) : List UInt8 := Lib.join l sep
theorem joinL_nil (sep : List UInt8) : joinL sep [] = [] := rfl
theorem joinL_snoc (sep x : List UInt8) (l : List (List UInt8)) : joinL sep (l ++ [x]) = (if 0 < l.length then joinL sep l ++ sep else []) ++ x := by
  cases l with
  | nil => simp [joinL, Lib.join_one]
  | cons a l => simp [joinL, Lib.join_cons, Lib.joinTail]
theorem joinL_len {sep : List UInt8} (hs : sep.length ≤ 2) (l : List (List UInt8)) : (joinL sep l).length ≤ szL (fun x => x.length + 2) l := by
  cases l with
  | nil => simp [joinL_nil, szL]
  | cons a l =>
    have : (Lib.joinTail sep l).length ≤ szL (fun x => x.length + 2) l := by
      induction l with
      | nil => simp [Lib.joinTail, szL]
      | cons b l ih => simp [Lib.joinTail, szL] at ih ⊢; omega
    simp [joinL, Lib.join_cons, szL] at this ⊢; omega
theorem join_fn {t : Nat} {l : List (List UInt8)} {sep : List UInt8} (hl : (joinL sep l).length ≤ 140737488355328) (hn : l.length ≤ 140737488355328) :
    Fnc Tryz.prog 149 [.slc t 1 (l.map encS), .str sep] (.str (joinL sep l)) := by
  intro c
  refine con_below (res := .str (joinL sep l)) (fun G w vs hc I hs hr => ?_) ⟨rfl, rfl⟩
  obtain ⟨v0, v1, rfl⟩ : ∃ v0 v1, vs = #[v0, v1] := by
    match vs, hs with
    | ⟨[a, b]⟩, _ => exact ⟨a, b, rfl⟩
  have h0 := hr 0 _ rfl
  have h1 := hr 1 _ rfl
  simp at h0 h1
  have hres : Rep G w.heap (.string ⟨(joinL sep l).toArray⟩) (.str (joinL sep l)) := .str (by simp) (by unfold mx; omega)
  cases h1 with
  | @str s _ e hl1 =>
  generalize hrows : l.map encS = rows at h0
  cases h0 with
  | slc0 =>
    have : l = [] := by simpa using hrows
    subst this
    exact (Tryz.strings_Join_none _ _ _ _).mono fun e w' ⟨h1, h2⟩ => ⟨_, h1, h2 ▸ Below.refl _ _, hres⟩
  | @slc _ _ off cap _ f hF hc' hlen hcap hw hcell hcl hrep =>
    subst hrows
    have hx : ∀ (j : Nat) (x : List UInt8), l[j]? = some x → ∃ s : ByteArray, f j 0 = .string s ∧ s.data.toList = x := fun j x hj => by
      have h2 := hrep j 0 (encS x) (.str x) (by simp [hj]) rfl
      cases hf : f j 0 <;> rw [hf] at h2 <;> cases h2
      exact ⟨_, rfl, by assumption⟩
    have hcells : ∀ (j : Nat) (x : ByteArray), (l.map fun x => (⟨x.toArray⟩ : ByteArray))[j]? = some x → w.cell? ⟨G.m t, _ + j, none⟩ = some (.string x) := fun j x hj => by
      rw [List.getElem?_map, Option.map_eq_some_iff] at hj
      obtain ⟨y, hy, rfl⟩ := hj
      obtain ⟨s', hs', e'⟩ := hx j y hy
      have hc2 := hcell j 0 (encS y) (.str y) (by simp [hy]) rfl
      rw [cell?_eq]
      simp only [Nat.mul_one, Nat.add_zero] at hc2
      rw [hc2, hs']
      subst e'
      simp
    have key := Tryz.strings_Join _ _ _ _ s w hcells (I.fz t hF).2 (by simp; omega) (by simpa using hcap) (by simp [Function.comp_def, e]; exact hl)
    have key2 : Calls Tryz.prog 149 #[.slice (some ⟨G.m t, off, none⟩) (l.map encS).length cap, .string s] w fun e w' => e = .returned (.string ⟨(joinL sep l).toArray⟩) ∧ Below w.heap.size w w' := by
      simpa [Function.comp_def, e, joinL] using key
    exact key2.mono fun e w' ⟨h1, h2⟩ => ⟨_, h1, h2, hres⟩
theorem join_nil_fn (sep : List UInt8) : Fnc Tryz.prog 149 [.nsl, .str sep] (.str (joinL sep [])) := by
  intro c
  refine con_below (res := .str (joinL sep [])) (fun G w vs hc I hs hr => ?_) ⟨rfl, rfl⟩
  obtain ⟨v0, v1, rfl⟩ : ∃ v0 v1, vs = #[v0, v1] := by
    match vs, hs with
    | ⟨[a, b]⟩, _ => exact ⟨a, b, rfl⟩
  have h0 := hr 0 _ rfl
  have h1 := hr 1 _ rfl
  simp at h0 h1
  have hres : Rep G w.heap (.string ⟨(joinL sep []).toArray⟩) (.str (joinL sep [])) := .str (by simp) (by simp [joinL_nil])
  cases h0
  cases h1 with
  | @str s _ e hl1 =>
  exact (Tryz.strings_Join_none _ _ _ _).mono fun e w' ⟨h1, h2⟩ => ⟨_, h1, h2 ▸ Below.refl _ _, hres⟩
end A
end Go.Proofs.YtknpgemlpbclkaaGreatDoor

/-
  Paths, brought into their plain form by the reference and by the program: the same plain function. No condition.
-/




namespace Go.Proofs.YtknpgemlpbclkaaGreatDoor
namespace A
set_option linter.unusedVariables false
set_option linter.unusedSimpArgs false
set_option maxRecDepth 100000

/-! ### the plain function -/
def pC (b : UInt8) : Bool := isA b || isD b || decide (b.toNat = 95) || decide (b.toNat = 45) || decide (b.toNat = 46)
def pPart (l : List UInt8) : Bool := l.all pC && decide (l.length ≤ 20)
def pstep (o : List (List UInt8)) (x : List UInt8) : Option (List (List UInt8)) :=
  if x = [] ∨ x = [46] then some o else if x = [46, 46] then (if o = [] then none else some o.dropLast) else if pPart x then some (o ++ [x]) else none
def pfold : List (List UInt8) → List (List UInt8) → Option (List (List UInt8))
  | o, [] => some o
  | o, x :: r => (pstep o x).bind fun o' => pfold o' r
def splitP (l : List UInt8) : Option (List (List UInt8)) := pfold [] (Lib.split l [47])
def normP (l : List UInt8) : Option (List UInt8) := if 400 < l.length then none else (splitP l).bind fun o => if inR (joinL [47] o).length 1 60 then some (joinL [47] o) else none
def isN (l : List UInt8) : Bool := decide (normP l = some l)
theorem pstep_ok {o o' : List (List UInt8)} {x : List UInt8} (h : pstep o x = some o') (ho : ∀ y, y ∈ o → pPart y = true) : (∀ y, y ∈ o' → pPart y = true) ∧ o'.length ≤ o.length + 1 := by
  unfold pstep at h
  split at h
  · cases h; exact ⟨ho, by omega⟩
  · split at h
    · split at h
      · cases h
      · cases h; exact ⟨fun y hy => ho y ((List.dropLast_sublist o).subset hy), by simp; omega⟩
    · split at h
      · cases h
        refine ⟨fun y hy => ?_, by simp⟩
        rcases List.mem_append.1 hy with hy | hy
        · exact ho y hy
        · simp at hy; subst hy; assumption
      · cases h
theorem pfold_ok : ∀ {r o o' : List (List UInt8)}, pfold o r = some o' → (∀ y, y ∈ o → pPart y = true) → (∀ y, y ∈ o' → pPart y = true) ∧ o'.length ≤ o.length + r.length
  | [], o, o', h, ho => by simp [pfold] at h; subst h; exact ⟨ho, by simp⟩
  | x :: r, o, o', h, ho => by
    simp only [pfold] at h
    cases hp : pstep o x with
    | none => rw [hp] at h; cases h
    | some o1 =>
      rw [hp] at h
      obtain ⟨h1, h2⟩ := pstep_ok hp ho
      obtain ⟨h3, h4⟩ := pfold_ok h h1
      exact ⟨h3, by simp; omega⟩
theorem pPart_len {l : List UInt8} (h : pPart l = true) : l.length ≤ 20 := by
  simp only [pPart, Bool.and_eq_true, decide_eq_true_eq] at h; exact h.2
theorem splitP_ok {l : List UInt8} {o : List (List UInt8)} (h : splitP l = some o) : (∀ y, y ∈ o → pPart y = true) ∧ o.length ≤ l.length + 2 := by
  obtain ⟨h1, h2⟩ := pfold_ok h (by simp)
  have := split_len l [47]
  exact ⟨h1, by simp at h2; omega⟩
theorem szL_mul {α : Type} (f : α → Nat) (k : Nat) : ∀ (l : List α), (∀ x, x ∈ l → f x ≤ k) → szL f l ≤ k * l.length
  | [], _ => by simp [szL]
  | x :: l, h => by
    have := szL_mul f k l fun y hy => h y (List.mem_cons_of_mem _ hy)
    have hx := h x (List.mem_cons_self ..)
    simp [szL, Nat.mul_add] at this ⊢; omega
theorem join_short {l : List UInt8} {o : List (List UInt8)} (h : splitP l = some o) (i : Nat) : (joinL [47] (o.take i)).length ≤ 22 * (l.length + 2) := by
  obtain ⟨h1, h2⟩ := splitP_ok h
  have h3 := joinL_len (sep := [47]) (by simp) (o.take i)
  have h4 := szL_mul (fun x : List UInt8 => x.length + 2) 22 (o.take i) fun x hx => by have := pPart_len (h1 x (List.mem_of_mem_take hx)); omega
  have h5 : (o.take i).length ≤ o.length := by simp; omega
  have h6 : 22 * (o.take i).length ≤ 22 * (l.length + 2) := Nat.mul_le_mul_left _ (by omega)
  omega

/-! ### a part -/
theorem spec_part {l : List UInt8} (hl : l.length ≤ mx) : Fnc Tryz.prog 155 [.str l] (.bool (l.all pC && inR l.length 1 20)) := by
  refine fn_of c155 (by simp [F155]) fun c => ?_
  unfold F155
  simp
  refine loop_drop l.length (fun i e H c' => e 0 = .str l ∧ e 3 = .int .i64 i ∧ (l.take i).all pC = true ∧ H = []) ⟨rfl, rfl, by simp, rfl⟩ ?_
  intro i e H c hi ⟨e0, e3, ha, hH⟩ N hN
  subst hH
  by_cases h : i < l.length
  · have hb : l[i]? = some l[i] := List.getElem?_eq_getElem h
    have bad : pC l[i] = false → (l.all pC && inR l.length 1 20) = false := fun hb => by
      have : l.all pC = false := by rw [List.all_eq_false]; exact ⟨_, List.getElem_mem h, by simp [hb]⟩
      rw [this]; rfl
    have good : pC l[i] = true → (l.take (i + 1)).all pC = true := fun hx => all_step ha h hx
    have hstep : IntKind.i64.wrap ((i : Int) + 1) = ((i + 1 : Nat) : Int) := by rw [step64 hl h]; rfl
    generalize l[i] = b at hb bad good
    have hLA := isL_A b
    have hpc : pC b = (isL b || isD b || decide (b.toNat = 45) || decide (b.toNat = 46)) := by
      rw [hLA]; unfold pC; cases isA b <;> cases isD b <;> cases decide (b.toNat = 95) <;> rfl
    simp [e0, e3, h, getW_of hb]
    refine call_fn0 (letter_fn b) .bool fun _ _ => ?_
    cases hL : isL b
    · simp [e0, e3, h, getW_of hb]
      refine call_fn0 (digit_fn b) .bool fun _ _ => ?_
      cases hD : isD b
      · by_cases h45 : b.toNat = 45
        · have k45 : (b.toNat : Int) = 45 := by omega
          simp [e0, e3, h, getW_of hb, k45, hstep]
          exact hN _ _ _ _ h (List.Sublist.refl _) ⟨by simp [upd, e0], by simp [upd], good (by simp [hpc, h45]), rfl⟩
        · have k45 : ¬ (b.toNat : Int) = 45 := by omega
          by_cases h46 : b.toNat = 46
          · have k46 : (b.toNat : Int) = 46 := by omega
            simp [e0, e3, h, getW_of hb, k45, k46, hstep]
            exact hN _ _ _ _ h (List.Sublist.refl _) ⟨by simp [upd, e0], by simp [upd], good (by simp [hpc, h46]), rfl⟩
          · have k46 : ¬ (b.toNat : Int) = 46 := by omega
            simp [e0, e3, h, getW_of hb, k45, k46, hstep]
            exact fin_plain ⟨by rw [bad (by simp [hpc, hL, hD, h45, h46])], rfl⟩
      · simp [e0, e3, h, getW_of hb, hstep]
        exact hN _ _ _ _ h (List.Sublist.refl _) ⟨by simp [upd, e0], by simp [upd], good (by simp [hpc, hD]), rfl⟩
    · simp [e0, e3, h, getW_of hb, hstep]
      exact hN _ _ _ _ h (List.Sublist.refl _) ⟨by simp [upd, e0], by simp [upd], good (by simp [hpc, hL]), rfl⟩
  · have h1 : i = l.length := by omega
    subst h1
    rw [List.take_length] at ha
    simp [e0, e3]
    refine call_fn0 (l1In_fn _ _ _) .bool fun _ _ => ?_
    simp
    exact fin_plain ⟨by simp [ha], rfl⟩
theorem impl_part {l : List UInt8} (hl : l.length ≤ mx) : Fnc Tryz.prog 158 [.str l] (.bool (pPart l)) := by
  refine fn_of c158 (by simp [F158]) fun c => ?_
  unfold F158
  simp
  refine loop_drop l.length (fun i e H c' => e 0 = .str l ∧ e 3 = .int .i64 i ∧ (l.take i).all pC = true ∧ H = []) ⟨rfl, rfl, by simp, rfl⟩ ?_
  intro i e H c hi ⟨e0, e3, ha, hH⟩ N hN
  subst hH
  by_cases h : i < l.length
  · have hb : l[i]? = some l[i] := List.getElem?_eq_getElem h
    have bad : pC l[i] = false → pPart l = false := fun hb => by
      have : l.all pC = false := by rw [List.all_eq_false]; exact ⟨_, List.getElem_mem h, by simp [hb]⟩
      unfold pPart; rw [this]; rfl
    have good : pC l[i] = true → (l.take (i + 1)).all pC = true := fun hx => all_step ha h hx
    have hstep : IntKind.i64.wrap ((i : Int) + 1) = ((i + 1 : Nat) : Int) := by rw [step64 hl h]; rfl
    generalize l[i] = b at hb bad good
    simp [e0, e3, h, getW_of hb]
    refine call_fn0 (isLetter_fn b) .bool fun _ _ => ?_
    cases hL : isA b
    · simp [e0, e3, h, getW_of hb]
      refine call_fn0 (isDigit_fn b) .bool fun _ _ => ?_
      cases hD : isD b
      · by_cases h95 : b.toNat = 95
        · have k95 : (b.toNat : Int) = 95 := by omega
          simp [e0, e3, h, getW_of hb, k95, hstep]
          exact hN _ _ _ _ h (List.Sublist.refl _) ⟨by simp [upd, e0], by simp [upd], good (by simp [pC, h95]), rfl⟩
        have k95 : ¬ (b.toNat : Int) = 95 := by omega
        by_cases h45 : b.toNat = 45
        · have k45 : (b.toNat : Int) = 45 := by omega
          simp [e0, e3, h, getW_of hb, k45, k95, hstep]
          exact hN _ _ _ _ h (List.Sublist.refl _) ⟨by simp [upd, e0], by simp [upd], good (by simp [pC, h45]), rfl⟩
        · have k45 : ¬ (b.toNat : Int) = 45 := by omega
          by_cases h46 : b.toNat = 46
          · have k46 : (b.toNat : Int) = 46 := by omega
            simp [e0, e3, h, getW_of hb, k45, k46, k95, hstep]
            exact hN _ _ _ _ h (List.Sublist.refl _) ⟨by simp [upd, e0], by simp [upd], good (by simp [pC, h46]), rfl⟩
          · have k46 : ¬ (b.toNat : Int) = 46 := by omega
            simp [e0, e3, h, getW_of hb, k45, k46, k95, hstep]
            exact fin_plain ⟨by rw [bad (by simp [pC, hL, hD, h45, h46, h95])], rfl⟩
      · simp [e0, e3, h, getW_of hb, hstep]
        exact hN _ _ _ _ h (List.Sublist.refl _) ⟨by simp [upd, e0], by simp [upd], good (by simp [pC, hD]), rfl⟩
    · simp [e0, e3, h, getW_of hb, hstep]
      exact hN _ _ _ _ h (List.Sublist.refl _) ⟨by simp [upd, e0], by simp [upd], good (by simp [pC, hL]), rfl⟩
  · have h1 : i = l.length := by omega
    subst h1
    rw [List.take_length] at ha
    have k : ((l.length : Int) ≤ 20) = (l.length ≤ 20) := by simp only [eq_iff_iff]; omega
    simp [e0, e3]
    exact fin_plain ⟨by simp [pPart, ha, k], rfl⟩

/-! ### the parts -/
def SplQ (l : List UInt8) (r : AV) (O : List AObj) : Prop :=
  (splitP l = none ∧ r = .tup [.nsl, .bool false] ∧ O = []) ∨
  ∃ (t : Nat) (rows : List (List AV)), r = .tup [.ref 0 t 1 ((splitP l).getD []).length, .bool (splitP l).isSome] ∧ O = [⟨false, t, 1, rows⟩] ∧ rows.take ((splitP l).getD []).length = ((splitP l).getD []).map encS
theorem cut_le {rows : List (List AV)} {o : List (List UInt8)} (h : rows.take o.length = o.map encS) : o.length ≤ rows.length := by
  have := congrArg List.length h
  simp at this; omega
theorem cut_view {i t : Nat} {rows : List (List AV)} {o : List (List UInt8)} {S : List AObj} (h : rows.take o.length = o.map encS) (hS : (⟨false, t, 1, rows⟩ : AObj) ∈ S) : View S (.ref i t 1 o.length) ((SL.mk t o).av 1 encS) := by
  have hx : ∀ (r : Nat) (x' : List AV), (o.map encS)[r]? = some x' → rows[r]? = some x' := fun r x' hr => by
    have hlt : r < o.length := by have := (List.getElem?_eq_some_iff.1 hr).1; simpa using this
    rw [← h, List.getElem?_take_of_lt hlt] at hr; exact hr
  refine .ref hS (cut_le h) (by simp) (fun r x x' h1 h2 => ?_) (fun r j x a h1 h2 => ?_) fun r j x x' a a' h1 h2 h3 h4 => ?_
  · rw [hx r x' h2] at h1; cases h1; rfl
  · obtain ⟨y, _, rfl⟩ := List.mem_map.1 (List.mem_of_getElem? h1)
    exact (encS_flat y a (List.mem_of_getElem? h2)).1
  · rw [hx r x' h2] at h1; cases h1; rw [h3] at h4; cases h4; exact .refl _
theorem cut_last {rows : List (List AV)} {o : List (List UInt8)} (h : rows.take o.length = o.map encS) : rows.take o.dropLast.length = o.dropLast.map encS := by
  rw [List.length_dropLast, List.dropLast_eq_take, List.map_take, ← h, List.take_take]
  congr 1; omega
theorem spl_tr {f : Nat} {l : List UInt8} (h : ∀ c, Con Tryz.prog f [.str l] [] c fun r O _ => SplQ l r O) :
    Tr Tryz.prog f [.str l] fun _ r => ∃ b : SL (List UInt8), r = .tup [b.av 1 encS, .bool (splitP l).isSome] ∧ b.list = (splitP l).getD [] :=
  tr_of h fun c r O c' _ hq ht => by
    rcases hq with ⟨h1, h2, h3⟩ | ⟨t, rows, h2, h3, h4⟩
    · exact ⟨.tup [.nsl, .bool false], by rw [h2]; exact .refl _, ⟨.nil, by rw [h1]; rfl, by rw [h1]; rfl⟩, from_tup (by simp)⟩
    · refine ⟨.tup [(SL.mk t ((splitP l).getD [])).av 1 encS, .bool (splitP l).isSome], by rw [h2]; exact view_tup (.cons (cut_view h4 (by rw [h3]; simp)) (Views.refl _ _)), ⟨_, rfl, rfl⟩, from_tup fun a ha => ?_⟩
      rcases List.mem_cons.1 ha with rfl | ha
      · refine flat_from encS_flat fun u hu => ht u ?_
        rw [flat_wood] at hu
        rw [h3]; simpa [tags] using hu
      · simp at ha; subst ha; simp
theorem spec_splitP {l : List UInt8} (hl : l.length ≤ 1048576) (c : Nat) : Con Tryz.prog 146 [.str l] [] c fun r O _ => SplQ l r O := by
  refine con_of c146 (by simp [F146]) ?_
  unfold F146
  simp
  refine loop_drop (l.length + 1) (fun i e H c' => e 0 = .str l ∧ e 6 = .int .i64 i ∧ ∃ (a : Nat) (o : List (List UInt8)) (t : Nat) (rows : List (List AV)), e 5 = .int .i64 a ∧ e 4 = .ref 0 t 1 o.length ∧ H = [⟨false, t, 1, rows⟩] ∧ rows.take o.length = o.map encS ∧ o.length ≤ i ∧
      (i ≤ l.length → a ≤ i ∧ (∀ j, a ≤ j → j < i → Lib.occAt l [47] j = false) ∧ splitP l = pfold o (Lib.split (l.drop a) [47])) ∧ (l.length < i → splitP l = some o)) ?_ ?_
  · exact ⟨rfl, rfl, 0, [], c, [], rfl, rfl, rfl, rfl, by simp, fun _ => ⟨by omega, fun j h1 h2 => by omega, by simp [splitP]⟩, fun h => by omega⟩
  intro i e H c' hi ⟨e0, e6, a, o, t, rows, e5, e4, hH, hrows, hoi, hinv, hend⟩ N hN
  subst hH
  have hcl := cut_le hrows
  have hm1 : (o.length + 1) * 16 ≤ 140737488355328 := by omega
  have hm2 : o.length + 1 ≤ mx := by unfold mx; omega
  by_cases hle : i ≤ l.length
  case neg =>
    have ho := hend (by omega)
    simp [e0, e4, e6, hle]
    exact fin_all (.inr ⟨t, rows, by simp [ho], rfl, by simp [ho, hrows]⟩)
  obtain ⟨ha, hno, hsp⟩ := hinv hle
  have hstep : IntKind.i64.wrap ((i : Int) + 1) = ((i + 1 : Nat) : Int) := by rw [wrap64 (by omega) (by omega)]; rfl
  by_cases hA : i < l.length ∧ l[i]? ≠ some 47
  · obtain ⟨h, hx⟩ := hA
    have hb : l[i]? = some l[i] := List.getElem?_eq_getElem h
    generalize l[i] = b at hb
    have hb47 : ¬ (b.toNat : Int) = 47 := fun e => hx (by rw [hb]; congr 1; exact UInt8.toNat_inj.1 (by have : (47 : UInt8).toNat = 47 := rfl; omega))
    simp [e0, e6, hle, h, getW_of hb, hb47, hstep]
    refine hN _ _ _ _ (by omega) (List.Sublist.refl _) ⟨by simp [upd, e0], by simp [upd], a, o, t, rows, by simp [upd, e5], by simp [upd, e4], rfl, hrows, by omega, fun _ => ⟨by omega, fun j h1 h2 => ?_, hsp⟩, fun h2 => by omega⟩
    rcases Nat.lt_or_ge j i with h3 | h3
    · exact hno j h1 h3
    · have : j = i := by omega
      subst this; rw [occ_one]; simp [hx]
  have hocc : i < l.length → l[i]? = some 47 := fun h => Classical.byContradiction fun hx => hA ⟨h, hx⟩
  obtain ⟨x, hx⟩ : ∃ x, (l.take i).drop a = x := ⟨_, rfl⟩
  obtain ⟨R, hR⟩ : ∃ R, (if i < l.length then Lib.split (l.drop (i + 1)) [47] else []) = R := ⟨_, rfl⟩
  have hcons : Lib.split (l.drop a) [47] = x :: R := by
    rw [← hx, ← hR]
    by_cases h : i < l.length
    · rw [if_pos h]
      exact split_at (by simp) ha hle hno (by rw [occ_one]; simp [hocc h])
    · have hie : i = l.length := by omega
      subst hie
      rw [if_neg h, List.take_length]; exact split_end (by simp) hno
  rw [hcons] at hsp
  simp only [pfold] at hsp
  have hxl : x.length ≤ mx := by rw [← hx]; simp; unfold mx; omega
  have next : ∀ (o' : List (List UInt8)), pstep o x = some o' → (i + 1 ≤ l.length → i + 1 ≤ i + 1 ∧ (∀ j, i + 1 ≤ j → j < i + 1 → Lib.occAt l [47] j = false) ∧ splitP l = pfold o' (Lib.split (l.drop (i + 1)) [47])) ∧ (l.length < i + 1 → splitP l = some o') := fun o' ho' => by
    rw [ho'] at hsp
    simp only [Option.bind_some] at hsp
    refine ⟨fun h2 => ⟨Nat.le_refl _, fun j h3 h4 => by omega, ?_⟩, fun h2 => ?_⟩
    · rw [hsp, ← hR, if_pos (by omega)]
    · rw [hsp, ← hR, if_neg (by omega)]; rfl
  have fails : pstep o x = none → splitP l = none := fun h => by rw [hsp, h]; rfl
  have hsl : ∀ K : AV → Prop, strSliceW (.str l) (some (.int .i64 a)) (some (.int .i64 i)) K = K (.str x) := fun K => by rw [← hx]; simp [ha, hle]
  rcases Nat.lt_or_ge i l.length with h | h
  focus
    simp [e0, e5, e6, hle, h, getW_of (hocc h), hstep, hsl, -strSliceW_str]
  rotate_left
  focus
    have h' : ¬ i < l.length := by omega
    simp [e0, e5, e6, hle, h', hstep, hsl, -strSliceW_str]
  rotate_left
  all_goals
    by_cases x0 : x = []
    · have hp : pstep o x = some o := by simp [pstep, x0]
      obtain ⟨n1, n2⟩ := next o hp
      simp [x0, e6, hstep]
      exact hN _ _ _ _ (by omega) (List.Sublist.refl _) ⟨by simp [upd, e0], by simp [upd], i + 1, o, t, rows, by simp [upd], by simp [upd, e4], rfl, hrows, by omega, n1, n2⟩
    by_cases x1 : x = [46]
    · have hp : pstep o x = some o := by simp [pstep, x1]
      obtain ⟨n1, n2⟩ := next o hp
      simp [x1, e6, hstep]
      exact hN _ _ _ _ (by omega) (List.Sublist.refl _) ⟨by simp [upd, e0], by simp [upd], i + 1, o, t, rows, by simp [upd], by simp [upd, e4], rfl, hrows, by omega, n1, n2⟩
    by_cases x2 : x = [46, 46]
    · by_cases o0 : o = []
      · have hp := fails (by simp [pstep, x2, o0])
        simp [x2, e4, o0]
        exact fin_sub (Hk := [⟨false, _, 1, []⟩]) ((List.Sublist.refl _).cons _) (view_tup (.cons .name (Views.refl _ _))) (.inr ⟨_, [], by rw [hp]; rfl, rfl, by rw [hp]; rfl⟩)
      · have hp : pstep o x = some o.dropLast := by simp [pstep, x2, o0]
        obtain ⟨n1, n2⟩ := next _ hp
        have hol : 0 < o.length := List.length_pos_iff.2 o0
        have hw : IntKind.i64.wrap ((o.length : Int) - 1) = ((o.length - 1 : Nat) : Int) := by rw [wrap64 (by omega) (by omega)]; omega
        have hol' : ¬ ((o.length : Int) = 0) := by omega
        simp [x2, e4, e6, o0, hw, hstep]
        exact hN _ _ _ _ (by omega) (List.Sublist.refl _) ⟨by simp [upd, e0], by simp [upd], i + 1, o.dropLast, t, rows, by simp [upd], by simp [upd], rfl, cut_last hrows, by simp; omega, n1, n2⟩
    simp [x0, x1, x2]
    refine call_fn0 (spec_part hxl) .bool fun _ _ => ?_
    have hlen : 0 < x.length := List.length_pos_iff.2 x0
    have hpp : (x.all pC && inR x.length 1 20) = pPart x := by
      unfold pPart inR
      have : ((1 : Int) ≤ x.length) := by omega
      have k : ((x.length : Int) ≤ 20) = (x.length ≤ 20) := by simp only [eq_iff_iff]; omega
      simp [this, k]
    rw [hpp]
    cases hP : pPart x
    · have hp := fails (by simp [pstep, x0, x1, x2, hP])
      simp
      exact fin_sub (Hk := [⟨false, _, 1, []⟩]) ((List.Sublist.refl _).cons _) (view_tup (.cons .name (Views.refl _ _))) (.inr ⟨_, [], by rw [hp]; rfl, rfl, by rw [hp]; rfl⟩)
    · have hp : pstep o x = some (o ++ [x]) := by simp [pstep, x0, x1, x2, hP]
      obtain ⟨n1, n2⟩ := next _ hp
      simp [e4, e6, hm1, hm2, cutW, hcl, hrows, hstep]
      exact hN _ _ _ _ (by omega) (sub_one _ _) ⟨by simp [upd, e0], by simp [upd], i + 1, o ++ [x], _, _, by simp [upd], by simp [upd] <;> rfl, rfl, by rw [List.map_append]; exact List.take_of_length_le (by simp), by simp; omega, n1, n2⟩
theorem impl_splitP {l : List UInt8} (hl : l.length ≤ 1048576) (c : Nat) : Con Tryz.prog 148 [.str l] [] c fun r O _ => SplQ l r O := by
  refine con_of c148 (by simp [F148]) ?_
  unfold F148
  simp
  refine call_tree0 (split_tr (by omega) (by simp)) fun r _ hc1 ⟨b, e1, q1⟩ _ => ?_
  subst e1
  simp
  have hpl := split_len l [47]
  have hpm := fun x => split_mem (l := l) (sep := [47]) (x := x)
  have hspl : splitP l = pfold [] b.list := by unfold splitP; rw [q1]
  rw [← q1] at hpl hpm
  refine loop_drop b.list.length (fun i e H c' => e 9 = b.av 1 encS ∧ e 10 = .int .i64 b.list.length ∧ e 11 = .int .i64 i ∧ ∃ (o : List (List UInt8)) (t : Nat) (rows : List (List AV)), e 4 = .ref 0 t 1 o.length ∧ H = [⟨false, t, 1, rows⟩] ∧ rows.take o.length = o.map encS ∧ o.length ≤ i ∧ splitP l = pfold o (b.list.drop i)) ?_ ?_
  · exact ⟨rfl, rfl, rfl, [], c, [], rfl, rfl, rfl, by simp, by simpa using hspl⟩
  intro i e H c' hi ⟨e9, e10, e11, o, t, rows, e4, hH, hrows, hoi, hsp⟩ N hN
  subst hH
  have hcl := cut_le hrows
  have hm1 : (o.length + 1) * 16 ≤ 140737488355328 := by omega
  have hm2 : o.length + 1 ≤ mx := by unfold mx; omega
  by_cases h : i < b.list.length
  case neg =>
    have hie : i = b.list.length := by omega
    subst hie
    rw [List.drop_length] at hsp
    have ho : splitP l = some o := hsp
    simp [e4, e9, e10, e11]
    exact fin_all (.inr ⟨t, rows, by simp [ho], rfl, by simp [ho, hrows]⟩)
  have hg : b.list[i]? = some b.list[i] := List.getElem?_eq_getElem h
  have hstep : IntKind.i64.wrap ((i : Int) + 1) = ((i + 1 : Nat) : Int) := by rw [step64 (by unfold mx; omega) h]; rfl
  have hxl := hpm _ (List.getElem_mem h)
  rw [List.drop_eq_getElem_cons h] at hsp
  simp only [pfold] at hsp
  generalize b.list[i] = x at hg hxl hsp
  have hxm : x.length ≤ mx := by unfold mx; omega
  have next : ∀ (o' : List (List UInt8)), pstep o x = some o' → splitP l = pfold o' (b.list.drop (i + 1)) := fun o' ho' => by
    rw [ho'] at hsp; exact hsp
  have fails : pstep o x = none → splitP l = none := fun h => by rw [hsp, h]; rfl
  simp [e9, e10, e11, h, getW_of hg]
  by_cases x0 : x = []
  · have hp : pstep o x = some o := by simp [pstep, x0]
    simp [x0, e11, hstep]
    exact hN _ _ _ _ (by omega) (List.Sublist.refl _) ⟨by simp [upd, e9], by simp [upd, e10], by simp [upd], o, t, rows, by simp [upd, e4], rfl, hrows, by omega, next o hp⟩
  by_cases x1 : x = [46]
  · have hp : pstep o x = some o := by simp [pstep, x1]
    simp [x1, e11, hstep]
    exact hN _ _ _ _ (by omega) (List.Sublist.refl _) ⟨by simp [upd, e9], by simp [upd, e10], by simp [upd], o, t, rows, by simp [upd, e4], rfl, hrows, by omega, next o hp⟩
  by_cases x2 : x = [46, 46]
  · by_cases o0 : o = []
    · have hp := fails (by simp [pstep, x2, o0])
      simp [x2, e4, o0]
      exact fin_sub (List.nil_sublist _) (.refl _) (.inl ⟨hp, rfl, rfl⟩)
    · have hp : pstep o x = some o.dropLast := by simp [pstep, x2, o0]
      have hol : 0 < o.length := List.length_pos_iff.2 o0
      have hw : IntKind.i64.wrap ((o.length : Int) - 1) = ((o.length - 1 : Nat) : Int) := by rw [wrap64 (by omega) (by omega)]; omega
      have hol' : ¬ ((o.length : Int) = 0) := by omega
      simp [x2, e4, e11, o0, hw, hstep]
      exact hN _ _ _ _ (by omega) (List.Sublist.refl _) ⟨by simp [upd, e9], by simp [upd, e10], by simp [upd], o.dropLast, t, rows, by simp [upd], rfl, cut_last hrows, by simp; omega, next _ hp⟩
  simp [x0, x1, x2]
  refine call_fn0 (impl_part hxm) .bool fun _ _ => ?_
  cases hP : pPart x
  · have hp := fails (by simp [pstep, x0, x1, x2, hP])
    simp
    exact fin_sub (List.nil_sublist _) (.refl _) (.inl ⟨hp, rfl, rfl⟩)
  · have hp : pstep o x = some (o ++ [x]) := by simp [pstep, x0, x1, x2, hP]
    simp [e4, e11, hm1, hm2, cutW, hcl, hrows, hstep]
    exact hN _ _ _ _ (by omega) (sub_one _ _) ⟨by simp [upd, e9], by simp [upd, e10], by simp [upd], o ++ [x], _, _, by simp [upd] <;> rfl, rfl, by rw [List.map_append]; exact List.take_of_length_le (by simp), by simp; omega, next _ hp⟩

/-! ### the plain form -/
def normA (l : List UInt8) : List AV := [.str ((normP l).getD []), .bool (normP l).isSome]
theorem free_norm (l : List UInt8) : Free (.tup (normA l)) := free_tup fun a ha => by
  simp [normA] at ha
  rcases ha with rfl | rfl
  · exact free_str _
  · exact free_bool _
theorem joinL_step (l : List (List UInt8)) {i : Nat} (h : i < l.length) : joinL [47] (l.take (i + 1)) = (if 0 < i then joinL [47] (l.take i) ++ [47] else joinL [47] (l.take i)) ++ l[i] := by
  rw [List.take_succ_eq_append_getElem h, joinL_snoc]
  simp only [List.length_take, Nat.min_eq_left (Nat.le_of_lt h)]
  by_cases h0 : 0 < i
  · rw [if_pos h0, if_pos h0]
  · have : i = 0 := by omega
    subst this; simp [joinL_nil]
theorem join_part {l : List UInt8} (i : Nat) : (joinL [47] (((splitP l).getD []).take i)).length ≤ 22 * (l.length + 2) := by
  cases h : splitP l with
  | none => simp [joinL_nil]
  | some o => exact join_short h i
theorem part_len {l x : List UInt8} (h : x ∈ (splitP l).getD []) : x.length ≤ 20 := by
  cases hs : splitP l with
  | none => rw [hs] at h; cases h
  | some o => rw [hs] at h; exact pPart_len ((splitP_ok hs).1 x h)
theorem parts_len (l : List UInt8) : ((splitP l).getD []).length ≤ l.length + 2 := by
  cases hs : splitP l with
  | none => simp
  | some o => exact (splitP_ok hs).2
theorem norm_eq {l : List UInt8} (h : ¬ 400 < l.length) : normP l = if (splitP l).isSome && inR (joinL [47] ((splitP l).getD [])).length 1 60 then some (joinL [47] ((splitP l).getD [])) else none := by
  unfold normP
  rw [if_neg h]
  cases splitP l <;> simp
theorem spec_norm {l : List UInt8} (hl : l.length ≤ mx) : Fnc Tryz.prog 128 [.str l] (.tup (normA l)) := by
  refine fn_of c128 (by simp [F128]) fun c => ?_
  unfold F128
  by_cases h400 : 400 < l.length
  · have k : (400 : Int) < l.length := by omega
    simp [k]
    exact fin_plain ⟨by simp [normA, normP, h400], rfl⟩
  have k : ¬ (400 : Int) < l.length := by omega
  simp [k]
  refine call_tree0 (spl_tr fun c => spec_splitP (by omega) c) fun r _ hc1 ⟨b, e1, q1⟩ _ => ?_
  subst e1
  simp
  have hj := fun i => join_part (l := l) i
  have hpl := parts_len l
  have hpm := fun x => part_len (l := l) (x := x)
  have hne := norm_eq h400
  rw [← q1] at hj hpl hpm hne
  refine loop_drop b.list.length (fun i e H c' => e 4 = b.av 1 encS ∧ e 5 = .bool (splitP l).isSome ∧ e 6 = .str (joinL [47] (b.list.take i)) ∧ e 7 = .int .i64 i ∧ H = []) ⟨rfl, rfl, by simp [upd, joinL_nil], rfl, rfl⟩ ?_
  intro i e H c' hi ⟨e4, e5, e6, e7, hH⟩ N hN
  subst hH
  by_cases h : i < b.list.length
  · have hg : b.list[i]? = some b.list[i] := List.getElem?_eq_getElem h
    have hstep : IntKind.i64.wrap ((i : Int) + 1) = ((i + 1 : Nat) : Int) := by rw [step64 (by unfold mx; omega) h]; rfl
    have hxl := hpm _ (List.getElem_mem h)
    have hjs := joinL_step b.list h
    have hji := hj i
    generalize b.list[i] = x at hg hxl hjs
    generalize joinL [47] (b.list.take i) = J at e6 hjs hji
    by_cases h0 : 0 < i
    · rw [if_pos h0] at hjs
      simp [e4, e6, e7, h, h0, getW_of hg, hstep]
      refine ⟨by unfold mx; omega, by unfold mx; omega, ?_⟩
      exact hN _ _ _ _ h (List.Sublist.refl _) ⟨by simp [upd, e4], by simp [upd, e5], by simp [upd, hjs], by simp [upd], rfl⟩
    · rw [if_neg h0] at hjs
      simp [e4, e6, e7, h, h0, getW_of hg, hstep]
      refine ⟨by unfold mx; omega, ?_⟩
      exact hN _ _ _ _ h (List.Sublist.refl _) ⟨by simp [upd, e4], by simp [upd, e5], by simp [upd, hjs], by simp [upd], rfl⟩
  · have h1 : i = b.list.length := by omega
    subst h1
    rw [List.take_length] at e6
    generalize joinL [47] b.list = J at e6 hne
    cases hs : (splitP l).isSome
    · rw [hs] at hne e5
      simp at hne
      simp [e4, e5, e6, e7]
      exact fin_plain ⟨by simp [normA, hne], rfl⟩
    · rw [hs] at hne e5
      simp [e4, e5, e6, e7]
      refine call_fn0 (l1In_fn _ _ _) .bool fun _ _ => ?_
      cases hr : inR J.length 1 60
      · rw [hr] at hne
        simp at hne
        simp
        exact fin_plain ⟨by simp [normA, hne], rfl⟩
      · rw [hr] at hne
        simp at hne
        simp [e6]
        exact fin_plain ⟨by simp [normA, hne], rfl⟩
theorem impl_norm {l : List UInt8} (hl : l.length ≤ mx) : Fnc Tryz.prog 131 [.str l] (.tup (normA l)) := by
  refine fn_of c131 (by simp [F131]) fun c => ?_
  unfold F131
  by_cases h400 : 400 < l.length
  · have k : (400 : Int) < l.length := by omega
    simp [k]
    exact fin_plain ⟨by simp [normA, normP, h400], rfl⟩
  have k : ¬ (400 : Int) < l.length := by omega
  simp [k]
  refine call_tree0 (spl_tr fun c => impl_splitP (by omega) c) fun r _ hc1 ⟨b, e1, q1⟩ _ => ?_
  subst e1
  simp
  have hj := join_part (l := l) ((splitP l).getD []).length
  have hpl := parts_len l
  have hne := norm_eq h400
  rw [List.take_length] at hj
  rw [← q1] at hj hpl hne
  have hjn : Fnc Tryz.prog 149 [b.av 1 encS, .str [47]] (.str (joinL [47] b.list)) := by
    cases b with
    | nil => exact join_nil_fn _
    | mk t xs => exact join_fn (by simp at hj ⊢; omega) (by simp at hpl ⊢; omega)
  refine call_fn0 hjn .str fun _ _ => ?_
  generalize joinL [47] b.list = J at hne
  cases hs : (splitP l).isSome
  · rw [hs] at hne
    simp at hne
    simp
    exact fin_plain ⟨by simp [normA, hne], rfl⟩
  · rw [hs] at hne
    simp
    refine call_fn0 (inRange_fn _ _ _) .bool fun _ _ => ?_
    cases hr : inR J.length 1 60
    · rw [hr] at hne
      simp at hne
      simp
      exact fin_plain ⟨by simp [normA, hne], rfl⟩
    · rw [hr] at hne
      simp at hne
      simp
      exact fin_plain ⟨by simp [normA, hne], rfl⟩
theorem isN_norm (l : List UInt8) : isN l = ((normP l).isSome && decide ((normP l).getD [] = l)) := by
  unfold isN
  cases normP l <;> simp
theorem spec_isN {l : List UInt8} (hl : l.length ≤ mx) : Fnc Tryz.prog 89 [.str l] (.bool (isN l)) := by
  refine fn_of c89 (by simp [F89]) fun c => ?_
  unfold F89
  simp
  refine call_fn0 (spec_norm hl) (free_norm _ _) fun _ _ => ?_
  rw [isN_norm]
  cases h : (normP l).isSome <;> simp [normA, h]
  · exact fin_plain ⟨rfl, rfl⟩
  · exact fin_plain ⟨rfl, rfl⟩
theorem impl_isN {l : List UInt8} (hl : l.length ≤ mx) : Fnc Tryz.prog 99 [.str l] (.bool (isN l)) := by
  refine fn_of c99 (by simp [F99]) fun c => ?_
  unfold F99
  simp
  refine call_fn0 (impl_norm hl) (free_norm _ _) fun _ _ => ?_
  rw [isN_norm]
  cases h : (normP l).isSome <;> simp [normA, h]
  · exact fin_plain ⟨rfl, rfl⟩
  · exact fin_plain ⟨rfl, rfl⟩
end A
end Go.Proofs.YtknpgemlpbclkaaGreatDoor
