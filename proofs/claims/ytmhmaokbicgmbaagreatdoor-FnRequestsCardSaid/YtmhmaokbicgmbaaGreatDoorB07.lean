import Derived.Shelf.Strings.OnBuilder
import Derived.Shelf.Small.Wraps
import Derived.Shelf.LaysM
import Derived.Shelf.Strconv.Itoa3
import Derived.Shelf.Strings.Cut
import Derived.Shelf.Strings.Prefix
import Derived.Shelf.Strings.Split
import Derived.Shelf.Strings.SplitShaped
import Derived.Test.YtmhmaokbicgmbaaGreatDoorProg
import Derived.Below
import Derived.Shelf.LaysC
import Derived.Shelf.Strconv.AtoiAll
import Derived.Test.YtmhmaokbicgmbaaGreatDoorB06

/-
  The families of helpers over slices (sizes, copies, comparisons): each once, for every element. No condition.
-/

namespace Go.Proofs.YtmhmaokbicgmbaaGreatDoor
namespace A
set_option linter.unusedVariables false
set_option linter.unusedSimpArgs false

/-- rows made so far, and the blank ones -/
def grow {α : Type} (f : α → List AV) (z : List AV) (n : Nat) (ys : List α) : List (List AV) := ys.map f ++ List.replicate (n - ys.length) z
theorem grow_nil {α : Type} (f : α → List AV) (z : List AV) (n : Nat) : grow f z n [] = List.replicate n z := by simp [grow]
theorem grow_all {α : Type} (f : α → List AV) (z : List AV) {n : Nat} {ys : List α} (h : ys.length = n) : grow f z n ys = ys.map f := by simp [grow, h]
theorem grow_len {α : Type} (f : α → List AV) (z : List AV) {n : Nat} {ys : List α} (h : ys.length ≤ n) : (grow f z n ys).length = n := by simp [grow]; omega
theorem grow_get {α : Type} (f : α → List AV) (z : List AV) {n i : Nat} {ys : List α} (hi : ys.length = i) (h : i < n) : (grow f z n ys)[i]? = some z := by
  unfold grow
  rw [List.getElem?_append_right (by simp; omega), List.length_map, hi, Nat.sub_self, List.getElem?_replicate, if_pos (by omega)]
theorem grow_set {α : Type} (f : α → List AV) (z : List AV) {n i : Nat} {ys : List α} (hi : ys.length = i) (h : i < n) (y : α) : (grow f z n ys).set i (f y) = grow f z n (ys ++ [y]) := by
  unfold grow
  have e : n - ys.length = (n - (i + 1)) + 1 := by omega
  rw [e, List.replicate_succ, List.set_append_right _ _ (by simp; omega), List.length_map, hi, Nat.sub_self, List.set_cons_zero]
  simp [hi]

theorem from_agg_mem {c : Nat} {l : List AV} (h : From c (.agg l)) : ∀ a, a ∈ l → From c a := fun a ha T hT => by
  have := h T hT
  cases this with
  | agg h => obtain ⟨j, hj, e⟩ := List.mem_iff_getElem.1 ha; exact h j a (by rw [← e]; exact List.getElem?_eq_getElem hj)

theorem take_len {α : Type} (l : List α) {w : Nat} (h : l.length = w) : l.take w = l := by rw [List.take_of_length_le (by omega)]
/-- A copy of a slice, element by element, by a function. -/
def toSF (w : Nat) (z : List AV) (bytes g : Nat) : Fun := ⟨23,
  .seq (.reg [o 2 (.mv (.c .nsl))])
  (.seq (.reg [o 5 (.mv (.t 0)), o 6 (.lenL (.t 5)), o 7 (.mkslice w z bytes (.t 6) (.t 6)), o 3 (.mv (.t 7))])
  (.seq (.seq (.reg [o 4 (.mv (.c (.int .i64 0)))])
  (.block 0 (.loop (.seq (.seq (.reg [o 8 (.mv (.t 4)), o 9 (.mv (.t 0)), o 10 (.lenL (.t 9)), o 11 (.bin .lss (.t 8) (.t 10))])
    (.cond (.t 11) (.skip) (.exit 0)))
    (.seq (.block 1 (.reg [o 14 (.mv (.t 3)), o 15 (.mv (.t 4)), o 16 (.mv (.t 0)), o 17 (.mv (.t 4)), o 18 (.iaddr w (.t 16) (.t 17)), o 19 (.load (some w) (.t 18)), o 20 (.call g [(.t 19)]), o 21 (.iaddr w (.t 14) (.t 15)), st (.store w (.t 21) (.t 20))]))
    (.reg [o 12 (.mv (.t 4)), o 13 (.bin .add (.t 12) (.c (.int .i64 1))), o 4 (.mv (.t 13))]))))))
  (.seq (.reg [o 22 (.mv (.t 3)), o 2 (.mv (.t 22))])
  (.ret)))),
  [.tmp 2]⟩

/-- The same, of plain elements. -/
def toPF (z : AV) (bytes : Nat) : Fun := ⟨22,
  .seq (.reg [o 2 (.mv (.c .nsl))])
  (.seq (.reg [o 5 (.mv (.t 0)), o 6 (.lenL (.t 5)), o 7 (.mkslice 1 [z] bytes (.t 6) (.t 6)), o 3 (.mv (.t 7))])
  (.seq (.seq (.reg [o 4 (.mv (.c (.int .i64 0)))])
  (.block 0 (.loop (.seq (.seq (.reg [o 8 (.mv (.t 4)), o 9 (.mv (.t 0)), o 10 (.lenL (.t 9)), o 11 (.bin .lss (.t 8) (.t 10))])
    (.cond (.t 11) (.skip) (.exit 0)))
    (.seq (.block 1 (.reg [o 14 (.mv (.t 3)), o 15 (.mv (.t 4)), o 16 (.mv (.t 0)), o 17 (.mv (.t 4)), o 18 (.iaddr 1 (.t 16) (.t 17)), o 19 (.load none (.t 18)), o 20 (.iaddr 1 (.t 14) (.t 15)), st (.store 1 (.t 20) (.t 19))]))
    (.reg [o 12 (.mv (.t 4)), o 13 (.bin .add (.t 12) (.c (.int .i64 1))), o 4 (.mv (.t 13))]))))))
  (.seq (.reg [o 21 (.mv (.t 3)), o 2 (.mv (.t 21))])
  (.ret)))),
  [.tmp 2]⟩

/-- A slice's size: its elements' and their number. -/
def szSF (w g : Nat) : Fun := ⟨27,
  .seq (.reg [o 4 (.mv (.c (.int .i64 0)))])
  (.seq (.reg [o 6 (.mv (.t 1)), o 7 (.mv (.t 0)), o 8 (.lenL (.t 7)), o 9 (.bin .sub (.t 6) (.t 8)), o 1 (.mv (.t 9))])
  (.seq (.seq (.reg [o 10 (.mv (.t 1)), o 11 (.bin .lss (.t 10) (.c (.int .i64 0)))])
  (.cond (.t 11) (.seq (.reg [o 4 (.mv (.c (.int .i64 (-1))))])
   (.ret)) (.skip)))
  (.seq (.seq (.reg [o 5 (.mv (.c (.int .i64 0)))])
  (.block 0 (.loop (.seq (.seq (.reg [o 12 (.mv (.t 5)), o 13 (.mv (.t 0)), o 14 (.lenL (.t 13)), o 15 (.bin .lss (.t 12) (.t 14))])
    (.cond (.t 15) (.skip) (.exit 0)))
    (.seq (.block 1 (.seq (.reg [o 18 (.mv (.t 0)), o 19 (.mv (.t 5)), o 20 (.iaddr w (.t 18) (.t 19)), o 21 (.load (some w) (.t 20)), o 22 (.mv (.t 1)), o 23 (.call g [(.t 21), (.t 22)]), o 1 (.mv (.t 23))])
     (.seq (.reg [o 24 (.mv (.t 1)), o 25 (.bin .lss (.t 24) (.c (.int .i64 0)))])
     (.cond (.t 25) (.seq (.reg [o 4 (.mv (.c (.int .i64 (-1))))])
      (.ret)) (.skip)))))
    (.reg [o 16 (.mv (.t 5)), o 17 (.bin .add (.t 16) (.c (.int .i64 1))), o 5 (.mv (.t 17))]))))))
  (.seq (.reg [o 26 (.mv (.t 1)), o 4 (.mv (.t 26))])
  (.ret))))),
  [.tmp 4]⟩

/-- Two slices, compared by a function. -/
def eqSF (w g : Nat) : Fun := ⟨27,
  .seq (.reg [o 4 (.mv (.c (.bool false)))])
  (.seq (.seq (.reg [o 6 (.mv (.t 0)), o 7 (.lenL (.t 6)), o 8 (.mv (.t 1)), o 9 (.lenL (.t 8)), o 10 (.bin .neq (.t 7) (.t 9))])
  (.cond (.t 10) (.seq (.reg [o 4 (.mv (.c (.bool false)))])
   (.ret)) (.skip)))
  (.seq (.seq (.reg [o 5 (.mv (.c (.int .i64 0)))])
  (.block 0 (.loop (.seq (.seq (.reg [o 11 (.mv (.t 5)), o 12 (.mv (.t 0)), o 13 (.lenL (.t 12)), o 14 (.bin .lss (.t 11) (.t 13))])
    (.cond (.t 14) (.skip) (.exit 0)))
    (.seq (.block 1 (.seq (.reg [o 17 (.mv (.t 0)), o 18 (.mv (.t 5)), o 19 (.iaddr w (.t 17) (.t 18)), o 20 (.load (some w) (.t 19)), o 21 (.mv (.t 1)), o 22 (.mv (.t 5)), o 23 (.iaddr w (.t 21) (.t 22)), o 24 (.load (some w) (.t 23)), o 25 (.callF g [(.t 20), (.t 24)]), o 26 (.un .not (.t 25))])
     (.cond (.t 26) (.seq (.reg [o 4 (.mv (.c (.bool false)))])
      (.ret)) (.skip))))
    (.reg [o 15 (.mv (.t 5)), o 16 (.bin .add (.t 15) (.c (.int .i64 1))), o 5 (.mv (.t 16))]))))))
  (.seq (.reg [o 4 (.mv (.c (.bool true)))])
  (.ret)))),
  [.tmp 4]⟩

def eqPF : Fun := ⟨26,
  .seq (.reg [o 4 (.mv (.c (.bool false)))])
  (.seq (.seq (.reg [o 6 (.mv (.t 0)), o 7 (.lenL (.t 6)), o 8 (.mv (.t 1)), o 9 (.lenL (.t 8)), o 10 (.bin .neq (.t 7) (.t 9))])
  (.cond (.t 10) (.seq (.reg [o 4 (.mv (.c (.bool false)))])
   (.ret)) (.skip)))
  (.seq (.seq (.reg [o 5 (.mv (.c (.int .i64 0)))])
  (.block 0 (.loop (.seq (.seq (.reg [o 11 (.mv (.t 5)), o 12 (.mv (.t 0)), o 13 (.lenL (.t 12)), o 14 (.bin .lss (.t 11) (.t 13))])
    (.cond (.t 14) (.skip) (.exit 0)))
    (.seq (.block 1 (.seq (.reg [o 17 (.mv (.t 0)), o 18 (.mv (.t 5)), o 19 (.iaddr 1 (.t 17) (.t 18)), o 20 (.load none (.t 19)), o 21 (.mv (.t 1)), o 22 (.mv (.t 5)), o 23 (.iaddr 1 (.t 21) (.t 22)), o 24 (.load none (.t 23)), o 25 (.bin .neq (.t 20) (.t 24))])
     (.cond (.t 25) (.seq (.reg [o 4 (.mv (.c (.bool false)))])
      (.ret)) (.skip))))
    (.reg [o 15 (.mv (.t 5)), o 16 (.bin .add (.t 15) (.c (.int .i64 1))), o 5 (.mv (.t 16))]))))))
  (.seq (.reg [o 4 (.mv (.c (.bool true)))])
  (.ret)))),
  [.tmp 4]⟩

section
variable {P : Program} {α : Type} {enc : α → List AV} {con : α → α} {w : Nat} {f g : Nat}

theorem toS_fn {z : List AV} {bytes : Nat} (hf : compF P f = some (toSF w z bytes g)) (hz : z.length = w) (hw : ∀ x, (enc x).length = w) (hcell : ∀ x a, a ∈ enc x → a.cell = true) {s : SL α} (hn : s.list.length * bytes ≤ 281474976710656) (hn' : s.list.length ≤ 281474976710656)
    (hg : ∀ x, x ∈ s.list → Tr P g [.agg (enc x)] fun _ r => ∃ b, r = .agg (enc b) ∧ con b = con x) :
    Tr P f [s.av w enc] fun _ r => ∃ b : SL α, r = b.av w enc ∧ b.list.map con = s.list.map con := by
  intro c
  refine con_of hf (by simp [toSF]) ?_
  unfold toSF
  simp
  refine ⟨by omega, by omega, loop_nat s.list.length (fun i e H c' => c ≤ c' ∧ e 0 = s.av w enc ∧ e 3 = .ref 0 c w s.list.length ∧ e 4 = .int .i64 i ∧ ∃ ys : List α, ys.length = i ∧ ys.map con = (s.list.take i).map con ∧ (∀ y ∈ ys, From c (.agg (enc y))) ∧ H = [⟨false, c, w, grow enc z s.list.length ys⟩])
    ⟨by omega, rfl, rfl, rfl, [], rfl, rfl, by simp, by rw [grow_nil]⟩ ?_⟩
  intro i e H c' hi ⟨hc, e0, e3, e4, ys, hy, hcon, hfr, hH⟩ N hN
  subst hH
  simp [e0, e3, e4]
  refine ⟨fun h => ⟨s.list[i], List.getElem?_eq_getElem h, ?_⟩, fun h => ?_⟩
  · simp [hw, take_len, e0, e3, e4]
    refine call_tree0 (hg _ (List.getElem_mem h)) fun r c'' hc' ⟨b, hr, hb⟩ hf => ?_
    subst hr
    simp [h, hw, e0, e3, e4]
    refine ⟨_, grow_get _ _ hy h, hN _ _ _ h ⟨by omega, by simp [upd, e0], by simp [upd, e3], by simp [upd]; exact step64 (by unfold mx; omega) h, ys ++ [b], by simp [hy], ?_, ?_, ?_⟩⟩
    · rw [List.take_succ_eq_append_getElem h, List.map_append, List.map_append, hcon]; simp [hb]
    · intro y hym
      rcases List.mem_append.1 hym with h1 | h1
      · exact hfr y h1
      · simp at h1; subst h1; exact hf.mono hc
    · rw [putA_all (by rw [hw, hz]), grow_set _ _ hy h]
  · have : i = s.list.length := by omega
    subst this
    rw [grow_all _ _ hy]
    refine fin_slc (by simp) (by simpa using hy) (by simp; exact fun x _ a ha => hcell x a ha) ⟨rfl, ⟨.mk c ys, rfl, by simpa using hcon⟩, from_slc (Nat.le_refl _) ?_⟩
    simp [e0, e3, e4]
    exact fun y hym a ha => from_agg_mem (hfr y hym) a ha

theorem szS_fn (hf : compF P f = some (szSF w g)) (hw : ∀ x, (enc x).length = w) {sz : α → Nat} {s : SL α} (hn : s.list.length ≤ mx) {left : Int} (hl : Room left)
    (hg : ∀ x, x ∈ s.list → ∀ left, Room left → Fnc P g [.agg (enc x), .int .i64 left] (.int .i64 (szOf (sz x) left))) :
    Fnc P f [s.av w enc, .int .i64 left] (.int .i64 (szOf (s.list.length + szL sz s.list) left)) := by
  refine fn_of hf (by simp [szSF]) fun c => ?_
  unfold szSF
  simp [szOf_wrap hn hl]
  constructor
  · intro h; exact fin_plain (by simp; unfold szOf; split <;> omega)
  · intro h
    refine loop_nat s.list.length (fun i e H c => e 0 = s.av w enc ∧ e 5 = .int .i64 i ∧ e 1 = .int .i64 (left - s.list.length - szL sz (s.list.take i)) ∧ 0 ≤ left - s.list.length - szL sz (s.list.take i) ∧ H = []) ⟨rfl, rfl, by simp [szL], by simpa [szL] using h, rfl⟩ ?_
    intro i e H c hi ⟨e0, e5, e1, hp, hH⟩ N hN
    subst hH
    simp [e0, e5, e1]
    refine ⟨fun h => ⟨s.list[i], List.getElem?_eq_getElem h, ?_⟩, fun h => ?_⟩
    · have hr : Room (left - s.list.length - szL sz (s.list.take i)) := ⟨by omega, by have := hl.2; omega⟩
      have hst : szL sz (s.list.take (i + 1)) = szL sz (s.list.take i) + sz s.list[i] := szL_step _ _ h
      have hle := szL_le sz s.list (i + 1)
      simp [hw, take_len, e0, e5, e1]
      refine call_fn0 (hg _ (List.getElem_mem h) _ hr) .int fun c' _ => ?_
      simp [e0, e5, e1]
      unfold szOf
      split
      · refine ⟨fun h' => by omega, fun h' => hN _ _ _ h ⟨by simp [upd, e0], ?_, by simp [upd]; omega, by omega, rfl⟩⟩
        simp [upd]; exact step64 hn h
      · refine ⟨fun h' => fin_plain (by rw [if_neg (by omega)]; exact ⟨rfl, rfl⟩), fun h' => by omega⟩
    · have : i = s.list.length := by omega
      subst this
      refine fin_plain ⟨?_, rfl⟩
      rw [List.take_length] at hp ⊢
      unfold szOf
      rw [if_pos (by push_cast; omega)]
      congr 1
      push_cast; omega

theorem eqS_fn (hf : compF P f = some (eqSF w g)) (hw : ∀ x, (enc x).length = w) {s t : SL α} (hn : s.list.length ≤ mx) (he : s.list.map con = t.list.map con)
    (hg : ∀ x, x ∈ s.list → ∀ y, con x = con y → Fnc P g [.agg (enc x), .agg (enc y)] (.bool true)) : Fnc P f [s.av w enc, t.av w enc] (.bool true) := by
  have hlen : s.list.length = t.list.length := by have := congrArg List.length he; simpa using this
  refine fn_of hf (by simp [eqSF]) fun c => ?_
  unfold eqSF
  simp [hlen]
  refine loop_nat s.list.length (fun i e H c => e 0 = s.av w enc ∧ e 1 = t.av w enc ∧ e 5 = .int .i64 i ∧ H = []) ⟨rfl, rfl, rfl, rfl⟩ ?_
  intro i e H c hi ⟨e0, e1, e5, hH⟩ N hN
  subst hH
  simp [e0, e1, e5]
  refine ⟨fun h => ⟨s.list[i], List.getElem?_eq_getElem h, ?_⟩, fun h => fin_plain ⟨rfl, rfl⟩⟩
  have ht : i < t.list.length := by omega
  have hc : con s.list[i] = con t.list[i] := by
    have h1 : (s.list.map con)[i]? = (t.list.map con)[i]? := by rw [he]
    simpa [h, ht] using h1
  simp [hw, take_len, e0, e1, e5]
  refine ⟨t.list[i], List.getElem?_eq_getElem ht, ?_⟩
  simp [hw, take_len, e0, e1, e5]
  refine callF_fn0 (hg _ (List.getElem_mem h) _ hc) .bool fun c' _ => ?_
  simp [e0, e1, e5]
  exact hN _ _ _ h ⟨by simp [upd, e0], by simp [upd, e1], by simp [upd]; exact step64 hn h, rfl⟩

theorem toP_fn {v : α → AV} {z : AV} {bytes : Nat} (hf : compF P f = some (toPF z bytes)) (hc : ∀ x, (v x).cell = true) (hfr : ∀ x c, From c (v x)) (hv : ∀ x (K : List AV → Prop), cellsW (v x) K = K [v x]) {s : SL α} (hn : s.list.length * bytes ≤ 281474976710656) (hn' : s.list.length ≤ 281474976710656) :
    Tr P f [s.av 1 fun x => [v x]] fun _ r => ∃ t, r = (SL.mk t s.list).av 1 fun x => [v x] := by
  intro c
  refine con_of hf (by simp [toPF]) ?_
  unfold toPF
  simp
  refine ⟨by omega, by omega, loop_nat s.list.length (fun i e H c' => e 0 = (s.av 1 fun x => [v x]) ∧ e 3 = .ref 0 c 1 s.list.length ∧ e 4 = .int .i64 i ∧ H = [⟨false, c, 1, grow (fun x => [v x]) [z] s.list.length (s.list.take i)⟩]) ⟨rfl, rfl, rfl, by rw [List.take_zero, grow_nil]⟩ ?_⟩
  intro i e H c' hi ⟨e0, e3, e4, hH⟩ N hN
  subst hH
  simp [e0, e3, e4]
  refine ⟨fun h => ⟨s.list[i], List.getElem?_eq_getElem h, ?_⟩, fun h => ?_⟩
  · have hl : (s.list.take i).length = i := by simp; omega
    simp [h, hv, e0, e3, e4]
    refine ⟨_, grow_get _ _ hl h, hN _ _ _ h ⟨by simp [upd, e0], by simp [upd, e3], by simp [upd]; exact step64 (by unfold mx; omega) h, ?_⟩⟩
    rw [List.take_succ_eq_append_getElem h, ← grow_set _ _ hl h]; rfl
  · have : i = s.list.length := by omega
    subst this
    rw [List.take_length, grow_all _ _ rfl]
    refine fin_slc (by simp) (by simp) (by simp; exact fun x _ => hc x) ⟨rfl, ⟨c, rfl⟩, from_slc (Nat.le_refl _) ?_⟩
    simp [e0, e3, e4]
    exact fun x _ => hfr x c

theorem eqP_fn {v : α → AV} (hf : compF P f = some eqPF) (hv : ∀ x (K : AV → Prop), binW .neq (v x) (v x) K = K (.bool false)) {s t : SL α} (hn : s.list.length ≤ mx) (he : s.list = t.list) : Fnc P f [s.av 1 fun x => [v x], t.av 1 fun x => [v x]] (.bool true) := by
  refine fn_of hf (by simp [eqPF]) fun c => ?_
  unfold eqPF
  simp [← he]
  refine loop_nat s.list.length (fun i e H c => e 0 = (s.av 1 fun x => [v x]) ∧ e 1 = (t.av 1 fun x => [v x]) ∧ e 5 = .int .i64 i ∧ H = []) ⟨rfl, rfl, rfl, rfl⟩ ?_
  intro i e H c hi ⟨e0, e1, e5, hH⟩ N hN
  subst hH
  simp [e0, e1, e5]
  refine ⟨fun h => ⟨s.list[i], List.getElem?_eq_getElem h, ?_⟩, fun h => fin_plain ⟨rfl, rfl⟩⟩
  simp [e0, e1, e5]
  refine ⟨s.list[i], by rw [← he]; exact List.getElem?_eq_getElem h, ?_⟩
  simp [hv, e0, e1, e5]
  exact hN _ _ _ h ⟨by simp [upd, e0], by simp [upd, e1], by simp [upd]; exact step64 hn h, rfl⟩

/-- A slice's size, of elements without one. -/
def szPF : Fun := ⟨12,
  .seq (.reg [o 4 (.mv (.c (.int .i64 0)))])
  (.seq (.reg [o 5 (.mv (.t 1)), o 6 (.mv (.t 0)), o 7 (.lenL (.t 6)), o 8 (.bin .sub (.t 5) (.t 7)), o 1 (.mv (.t 8))])
  (.seq (.seq (.reg [o 9 (.mv (.t 1)), o 10 (.bin .lss (.t 9) (.c (.int .i64 0)))])
  (.cond (.t 10) (.seq (.reg [o 4 (.mv (.c (.int .i64 (-1))))])
   (.ret)) (.skip)))
  (.seq (.reg [o 11 (.mv (.t 1)), o 4 (.mv (.t 11))])
  (.ret)))),
  [.tmp 4]⟩
theorem szP_fn (hf : compF P f = some szPF) {s : SL α} (hn : s.list.length ≤ mx) {left : Int} (hl : Room left) : Fnc P f [s.av w enc, .int .i64 left] (.int .i64 (szOf s.list.length left)) := by
  refine fn_of hf (by simp [szPF]) fun c => ?_
  unfold szPF
  simp [szOf_wrap hn hl]
  unfold szOf
  constructor
  · intro h; exact fin_plain (by simp; omega)
  · intro h; exact fin_plain (by simp; omega)

theorem szOf_neg {n : Nat} {left : Int} (h : left < n) : szOf n left = -1 := if_neg (by omega)
theorem szOf_lt {n : Nat} {left : Int} (h : szOf n left < 0) : left < n := by unfold szOf at h; split at h <;> omega
theorem szOf_ge {n : Nat} {left : Int} (h : 0 ≤ szOf n left) : szOf n left = left - n ∧ n ≤ left := by unfold szOf at *; split at h <;> first | (rw [if_pos (by assumption)]; exact ⟨rfl, by assumption⟩) | omega
theorem szL_mem {sz : α → Nat} {l : List α} {x : α} (h : x ∈ l) : sz x ≤ szL sz l := by
  obtain ⟨i, hi, rfl⟩ := List.mem_iff_getElem.1 h
  have h1 := szL_step sz l hi
  have h2 := szL_le sz l (i + 1)
  omega
theorem szL_map {sz : α → Nat} (h : ∀ x, sz (con x) = sz x) (l : List α) : szL sz (l.map con) = szL sz l := by
  unfold szL; rw [List.map_map]; congr 1; exact List.map_congr_left fun x _ => h x

/-! ### shapes -/
theorem sh_int {n : Nat} {t : TypeId} {k : IntKind} (hu : P.underlying t = some (.int k)) {a : AV} (h : ShC P n t [a]) : ∃ i, a = .int k i ∧ IOk k i := by
  cases n with
  | zero => exact h.elim
  | succ n => simp only [ShC, hu] at h; obtain ⟨i, h1, h2⟩ := h; cases h1; exact ⟨i, rfl, h2⟩
theorem sh_bool {n : Nat} {t : TypeId} (hu : P.underlying t = some .bool) {a : AV} (h : ShC P n t [a]) : ∃ b, a = .bool b := by
  cases n with
  | zero => exact h.elim
  | succ n => simp only [ShC, hu] at h; obtain ⟨i, h1⟩ := h; cases h1; exact ⟨i, rfl⟩
theorem sh_str {n : Nat} {t : TypeId} (hu : P.underlying t = some .string) {a : AV} (h : ShC P n t [a]) : ∃ l, a = .str l ∧ l.length ≤ mx := by
  cases n with
  | zero => exact h.elim
  | succ n => simp only [ShC, hu] at h; obtain ⟨i, h1, h2⟩ := h; cases h1; exact ⟨i, rfl, h2⟩
theorem rows_typed {ok : α → Prop} : ∀ (rows : List (List AV)), (∀ row, row ∈ rows → ∃ x, row = enc x ∧ ok x) → ∃ xs : List α, rows = xs.map enc ∧ ∀ x, x ∈ xs → ok x := by
  intro rows
  induction rows with
  | nil => intro _; exact ⟨[], rfl, by simp⟩
  | cons r rows ih =>
    intro h
    obtain ⟨x, hx, ox⟩ := h r (List.mem_cons_self ..)
    obtain ⟨xs, hxs, oxs⟩ := ih fun row hr => h row (List.mem_cons_of_mem _ hr)
    exact ⟨x :: xs, by simp [hx, hxs], by simpa using ⟨ox, oxs⟩⟩
theorem sh_slc {ok : α → Prop} {n : Nat} {t el : TypeId} (hu : P.underlying t = some (.slice el)) (hw : P.cellsOf el = w) (he : ∀ n row, ShC P n el row → ∃ x, row = enc x ∧ ok x) {a : AV} (h : ShC P n t [a]) :
    ∃ s : SL α, a = s.av w enc ∧ s.list.length ≤ mx ∧ ∀ x, x ∈ s.list → ok x := by
  cases n with
  | zero => exact h.elim
  | succ n =>
    simp only [ShC, hu] at h
    rcases h with h | ⟨tag, rows, h1, h2, h3⟩
    · cases h; exact ⟨.nil, rfl, by simp, by simp⟩
    · cases h1
      obtain ⟨xs, hxs, ox⟩ := rows_typed (enc := enc) (ok := ok) rows fun row hr => he n row (h3 row hr)
      subst hxs
      exact ⟨.mk tag xs, by rw [hw]; rfl, by simpa using h2, by simpa using ox⟩
theorem sh_struct {n : Nat} {t : TypeId} {fs : Array Field} (hu : P.underlying t = some (.struct fs)) {as0 : List AV} (h : ShC P n t as0) : ∃ m, as0.length = P.cellsOf t ∧ ∀ f, f ∈ fs.toList → ShC P m f.type ((as0.drop f.offset).take (P.cellsOf f.type)) := by
  cases n with
  | zero => exact h.elim
  | succ n => simp only [ShC, hu] at h; exact ⟨n, h⟩
def fieldsAre (P : Program) (t : TypeId) (l : List (TypeId × Nat)) : Bool :=
  match P.underlying t with
  | some (.struct fs) => (fs.toList.map fun f => (f.type, f.offset)) == l
  | _ => false
theorem sh_fields {n : Nat} {t : TypeId} {l : List (TypeId × Nat)} (hu : fieldsAre P t l = true) {as0 : List AV} (h : ShC P n t as0) : ∃ m, as0.length = P.cellsOf t ∧ ∀ p, p ∈ l → ShC P m p.1 ((as0.drop p.2).take (P.cellsOf p.1)) := by
  unfold fieldsAre at hu
  split at hu
  · rename_i fs hfs
    simp only [beq_iff_eq] at hu
    obtain ⟨m, h1, h2⟩ := sh_struct hfs h
    refine ⟨m, h1, fun p hp => ?_⟩
    rw [← hu] at hp
    obtain ⟨f, hf, rfl⟩ := List.mem_map.1 hp
    exact h2 f hf
  · cases hu
theorem sh_int1 {n : Nat} {t : TypeId} {k : IntKind} (hu : P.underlying t = some (.int k)) {row : List AV} (h : ShC P n t row) : ∃ i, row = [.int k i] ∧ IOk k i := by
  cases n with
  | zero => exact h.elim
  | succ n => simp only [ShC, hu] at h; exact h
theorem sh_str1 {n : Nat} {t : TypeId} (hu : P.underlying t = some .string) {row : List AV} (h : ShC P n t row) : ∃ l, row = [.str l] ∧ l.length ≤ mx := by
  cases n with
  | zero => exact h.elim
  | succ n => simp only [ShC, hu] at h; exact h
theorem sh_bool1 {n : Nat} {t : TypeId} (hu : P.underlying t = some .bool) {row : List AV} (h : ShC P n t row) : ∃ b, row = [.bool b] := by
  cases n with
  | zero => exact h.elim
  | succ n => simp only [ShC, hu] at h; exact h
end
end A
end Go.Proofs.YtmhmaokbicgmbaaGreatDoor

/-
  Calls that are handed objects, or hand objects back. No condition.
-/

namespace Go.Proofs.YtmhmaokbicgmbaaGreatDoor
namespace A
set_option linter.unusedVariables false
section
variable {P : Program} {H : List AObj} {c : Nat} {K : AV → List AObj → Nat → Prop}

theorem From.nil {c : Nat} {a : AV} (h : From c a) : Av [] a := h [] (by simp)

/-- A call that is handed all the objects. -/
theorem call_con {f : Nat} {as0 : List AV} {Q : AV → List AObj → Nat → Prop} (hf : Con P f as0 H c Q)
    (k : ∀ r H' c', c ≤ c' → Q r H' c' → (∀ t, t < c → t ∈ tags H' → t ∈ tags H) → (tags H').Nodup → Av [] r ∧ (∀ o, o ∈ H' → AvRows [] o) ∧ K r H' c') : CallW P f as0 H c K := by
  intro hn hlt
  obtain ⟨h1, h2⟩ := (Views.refl [] as0).spec
  refine ⟨H, [], as0, Q, List.Sublist.refl _, by simp, by simp [tags], h1, h2, hf, fun r H' c' hc hq ho hd => ?_⟩
  obtain ⟨k1, k2, k3⟩ := k r H' c' hc hq ho hd
  exact ⟨H', r, fun o h => .inl h, hd, .refl r, k1, fun o h _ => k2 o h, k3⟩

/-- Any run of objects may be left out of a call, and only read there. -/
theorem call_part {f : Nat} {as0 as' : List AV} {H1 S : List AObj} {Q : AV → List AObj → Nat → Prop} (hsub : H1.Sublist H) (hS : ∀ o, o ∈ S → o ∈ H) (hd : ∀ t, t ∈ tags H1 → t ∉ tags S) (hv : Views S as0 as') (hf : Con P f as' H1 c Q)
    (k : ∀ r H1' c', c ≤ c' → Q r H1' c' → (∀ t, t < c → t ∈ tags H1' → t ∈ tags H1) → (tags H1').Nodup → ∃ H' r', (∀ o, o ∈ H' → o ∈ H1' ∨ (o ∈ H ∧ o.tag ∉ tags H1)) ∧ (tags H').Nodup ∧ View [] r r' ∧ Av (tags S) r' ∧
      (∀ o, o ∈ H' → o ∈ H1' → AvRows (tags S) o) ∧ K r' H' c') : CallW P f as0 H c K := by
  intro hn hlt
  obtain ⟨h1, h2⟩ := hv.spec
  exact ⟨H1, S, as', Q, hsub, hS, hd, h1, h2, hf, k⟩

/-- A call that reads the objects and hands back objects of its own. -/
theorem call_new {f : Nat} {as0 as' : List AV} {Q : AV → List AObj → Nat → Prop} (hf : Con P f as' [] c Q) (hv : Views H as0 as')
    (k : ∀ r O c', c ≤ c' → Q r O c' → (∀ t, t ∈ tags O → c ≤ t) → (tags O).Nodup → ∃ r', View [] r r' ∧ Av (tags H) r' ∧ (∀ o, o ∈ O → AvRows (tags H) o) ∧ K r' (H ++ O) c') : CallW P f as0 H c K := by
  intro hn hlt
  obtain ⟨h1, h2⟩ := hv.spec
  refine ⟨[], H, as', Q, List.nil_sublist _, fun o h => h, by simp [tags], h1, h2, hf, fun r O c' hc hq ho hd => ?_⟩
  have hfresh : ∀ t, t ∈ tags O → c ≤ t := fun t ht => by
    rcases Nat.lt_or_ge t c with h | h
    · have := ho t h ht; simp [tags] at this
    · exact h
  obtain ⟨r', k1, k2, k3, k4⟩ := k r O c' hc hq hfresh hd
  refine ⟨H ++ O, r', fun o h => ?_, ?_, k1, k2, fun o _ h => k3 o h, k4⟩
  · rcases List.mem_append.1 h with h | h
    · exact .inr ⟨h, by simp [tags]⟩
    · exact .inl h
  · have : tags (H ++ O) = tags H ++ tags O := by simp [tags]
    rw [this]
    refine List.nodup_append.2 ⟨hn, hd, fun a ha b hb hab => ?_⟩
    subst hab
    exact absurd (hlt a ha) (Nat.not_lt.2 (hfresh a hb))

/-- A call that is handed some of the objects, and leaves them in their places. -/
theorem call_mid {f : Nat} {as0 as' : List AV} {A B C : List AObj} {Q : AV → List AObj → Nat → Prop} (hf : Con P f as' B c Q) (hv : Views [] as0 as')
    (k : ∀ r B' c', c ≤ c' → Q r B' c' → tags B' = tags B ∧ Av [] r ∧ (∀ o, o ∈ B' → AvRows [] o) ∧ K r (A ++ B' ++ C) c') : CallW P f as0 (A ++ B ++ C) c K := by
  intro hn hlt
  obtain ⟨h1, h2⟩ := hv.spec
  have hsub : B.Sublist (A ++ B ++ C) := (List.sublist_append_right A B).trans (List.sublist_append_left _ _)
  refine ⟨B, [], as', Q, hsub, by simp, by simp [tags], h1, h2, hf, fun r B' c' hc hq ho hd => ?_⟩
  obtain ⟨k0, k1, k2, k3⟩ := k r B' c' hc hq
  have e : ∀ X, tags (A ++ X ++ C) = tags A ++ tags X ++ tags C := fun X => by simp [tags]
  have hn' := hn
  rw [e] at hn'
  refine ⟨A ++ B' ++ C, r, fun o h => ?_, by rw [e, k0, ← e]; exact hn, .refl r, k1, fun o _ h => k2 o h, k3⟩
  rw [List.append_assoc] at h
  have hAB := List.nodup_append.1 hn'
  have hA := List.nodup_append.1 hAB.1
  rcases List.mem_append.1 h with h | h
  · exact .inr ⟨by simp [h], fun hb => hA.2.2 _ (mem_tags h) _ hb rfl⟩
  · rcases List.mem_append.1 h with h | h
    · exact .inl h
    · exact .inr ⟨by simp [h], fun hb => hAB.2.2 _ (List.mem_append_right _ hb) _ (mem_tags h) rfl⟩

@[simp] theorem callvW_fn (f : Nat) (caps as0 : List AV) : callvW P (.fn f caps) as0 H c K = (bodyOk P f = true ∧ CallW P f (as0 ++ caps) H c K) := (rfl)

/-- A variable seen as0 what it holds. -/
theorem view_ptr {S : List AObj} {i tag w r o : Nat} {rows : List (List AV)} {row : List AV} (ho : (⟨false, tag, w, rows⟩ : AObj) ∈ S) (hrow : rows[r]? = some row) (hc : ∀ a, a ∈ row → a.cell = true) : View S (.ptr i tag w r o) (.cpt row o) :=
  .ptr ho hrow rfl (fun j a ha => hc a (List.mem_of_getElem? ha)) fun j a a' h1 h2 => by rw [h1] at h2; cases h2; exact .refl _

/-- All the objects are handed back. -/
theorem fin_all {Q : AV → List AObj → Nat → Prop} {v : AV} (h : Q v H c) : finW Q v H c := ⟨[], H, H, v, List.Sublist.refl _, .refl _ _, by simp, by simp [tags], .refl v, h⟩

theorem avRows_of {T : List Nat} {o : AObj} (h : ∀ row, row ∈ o.rows → ∀ a, a ∈ row → Av T a) : AvRows T o := fun r j x a hr ha => h x (List.mem_of_getElem? hr) a (List.mem_of_getElem? ha)

/-- A slice of the state's seen as0 a tree. -/
theorem view_ref {α : Type} {enc : α → List AV} {S : List AObj} {i tag w n : Nat} {l : List α} (ho : (⟨false, tag, w, l.map enc⟩ : AObj) ∈ S) (hn : l.length = n) (hc : ∀ x, x ∈ l → ∀ a, a ∈ enc x → a.cell = true) : View S (.ref i tag w n) ((SL.mk tag l).av w enc) :=
  .ref ho (by simp; omega) (by simp [hn]) (fun r x x' h1 h2 => by rw [h1] at h2; cases h2; rfl)
    (fun r j x a hx ha => by
      obtain ⟨y, hy, rfl⟩ := List.mem_map.1 (List.mem_of_getElem? hx)
      exact hc y hy a (List.mem_of_getElem? ha))
    fun r j x x' a a' h1 h2 h3 h4 => by rw [h1] at h2; cases h2; rw [h3] at h4; cases h4; exact .refl _

@[simp high] theorem getW_set {α : Type} (l : List α) (i : Nat) (x : α) (K : α → Prop) : getW (l.set i x) i K = (i < l.length ∧ K x) := by
  unfold getW
  apply propext
  constructor
  · rintro ⟨y, h1, h2⟩
    have hi : i < l.length := by simpa using (List.getElem?_eq_some_iff.1 h1).1
    rw [List.getElem?_set_self hi] at h1
    cases h1
    exact ⟨hi, h2⟩
  · rintro ⟨hi, h2⟩
    exact ⟨x, List.getElem?_set_self hi, h2⟩

/-- Marks: element by element, from a number on. -/
def mks {α : Type} (mk : Int → α → α) (cnt : α → Nat) : Int → List α → List α
  | _, [] => []
  | k, x :: l => mk k x :: mks mk cnt (k + cnt x) l
theorem mks_len {α : Type} (mk : Int → α → α) (cnt : α → Nat) : ∀ (k : Int) (l : List α), (mks mk cnt k l).length = l.length
  | _, [] => rfl
  | k, x :: l => by simp [mks, mks_len mk cnt (k + cnt x) l]
theorem mks_app {α : Type} (mk : Int → α → α) (cnt : α → Nat) : ∀ (k : Int) (l m : List α), mks mk cnt k (l ++ m) = mks mk cnt k l ++ mks mk cnt (k + szL cnt l) m
  | k, [], m => by simp [mks, szL]
  | k, x :: l, m => by
    have e : k + (cnt x : Int) + (szL cnt l : Int) = k + (szL cnt (x :: l) : Int) := by simp [szL]; omega
    simp [mks, mks_app mk cnt (k + cnt x) l m, e]
theorem mks_step {α : Type} (mk : Int → α → α) (cnt : α → Nat) (k : Int) (l : List α) {i : Nat} (h : i < l.length) : mks mk cnt k (l.take (i + 1)) = mks mk cnt k (l.take i) ++ [mk (k + szL cnt (l.take i)) l[i]] := by
  rw [List.take_succ_eq_append_getElem h, mks_app]; rfl
theorem mks_get {α : Type} (mk : Int → α → α) (cnt : α → Nat) (k : Int) (l : List α) {i : Nat} (h : i < l.length) : (mks mk cnt k l)[i]? = some (mk (k + szL cnt (l.take i)) l[i]) := by
  have e : l = l.take i ++ l[i] :: l.drop (i + 1) := by rw [← List.drop_eq_getElem_cons h, List.take_append_drop]
  conv => lhs; rw [e, mks_app]
  rw [List.getElem?_append_right (by rw [mks_len]; simp; omega), mks_len, List.length_take, Nat.min_eq_left (by omega), Nat.sub_self]
  rfl
/-- Marked so far, and not yet. -/
def mixed {α : Type} (mk : Int → α → α) (cnt : α → Nat) (k : Int) (l : List α) (i : Nat) : List α := mks mk cnt k (l.take i) ++ l.drop i
theorem mixed_zero {α : Type} (mk : Int → α → α) (cnt : α → Nat) (k : Int) (l : List α) : mixed mk cnt k l 0 = l := by simp [mixed, mks]
theorem mixed_all {α : Type} (mk : Int → α → α) (cnt : α → Nat) (k : Int) (l : List α) : mixed mk cnt k l l.length = mks mk cnt k l := by simp [mixed]
theorem mixed_len {α : Type} (mk : Int → α → α) (cnt : α → Nat) (k : Int) (l : List α) (i : Nat) : (mixed mk cnt k l i).length = l.length := by simp [mixed, mks_len]; omega
theorem mixed_get {α : Type} (mk : Int → α → α) (cnt : α → Nat) (k : Int) (l : List α) {i : Nat} (h : i < l.length) : (mixed mk cnt k l i)[i]? = some l[i] := by
  unfold mixed
  rw [List.getElem?_append_right (by rw [mks_len]; simp; omega), mks_len, List.length_take, Nat.min_eq_left (by omega), Nat.sub_self, List.getElem?_drop]
  simp [h]
theorem mixed_set {α : Type} (mk : Int → α → α) (cnt : α → Nat) (k : Int) (l : List α) {i : Nat} (h : i < l.length) : (mixed mk cnt k l i).set i (mk (k + szL cnt (l.take i)) l[i]) = mixed mk cnt k l (i + 1) := by
  unfold mixed
  rw [List.set_append_right _ _ (by rw [mks_len]; simp; omega), mks_len, List.length_take, Nat.min_eq_left (by omega), Nat.sub_self, mks_step mk cnt k l h, List.drop_eq_getElem_cons h, List.set_cons_zero]
  simp
end
end A
end Go.Proofs.YtmhmaokbicgmbaaGreatDoor

/-
  Slices that stay objects: copies, marks, and what reads marks. No condition.
-/

namespace Go.Proofs.YtmhmaokbicgmbaaGreatDoor
namespace A
set_option linter.unusedVariables false
set_option linter.unusedSimpArgs false

/-- Slices of numbers: marks. -/
def markIF : Fun := ⟨19,
  .seq (.reg [o 4 (.mv (.c (.int .i64 0)))])
  (.seq (.seq (.reg [o 5 (.mv (.c (.int .i64 0)))])
  (.block 0 (.loop (.seq (.seq (.reg [o 6 (.mv (.t 5)), o 7 (.mv (.t 0)), o 8 (.lenL (.t 7)), o 9 (.bin .lss (.t 6) (.t 8))])
    (.cond (.t 9) (.skip) (.exit 0)))
    (.seq (.block 1 (.seq (.reg [o 12 (.mv (.t 0)), o 13 (.mv (.t 5)), o 14 (.mv (.t 1)), o 15 (.iaddr 1 (.t 12) (.t 13)), st (.store 1 (.t 15) (.t 14))])
     (.reg [o 16 (.mv (.t 1)), o 17 (.bin .add (.t 16) (.c (.int .i64 1))), o 1 (.mv (.t 17))])))
    (.reg [o 10 (.mv (.t 5)), o 11 (.bin .add (.t 10) (.c (.int .i64 1))), o 5 (.mv (.t 11))]))))))
  (.seq (.reg [o 18 (.mv (.t 1)), o 4 (.mv (.t 18))])
  (.ret))),
  [.tmp 4]⟩
def heldIF : Fun := ⟨21,
  .seq (.reg [o 4 (.mv (.c (.int .i64 0)))])
  (.seq (.seq (.reg [o 5 (.mv (.c (.int .i64 0)))])
  (.block 0 (.loop (.seq (.seq (.reg [o 6 (.mv (.t 5)), o 7 (.mv (.t 0)), o 8 (.lenL (.t 7)), o 9 (.bin .lss (.t 6) (.t 8))])
    (.cond (.t 9) (.skip) (.exit 0)))
    (.seq (.block 1 (.seq (.seq (.reg [o 12 (.mv (.t 0)), o 13 (.mv (.t 5)), o 14 (.iaddr 1 (.t 12) (.t 13)), o 15 (.load none (.t 14)), o 16 (.mv (.t 1)), o 17 (.bin .neq (.t 15) (.t 16))])
     (.cond (.t 17) (.seq (.reg [o 4 (.mv (.c (.int .i64 (-1))))])
      (.ret)) (.skip)))
     (.reg [o 18 (.mv (.t 1)), o 19 (.bin .add (.t 18) (.c (.int .i64 1))), o 1 (.mv (.t 19))])))
    (.reg [o 10 (.mv (.t 5)), o 11 (.bin .add (.t 10) (.c (.int .i64 1))), o 5 (.mv (.t 11))]))))))
  (.seq (.reg [o 20 (.mv (.t 1)), o 4 (.mv (.t 20))])
  (.ret))),
  [.tmp 4]⟩
def mkI (k : Int) (x : Int) : Int := k
def cI (x : Int) : Nat := 1
theorem szL_le_mul {α : Type} (sz : α → Nat) (m : Nat) (h : ∀ x, sz x ≤ m) (l : List α) : szL sz l ≤ m * l.length := by
  induction l with
  | nil => simp [szL]
  | cons x l ih =>
    have := h x
    simp only [szL, List.map_cons, List.sum_cons, List.length_cons, Nat.mul_add] at ih ⊢
    omega
theorem szL_cI (l : List Int) : szL cI l = l.length := by
  induction l with
  | nil => rfl
  | cons x l ih => simp only [szL, List.map_cons, List.sum_cons, List.length_cons] at ih ⊢; rw [ih]; simp [cI]; omega

section
variable {P : Program} {f : Nat}
theorem markI_nil (hf : compF P f = some markIF) (k : Int) : Fnc P f [.nsl, .int .i64 k] (.int .i64 k) := by
  refine fn_of hf (by simp [markIF]) fun c => ?_
  unfold markIF
  simp
  refine loop_drop 0 (fun i e H c' => e 0 = .nsl ∧ e 1 = .int .i64 k ∧ e 5 = .int .i64 0 ∧ H = []) ⟨rfl, rfl, rfl, rfl⟩ ?_
  intro i e H c hi ⟨e0, e1, e5, hH⟩ N hN
  subst hH
  simp [e0, e1, e5]
  exact fin_plain ⟨rfl, rfl⟩
theorem heldI_nil (hf : compF P f = some heldIF) (k : Int) : Fnc P f [.nsl, .int .i64 k] (.int .i64 k) := by
  refine fn_of hf (by simp [heldIF]) fun c => ?_
  unfold heldIF
  simp
  refine loop_drop 0 (fun i e H c' => e 0 = .nsl ∧ e 1 = .int .i64 k ∧ e 5 = .int .i64 0 ∧ H = []) ⟨rfl, rfl, rfl, rfl⟩ ?_
  intro i e H c hi ⟨e0, e1, e5, hH⟩ N hN
  subst hH
  simp [e0, e1, e5]
  exact fin_plain ⟨rfl, rfl⟩
theorem markI_con1 (hf : compF P f = some markIF) {l : List Int} (hn : l.length ≤ 1048576) {k : Int} (hk : 0 ≤ k ∧ k ≤ 1099511627776) (t c : Nat) :
    Con P f [.ref 0 t 1 l.length, .int .i64 k] [⟨false, t, 1, l.map encI⟩] c fun r H' _ => r = .int .i64 (k + l.length) ∧ H' = [⟨false, t, 1, (mks mkI cI k l).map encI⟩] := by
  refine con_of hf (by simp [markIF]) ?_
  unfold markIF
  simp
  refine loop_drop l.length (fun i e H c' => e 0 = .ref 0 t 1 l.length ∧ e 1 = .int .i64 (k + i) ∧ e 5 = .int .i64 i ∧ H = [⟨false, t, 1, (mixed mkI cI k l i).map encI⟩]) ⟨rfl, by simp, rfl, by rw [mixed_zero]⟩ ?_
  intro i e H c hi ⟨e0, e1, e5, hH⟩ N hN
  subst hH
  have hs := mixed_set mkI cI k l (i := i)
  rw [szL_cI, List.length_take, Nat.min_eq_left hi] at hs
  have w1 : IntKind.i64.wrap (k + i + 1) = k + i + 1 := wrap64 (by omega) (by omega)
  simp [e0, e1, e5]
  refine ⟨fun h => ?_, fun h => ?_⟩
  · refine ⟨h, l[i], mixed_get _ _ _ _ h, ?_⟩
    have hs := hs h
    simp [e0, e1, e5, h, mixed_len, w1, putA, encI]
    refine hN _ _ _ _ h (List.Sublist.refl _) ⟨by simp [upd, e0], ?_, by simp [upd]; exact step64 (by unfold mx; omega) h, ?_⟩
    · simp [upd, w1]; omega
    · rw [← hs, List.map_set]; rfl
  · have h1 : i = l.length := by omega
    subst h1
    exact fin_all ⟨rfl, by rw [mixed_all]⟩
theorem heldI_fn1 (hf : compF P f = some heldIF) {l : List Int} (hn : l.length ≤ 1048576) {k : Int} (hk : 0 ≤ k ∧ k ≤ 1099511627776) (t : Nat) :
    Fnc P f [(SL.mk t (mks mkI cI k l)).av 1 encI, .int .i64 k] (.int .i64 (k + l.length)) := by
  refine fn_of hf (by simp [heldIF]) fun c => ?_
  unfold heldIF
  simp
  have hlen := mks_len mkI cI k l
  refine loop_drop l.length (fun i e H c' => e 0 = (SL.mk t (mks mkI cI k l)).av 1 encI ∧ e 1 = .int .i64 (k + i) ∧ e 5 = .int .i64 i ∧ H = []) ⟨rfl, by simp, rfl, rfl⟩ ?_
  intro i e H c hi ⟨e0, e1, e5, hH⟩ N hN
  subst hH
  have hg := fun h : i < l.length => mks_get mkI cI k l h
  rw [szL_cI, List.length_take, Nat.min_eq_left hi] at hg
  have w1 : IntKind.i64.wrap (k + i + 1) = k + i + 1 := wrap64 (by omega) (by omega)
  simp [e0, e1, e5, hlen]
  refine ⟨fun h => ⟨_, hg h, ?_⟩, fun h => ?_⟩
  · simp [e0, e1, e5, h, w1, mkI]
    refine hN _ _ _ _ h (List.Sublist.refl _) ⟨by simp [upd, e0], ?_, by simp [upd]; exact step64 (by unfold mx; omega) h, rfl⟩
    simp [upd, w1]; omega
  · have h1 : i = l.length := by omega
    subst h1
    exact fin_plain ⟨rfl, rfl⟩
end

/-! ### slices as0 objects -/
section
variable {α : Type}
/-- A slice of the state's, and what hangs on it. -/
def wood (t w : Nat) (encO : α → List AV) (inn : α → List AObj) (l : List α) : List AObj := ⟨false, t, w, l.map encO⟩ :: l.flatMap inn
def noInn (_ : α) : List AObj := []
theorem wood_flat (t w : Nat) (encO : α → List AV) (l : List α) : wood t w encO noInn l = [⟨false, t, w, l.map encO⟩] := by
  unfold wood noInn
  have : l.flatMap (fun _ : α => ([] : List AObj)) = [] := by induction l with | nil => rfl | cons x l ih => simp [List.flatMap_cons, ih]
  rw [this]

/-- Nothing in it is frozen. -/
def Free (a : AV) : Prop := ∀ T, Av T a
theorem free_agg {l : List AV} (h : ∀ a, a ∈ l → Free a) : Free (.agg l) := fun T => .agg fun j a ha => h a (List.mem_of_getElem? ha) T
theorem avRows_free {T : List Nat} {o : AObj} (h : ∀ row, row ∈ o.rows → ∀ a, a ∈ row → Free a) : AvRows T o := avRows_of fun row hr a ha => h row hr a ha T

/-- Seen as0 a tree. -/
theorem view_wood1 {enc encO : α → List AV} {inn : α → List AObj} {S : List AObj} {i t w n : Nat} {l : List α} (hs : ∀ o, o ∈ wood t w encO inn l → o ∈ S) (hn : l.length = n) (hc : ∀ x a, a ∈ enc x → a.cell = true)
    (hl : ∀ x, (encO x).length = (enc x).length) (hv : ∀ x, (∀ o, o ∈ inn x → o ∈ S) → ∀ (j : Nat) (a a' : AV), (encO x)[j]? = some a → (enc x)[j]? = some a' → View S a a') : View S (.ref i t w n) ((SL.mk t l).av w enc) := by
  have get : ∀ (r : Nat) (x x' : List AV), (l.map encO)[r]? = some x → (l.map enc)[r]? = some x' → ∃ y, y ∈ l ∧ x = encO y ∧ x' = enc y := fun r x x' h1 h2 => by
    rw [List.getElem?_map] at h1 h2
    obtain ⟨y, hy, rfl⟩ := Option.map_eq_some_iff.1 h1
    rw [hy] at h2
    simp at h2
    exact ⟨y, List.mem_of_getElem? hy, rfl, h2.symm⟩
  refine .ref (hs _ (by unfold wood; exact List.mem_cons_self ..)) (by simp; omega) (by simp [hn]) (fun r x x' h1 h2 => ?_) (fun r j x a hx ha => ?_) fun r j x x' a a' h1 h2 h3 h4 => ?_
  · obtain ⟨y, _, rfl, rfl⟩ := get r x x' h1 h2; exact hl y
  · obtain ⟨y, hy, rfl⟩ := List.mem_map.1 (List.mem_of_getElem? hx)
    exact hc y a (List.mem_of_getElem? ha)
  · obtain ⟨y, hy, rfl, rfl⟩ := get r x x' h1 h2
    exact hv y (fun o ho => hs o (by unfold wood; exact List.mem_cons_of_mem _ (List.mem_flatMap.2 ⟨y, hy, ho⟩))) j a a' h3 h4

/-- A slice, nil or not, as0 objects. -/
def SL.ref (w : Nat) : SL α → AV
  | .nil => .nsl
  | .mk t xs => .ref 0 t w xs.length
def SL.wood (w : Nat) (encO : α → List AV) (inn : α → List AObj) : SL α → List AObj
  | .nil => []
  | .mk t xs => A.wood t w encO inn xs
def SL.marks (mk : Int → α → α) (cnt : α → Nat) (k : Int) : SL α → SL α
  | .nil => .nil
  | .mk t xs => .mk t (mks mk cnt k xs)
theorem SL.marks_len (mk : Int → α → α) (cnt : α → Nat) (k : Int) (s : SL α) : (s.marks mk cnt k).list.length = s.list.length := by
  cases s <;> simp [SL.marks, mks_len]
theorem free_ref (w : Nat) (s : SL α) : Free (s.ref w) := fun T => by cases s <;> constructor
theorem view_wood {enc encO : α → List AV} {inn : α → List AObj} {S : List AObj} {w : Nat} {s : SL α} (hs : ∀ o, o ∈ s.wood w encO inn → o ∈ S) (hc : ∀ x a, a ∈ enc x → a.cell = true)
    (hl : ∀ x, (encO x).length = (enc x).length) (hv : ∀ x, (∀ o, o ∈ inn x → o ∈ S) → ∀ (j : Nat) (a a' : AV), (encO x)[j]? = some a → (enc x)[j]? = some a' → View S a a') : View S (s.ref w) (s.av w enc) := by
  cases s with
  | nil => exact .refl _
  | mk t l => exact view_wood1 hs rfl hc hl hv
theorem view_flat {enc : α → List AV} {S : List AObj} {w : Nat} {s : SL α} (hs : ∀ o, o ∈ s.wood w enc noInn → o ∈ S) (hc : ∀ x a, a ∈ enc x → a.cell = true) : View S (s.ref w) (s.av w enc) :=
  view_wood hs hc (fun _ => rfl) fun x _ j a a' h1 h2 => by rw [h1] at h2; cases h2; exact .refl _
theorem tags_wood {w : Nat} {encO : α → List AV} {inn : α → List AObj} {mk : Int → α → α} {cnt : α → Nat} (hi : ∀ k x, tags (inn (mk k x)) = tags (inn x)) (k : Int) (s : SL α) : tags ((s.marks mk cnt k).wood w encO inn) = tags (s.wood w encO inn) := by
  have key : ∀ (l : List α) (k : Int), tags ((mks mk cnt k l).flatMap inn) = tags (l.flatMap inn) := by
    intro l
    induction l with
    | nil => intro k; rfl
    | cons x l ih =>
      intro k
      have e : ∀ X Y : List AObj, tags (X ++ Y) = tags X ++ tags Y := fun X Y => by simp [tags]
      simp only [mks, List.flatMap_cons, e, hi, ih]
  cases s with
  | nil => rfl
  | mk t l =>
    show t :: tags ((mks mk cnt k l).flatMap inn) = t :: tags (l.flatMap inn)
    rw [key]
theorem free_wood {w : Nat} {encO : α → List AV} {inn : α → List AObj} (hO : ∀ x a, a ∈ encO x → Free a) (hI : ∀ x o, o ∈ inn x → ∀ T, AvRows T o) (s : SL α) : ∀ o, o ∈ s.wood w encO inn → ∀ T, AvRows T o := by
  cases s with
  | nil => intro o ho; cases ho
  | mk t l =>
    intro o ho T
    rcases List.mem_cons.1 ho with rfl | ho
    · exact avRows_free fun row hr a ha => by
        obtain ⟨x, _, rfl⟩ := List.mem_map.1 hr
        exact hO x a ha
    · obtain ⟨x, _, hx⟩ := List.mem_flatMap.1 ho
      exact hI x o hx T
end

section
variable {P : Program} {α : Type} {enc encO : α → List AV} {inn : α → List AObj} {con : α → α} {w : Nat} {f g : Nat}
/-- A copy of a slice, kept as0 objects. -/
theorem toSO_fn {z : List AV} {bytes : Nat} (hf : compF P f = some (toSF w z bytes g)) (hz : z.length = w) (hw : ∀ x, (enc x).length = w) (hwO : ∀ x, (encO x).length = w) (hO : ∀ x a, a ∈ encO x → Free a) (hI : ∀ x o, o ∈ inn x → ∀ T, AvRows T o)
    {s : SL α} (hn : s.list.length * bytes ≤ 281474976710656) (hn' : s.list.length ≤ 281474976710656)
    (hg : ∀ x, x ∈ s.list → ∀ c, Con P g [.agg (enc x)] [] c fun r O _ => ∃ b, r = .agg (encO b) ∧ O = inn b ∧ con b = con x) (c : Nat) :
    Con P f [s.av w enc] [] c fun r H' _ => ∃ b : SL α, r = b.ref w ∧ H' = b.wood w encO inn ∧ b.list.map con = s.list.map con := by
  refine con_of hf (by simp [toSF]) ?_
  unfold toSF
  simp
  refine ⟨by omega, by omega, loop_nat s.list.length (fun i e H c' => e 0 = s.av w enc ∧ e 3 = .ref 0 c w s.list.length ∧ e 4 = .int .i64 i ∧ ∃ ys : List α, ys.length = i ∧ ys.map con = (s.list.take i).map con ∧ H = ⟨false, c, w, grow encO z s.list.length ys⟩ :: ys.flatMap inn)
    ⟨rfl, rfl, rfl, [], rfl, rfl, by rw [grow_nil]; rfl⟩ ?_⟩
  intro i e H c' hi ⟨e0, e3, e4, ys, hy, hcon, hH⟩ N hN
  subst hH
  simp [e0, e3, e4]
  refine ⟨fun h => ⟨s.list[i], List.getElem?_eq_getElem h, ?_⟩, fun h => ?_⟩
  · simp [hw, take_len, e0, e3, e4]
    refine call_new (hg _ (List.getElem_mem h) _) (Views.refl _ _) fun r O c'' hc' ⟨b, hr, hO', hb⟩ _ _ => ?_
    subst hr; subst hO'
    refine ⟨_, .refl _, free_agg (hO b) _, fun o ho => hI b o ho _, ?_⟩
    simp [h, hwO, e0, e3, e4]
    refine ⟨_, grow_get _ _ hy h, hN _ _ _ h ⟨by simp [upd, e0], by simp [upd, e3], by simp [upd]; exact step64 (by unfold mx; omega) h, ys ++ [b], by simp [hy], ?_, ?_⟩⟩
    · rw [List.take_succ_eq_append_getElem h, List.map_append, List.map_append, hcon]; simp [hb]
    · rw [putA_all (by rw [hwO, hz]), grow_set _ _ hy h, List.flatMap_append]
      simp
  · have : i = s.list.length := by omega
    subst this
    rw [grow_all _ _ hy]
    exact fin_all ⟨.mk c ys, by rw [← hy]; rfl, rfl, by simpa using hcon⟩
/-- The same, of plain cells. -/
theorem toPO_fn {v : α → AV} {z : AV} {bytes : Nat} (hf : compF P f = some (toPF z bytes)) (hv : ∀ x (K : List AV → Prop), cellsW (v x) K = K [v x]) {s : SL α} (hn : s.list.length * bytes ≤ 281474976710656) (hn' : s.list.length ≤ 281474976710656) (c : Nat) :
    Con P f [s.av 1 fun x => [v x]] [] c fun r H' _ => ∃ b : SL α, r = b.ref 1 ∧ H' = b.wood 1 (fun x => [v x]) noInn ∧ b.list = s.list := by
  refine con_of hf (by simp [toPF]) ?_
  unfold toPF
  simp
  refine ⟨by omega, by omega, loop_nat s.list.length (fun i e H c' => e 0 = (s.av 1 fun x => [v x]) ∧ e 3 = .ref 0 c 1 s.list.length ∧ e 4 = .int .i64 i ∧ H = [⟨false, c, 1, grow (fun x => [v x]) [z] s.list.length (s.list.take i)⟩]) ⟨rfl, rfl, rfl, by rw [List.take_zero, grow_nil]⟩ ?_⟩
  intro i e H c' hi ⟨e0, e3, e4, hH⟩ N hN
  subst hH
  simp [e0, e3, e4]
  refine ⟨fun h => ⟨s.list[i], List.getElem?_eq_getElem h, ?_⟩, fun h => ?_⟩
  · have hl : (s.list.take i).length = i := by simp; omega
    simp [h, hv, e0, e3, e4]
    refine ⟨_, grow_get _ _ hl h, hN _ _ _ h ⟨by simp [upd, e0], by simp [upd, e3], by simp [upd]; exact step64 (by unfold mx; omega) h, ?_⟩⟩
    rw [List.take_succ_eq_append_getElem h, ← grow_set _ _ hl h]; rfl
  · have : i = s.list.length := by omega
    subst this
    rw [List.take_length, grow_all _ _ rfl]
    exact fin_all ⟨.mk c s.list, rfl, (wood_flat ..).symm, rfl⟩
end
section
variable {P : Program} {f : Nat}
theorem markI_con (hf : compF P f = some markIF) {s : SL Int} (hn : s.list.length ≤ 1048576) {k : Int} (hk : 0 ≤ k ∧ k ≤ 1099511627776) (c : Nat) :
    Con P f [s.ref 1, .int .i64 k] (s.wood 1 encI noInn) c fun r H' _ => r = .int .i64 (k + s.list.length) ∧ H' = (s.marks mkI cI k).wood 1 encI noInn := by
  cases s with
  | nil =>
    have := markI_nil hf k c
    simpa [SL.ref, SL.wood, SL.marks] using this
  | mk t l =>
    have := markI_con1 hf (l := l) hn hk t c
    simpa [SL.ref, SL.wood, SL.marks, wood_flat] using this
theorem heldI_fn (hf : compF P f = some heldIF) {s : SL Int} (hn : s.list.length ≤ 1048576) {k : Int} (hk : 0 ≤ k ∧ k ≤ 1099511627776) :
    Fnc P f [(s.marks mkI cI k).av 1 encI, .int .i64 k] (.int .i64 (k + s.list.length)) := by
  cases s with
  | nil =>
    have := heldI_nil hf k
    simpa [SL.av, SL.marks] using this
  | mk t l => exact heldI_fn1 hf (l := l) hn hk t
end
end A
end Go.Proofs.YtmhmaokbicgmbaaGreatDoor

/-
  Slices handed back as0 objects, and the same seen as0 trees; appends. No condition.
-/

namespace Go.Proofs.YtmhmaokbicgmbaaGreatDoor
namespace A
set_option linter.unusedVariables false
set_option linter.unusedSimpArgs false

theorem szL_const {α : Type} (n : Nat) (l : List α) : szL (fun _ => n) l = n * l.length := by
  induction l with
  | nil => simp [szL]
  | cons x l ih => simp [szL] at ih ⊢; rw [Nat.mul_add]; omega

section
variable {P : Program} {H : List AObj} {c : Nat} {K : AV → List AObj → Nat → Prop}
@[simp] theorem srcW_slc (wd t w : Nat) (rows : List (List AV)) (K : List (List AV) → Prop) : srcW wd (.slc t w rows) H K = (w = wd ∧ K rows) := (rfl)
@[simp] theorem srcW_nsl (wd : Nat) (K : List (List AV) → Prop) : srcW wd .nsl H K = K [] := (rfl)
@[simp] theorem srcW_str (wd : Nat) (l : List UInt8) (K : List (List AV) → Prop) : srcW wd (.str l) H K = (wd = 1 ∧ K (l.map byteRow)) := (rfl)
@[simp] theorem srcW_ref (wd j t w n : Nat) (K : List (List AV) → Prop) : srcW wd (.ref j t w n) H K = (w = wd ∧ getW H j fun ob => ob.tag = t ∧ ob.mp = false ∧ ob.w = w ∧ n ≤ ob.rows.length ∧ K (ob.rows.take n)) := (rfl)
@[simp] theorem srcW_sub (wd j t w off n : Nat) (K : List (List AV) → Prop) : srcW wd (.sub j t w off n) H K = (w = wd ∧ getW H j fun ob => ob.tag = t ∧ ob.mp = false ∧ ob.w = w ∧ off + n ≤ ob.rows.length ∧ K ((ob.rows.drop off).take n)) := (rfl)
@[simp] theorem srcW_sl {α : Type} (w : Nat) (f : α → List AV) (s : SL α) (K : List (List AV) → Prop) : srcW w (s.av w f) H K = K (s.list.map f) := by
  cases s <;> simp [SL.av]
@[simp] theorem appendW_ref (wd b i t w n : Nat) (y : AV) : appendW wd b (.ref i t w n) y H c K = srcW wd y H fun rows' => w = wd ∧ getW H i fun ob => ob.tag = t ∧ ob.mp = false ∧ ob.w = w ∧ cutW ob.rows n fun rs => (n + rows'.length) * b ≤ 140737488355328 ∧ n + rows'.length ≤ mx ∧
        K (.ref i c wd (n + rows'.length)) (H.set i ⟨false, c, wd, rs ++ rows'⟩) (c + 1) := (rfl)
@[simp] theorem cutW_all {rows : List (List AV)} {n : Nat} (h : rows.length = n) (K : List (List AV) → Prop) : cutW rows n K = K rows := by
  subst h; simp [cutW]
@[simp] theorem appendW_nsl (wd b : Nat) (y : AV) : appendW wd b .nsl y H c K = srcW wd y H fun rows' => (rows' = [] → K .nsl H c) ∧ (rows' ≠ [] → rows'.length * b ≤ 140737488355328 ∧ rows'.length ≤ mx ∧ K (.ref H.length c wd rows'.length) (H ++ [⟨false, c, wd, rows'⟩]) (c + 1)) := (rfl)

theorem tr_fn {f : Nat} {l : List AV} {res : AV} (hf : Fnc P f l res) (hfr : ∀ c, From c res) : Tr P f l fun _ r => r = res := fun c => (hf c).mono fun r H' c' _ ⟨h1, h2⟩ => ⟨h2, h1, h1 ▸ hfr c⟩
theorem callD_fn0 {R : AV → Prop} {f : Nat} {l : List AV} {K : AV → Prop} {res : AV} (hf : Fnc P f l res) (hR : ∀ v, R v ↔ v = res) (hfr : ∀ c, From c res) (k : K res) : callD P R f l H c K :=
  ⟨l, Views.refl _ _, (fun c => (hf c).mono fun r H' c' _ ⟨h1, h2⟩ => ⟨h2, (hR r).2 h1, h1 ▸ hfr c⟩), ⟨res, (hR res).2 rfl, hfr c⟩, fun r hr _ => by rw [(hR r).1 hr]; exact k⟩
theorem callD_tree0 {R : AV → Prop} {f : Nat} {l : List AV} {K : AV → Prop} (hf : Tr P f l fun _ r => R r) (hx : ∃ r, R r ∧ From c r) (k : ∀ r, R r → From c r → K r) : callD P R f l H c K := ⟨l, Views.refl _ _, hf, hx, k⟩

theorem toStrW_ref {i t n : Nat} {l : List UInt8} {K : AV → Prop} (ho : H[i]? = some ⟨false, t, 1, l.map byteRow⟩) (hn : l.length = n) (hl : l.length ≤ mx) (k : K (.str l)) : toStrW (.ref i t 1 n) H K := by
  unfold toStrW
  simp only [srcW_ref]
  exact ⟨trivial, _, ho, rfl, rfl, rfl, by simp; omega, l, by rw [← hn]; exact List.take_of_length_le (by simp), hl, k⟩
theorem wrap_u8 {n : Nat} (h : n < 256) : IntKind.u8.wrap (IntKind.i64.wrap n) = ((UInt8.ofNat n).toNat : Int) := by
  rw [wrap64 (by omega) (by omega), IntKind.wrap_u8]
  simp [UInt8.toNat_ofNat']
/-- What a call gives, seen otherwise behind it. -/
theorem Con.fin {f : Nat} {args : List AV} {Q Q' : AV → List AObj → Nat → Prop} (h : Con P f args H c Q)
    (k : ∀ r H' c', c ≤ c' → Q r H' c' → (∀ t, t < c → t ∈ tags H' → t ∈ tags H) → (tags H').Nodup → finW Q' r H' c') : Con P f args H c Q' := by
  intro G w vs e I hs hr
  refine (h G w vs e I hs hr).mono fun en w' ⟨v, res, H', G1, h1, h2, x1, I1, r1⟩ => ?_
  subst e
  obtain ⟨S, Hk, Hk', v', q1, qr, q2, q3, q4, q5⟩ := k res H' G1.c x1.x.c h2 x1.oldH I1.nodup
  have hS : ∀ t, t ∈ tags S → t ∈ tags H' := fun t ht => by obtain ⟨o, ho, rfl⟩ := of_mem_tags ht; exact mem_tags (q2 o ho)
  exact ⟨v, v', Hk', G1.freeze S, h1, q5, ⟨x1.x.trans (Ext1.freeze _ _ _), x1.os, x1.tape, x1.output, x1.size, x1.frame, x1.newm, fun t h1 h2 => x1.oldH t h1 ((q1.map _).subset (by rw [qr.tags_eq] at h2; exact h2)), fun t h1 h2 => by
    rcases h2 with h2 | h2
    · exact x1.oldF t h1 h2
    · exact .inr (x1.oldH t h1 (hS t h2))⟩, I1.ren q1.subset q2 (I1.freeze q1 q2 q3) qr, q4.rep I1 q2 r1⟩

/-- A function that hands back objects of its own hands back trees of its own. -/
theorem tr_of {f : Nat} {args : List AV} {Q : AV → List AObj → Nat → Prop} {Q' : Nat → AV → Prop} (h : ∀ c, Con P f args [] c Q)
    (k : ∀ c r O c', c ≤ c' → Q r O c' → (∀ t, t ∈ tags O → c ≤ t) → ∃ v', View O r v' ∧ Q' c v' ∧ From c v') : Tr P f args Q' := by
  intro c
  refine (h c).fin fun r O c' hc hq ho hd => ?_
  obtain ⟨v', h1, h2, h3⟩ := k c r O c' hc hq fun t ht => by
    rcases Nat.lt_or_ge t c with h | h
    · have := ho t h ht; simp [tags] at this
    · exact h
  exact ⟨O, [], [], v', List.nil_sublist _, .nil, fun _ h => h, by simp [tags], h1, rfl, h2, h3⟩

theorem free_tup {l : List AV} (h : ∀ a, a ∈ l → Free a) : Free (.tup l) := fun T => .tup fun j a ha => h a (List.mem_of_getElem? ha) T
theorem free_bool (b : Bool) : Free (.bool b) := fun _ => .bool
theorem free_int (k : IntKind) (n : Int) : Free (.int k n) := fun _ => .int
theorem free_str (l : List UInt8) : Free (.str l) := fun _ => .str
theorem view_tup {S : List AObj} {l l' : List AV} (h : Views S l l') : View S (.tup l) (.tup l') := .tup h.spec.1 h.spec.2
theorem from_tup {c : Nat} {l : List AV} (h : ∀ a, a ∈ l → From c a) : From c (.tup l) := fun T hT => .tup fun j a ha => h a (List.mem_of_getElem? ha) T hT

section
variable {α : Type}
/-- A slice as0 an object at a place of the state. -/
def SL.at_ (i w : Nat) : SL α → AV
  | .nil => .nsl
  | .mk t xs => .ref i t w xs.length
theorem view_at (i w : Nat) (s : SL α) (S : List AObj) : View S (s.ref w) (s.at_ i w) := by cases s <;> constructor
theorem view_at' (i w : Nat) (s : SL α) (S : List AObj) : View S (s.at_ i w) (s.ref w) := by cases s <;> constructor
@[simp] theorem at_len (i w : Nat) (s : SL α) (K : AV → Prop) : lenSlcW (s.at_ i w) K = K (.int .i64 s.list.length) := by cases s <;> rfl
@[simp] theorem at_cells (i w : Nat) (s : SL α) (K : List AV → Prop) : cellsW (s.at_ i w) K = K [s.at_ i w] := by cases s <;> rfl
@[simp] theorem ref_cells (w : Nat) (s : SL α) (K : List AV → Prop) : cellsW (s.ref w) K = K [s.ref w] := by cases s <;> rfl
@[simp] theorem cell_at (i w : Nat) (s : SL α) : (s.at_ i w).cell = true := by cases s <;> rfl
@[simp] theorem cell_ref (w : Nat) (s : SL α) : (s.ref w).cell = true := by cases s <;> rfl
theorem isnl_av (neg : Bool) (w : Nat) (f : α → List AV) (s : SL α) (K : AV → Prop) (h0 : s.list = [] → K (.bool (true != neg))) (h1 : K (.bool (false != neg))) : isnlW neg (s.av w f) K := by
  cases s with
  | nil => exact h0 rfl
  | mk t l => cases l with
    | nil => exact ⟨h0 rfl, h1⟩
    | cons x l => exact h1

/-- Flat elements: cells that hang on nothing. -/
def Flat (enc : α → List AV) : Prop := ∀ x a, a ∈ enc x → a.cell = true ∧ Free a
theorem Flat.cells {enc : α → List AV} (h : Flat enc) : ∀ x a, a ∈ enc x → a.cell = true := fun x a ha => (h x a ha).1
theorem Free.from {a : AV} (h : Free a) (c : Nat) : From c a := fun T _ => h T
theorem flat_wood (t w : Nat) (enc : α → List AV) (l : List α) : (SL.mk t l).wood w enc noInn = [⟨false, t, w, l.map enc⟩] := wood_flat ..
theorem flat_free {enc : α → List AV} (h : Flat enc) (w : Nat) (s : SL α) : ∀ o, o ∈ s.wood w enc noInn → ∀ T, AvRows T o :=
  free_wood (fun x a ha => (h x a ha).2) (fun x o ho => by cases ho) s
theorem flat_from {enc : α → List AV} (h : Flat enc) {w c : Nat} {s : SL α} (ht : ∀ t, t ∈ tags (s.wood w enc noInn) → c ≤ t) : From c (s.av w enc) := by
  cases s with
  | nil => exact from_nsl c
  | mk t l =>
    refine from_slc (ht t ?_) fun row hr a ha => ?_
    · rw [flat_wood]; simp [tags]
    · obtain ⟨x, _, rfl⟩ := List.mem_map.1 hr
      exact ((h x a ha).2).from c
theorem flat_tr {enc : α → List AV} (hE : Flat enc) {w : Nat} {f : Nat} {args : List AV} {Q : SL α → Prop} (h : ∀ c, Con P f args [] c fun r O _ => ∃ b : SL α, r = b.ref w ∧ O = b.wood w enc noInn ∧ Q b) :
    Tr P f args fun _ r => ∃ b : SL α, r = b.av w enc ∧ Q b :=
  tr_of h fun c r O c' _ ⟨b, h1, h2, h3⟩ ht => ⟨b.av w enc, by rw [h1]; exact view_flat (by rw [h2]; exact fun _ h => h) hE.cells, ⟨b, rfl, h3⟩, flat_from hE (by rw [← h2]; exact ht)⟩
/-- The same with more results, which hang on nothing. -/
theorem flat_tr2 {enc : α → List AV} (hE : Flat enc) {w : Nat} {f : Nat} {args : List AV} {Q : SL α → List AV → Prop} (hF : ∀ b l, Q b l → ∀ a, a ∈ l → Free a)
    (h : ∀ c, Con P f args [] c fun r O _ => ∃ (b : SL α) (l : List AV), r = .tup (b.ref w :: l) ∧ O = b.wood w enc noInn ∧ Q b l) :
    Tr P f args fun _ r => ∃ (b : SL α) (l : List AV), r = .tup (b.av w enc :: l) ∧ Q b l :=
  tr_of h fun c r O c' _ ⟨b, l, h1, h2, h3⟩ ht => ⟨.tup (b.av w enc :: l), by rw [h1]; exact view_tup (.cons (view_flat (by rw [h2]; exact fun _ h => h) hE.cells) (Views.refl _ _)), ⟨b, l, rfl, h3⟩,
    from_tup fun a ha => by
      rcases List.mem_cons.1 ha with rfl | ha
      · exact flat_from hE (by rw [← h2]; exact ht)
      · exact (hF b l h3 a ha).from c⟩

theorem flat_marks {enc : α → List AV} {w : Nat} (mk : Int → α → α) (cnt : α → Nat) (k : Int) (s : SL α) : tags ((s.marks mk cnt k).wood w enc noInn) = tags (s.wood w enc noInn) := tags_wood (inn := noInn) (mk := mk) (cnt := cnt) (fun _ _ => rfl) k s
end
end
end A
end Go.Proofs.YtmhmaokbicgmbaaGreatDoor

/-
  Slices: copies by append, changes in place, what is kept of one. No condition.
-/

namespace Go.Proofs.YtmhmaokbicgmbaaGreatDoor
namespace A
set_option linter.unusedVariables false
set_option linter.unusedSimpArgs false

/-- slices.Clone. -/
def cloneF (w : Nat) (z : List AV) (b : Nat) : Fun := ⟨8,
  .seq (.reg [o 2 (.mv (.c .nsl))])
  (.seq (.seq (.reg [o 3 (.mv (.t 0)), o 4 (.isnl false (.t 3))])
  (.cond (.t 4) (.seq (.reg [o 2 (.mv (.c .nsl))])
   (.ret)) (.skip)))
  (.seq (.reg [o 5 (.bslice w z 0 []), o 6 (.mv (.t 0)), o 7 (.append w b (.t 5) (.t 6)), o 2 (.mv (.t 7))])
  (.ret))),
  [.tmp 2]⟩

theorem sub_one {α : Type} (a : α) (l : List α) : [a].Sublist (a :: l) := (List.nil_sublist l).cons_cons a
theorem sub_two {α : Type} (a b : α) (l : List α) : [a, b].Sublist (a :: b :: l) := (sub_one b l).cons_cons a

@[simp] theorem getW_len {α : Type} (L M : List α) (x : α) (K : α → Prop) : getW (L ++ x :: M) L.length K = K x := getW_of (by rw [List.getElem?_append_right (Nat.le_refl _)]; simp) K
@[simp] theorem set_len {α : Type} (L M : List α) (x y : α) : (L ++ x :: M).set L.length y = L ++ y :: M := by
  rw [List.set_append_right _ _ (Nat.le_refl _), Nat.sub_self, List.set_cons_zero]
@[simp] theorem getW_len1 {α : Type} (L M : List α) (x y : α) (K : α → Prop) : getW (L ++ x :: y :: M) (L.length + 1) K = K y := getW_of (by rw [List.getElem?_append_right (by omega)]; simp) K
@[simp] theorem set_len1 {α : Type} (L M : List α) (x y z : α) : (L ++ x :: y :: M).set (L.length + 1) z = L ++ x :: z :: M := by
  rw [List.set_append_right _ _ (by omega)]; simp
@[simp] theorem getW_len2 {α : Type} (L M : List α) (x y z : α) (K : α → Prop) : getW (L ++ x :: y :: z :: M) (L.length + 2) K = K z := getW_of (by rw [List.getElem?_append_right (by omega)]; simp) K
@[simp] theorem getW_len2' {α : Type} (L M : List α) (x y z : α) (K : α → Prop) : getW (L ++ x :: y :: z :: M) (L.length + 1 + 1) K = K z := getW_len2 L M x y z K
/-- Some of the objects are let go. -/
theorem fin_sub {Q : AV → List AObj → Nat → Prop} {v v' : AV} {H Hk : List AObj} {c : Nat} (hs : Hk.Sublist H) (hv : View [] v v') (h : Q v' Hk c) : finW Q v H c := ⟨[], Hk, Hk, v', hs, .refl _ _, by simp, by simp [tags], hv, h⟩
/-- Some of the objects are let go, those that stay are named anew. -/
theorem fin_ren {Q : AV → List AObj → Nat → Prop} {v v' : AV} {H Hk Hk' : List AObj} {c : Nat} (hs : Hk.Sublist H) (hr : Rens [] Hk Hk') (hv : View [] v v') (h : Q v' Hk' c) : finW Q v H c := ⟨[], Hk, Hk', v', hs, hr, by simp, by simp [tags], hv, h⟩

section
variable {α : Type}
def SL.lmap (f : List α → List α) : SL α → SL α
  | .nil => .nil
  | .mk t l => .mk t (f l)
theorem ref_mk (t w : Nat) (l : List α) : (SL.mk t l).ref w = .ref 0 t w l.length := rfl
theorem ref_nil (w : Nat) : (SL.nil : SL α).ref w = .nsl := rfl
theorem SL.lmap_list {f : List α → List α} (h : f [] = []) (s : SL α) : (s.lmap f).list = f s.list := by cases s <;> simp [SL.lmap, h]
theorem SL.wood_lmap (w : Nat) (enc : α → List AV) (s : SL α) : (s.lmap id).wood w enc noInn = s.wood w enc noInn := by cases s <;> rfl

section
variable {P : Program} {enc : α → List AV} {w b f : Nat} {z : List AV}
theorem clone_con (hf : compF P f = some (cloneF w z b)) {s : SL α} (hn : s.list.length * b ≤ 140737488355328) (hn' : s.list.length ≤ mx) (c : Nat) :
    Con P f [s.av w enc] [] c fun r O _ => ∃ x : SL α, r = x.ref w ∧ O = x.wood w enc noInn ∧ x.list = s.list := by
  refine con_of hf (by simp [cloneF]) ?_
  unfold cloneF
  simp
  refine isnl_av _ _ _ _ _ (fun h => ?_) ?_
  · simp
    exact fin_all ⟨.nil, rfl, rfl, by rw [h]; rfl⟩
  · simp
    exact ⟨hn, hn', fin_all ⟨.mk (c + 1) s.list, by simp [SL.ref], by simp [flat_wood], rfl⟩⟩
theorem clone_tr (hf : compF P f = some (cloneF w z b)) (hE : Flat enc) {s : SL α} (hn : s.list.length * b ≤ 140737488355328) (hn' : s.list.length ≤ mx) : Tr P f [s.av w enc] fun _ r => ∃ x : SL α, r = x.av w enc ∧ x.list = s.list :=
  flat_tr hE (clone_con hf hn hn')
end

/-- Changed up to an index. -/
def mixM (f : α → α) (l : List α) (i : Nat) : List α := (l.take i).map f ++ l.drop i
theorem mixM_zero (f : α → α) (l : List α) : mixM f l 0 = l := by simp [mixM]
theorem mixM_all (f : α → α) (l : List α) : mixM f l l.length = l.map f := by simp [mixM]
@[simp] theorem mixM_len (f : α → α) (l : List α) (i : Nat) : (mixM f l i).length = l.length := by simp [mixM]; omega
@[simp] theorem mixM_nil (f : α → α) (i : Nat) : mixM f [] i = [] := by simp [mixM]
theorem mixM_get (f : α → α) {l : List α} {i : Nat} (h : i < l.length) : (mixM f l i)[i]? = some l[i] := by
  unfold mixM
  rw [List.getElem?_append_right (by simp; omega)]
  simp [h, Nat.min_eq_left (Nat.le_of_lt h)]
theorem mixM_set (f : α → α) {l : List α} {i : Nat} (h : i < l.length) : (mixM f l i).set i (f l[i]) = mixM f l (i + 1) := by
  unfold mixM
  rw [List.set_append_right _ _ (by simp; omega), List.length_map, List.length_take, Nat.min_eq_left (by omega), Nat.sub_self, List.drop_eq_getElem_cons h, List.set_cons_zero, List.take_succ_eq_append_getElem h, List.map_append]
  simp
theorem mixM_same (f : α → α) {l : List α} {i : Nat} (h : i < l.length) (e : f l[i] = l[i]) : mixM f l i = mixM f l (i + 1) := by
  have := mixM_set f h
  rw [e] at this
  rw [← this]
  refine List.ext_getElem? fun j => ?_
  by_cases hj : j = i
  · subst hj; rw [mixM_get f h, List.getElem?_set_self (by simp; exact h)]
  · rw [List.getElem?_set_ne (by omega)]

/-- Kept up to an index. -/
theorem filter_step (p : α → Bool) {l : List α} {i : Nat} (h : i < l.length) : (l.take (i + 1)).filter p = (l.take i).filter p ++ (if p l[i] then [l[i]] else []) := by
  rw [List.take_succ_eq_append_getElem h, List.filter_append]
  by_cases hp : p l[i] = true <;> simp [hp]
end
/-! ### the ends of the laws: marks on what was handed in, on what was handed back -/
section
variable {P : Program} {K : AV → List AObj → Nat → Prop} {α : Type} {enc encO : α → List AV} {inn : α → List AObj} {w f : Nat} {mk : Int → α → α} {cnt : α → Nat}
theorem call_midr {f : Nat} {l l' : List AV} {a : AObj} {A B C : List AObj} {c : Nat} {Q : AV → List AObj → Nat → Prop} (hf : Con P f l' B c Q) (hv : Views [] l l')
    (k : ∀ r B' c', c ≤ c' → Q r B' c' → tags B' = tags B ∧ Av [] r ∧ (∀ o, o ∈ B' → AvRows [] o) ∧ K r (a :: (A ++ (B' ++ C))) c') : CallW P f l (a :: (A ++ (B ++ C))) c K := by
  have e : ∀ X : List AObj, a :: (A ++ (X ++ C)) = (a :: A) ++ X ++ C := fun X => by simp
  rw [e]
  exact call_mid hf hv fun r B' c' hc hq => by rw [← e]; exact k r B' c' hc hq
theorem SL.marks_ref (k : Int) (s : SL α) : (s.marks mk cnt k).ref w = s.ref w := by cases s <;> simp [SL.marks, SL.ref, mks_len]
theorem view_marks {S : List AObj} {s : SL α} {k : Int} (hs : ∀ o, o ∈ (s.marks mk cnt k).wood w enc noInn → o ∈ S) (hc : ∀ x a, a ∈ enc x → a.cell = true) : View S (s.ref w) ((s.marks mk cnt k).av w enc) := by
  rw [← SL.marks_ref (mk := mk) (cnt := cnt) k s]
  exact view_flat hs hc
theorem mark_mid {A C : List AObj} {s : SL α} {k n : Int} {c : Nat} (hf : Con P f [s.ref w, .int .i64 k] (s.wood w encO inn) c fun r H' _ => r = .int .i64 n ∧ H' = (s.marks mk cnt k).wood w encO inn)
    (hi : ∀ k x, tags (inn (mk k x)) = tags (inn x)) (hO : ∀ x a, a ∈ encO x → Free a) (hI : ∀ x o, o ∈ inn x → ∀ T, AvRows T o) (kk : ∀ c', c ≤ c' → K (.int .i64 n) (A ++ (s.marks mk cnt k).wood w encO inn ++ C) c') :
    CallW P f [s.ref w, .int .i64 k] (A ++ s.wood w encO inn ++ C) c K :=
  call_mid hf (Views.refl _ _) fun r B' c' hc ⟨h1, h2⟩ => by
    subst h1; subst h2
    exact ⟨tags_wood hi _ s, .int, fun o ho => free_wood hO hI _ o ho _, kk c' hc⟩
theorem mark_first {C : List AObj} {s : SL α} {k n : Int} {c : Nat} (hE : Flat enc) (hf : Con P f [s.ref w, .int .i64 k] (s.wood w enc noInn) c fun r H' _ => r = .int .i64 n ∧ H' = (s.marks mk cnt k).wood w enc noInn)
    (kk : ∀ c', c ≤ c' → K (.int .i64 n) ((s.marks mk cnt k).wood w enc noInn ++ C) c') : CallW P f [s.ref w, .int .i64 k] (s.wood w enc noInn ++ C) c K :=
  mark_mid (A := []) hf (fun _ _ => rfl) (fun x a ha => (hE x a ha).2) (fun x o ho => by cases ho) kk
theorem mark_last {A : List AObj} {s : SL α} {k n : Int} {c : Nat} (hE : Flat enc) (hf : Con P f [s.ref w, .int .i64 k] (s.wood w enc noInn) c fun r H' _ => r = .int .i64 n ∧ H' = (s.marks mk cnt k).wood w enc noInn)
    (kk : ∀ c', c ≤ c' → K (.int .i64 n) (A ++ (s.marks mk cnt k).wood w enc noInn) c') : CallW P f [s.ref w, .int .i64 k] (A ++ s.wood w enc noInn) c K := by
  have := mark_mid (A := A) (C := []) (K := K) hf (fun _ _ => rfl) (fun x a ha => (hE x a ha).2) (fun x o ho => by cases ho) (by simpa using kk)
  simpa using this
end
end A
end Go.Proofs.YtmhmaokbicgmbaaGreatDoor

/-
  Bindings whose values are arrays of texts, as0 trees: structures, cells, comparison. No condition.
-/


namespace Go.Proofs.YtmhmaokbicgmbaaGreatDoor
namespace A
set_option linter.unusedVariables false
set_option linter.unusedSimpArgs false
set_option maxRecDepth 100000

structure TKey where
  Text : Bool
  Num : Int
  Str : List UInt8
  deriving DecidableEq
/-- A value without items. -/
structure TVal0 where
  Kind : Int
  Num : Int
  Str : List UInt8
  Next : Int
structure TEntry where
  Key : TKey
  Val : TVal0
structure TValue where
  Kind : Int
  Num : Int
  Str : List UInt8
  Next : Int
  Items : SL TEntry
structure TBinding where
  Name : List UInt8
  Val : TValue
def TKey.enc (s : TKey) : List AV := [.bool s.Text, .int .i64 s.Num, .str s.Str]
def TVal0.enc (s : TVal0) : List AV := [.int .i64 s.Kind, .int .i64 s.Num, .str s.Str, .int .i64 s.Next, .nsl]
def TEntry.enc (s : TEntry) : List AV := [.bool s.Key.Text, .int .i64 s.Key.Num, .str s.Key.Str, .int .i64 s.Val.Kind, .int .i64 s.Val.Num, .str s.Val.Str, .int .i64 s.Val.Next, .nsl]
def TValue.enc (s : TValue) : List AV := [.int .i64 s.Kind, .int .i64 s.Num, .str s.Str, .int .i64 s.Next, s.Items.av 8 TEntry.enc]
def TBinding.enc (s : TBinding) : List AV := [.str s.Name, .int .i64 s.Val.Kind, .int .i64 s.Val.Num, .str s.Val.Str, .int .i64 s.Val.Next, s.Val.Items.av 8 TEntry.enc]
@[simp] theorem TKey.len (s : TKey) : s.enc.length = 3 := (rfl)
@[simp] theorem TKey.all (s : TKey) : s.enc.take 3 = s.enc := (rfl)
@[simp] theorem TKey.g0 (s : TKey) (K : AV → Prop) : getW s.enc 0 K = K (.bool s.Text) := by simp [TKey.enc]
@[simp] theorem TKey.g1 (s : TKey) (K : AV → Prop) : getW s.enc 1 K = K (.int .i64 s.Num) := by simp [TKey.enc]
@[simp] theorem TKey.g2 (s : TKey) (K : AV → Prop) : getW s.enc 2 K = K (.str s.Str) := by simp [TKey.enc]
theorem TKey.cells (s : TKey) : ∀ a, a ∈ s.enc → a.cell = true := by simp [TKey.enc]
@[simp] theorem TVal0.len (s : TVal0) : s.enc.length = 5 := (rfl)
@[simp] theorem TVal0.all (s : TVal0) : s.enc.take 5 = s.enc := (rfl)
@[simp] theorem TVal0.g0 (s : TVal0) (K : AV → Prop) : getW s.enc 0 K = K (.int .i64 s.Kind) := by simp [TVal0.enc]
@[simp] theorem TVal0.g1 (s : TVal0) (K : AV → Prop) : getW s.enc 1 K = K (.int .i64 s.Num) := by simp [TVal0.enc]
@[simp] theorem TVal0.g2 (s : TVal0) (K : AV → Prop) : getW s.enc 2 K = K (.str s.Str) := by simp [TVal0.enc]
@[simp] theorem TVal0.g3 (s : TVal0) (K : AV → Prop) : getW s.enc 3 K = K (.int .i64 s.Next) := by simp [TVal0.enc]
@[simp] theorem TVal0.g4 (s : TVal0) (K : AV → Prop) : getW s.enc 4 K = K .nsl := by simp [TVal0.enc]
theorem TVal0.cells (s : TVal0) : ∀ a, a ∈ s.enc → a.cell = true := by simp [TVal0.enc]
@[simp] theorem TEntry.len (s : TEntry) : s.enc.length = 8 := (rfl)
@[simp] theorem TEntry.all (s : TEntry) : s.enc.take 8 = s.enc := (rfl)
@[simp] theorem TEntry.key (s : TEntry) : s.enc.take 3 = s.Key.enc := (rfl)
@[simp] theorem TEntry.val (s : TEntry) : (s.enc.drop 3).take 5 = s.Val.enc := (rfl)
@[simp] theorem TEntry.val' (s : TEntry) : s.enc.drop 3 = s.Val.enc := (rfl)
theorem TEntry.app (s : TEntry) : s.enc = s.Key.enc ++ s.Val.enc := rfl
@[simp] theorem TEntry.g0 (s : TEntry) (K : AV → Prop) : getW s.enc 0 K = K (.bool s.Key.Text) := by simp [TEntry.enc]
@[simp] theorem TEntry.g1 (s : TEntry) (K : AV → Prop) : getW s.enc 1 K = K (.int .i64 s.Key.Num) := by simp [TEntry.enc]
@[simp] theorem TEntry.g2 (s : TEntry) (K : AV → Prop) : getW s.enc 2 K = K (.str s.Key.Str) := by simp [TEntry.enc]
@[simp] theorem TEntry.g3 (s : TEntry) (K : AV → Prop) : getW s.enc 3 K = K (.int .i64 s.Val.Kind) := by simp [TEntry.enc]
@[simp] theorem TEntry.g4 (s : TEntry) (K : AV → Prop) : getW s.enc 4 K = K (.int .i64 s.Val.Num) := by simp [TEntry.enc]
@[simp] theorem TEntry.g5 (s : TEntry) (K : AV → Prop) : getW s.enc 5 K = K (.str s.Val.Str) := by simp [TEntry.enc]
@[simp] theorem TEntry.g6 (s : TEntry) (K : AV → Prop) : getW s.enc 6 K = K (.int .i64 s.Val.Next) := by simp [TEntry.enc]
@[simp] theorem TEntry.g7 (s : TEntry) (K : AV → Prop) : getW s.enc 7 K = K .nsl := by simp [TEntry.enc]
theorem TEntry.cells (s : TEntry) : ∀ a, a ∈ s.enc → a.cell = true := by simp [TEntry.enc]
theorem free_nsl : Free .nsl := fun _ => .nsl
theorem TEntry.flat : Flat TEntry.enc := fun x a ha => by
  simp [TEntry.enc] at ha
  rcases ha with rfl | rfl | rfl | rfl | rfl | rfl | rfl | rfl <;> exact ⟨rfl, fun T => by constructor⟩
@[simp] theorem TValue.len (s : TValue) : s.enc.length = 5 := (rfl)
@[simp] theorem TValue.all (s : TValue) : s.enc.take 5 = s.enc := (rfl)
@[simp] theorem TValue.g0 (s : TValue) (K : AV → Prop) : getW s.enc 0 K = K (.int .i64 s.Kind) := by simp [TValue.enc]
@[simp] theorem TValue.g1 (s : TValue) (K : AV → Prop) : getW s.enc 1 K = K (.int .i64 s.Num) := by simp [TValue.enc]
@[simp] theorem TValue.g2 (s : TValue) (K : AV → Prop) : getW s.enc 2 K = K (.str s.Str) := by simp [TValue.enc]
@[simp] theorem TValue.g3 (s : TValue) (K : AV → Prop) : getW s.enc 3 K = K (.int .i64 s.Next) := by simp [TValue.enc]
@[simp] theorem TValue.g4 (s : TValue) (K : AV → Prop) : getW s.enc 4 K = K (s.Items.av 8 TEntry.enc) := by simp [TValue.enc]
theorem TValue.cells (s : TValue) : ∀ a, a ∈ s.enc → a.cell = true := by simp [TValue.enc]
@[simp] theorem TBinding.len (s : TBinding) : s.enc.length = 6 := (rfl)
@[simp] theorem TBinding.all (s : TBinding) : s.enc.take 6 = s.enc := (rfl)
@[simp] theorem TBinding.val (s : TBinding) : (s.enc.drop 1).take 5 = s.Val.enc := (rfl)
@[simp] theorem TBinding.val' (s : TBinding) : s.enc.drop 1 = s.Val.enc := (rfl)
@[simp] theorem TBinding.g0 (s : TBinding) (K : AV → Prop) : getW s.enc 0 K = K (.str s.Name) := by simp [TBinding.enc]
@[simp] theorem TBinding.g1 (s : TBinding) (K : AV → Prop) : getW s.enc 1 K = K (.int .i64 s.Val.Kind) := by simp [TBinding.enc]
@[simp] theorem TBinding.g2 (s : TBinding) (K : AV → Prop) : getW s.enc 2 K = K (.int .i64 s.Val.Num) := by simp [TBinding.enc]
@[simp] theorem TBinding.g3 (s : TBinding) (K : AV → Prop) : getW s.enc 3 K = K (.str s.Val.Str) := by simp [TBinding.enc]
@[simp] theorem TBinding.g4 (s : TBinding) (K : AV → Prop) : getW s.enc 4 K = K (.int .i64 s.Val.Next) := by simp [TBinding.enc]
@[simp] theorem TBinding.g5 (s : TBinding) (K : AV → Prop) : getW s.enc 5 K = K (s.Val.Items.av 8 TEntry.enc) := by simp [TBinding.enc]
theorem TBinding.cells (s : TBinding) : ∀ a, a ∈ s.enc → a.cell = true := by simp [TBinding.enc]

/-! ### what does not hang on tags -/
def TValue.con (s : TValue) : TValue := { s with Items := s.Items.pcon }
def TBinding.con (s : TBinding) : TBinding := ⟨s.Name, s.Val.con⟩
def TEntry.con (s : TEntry) : TEntry := s
theorem value_same {a b : TValue} (h : a.con = b.con) : a.Kind = b.Kind ∧ a.Num = b.Num ∧ a.Str = b.Str ∧ a.Next = b.Next ∧ a.Items.list = b.Items.list :=
  ⟨(congrArg TValue.Kind h : a.con.Kind = b.con.Kind), (congrArg TValue.Num h : a.con.Num = b.con.Num), (congrArg TValue.Str h : a.con.Str = b.con.Str), (congrArg TValue.Next h : a.con.Next = b.con.Next), (congrArg (fun x => x.Items.list) h : a.con.Items.list = b.con.Items.list)⟩
theorem value_con {a b : TValue} (h1 : a.Kind = b.Kind) (h2 : a.Num = b.Num) (h3 : a.Str = b.Str) (h4 : a.Next = b.Next) (h5 : a.Items.list = b.Items.list) : a.con = b.con := by
  simp [TValue.con, SL.pcon, h1, h2, h3, h4, h5]
/-! ### comparison -/
theorem eqKey_fn (a : TKey) : Fnc Tryz.prog 129 [.agg a.enc, .agg a.enc] (.bool true) := by
  refine fn_of c129 (by simp [F129]) fun c => ?_
  unfold F129
  simp
  exact fin_plain ⟨rfl, rfl⟩
theorem eqEntry_nil : Fnc Tryz.prog 93 [.nsl, .nsl] (.bool true) := by
  refine fn_of c93 (by simp [F93]) fun c => ?_
  unfold F93
  simp
  refine loop_drop 0 (fun i e H c' => e 0 = .nsl ∧ e 5 = .int .i64 0 ∧ H = []) ⟨rfl, rfl, rfl⟩ ?_
  intro i e H c hi ⟨e0, e5, hH⟩ N hN
  subst hH
  simp [e0, e5]
  exact fin_plain ⟨rfl, rfl⟩
theorem eqVal0_fn (a : TVal0) : Fnc Tryz.prog 65 [.agg a.enc, .agg a.enc] (.bool true) := by
  refine fn_of c65 (by simp [F65]) fun c => ?_
  unfold F65
  simp
  refine call_fn0 eqEntry_nil .bool fun _ _ => ?_
  simp
  exact fin_plain ⟨rfl, rfl⟩
theorem eqEntry_fn (a : TEntry) : Fnc Tryz.prog 113 [.agg a.enc, .agg a.enc] (.bool true) := by
  refine fn_of c113 (by simp [F113]) fun c => ?_
  unfold F113
  simp
  refine call_fn0 (eqKey_fn a.Key) .bool fun _ _ => ?_
  simp
  refine call_fn0 (eqVal0_fn a.Val) .bool fun _ _ => ?_
  simp
  exact fin_plain ⟨rfl, rfl⟩
theorem eqEntryS_fn {s t : SL TEntry} (h : s.list.length ≤ mx) (he : s.list = t.list) : Fnc Tryz.prog 93 [s.av 8 TEntry.enc, t.av 8 TEntry.enc] (.bool true) :=
  eqS_fn (g := 113) (con := TEntry.con) c93 (fun _ => rfl) h (by rw [he]) fun x hx y hxy => by
    have : x = y := hxy
    subst this
    exact eqEntry_fn x
theorem eqValue_fn {a b : TValue} (h : a.Items.list.length ≤ mx) (he : a.con = b.con) : Fnc Tryz.prog 65 [.agg a.enc, .agg b.enc] (.bool true) := by
  obtain ⟨h1, h2, h3, h4, h5⟩ := value_same he
  refine fn_of c65 (by simp [F65]) fun c => ?_
  unfold F65
  simp [h1, h2, h3, h4]
  refine call_fn0 (eqEntryS_fn h h5) .bool fun _ _ => ?_
  simp [h1, h2, h3, h4]
  exact fin_plain ⟨rfl, rfl⟩
theorem eqBinding_fn {a b : TBinding} (h : a.Val.Items.list.length ≤ mx) (he : a.con = b.con) : Fnc Tryz.prog 32 [.agg a.enc, .agg b.enc] (.bool true) := by
  have h1 : a.Name = b.Name := (congrArg TBinding.Name he : a.con.Name = b.con.Name)
  have h2 : a.Val.con = b.Val.con := (congrArg TBinding.Val he : a.con.Val = b.con.Val)
  refine fn_of c32 (by simp [F32]) fun c => ?_
  unfold F32
  simp [h1]
  refine call_fn0 (eqValue_fn h h2) .bool fun _ _ => ?_
  simp [h1]
  exact fin_plain ⟨rfl, rfl⟩
theorem eqBindingS_fn {s t : SL TBinding} (h : s.list.length ≤ mx) (hi : ∀ x, x ∈ s.list → x.Val.Items.list.length ≤ mx) (he : s.list.map TBinding.con = t.list.map TBinding.con) : Fnc Tryz.prog 9 [s.av 6 TBinding.enc, t.av 6 TBinding.enc] (.bool true) :=
  eqS_fn (g := 32) (con := TBinding.con) c9 (fun _ => rfl) h he fun x hx y hxy => eqBinding_fn (hi x hx) hxy
end A
end Go.Proofs.YtmhmaokbicgmbaaGreatDoor

/-
  The types that the laws of this seat speak of, and the helpers over them: printed by a program (wip/tools/gen.py). No condition.
-/


namespace Go.Proofs.YtmhmaokbicgmbaaGreatDoor
namespace A
set_option linter.unusedVariables false
set_option linter.unusedSimpArgs false
set_option maxRecDepth 100000

structure TPair where
  Name : List UInt8
  Value : List UInt8
def TPair.enc (s : TPair) : List AV := [.str s.Name, .str s.Value]
@[simp] theorem TPair.len (s : TPair) : s.enc.length = 2 := (rfl)
@[simp] theorem TPair.all (s : TPair) : s.enc.take 2 = s.enc := (rfl)
@[simp] theorem TPair.g0 (s : TPair) (K : AV → Prop) : getW s.enc 0 K = K (.str s.Name) := by simp [TPair.enc]
@[simp] theorem TPair.g1 (s : TPair) (K : AV → Prop) : getW s.enc 1 K = K (.str s.Value) := by simp [TPair.enc]
theorem TPair.cells (s : TPair) : ∀ a, a ∈ s.enc → a.cell = true := by simp [TPair.enc]
def TPair.sz (s : TPair) : Nat := s.Name.length + s.Value.length
def TPair.ok (s : TPair) : Prop := s.Name.length ≤ mx ∧ s.Value.length ≤ mx
def TPair.con (s : TPair) : TPair := s
theorem TPair.sz_con (s : TPair) : s.con.sz = s.sz := rfl
theorem TPair.sh : ∀ (n : Nat) (row : List AV), ShC Tryz.prog n 85 row → ∃ s : TPair, row = s.enc ∧ s.ok := by
  intro n row h
  obtain ⟨m, hl, hf⟩ := sh_fields (l := [(9, 0), (9, 1)]) (by kernel_rfl) h
  have hl' : row.length = 2 := hl.trans (by kernel_rfl)
  match row, hl' with
  | [x0, x1], _ =>
    have h0 := hf (9, 0) (by simp)
    rw [show Tryz.prog.cellsOf 9 = 1 by kernel_rfl] at h0
    obtain ⟨v0, rfl, k0⟩ := sh_str (t := 9) (by kernel_rfl) (show ShC Tryz.prog m 9 [x0] from h0)
    have h1 := hf (9, 1) (by simp)
    rw [show Tryz.prog.cellsOf 9 = 1 by kernel_rfl] at h1
    obtain ⟨v1, rfl, k1⟩ := sh_str (t := 9) (by kernel_rfl) (show ShC Tryz.prog m 9 [x1] from h1)
    exact ⟨⟨v0, v1⟩, rfl, ⟨k0, k1⟩⟩
theorem TPair.sz_fn {s : TPair} (hs : s.ok) {left : Int} (hl : Room left) : Fnc Tryz.prog 54 [.agg s.enc, .int .i64 left] (.int .i64 (szOf s.sz left)) := by
  unfold TPair.ok at hs
  have hr := hl.2
  refine fn_of c54 (by simp [F54]) fun c => ?_
  unfold F54
  simp
  rw [szOf_wrap hs.1 hl]
  refine ⟨fun h => fin_plain ⟨by rw [szOf_neg (by simp only [TPair.sz]; omega)], rfl⟩, fun h => ?_⟩
  rw [szOf_wrap hs.2 ⟨by omega, by omega⟩]
  refine ⟨fun h => fin_plain ⟨by rw [szOf_neg (by simp only [TPair.sz]; omega)], rfl⟩, fun h => ?_⟩
  have hz : s.sz = s.Name.length + s.Value.length := rfl
  have e : szOf s.sz left = left - (s.Name.length : Int) - (s.Value.length : Int) := by
    unfold szOf
    rw [if_pos (by omega)]
    omega
  exact fin_plain ⟨by rw [e], rfl⟩
theorem TPair.to_fn {s : TPair} (h : s.sz ≤ 1048576) : Tr Tryz.prog 58 [.agg s.enc] fun _ r => ∃ b : TPair, r = .agg b.enc ∧ b.con = s.con := by
  simp only [TPair.sz] at h
  intro c
  refine con_of c58 (by simp [F58]) ?_
  unfold F58
  simp [putA]
  refine fin_plain ⟨rfl, ⟨⟨s.Name, s.Value⟩, rfl, ?_⟩, from_agg ?_⟩
  · rfl
  · simp
theorem TPair.eq_fn {a b : TPair} (h : a.sz ≤ 1099511627776) (he : a.con = b.con) : Fnc Tryz.prog 66 [.agg a.enc, .agg b.enc] (.bool true) := by
  simp only [TPair.sz] at h
  have e0 : a.Name = b.Name := (congrArg TPair.Name he : a.con.Name = b.con.Name)
  have e1 : a.Value = b.Value := (congrArg TPair.Value he : a.con.Value = b.con.Value)
  refine fn_of c66 (by simp [F66]) fun c => ?_
  unfold F66
  simp [e0, e1]
  exact fin_plain ⟨rfl, rfl⟩
def szPairS (s : SL TPair) : Nat := s.list.length + szL TPair.sz s.list
def okPairS (s : SL TPair) : Prop := s.list.length ≤ mx ∧ ∀ x, x ∈ s.list → TPair.ok x
theorem szPairS_con {s t : SL TPair} (h : s.list.map TPair.con = t.list.map TPair.con) : szPairS s = szPairS t := by
  unfold szPairS
  rw [← szL_map (con := TPair.con) TPair.sz_con s.list, ← szL_map (con := TPair.con) TPair.sz_con t.list, h]
  have := congrArg List.length h; simp at this; rw [this]
theorem shPairS {n : Nat} {a : AV} (h : ShC Tryz.prog n 22 [a]) : ∃ s : SL TPair, a = s.av 2 TPair.enc ∧ okPairS s := by
  obtain ⟨s, h1, h2, h3⟩ := sh_slc (P := Tryz.prog) (t := 22) (el := 85) (w := 2) (enc := TPair.enc) (ok := TPair.ok) (by kernel_rfl) (by kernel_rfl) (TPair.sh) h
  exact ⟨s, h1, h2, h3⟩
theorem szPairS_fn {s : SL TPair} (hs : okPairS s) {left : Int} (hl : Room left) : Fnc Tryz.prog 27 [s.av 2 TPair.enc, .int .i64 left] (.int .i64 (szOf (szPairS s) left)) :=
  szS_fn (g := 54) c27 (fun _ => rfl) hs.1 hl fun x hx left hl => TPair.sz_fn (hs.2 x hx) hl
theorem toPairS_fn {s : SL TPair} (h : szPairS s ≤ 1048576) : Tr Tryz.prog 29 [s.av 2 TPair.enc] fun _ r => ∃ b : SL TPair, r = b.av 2 TPair.enc ∧ b.list.map TPair.con = s.list.map TPair.con := by
  unfold szPairS at h
  exact toS_fn (g := 58) (z := [.str [], .str []]) (bytes := 32) c29 rfl (fun _ => rfl) (fun x => TPair.cells x) (by omega) (by omega) fun x hx => TPair.to_fn (by have := szL_mem (sz := TPair.sz) hx; omega)
theorem eqPairS_fn {s t : SL TPair} (h : szPairS s ≤ 1099511627776) (he : s.list.map TPair.con = t.list.map TPair.con) : Fnc Tryz.prog 33 [s.av 2 TPair.enc, t.av 2 TPair.enc] (.bool true) := by
  unfold szPairS at h
  exact eqS_fn (g := 66) (con := TPair.con) c33 (fun _ => rfl) (by unfold mx; omega) he fun x hx y hxy => TPair.eq_fn (by have := szL_mem (sz := TPair.sz) hx; omega) hxy
structure TRequest where
  Path : List UInt8
  Query : SL TPair
  Cookies : SL TPair
def TRequest.enc (s : TRequest) : List AV := [.str s.Path, s.Query.av 2 TPair.enc, s.Cookies.av 2 TPair.enc]
@[simp] theorem TRequest.len (s : TRequest) : s.enc.length = 3 := (rfl)
@[simp] theorem TRequest.all (s : TRequest) : s.enc.take 3 = s.enc := (rfl)
@[simp] theorem TRequest.g0 (s : TRequest) (K : AV → Prop) : getW s.enc 0 K = K (.str s.Path) := by simp [TRequest.enc]
@[simp] theorem TRequest.g1 (s : TRequest) (K : AV → Prop) : getW s.enc 1 K = K (s.Query.av 2 TPair.enc) := by simp [TRequest.enc]
@[simp] theorem TRequest.g2 (s : TRequest) (K : AV → Prop) : getW s.enc 2 K = K (s.Cookies.av 2 TPair.enc) := by simp [TRequest.enc]
theorem TRequest.cells (s : TRequest) : ∀ a, a ∈ s.enc → a.cell = true := by simp [TRequest.enc]
def TRequest.sz (s : TRequest) : Nat := s.Path.length + (szPairS s.Query) + (szPairS s.Cookies)
def TRequest.ok (s : TRequest) : Prop := s.Path.length ≤ mx ∧ okPairS s.Query ∧ okPairS s.Cookies
def TRequest.con (s : TRequest) : TRequest := { s with Query := s.Query.con TPair.con, Cookies := s.Cookies.con TPair.con }
theorem TRequest.sz_con (s : TRequest) : s.con.sz = s.sz := by
  simp [TRequest.sz, TRequest.con, szPairS, szPairS, szL_map TPair.sz_con, szL_map TPair.sz_con]
theorem TRequest.sh : ∀ (n : Nat) (row : List AV), ShC Tryz.prog n 24 row → ∃ s : TRequest, row = s.enc ∧ s.ok := by
  intro n row h
  obtain ⟨m, hl, hf⟩ := sh_fields (l := [(9, 0), (22, 1), (22, 2)]) (by kernel_rfl) h
  have hl' : row.length = 3 := hl.trans (by kernel_rfl)
  match row, hl' with
  | [x0, x1, x2], _ =>
    have h0 := hf (9, 0) (by simp)
    rw [show Tryz.prog.cellsOf 9 = 1 by kernel_rfl] at h0
    obtain ⟨v0, rfl, k0⟩ := sh_str (t := 9) (by kernel_rfl) (show ShC Tryz.prog m 9 [x0] from h0)
    have h1 := hf (22, 1) (by simp)
    rw [show Tryz.prog.cellsOf 22 = 1 by kernel_rfl] at h1
    obtain ⟨v1, rfl, k1⟩ := shPairS (show ShC Tryz.prog m 22 [x1] from h1)
    have h2 := hf (22, 2) (by simp)
    rw [show Tryz.prog.cellsOf 22 = 1 by kernel_rfl] at h2
    obtain ⟨v2, rfl, k2⟩ := shPairS (show ShC Tryz.prog m 22 [x2] from h2)
    exact ⟨⟨v0, v1, v2⟩, rfl, ⟨k0, k1, k2⟩⟩
theorem TRequest.sz_fn {s : TRequest} (hs : s.ok) {left : Int} (hl : Room left) : Fnc Tryz.prog 5 [.agg s.enc, .int .i64 left] (.int .i64 (szOf s.sz left)) := by
  unfold TRequest.ok at hs
  have hr := hl.2
  refine fn_of c5 (by simp [F5]) fun c => ?_
  unfold F5
  simp
  rw [szOf_wrap hs.1 hl]
  refine ⟨fun h => fin_plain ⟨by rw [szOf_neg (by simp only [TRequest.sz]; omega)], rfl⟩, fun h => ?_⟩
  refine call_fn0 (szPairS_fn hs.2.1 ⟨by omega, by omega⟩) .int fun _ _ => ?_
  simp
  refine ⟨fun h => fin_plain ⟨by have := szOf_lt h; rw [szOf_neg (by simp only [TRequest.sz]; omega)], rfl⟩, fun h => ?_⟩
  obtain ⟨h1, k1⟩ := szOf_ge h
  rw [h1]
  refine call_fn0 (szPairS_fn hs.2.2 ⟨by omega, by omega⟩) .int fun _ _ => ?_
  simp
  refine ⟨fun h => fin_plain ⟨by have := szOf_lt h; rw [szOf_neg (by simp only [TRequest.sz]; omega)], rfl⟩, fun h => ?_⟩
  obtain ⟨h2, k2⟩ := szOf_ge h
  rw [h2]
  have hz : s.sz = s.Path.length + (szPairS s.Query) + (szPairS s.Cookies) := rfl
  have e : szOf s.sz left = left - (s.Path.length : Int) - ((szPairS s.Query) : Int) - ((szPairS s.Cookies) : Int) := by
    unfold szOf
    rw [if_pos (by omega)]
    omega
  exact fin_plain ⟨by rw [e], rfl⟩
theorem TRequest.to_fn {s : TRequest} (h : s.sz ≤ 1048576) : Tr Tryz.prog 7 [.agg s.enc] fun _ r => ∃ b : TRequest, r = .agg b.enc ∧ b.con = s.con := by
  simp only [TRequest.sz] at h
  intro c
  refine con_of c7 (by simp [F7]) ?_
  unfold F7
  simp [putA]
  refine call_tree0 (toPairS_fn (by omega)) fun r1 c1 hc1 ⟨b1, e1, q1⟩ f1 => ?_
  subst e1
  simp [putA]
  refine call_tree0 (toPairS_fn (by omega)) fun r2 c2 hc2 ⟨b2, e2, q2⟩ f2 => ?_
  subst e2
  simp [putA]
  refine fin_plain ⟨rfl, ⟨⟨s.Path, b1, b2⟩, rfl, ?_⟩, from_agg ?_⟩
  · simp [TRequest.con, SL.con, SL.pcon, q1, q2]
  · simp
    exact ⟨f1.mono (by omega), f2.mono (by omega)⟩
theorem TRequest.eq_fn {a b : TRequest} (h : a.sz ≤ 1099511627776) (he : a.con = b.con) : Fnc Tryz.prog 10 [.agg a.enc, .agg b.enc] (.bool true) := by
  simp only [TRequest.sz] at h
  have e0 : a.Path = b.Path := (congrArg TRequest.Path he : a.con.Path = b.con.Path)
  have e1 : a.Query.list.map TPair.con = b.Query.list.map TPair.con := congrArg (fun s => s.Query.list) he
  have e2 : a.Cookies.list.map TPair.con = b.Cookies.list.map TPair.con := congrArg (fun s => s.Cookies.list) he
  refine fn_of c10 (by simp [F10]) fun c => ?_
  unfold F10
  simp [e0]
  refine call_fn0 (eqPairS_fn (by omega) e1) .bool fun _ _ => ?_
  simp [e0]
  refine call_fn0 (eqPairS_fn (by omega) e2) .bool fun _ _ => ?_
  simp [e0]
  exact fin_plain ⟨rfl, rfl⟩
end A
end Go.Proofs.YtmhmaokbicgmbaaGreatDoor

/-
  Arrays of texts out of pairs: the plain part. No condition.
-/



namespace Go.Proofs.YtmhmaokbicgmbaaGreatDoor
namespace A
set_option linter.unusedVariables false
set_option linter.unusedSimpArgs false

/-- A text as0 a key. -/
def tKey (l : List UInt8) : TKey := match sgS l with | some n => ⟨false, n, []⟩ | none => ⟨true, 0, l⟩
def txV (l : List UInt8) : TVal0 := ⟨3, 0, l, 0⟩
/-- Where the key stands first: the number of entries before it. -/
def fdN (k : TKey) : List TEntry → Nat
  | [] => 0
  | e :: l => if e.Key = k then 0 else fdN k l + 1
theorem fdN_le (k : TKey) : ∀ l, fdN k l ≤ l.length
  | [] => Nat.le_refl _
  | e :: l => by
    unfold fdN
    split
    · simp
    · have := fdN_le k l; simp; omega
theorem fdN_app (k : TKey) : ∀ l m, fdN k (l ++ m) = if fdN k l < l.length then fdN k l else l.length + fdN k m
  | [], m => by simp [fdN]
  | e :: l, m => by
    have ih := fdN_app k l m
    rw [List.cons_append, fdN, fdN]
    by_cases h : e.Key = k
    · simp [h]
    · simp only [if_neg h, List.length_cons]
      rw [ih]
      have := fdN_le k l
      split
      · rw [if_pos (by omega)]
      · rw [if_neg (by omega)]; omega
theorem fdN_hit {k : TKey} {l : List TEntry} {i : Nat} {e : TEntry} (h : l[i]? = some e) (hi : fdN k (l.take i) = i) (he : e.Key = k) : fdN k l = i := by
  obtain ⟨hl, rfl⟩ := List.getElem?_eq_some_iff.1 h
  have h1 : l = l.take i ++ l[i] :: l.drop (i + 1) := by rw [← List.drop_eq_getElem_cons hl, List.take_append_drop]
  have h2 : (l.take i).length = i := by simp; omega
  rw [h1, fdN_app, hi, h2, if_neg (by omega), fdN, if_pos he]
  omega
theorem fdN_step {k : TKey} {l : List TEntry} {i : Nat} {e : TEntry} (h : l[i]? = some e) (hi : fdN k (l.take i) = i) (he : ¬ e.Key = k) : fdN k (l.take (i + 1)) = i + 1 := by
  obtain ⟨hl, rfl⟩ := List.getElem?_eq_some_iff.1 h
  have h2 : (l.take i).length = i := by simp; omega
  rw [List.take_succ_eq_append_getElem hl, fdN_app, hi, h2, if_neg (by omega), fdN, if_neg he]
  simp [fdN]
def fdI (l : List TEntry) (k : TKey) : Int := if fdN k l < l.length then fdN k l else -1
/-- An array: its entries, the next number. -/
abbrev PArr := List TEntry × Int
def nextP (n : Int) (k : TKey) : Int := if k.Text then n else if n < k.Num + 1 then k.Num + 1 else n
def putE (a : PArr) (k : TKey) (x : TVal0) : PArr := if fdN k a.1 < a.1.length then (a.1.set (fdN k a.1) ⟨k, x⟩, a.2) else (a.1 ++ [⟨k, x⟩], nextP a.2 k)
def arrP (l : List TPair) : PArr := l.foldl (fun a p => putE a (tKey p.Name) (txV p.Value)) ([], 0)
theorem arrP_step (l : List TPair) {i : Nat} (h : i < l.length) : arrP (l.take (i + 1)) = putE (arrP (l.take i)) (tKey l[i].Name) (txV l[i].Value) := by
  unfold arrP
  rw [List.take_succ_eq_append_getElem h, List.foldl_append]
  rfl
theorem fdN_key {k : TKey} : ∀ {l : List TEntry}, fdN k l < l.length → ∃ e, l[fdN k l]? = some e ∧ e.Key = k
  | [], h => by simp [fdN] at h
  | e :: l, h => by
    by_cases he : e.Key = k
    · exact ⟨e, by simp [fdN, he], he⟩
    · have : fdN k l < l.length := by simp only [fdN, if_neg he, List.length_cons] at h; omega
      obtain ⟨x, h1, h2⟩ := fdN_key this
      exact ⟨x, by simp only [fdN, if_neg he, List.getElem?_cons_succ]; exact h1, h2⟩
theorem sgS_bnd {l : List UInt8} {n : Int} (h : sgS l = some n) : -1000000000 ≤ n ∧ n ≤ 1000000000 := ((sgS_iff l n).1 h).2
theorem tKey_bnd (l : List UInt8) : -1000000000 ≤ (tKey l).Num ∧ (tKey l).Num ≤ 1000000000 := by
  unfold tKey
  cases h : sgS l with
  | none => exact ⟨by simp, by simp⟩
  | some n => exact sgS_bnd h
theorem putE_bnd {a : PArr} {k : TKey} {x : TVal0} (hk : k.Num ≤ 1000000000) (h0 : 0 ≤ a.2) (h1 : a.2 ≤ 1000000001) : 0 ≤ (putE a k x).2 ∧ (putE a k x).2 ≤ 1000000001 ∧ (putE a k x).1.length ≤ a.1.length + 1 := by
  unfold putE
  split
  · exact ⟨h0, h1, by simp⟩
  · refine ⟨?_, ?_, by simp⟩ <;> (show _ ≤ _; unfold nextP; split; omega; split <;> omega)
theorem arrP_bnd (l : List TPair) : 0 ≤ (arrP l).2 ∧ (arrP l).2 ≤ 1000000001 ∧ (arrP l).1.length ≤ l.length := by
  have key : ∀ i, i ≤ l.length → 0 ≤ (arrP (l.take i)).2 ∧ (arrP (l.take i)).2 ≤ 1000000001 ∧ (arrP (l.take i)).1.length ≤ i := by
    intro i
    induction i with
    | zero => intro _; simp [arrP]
    | succ i ih =>
      intro hi
      obtain ⟨h0, h1, h2⟩ := ih (by omega)
      rw [arrP_step l (by omega)]
      obtain ⟨k0, k1, k2⟩ := putE_bnd (x := txV l[i].Value) (tKey_bnd l[i].Name).2 h0 h1
      exact ⟨k0, k1, by omega⟩
  have := key l.length (Nat.le_refl _)
  rwa [List.take_length] at this
end A
end Go.Proofs.YtmhmaokbicgmbaaGreatDoor

/-
  Library contracts at this program, laid by the kit's tool (lay-shelf, lay-plain). No condition.
-/









namespace Go.Proofs
open Go.Shelf
def Tryz.lays156_ren : Go.Shelf.Ren := ⟨fun | 156 => 75 | 165 => 100 | 166 => 101 | 169 => 102 | 240 => 118 | 241 => 119 | 276 => 132 | 277 => 133 | n => n, fun | 31 => 99 | 9 => 9 | 3 => 3 | 4 => 4 | 0 => 0 | 20 => 20 | 72 => 119 | 76 => 123 | 70 => 117 | 37 => 37 | 75 => 122 | 127 => 138 | 164 => 145 | 5 => 5 | 80 => 125 | n => n, fun | n => n⟩
theorem Tryz.lays156 : Go.Proofs.Lays.n156 Tryz.prog Tryz.lays156_ren := {
  mixed := by kernel_rfl
  f156 := Tryz.func75.trans (congrArg some (by kernel_rfl))
  f165 := Tryz.func100.trans (congrArg some (by kernel_rfl))
  f166 := Tryz.func101.trans (congrArg some (by kernel_rfl))
  f169 := Tryz.func102.trans (congrArg some (by kernel_rfl))
  f240 := Tryz.func118.trans (congrArg some (by kernel_rfl))
  f241 := Tryz.func119.trans (congrArg some (by kernel_rfl))
  f276 := Tryz.func132.trans (congrArg some (by kernel_rfl))
  f277 := Tryz.func133.trans (congrArg some (by kernel_rfl))
  t0 := Tryz.underlying0
  a0 := Tryz.isAgg0
  z0 := Tryz.sizeOf0
  v0 := Tryz.zeroValue0
  t3 := Tryz.underlying3
  a3 := Tryz.isAgg3
  z3 := Tryz.sizeOf3
  v3 := Tryz.zeroValue3
  t4 := Tryz.underlying4
  a4 := Tryz.isAgg4
  z4 := Tryz.sizeOf4
  v4 := Tryz.zeroValue4
  t9 := Tryz.underlying9
  a9 := Tryz.isAgg9
  z9 := Tryz.sizeOf9
  v9 := Tryz.zeroValue9
  t20 := Tryz.underlying20
  a20 := Tryz.isAgg20
  z20 := Tryz.sizeOf20
  v20 := Tryz.zeroValue20
  t31 := Tryz.underlying99
  a31 := Tryz.isAgg99
  z31 := Tryz.sizeOf99
  v31 := Tryz.zeroValue99
  t37 := Tryz.underlying37
  a37 := Tryz.isAgg37
  z37 := Tryz.sizeOf37
  v37 := Tryz.zeroValue37
  t70 := Tryz.underlying117
  a70 := Tryz.isAgg117
  z70 := Tryz.sizeOf117
  v70 := Tryz.zeroValue117
  t72 := Tryz.underlying119
  a72 := Tryz.isAgg119
  z72 := Tryz.sizeOf119
  v72 := Tryz.zeroValue119
  t75 := Tryz.underlying122
  a75 := Tryz.isAgg122
  z75 := Tryz.sizeOf122
  v75 := Tryz.zeroValue122
  t76 := Tryz.underlying123
  a76 := Tryz.isAgg123
  z76 := Tryz.sizeOf123
  v76 := Tryz.zeroValue123
  t127 := Tryz.underlying138
  a127 := Tryz.isAgg138
  z127 := Tryz.sizeOf138
  v127 := Tryz.zeroValue138
  t164 := Tryz.underlying145
  a164 := Tryz.isAgg145
  z164 := Tryz.sizeOf145
  v164 := Tryz.zeroValue145 }
theorem Tryz.Builder_Extra_156 : Builder.Extra Tryz.prog Tryz.lays156_ren := {
  sizeBuilder := by kernel_rfl
  liesBuilder := by kernel_rfl
  t5 := Tryz.underlying5
  a5 := Tryz.isAgg5
  z5 := Tryz.sizeOf5
  v5 := Tryz.zeroValue5
  infoByte := by kernel_rfl
  cellsByte := by kernel_rfl
  sizeByte := by kernel_rfl
  neB5 := by decide }
open Go.RowKit in
theorem Tryz.strings_Join_none (a : Option Addr) (c : Nat) (sep : ByteArray) (w : World) :
    Calls Tryz.prog 75 #[.slice a 0 c, .string sep] w fun e w' => e = .returned (.string ⟨#[]⟩) ∧ w' = w := Any.strings_Join_none Tryz.lays156 Tryz.Builder_Extra_156 a c sep w
open Go.RowKit in
theorem Tryz.strings_Join (bk o c : Nat) (xs : List ByteArray) (sep : ByteArray) (w : World) (hcells : ∀ (j : Nat) x, xs[j]? = some x → w.cell? ⟨bk, o + j, none⟩ = some (.string x)) (hbk : bk < w.heap.size) (hN : xs.length ≤ 140737488355328) (hcap : xs.length ≤ c) (hlen : (Lib.join (xs.map (·.data.toList)) sep.data.toList).length ≤ 140737488355328) :
    Calls Tryz.prog 75 #[.slice (some ⟨bk, o, none⟩) xs.length c, .string sep] w fun e w' => e = .returned (.string ⟨(Lib.join (xs.map (·.data.toList)) sep.data.toList).toArray⟩) ∧ Below w.heap.size w w' := Any.strings_Join Tryz.lays156 Tryz.Builder_Extra_156 bk o c xs sep w hcells hbk hN hcap hlen
def Tryz.lays103_ren : Go.Shelf.Ren := ⟨fun | 103 => 41 | 210 => 72 | 206 => 97 | n => n, fun | 9 => 9 | 4 => 4 | 24 => 73 | 3 => 3 | n => n, fun | n => n⟩
theorem Tryz.lays103 : Go.Proofs.Lays.n103 Tryz.prog Tryz.lays103_ren := {
  mixed := by kernel_rfl
  f103 := Tryz.func41.trans (congrArg some (by kernel_rfl))
  f206 := Tryz.func97.trans (congrArg some (by kernel_rfl))
  f210 := Tryz.func72.trans (congrArg some (by kernel_rfl))
  t3 := Tryz.underlying3
  a3 := Tryz.isAgg3
  z3 := Tryz.sizeOf3
  v3 := Tryz.zeroValue3
  t4 := Tryz.underlying4
  a4 := Tryz.isAgg4
  z4 := Tryz.sizeOf4
  v4 := Tryz.zeroValue4
  t9 := Tryz.underlying9
  a9 := Tryz.isAgg9
  z9 := Tryz.sizeOf9
  v9 := Tryz.zeroValue9
  t24 := Tryz.underlying73
  a24 := Tryz.isAgg73
  z24 := Tryz.sizeOf73
  v24 := Tryz.zeroValue73 }
open Go.RowKit in
theorem Tryz.strings_CutPrefix (s p : ByteArray) (w : World) :
    Calls Tryz.prog 41 #[.string s, .string p] w fun e w' => e = .returned (.tuple #[.string ⟨(Lib.trimPrefix s.data.toList p.data.toList).toArray⟩, .bool (Lib.hasPrefix s.data.toList p.data.toList)]) ∧ w' = w := Any.strings_CutPrefix Tryz.lays103 s p w
def Tryz.lays104_ren : Go.Shelf.Ren := ⟨fun | 104 => 42 | 211 => 73 | 207 => 98 | n => n, fun | 9 => 9 | 4 => 4 | 24 => 73 | 3 => 3 | n => n, fun | n => n⟩
theorem Tryz.lays104 : Go.Proofs.Lays.n104 Tryz.prog Tryz.lays104_ren := {
  mixed := by kernel_rfl
  f104 := Tryz.func42.trans (congrArg some (by kernel_rfl))
  f207 := Tryz.func98.trans (congrArg some (by kernel_rfl))
  f211 := Tryz.func73.trans (congrArg some (by kernel_rfl))
  t3 := Tryz.underlying3
  a3 := Tryz.isAgg3
  z3 := Tryz.sizeOf3
  v3 := Tryz.zeroValue3
  t4 := Tryz.underlying4
  a4 := Tryz.isAgg4
  z4 := Tryz.sizeOf4
  v4 := Tryz.zeroValue4
  t9 := Tryz.underlying9
  a9 := Tryz.isAgg9
  z9 := Tryz.sizeOf9
  v9 := Tryz.zeroValue9
  t24 := Tryz.underlying73
  a24 := Tryz.isAgg73
  z24 := Tryz.sizeOf73
  v24 := Tryz.zeroValue73 }
open Go.RowKit in
theorem Tryz.strings_CutSuffix (s p : ByteArray) (w : World) (hs : s.size ≤ 9223372036854775807) :
    Calls Tryz.prog 42 #[.string s, .string p] w fun e w' => e = .returned (.tuple #[.string ⟨(Lib.trimSuffix s.data.toList p.data.toList).toArray⟩, .bool (Lib.hasSuffix s.data.toList p.data.toList)]) ∧ w' = w := Any.strings_CutSuffix Tryz.lays104 s p w hs
def Tryz.laysM171_ren : Go.Shelf.Ren := ⟨fun | 171 => 128 | 243 => 139 | 246 => 146 | 283 => 150 | 284 => 151 | 285 => 152 | 286 => 153 | 129 => 157 | 317 => 156 | 318 => 158 | 319 => 159 | 320 => 160 | 337 => 161 | 338 => 162 | n => n, fun | 3 => 3 | 9 => 9 | 2 => 2 | 4 => 4 | 171 => 169 | 0 => 0 | 53 => 163 | 37 => 37 | 5 => 5 | 173 => 172 | 212 => 178 | 51 => 142 | 20 => 20 | 213 => 179 | 46 => 135 | 232 => 183 | 233 => 184 | n => n, fun | 17 => 5 | 18 => 6 | 19 => 7 | n => n⟩
theorem Tryz.laysM171 : Go.Proofs.LaysM.n171 Tryz.prog Tryz.laysM171_ren := {
  mixed := by kernel_rfl
  f129 := Tryz.func157.trans (congrArg some (by kernel_rfl))
  f171 := Tryz.func128.trans (congrArg some (by kernel_rfl))
  f243 := Tryz.func139.trans (congrArg some (by kernel_rfl))
  f246 := Tryz.func146.trans (congrArg some (by kernel_rfl))
  f283 := Tryz.func150.trans (congrArg some (by kernel_rfl))
  f284 := Tryz.func151.trans (congrArg some (by kernel_rfl))
  f285 := Tryz.func152.trans (congrArg some (by kernel_rfl))
  f286 := Tryz.func153.trans (congrArg some (by kernel_rfl))
  f317 := Tryz.func156.trans (congrArg some (by kernel_rfl))
  f318 := Tryz.func158.trans (congrArg some (by kernel_rfl))
  f319 := Tryz.func159.trans (congrArg some (by kernel_rfl))
  f320 := Tryz.func160.trans (congrArg some (by kernel_rfl))
  f337 := Tryz.func161.trans (congrArg some (by kernel_rfl))
  f338 := Tryz.func162.trans (congrArg some (by kernel_rfl))
  t0 := Tryz.underlying0
  a0 := Tryz.isAgg0
  z0 := Tryz.sizeOf0
  v0 := Tryz.zeroValue0
  t2 := Tryz.underlying2
  a2 := Tryz.isAgg2
  z2 := Tryz.sizeOf2
  v2 := Tryz.zeroValue2
  t3 := Tryz.underlying3
  a3 := Tryz.isAgg3
  z3 := Tryz.sizeOf3
  v3 := Tryz.zeroValue3
  t4 := Tryz.underlying4
  a4 := Tryz.isAgg4
  z4 := Tryz.sizeOf4
  v4 := Tryz.zeroValue4
  t5 := Tryz.underlying5
  a5 := Tryz.isAgg5
  z5 := Tryz.sizeOf5
  v5 := Tryz.zeroValue5
  t9 := Tryz.underlying9
  a9 := Tryz.isAgg9
  z9 := Tryz.sizeOf9
  v9 := Tryz.zeroValue9
  t20 := Tryz.underlying20
  a20 := Tryz.isAgg20
  z20 := Tryz.sizeOf20
  v20 := Tryz.zeroValue20
  t37 := Tryz.underlying37
  a37 := Tryz.isAgg37
  z37 := Tryz.sizeOf37
  v37 := Tryz.zeroValue37
  t46 := Tryz.underlying135
  a46 := Tryz.isAgg135
  z46 := Tryz.sizeOf135
  v46 := Tryz.zeroValue135
  t51 := Tryz.underlying142
  a51 := Tryz.isAgg142
  z51 := Tryz.sizeOf142
  v51 := Tryz.zeroValue142
  t53 := Tryz.underlying163
  a53 := Tryz.isAgg163
  z53 := Tryz.sizeOf163
  v53 := Tryz.zeroValue163
  t171 := Tryz.underlying169
  a171 := Tryz.isAgg169
  z171 := Tryz.sizeOf169
  v171 := Tryz.zeroValue169
  t173 := Tryz.underlying172
  a173 := Tryz.isAgg172
  z173 := Tryz.sizeOf172
  v173 := Tryz.zeroValue172
  t212 := Tryz.underlying178
  a212 := Tryz.isAgg178
  z212 := Tryz.sizeOf178
  v212 := Tryz.zeroValue178
  t213 := Tryz.underlying179
  a213 := Tryz.isAgg179
  z213 := Tryz.sizeOf179
  t232 := Tryz.underlying183
  a232 := Tryz.isAgg183
  z232 := Tryz.sizeOf183
  v232 := Tryz.zeroValue183
  t233 := Tryz.underlying184
  a233 := Tryz.isAgg184
  z233 := Tryz.sizeOf184
  v233 := Tryz.zeroValue184
  g17 := by kernel_rfl
  g18 := by kernel_rfl
  g19 := by kernel_rfl
  i0 := by kernel_rfl
  i2 := by kernel_rfl
  i3 := by kernel_rfl
  i4 := by kernel_rfl
  i5 := by kernel_rfl
  i9 := by kernel_rfl
  i20 := by kernel_rfl
  i37 := by kernel_rfl
  i46 := by kernel_rfl
  i51 := by kernel_rfl
  i53 := by kernel_rfl
  i171 := by kernel_rfl
  i173 := by kernel_rfl
  i212 := by kernel_rfl
  i232 := by kernel_rfl
  i233 := by kernel_rfl
  m17 := by kernel_rfl
  m18 := by kernel_rfl
  m19 := by kernel_rfl }
open Go.RowKit Go.Sort Go.Lib in
theorem Tryz.strconv_Itoa (n : Int) (h0 : -9223372036854775808 ≤ n) (h1 : n ≤ 9223372036854775807) (w : World) (htab : Lib.TabIs Tryz.prog w "internal/strconv.uint64pow10" .u64 Lib.pow10Tab) :
    Calls Tryz.prog 128 #[.int .i64 n] w fun e w' => e = .returned (.string ⟨(Lib.itoa n).toArray⟩) ∧ ∃ k os, w' = grow (w.drewN k) os := Any.strconv_Itoa Tryz.laysM171 n h0 h1 w htab
def Tryz.lays145_ren : Go.Shelf.Ren := ⟨fun | 145 => 40 | 220 => 71 | 219 => 96 | 217 => 114 | 225 => 115 | 224 => 116 | 267 => 117 | 266 => 130 | 314 => 131 | n => n, fun | 9 => 9 | 4 => 4 | 59 => 71 | 3 => 3 | 5 => 5 | 46 => 135 | 146 => 143 | 51 => 142 | n => n, fun | 1 => 0 | n => n⟩
theorem Tryz.lays145 : Go.Proofs.Lays.n145 Tryz.prog Tryz.lays145_ren := {
  mixed := by kernel_rfl
  f145 := Tryz.func40.trans (congrArg some (by kernel_rfl))
  f217 := Tryz.func114.trans (congrArg some (by kernel_rfl))
  f219 := Tryz.func96.trans (congrArg some (by kernel_rfl))
  f220 := Tryz.func71.trans (congrArg some (by kernel_rfl))
  f224 := Tryz.func116.trans (congrArg some (by kernel_rfl))
  f225 := Tryz.func115.trans (congrArg some (by kernel_rfl))
  f266 := Tryz.func130.trans (congrArg some (by kernel_rfl))
  f267 := Tryz.func117.trans (congrArg some (by kernel_rfl))
  f314 := Tryz.func131.trans (congrArg some (by kernel_rfl))
  t3 := Tryz.underlying3
  a3 := Tryz.isAgg3
  z3 := Tryz.sizeOf3
  v3 := Tryz.zeroValue3
  t4 := Tryz.underlying4
  a4 := Tryz.isAgg4
  z4 := Tryz.sizeOf4
  v4 := Tryz.zeroValue4
  t5 := Tryz.underlying5
  a5 := Tryz.isAgg5
  z5 := Tryz.sizeOf5
  v5 := Tryz.zeroValue5
  t9 := Tryz.underlying9
  a9 := Tryz.isAgg9
  z9 := Tryz.sizeOf9
  v9 := Tryz.zeroValue9
  t46 := Tryz.underlying135
  a46 := Tryz.isAgg135
  z46 := Tryz.sizeOf135
  v46 := Tryz.zeroValue135
  t51 := Tryz.underlying142
  a51 := Tryz.isAgg142
  z51 := Tryz.sizeOf142
  v51 := Tryz.zeroValue142
  t59 := Tryz.underlying71
  a59 := Tryz.isAgg71
  z59 := Tryz.sizeOf71
  v59 := Tryz.zeroValue71
  t146 := Tryz.underlying143
  a146 := Tryz.isAgg143
  z146 := Tryz.sizeOf143
  v146 := Tryz.zeroValue143
  g1 := by kernel_rfl }
open Go.RowKit Go.Lib in
theorem Tryz.strings_Cut (s sep : ByteArray) (m : Int) (w : World) (hs : s.size < 4294967281) (hm : w.cell? ⟨0, 0, none⟩ = some (.int .i64 m)) :
    Calls Tryz.prog 40 #[.string s, .string sep] w fun e w' => e = .returned (.tuple #[.string ⟨(Lib.cut s.data.toList sep.data.toList).1.toArray⟩, .string ⟨(Lib.cut s.data.toList sep.data.toList).2.1.toArray⟩, .bool (Lib.cut s.data.toList sep.data.toList).2.2]) ∧ ∃ n, w' = w.drewN n := Any.strings_Cut Tryz.lays145 s sep m w hs hm
def Tryz.lays146_ren : Go.Shelf.Ren := ⟨fun | 146 => 78 | 221 => 104 | 268 => 121 | 138 => 122 | 143 => 123 | 195 => 134 | 197 => 135 | 218 => 136 | 219 => 96 | 260 => 140 | 217 => 114 | 225 => 115 | 224 => 116 | 267 => 117 | 266 => 130 | 314 => 131 | n => n, fun | 9 => 9 | 31 => 99 | 3 => 3 | 4 => 4 | 0 => 0 | 105 => 149 | 21 => 21 | 5 => 5 | 46 => 135 | 119 => 159 | 139 => 162 | 138 => 161 | 146 => 143 | 51 => 142 | n => n, fun | 1 => 0 | 3 => 1 | 4 => 2 | n => n⟩
theorem Tryz.lays146 : Go.Proofs.Lays.n146 Tryz.prog Tryz.lays146_ren := {
  mixed := by kernel_rfl
  f138 := Tryz.func122.trans (congrArg some (by kernel_rfl))
  f143 := Tryz.func123.trans (congrArg some (by kernel_rfl))
  f146 := Tryz.func78.trans (congrArg some (by kernel_rfl))
  f195 := Tryz.func134.trans (congrArg some (by kernel_rfl))
  f197 := Tryz.func135.trans (congrArg some (by kernel_rfl))
  f217 := Tryz.func114.trans (congrArg some (by kernel_rfl))
  f218 := Tryz.func136.trans (congrArg some (by kernel_rfl))
  f219 := Tryz.func96.trans (congrArg some (by kernel_rfl))
  f221 := Tryz.func104.trans (congrArg some (by kernel_rfl))
  f224 := Tryz.func116.trans (congrArg some (by kernel_rfl))
  f225 := Tryz.func115.trans (congrArg some (by kernel_rfl))
  f260 := Tryz.func140.trans (congrArg some (by kernel_rfl))
  f266 := Tryz.func130.trans (congrArg some (by kernel_rfl))
  f267 := Tryz.func117.trans (congrArg some (by kernel_rfl))
  f268 := Tryz.func121.trans (congrArg some (by kernel_rfl))
  f314 := Tryz.func131.trans (congrArg some (by kernel_rfl))
  t0 := Tryz.underlying0
  a0 := Tryz.isAgg0
  z0 := Tryz.sizeOf0
  v0 := Tryz.zeroValue0
  t3 := Tryz.underlying3
  a3 := Tryz.isAgg3
  z3 := Tryz.sizeOf3
  v3 := Tryz.zeroValue3
  t4 := Tryz.underlying4
  a4 := Tryz.isAgg4
  z4 := Tryz.sizeOf4
  v4 := Tryz.zeroValue4
  t5 := Tryz.underlying5
  a5 := Tryz.isAgg5
  z5 := Tryz.sizeOf5
  v5 := Tryz.zeroValue5
  t9 := Tryz.underlying9
  a9 := Tryz.isAgg9
  z9 := Tryz.sizeOf9
  v9 := Tryz.zeroValue9
  t21 := Tryz.underlying21
  a21 := Tryz.isAgg21
  z21 := Tryz.sizeOf21
  v21 := Tryz.zeroValue21
  t31 := Tryz.underlying99
  a31 := Tryz.isAgg99
  z31 := Tryz.sizeOf99
  v31 := Tryz.zeroValue99
  t46 := Tryz.underlying135
  a46 := Tryz.isAgg135
  z46 := Tryz.sizeOf135
  v46 := Tryz.zeroValue135
  t51 := Tryz.underlying142
  a51 := Tryz.isAgg142
  z51 := Tryz.sizeOf142
  v51 := Tryz.zeroValue142
  t105 := Tryz.underlying149
  a105 := Tryz.isAgg149
  z105 := Tryz.sizeOf149
  v105 := Tryz.zeroValue149
  t119 := Tryz.underlying159
  a119 := Tryz.isAgg159
  z119 := Tryz.sizeOf159
  t138 := Tryz.underlying161
  a138 := Tryz.isAgg161
  z138 := Tryz.sizeOf161
  v138 := Tryz.zeroValue161
  t139 := Tryz.underlying162
  a139 := Tryz.isAgg162
  z139 := Tryz.sizeOf162
  v139 := Tryz.zeroValue162
  t146 := Tryz.underlying143
  a146 := Tryz.isAgg143
  z146 := Tryz.sizeOf143
  v146 := Tryz.zeroValue143
  g1 := by kernel_rfl
  g3 := by kernel_rfl
  g4 := by kernel_rfl }
open Go.RowKit Go.Lib in
theorem Tryz.strings_Split (s sep : ByteArray) (m : Int) (w : World) (hs : s.size < 4294967281) (hm : w.cell? ⟨0, 0, none⟩ = some (.int .i64 m)) (h1 : 1 ≤ sep.size) :
    Calls Tryz.prog 78 #[.string s, .string sep] w fun e w' =>
      e = .returned (.slice (some ⟨w.heap.size, 0, none⟩) (Lib.countB s sep + 1) (Lib.countB s sep + 1)) ∧ w' = w.alloc (.cells ((Lib.splitB sep 0 (Lib.countB s sep) s).map Value.string).toArray 9) := Any.strings_Split Tryz.lays146 (by kernel_rfl) s sep m w hs hm h1
def Tryz.laysM146_ren : Go.Shelf.Ren := ⟨fun | 146 => 78 | 221 => 104 | 268 => 121 | 138 => 122 | 143 => 123 | 195 => 134 | 197 => 135 | 218 => 136 | 219 => 96 | 260 => 140 | 217 => 114 | 225 => 115 | 224 => 116 | 267 => 117 | 266 => 130 | 314 => 131 | n => n, fun | 9 => 9 | 31 => 99 | 3 => 3 | 4 => 4 | 0 => 0 | 105 => 149 | 21 => 21 | 5 => 5 | 46 => 135 | 119 => 159 | 139 => 162 | 138 => 161 | 146 => 143 | 51 => 142 | n => n, fun | 1 => 0 | 3 => 1 | 4 => 2 | n => n⟩
theorem Tryz.laysM146 : Go.Proofs.LaysM.n146 Tryz.prog Tryz.laysM146_ren := {
  mixed := by kernel_rfl
  f138 := Tryz.func122.trans (congrArg some (by kernel_rfl))
  f143 := Tryz.func123.trans (congrArg some (by kernel_rfl))
  f146 := Tryz.func78.trans (congrArg some (by kernel_rfl))
  f195 := Tryz.func134.trans (congrArg some (by kernel_rfl))
  f197 := Tryz.func135.trans (congrArg some (by kernel_rfl))
  f217 := Tryz.func114.trans (congrArg some (by kernel_rfl))
  f218 := Tryz.func136.trans (congrArg some (by kernel_rfl))
  f219 := Tryz.func96.trans (congrArg some (by kernel_rfl))
  f221 := Tryz.func104.trans (congrArg some (by kernel_rfl))
  f224 := Tryz.func116.trans (congrArg some (by kernel_rfl))
  f225 := Tryz.func115.trans (congrArg some (by kernel_rfl))
  f260 := Tryz.func140.trans (congrArg some (by kernel_rfl))
  f266 := Tryz.func130.trans (congrArg some (by kernel_rfl))
  f267 := Tryz.func117.trans (congrArg some (by kernel_rfl))
  f268 := Tryz.func121.trans (congrArg some (by kernel_rfl))
  f314 := Tryz.func131.trans (congrArg some (by kernel_rfl))
  t0 := Tryz.underlying0
  a0 := Tryz.isAgg0
  z0 := Tryz.sizeOf0
  v0 := Tryz.zeroValue0
  t3 := Tryz.underlying3
  a3 := Tryz.isAgg3
  z3 := Tryz.sizeOf3
  v3 := Tryz.zeroValue3
  t4 := Tryz.underlying4
  a4 := Tryz.isAgg4
  z4 := Tryz.sizeOf4
  v4 := Tryz.zeroValue4
  t5 := Tryz.underlying5
  a5 := Tryz.isAgg5
  z5 := Tryz.sizeOf5
  v5 := Tryz.zeroValue5
  t9 := Tryz.underlying9
  a9 := Tryz.isAgg9
  z9 := Tryz.sizeOf9
  v9 := Tryz.zeroValue9
  t21 := Tryz.underlying21
  a21 := Tryz.isAgg21
  z21 := Tryz.sizeOf21
  v21 := Tryz.zeroValue21
  t31 := Tryz.underlying99
  a31 := Tryz.isAgg99
  z31 := Tryz.sizeOf99
  v31 := Tryz.zeroValue99
  t46 := Tryz.underlying135
  a46 := Tryz.isAgg135
  z46 := Tryz.sizeOf135
  v46 := Tryz.zeroValue135
  t51 := Tryz.underlying142
  a51 := Tryz.isAgg142
  z51 := Tryz.sizeOf142
  v51 := Tryz.zeroValue142
  t105 := Tryz.underlying149
  a105 := Tryz.isAgg149
  z105 := Tryz.sizeOf149
  v105 := Tryz.zeroValue149
  t119 := Tryz.underlying159
  a119 := Tryz.isAgg159
  z119 := Tryz.sizeOf159
  t138 := Tryz.underlying161
  a138 := Tryz.isAgg161
  z138 := Tryz.sizeOf161
  v138 := Tryz.zeroValue161
  t139 := Tryz.underlying162
  a139 := Tryz.isAgg162
  z139 := Tryz.sizeOf162
  v139 := Tryz.zeroValue162
  t146 := Tryz.underlying143
  a146 := Tryz.isAgg143
  z146 := Tryz.sizeOf143
  v146 := Tryz.zeroValue143
  g1 := by kernel_rfl
  g3 := by kernel_rfl
  g4 := by kernel_rfl
  i0 := by kernel_rfl
  i3 := by kernel_rfl
  i4 := by kernel_rfl
  i5 := by kernel_rfl
  i9 := by kernel_rfl
  i21 := by kernel_rfl
  i31 := by kernel_rfl
  i46 := by kernel_rfl
  i51 := by kernel_rfl
  i105 := by kernel_rfl
  i138 := by kernel_rfl
  i139 := by kernel_rfl
  i146 := by kernel_rfl
  m1 := by kernel_rfl
  s1_3 := fun w h => Go.Proofs.cell_of_shapedOpen_int (zero := #[.int .i64 0]) (t := 3) h (of_decide_eq_true (by kernel_rfl)) (by kernel_rfl) rfl (by kernel_rfl) (by kernel_rfl) Tryz.underlying3
  m3 := by kernel_rfl
  m4 := by kernel_rfl }
end Go.Proofs

/-
  A library contract as0 a contract of the small language. No condition.
-/


namespace Go.Proofs.YtmhmaokbicgmbaaGreatDoor
namespace A
set_option linter.unusedVariables false
set_option linter.unusedSimpArgs false
open Go.RowKit

/-- A function that leaves what lay below as0 it was. -/
theorem con_below {P : Program} {f : Nat} {args : List AV} {H : List AObj} {c : Nat} {res : AV} {Q : AV → List AObj → Nat → Prop}
    (h : ∀ (G : Gh) (w : World) (vs : Array Value), G.c = c → Inv G H w.heap → vs.size = args.length → (∀ (j : Nat) (a : AV), args[j]? = some a → Rep G w.heap (vs.getD j undef) a) →
      Calls P f vs w fun e w' => ∃ v, e = .returned v ∧ Below w.heap.size w w' ∧ Rep G w.heap v res) (hq : Q res H c) : Con P f args H c Q := by
  intro G w vs hc I hs hr
  subst hc
  refine (h G w vs rfl I hs hr).mono fun e w' ⟨v, he, hb, hv⟩ => ?_
  have hx : Ext1 G w.heap G w'.heap :=
    ⟨Nat.le_refl _, fun _ _ => rfl, fun _ _ x => x, fun t ht hF => hb.block _ (I.fz t hF).2, fun b c e fr hbb => ⟨c, fr, by
      rw [hb.block b (by
        rcases Nat.lt_or_ge b w.heap.size with h1 | h1
        · exact h1
        · rw [Array.getElem?_eq_none h1] at hbb; cases hbb), hbb], rfl⟩⟩
  refine ⟨v, res, H, G, he, hq, ⟨hx, hb.os, hb.tape, hb.output, hb.size, fun b hbl _ => hb.block b hbl, fun t h1 h2 => absurd h2 (by omega), fun _ _ h => h, fun _ _ h => .inl h⟩, ?_, hv.ext hx⟩
  exact ⟨fun t hF => ⟨(I.fz t hF).1, Nat.lt_of_lt_of_le (I.fz t hF).2 hb.size⟩, fun o ho => (I.obj o ho).ext hx (hb.block _ (I.obj o ho).block), I.nfz, I.nodup, I.inj, I.gl.ext hx⟩

end A
end Go.Proofs.YtmhmaokbicgmbaaGreatDoor

/-
  Numbers, written: strconv.Itoa and the reference's FormatInt. No condition.
-/



namespace Go.Proofs.YtmhmaokbicgmbaaGreatDoor
namespace A
set_option linter.unusedVariables false
set_option linter.unusedSimpArgs false
set_option maxRecDepth 100000
open Go.RowKit

theorem nDigits_le : ∀ (k u : Nat), u < 10 ^ (k + 1) → Lib.nDigits u ≤ k + 1
  | 0, u, h => by rw [Lib.nDigits_small (by simpa using h)]; omega
  | k + 1, u, h => by
    by_cases h1 : u < 10
    · rw [Lib.nDigits_small h1]; omega
    · rw [Lib.nDigits_big h1]
      have := nDigits_le k (u / 10) (by rw [Nat.pow_succ] at h; omega)
      omega
theorem decDigits_len {u : Nat} (h : u < 9223372036854775808) : (Lib.decDigits u).length ≤ 19 := by
  rw [Lib.decDigits_length]
  exact nDigits_le 18 u (by omega)
theorem pow_tab {G : Gh} {H : List AObj} {w : World} (I : Inv G H w.heap) : Lib.TabIs Tryz.prog w "internal/strconv.uint64pow10" .u64 Lib.pow10Tab := by
  obtain ⟨_, _, hm, hg⟩ := I.gl 5 (by decide)
  obtain ⟨t, fr, ho⟩ := gl_pow hg
  unfold Lib.TabIs World.var?
  rw [show Tryz.prog.globalNamed "internal/strconv.uint64pow10" = some 5 by kernel_rfl]
  simp only [Option.bind_some, ho]
theorem itoa_fn {n : Int} (h0 : 0 ≤ n) (h1 : n ≤ 9223372036854775807) : Fnc Tryz.prog 128 [.int .i64 n] (.str (Lib.decDigits n.toNat)) := by
  intro c
  refine con_below (res := .str (Lib.decDigits n.toNat)) (fun G w vs hc I hs hr => ?_) ⟨rfl, rfl⟩
  obtain ⟨v0, rfl⟩ : ∃ v0, vs = #[v0] := by
    match vs, hs with
    | ⟨[a]⟩, _ => exact ⟨a, rfl⟩
  have h2 := hr 0 _ rfl
  simp at h2
  cases h2
  have e : Lib.itoa n = Lib.decDigits n.toNat := by unfold Lib.itoa; rw [if_neg (by omega)]
  have hl := decDigits_len (u := n.toNat) (by omega)
  have key := Tryz.strconv_Itoa n (by omega) h1 w (pow_tab I)
  rw [e] at key
  refine key.mono fun e w' ⟨h1, k, os, h2⟩ => ⟨_, h1, ?_, .str (by simp) (by unfold mx; omega)⟩
  subst h2
  refine ⟨rfl, rfl, rfl, ?_, fun j hj => ?_⟩
  · show w.heap.size ≤ (w.heap ++ os).size
    simp
  · show (w.heap ++ os)[j]? = w.heap[j]?
    exact Array.getElem?_append_left hj
theorem specFmt_fn {n : Nat} (h1 : n ≤ 9223372036854775807) : Fnc Tryz.prog 111 [.int .i64 n] (.str (Lib.decDigits n)) := by
  refine fn_of c111 (by simp [F111]) fun c => ?_
  unfold F111
  by_cases hn : n = 0
  · subst hn
    simp
    exact fin_plain ⟨by rw [Lib.decDigits_one (by omega)]; rfl, rfl⟩
  have hn' : ¬ (n : Int) = 0 := by omega
  have hlt : ¬ (n : Int) < 0 := by omega
  simp [hn]
  refine loop_drop 19 (fun i e H c' => ∃ (x : Nat) (s : List UInt8), e 0 = .int .i64 n ∧ e 4 = .int .i64 x ∧ e 3 = .str s ∧ s.length = i ∧ x * 10 ^ i ≤ n ∧ (if x = 0 then s else Lib.decDigits x ++ s) = Lib.decDigits n ∧ H = []) ?_ ?_
  · exact ⟨n, [], rfl, rfl, rfl, rfl, by simp, by simp [hn], rfl⟩
  intro i e H c hi ⟨x, s, e0, e4, e3, hl, hx, hd, hH⟩ N hN
  subst hH
  by_cases h : x = 0
  · subst h
    simp at hd
    subst hd
    simp [e0, e3, e4, hlt]
    exact fin_plain ⟨rfl, rfl⟩
  rw [if_neg h] at hd
  have hi' : i < 19 := by
    rcases Nat.lt_or_ge i 19 with h1 | h1
    · exact h1
    · have : i = 19 := by omega
      subst this
      omega
  have hx' : ¬ (x : Int) = 0 := by omega
  have hxn : x ≤ n := Nat.le_trans (Nat.le_mul_of_pos_right x (Nat.pos_of_ne_zero (by simp))) hx
  have h10 : ((x : Int)).tmod 10 = ((x % 10 : Nat) : Int) := by rw [Int.tmod_eq_emod_of_nonneg (by omega)]; omega
  have hq : ((x : Int)).tdiv 10 = ((x / 10 : Nat) : Int) := by rw [Int.tdiv_eq_ediv_of_nonneg (by omega)]; omega
  have hneg : ¬ ((x % 10 : Nat) : Int) < 0 := by omega
  have h48 : (48 : Int) + ((x % 10 : Nat) : Int) = ((48 + x % 10 : Nat) : Int) := by omega
  have hw : IntKind.u8.wrap (IntKind.i64.wrap (48 + ((x % 10 : Nat) : Int))) = ((UInt8.ofNat (48 + x % 10)).toNat : Int) := by rw [h48]; exact wrap_u8 (by omega)
  simp [e0, e3, e4, h, h10, hneg, -Int.natCast_emod]
  refine toStrW_ref (l := [UInt8.ofNat (48 + x % 10)]) (by rw [hw]; rfl) rfl (by simp [mx]) ?_
  have hm1 : 1 + s.length ≤ mx := by unfold mx; omega
  have hq' : IntKind.i64.wrap ((x / 10 : Nat) : Int) = ((x / 10 : Nat) : Int) := wrap64 (by omega) (by omega)
  simp [e0, e3, e4, hm1, hq, hq', -Int.natCast_ediv]
  refine hN _ _ [] _ hi' (by simp) ⟨x / 10, UInt8.ofNat (48 + x % 10) :: s, by simp [upd, e0], by simp [upd], by simp [upd], by simp [hl], ?_, ?_, rfl⟩
  · refine Nat.le_trans ?_ hx
    rw [Nat.pow_succ, Nat.mul_comm (10 ^ i) 10, ← Nat.mul_assoc]
    exact Nat.mul_le_mul_right _ (Nat.div_mul_le_self x 10)
  · have hdx : Lib.decDigits x = if h : x < 10 then [UInt8.ofNat (48 + x)] else Lib.decDigits (x / 10) ++ [UInt8.ofNat (48 + x % 10)] := by rw [Lib.decDigits]
    rw [← hd, hdx]
    by_cases h9 : x < 10
    · have : x / 10 = 0 := by omega
      rw [dif_pos h9, if_pos this, Nat.mod_eq_of_lt h9]; rfl
    · rw [dif_neg h9, if_neg (by omega)]; simp
end A
end Go.Proofs.YtmhmaokbicgmbaaGreatDoor

/-
  Library contracts at this program, laid by the kit's tool (lay-shelf, lay-plain). No condition.
-/



namespace Go.Proofs
open Go.Shelf
def Tryz.laysC172_ren : Go.Shelf.Ren := ⟨fun | 172 => 127 | 244 => 137 | 245 => 138 | 247 => 141 | 279 => 142 | 280 => 143 | 281 => 144 | 282 => 145 | 287 => 147 | 316 => 148 | 171 => 128 | 205 => 149 | 321 => 154 | 322 => 155 | 243 => 139 | 246 => 146 | 283 => 150 | 284 => 151 | 285 => 152 | 286 => 153 | 129 => 157 | 317 => 156 | 318 => 158 | 319 => 159 | 320 => 160 | 337 => 161 | 338 => 162 | n => n, fun | 9 => 9 | 3 => 3 | 75 => 122 | 76 => 123 | 4 => 4 | 5 => 5 | 167 => 152 | 37 => 37 | 0 => 0 | 85 => 153 | 2 => 2 | 168 => 155 | 53 => 163 | 175 => 164 | 46 => 135 | 210 => 167 | 127 => 138 | 145 => 176 | 143 => 174 | 21 => 21 | 171 => 169 | 173 => 172 | 212 => 178 | 51 => 142 | 20 => 20 | 213 => 179 | 232 => 183 | 233 => 184 | 80 => 125 | n => n, fun | 15 => 3 | 16 => 4 | 17 => 5 | 18 => 6 | 19 => 7 | n => n⟩
theorem Tryz.laysC172 : Go.Proofs.LaysC.n172 Tryz.prog Tryz.laysC172_ren := {
  mixed := by kernel_rfl
  f129 := Tryz.func157.trans (congrArg some (by kernel_rfl))
  f171 := Tryz.func128.trans (congrArg some (by kernel_rfl))
  f172 := Tryz.func127.trans (congrArg some (by kernel_rfl))
  f205 := Tryz.func149.trans (congrArg some (by kernel_rfl))
  f243 := Tryz.func139.trans (congrArg some (by kernel_rfl))
  f244 := Tryz.func137.trans (congrArg some (by kernel_rfl))
  f245 := Tryz.func138.trans (congrArg some (by kernel_rfl))
  f246 := Tryz.func146.trans (congrArg some (by kernel_rfl))
  f247 := Tryz.func141.trans (congrArg some (by kernel_rfl))
  f279 := Tryz.func142.trans (congrArg some (by kernel_rfl))
  f280 := Tryz.func143.trans (congrArg some (by kernel_rfl))
  f281 := Tryz.func144.trans (congrArg some (by kernel_rfl))
  f282 := Tryz.func145.trans (congrArg some (by kernel_rfl))
  f283 := Tryz.func150.trans (congrArg some (by kernel_rfl))
  f284 := Tryz.func151.trans (congrArg some (by kernel_rfl))
  f285 := Tryz.func152.trans (congrArg some (by kernel_rfl))
  f286 := Tryz.func153.trans (congrArg some (by kernel_rfl))
  f287 := Tryz.func147.trans (congrArg some (by kernel_rfl))
  f316 := Tryz.func148.trans (congrArg some (by kernel_rfl))
  f317 := Tryz.func156.trans (congrArg some (by kernel_rfl))
  f318 := Tryz.func158.trans (congrArg some (by kernel_rfl))
  f319 := Tryz.func159.trans (congrArg some (by kernel_rfl))
  f320 := Tryz.func160.trans (congrArg some (by kernel_rfl))
  f321 := Tryz.func154.trans (congrArg some (by kernel_rfl))
  f322 := Tryz.func155.trans (congrArg some (by kernel_rfl))
  f337 := Tryz.func161.trans (congrArg some (by kernel_rfl))
  f338 := Tryz.func162.trans (congrArg some (by kernel_rfl))
  t0 := Tryz.underlying0
  a0 := Tryz.isAgg0
  z0 := Tryz.sizeOf0
  v0 := Tryz.zeroValue0
  t2 := Tryz.underlying2
  a2 := Tryz.isAgg2
  z2 := Tryz.sizeOf2
  v2 := Tryz.zeroValue2
  t3 := Tryz.underlying3
  a3 := Tryz.isAgg3
  z3 := Tryz.sizeOf3
  v3 := Tryz.zeroValue3
  t4 := Tryz.underlying4
  a4 := Tryz.isAgg4
  z4 := Tryz.sizeOf4
  v4 := Tryz.zeroValue4
  t5 := Tryz.underlying5
  a5 := Tryz.isAgg5
  z5 := Tryz.sizeOf5
  v5 := Tryz.zeroValue5
  t9 := Tryz.underlying9
  a9 := Tryz.isAgg9
  z9 := Tryz.sizeOf9
  v9 := Tryz.zeroValue9
  t20 := Tryz.underlying20
  a20 := Tryz.isAgg20
  z20 := Tryz.sizeOf20
  v20 := Tryz.zeroValue20
  t21 := Tryz.underlying21
  a21 := Tryz.isAgg21
  z21 := Tryz.sizeOf21
  v21 := Tryz.zeroValue21
  t37 := Tryz.underlying37
  a37 := Tryz.isAgg37
  z37 := Tryz.sizeOf37
  v37 := Tryz.zeroValue37
  t46 := Tryz.underlying135
  a46 := Tryz.isAgg135
  z46 := Tryz.sizeOf135
  v46 := Tryz.zeroValue135
  t51 := Tryz.underlying142
  a51 := Tryz.isAgg142
  z51 := Tryz.sizeOf142
  v51 := Tryz.zeroValue142
  t53 := Tryz.underlying163
  a53 := Tryz.isAgg163
  z53 := Tryz.sizeOf163
  v53 := Tryz.zeroValue163
  t75 := Tryz.underlying122
  a75 := Tryz.isAgg122
  z75 := Tryz.sizeOf122
  v75 := Tryz.zeroValue122
  t76 := Tryz.underlying123
  a76 := Tryz.isAgg123
  z76 := Tryz.sizeOf123
  v76 := Tryz.zeroValue123
  t85 := Tryz.underlying153
  a85 := Tryz.isAgg153
  z85 := Tryz.sizeOf153
  v85 := Tryz.zeroValue153
  t127 := Tryz.underlying138
  a127 := Tryz.isAgg138
  z127 := Tryz.sizeOf138
  v127 := Tryz.zeroValue138
  t143 := Tryz.underlying174
  a143 := Tryz.isAgg174
  z143 := Tryz.sizeOf174
  v143 := Tryz.zeroValue174
  t145 := Tryz.underlying176
  a145 := Tryz.isAgg176
  z145 := Tryz.sizeOf176
  v145 := Tryz.zeroValue176
  t167 := Tryz.underlying152
  a167 := Tryz.isAgg152
  z167 := Tryz.sizeOf152
  v167 := Tryz.zeroValue152
  t168 := Tryz.underlying155
  a168 := Tryz.isAgg155
  z168 := Tryz.sizeOf155
  v168 := Tryz.zeroValue155
  t171 := Tryz.underlying169
  a171 := Tryz.isAgg169
  z171 := Tryz.sizeOf169
  v171 := Tryz.zeroValue169
  t173 := Tryz.underlying172
  a173 := Tryz.isAgg172
  z173 := Tryz.sizeOf172
  v173 := Tryz.zeroValue172
  t175 := Tryz.underlying164
  a175 := Tryz.isAgg164
  z175 := Tryz.sizeOf164
  v175 := Tryz.zeroValue164
  t210 := Tryz.underlying167
  a210 := Tryz.isAgg167
  z210 := Tryz.sizeOf167
  v210 := Tryz.zeroValue167
  t212 := Tryz.underlying178
  a212 := Tryz.isAgg178
  z212 := Tryz.sizeOf178
  v212 := Tryz.zeroValue178
  t213 := Tryz.underlying179
  a213 := Tryz.isAgg179
  z213 := Tryz.sizeOf179
  t232 := Tryz.underlying183
  a232 := Tryz.isAgg183
  z232 := Tryz.sizeOf183
  v232 := Tryz.zeroValue183
  t233 := Tryz.underlying184
  a233 := Tryz.isAgg184
  z233 := Tryz.sizeOf184
  v233 := Tryz.zeroValue184
  g15 := by kernel_rfl
  g16 := by kernel_rfl
  g17 := by kernel_rfl
  g18 := by kernel_rfl
  g19 := by kernel_rfl
  t80 := Tryz.underlying125
  a80 := Tryz.isAgg125
  z80 := Tryz.sizeOf125
  v80 := Tryz.zeroValue125
  i0 := by kernel_rfl
  i2 := by kernel_rfl
  i3 := by kernel_rfl
  i4 := by kernel_rfl
  i5 := by kernel_rfl
  i9 := by kernel_rfl
  i20 := by kernel_rfl
  i21 := by kernel_rfl
  i37 := by kernel_rfl
  i46 := by kernel_rfl
  i51 := by kernel_rfl
  i53 := by kernel_rfl
  i75 := by kernel_rfl
  i76 := by kernel_rfl
  i80 := by kernel_rfl
  i85 := by kernel_rfl
  i127 := by kernel_rfl
  i143 := by kernel_rfl
  i145 := by kernel_rfl
  i167 := by kernel_rfl
  i168 := by kernel_rfl
  i171 := by kernel_rfl
  i173 := by kernel_rfl
  i175 := by kernel_rfl
  i210 := by kernel_rfl
  i212 := by kernel_rfl
  i232 := by kernel_rfl
  i233 := by kernel_rfl
  m15 := by kernel_rfl
  m16 := by kernel_rfl
  m17 := by kernel_rfl
  m18 := by kernel_rfl
  m19 := by kernel_rfl
  c0 := by kernel_rfl
  c2 := by kernel_rfl
  c3 := by kernel_rfl
  c4 := by kernel_rfl
  c5 := by kernel_rfl
  c9 := by kernel_rfl
  c20 := by kernel_rfl
  c21 := by kernel_rfl
  c37 := by kernel_rfl
  c46 := by kernel_rfl
  c51 := by kernel_rfl
  c53 := by kernel_rfl
  c75 := by kernel_rfl
  c76 := by kernel_rfl
  c80 := by kernel_rfl
  c85 := by kernel_rfl
  c127 := by kernel_rfl
  c143 := by kernel_rfl
  c145 := by kernel_rfl
  c167 := by kernel_rfl
  c168 := by kernel_rfl
  c171 := by kernel_rfl
  c173 := by kernel_rfl
  c175 := by kernel_rfl
  c210 := by kernel_rfl
  c212 := by kernel_rfl
  c213 := by kernel_rfl
  c232 := by kernel_rfl
  c233 := by kernel_rfl }
open Go.RowKit in
theorem Tryz.strconv_Atoi_ok (s : ByteArray) (hmax : s.size ≤ 9223372036854775806) (v : Int) (h : Lib.atoiAll s.data.toList = .ok v) (w : World) :
    Calls Tryz.prog 127 #[.string s] w fun e w' => e = .returned (.tuple #[.int .i64 v, .nilIface]) ∧ (w' = w ∨ ∃ t, w' = Lib.bytesWorld w 5 t) := Any.strconv_Atoi_ok Tryz.laysC172 s hmax v h w
open Go.RowKit in
theorem Tryz.strconv_Atoi_syntax (s : ByteArray) (hlim : s.size ≤ 281474976710656) (h1 : ∀ v, Lib.atoiAll s.data.toList ≠ .ok v) (h2 : Lib.atoiAll s.data.toList ≠ .range) (ev : Value) (w : World) (hv : w.cell? ⟨3, 0, none⟩ = some ev) (hev : ev = .nilIface ∨ ∃ te pe, ev = .iface te pe) :
    Calls Tryz.prog 127 #[.string s] w fun e w' => ∃ N, e = .returned (.tuple #[.int .i64 (0), .iface 155 (.pointer (some ⟨N, 0, none⟩))]) ∧ w.heap.size ≤ N ∧ w'.heap[N]? = some (.cells #[.string ⟨#[65, 116, 111, 105]⟩, .string s, ev] 167 (0, 0)) ∧ Below w.heap.size w w' :=
  Any.strconv_Atoi_syntax Tryz.laysC172 s hlim (by
    cases hh : Lib.atoiAll s.data.toList with
    | ok v => exact absurd hh (h1 v)
    | range => exact absurd hh h2
    | _ => rfl) ev w hv hev
open Go.RowKit in
theorem Tryz.strconv_Atoi_range (s : ByteArray) (hlim : s.size ≤ 281474976710656) (h : Lib.atoiAll s.data.toList = .range) (ev : Value) (w : World) (hv : w.cell? ⟨4, 0, none⟩ = some ev) (hev : ev = .nilIface ∨ ∃ te pe, ev = .iface te pe) :
    Calls Tryz.prog 127 #[.string s] w fun e w' => ∃ N, e = .returned (.tuple #[.int .i64 (Lib.atoiSat s.data.toList), .iface 155 (.pointer (some ⟨N, 0, none⟩))]) ∧ w.heap.size ≤ N ∧ w'.heap[N]? = some (.cells #[.string ⟨#[65, 116, 111, 105]⟩, .string s, ev] 167 (0, 0)) ∧ Below w.heap.size w w' := Any.strconv_Atoi_range Tryz.laysC172 s hlim h ev w hv hev
end Go.Proofs
