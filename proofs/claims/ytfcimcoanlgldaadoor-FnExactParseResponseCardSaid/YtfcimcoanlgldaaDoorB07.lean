import Derived.Lib.Split
import Derived.Test.YtfcimcoanlgldaaDoorB06

/-
  The families of helpers over slices (sizes, copies, comparisons): each once, for every element. No condition.
-/

namespace Go.Proofs.YtfcimcoanlgldaaDoor
namespace A
set_option linter.unusedVariables false
set_option linter.unusedSimpArgs false

/-- rows made so far, and the blank ones -/
def grow {α : Type} (f : α → List AV) (z : List AV) (n : Nat) (ys : List α) : List (List AV) := ys.map f ++ List.replicate (n - ys.length) z
theorem grow_nil {α : Type} (f : α → List AV) (z : List AV) (n : Nat) : grow f z n [] = List.replicate n z := by simp [grow]
theorem grow_all {α : Type} (f : α → List AV) (z : List AV) {n : Nat} {ys : List α} (h : ys.length = n) : grow f z n ys = ys.map f := by simp [grow, h]
theorem grow_len {α : Type} (f : α → List AV) (z : List AV) {n : Nat} {ys : List α} (h : ys.length ≤ n) : (grow f z n ys).length = n := by simp [grow]; omega
theorem grow_get {α : Type} (f : α → List AV) (z : List AV) {n i : Nat} {ys : List α} (hi : ys.length = i) (h : i < n) : (grow f z n ys)[i]? = some z := by
  unfold grow
  rw [List.getElem?_append_right (by simp; omega), List.length_map, hi, Nat.sub_self, List.getElem?_replicate, if_pos (by omega)]
theorem grow_set {α : Type} (f : α → List AV) (z : List AV) {n i : Nat} {ys : List α} (hi : ys.length = i) (h : i < n) (y : α) : (grow f z n ys).set i (f y) = grow f z n (ys ++ [y]) := by
  unfold grow
  have e : n - ys.length = (n - (i + 1)) + 1 := by omega
  rw [e, List.replicate_succ, List.set_append_right _ _ (by simp; omega), List.length_map, hi, Nat.sub_self, List.set_cons_zero]
  simp [hi]

theorem from_agg_mem {c : Nat} {l : List AV} (h : From c (.agg l)) : ∀ a, a ∈ l → From c a := fun a ha T hT => by
  have := h T hT
  cases this with
  | agg h => obtain ⟨j, hj, e⟩ := List.mem_iff_getElem.1 ha; exact h j a (by rw [← e]; exact List.getElem?_eq_getElem hj)

theorem take_len {α : Type} (l : List α) {w : Nat} (h : l.length = w) : l.take w = l := by rw [List.take_of_length_le (by omega)]
/-- A copy of a slice, element by element, by a function. -/
def toSF (w : Nat) (z : List AV) (bytes g : Nat) : Fun := ⟨23,
  .seq (.reg [o 2 (.mv (.c .nsl))])
  (.seq (.reg [o 5 (.mv (.t 0)), o 6 (.lenL (.t 5)), o 7 (.mkslice w z bytes (.t 6) (.t 6)), o 3 (.mv (.t 7))])
  (.seq (.seq (.reg [o 4 (.mv (.c (.int .i64 0)))])
  (.block 0 (.loop (.seq (.seq (.reg [o 8 (.mv (.t 4)), o 9 (.mv (.t 0)), o 10 (.lenL (.t 9)), o 11 (.bin .lss (.t 8) (.t 10))])
    (.cond (.t 11) (.skip) (.exit 0)))
    (.seq (.block 1 (.reg [o 14 (.mv (.t 3)), o 15 (.mv (.t 4)), o 16 (.mv (.t 0)), o 17 (.mv (.t 4)), o 18 (.iaddr w (.t 16) (.t 17)), o 19 (.load (some w) (.t 18)), o 20 (.call g [(.t 19)]), o 21 (.iaddr w (.t 14) (.t 15)), st (.store w (.t 21) (.t 20))]))
    (.reg [o 12 (.mv (.t 4)), o 13 (.bin .add (.t 12) (.c (.int .i64 1))), o 4 (.mv (.t 13))]))))))
  (.seq (.reg [o 22 (.mv (.t 3)), o 2 (.mv (.t 22))])
  (.ret)))),
  [.tmp 2]⟩

/-- The same, of plain elements. -/
def toPF (z : AV) (bytes : Nat) : Fun := ⟨22,
  .seq (.reg [o 2 (.mv (.c .nsl))])
  (.seq (.reg [o 5 (.mv (.t 0)), o 6 (.lenL (.t 5)), o 7 (.mkslice 1 [z] bytes (.t 6) (.t 6)), o 3 (.mv (.t 7))])
  (.seq (.seq (.reg [o 4 (.mv (.c (.int .i64 0)))])
  (.block 0 (.loop (.seq (.seq (.reg [o 8 (.mv (.t 4)), o 9 (.mv (.t 0)), o 10 (.lenL (.t 9)), o 11 (.bin .lss (.t 8) (.t 10))])
    (.cond (.t 11) (.skip) (.exit 0)))
    (.seq (.block 1 (.reg [o 14 (.mv (.t 3)), o 15 (.mv (.t 4)), o 16 (.mv (.t 0)), o 17 (.mv (.t 4)), o 18 (.iaddr 1 (.t 16) (.t 17)), o 19 (.load none (.t 18)), o 20 (.iaddr 1 (.t 14) (.t 15)), st (.store 1 (.t 20) (.t 19))]))
    (.reg [o 12 (.mv (.t 4)), o 13 (.bin .add (.t 12) (.c (.int .i64 1))), o 4 (.mv (.t 13))]))))))
  (.seq (.reg [o 21 (.mv (.t 3)), o 2 (.mv (.t 21))])
  (.ret)))),
  [.tmp 2]⟩

/-- A slice's size: its elements' and their number. -/
def szSF (w g : Nat) : Fun := ⟨27,
  .seq (.reg [o 4 (.mv (.c (.int .i64 0)))])
  (.seq (.reg [o 6 (.mv (.t 1)), o 7 (.mv (.t 0)), o 8 (.lenL (.t 7)), o 9 (.bin .sub (.t 6) (.t 8)), o 1 (.mv (.t 9))])
  (.seq (.seq (.reg [o 10 (.mv (.t 1)), o 11 (.bin .lss (.t 10) (.c (.int .i64 0)))])
  (.cond (.t 11) (.seq (.reg [o 4 (.mv (.c (.int .i64 (-1))))])
   (.ret)) (.skip)))
  (.seq (.seq (.reg [o 5 (.mv (.c (.int .i64 0)))])
  (.block 0 (.loop (.seq (.seq (.reg [o 12 (.mv (.t 5)), o 13 (.mv (.t 0)), o 14 (.lenL (.t 13)), o 15 (.bin .lss (.t 12) (.t 14))])
    (.cond (.t 15) (.skip) (.exit 0)))
    (.seq (.block 1 (.seq (.reg [o 18 (.mv (.t 0)), o 19 (.mv (.t 5)), o 20 (.iaddr w (.t 18) (.t 19)), o 21 (.load (some w) (.t 20)), o 22 (.mv (.t 1)), o 23 (.call g [(.t 21), (.t 22)]), o 1 (.mv (.t 23))])
     (.seq (.reg [o 24 (.mv (.t 1)), o 25 (.bin .lss (.t 24) (.c (.int .i64 0)))])
     (.cond (.t 25) (.seq (.reg [o 4 (.mv (.c (.int .i64 (-1))))])
      (.ret)) (.skip)))))
    (.reg [o 16 (.mv (.t 5)), o 17 (.bin .add (.t 16) (.c (.int .i64 1))), o 5 (.mv (.t 17))]))))))
  (.seq (.reg [o 26 (.mv (.t 1)), o 4 (.mv (.t 26))])
  (.ret))))),
  [.tmp 4]⟩

/-- Two slices, compared by a function. -/
def eqSF (w g : Nat) : Fun := ⟨27,
  .seq (.reg [o 4 (.mv (.c (.bool false)))])
  (.seq (.seq (.reg [o 6 (.mv (.t 0)), o 7 (.lenL (.t 6)), o 8 (.mv (.t 1)), o 9 (.lenL (.t 8)), o 10 (.bin .neq (.t 7) (.t 9))])
  (.cond (.t 10) (.seq (.reg [o 4 (.mv (.c (.bool false)))])
   (.ret)) (.skip)))
  (.seq (.seq (.reg [o 5 (.mv (.c (.int .i64 0)))])
  (.block 0 (.loop (.seq (.seq (.reg [o 11 (.mv (.t 5)), o 12 (.mv (.t 0)), o 13 (.lenL (.t 12)), o 14 (.bin .lss (.t 11) (.t 13))])
    (.cond (.t 14) (.skip) (.exit 0)))
    (.seq (.block 1 (.seq (.reg [o 17 (.mv (.t 0)), o 18 (.mv (.t 5)), o 19 (.iaddr w (.t 17) (.t 18)), o 20 (.load (some w) (.t 19)), o 21 (.mv (.t 1)), o 22 (.mv (.t 5)), o 23 (.iaddr w (.t 21) (.t 22)), o 24 (.load (some w) (.t 23)), o 25 (.callF g [(.t 20), (.t 24)]), o 26 (.un .not (.t 25))])
     (.cond (.t 26) (.seq (.reg [o 4 (.mv (.c (.bool false)))])
      (.ret)) (.skip))))
    (.reg [o 15 (.mv (.t 5)), o 16 (.bin .add (.t 15) (.c (.int .i64 1))), o 5 (.mv (.t 16))]))))))
  (.seq (.reg [o 4 (.mv (.c (.bool true)))])
  (.ret)))),
  [.tmp 4]⟩

def eqPF : Fun := ⟨26,
  .seq (.reg [o 4 (.mv (.c (.bool false)))])
  (.seq (.seq (.reg [o 6 (.mv (.t 0)), o 7 (.lenL (.t 6)), o 8 (.mv (.t 1)), o 9 (.lenL (.t 8)), o 10 (.bin .neq (.t 7) (.t 9))])
  (.cond (.t 10) (.seq (.reg [o 4 (.mv (.c (.bool false)))])
   (.ret)) (.skip)))
  (.seq (.seq (.reg [o 5 (.mv (.c (.int .i64 0)))])
  (.block 0 (.loop (.seq (.seq (.reg [o 11 (.mv (.t 5)), o 12 (.mv (.t 0)), o 13 (.lenL (.t 12)), o 14 (.bin .lss (.t 11) (.t 13))])
    (.cond (.t 14) (.skip) (.exit 0)))
    (.seq (.block 1 (.seq (.reg [o 17 (.mv (.t 0)), o 18 (.mv (.t 5)), o 19 (.iaddr 1 (.t 17) (.t 18)), o 20 (.load none (.t 19)), o 21 (.mv (.t 1)), o 22 (.mv (.t 5)), o 23 (.iaddr 1 (.t 21) (.t 22)), o 24 (.load none (.t 23)), o 25 (.bin .neq (.t 20) (.t 24))])
     (.cond (.t 25) (.seq (.reg [o 4 (.mv (.c (.bool false)))])
      (.ret)) (.skip))))
    (.reg [o 15 (.mv (.t 5)), o 16 (.bin .add (.t 15) (.c (.int .i64 1))), o 5 (.mv (.t 16))]))))))
  (.seq (.reg [o 4 (.mv (.c (.bool true)))])
  (.ret)))),
  [.tmp 4]⟩

section
variable {P : Program} {α : Type} {enc : α → List AV} {con : α → α} {w : Nat} {f g : Nat}

theorem toS_fn {z : List AV} {bytes : Nat} (hf : compF P f = some (toSF w z bytes g)) (hz : z.length = w) (hw : ∀ x, (enc x).length = w) (hcell : ∀ x a, a ∈ enc x → a.cell = true) {s : SL α} (hn : s.list.length * bytes ≤ 281474976710656) (hn' : s.list.length ≤ 281474976710656)
    (hg : ∀ x, x ∈ s.list → Tr P g [.agg (enc x)] fun _ r => ∃ b, r = .agg (enc b) ∧ con b = con x) :
    Tr P f [s.av w enc] fun _ r => ∃ b : SL α, r = b.av w enc ∧ b.list.map con = s.list.map con := by
  intro c
  refine con_of hf (by simp [toSF]) ?_
  unfold toSF
  simp
  refine ⟨by omega, by omega, loop_nat s.list.length (fun i e H c' => c ≤ c' ∧ e 0 = s.av w enc ∧ e 3 = .ref 0 c w s.list.length ∧ e 4 = .int .i64 i ∧ ∃ ys : List α, ys.length = i ∧ ys.map con = (s.list.take i).map con ∧ (∀ y ∈ ys, From c (.agg (enc y))) ∧ H = [⟨false, c, w, grow enc z s.list.length ys⟩])
    ⟨by omega, rfl, rfl, rfl, [], rfl, rfl, by simp, by rw [grow_nil]⟩ ?_⟩
  intro i e H c' hi ⟨hc, e0, e3, e4, ys, hy, hcon, hfr, hH⟩ N hN
  subst hH
  simp [e0, e3, e4]
  refine ⟨fun h => ⟨s.list[i], List.getElem?_eq_getElem h, ?_⟩, fun h => ?_⟩
  · simp [hw, take_len, e0, e3, e4]
    refine call_tree0 (hg _ (List.getElem_mem h)) fun r c'' hc' ⟨b, hr, hb⟩ hf => ?_
    subst hr
    simp [h, hw, e0, e3, e4]
    refine ⟨_, grow_get _ _ hy h, hN _ _ _ h ⟨by omega, by simp [upd, e0], by simp [upd, e3], by simp [upd]; exact step64 (by unfold mx; omega) h, ys ++ [b], by simp [hy], ?_, ?_, ?_⟩⟩
    · rw [List.take_succ_eq_append_getElem h, List.map_append, List.map_append, hcon]; simp [hb]
    · intro y hym
      rcases List.mem_append.1 hym with h1 | h1
      · exact hfr y h1
      · simp at h1; subst h1; exact hf.mono hc
    · rw [putA_all (by rw [hw, hz]), grow_set _ _ hy h]
  · have : i = s.list.length := by omega
    subst this
    rw [grow_all _ _ hy]
    refine fin_slc (by simp) (by simpa using hy) (by simp; exact fun x _ a ha => hcell x a ha) ⟨rfl, ⟨.mk c ys, rfl, by simpa using hcon⟩, from_slc (Nat.le_refl _) ?_⟩
    simp [e0, e3, e4]
    exact fun y hym a ha => from_agg_mem (hfr y hym) a ha

theorem szS_fn (hf : compF P f = some (szSF w g)) (hw : ∀ x, (enc x).length = w) {sz : α → Nat} {s : SL α} (hn : s.list.length ≤ mx) {left : Int} (hl : Room left)
    (hg : ∀ x, x ∈ s.list → ∀ left, Room left → Fnc P g [.agg (enc x), .int .i64 left] (.int .i64 (szOf (sz x) left))) :
    Fnc P f [s.av w enc, .int .i64 left] (.int .i64 (szOf (s.list.length + szL sz s.list) left)) := by
  refine fn_of hf (by simp [szSF]) fun c => ?_
  unfold szSF
  simp [szOf_wrap hn hl]
  constructor
  · intro h; exact fin_plain (by simp; unfold szOf; split <;> omega)
  · intro h
    refine loop_nat s.list.length (fun i e H c => e 0 = s.av w enc ∧ e 5 = .int .i64 i ∧ e 1 = .int .i64 (left - s.list.length - szL sz (s.list.take i)) ∧ 0 ≤ left - s.list.length - szL sz (s.list.take i) ∧ H = []) ⟨rfl, rfl, by simp [szL], by simpa [szL] using h, rfl⟩ ?_
    intro i e H c hi ⟨e0, e5, e1, hp, hH⟩ N hN
    subst hH
    simp [e0, e5, e1]
    refine ⟨fun h => ⟨s.list[i], List.getElem?_eq_getElem h, ?_⟩, fun h => ?_⟩
    · have hr : Room (left - s.list.length - szL sz (s.list.take i)) := ⟨by omega, by have := hl.2; omega⟩
      have hst : szL sz (s.list.take (i + 1)) = szL sz (s.list.take i) + sz s.list[i] := szL_step _ _ h
      have hle := szL_le sz s.list (i + 1)
      simp [hw, take_len, e0, e5, e1]
      refine call_fn0 (hg _ (List.getElem_mem h) _ hr) .int fun c' _ => ?_
      simp [e0, e5, e1]
      unfold szOf
      split
      · refine ⟨fun h' => by omega, fun h' => hN _ _ _ h ⟨by simp [upd, e0], ?_, by simp [upd]; omega, by omega, rfl⟩⟩
        simp [upd]; exact step64 hn h
      · refine ⟨fun h' => fin_plain (by rw [if_neg (by omega)]; exact ⟨rfl, rfl⟩), fun h' => by omega⟩
    · have : i = s.list.length := by omega
      subst this
      refine fin_plain ⟨?_, rfl⟩
      rw [List.take_length] at hp ⊢
      unfold szOf
      rw [if_pos (by push_cast; omega)]
      congr 1
      push_cast; omega

theorem eqS_fn (hf : compF P f = some (eqSF w g)) (hw : ∀ x, (enc x).length = w) {s t : SL α} (hn : s.list.length ≤ mx) (he : s.list.map con = t.list.map con)
    (hg : ∀ x, x ∈ s.list → ∀ y, con x = con y → Fnc P g [.agg (enc x), .agg (enc y)] (.bool true)) : Fnc P f [s.av w enc, t.av w enc] (.bool true) := by
  have hlen : s.list.length = t.list.length := by have := congrArg List.length he; simpa using this
  refine fn_of hf (by simp [eqSF]) fun c => ?_
  unfold eqSF
  simp [hlen]
  refine loop_nat s.list.length (fun i e H c => e 0 = s.av w enc ∧ e 1 = t.av w enc ∧ e 5 = .int .i64 i ∧ H = []) ⟨rfl, rfl, rfl, rfl⟩ ?_
  intro i e H c hi ⟨e0, e1, e5, hH⟩ N hN
  subst hH
  simp [e0, e1, e5]
  refine ⟨fun h => ⟨s.list[i], List.getElem?_eq_getElem h, ?_⟩, fun h => fin_plain ⟨rfl, rfl⟩⟩
  have ht : i < t.list.length := by omega
  have hc : con s.list[i] = con t.list[i] := by
    have h1 : (s.list.map con)[i]? = (t.list.map con)[i]? := by rw [he]
    simpa [h, ht] using h1
  simp [hw, take_len, e0, e1, e5]
  refine ⟨t.list[i], List.getElem?_eq_getElem ht, ?_⟩
  simp [hw, take_len, e0, e1, e5]
  refine callF_fn0 (hg _ (List.getElem_mem h) _ hc) .bool fun c' _ => ?_
  simp [e0, e1, e5]
  exact hN _ _ _ h ⟨by simp [upd, e0], by simp [upd, e1], by simp [upd]; exact step64 hn h, rfl⟩

theorem toP_fn {v : α → AV} {z : AV} {bytes : Nat} (hf : compF P f = some (toPF z bytes)) (hc : ∀ x, (v x).cell = true) (hfr : ∀ x c, From c (v x)) (hv : ∀ x (K : List AV → Prop), cellsW (v x) K = K [v x]) {s : SL α} (hn : s.list.length * bytes ≤ 281474976710656) (hn' : s.list.length ≤ 281474976710656) :
    Tr P f [s.av 1 fun x => [v x]] fun _ r => ∃ t, r = (SL.mk t s.list).av 1 fun x => [v x] := by
  intro c
  refine con_of hf (by simp [toPF]) ?_
  unfold toPF
  simp
  refine ⟨by omega, by omega, loop_nat s.list.length (fun i e H c' => e 0 = (s.av 1 fun x => [v x]) ∧ e 3 = .ref 0 c 1 s.list.length ∧ e 4 = .int .i64 i ∧ H = [⟨false, c, 1, grow (fun x => [v x]) [z] s.list.length (s.list.take i)⟩]) ⟨rfl, rfl, rfl, by rw [List.take_zero, grow_nil]⟩ ?_⟩
  intro i e H c' hi ⟨e0, e3, e4, hH⟩ N hN
  subst hH
  simp [e0, e3, e4]
  refine ⟨fun h => ⟨s.list[i], List.getElem?_eq_getElem h, ?_⟩, fun h => ?_⟩
  · have hl : (s.list.take i).length = i := by simp; omega
    simp [h, hv, e0, e3, e4]
    refine ⟨_, grow_get _ _ hl h, hN _ _ _ h ⟨by simp [upd, e0], by simp [upd, e3], by simp [upd]; exact step64 (by unfold mx; omega) h, ?_⟩⟩
    rw [List.take_succ_eq_append_getElem h, ← grow_set _ _ hl h]; rfl
  · have : i = s.list.length := by omega
    subst this
    rw [List.take_length, grow_all _ _ rfl]
    refine fin_slc (by simp) (by simp) (by simp; exact fun x _ => hc x) ⟨rfl, ⟨c, rfl⟩, from_slc (Nat.le_refl _) ?_⟩
    simp [e0, e3, e4]
    exact fun x _ => hfr x c

theorem eqP_fn {v : α → AV} (hf : compF P f = some eqPF) (hv : ∀ x (K : AV → Prop), binW .neq (v x) (v x) K = K (.bool false)) {s t : SL α} (hn : s.list.length ≤ mx) (he : s.list = t.list) : Fnc P f [s.av 1 fun x => [v x], t.av 1 fun x => [v x]] (.bool true) := by
  refine fn_of hf (by simp [eqPF]) fun c => ?_
  unfold eqPF
  simp [← he]
  refine loop_nat s.list.length (fun i e H c => e 0 = (s.av 1 fun x => [v x]) ∧ e 1 = (t.av 1 fun x => [v x]) ∧ e 5 = .int .i64 i ∧ H = []) ⟨rfl, rfl, rfl, rfl⟩ ?_
  intro i e H c hi ⟨e0, e1, e5, hH⟩ N hN
  subst hH
  simp [e0, e1, e5]
  refine ⟨fun h => ⟨s.list[i], List.getElem?_eq_getElem h, ?_⟩, fun h => fin_plain ⟨rfl, rfl⟩⟩
  simp [e0, e1, e5]
  refine ⟨s.list[i], by rw [← he]; exact List.getElem?_eq_getElem h, ?_⟩
  simp [hv, e0, e1, e5]
  exact hN _ _ _ h ⟨by simp [upd, e0], by simp [upd, e1], by simp [upd]; exact step64 hn h, rfl⟩

/-- A slice's size, of elements without one. -/
def szPF : Fun := ⟨12,
  .seq (.reg [o 4 (.mv (.c (.int .i64 0)))])
  (.seq (.reg [o 5 (.mv (.t 1)), o 6 (.mv (.t 0)), o 7 (.lenL (.t 6)), o 8 (.bin .sub (.t 5) (.t 7)), o 1 (.mv (.t 8))])
  (.seq (.seq (.reg [o 9 (.mv (.t 1)), o 10 (.bin .lss (.t 9) (.c (.int .i64 0)))])
  (.cond (.t 10) (.seq (.reg [o 4 (.mv (.c (.int .i64 (-1))))])
   (.ret)) (.skip)))
  (.seq (.reg [o 11 (.mv (.t 1)), o 4 (.mv (.t 11))])
  (.ret)))),
  [.tmp 4]⟩
theorem szP_fn (hf : compF P f = some szPF) {s : SL α} (hn : s.list.length ≤ mx) {left : Int} (hl : Room left) : Fnc P f [s.av w enc, .int .i64 left] (.int .i64 (szOf s.list.length left)) := by
  refine fn_of hf (by simp [szPF]) fun c => ?_
  unfold szPF
  simp [szOf_wrap hn hl]
  unfold szOf
  constructor
  · intro h; exact fin_plain (by simp; omega)
  · intro h; exact fin_plain (by simp; omega)

theorem szOf_neg {n : Nat} {left : Int} (h : left < n) : szOf n left = -1 := if_neg (by omega)
theorem szOf_lt {n : Nat} {left : Int} (h : szOf n left < 0) : left < n := by unfold szOf at h; split at h <;> omega
theorem szOf_ge {n : Nat} {left : Int} (h : 0 ≤ szOf n left) : szOf n left = left - n ∧ n ≤ left := by unfold szOf at *; split at h <;> first | (rw [if_pos (by assumption)]; exact ⟨rfl, by assumption⟩) | omega
theorem szL_mem {sz : α → Nat} {l : List α} {x : α} (h : x ∈ l) : sz x ≤ szL sz l := by
  obtain ⟨i, hi, rfl⟩ := List.mem_iff_getElem.1 h
  have h1 := szL_step sz l hi
  have h2 := szL_le sz l (i + 1)
  omega
theorem szL_map {sz : α → Nat} (h : ∀ x, sz (con x) = sz x) (l : List α) : szL sz (l.map con) = szL sz l := by
  unfold szL; rw [List.map_map]; congr 1; exact List.map_congr_left fun x _ => h x

/-! ### shapes -/
theorem sh_int {n : Nat} {t : TypeId} {k : IntKind} (hu : P.underlying t = some (.int k)) {a : AV} (h : ShC P n t [a]) : ∃ i, a = .int k i ∧ IOk k i := by
  cases n with
  | zero => exact h.elim
  | succ n => simp only [ShC, hu] at h; obtain ⟨i, h1, h2⟩ := h; cases h1; exact ⟨i, rfl, h2⟩
theorem sh_bool {n : Nat} {t : TypeId} (hu : P.underlying t = some .bool) {a : AV} (h : ShC P n t [a]) : ∃ b, a = .bool b := by
  cases n with
  | zero => exact h.elim
  | succ n => simp only [ShC, hu] at h; obtain ⟨i, h1⟩ := h; cases h1; exact ⟨i, rfl⟩
theorem sh_str {n : Nat} {t : TypeId} (hu : P.underlying t = some .string) {a : AV} (h : ShC P n t [a]) : ∃ l, a = .str l ∧ l.length ≤ mx := by
  cases n with
  | zero => exact h.elim
  | succ n => simp only [ShC, hu] at h; obtain ⟨i, h1, h2⟩ := h; cases h1; exact ⟨i, rfl, h2⟩
theorem rows_typed {ok : α → Prop} : ∀ (rows : List (List AV)), (∀ row, row ∈ rows → ∃ x, row = enc x ∧ ok x) → ∃ xs : List α, rows = xs.map enc ∧ ∀ x, x ∈ xs → ok x := by
  intro rows
  induction rows with
  | nil => intro _; exact ⟨[], rfl, by simp⟩
  | cons r rows ih =>
    intro h
    obtain ⟨x, hx, ox⟩ := h r (List.mem_cons_self ..)
    obtain ⟨xs, hxs, oxs⟩ := ih fun row hr => h row (List.mem_cons_of_mem _ hr)
    exact ⟨x :: xs, by simp [hx, hxs], by simpa using ⟨ox, oxs⟩⟩
theorem sh_slc {ok : α → Prop} {n : Nat} {t el : TypeId} (hu : P.underlying t = some (.slice el)) (hw : P.cellsOf el = w) (he : ∀ n row, ShC P n el row → ∃ x, row = enc x ∧ ok x) {a : AV} (h : ShC P n t [a]) :
    ∃ s : SL α, a = s.av w enc ∧ s.list.length ≤ mx ∧ ∀ x, x ∈ s.list → ok x := by
  cases n with
  | zero => exact h.elim
  | succ n =>
    simp only [ShC, hu] at h
    rcases h with h | ⟨tag, rows, h1, h2, h3⟩
    · cases h; exact ⟨.nil, rfl, by simp, by simp⟩
    · cases h1
      obtain ⟨xs, hxs, ox⟩ := rows_typed (enc := enc) (ok := ok) rows fun row hr => he n row (h3 row hr)
      subst hxs
      exact ⟨.mk tag xs, by rw [hw]; rfl, by simpa using h2, by simpa using ox⟩
theorem sh_struct {n : Nat} {t : TypeId} {fs : Array Field} (hu : P.underlying t = some (.struct fs)) {as0 : List AV} (h : ShC P n t as0) : ∃ m, as0.length = P.cellsOf t ∧ ∀ f, f ∈ fs.toList → ShC P m f.type ((as0.drop f.offset).take (P.cellsOf f.type)) := by
  cases n with
  | zero => exact h.elim
  | succ n => simp only [ShC, hu] at h; exact ⟨n, h⟩
def fieldsAre (P : Program) (t : TypeId) (l : List (TypeId × Nat)) : Bool :=
  match P.underlying t with
  | some (.struct fs) => (fs.toList.map fun f => (f.type, f.offset)) == l
  | _ => false
theorem sh_fields {n : Nat} {t : TypeId} {l : List (TypeId × Nat)} (hu : fieldsAre P t l = true) {as0 : List AV} (h : ShC P n t as0) : ∃ m, as0.length = P.cellsOf t ∧ ∀ p, p ∈ l → ShC P m p.1 ((as0.drop p.2).take (P.cellsOf p.1)) := by
  unfold fieldsAre at hu
  split at hu
  · rename_i fs hfs
    simp only [beq_iff_eq] at hu
    obtain ⟨m, h1, h2⟩ := sh_struct hfs h
    refine ⟨m, h1, fun p hp => ?_⟩
    rw [← hu] at hp
    obtain ⟨f, hf, rfl⟩ := List.mem_map.1 hp
    exact h2 f hf
  · cases hu
theorem sh_int1 {n : Nat} {t : TypeId} {k : IntKind} (hu : P.underlying t = some (.int k)) {row : List AV} (h : ShC P n t row) : ∃ i, row = [.int k i] ∧ IOk k i := by
  cases n with
  | zero => exact h.elim
  | succ n => simp only [ShC, hu] at h; exact h
theorem sh_str1 {n : Nat} {t : TypeId} (hu : P.underlying t = some .string) {row : List AV} (h : ShC P n t row) : ∃ l, row = [.str l] ∧ l.length ≤ mx := by
  cases n with
  | zero => exact h.elim
  | succ n => simp only [ShC, hu] at h; exact h
theorem sh_bool1 {n : Nat} {t : TypeId} (hu : P.underlying t = some .bool) {row : List AV} (h : ShC P n t row) : ∃ b, row = [.bool b] := by
  cases n with
  | zero => exact h.elim
  | succ n => simp only [ShC, hu] at h; exact h
end
end A
end Go.Proofs.YtfcimcoanlgldaaDoor

/-
  Calls that are handed objects, or hand objects back. No condition.
-/

namespace Go.Proofs.YtfcimcoanlgldaaDoor
namespace A
set_option linter.unusedVariables false
section
variable {P : Program} {H : List AObj} {c : Nat} {K : AV → List AObj → Nat → Prop}

theorem From.nil {c : Nat} {a : AV} (h : From c a) : Av [] a := h [] (by simp)

/-- A call that is handed all the objects. -/
theorem call_con {f : Nat} {as0 : List AV} {Q : AV → List AObj → Nat → Prop} (hf : Con P f as0 H c Q)
    (k : ∀ r H' c', c ≤ c' → Q r H' c' → (∀ t, t < c → t ∈ tags H' → t ∈ tags H) → (tags H').Nodup → Av [] r ∧ (∀ o, o ∈ H' → AvRows [] o) ∧ K r H' c') : CallW P f as0 H c K := by
  intro hn hlt
  obtain ⟨h1, h2⟩ := (Views.refl [] as0).spec
  refine ⟨H, [], as0, Q, List.Sublist.refl _, by simp, by simp [tags], h1, h2, hf, fun r H' c' hc hq ho hd => ?_⟩
  obtain ⟨k1, k2, k3⟩ := k r H' c' hc hq ho hd
  exact ⟨H', r, fun o h => .inl h, hd, .refl r, k1, fun o h _ => k2 o h, k3⟩

/-- Any run of objects may be left out of a call, and only read there. -/
theorem call_part {f : Nat} {as0 as' : List AV} {H1 S : List AObj} {Q : AV → List AObj → Nat → Prop} (hsub : H1.Sublist H) (hS : ∀ o, o ∈ S → o ∈ H) (hd : ∀ t, t ∈ tags H1 → t ∉ tags S) (hv : Views S as0 as') (hf : Con P f as' H1 c Q)
    (k : ∀ r H1' c', c ≤ c' → Q r H1' c' → (∀ t, t < c → t ∈ tags H1' → t ∈ tags H1) → (tags H1').Nodup → ∃ H' r', (∀ o, o ∈ H' → o ∈ H1' ∨ (o ∈ H ∧ o.tag ∉ tags H1)) ∧ (tags H').Nodup ∧ View [] r r' ∧ Av (tags S) r' ∧
      (∀ o, o ∈ H' → o ∈ H1' → AvRows (tags S) o) ∧ K r' H' c') : CallW P f as0 H c K := by
  intro hn hlt
  obtain ⟨h1, h2⟩ := hv.spec
  exact ⟨H1, S, as', Q, hsub, hS, hd, h1, h2, hf, k⟩

/-- A call that reads the objects and hands back objects of its own. -/
theorem call_new {f : Nat} {as0 as' : List AV} {Q : AV → List AObj → Nat → Prop} (hf : Con P f as' [] c Q) (hv : Views H as0 as')
    (k : ∀ r O c', c ≤ c' → Q r O c' → (∀ t, t ∈ tags O → c ≤ t) → (tags O).Nodup → ∃ r', View [] r r' ∧ Av (tags H) r' ∧ (∀ o, o ∈ O → AvRows (tags H) o) ∧ K r' (H ++ O) c') : CallW P f as0 H c K := by
  intro hn hlt
  obtain ⟨h1, h2⟩ := hv.spec
  refine ⟨[], H, as', Q, List.nil_sublist _, fun o h => h, by simp [tags], h1, h2, hf, fun r O c' hc hq ho hd => ?_⟩
  have hfresh : ∀ t, t ∈ tags O → c ≤ t := fun t ht => by
    rcases Nat.lt_or_ge t c with h | h
    · have := ho t h ht; simp [tags] at this
    · exact h
  obtain ⟨r', k1, k2, k3, k4⟩ := k r O c' hc hq hfresh hd
  refine ⟨H ++ O, r', fun o h => ?_, ?_, k1, k2, fun o _ h => k3 o h, k4⟩
  · rcases List.mem_append.1 h with h | h
    · exact .inr ⟨h, by simp [tags]⟩
    · exact .inl h
  · have : tags (H ++ O) = tags H ++ tags O := by simp [tags]
    rw [this]
    refine List.nodup_append.2 ⟨hn, hd, fun a ha b hb hab => ?_⟩
    subst hab
    exact absurd (hlt a ha) (Nat.not_lt.2 (hfresh a hb))

/-- A call that is handed some of the objects, and leaves them in their places. -/
theorem call_mid {f : Nat} {as0 as' : List AV} {A B C : List AObj} {Q : AV → List AObj → Nat → Prop} (hf : Con P f as' B c Q) (hv : Views [] as0 as')
    (k : ∀ r B' c', c ≤ c' → Q r B' c' → tags B' = tags B ∧ Av [] r ∧ (∀ o, o ∈ B' → AvRows [] o) ∧ K r (A ++ B' ++ C) c') : CallW P f as0 (A ++ B ++ C) c K := by
  intro hn hlt
  obtain ⟨h1, h2⟩ := hv.spec
  have hsub : B.Sublist (A ++ B ++ C) := (List.sublist_append_right A B).trans (List.sublist_append_left _ _)
  refine ⟨B, [], as', Q, hsub, by simp, by simp [tags], h1, h2, hf, fun r B' c' hc hq ho hd => ?_⟩
  obtain ⟨k0, k1, k2, k3⟩ := k r B' c' hc hq
  have e : ∀ X, tags (A ++ X ++ C) = tags A ++ tags X ++ tags C := fun X => by simp [tags]
  have hn' := hn
  rw [e] at hn'
  refine ⟨A ++ B' ++ C, r, fun o h => ?_, by rw [e, k0, ← e]; exact hn, .refl r, k1, fun o _ h => k2 o h, k3⟩
  rw [List.append_assoc] at h
  have hAB := List.nodup_append.1 hn'
  have hA := List.nodup_append.1 hAB.1
  rcases List.mem_append.1 h with h | h
  · exact .inr ⟨by simp [h], fun hb => hA.2.2 _ (mem_tags h) _ hb rfl⟩
  · rcases List.mem_append.1 h with h | h
    · exact .inl h
    · exact .inr ⟨by simp [h], fun hb => hAB.2.2 _ (List.mem_append_right _ hb) _ (mem_tags h) rfl⟩

@[simp] theorem callvW_fn (f : Nat) (caps as0 : List AV) : callvW P (.fn f caps) as0 H c K = (bodyOk P f = true ∧ CallW P f (as0 ++ caps) H c K) := (rfl)

/-- A variable seen as0 what it holds. -/
theorem view_ptr {S : List AObj} {i tag w r o : Nat} {rows : List (List AV)} {row : List AV} (ho : (⟨false, tag, w, rows⟩ : AObj) ∈ S) (hrow : rows[r]? = some row) (hc : ∀ a, a ∈ row → a.cell = true) : View S (.ptr i tag w r o) (.cpt row o) :=
  .ptr ho hrow rfl (fun j a ha => hc a (List.mem_of_getElem? ha)) fun j a a' h1 h2 => by rw [h1] at h2; cases h2; exact .refl _

/-- All the objects are handed back. -/
theorem fin_all {Q : AV → List AObj → Nat → Prop} {v : AV} (h : Q v H c) : finW Q v H c := ⟨[], H, H, v, List.Sublist.refl _, .refl _ _, by simp, by simp [tags], .refl v, h⟩

theorem avRows_of {T : List Nat} {o : AObj} (h : ∀ row, row ∈ o.rows → ∀ a, a ∈ row → Av T a) : AvRows T o := fun r j x a hr ha => h x (List.mem_of_getElem? hr) a (List.mem_of_getElem? ha)

/-- A slice of the state's seen as0 a tree. -/
theorem view_ref {α : Type} {enc : α → List AV} {S : List AObj} {i tag w n : Nat} {l : List α} (ho : (⟨false, tag, w, l.map enc⟩ : AObj) ∈ S) (hn : l.length = n) (hc : ∀ x, x ∈ l → ∀ a, a ∈ enc x → a.cell = true) : View S (.ref i tag w n) ((SL.mk tag l).av w enc) :=
  .ref ho (by simp; omega) (by simp [hn]) (fun r x x' h1 h2 => by rw [h1] at h2; cases h2; rfl)
    (fun r j x a hx ha => by
      obtain ⟨y, hy, rfl⟩ := List.mem_map.1 (List.mem_of_getElem? hx)
      exact hc y hy a (List.mem_of_getElem? ha))
    fun r j x x' a a' h1 h2 h3 h4 => by rw [h1] at h2; cases h2; rw [h3] at h4; cases h4; exact .refl _

@[simp high] theorem getW_set {α : Type} (l : List α) (i : Nat) (x : α) (K : α → Prop) : getW (l.set i x) i K = (i < l.length ∧ K x) := by
  unfold getW
  apply propext
  constructor
  · rintro ⟨y, h1, h2⟩
    have hi : i < l.length := by simpa using (List.getElem?_eq_some_iff.1 h1).1
    rw [List.getElem?_set_self hi] at h1
    cases h1
    exact ⟨hi, h2⟩
  · rintro ⟨hi, h2⟩
    exact ⟨x, List.getElem?_set_self hi, h2⟩

/-- Marks: element by element, from a number on. -/
def mks {α : Type} (mk : Int → α → α) (cnt : α → Nat) : Int → List α → List α
  | _, [] => []
  | k, x :: l => mk k x :: mks mk cnt (k + cnt x) l
theorem mks_len {α : Type} (mk : Int → α → α) (cnt : α → Nat) : ∀ (k : Int) (l : List α), (mks mk cnt k l).length = l.length
  | _, [] => rfl
  | k, x :: l => by simp [mks, mks_len mk cnt (k + cnt x) l]
theorem mks_app {α : Type} (mk : Int → α → α) (cnt : α → Nat) : ∀ (k : Int) (l m : List α), mks mk cnt k (l ++ m) = mks mk cnt k l ++ mks mk cnt (k + szL cnt l) m
  | k, [], m => by simp [mks, szL]
  | k, x :: l, m => by
    have e : k + (cnt x : Int) + (szL cnt l : Int) = k + (szL cnt (x :: l) : Int) := by simp [szL]; omega
    simp [mks, mks_app mk cnt (k + cnt x) l m, e]
theorem mks_step {α : Type} (mk : Int → α → α) (cnt : α → Nat) (k : Int) (l : List α) {i : Nat} (h : i < l.length) : mks mk cnt k (l.take (i + 1)) = mks mk cnt k (l.take i) ++ [mk (k + szL cnt (l.take i)) l[i]] := by
  rw [List.take_succ_eq_append_getElem h, mks_app]; rfl
theorem mks_get {α : Type} (mk : Int → α → α) (cnt : α → Nat) (k : Int) (l : List α) {i : Nat} (h : i < l.length) : (mks mk cnt k l)[i]? = some (mk (k + szL cnt (l.take i)) l[i]) := by
  have e : l = l.take i ++ l[i] :: l.drop (i + 1) := by rw [← List.drop_eq_getElem_cons h, List.take_append_drop]
  conv => lhs; rw [e, mks_app]
  rw [List.getElem?_append_right (by rw [mks_len]; simp; omega), mks_len, List.length_take, Nat.min_eq_left (by omega), Nat.sub_self]
  rfl
/-- Marked so far, and not yet. -/
def mixed {α : Type} (mk : Int → α → α) (cnt : α → Nat) (k : Int) (l : List α) (i : Nat) : List α := mks mk cnt k (l.take i) ++ l.drop i
theorem mixed_zero {α : Type} (mk : Int → α → α) (cnt : α → Nat) (k : Int) (l : List α) : mixed mk cnt k l 0 = l := by simp [mixed, mks]
theorem mixed_all {α : Type} (mk : Int → α → α) (cnt : α → Nat) (k : Int) (l : List α) : mixed mk cnt k l l.length = mks mk cnt k l := by simp [mixed]
theorem mixed_len {α : Type} (mk : Int → α → α) (cnt : α → Nat) (k : Int) (l : List α) (i : Nat) : (mixed mk cnt k l i).length = l.length := by simp [mixed, mks_len]; omega
theorem mixed_get {α : Type} (mk : Int → α → α) (cnt : α → Nat) (k : Int) (l : List α) {i : Nat} (h : i < l.length) : (mixed mk cnt k l i)[i]? = some l[i] := by
  unfold mixed
  rw [List.getElem?_append_right (by rw [mks_len]; simp; omega), mks_len, List.length_take, Nat.min_eq_left (by omega), Nat.sub_self, List.getElem?_drop]
  simp [h]
theorem mixed_set {α : Type} (mk : Int → α → α) (cnt : α → Nat) (k : Int) (l : List α) {i : Nat} (h : i < l.length) : (mixed mk cnt k l i).set i (mk (k + szL cnt (l.take i)) l[i]) = mixed mk cnt k l (i + 1) := by
  unfold mixed
  rw [List.set_append_right _ _ (by rw [mks_len]; simp; omega), mks_len, List.length_take, Nat.min_eq_left (by omega), Nat.sub_self, mks_step mk cnt k l h, List.drop_eq_getElem_cons h, List.set_cons_zero]
  simp
end
end A
end Go.Proofs.YtfcimcoanlgldaaDoor

/-
  Slices that stay objects: copies, marks, and what reads marks. No condition.
-/

namespace Go.Proofs.YtfcimcoanlgldaaDoor
namespace A
set_option linter.unusedVariables false
set_option linter.unusedSimpArgs false

/-- Slices of numbers: marks. -/
def markIF : Fun := ⟨19,
  .seq (.reg [o 4 (.mv (.c (.int .i64 0)))])
  (.seq (.seq (.reg [o 5 (.mv (.c (.int .i64 0)))])
  (.block 0 (.loop (.seq (.seq (.reg [o 6 (.mv (.t 5)), o 7 (.mv (.t 0)), o 8 (.lenL (.t 7)), o 9 (.bin .lss (.t 6) (.t 8))])
    (.cond (.t 9) (.skip) (.exit 0)))
    (.seq (.block 1 (.seq (.reg [o 12 (.mv (.t 0)), o 13 (.mv (.t 5)), o 14 (.mv (.t 1)), o 15 (.iaddr 1 (.t 12) (.t 13)), st (.store 1 (.t 15) (.t 14))])
     (.reg [o 16 (.mv (.t 1)), o 17 (.bin .add (.t 16) (.c (.int .i64 1))), o 1 (.mv (.t 17))])))
    (.reg [o 10 (.mv (.t 5)), o 11 (.bin .add (.t 10) (.c (.int .i64 1))), o 5 (.mv (.t 11))]))))))
  (.seq (.reg [o 18 (.mv (.t 1)), o 4 (.mv (.t 18))])
  (.ret))),
  [.tmp 4]⟩
def heldIF : Fun := ⟨21,
  .seq (.reg [o 4 (.mv (.c (.int .i64 0)))])
  (.seq (.seq (.reg [o 5 (.mv (.c (.int .i64 0)))])
  (.block 0 (.loop (.seq (.seq (.reg [o 6 (.mv (.t 5)), o 7 (.mv (.t 0)), o 8 (.lenL (.t 7)), o 9 (.bin .lss (.t 6) (.t 8))])
    (.cond (.t 9) (.skip) (.exit 0)))
    (.seq (.block 1 (.seq (.seq (.reg [o 12 (.mv (.t 0)), o 13 (.mv (.t 5)), o 14 (.iaddr 1 (.t 12) (.t 13)), o 15 (.load none (.t 14)), o 16 (.mv (.t 1)), o 17 (.bin .neq (.t 15) (.t 16))])
     (.cond (.t 17) (.seq (.reg [o 4 (.mv (.c (.int .i64 (-1))))])
      (.ret)) (.skip)))
     (.reg [o 18 (.mv (.t 1)), o 19 (.bin .add (.t 18) (.c (.int .i64 1))), o 1 (.mv (.t 19))])))
    (.reg [o 10 (.mv (.t 5)), o 11 (.bin .add (.t 10) (.c (.int .i64 1))), o 5 (.mv (.t 11))]))))))
  (.seq (.reg [o 20 (.mv (.t 1)), o 4 (.mv (.t 20))])
  (.ret))),
  [.tmp 4]⟩
def mkI (k : Int) (x : Int) : Int := k
def cI (x : Int) : Nat := 1
theorem szL_le_mul {α : Type} (sz : α → Nat) (m : Nat) (h : ∀ x, sz x ≤ m) (l : List α) : szL sz l ≤ m * l.length := by
  induction l with
  | nil => simp [szL]
  | cons x l ih =>
    have := h x
    simp only [szL, List.map_cons, List.sum_cons, List.length_cons, Nat.mul_add] at ih ⊢
    omega
theorem szL_cI (l : List Int) : szL cI l = l.length := by
  induction l with
  | nil => rfl
  | cons x l ih => simp only [szL, List.map_cons, List.sum_cons, List.length_cons] at ih ⊢; rw [ih]; simp [cI]; omega

section
variable {P : Program} {f : Nat}
theorem markI_nil (hf : compF P f = some markIF) (k : Int) : Fnc P f [.nsl, .int .i64 k] (.int .i64 k) := by
  refine fn_of hf (by simp [markIF]) fun c => ?_
  unfold markIF
  simp
  refine loop_drop 0 (fun i e H c' => e 0 = .nsl ∧ e 1 = .int .i64 k ∧ e 5 = .int .i64 0 ∧ H = []) ⟨rfl, rfl, rfl, rfl⟩ ?_
  intro i e H c hi ⟨e0, e1, e5, hH⟩ N hN
  subst hH
  simp [e0, e1, e5]
  exact fin_plain ⟨rfl, rfl⟩
theorem heldI_nil (hf : compF P f = some heldIF) (k : Int) : Fnc P f [.nsl, .int .i64 k] (.int .i64 k) := by
  refine fn_of hf (by simp [heldIF]) fun c => ?_
  unfold heldIF
  simp
  refine loop_drop 0 (fun i e H c' => e 0 = .nsl ∧ e 1 = .int .i64 k ∧ e 5 = .int .i64 0 ∧ H = []) ⟨rfl, rfl, rfl, rfl⟩ ?_
  intro i e H c hi ⟨e0, e1, e5, hH⟩ N hN
  subst hH
  simp [e0, e1, e5]
  exact fin_plain ⟨rfl, rfl⟩
theorem markI_con1 (hf : compF P f = some markIF) {l : List Int} (hn : l.length ≤ 1048576) {k : Int} (hk : 0 ≤ k ∧ k ≤ 1099511627776) (t c : Nat) :
    Con P f [.ref 0 t 1 l.length, .int .i64 k] [⟨false, t, 1, l.map encI⟩] c fun r H' _ => r = .int .i64 (k + l.length) ∧ H' = [⟨false, t, 1, (mks mkI cI k l).map encI⟩] := by
  refine con_of hf (by simp [markIF]) ?_
  unfold markIF
  simp
  refine loop_drop l.length (fun i e H c' => e 0 = .ref 0 t 1 l.length ∧ e 1 = .int .i64 (k + i) ∧ e 5 = .int .i64 i ∧ H = [⟨false, t, 1, (mixed mkI cI k l i).map encI⟩]) ⟨rfl, by simp, rfl, by rw [mixed_zero]⟩ ?_
  intro i e H c hi ⟨e0, e1, e5, hH⟩ N hN
  subst hH
  have hs := mixed_set mkI cI k l (i := i)
  rw [szL_cI, List.length_take, Nat.min_eq_left hi] at hs
  have w1 : IntKind.i64.wrap (k + i + 1) = k + i + 1 := wrap64 (by omega) (by omega)
  simp [e0, e1, e5]
  refine ⟨fun h => ?_, fun h => ?_⟩
  · refine ⟨h, l[i], mixed_get _ _ _ _ h, ?_⟩
    have hs := hs h
    simp [e0, e1, e5, h, mixed_len, w1, putA, encI]
    refine hN _ _ _ _ h (List.Sublist.refl _) ⟨by simp [upd, e0], ?_, by simp [upd]; exact step64 (by unfold mx; omega) h, ?_⟩
    · simp [upd, w1]; omega
    · rw [← hs, List.map_set]; rfl
  · have h1 : i = l.length := by omega
    subst h1
    exact fin_all ⟨rfl, by rw [mixed_all]⟩
theorem heldI_fn1 (hf : compF P f = some heldIF) {l : List Int} (hn : l.length ≤ 1048576) {k : Int} (hk : 0 ≤ k ∧ k ≤ 1099511627776) (t : Nat) :
    Fnc P f [(SL.mk t (mks mkI cI k l)).av 1 encI, .int .i64 k] (.int .i64 (k + l.length)) := by
  refine fn_of hf (by simp [heldIF]) fun c => ?_
  unfold heldIF
  simp
  have hlen := mks_len mkI cI k l
  refine loop_drop l.length (fun i e H c' => e 0 = (SL.mk t (mks mkI cI k l)).av 1 encI ∧ e 1 = .int .i64 (k + i) ∧ e 5 = .int .i64 i ∧ H = []) ⟨rfl, by simp, rfl, rfl⟩ ?_
  intro i e H c hi ⟨e0, e1, e5, hH⟩ N hN
  subst hH
  have hg := fun h : i < l.length => mks_get mkI cI k l h
  rw [szL_cI, List.length_take, Nat.min_eq_left hi] at hg
  have w1 : IntKind.i64.wrap (k + i + 1) = k + i + 1 := wrap64 (by omega) (by omega)
  simp [e0, e1, e5, hlen]
  refine ⟨fun h => ⟨_, hg h, ?_⟩, fun h => ?_⟩
  · simp [e0, e1, e5, h, w1, mkI]
    refine hN _ _ _ _ h (List.Sublist.refl _) ⟨by simp [upd, e0], ?_, by simp [upd]; exact step64 (by unfold mx; omega) h, rfl⟩
    simp [upd, w1]; omega
  · have h1 : i = l.length := by omega
    subst h1
    exact fin_plain ⟨rfl, rfl⟩
end

/-! ### slices as0 objects -/
section
variable {α : Type}
/-- A slice of the state's, and what hangs on it. -/
def wood (t w : Nat) (encO : α → List AV) (inn : α → List AObj) (l : List α) : List AObj := ⟨false, t, w, l.map encO⟩ :: l.flatMap inn
def noInn (_ : α) : List AObj := []
theorem wood_flat (t w : Nat) (encO : α → List AV) (l : List α) : wood t w encO noInn l = [⟨false, t, w, l.map encO⟩] := by
  unfold wood noInn
  have : l.flatMap (fun _ : α => ([] : List AObj)) = [] := by induction l with | nil => rfl | cons x l ih => simp [List.flatMap_cons, ih]
  rw [this]

/-- Nothing in it is frozen. -/
def Free (a : AV) : Prop := ∀ T, Av T a
theorem free_agg {l : List AV} (h : ∀ a, a ∈ l → Free a) : Free (.agg l) := fun T => .agg fun j a ha => h a (List.mem_of_getElem? ha) T
theorem avRows_free {T : List Nat} {o : AObj} (h : ∀ row, row ∈ o.rows → ∀ a, a ∈ row → Free a) : AvRows T o := avRows_of fun row hr a ha => h row hr a ha T

/-- Seen as0 a tree. -/
theorem view_wood1 {enc encO : α → List AV} {inn : α → List AObj} {S : List AObj} {i t w n : Nat} {l : List α} (hs : ∀ o, o ∈ wood t w encO inn l → o ∈ S) (hn : l.length = n) (hc : ∀ x a, a ∈ enc x → a.cell = true)
    (hl : ∀ x, (encO x).length = (enc x).length) (hv : ∀ x, (∀ o, o ∈ inn x → o ∈ S) → ∀ (j : Nat) (a a' : AV), (encO x)[j]? = some a → (enc x)[j]? = some a' → View S a a') : View S (.ref i t w n) ((SL.mk t l).av w enc) := by
  have get : ∀ (r : Nat) (x x' : List AV), (l.map encO)[r]? = some x → (l.map enc)[r]? = some x' → ∃ y, y ∈ l ∧ x = encO y ∧ x' = enc y := fun r x x' h1 h2 => by
    rw [List.getElem?_map] at h1 h2
    obtain ⟨y, hy, rfl⟩ := Option.map_eq_some_iff.1 h1
    rw [hy] at h2
    simp at h2
    exact ⟨y, List.mem_of_getElem? hy, rfl, h2.symm⟩
  refine .ref (hs _ (by unfold wood; exact List.mem_cons_self ..)) (by simp; omega) (by simp [hn]) (fun r x x' h1 h2 => ?_) (fun r j x a hx ha => ?_) fun r j x x' a a' h1 h2 h3 h4 => ?_
  · obtain ⟨y, _, rfl, rfl⟩ := get r x x' h1 h2; exact hl y
  · obtain ⟨y, hy, rfl⟩ := List.mem_map.1 (List.mem_of_getElem? hx)
    exact hc y a (List.mem_of_getElem? ha)
  · obtain ⟨y, hy, rfl, rfl⟩ := get r x x' h1 h2
    exact hv y (fun o ho => hs o (by unfold wood; exact List.mem_cons_of_mem _ (List.mem_flatMap.2 ⟨y, hy, ho⟩))) j a a' h3 h4

/-- A slice, nil or not, as0 objects. -/
def SL.ref (w : Nat) : SL α → AV
  | .nil => .nsl
  | .mk t xs => .ref 0 t w xs.length
def SL.wood (w : Nat) (encO : α → List AV) (inn : α → List AObj) : SL α → List AObj
  | .nil => []
  | .mk t xs => A.wood t w encO inn xs
def SL.marks (mk : Int → α → α) (cnt : α → Nat) (k : Int) : SL α → SL α
  | .nil => .nil
  | .mk t xs => .mk t (mks mk cnt k xs)
theorem SL.marks_len (mk : Int → α → α) (cnt : α → Nat) (k : Int) (s : SL α) : (s.marks mk cnt k).list.length = s.list.length := by
  cases s <;> simp [SL.marks, mks_len]
theorem free_ref (w : Nat) (s : SL α) : Free (s.ref w) := fun T => by cases s <;> constructor
theorem view_wood {enc encO : α → List AV} {inn : α → List AObj} {S : List AObj} {w : Nat} {s : SL α} (hs : ∀ o, o ∈ s.wood w encO inn → o ∈ S) (hc : ∀ x a, a ∈ enc x → a.cell = true)
    (hl : ∀ x, (encO x).length = (enc x).length) (hv : ∀ x, (∀ o, o ∈ inn x → o ∈ S) → ∀ (j : Nat) (a a' : AV), (encO x)[j]? = some a → (enc x)[j]? = some a' → View S a a') : View S (s.ref w) (s.av w enc) := by
  cases s with
  | nil => exact .refl _
  | mk t l => exact view_wood1 hs rfl hc hl hv
theorem view_flat {enc : α → List AV} {S : List AObj} {w : Nat} {s : SL α} (hs : ∀ o, o ∈ s.wood w enc noInn → o ∈ S) (hc : ∀ x a, a ∈ enc x → a.cell = true) : View S (s.ref w) (s.av w enc) :=
  view_wood hs hc (fun _ => rfl) fun x _ j a a' h1 h2 => by rw [h1] at h2; cases h2; exact .refl _
theorem tags_wood {w : Nat} {encO : α → List AV} {inn : α → List AObj} {mk : Int → α → α} {cnt : α → Nat} (hi : ∀ k x, tags (inn (mk k x)) = tags (inn x)) (k : Int) (s : SL α) : tags ((s.marks mk cnt k).wood w encO inn) = tags (s.wood w encO inn) := by
  have key : ∀ (l : List α) (k : Int), tags ((mks mk cnt k l).flatMap inn) = tags (l.flatMap inn) := by
    intro l
    induction l with
    | nil => intro k; rfl
    | cons x l ih =>
      intro k
      have e : ∀ X Y : List AObj, tags (X ++ Y) = tags X ++ tags Y := fun X Y => by simp [tags]
      simp only [mks, List.flatMap_cons, e, hi, ih]
  cases s with
  | nil => rfl
  | mk t l =>
    show t :: tags ((mks mk cnt k l).flatMap inn) = t :: tags (l.flatMap inn)
    rw [key]
theorem free_wood {w : Nat} {encO : α → List AV} {inn : α → List AObj} (hO : ∀ x a, a ∈ encO x → Free a) (hI : ∀ x o, o ∈ inn x → ∀ T, AvRows T o) (s : SL α) : ∀ o, o ∈ s.wood w encO inn → ∀ T, AvRows T o := by
  cases s with
  | nil => intro o ho; cases ho
  | mk t l =>
    intro o ho T
    rcases List.mem_cons.1 ho with rfl | ho
    · exact avRows_free fun row hr a ha => by
        obtain ⟨x, _, rfl⟩ := List.mem_map.1 hr
        exact hO x a ha
    · obtain ⟨x, _, hx⟩ := List.mem_flatMap.1 ho
      exact hI x o hx T
end

section
variable {P : Program} {α : Type} {enc encO : α → List AV} {inn : α → List AObj} {con : α → α} {w : Nat} {f g : Nat}
/-- A copy of a slice, kept as0 objects. -/
theorem toSO_fn {z : List AV} {bytes : Nat} (hf : compF P f = some (toSF w z bytes g)) (hz : z.length = w) (hw : ∀ x, (enc x).length = w) (hwO : ∀ x, (encO x).length = w) (hO : ∀ x a, a ∈ encO x → Free a) (hI : ∀ x o, o ∈ inn x → ∀ T, AvRows T o)
    {s : SL α} (hn : s.list.length * bytes ≤ 281474976710656) (hn' : s.list.length ≤ 281474976710656)
    (hg : ∀ x, x ∈ s.list → ∀ c, Con P g [.agg (enc x)] [] c fun r O _ => ∃ b, r = .agg (encO b) ∧ O = inn b ∧ con b = con x) (c : Nat) :
    Con P f [s.av w enc] [] c fun r H' _ => ∃ b : SL α, r = b.ref w ∧ H' = b.wood w encO inn ∧ b.list.map con = s.list.map con := by
  refine con_of hf (by simp [toSF]) ?_
  unfold toSF
  simp
  refine ⟨by omega, by omega, loop_nat s.list.length (fun i e H c' => e 0 = s.av w enc ∧ e 3 = .ref 0 c w s.list.length ∧ e 4 = .int .i64 i ∧ ∃ ys : List α, ys.length = i ∧ ys.map con = (s.list.take i).map con ∧ H = ⟨false, c, w, grow encO z s.list.length ys⟩ :: ys.flatMap inn)
    ⟨rfl, rfl, rfl, [], rfl, rfl, by rw [grow_nil]; rfl⟩ ?_⟩
  intro i e H c' hi ⟨e0, e3, e4, ys, hy, hcon, hH⟩ N hN
  subst hH
  simp [e0, e3, e4]
  refine ⟨fun h => ⟨s.list[i], List.getElem?_eq_getElem h, ?_⟩, fun h => ?_⟩
  · simp [hw, take_len, e0, e3, e4]
    refine call_new (hg _ (List.getElem_mem h) _) (Views.refl _ _) fun r O c'' hc' ⟨b, hr, hO', hb⟩ _ _ => ?_
    subst hr; subst hO'
    refine ⟨_, .refl _, free_agg (hO b) _, fun o ho => hI b o ho _, ?_⟩
    simp [h, hwO, e0, e3, e4]
    refine ⟨_, grow_get _ _ hy h, hN _ _ _ h ⟨by simp [upd, e0], by simp [upd, e3], by simp [upd]; exact step64 (by unfold mx; omega) h, ys ++ [b], by simp [hy], ?_, ?_⟩⟩
    · rw [List.take_succ_eq_append_getElem h, List.map_append, List.map_append, hcon]; simp [hb]
    · rw [putA_all (by rw [hwO, hz]), grow_set _ _ hy h, List.flatMap_append]
      simp
  · have : i = s.list.length := by omega
    subst this
    rw [grow_all _ _ hy]
    exact fin_all ⟨.mk c ys, by rw [← hy]; rfl, rfl, by simpa using hcon⟩
/-- The same, of plain cells. -/
theorem toPO_fn {v : α → AV} {z : AV} {bytes : Nat} (hf : compF P f = some (toPF z bytes)) (hv : ∀ x (K : List AV → Prop), cellsW (v x) K = K [v x]) {s : SL α} (hn : s.list.length * bytes ≤ 281474976710656) (hn' : s.list.length ≤ 281474976710656) (c : Nat) :
    Con P f [s.av 1 fun x => [v x]] [] c fun r H' _ => ∃ b : SL α, r = b.ref 1 ∧ H' = b.wood 1 (fun x => [v x]) noInn ∧ b.list = s.list := by
  refine con_of hf (by simp [toPF]) ?_
  unfold toPF
  simp
  refine ⟨by omega, by omega, loop_nat s.list.length (fun i e H c' => e 0 = (s.av 1 fun x => [v x]) ∧ e 3 = .ref 0 c 1 s.list.length ∧ e 4 = .int .i64 i ∧ H = [⟨false, c, 1, grow (fun x => [v x]) [z] s.list.length (s.list.take i)⟩]) ⟨rfl, rfl, rfl, by rw [List.take_zero, grow_nil]⟩ ?_⟩
  intro i e H c' hi ⟨e0, e3, e4, hH⟩ N hN
  subst hH
  simp [e0, e3, e4]
  refine ⟨fun h => ⟨s.list[i], List.getElem?_eq_getElem h, ?_⟩, fun h => ?_⟩
  · have hl : (s.list.take i).length = i := by simp; omega
    simp [h, hv, e0, e3, e4]
    refine ⟨_, grow_get _ _ hl h, hN _ _ _ h ⟨by simp [upd, e0], by simp [upd, e3], by simp [upd]; exact step64 (by unfold mx; omega) h, ?_⟩⟩
    rw [List.take_succ_eq_append_getElem h, ← grow_set _ _ hl h]; rfl
  · have : i = s.list.length := by omega
    subst this
    rw [List.take_length, grow_all _ _ rfl]
    exact fin_all ⟨.mk c s.list, rfl, (wood_flat ..).symm, rfl⟩
end
section
variable {P : Program} {f : Nat}
theorem markI_con (hf : compF P f = some markIF) {s : SL Int} (hn : s.list.length ≤ 1048576) {k : Int} (hk : 0 ≤ k ∧ k ≤ 1099511627776) (c : Nat) :
    Con P f [s.ref 1, .int .i64 k] (s.wood 1 encI noInn) c fun r H' _ => r = .int .i64 (k + s.list.length) ∧ H' = (s.marks mkI cI k).wood 1 encI noInn := by
  cases s with
  | nil =>
    have := markI_nil hf k c
    simpa [SL.ref, SL.wood, SL.marks] using this
  | mk t l =>
    have := markI_con1 hf (l := l) hn hk t c
    simpa [SL.ref, SL.wood, SL.marks, wood_flat] using this
theorem heldI_fn (hf : compF P f = some heldIF) {s : SL Int} (hn : s.list.length ≤ 1048576) {k : Int} (hk : 0 ≤ k ∧ k ≤ 1099511627776) :
    Fnc P f [(s.marks mkI cI k).av 1 encI, .int .i64 k] (.int .i64 (k + s.list.length)) := by
  cases s with
  | nil =>
    have := heldI_nil hf k
    simpa [SL.av, SL.marks] using this
  | mk t l => exact heldI_fn1 hf (l := l) hn hk t
end
end A
end Go.Proofs.YtfcimcoanlgldaaDoor

/-
  Slices handed back as0 objects, and the same seen as0 trees; appends. No condition.
-/

namespace Go.Proofs.YtfcimcoanlgldaaDoor
namespace A
set_option linter.unusedVariables false
set_option linter.unusedSimpArgs false

theorem szL_const {α : Type} (n : Nat) (l : List α) : szL (fun _ => n) l = n * l.length := by
  induction l with
  | nil => simp [szL]
  | cons x l ih => simp [szL] at ih ⊢; rw [Nat.mul_add]; omega

section
variable {P : Program} {H : List AObj} {c : Nat} {K : AV → List AObj → Nat → Prop}
@[simp] theorem srcW_slc (wd t w : Nat) (rows : List (List AV)) (K : List (List AV) → Prop) : srcW wd (.slc t w rows) H K = (w = wd ∧ K rows) := (rfl)
@[simp] theorem srcW_nsl (wd : Nat) (K : List (List AV) → Prop) : srcW wd .nsl H K = K [] := (rfl)
@[simp] theorem srcW_str (wd : Nat) (l : List UInt8) (K : List (List AV) → Prop) : srcW wd (.str l) H K = (wd = 1 ∧ K (l.map byteRow)) := (rfl)
@[simp] theorem srcW_ref (wd j t w n : Nat) (K : List (List AV) → Prop) : srcW wd (.ref j t w n) H K = (w = wd ∧ getW H j fun ob => ob.tag = t ∧ ob.mp = false ∧ ob.w = w ∧ n ≤ ob.rows.length ∧ K (ob.rows.take n)) := (rfl)
@[simp] theorem srcW_sl {α : Type} (w : Nat) (f : α → List AV) (s : SL α) (K : List (List AV) → Prop) : srcW w (s.av w f) H K = K (s.list.map f) := by
  cases s <;> simp [SL.av]
@[simp] theorem appendW_ref (wd b i t w n : Nat) (y : AV) : appendW wd b (.ref i t w n) y H c K = srcW wd y H fun rows' => w = wd ∧ getW H i fun ob => ob.tag = t ∧ ob.mp = false ∧ ob.w = w ∧ cutW ob.rows n fun rs => (n + rows'.length) * b ≤ 140737488355328 ∧ n + rows'.length ≤ mx ∧
        K (.ref i c wd (n + rows'.length)) (H.set i ⟨false, c, wd, rs ++ rows'⟩) (c + 1) := (rfl)
@[simp] theorem cutW_all {rows : List (List AV)} {n : Nat} (h : rows.length = n) (K : List (List AV) → Prop) : cutW rows n K = K rows := by
  subst h; simp [cutW]
@[simp] theorem appendW_nsl (wd b : Nat) (y : AV) : appendW wd b .nsl y H c K = srcW wd y H fun rows' => (rows' = [] → K .nsl H c) ∧ (rows' ≠ [] → rows'.length * b ≤ 140737488355328 ∧ rows'.length ≤ mx ∧ K (.ref H.length c wd rows'.length) (H ++ [⟨false, c, wd, rows'⟩]) (c + 1)) := (rfl)

theorem tr_fn {f : Nat} {l : List AV} {res : AV} (hf : Fnc P f l res) (hfr : ∀ c, From c res) : Tr P f l fun _ r => r = res := fun c => (hf c).mono fun r H' c' _ ⟨h1, h2⟩ => ⟨h2, h1, h1 ▸ hfr c⟩
theorem callD_fn0 {R : AV → Prop} {f : Nat} {l : List AV} {K : AV → Prop} {res : AV} (hf : Fnc P f l res) (hR : ∀ v, R v ↔ v = res) (hfr : ∀ c, From c res) (k : K res) : callD P R f l H c K :=
  ⟨l, Views.refl _ _, (fun c => (hf c).mono fun r H' c' _ ⟨h1, h2⟩ => ⟨h2, (hR r).2 h1, h1 ▸ hfr c⟩), ⟨res, (hR res).2 rfl, hfr c⟩, fun r hr _ => by rw [(hR r).1 hr]; exact k⟩
theorem callD_tree0 {R : AV → Prop} {f : Nat} {l : List AV} {K : AV → Prop} (hf : Tr P f l fun _ r => R r) (hx : ∃ r, R r ∧ From c r) (k : ∀ r, R r → From c r → K r) : callD P R f l H c K := ⟨l, Views.refl _ _, hf, hx, k⟩

theorem toStrW_ref {i t n : Nat} {l : List UInt8} {K : AV → Prop} (ho : H[i]? = some ⟨false, t, 1, l.map byteRow⟩) (hn : l.length = n) (hl : l.length ≤ mx) (k : K (.str l)) : toStrW (.ref i t 1 n) H K := by
  unfold toStrW
  simp only [srcW_ref]
  exact ⟨trivial, _, ho, rfl, rfl, rfl, by simp; omega, l, by rw [← hn]; exact List.take_of_length_le (by simp), hl, k⟩
theorem wrap_u8 {n : Nat} (h : n < 256) : IntKind.u8.wrap (IntKind.i64.wrap n) = ((UInt8.ofNat n).toNat : Int) := by
  rw [wrap64 (by omega) (by omega), IntKind.wrap_u8]
  simp [UInt8.toNat_ofNat']
/-- What a call gives, seen otherwise behind it. -/
theorem Con.fin {f : Nat} {args : List AV} {Q Q' : AV → List AObj → Nat → Prop} (h : Con P f args H c Q)
    (k : ∀ r H' c', c ≤ c' → Q r H' c' → (∀ t, t < c → t ∈ tags H' → t ∈ tags H) → (tags H').Nodup → finW Q' r H' c') : Con P f args H c Q' := by
  intro G w vs e I hs hr
  refine (h G w vs e I hs hr).mono fun en w' ⟨v, res, H', G1, h1, h2, x1, I1, r1⟩ => ?_
  subst e
  obtain ⟨S, Hk, Hk', v', q1, qr, q2, q3, q4, q5⟩ := k res H' G1.c x1.x.c h2 x1.oldH I1.nodup
  have hS : ∀ t, t ∈ tags S → t ∈ tags H' := fun t ht => by obtain ⟨o, ho, rfl⟩ := of_mem_tags ht; exact mem_tags (q2 o ho)
  exact ⟨v, v', Hk', G1.freeze S, h1, q5, ⟨x1.x.trans (Ext1.freeze _ _ _), x1.os, x1.tape, x1.output, x1.size, x1.frame, x1.newm, fun t h1 h2 => x1.oldH t h1 ((q1.map _).subset (by rw [qr.tags_eq] at h2; exact h2)), fun t h1 h2 => by
    rcases h2 with h2 | h2
    · exact x1.oldF t h1 h2
    · exact .inr (x1.oldH t h1 (hS t h2))⟩, I1.ren q1.subset q2 (I1.freeze q1 q2 q3) qr, q4.rep I1 q2 r1⟩

/-- A function that hands back objects of its own hands back trees of its own. -/
theorem tr_of {f : Nat} {args : List AV} {Q : AV → List AObj → Nat → Prop} {Q' : Nat → AV → Prop} (h : ∀ c, Con P f args [] c Q)
    (k : ∀ c r O c', c ≤ c' → Q r O c' → (∀ t, t ∈ tags O → c ≤ t) → ∃ v', View O r v' ∧ Q' c v' ∧ From c v') : Tr P f args Q' := by
  intro c
  refine (h c).fin fun r O c' hc hq ho hd => ?_
  obtain ⟨v', h1, h2, h3⟩ := k c r O c' hc hq fun t ht => by
    rcases Nat.lt_or_ge t c with h | h
    · have := ho t h ht; simp [tags] at this
    · exact h
  exact ⟨O, [], [], v', List.nil_sublist _, .nil, fun _ h => h, by simp [tags], h1, rfl, h2, h3⟩

theorem free_tup {l : List AV} (h : ∀ a, a ∈ l → Free a) : Free (.tup l) := fun T => .tup fun j a ha => h a (List.mem_of_getElem? ha) T
theorem free_bool (b : Bool) : Free (.bool b) := fun _ => .bool
theorem free_int (k : IntKind) (n : Int) : Free (.int k n) := fun _ => .int
theorem free_str (l : List UInt8) : Free (.str l) := fun _ => .str
theorem view_tup {S : List AObj} {l l' : List AV} (h : Views S l l') : View S (.tup l) (.tup l') := .tup h.spec.1 h.spec.2
theorem from_tup {c : Nat} {l : List AV} (h : ∀ a, a ∈ l → From c a) : From c (.tup l) := fun T hT => .tup fun j a ha => h a (List.mem_of_getElem? ha) T hT

section
variable {α : Type}
/-- A slice as0 an object at a place of the state. -/
def SL.at_ (i w : Nat) : SL α → AV
  | .nil => .nsl
  | .mk t xs => .ref i t w xs.length
theorem view_at (i w : Nat) (s : SL α) (S : List AObj) : View S (s.ref w) (s.at_ i w) := by cases s <;> constructor
theorem view_at' (i w : Nat) (s : SL α) (S : List AObj) : View S (s.at_ i w) (s.ref w) := by cases s <;> constructor
@[simp] theorem at_len (i w : Nat) (s : SL α) (K : AV → Prop) : lenSlcW (s.at_ i w) K = K (.int .i64 s.list.length) := by cases s <;> rfl
@[simp] theorem at_cells (i w : Nat) (s : SL α) (K : List AV → Prop) : cellsW (s.at_ i w) K = K [s.at_ i w] := by cases s <;> rfl
@[simp] theorem ref_cells (w : Nat) (s : SL α) (K : List AV → Prop) : cellsW (s.ref w) K = K [s.ref w] := by cases s <;> rfl
@[simp] theorem cell_at (i w : Nat) (s : SL α) : (s.at_ i w).cell = true := by cases s <;> rfl
@[simp] theorem cell_ref (w : Nat) (s : SL α) : (s.ref w).cell = true := by cases s <;> rfl
theorem isnl_av (neg : Bool) (w : Nat) (f : α → List AV) (s : SL α) (K : AV → Prop) (h0 : s.list = [] → K (.bool (true != neg))) (h1 : K (.bool (false != neg))) : isnlW neg (s.av w f) K := by
  cases s with
  | nil => exact h0 rfl
  | mk t l => cases l with
    | nil => exact ⟨h0 rfl, h1⟩
    | cons x l => exact h1

/-- Flat elements: cells that hang on nothing. -/
def Flat (enc : α → List AV) : Prop := ∀ x a, a ∈ enc x → a.cell = true ∧ Free a
theorem Flat.cells {enc : α → List AV} (h : Flat enc) : ∀ x a, a ∈ enc x → a.cell = true := fun x a ha => (h x a ha).1
theorem Free.from {a : AV} (h : Free a) (c : Nat) : From c a := fun T _ => h T
theorem flat_wood (t w : Nat) (enc : α → List AV) (l : List α) : (SL.mk t l).wood w enc noInn = [⟨false, t, w, l.map enc⟩] := wood_flat ..
theorem flat_free {enc : α → List AV} (h : Flat enc) (w : Nat) (s : SL α) : ∀ o, o ∈ s.wood w enc noInn → ∀ T, AvRows T o :=
  free_wood (fun x a ha => (h x a ha).2) (fun x o ho => by cases ho) s
theorem flat_from {enc : α → List AV} (h : Flat enc) {w c : Nat} {s : SL α} (ht : ∀ t, t ∈ tags (s.wood w enc noInn) → c ≤ t) : From c (s.av w enc) := by
  cases s with
  | nil => exact from_nsl c
  | mk t l =>
    refine from_slc (ht t ?_) fun row hr a ha => ?_
    · rw [flat_wood]; simp [tags]
    · obtain ⟨x, _, rfl⟩ := List.mem_map.1 hr
      exact ((h x a ha).2).from c
theorem flat_tr {enc : α → List AV} (hE : Flat enc) {w : Nat} {f : Nat} {args : List AV} {Q : SL α → Prop} (h : ∀ c, Con P f args [] c fun r O _ => ∃ b : SL α, r = b.ref w ∧ O = b.wood w enc noInn ∧ Q b) :
    Tr P f args fun _ r => ∃ b : SL α, r = b.av w enc ∧ Q b :=
  tr_of h fun c r O c' _ ⟨b, h1, h2, h3⟩ ht => ⟨b.av w enc, by rw [h1]; exact view_flat (by rw [h2]; exact fun _ h => h) hE.cells, ⟨b, rfl, h3⟩, flat_from hE (by rw [← h2]; exact ht)⟩
/-- The same with more results, which hang on nothing. -/
theorem flat_tr2 {enc : α → List AV} (hE : Flat enc) {w : Nat} {f : Nat} {args : List AV} {Q : SL α → List AV → Prop} (hF : ∀ b l, Q b l → ∀ a, a ∈ l → Free a)
    (h : ∀ c, Con P f args [] c fun r O _ => ∃ (b : SL α) (l : List AV), r = .tup (b.ref w :: l) ∧ O = b.wood w enc noInn ∧ Q b l) :
    Tr P f args fun _ r => ∃ (b : SL α) (l : List AV), r = .tup (b.av w enc :: l) ∧ Q b l :=
  tr_of h fun c r O c' _ ⟨b, l, h1, h2, h3⟩ ht => ⟨.tup (b.av w enc :: l), by rw [h1]; exact view_tup (.cons (view_flat (by rw [h2]; exact fun _ h => h) hE.cells) (Views.refl _ _)), ⟨b, l, rfl, h3⟩,
    from_tup fun a ha => by
      rcases List.mem_cons.1 ha with rfl | ha
      · exact flat_from hE (by rw [← h2]; exact ht)
      · exact (hF b l h3 a ha).from c⟩

theorem flat_marks {enc : α → List AV} {w : Nat} (mk : Int → α → α) (cnt : α → Nat) (k : Int) (s : SL α) : tags ((s.marks mk cnt k).wood w enc noInn) = tags (s.wood w enc noInn) := tags_wood (inn := noInn) (mk := mk) (cnt := cnt) (fun _ _ => rfl) k s
end
end
end A
end Go.Proofs.YtfcimcoanlgldaaDoor

/-
  Slices: copies by append, changes in place, what is kept of one. No condition.
-/

namespace Go.Proofs.YtfcimcoanlgldaaDoor
namespace A
set_option linter.unusedVariables false
set_option linter.unusedSimpArgs false

/-- slices.Clone. -/
def cloneF (w : Nat) (z : List AV) (b : Nat) : Fun := ⟨8,
  .seq (.reg [o 2 (.mv (.c .nsl))])
  (.seq (.seq (.reg [o 3 (.mv (.t 0)), o 4 (.isnl false (.t 3))])
  (.cond (.t 4) (.seq (.reg [o 2 (.mv (.c .nsl))])
   (.ret)) (.skip)))
  (.seq (.reg [o 5 (.bslice w z 0 []), o 6 (.mv (.t 0)), o 7 (.append w b (.t 5) (.t 6)), o 2 (.mv (.t 7))])
  (.ret))),
  [.tmp 2]⟩

theorem sub_one {α : Type} (a : α) (l : List α) : [a].Sublist (a :: l) := (List.nil_sublist l).cons_cons a
theorem sub_two {α : Type} (a b : α) (l : List α) : [a, b].Sublist (a :: b :: l) := (sub_one b l).cons_cons a

@[simp] theorem getW_len {α : Type} (L M : List α) (x : α) (K : α → Prop) : getW (L ++ x :: M) L.length K = K x := getW_of (by rw [List.getElem?_append_right (Nat.le_refl _)]; simp) K
@[simp] theorem set_len {α : Type} (L M : List α) (x y : α) : (L ++ x :: M).set L.length y = L ++ y :: M := by
  rw [List.set_append_right _ _ (Nat.le_refl _), Nat.sub_self, List.set_cons_zero]
@[simp] theorem getW_len1 {α : Type} (L M : List α) (x y : α) (K : α → Prop) : getW (L ++ x :: y :: M) (L.length + 1) K = K y := getW_of (by rw [List.getElem?_append_right (by omega)]; simp) K
@[simp] theorem set_len1 {α : Type} (L M : List α) (x y z : α) : (L ++ x :: y :: M).set (L.length + 1) z = L ++ x :: z :: M := by
  rw [List.set_append_right _ _ (by omega)]; simp
@[simp] theorem getW_len2 {α : Type} (L M : List α) (x y z : α) (K : α → Prop) : getW (L ++ x :: y :: z :: M) (L.length + 2) K = K z := getW_of (by rw [List.getElem?_append_right (by omega)]; simp) K
@[simp] theorem getW_len2' {α : Type} (L M : List α) (x y z : α) (K : α → Prop) : getW (L ++ x :: y :: z :: M) (L.length + 1 + 1) K = K z := getW_len2 L M x y z K
/-- Some of the objects are let go. -/
theorem fin_sub {Q : AV → List AObj → Nat → Prop} {v v' : AV} {H Hk : List AObj} {c : Nat} (hs : Hk.Sublist H) (hv : View [] v v') (h : Q v' Hk c) : finW Q v H c := ⟨[], Hk, Hk, v', hs, .refl _ _, by simp, by simp [tags], hv, h⟩
/-- Some of the objects are let go, those that stay are named anew. -/
theorem fin_ren {Q : AV → List AObj → Nat → Prop} {v v' : AV} {H Hk Hk' : List AObj} {c : Nat} (hs : Hk.Sublist H) (hr : Rens [] Hk Hk') (hv : View [] v v') (h : Q v' Hk' c) : finW Q v H c := ⟨[], Hk, Hk', v', hs, hr, by simp, by simp [tags], hv, h⟩

section
variable {α : Type}
def SL.lmap (f : List α → List α) : SL α → SL α
  | .nil => .nil
  | .mk t l => .mk t (f l)
theorem ref_mk (t w : Nat) (l : List α) : (SL.mk t l).ref w = .ref 0 t w l.length := rfl
theorem ref_nil (w : Nat) : (SL.nil : SL α).ref w = .nsl := rfl
theorem SL.lmap_list {f : List α → List α} (h : f [] = []) (s : SL α) : (s.lmap f).list = f s.list := by cases s <;> simp [SL.lmap, h]
theorem SL.wood_lmap (w : Nat) (enc : α → List AV) (s : SL α) : (s.lmap id).wood w enc noInn = s.wood w enc noInn := by cases s <;> rfl

section
variable {P : Program} {enc : α → List AV} {w b f : Nat} {z : List AV}
theorem clone_con (hf : compF P f = some (cloneF w z b)) {s : SL α} (hn : s.list.length * b ≤ 140737488355328) (hn' : s.list.length ≤ mx) (c : Nat) :
    Con P f [s.av w enc] [] c fun r O _ => ∃ x : SL α, r = x.ref w ∧ O = x.wood w enc noInn ∧ x.list = s.list := by
  refine con_of hf (by simp [cloneF]) ?_
  unfold cloneF
  simp
  refine isnl_av _ _ _ _ _ (fun h => ?_) ?_
  · simp
    exact fin_all ⟨.nil, rfl, rfl, by rw [h]; rfl⟩
  · simp
    exact ⟨hn, hn', fin_all ⟨.mk (c + 1) s.list, by simp [SL.ref], by simp [flat_wood], rfl⟩⟩
theorem clone_tr (hf : compF P f = some (cloneF w z b)) (hE : Flat enc) {s : SL α} (hn : s.list.length * b ≤ 140737488355328) (hn' : s.list.length ≤ mx) : Tr P f [s.av w enc] fun _ r => ∃ x : SL α, r = x.av w enc ∧ x.list = s.list :=
  flat_tr hE (clone_con hf hn hn')
end

/-- Changed up to an index. -/
def mixM (f : α → α) (l : List α) (i : Nat) : List α := (l.take i).map f ++ l.drop i
theorem mixM_zero (f : α → α) (l : List α) : mixM f l 0 = l := by simp [mixM]
theorem mixM_all (f : α → α) (l : List α) : mixM f l l.length = l.map f := by simp [mixM]
@[simp] theorem mixM_len (f : α → α) (l : List α) (i : Nat) : (mixM f l i).length = l.length := by simp [mixM]; omega
@[simp] theorem mixM_nil (f : α → α) (i : Nat) : mixM f [] i = [] := by simp [mixM]
theorem mixM_get (f : α → α) {l : List α} {i : Nat} (h : i < l.length) : (mixM f l i)[i]? = some l[i] := by
  unfold mixM
  rw [List.getElem?_append_right (by simp; omega)]
  simp [h, Nat.min_eq_left (Nat.le_of_lt h)]
theorem mixM_set (f : α → α) {l : List α} {i : Nat} (h : i < l.length) : (mixM f l i).set i (f l[i]) = mixM f l (i + 1) := by
  unfold mixM
  rw [List.set_append_right _ _ (by simp; omega), List.length_map, List.length_take, Nat.min_eq_left (by omega), Nat.sub_self, List.drop_eq_getElem_cons h, List.set_cons_zero, List.take_succ_eq_append_getElem h, List.map_append]
  simp
theorem mixM_same (f : α → α) {l : List α} {i : Nat} (h : i < l.length) (e : f l[i] = l[i]) : mixM f l i = mixM f l (i + 1) := by
  have := mixM_set f h
  rw [e] at this
  rw [← this]
  refine List.ext_getElem? fun j => ?_
  by_cases hj : j = i
  · subst hj; rw [mixM_get f h, List.getElem?_set_self (by simp; exact h)]
  · rw [List.getElem?_set_ne (by omega)]

/-- Kept up to an index. -/
theorem filter_step (p : α → Bool) {l : List α} {i : Nat} (h : i < l.length) : (l.take (i + 1)).filter p = (l.take i).filter p ++ (if p l[i] then [l[i]] else []) := by
  rw [List.take_succ_eq_append_getElem h, List.filter_append]
  by_cases hp : p l[i] = true <;> simp [hp]
end
/-! ### the ends of the laws: marks on what was handed in, on what was handed back -/
section
variable {P : Program} {K : AV → List AObj → Nat → Prop} {α : Type} {enc encO : α → List AV} {inn : α → List AObj} {w f : Nat} {mk : Int → α → α} {cnt : α → Nat}
theorem call_midr {f : Nat} {l l' : List AV} {a : AObj} {A B C : List AObj} {c : Nat} {Q : AV → List AObj → Nat → Prop} (hf : Con P f l' B c Q) (hv : Views [] l l')
    (k : ∀ r B' c', c ≤ c' → Q r B' c' → tags B' = tags B ∧ Av [] r ∧ (∀ o, o ∈ B' → AvRows [] o) ∧ K r (a :: (A ++ (B' ++ C))) c') : CallW P f l (a :: (A ++ (B ++ C))) c K := by
  have e : ∀ X : List AObj, a :: (A ++ (X ++ C)) = (a :: A) ++ X ++ C := fun X => by simp
  rw [e]
  exact call_mid hf hv fun r B' c' hc hq => by rw [← e]; exact k r B' c' hc hq
theorem SL.marks_ref (k : Int) (s : SL α) : (s.marks mk cnt k).ref w = s.ref w := by cases s <;> simp [SL.marks, SL.ref, mks_len]
theorem view_marks {S : List AObj} {s : SL α} {k : Int} (hs : ∀ o, o ∈ (s.marks mk cnt k).wood w enc noInn → o ∈ S) (hc : ∀ x a, a ∈ enc x → a.cell = true) : View S (s.ref w) ((s.marks mk cnt k).av w enc) := by
  rw [← SL.marks_ref (mk := mk) (cnt := cnt) k s]
  exact view_flat hs hc
theorem mark_mid {A C : List AObj} {s : SL α} {k n : Int} {c : Nat} (hf : Con P f [s.ref w, .int .i64 k] (s.wood w encO inn) c fun r H' _ => r = .int .i64 n ∧ H' = (s.marks mk cnt k).wood w encO inn)
    (hi : ∀ k x, tags (inn (mk k x)) = tags (inn x)) (hO : ∀ x a, a ∈ encO x → Free a) (hI : ∀ x o, o ∈ inn x → ∀ T, AvRows T o) (kk : ∀ c', c ≤ c' → K (.int .i64 n) (A ++ (s.marks mk cnt k).wood w encO inn ++ C) c') :
    CallW P f [s.ref w, .int .i64 k] (A ++ s.wood w encO inn ++ C) c K :=
  call_mid hf (Views.refl _ _) fun r B' c' hc ⟨h1, h2⟩ => by
    subst h1; subst h2
    exact ⟨tags_wood hi _ s, .int, fun o ho => free_wood hO hI _ o ho _, kk c' hc⟩
theorem mark_first {C : List AObj} {s : SL α} {k n : Int} {c : Nat} (hE : Flat enc) (hf : Con P f [s.ref w, .int .i64 k] (s.wood w enc noInn) c fun r H' _ => r = .int .i64 n ∧ H' = (s.marks mk cnt k).wood w enc noInn)
    (kk : ∀ c', c ≤ c' → K (.int .i64 n) ((s.marks mk cnt k).wood w enc noInn ++ C) c') : CallW P f [s.ref w, .int .i64 k] (s.wood w enc noInn ++ C) c K :=
  mark_mid (A := []) hf (fun _ _ => rfl) (fun x a ha => (hE x a ha).2) (fun x o ho => by cases ho) kk
theorem mark_last {A : List AObj} {s : SL α} {k n : Int} {c : Nat} (hE : Flat enc) (hf : Con P f [s.ref w, .int .i64 k] (s.wood w enc noInn) c fun r H' _ => r = .int .i64 n ∧ H' = (s.marks mk cnt k).wood w enc noInn)
    (kk : ∀ c', c ≤ c' → K (.int .i64 n) (A ++ (s.marks mk cnt k).wood w enc noInn) c') : CallW P f [s.ref w, .int .i64 k] (A ++ s.wood w enc noInn) c K := by
  have := mark_mid (A := A) (C := []) (K := K) hf (fun _ _ => rfl) (fun x a ha => (hE x a ha).2) (fun x o ho => by cases ho) (by simpa using kk)
  simpa using this
end
end A
end Go.Proofs.YtfcimcoanlgldaaDoor

/-
  Ranges, and what is asked of all elements. No condition.
-/


namespace Go.Proofs.YtfcimcoanlgldaaDoor
namespace A
set_option linter.unusedVariables false
set_option linter.unusedSimpArgs false
set_option maxRecDepth 100000

def inR (x lo hi : Int) : Bool := decide (lo ≤ x) && decide (x ≤ hi)

theorem l1In_fn (x lo hi : Int) : Fnc Tryd.prog 91 [.int .i64 x, .int .i64 lo, .int .i64 hi] (.bool (inR x lo hi)) := by
  refine fn_of c91 (by simp [F91]) fun c => ?_
  unfold F91 inR
  by_cases h1 : lo ≤ x <;> simp [h1] <;> exact fin_plain ⟨rfl, rfl⟩
theorem inRange_fn (x lo hi : Int) : Fnc Tryd.prog 93 [.int .i64 x, .int .i64 lo, .int .i64 hi] (.bool (inR x lo hi)) := by
  refine fn_of c93 (by simp [F93]) fun c => ?_
  unfold F93 inR
  by_cases h1 : lo ≤ x <;> simp [h1] <;> exact fin_plain ⟨rfl, rfl⟩
theorem inR_true {x lo hi : Int} (h : inR x lo hi = true) : lo ≤ x ∧ x ≤ hi := by simpa [inR] using h

theorem all_step {α : Type} {p : α → Bool} {l : List α} {i : Nat} (h : (l.take i).all p = true) (hi : i < l.length) (hx : p l[i] = true) : (l.take (i + 1)).all p = true := by
  rw [List.take_succ_eq_append_getElem hi, List.all_append, h]; simp [hx]
end A
end Go.Proofs.YtfcimcoanlgldaaDoor

/-
  Cutting a text at another: plain laws. No condition.
-/


namespace Go.Proofs.YtfcimcoanlgldaaDoor
namespace A
set_option linter.unusedVariables false
set_option linter.unusedSimpArgs false

theorem split_miss {s sep : List UInt8} (h : Lib.index s sep = -1) : Lib.split s sep = [s] := by
  unfold Lib.split; rw [Lib.count_miss h]; rfl
theorem split_hit {s sep : List UInt8} {i : Nat} (hs : sep ≠ []) (h : Lib.index s sep = i) : Lib.split s sep = s.take i :: Lib.split (s.drop (i + sep.length)) sep := by
  have hm : ¬ (Lib.index s sep == -1) = true := fun e => by have := beq_iff_eq.1 e; omega
  have e : (Lib.index s sep).toNat = i := by omega
  unfold Lib.split
  rw [Lib.count_hit hs h, Nat.add_comm, Lib.splitK, if_neg hm, e]
  rfl
theorem occ_drop (l sep : List UInt8) (a j : Nat) : Lib.occAt (l.drop a) sep j = Lib.occAt l sep (a + j) := by
  unfold Lib.occAt; rw [List.drop_drop]
theorem drop_take' (l : List UInt8) (a i : Nat) : (l.drop a).take (i - a) = (l.take i).drop a := by
  rw [List.drop_take]
theorem index_at {l sep : List UInt8} {a i : Nat} (ha : a ≤ i) (hi : i ≤ l.length) (hno : ∀ j, a ≤ j → j < i → Lib.occAt l sep j = false) (ho : Lib.occAt l sep i = true) : Lib.index (l.drop a) sep = ((i - a : Nat) : Int) := by
  refine Lib.index_first (by simp; omega) (by rw [occ_drop, show a + (i - a) = i by omega]; exact ho) fun j hj => ?_
  rw [occ_drop]
  exact hno _ (by omega) (by omega)
theorem split_at {l sep : List UInt8} {a i : Nat} (hs : sep ≠ []) (ha : a ≤ i) (hi : i ≤ l.length) (hno : ∀ j, a ≤ j → j < i → Lib.occAt l sep j = false) (ho : Lib.occAt l sep i = true) :
    Lib.split (l.drop a) sep = (l.take i).drop a :: Lib.split (l.drop (i + sep.length)) sep := by
  rw [split_hit hs (index_at ha hi hno ho), drop_take', List.drop_drop, show a + (i - a + sep.length) = i + sep.length by omega]
theorem occ_end {l sep : List UInt8} (hs : sep ≠ []) {i : Nat} (hi : l.length ≤ i) : Lib.occAt l sep i = false := by
  cases h : Lib.occAt l sep i
  · rfl
  · have := Lib.occAt_room h
    have h2 : sep.length ≠ 0 := fun e => hs (List.length_eq_zero_iff.1 e)
    rcases this with h1 | h1
    · omega
    · exact absurd h1 hs
theorem index_no {l sep : List UInt8} {a : Nat} (hs : sep ≠ []) (hno : ∀ j, a ≤ j → j < l.length → Lib.occAt l sep j = false) : Lib.index (l.drop a) sep = -1 := by
  refine Lib.index_none fun j hj => ?_
  rw [occ_drop]
  rcases Nat.lt_or_ge (a + j) l.length with h | h
  · exact hno _ (by omega) h
  · exact occ_end hs h
theorem split_end {l sep : List UInt8} {a : Nat} (hs : sep ≠ []) (hno : ∀ j, a ≤ j → j < l.length → Lib.occAt l sep j = false) : Lib.split (l.drop a) sep = [l.drop a] := split_miss (index_no hs hno)
theorem occ_room {l sep : List UInt8} (hs : sep ≠ []) {i : Nat} (h : Lib.occAt l sep i = true) : i + sep.length ≤ l.length := (Lib.occAt_room h).resolve_right hs

/-- where a byte stands first, or the end -/
def upTo (b : UInt8) (l : List UInt8) : Nat := (l.takeWhile (fun x => !decide (x = b))).length
theorem upTo_le (b : UInt8) (l : List UInt8) : upTo b l ≤ l.length := by
  unfold upTo
  exact (List.takeWhile_sublist _).length_le
theorem upTo_eq {b : UInt8} : ∀ {l : List UInt8} {i : Nat}, i ≤ l.length → (∀ j, j < i → l[j]? ≠ some b) → (i = l.length ∨ l[i]? = some b) → upTo b l = i
  | [], i, hi, _, _ => by simp at hi; subst hi; rfl
  | x :: l, 0, _, _, h => by
    rcases h with h | h
    · simp at h
    · simp at h; subst h; simp [upTo]
  | x :: l, i + 1, hi, hn, h => by
    have h0 := hn 0 (by omega)
    simp at h0
    have ih := upTo_eq (b := b) (l := l) (i := i) (by simpa using hi) (fun j hj => by simpa using hn (j + 1) (by omega)) (by simpa using h)
    unfold upTo at ih ⊢
    simp [h0, ih]
theorem upTo_spec (b : UInt8) : ∀ (l : List UInt8), (∀ j, j < upTo b l → l[j]? ≠ some b) ∧ (upTo b l = l.length ∨ l[upTo b l]? = some b)
  | [] => by simp [upTo]
  | x :: l => by
    by_cases h : x = b
    · subst h; simp [upTo]
    · obtain ⟨h1, h2⟩ := upTo_spec b l
      have e : upTo b (x :: l) = upTo b l + 1 := by simp [upTo, h]
      rw [e]
      refine ⟨fun j hj => ?_, by simpa using h2⟩
      cases j with
      | zero => simpa using h
      | succ j => simpa using h1 j (by omega)
theorem occ_one (l : List UInt8) (b : UInt8) (i : Nat) : Lib.occAt l [b] i = decide (l[i]? = some b) := by
  unfold Lib.occAt
  cases h : l.drop i with
  | nil =>
    have : l[i]? = none := by
      rw [List.getElem?_eq_none_iff]
      have := List.drop_eq_nil_iff.1 h
      exact this
    simp [this]
  | cons x r =>
    have : l[i]? = some x := by
      have h2 : (l.drop i)[0]? = some x := by rw [h]; rfl
      simpa using h2
    rw [this]
    simp only [List.isPrefixOf, Bool.and_true, Option.some.injEq]
    by_cases hx : b = x
    · subst hx; simp
    · have : ¬ x = b := fun e => hx e.symm
      simp [hx, this]
theorem cut_one (b : UInt8) (l : List UInt8) : (Lib.cut l [b]).1 = l.take (upTo b l) ∧ (Lib.cut l [b]).2.1 = l.drop (upTo b l + 1) := by
  obtain ⟨h1, h2⟩ := upTo_spec b l
  unfold Lib.cut
  rcases h2 with h2 | h2
  · have : Lib.index l [b] = -1 := Lib.index_none fun j hj => by
      rw [occ_one]
      rcases Nat.lt_or_ge j l.length with h | h
      · simpa using h1 j (by omega)
      · simp [h]
    rw [this, if_neg (by omega), h2]
    simp
  · have : Lib.index l [b] = upTo b l := Lib.index_first (upTo_le b l) (by rw [occ_one]; simpa using h2) fun j hj => by rw [occ_one]; simpa using h1 j hj
    rw [this, if_pos (by omega)]
    simp
end A
end Go.Proofs.YtfcimcoanlgldaaDoor

/-
  A response's text, read back: plain laws of texts. No condition.
-/

namespace Go.Proofs.YtfcimcoanlgldaaDoor
namespace A
set_option linter.unusedVariables false
set_option linter.unusedSimpArgs false
set_option maxRecDepth 100000

def noB (b : UInt8) (l : List UInt8) : Prop := ∀ x, x ∈ l → x ≠ b
theorem noB_at {b : UInt8} {l : List UInt8} (h : noB b l) {j : Nat} (hj : j < l.length) : l[j]? ≠ some b := by
  rw [List.getElem?_eq_getElem hj]
  intro e
  exact h _ (List.getElem_mem hj) (Option.some.inj e)
theorem noB_app {b : UInt8} {l m : List UInt8} (h : noB b l) (h' : noB b m) : noB b (l ++ m) := fun x hx => by
  rcases List.mem_append.1 hx with h1 | h1
  · exact h x h1
  · exact h' x h1
theorem occ_here (p sep t : List UInt8) : Lib.occAt (p ++ (sep ++ t)) sep p.length = true := by
  unfold Lib.occAt
  rw [List.drop_left]
  exact List.isPrefixOf_iff_prefix.2 (List.prefix_append _ _)
theorem index_here {p sep t : List UInt8} (hno : ∀ j, j < p.length → Lib.occAt (p ++ (sep ++ t)) sep j = false) : Lib.index (p ++ (sep ++ t)) sep = p.length :=
  Lib.index_first (by simp) (occ_here p sep t) hno
theorem cut_here {p sep t : List UInt8} (hno : ∀ j, j < p.length → Lib.occAt (p ++ (sep ++ t)) sep j = false) : Lib.cut (p ++ (sep ++ t)) sep = (p, t, true) := by
  unfold Lib.cut
  rw [index_here hno, if_pos (by omega)]
  simp
theorem no_occ {p t : List UInt8} {c : UInt8} {u : List UInt8} (h : noB c p) : ∀ j, j < p.length → Lib.occAt (p ++ t) (c :: u) j = false := fun j hj => by
  cases ho : Lib.occAt (p ++ t) (c :: u) j
  · rfl
  · have := Lib.occAt_head rfl ho
    rw [List.getElem?_append_left hj] at this
    exact absurd this (noB_at h hj)
/-- A text before the first of a separator's bytes. -/
theorem cut_first {p t : List UInt8} {c : UInt8} {u : List UInt8} (h : noB c p) : Lib.cut (p ++ (c :: u ++ t)) (c :: u) = (p, t, true) := cut_here (no_occ h)

/-! ### lines -/
def jn : List (List UInt8) → List UInt8
  | [] => []
  | [l] => l
  | l :: m :: r => l ++ ([13, 10] ++ jn (m :: r))
theorem jn_head {m : List UInt8} (r : List (List UInt8)) (h : m ≠ []) (t : List UInt8) : (jn (m :: r) ++ t)[0]? = m[0]? := by
  cases m with
  | nil => exact absurd rfl h
  | cons x m => cases r <;> simp [jn]
theorem jn_noX : ∀ (ls : List (List UInt8)) (t : List UInt8), (∀ l, l ∈ ls → noB 13 l ∧ l ≠ []) → ∀ j, j < (jn ls).length → ¬ ((jn ls ++ 13 :: 10 :: 13 :: 10 :: t)[j]? = some 13 ∧ (jn ls ++ 13 :: 10 :: 13 :: 10 :: t)[j + 2]? = some 13)
  | [], t, h, j, hj => by simp [jn] at hj
  | [l], t, h, j, hj => fun ⟨h1, _⟩ => by
    have hl := (h l (by simp)).1
    simp only [jn] at hj h1
    rw [List.getElem?_append_left hj] at h1
    exact noB_at hl hj h1
  | l :: m :: r, t, h, j, hj => fun ⟨h1, h2⟩ => by
    have hl := (h l (by simp)).1
    have hm := h m (by simp)
    have ih := jn_noX (m :: r) t fun x hx => h x (List.mem_cons_of_mem _ hx)
    have e : jn (l :: m :: r) ++ 13 :: 10 :: 13 :: 10 :: t = l ++ (13 :: 10 :: (jn (m :: r) ++ 13 :: 10 :: 13 :: 10 :: t)) := by simp [jn]
    have hlen : (jn (l :: m :: r)).length = l.length + (2 + (jn (m :: r)).length) := by simp [jn]; omega
    rw [e] at h1 h2
    rcases Nat.lt_or_ge j l.length with hj1 | hj1
    · rw [List.getElem?_append_left hj1] at h1
      exact noB_at hl hj1 h1
    · rw [List.getElem?_append_right hj1] at h1
      rw [List.getElem?_append_right (by omega)] at h2
      obtain ⟨k, rfl⟩ : ∃ k, j = l.length + k := ⟨j - l.length, by omega⟩
      rw [Nat.add_sub_cancel_left] at h1
      rw [show l.length + k + 2 - l.length = k + 2 by omega] at h2
      match k, h1, h2 with
      | 0, h1, h2 =>
        simp only [Nat.zero_add, List.getElem?_cons_succ] at h2
        rw [jn_head r hm.2] at h2
        have : 0 < m.length := List.length_pos_iff.2 hm.2
        exact noB_at hm.1 this h2
      | 1, h1, h2 => simp at h1
      | k + 2, h1, h2 =>
        simp only [List.getElem?_cons_succ] at h1 h2
        exact ih k (by omega) ⟨h1, h2⟩
theorem occ_third {s : List UInt8} {i : Nat} {c0 c1 c2 : UInt8} {t : List UInt8} (h : Lib.occAt s (c0 :: c1 :: c2 :: t) i = true) : s[i + 2]? = some c2 := by
  unfold Lib.occAt at h
  obtain ⟨r, hr⟩ := List.isPrefixOf_iff_prefix.1 h
  have := congrArg (fun l : List UInt8 => l[2]?) hr
  simp at this
  rw [show i + 2 = i + 2 from rfl, this]
/-- The head, cut off. -/
theorem cut_head {ls : List (List UInt8)} (t : List UInt8) (h : ∀ l, l ∈ ls → noB 13 l ∧ l ≠ []) : Lib.cut (jn ls ++ ([13, 10, 13, 10] ++ t)) [13, 10, 13, 10] = (jn ls, t, true) :=
  cut_here fun j hj => by
    cases ho : Lib.occAt (jn ls ++ ([13, 10, 13, 10] ++ t)) [13, 10, 13, 10] j
    · rfl
    · exact absurd ⟨Lib.occAt_head rfl ho, occ_third ho⟩ (jn_noX ls t h j hj)
/-- The lines, one by one. -/
theorem split_jn : ∀ (ls : List (List UInt8)), ls ≠ [] → (∀ l, l ∈ ls → noB 13 l) → Lib.split (jn ls) [13, 10] = ls
  | [], h, _ => absurd rfl h
  | [l], _, h => by
    have hl := h l (by simp)
    refine split_miss (Lib.index_none fun j _ => ?_)
    cases ho : Lib.occAt (jn [l]) [13, 10] j
    · rfl
    · have h1 := Lib.occAt_head rfl ho
      have h2 : j < l.length := by
        rcases Nat.lt_or_ge j l.length with h3 | h3
        · exact h3
        · simp only [jn] at h1; rw [List.getElem?_eq_none h3] at h1; cases h1
      exact absurd h1 (noB_at hl h2)
  | l :: m :: r, _, h => by
    have hl := h l (by simp)
    have ih := split_jn (m :: r) (by simp) fun x hx => h x (List.mem_cons_of_mem _ hx)
    have hi := index_here (sep := [13, 10]) (t := jn (m :: r)) (no_occ (u := [10]) hl (t := [13, 10] ++ jn (m :: r)))
    show Lib.split (l ++ ([13, 10] ++ jn (m :: r))) [13, 10] = _
    rw [split_hit (by simp) hi]
    simp [ih]
end A
end Go.Proofs.YtfcimcoanlgldaaDoor

/-
  The types that the laws of this seat speak of, and the helpers over them: printed by a program (wip/tools/gen.py). No condition.
-/


namespace Go.Proofs.YtfcimcoanlgldaaDoor
namespace A
set_option linter.unusedVariables false
set_option linter.unusedSimpArgs false
set_option maxRecDepth 100000

structure THeader where
  Name : List UInt8
  Value : List UInt8
def THeader.enc (s : THeader) : List AV := [.str s.Name, .str s.Value]
@[simp] theorem THeader.len (s : THeader) : s.enc.length = 2 := (rfl)
@[simp] theorem THeader.all (s : THeader) : s.enc.take 2 = s.enc := (rfl)
@[simp] theorem THeader.g0 (s : THeader) (K : AV → Prop) : getW s.enc 0 K = K (.str s.Name) := by simp [THeader.enc]
@[simp] theorem THeader.g1 (s : THeader) (K : AV → Prop) : getW s.enc 1 K = K (.str s.Value) := by simp [THeader.enc]
theorem THeader.cells (s : THeader) : ∀ a, a ∈ s.enc → a.cell = true := by simp [THeader.enc]
def THeader.sz (s : THeader) : Nat := s.Name.length + s.Value.length
def THeader.ok (s : THeader) : Prop := s.Name.length ≤ mx ∧ s.Value.length ≤ mx
def THeader.con (s : THeader) : THeader := s
theorem THeader.sz_con (s : THeader) : s.con.sz = s.sz := rfl
theorem THeader.sh : ∀ (n : Nat) (row : List AV), ShC Tryd.prog n 129 row → ∃ s : THeader, row = s.enc ∧ s.ok := by
  intro n row h
  obtain ⟨m, hl, hf⟩ := sh_fields (l := [(9, 0), (9, 1)]) (by kernel_rfl) h
  have hl' : row.length = 2 := hl.trans (by kernel_rfl)
  match row, hl' with
  | [x0, x1], _ =>
    have h0 := hf (9, 0) (by simp)
    rw [show Tryd.prog.cellsOf 9 = 1 by kernel_rfl] at h0
    obtain ⟨v0, rfl, k0⟩ := sh_str (t := 9) (by kernel_rfl) (show ShC Tryd.prog m 9 [x0] from h0)
    have h1 := hf (9, 1) (by simp)
    rw [show Tryd.prog.cellsOf 9 = 1 by kernel_rfl] at h1
    obtain ⟨v1, rfl, k1⟩ := sh_str (t := 9) (by kernel_rfl) (show ShC Tryd.prog m 9 [x1] from h1)
    exact ⟨⟨v0, v1⟩, rfl, ⟨k0, k1⟩⟩
theorem THeader.sz_fn {s : THeader} (hs : s.ok) {left : Int} (hl : Room left) : Fnc Tryd.prog 114 [.agg s.enc, .int .i64 left] (.int .i64 (szOf s.sz left)) := by
  unfold THeader.ok at hs
  have hr := hl.2
  refine fn_of c114 (by simp [F114]) fun c => ?_
  unfold F114
  simp
  rw [szOf_wrap hs.1 hl]
  refine ⟨fun h => fin_plain ⟨by rw [szOf_neg (by simp only [THeader.sz]; omega)], rfl⟩, fun h => ?_⟩
  rw [szOf_wrap hs.2 ⟨by omega, by omega⟩]
  refine ⟨fun h => fin_plain ⟨by rw [szOf_neg (by simp only [THeader.sz]; omega)], rfl⟩, fun h => ?_⟩
  have hz : s.sz = s.Name.length + s.Value.length := rfl
  have e : szOf s.sz left = left - (s.Name.length : Int) - (s.Value.length : Int) := by
    unfold szOf
    rw [if_pos (by omega)]
    omega
  exact fin_plain ⟨by rw [e], rfl⟩
theorem THeader.to_fn {s : THeader} (h : s.sz ≤ 1048576) : Tr Tryd.prog 118 [.agg s.enc] fun _ r => ∃ b : THeader, r = .agg b.enc ∧ b.con = s.con := by
  simp only [THeader.sz] at h
  intro c
  refine con_of c118 (by simp [F118]) ?_
  unfold F118
  simp [putA]
  refine fin_plain ⟨rfl, ⟨⟨s.Name, s.Value⟩, rfl, ?_⟩, from_agg ?_⟩
  · rfl
  · simp
theorem THeader.eq_fn {a b : THeader} (h : a.sz ≤ 1099511627776) (he : a.con = b.con) : Fnc Tryd.prog 121 [.agg a.enc, .agg b.enc] (.bool true) := by
  simp only [THeader.sz] at h
  have e0 : a.Name = b.Name := (congrArg THeader.Name he : a.con.Name = b.con.Name)
  have e1 : a.Value = b.Value := (congrArg THeader.Value he : a.con.Value = b.con.Value)
  refine fn_of c121 (by simp [F121]) fun c => ?_
  unfold F121
  simp [e0, e1]
  exact fin_plain ⟨rfl, rfl⟩
def szHeaderS (s : SL THeader) : Nat := s.list.length + szL THeader.sz s.list
def okHeaderS (s : SL THeader) : Prop := s.list.length ≤ mx ∧ ∀ x, x ∈ s.list → THeader.ok x
theorem szHeaderS_con {s t : SL THeader} (h : s.list.map THeader.con = t.list.map THeader.con) : szHeaderS s = szHeaderS t := by
  unfold szHeaderS
  rw [← szL_map (con := THeader.con) THeader.sz_con s.list, ← szL_map (con := THeader.con) THeader.sz_con t.list, h]
  have := congrArg List.length h; simp at this; rw [this]
theorem shHeaderS {n : Nat} {a : AV} (h : ShC Tryd.prog n 28 [a]) : ∃ s : SL THeader, a = s.av 2 THeader.enc ∧ okHeaderS s := by
  obtain ⟨s, h1, h2, h3⟩ := sh_slc (P := Tryd.prog) (t := 28) (el := 129) (w := 2) (enc := THeader.enc) (ok := THeader.ok) (by kernel_rfl) (by kernel_rfl) (THeader.sh) h
  exact ⟨s, h1, h2, h3⟩
theorem szHeaderS_fn {s : SL THeader} (hs : okHeaderS s) {left : Int} (hl : Room left) : Fnc Tryd.prog 54 [s.av 2 THeader.enc, .int .i64 left] (.int .i64 (szOf (szHeaderS s) left)) :=
  szS_fn (g := 114) c54 (fun _ => rfl) hs.1 hl fun x hx left hl => THeader.sz_fn (hs.2 x hx) hl
theorem toHeaderS_fn {s : SL THeader} (h : szHeaderS s ≤ 1048576) : Tr Tryd.prog 57 [s.av 2 THeader.enc] fun _ r => ∃ b : SL THeader, r = b.av 2 THeader.enc ∧ b.list.map THeader.con = s.list.map THeader.con := by
  unfold szHeaderS at h
  exact toS_fn (g := 118) (z := [.str [], .str []]) (bytes := 32) c57 rfl (fun _ => rfl) (fun x => THeader.cells x) (by omega) (by omega) fun x hx => THeader.to_fn (by have := szL_mem (sz := THeader.sz) hx; omega)
theorem eqHeaderS_fn {s t : SL THeader} (h : szHeaderS s ≤ 1099511627776) (he : s.list.map THeader.con = t.list.map THeader.con) : Fnc Tryd.prog 61 [s.av 2 THeader.enc, t.av 2 THeader.enc] (.bool true) := by
  unfold szHeaderS at h
  exact eqS_fn (g := 121) (con := THeader.con) c61 (fun _ => rfl) (by unfold mx; omega) he fun x hx y hxy => THeader.eq_fn (by have := szL_mem (sz := THeader.sz) hx; omega) hxy
structure TResponse where
  Code : Int
  Headers : SL THeader
  Body : List UInt8
def TResponse.enc (s : TResponse) : List AV := [.int .i64 s.Code, s.Headers.av 2 THeader.enc, .str s.Body]
@[simp] theorem TResponse.len (s : TResponse) : s.enc.length = 3 := (rfl)
@[simp] theorem TResponse.all (s : TResponse) : s.enc.take 3 = s.enc := (rfl)
@[simp] theorem TResponse.g0 (s : TResponse) (K : AV → Prop) : getW s.enc 0 K = K (.int .i64 s.Code) := by simp [TResponse.enc]
@[simp] theorem TResponse.g1 (s : TResponse) (K : AV → Prop) : getW s.enc 1 K = K (s.Headers.av 2 THeader.enc) := by simp [TResponse.enc]
@[simp] theorem TResponse.g2 (s : TResponse) (K : AV → Prop) : getW s.enc 2 K = K (.str s.Body) := by simp [TResponse.enc]
theorem TResponse.cells (s : TResponse) : ∀ a, a ∈ s.enc → a.cell = true := by simp [TResponse.enc]
def TResponse.sz (s : TResponse) : Nat := (szHeaderS s.Headers) + s.Body.length
def TResponse.ok (s : TResponse) : Prop := okHeaderS s.Headers ∧ s.Body.length ≤ mx
def TResponse.con (s : TResponse) : TResponse := { s with Headers := s.Headers.con THeader.con }
theorem TResponse.sz_con (s : TResponse) : s.con.sz = s.sz := by
  simp [TResponse.sz, TResponse.con, szHeaderS, szL_map THeader.sz_con]
theorem TResponse.sh : ∀ (n : Nat) (row : List AV), ShC Tryd.prog n 30 row → ∃ s : TResponse, row = s.enc ∧ s.ok := by
  intro n row h
  obtain ⟨m, hl, hf⟩ := sh_fields (l := [(3, 0), (28, 1), (9, 2)]) (by kernel_rfl) h
  have hl' : row.length = 3 := hl.trans (by kernel_rfl)
  match row, hl' with
  | [x0, x1, x2], _ =>
    have h0 := hf (3, 0) (by simp)
    rw [show Tryd.prog.cellsOf 3 = 1 by kernel_rfl] at h0
    obtain ⟨v0, rfl, _⟩ := sh_int (k := .i64) (t := 3) (by kernel_rfl) (show ShC Tryd.prog m 3 [x0] from h0)
    have h1 := hf (28, 1) (by simp)
    rw [show Tryd.prog.cellsOf 28 = 1 by kernel_rfl] at h1
    obtain ⟨v1, rfl, k1⟩ := shHeaderS (show ShC Tryd.prog m 28 [x1] from h1)
    have h2 := hf (9, 2) (by simp)
    rw [show Tryd.prog.cellsOf 9 = 1 by kernel_rfl] at h2
    obtain ⟨v2, rfl, k2⟩ := sh_str (t := 9) (by kernel_rfl) (show ShC Tryd.prog m 9 [x2] from h2)
    exact ⟨⟨v0, v1, v2⟩, rfl, ⟨k1, k2⟩⟩
theorem TResponse.sz_fn {s : TResponse} (hs : s.ok) {left : Int} (hl : Room left) : Fnc Tryd.prog 19 [.agg s.enc, .int .i64 left] (.int .i64 (szOf s.sz left)) := by
  unfold TResponse.ok at hs
  have hr := hl.2
  refine fn_of c19 (by simp [F19]) fun c => ?_
  unfold F19
  simp
  refine call_fn0 (szHeaderS_fn hs.1 hl) .int fun _ _ => ?_
  simp
  refine ⟨fun h => fin_plain ⟨by have := szOf_lt h; rw [szOf_neg (by simp only [TResponse.sz]; omega)], rfl⟩, fun h => ?_⟩
  obtain ⟨h0, k0⟩ := szOf_ge h
  rw [h0]
  rw [szOf_wrap hs.2 ⟨by omega, by omega⟩]
  refine ⟨fun h => fin_plain ⟨by rw [szOf_neg (by simp only [TResponse.sz]; omega)], rfl⟩, fun h => ?_⟩
  have hz : s.sz = (szHeaderS s.Headers) + s.Body.length := rfl
  have e : szOf s.sz left = left - ((szHeaderS s.Headers) : Int) - (s.Body.length : Int) := by
    unfold szOf
    rw [if_pos (by omega)]
    omega
  exact fin_plain ⟨by rw [e], rfl⟩
theorem TResponse.to_fn {s : TResponse} (h : s.sz ≤ 1048576) : Tr Tryd.prog 21 [.agg s.enc] fun _ r => ∃ b : TResponse, r = .agg b.enc ∧ b.con = s.con := by
  simp only [TResponse.sz] at h
  intro c
  refine con_of c21 (by simp [F21]) ?_
  unfold F21
  simp [putA]
  refine call_tree0 (toHeaderS_fn (by omega)) fun r1 c1 hc1 ⟨b1, e1, q1⟩ f1 => ?_
  subst e1
  simp [putA]
  refine fin_plain ⟨rfl, ⟨⟨s.Code, b1, s.Body⟩, rfl, ?_⟩, from_agg ?_⟩
  · simp [TResponse.con, SL.con, SL.pcon, q1]
  · simp
    exact f1.mono (by omega)
theorem TResponse.eq_fn {a b : TResponse} (h : a.sz ≤ 1099511627776) (he : a.con = b.con) : Fnc Tryd.prog 23 [.agg a.enc, .agg b.enc] (.bool true) := by
  simp only [TResponse.sz] at h
  have e0 : a.Code = b.Code := (congrArg TResponse.Code he : a.con.Code = b.con.Code)
  have e1 : a.Headers.list.map THeader.con = b.Headers.list.map THeader.con := congrArg (fun s => s.Headers.list) he
  have e2 : a.Body = b.Body := (congrArg TResponse.Body he : a.con.Body = b.con.Body)
  refine fn_of c23 (by simp [F23]) fun c => ?_
  unfold F23
  simp [e0, e2]
  refine call_fn0 (eqHeaderS_fn (by omega) e1) .bool fun _ _ => ?_
  simp [e0, e2]
  exact fin_plain ⟨rfl, rfl⟩
end A
end Go.Proofs.YtfcimcoanlgldaaDoor

/-
  Letters and digits, of the reference and of the program. No condition.
-/

namespace Go.Proofs.YtfcimcoanlgldaaDoor
namespace A
set_option linter.unusedVariables false
set_option linter.unusedSimpArgs false
set_option maxRecDepth 100000

def isL (b : UInt8) : Bool := inR b.toNat 97 122 || inR b.toNat 65 90 || decide (b.toNat = 95)
def isD (b : UInt8) : Bool := inR b.toNat 48 57
theorem wrap_b (b : UInt8) : IntKind.i64.wrap (b.toNat : Int) = b.toNat := by
  have := b.toNat_lt
  exact wrap64 (by omega) (by omega)
theorem letter_fn (b : UInt8) : Fnc Tryd.prog 169 [.int .u8 b.toNat] (.bool (isL b)) := by
  refine fn_of c169 (by simp [F169]) fun c => ?_
  unfold F169
  simp [wrap_b]
  refine call_fn0 (l1In_fn _ _ _) .bool fun _ _ => ?_
  cases h1 : inR b.toNat 97 122 <;> simp [wrap_b]
  · refine call_fn0 (l1In_fn _ _ _) .bool fun _ _ => ?_
    cases h2 : inR b.toNat 65 90 <;> simp
    · exact fin_plain ⟨by simp [isL, h1, h2]; omega, rfl⟩
    · exact fin_plain ⟨by simp [isL, h1, h2], rfl⟩
  · exact fin_plain ⟨by simp [isL, h1], rfl⟩
theorem digit_fn (b : UInt8) : Fnc Tryd.prog 170 [.int .u8 b.toNat] (.bool (isD b)) := by
  refine fn_of c170 (by simp [F170]) fun c => ?_
  unfold F170
  simp [wrap_b]
  refine call_fn0 (l1In_fn _ _ _) .bool fun _ _ => ?_
  simp
  exact fin_plain ⟨rfl, rfl⟩
def isA (b : UInt8) : Bool := inR b.toNat 65 90 || inR b.toNat 97 122
theorem isLetter_fn (b : UInt8) : Fnc Tryd.prog 171 [.int .u8 b.toNat] (.bool (isA b)) := by
  refine fn_of c171 (by simp [F171]) fun c => ?_
  unfold F171 isA inR
  by_cases h1 : (65 : Int) ≤ b.toNat <;> by_cases h2 : (b.toNat : Int) ≤ 90 <;> by_cases h3 : (97 : Int) ≤ b.toNat <;> simp [h1, h2, h3] <;> exact fin_plain (by simp)
theorem isDigit_fn (b : UInt8) : Fnc Tryd.prog 172 [.int .u8 b.toNat] (.bool (isD b)) := by
  refine fn_of c172 (by simp [F172]) fun c => ?_
  unfold F172 isD inR
  by_cases h1 : (48 : Int) ≤ b.toNat <;> simp [h1] <;> exact fin_plain (by simp)
theorem isL_A (b : UInt8) : isL b = (isA b || decide (b.toNat = 95)) := by
  simp [isL, isA, Bool.or_comm (inR b.toNat 97 122)]
end A
end Go.Proofs.YtfcimcoanlgldaaDoor

/-
  IsResponse of the reference and of the program are the same plain function, and the law answers true. No condition.
-/


namespace Go.Proofs.YtfcimcoanlgldaaDoor
namespace A
set_option linter.unusedVariables false
set_option linter.unusedSimpArgs false
set_option maxRecDepth 100000

def reason (c : Int) : List UInt8 :=
  if c = 200 then [79, 75] else if c = 400 then [66, 97, 100, 32, 82, 101, 113, 117, 101, 115, 116] else if c = 404 then [78, 111, 116, 32, 70, 111, 117, 110, 100]
  else if c = 500 then [69, 114, 114, 111, 114] else if c = 503 then [66, 117, 115, 121] else []
theorem spec_reason (c : Int) : Fnc Tryd.prog 115 [.int .i64 c] (.str (reason c)) := by
  refine fn_of c115 (by simp [F115]) fun _ => ?_
  unfold F115 reason
  by_cases h1 : c = 200
  · simp [h1]; exact fin_plain ⟨rfl, rfl⟩
  by_cases h2 : c = 400
  · simp [h2]; exact fin_plain ⟨rfl, rfl⟩
  by_cases h3 : c = 404
  · simp [h3]; exact fin_plain ⟨rfl, rfl⟩
  by_cases h4 : c = 500
  · simp [h4]; exact fin_plain ⟨rfl, rfl⟩
  by_cases h5 : c = 503
  · simp [h5]; exact fin_plain ⟨rfl, rfl⟩
  simp [h1, h2, h3, h4, h5]; exact fin_plain ⟨rfl, rfl⟩
theorem impl_reason (c : Int) : Fnc Tryd.prog 60 [.int .i64 c] (.str (reason c)) := by
  refine fn_of c60 (by simp [F60]) fun _ => ?_
  unfold F60 reason
  by_cases h1 : c = 200
  · simp [h1]; exact fin_plain ⟨rfl, rfl⟩
  by_cases h2 : c = 400
  · simp [h2]; exact fin_plain ⟨rfl, rfl⟩
  by_cases h3 : c = 404
  · simp [h3]; exact fin_plain ⟨rfl, rfl⟩
  by_cases h4 : c = 500
  · simp [h4]; exact fin_plain ⟨rfl, rfl⟩
  by_cases h5 : c = 503
  · simp [h5]; exact fin_plain ⟨rfl, rfl⟩
  simp [h1, h2, h3, h4, h5]; exact fin_plain ⟨rfl, rfl⟩

/-! ### a header's name, a header's value -/
def hChar (b : UInt8) : Bool := isA b || isD b || decide (b.toNat = 45)
def hName (l : List UInt8) : Bool := l.all hChar && inR l.length 1 20
theorem bad_all {α : Type} {p : α → Bool} {l : List α} {i : Nat} (h : i < l.length) (hb : p l[i] = false) : l.all p = false := by
  rw [List.all_eq_false]; exact ⟨_, List.getElem_mem h, by simp [hb]⟩
theorem isD_not {b : UInt8} (h : b.toNat = 95) : isD b = false := by simp [isD, inR, h]
theorem isA_not {b : UInt8} (h : b.toNat = 95) : isA b = false := by simp [isA, inR, h]
theorem spec_hName {l : List UInt8} (hl : l.length ≤ mx) : Fnc Tryd.prog 146 [.str l] (.bool (hName l)) := by
  refine fn_of c146 (by simp [F146]) fun c => ?_
  unfold F146
  simp
  refine loop_drop l.length (fun i e H c' => e 0 = .str l ∧ e 3 = .int .i64 i ∧ (l.take i).all hChar = true ∧ H = []) ⟨rfl, rfl, by simp, rfl⟩ ?_
  intro i e H c hi ⟨e0, e3, ha, hH⟩ N hN
  subst hH
  simp [e0, e3]
  refine ⟨fun h => ?_, fun h => ?_⟩
  · have hb : l[i]? = some l[i] := List.getElem?_eq_getElem h
    have bad : hChar l[i] = false → hName l = false := fun hb => by unfold hName; rw [bad_all h hb]; rfl
    have good : hChar l[i] = true → (l.take (i + 1)).all hChar = true := fun hx => all_step ha h hx
    generalize l[i] = b at hb bad good
    refine ⟨_, hb, ?_⟩
    simp [e0, e3]
    refine call_fn0 (letter_fn b) .bool fun _ _ => ?_
    have hLA := isL_A b
    by_cases h95 : b.toNat = 95
    · have h95' : (b.toNat : Int) = 95 := by omega
      have hL : isL b = true := by rw [hLA]; simp [h95]
      simp [e0, e3, hL]
      refine ⟨_, hb, ?_⟩
      simp [e0, e3, h95']
      exact fin_plain ⟨by rw [bad (by simp [hChar, isA_not h95, isD_not h95, h95])], rfl⟩
    have h95' : ¬ (b.toNat : Int) = 95 := by omega
    cases hL : isL b
    · have hA : isA b = false := by rw [hL] at hLA; simp at hLA; exact hLA.1
      simp [e0, e3, hL]
      refine ⟨_, hb, ?_⟩
      simp [e0, e3]
      refine call_fn0 (digit_fn b) .bool fun _ _ => ?_
      cases hD : isD b
      · simp [e0, e3]
        refine ⟨_, hb, ?_⟩
        by_cases h45 : (b.toNat : Int) = 45
        · have h45' : b.toNat = 45 := by omega
          simp [e0, e3, h45]
          refine ⟨_, hb, ?_⟩
          simp [e0, e3, h45]
          exact hN _ _ _ _ h (List.Sublist.refl _) ⟨by simp [upd, e0], by simp [upd]; exact step64 hl h, good (by simp [hChar, h45']), rfl⟩
        · have h45' : ¬ b.toNat = 45 := by omega
          simp [e0, e3, h45]
          exact fin_plain ⟨by rw [bad (by simp [hChar, hA, hD, h45'])], rfl⟩
      · simp [e0, e3]
        refine ⟨_, hb, ?_⟩
        simp [e0, e3, h95']
        exact hN _ _ _ _ h (List.Sublist.refl _) ⟨by simp [upd, e0], by simp [upd]; exact step64 hl h, good (by simp [hChar, hD]), rfl⟩
    · have hA : isA b = true := by rw [hL] at hLA; simp [h95] at hLA; exact hLA
      simp [e0, e3]
      refine ⟨_, hb, ?_⟩
      simp [e0, e3, h95']
      exact hN _ _ _ _ h (List.Sublist.refl _) ⟨by simp [upd, e0], by simp [upd]; exact step64 hl h, good (by simp [hChar, hA]), rfl⟩
  · have h1 : i = l.length := by omega
    subst h1
    rw [List.take_length] at ha
    refine call_fn0 (l1In_fn _ _ _) .bool fun _ _ => ?_
    simp
    exact fin_plain ⟨by simp [hName, ha], rfl⟩
theorem impl_hName {l : List UInt8} (hl : l.length ≤ mx) : Fnc Tryd.prog 149 [.str l] (.bool (hName l)) := by
  refine fn_of c149 (by simp [F149]) fun c => ?_
  unfold F149
  simp
  refine loop_drop l.length (fun i e H c' => e 0 = .str l ∧ e 3 = .int .i64 i ∧ (l.take i).all hChar = true ∧ H = []) ⟨rfl, rfl, by simp, rfl⟩ ?_
  intro i e H c hi ⟨e0, e3, ha, hH⟩ N hN
  subst hH
  simp [e0, e3]
  refine ⟨fun h => ?_, fun h => ?_⟩
  · have hb : l[i]? = some l[i] := List.getElem?_eq_getElem h
    have bad : hChar l[i] = false → hName l = false := fun hb => by unfold hName; rw [bad_all h hb]; rfl
    have good : hChar l[i] = true → (l.take (i + 1)).all hChar = true := fun hx => all_step ha h hx
    generalize l[i] = b at hb bad good
    refine ⟨_, hb, ?_⟩
    simp [e0, e3]
    refine call_fn0 (isLetter_fn b) .bool fun _ _ => ?_
    cases hA : isA b
    · simp [e0, e3]
      refine ⟨_, hb, ?_⟩
      simp [e0, e3]
      refine call_fn0 (isDigit_fn b) .bool fun _ _ => ?_
      cases hD : isD b
      · simp [e0, e3]
        refine ⟨_, hb, ?_⟩
        by_cases h45 : (b.toNat : Int) = 45
        · have h45' : b.toNat = 45 := by omega
          simp [e0, e3, h45]
          exact hN _ _ _ _ h (List.Sublist.refl _) ⟨by simp [upd, e0], by simp [upd]; exact step64 hl h, good (by simp [hChar, h45']), rfl⟩
        · have h45' : ¬ b.toNat = 45 := by omega
          simp [e0, e3, h45]
          exact fin_plain ⟨by rw [bad (by simp [hChar, hA, hD, h45'])], rfl⟩
      · simp [e0, e3]
        exact hN _ _ _ _ h (List.Sublist.refl _) ⟨by simp [upd, e0], by simp [upd]; exact step64 hl h, good (by simp [hChar, hD]), rfl⟩
    · simp [e0, e3]
      exact hN _ _ _ _ h (List.Sublist.refl _) ⟨by simp [upd, e0], by simp [upd]; exact step64 hl h, good (by simp [hChar, hA]), rfl⟩
  · have h1 : i = l.length := by omega
    subst h1
    rw [List.take_length] at ha
    refine call_fn0 (inRange_fn _ _ _) .bool fun _ _ => ?_
    simp
    exact fin_plain ⟨by simp [hName, ha], rfl⟩
def vChar (b : UInt8) : Bool := inR b.toNat 32 126
def hVal (l : List UInt8) : Bool := l.all vChar && decide (l.length ≤ 60)
theorem spec_hVal {l : List UInt8} (hl : l.length ≤ mx) : Fnc Tryd.prog 147 [.str l] (.bool (hVal l)) := by
  refine fn_of c147 (by simp [F147]) fun c => ?_
  unfold F147
  simp
  refine loop_drop l.length (fun i e H c' => e 0 = .str l ∧ e 3 = .int .i64 i ∧ (l.take i).all vChar = true ∧ H = []) ⟨rfl, rfl, by simp, rfl⟩ ?_
  intro i e H c hi ⟨e0, e3, ha, hH⟩ N hN
  subst hH
  simp [e0, e3]
  refine ⟨fun h => ?_, fun h => ?_⟩
  · have hb : l[i]? = some l[i] := List.getElem?_eq_getElem h
    have bad : vChar l[i] = false → hVal l = false := fun hb => by unfold hVal; rw [bad_all h hb]; rfl
    have good : vChar l[i] = true → (l.take (i + 1)).all vChar = true := fun hx => all_step ha h hx
    generalize l[i] = b at hb bad good
    refine ⟨_, hb, ?_⟩
    simp [e0, e3, wrap_b]
    refine call_fn0 (l1In_fn _ _ _) .bool fun _ _ => ?_
    cases hv : inR b.toNat 32 126
    · simp [e0, e3]
      exact fin_plain ⟨by rw [bad hv], rfl⟩
    · simp [e0, e3]
      exact hN _ _ _ _ h (List.Sublist.refl _) ⟨by simp [upd, e0], by simp [upd]; exact step64 hl h, good hv, rfl⟩
  · have h1 : i = l.length := by omega
    subst h1
    rw [List.take_length] at ha
    refine fin_plain ⟨?_, rfl⟩
    simp [hVal, ha]; omega
theorem impl_hVal {l : List UInt8} (hl : l.length ≤ mx) : Fnc Tryd.prog 150 [.str l] (.bool (hVal l)) := by
  refine fn_of c150 (by simp [F150]) fun c => ?_
  unfold F150
  simp
  refine loop_drop l.length (fun i e H c' => e 0 = .str l ∧ e 3 = .int .i64 i ∧ (l.take i).all vChar = true ∧ H = []) ⟨rfl, rfl, by simp, rfl⟩ ?_
  intro i e H c hi ⟨e0, e3, ha, hH⟩ N hN
  subst hH
  simp [e0, e3]
  refine ⟨fun h => ?_, fun h => ?_⟩
  · have hb : l[i]? = some l[i] := List.getElem?_eq_getElem h
    have bad : vChar l[i] = false → hVal l = false := fun hb => by unfold hVal; rw [bad_all h hb]; rfl
    have good : vChar l[i] = true → (l.take (i + 1)).all vChar = true := fun hx => all_step ha h hx
    generalize l[i] = b at hb bad good
    refine ⟨_, hb, ?_⟩
    by_cases h1 : (b.toNat : Int) < 32
    · simp [e0, e3, h1]
      exact fin_plain ⟨by rw [bad (by simp [vChar, inR]; intros; omega)], rfl⟩
    simp [e0, e3, h1]
    refine ⟨_, hb, ?_⟩
    simp [e0, e3, h1]
    refine ⟨fun h2 => ?_, fun h2 => ?_⟩
    · exact fin_plain ⟨by rw [bad (by simp [vChar, inR]; intros; omega)], rfl⟩
    · exact hN _ _ _ _ h (List.Sublist.refl _) ⟨by simp [upd, e0], by simp [upd]; exact step64 hl h, good (by simp [vChar, inR]; omega), rfl⟩
  · have h1 : i = l.length := by omega
    subst h1
    rw [List.take_length] at ha
    refine fin_plain ⟨?_, rfl⟩
    simp [hVal, ha]; omega

/-! ### the headers -/
def hdOk (x : THeader) : Bool := hName x.Name && hVal x.Value
def onceB : List (List UInt8) → Bool
  | [] => true
  | x :: l => !l.contains x && onceB l
def hTo (l : List THeader) (i : Nat) : Bool := (l.take i).all hdOk && onceB ((l.take i).map (·.Name)).reverse
def hdrs (l : List THeader) : Bool := hTo l l.length
theorem hTo_step {l : List THeader} {i : Nat} (h : i < l.length) : hTo l (i + 1) = (hTo l i && hdOk l[i] && !((l.take i).map (·.Name)).contains l[i].Name) := by
  unfold hTo
  rw [List.take_succ_eq_append_getElem h, List.all_append, List.map_append, List.reverse_append]
  simp only [List.map_cons, List.map_nil, List.reverse_cons, List.reverse_nil, List.nil_append, List.singleton_append, onceB, List.all_cons, List.all_nil, Bool.and_true]
  have : ((l.take i).map (·.Name)).reverse.contains l[i].Name = ((l.take i).map (·.Name)).contains l[i].Name := by rw [Bool.eq_iff_iff]; simp
  rw [this]
  cases (l.take i).all hdOk <;> cases hdOk l[i] <;> cases onceB ((l.take i).map (·.Name)).reverse <;> simp
theorem hTo_mono {l : List THeader} {i : Nat} (hi : i ≤ l.length) (h : hTo l i = false) : hdrs l = false := by
  have key : ∀ j, i ≤ j → j ≤ l.length → hTo l j = false := by
    intro j hj
    induction hj with
    | refl => exact fun _ => h
    | step hj ih => intro hl; rw [hTo_step (by omega), ih (by omega)]; simp
  exact key l.length hi (Nat.le_refl _)
def outOk (body : List UInt8) (l : List THeader) : Bool := decide (body.length ≤ 3000) && decide (l.length ≤ 8) && hdrs l

def outArg (b : List UInt8) (s : SL THeader) : List AV := [.str b, s.av 2 THeader.enc, .nsl]
theorem spec_total {b : List UInt8} {s : SL THeader} : Fnc Tryd.prog 145 [.agg (outArg b s)] (.int .i64 b.length) := by
  refine fn_of c145 (by simp [F145]) fun c => ?_
  unfold F145 outArg
  simp
  refine loop_drop 0 (fun i e H c' => e 1 = .ptr 0 c 3 0 0 ∧ e 3 = .int .i64 b.length ∧ e 4 = .int .i64 0 ∧ H = [⟨false, c, 3, [[.str b, s.av 2 THeader.enc, .nsl]]⟩]) ⟨rfl, rfl, rfl, rfl⟩ ?_
  intro i e H c' hi ⟨e1, e3, e4, hH⟩ N hN
  subst hH
  simp [e1, e3, e4]
  exact fin_plain ⟨rfl, rfl⟩
theorem impl_total {b : List UInt8} {s : SL THeader} : Fnc Tryd.prog 148 [.agg (outArg b s)] (.int .i64 b.length) := by
  refine fn_of c148 (by simp [F148]) fun c => ?_
  unfold F148 outArg
  simp
  refine loop_drop 0 (fun i e H c' => e 3 = .int .i64 b.length ∧ e 11 = .int .i64 0 ∧ e 12 = .int .i64 0 ∧ H = [⟨false, c, 3, [[.str b, s.av 2 THeader.enc, .nsl]]⟩]) ⟨rfl, rfl, rfl, rfl⟩ ?_
  intro i e H c' hi ⟨e3, e11, e12, hH⟩ N hN
  subst hH
  simp [e3, e11, e12]
  exact fin_plain ⟨rfl, rfl⟩
theorem contains_step {l : List THeader} {j : Nat} {x : List UInt8} (h : j < l.length) (hc : ((l.take j).map (·.Name)).contains x = false) (hn : l[j].Name ≠ x) : ((l.take (j + 1)).map (·.Name)).contains x = false := by
  rw [List.take_succ_eq_append_getElem h, List.map_append, List.contains_eq_any_beq] at *
  simp at hc ⊢
  exact ⟨hc, fun e => hn e.symm⟩
theorem contains_hit {l : List THeader} {i j : Nat} {x : List UInt8} (hj : j < i) (h : i ≤ l.length) (hn : l[j].Name = x) : ((l.take i).map (·.Name)).contains x = true := by
  rw [List.contains_iff_mem]
  exact List.mem_map.2 ⟨l[j], List.mem_iff_getElem.2 ⟨j, by simp; omega, by simp⟩, hn⟩

theorem spec_out {b : List UInt8} {s : SL THeader} (hb : b.length ≤ mx) (hs : okHeaderS s) : Fnc Tryd.prog 116 [.agg (outArg b s)] (.bool (outOk b s.list)) := by
  have hn := hs.1
  refine fn_of c116 (by simp [F116]) fun c => ?_
  unfold F116 outArg
  simp
  refine call_fn0 spec_total .int fun cc _ => ?_
  by_cases h1 : (3000 : Int) < b.length
  · simp [h1]
    exact fin_plain ⟨by simp [outOk]; intros; omega, rfl⟩
  by_cases h2 : (8 : Int) < s.list.length
  · simp [h1, h2]
    exact fin_plain ⟨by simp [outOk]; intros; omega, rfl⟩
  simp [h1, h2]
  have hsum : outOk b s.list = hdrs s.list := by
    have e1 : b.length ≤ 3000 := by omega
    have e2 : s.list.length ≤ 8 := by omega
    simp [outOk, e1, e2]
  rw [hsum]
  refine loop_drop s.list.length (fun i e H c' => e 1 = .ptr 0 c 3 0 0 ∧ e 3 = .int .i64 i ∧ hTo s.list i = true ∧ H = [⟨false, c, 3, [[.str b, s.av 2 THeader.enc, .nsl]]⟩]) ⟨rfl, rfl, rfl, rfl⟩ ?_
  intro i e H c' hi ⟨e1, e3, ht, hH⟩ N hN
  subst hH
  simp [e1, e3]
  refine ⟨fun h => ?_, fun h => ?_⟩
  · have hst := hTo_step h
    have hg : s.list[i]? = some s.list[i] := List.getElem?_eq_getElem h
    have hok := hs.2 _ (List.getElem_mem h)
    rw [ht] at hst
    have bad : (hdOk s.list[i] && !((s.list.take i).map (·.Name)).contains s.list[i].Name) = false → hdrs s.list = false := fun hb => hTo_mono (i := i + 1) h (by rw [hst]; simpa using hb)
    refine loop_drop i (fun j e H c' => e 1 = .ptr 0 c 3 0 0 ∧ e 3 = .int .i64 i ∧ e 4 = .int .i64 j ∧ ((s.list.take j).map (·.Name)).contains s.list[i].Name = false ∧ H = [⟨false, c, 3, [[.str b, s.av 2 THeader.enc, .nsl]]⟩]) ⟨by simp [upd, e1], by simp [upd, e3], by simp [upd], by simp, rfl⟩ ?_
    intro j e H c' hj ⟨e1, e3, e4, hc, hH⟩ N' hN'
    subst hH
    simp [e1, e3, e4]
    refine ⟨fun hji => ?_, fun hji => ?_⟩
    · have hgj : s.list[j]? = some s.list[j] := List.getElem?_eq_getElem (by omega)
      refine ⟨_, hgj, ?_⟩
      simp [e1, e3, e4]
      refine ⟨_, hg, ?_⟩
      by_cases hq : s.list[j].Name = s.list[i].Name
      · simp [e1, e3, e4, hq]
        exact fin_plain ⟨by rw [bad (by rw [contains_hit hji (by omega) hq]; simp)], rfl⟩
      · simp [e1, e3, e4, hq]
        exact hN' _ _ _ _ hji (List.Sublist.refl _) ⟨by simp [upd, e1], by simp [upd, e3], by simp [upd]; exact step64 (by unfold mx; omega) hji, contains_step (by omega) hc hq, rfl⟩
    · have hji' : j = i := by omega
      subst hji'
      refine ⟨_, hg, ?_⟩
      simp [e1, e3, e4]
      refine call_fn0 (spec_hName hok.1) .bool fun _ _ => ?_
      cases h3 : hName s.list[j].Name
      · simp [e1, e3, e4]
        exact fin_plain ⟨by rw [bad (by simp [hdOk, h3])], rfl⟩
      simp [e1, e3, e4]
      refine ⟨_, hg, ?_⟩
      simp [e1, e3, e4]
      refine call_fn0 (spec_hVal hok.2) .bool fun _ _ => ?_
      cases h4 : hVal s.list[j].Value
      · simp [e1, e3, e4]
        exact fin_plain ⟨by rw [bad (by simp [hdOk, h4])], rfl⟩
      simp [e1, e3, e4]
      exact hN _ _ _ _ h (List.Sublist.refl _) ⟨by simp [upd, e1], by simp [upd]; exact step64 hn h, by rw [hst, hc]; simp [hdOk, h3, h4], rfl⟩
  · have h1' : i = s.list.length := by omega
    subst h1'
    refine loop_drop 0 (fun j e H c' => e 1 = .ptr 0 c 3 0 0 ∧ e 5 = .int .i64 0 ∧ H = [⟨false, c, 3, [[.str b, s.av 2 THeader.enc, .nsl]]⟩]) ⟨by simp [upd, e1], rfl, rfl⟩ ?_
    intro j e H c' hj ⟨e1, e5, hH⟩ N' hN'
    subst hH
    simp [e1, e5]
    exact fin_plain ⟨by unfold hdrs; rw [ht], rfl⟩

/-! ### the program's -/
def nmRow (x : THeader) : List AV := [.str x.Name, .bool true]
theorem nfind_no {id : List UInt8} : ∀ (l : List THeader) (k : Nat), (l.map (·.Name)).contains id = false → mfind (.str id) (l.map nmRow) k = some none
  | [], k, _ => rfl
  | x :: l, k, h => by
    simp only [List.map_cons, List.contains_cons, Bool.or_eq_false_iff] at h
    have e : keyEq (.str id) (.str x.Name) = some false := by simp only [keyEq]; rw [h.1]
    simp only [List.map_cons, nmRow, mfind, e]
    exact nfind_no l (k + 1) h.2
theorem nfind_yes {id : List UInt8} : ∀ (l : List THeader) (k : Nat), (l.map (·.Name)).contains id = true → ∃ j, mfind (.str id) (l.map nmRow) k = some (some (j, .bool true))
  | [], k, h => by simp at h
  | x :: l, k, h => by
    cases e : (id == x.Name) with
    | true =>
      have e' : keyEq (.str id) (.str x.Name) = some true := by simp only [keyEq]; rw [e]
      exact ⟨k, by simp only [List.map_cons, nmRow, mfind, e']⟩
    | false =>
      have e' : keyEq (.str id) (.str x.Name) = some false := by simp only [keyEq]; rw [e]
      simp only [List.map_cons, List.contains_cons, e, Bool.false_or] at h
      obtain ⟨j, hj⟩ := nfind_yes l (k + 1) h
      exact ⟨j, by simp only [List.map_cons, nmRow, mfind, e']; exact hj⟩
def nmRows (l : List THeader) (i : Nat) : List (List AV) := (l.take i).map nmRow
theorem nmRows_step {l : List THeader} {i : Nat} (h : i < l.length) : nmRows l (i + 1) = nmRows l i ++ [nmRow l[i]] := by
  unfold nmRows; rw [List.take_succ_eq_append_getElem h, List.map_append]; rfl
theorem nmRows_len {l : List THeader} {i : Nat} : (nmRows l i).length ≤ i := by unfold nmRows; simp; omega
theorem lookup_no {H : List AObj} {d : TypeDesc} {z k : AV} {i tag : Nat} {rows : List (List AV)} {w : Nat} {K : AV → Prop} (hd : keyFits d k = true) (ho : H[i]? = some ⟨true, tag, w, rows⟩) (hm : mfind k rows 0 = some none) (h : K z) : lookupW d z false (.mref i tag) k H K :=
  ⟨hd, _, ho, rfl, rfl, by rw [hm]; exact h⟩
theorem lookup_yes {H : List AObj} {d : TypeDesc} {z k v : AV} {i tag j : Nat} {rows : List (List AV)} {w : Nat} {K : AV → Prop} (hd : keyFits d k = true) (ho : H[i]? = some ⟨true, tag, w, rows⟩) (hm : mfind k rows 0 = some (some (j, v))) (h : K v) : lookupW d z false (.mref i tag) k H K :=
  ⟨hd, _, ho, rfl, rfl, by rw [hm]; exact h⟩
theorem mupd_no {H : List AObj} {c : Nat} {d : TypeDesc} {k v : AV} {i tag : Nat} {rows : List (List AV)} {w : Nat} {K : AV → List AObj → Nat → Prop} (hd : keyFits d k = true) (ho : H[i]? = some ⟨true, tag, w, rows⟩) (hm : mfind k rows 0 = some none) (hl : rows.length < mx) (h : K .und (H.set i ⟨true, tag, w, rows ++ [[k, v]]⟩) c) : mupdW d (.mref i tag) k v H c K :=
  ⟨hd, _, ho, rfl, rfl, by rw [hm]; exact ⟨hl, h⟩⟩

theorem impl_out {b : List UInt8} {s : SL THeader} (hb : b.length ≤ mx) (hs : okHeaderS s) : Fnc Tryd.prog 119 [.agg (outArg b s)] (.bool (outOk b s.list)) := by
  have hn := hs.1
  refine fn_of c119 (by simp [F119]) fun c => ?_
  unfold F119 outArg
  simp
  refine call_fn0 impl_total .int fun cc _ => ?_
  by_cases h1 : (3000 : Int) < b.length
  · simp [h1]
    exact fin_plain ⟨by simp [outOk]; intros; omega, rfl⟩
  by_cases h2 : (8 : Int) < s.list.length
  · simp [h1, h2]
    exact fin_plain ⟨by simp [outOk]; intros; omega, rfl⟩
  simp [h1, h2]
  have hsum : outOk b s.list = hdrs s.list := by
    have e1 : b.length ≤ 3000 := by omega
    have e2 : s.list.length ≤ 8 := by omega
    simp [outOk, e1, e2]
  rw [hsum]
  refine loop_drop 0 (fun j e H c' => e 1 = .ptr 0 c 3 0 0 ∧ e 25 = .int .i64 0 ∧ e 26 = .int .i64 0 ∧ c ≤ c' ∧ H = [⟨false, c, 3, [[.str b, s.av 2 THeader.enc, .nsl]]⟩]) ⟨rfl, rfl, rfl, by omega, rfl⟩ ?_
  intro j e H c2 hj ⟨e1, e25, e26, hc2, hH⟩ N' hN'
  subst hH
  simp [e1, e25, e26]
  refine loop_drop s.list.length (fun i e H c' => e 5 = .mref 1 c2 ∧ e 37 = s.av 2 THeader.enc ∧ e 38 = .int .i64 s.list.length ∧ e 39 = .int .i64 i ∧ hTo s.list i = true ∧ H = [⟨false, c, 3, [[.str b, s.av 2 THeader.enc, .nsl]]⟩, ⟨true, c2, 0, nmRows s.list i⟩]) ⟨rfl, rfl, rfl, rfl, rfl, rfl⟩ ?_
  intro i e H c' hi ⟨e5, e37, e38, e39, ht, hH⟩ N hN
  subst hH
  simp [e5, e37, e38, e39]
  refine ⟨fun h => ⟨s.list[i], List.getElem?_eq_getElem h, ?_⟩, fun h => ?_⟩
  · have hst := hTo_step h
    have hok := hs.2 _ (List.getElem_mem h)
    have htk := nmRows_step h
    rw [ht] at hst
    have bad : (hdOk s.list[i] && !((s.list.take i).map (·.Name)).contains s.list[i].Name) = false → hdrs s.list = false := fun hb => hTo_mono (i := i + 1) h (by rw [hst]; simpa using hb)
    generalize s.list[i] = x at hst hok htk bad
    simp [e5, e37, e38, e39]
    cases hc : ((s.list.take i).map (·.Name)).contains x.Name
    rotate_left
    · obtain ⟨j, hj⟩ : ∃ j, mfind (.str x.Name) (nmRows s.list i) 0 = some (some (j, .bool true)) := nfind_yes _ 0 hc
      refine lookup_yes rfl rfl hj ?_
      simp [e5, e37, e38, e39]
      exact fin_plain ⟨by rw [bad (by rw [hc]; simp)], rfl⟩
    have hm : mfind (.str x.Name) (nmRows s.list i) 0 = some none := nfind_no _ 0 hc
    refine lookup_no rfl rfl hm ?_
    simp [e5, e37, e38, e39]
    refine call_fn0 (impl_hName hok.1) .bool fun _ _ => ?_
    cases h3 : hName x.Name
    · simp [e5, e37, e38, e39]
      exact fin_plain ⟨by rw [bad (by simp [hdOk, h3])], rfl⟩
    simp [e5, e37, e38, e39]
    refine call_fn0 (impl_hVal hok.2) .bool fun _ _ => ?_
    cases h4 : hVal x.Value
    · simp [e5, e37, e38, e39]
      exact fin_plain ⟨by rw [bad (by simp [hdOk, h4])], rfl⟩
    simp [e5, e37, e38, e39]
    refine mupd_no rfl rfl hm (by have := nmRows_len (l := s.list) (i := i); unfold mx; omega) ?_
    simp [e5, e37, e38, e39]
    exact hN _ _ _ _ h (sub_two _ _ _) ⟨by simp [upd, e5], by simp [upd, e37], by simp [upd, e38], by simp [upd]; exact step64 hn h, by rw [hst, hc]; simp [hdOk, h3, h4], by rw [htk]; rfl⟩
  · have h1' : i = s.list.length := by omega
    subst h1'
    exact fin_plain ⟨by unfold hdrs; rw [ht], rfl⟩

def isResp (x : TResponse) : Bool := !decide (reason x.Code = []) && outOk x.Body x.Headers.list
theorem spec_isR {x : TResponse} (hx : x.ok) : Fnc Tryd.prog 55 [.agg x.enc] (.bool (isResp x)) := by
  have hx' : okHeaderS x.Headers ∧ x.Body.length ≤ mx := hx
  refine fn_of c55 (by simp [F55]) fun c => ?_
  unfold F55
  simp
  refine call_fn0 (spec_reason _) .str fun _ _ => ?_
  by_cases h1 : reason x.Code = []
  · simp [h1]
    exact fin_plain ⟨by simp [isResp, h1], rfl⟩
  simp [h1, putA]
  refine call_fn0 (spec_out hx'.2 hx'.1) .bool fun _ _ => ?_
  simp [h1]
  exact fin_plain ⟨by simp [isResp, h1], rfl⟩
theorem impl_isR {x : TResponse} (hx : x.ok) : Fnc Tryd.prog 58 [.agg x.enc] (.bool (isResp x)) := by
  have hx' : okHeaderS x.Headers ∧ x.Body.length ≤ mx := hx
  refine fn_of c58 (by simp [F58]) fun c => ?_
  unfold F58
  simp
  refine call_fn0 (impl_reason _) .str fun _ _ => ?_
  by_cases h1 : reason x.Code = []
  · simp [h1]
    exact fin_plain ⟨by simp [isResp, h1], rfl⟩
  simp [h1, putA]
  refine call_fn0 (impl_out hx'.2 hx'.1) .bool fun _ _ => ?_
  simp [h1]
  exact fin_plain ⟨by simp [isResp, h1], rfl⟩
theorem resp_same {a b : TResponse} (h : a.con = b.con) : a.Code = b.Code ∧ a.Body = b.Body ∧ a.Headers.list = b.Headers.list :=
  ⟨(congrArg TResponse.Code h : a.con.Code = b.con.Code), (congrArg TResponse.Body h : a.con.Body = b.con.Body), by
    have h1 : (a.con.Headers).list = (b.con.Headers).list := congrArg (fun z => z.Headers.list) h
    have e : ∀ l : List THeader, l.map THeader.con = l := fun l => List.map_id' l
    simpa [TResponse.con, e] using h1⟩
theorem isResp_con {a b : TResponse} (h : a.con = b.con) : isResp a = isResp b := by
  obtain ⟨h1, h2, h3⟩ := resp_same h
  unfold isResp; rw [h1, h2, h3]
theorem ok_con {a b : TResponse} (h : a.con = b.con) (ha : b.ok) : a.ok := by
  obtain ⟨h1, h2, h3⟩ := resp_same h
  unfold TResponse.ok okHeaderS at ha ⊢; rw [h2, h3]; exact ha
def TResponse.at (c : Nat) (a : TResponse) : TResponse := { a with Headers := .mk c a.Headers.list }
theorem TResponse.at_con (c : Nat) (a : TResponse) : (a.at c).con = a.con := rfl
theorem TResponse.at_from (c : Nat) (a : TResponse) : From c (.agg (a.at c).enc) := from_agg fun x hx => by
  simp [TResponse.enc, TResponse.at, SL.av] at hx
  rcases hx with rfl | rfl | rfl
  · simp
  · refine from_slc (Nat.le_refl _) fun row hr y hy => ?_
    obtain ⟨h, _, rfl⟩ := List.mem_map.1 hr
    simp [THeader.enc] at hy
    rcases hy with rfl | rfl <;> simp
  · simp
def IsR (a : TResponse) (v : AV) : Prop := ∃ b : TResponse, v = .agg b.enc ∧ b.con = a.con
theorem IsR_some (a : TResponse) (c : Nat) : ∃ r, IsR a r ∧ From c r := ⟨_, ⟨a.at c, rfl, a.at_con c⟩, a.at_from c⟩
end A
end Go.Proofs.YtfcimcoanlgldaaDoor
