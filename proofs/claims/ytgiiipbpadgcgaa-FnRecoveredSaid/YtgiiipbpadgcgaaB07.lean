import Derived.Test.YtgiiipbpadgcgaaB06

/-
  The families of helpers over slices (sizes, copies, comparisons): each once, for every element. No condition.
-/

namespace Go.Proofs.Ytgiiipbpadgcgaa
namespace A
set_option linter.unusedVariables false
set_option linter.unusedSimpArgs false

/-- rows made so far, and the blank ones -/
def grow {α : Type} (f : α → List AV) (z : List AV) (n : Nat) (ys : List α) : List (List AV) := ys.map f ++ List.replicate (n - ys.length) z
theorem grow_nil {α : Type} (f : α → List AV) (z : List AV) (n : Nat) : grow f z n [] = List.replicate n z := by simp [grow]
theorem grow_all {α : Type} (f : α → List AV) (z : List AV) {n : Nat} {ys : List α} (h : ys.length = n) : grow f z n ys = ys.map f := by simp [grow, h]
theorem grow_len {α : Type} (f : α → List AV) (z : List AV) {n : Nat} {ys : List α} (h : ys.length ≤ n) : (grow f z n ys).length = n := by simp [grow]; omega
theorem grow_get {α : Type} (f : α → List AV) (z : List AV) {n i : Nat} {ys : List α} (hi : ys.length = i) (h : i < n) : (grow f z n ys)[i]? = some z := by
  unfold grow
  rw [List.getElem?_append_right (by simp; omega), List.length_map, hi, Nat.sub_self, List.getElem?_replicate, if_pos (by omega)]
theorem grow_set {α : Type} (f : α → List AV) (z : List AV) {n i : Nat} {ys : List α} (hi : ys.length = i) (h : i < n) (y : α) : (grow f z n ys).set i (f y) = grow f z n (ys ++ [y]) := by
  unfold grow
  have e : n - ys.length = (n - (i + 1)) + 1 := by omega
  rw [e, List.replicate_succ, List.set_append_right _ _ (by simp; omega), List.length_map, hi, Nat.sub_self, List.set_cons_zero]
  simp [hi]

theorem from_agg_mem {c : Nat} {l : List AV} (h : From c (.agg l)) : ∀ a, a ∈ l → From c a := fun a ha T hT => by
  have := h T hT
  cases this with
  | agg h => obtain ⟨j, hj, e⟩ := List.mem_iff_getElem.1 ha; exact h j a (by rw [← e]; exact List.getElem?_eq_getElem hj)

theorem take_len {α : Type} (l : List α) {w : Nat} (h : l.length = w) : l.take w = l := by rw [List.take_of_length_le (by omega)]
/-- A copy of a slice, element by element, by a function. -/
def toSF (w : Nat) (z : List AV) (bytes g : Nat) : Fun := ⟨23,
  .seq (.reg [o 2 (.mv (.c .nsl))])
  (.seq (.reg [o 5 (.mv (.t 0)), o 6 (.lenL (.t 5)), o 7 (.mkslice w z bytes (.t 6) (.t 6)), o 3 (.mv (.t 7))])
  (.seq (.seq (.reg [o 4 (.mv (.c (.int .i64 0)))])
  (.block 0 (.loop (.seq (.seq (.reg [o 8 (.mv (.t 4)), o 9 (.mv (.t 0)), o 10 (.lenL (.t 9)), o 11 (.bin .lss (.t 8) (.t 10))])
    (.cond (.t 11) (.skip) (.exit 0)))
    (.seq (.block 1 (.reg [o 14 (.mv (.t 3)), o 15 (.mv (.t 4)), o 16 (.mv (.t 0)), o 17 (.mv (.t 4)), o 18 (.iaddr w (.t 16) (.t 17)), o 19 (.load (some w) (.t 18)), o 20 (.call g [(.t 19)]), o 21 (.iaddr w (.t 14) (.t 15)), st (.store w (.t 21) (.t 20))]))
    (.reg [o 12 (.mv (.t 4)), o 13 (.bin .add (.t 12) (.c (.int .i64 1))), o 4 (.mv (.t 13))]))))))
  (.seq (.reg [o 22 (.mv (.t 3)), o 2 (.mv (.t 22))])
  (.ret)))),
  [.tmp 2]⟩

/-- The same, of plain elements. -/
def toPF (z : AV) (bytes : Nat) : Fun := ⟨22,
  .seq (.reg [o 2 (.mv (.c .nsl))])
  (.seq (.reg [o 5 (.mv (.t 0)), o 6 (.lenL (.t 5)), o 7 (.mkslice 1 [z] bytes (.t 6) (.t 6)), o 3 (.mv (.t 7))])
  (.seq (.seq (.reg [o 4 (.mv (.c (.int .i64 0)))])
  (.block 0 (.loop (.seq (.seq (.reg [o 8 (.mv (.t 4)), o 9 (.mv (.t 0)), o 10 (.lenL (.t 9)), o 11 (.bin .lss (.t 8) (.t 10))])
    (.cond (.t 11) (.skip) (.exit 0)))
    (.seq (.block 1 (.reg [o 14 (.mv (.t 3)), o 15 (.mv (.t 4)), o 16 (.mv (.t 0)), o 17 (.mv (.t 4)), o 18 (.iaddr 1 (.t 16) (.t 17)), o 19 (.load none (.t 18)), o 20 (.iaddr 1 (.t 14) (.t 15)), st (.store 1 (.t 20) (.t 19))]))
    (.reg [o 12 (.mv (.t 4)), o 13 (.bin .add (.t 12) (.c (.int .i64 1))), o 4 (.mv (.t 13))]))))))
  (.seq (.reg [o 21 (.mv (.t 3)), o 2 (.mv (.t 21))])
  (.ret)))),
  [.tmp 2]⟩

/-- A slice's size: its elements' and their number. -/
def szSF (w g : Nat) : Fun := ⟨27,
  .seq (.reg [o 4 (.mv (.c (.int .i64 0)))])
  (.seq (.reg [o 6 (.mv (.t 1)), o 7 (.mv (.t 0)), o 8 (.lenL (.t 7)), o 9 (.bin .sub (.t 6) (.t 8)), o 1 (.mv (.t 9))])
  (.seq (.seq (.reg [o 10 (.mv (.t 1)), o 11 (.bin .lss (.t 10) (.c (.int .i64 0)))])
  (.cond (.t 11) (.seq (.reg [o 4 (.mv (.c (.int .i64 (-1))))])
   (.ret)) (.skip)))
  (.seq (.seq (.reg [o 5 (.mv (.c (.int .i64 0)))])
  (.block 0 (.loop (.seq (.seq (.reg [o 12 (.mv (.t 5)), o 13 (.mv (.t 0)), o 14 (.lenL (.t 13)), o 15 (.bin .lss (.t 12) (.t 14))])
    (.cond (.t 15) (.skip) (.exit 0)))
    (.seq (.block 1 (.seq (.reg [o 18 (.mv (.t 0)), o 19 (.mv (.t 5)), o 20 (.iaddr w (.t 18) (.t 19)), o 21 (.load (some w) (.t 20)), o 22 (.mv (.t 1)), o 23 (.call g [(.t 21), (.t 22)]), o 1 (.mv (.t 23))])
     (.seq (.reg [o 24 (.mv (.t 1)), o 25 (.bin .lss (.t 24) (.c (.int .i64 0)))])
     (.cond (.t 25) (.seq (.reg [o 4 (.mv (.c (.int .i64 (-1))))])
      (.ret)) (.skip)))))
    (.reg [o 16 (.mv (.t 5)), o 17 (.bin .add (.t 16) (.c (.int .i64 1))), o 5 (.mv (.t 17))]))))))
  (.seq (.reg [o 26 (.mv (.t 1)), o 4 (.mv (.t 26))])
  (.ret))))),
  [.tmp 4]⟩

/-- Two slices, compared by a function. -/
def eqSF (w g : Nat) : Fun := ⟨27,
  .seq (.reg [o 4 (.mv (.c (.bool false)))])
  (.seq (.seq (.reg [o 6 (.mv (.t 0)), o 7 (.lenL (.t 6)), o 8 (.mv (.t 1)), o 9 (.lenL (.t 8)), o 10 (.bin .neq (.t 7) (.t 9))])
  (.cond (.t 10) (.seq (.reg [o 4 (.mv (.c (.bool false)))])
   (.ret)) (.skip)))
  (.seq (.seq (.reg [o 5 (.mv (.c (.int .i64 0)))])
  (.block 0 (.loop (.seq (.seq (.reg [o 11 (.mv (.t 5)), o 12 (.mv (.t 0)), o 13 (.lenL (.t 12)), o 14 (.bin .lss (.t 11) (.t 13))])
    (.cond (.t 14) (.skip) (.exit 0)))
    (.seq (.block 1 (.seq (.reg [o 17 (.mv (.t 0)), o 18 (.mv (.t 5)), o 19 (.iaddr w (.t 17) (.t 18)), o 20 (.load (some w) (.t 19)), o 21 (.mv (.t 1)), o 22 (.mv (.t 5)), o 23 (.iaddr w (.t 21) (.t 22)), o 24 (.load (some w) (.t 23)), o 25 (.callF g [(.t 20), (.t 24)]), o 26 (.un .not (.t 25))])
     (.cond (.t 26) (.seq (.reg [o 4 (.mv (.c (.bool false)))])
      (.ret)) (.skip))))
    (.reg [o 15 (.mv (.t 5)), o 16 (.bin .add (.t 15) (.c (.int .i64 1))), o 5 (.mv (.t 16))]))))))
  (.seq (.reg [o 4 (.mv (.c (.bool true)))])
  (.ret)))),
  [.tmp 4]⟩

def eqPF : Fun := ⟨26,
  .seq (.reg [o 4 (.mv (.c (.bool false)))])
  (.seq (.seq (.reg [o 6 (.mv (.t 0)), o 7 (.lenL (.t 6)), o 8 (.mv (.t 1)), o 9 (.lenL (.t 8)), o 10 (.bin .neq (.t 7) (.t 9))])
  (.cond (.t 10) (.seq (.reg [o 4 (.mv (.c (.bool false)))])
   (.ret)) (.skip)))
  (.seq (.seq (.reg [o 5 (.mv (.c (.int .i64 0)))])
  (.block 0 (.loop (.seq (.seq (.reg [o 11 (.mv (.t 5)), o 12 (.mv (.t 0)), o 13 (.lenL (.t 12)), o 14 (.bin .lss (.t 11) (.t 13))])
    (.cond (.t 14) (.skip) (.exit 0)))
    (.seq (.block 1 (.seq (.reg [o 17 (.mv (.t 0)), o 18 (.mv (.t 5)), o 19 (.iaddr 1 (.t 17) (.t 18)), o 20 (.load none (.t 19)), o 21 (.mv (.t 1)), o 22 (.mv (.t 5)), o 23 (.iaddr 1 (.t 21) (.t 22)), o 24 (.load none (.t 23)), o 25 (.bin .neq (.t 20) (.t 24))])
     (.cond (.t 25) (.seq (.reg [o 4 (.mv (.c (.bool false)))])
      (.ret)) (.skip))))
    (.reg [o 15 (.mv (.t 5)), o 16 (.bin .add (.t 15) (.c (.int .i64 1))), o 5 (.mv (.t 16))]))))))
  (.seq (.reg [o 4 (.mv (.c (.bool true)))])
  (.ret)))),
  [.tmp 4]⟩

section
variable {P : Program} {α : Type} {enc : α → List AV} {con : α → α} {w : Nat} {f g : Nat}

theorem toS_fn {z : List AV} {bytes : Nat} (hf : compF P f = some (toSF w z bytes g)) (hz : z.length = w) (hw : ∀ x, (enc x).length = w) (hcell : ∀ x a, a ∈ enc x → a.cell = true) {s : SL α} (hn : s.list.length * bytes ≤ 281474976710656) (hn' : s.list.length ≤ 281474976710656)
    (hg : ∀ x, x ∈ s.list → Tr P g [.agg (enc x)] fun _ r => ∃ b, r = .agg (enc b) ∧ con b = con x) :
    Tr P f [s.av w enc] fun _ r => ∃ b : SL α, r = b.av w enc ∧ b.list.map con = s.list.map con := by
  intro c
  refine con_of hf (by simp [toSF]) ?_
  unfold toSF
  simp
  refine ⟨by omega, by omega, loop_nat s.list.length (fun i e H c' => c ≤ c' ∧ e 0 = s.av w enc ∧ e 3 = .ref 0 c w s.list.length ∧ e 4 = .int .i64 i ∧ ∃ ys : List α, ys.length = i ∧ ys.map con = (s.list.take i).map con ∧ (∀ y ∈ ys, From c (.agg (enc y))) ∧ H = [⟨false, c, w, grow enc z s.list.length ys⟩])
    ⟨by omega, rfl, rfl, rfl, [], rfl, rfl, by simp, by rw [grow_nil]⟩ ?_⟩
  intro i e H c' hi ⟨hc, e0, e3, e4, ys, hy, hcon, hfr, hH⟩ N hN
  subst hH
  simp [e0, e3, e4]
  refine ⟨fun h => ⟨s.list[i], List.getElem?_eq_getElem h, ?_⟩, fun h => ?_⟩
  · simp [hw, take_len, e0, e3, e4]
    refine call_tree0 (hg _ (List.getElem_mem h)) fun r c'' hc' ⟨b, hr, hb⟩ hf => ?_
    subst hr
    simp [h, hw, e0, e3, e4]
    refine ⟨_, grow_get _ _ hy h, hN _ _ _ h ⟨by omega, by simp [upd, e0], by simp [upd, e3], by simp [upd]; exact step64 (by unfold mx; omega) h, ys ++ [b], by simp [hy], ?_, ?_, ?_⟩⟩
    · rw [List.take_succ_eq_append_getElem h, List.map_append, List.map_append, hcon]; simp [hb]
    · intro y hym
      rcases List.mem_append.1 hym with h1 | h1
      · exact hfr y h1
      · simp at h1; subst h1; exact hf.mono hc
    · rw [putA_all (by rw [hw, hz]), grow_set _ _ hy h]
  · have : i = s.list.length := by omega
    subst this
    rw [grow_all _ _ hy]
    refine fin_slc (by simp) (by simpa using hy) (by simp; exact fun x _ a ha => hcell x a ha) ⟨rfl, ⟨.mk c ys, rfl, by simpa using hcon⟩, from_slc (Nat.le_refl _) ?_⟩
    simp [e0, e3, e4]
    exact fun y hym a ha => from_agg_mem (hfr y hym) a ha

theorem szS_fn (hf : compF P f = some (szSF w g)) (hw : ∀ x, (enc x).length = w) {sz : α → Nat} {s : SL α} (hn : s.list.length ≤ mx) {left : Int} (hl : Room left)
    (hg : ∀ x, x ∈ s.list → ∀ left, Room left → Fnc P g [.agg (enc x), .int .i64 left] (.int .i64 (szOf (sz x) left))) :
    Fnc P f [s.av w enc, .int .i64 left] (.int .i64 (szOf (s.list.length + szL sz s.list) left)) := by
  refine fn_of hf (by simp [szSF]) fun c => ?_
  unfold szSF
  simp [szOf_wrap hn hl]
  constructor
  · intro h; exact fin_plain (by simp; unfold szOf; split <;> omega)
  · intro h
    refine loop_nat s.list.length (fun i e H c => e 0 = s.av w enc ∧ e 5 = .int .i64 i ∧ e 1 = .int .i64 (left - s.list.length - szL sz (s.list.take i)) ∧ 0 ≤ left - s.list.length - szL sz (s.list.take i) ∧ H = []) ⟨rfl, rfl, by simp [szL], by simpa [szL] using h, rfl⟩ ?_
    intro i e H c hi ⟨e0, e5, e1, hp, hH⟩ N hN
    subst hH
    simp [e0, e5, e1]
    refine ⟨fun h => ⟨s.list[i], List.getElem?_eq_getElem h, ?_⟩, fun h => ?_⟩
    · have hr : Room (left - s.list.length - szL sz (s.list.take i)) := ⟨by omega, by have := hl.2; omega⟩
      have hst : szL sz (s.list.take (i + 1)) = szL sz (s.list.take i) + sz s.list[i] := szL_step _ _ h
      have hle := szL_le sz s.list (i + 1)
      simp [hw, take_len, e0, e5, e1]
      refine call_fn0 (hg _ (List.getElem_mem h) _ hr) .int fun c' _ => ?_
      simp [e0, e5, e1]
      unfold szOf
      split
      · refine ⟨fun h' => by omega, fun h' => hN _ _ _ h ⟨by simp [upd, e0], ?_, by simp [upd]; omega, by omega, rfl⟩⟩
        simp [upd]; exact step64 hn h
      · refine ⟨fun h' => fin_plain (by rw [if_neg (by omega)]; exact ⟨rfl, rfl⟩), fun h' => by omega⟩
    · have : i = s.list.length := by omega
      subst this
      refine fin_plain ⟨?_, rfl⟩
      rw [List.take_length] at hp ⊢
      unfold szOf
      rw [if_pos (by push_cast; omega)]
      congr 1
      push_cast; omega

theorem eqS_fn (hf : compF P f = some (eqSF w g)) (hw : ∀ x, (enc x).length = w) {s t : SL α} (hn : s.list.length ≤ mx) (he : s.list.map con = t.list.map con)
    (hg : ∀ x, x ∈ s.list → ∀ y, con x = con y → Fnc P g [.agg (enc x), .agg (enc y)] (.bool true)) : Fnc P f [s.av w enc, t.av w enc] (.bool true) := by
  have hlen : s.list.length = t.list.length := by have := congrArg List.length he; simpa using this
  refine fn_of hf (by simp [eqSF]) fun c => ?_
  unfold eqSF
  simp [hlen]
  refine loop_nat s.list.length (fun i e H c => e 0 = s.av w enc ∧ e 1 = t.av w enc ∧ e 5 = .int .i64 i ∧ H = []) ⟨rfl, rfl, rfl, rfl⟩ ?_
  intro i e H c hi ⟨e0, e1, e5, hH⟩ N hN
  subst hH
  simp [e0, e1, e5]
  refine ⟨fun h => ⟨s.list[i], List.getElem?_eq_getElem h, ?_⟩, fun h => fin_plain ⟨rfl, rfl⟩⟩
  have ht : i < t.list.length := by omega
  have hc : con s.list[i] = con t.list[i] := by
    have h1 : (s.list.map con)[i]? = (t.list.map con)[i]? := by rw [he]
    simpa [h, ht] using h1
  simp [hw, take_len, e0, e1, e5]
  refine ⟨t.list[i], List.getElem?_eq_getElem ht, ?_⟩
  simp [hw, take_len, e0, e1, e5]
  refine callF_fn0 (hg _ (List.getElem_mem h) _ hc) .bool fun c' _ => ?_
  simp [e0, e1, e5]
  exact hN _ _ _ h ⟨by simp [upd, e0], by simp [upd, e1], by simp [upd]; exact step64 hn h, rfl⟩

theorem toP_fn {v : α → AV} {z : AV} {bytes : Nat} (hf : compF P f = some (toPF z bytes)) (hc : ∀ x, (v x).cell = true) (hfr : ∀ x c, From c (v x)) (hv : ∀ x (K : List AV → Prop), cellsW (v x) K = K [v x]) {s : SL α} (hn : s.list.length * bytes ≤ 281474976710656) (hn' : s.list.length ≤ 281474976710656) :
    Tr P f [s.av 1 fun x => [v x]] fun _ r => ∃ t, r = (SL.mk t s.list).av 1 fun x => [v x] := by
  intro c
  refine con_of hf (by simp [toPF]) ?_
  unfold toPF
  simp
  refine ⟨by omega, by omega, loop_nat s.list.length (fun i e H c' => e 0 = (s.av 1 fun x => [v x]) ∧ e 3 = .ref 0 c 1 s.list.length ∧ e 4 = .int .i64 i ∧ H = [⟨false, c, 1, grow (fun x => [v x]) [z] s.list.length (s.list.take i)⟩]) ⟨rfl, rfl, rfl, by rw [List.take_zero, grow_nil]⟩ ?_⟩
  intro i e H c' hi ⟨e0, e3, e4, hH⟩ N hN
  subst hH
  simp [e0, e3, e4]
  refine ⟨fun h => ⟨s.list[i], List.getElem?_eq_getElem h, ?_⟩, fun h => ?_⟩
  · have hl : (s.list.take i).length = i := by simp; omega
    simp [h, hv, e0, e3, e4]
    refine ⟨_, grow_get _ _ hl h, hN _ _ _ h ⟨by simp [upd, e0], by simp [upd, e3], by simp [upd]; exact step64 (by unfold mx; omega) h, ?_⟩⟩
    rw [List.take_succ_eq_append_getElem h, ← grow_set _ _ hl h]; rfl
  · have : i = s.list.length := by omega
    subst this
    rw [List.take_length, grow_all _ _ rfl]
    refine fin_slc (by simp) (by simp) (by simp; exact fun x _ => hc x) ⟨rfl, ⟨c, rfl⟩, from_slc (Nat.le_refl _) ?_⟩
    simp [e0, e3, e4]
    exact fun x _ => hfr x c

theorem eqP_fn {v : α → AV} (hf : compF P f = some eqPF) (hv : ∀ x (K : AV → Prop), binW .neq (v x) (v x) K = K (.bool false)) {s t : SL α} (hn : s.list.length ≤ mx) (he : s.list = t.list) : Fnc P f [s.av 1 fun x => [v x], t.av 1 fun x => [v x]] (.bool true) := by
  refine fn_of hf (by simp [eqPF]) fun c => ?_
  unfold eqPF
  simp [← he]
  refine loop_nat s.list.length (fun i e H c => e 0 = (s.av 1 fun x => [v x]) ∧ e 1 = (t.av 1 fun x => [v x]) ∧ e 5 = .int .i64 i ∧ H = []) ⟨rfl, rfl, rfl, rfl⟩ ?_
  intro i e H c hi ⟨e0, e1, e5, hH⟩ N hN
  subst hH
  simp [e0, e1, e5]
  refine ⟨fun h => ⟨s.list[i], List.getElem?_eq_getElem h, ?_⟩, fun h => fin_plain ⟨rfl, rfl⟩⟩
  simp [e0, e1, e5]
  refine ⟨s.list[i], by rw [← he]; exact List.getElem?_eq_getElem h, ?_⟩
  simp [hv, e0, e1, e5]
  exact hN _ _ _ h ⟨by simp [upd, e0], by simp [upd, e1], by simp [upd]; exact step64 hn h, rfl⟩

/-- A slice's size, of elements without one. -/
def szPF : Fun := ⟨12,
  .seq (.reg [o 4 (.mv (.c (.int .i64 0)))])
  (.seq (.reg [o 5 (.mv (.t 1)), o 6 (.mv (.t 0)), o 7 (.lenL (.t 6)), o 8 (.bin .sub (.t 5) (.t 7)), o 1 (.mv (.t 8))])
  (.seq (.seq (.reg [o 9 (.mv (.t 1)), o 10 (.bin .lss (.t 9) (.c (.int .i64 0)))])
  (.cond (.t 10) (.seq (.reg [o 4 (.mv (.c (.int .i64 (-1))))])
   (.ret)) (.skip)))
  (.seq (.reg [o 11 (.mv (.t 1)), o 4 (.mv (.t 11))])
  (.ret)))),
  [.tmp 4]⟩
theorem szP_fn (hf : compF P f = some szPF) {s : SL α} (hn : s.list.length ≤ mx) {left : Int} (hl : Room left) : Fnc P f [s.av w enc, .int .i64 left] (.int .i64 (szOf s.list.length left)) := by
  refine fn_of hf (by simp [szPF]) fun c => ?_
  unfold szPF
  simp [szOf_wrap hn hl]
  unfold szOf
  constructor
  · intro h; exact fin_plain (by simp; omega)
  · intro h; exact fin_plain (by simp; omega)

theorem szOf_neg {n : Nat} {left : Int} (h : left < n) : szOf n left = -1 := if_neg (by omega)
theorem szOf_lt {n : Nat} {left : Int} (h : szOf n left < 0) : left < n := by unfold szOf at h; split at h <;> omega
theorem szOf_ge {n : Nat} {left : Int} (h : 0 ≤ szOf n left) : szOf n left = left - n ∧ n ≤ left := by unfold szOf at *; split at h <;> first | (rw [if_pos (by assumption)]; exact ⟨rfl, by assumption⟩) | omega
theorem szL_mem {sz : α → Nat} {l : List α} {x : α} (h : x ∈ l) : sz x ≤ szL sz l := by
  obtain ⟨i, hi, rfl⟩ := List.mem_iff_getElem.1 h
  have h1 := szL_step sz l hi
  have h2 := szL_le sz l (i + 1)
  omega
theorem szL_map {sz : α → Nat} (h : ∀ x, sz (con x) = sz x) (l : List α) : szL sz (l.map con) = szL sz l := by
  unfold szL; rw [List.map_map]; congr 1; exact List.map_congr_left fun x _ => h x

/-! ### shapes -/
theorem sh_int {n : Nat} {t : TypeId} {k : IntKind} (hu : P.underlying t = some (.int k)) {a : AV} (h : ShC P n t [a]) : ∃ i, a = .int k i ∧ IOk k i := by
  cases n with
  | zero => exact h.elim
  | succ n => simp only [ShC, hu] at h; obtain ⟨i, h1, h2⟩ := h; cases h1; exact ⟨i, rfl, h2⟩
theorem sh_bool {n : Nat} {t : TypeId} (hu : P.underlying t = some .bool) {a : AV} (h : ShC P n t [a]) : ∃ b, a = .bool b := by
  cases n with
  | zero => exact h.elim
  | succ n => simp only [ShC, hu] at h; obtain ⟨i, h1⟩ := h; cases h1; exact ⟨i, rfl⟩
theorem sh_str {n : Nat} {t : TypeId} (hu : P.underlying t = some .string) {a : AV} (h : ShC P n t [a]) : ∃ l, a = .str l ∧ l.length ≤ mx := by
  cases n with
  | zero => exact h.elim
  | succ n => simp only [ShC, hu] at h; obtain ⟨i, h1, h2⟩ := h; cases h1; exact ⟨i, rfl, h2⟩
theorem rows_typed {ok : α → Prop} : ∀ (rows : List (List AV)), (∀ row, row ∈ rows → ∃ x, row = enc x ∧ ok x) → ∃ xs : List α, rows = xs.map enc ∧ ∀ x, x ∈ xs → ok x := by
  intro rows
  induction rows with
  | nil => intro _; exact ⟨[], rfl, by simp⟩
  | cons r rows ih =>
    intro h
    obtain ⟨x, hx, ox⟩ := h r (List.mem_cons_self ..)
    obtain ⟨xs, hxs, oxs⟩ := ih fun row hr => h row (List.mem_cons_of_mem _ hr)
    exact ⟨x :: xs, by simp [hx, hxs], by simpa using ⟨ox, oxs⟩⟩
theorem sh_slc {ok : α → Prop} {n : Nat} {t el : TypeId} (hu : P.underlying t = some (.slice el)) (hw : P.cellsOf el = w) (he : ∀ n row, ShC P n el row → ∃ x, row = enc x ∧ ok x) {a : AV} (h : ShC P n t [a]) :
    ∃ s : SL α, a = s.av w enc ∧ s.list.length ≤ mx ∧ ∀ x, x ∈ s.list → ok x := by
  cases n with
  | zero => exact h.elim
  | succ n =>
    simp only [ShC, hu] at h
    rcases h with h | ⟨tag, rows, h1, h2, h3⟩
    · cases h; exact ⟨.nil, rfl, by simp, by simp⟩
    · cases h1
      obtain ⟨xs, hxs, ox⟩ := rows_typed (enc := enc) (ok := ok) rows fun row hr => he n row (h3 row hr)
      subst hxs
      exact ⟨.mk tag xs, by rw [hw]; rfl, by simpa using h2, by simpa using ox⟩
theorem sh_struct {n : Nat} {t : TypeId} {fs : Array Field} (hu : P.underlying t = some (.struct fs)) {as0 : List AV} (h : ShC P n t as0) : ∃ m, as0.length = P.cellsOf t ∧ ∀ f, f ∈ fs.toList → ShC P m f.type ((as0.drop f.offset).take (P.cellsOf f.type)) := by
  cases n with
  | zero => exact h.elim
  | succ n => simp only [ShC, hu] at h; exact ⟨n, h⟩
def fieldsAre (P : Program) (t : TypeId) (l : List (TypeId × Nat)) : Bool :=
  match P.underlying t with
  | some (.struct fs) => (fs.toList.map fun f => (f.type, f.offset)) == l
  | _ => false
theorem sh_fields {n : Nat} {t : TypeId} {l : List (TypeId × Nat)} (hu : fieldsAre P t l = true) {as0 : List AV} (h : ShC P n t as0) : ∃ m, as0.length = P.cellsOf t ∧ ∀ p, p ∈ l → ShC P m p.1 ((as0.drop p.2).take (P.cellsOf p.1)) := by
  unfold fieldsAre at hu
  split at hu
  · rename_i fs hfs
    simp only [beq_iff_eq] at hu
    obtain ⟨m, h1, h2⟩ := sh_struct hfs h
    refine ⟨m, h1, fun p hp => ?_⟩
    rw [← hu] at hp
    obtain ⟨f, hf, rfl⟩ := List.mem_map.1 hp
    exact h2 f hf
  · cases hu
theorem sh_int1 {n : Nat} {t : TypeId} {k : IntKind} (hu : P.underlying t = some (.int k)) {row : List AV} (h : ShC P n t row) : ∃ i, row = [.int k i] ∧ IOk k i := by
  cases n with
  | zero => exact h.elim
  | succ n => simp only [ShC, hu] at h; exact h
theorem sh_str1 {n : Nat} {t : TypeId} (hu : P.underlying t = some .string) {row : List AV} (h : ShC P n t row) : ∃ l, row = [.str l] ∧ l.length ≤ mx := by
  cases n with
  | zero => exact h.elim
  | succ n => simp only [ShC, hu] at h; exact h
theorem sh_bool1 {n : Nat} {t : TypeId} (hu : P.underlying t = some .bool) {row : List AV} (h : ShC P n t row) : ∃ b, row = [.bool b] := by
  cases n with
  | zero => exact h.elim
  | succ n => simp only [ShC, hu] at h; exact h
end
end A
end Go.Proofs.Ytgiiipbpadgcgaa

/-
  Calls that are handed objects, or hand objects back. No condition.
-/

namespace Go.Proofs.Ytgiiipbpadgcgaa
namespace A
set_option linter.unusedVariables false
section
variable {P : Program} {H : List AObj} {c : Nat} {K : AV → List AObj → Nat → Prop}

theorem From.nil {c : Nat} {a : AV} (h : From c a) : Av [] a := h [] (by simp)

/-- A call that is handed all the objects. -/
theorem call_con {f : Nat} {as0 : List AV} {Q : AV → List AObj → Nat → Prop} (hf : Con P f as0 H c Q)
    (k : ∀ r H' c', c ≤ c' → Q r H' c' → (∀ t, t < c → t ∈ tags H' → t ∈ tags H) → (tags H').Nodup → Av [] r ∧ (∀ o, o ∈ H' → AvRows [] o) ∧ K r H' c') : CallW P f as0 H c K := by
  intro hn hlt
  obtain ⟨h1, h2⟩ := (Views.refl [] as0).spec
  refine ⟨H, [], as0, Q, List.Sublist.refl _, by simp, by simp [tags], h1, h2, hf, fun r H' c' hc hq ho hd => ?_⟩
  obtain ⟨k1, k2, k3⟩ := k r H' c' hc hq ho hd
  exact ⟨H', r, fun o h => .inl h, hd, .refl r, k1, fun o h _ => k2 o h, k3⟩

/-- Any run of objects may be left out of a call, and only read there. -/
theorem call_part {f : Nat} {as0 as' : List AV} {H1 S : List AObj} {Q : AV → List AObj → Nat → Prop} (hsub : H1.Sublist H) (hS : ∀ o, o ∈ S → o ∈ H) (hd : ∀ t, t ∈ tags H1 → t ∉ tags S) (hv : Views S as0 as') (hf : Con P f as' H1 c Q)
    (k : ∀ r H1' c', c ≤ c' → Q r H1' c' → (∀ t, t < c → t ∈ tags H1' → t ∈ tags H1) → (tags H1').Nodup → ∃ H' r', (∀ o, o ∈ H' → o ∈ H1' ∨ (o ∈ H ∧ o.tag ∉ tags H1)) ∧ (tags H').Nodup ∧ View [] r r' ∧ Av (tags S) r' ∧
      (∀ o, o ∈ H' → o ∈ H1' → AvRows (tags S) o) ∧ K r' H' c') : CallW P f as0 H c K := by
  intro hn hlt
  obtain ⟨h1, h2⟩ := hv.spec
  exact ⟨H1, S, as', Q, hsub, hS, hd, h1, h2, hf, k⟩

/-- A call that reads the objects and hands back objects of its own. -/
theorem call_new {f : Nat} {as0 as' : List AV} {Q : AV → List AObj → Nat → Prop} (hf : Con P f as' [] c Q) (hv : Views H as0 as')
    (k : ∀ r O c', c ≤ c' → Q r O c' → (∀ t, t ∈ tags O → c ≤ t) → (tags O).Nodup → ∃ r', View [] r r' ∧ Av (tags H) r' ∧ (∀ o, o ∈ O → AvRows (tags H) o) ∧ K r' (H ++ O) c') : CallW P f as0 H c K := by
  intro hn hlt
  obtain ⟨h1, h2⟩ := hv.spec
  refine ⟨[], H, as', Q, List.nil_sublist _, fun o h => h, by simp [tags], h1, h2, hf, fun r O c' hc hq ho hd => ?_⟩
  have hfresh : ∀ t, t ∈ tags O → c ≤ t := fun t ht => by
    rcases Nat.lt_or_ge t c with h | h
    · have := ho t h ht; simp [tags] at this
    · exact h
  obtain ⟨r', k1, k2, k3, k4⟩ := k r O c' hc hq hfresh hd
  refine ⟨H ++ O, r', fun o h => ?_, ?_, k1, k2, fun o _ h => k3 o h, k4⟩
  · rcases List.mem_append.1 h with h | h
    · exact .inr ⟨h, by simp [tags]⟩
    · exact .inl h
  · have : tags (H ++ O) = tags H ++ tags O := by simp [tags]
    rw [this]
    refine List.nodup_append.2 ⟨hn, hd, fun a ha b hb hab => ?_⟩
    subst hab
    exact absurd (hlt a ha) (Nat.not_lt.2 (hfresh a hb))

/-- A call that is handed some of the objects, and leaves them in their places. -/
theorem call_mid {f : Nat} {as0 as' : List AV} {A B C : List AObj} {Q : AV → List AObj → Nat → Prop} (hf : Con P f as' B c Q) (hv : Views [] as0 as')
    (k : ∀ r B' c', c ≤ c' → Q r B' c' → tags B' = tags B ∧ Av [] r ∧ (∀ o, o ∈ B' → AvRows [] o) ∧ K r (A ++ B' ++ C) c') : CallW P f as0 (A ++ B ++ C) c K := by
  intro hn hlt
  obtain ⟨h1, h2⟩ := hv.spec
  have hsub : B.Sublist (A ++ B ++ C) := (List.sublist_append_right A B).trans (List.sublist_append_left _ _)
  refine ⟨B, [], as', Q, hsub, by simp, by simp [tags], h1, h2, hf, fun r B' c' hc hq ho hd => ?_⟩
  obtain ⟨k0, k1, k2, k3⟩ := k r B' c' hc hq
  have e : ∀ X, tags (A ++ X ++ C) = tags A ++ tags X ++ tags C := fun X => by simp [tags]
  have hn' := hn
  rw [e] at hn'
  refine ⟨A ++ B' ++ C, r, fun o h => ?_, by rw [e, k0, ← e]; exact hn, .refl r, k1, fun o _ h => k2 o h, k3⟩
  rw [List.append_assoc] at h
  have hAB := List.nodup_append.1 hn'
  have hA := List.nodup_append.1 hAB.1
  rcases List.mem_append.1 h with h | h
  · exact .inr ⟨by simp [h], fun hb => hA.2.2 _ (mem_tags h) _ hb rfl⟩
  · rcases List.mem_append.1 h with h | h
    · exact .inl h
    · exact .inr ⟨by simp [h], fun hb => hAB.2.2 _ (List.mem_append_right _ hb) _ (mem_tags h) rfl⟩

@[simp] theorem callvW_fn (f : Nat) (caps as0 : List AV) : callvW P (.fn f caps) as0 H c K = (bodyOk P f = true ∧ CallW P f (as0 ++ caps) H c K) := (rfl)

/-- A variable seen as0 what it holds. -/
theorem view_ptr {S : List AObj} {i tag w r o : Nat} {rows : List (List AV)} {row : List AV} (ho : (⟨false, tag, w, rows⟩ : AObj) ∈ S) (hrow : rows[r]? = some row) (hc : ∀ a, a ∈ row → a.cell = true) : View S (.ptr i tag w r o) (.cpt row o) :=
  .ptr ho hrow rfl (fun j a ha => hc a (List.mem_of_getElem? ha)) fun j a a' h1 h2 => by rw [h1] at h2; cases h2; exact .refl _

/-- All the objects are handed back. -/
theorem fin_all {Q : AV → List AObj → Nat → Prop} {v : AV} (h : Q v H c) : finW Q v H c := ⟨[], H, H, v, List.Sublist.refl _, .refl _ _, by simp, by simp [tags], .refl v, h⟩

theorem avRows_of {T : List Nat} {o : AObj} (h : ∀ row, row ∈ o.rows → ∀ a, a ∈ row → Av T a) : AvRows T o := fun r j x a hr ha => h x (List.mem_of_getElem? hr) a (List.mem_of_getElem? ha)

/-- A slice of the state's seen as0 a tree. -/
theorem view_ref {α : Type} {enc : α → List AV} {S : List AObj} {i tag w n : Nat} {l : List α} (ho : (⟨false, tag, w, l.map enc⟩ : AObj) ∈ S) (hn : l.length = n) (hc : ∀ x, x ∈ l → ∀ a, a ∈ enc x → a.cell = true) : View S (.ref i tag w n) ((SL.mk tag l).av w enc) :=
  .ref ho (by simp; omega) (by simp [hn]) (fun r x x' h1 h2 => by rw [h1] at h2; cases h2; rfl)
    (fun r j x a hx ha => by
      obtain ⟨y, hy, rfl⟩ := List.mem_map.1 (List.mem_of_getElem? hx)
      exact hc y hy a (List.mem_of_getElem? ha))
    fun r j x x' a a' h1 h2 h3 h4 => by rw [h1] at h2; cases h2; rw [h3] at h4; cases h4; exact .refl _

@[simp high] theorem getW_set {α : Type} (l : List α) (i : Nat) (x : α) (K : α → Prop) : getW (l.set i x) i K = (i < l.length ∧ K x) := by
  unfold getW
  apply propext
  constructor
  · rintro ⟨y, h1, h2⟩
    have hi : i < l.length := by simpa using (List.getElem?_eq_some_iff.1 h1).1
    rw [List.getElem?_set_self hi] at h1
    cases h1
    exact ⟨hi, h2⟩
  · rintro ⟨hi, h2⟩
    exact ⟨x, List.getElem?_set_self hi, h2⟩

/-- Marks: element by element, from a number on. -/
def mks {α : Type} (mk : Int → α → α) (cnt : α → Nat) : Int → List α → List α
  | _, [] => []
  | k, x :: l => mk k x :: mks mk cnt (k + cnt x) l
theorem mks_len {α : Type} (mk : Int → α → α) (cnt : α → Nat) : ∀ (k : Int) (l : List α), (mks mk cnt k l).length = l.length
  | _, [] => rfl
  | k, x :: l => by simp [mks, mks_len mk cnt (k + cnt x) l]
theorem mks_app {α : Type} (mk : Int → α → α) (cnt : α → Nat) : ∀ (k : Int) (l m : List α), mks mk cnt k (l ++ m) = mks mk cnt k l ++ mks mk cnt (k + szL cnt l) m
  | k, [], m => by simp [mks, szL]
  | k, x :: l, m => by
    have e : k + (cnt x : Int) + (szL cnt l : Int) = k + (szL cnt (x :: l) : Int) := by simp [szL]; omega
    simp [mks, mks_app mk cnt (k + cnt x) l m, e]
theorem mks_step {α : Type} (mk : Int → α → α) (cnt : α → Nat) (k : Int) (l : List α) {i : Nat} (h : i < l.length) : mks mk cnt k (l.take (i + 1)) = mks mk cnt k (l.take i) ++ [mk (k + szL cnt (l.take i)) l[i]] := by
  rw [List.take_succ_eq_append_getElem h, mks_app]; rfl
theorem mks_get {α : Type} (mk : Int → α → α) (cnt : α → Nat) (k : Int) (l : List α) {i : Nat} (h : i < l.length) : (mks mk cnt k l)[i]? = some (mk (k + szL cnt (l.take i)) l[i]) := by
  have e : l = l.take i ++ l[i] :: l.drop (i + 1) := by rw [← List.drop_eq_getElem_cons h, List.take_append_drop]
  conv => lhs; rw [e, mks_app]
  rw [List.getElem?_append_right (by rw [mks_len]; simp; omega), mks_len, List.length_take, Nat.min_eq_left (by omega), Nat.sub_self]
  rfl
/-- Marked so far, and not yet. -/
def mixed {α : Type} (mk : Int → α → α) (cnt : α → Nat) (k : Int) (l : List α) (i : Nat) : List α := mks mk cnt k (l.take i) ++ l.drop i
theorem mixed_zero {α : Type} (mk : Int → α → α) (cnt : α → Nat) (k : Int) (l : List α) : mixed mk cnt k l 0 = l := by simp [mixed, mks]
theorem mixed_all {α : Type} (mk : Int → α → α) (cnt : α → Nat) (k : Int) (l : List α) : mixed mk cnt k l l.length = mks mk cnt k l := by simp [mixed]
theorem mixed_len {α : Type} (mk : Int → α → α) (cnt : α → Nat) (k : Int) (l : List α) (i : Nat) : (mixed mk cnt k l i).length = l.length := by simp [mixed, mks_len]; omega
theorem mixed_get {α : Type} (mk : Int → α → α) (cnt : α → Nat) (k : Int) (l : List α) {i : Nat} (h : i < l.length) : (mixed mk cnt k l i)[i]? = some l[i] := by
  unfold mixed
  rw [List.getElem?_append_right (by rw [mks_len]; simp; omega), mks_len, List.length_take, Nat.min_eq_left (by omega), Nat.sub_self, List.getElem?_drop]
  simp [h]
theorem mixed_set {α : Type} (mk : Int → α → α) (cnt : α → Nat) (k : Int) (l : List α) {i : Nat} (h : i < l.length) : (mixed mk cnt k l i).set i (mk (k + szL cnt (l.take i)) l[i]) = mixed mk cnt k l (i + 1) := by
  unfold mixed
  rw [List.set_append_right _ _ (by rw [mks_len]; simp; omega), mks_len, List.length_take, Nat.min_eq_left (by omega), Nat.sub_self, mks_step mk cnt k l h, List.drop_eq_getElem_cons h, List.set_cons_zero]
  simp
end
end A
end Go.Proofs.Ytgiiipbpadgcgaa

/-
  Slices that stay objects: copies, marks, and what reads marks. No condition.
-/

namespace Go.Proofs.Ytgiiipbpadgcgaa
namespace A
set_option linter.unusedVariables false
set_option linter.unusedSimpArgs false

/-- Slices of numbers: marks. -/
def markIF : Fun := ⟨19,
  .seq (.reg [o 4 (.mv (.c (.int .i64 0)))])
  (.seq (.seq (.reg [o 5 (.mv (.c (.int .i64 0)))])
  (.block 0 (.loop (.seq (.seq (.reg [o 6 (.mv (.t 5)), o 7 (.mv (.t 0)), o 8 (.lenL (.t 7)), o 9 (.bin .lss (.t 6) (.t 8))])
    (.cond (.t 9) (.skip) (.exit 0)))
    (.seq (.block 1 (.seq (.reg [o 12 (.mv (.t 0)), o 13 (.mv (.t 5)), o 14 (.mv (.t 1)), o 15 (.iaddr 1 (.t 12) (.t 13)), st (.store 1 (.t 15) (.t 14))])
     (.reg [o 16 (.mv (.t 1)), o 17 (.bin .add (.t 16) (.c (.int .i64 1))), o 1 (.mv (.t 17))])))
    (.reg [o 10 (.mv (.t 5)), o 11 (.bin .add (.t 10) (.c (.int .i64 1))), o 5 (.mv (.t 11))]))))))
  (.seq (.reg [o 18 (.mv (.t 1)), o 4 (.mv (.t 18))])
  (.ret))),
  [.tmp 4]⟩
def heldIF : Fun := ⟨21,
  .seq (.reg [o 4 (.mv (.c (.int .i64 0)))])
  (.seq (.seq (.reg [o 5 (.mv (.c (.int .i64 0)))])
  (.block 0 (.loop (.seq (.seq (.reg [o 6 (.mv (.t 5)), o 7 (.mv (.t 0)), o 8 (.lenL (.t 7)), o 9 (.bin .lss (.t 6) (.t 8))])
    (.cond (.t 9) (.skip) (.exit 0)))
    (.seq (.block 1 (.seq (.seq (.reg [o 12 (.mv (.t 0)), o 13 (.mv (.t 5)), o 14 (.iaddr 1 (.t 12) (.t 13)), o 15 (.load none (.t 14)), o 16 (.mv (.t 1)), o 17 (.bin .neq (.t 15) (.t 16))])
     (.cond (.t 17) (.seq (.reg [o 4 (.mv (.c (.int .i64 (-1))))])
      (.ret)) (.skip)))
     (.reg [o 18 (.mv (.t 1)), o 19 (.bin .add (.t 18) (.c (.int .i64 1))), o 1 (.mv (.t 19))])))
    (.reg [o 10 (.mv (.t 5)), o 11 (.bin .add (.t 10) (.c (.int .i64 1))), o 5 (.mv (.t 11))]))))))
  (.seq (.reg [o 20 (.mv (.t 1)), o 4 (.mv (.t 20))])
  (.ret))),
  [.tmp 4]⟩
def mkI (k : Int) (x : Int) : Int := k
def cI (x : Int) : Nat := 1
theorem szL_le_mul {α : Type} (sz : α → Nat) (m : Nat) (h : ∀ x, sz x ≤ m) (l : List α) : szL sz l ≤ m * l.length := by
  induction l with
  | nil => simp [szL]
  | cons x l ih =>
    have := h x
    simp only [szL, List.map_cons, List.sum_cons, List.length_cons, Nat.mul_add] at ih ⊢
    omega
theorem szL_cI (l : List Int) : szL cI l = l.length := by
  induction l with
  | nil => rfl
  | cons x l ih => simp only [szL, List.map_cons, List.sum_cons, List.length_cons] at ih ⊢; rw [ih]; simp [cI]; omega

section
variable {P : Program} {f : Nat}
theorem markI_nil (hf : compF P f = some markIF) (k : Int) : Fnc P f [.nsl, .int .i64 k] (.int .i64 k) := by
  refine fn_of hf (by simp [markIF]) fun c => ?_
  unfold markIF
  simp
  refine loop_drop 0 (fun i e H c' => e 0 = .nsl ∧ e 1 = .int .i64 k ∧ e 5 = .int .i64 0 ∧ H = []) ⟨rfl, rfl, rfl, rfl⟩ ?_
  intro i e H c hi ⟨e0, e1, e5, hH⟩ N hN
  subst hH
  simp [e0, e1, e5]
  exact fin_plain ⟨rfl, rfl⟩
theorem heldI_nil (hf : compF P f = some heldIF) (k : Int) : Fnc P f [.nsl, .int .i64 k] (.int .i64 k) := by
  refine fn_of hf (by simp [heldIF]) fun c => ?_
  unfold heldIF
  simp
  refine loop_drop 0 (fun i e H c' => e 0 = .nsl ∧ e 1 = .int .i64 k ∧ e 5 = .int .i64 0 ∧ H = []) ⟨rfl, rfl, rfl, rfl⟩ ?_
  intro i e H c hi ⟨e0, e1, e5, hH⟩ N hN
  subst hH
  simp [e0, e1, e5]
  exact fin_plain ⟨rfl, rfl⟩
theorem markI_con1 (hf : compF P f = some markIF) {l : List Int} (hn : l.length ≤ 1048576) {k : Int} (hk : 0 ≤ k ∧ k ≤ 1099511627776) (t c : Nat) :
    Con P f [.ref 0 t 1 l.length, .int .i64 k] [⟨false, t, 1, l.map encI⟩] c fun r H' _ => r = .int .i64 (k + l.length) ∧ H' = [⟨false, t, 1, (mks mkI cI k l).map encI⟩] := by
  refine con_of hf (by simp [markIF]) ?_
  unfold markIF
  simp
  refine loop_drop l.length (fun i e H c' => e 0 = .ref 0 t 1 l.length ∧ e 1 = .int .i64 (k + i) ∧ e 5 = .int .i64 i ∧ H = [⟨false, t, 1, (mixed mkI cI k l i).map encI⟩]) ⟨rfl, by simp, rfl, by rw [mixed_zero]⟩ ?_
  intro i e H c hi ⟨e0, e1, e5, hH⟩ N hN
  subst hH
  have hs := mixed_set mkI cI k l (i := i)
  rw [szL_cI, List.length_take, Nat.min_eq_left hi] at hs
  have w1 : IntKind.i64.wrap (k + i + 1) = k + i + 1 := wrap64 (by omega) (by omega)
  simp [e0, e1, e5]
  refine ⟨fun h => ?_, fun h => ?_⟩
  · refine ⟨h, l[i], mixed_get _ _ _ _ h, ?_⟩
    have hs := hs h
    simp [e0, e1, e5, h, mixed_len, w1, putA, encI]
    refine hN _ _ _ _ h (List.Sublist.refl _) ⟨by simp [upd, e0], ?_, by simp [upd]; exact step64 (by unfold mx; omega) h, ?_⟩
    · simp [upd, w1]; omega
    · rw [← hs, List.map_set]; rfl
  · have h1 : i = l.length := by omega
    subst h1
    exact fin_all ⟨rfl, by rw [mixed_all]⟩
theorem heldI_fn1 (hf : compF P f = some heldIF) {l : List Int} (hn : l.length ≤ 1048576) {k : Int} (hk : 0 ≤ k ∧ k ≤ 1099511627776) (t : Nat) :
    Fnc P f [(SL.mk t (mks mkI cI k l)).av 1 encI, .int .i64 k] (.int .i64 (k + l.length)) := by
  refine fn_of hf (by simp [heldIF]) fun c => ?_
  unfold heldIF
  simp
  have hlen := mks_len mkI cI k l
  refine loop_drop l.length (fun i e H c' => e 0 = (SL.mk t (mks mkI cI k l)).av 1 encI ∧ e 1 = .int .i64 (k + i) ∧ e 5 = .int .i64 i ∧ H = []) ⟨rfl, by simp, rfl, rfl⟩ ?_
  intro i e H c hi ⟨e0, e1, e5, hH⟩ N hN
  subst hH
  have hg := fun h : i < l.length => mks_get mkI cI k l h
  rw [szL_cI, List.length_take, Nat.min_eq_left hi] at hg
  have w1 : IntKind.i64.wrap (k + i + 1) = k + i + 1 := wrap64 (by omega) (by omega)
  simp [e0, e1, e5, hlen]
  refine ⟨fun h => ⟨_, hg h, ?_⟩, fun h => ?_⟩
  · simp [e0, e1, e5, h, w1, mkI]
    refine hN _ _ _ _ h (List.Sublist.refl _) ⟨by simp [upd, e0], ?_, by simp [upd]; exact step64 (by unfold mx; omega) h, rfl⟩
    simp [upd, w1]; omega
  · have h1 : i = l.length := by omega
    subst h1
    exact fin_plain ⟨rfl, rfl⟩
end

/-! ### slices as0 objects -/
section
variable {α : Type}
/-- A slice of the state's, and what hangs on it. -/
def wood (t w : Nat) (encO : α → List AV) (inn : α → List AObj) (l : List α) : List AObj := ⟨false, t, w, l.map encO⟩ :: l.flatMap inn
def noInn (_ : α) : List AObj := []
theorem wood_flat (t w : Nat) (encO : α → List AV) (l : List α) : wood t w encO noInn l = [⟨false, t, w, l.map encO⟩] := by
  unfold wood noInn
  have : l.flatMap (fun _ : α => ([] : List AObj)) = [] := by induction l with | nil => rfl | cons x l ih => simp [List.flatMap_cons, ih]
  rw [this]

/-- Nothing in it is frozen. -/
def Free (a : AV) : Prop := ∀ T, Av T a
theorem free_agg {l : List AV} (h : ∀ a, a ∈ l → Free a) : Free (.agg l) := fun T => .agg fun j a ha => h a (List.mem_of_getElem? ha) T
theorem avRows_free {T : List Nat} {o : AObj} (h : ∀ row, row ∈ o.rows → ∀ a, a ∈ row → Free a) : AvRows T o := avRows_of fun row hr a ha => h row hr a ha T

/-- Seen as0 a tree. -/
theorem view_wood1 {enc encO : α → List AV} {inn : α → List AObj} {S : List AObj} {i t w n : Nat} {l : List α} (hs : ∀ o, o ∈ wood t w encO inn l → o ∈ S) (hn : l.length = n) (hc : ∀ x a, a ∈ enc x → a.cell = true)
    (hl : ∀ x, (encO x).length = (enc x).length) (hv : ∀ x, (∀ o, o ∈ inn x → o ∈ S) → ∀ (j : Nat) (a a' : AV), (encO x)[j]? = some a → (enc x)[j]? = some a' → View S a a') : View S (.ref i t w n) ((SL.mk t l).av w enc) := by
  have get : ∀ (r : Nat) (x x' : List AV), (l.map encO)[r]? = some x → (l.map enc)[r]? = some x' → ∃ y, y ∈ l ∧ x = encO y ∧ x' = enc y := fun r x x' h1 h2 => by
    rw [List.getElem?_map] at h1 h2
    obtain ⟨y, hy, rfl⟩ := Option.map_eq_some_iff.1 h1
    rw [hy] at h2
    simp at h2
    exact ⟨y, List.mem_of_getElem? hy, rfl, h2.symm⟩
  refine .ref (hs _ (by unfold wood; exact List.mem_cons_self ..)) (by simp; omega) (by simp [hn]) (fun r x x' h1 h2 => ?_) (fun r j x a hx ha => ?_) fun r j x x' a a' h1 h2 h3 h4 => ?_
  · obtain ⟨y, _, rfl, rfl⟩ := get r x x' h1 h2; exact hl y
  · obtain ⟨y, hy, rfl⟩ := List.mem_map.1 (List.mem_of_getElem? hx)
    exact hc y a (List.mem_of_getElem? ha)
  · obtain ⟨y, hy, rfl, rfl⟩ := get r x x' h1 h2
    exact hv y (fun o ho => hs o (by unfold wood; exact List.mem_cons_of_mem _ (List.mem_flatMap.2 ⟨y, hy, ho⟩))) j a a' h3 h4

/-- A slice, nil or not, as0 objects. -/
def SL.ref (w : Nat) : SL α → AV
  | .nil => .nsl
  | .mk t xs => .ref 0 t w xs.length
def SL.wood (w : Nat) (encO : α → List AV) (inn : α → List AObj) : SL α → List AObj
  | .nil => []
  | .mk t xs => A.wood t w encO inn xs
def SL.marks (mk : Int → α → α) (cnt : α → Nat) (k : Int) : SL α → SL α
  | .nil => .nil
  | .mk t xs => .mk t (mks mk cnt k xs)
theorem SL.marks_len (mk : Int → α → α) (cnt : α → Nat) (k : Int) (s : SL α) : (s.marks mk cnt k).list.length = s.list.length := by
  cases s <;> simp [SL.marks, mks_len]
theorem free_ref (w : Nat) (s : SL α) : Free (s.ref w) := fun T => by cases s <;> constructor
theorem view_wood {enc encO : α → List AV} {inn : α → List AObj} {S : List AObj} {w : Nat} {s : SL α} (hs : ∀ o, o ∈ s.wood w encO inn → o ∈ S) (hc : ∀ x a, a ∈ enc x → a.cell = true)
    (hl : ∀ x, (encO x).length = (enc x).length) (hv : ∀ x, (∀ o, o ∈ inn x → o ∈ S) → ∀ (j : Nat) (a a' : AV), (encO x)[j]? = some a → (enc x)[j]? = some a' → View S a a') : View S (s.ref w) (s.av w enc) := by
  cases s with
  | nil => exact .refl _
  | mk t l => exact view_wood1 hs rfl hc hl hv
theorem view_flat {enc : α → List AV} {S : List AObj} {w : Nat} {s : SL α} (hs : ∀ o, o ∈ s.wood w enc noInn → o ∈ S) (hc : ∀ x a, a ∈ enc x → a.cell = true) : View S (s.ref w) (s.av w enc) :=
  view_wood hs hc (fun _ => rfl) fun x _ j a a' h1 h2 => by rw [h1] at h2; cases h2; exact .refl _
theorem tags_wood {w : Nat} {encO : α → List AV} {inn : α → List AObj} {mk : Int → α → α} {cnt : α → Nat} (hi : ∀ k x, tags (inn (mk k x)) = tags (inn x)) (k : Int) (s : SL α) : tags ((s.marks mk cnt k).wood w encO inn) = tags (s.wood w encO inn) := by
  have key : ∀ (l : List α) (k : Int), tags ((mks mk cnt k l).flatMap inn) = tags (l.flatMap inn) := by
    intro l
    induction l with
    | nil => intro k; rfl
    | cons x l ih =>
      intro k
      have e : ∀ X Y : List AObj, tags (X ++ Y) = tags X ++ tags Y := fun X Y => by simp [tags]
      simp only [mks, List.flatMap_cons, e, hi, ih]
  cases s with
  | nil => rfl
  | mk t l =>
    show t :: tags ((mks mk cnt k l).flatMap inn) = t :: tags (l.flatMap inn)
    rw [key]
theorem free_wood {w : Nat} {encO : α → List AV} {inn : α → List AObj} (hO : ∀ x a, a ∈ encO x → Free a) (hI : ∀ x o, o ∈ inn x → ∀ T, AvRows T o) (s : SL α) : ∀ o, o ∈ s.wood w encO inn → ∀ T, AvRows T o := by
  cases s with
  | nil => intro o ho; cases ho
  | mk t l =>
    intro o ho T
    rcases List.mem_cons.1 ho with rfl | ho
    · exact avRows_free fun row hr a ha => by
        obtain ⟨x, _, rfl⟩ := List.mem_map.1 hr
        exact hO x a ha
    · obtain ⟨x, _, hx⟩ := List.mem_flatMap.1 ho
      exact hI x o hx T
end

section
variable {P : Program} {α : Type} {enc encO : α → List AV} {inn : α → List AObj} {con : α → α} {w : Nat} {f g : Nat}
/-- A copy of a slice, kept as0 objects. -/
theorem toSO_fn {z : List AV} {bytes : Nat} (hf : compF P f = some (toSF w z bytes g)) (hz : z.length = w) (hw : ∀ x, (enc x).length = w) (hwO : ∀ x, (encO x).length = w) (hO : ∀ x a, a ∈ encO x → Free a) (hI : ∀ x o, o ∈ inn x → ∀ T, AvRows T o)
    {s : SL α} (hn : s.list.length * bytes ≤ 281474976710656) (hn' : s.list.length ≤ 281474976710656)
    (hg : ∀ x, x ∈ s.list → ∀ c, Con P g [.agg (enc x)] [] c fun r O _ => ∃ b, r = .agg (encO b) ∧ O = inn b ∧ con b = con x) (c : Nat) :
    Con P f [s.av w enc] [] c fun r H' _ => ∃ b : SL α, r = b.ref w ∧ H' = b.wood w encO inn ∧ b.list.map con = s.list.map con := by
  refine con_of hf (by simp [toSF]) ?_
  unfold toSF
  simp
  refine ⟨by omega, by omega, loop_nat s.list.length (fun i e H c' => e 0 = s.av w enc ∧ e 3 = .ref 0 c w s.list.length ∧ e 4 = .int .i64 i ∧ ∃ ys : List α, ys.length = i ∧ ys.map con = (s.list.take i).map con ∧ H = ⟨false, c, w, grow encO z s.list.length ys⟩ :: ys.flatMap inn)
    ⟨rfl, rfl, rfl, [], rfl, rfl, by rw [grow_nil]; rfl⟩ ?_⟩
  intro i e H c' hi ⟨e0, e3, e4, ys, hy, hcon, hH⟩ N hN
  subst hH
  simp [e0, e3, e4]
  refine ⟨fun h => ⟨s.list[i], List.getElem?_eq_getElem h, ?_⟩, fun h => ?_⟩
  · simp [hw, take_len, e0, e3, e4]
    refine call_new (hg _ (List.getElem_mem h) _) (Views.refl _ _) fun r O c'' hc' ⟨b, hr, hO', hb⟩ _ _ => ?_
    subst hr; subst hO'
    refine ⟨_, .refl _, free_agg (hO b) _, fun o ho => hI b o ho _, ?_⟩
    simp [h, hwO, e0, e3, e4]
    refine ⟨_, grow_get _ _ hy h, hN _ _ _ h ⟨by simp [upd, e0], by simp [upd, e3], by simp [upd]; exact step64 (by unfold mx; omega) h, ys ++ [b], by simp [hy], ?_, ?_⟩⟩
    · rw [List.take_succ_eq_append_getElem h, List.map_append, List.map_append, hcon]; simp [hb]
    · rw [putA_all (by rw [hwO, hz]), grow_set _ _ hy h, List.flatMap_append]
      simp
  · have : i = s.list.length := by omega
    subst this
    rw [grow_all _ _ hy]
    exact fin_all ⟨.mk c ys, by rw [← hy]; rfl, rfl, by simpa using hcon⟩
/-- The same, of plain cells. -/
theorem toPO_fn {v : α → AV} {z : AV} {bytes : Nat} (hf : compF P f = some (toPF z bytes)) (hv : ∀ x (K : List AV → Prop), cellsW (v x) K = K [v x]) {s : SL α} (hn : s.list.length * bytes ≤ 281474976710656) (hn' : s.list.length ≤ 281474976710656) (c : Nat) :
    Con P f [s.av 1 fun x => [v x]] [] c fun r H' _ => ∃ b : SL α, r = b.ref 1 ∧ H' = b.wood 1 (fun x => [v x]) noInn ∧ b.list = s.list := by
  refine con_of hf (by simp [toPF]) ?_
  unfold toPF
  simp
  refine ⟨by omega, by omega, loop_nat s.list.length (fun i e H c' => e 0 = (s.av 1 fun x => [v x]) ∧ e 3 = .ref 0 c 1 s.list.length ∧ e 4 = .int .i64 i ∧ H = [⟨false, c, 1, grow (fun x => [v x]) [z] s.list.length (s.list.take i)⟩]) ⟨rfl, rfl, rfl, by rw [List.take_zero, grow_nil]⟩ ?_⟩
  intro i e H c' hi ⟨e0, e3, e4, hH⟩ N hN
  subst hH
  simp [e0, e3, e4]
  refine ⟨fun h => ⟨s.list[i], List.getElem?_eq_getElem h, ?_⟩, fun h => ?_⟩
  · have hl : (s.list.take i).length = i := by simp; omega
    simp [h, hv, e0, e3, e4]
    refine ⟨_, grow_get _ _ hl h, hN _ _ _ h ⟨by simp [upd, e0], by simp [upd, e3], by simp [upd]; exact step64 (by unfold mx; omega) h, ?_⟩⟩
    rw [List.take_succ_eq_append_getElem h, ← grow_set _ _ hl h]; rfl
  · have : i = s.list.length := by omega
    subst this
    rw [List.take_length, grow_all _ _ rfl]
    exact fin_all ⟨.mk c s.list, rfl, (wood_flat ..).symm, rfl⟩
end
section
variable {P : Program} {f : Nat}
theorem markI_con (hf : compF P f = some markIF) {s : SL Int} (hn : s.list.length ≤ 1048576) {k : Int} (hk : 0 ≤ k ∧ k ≤ 1099511627776) (c : Nat) :
    Con P f [s.ref 1, .int .i64 k] (s.wood 1 encI noInn) c fun r H' _ => r = .int .i64 (k + s.list.length) ∧ H' = (s.marks mkI cI k).wood 1 encI noInn := by
  cases s with
  | nil =>
    have := markI_nil hf k c
    simpa [SL.ref, SL.wood, SL.marks] using this
  | mk t l =>
    have := markI_con1 hf (l := l) hn hk t c
    simpa [SL.ref, SL.wood, SL.marks, wood_flat] using this
theorem heldI_fn (hf : compF P f = some heldIF) {s : SL Int} (hn : s.list.length ≤ 1048576) {k : Int} (hk : 0 ≤ k ∧ k ≤ 1099511627776) :
    Fnc P f [(s.marks mkI cI k).av 1 encI, .int .i64 k] (.int .i64 (k + s.list.length)) := by
  cases s with
  | nil =>
    have := heldI_nil hf k
    simpa [SL.av, SL.marks] using this
  | mk t l => exact heldI_fn1 hf (l := l) hn hk t
end
end A
end Go.Proofs.Ytgiiipbpadgcgaa

/-
  Slices handed back as0 objects, and the same seen as0 trees; appends. No condition.
-/

namespace Go.Proofs.Ytgiiipbpadgcgaa
namespace A
set_option linter.unusedVariables false
set_option linter.unusedSimpArgs false

theorem szL_const {α : Type} (n : Nat) (l : List α) : szL (fun _ => n) l = n * l.length := by
  induction l with
  | nil => simp [szL]
  | cons x l ih => simp [szL] at ih ⊢; rw [Nat.mul_add]; omega

section
variable {P : Program} {H : List AObj} {c : Nat} {K : AV → List AObj → Nat → Prop}
@[simp] theorem srcW_slc (wd t w : Nat) (rows : List (List AV)) (K : List (List AV) → Prop) : srcW wd (.slc t w rows) H K = (w = wd ∧ K rows) := (rfl)
@[simp] theorem srcW_nsl (wd : Nat) (K : List (List AV) → Prop) : srcW wd .nsl H K = K [] := (rfl)
@[simp] theorem srcW_str (wd : Nat) (l : List UInt8) (K : List (List AV) → Prop) : srcW wd (.str l) H K = (wd = 1 ∧ K (l.map byteRow)) := (rfl)
@[simp] theorem srcW_ref (wd j t w n : Nat) (K : List (List AV) → Prop) : srcW wd (.ref j t w n) H K = (w = wd ∧ getW H j fun ob => ob.tag = t ∧ ob.mp = false ∧ ob.w = w ∧ n ≤ ob.rows.length ∧ K (ob.rows.take n)) := (rfl)
@[simp] theorem srcW_sl {α : Type} (w : Nat) (f : α → List AV) (s : SL α) (K : List (List AV) → Prop) : srcW w (s.av w f) H K = K (s.list.map f) := by
  cases s <;> simp [SL.av]
@[simp] theorem appendW_ref (wd b i t w n : Nat) (y : AV) : appendW wd b (.ref i t w n) y H c K = srcW wd y H fun rows' => w = wd ∧ getW H i fun ob => ob.tag = t ∧ ob.mp = false ∧ ob.w = w ∧ ob.rows.length = n ∧ (n + rows'.length) * b ≤ 140737488355328 ∧ n + rows'.length ≤ mx ∧
        K (.ref i c wd (n + rows'.length)) (H.set i ⟨false, c, wd, ob.rows ++ rows'⟩) (c + 1) := (rfl)
@[simp] theorem appendW_nsl (wd b : Nat) (y : AV) : appendW wd b .nsl y H c K = srcW wd y H fun rows' => (rows' = [] → K .nsl H c) ∧ (rows' ≠ [] → rows'.length * b ≤ 140737488355328 ∧ rows'.length ≤ mx ∧ K (.ref H.length c wd rows'.length) (H ++ [⟨false, c, wd, rows'⟩]) (c + 1)) := (rfl)

theorem tr_fn {f : Nat} {l : List AV} {res : AV} (hf : Fnc P f l res) (hfr : ∀ c, From c res) : Tr P f l fun _ r => r = res := fun c => (hf c).mono fun r H' c' _ ⟨h1, h2⟩ => ⟨h2, h1, h1 ▸ hfr c⟩
theorem callD_fn0 {R : AV → Prop} {f : Nat} {l : List AV} {K : AV → Prop} {res : AV} (hf : Fnc P f l res) (hR : ∀ v, R v ↔ v = res) (hfr : ∀ c, From c res) (k : K res) : callD P R f l H c K :=
  ⟨l, Views.refl _ _, (fun c => (hf c).mono fun r H' c' _ ⟨h1, h2⟩ => ⟨h2, (hR r).2 h1, h1 ▸ hfr c⟩), ⟨res, (hR res).2 rfl, hfr c⟩, fun r hr _ => by rw [(hR r).1 hr]; exact k⟩
theorem callD_tree0 {R : AV → Prop} {f : Nat} {l : List AV} {K : AV → Prop} (hf : Tr P f l fun _ r => R r) (hx : ∃ r, R r ∧ From c r) (k : ∀ r, R r → From c r → K r) : callD P R f l H c K := ⟨l, Views.refl _ _, hf, hx, k⟩

theorem toStrW_ref {i t n : Nat} {l : List UInt8} {K : AV → Prop} (ho : H[i]? = some ⟨false, t, 1, l.map byteRow⟩) (hn : l.length = n) (hl : l.length ≤ mx) (k : K (.str l)) : toStrW (.ref i t 1 n) H K := by
  unfold toStrW
  simp only [srcW_ref]
  exact ⟨trivial, _, ho, rfl, rfl, rfl, by simp; omega, l, by rw [← hn]; exact List.take_of_length_le (by simp), hl, k⟩
theorem wrap_u8 {n : Nat} (h : n < 256) : IntKind.u8.wrap (IntKind.i64.wrap n) = ((UInt8.ofNat n).toNat : Int) := by
  rw [wrap64 (by omega) (by omega), IntKind.wrap_u8]
  simp [UInt8.toNat_ofNat']
/-- What a call gives, seen otherwise behind it. -/
theorem Con.fin {f : Nat} {args : List AV} {Q Q' : AV → List AObj → Nat → Prop} (h : Con P f args H c Q)
    (k : ∀ r H' c', c ≤ c' → Q r H' c' → (∀ t, t < c → t ∈ tags H' → t ∈ tags H) → (tags H').Nodup → finW Q' r H' c') : Con P f args H c Q' := by
  intro G w vs e I hs hr
  refine (h G w vs e I hs hr).mono fun en w' ⟨v, res, H', G1, h1, h2, x1, I1, r1⟩ => ?_
  subst e
  obtain ⟨S, Hk, Hk', v', q1, qr, q2, q3, q4, q5⟩ := k res H' G1.c x1.x.c h2 x1.oldH I1.nodup
  have hS : ∀ t, t ∈ tags S → t ∈ tags H' := fun t ht => by obtain ⟨o, ho, rfl⟩ := of_mem_tags ht; exact mem_tags (q2 o ho)
  exact ⟨v, v', Hk', G1.freeze S, h1, q5, ⟨x1.x.trans (Ext1.freeze _ _ _), x1.os, x1.tape, x1.output, x1.size, x1.frame, x1.newm, fun t h1 h2 => x1.oldH t h1 ((q1.map _).subset (by rw [qr.tags_eq] at h2; exact h2)), fun t h1 h2 => by
    rcases h2 with h2 | h2
    · exact x1.oldF t h1 h2
    · exact .inr (x1.oldH t h1 (hS t h2))⟩, I1.ren q1.subset q2 (I1.freeze q1 q2 q3) qr, q4.rep I1 q2 r1⟩

/-- A function that hands back objects of its own hands back trees of its own. -/
theorem tr_of {f : Nat} {args : List AV} {Q : AV → List AObj → Nat → Prop} {Q' : Nat → AV → Prop} (h : ∀ c, Con P f args [] c Q)
    (k : ∀ c r O c', c ≤ c' → Q r O c' → (∀ t, t ∈ tags O → c ≤ t) → ∃ v', View O r v' ∧ Q' c v' ∧ From c v') : Tr P f args Q' := by
  intro c
  refine (h c).fin fun r O c' hc hq ho hd => ?_
  obtain ⟨v', h1, h2, h3⟩ := k c r O c' hc hq fun t ht => by
    rcases Nat.lt_or_ge t c with h | h
    · have := ho t h ht; simp [tags] at this
    · exact h
  exact ⟨O, [], [], v', List.nil_sublist _, .nil, fun _ h => h, by simp [tags], h1, rfl, h2, h3⟩

theorem free_tup {l : List AV} (h : ∀ a, a ∈ l → Free a) : Free (.tup l) := fun T => .tup fun j a ha => h a (List.mem_of_getElem? ha) T
theorem free_bool (b : Bool) : Free (.bool b) := fun _ => .bool
theorem free_int (k : IntKind) (n : Int) : Free (.int k n) := fun _ => .int
theorem free_str (l : List UInt8) : Free (.str l) := fun _ => .str
theorem view_tup {S : List AObj} {l l' : List AV} (h : Views S l l') : View S (.tup l) (.tup l') := .tup h.spec.1 h.spec.2
theorem from_tup {c : Nat} {l : List AV} (h : ∀ a, a ∈ l → From c a) : From c (.tup l) := fun T hT => .tup fun j a ha => h a (List.mem_of_getElem? ha) T hT

section
variable {α : Type}
/-- A slice as0 an object at a place of the state. -/
def SL.at_ (i w : Nat) : SL α → AV
  | .nil => .nsl
  | .mk t xs => .ref i t w xs.length
theorem view_at (i w : Nat) (s : SL α) (S : List AObj) : View S (s.ref w) (s.at_ i w) := by cases s <;> constructor
theorem view_at' (i w : Nat) (s : SL α) (S : List AObj) : View S (s.at_ i w) (s.ref w) := by cases s <;> constructor
@[simp] theorem at_len (i w : Nat) (s : SL α) (K : AV → Prop) : lenSlcW (s.at_ i w) K = K (.int .i64 s.list.length) := by cases s <;> rfl
@[simp] theorem at_cells (i w : Nat) (s : SL α) (K : List AV → Prop) : cellsW (s.at_ i w) K = K [s.at_ i w] := by cases s <;> rfl
@[simp] theorem ref_cells (w : Nat) (s : SL α) (K : List AV → Prop) : cellsW (s.ref w) K = K [s.ref w] := by cases s <;> rfl
@[simp] theorem cell_at (i w : Nat) (s : SL α) : (s.at_ i w).cell = true := by cases s <;> rfl
@[simp] theorem cell_ref (w : Nat) (s : SL α) : (s.ref w).cell = true := by cases s <;> rfl
theorem isnl_av (neg : Bool) (w : Nat) (f : α → List AV) (s : SL α) (K : AV → Prop) (h0 : s.list = [] → K (.bool (true != neg))) (h1 : K (.bool (false != neg))) : isnlW neg (s.av w f) K := by
  cases s with
  | nil => exact h0 rfl
  | mk t l => cases l with
    | nil => exact ⟨h0 rfl, h1⟩
    | cons x l => exact h1

/-- Flat elements: cells that hang on nothing. -/
def Flat (enc : α → List AV) : Prop := ∀ x a, a ∈ enc x → a.cell = true ∧ Free a
theorem Flat.cells {enc : α → List AV} (h : Flat enc) : ∀ x a, a ∈ enc x → a.cell = true := fun x a ha => (h x a ha).1
theorem Free.from {a : AV} (h : Free a) (c : Nat) : From c a := fun T _ => h T
theorem flat_wood (t w : Nat) (enc : α → List AV) (l : List α) : (SL.mk t l).wood w enc noInn = [⟨false, t, w, l.map enc⟩] := wood_flat ..
theorem flat_free {enc : α → List AV} (h : Flat enc) (w : Nat) (s : SL α) : ∀ o, o ∈ s.wood w enc noInn → ∀ T, AvRows T o :=
  free_wood (fun x a ha => (h x a ha).2) (fun x o ho => by cases ho) s
theorem flat_from {enc : α → List AV} (h : Flat enc) {w c : Nat} {s : SL α} (ht : ∀ t, t ∈ tags (s.wood w enc noInn) → c ≤ t) : From c (s.av w enc) := by
  cases s with
  | nil => exact from_nsl c
  | mk t l =>
    refine from_slc (ht t ?_) fun row hr a ha => ?_
    · rw [flat_wood]; simp [tags]
    · obtain ⟨x, _, rfl⟩ := List.mem_map.1 hr
      exact ((h x a ha).2).from c
theorem flat_tr {enc : α → List AV} (hE : Flat enc) {w : Nat} {f : Nat} {args : List AV} {Q : SL α → Prop} (h : ∀ c, Con P f args [] c fun r O _ => ∃ b : SL α, r = b.ref w ∧ O = b.wood w enc noInn ∧ Q b) :
    Tr P f args fun _ r => ∃ b : SL α, r = b.av w enc ∧ Q b :=
  tr_of h fun c r O c' _ ⟨b, h1, h2, h3⟩ ht => ⟨b.av w enc, by rw [h1]; exact view_flat (by rw [h2]; exact fun _ h => h) hE.cells, ⟨b, rfl, h3⟩, flat_from hE (by rw [← h2]; exact ht)⟩
/-- The same with more results, which hang on nothing. -/
theorem flat_tr2 {enc : α → List AV} (hE : Flat enc) {w : Nat} {f : Nat} {args : List AV} {Q : SL α → List AV → Prop} (hF : ∀ b l, Q b l → ∀ a, a ∈ l → Free a)
    (h : ∀ c, Con P f args [] c fun r O _ => ∃ (b : SL α) (l : List AV), r = .tup (b.ref w :: l) ∧ O = b.wood w enc noInn ∧ Q b l) :
    Tr P f args fun _ r => ∃ (b : SL α) (l : List AV), r = .tup (b.av w enc :: l) ∧ Q b l :=
  tr_of h fun c r O c' _ ⟨b, l, h1, h2, h3⟩ ht => ⟨.tup (b.av w enc :: l), by rw [h1]; exact view_tup (.cons (view_flat (by rw [h2]; exact fun _ h => h) hE.cells) (Views.refl _ _)), ⟨b, l, rfl, h3⟩,
    from_tup fun a ha => by
      rcases List.mem_cons.1 ha with rfl | ha
      · exact flat_from hE (by rw [← h2]; exact ht)
      · exact (hF b l h3 a ha).from c⟩

theorem flat_marks {enc : α → List AV} {w : Nat} (mk : Int → α → α) (cnt : α → Nat) (k : Int) (s : SL α) : tags ((s.marks mk cnt k).wood w enc noInn) = tags (s.wood w enc noInn) := tags_wood (inn := noInn) (mk := mk) (cnt := cnt) (fun _ _ => rfl) k s
end
end
end A
end Go.Proofs.Ytgiiipbpadgcgaa

/-
  Slices: copies by append, changes in place, what is kept of one. No condition.
-/

namespace Go.Proofs.Ytgiiipbpadgcgaa
namespace A
set_option linter.unusedVariables false
set_option linter.unusedSimpArgs false

/-- slices.Clone. -/
def cloneF (w : Nat) (z : List AV) (b : Nat) : Fun := ⟨8,
  .seq (.reg [o 2 (.mv (.c .nsl))])
  (.seq (.seq (.reg [o 3 (.mv (.t 0)), o 4 (.isnl false (.t 3))])
  (.cond (.t 4) (.seq (.reg [o 2 (.mv (.c .nsl))])
   (.ret)) (.skip)))
  (.seq (.reg [o 5 (.bslice w z 0 []), o 6 (.mv (.t 0)), o 7 (.append w b (.t 5) (.t 6)), o 2 (.mv (.t 7))])
  (.ret))),
  [.tmp 2]⟩

theorem sub_one {α : Type} (a : α) (l : List α) : [a].Sublist (a :: l) := (List.nil_sublist l).cons_cons a
theorem sub_two {α : Type} (a b : α) (l : List α) : [a, b].Sublist (a :: b :: l) := (sub_one b l).cons_cons a

@[simp] theorem getW_len {α : Type} (L M : List α) (x : α) (K : α → Prop) : getW (L ++ x :: M) L.length K = K x := getW_of (by rw [List.getElem?_append_right (Nat.le_refl _)]; simp) K
@[simp] theorem set_len {α : Type} (L M : List α) (x y : α) : (L ++ x :: M).set L.length y = L ++ y :: M := by
  rw [List.set_append_right _ _ (Nat.le_refl _), Nat.sub_self, List.set_cons_zero]
@[simp] theorem getW_len1 {α : Type} (L M : List α) (x y : α) (K : α → Prop) : getW (L ++ x :: y :: M) (L.length + 1) K = K y := getW_of (by rw [List.getElem?_append_right (by omega)]; simp) K
@[simp] theorem set_len1 {α : Type} (L M : List α) (x y z : α) : (L ++ x :: y :: M).set (L.length + 1) z = L ++ x :: z :: M := by
  rw [List.set_append_right _ _ (by omega)]; simp
@[simp] theorem getW_len2 {α : Type} (L M : List α) (x y z : α) (K : α → Prop) : getW (L ++ x :: y :: z :: M) (L.length + 2) K = K z := getW_of (by rw [List.getElem?_append_right (by omega)]; simp) K
@[simp] theorem getW_len2' {α : Type} (L M : List α) (x y z : α) (K : α → Prop) : getW (L ++ x :: y :: z :: M) (L.length + 1 + 1) K = K z := getW_len2 L M x y z K
/-- Some of the objects are let go. -/
theorem fin_sub {Q : AV → List AObj → Nat → Prop} {v v' : AV} {H Hk : List AObj} {c : Nat} (hs : Hk.Sublist H) (hv : View [] v v') (h : Q v' Hk c) : finW Q v H c := ⟨[], Hk, Hk, v', hs, .refl _ _, by simp, by simp [tags], hv, h⟩
/-- Some of the objects are let go, those that stay are named anew. -/
theorem fin_ren {Q : AV → List AObj → Nat → Prop} {v v' : AV} {H Hk Hk' : List AObj} {c : Nat} (hs : Hk.Sublist H) (hr : Rens [] Hk Hk') (hv : View [] v v') (h : Q v' Hk' c) : finW Q v H c := ⟨[], Hk, Hk', v', hs, hr, by simp, by simp [tags], hv, h⟩

section
variable {α : Type}
def SL.lmap (f : List α → List α) : SL α → SL α
  | .nil => .nil
  | .mk t l => .mk t (f l)
theorem ref_mk (t w : Nat) (l : List α) : (SL.mk t l).ref w = .ref 0 t w l.length := rfl
theorem ref_nil (w : Nat) : (SL.nil : SL α).ref w = .nsl := rfl
theorem SL.lmap_list {f : List α → List α} (h : f [] = []) (s : SL α) : (s.lmap f).list = f s.list := by cases s <;> simp [SL.lmap, h]
theorem SL.wood_lmap (w : Nat) (enc : α → List AV) (s : SL α) : (s.lmap id).wood w enc noInn = s.wood w enc noInn := by cases s <;> rfl

section
variable {P : Program} {enc : α → List AV} {w b f : Nat} {z : List AV}
theorem clone_con (hf : compF P f = some (cloneF w z b)) {s : SL α} (hn : s.list.length * b ≤ 140737488355328) (hn' : s.list.length ≤ mx) (c : Nat) :
    Con P f [s.av w enc] [] c fun r O _ => ∃ x : SL α, r = x.ref w ∧ O = x.wood w enc noInn ∧ x.list = s.list := by
  refine con_of hf (by simp [cloneF]) ?_
  unfold cloneF
  simp
  refine isnl_av _ _ _ _ _ (fun h => ?_) ?_
  · simp
    exact fin_all ⟨.nil, rfl, rfl, by rw [h]; rfl⟩
  · simp
    exact ⟨hn, hn', fin_all ⟨.mk (c + 1) s.list, by simp [SL.ref], by simp [flat_wood], rfl⟩⟩
theorem clone_tr (hf : compF P f = some (cloneF w z b)) (hE : Flat enc) {s : SL α} (hn : s.list.length * b ≤ 140737488355328) (hn' : s.list.length ≤ mx) : Tr P f [s.av w enc] fun _ r => ∃ x : SL α, r = x.av w enc ∧ x.list = s.list :=
  flat_tr hE (clone_con hf hn hn')
end

/-- Changed up to an index. -/
def mixM (f : α → α) (l : List α) (i : Nat) : List α := (l.take i).map f ++ l.drop i
theorem mixM_zero (f : α → α) (l : List α) : mixM f l 0 = l := by simp [mixM]
theorem mixM_all (f : α → α) (l : List α) : mixM f l l.length = l.map f := by simp [mixM]
@[simp] theorem mixM_len (f : α → α) (l : List α) (i : Nat) : (mixM f l i).length = l.length := by simp [mixM]; omega
@[simp] theorem mixM_nil (f : α → α) (i : Nat) : mixM f [] i = [] := by simp [mixM]
theorem mixM_get (f : α → α) {l : List α} {i : Nat} (h : i < l.length) : (mixM f l i)[i]? = some l[i] := by
  unfold mixM
  rw [List.getElem?_append_right (by simp; omega)]
  simp [h, Nat.min_eq_left (Nat.le_of_lt h)]
theorem mixM_set (f : α → α) {l : List α} {i : Nat} (h : i < l.length) : (mixM f l i).set i (f l[i]) = mixM f l (i + 1) := by
  unfold mixM
  rw [List.set_append_right _ _ (by simp; omega), List.length_map, List.length_take, Nat.min_eq_left (by omega), Nat.sub_self, List.drop_eq_getElem_cons h, List.set_cons_zero, List.take_succ_eq_append_getElem h, List.map_append]
  simp
theorem mixM_same (f : α → α) {l : List α} {i : Nat} (h : i < l.length) (e : f l[i] = l[i]) : mixM f l i = mixM f l (i + 1) := by
  have := mixM_set f h
  rw [e] at this
  rw [← this]
  refine List.ext_getElem? fun j => ?_
  by_cases hj : j = i
  · subst hj; rw [mixM_get f h, List.getElem?_set_self (by simp; exact h)]
  · rw [List.getElem?_set_ne (by omega)]

/-- Kept up to an index. -/
theorem filter_step (p : α → Bool) {l : List α} {i : Nat} (h : i < l.length) : (l.take (i + 1)).filter p = (l.take i).filter p ++ (if p l[i] then [l[i]] else []) := by
  rw [List.take_succ_eq_append_getElem h, List.filter_append]
  by_cases hp : p l[i] = true <;> simp [hp]
end
/-! ### the ends of the laws: marks on what was handed in, on what was handed back -/
section
variable {P : Program} {K : AV → List AObj → Nat → Prop} {α : Type} {enc encO : α → List AV} {inn : α → List AObj} {w f : Nat} {mk : Int → α → α} {cnt : α → Nat}
theorem call_midr {f : Nat} {l l' : List AV} {a : AObj} {A B C : List AObj} {c : Nat} {Q : AV → List AObj → Nat → Prop} (hf : Con P f l' B c Q) (hv : Views [] l l')
    (k : ∀ r B' c', c ≤ c' → Q r B' c' → tags B' = tags B ∧ Av [] r ∧ (∀ o, o ∈ B' → AvRows [] o) ∧ K r (a :: (A ++ (B' ++ C))) c') : CallW P f l (a :: (A ++ (B ++ C))) c K := by
  have e : ∀ X : List AObj, a :: (A ++ (X ++ C)) = (a :: A) ++ X ++ C := fun X => by simp
  rw [e]
  exact call_mid hf hv fun r B' c' hc hq => by rw [← e]; exact k r B' c' hc hq
theorem SL.marks_ref (k : Int) (s : SL α) : (s.marks mk cnt k).ref w = s.ref w := by cases s <;> simp [SL.marks, SL.ref, mks_len]
theorem view_marks {S : List AObj} {s : SL α} {k : Int} (hs : ∀ o, o ∈ (s.marks mk cnt k).wood w enc noInn → o ∈ S) (hc : ∀ x a, a ∈ enc x → a.cell = true) : View S (s.ref w) ((s.marks mk cnt k).av w enc) := by
  rw [← SL.marks_ref (mk := mk) (cnt := cnt) k s]
  exact view_flat hs hc
theorem mark_mid {A C : List AObj} {s : SL α} {k n : Int} {c : Nat} (hf : Con P f [s.ref w, .int .i64 k] (s.wood w encO inn) c fun r H' _ => r = .int .i64 n ∧ H' = (s.marks mk cnt k).wood w encO inn)
    (hi : ∀ k x, tags (inn (mk k x)) = tags (inn x)) (hO : ∀ x a, a ∈ encO x → Free a) (hI : ∀ x o, o ∈ inn x → ∀ T, AvRows T o) (kk : ∀ c', c ≤ c' → K (.int .i64 n) (A ++ (s.marks mk cnt k).wood w encO inn ++ C) c') :
    CallW P f [s.ref w, .int .i64 k] (A ++ s.wood w encO inn ++ C) c K :=
  call_mid hf (Views.refl _ _) fun r B' c' hc ⟨h1, h2⟩ => by
    subst h1; subst h2
    exact ⟨tags_wood hi _ s, .int, fun o ho => free_wood hO hI _ o ho _, kk c' hc⟩
theorem mark_first {C : List AObj} {s : SL α} {k n : Int} {c : Nat} (hE : Flat enc) (hf : Con P f [s.ref w, .int .i64 k] (s.wood w enc noInn) c fun r H' _ => r = .int .i64 n ∧ H' = (s.marks mk cnt k).wood w enc noInn)
    (kk : ∀ c', c ≤ c' → K (.int .i64 n) ((s.marks mk cnt k).wood w enc noInn ++ C) c') : CallW P f [s.ref w, .int .i64 k] (s.wood w enc noInn ++ C) c K :=
  mark_mid (A := []) hf (fun _ _ => rfl) (fun x a ha => (hE x a ha).2) (fun x o ho => by cases ho) kk
theorem mark_last {A : List AObj} {s : SL α} {k n : Int} {c : Nat} (hE : Flat enc) (hf : Con P f [s.ref w, .int .i64 k] (s.wood w enc noInn) c fun r H' _ => r = .int .i64 n ∧ H' = (s.marks mk cnt k).wood w enc noInn)
    (kk : ∀ c', c ≤ c' → K (.int .i64 n) (A ++ (s.marks mk cnt k).wood w enc noInn) c') : CallW P f [s.ref w, .int .i64 k] (A ++ s.wood w enc noInn) c K := by
  have := mark_mid (A := A) (C := []) (K := K) hf (fun _ _ => rfl) (fun x a ha => (hE x a ha).2) (fun x o ho => by cases ho) (by simpa using kk)
  simpa using this
end
end A
end Go.Proofs.Ytgiiipbpadgcgaa

/-
  Ranges, and what is asked of all elements. No condition.
-/


namespace Go.Proofs.Ytgiiipbpadgcgaa
namespace A
set_option linter.unusedVariables false
set_option linter.unusedSimpArgs false
set_option maxRecDepth 100000

def inR (x lo hi : Int) : Bool := decide (lo ≤ x) && decide (x ≤ hi)

theorem l1In_fn (x lo hi : Int) : Fnc Try.prog 80 [.int .i64 x, .int .i64 lo, .int .i64 hi] (.bool (inR x lo hi)) := by
  refine fn_of c80 (by simp [F80]) fun c => ?_
  unfold F80 inR
  by_cases h1 : lo ≤ x <;> simp [h1] <;> exact fin_plain ⟨rfl, rfl⟩
theorem inRange_fn (x lo hi : Int) : Fnc Try.prog 83 [.int .i64 x, .int .i64 lo, .int .i64 hi] (.bool (inR x lo hi)) := by
  refine fn_of c83 (by simp [F83]) fun c => ?_
  unfold F83 inR
  by_cases h1 : lo ≤ x <;> simp [h1] <;> exact fin_plain ⟨rfl, rfl⟩
theorem inR_true {x lo hi : Int} (h : inR x lo hi = true) : lo ≤ x ∧ x ≤ hi := by simpa [inR] using h

theorem all_step {α : Type} {p : α → Bool} {l : List α} {i : Nat} (h : (l.take i).all p = true) (hi : i < l.length) (hx : p l[i] = true) : (l.take (i + 1)).all p = true := by
  rw [List.take_succ_eq_append_getElem hi, List.all_append, h]; simp [hx]
end A
end Go.Proofs.Ytgiiipbpadgcgaa

/-
  The cursor of the draws: what its functions may hand back. No condition.
-/


namespace Go.Proofs.Ytgiiipbpadgcgaa
namespace A
set_option linter.unusedVariables false
set_option linter.unusedSimpArgs false
set_option maxRecDepth 100000

def encU (n : Int) : List AV := [.int .u8 n]
theorem av_code (s : SL Int) : Av [] (s.av 1 encU) := by
  cases s with
  | nil => exact .nsl
  | mk t l =>
    exact .slc (by simp) fun r j x a hx ha => by
      obtain ⟨n, _, rfl⟩ := List.mem_map.1 (List.mem_of_getElem? hx)
      have := List.mem_of_getElem? ha
      simp [encU] at this; subst this; exact .int

/-- The cursor. -/
def cur (t : Nat) (s : SL Int) (i : Nat) (h : Int) : AObj := ⟨false, t, 3, [[s.av 1 encU, .int .i64 i, .int .i64 h]]⟩
theorem cur_rows (t : Nat) (s : SL Int) (i : Nat) (h : Int) : AvRows [] (cur t s i h) := avRows_of fun row hr a ha => by
  simp [cur] at hr
  subst hr
  simp at ha
  rcases ha with rfl | rfl | rfl
  · exact av_code s
  · exact .int
  · exact .int

/-- A number from 0 to hi, the cursor moved. -/
def NumQ (t : Nat) (s : SL Int) (hi : Int) (r : AV) (O : List AObj) : Prop := ∃ (x : Int) (i : Nat) (h : Int), r = .int .i64 x ∧ 0 ≤ x ∧ x ≤ hi ∧ i ≤ s.list.length ∧ O = [cur t s i h]

/-! The operations on bits, left as0 they are. -/
def andI (a b : Int) : Int := IntKind.i64.wrap ((BitVec.ofInt 64 a &&& BitVec.ofInt 64 b).toNat : Int)
def xorI (a b : Int) : Int := IntKind.i64.wrap ((BitVec.ofInt 64 a ^^^ BitVec.ofInt 64 b).toNat : Int)
def shrI (a b : Int) : Int := a.fdiv (2 ^ (min b.toNat 64))
theorem intW_and (a b : Int) (K : AV → Prop) : intW .and .i64 a b K = K (.int .i64 (andI a b)) := rfl
theorem intW_xor (a b : Int) (K : AV → Prop) : intW .xor .i64 a b K = K (.int .i64 (xorI a b)) := rfl
theorem binW_shr (a b : Int) (K : AV → Prop) : binW .shr (.int .i64 a) (.int .u64 b) K = (0 ≤ b ∧ K (.int .i64 (shrI a b))) := rfl
theorem land255 (a : Int) : 0 ≤ andI a 255 ∧ andI a 255 ≤ 255 := by
  have h : (BitVec.ofInt 64 a &&& BitVec.ofInt 64 255).toNat ≤ 255 := by
    rw [BitVec.toNat_and]
    exact Nat.le_trans Nat.and_le_right (by decide)
  unfold andI
  rw [wrap64 (by omega) (by omega)]
  omega

theorem l1Byte_con {t i : Nat} {h : Int} {s : SL Int} (hi : i ≤ s.list.length) (hn : s.list.length ≤ 1048576) (c : Nat) : Con Try.prog 139 [.ptr 0 t 3 0 0] [cur t s i h] c fun r O _ => NumQ t s 255 r O := by
  refine con_of c139 (by simp [F139]) ?_
  unfold F139
  simp [cur, putA, intW_and, intW_xor, binW_shr]
  generalize IntKind.i64.wrap (IntKind.i64.wrap (h * 6364136223846793005) + 1442695040888963407) = h'
  refine ⟨fun hlt => ?_, fun hge => ?_⟩
  · have hb : s.list[i]? = some s.list[i] := List.getElem?_eq_getElem hlt
    generalize s.list[i] = b at hb
    have hst : IntKind.i64.wrap ((i : Int) + 1) = ((i + 1 : Nat) : Int) := by rw [wrap64 (by omega) (by omega)]; omega
    refine ⟨b, hb, ?_⟩
    simp [cur, putA, intW_and, intW_xor, binW_shr, encU, hlt]
    refine fin_all ⟨_, i + 1, h', rfl, (land255 _).1, (land255 _).2, by omega, ?_⟩
    rw [cur, hst]
  · exact fin_all ⟨_, i, h', rfl, (land255 _).1, (land255 _).2, hi, rfl⟩

theorem numQ_next {t : Nat} {s : SL Int} {hi : Int} {r : AV} {O : List AObj} (h : NumQ t s hi r O) : Av [] r ∧ ∀ o, o ∈ O → AvRows [] o := by
  obtain ⟨x, i, h, rfl, _, _, _, rfl⟩ := h
  exact ⟨.int, fun o ho => by simp at ho; subst ho; exact cur_rows t s i h⟩

theorem l1Below_con {t i : Nat} {h n : Int} {s : SL Int} (hi : i ≤ s.list.length) (hn : s.list.length ≤ 1048576) (hw : n ≤ 1000000000000) (c : Nat) :
    Con Try.prog 105 [.ptr 0 t 3 0 0, .int .i64 n] [cur t s i h] c fun r O _ => NumQ t s (if n ≤ 0 then 0 else n - 1) r O := by
  refine con_of c105 (by simp [F105]) ?_
  unfold F105
  have modB : 0 < n → ∀ x : Int, 0 ≤ x → 0 ≤ x.tmod n ∧ x.tmod n ≤ n - 1 := fun h0 x hx => by
    have h1 := Int.tmod_nonneg n hx
    have h2 := Int.tmod_lt_of_pos x h0
    omega
  by_cases h0 : n ≤ 0
  · simp [h0]
    exact fin_all ⟨0, i, h, rfl, by omega, by simp [h0], hi, rfl⟩
  have h0' : 0 < n := by omega
  have hne : n ≠ 0 := by omega
  by_cases h1 : n ≤ 256
  · simp [h0, h1]
    refine call_con (l1Byte_con hi hn _) fun r O c1 _ q _ _ => ⟨(numQ_next q).1, (numQ_next q).2, ?_⟩
    obtain ⟨x, i1, h1', rfl, x0, x1, k1, rfl⟩ := q
    simp [h0, h1, hne]
    exact fin_all ⟨_, i1, h1', rfl, (modB h0' x x0).1, (modB h0' x x0).2, k1, rfl⟩
  · simp [h0, h1]
    refine call_con (l1Byte_con hi hn _) fun r O c1 _ q _ _ => ⟨(numQ_next q).1, (numQ_next q).2, ?_⟩
    obtain ⟨x, i1, h1', rfl, x0, x1, k1, rfl⟩ := q
    simp [h0, h1, hne]
    refine call_con (l1Byte_con k1 hn _) fun r O c1 _ q _ _ => ⟨(numQ_next q).1, (numQ_next q).2, ?_⟩
    obtain ⟨y, i2, h2', rfl, y0, y1, k2, rfl⟩ := q
    simp [h0, h1, hne]
    refine call_con (l1Byte_con k2 hn _) fun r O c1 _ q _ _ => ⟨(numQ_next q).1, (numQ_next q).2, ?_⟩
    obtain ⟨z, i3, h3', rfl, z0, z1, k3, rfl⟩ := q
    have w1 : IntKind.i64.wrap (x * 65536) = x * 65536 := wrap64 (by omega) (by omega)
    have w2 : IntKind.i64.wrap (y * 256) = y * 256 := wrap64 (by omega) (by omega)
    have w3 : IntKind.i64.wrap (x * 65536 + y * 256) = x * 65536 + y * 256 := wrap64 (by omega) (by omega)
    have w4 : IntKind.i64.wrap (x * 65536 + y * 256 + z) = x * 65536 + y * 256 + z := wrap64 (by omega) (by omega)
    simp [h0, h1, hne, w1, w2, w3, w4]
    exact fin_all ⟨_, i3, h3', rfl, (modB h0' _ (by omega)).1, (modB h0' _ (by omega)).2, k3, rfl⟩

/-- A bool, the cursor moved. -/
def BoolQ (t : Nat) (s : SL Int) (r : AV) (O : List AObj) : Prop := ∃ (b : Bool) (i : Nat) (h : Int), r = .bool b ∧ i ≤ s.list.length ∧ O = [cur t s i h]
theorem boolQ_next {t : Nat} {s : SL Int} {r : AV} {O : List AObj} (h : BoolQ t s r O) : Av [] r ∧ ∀ o, o ∈ O → AvRows [] o := by
  obtain ⟨x, i, h, rfl, _, rfl⟩ := h
  exact ⟨.bool, fun o ho => by simp at ho; subst ho; exact cur_rows t s i h⟩
theorem l1Once_con {t i : Nat} {h n : Int} {s : SL Int} (hi : i ≤ s.list.length) (hn : s.list.length ≤ 1048576) (hw : n ≤ 1000000000000) (c : Nat) :
    Con Try.prog 131 [.ptr 0 t 3 0 0, .int .i64 n] [cur t s i h] c fun r O _ => BoolQ t s r O := by
  refine con_of c131 (by simp [F131]) ?_
  unfold F131
  simp
  refine call_con (l1Below_con hi hn hw _) fun r O c1 _ q _ _ => ⟨(numQ_next q).1, (numQ_next q).2, ?_⟩
  obtain ⟨x, i1, h1', rfl, x0, x1, k1, rfl⟩ := q
  by_cases hx : x = 0 <;> simp [hx]
  · exact fin_all ⟨true, i1, h1', rfl, k1, rfl⟩
  · exact fin_all ⟨false, i1, h1', rfl, k1, rfl⟩

/-- A call that is handed the cursor alone, out of more. -/
theorem call_cur {P : Program} {f : Nat} {l : List AV} {t i : Nat} {h : Int} {s : SL Int} {C : List AObj} {c : Nat} {Q : AV → List AObj → Nat → Prop} {K : AV → List AObj → Nat → Prop} (hf : Con P f l [cur t s i h] c Q)
    (k : ∀ r B' c', c ≤ c' → Q r B' c' → tags B' = [t] ∧ Av [] r ∧ (∀ o, o ∈ B' → AvRows [] o) ∧ K r (B' ++ C) c') : CallW P f l (cur t s i h :: C) c K :=
  call_mid (A := []) (B := [cur t s i h]) (C := C) hf (Views.refl _ _) k
theorem numQ_tags {t : Nat} {s : SL Int} {hi : Int} {r : AV} {O : List AObj} (h : NumQ t s hi r O) : tags O = [t] := by
  obtain ⟨x, i, h, rfl, _, _, _, rfl⟩ := h; rfl
theorem call_num {P : Program} {f : Nat} {l : List AV} {t i : Nat} {h hi : Int} {s : SL Int} {C : List AObj} {c : Nat} {K : AV → List AObj → Nat → Prop} (hf : Con P f l [cur t s i h] c fun r O _ => NumQ t s hi r O)
    (k : ∀ (x : Int) (i' : Nat) (h' : Int) (c' : Nat), c ≤ c' → 0 ≤ x → x ≤ hi → i' ≤ s.list.length → K (.int .i64 x) (cur t s i' h' :: C) c') : CallW P f l (cur t s i h :: C) c K :=
  call_cur hf fun r B' c' hc q => ⟨numQ_tags q, (numQ_next q).1, (numQ_next q).2, by
    obtain ⟨x, i', h', rfl, x0, x1, k1, rfl⟩ := q
    exact k x i' h' c' hc x0 x1 k1⟩
theorem call_bool {P : Program} {f : Nat} {l : List AV} {t i : Nat} {h : Int} {s : SL Int} {C : List AObj} {c : Nat} {K : AV → List AObj → Nat → Prop} (hf : Con P f l [cur t s i h] c fun r O _ => BoolQ t s r O)
    (k : ∀ (b : Bool) (i' : Nat) (h' : Int) (c' : Nat), c ≤ c' → i' ≤ s.list.length → K (.bool b) (cur t s i' h' :: C) c') : CallW P f l (cur t s i h :: C) c K :=
  call_cur hf fun r B' c' hc q => ⟨by obtain ⟨x, i, h, rfl, _, rfl⟩ := q; rfl, (boolQ_next q).1, (boolQ_next q).2, by
    obtain ⟨x, i', h', rfl, k1, rfl⟩ := q
    exact k x i' h' c' hc k1⟩

/-- One of a list's, the cursor moved. -/
def OneQ {α : Type} (t : Nat) (s : SL Int) (v : α → AV) (l : List α) (o : AObj) (r : AV) (O : List AObj) : Prop := ∃ (x : α) (i : Nat) (h : Int), r = v x ∧ x ∈ l ∧ i ≤ s.list.length ∧ O = [cur t s i h, o]

theorem l1Int_con {t tl i : Nat} {h : Int} {s : SL Int} {l : List Int} (hi : i ≤ s.list.length) (hn : s.list.length ≤ 1048576) (h0 : 0 < l.length) (h1 : l.length ≤ 256) (c : Nat) :
    Con Try.prog 94 [.ptr 0 t 3 0 0, .ref 1 tl 1 l.length] [cur t s i h, ⟨false, tl, 1, l.map encI⟩] c fun r O _ => OneQ t s (AV.int .i64) l ⟨false, tl, 1, l.map encI⟩ r O := by
  refine con_of c94 (by simp [F94]) ?_
  unfold F94
  simp
  refine call_num (l1Below_con hi hn (by omega) _) fun x i' h' c' _ x0 x1 k1 => ?_
  rw [if_neg (by omega)] at x1
  obtain ⟨k, rfl⟩ := Int.eq_ofNat_of_zero_le x0
  have hk : k < l.length := by omega
  have hg : l[k]? = some l[k] := List.getElem?_eq_getElem hk
  have hm := List.getElem_mem hk
  generalize l[k] = y at hg hm
  simp [hk]
  refine ⟨y, hg, ?_⟩
  simp [encI]
  exact fin_all ⟨y, i', h', rfl, hm, k1, rfl⟩
theorem l1Str_con {t tl i : Nat} {h : Int} {s : SL Int} {l : List (List UInt8)} (hi : i ≤ s.list.length) (hn : s.list.length ≤ 1048576) (h0 : 0 < l.length) (h1 : l.length ≤ 256) (c : Nat) :
    Con Try.prog 138 [.ptr 0 t 3 0 0, .ref 1 tl 1 l.length] [cur t s i h, ⟨false, tl, 1, l.map fun x => [AV.str x]⟩] c fun r O _ => OneQ t s AV.str l ⟨false, tl, 1, l.map fun x => [AV.str x]⟩ r O := by
  refine con_of c138 (by simp [F138]) ?_
  unfold F138
  simp
  refine call_num (l1Below_con hi hn (by omega) _) fun x i' h' c' _ x0 x1 k1 => ?_
  rw [if_neg (by omega)] at x1
  obtain ⟨k, rfl⟩ := Int.eq_ofNat_of_zero_le x0
  have hk : k < l.length := by omega
  have hg : l[k]? = some l[k] := List.getElem?_eq_getElem hk
  have hm := List.getElem_mem hk
  generalize l[k] = y at hg hm
  simp [hk]
  refine ⟨y, hg, ?_⟩
  simp
  exact fin_all ⟨y, i', h', rfl, hm, k1, rfl⟩
end A
end Go.Proofs.Ytgiiipbpadgcgaa

/-
  The cursor's making, and the words that are drawn. No condition.
-/

namespace Go.Proofs.Ytgiiipbpadgcgaa
namespace A
set_option linter.unusedVariables false
set_option linter.unusedSimpArgs false
set_option maxRecDepth 100000

/-- A text of at most 16 bytes, the cursor moved. -/
def TextQ (t : Nat) (s : SL Int) (r : AV) (O : List AObj) : Prop := ∃ (x : List UInt8) (i : Nat) (h : Int), r = .str x ∧ x.length ≤ 16 ∧ i ≤ s.list.length ∧ O = [cur t s i h]
theorem textQ_next {t : Nat} {s : SL Int} {r : AV} {O : List AObj} (h : TextQ t s r O) : Av [] r ∧ ∀ o, o ∈ O → AvRows [] o := by
  obtain ⟨x, i, h, rfl, _, _, rfl⟩ := h
  exact ⟨.str, fun o ho => by simp at ho; subst ho; exact cur_rows t s i h⟩
theorem call_text {P : Program} {f : Nat} {l : List AV} {t i : Nat} {h : Int} {s : SL Int} {C : List AObj} {c : Nat} {K : AV → List AObj → Nat → Prop} (hf : Con P f l [cur t s i h] c fun r O _ => TextQ t s r O)
    (k : ∀ (x : List UInt8) (i' : Nat) (h' : Int) (c' : Nat), c ≤ c' → x.length ≤ 16 → i' ≤ s.list.length → K (.str x) (cur t s i' h' :: C) c') : CallW P f l (cur t s i h :: C) c K :=
  call_cur hf fun r B' c' hc q => ⟨by obtain ⟨x, i, h, rfl, _, _, rfl⟩ := q; rfl, (textQ_next q).1, (textQ_next q).2, by
    obtain ⟨x, i', h', rfl, x0, k1, rfl⟩ := q
    exact k x i' h' c' hc x0 k1⟩

theorem avrows_str (tl : Nat) (l : List (List UInt8)) : AvRows [] ⟨false, tl, 1, l.map fun x => [AV.str x]⟩ := avRows_of fun row hr a ha => by
  obtain ⟨x, _, rfl⟩ := List.mem_map.1 hr
  simp at ha; subst ha; exact .str
theorem avrows_int (tl : Nat) (l : List Int) : AvRows [] ⟨false, tl, 1, l.map encI⟩ := avRows_of fun row hr a ha => by
  obtain ⟨x, _, rfl⟩ := List.mem_map.1 hr
  simp [encI] at ha; subst ha; exact .int

theorem call_str {t tl i : Nat} {h : Int} {s : SL Int} (l : List (List UInt8)) {c : Nat} {K : AV → List AObj → Nat → Prop} (hi : i ≤ s.list.length) (hn : s.list.length ≤ 1048576) (h0 : 0 < l.length) (h1 : l.length ≤ 256)
    (k : ∀ (x : List UInt8) (i' : Nat) (h' : Int) (c' : Nat), c ≤ c' → x ∈ l → i' ≤ s.list.length → K (.str x) [cur t s i' h', ⟨false, tl, 1, l.map fun x => [AV.str x]⟩] c') :
    CallW Try.prog 138 [.ptr 0 t 3 0 0, .ref 1 tl 1 l.length] [cur t s i h, ⟨false, tl, 1, l.map fun x => [AV.str x]⟩] c K :=
  call_con (l1Str_con hi hn h0 h1 c) fun r O c' hc q _ _ => by
    obtain ⟨x, i', h', rfl, hx, k1, rfl⟩ := q
    exact ⟨.str, fun o ho => by
      simp at ho
      rcases ho with rfl | rfl
      · exact cur_rows t s i' h'
      · exact avrows_str tl l, k x i' h' c' hc hx k1⟩
theorem call_int {t tl i : Nat} {h : Int} {s : SL Int} (l : List Int) {C : List AObj} {c : Nat} {K : AV → List AObj → Nat → Prop} (hi : i ≤ s.list.length) (hn : s.list.length ≤ 1048576) (h0 : 0 < l.length) (h1 : l.length ≤ 256)
    (k : ∀ (x : Int) (i' : Nat) (h' : Int) (c' : Nat), c ≤ c' → x ∈ l → i' ≤ s.list.length → K (.int .i64 x) [cur t s i' h', ⟨false, tl, 1, l.map encI⟩] c') :
    CallW Try.prog 94 [.ptr 0 t 3 0 0, .ref 1 tl 1 l.length] [cur t s i h, ⟨false, tl, 1, l.map encI⟩] c K :=
  call_con (l1Int_con hi hn h0 h1 c) fun r O c' hc q _ _ => by
    obtain ⟨x, i', h', rfl, hx, k1, rfl⟩ := q
    exact ⟨.int, fun o ho => by
      simp at ho
      rcases ho with rfl | rfl
      · exact cur_rows t s i' h'
      · exact avrows_int tl l, k x i' h' c' hc hx k1⟩

def ids : List (List UInt8) := [[117, 49], [117, 50], [117, 51], [], [97, 32, 98], [117, 52]]
theorem l37Id_con {t i : Nat} {h : Int} {s : SL Int} (hi : i ≤ s.list.length) (hn : s.list.length ≤ 1048576) (c : Nat) : Con Try.prog 104 [.ptr 0 t 3 0 0] [cur t s i h] c fun r O _ => TextQ t s r O := by
  refine con_of c104 (by simp [F104]) ?_
  unfold F104
  simp [putA]
  refine call_str ids hi hn (by decide) (by decide) fun x i' h' c' _ hx k1 => ?_
  simp
  refine fin_sub (Hk := [cur t s i' h']) ((List.nil_sublist _).cons_cons _) (.refl _) ⟨x, i', h', rfl, ?_, k1, rfl⟩
  exact (by decide : ∀ x, x ∈ ids → x.length ≤ 16) x hx

def wrds : List (List UInt8) := [[], [97], [98], [120, 49], [48], [53], [45, 53], [48, 53], [45, 48], [49, 50, 97], [48, 48, 55], [49, 48, 48, 48, 48, 48, 48, 48, 48, 48], [49, 48, 48, 48, 48, 48, 48, 48, 48, 49], [32, 49], [105, 116, 39, 115], [10], [60, 105, 62], [255, 59], [110, 97, 109, 101], [115, 58, 49, 58]]
theorem l5Word_con {t i : Nat} {h : Int} {s : SL Int} (hi : i ≤ s.list.length) (hn : s.list.length ≤ 1048576) (c : Nat) : Con Try.prog 130 [.ptr 0 t 3 0 0] [cur t s i h] c fun r O _ => TextQ t s r O := by
  refine con_of c130 (by simp [F130]) ?_
  unfold F130
  simp [putA]
  refine call_str wrds hi hn (by decide) (by decide) fun x i' h' c' _ hx k1 => ?_
  simp
  refine fin_sub (Hk := [cur t s i' h']) ((List.nil_sublist _).cons_cons _) (.refl _) ⟨x, i', h', rfl, ?_, k1, rfl⟩
  exact (by decide : ∀ x, x ∈ wrds → x.length ≤ 16) x hx

/-- Any number, the cursor moved. -/
def AnyQ (t : Nat) (s : SL Int) (r : AV) (O : List AObj) : Prop := ∃ (x : Int) (i : Nat) (h : Int), r = .int .i64 x ∧ i ≤ s.list.length ∧ O = [cur t s i h]
theorem call_any {P : Program} {f : Nat} {l : List AV} {t i : Nat} {h : Int} {s : SL Int} {C : List AObj} {c : Nat} {K : AV → List AObj → Nat → Prop} (hf : Con P f l [cur t s i h] c fun r O _ => AnyQ t s r O)
    (k : ∀ (x : Int) (i' : Nat) (h' : Int) (c' : Nat), c ≤ c' → i' ≤ s.list.length → K (.int .i64 x) (cur t s i' h' :: C) c') : CallW P f l (cur t s i h :: C) c K :=
  call_cur hf fun r B' c' hc q => by
    obtain ⟨x, i', h', rfl, k1, rfl⟩ := q
    exact ⟨rfl, .int, fun o ho => by simp at ho; subst ho; exact cur_rows t s i' h', k x i' h' c' hc k1⟩
def odds : List Int := [-1, 0, 1, 2, 255, 256, 65535, 2147483647, 2147483648, 4294967295, 4294967296, -2147483648, 9223372036854775807, -9223372036854775808]
theorem l1Odd_con {t i : Nat} {h : Int} {s : SL Int} (hi : i ≤ s.list.length) (hn : s.list.length ≤ 1048576) (c : Nat) : Con Try.prog 133 [.ptr 0 t 3 0 0] [cur t s i h] c fun r O _ => AnyQ t s r O := by
  refine con_of c133 (by simp [F133]) ?_
  unfold F133
  simp [putA]
  refine call_int odds (C := []) hi hn (by decide) (by decide) fun x i' h' c' _ hx k1 => ?_
  simp
  exact fin_sub (Hk := [cur t s i' h']) ((List.nil_sublist _).cons_cons _) (.refl _) ⟨x, i', h', rfl, k1, rfl⟩

def NewQ (s : SL Int) (r : AV) (O : List AObj) : Prop := ∃ (t : Nat) (h : Int), r = .ptr 0 t 3 0 0 ∧ O = [cur t s 0 h]
theorem l1New_con {s : SL Int} (hn : s.list.length ≤ 1048576) (c : Nat) : Con Try.prog 92 [s.av 1 encU] [] c fun r O _ => NewQ s r O := by
  refine con_of c92 (by simp [F92]) ?_
  unfold F92
  simp
  refine loop_drop s.list.length (fun i e H c' => e 0 = s.av 1 encU ∧ e 4 = .int .i64 i ∧ (∃ h : Int, e 3 = .int .i64 h) ∧ H = []) ⟨rfl, rfl, ⟨_, rfl⟩, rfl⟩ ?_
  intro i e H c' hi ⟨e0, e4, ⟨h, e3⟩, hH⟩ N hN
  subst hH
  by_cases hlt : i < s.list.length
  · have hg : s.list[i]? = some s.list[i] := List.getElem?_eq_getElem hlt
    generalize s.list[i] = b at hg
    by_cases h4 : (i : Int) < 4000
    · simp [e0, e3, e4, hlt, h4]
      refine ⟨b, hg, ?_⟩
      simp [e0, e3, e4, encU, intW_and]
      exact hN _ _ _ _ hlt (List.nil_sublist _) ⟨by simp [upd, e0], by simp [upd]; exact step64 (by unfold mx; omega) hlt, ⟨_, by simp [upd]; rfl⟩, rfl⟩
    · simp [e0, e3, e4, hlt, h4, putA]
      exact fin_all ⟨_, h, rfl, rfl⟩
  · simp [e0, e3, e4, hlt, putA]
    exact fin_all ⟨_, h, rfl, rfl⟩

/-- A number below ten, written. -/
theorem fmtDigit {n : Nat} (h : n ≤ 9) : ∃ x : List UInt8, x.length ≤ 16 ∧ Fnc Try.prog 132 [.int .i64 n] (.str x) := by
  by_cases h0 : n = 0
  · subst h0
    refine ⟨[48], by decide, fn_of c132 (by simp [F132]) fun c => ?_⟩
    unfold F132
    simp
    exact fin_plain ⟨rfl, rfl⟩
  · refine ⟨[UInt8.ofNat (48 + n)], by simp, fn_of c132 (by simp [F132]) fun c => ?_⟩
    unfold F132
    have hm : ((n : Int).tmod 10) = n := by rw [Int.tmod_eq_emod_of_nonneg (by omega)]; omega
    have hq : ((n : Int).tdiv 10) = 0 := by rw [Int.tdiv_eq_ediv_of_nonneg (by omega)]; omega
    have hn0 : ¬ (n : Int) = 0 := by omega
    have hneg : ¬ (n : Int) < 0 := by omega
    have w0 : IntKind.i64.wrap 0 = 0 := by decide
    have w1 : IntKind.i64.wrap (48 + (n : Int)) = 48 + n := wrap64 (by omega) (by omega)
    simp [h0, hn0]
    refine loop_drop 1 (fun i e H c' => e 0 = .int .i64 n ∧ H = [] ∧ ((i = 0 ∧ e 4 = .int .i64 n ∧ e 3 = .str []) ∨ (i = 1 ∧ e 4 = .int .i64 0 ∧ e 3 = .str [UInt8.ofNat (48 + n)]))) ⟨rfl, rfl, .inl ⟨rfl, rfl, rfl⟩⟩ ?_
    intro i e H c' hi ⟨e0, hH, hc⟩ N hN
    subst hH
    rcases hc with ⟨rfl, e4, e3⟩ | ⟨rfl, e4, e3⟩
    · have hu : IntKind.u8.wrap (48 + (n : Int)) = 48 + n := by
        rcases n with _ | _ | _ | _ | _ | _ | _ | _ | _ | _ | n
        all_goals first | rfl | omega
      simp [e0, e3, e4, h0, hn0, hm, hneg, w1, putA, hq, w0, hu]
      refine toStrW_ref (l := [UInt8.ofNat (48 + n)]) ?_ rfl (by unfold mx; simp) ?_
      · simp [byteRow, UInt8.toNat_ofNat']
        omega
      · simp [e0, e3, e4, hq, w0, h0]
        refine ⟨by unfold mx; omega, hN _ _ _ _ (by omega) (List.nil_sublist _) ⟨?_, rfl, .inr ⟨rfl, ?_, ?_⟩⟩⟩
        · simp [upd, e0]
        · simp [upd]
        · simp [upd]
    · simp [e0, e3, e4, hneg]
      exact fin_plain ⟨rfl, rfl⟩
end A
end Go.Proofs.Ytgiiipbpadgcgaa

/-
  The types that the laws of this seat speak of, and the helpers over them: printed by a program (wip/tools/gen.py). No condition.
-/


namespace Go.Proofs.Ytgiiipbpadgcgaa
namespace A
set_option linter.unusedVariables false
set_option linter.unusedSimpArgs false
set_option maxRecDepth 100000

structure TSession where
  Id : List UInt8
  Data : List UInt8
  Holder : Int
  At : Int
def TSession.enc (s : TSession) : List AV := [.str s.Id, .str s.Data, .int .i64 s.Holder, .int .i64 s.At]
@[simp] theorem TSession.len (s : TSession) : s.enc.length = 4 := (rfl)
@[simp] theorem TSession.all (s : TSession) : s.enc.take 4 = s.enc := (rfl)
@[simp] theorem TSession.g0 (s : TSession) (K : AV → Prop) : getW s.enc 0 K = K (.str s.Id) := by simp [TSession.enc]
@[simp] theorem TSession.g1 (s : TSession) (K : AV → Prop) : getW s.enc 1 K = K (.str s.Data) := by simp [TSession.enc]
@[simp] theorem TSession.g2 (s : TSession) (K : AV → Prop) : getW s.enc 2 K = K (.int .i64 s.Holder) := by simp [TSession.enc]
@[simp] theorem TSession.g3 (s : TSession) (K : AV → Prop) : getW s.enc 3 K = K (.int .i64 s.At) := by simp [TSession.enc]
theorem TSession.cells (s : TSession) : ∀ a, a ∈ s.enc → a.cell = true := by simp [TSession.enc]
def TSession.sz (s : TSession) : Nat := s.Id.length + s.Data.length
def TSession.ok (s : TSession) : Prop := s.Id.length ≤ mx ∧ s.Data.length ≤ mx
def TSession.con (s : TSession) : TSession := s
theorem TSession.sz_con (s : TSession) : s.con.sz = s.sz := rfl
theorem TSession.sh : ∀ (n : Nat) (row : List AV), ShC Try.prog n 108 row → ∃ s : TSession, row = s.enc ∧ s.ok := by
  intro n row h
  obtain ⟨m, hl, hf⟩ := sh_fields (l := [(9, 0), (9, 1), (3, 2), (3, 3)]) (by kernel_rfl) h
  have hl' : row.length = 4 := hl.trans (by kernel_rfl)
  match row, hl' with
  | [x0, x1, x2, x3], _ =>
    have h0 := hf (9, 0) (by simp)
    rw [show Try.prog.cellsOf 9 = 1 by kernel_rfl] at h0
    obtain ⟨v0, rfl, k0⟩ := sh_str (t := 9) (by kernel_rfl) (show ShC Try.prog m 9 [x0] from h0)
    have h1 := hf (9, 1) (by simp)
    rw [show Try.prog.cellsOf 9 = 1 by kernel_rfl] at h1
    obtain ⟨v1, rfl, k1⟩ := sh_str (t := 9) (by kernel_rfl) (show ShC Try.prog m 9 [x1] from h1)
    have h2 := hf (3, 2) (by simp)
    rw [show Try.prog.cellsOf 3 = 1 by kernel_rfl] at h2
    obtain ⟨v2, rfl, _⟩ := sh_int (k := .i64) (t := 3) (by kernel_rfl) (show ShC Try.prog m 3 [x2] from h2)
    have h3 := hf (3, 3) (by simp)
    rw [show Try.prog.cellsOf 3 = 1 by kernel_rfl] at h3
    obtain ⟨v3, rfl, _⟩ := sh_int (k := .i64) (t := 3) (by kernel_rfl) (show ShC Try.prog m 3 [x3] from h3)
    exact ⟨⟨v0, v1, v2, v3⟩, rfl, ⟨k0, k1⟩⟩
theorem TSession.sz_fn {s : TSession} (hs : s.ok) {left : Int} (hl : Room left) : Fnc Try.prog 77 [.agg s.enc, .int .i64 left] (.int .i64 (szOf s.sz left)) := by
  unfold TSession.ok at hs
  have hr := hl.2
  refine fn_of c77 (by simp [F77]) fun c => ?_
  unfold F77
  simp
  rw [szOf_wrap hs.1 hl]
  refine ⟨fun h => fin_plain ⟨by rw [szOf_neg (by simp only [TSession.sz]; omega)], rfl⟩, fun h => ?_⟩
  rw [szOf_wrap hs.2 ⟨by omega, by omega⟩]
  refine ⟨fun h => fin_plain ⟨by rw [szOf_neg (by simp only [TSession.sz]; omega)], rfl⟩, fun h => ?_⟩
  have hz : s.sz = s.Id.length + s.Data.length := rfl
  have e : szOf s.sz left = left - (s.Id.length : Int) - (s.Data.length : Int) := by
    unfold szOf
    rw [if_pos (by omega)]
    omega
  exact fin_plain ⟨by rw [e], rfl⟩
theorem TSession.to_fn {s : TSession} (h : s.sz ≤ 1048576) : Tr Try.prog 81 [.agg s.enc] fun _ r => ∃ b : TSession, r = .agg b.enc ∧ b.con = s.con := by
  simp only [TSession.sz] at h
  intro c
  refine con_of c81 (by simp [F81]) ?_
  unfold F81
  simp [putA]
  refine fin_plain ⟨rfl, ⟨⟨s.Id, s.Data, s.Holder, s.At⟩, rfl, ?_⟩, from_agg ?_⟩
  · rfl
  · simp
theorem TSession.eq_fn {a b : TSession} (h : a.sz ≤ 1099511627776) (he : a.con = b.con) : Fnc Try.prog 84 [.agg a.enc, .agg b.enc] (.bool true) := by
  simp only [TSession.sz] at h
  have e0 : a.Id = b.Id := (congrArg TSession.Id he : a.con.Id = b.con.Id)
  have e1 : a.Data = b.Data := (congrArg TSession.Data he : a.con.Data = b.con.Data)
  have e2 : a.Holder = b.Holder := (congrArg TSession.Holder he : a.con.Holder = b.con.Holder)
  have e3 : a.At = b.At := (congrArg TSession.At he : a.con.At = b.con.At)
  refine fn_of c84 (by simp [F84]) fun c => ?_
  unfold F84
  simp [e0, e1, e2, e3]
  exact fin_plain ⟨rfl, rfl⟩
def szSessionS (s : SL TSession) : Nat := s.list.length + szL TSession.sz s.list
def okSessionS (s : SL TSession) : Prop := s.list.length ≤ mx ∧ ∀ x, x ∈ s.list → TSession.ok x
theorem szSessionS_con {s t : SL TSession} (h : s.list.map TSession.con = t.list.map TSession.con) : szSessionS s = szSessionS t := by
  unfold szSessionS
  rw [← szL_map (con := TSession.con) TSession.sz_con s.list, ← szL_map (con := TSession.con) TSession.sz_con t.list, h]
  have := congrArg List.length h; simp at this; rw [this]
theorem shSessionS {n : Nat} {a : AV} (h : ShC Try.prog n 22 [a]) : ∃ s : SL TSession, a = s.av 4 TSession.enc ∧ okSessionS s := by
  obtain ⟨s, h1, h2, h3⟩ := sh_slc (P := Try.prog) (t := 22) (el := 108) (w := 4) (enc := TSession.enc) (ok := TSession.ok) (by kernel_rfl) (by kernel_rfl) (TSession.sh) h
  exact ⟨s, h1, h2, h3⟩
theorem szSessionS_fn {s : SL TSession} (hs : okSessionS s) {left : Int} (hl : Room left) : Fnc Try.prog 19 [s.av 4 TSession.enc, .int .i64 left] (.int .i64 (szOf (szSessionS s) left)) :=
  szS_fn (g := 77) c19 (fun _ => rfl) hs.1 hl fun x hx left hl => TSession.sz_fn (hs.2 x hx) hl
theorem toSessionS_fn {s : SL TSession} (h : szSessionS s ≤ 1048576) : Tr Try.prog 21 [s.av 4 TSession.enc] fun _ r => ∃ b : SL TSession, r = b.av 4 TSession.enc ∧ b.list.map TSession.con = s.list.map TSession.con := by
  unfold szSessionS at h
  exact toS_fn (g := 81) (z := [.str [], .str [], .int .i64 0, .int .i64 0]) (bytes := 48) c21 rfl (fun _ => rfl) (fun x => TSession.cells x) (by omega) (by omega) fun x hx => TSession.to_fn (by have := szL_mem (sz := TSession.sz) hx; omega)
theorem eqSessionS_fn {s t : SL TSession} (h : szSessionS s ≤ 1099511627776) (he : s.list.map TSession.con = t.list.map TSession.con) : Fnc Try.prog 23 [s.av 4 TSession.enc, t.av 4 TSession.enc] (.bool true) := by
  unfold szSessionS at h
  exact eqS_fn (g := 84) (con := TSession.con) c23 (fun _ => rfl) (by unfold mx; omega) he fun x hx y hxy => TSession.eq_fn (by have := szL_mem (sz := TSession.sz) hx; omega) hxy
end A
end Go.Proofs.Ytgiiipbpadgcgaa

/-
  The words that mark strings. No condition.
-/


namespace Go.Proofs.Ytgiiipbpadgcgaa
namespace A
set_option linter.unusedVariables false
set_option linter.unusedSimpArgs false
set_option maxRecDepth 100000

def mtD : Nat → Nat → List UInt8 → List UInt8
  | 0, _, acc => acc
  | f + 1, k, acc => if k = 0 then acc else mtD f (k / 10) (UInt8.ofNat (48 + k % 10) :: acc)
def mtext (k : Int) : List UInt8 := if k ≤ 0 then [109, 48] else 109 :: mtD 40 k.toNat []
theorem mtD_len : ∀ (f k : Nat) (acc : List UInt8), (mtD f k acc).length ≤ f + acc.length
  | 0, _, _ => by simp [mtD]
  | f + 1, k, acc => by
    unfold mtD
    split
    · omega
    · have := mtD_len f (k / 10) (UInt8.ofNat (48 + k % 10) :: acc)
      rw [List.length_cons] at this; omega
theorem mtext_len (k : Int) : (mtext k).length ≤ 41 := by
  unfold mtext
  split
  · simp
  · have := mtD_len 40 k.toNat []
    simp at this ⊢; omega

theorem mtext_fn {k : Int} (hk : k ≤ 1000000000000000000) : Fnc Try.prog 86 [.int .i64 k] (.str (mtext k)) := by
  refine fn_of c86 (by simp [F86]) fun c => ?_
  unfold F86
  simp
  refine ⟨fun h => fin_plain ⟨by simp [mtext, h], rfl⟩, fun h => ?_⟩
  have hm : mtext k = 109 :: mtD 40 k.toNat [] := by simp [mtext]; omega
  refine loop_drop 20 (fun i e H c' => ∃ (n : Nat) (acc : List UInt8), e 0 = .int .i64 n ∧ e 3 = .str acc ∧ acc.length = i ∧ n * 10 ^ i ≤ k.toNat ∧ mtD (40 - i) n acc = mtD 40 k.toNat [] ∧ H = []) ⟨k.toNat, [], by simp; omega, rfl, rfl, by simp, rfl, rfl⟩ ?_
  intro i e H c hi ⟨n, acc, e0, e3, hl, hn, hd, hH⟩ N hN
  subst hH
  simp [e0, e3]
  refine ⟨fun h => ?_, fun h => ?_⟩
  · have hi' : i < 20 := by
      rcases Nat.lt_or_ge i 20 with h1 | h1
      · exact h1
      · have : i = 20 := by omega
        subst this
        omega
    have h10 : ((n : Int)).tmod 10 = ((n % 10 : Nat) : Int) := by rw [Int.tmod_eq_emod_of_nonneg (by omega)]; omega
    have hq : ((n : Int)).tdiv 10 = ((n / 10 : Nat) : Int) := by rw [Int.tdiv_eq_ediv_of_nonneg (by omega)]; omega
    have h48 : (48 : Int) + ((n % 10 : Nat) : Int) = ((48 + n % 10 : Nat) : Int) := by omega
    have hw : IntKind.u8.wrap (IntKind.i64.wrap (48 + ((n % 10 : Nat) : Int))) = ((UInt8.ofNat (48 + n % 10)).toNat : Int) := by rw [h48]; exact wrap_u8 (by omega)
    rw [h10]
    refine toStrW_ref (l := [UInt8.ofNat (48 + n % 10)]) (by rw [hw]; rfl) rfl (by simp [mx]) ?_
    have hm1 : 1 + acc.length ≤ mx := by unfold mx; omega
    have hq' : IntKind.i64.wrap ((n / 10 : Nat) : Int) = ((n / 10 : Nat) : Int) := by
      have : n ≤ k.toNat := Nat.le_trans (Nat.le_mul_of_pos_right n (Nat.pos_of_ne_zero (by simp))) hn
      exact wrap64 (by omega) (by omega)
    simp [e0, e3, hm1, hq, hq', -Int.natCast_ediv]
    refine hN _ _ [] _ hi' (by simp) ⟨n / 10, UInt8.ofNat (48 + n % 10) :: acc, ?_, ?_, by simp [hl], ?_, ?_, rfl⟩
    · simp [upd]
    · simp [upd]
    · refine Nat.le_trans ?_ hn
      rw [Nat.pow_succ, Nat.mul_comm (10 ^ i) 10, ← Nat.mul_assoc]
      exact Nat.mul_le_mul_right _ (Nat.div_mul_le_self n 10)
    · rw [← hd]
      have e40 : 40 - i = (40 - (i + 1)) + 1 := by omega
      rw [e40]
      conv => rhs; unfold mtD
      rw [if_neg (by omega)]
  · have h0 : n = 0 := by omega
    subst h0
    have ha : acc = mtD 40 k.toNat [] := by
      rw [← hd]
      have e40 : 40 - i = (39 - i) + 1 := by omega
      rw [e40]; simp [mtD]
    have hm1 : 1 + acc.length ≤ mx := by unfold mx; omega
    exact ⟨hm1, fin_plain ⟨by rw [hm, ← ha], rfl⟩⟩
end A
end Go.Proofs.Ytgiiipbpadgcgaa

/-
  Marks on sessions, and what reads them. No condition.
-/


namespace Go.Proofs.Ytgiiipbpadgcgaa
namespace A
set_option linter.unusedVariables false
set_option linter.unusedSimpArgs false
set_option maxRecDepth 100000

def mkSession (k : Int) (x : TSession) : TSession := ⟨mtext k, mtext (k + 1), k + 2, k + 3⟩
def cSession (x : TSession) : Nat := 4
theorem TSession.flat : Flat TSession.enc := fun x a ha => by
  simp [TSession.enc] at ha
  rcases ha with rfl | rfl | rfl | rfl <;> exact ⟨rfl, fun T => by constructor⟩

theorem markSession_nil (k : Int) : Fnc Try.prog 26 [.nsl, .int .i64 k] (.int .i64 k) := by
  refine fn_of c26 (by simp [F26]) fun c => ?_
  unfold F26
  simp
  refine loop_drop 0 (fun i e H c' => e 0 = .nsl ∧ e 1 = .int .i64 k ∧ e 5 = .int .i64 0 ∧ H = []) ⟨rfl, rfl, rfl, rfl⟩ ?_
  intro i e H c hi ⟨e0, e1, e5, hH⟩ N hN
  subst hH
  simp [e0, e1, e5]
  exact fin_plain ⟨rfl, rfl⟩
theorem heldSession_nil (k : Int) : Fnc Try.prog 27 [.nsl, .int .i64 k] (.int .i64 k) := by
  refine fn_of c27 (by simp [F27]) fun c => ?_
  unfold F27
  simp
  refine loop_drop 0 (fun i e H c' => e 0 = .nsl ∧ e 1 = .int .i64 k ∧ e 5 = .int .i64 0 ∧ H = []) ⟨rfl, rfl, rfl, rfl⟩ ?_
  intro i e H c hi ⟨e0, e1, e5, hH⟩ N hN
  subst hH
  simp [e0, e1, e5]
  exact fin_plain ⟨rfl, rfl⟩

theorem markSession_con1 {l : List TSession} (hn : l.length ≤ 2097152) {k : Int} (hk : 0 ≤ k ∧ k ≤ 1099511627776) (t c : Nat) :
    Con Try.prog 26 [.ref 0 t 4 l.length, .int .i64 k] [⟨false, t, 4, l.map TSession.enc⟩] c fun r H' _ => r = .int .i64 (k + szL cSession l) ∧ H' = [⟨false, t, 4, (mks mkSession cSession k l).map TSession.enc⟩] := by
  refine con_of c26 (by simp [F26]) ?_
  unfold F26
  simp
  refine loop_drop l.length (fun i e H c' => e 0 = .ref 0 t 4 l.length ∧ e 1 = .int .i64 (k + szL cSession (l.take i)) ∧ e 5 = .int .i64 i ∧ H = [⟨false, t, 4, (mixed mkSession cSession k l i).map TSession.enc⟩]) ⟨rfl, by simp [szL], rfl, by rw [mixed_zero]⟩ ?_
  intro i e H c hi ⟨e0, e1, e5, hH⟩ N hN
  subst hH
  have hs := mixed_set mkSession cSession k l (i := i)
  have hst := fun h : i < l.length => szL_step cSession l h
  have hj : szL cSession (l.take i) ≤ 4 * i := by
    show szL (fun _ => 4) (l.take i) ≤ _
    rw [szL_const]; simp; omega
  generalize hjj : k + (szL cSession (l.take i) : Int) = j at e1 hs
  have w1 : IntKind.i64.wrap (j + 1) = j + 1 := wrap64 (by omega) (by omega)
  have w2 : IntKind.i64.wrap (j + 1 + 1) = j + 1 + 1 := wrap64 (by omega) (by omega)
  have w3 : IntKind.i64.wrap (j + 1 + 1 + 1) = j + 1 + 1 + 1 := wrap64 (by omega) (by omega)
  have w4 : IntKind.i64.wrap (j + 1 + 1 + 1 + 1) = j + 1 + 1 + 1 + 1 := wrap64 (by omega) (by omega)
  simp [e0, e1, e5]
  refine ⟨fun h => ?_, fun h => ?_⟩
  · have hs := hs h
    have hst := hst h
    have hg := mixed_get mkSession cSession k l h
    generalize l[i] = x at hs hst hg
    refine call_fn0 (mtext_fn (by omega)) .str fun _ _ => ?_
    simp [e0, e1, e5, h]
    refine ⟨_, hg, ?_⟩
    simp [e0, e1, e5, h, mixed_len, w1, w2, w3, w4, putA, TSession.enc]
    refine call_fn0 (mtext_fn (by omega)) .str fun _ _ => ?_
    simp [e0, e1, e5, h, mixed_len, w1, w2, w3, w4, putA, TSession.enc]
    refine hN _ _ _ _ h (List.Sublist.refl _) ⟨by simp [upd, e0], ?_, by simp [upd]; exact step64 (by unfold mx; omega) h, ?_⟩
    · simp [upd, w1, w2, w3, w4, hst, cSession]; omega
    · rw [← hs, List.map_set]
      simp [mkSession, TSession.enc, w1, w2, w3, w4, Int.add_assoc]
  · have h1 : i = l.length := by omega
    subst h1
    refine fin_all ⟨?_, ?_⟩
    · rw [← hjj]; simp
    · rw [mixed_all]

theorem heldSession_fn1 {l : List TSession} (hn : l.length ≤ 2097152) {k : Int} (hk : 0 ≤ k ∧ k ≤ 1099511627776) (t : Nat) :
    Fnc Try.prog 27 [(SL.mk t (mks mkSession cSession k l)).av 4 TSession.enc, .int .i64 k] (.int .i64 (k + szL cSession l)) := by
  refine fn_of c27 (by simp [F27]) fun c => ?_
  unfold F27
  simp
  have hlen := mks_len mkSession cSession k l
  refine loop_drop l.length (fun i e H c' => e 0 = (SL.mk t (mks mkSession cSession k l)).av 4 TSession.enc ∧ e 1 = .int .i64 (k + szL cSession (l.take i)) ∧ e 5 = .int .i64 i ∧ H = []) ⟨rfl, by simp [szL], rfl, rfl⟩ ?_
  intro i e H c hi ⟨e0, e1, e5, hH⟩ N hN
  subst hH
  have hg := fun h : i < l.length => mks_get mkSession cSession k l h
  have hst := fun h : i < l.length => szL_step cSession l h
  have hj : szL cSession (l.take i) ≤ 4 * i := by
    show szL (fun _ => 4) (l.take i) ≤ _
    rw [szL_const]; simp; omega
  generalize hjj : k + (szL cSession (l.take i) : Int) = j at e1 hg
  have w1 : IntKind.i64.wrap (j + 1) = j + 1 := wrap64 (by omega) (by omega)
  have w2 : IntKind.i64.wrap (j + 1 + 1) = j + 1 + 1 := wrap64 (by omega) (by omega)
  have w3 : IntKind.i64.wrap (j + 1 + 1 + 1) = j + 1 + 1 + 1 := wrap64 (by omega) (by omega)
  have w4 : IntKind.i64.wrap (j + 1 + 1 + 1 + 1) = j + 1 + 1 + 1 + 1 := wrap64 (by omega) (by omega)
  simp [e0, e1, e5, hlen]
  refine ⟨fun h => ?_, fun h => ?_⟩
  · have hg := hg h
    have hst := hst h
    generalize l[i] = x at hg hst
    have f0 : (mkSession j x).Id = mtext j := rfl
    have f1 : (mkSession j x).Data = mtext (j + 1) := rfl
    have f2 : (mkSession j x).Holder = j + 1 + 1 := by simp [mkSession]; omega
    have f3 : (mkSession j x).At = j + 1 + 1 + 1 := by simp [mkSession]; omega
    refine ⟨_, hg, ?_⟩
    simp [e0, e1, e5, h, w1, w2, w3, w4, f0, f1, f2, f3]
    refine callF_fn0 (mtext_fn (by omega)) .str fun _ _ => ?_
    simp [e0, e1, e5, h, w1, w2, w3, w4, f0, f1, f2, f3]
    refine ⟨_, hg, ?_⟩
    simp [e0, e1, e5, h, w1, w2, w3, w4, f0, f1, f2, f3]
    refine callF_fn0 (mtext_fn (by omega)) .str fun _ _ => ?_
    simp [e0, e1, e5, h, w1, w2, w3, w4, f0, f1, f2, f3]
    refine ⟨_, hg, ?_⟩
    simp [e0, e1, e5, h, w1, w2, w3, w4, f0, f1, f2, f3]
    refine ⟨_, hg, ?_⟩
    simp [e0, e1, e5, h, w1, w2, w3, w4, f0, f1, f2, f3]
    refine hN _ _ _ _ h (List.Sublist.refl _) ⟨by simp [upd, e0], ?_, by simp [upd]; exact step64 (by unfold mx; omega) h, rfl⟩
    simp [upd, w1, w2, w3, w4, hst, cSession]; omega
  · have h1 : i = l.length := by omega
    subst h1
    refine fin_plain ⟨?_, rfl⟩
    rw [← hjj]; simp

theorem markSession_con {s : SL TSession} (hn : s.list.length ≤ 2097152) {k : Int} (hk : 0 ≤ k ∧ k ≤ 1099511627776) (c : Nat) :
    Con Try.prog 26 [s.ref 4, .int .i64 k] (s.wood 4 TSession.enc noInn) c fun r H' _ => r = .int .i64 (k + szL cSession s.list) ∧ H' = (s.marks mkSession cSession k).wood 4 TSession.enc noInn := by
  cases s with
  | nil =>
    have := markSession_nil k c
    simpa [SL.ref, SL.wood, SL.marks, szL] using this
  | mk t l =>
    have := markSession_con1 (l := l) hn hk t c
    simpa [SL.ref, SL.wood, SL.marks, wood_flat] using this
theorem heldSession_fn {s : SL TSession} (hn : s.list.length ≤ 2097152) {k : Int} (hk : 0 ≤ k ∧ k ≤ 1099511627776) :
    Fnc Try.prog 27 [(s.marks mkSession cSession k).av 4 TSession.enc, .int .i64 k] (.int .i64 (k + szL cSession s.list)) := by
  cases s with
  | nil =>
    have := heldSession_nil k
    simpa [SL.av, SL.marks, szL] using this
  | mk t l => exact heldSession_fn1 (l := l) hn hk t
end A
end Go.Proofs.Ytgiiipbpadgcgaa

/-
  SweepSessions of the reference and of the program are the same plain function. No condition.
-/


namespace Go.Proofs.Ytgiiipbpadgcgaa
namespace A
set_option linter.unusedVariables false
set_option linter.unusedSimpArgs false
set_option maxRecDepth 100000

def keepS (now age : Int) (x : TSession) : Bool := !decide (x.Holder = 0) || decide (now - age ≤ x.At)
def sweepS (now age : Int) (l : List TSession) : List TSession := if inR now 0 1000000000000 && inR age 0 1000000000000 then l.filter (keepS now age) else l

theorem spec_sweepO {s : SL TSession} {now age : Int} (hn : s.list.length ≤ 1048576) (c : Nat) : Con Try.prog 28 [s.av 4 TSession.enc, .int .i64 now, .int .i64 age] [] c fun r O _ => ∃ x : SL TSession, r = x.ref 4 ∧ O = x.wood 4 TSession.enc noInn ∧ x.list = sweepS now age s.list := by
  refine con_of c28 (by simp [F28]) ?_
  unfold F28
  simp
  refine call_fn0 (l1In_fn _ _ _) .bool fun _ _ => ?_
  have hbad : ∀ c', s.list.length * 48 ≤ 140737488355328 ∧ s.list.length ≤ mx := fun c' => ⟨by omega, by unfold mx; omega⟩
  cases h1 : inR now 0 1000000000000
  · simp
    exact ⟨by omega, by unfold mx; omega, fin_all ⟨.mk _ s.list, rfl, by simp [flat_wood], by simp [sweepS, h1]⟩⟩
  simp
  refine call_fn0 (l1In_fn _ _ _) .bool fun _ _ => ?_
  cases h2 : inR age 0 1000000000000
  · simp
    exact ⟨by omega, by unfold mx; omega, fin_all ⟨.mk _ s.list, rfl, by simp [flat_wood], by simp [sweepS, h1, h2]⟩⟩
  simp
  have g1 := inR_true h1
  have g2 := inR_true h2
  have hw : IntKind.i64.wrap (now - age) = now - age := wrap64 (by omega) (by omega)
  refine loop_drop s.list.length (fun i e H c' => e 0 = s.av 4 TSession.enc ∧ e 1 = .int .i64 now ∧ e 2 = .int .i64 age ∧ e 8 = .int .i64 i ∧ ∃ t, e 7 = .ref 0 t 4 ((s.list.take i).filter (keepS now age)).length ∧ H = [⟨false, t, 4, ((s.list.take i).filter (keepS now age)).map TSession.enc⟩]) ⟨rfl, rfl, rfl, rfl, _, rfl, rfl⟩ ?_
  intro i e H c' hi ⟨e0, e1, e2, e8, t, e7, hH⟩ N hN
  subst hH
  have hlen : ((s.list.take i).filter (keepS now age)).length ≤ 1048576 := Nat.le_trans (List.length_filter_le _ _) (by simp; omega)
  simp [e0, e1, e2, e7, e8]
  refine ⟨fun h => ?_, fun h => ?_⟩
  · have hst := filter_step (keepS now age) h
    have hl : s.list[i]? = some s.list[i] := List.getElem?_eq_getElem h
    refine ⟨_, hl, ?_⟩
    have hm1 : ((s.list.take i).filter (keepS now age)).length + 1 ≤ mx := by unfold mx; omega
    have hm2 : (((s.list.take i).filter (keepS now age)).length + 1) * 48 ≤ 140737488355328 := by omega
    by_cases q1 : s.list[i].Holder = 0
    · simp [e0, e1, e2, e7, e8, q1, hw]
      refine ⟨_, hl, ?_⟩
      by_cases q2 : now - age ≤ s.list[i].At
      · simp [e0, e1, e2, e7, e8, q1, q2, hw]
        refine ⟨_, hl, ?_⟩
        simp [e0, e1, e2, e7, e8, hm1, hm2]
        refine hN _ _ _ _ h (sub_one _ _) ⟨by simp [upd, e0], by simp [upd, e1], by simp [upd, e2], by simp [upd]; exact step64 (by unfold mx; omega) h, c' + 1, ?_, ?_⟩
        · rw [hst]; simp [keepS, q1, q2, upd]
        · rw [hst]; simp [keepS, q1, q2]
      · simp [e0, e1, e2, e7, e8, q1, q2, hw]
        refine hN _ _ _ _ h (List.Sublist.refl _) ⟨by simp [upd, e0], by simp [upd, e1], by simp [upd, e2], by simp [upd]; exact step64 (by unfold mx; omega) h, t, ?_, ?_⟩
        · rw [hst]; simp [keepS, q1, q2, upd, e7]
        · rw [hst]; simp [keepS, q1, q2]
    · simp [e0, e1, e2, e7, e8, q1]
      refine ⟨_, hl, ?_⟩
      simp [e0, e1, e2, e7, e8, hm1, hm2]
      refine hN _ _ _ _ h (sub_one _ _) ⟨by simp [upd, e0], by simp [upd, e1], by simp [upd, e2], by simp [upd]; exact step64 (by unfold mx; omega) h, c' + 1, ?_, ?_⟩
      · rw [hst]; simp [keepS, q1, upd]
      · rw [hst]; simp [keepS, q1]
  · have h1' : i = s.list.length := by omega
    subst h1'
    exact fin_all ⟨.mk t _, rfl, by rw [flat_wood], by simp [sweepS, h1, h2]⟩
theorem cloneSO {s : SL TSession} (hn : s.list.length ≤ 1048576) (c : Nat) : Con Try.prog 85 [s.av 4 TSession.enc] [] c fun r O _ => ∃ x : SL TSession, r = x.ref 4 ∧ O = x.wood 4 TSession.enc noInn ∧ x.list = s.list :=
  clone_con (b := 48) (z := [.str [], .str [], .int .i64 0, .int .i64 0]) c85 (by omega) (by unfold mx; omega) c

theorem impl_sweepO {s : SL TSession} {now age : Int} (hn : s.list.length ≤ 1048576) (c : Nat) : Con Try.prog 29 [s.av 4 TSession.enc, .int .i64 now, .int .i64 age] [] c fun r O _ => ∃ x : SL TSession, r = x.ref 4 ∧ O = x.wood 4 TSession.enc noInn ∧ x.list = sweepS now age s.list := by
  refine con_of c29 (by simp [F29]) ?_
  unfold F29
  simp
  refine call_fn0 (inRange_fn _ _ _) .bool fun _ _ => ?_
  cases h1 : inR now 0 1000000000000
  · simp
    refine call_new (cloneSO hn _) (Views.refl _ _) fun r O c1 hc ⟨x, hr, hO, hx⟩ _ _ => ?_
    subst hr; subst hO
    refine ⟨_, .refl _, free_ref _ _ _, fun o ho => flat_free TSession.flat _ _ o ho _, ?_⟩
    simp
    exact fin_all ⟨x, rfl, rfl, by simp [sweepS, h1, hx]⟩
  simp
  refine call_fn0 (inRange_fn _ _ _) .bool fun _ _ => ?_
  cases h2 : inR age 0 1000000000000
  · simp
    refine call_new (cloneSO hn _) (Views.refl _ _) fun r O c1 hc ⟨x, hr, hO, hx⟩ _ _ => ?_
    subst hr; subst hO
    refine ⟨_, .refl _, free_ref _ _ _, fun o ho => flat_free TSession.flat _ _ o ho _, ?_⟩
    simp
    exact fin_all ⟨x, rfl, rfl, by simp [sweepS, h1, h2, hx]⟩
  simp
  have g1 := inR_true h1
  have g2 := inR_true h2
  have hw : IntKind.i64.wrap (now - age) = now - age := wrap64 (by omega) (by omega)
  refine loop_drop s.list.length (fun i e H c' => e 1 = .int .i64 now ∧ e 2 = .int .i64 age ∧ e 21 = s.av 4 TSession.enc ∧ e 22 = .int .i64 s.list.length ∧ e 23 = .int .i64 i ∧ ∃ t, e 7 = .ref 0 t 4 ((s.list.take i).filter (keepS now age)).length ∧ H = [⟨false, t, 4, ((s.list.take i).filter (keepS now age)).map TSession.enc⟩]) ⟨rfl, rfl, rfl, rfl, rfl, _, rfl, rfl⟩ ?_
  intro i e H c' hi ⟨e1, e2, e21, e22, e23, t, e7, hH⟩ N hN
  subst hH
  have hlen : ((s.list.take i).filter (keepS now age)).length ≤ 1048576 := Nat.le_trans (List.length_filter_le _ _) (by simp; omega)
  simp [e1, e2, e7, e21, e22, e23]
  refine ⟨fun h => ?_, fun h => ?_⟩
  · have hst := filter_step (keepS now age) h
    have hl : s.list[i]? = some s.list[i] := List.getElem?_eq_getElem h
    refine ⟨_, hl, ?_⟩
    have hm1 : ((s.list.take i).filter (keepS now age)).length + 1 ≤ mx := by unfold mx; omega
    have hm2 : (((s.list.take i).filter (keepS now age)).length + 1) * 48 ≤ 140737488355328 := by omega
    by_cases q1 : s.list[i].Holder = 0
    · by_cases q2 : now - age ≤ s.list[i].At
      · simp [e1, e2, e7, e21, e22, e23, q1, q2, hw, hm1, hm2]
        refine hN _ _ _ _ h (sub_one _ _) ⟨by simp [upd, e1], by simp [upd, e2], by simp [upd, e21], by simp [upd, e22], by simp [upd]; exact step64 (by unfold mx; omega) h, c' + 1 + 1, ?_, ?_⟩
        · rw [hst]; simp [keepS, q1, q2, upd]
        · rw [hst]; simp [keepS, q1, q2]
      · simp [e1, e2, e7, e21, e22, e23, q1, q2, hw]
        refine hN _ _ _ _ h (sub_one _ _) ⟨by simp [upd, e1], by simp [upd, e2], by simp [upd, e21], by simp [upd, e22], by simp [upd]; exact step64 (by unfold mx; omega) h, t, ?_, ?_⟩
        · rw [hst]; simp [keepS, q1, q2, upd, e7]
        · rw [hst]; simp [keepS, q1, q2]
    · simp [e1, e2, e7, e21, e22, e23, q1, hm1, hm2]
      refine hN _ _ _ _ h (sub_one _ _) ⟨by simp [upd, e1], by simp [upd, e2], by simp [upd, e21], by simp [upd, e22], by simp [upd]; exact step64 (by unfold mx; omega) h, c' + 1 + 1, ?_, ?_⟩
      · rw [hst]; simp [keepS, q1, upd]
      · rw [hst]; simp [keepS, q1]
  · have h1' : i = s.list.length := by omega
    subst h1'
    exact fin_all ⟨.mk t _, rfl, by rw [flat_wood], by simp [sweepS, h1, h2]⟩
theorem spec_sweep {s : SL TSession} {now age : Int} (hn : s.list.length ≤ 1048576) : Tr Try.prog 28 [s.av 4 TSession.enc, .int .i64 now, .int .i64 age] fun _ r => ∃ x : SL TSession, r = x.av 4 TSession.enc ∧ x.list = sweepS now age s.list := flat_tr TSession.flat (spec_sweepO hn)
theorem impl_sweep {s : SL TSession} {now age : Int} (hn : s.list.length ≤ 1048576) : Tr Try.prog 29 [s.av 4 TSession.enc, .int .i64 now, .int .i64 age] fun _ r => ∃ x : SL TSession, r = x.av 4 TSession.enc ∧ x.list = sweepS now age s.list := flat_tr TSession.flat (impl_sweepO hn)
theorem len_sweep {now age : Int} (l : List TSession) : (sweepS now age l).length ≤ l.length := by
  unfold sweepS
  split
  · exact List.length_filter_le _ _
  · exact Nat.le_refl _
theorem szL_filter {α : Type} (sz : α → Nat) (p : α → Bool) (l : List α) : szL sz (l.filter p) ≤ szL sz l := by
  induction l with
  | nil => simp
  | cons x l ih =>
    by_cases h : p x = true <;> simp [h, szL] at ih ⊢ <;> omega
theorem size_sweep {now age : Int} (l : List TSession) : (sweepS now age l).length + szL TSession.sz (sweepS now age l) ≤ l.length + szL TSession.sz l := by
  have h := len_sweep (now := now) (age := age) l
  unfold sweepS at h ⊢
  split
  · have := szL_filter TSession.sz (keepS now age) l
    rw [if_pos (by assumption)] at h
    omega
  · exact Nat.le_refl _
end A
end Go.Proofs.Ytgiiipbpadgcgaa

/-
  FindSession of the reference and of the program are the same plain function of the list and the name. No condition.
-/


namespace Go.Proofs.Ytgiiipbpadgcgaa
namespace A
set_option linter.unusedVariables false
set_option linter.unusedSimpArgs false
set_option maxRecDepth 100000

def findS (id : List UInt8) : List TSession → Nat → Int
  | [], _ => -1
  | x :: l, i => if x.Id = id then i else findS id l (i + 1)

theorem findS_hit {id : List UInt8} {l : List TSession} {i : Nat} (h : i < l.length) (e : l[i].Id = id) : findS id (l.drop i) i = i := by
  rw [List.drop_eq_getElem_cons h]; simp [findS, e]
theorem findS_miss {id : List UInt8} {l : List TSession} {i : Nat} (h : i < l.length) (e : l[i].Id ≠ id) : findS id (l.drop i) i = findS id (l.drop (i + 1)) (i + 1) := by
  rw [List.drop_eq_getElem_cons h]; simp [findS, e]
theorem findS_con (id : List UInt8) : ∀ (l : List TSession) (i : Nat), findS id (l.map TSession.con) i = findS id l i
  | [], _ => rfl
  | x :: l, i => by
    have : x.con.Id = x.Id := rfl
    simp [findS, this, findS_con id l]

theorem spec_find {s : SL TSession} {id : List UInt8} (hn : s.list.length ≤ mx) : Fnc Try.prog 79 [s.av 4 TSession.enc, .str id] (.int .i64 (findS id s.list 0)) := by
  refine fn_of c79 (by simp [F79]) fun c => ?_
  unfold F79
  simp
  refine loop_drop s.list.length (fun i e H c' => e 0 = s.av 4 TSession.enc ∧ e 1 = .str id ∧ e 5 = .int .i64 i ∧ findS id (s.list.drop i) i = findS id s.list 0 ∧ H = []) ⟨rfl, rfl, rfl, by simp, rfl⟩ ?_
  intro i e H c hi ⟨e0, e1, e5, hall, hH⟩ N hN
  subst hH
  simp [e0, e1, e5]
  refine ⟨fun h => ⟨s.list[i], List.getElem?_eq_getElem h, ?_⟩, fun h => ?_⟩
  · simp [e0, e1, e5]
    by_cases hq : s.list[i].Id = id
    · simp [e0, e1, e5, hq]
      exact fin_plain ⟨by rw [← hall, findS_hit h hq], rfl⟩
    · simp [e0, e1, e5, hq]
      exact hN _ _ _ _ h (List.nil_sublist _) ⟨by simp [upd, e0], by simp [upd, e1], by simp [upd]; exact step64 hn h, by rw [← hall, findS_miss h hq], rfl⟩
  · refine fin_plain ⟨?_, rfl⟩
    have h1 : i = s.list.length := by omega
    rw [h1, List.drop_length] at hall
    rw [← hall]; rfl

theorem pred_fn (x : TSession) (id : List UInt8) : Fnc Try.prog 107 [.agg x.enc, .cpt [.str id] 0] (.bool (decide (x.Id = id))) := by
  refine fn_of c107 (by simp [F107]) fun c => ?_
  unfold F107
  simp
  exact fin_plain ⟨rfl, rfl⟩

theorem index_con {s : SL TSession} {id : List UInt8} (hn : s.list.length ≤ mx) (t c : Nat) :
    Con Try.prog 106 [s.av 4 TSession.enc, .fn 107 [.ptr 0 t 1 0 0]] [⟨false, t, 1, [[.str id]]⟩] c fun r H' _ => r = .int .i64 (findS id s.list 0) ∧ H' = [⟨false, t, 1, [[.str id]]⟩] := by
  refine con_of c106 (by simp [F106]) ?_
  unfold F106
  simp
  refine loop_drop s.list.length (fun i e H c' => e 0 = s.av 4 TSession.enc ∧ e 1 = .fn 107 [.ptr 0 t 1 0 0] ∧ e 7 = .int .i64 s.list.length ∧ e 8 = .int .i64 i ∧ findS id (s.list.drop i) i = findS id s.list 0 ∧ H = [⟨false, t, 1, [[.str id]]⟩]) ⟨rfl, rfl, rfl, rfl, by simp, rfl⟩ ?_
  intro i e H c hi ⟨e0, e1, e7, e8, hall, hH⟩ N hN
  subst hH
  simp [e0, e1, e7, e8]
  refine ⟨fun h => ⟨s.list[i], List.getElem?_eq_getElem h, ?_⟩, fun h => ?_⟩
  · simp [e0, e1, e7, e8]
    refine ⟨by kernel_rfl, call_fn (pred_fn s.list[i] id) (.cons (.refl _) (.cons (view_ptr (rows := [[.str id]]) (by simp) rfl (by simp)) .nil)) .bool fun _ _ => ?_⟩
    by_cases hq : s.list[i].Id = id
    · simp [e0, e1, e7, e8, hq]
      exact fin_all ⟨by rw [← hall, findS_hit h hq], rfl⟩
    · simp [e0, e1, e7, e8, hq]
      exact hN _ _ _ _ h (List.Sublist.refl _) ⟨by simp [upd, e0], by simp [upd, e1], by simp [upd, e7], by simp [upd]; exact step64 hn h, by rw [← hall, findS_miss h hq], rfl⟩
  · refine fin_all ⟨?_, rfl⟩
    have h1 : i = s.list.length := by omega
    rw [h1, List.drop_length] at hall
    rw [← hall]; rfl

theorem impl_find {s : SL TSession} {id : List UInt8} (hn : s.list.length ≤ mx) : Fnc Try.prog 58 [s.av 4 TSession.enc, .str id] (.int .i64 (findS id s.list 0)) := by
  refine fn_of c58 (by simp [F58]) fun c => ?_
  unfold F58
  simp
  refine call_con (index_con hn c _) fun r H' c' hc hq _ _ => ?_
  obtain ⟨rfl, rfl⟩ := hq
  refine ⟨.int, ?_, ?_⟩
  · intro o ho
    simp at ho; subst ho
    exact avRows_of fun row hr a ha => by simp at hr; subst hr; simp at ha; subst ha; exact .str
  · simp
    exact fin_plain ⟨rfl, rfl⟩

end A
end Go.Proofs.Ytgiiipbpadgcgaa

/-
  SaveSession of the reference and of the program are the same plain function. No condition.
-/


namespace Go.Proofs.Ytgiiipbpadgcgaa
namespace A
set_option linter.unusedVariables false
set_option linter.unusedSimpArgs false
set_option maxRecDepth 100000

theorem findS_range (id : List UInt8) : ∀ (l : List TSession) (i : Nat), findS id l i = -1 ∨ (i ≤ findS id l i ∧ findS id l i < i + l.length)
  | [], i => .inl rfl
  | x :: l, i => by
    unfold findS
    split
    · right; simp; omega
    · rcases findS_range id l (i + 1) with h | h
      · exact .inl h
      · right; simp; omega
theorem findS_nat {id : List UInt8} {l : List TSession} (h : 0 ≤ findS id l 0) : ∃ k : Nat, findS id l 0 = k ∧ k < l.length := by
  rcases findS_range id l 0 with h1 | h1
  · omega
  · exact ⟨(findS id l 0).toNat, by omega, by omega⟩

/-- Whether it is saved. -/
def savesS (id : List UInt8) (who : Int) (data : List UInt8) (now : Int) (l : List TSession) : Bool :=
  match findS id l 0 with
  | .ofNat k => (match l[k]? with | some x => decide (1 ≤ who) && decide (x.Holder = who) && decide (data.length ≤ 2000) && inR now 0 1000000000000 | none => false)
  | _ => false
def saveS (id : List UInt8) (who : Int) (data : List UInt8) (now : Int) (l : List TSession) : List TSession := if savesS id who data now l then l.set (findS id l 0).toNat ⟨id, data, 0, now⟩ else l

theorem savesS_at {id : List UInt8} {who : Int} {data : List UInt8} {now : Int} {l : List TSession} {k : Nat} (hk : findS id l 0 = k) (h : k < l.length) :
    savesS id who data now l = (decide (1 ≤ who) && decide (l[k].Holder = who) && decide (data.length ≤ 2000) && inR now 0 1000000000000) := by
  unfold savesS; rw [hk]; simp [h]
theorem savesS_no {id : List UInt8} {who : Int} {data : List UInt8} {now : Int} {l : List TSession} (h : findS id l 0 < 0) : savesS id who data now l = false := by
  unfold savesS
  have : findS id l 0 = -1 := by rcases findS_range id l 0 with h1 | h1 <;> omega
  rw [this]; rfl

theorem spec_saveO {s : SL TSession} {id data : List UInt8} {who now : Int} (hn : s.list.length ≤ 1048576) (c : Nat) :
    Con Try.prog 39 [s.av 4 TSession.enc, .str id, .int .i64 who, .str data, .int .i64 now] [] c fun r O _ => ∃ (x : SL TSession) (l : List AV), r = .tup (x.ref 4 :: l) ∧ O = x.wood 4 TSession.enc noInn ∧ x.list = saveS id who data now s.list ∧ l = [.bool (savesS id who data now s.list)] := by
  refine con_of c39 (by simp [F39]) ?_
  unfold F39
  simp
  refine ⟨by omega, by unfold mx; omega, ?_⟩
  refine call_fn0 (spec_find (by unfold mx; omega)) .int fun _ _ => ?_
  have bad : ∀ c', savesS id who data now s.list = false → finW (fun r O _ => ∃ (x : SL TSession) (l : List AV), r = .tup (x.ref 4 :: l) ∧ O = x.wood 4 TSession.enc noInn ∧ x.list = saveS id who data now s.list ∧ l = [.bool (savesS id who data now s.list)])
      (.tup [.ref 0 (c + 1) 4 s.list.length, .bool false]) [⟨false, c + 1, 4, s.list.map TSession.enc⟩] c' := fun c' hb => fin_all ⟨.mk (c + 1) s.list, [.bool false], rfl, by simp [flat_wood], by simp [saveS, hb], by rw [hb]⟩
  by_cases h0 : findS id s.list 0 < 0
  · simp [h0]
    exact bad _ (savesS_no h0)
  simp [h0]
  obtain ⟨k, hk, hkl⟩ := findS_nat (id := id) (l := s.list) (by omega)
  have hs := savesS_at (who := who) (data := data) (now := now) hk hkl
  have hg : s.list[k]? = some s.list[k] := List.getElem?_eq_getElem hkl
  by_cases h1 : who < 1
  · simp [h0, h1, hk]
    exact bad _ (by rw [hs]; simp; omega)
  simp [h0, h1, hk]
  refine ⟨_, hg, ?_⟩
  by_cases h2 : s.list[k].Holder = who
  rotate_left
  · simp [h0, h1, hk, h2]
    exact bad _ (by rw [hs]; simp [h2])
  simp [h0, h1, hk, h2]
  by_cases h3 : (2000 : Int) < data.length
  · simp [h0, h1, hk, h2, h3]
    exact bad _ (by rw [hs]; simp [h2]; intros; omega)
  simp [h0, h1, hk, h2, h3]
  refine call_fn0 (l1In_fn _ _ _) .bool fun _ _ => ?_
  cases h4 : inR now 0 1000000000000
  · simp [h0, h1, hk, h2, h3]
    exact bad _ (by rw [hs]; simp [h4])
  have hgood : savesS id who data now s.list = true := by rw [hs]; simp [h2, h4]; omega
  simp [h0, h1, hk, h2, h3, putA, hkl]
  refine ⟨_, hg, ?_⟩
  simp
  exact fin_all ⟨.mk (c + 1) (saveS id who data now s.list), [.bool true], by simp [SL.ref, saveS, hgood], by simp [flat_wood, saveS, hgood, hk, List.map_set, TSession.enc], rfl, by rw [hgood]⟩
theorem impl_saveO {s : SL TSession} {id data : List UInt8} {who now : Int} (hn : s.list.length ≤ 1048576) (c : Nat) :
    Con Try.prog 40 [s.av 4 TSession.enc, .str id, .int .i64 who, .str data, .int .i64 now] [] c fun r O _ => ∃ (x : SL TSession) (l : List AV), r = .tup (x.ref 4 :: l) ∧ O = x.wood 4 TSession.enc noInn ∧ x.list = saveS id who data now s.list ∧ l = [.bool (savesS id who data now s.list)] := by
  refine con_of c40 (by simp [F40]) ?_
  unfold F40
  simp
  refine call_new (cloneSO hn _) (Views.refl _ _) fun r O c1 hc ⟨x, hr, hO, hx⟩ _ _ => ?_
  subst hr
  refine ⟨_, .refl _, free_ref _ _ _, fun o ho => by subst hO; exact flat_free TSession.flat _ _ o ho _, ?_⟩
  simp
  refine call_fn (impl_find (by unfold mx; omega)) (Views.refl _ _) .int fun _ _ => ?_
  have bad : ∀ c', savesS id who data now s.list = false → finW (fun r O _ => ∃ (x : SL TSession) (l : List AV), r = .tup (x.ref 4 :: l) ∧ O = x.wood 4 TSession.enc noInn ∧ x.list = saveS id who data now s.list ∧ l = [.bool (savesS id who data now s.list)])
      (.tup [x.ref 4, .bool false]) O c' := fun c' hb => fin_all ⟨x, [.bool false], rfl, hO, by simp [saveS, hb, hx], by rw [hb]⟩
  by_cases h0 : findS id s.list 0 < 0
  · simp [h0]
    exact bad _ (savesS_no h0)
  simp [h0]
  obtain ⟨k, hk, hkl⟩ := findS_nat (id := id) (l := s.list) (by omega)
  have hs := savesS_at (who := who) (data := data) (now := now) hk hkl
  have hg : s.list[k]? = some s.list[k] := List.getElem?_eq_getElem hkl
  by_cases h1 : who < 1
  · simp [h0, h1, hk]
    exact bad _ (by rw [hs]; simp; omega)
  simp [h0, h1, hk]
  refine ⟨_, hg, ?_⟩
  by_cases h2 : s.list[k].Holder = who
  rotate_left
  · simp [h0, h1, hk, h2]
    exact bad _ (by rw [hs]; simp [h2])
  simp [h0, h1, hk, h2]
  by_cases h3 : (2000 : Int) < data.length
  · simp [h0, h1, hk, h2, h3]
    exact bad _ (by rw [hs]; simp [h2]; intros; omega)
  simp [h0, h1, hk, h2, h3]
  refine call_fn0 (inRange_fn _ _ _) .bool fun _ _ => ?_
  cases h4 : inR now 0 1000000000000
  · simp [h0, h1, hk, h2, h3]
    exact bad _ (by rw [hs]; simp [h4])
  have hgood : savesS id who data now s.list = true := by rw [hs]; simp [h2, h4]; omega
  cases x with
  | nil => rw [← hx] at hkl; simp at hkl
  | mk t l =>
    simp only [SL.list_mk] at hx
    subst hx
    rw [flat_wood] at hO
    subst hO
    simp [h0, h1, hk, h2, h3, putA, hkl, SL.ref]
    refine ⟨_, hg, ?_⟩
    simp
    exact fin_all ⟨.mk t (saveS id who data now s.list), [.bool true], by simp [SL.ref, saveS, hgood], by simp [flat_wood, saveS, hgood, hk, List.map_set, TSession.enc], rfl, by rw [hgood]⟩
theorem spec_save {s : SL TSession} {id data : List UInt8} {who now : Int} (hn : s.list.length ≤ 1048576) : Tr Try.prog 39 [s.av 4 TSession.enc, .str id, .int .i64 who, .str data, .int .i64 now] fun _ r => ∃ (x : SL TSession) (l : List AV), r = .tup (x.av 4 TSession.enc :: l) ∧ x.list = saveS id who data now s.list ∧ l = [.bool (savesS id who data now s.list)] :=
  flat_tr2 TSession.flat (Q := fun x l => x.list = saveS id who data now s.list ∧ l = [.bool (savesS id who data now s.list)]) (fun x l h a ha => by rw [h.2] at ha; simp at ha; subst ha; exact free_bool _) (spec_saveO hn)
theorem impl_save {s : SL TSession} {id data : List UInt8} {who now : Int} (hn : s.list.length ≤ 1048576) : Tr Try.prog 40 [s.av 4 TSession.enc, .str id, .int .i64 who, .str data, .int .i64 now] fun _ r => ∃ (x : SL TSession) (l : List AV), r = .tup (x.av 4 TSession.enc :: l) ∧ x.list = saveS id who data now s.list ∧ l = [.bool (savesS id who data now s.list)] :=
  flat_tr2 TSession.flat (Q := fun x l => x.list = saveS id who data now s.list ∧ l = [.bool (savesS id who data now s.list)]) (fun x l h a ha => by rw [h.2] at ha; simp at ha; subst ha; exact free_bool _) (impl_saveO hn)
theorem len_save {id data : List UInt8} {who now : Int} (l : List TSession) : (saveS id who data now l).length = l.length := by
  unfold saveS; split <;> simp
theorem szL_set {α : Type} (sz : α → Nat) (x : α) : ∀ (l : List α) (i : Nat), szL sz (l.set i x) ≤ szL sz l + sz x
  | [], i => by simp [szL]
  | y :: l, 0 => by simp [szL]; omega
  | y :: l, i + 1 => by
    have := szL_set sz x l i
    simp [szL] at this ⊢; omega
theorem findS_id {id : List UInt8} : ∀ {l : List TSession} {i k : Nat} (h : findS id l i = (i + k : Nat)) (hk : k < l.length), l[k].Id = id
  | [], i, k, h, hk => by simp at hk
  | x :: l, i, k, h, hk => by
    unfold findS at h
    split at h
    · have : k = 0 := by omega
      subst this
      simpa
    · cases k with
      | zero => rcases findS_range id l (i + 1) with h1 | h1 <;> omega
      | succ k => exact findS_id (l := l) (i := i + 1) (k := k) (by rw [h]; omega) (by simpa using hk)
theorem size_save {id data : List UInt8} {who now : Int} (l : List TSession) : (saveS id who data now l).length + szL TSession.sz (saveS id who data now l) ≤ l.length + (2 * szL TSession.sz l + 2000) := by
  rw [len_save]
  unfold saveS
  split
  · rename_i h
    have h0 : 0 ≤ findS id l 0 := by
      rcases Int.lt_or_le (findS id l 0) 0 with h1 | h1
      · rw [savesS_no h1] at h; cases h
      · exact h1
    obtain ⟨k, hk, hkl⟩ := findS_nat h0
    rw [savesS_at hk hkl] at h
    simp at h
    have hid := findS_id (l := l) (i := 0) (k := k) (by rw [hk]; simp) hkl
    have h1 := szL_set TSession.sz ⟨id, data, 0, now⟩ l (findS id l 0).toNat
    have h2 := szL_mem (sz := TSession.sz) (List.getElem_mem hkl)
    have h3 : TSession.sz l[k] = id.length + (l[k].Data).length := by rw [← hid]; rfl
    have h4 : TSession.sz ⟨id, data, 0, now⟩ = id.length + data.length := rfl
    omega
  · omega
end A
end Go.Proofs.Ytgiiipbpadgcgaa
