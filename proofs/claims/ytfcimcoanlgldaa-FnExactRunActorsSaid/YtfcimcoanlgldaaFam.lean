/-
  The families of helpers over slices (sizes, copies, comparisons): each once, for every element. No condition.
-/
import Derived.Test.YtfcimcoanlgldaaTyped
namespace Go.Proofs.Ytfcimcoanlgldaa
namespace A
set_option linter.unusedVariables false
set_option linter.unusedSimpArgs false

/-- rows made so far, and the blank ones -/
def grow {α : Type} (f : α → List AV) (z : List AV) (n : Nat) (ys : List α) : List (List AV) := ys.map f ++ List.replicate (n - ys.length) z
theorem grow_nil {α : Type} (f : α → List AV) (z : List AV) (n : Nat) : grow f z n [] = List.replicate n z := by simp [grow]
theorem grow_all {α : Type} (f : α → List AV) (z : List AV) {n : Nat} {ys : List α} (h : ys.length = n) : grow f z n ys = ys.map f := by simp [grow, h]
theorem grow_len {α : Type} (f : α → List AV) (z : List AV) {n : Nat} {ys : List α} (h : ys.length ≤ n) : (grow f z n ys).length = n := by simp [grow]; omega
theorem grow_get {α : Type} (f : α → List AV) (z : List AV) {n i : Nat} {ys : List α} (hi : ys.length = i) (h : i < n) : (grow f z n ys)[i]? = some z := by
  unfold grow
  rw [List.getElem?_append_right (by simp; omega), List.length_map, hi, Nat.sub_self, List.getElem?_replicate, if_pos (by omega)]
theorem grow_set {α : Type} (f : α → List AV) (z : List AV) {n i : Nat} {ys : List α} (hi : ys.length = i) (h : i < n) (y : α) : (grow f z n ys).set i (f y) = grow f z n (ys ++ [y]) := by
  unfold grow
  have e : n - ys.length = (n - (i + 1)) + 1 := by omega
  rw [e, List.replicate_succ, List.set_append_right _ _ (by simp; omega), List.length_map, hi, Nat.sub_self, List.set_cons_zero]
  simp [hi]

theorem from_agg_mem {c : Nat} {l : List AV} (h : From c (.agg l)) : ∀ a, a ∈ l → From c a := fun a ha T hT => by
  have := h T hT
  cases this with
  | agg h => obtain ⟨j, hj, e⟩ := List.mem_iff_getElem.1 ha; exact h j a (by rw [← e]; exact List.getElem?_eq_getElem hj)

theorem take_len {α : Type} (l : List α) {w : Nat} (h : l.length = w) : l.take w = l := by rw [List.take_of_length_le (by omega)]
/-- A copy of a slice, element by element, by a function. -/
def toSF (w : Nat) (z : List AV) (bytes g : Nat) : Fun := ⟨23,
  .seq (.reg [o 2 (.mv (.c .nsl))])
  (.seq (.reg [o 5 (.mv (.t 0)), o 6 (.lenL (.t 5)), o 7 (.mkslice w z bytes (.t 6) (.t 6)), o 3 (.mv (.t 7))])
  (.seq (.seq (.reg [o 4 (.mv (.c (.int .i64 0)))])
  (.block 0 (.loop (.seq (.seq (.reg [o 8 (.mv (.t 4)), o 9 (.mv (.t 0)), o 10 (.lenL (.t 9)), o 11 (.bin .lss (.t 8) (.t 10))])
    (.cond (.t 11) (.skip) (.exit 0)))
    (.seq (.block 1 (.reg [o 14 (.mv (.t 3)), o 15 (.mv (.t 4)), o 16 (.mv (.t 0)), o 17 (.mv (.t 4)), o 18 (.iaddr w (.t 16) (.t 17)), o 19 (.load (some w) (.t 18)), o 20 (.call g [(.t 19)]), o 21 (.iaddr w (.t 14) (.t 15)), st (.store w (.t 21) (.t 20))]))
    (.reg [o 12 (.mv (.t 4)), o 13 (.bin .add (.t 12) (.c (.int .i64 1))), o 4 (.mv (.t 13))]))))))
  (.seq (.reg [o 22 (.mv (.t 3)), o 2 (.mv (.t 22))])
  (.ret)))),
  [.tmp 2]⟩

/-- The same, of plain elements. -/
def toPF (z : AV) (bytes : Nat) : Fun := ⟨22,
  .seq (.reg [o 2 (.mv (.c .nsl))])
  (.seq (.reg [o 5 (.mv (.t 0)), o 6 (.lenL (.t 5)), o 7 (.mkslice 1 [z] bytes (.t 6) (.t 6)), o 3 (.mv (.t 7))])
  (.seq (.seq (.reg [o 4 (.mv (.c (.int .i64 0)))])
  (.block 0 (.loop (.seq (.seq (.reg [o 8 (.mv (.t 4)), o 9 (.mv (.t 0)), o 10 (.lenL (.t 9)), o 11 (.bin .lss (.t 8) (.t 10))])
    (.cond (.t 11) (.skip) (.exit 0)))
    (.seq (.block 1 (.reg [o 14 (.mv (.t 3)), o 15 (.mv (.t 4)), o 16 (.mv (.t 0)), o 17 (.mv (.t 4)), o 18 (.iaddr 1 (.t 16) (.t 17)), o 19 (.load none (.t 18)), o 20 (.iaddr 1 (.t 14) (.t 15)), st (.store 1 (.t 20) (.t 19))]))
    (.reg [o 12 (.mv (.t 4)), o 13 (.bin .add (.t 12) (.c (.int .i64 1))), o 4 (.mv (.t 13))]))))))
  (.seq (.reg [o 21 (.mv (.t 3)), o 2 (.mv (.t 21))])
  (.ret)))),
  [.tmp 2]⟩

/-- A slice's size: its elements' and their number. -/
def szSF (w g : Nat) : Fun := ⟨27,
  .seq (.reg [o 4 (.mv (.c (.int .i64 0)))])
  (.seq (.reg [o 6 (.mv (.t 1)), o 7 (.mv (.t 0)), o 8 (.lenL (.t 7)), o 9 (.bin .sub (.t 6) (.t 8)), o 1 (.mv (.t 9))])
  (.seq (.seq (.reg [o 10 (.mv (.t 1)), o 11 (.bin .lss (.t 10) (.c (.int .i64 0)))])
  (.cond (.t 11) (.seq (.reg [o 4 (.mv (.c (.int .i64 (-1))))])
   (.ret)) (.skip)))
  (.seq (.seq (.reg [o 5 (.mv (.c (.int .i64 0)))])
  (.block 0 (.loop (.seq (.seq (.reg [o 12 (.mv (.t 5)), o 13 (.mv (.t 0)), o 14 (.lenL (.t 13)), o 15 (.bin .lss (.t 12) (.t 14))])
    (.cond (.t 15) (.skip) (.exit 0)))
    (.seq (.block 1 (.seq (.reg [o 18 (.mv (.t 0)), o 19 (.mv (.t 5)), o 20 (.iaddr w (.t 18) (.t 19)), o 21 (.load (some w) (.t 20)), o 22 (.mv (.t 1)), o 23 (.call g [(.t 21), (.t 22)]), o 1 (.mv (.t 23))])
     (.seq (.reg [o 24 (.mv (.t 1)), o 25 (.bin .lss (.t 24) (.c (.int .i64 0)))])
     (.cond (.t 25) (.seq (.reg [o 4 (.mv (.c (.int .i64 (-1))))])
      (.ret)) (.skip)))))
    (.reg [o 16 (.mv (.t 5)), o 17 (.bin .add (.t 16) (.c (.int .i64 1))), o 5 (.mv (.t 17))]))))))
  (.seq (.reg [o 26 (.mv (.t 1)), o 4 (.mv (.t 26))])
  (.ret))))),
  [.tmp 4]⟩

/-- Two slices, compared by a function. -/
def eqSF (w g : Nat) : Fun := ⟨27,
  .seq (.reg [o 4 (.mv (.c (.bool false)))])
  (.seq (.seq (.reg [o 6 (.mv (.t 0)), o 7 (.lenL (.t 6)), o 8 (.mv (.t 1)), o 9 (.lenL (.t 8)), o 10 (.bin .neq (.t 7) (.t 9))])
  (.cond (.t 10) (.seq (.reg [o 4 (.mv (.c (.bool false)))])
   (.ret)) (.skip)))
  (.seq (.seq (.reg [o 5 (.mv (.c (.int .i64 0)))])
  (.block 0 (.loop (.seq (.seq (.reg [o 11 (.mv (.t 5)), o 12 (.mv (.t 0)), o 13 (.lenL (.t 12)), o 14 (.bin .lss (.t 11) (.t 13))])
    (.cond (.t 14) (.skip) (.exit 0)))
    (.seq (.block 1 (.seq (.reg [o 17 (.mv (.t 0)), o 18 (.mv (.t 5)), o 19 (.iaddr w (.t 17) (.t 18)), o 20 (.load (some w) (.t 19)), o 21 (.mv (.t 1)), o 22 (.mv (.t 5)), o 23 (.iaddr w (.t 21) (.t 22)), o 24 (.load (some w) (.t 23)), o 25 (.callF g [(.t 20), (.t 24)]), o 26 (.un .not (.t 25))])
     (.cond (.t 26) (.seq (.reg [o 4 (.mv (.c (.bool false)))])
      (.ret)) (.skip))))
    (.reg [o 15 (.mv (.t 5)), o 16 (.bin .add (.t 15) (.c (.int .i64 1))), o 5 (.mv (.t 16))]))))))
  (.seq (.reg [o 4 (.mv (.c (.bool true)))])
  (.ret)))),
  [.tmp 4]⟩

def eqPF : Fun := ⟨26,
  .seq (.reg [o 4 (.mv (.c (.bool false)))])
  (.seq (.seq (.reg [o 6 (.mv (.t 0)), o 7 (.lenL (.t 6)), o 8 (.mv (.t 1)), o 9 (.lenL (.t 8)), o 10 (.bin .neq (.t 7) (.t 9))])
  (.cond (.t 10) (.seq (.reg [o 4 (.mv (.c (.bool false)))])
   (.ret)) (.skip)))
  (.seq (.seq (.reg [o 5 (.mv (.c (.int .i64 0)))])
  (.block 0 (.loop (.seq (.seq (.reg [o 11 (.mv (.t 5)), o 12 (.mv (.t 0)), o 13 (.lenL (.t 12)), o 14 (.bin .lss (.t 11) (.t 13))])
    (.cond (.t 14) (.skip) (.exit 0)))
    (.seq (.block 1 (.seq (.reg [o 17 (.mv (.t 0)), o 18 (.mv (.t 5)), o 19 (.iaddr 1 (.t 17) (.t 18)), o 20 (.load none (.t 19)), o 21 (.mv (.t 1)), o 22 (.mv (.t 5)), o 23 (.iaddr 1 (.t 21) (.t 22)), o 24 (.load none (.t 23)), o 25 (.bin .neq (.t 20) (.t 24))])
     (.cond (.t 25) (.seq (.reg [o 4 (.mv (.c (.bool false)))])
      (.ret)) (.skip))))
    (.reg [o 15 (.mv (.t 5)), o 16 (.bin .add (.t 15) (.c (.int .i64 1))), o 5 (.mv (.t 16))]))))))
  (.seq (.reg [o 4 (.mv (.c (.bool true)))])
  (.ret)))),
  [.tmp 4]⟩

section
variable {P : Program} {α : Type} {enc : α → List AV} {con : α → α} {w : Nat} {f g : Nat}

theorem toS_fn {z : List AV} {bytes : Nat} (hf : compF P f = some (toSF w z bytes g)) (hz : z.length = w) (hw : ∀ x, (enc x).length = w) (hcell : ∀ x a, a ∈ enc x → a.cell = true) {s : SL α} (hn : s.list.length * bytes ≤ 281474976710656) (hn' : s.list.length ≤ 281474976710656)
    (hg : ∀ x, x ∈ s.list → Tr P g [.agg (enc x)] fun _ r => ∃ b, r = .agg (enc b) ∧ con b = con x) :
    Tr P f [s.av w enc] fun _ r => ∃ b : SL α, r = b.av w enc ∧ b.list.map con = s.list.map con := by
  intro c
  refine con_of hf (by simp [toSF]) ?_
  unfold toSF
  simp
  refine ⟨by omega, by omega, loop_nat s.list.length (fun i e H c' => c ≤ c' ∧ e 0 = s.av w enc ∧ e 3 = .ref 0 c w s.list.length ∧ e 4 = .int .i64 i ∧ ∃ ys : List α, ys.length = i ∧ ys.map con = (s.list.take i).map con ∧ (∀ y ∈ ys, From c (.agg (enc y))) ∧ H = [⟨false, c, w, grow enc z s.list.length ys⟩])
    ⟨by omega, rfl, rfl, rfl, [], rfl, rfl, by simp, by rw [grow_nil]⟩ ?_⟩
  intro i e H c' hi ⟨hc, e0, e3, e4, ys, hy, hcon, hfr, hH⟩ N hN
  subst hH
  simp [e0, e3, e4]
  refine ⟨fun h => ⟨s.list[i], List.getElem?_eq_getElem h, ?_⟩, fun h => ?_⟩
  · simp [hw, take_len, e0, e3, e4]
    refine call_tree0 (hg _ (List.getElem_mem h)) fun r c'' hc' ⟨b, hr, hb⟩ hf => ?_
    subst hr
    simp [h, hw, e0, e3, e4]
    refine ⟨_, grow_get _ _ hy h, hN _ _ _ h ⟨by omega, by simp [upd, e0], by simp [upd, e3], by simp [upd]; exact step64 (by unfold mx; omega) h, ys ++ [b], by simp [hy], ?_, ?_, ?_⟩⟩
    · rw [List.take_succ_eq_append_getElem h, List.map_append, List.map_append, hcon]; simp [hb]
    · intro y hym
      rcases List.mem_append.1 hym with h1 | h1
      · exact hfr y h1
      · simp at h1; subst h1; exact hf.mono hc
    · rw [putA_all (by rw [hw, hz]), grow_set _ _ hy h]
  · have : i = s.list.length := by omega
    subst this
    rw [grow_all _ _ hy]
    refine fin_slc (by simp) (by simpa using hy) (by simp; exact fun x _ a ha => hcell x a ha) ⟨rfl, ⟨.mk c ys, rfl, by simpa using hcon⟩, from_slc (Nat.le_refl _) ?_⟩
    simp [e0, e3, e4]
    exact fun y hym a ha => from_agg_mem (hfr y hym) a ha

theorem szS_fn (hf : compF P f = some (szSF w g)) (hw : ∀ x, (enc x).length = w) {sz : α → Nat} {s : SL α} (hn : s.list.length ≤ mx) {left : Int} (hl : Room left)
    (hg : ∀ x, x ∈ s.list → ∀ left, Room left → Fnc P g [.agg (enc x), .int .i64 left] (.int .i64 (szOf (sz x) left))) :
    Fnc P f [s.av w enc, .int .i64 left] (.int .i64 (szOf (s.list.length + szL sz s.list) left)) := by
  refine fn_of hf (by simp [szSF]) fun c => ?_
  unfold szSF
  simp [szOf_wrap hn hl]
  constructor
  · intro h; exact fin_plain (by simp; unfold szOf; split <;> omega)
  · intro h
    refine loop_nat s.list.length (fun i e H c => e 0 = s.av w enc ∧ e 5 = .int .i64 i ∧ e 1 = .int .i64 (left - s.list.length - szL sz (s.list.take i)) ∧ 0 ≤ left - s.list.length - szL sz (s.list.take i) ∧ H = []) ⟨rfl, rfl, by simp [szL], by simpa [szL] using h, rfl⟩ ?_
    intro i e H c hi ⟨e0, e5, e1, hp, hH⟩ N hN
    subst hH
    simp [e0, e5, e1]
    refine ⟨fun h => ⟨s.list[i], List.getElem?_eq_getElem h, ?_⟩, fun h => ?_⟩
    · have hr : Room (left - s.list.length - szL sz (s.list.take i)) := ⟨by omega, by have := hl.2; omega⟩
      have hst : szL sz (s.list.take (i + 1)) = szL sz (s.list.take i) + sz s.list[i] := szL_step _ _ h
      have hle := szL_le sz s.list (i + 1)
      simp [hw, take_len, e0, e5, e1]
      refine call_fn0 (hg _ (List.getElem_mem h) _ hr) .int fun c' _ => ?_
      simp [e0, e5, e1]
      unfold szOf
      split
      · refine ⟨fun h' => by omega, fun h' => hN _ _ _ h ⟨by simp [upd, e0], ?_, by simp [upd]; omega, by omega, rfl⟩⟩
        simp [upd]; exact step64 hn h
      · refine ⟨fun h' => fin_plain (by rw [if_neg (by omega)]; exact ⟨rfl, rfl⟩), fun h' => by omega⟩
    · have : i = s.list.length := by omega
      subst this
      refine fin_plain ⟨?_, rfl⟩
      rw [List.take_length] at hp ⊢
      unfold szOf
      rw [if_pos (by push_cast; omega)]
      congr 1
      push_cast; omega

theorem eqS_fn (hf : compF P f = some (eqSF w g)) (hw : ∀ x, (enc x).length = w) {s t : SL α} (hn : s.list.length ≤ mx) (he : s.list.map con = t.list.map con)
    (hg : ∀ x, x ∈ s.list → ∀ y, con x = con y → Fnc P g [.agg (enc x), .agg (enc y)] (.bool true)) : Fnc P f [s.av w enc, t.av w enc] (.bool true) := by
  have hlen : s.list.length = t.list.length := by have := congrArg List.length he; simpa using this
  refine fn_of hf (by simp [eqSF]) fun c => ?_
  unfold eqSF
  simp [hlen]
  refine loop_nat s.list.length (fun i e H c => e 0 = s.av w enc ∧ e 1 = t.av w enc ∧ e 5 = .int .i64 i ∧ H = []) ⟨rfl, rfl, rfl, rfl⟩ ?_
  intro i e H c hi ⟨e0, e1, e5, hH⟩ N hN
  subst hH
  simp [e0, e1, e5]
  refine ⟨fun h => ⟨s.list[i], List.getElem?_eq_getElem h, ?_⟩, fun h => fin_plain ⟨rfl, rfl⟩⟩
  have ht : i < t.list.length := by omega
  have hc : con s.list[i] = con t.list[i] := by
    have h1 : (s.list.map con)[i]? = (t.list.map con)[i]? := by rw [he]
    simpa [h, ht] using h1
  simp [hw, take_len, e0, e1, e5]
  refine ⟨t.list[i], List.getElem?_eq_getElem ht, ?_⟩
  simp [hw, take_len, e0, e1, e5]
  refine callF_fn0 (hg _ (List.getElem_mem h) _ hc) .bool fun c' _ => ?_
  simp [e0, e1, e5]
  exact hN _ _ _ h ⟨by simp [upd, e0], by simp [upd, e1], by simp [upd]; exact step64 hn h, rfl⟩

theorem toP_fn {v : α → AV} {z : AV} {bytes : Nat} (hf : compF P f = some (toPF z bytes)) (hc : ∀ x, (v x).cell = true) (hfr : ∀ x c, From c (v x)) (hv : ∀ x (K : List AV → Prop), cellsW (v x) K = K [v x]) {s : SL α} (hn : s.list.length * bytes ≤ 281474976710656) (hn' : s.list.length ≤ 281474976710656) :
    Tr P f [s.av 1 fun x => [v x]] fun _ r => ∃ t, r = (SL.mk t s.list).av 1 fun x => [v x] := by
  intro c
  refine con_of hf (by simp [toPF]) ?_
  unfold toPF
  simp
  refine ⟨by omega, by omega, loop_nat s.list.length (fun i e H c' => e 0 = (s.av 1 fun x => [v x]) ∧ e 3 = .ref 0 c 1 s.list.length ∧ e 4 = .int .i64 i ∧ H = [⟨false, c, 1, grow (fun x => [v x]) [z] s.list.length (s.list.take i)⟩]) ⟨rfl, rfl, rfl, by rw [List.take_zero, grow_nil]⟩ ?_⟩
  intro i e H c' hi ⟨e0, e3, e4, hH⟩ N hN
  subst hH
  simp [e0, e3, e4]
  refine ⟨fun h => ⟨s.list[i], List.getElem?_eq_getElem h, ?_⟩, fun h => ?_⟩
  · have hl : (s.list.take i).length = i := by simp; omega
    simp [h, hv, e0, e3, e4]
    refine ⟨_, grow_get _ _ hl h, hN _ _ _ h ⟨by simp [upd, e0], by simp [upd, e3], by simp [upd]; exact step64 (by unfold mx; omega) h, ?_⟩⟩
    rw [List.take_succ_eq_append_getElem h, ← grow_set _ _ hl h]; rfl
  · have : i = s.list.length := by omega
    subst this
    rw [List.take_length, grow_all _ _ rfl]
    refine fin_slc (by simp) (by simp) (by simp; exact fun x _ => hc x) ⟨rfl, ⟨c, rfl⟩, from_slc (Nat.le_refl _) ?_⟩
    simp [e0, e3, e4]
    exact fun x _ => hfr x c

theorem eqP_fn {v : α → AV} (hf : compF P f = some eqPF) (hv : ∀ x (K : AV → Prop), binW .neq (v x) (v x) K = K (.bool false)) {s t : SL α} (hn : s.list.length ≤ mx) (he : s.list = t.list) : Fnc P f [s.av 1 fun x => [v x], t.av 1 fun x => [v x]] (.bool true) := by
  refine fn_of hf (by simp [eqPF]) fun c => ?_
  unfold eqPF
  simp [← he]
  refine loop_nat s.list.length (fun i e H c => e 0 = (s.av 1 fun x => [v x]) ∧ e 1 = (t.av 1 fun x => [v x]) ∧ e 5 = .int .i64 i ∧ H = []) ⟨rfl, rfl, rfl, rfl⟩ ?_
  intro i e H c hi ⟨e0, e1, e5, hH⟩ N hN
  subst hH
  simp [e0, e1, e5]
  refine ⟨fun h => ⟨s.list[i], List.getElem?_eq_getElem h, ?_⟩, fun h => fin_plain ⟨rfl, rfl⟩⟩
  simp [e0, e1, e5]
  refine ⟨s.list[i], by rw [← he]; exact List.getElem?_eq_getElem h, ?_⟩
  simp [hv, e0, e1, e5]
  exact hN _ _ _ h ⟨by simp [upd, e0], by simp [upd, e1], by simp [upd]; exact step64 hn h, rfl⟩

/-- A slice's size, of elements without one. -/
def szPF : Fun := ⟨12,
  .seq (.reg [o 4 (.mv (.c (.int .i64 0)))])
  (.seq (.reg [o 5 (.mv (.t 1)), o 6 (.mv (.t 0)), o 7 (.lenL (.t 6)), o 8 (.bin .sub (.t 5) (.t 7)), o 1 (.mv (.t 8))])
  (.seq (.seq (.reg [o 9 (.mv (.t 1)), o 10 (.bin .lss (.t 9) (.c (.int .i64 0)))])
  (.cond (.t 10) (.seq (.reg [o 4 (.mv (.c (.int .i64 (-1))))])
   (.ret)) (.skip)))
  (.seq (.reg [o 11 (.mv (.t 1)), o 4 (.mv (.t 11))])
  (.ret)))),
  [.tmp 4]⟩
theorem szP_fn (hf : compF P f = some szPF) {s : SL α} (hn : s.list.length ≤ mx) {left : Int} (hl : Room left) : Fnc P f [s.av w enc, .int .i64 left] (.int .i64 (szOf s.list.length left)) := by
  refine fn_of hf (by simp [szPF]) fun c => ?_
  unfold szPF
  simp [szOf_wrap hn hl]
  unfold szOf
  constructor
  · intro h; exact fin_plain (by simp; omega)
  · intro h; exact fin_plain (by simp; omega)

theorem szOf_neg {n : Nat} {left : Int} (h : left < n) : szOf n left = -1 := if_neg (by omega)
theorem szOf_lt {n : Nat} {left : Int} (h : szOf n left < 0) : left < n := by unfold szOf at h; split at h <;> omega
theorem szOf_ge {n : Nat} {left : Int} (h : 0 ≤ szOf n left) : szOf n left = left - n ∧ n ≤ left := by unfold szOf at *; split at h <;> first | (rw [if_pos (by assumption)]; exact ⟨rfl, by assumption⟩) | omega
theorem szL_mem {sz : α → Nat} {l : List α} {x : α} (h : x ∈ l) : sz x ≤ szL sz l := by
  obtain ⟨i, hi, rfl⟩ := List.mem_iff_getElem.1 h
  have h1 := szL_step sz l hi
  have h2 := szL_le sz l (i + 1)
  omega
theorem szL_map {sz : α → Nat} (h : ∀ x, sz (con x) = sz x) (l : List α) : szL sz (l.map con) = szL sz l := by
  unfold szL; rw [List.map_map]; congr 1; exact List.map_congr_left fun x _ => h x

/-! ### shapes -/
theorem sh_int {n : Nat} {t : TypeId} {k : IntKind} (hu : P.underlying t = some (.int k)) {a : AV} (h : ShC P n t [a]) : ∃ i, a = .int k i ∧ IOk k i := by
  cases n with
  | zero => exact h.elim
  | succ n => simp only [ShC, hu] at h; obtain ⟨i, h1, h2⟩ := h; cases h1; exact ⟨i, rfl, h2⟩
theorem sh_bool {n : Nat} {t : TypeId} (hu : P.underlying t = some .bool) {a : AV} (h : ShC P n t [a]) : ∃ b, a = .bool b := by
  cases n with
  | zero => exact h.elim
  | succ n => simp only [ShC, hu] at h; obtain ⟨i, h1⟩ := h; cases h1; exact ⟨i, rfl⟩
theorem sh_str {n : Nat} {t : TypeId} (hu : P.underlying t = some .string) {a : AV} (h : ShC P n t [a]) : ∃ l, a = .str l ∧ l.length ≤ mx := by
  cases n with
  | zero => exact h.elim
  | succ n => simp only [ShC, hu] at h; obtain ⟨i, h1, h2⟩ := h; cases h1; exact ⟨i, rfl, h2⟩
theorem rows_typed {ok : α → Prop} : ∀ (rows : List (List AV)), (∀ row, row ∈ rows → ∃ x, row = enc x ∧ ok x) → ∃ xs : List α, rows = xs.map enc ∧ ∀ x, x ∈ xs → ok x := by
  intro rows
  induction rows with
  | nil => intro _; exact ⟨[], rfl, by simp⟩
  | cons r rows ih =>
    intro h
    obtain ⟨x, hx, ox⟩ := h r (List.mem_cons_self ..)
    obtain ⟨xs, hxs, oxs⟩ := ih fun row hr => h row (List.mem_cons_of_mem _ hr)
    exact ⟨x :: xs, by simp [hx, hxs], by simpa using ⟨ox, oxs⟩⟩
theorem sh_slc {ok : α → Prop} {n : Nat} {t el : TypeId} (hu : P.underlying t = some (.slice el)) (hw : P.cellsOf el = w) (he : ∀ n row, ShC P n el row → ∃ x, row = enc x ∧ ok x) {a : AV} (h : ShC P n t [a]) :
    ∃ s : SL α, a = s.av w enc ∧ s.list.length ≤ mx ∧ ∀ x, x ∈ s.list → ok x := by
  cases n with
  | zero => exact h.elim
  | succ n =>
    simp only [ShC, hu] at h
    rcases h with h | ⟨tag, rows, h1, h2, h3⟩
    · cases h; exact ⟨.nil, rfl, by simp, by simp⟩
    · cases h1
      obtain ⟨xs, hxs, ox⟩ := rows_typed (enc := enc) (ok := ok) rows fun row hr => he n row (h3 row hr)
      subst hxs
      exact ⟨.mk tag xs, by rw [hw]; rfl, by simpa using h2, by simpa using ox⟩
theorem sh_struct {n : Nat} {t : TypeId} {fs : Array Field} (hu : P.underlying t = some (.struct fs)) {as : List AV} (h : ShC P n t as) : ∃ m, as.length = P.cellsOf t ∧ ∀ f, f ∈ fs.toList → ShC P m f.type ((as.drop f.offset).take (P.cellsOf f.type)) := by
  cases n with
  | zero => exact h.elim
  | succ n => simp only [ShC, hu] at h; exact ⟨n, h⟩
def fieldsAre (P : Program) (t : TypeId) (l : List (TypeId × Nat)) : Bool :=
  match P.underlying t with
  | some (.struct fs) => (fs.toList.map fun f => (f.type, f.offset)) == l
  | _ => false
theorem sh_fields {n : Nat} {t : TypeId} {l : List (TypeId × Nat)} (hu : fieldsAre P t l = true) {as : List AV} (h : ShC P n t as) : ∃ m, as.length = P.cellsOf t ∧ ∀ p, p ∈ l → ShC P m p.1 ((as.drop p.2).take (P.cellsOf p.1)) := by
  unfold fieldsAre at hu
  split at hu
  · rename_i fs hfs
    simp only [beq_iff_eq] at hu
    obtain ⟨m, h1, h2⟩ := sh_struct hfs h
    refine ⟨m, h1, fun p hp => ?_⟩
    rw [← hu] at hp
    obtain ⟨f, hf, rfl⟩ := List.mem_map.1 hp
    exact h2 f hf
  · cases hu
theorem sh_int1 {n : Nat} {t : TypeId} {k : IntKind} (hu : P.underlying t = some (.int k)) {row : List AV} (h : ShC P n t row) : ∃ i, row = [.int k i] ∧ IOk k i := by
  cases n with
  | zero => exact h.elim
  | succ n => simp only [ShC, hu] at h; exact h
theorem sh_str1 {n : Nat} {t : TypeId} (hu : P.underlying t = some .string) {row : List AV} (h : ShC P n t row) : ∃ l, row = [.str l] ∧ l.length ≤ mx := by
  cases n with
  | zero => exact h.elim
  | succ n => simp only [ShC, hu] at h; exact h
theorem sh_bool1 {n : Nat} {t : TypeId} (hu : P.underlying t = some .bool) {row : List AV} (h : ShC P n t row) : ∃ b, row = [.bool b] := by
  cases n with
  | zero => exact h.elim
  | succ n => simp only [ShC, hu] at h; exact h
end
end A
end Go.Proofs.Ytfcimcoanlgldaa
