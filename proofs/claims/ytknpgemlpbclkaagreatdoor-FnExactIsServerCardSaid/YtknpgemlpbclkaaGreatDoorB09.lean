import Derived.Handed
import Derived.Test.YtknpgemlpbclkaaGreatDoorRows
import Derived.OpenShut
import Derived.ProofKit
import Derived.LaidMore
import Derived.Lay
import Derived.LaidLaws
import Derived.LaidSub
import Derived.SevenTiedAt
import Derived.Stop.Joined
import Derived.Lib.LaidTab
import Derived.Test.YtknpgemlpbclkaaGreatDoorTie
import Derived.Test.YtknpgemlpbclkaaGreatDoorCards
import Derived.Test.YtknpgemlpbclkaaGreatDoorB08

/-
  Sites: IsSite and SiteStamp of the reference and of the program are the same plain functions; the law of SiteStamp answers true. No condition.
-/


namespace Go.Proofs.YtknpgemlpbclkaaGreatDoor
namespace A
set_option linter.unusedVariables false
set_option linter.unusedSimpArgs false
set_option maxRecDepth 100000

/-- where a path stands first -/
def findF (p : List UInt8) : List TFile → Nat → Int
  | [], _ => -1
  | x :: l, i => if x.Path = p then i else findF p l (i + 1)
theorem findF_hit {id : List UInt8} {l : List TFile} {i : Nat} (h : i < l.length) (e : l[i].Path = id) : findF id (l.drop i) i = i := by
  rw [List.drop_eq_getElem_cons h, findF, if_pos e]
theorem findF_miss {id : List UInt8} {l : List TFile} {i : Nat} (h : i < l.length) (e : l[i].Path ≠ id) : findF id (l.drop i) i = findF id (l.drop (i + 1)) (i + 1) := by
  rw [List.drop_eq_getElem_cons h, findF, if_neg e]
def findP (p : List UInt8) (l : List TFile) : Int := match normP p with | some q => findF q l 0 | none => -1
theorem spec_findP {s : SL TFile} {p : List UInt8} (hn : s.list.length ≤ mx) (hp : p.length ≤ mx) : Fnc Tryz.prog 77 [s.av 3 TFile.enc, .str p] (.int .i64 (findP p s.list)) := by
  refine fn_of c77 (by simp [F77]) fun c => ?_
  unfold F77
  simp
  refine call_fn0 (spec_norm hp) (free_norm _ _) fun _ _ => ?_
  cases hq : normP p with
  | none =>
    simp [normA, hq]
    refine loop_drop 0 (fun i e H c' => e 6 = .bool false ∧ H = []) ⟨rfl, rfl⟩ ?_
    intro i e H c hi ⟨e6, hH⟩ N hN
    subst hH
    simp [e6]
    exact fin_plain ⟨by simp [findP, hq], rfl⟩
  | some q =>
    simp [normA, hq]
    refine loop_drop s.list.length (fun i e H c' => e 0 = s.av 3 TFile.enc ∧ e 5 = .str q ∧ e 6 = .bool true ∧ e 7 = .int .i64 i ∧ findF q s.list 0 = findF q (s.list.drop i) i ∧ H = []) ⟨rfl, rfl, rfl, rfl, rfl, rfl⟩ ?_
    intro i e H c hi ⟨e0, e5, e6, e7, hf, hH⟩ N hN
    subst hH
    have hP : findP p s.list = findF q s.list 0 := by unfold findP; rw [hq]
    by_cases h : i < s.list.length
    · have hg : s.list[i]? = some s.list[i] := List.getElem?_eq_getElem h
      have hhit := fun e => findF_hit (id := q) h e
      have hmiss := fun e => findF_miss (id := q) h e
      have hstep : IntKind.i64.wrap ((i : Int) + 1) = ((i + 1 : Nat) : Int) := by rw [step64 hn h]; rfl
      generalize s.list[i] = x at hg hhit hmiss
      by_cases hx : x.Path = q
      · simp [e0, e5, e6, e7, h, getW_of hg, hx]
        exact fin_plain ⟨by rw [hP, hf, hhit hx], rfl⟩
      · simp [e0, e5, e6, e7, h, getW_of hg, hx, hstep]
        exact hN _ _ _ _ h (List.Sublist.refl _) ⟨by simp [upd, e0], by simp [upd, e5], by simp [upd, e6], by simp [upd], by rw [hf, hmiss hx], rfl⟩
    · have hie : i = s.list.length := by omega
      subst hie
      simp [e0, e5, e6, e7]
      exact fin_plain ⟨by rw [hP, hf, List.drop_length]; rfl, rfl⟩
theorem findP_norm {p : List UInt8} (h : isN p = true) (l : List TFile) : findP p l = findF p l 0 := by
  unfold findP; rw [of_decide_eq_true h]
/-- One file by itself. -/
def fileOk (x : TFile) : Bool := isN x.Path && decide (x.Source.length ≤ 4000) && inR x.Version 1 1000000000
/-- No name stands twice. -/
def onceF : List TFile → Bool
  | [] => true
  | x :: l => !(l.map (·.Path)).contains x.Path && onceF l
def isSite (l : List TFile) : Bool := l.all fileOk && onceF l.reverse && decide (l.length ≤ 8)

theorem findF_miss_iff (id : List UInt8) : ∀ (l : List TFile) (i : Nat), (l.map (·.Path)).contains id = false → findF id l i = -1
  | [], i, _ => rfl
  | x :: l, i, h => by
    simp only [List.map_cons, List.contains_cons, Bool.or_eq_false_iff] at h
    unfold findF
    rw [if_neg (by intro e; simp [e] at h)]
    exact findF_miss_iff id l (i + 1) h.2
theorem findF_app {id : List UInt8} (m : List TFile) : ∀ (l : List TFile) (i : Nat), (l.map (·.Path)).contains id = false → findF id (l ++ m) i = findF id m (i + l.length)
  | [], i, _ => by simp
  | x :: l, i, h => by
    simp only [List.map_cons, List.contains_cons, Bool.or_eq_false_iff] at h
    rw [List.cons_append, findF, if_neg (by intro e; simp [e] at h), findF_app m l (i + 1) h.2]
    simp only [List.length_cons]; congr 1; omega
theorem findF_hit_lt {id : List UInt8} (m : List TFile) : ∀ (l : List TFile) (i : Nat), (l.map (·.Path)).contains id = true → findF id (l ++ m) i < i + l.length
  | [], i, h => by simp at h
  | x :: l, i, h => by
    rw [List.cons_append, findF]
    by_cases e : x.Path = id
    · rw [if_pos e]; simp; omega
    · rw [if_neg e]
      have h' : (l.map (·.Path)).contains id = true := by
        simp only [List.map_cons, List.contains_cons, Bool.or_eq_true] at h
        rcases h with h | h
        · exact absurd (by simpa using h : id = x.Path).symm e
        · exact h
      have := findF_hit_lt m l (i + 1) h'
      simp; omega
/-- The first of its name is it itself just if none before has it. -/
theorem find_selfF {l : List TFile} {i : Nat} (h : i < l.length) : (findF l[i].Path l 0 = i) ↔ ((l.take i).map (·.Path)).contains l[i].Path = false := by
  have e : l = l.take i ++ l.drop i := (List.take_append_drop i l).symm
  have hl : (l.take i).length = i := by simp; omega
  constructor
  · intro hf
    cases hc : ((l.take i).map (·.Path)).contains l[i].Path with
    | false => rfl
    | true =>
      have := findF_hit_lt (l.drop i) (l.take i) 0 hc
      rw [← e, hf, hl] at this
      omega
  · intro hc
    have := findF_app (l.drop i) (l.take i) 0 hc
    rw [← e, hl] at this
    rw [this, List.drop_eq_getElem_cons h, findF, if_pos rfl]
    simp
theorem once_stepF {l : List TFile} {i : Nat} (h : i < l.length) : onceF (l.take (i + 1)).reverse = (!((l.take i).map (·.Path)).contains l[i].Path && onceF (l.take i).reverse) := by
  rw [List.take_succ_eq_append_getElem h, List.reverse_append]
  simp only [List.reverse_cons, List.reverse_nil, List.nil_append, List.singleton_append, onceF, List.map_reverse]
  congr 2
  rw [Bool.eq_iff_iff]
  simp
/-- Up to an index. -/
def okToF (l : List TFile) (i : Nat) : Bool := (l.take i).all fileOk && onceF (l.take i).reverse
theorem okTo_stepF {l : List TFile} {i : Nat} (h : i < l.length) : okToF l (i + 1) = (okToF l i && fileOk l[i] && !((l.take i).map (·.Path)).contains l[i].Path) := by
  unfold okToF
  rw [once_stepF h, List.take_succ_eq_append_getElem h, List.all_append]
  simp only [List.all_cons, List.all_nil, Bool.and_true]
  cases (l.take i).all fileOk <;> cases fileOk l[i] <;> cases onceF (l.take i).reverse <;> simp
theorem okTo_monoF {l : List TFile} {i : Nat} (h : okToF l i = false) : isSite l = false := by
  have key : ∀ j, i ≤ j → j ≤ l.length → okToF l j = false := by
    intro j hj
    induction hj with
    | refl => exact fun _ => h
    | step hj ih => intro hl; rw [okTo_stepF (by omega), ih (by omega)]; simp
  rcases Nat.lt_or_ge i l.length with h1 | h1
  · have := key l.length (Nat.le_of_lt h1) (Nat.le_refl _)
    unfold okToF at this
    rw [List.take_length] at this
    unfold isSite
    rw [this]; rfl
  · unfold okToF at h
    rw [List.take_of_length_le h1] at h
    unfold isSite
    rw [h]; rfl
theorem okTo_allF {l : List TFile} (h : okToF l l.length = true) : isSite l = decide (l.length ≤ 8) := by
  unfold okToF at h
  rw [List.take_length] at h
  unfold isSite
  rw [h]; rfl

theorem spec_site {s : SL TFile} (hs : okFileS s) : Fnc Tryz.prog 27 [s.av 3 TFile.enc] (.bool (isSite s.list)) := by
  have hn := hs.1
  refine fn_of c27 (by simp [F27]) fun c => ?_
  unfold F27
  simp
  refine loop_drop s.list.length (fun i e H c' => e 0 = s.av 3 TFile.enc ∧ e 3 = .int .i64 i ∧ okToF s.list i = true ∧ H = []) ⟨rfl, rfl, rfl, rfl⟩ ?_
  intro i e H c hi ⟨e0, e3, hall, hH⟩ N hN
  subst hH
  simp [e0, e3]
  refine ⟨fun h => ⟨s.list[i], List.getElem?_eq_getElem h, ?_⟩, fun h => ?_⟩
  · have hst := okTo_stepF h
    have hself := find_selfF h
    have hok := hs.2 _ (List.getElem_mem h)
    rw [hall] at hst
    have hg : s.list[i]? = some s.list[i] := List.getElem?_eq_getElem h
    generalize hx : s.list[i] = x at hst hself hok hg
    have bad : (fileOk x && !((s.list.take i).map (·.Path)).contains x.Path) = false → isSite s.list = false := fun hb => okTo_monoF (i := i + 1) (by rw [hst]; simpa using hb)
    simp [e0, e3, getW_of hg]
    refine call_fn0 (spec_isN hok.1) .bool fun _ _ => ?_
    cases h1 : isN x.Path
    · simp [e0, e3, getW_of hg]; exact fin_plain ⟨by rw [bad (by simp [fileOk, h1])], rfl⟩
    simp [e0, e3, getW_of hg]
    refine call_fn0 (spec_findP hn hok.1) .int fun _ _ => ?_
    rw [findP_norm h1]
    by_cases h2 : findF x.Path s.list 0 = i
    rotate_left
    · simp [e0, e3, getW_of hg, h2]
      have hc : ((s.list.take i).map (·.Path)).contains x.Path = true := by
        cases hc : ((s.list.take i).map (·.Path)).contains x.Path with
        | true => rfl
        | false => exact absurd (hself.2 hc) h2
      exact fin_plain ⟨by rw [bad (by rw [hc]; simp)], rfl⟩
    have hc := hself.1 h2
    simp [e0, e3, getW_of hg, h2]
    by_cases h3 : (4000 : Int) < x.Source.length
    · simp [e0, e3, getW_of hg, h3]; exact fin_plain ⟨by rw [bad (by simp [fileOk]; intros; omega)], rfl⟩
    simp [e0, e3, getW_of hg, h3]
    refine call_fn0 (l1In_fn _ _ _) .bool fun _ _ => ?_
    cases h5 : inR x.Version 1 1000000000
    · simp [e0, e3, getW_of hg, h3]; exact fin_plain ⟨by rw [bad (by simp [fileOk, h5])], rfl⟩
    simp [e0, e3, getW_of hg, h3]
    exact hN _ _ _ _ h (List.nil_sublist _) ⟨by simp [upd, e0], by simp [upd]; exact step64 hn h, by rw [hst]; simp only [fileOk, h1, h5, hc]; simp; omega, rfl⟩
  · have : i = s.list.length := by omega
    subst this
    refine fin_plain ⟨?_, rfl⟩
    rw [okTo_allF hall]; simp; omega
def seenRowF (x : TFile) : List AV := [.str x.Path, .bool true]
theorem mfind_noF {id : List UInt8} : ∀ (l : List TFile) (k : Nat), (l.map (·.Path)).contains id = false → mfind (.str id) (l.map seenRowF) k = some none
  | [], k, _ => rfl
  | x :: l, k, h => by
    simp only [List.map_cons, List.contains_cons, Bool.or_eq_false_iff] at h
    have e : keyEq (.str id) (.str x.Path) = some false := by simp only [keyEq]; rw [h.1]
    simp only [List.map_cons, seenRowF, mfind, e]
    exact mfind_noF l (k + 1) h.2
theorem mfind_yesF {id : List UInt8} : ∀ (l : List TFile) (k : Nat), (l.map (·.Path)).contains id = true → ∃ j, mfind (.str id) (l.map seenRowF) k = some (some (j, .bool true))
  | [], k, h => by simp at h
  | x :: l, k, h => by
    cases e : (id == x.Path) with
    | true =>
      have e' : keyEq (.str id) (.str x.Path) = some true := by simp only [keyEq]; rw [e]
      exact ⟨k, by simp only [List.map_cons, seenRowF, mfind, e']⟩
    | false =>
      have e' : keyEq (.str id) (.str x.Path) = some false := by simp only [keyEq]; rw [e]
      simp only [List.map_cons, List.contains_cons, e, Bool.false_or] at h
      obtain ⟨j, hj⟩ := mfind_yesF l (k + 1) h
      exact ⟨j, by simp only [List.map_cons, seenRowF, mfind, e']; exact hj⟩
theorem lookup_noF {H : List AObj} {d : TypeDesc} {z k : AV} {i tag : Nat} {rows : List (List AV)} {w : Nat} {K : AV → Prop} (hd : keyFits d k = true) (ho : H[i]? = some ⟨true, tag, w, rows⟩) (hm : mfind k rows 0 = some none) (h : K z) : lookupW d z false (.mref i tag) k H K :=
  ⟨hd, _, ho, rfl, rfl, by rw [hm]; exact h⟩
theorem lookup_yesF {H : List AObj} {d : TypeDesc} {z k v : AV} {i tag j : Nat} {rows : List (List AV)} {w : Nat} {K : AV → Prop} (hd : keyFits d k = true) (ho : H[i]? = some ⟨true, tag, w, rows⟩) (hm : mfind k rows 0 = some (some (j, v))) (h : K v) : lookupW d z false (.mref i tag) k H K :=
  ⟨hd, _, ho, rfl, rfl, by rw [hm]; exact h⟩
theorem mupd_noF {H : List AObj} {c : Nat} {d : TypeDesc} {k v : AV} {i tag : Nat} {rows : List (List AV)} {w : Nat} {K : AV → List AObj → Nat → Prop} (hd : keyFits d k = true) (ho : H[i]? = some ⟨true, tag, w, rows⟩) (hm : mfind k rows 0 = some none) (hl : rows.length < mx) (h : K .und (H.set i ⟨true, tag, w, rows ++ [[k, v]]⟩) c) : mupdW d (.mref i tag) k v H c K :=
  ⟨hd, _, ho, rfl, rfl, by rw [hm]; exact ⟨hl, h⟩⟩

def seenRowsF (l : List TFile) (i : Nat) : List (List AV) := (l.take i).map seenRowF
theorem seenRows_stepF {l : List TFile} {i : Nat} (h : i < l.length) : seenRowsF l (i + 1) = seenRowsF l i ++ [seenRowF l[i]] := by
  unfold seenRowsF; rw [List.take_succ_eq_append_getElem h, List.map_append]; rfl
theorem seenRows_lenF {l : List TFile} {i : Nat} : (seenRowsF l i).length ≤ i := by unfold seenRowsF; simp; omega
theorem impl_site {s : SL TFile} (hs : okFileS s) : Fnc Tryz.prog 40 [s.av 3 TFile.enc] (.bool (isSite s.list)) := by
  have hn := hs.1
  refine fn_of c40 (by simp [F40]) fun c => ?_
  unfold F40
  simp
  refine loop_drop s.list.length (fun i e H c' => e 0 = s.av 3 TFile.enc ∧ e 3 = .mref 0 c ∧ e 7 = s.av 3 TFile.enc ∧ e 8 = .int .i64 s.list.length ∧ e 9 = .int .i64 i ∧ okToF s.list i = true ∧ H = [⟨true, c, 0, seenRowsF s.list i⟩]) ⟨rfl, rfl, rfl, rfl, rfl, rfl, rfl⟩ ?_
  intro i e H c' hi ⟨e0, e3, e7, e8, e9, hall, hH⟩ N hN
  subst hH
  simp [e0, e3, e7, e8, e9]
  refine ⟨fun h => ⟨s.list[i], List.getElem?_eq_getElem h, ?_⟩, fun h => ?_⟩
  · have hst := okTo_stepF h
    have hok := hs.2 _ (List.getElem_mem h)
    rw [hall] at hst
    have htk := seenRows_stepF h
    generalize hx : s.list[i] = x at hst hok htk
    have bad : (fileOk x && !((s.list.take i).map (·.Path)).contains x.Path) = false → isSite s.list = false := fun hb => okTo_monoF (i := i + 1) (by rw [hst]; simpa using hb)
    simp [e0, e3, e7, e8, e9]
    cases hc : ((s.list.take i).map (·.Path)).contains x.Path
    rotate_left
    · obtain ⟨j, hj⟩ : ∃ j, mfind (.str x.Path) (seenRowsF s.list i) 0 = some (some (j, .bool true)) := mfind_yesF _ 0 hc
      refine lookup_yesF rfl rfl hj ?_
      simp [e0, e3, e7, e8, e9]
      exact fin_plain ⟨by rw [bad (by rw [hc]; simp)], rfl⟩
    have hm : mfind (.str x.Path) (seenRowsF s.list i) 0 = some none := mfind_noF _ 0 hc
    refine lookup_noF rfl rfl hm ?_
    simp [e0, e3, e7, e8, e9]
    refine call_fn0 (impl_isN hok.1) .bool fun _ _ => ?_
    cases h1 : isN x.Path
    · simp [e0, e3, e7, e8, e9]; exact fin_plain ⟨by rw [bad (by simp [fileOk, h1])], rfl⟩
    simp [e0, e3, e7, e8, e9]
    by_cases h3 : (4000 : Int) < x.Source.length
    · simp [e0, e3, e7, e8, e9, h3]; exact fin_plain ⟨by rw [bad (by simp [fileOk]; intros; omega)], rfl⟩
    simp [e0, e3, e7, e8, e9, h3]
    refine call_fn0 (inRange_fn _ _ _) .bool fun _ _ => ?_
    cases h5 : inR x.Version 1 1000000000
    · simp [e0, e3, e7, e8, e9, h3]; exact fin_plain ⟨by rw [bad (by simp [fileOk, h5])], rfl⟩
    simp [e0, e3, e7, e8, e9, h3]
    refine mupd_noF rfl rfl hm (by have := seenRows_lenF (l := s.list) (i := i); omega) ?_
    simp [e0, e3, e7, e8, e9, h3]
    exact hN _ _ _ _ h (sub_one _ _) ⟨by simp [upd, e0], by simp [upd, e3], by simp [upd, e7], by simp [upd, e8], by simp [upd]; exact step64 hn h, by rw [hst]; simp only [fileOk, h1, h5, hc]; simp; omega, by rw [htk]; rfl⟩
  · have : i = s.list.length := by omega
    subst this
    refine fin_plain ⟨?_, rfl⟩
    rw [okTo_allF hall]; simp; omega


/-! ### the stamp -/
def verSum (l : List TFile) : Int := (l.map (·.Version)).sum
theorem verSum_step (l : List TFile) {i : Nat} (h : i < l.length) : verSum (l.take (i + 1)) = verSum (l.take i) + l[i].Version := by
  unfold verSum; rw [List.take_succ_eq_append_getElem h, List.map_append, List.sum_append]; simp
theorem site_ver {l : List TFile} (h : isSite l = true) : ∀ x, x ∈ l → 1 ≤ x.Version ∧ x.Version ≤ 1000000000 := fun x hx => by
  simp only [isSite, Bool.and_eq_true, List.all_eq_true] at h
  have := h.1.1 x hx
  simp only [fileOk, Bool.and_eq_true] at this
  exact inR_true this.2
theorem site_len {l : List TFile} (h : isSite l = true) : l.length ≤ 8 := by
  simp only [isSite, Bool.and_eq_true, decide_eq_true_eq] at h; exact h.2
theorem verSum_le {l : List TFile} (h : isSite l = true) (i : Nat) : 0 ≤ verSum (l.take i) ∧ verSum (l.take i) ≤ 1000000000 * l.length := by
  have key : ∀ m : List TFile, (∀ x, x ∈ m → 1 ≤ x.Version ∧ x.Version ≤ 1000000000) → 0 ≤ verSum m ∧ verSum m ≤ 1000000000 * m.length := by
    intro m
    induction m with
    | nil => intro _; simp [verSum]
    | cons x m ih =>
      intro hm
      have h1 := ih fun y hy => hm y (List.mem_cons_of_mem _ hy)
      have h2 := hm x (List.mem_cons_self ..)
      simp only [verSum, List.map_cons, List.sum_cons, List.length_cons] at h1 ⊢
      omega
  have := key (l.take i) fun x hx => site_ver h x (List.mem_of_mem_take hx)
  have hl : (l.take i).length ≤ l.length := by simp; omega
  have h2 : (1000000000 : Int) * (l.take i).length ≤ 1000000000 * l.length := by omega
  omega
def stamp (l : List TFile) : Int := if isSite l then verSum l else 0
theorem spec_stamp {s : SL TFile} (hs : okFileS s) : Fnc Tryz.prog 78 [s.av 3 TFile.enc] (.int .i64 (stamp s.list)) := by
  have hn := hs.1
  refine fn_of c78 (by simp [F78]) fun c => ?_
  unfold F78
  simp
  refine loop_drop s.list.length (fun i e H c' => e 0 = s.av 3 TFile.enc ∧ e 4 = .int .i64 i ∧ e 3 = .int .i64 (verSum (s.list.take i)) ∧ (0 < i → isSite s.list = true) ∧ H = []) ⟨rfl, rfl, rfl, by simp, rfl⟩ ?_
  intro i e H c hi ⟨e0, e4, e3, hpos, hH⟩ N hN
  subst hH
  by_cases h : i < s.list.length
  · have hg : s.list[i]? = some s.list[i] := List.getElem?_eq_getElem h
    have hst := verSum_step s.list h
    have hstep : IntKind.i64.wrap ((i : Int) + 1) = ((i + 1 : Nat) : Int) := by rw [step64 hn h]; rfl
    simp [e0, e4, h]
    refine call_fn0 (spec_site hs) .bool fun _ _ => ?_
    cases hS : isSite s.list
    · have hi0 : i = 0 := by
        rcases Nat.eq_zero_or_pos i with h0 | h0
        · exact h0
        · rw [hpos h0] at hS; cases hS
      subst hi0
      simp [e3]
      exact fin_plain ⟨by simp [stamp, hS, verSum], rfl⟩
    · have hv := verSum_le hS i
      have hx := site_ver hS _ (List.getElem_mem h)
      have hl8 := site_len hS
      generalize s.list[i] = x at hg hst hx
      generalize verSum (s.list.take i) = v at e3 hst hv
      have hw : IntKind.i64.wrap (v + x.Version) = v + x.Version := wrap64 (by omega) (by omega)
      simp [e0, e3, e4, h, getW_of hg, hw, hstep]
      exact hN _ _ _ _ h (List.Sublist.refl _) ⟨by simp [upd, e0], by simp [upd], by simp [upd, hst], fun _ => hS, rfl⟩
  · have hie : i = s.list.length := by omega
    subst hie
    rw [List.take_length] at e3
    simp [e0, e3, e4]
    refine fin_plain ⟨?_, rfl⟩
    unfold stamp
    rcases Nat.eq_zero_or_pos s.list.length with h0 | h0
    · have : s.list = [] := List.length_eq_zero_iff.1 h0
      rw [this]; rfl
    · rw [hpos h0]; rfl
theorem impl_stamp {s : SL TFile} (hs : okFileS s) : Fnc Tryz.prog 82 [s.av 3 TFile.enc] (.int .i64 (stamp s.list)) := by
  have hn := hs.1
  refine fn_of c82 (by simp [F82]) fun c => ?_
  unfold F82
  simp
  refine call_fn0 (impl_site hs) .bool fun _ _ => ?_
  cases hS : isSite s.list
  · simp
    exact fin_plain ⟨by simp [stamp, hS], rfl⟩
  simp
  refine loop_drop s.list.length (fun i e H c' => e 9 = s.av 3 TFile.enc ∧ e 10 = .int .i64 s.list.length ∧ e 11 = .int .i64 i ∧ e 3 = .int .i64 (verSum (s.list.take i)) ∧ H = []) ⟨rfl, rfl, rfl, rfl, rfl⟩ ?_
  intro i e H c hi ⟨e9, e10, e11, e3, hH⟩ N hN
  subst hH
  by_cases h : i < s.list.length
  · have hg : s.list[i]? = some s.list[i] := List.getElem?_eq_getElem h
    have hst := verSum_step s.list h
    have hstep : IntKind.i64.wrap ((i : Int) + 1) = ((i + 1 : Nat) : Int) := by rw [step64 hn h]; rfl
    have hv := verSum_le hS i
    have hx := site_ver hS _ (List.getElem_mem h)
    have hl8 := site_len hS
    generalize s.list[i] = x at hg hst hx
    generalize verSum (s.list.take i) = v at e3 hst hv
    have hw : IntKind.i64.wrap (v + x.Version) = v + x.Version := wrap64 (by omega) (by omega)
    simp [e3, e9, e10, e11, h, getW_of hg, hw, hstep, putA]
    exact hN _ _ _ _ h (List.nil_sublist _) ⟨by simp [upd, e9], by simp [upd, e10], by simp [upd], by simp [upd, hst], rfl⟩
  · have hie : i = s.list.length := by omega
    subst hie
    rw [List.take_length] at e3
    simp [e3, e9, e10, e11]
    exact fin_plain ⟨by simp [stamp, hS], rfl⟩
theorem fileCon {l m : List TFile} (h : l.map TFile.con = m.map TFile.con) : l = m := by
  have e : ∀ l : List TFile, l.map TFile.con = l := fun l => List.map_id' l
  rwa [e, e] at h
end A
end Go.Proofs.YtknpgemlpbclkaaGreatDoor

/-
  AreLines of the reference and of the program are the same plain function of the list of lines. No condition.
-/


namespace Go.Proofs.YtknpgemlpbclkaaGreatDoor
namespace A
set_option linter.unusedVariables false
set_option linter.unusedSimpArgs false
set_option maxRecDepth 100000

def lineOk (a : TLine) : Bool :=
  inR a.Seq 0 1000000000000 && inR a.Owner 0 8 && inR a.Version 0 1000000000000 && decide (a.Words.list.length ≤ 4100) && (decide (a.Seq.tmod 2 = 1) == decide (0 < a.Owner))

def areLines (l : List TLine) : Bool := l.all lineOk && decide (l.length ≤ 8)

theorem spec_areLines {s : SL TLine} (hn : s.list.length ≤ mx) : Fnc Tryz.prog 28 [s.av 4 TLine.enc] (.bool (areLines s.list)) := by
  refine fn_of c28 (by simp [F28]) fun c => ?_
  unfold F28
  simp
  refine loop_drop s.list.length (fun i e H c' => e 0 = s.av 4 TLine.enc ∧ e 3 = .int .i64 i ∧ (s.list.take i).all lineOk = true ∧ H = []) ⟨rfl, rfl, by simp, rfl⟩ ?_
  intro i e H c hi ⟨e0, e3, hall, hH⟩ N hN
  subst hH
  simp [e0, e3]
  refine ⟨fun h => ⟨s.list[i], List.getElem?_eq_getElem h, ?_⟩, fun h => ?_⟩
  · generalize hx : s.list[i] = x
    have bad : lineOk x = false → areLines s.list = false := fun hb => by
      unfold areLines
      have : s.list.all lineOk = false := by
        rw [List.all_eq_false]; exact ⟨x, hx ▸ List.getElem_mem h, by simp [hb]⟩
      simp [this]
    simp [e0, e3]
    refine call_fn0 (l1In_fn _ _ _) .bool fun _ _ => ?_
    cases h1 : inR x.Seq 0 1000000000000
    · simp [e0, e3]; exact fin_plain ⟨by rw [bad (by simp [lineOk, h1])], rfl⟩
    simp [e0, e3]
    refine call_fn0 (l1In_fn _ _ _) .bool fun _ _ => ?_
    cases h2 : inR x.Owner 0 8
    · simp [e0, e3]; exact fin_plain ⟨by rw [bad (by simp [lineOk, h2])], rfl⟩
    simp [e0, e3]
    refine call_fn0 (l1In_fn _ _ _) .bool fun _ _ => ?_
    cases h3 : inR x.Version 0 1000000000000
    · simp [e0, e3]; exact fin_plain ⟨by rw [bad (by simp [lineOk, h3])], rfl⟩
    simp [e0, e3]
    by_cases h4 : (4100 : Int) < x.Words.list.length
    · simp [e0, e3, h4]; exact fin_plain ⟨by rw [bad (by simp [lineOk]; intros; omega)], rfl⟩
    simp [e0, e3, h4]
    have h4' : x.Words.list.length ≤ 4100 := by omega
    by_cases h5 : x.Seq.tmod 2 = 1 <;> by_cases h6 : 0 < x.Owner <;> simp [e0, e3, h5, h6]
    all_goals first
      | exact fin_plain ⟨by rw [bad (by simp [lineOk, h5, h6])], rfl⟩
      | exact hN _ _ _ _ h (List.nil_sublist _) ⟨by simp [upd, e0], by simp [upd]; exact step64 hn h, all_step hall h (by rw [hx]; simp [lineOk, h1, h2, h3, h4', h5, h6]), rfl⟩
  · have : i = s.list.length := by omega
    subst this
    rw [List.take_length] at hall
    refine fin_plain ⟨?_, rfl⟩
    simp [areLines, hall]
    omega

theorem impl_areLines {s : SL TLine} (hn : s.list.length ≤ mx) : Fnc Tryz.prog 41 [s.av 4 TLine.enc] (.bool (areLines s.list)) := by
  refine fn_of c41 (by simp [F41]) fun c => ?_
  unfold F41
  simp
  refine loop_drop s.list.length (fun i e H c' => e 0 = s.av 4 TLine.enc ∧ e 5 = s.av 4 TLine.enc ∧ e 6 = .int .i64 s.list.length ∧ e 7 = .int .i64 i ∧ (s.list.take i).all lineOk = true ∧ H = []) ⟨rfl, rfl, rfl, rfl, by simp, rfl⟩ ?_
  intro i e H c hi ⟨e0, e5, e6, e7, hall, hH⟩ N hN
  subst hH
  simp [e0, e5, e6, e7]
  refine ⟨fun h => ⟨s.list[i], List.getElem?_eq_getElem h, ?_⟩, fun h => ?_⟩
  · generalize hx : s.list[i] = x
    have bad : lineOk x = false → areLines s.list = false := fun hb => by
      unfold areLines
      have : s.list.all lineOk = false := by
        rw [List.all_eq_false]; exact ⟨x, hx ▸ List.getElem_mem h, by simp [hb]⟩
      simp [this]
    simp [e0, e5, e6, e7]
    refine call_fn0 (inRange_fn _ _ _) .bool fun _ _ => ?_
    cases h1 : inR x.Seq 0 1000000000000
    · simp [e0, e5, e6, e7]; exact fin_plain ⟨by rw [bad (by simp [lineOk, h1])], rfl⟩
    simp [e0, e5, e6, e7]
    refine call_fn0 (inRange_fn _ _ _) .bool fun _ _ => ?_
    cases h3 : inR x.Version 0 1000000000000
    · simp [e0, e5, e6, e7]; exact fin_plain ⟨by rw [bad (by simp [lineOk, h3])], rfl⟩
    simp [e0, e5, e6, e7]
    refine call_fn0 (inRange_fn _ _ _) .bool fun _ _ => ?_
    cases h2 : inR x.Owner 0 8
    · simp [e0, e5, e6, e7]; exact fin_plain ⟨by rw [bad (by simp [lineOk, h2])], rfl⟩
    simp [e0, e5, e6, e7]
    by_cases h4 : (4100 : Int) < x.Words.list.length
    · simp [e0, e5, e6, e7, h4]; exact fin_plain ⟨by rw [bad (by simp [lineOk]; intros; omega)], rfl⟩
    simp [e0, e5, e6, e7, h4]
    have h4' : x.Words.list.length ≤ 4100 := by omega
    by_cases h5 : x.Seq.tmod 2 = 1 <;> by_cases h6 : 0 < x.Owner <;> simp [e0, e5, e6, e7, h5, h6]
    all_goals first
      | exact fin_plain ⟨by rw [bad (by simp [lineOk, h5, h6])], rfl⟩
      | exact hN _ _ _ _ h (List.nil_sublist _) ⟨by simp [upd, e0], by simp [upd, e5], by simp [upd, e6], by simp [upd]; exact step64 hn h, all_step hall h (by rw [hx]; simp [lineOk, h1, h2, h3, h4', h5, h6]), rfl⟩
  · have : i = s.list.length := by omega
    subst this
    rw [List.take_length] at hall
    refine fin_plain ⟨?_, rfl⟩
    simp [areLines, hall]
    omega

theorem areLines_con {s t : SL TLine} (h : s.list.map TLine.con = t.list.map TLine.con) : areLines s.list = areLines t.list := by
  have e : ∀ l : List TLine, areLines l = areLines (l.map TLine.con) := fun l => by
    unfold areLines
    rw [List.all_map, List.length_map]
    rfl
  rw [e, e t.list, h]

end A
end Go.Proofs.YtknpgemlpbclkaaGreatDoor

/-
  JobPlaces of the reference and of the program are the same plain function; the law answers true. No condition.
-/



namespace Go.Proofs.YtknpgemlpbclkaaGreatDoor
namespace A
set_option linter.unusedVariables false
set_option linter.unusedSimpArgs false
set_option maxRecDepth 100000

def qP (id : Int) (x : TJob) : Bool := decide (x.Id = id)
def wP (id : Int) (x : TWorker) : Bool := decide (x.State = 1) && decide (x.Job.Id = id)
def aP (id : Int) (x : TAnswer) : Bool := decide (x.Id = id)
def jp (s : TServer) (id : Int) : Int := ((s.Queue.list.countP (qP id) + s.Workers.list.countP (wP id) + s.Done.list.countP (aP id) : Nat) : Int)
theorem count_step {α : Type} (p : α → Bool) (l : List α) {i : Nat} (h : i < l.length) : (l.take (i + 1)).countP p = (l.take i).countP p + (if p l[i] then 1 else 0) := by
  rw [List.take_succ_eq_append_getElem h, List.countP_append]; simp [List.countP_cons]
theorem boolNum_fn (b : Bool) : Fnc Tryz.prog 46 [.bool b] (.int .i64 (if b then 1 else 0)) := by
  refine fn_of c46 (by simp [F46]) fun c => ?_
  unfold F46
  cases b <;> simp <;> exact fin_plain ⟨rfl, rfl⟩
def SmS (s : TServer) : Prop := s.Queue.list.length ≤ 1048576 ∧ s.Workers.list.length ≤ 1048576 ∧ s.Done.list.length ≤ 1048576

theorem spec_jp {s : TServer} {id : Int} (hs : SmS s) : Fnc Tryz.prog 33 [.agg s.enc, .int .i64 id] (.int .i64 (jp s id)) := by
  obtain ⟨z1, z2, z3⟩ := hs
  refine fn_of c33 (by simp [F33]) fun c => ?_
  unfold F33
  simp
  refine loop_drop s.Queue.list.length (fun i e H c' => e 1 = .int .i64 id ∧ e 2 = .ptr 0 c 8 0 0 ∧ e 5 = .int .i64 ((s.Queue.list.take i).countP (qP id)) ∧ e 6 = .int .i64 i ∧ H = [⟨false, c, 8, [s.enc]⟩]) ⟨rfl, rfl, by simp [upd], rfl, rfl⟩ ?_
  intro i e H c' hi ⟨e1, e2, e5, e6, hH⟩ N hN
  subst hH
  have hle : (s.Queue.list.take i).countP (qP id) ≤ i := Nat.le_trans List.countP_le_length (by simp; omega)
  by_cases h : i < s.Queue.list.length
  · have hg : s.Queue.list[i]? = some s.Queue.list[i] := List.getElem?_eq_getElem h
    have hst := count_step (qP id) s.Queue.list h
    generalize s.Queue.list[i] = x at hg hst
    generalize (s.Queue.list.take i).countP (qP id) = n at e5 hst hle
    have hw : IntKind.i64.wrap ((n : Int) + 1) = ((n + 1 : Nat) : Int) := by rw [wrap64 (by omega) (by omega)]; omega
    simp [e1, e2, e5, e6, h]
    refine ⟨x, hg, ?_⟩
    by_cases hx : x.Id = id
    · simp [e1, e2, e5, e6, h, hx, hw]
      exact hN _ _ _ _ h (List.Sublist.refl _) ⟨by simp [upd, e1], by simp [upd, e2], by simp [upd, hst, qP, hx, hw], by simp [upd]; exact step64 (by unfold mx; omega) h, rfl⟩
    · simp [e1, e2, e5, e6, h, hx, hw]
      exact hN _ _ _ _ h (List.Sublist.refl _) ⟨by simp [upd, e1], by simp [upd, e2], by simp [upd, hst, qP, hx, e5], by simp [upd]; exact step64 (by unfold mx; omega) h, rfl⟩
  have hiq : i = s.Queue.list.length := by omega
  subst hiq
  rw [List.take_length] at e5 hle
  have hq : s.Queue.list.countP (qP id) ≤ 1048576 := by omega
  generalize hqq : s.Queue.list.countP (qP id) = q at e5 hq
  simp [e1, e2, e5, e6, h]
  refine loop_drop s.Workers.list.length (fun i e H c' => e 1 = .int .i64 id ∧ e 2 = .ptr 0 c 8 0 0 ∧ e 5 = .int .i64 (q + (s.Workers.list.take i).countP (wP id) : Nat) ∧ e 7 = .int .i64 i ∧ H = [⟨false, c, 8, [s.enc]⟩]) ⟨by simp [upd, e1], by simp [upd, e2], by simp [upd, e5], by simp [upd], rfl⟩ ?_
  clear e1 e2 e5 e6 hle
  intro i e H c' hi ⟨e1, e2, e5, e7, hH⟩ N hN
  subst hH
  have hle : (s.Workers.list.take i).countP (wP id) ≤ i := Nat.le_trans List.countP_le_length (by simp; omega)
  by_cases h : i < s.Workers.list.length
  · have hg : s.Workers.list[i]? = some s.Workers.list[i] := List.getElem?_eq_getElem h
    have hst := count_step (wP id) s.Workers.list h
    generalize s.Workers.list[i] = x at hg hst
    generalize (s.Workers.list.take i).countP (wP id) = n at e5 hst hle
    have hw : IntKind.i64.wrap (((q + n : Nat) : Int) + 1) = ((q + (n + 1) : Nat) : Int) := by rw [wrap64 (by omega) (by omega)]; omega
    simp [e1, e2, e5, e7, h, -Int.natCast_add]
    refine ⟨x, hg, ?_⟩
    by_cases hx : x.State = 1
    · simp [e1, e2, e5, e7, h, hx, hw, -Int.natCast_add]
      refine ⟨x, hg, ?_⟩
      by_cases hy : x.Job.Id = id
      · simp [e1, e2, e5, e7, h, hx, hy, hw, -Int.natCast_add]
        exact hN _ _ _ _ h (List.Sublist.refl _) ⟨by simp [upd, e1], by simp [upd, e2], by simp [upd, hst, wP, hx, hy, hw, -Int.natCast_add], by simp [upd]; exact step64 (by unfold mx; omega) h, rfl⟩
      · simp [e1, e2, e5, e7, h, hx, hy, hw, -Int.natCast_add]
        exact hN _ _ _ _ h (List.Sublist.refl _) ⟨by simp [upd, e1], by simp [upd, e2], by simp [upd, hst, wP, hx, hy, e5, -Int.natCast_add], by simp [upd]; exact step64 (by unfold mx; omega) h, rfl⟩
    · simp [e1, e2, e5, e7, h, hx, hw, -Int.natCast_add]
      exact hN _ _ _ _ h (List.Sublist.refl _) ⟨by simp [upd, e1], by simp [upd, e2], by simp [upd, hst, wP, hx, e5, -Int.natCast_add], by simp [upd]; exact step64 (by unfold mx; omega) h, rfl⟩
  have hiw : i = s.Workers.list.length := by omega
  subst hiw
  rw [List.take_length] at e5 hle
  have hwb : s.Workers.list.countP (wP id) ≤ 1048576 := by omega
  generalize hww : s.Workers.list.countP (wP id) = w at e5 hwb
  simp [e1, e2, e5, e7, h, -Int.natCast_add]
  refine loop_drop s.Done.list.length (fun i e H c' => e 1 = .int .i64 id ∧ e 2 = .ptr 0 c 8 0 0 ∧ e 5 = .int .i64 (q + w + (s.Done.list.take i).countP (aP id) : Nat) ∧ e 8 = .int .i64 i ∧ H = [⟨false, c, 8, [s.enc]⟩]) ⟨by simp [upd, e1], by simp [upd, e2], by simp [upd, e5, -Int.natCast_add], by simp [upd], rfl⟩ ?_
  clear e1 e2 e5 e7 hle
  intro i e H c' hi ⟨e1, e2, e5, e8, hH⟩ N hN
  subst hH
  have hle : (s.Done.list.take i).countP (aP id) ≤ i := Nat.le_trans List.countP_le_length (by simp; omega)
  by_cases h : i < s.Done.list.length
  · have hg : s.Done.list[i]? = some s.Done.list[i] := List.getElem?_eq_getElem h
    have hst := count_step (aP id) s.Done.list h
    generalize s.Done.list[i] = x at hg hst
    generalize (s.Done.list.take i).countP (aP id) = n at e5 hst hle
    have hw : IntKind.i64.wrap (((q + w + n : Nat) : Int) + 1) = ((q + w + (n + 1) : Nat) : Int) := by rw [wrap64 (by omega) (by omega)]; omega
    simp [e1, e2, e5, e8, h, -Int.natCast_add]
    refine ⟨x, hg, ?_⟩
    by_cases hx : x.Id = id
    · simp [e1, e2, e5, e8, h, hx, hw, -Int.natCast_add]
      exact hN _ _ _ _ h (List.Sublist.refl _) ⟨by simp [upd, e1], by simp [upd, e2], by simp [upd, hst, aP, hx, hw, -Int.natCast_add], by simp [upd]; exact step64 (by unfold mx; omega) h, rfl⟩
    · simp [e1, e2, e5, e8, h, hx, hw, -Int.natCast_add]
      exact hN _ _ _ _ h (List.Sublist.refl _) ⟨by simp [upd, e1], by simp [upd, e2], by simp [upd, hst, aP, hx, e5, -Int.natCast_add], by simp [upd]; exact step64 (by unfold mx; omega) h, rfl⟩
  have hid : i = s.Done.list.length := by omega
  subst hid
  rw [List.take_length] at e5
  simp [e1, e2, e5, e8, h, -Int.natCast_add]
  exact fin_sub (List.nil_sublist _) (.refl _) ⟨by unfold jp; rw [hqq, hww], rfl⟩

theorem impl_jp {s : TServer} {id : Int} (hs : SmS s) : Fnc Tryz.prog 47 [.agg s.enc, .int .i64 id] (.int .i64 (jp s id)) := by
  obtain ⟨z1, z2, z3⟩ := hs
  refine fn_of c47 (by simp [F47]) fun c => ?_
  unfold F47
  simp
  refine loop_drop s.Queue.list.length (fun i e H c' => e 1 = .int .i64 id ∧ e 2 = .ptr 0 c 8 0 0 ∧ e 5 = .int .i64 ((s.Queue.list.take i).countP (qP id)) ∧ e 13 = s.Queue.av 5 TJob.enc ∧ e 14 = .int .i64 s.Queue.list.length ∧ e 15 = .int .i64 i ∧ H = [⟨false, c, 8, [s.enc]⟩]) ⟨rfl, rfl, by simp [upd], rfl, rfl, rfl, rfl⟩ ?_
  intro i e H c' hi ⟨e1, e2, e5, e13, e14, e15, hH⟩ N hN
  subst hH
  have hle : (s.Queue.list.take i).countP (qP id) ≤ i := Nat.le_trans List.countP_le_length (by simp; omega)
  by_cases h : i < s.Queue.list.length
  · have hg : s.Queue.list[i]? = some s.Queue.list[i] := List.getElem?_eq_getElem h
    have hst := count_step (qP id) s.Queue.list h
    generalize s.Queue.list[i] = x at hg hst
    generalize (s.Queue.list.take i).countP (qP id) = n at e5 hst hle
    have hw : IntKind.i64.wrap ((n : Int) + (if decide (x.Id = id) then 1 else 0)) = ((n + (if qP id x then 1 else 0) : Nat) : Int) := by unfold qP; rw [wrap64 (by split <;> omega) (by split <;> omega)]; split <;> omega
    simp [e1, e2, e5, e13, e14, e15, h, putA]
    refine ⟨x, hg, ?_⟩
    simp [e1, e2, e5, e13, e14, e15, h, putA]
    refine call_fn0 (boolNum_fn _) .int fun _ _ => ?_
    simp [e1, e2, e5, e13, e14, e15, h, -Int.natCast_add]
    exact hN _ _ _ _ h (sub_one _ _) ⟨by simp [upd, e1], by simp [upd, e2], by simp [upd, hst]; simpa using hw, by simp [upd, e13], by simp [upd, e14], by simp [upd]; exact step64 (by unfold mx; omega) h, rfl⟩
  have hiq : i = s.Queue.list.length := by omega
  subst hiq
  rw [List.take_length] at e5 hle
  have hq : s.Queue.list.countP (qP id) ≤ 1048576 := by omega
  generalize hqq : s.Queue.list.countP (qP id) = q at e5 hq
  simp [e1, e2, e5, e13, e14, e15, h]
  refine loop_drop s.Workers.list.length (fun i e H c' => e 1 = .int .i64 id ∧ e 2 = .ptr 0 c 8 0 0 ∧ e 5 = .int .i64 (q + (s.Workers.list.take i).countP (wP id) : Nat) ∧ e 28 = s.Workers.av 9 TWorker.enc ∧ e 29 = .int .i64 s.Workers.list.length ∧ e 30 = .int .i64 i ∧ H = [⟨false, c, 8, [s.enc]⟩]) ⟨by simp [upd, e1], by simp [upd, e2], by simp [upd, e5], by simp [upd], by simp [upd], by simp [upd], rfl⟩ ?_
  clear e1 e2 e5 e13 e14 e15 hle
  intro i e H c' hi ⟨e1, e2, e5, e28, e29, e30, hH⟩ N hN
  subst hH
  have hle : (s.Workers.list.take i).countP (wP id) ≤ i := Nat.le_trans List.countP_le_length (by simp; omega)
  by_cases h : i < s.Workers.list.length
  · have hg : s.Workers.list[i]? = some s.Workers.list[i] := List.getElem?_eq_getElem h
    have hst := count_step (wP id) s.Workers.list h
    generalize s.Workers.list[i] = x at hg hst
    generalize (s.Workers.list.take i).countP (wP id) = n at e5 hst hle
    have hw : ∀ b : Bool, b = wP id x → IntKind.i64.wrap (((q + n : Nat) : Int) + (if b then 1 else 0)) = ((q + (n + (if wP id x then 1 else 0)) : Nat) : Int) := fun b hb => by
      subst hb
      rw [wrap64 (by split <;> omega) (by split <;> omega)]; split <;> omega
    simp [e1, e2, e5, e28, e29, e30, h, putA, -Int.natCast_add]
    refine ⟨x, hg, ?_⟩
    by_cases hx : x.State = 1
    · simp [e1, e2, e5, e28, e29, e30, h, putA, hx, -Int.natCast_add]
      refine call_fn0 (boolNum_fn _) .int fun _ _ => ?_
      have hw := hw (decide (x.Job.Id = id)) (by simp [wP, hx])
      simp [e1, e2, e5, e28, e29, e30, h, -Int.natCast_add]
      exact hN _ _ _ _ h (sub_one _ _) ⟨by simp [upd, e1], by simp [upd, e2], by simp [upd, hst, -Int.natCast_add]; simpa [-Int.natCast_add] using hw, by simp [upd, e28], by simp [upd, e29], by simp [upd]; exact step64 (by unfold mx; omega) h, rfl⟩
    · simp [e1, e2, e5, e28, e29, e30, h, putA, hx, -Int.natCast_add]
      refine call_fn0 (boolNum_fn _) .int fun _ _ => ?_
      have hw := hw false (by simp [wP, hx])
      simp [e1, e2, e5, e28, e29, e30, h, -Int.natCast_add]
      exact hN _ _ _ _ h (sub_one _ _) ⟨by simp [upd, e1], by simp [upd, e2], by simp [upd, hst, -Int.natCast_add]; simpa [-Int.natCast_add] using hw, by simp [upd, e28], by simp [upd, e29], by simp [upd]; exact step64 (by unfold mx; omega) h, rfl⟩
  have hiw : i = s.Workers.list.length := by omega
  subst hiw
  rw [List.take_length] at e5 hle
  have hwb : s.Workers.list.countP (wP id) ≤ 1048576 := by omega
  generalize hww : s.Workers.list.countP (wP id) = w at e5 hwb
  simp [e1, e2, e5, e28, e29, e30, h, -Int.natCast_add]
  refine loop_drop s.Done.list.length (fun i e H c' => e 1 = .int .i64 id ∧ e 2 = .ptr 0 c 8 0 0 ∧ e 5 = .int .i64 (q + w + (s.Done.list.take i).countP (aP id) : Nat) ∧ e 49 = s.Done.av 11 TAnswer.enc ∧ e 50 = .int .i64 s.Done.list.length ∧ e 51 = .int .i64 i ∧ H = [⟨false, c, 8, [s.enc]⟩]) ⟨by simp [upd, e1], by simp [upd, e2], by simp [upd, e5, -Int.natCast_add], by simp [upd], by simp [upd], by simp [upd], rfl⟩ ?_
  clear e1 e2 e5 e28 e29 e30 hle
  intro i e H c' hi ⟨e1, e2, e5, e49, e50, e51, hH⟩ N hN
  subst hH
  have hle : (s.Done.list.take i).countP (aP id) ≤ i := Nat.le_trans List.countP_le_length (by simp; omega)
  by_cases h : i < s.Done.list.length
  · have hg : s.Done.list[i]? = some s.Done.list[i] := List.getElem?_eq_getElem h
    have hst := count_step (aP id) s.Done.list h
    generalize s.Done.list[i] = x at hg hst
    generalize (s.Done.list.take i).countP (aP id) = n at e5 hst hle
    have hw : IntKind.i64.wrap (((q + w + n : Nat) : Int) + (if decide (x.Id = id) then 1 else 0)) = ((q + w + (n + (if aP id x then 1 else 0)) : Nat) : Int) := by unfold aP; rw [wrap64 (by split <;> omega) (by split <;> omega)]; split <;> omega
    simp [e1, e2, e5, e49, e50, e51, h, putA, -Int.natCast_add]
    refine ⟨x, hg, ?_⟩
    simp [e1, e2, e5, e49, e50, e51, h, putA, -Int.natCast_add]
    refine call_fn0 (boolNum_fn _) .int fun _ _ => ?_
    simp [e1, e2, e5, e49, e50, e51, h, -Int.natCast_add]
    exact hN _ _ _ _ h (sub_one _ _) ⟨by simp [upd, e1], by simp [upd, e2], by simp [upd, hst, -Int.natCast_add]; simpa [-Int.natCast_add] using hw, by simp [upd, e49], by simp [upd, e50], by simp [upd]; exact step64 (by unfold mx; omega) h, rfl⟩
  have hid : i = s.Done.list.length := by omega
  subst hid
  rw [List.take_length] at e5
  simp [e1, e2, e5, e49, e50, e51, h, -Int.natCast_add]
  exact fin_sub (List.nil_sublist _) (.refl _) ⟨by unfold jp; rw [hqq, hww], rfl⟩
end A
end Go.Proofs.YtknpgemlpbclkaaGreatDoor

/-
  IsServer of the reference and of the program are the same plain function. No condition.
-/





namespace Go.Proofs.YtknpgemlpbclkaaGreatDoor
namespace A
set_option linter.unusedVariables false
set_option linter.unusedSimpArgs false
set_option maxRecDepth 100000

/-! ### the plain function -/
def jobOk (x : TJob) : Bool := isReq x.Request && (decide (x.Session = []) || isName x.Session)
def idleOk (x : TWorker) : Bool :=
  decide (x.Data = []) && decide (x.Files.list = []) && decide (x.Job.Id = 0) && decide (x.Job.Session = []) && decide (x.Job.Request.Path = []) && decide (x.Job.Request.Query.list = []) && decide (x.Job.Request.Cookies.list = [])
/-- The session that a worker serves is its own. -/
def ownOk (l : List TSession) (i : Nat) (x : TWorker) : Bool :=
  if x.Job.Session = [] then decide (x.Data = []) else
    decide (0 ≤ findS x.Job.Session l 0) && (l[(findS x.Job.Session l 0).toNat]?).any fun y => decide (y.Holder = (i : Int) + 1) && decide (y.Data = x.Data)
def workOk (l : List TSession) (i : Nat) (x : TWorker) : Bool :=
  inR x.State 0 2 && inR x.Served 0 3 && (if x.State = 1 then ownOk l i x && jobOk x.Job && isSite x.Files.list && decide (x.Data.length ≤ 2000) else idleOk x)
def sesHeld (l : List TWorker) (x : TSession) : Bool :=
  decide (x.Holder = 0) || (decide (x.Holder ≤ l.length) && (l[(x.Holder - 1).toNat]?).any fun w => decide (w.State = 1) && decide (w.Job.Session = x.Id))
def lineHeld (l : List TWorker) (x : TLine) : Bool :=
  decide (x.Seq ≤ 1000000000) && (decide (x.Owner = 0) || (decide (x.Owner ≤ l.length) && (l[(x.Owner - 1).toNat]?).any fun w => decide (w.State = 2)))
def allI {α : Type} (p : Nat → α → Bool) : Nat → List α → Bool
  | _, [] => true
  | i, x :: l => p i x && allI p (i + 1) l
def allN (p : Nat → Bool) : Nat → Nat → Bool
  | 0, _ => true
  | k + 1, i => p i && allN p k (i + 1)
def busy (x : TWorker) : Bool := decide (x.State = 1)
def isSrv (s : TServer) : Bool :=
  (isSite s.Files.list && areLines s.Lines.list && decide (s.Lines.list.length = 8) && areSessions s.Sessions.list && inR s.Workers.list.length 1 4 && inR s.Next 0 20 && inR s.Now 0 1000000000)
  && (allI (workOk s.Sessions.list) 0 s.Workers.list && allI (fun _ => jobOk) 0 s.Queue.list && allI (fun _ => sesHeld s.Workers.list) 0 s.Sessions.list && allI (fun _ => lineHeld s.Workers.list) 0 s.Lines.list
    && allN (fun i => decide (jp s i = 1)) s.Next.toNat 0)
  && decide (((s.Queue.list.length + s.Done.list.length + s.Workers.list.countP busy : Nat) : Int) = s.Next)

theorem allI_step {α : Type} {p : Nat → α → Bool} {l : List α} {i : Nat} (h : i < l.length) : allI p i (l.drop i) = (p i l[i] && allI p (i + 1) (l.drop (i + 1))) := by
  rw [List.drop_eq_getElem_cons h, allI]
theorem allI_end {α : Type} {p : Nat → α → Bool} {l : List α} {i : Nat} (h : ¬ i < l.length) : allI p i (l.drop i) = true := by
  rw [List.drop_eq_nil_of_le (by omega)]; rfl
theorem allN_step {p : Nat → Bool} {n i : Nat} (h : i < n) : allN p (n - i) i = (p i && allN p (n - (i + 1)) (i + 1)) := by
  rw [show n - i = (n - (i + 1)) + 1 by omega, allN]
theorem allN_end {p : Nat → Bool} {n i : Nat} (h : ¬ i < n) : allN p (n - i) i = true := by
  rw [show n - i = 0 by omega]; rfl
theorem allI_map {α β : Type} (f : α → β) (p : Nat → β → Bool) (q : Nat → α → Bool) (h : ∀ i x, p i (f x) = q i x) : ∀ (l : List α) (i : Nat), allI p i (l.map f) = allI q i l
  | [], _ => rfl
  | x :: l, i => by rw [List.map_cons, allI, allI, h, allI_map f p q h l]
theorem findS_at (id : List UInt8) : ∀ (l : List TSession) (i : Nat), findS id l i = -1 ∨ ∃ k, ∃ y, findS id l i = ((i + k : Nat) : Int) ∧ k < l.length ∧ l[k]? = some y
  | [], i => .inl rfl
  | x :: l, i => by
    unfold findS
    split
    · exact .inr ⟨0, x, by simp⟩
    · rcases findS_at id l (i + 1) with h | ⟨k, y, h1, h2, h3⟩
      · exact .inl h
      · exact .inr ⟨k + 1, y, by rw [h1]; congr 1; omega, by simp; omega, by simpa using h3⟩

/-! ### jobs -/
theorem spec_job {x : TJob} (hx : x.ok) : Fnc Tryz.prog 32 [.agg x.enc] (.bool (jobOk x)) := by
  obtain ⟨h1, h2⟩ := hx
  refine fn_of c32 (by simp [F32]) fun c => ?_
  unfold F32
  simp
  refine call_fn0 (spec_isReq h1) .bool fun _ _ => ?_
  cases hN : isReq x.Request
  · simp
    exact fin_plain ⟨by simp [jobOk, hN], rfl⟩
  by_cases hE : x.Session = []
  · simp [hE]
    exact fin_plain ⟨by simp [jobOk, hN, hE], rfl⟩
  simp [hE]
  refine call_fn0 (spec_isName h2) .bool fun _ _ => ?_
  simp
  exact fin_plain ⟨by simp [jobOk, hN, hE], rfl⟩
theorem impl_job {x : TJob} (hx : x.ok) : Fnc Tryz.prog 44 [.agg x.enc] (.bool (jobOk x)) := by
  obtain ⟨h1, h2⟩ := hx
  refine fn_of c44 (by simp [F44]) fun c => ?_
  unfold F44
  simp
  refine call_fn0 (impl_isReq h1) .bool fun _ _ => ?_
  cases hN : isReq x.Request
  · simp
    exact fin_plain ⟨by simp [jobOk, hN], rfl⟩
  by_cases hE : x.Session = []
  · simp [hE]
    exact fin_plain ⟨by simp [jobOk, hN, hE], rfl⟩
  simp [hE]
  refine call_fn0 (impl_isName h2) .bool fun _ _ => ?_
  simp
  exact fin_plain ⟨by simp [jobOk, hN, hE], rfl⟩

/-! ### workers -/
@[simp] theorem TWorker.seg1' (x : TWorker) : x.enc.tail.take 5 = x.Job.enc := rfl
@[simp] theorem TWorker.seg2 (x : TWorker) : (x.enc.drop 2).take 3 = x.Job.Request.enc := rfl
theorem spec_worker {s : TServer} (hw : okWorkerS s.Workers) (hS : s.Sessions.list.length ≤ mx) {i : Nat} {x : TWorker} (hg : s.Workers.list[i]? = some x) : Fnc Tryz.prog 31 [.agg s.enc, .int .i64 i] (.bool (workOk s.Sessions.list i x)) := by
  obtain ⟨hxj, hxd, hxf⟩ := hw.2 x (List.mem_of_getElem? hg)
  have hi : i < s.Workers.list.length := by
    rcases Nat.lt_or_ge i s.Workers.list.length with h | h
    · exact h
    · rw [List.getElem?_eq_none h] at hg; cases hg
  have hil := hw.1
  refine fn_of c31 (by simp [F31]) fun c => ?_
  unfold F31
  simp [getW_of hg, hi, putA]
  refine call_fn0 (l1In_fn _ _ _) .bool fun _ _ => ?_
  cases hN : inR x.State 0 2
  · simp
    exact fin_plain ⟨by simp [workOk, hN], rfl⟩
  simp
  refine call_fn0 (l1In_fn _ _ _) .bool fun _ _ => ?_
  cases hQ : inR x.Served 0 3
  · simp
    exact fin_plain ⟨by simp [workOk, hQ], rfl⟩
  simp
  by_cases h1 : x.State = 1
  rotate_left
  · simp [h1, putA]
    have bad : idleOk x = false → workOk s.Sessions.list i x = false := fun h => by simp [workOk, h1, h]
    by_cases k1 : x.Data = []
    rotate_left
    · simp [k1]
      exact fin_plain ⟨by rw [bad (by simp [idleOk, k1])], rfl⟩
    by_cases k2 : x.Files.list = []
    rotate_left
    · simp [k1, k2]
      exact fin_plain ⟨by rw [bad (by simp [idleOk, k2])], rfl⟩
    by_cases k3 : x.Job.Id = 0
    rotate_left
    · simp [k1, k2, k3]
      exact fin_plain ⟨by rw [bad (by simp [idleOk, k3])], rfl⟩
    by_cases k4 : x.Job.Session = []
    rotate_left
    · simp [k1, k2, k3, k4]
      exact fin_plain ⟨by rw [bad (by simp [idleOk, k4])], rfl⟩
    by_cases k5 : x.Job.Request.Path = []
    rotate_left
    · simp [k1, k2, k3, k4, k5]
      exact fin_plain ⟨by rw [bad (by simp [idleOk, k5])], rfl⟩
    by_cases k6 : x.Job.Request.Query.list = []
    rotate_left
    · simp [k1, k2, k3, k4, k5, k6]
      exact fin_plain ⟨by rw [bad (by simp [idleOk, k6])], rfl⟩
    simp [k1, k2, k3, k4, k5, k6]
    exact fin_plain ⟨by simp [workOk, hN, hQ, h1, idleOk, k1, k2, k3, k4, k5, k6], rfl⟩
  have hw1 : IntKind.i64.wrap ((i : Int) + 1) = (i : Int) + 1 := by rw [wrap64 (by omega) (by unfold mx at hil; omega)]
  simp [h1]
  refine call_fn0 (spec_find hS) .int fun _ _ => ?_
  have bad : ownOk s.Sessions.list i x = false → workOk s.Sessions.list i x = false := fun h => by simp [workOk, h1, h]
  have fin : ownOk s.Sessions.list i x = true → workOk s.Sessions.list i x = (jobOk x.Job && isSite x.Files.list && decide (x.Data.length ≤ 2000)) := fun h => by unfold workOk; rw [hN, hQ, if_pos h1, h]; simp
  have kD : ((x.Data.length : Int) ≤ 2000) = (x.Data.length ≤ 2000) := by simp only [eq_iff_iff]; omega
  by_cases hE : x.Job.Session = []
  · by_cases hD : x.Data = []
    rotate_left
    · simp [hE, hD]
      exact fin_plain ⟨by rw [bad (by simp [ownOk, hE, hD])], rfl⟩
    have fin := fin (by simp [ownOk, hE, hD])
    simp [hE, hD]
    refine call_fn0 (spec_job hxj) .bool fun _ _ => ?_
    cases hJ : jobOk x.Job
    · simp
      exact fin_plain ⟨by simp [fin, hJ], rfl⟩
    simp
    refine call_fn0 (spec_site hxf) .bool fun _ _ => ?_
    cases hF : isSite x.Files.list
    · simp
      exact fin_plain ⟨by simp [fin, hF], rfl⟩
    simp [hD]
    exact fin_plain ⟨by simp [fin, hJ, hF, hD], rfl⟩
  rcases findS_at x.Job.Session s.Sessions.list 0 with hf | ⟨k, y, hf, hk, hy⟩
  · simp [hE, hf]
    exact fin_plain ⟨by rw [bad (by simp [ownOk, hE, hf])], rfl⟩
  rw [Nat.zero_add] at hf
  have kn : ¬ ((k : Int) < 0) := by omega
  by_cases hH : y.Holder = (i : Int) + 1
  rotate_left
  · simp [hE, hf, hk, getW_of hy, hw1, hH, kn]
    exact fin_plain ⟨by rw [bad (by simp [ownOk, hE, hf, hy, hH])], rfl⟩
  by_cases hD : y.Data = x.Data
  rotate_left
  · simp [hE, hf, hk, getW_of hy, hw1, hH, hD, kn]
    exact fin_plain ⟨by rw [bad (by simp [ownOk, hE, hf, hy, hD])], rfl⟩
  have fin := fin (by simp [ownOk, hE, hf, hy, hH, hD])
  simp [hE, hf, hk, getW_of hy, hw1, hH, hD, kn]
  refine call_fn0 (spec_job hxj) .bool fun _ _ => ?_
  cases hJ : jobOk x.Job
  · simp
    exact fin_plain ⟨by simp [fin, hJ], rfl⟩
  simp
  refine call_fn0 (spec_site hxf) .bool fun _ _ => ?_
  cases hF : isSite x.Files.list
  · simp
    exact fin_plain ⟨by simp [fin, hF], rfl⟩
  simp
  exact fin_plain ⟨by simp [fin, hJ, hF, kD], rfl⟩
theorem impl_worker {s : TServer} (hw : okWorkerS s.Workers) (hS : s.Sessions.list.length ≤ mx) {i : Nat} {x : TWorker} (hz : x.sz ≤ 1048576) (hg : s.Workers.list[i]? = some x) : Fnc Tryz.prog 45 [.agg s.enc, .int .i64 i] (.bool (workOk s.Sessions.list i x)) := by
  obtain ⟨hxj, hxd, hxf⟩ := hw.2 x (List.mem_of_getElem? hg)
  have hi : i < s.Workers.list.length := by
    rcases Nat.lt_or_ge i s.Workers.list.length with h | h
    · exact h
    · rw [List.getElem?_eq_none h] at hg; cases hg
  have hil := hw.1
  refine fn_of c45 (by simp [F45]) fun c => ?_
  unfold F45
  simp [getW_of hg, hi, putA]
  refine call_fn0 (inRange_fn _ _ _) .bool fun _ _ => ?_
  cases hN : inR x.State 0 2
  · simp
    exact fin_plain ⟨by simp [workOk, hN], rfl⟩
  simp
  refine call_fn0 (inRange_fn _ _ _) .bool fun _ _ => ?_
  cases hQ : inR x.Served 0 3
  · simp
    exact fin_plain ⟨by simp [workOk, hQ], rfl⟩
  simp [putA]
  by_cases h1 : x.State = 1
  rotate_left
  · have bad : idleOk x = false → workOk s.Sessions.list i x = false := fun h => by simp [workOk, h1, h]
    by_cases k3 : x.Job.Id = 0
    rotate_left
    · simp [h1, k3, putA]
      exact fin_plain ⟨by rw [bad (by simp [idleOk, k3])], rfl⟩
    by_cases k4 : x.Job.Session = []
    rotate_left
    · simp [h1, k3, k4, putA]
      exact fin_plain ⟨by rw [bad (by simp [idleOk, k4])], rfl⟩
    by_cases k5 : x.Job.Request.Path = []
    rotate_left
    · simp [h1, k3, k4, k5, putA]
      exact fin_plain ⟨by rw [bad (by simp [idleOk, k5])], rfl⟩
    simp only [TWorker.sz, TJob.sz, TRequest.sz, szPairS, szFileS] at hz
    have e1 : IntKind.i64.wrap ((x.Job.Request.Query.list.length : Int) + (x.Job.Request.Cookies.list.length : Int)) = ((x.Job.Request.Query.list.length + x.Job.Request.Cookies.list.length : Nat) : Int) := by rw [wrap64 (by omega) (by omega)]; omega
    have e2 : IntKind.i64.wrap (((x.Job.Request.Query.list.length + x.Job.Request.Cookies.list.length : Nat) : Int) + (x.Files.list.length : Int)) = ((x.Job.Request.Query.list.length + x.Job.Request.Cookies.list.length + x.Files.list.length : Nat) : Int) := by rw [wrap64 (by omega) (by omega)]; omega
    have e3 : IntKind.i64.wrap (((x.Job.Request.Query.list.length + x.Job.Request.Cookies.list.length + x.Files.list.length : Nat) : Int) + (x.Data.length : Int)) = ((x.Job.Request.Query.list.length + x.Job.Request.Cookies.list.length + x.Files.list.length + x.Data.length : Nat) : Int) := by rw [wrap64 (by omega) (by omega)]; omega
    simp [h1, k3, k4, k5, putA, e1, e2, e3, -Int.natCast_add]
    refine fin_plain ⟨?_, rfl⟩
    simp only [workOk, hN, hQ, h1, idleOk, k3, k4, k5, if_false, decide_true, Bool.and_true, Bool.true_and]
    congr 1
    ac_rfl
  have hw1 : IntKind.i64.wrap ((i : Int) + 1) = (i : Int) + 1 := by rw [wrap64 (by omega) (by unfold mx at hil; omega)]
  have fin : workOk s.Sessions.list i x = (ownOk s.Sessions.list i x && jobOk x.Job && isSite x.Files.list && decide (x.Data.length ≤ 2000)) := by unfold workOk; rw [hN, hQ, if_pos h1]; simp
  have kD : ((2000 : Int) < x.Data.length) = ¬ (x.Data.length ≤ 2000) := by simp only [eq_iff_iff]; omega
  simp [h1]
  refine call_fn0 (impl_job hxj) .bool fun _ _ => ?_
  cases hJ : jobOk x.Job
  · simp
    exact fin_plain ⟨by simp [fin, hJ], rfl⟩
  simp
  refine call_fn0 (impl_site hxf) .bool fun _ _ => ?_
  cases hF : isSite x.Files.list
  · simp
    exact fin_plain ⟨by simp [fin, hF], rfl⟩
  simp only [hJ, hF, Bool.and_true] at fin
  by_cases hL : x.Data.length ≤ 2000
  rotate_left
  · simp [kD, hL]
    exact fin_plain ⟨by simp [fin, hL], rfl⟩
  simp only [hL, decide_true, Bool.and_true] at fin
  by_cases hE : x.Job.Session = []
  · simp [kD, hL, hE]
    exact fin_plain ⟨by simp [fin, ownOk, hE], rfl⟩
  simp [kD, hL, hE]
  refine call_fn0 (impl_find hS) .int fun _ _ => ?_
  rcases findS_at x.Job.Session s.Sessions.list 0 with hf | ⟨k, y, hf, hk, hy⟩
  · simp [hf]
    exact fin_plain ⟨by simp [fin, ownOk, hE, hf], rfl⟩
  rw [Nat.zero_add] at hf
  by_cases hH : y.Holder = (i : Int) + 1
  rotate_left
  · simp [hf, hk, getW_of hy, hw1, hH]
    exact fin_plain ⟨by simp [fin, ownOk, hE, hf, hy, hH], rfl⟩
  simp [hf, hk, getW_of hy, hw1, hH]
  exact fin_plain ⟨by simp [fin, ownOk, hE, hf, hy, hH], rfl⟩

/-! ### the server -/
theorem okFile_sz {s : SL TFile} (h : szFileS s ≤ 1048576) : okFileS s := by
  unfold szFileS at h
  refine ⟨by unfold mx; omega, fun x hx => ?_⟩
  have h1 := szL_mem (sz := TFile.sz) hx
  have h2 : x.sz ≤ 1048576 := by omega
  unfold TFile.sz at h2
  unfold TFile.ok mx
  omega
theorem okPair_sz {s : SL TPair} (h : szPairS s ≤ 1048576) : okPairS s := by
  unfold szPairS at h
  refine ⟨by unfold mx; omega, fun x hx => ?_⟩
  have h1 := szL_mem (sz := TPair.sz) hx
  have h2 : x.sz ≤ 1048576 := by omega
  unfold TPair.sz at h2
  unfold TPair.ok mx
  omega
theorem okReq_sz {x : TRequest} (h : x.sz ≤ 1048576) : x.ok := by
  unfold TRequest.sz at h
  exact ⟨by unfold mx; omega, okPair_sz (by omega), okPair_sz (by omega)⟩
theorem okJob_sz {x : TJob} (h : x.sz ≤ 1048576) : x.ok := by
  unfold TJob.sz at h
  exact ⟨okReq_sz (by omega), by unfold mx; omega⟩
theorem okSes_sz {s : SL TSession} (h : szSessionS s ≤ 1048576) : okSessionS s := by
  unfold szSessionS at h
  refine ⟨by unfold mx; omega, fun x hx => ?_⟩
  have h1 := szL_mem (sz := TSession.sz) hx
  have h2 : x.sz ≤ 1048576 := by omega
  unfold TSession.sz at h2
  unfold TSession.ok mx
  omega
theorem okWork_sz {x : TWorker} (h : x.sz ≤ 1048576) : x.ok := by
  unfold TWorker.sz at h
  exact ⟨okJob_sz (by omega), by unfold mx; omega, okFile_sz (by omega)⟩
theorem srv_small {s : TServer} (hz : s.sz ≤ 1048576) : okFileS s.Files ∧ s.Lines.list.length ≤ mx ∧ okSessionS s.Sessions ∧ okJobS s.Queue ∧ okWorkerS s.Workers := by
  unfold TServer.sz at hz
  refine ⟨okFile_sz (by omega), by unfold szLineS at hz; unfold mx; omega, okSes_sz (by omega), ?_, ?_⟩
  · have hq : szJobS s.Queue ≤ 1048576 := by omega
    unfold szJobS at hq
    exact ⟨by unfold mx; omega, fun x hx => okJob_sz (by have := szL_mem (sz := TJob.sz) hx; omega)⟩
  · have hq : szWorkerS s.Workers ≤ 1048576 := by omega
    unfold szWorkerS at hq
    exact ⟨by unfold mx; omega, fun x hx => okWork_sz (by have := szL_mem (sz := TWorker.sz) hx; omega)⟩
theorem areS_holder {l : List TSession} (h : areSessions l = true) {x : TSession} (hx : x ∈ l) : 0 ≤ x.Holder := by
  simp only [areSessions, Bool.and_eq_true] at h
  have := List.all_eq_true.1 h.1.1 x hx
  simp only [sessOk, Bool.and_eq_true] at this
  exact (inR_true this.1.2).1
theorem areL_owner {l : List TLine} (h : areLines l = true) {x : TLine} (hx : x ∈ l) : 0 ≤ x.Owner := by
  simp only [areLines, Bool.and_eq_true] at h
  have := List.all_eq_true.1 h.1 x hx
  simp only [lineOk, Bool.and_eq_true] at this
  exact (inR_true this.1.1.1.2).1
/-- A count that is nought, or a place and one. -/
theorem nat_or {z : Int} (h : 0 ≤ z) : z = 0 ∨ ∃ q : Nat, z = (q : Int) + 1 := by
  rcases Int.lt_or_eq_of_le h with h | h
  · exact .inr ⟨(z - 1).toNat, by omega⟩
  · exact .inl h.symm
theorem sz_srv {s : TServer} (hz : s.sz ≤ 1048576) : SmS s := by
  simp only [TServer.sz, szFileS, szLineS, szSessionS, szJobS, szWorkerS, szAnswerS] at hz
  exact ⟨by omega, by omega, by omega⟩
theorem spec_isSrv {s : TServer} (hz : s.sz ≤ 1048576) : Fnc Tryz.prog 7 [.agg s.enc] (.bool (isSrv s)) := by
  obtain ⟨s1, s2, s3, s4, s5⟩ := srv_small hz
  have hz' := hz
  simp only [TServer.sz, szFileS, szLineS, szSessionS, szJobS, szWorkerS, szAnswerS] at hz'
  refine fn_of c7 (by simp [F7]) fun c => ?_
  unfold F7
  simp
  refine call_fn0 (spec_site s1) .bool fun _ _ => ?_
  cases h1 : isSite s.Files.list
  · simp
    exact fin_plain ⟨by simp [isSrv, h1], rfl⟩
  simp
  refine call_fn0 (spec_areLines s2) .bool fun _ _ => ?_
  cases h2 : areLines s.Lines.list
  · simp
    exact fin_plain ⟨by simp [isSrv, h2], rfl⟩
  have k3 : ((s.Lines.list.length : Int) = 8) = (s.Lines.list.length = 8) := by simp only [eq_iff_iff]; omega
  by_cases h3 : s.Lines.list.length = 8
  rotate_left
  · simp [k3, h3]
    exact fin_plain ⟨by simp [isSrv, h3], rfl⟩
  simp [k3, h3]
  refine call_fn0 (spec_areS s3) .bool fun _ _ => ?_
  cases h4 : areSessions s.Sessions.list
  · simp
    exact fin_plain ⟨by simp [isSrv, h4], rfl⟩
  simp
  refine call_fn0 (l1In_fn _ _ _) .bool fun _ _ => ?_
  cases h5 : inR s.Workers.list.length 1 4
  · simp
    exact fin_plain ⟨by simp [isSrv, h5], rfl⟩
  simp
  refine call_fn0 (l1In_fn _ _ _) .bool fun _ _ => ?_
  cases h6 : inR s.Next 0 20
  · simp
    exact fin_plain ⟨by simp [isSrv, h6], rfl⟩
  simp
  refine call_fn0 (l1In_fn _ _ _) .bool fun _ _ => ?_
  cases h7 : inR s.Now 0 1000000000
  · simp
    exact fin_plain ⟨by simp [isSrv, h7], rfl⟩
  have fin : isSrv s = ((allI (workOk s.Sessions.list) 0 s.Workers.list && allI (fun _ => jobOk) 0 s.Queue.list && allI (fun _ => sesHeld s.Workers.list) 0 s.Sessions.list && allI (fun _ => lineHeld s.Workers.list) 0 s.Lines.list
    && allN (fun i => decide (jp s i = 1)) s.Next.toNat 0)
    && decide (((s.Queue.list.length + s.Done.list.length + s.Workers.list.countP busy : Nat) : Int) = s.Next)) := by unfold isSrv; rw [h1, h2, h3, h4, h5, h6, h7]; simp
  have hc : IntKind.i64.wrap ((s.Queue.list.length : Int) + (s.Done.list.length : Int)) = ((s.Queue.list.length + s.Done.list.length : Nat) : Int) := by rw [wrap64 (by omega) (by omega)]; omega
  simp [hc, -Int.natCast_add]
  generalize hn : s.Queue.list.length + s.Done.list.length = n at fin hc
  refine loop_drop s.Workers.list.length (fun i e H c' => e 1 = .ptr 0 c 8 0 0 ∧ e 3 = .int .i64 (n + (s.Workers.list.take i).countP busy : Nat) ∧ e 4 = .int .i64 i ∧ allI (workOk s.Sessions.list) 0 s.Workers.list = allI (workOk s.Sessions.list) i (s.Workers.list.drop i) ∧ H = [⟨false, c, 8, [s.enc]⟩]) ⟨by simp [upd], by simp [upd, -Int.natCast_add], by simp [upd], by simp, rfl⟩ ?_
  intro i e H c' hi ⟨e1, e3, e4, hA, hH⟩ N hN
  subst hH
  by_cases h : i < s.Workers.list.length
  · have hg : s.Workers.list[i]? = some s.Workers.list[i] := List.getElem?_eq_getElem h
    have hst := count_step busy s.Workers.list h
    have hal := allI_step (p := workOk s.Sessions.list) h
    have hle : (s.Workers.list.take i).countP busy ≤ i := Nat.le_trans List.countP_le_length (by simp; omega)
    generalize s.Workers.list[i] = x at hg hst hal
    generalize (s.Workers.list.take i).countP busy = b at e3 hst hle
    have hstep : IntKind.i64.wrap ((i : Int) + 1) = ((i + 1 : Nat) : Int) := by rw [step64 s5.1 h]; rfl
    have hw : IntKind.i64.wrap (((n + b : Nat) : Int) + 1) = ((n + (b + 1) : Nat) : Int) := by rw [wrap64 (by omega) (by omega)]; omega
    simp [e1, e3, e4, h, -Int.natCast_add]
    refine call_fn0 (spec_worker s5 s3.1 hg) .bool fun _ _ => ?_
    cases hwk : workOk s.Sessions.list i x
    · simp [e1, e3, e4, h, -Int.natCast_add]
      exact fin_plain ⟨by rw [fin, hA, hal, hwk]; simp, rfl⟩
    by_cases hx : x.State = 1
    · simp [e1, e3, e4, h, hx, getW_of hg, hw, hstep, -Int.natCast_add]
      exact hN _ _ _ _ h (List.Sublist.refl _) ⟨by simp [upd, e1], by simp [upd, hst, busy, hx, -Int.natCast_add], by simp [upd, -Int.natCast_add], by rw [hA, hal, hwk, Bool.true_and], rfl⟩
    · simp [e1, e3, e4, h, hx, getW_of hg, hw, hstep, -Int.natCast_add]
      exact hN _ _ _ _ h (List.Sublist.refl _) ⟨by simp [upd, e1], by simp [upd, hst, busy, hx, e3, -Int.natCast_add], by simp [upd, -Int.natCast_add], by rw [hA, hal, hwk, Bool.true_and], rfl⟩
  rw [allI_end h] at hA
  have hie : i = s.Workers.list.length := by omega
  subst hie
  rw [List.take_length] at e3
  simp only [hA, Bool.true_and] at fin
  generalize hq : (n + s.Workers.list.countP busy) = t at e3 fin
  clear hA hN
  simp [e1, e3, e4, -Int.natCast_add]
  refine loop_drop s.Queue.list.length (fun i e H c' => e 1 = .ptr 0 c 8 0 0 ∧ e 3 = .int .i64 t ∧ e 5 = .int .i64 i ∧ allI (fun _ => jobOk) 0 s.Queue.list = allI (fun _ => jobOk) i (s.Queue.list.drop i) ∧ H = [⟨false, c, 8, [s.enc]⟩]) ⟨by simp [upd, e1], by simp [upd, e3], by simp [upd], by simp, rfl⟩ ?_
  clear e1 e3 e4 h
  intro i e H c' hi ⟨e1, e3, e5, hA, hH⟩ N hN
  subst hH
  by_cases h : i < s.Queue.list.length
  · have hg : s.Queue.list[i]? = some s.Queue.list[i] := List.getElem?_eq_getElem h
    have hal := allI_step (p := fun _ => jobOk) h
    have hxo := s4.2 _ (List.getElem_mem h)
    generalize s.Queue.list[i] = x at hg hal hxo
    have hstep : IntKind.i64.wrap ((i : Int) + 1) = ((i + 1 : Nat) : Int) := by rw [step64 s4.1 h]; rfl
    simp [e1, e3, e5, h, getW_of hg]
    refine call_fn0 (spec_job hxo) .bool fun _ _ => ?_
    cases hwk : jobOk x
    · simp [e1, e3, e5, h]
      exact fin_plain ⟨by rw [fin, hA, hal, hwk]; simp, rfl⟩
    simp [e1, e3, e5, h, hstep]
    exact hN _ _ _ _ h (List.Sublist.refl _) ⟨by simp [upd, e1], by simp [upd, e3], by simp [upd], by rw [hA, hal, hwk, Bool.true_and], rfl⟩
  rw [allI_end h] at hA
  simp only [hA, Bool.true_and] at fin
  clear hA hN
  simp [e1, e3, e5, h]
  refine loop_drop s.Sessions.list.length (fun i e H c' => e 1 = .ptr 0 c 8 0 0 ∧ e 3 = .int .i64 t ∧ e 6 = .int .i64 i ∧ allI (fun _ => sesHeld s.Workers.list) 0 s.Sessions.list = allI (fun _ => sesHeld s.Workers.list) i (s.Sessions.list.drop i) ∧ H = [⟨false, c, 8, [s.enc]⟩]) ⟨by simp [upd, e1], by simp [upd, e3], by simp [upd], by simp, rfl⟩ ?_
  clear e1 e3 e5 h
  intro i e H c' hi ⟨e1, e3, e6, hA, hH⟩ N hN
  subst hH
  by_cases h : i < s.Sessions.list.length
  · have hg : s.Sessions.list[i]? = some s.Sessions.list[i] := List.getElem?_eq_getElem h
    have hal := allI_step (p := fun _ => sesHeld s.Workers.list) h
    have hx0 := areS_holder h4 (List.getElem_mem h)
    generalize s.Sessions.list[i] = x at hg hal hx0
    have hstep : IntKind.i64.wrap ((i : Int) + 1) = ((i + 1 : Nat) : Int) := by rw [step64 s3.1 h]; rfl
    have bad : sesHeld s.Workers.list x = false → isSrv s = false := fun hb => by rw [fin, hA, hal, hb]; simp
    have good : sesHeld s.Workers.list x = true → allI (fun _ => sesHeld s.Workers.list) 0 s.Sessions.list = allI (fun _ => sesHeld s.Workers.list) (i + 1) (s.Sessions.list.drop (i + 1)) := fun hb => by rw [hA, hal, hb, Bool.true_and]
    rcases nat_or hx0 with hp | ⟨q, hp⟩
    · have k1 : ¬ ((s.Workers.list.length : Int) < 0) := by omega
      simp [e1, e3, e6, h, getW_of hg, hp, k1, hstep]
      exact hN _ _ _ _ h (List.Sublist.refl _) ⟨by simp [upd, e1], by simp [upd, e3], by simp [upd], good (by simp [sesHeld, hp]), rfl⟩
    by_cases hq : q < s.Workers.list.length
    rotate_left
    · have k1 : (s.Workers.list.length : Int) < (q : Int) + 1 := by omega
      have k3 : ¬ ((q : Int) + 1 ≤ s.Workers.list.length) := by omega
      have k4 : ¬ ((q : Int) + 1 = 0) := by omega
      simp [e1, e3, e6, h, getW_of hg, hp, k1, hstep]
      exact fin_plain ⟨by rw [bad (by simp [sesHeld, hp, k3, k4])], rfl⟩
    have hgw : s.Workers.list[q]? = some s.Workers.list[q] := List.getElem?_eq_getElem hq
    generalize s.Workers.list[q] = w at hgw
    have k1 : ¬ ((s.Workers.list.length : Int) < (q : Int) + 1) := by omega
    have k2 : (0 : Int) < (q : Int) + 1 := by omega
    have k3 : (q : Int) + 1 ≤ s.Workers.list.length := by omega
    have k4 : ¬ ((q : Int) + 1 = 0) := by omega
    have k5 : IntKind.i64.wrap (q : Int) = q := wrap64 (by omega) (by omega)
    have hq' : (q : Int) < s.Workers.list.length := by omega
    by_cases h8 : w.State = 1
    rotate_left
    · simp [e1, e3, e6, h, getW_of hg, hp, k1, k2, k5, hq, hstep, getW_of hgw, h8]
      exact fin_plain ⟨by rw [bad (by simp [sesHeld, hp, k3, k4, hgw, h8])], rfl⟩
    by_cases h9 : w.Job.Session = x.Id
    rotate_left
    · simp [e1, e3, e6, h, getW_of hg, hp, k1, k2, k5, hq, hstep, getW_of hgw, h8, h9]
      exact fin_plain ⟨by rw [bad (by simp [sesHeld, hp, k3, k4, hgw, h9])], rfl⟩
    simp [e1, e3, e6, h, getW_of hg, hp, k1, k2, k5, hq, hstep, getW_of hgw, h8, h9]
    exact hN _ _ _ _ h (List.Sublist.refl _) ⟨by simp [upd, e1], by simp [upd, e3], by simp [upd], good (by simp [sesHeld, hp, k3, k4, hgw, h8, h9]), rfl⟩
  rw [allI_end h] at hA
  simp only [hA, Bool.true_and] at fin
  clear hA hN
  simp [e1, e3, e6, h]
  refine loop_drop s.Lines.list.length (fun i e H c' => e 1 = .ptr 0 c 8 0 0 ∧ e 3 = .int .i64 t ∧ e 8 = .int .i64 i ∧ allI (fun _ => lineHeld s.Workers.list) 0 s.Lines.list = allI (fun _ => lineHeld s.Workers.list) i (s.Lines.list.drop i) ∧ H = [⟨false, c, 8, [s.enc]⟩]) ⟨by simp [upd, e1], by simp [upd, e3], by simp [upd], by simp, rfl⟩ ?_
  clear e1 e3 e6 h
  intro i e H c' hi ⟨e1, e3, e8, hA, hH⟩ N hN
  subst hH
  by_cases h : i < s.Lines.list.length
  · have hg : s.Lines.list[i]? = some s.Lines.list[i] := List.getElem?_eq_getElem h
    have hal := allI_step (p := fun _ => lineHeld s.Workers.list) h
    have hx0 := areL_owner h2 (List.getElem_mem h)
    generalize s.Lines.list[i] = x at hg hal hx0
    have hstep : IntKind.i64.wrap ((i : Int) + 1) = ((i + 1 : Nat) : Int) := by rw [step64 s2 h]; rfl
    have bad : lineHeld s.Workers.list x = false → isSrv s = false := fun hb => by rw [fin, hA, hal, hb]; simp
    have good : lineHeld s.Workers.list x = true → allI (fun _ => lineHeld s.Workers.list) 0 s.Lines.list = allI (fun _ => lineHeld s.Workers.list) (i + 1) (s.Lines.list.drop (i + 1)) := fun hb => by rw [hA, hal, hb, Bool.true_and]
    have hSq : x.Seq ≤ 1000000000 ∨ ¬ (x.Seq ≤ 1000000000) := Classical.em _
    rcases nat_or hx0 with hp | ⟨q, hp⟩
    · have k1 : ¬ ((s.Workers.list.length : Int) < 0) := by omega
      rcases hSq with hS | hS
      · have hS' : ¬ (1000000000 < x.Seq) := by omega
        simp [e1, e3, e8, h, getW_of hg, hp, k1, hstep, hS']
        exact hN _ _ _ _ h (List.Sublist.refl _) ⟨by simp [upd, e1], by simp [upd, e3], by simp [upd], good (by simp [lineHeld, hp, hS]), rfl⟩
      · have hS' : 1000000000 < x.Seq := by omega
        simp [e1, e3, e8, h, getW_of hg, hp, k1, hstep, hS']
        exact fin_plain ⟨by rw [bad (by simp [lineHeld, hS, hS'])], rfl⟩
    by_cases hq : q < s.Workers.list.length
    rotate_left
    · have k1 : (s.Workers.list.length : Int) < (q : Int) + 1 := by omega
      have k3 : ¬ ((q : Int) + 1 ≤ s.Workers.list.length) := by omega
      have k4 : ¬ ((q : Int) + 1 = 0) := by omega
      simp [e1, e3, e8, h, getW_of hg, hp, k1, hstep]
      exact fin_plain ⟨by rw [bad (by simp [lineHeld, hp, k3, k4])], rfl⟩
    have hgw : s.Workers.list[q]? = some s.Workers.list[q] := List.getElem?_eq_getElem hq
    generalize s.Workers.list[q] = w at hgw
    have k1 : ¬ ((s.Workers.list.length : Int) < (q : Int) + 1) := by omega
    have k2 : (0 : Int) < (q : Int) + 1 := by omega
    have k3 : (q : Int) + 1 ≤ s.Workers.list.length := by omega
    have k4 : ¬ ((q : Int) + 1 = 0) := by omega
    have k5 : IntKind.i64.wrap (q : Int) = q := wrap64 (by omega) (by omega)
    by_cases h8 : w.State = 2
    rotate_left
    · simp [e1, e3, e8, h, getW_of hg, hp, k1, k2, k5, hq, hstep, getW_of hgw, h8]
      exact fin_plain ⟨by rw [bad (by simp [lineHeld, hp, k3, k4, hgw, h8])], rfl⟩
    rcases hSq with hS | hS
    · have hS' : ¬ (1000000000 < x.Seq) := by omega
      simp [e1, e3, e8, h, getW_of hg, hp, k1, k2, k5, hq, hstep, getW_of hgw, h8, hS']
      exact hN _ _ _ _ h (List.Sublist.refl _) ⟨by simp [upd, e1], by simp [upd, e3], by simp [upd], good (by simp [lineHeld, hp, k3, k4, hgw, h8, hS]), rfl⟩
    · have hS' : 1000000000 < x.Seq := by omega
      simp [e1, e3, e8, h, getW_of hg, hp, k1, k2, k5, hq, hstep, getW_of hgw, h8, hS']
      exact fin_plain ⟨by rw [bad (by simp [lineHeld, hS, hS'])], rfl⟩
  rw [allI_end h] at hA
  simp only [hA, Bool.true_and] at fin
  clear hA hN
  obtain ⟨m, hm⟩ : ∃ m : Nat, s.Next = m := ⟨s.Next.toNat, by have := (inR_true h6).1; omega⟩
  have hm20 : m ≤ 20 := by have := (inR_true h6).2; omega
  rw [hm, Int.toNat_natCast] at fin
  simp [e1, e3, e8, h]
  refine loop_drop m (fun i e H c' => e 1 = .ptr 0 c 8 0 0 ∧ e 3 = .int .i64 t ∧ e 10 = .int .i64 i ∧ allN (fun i => decide (jp s i = 1)) m 0 = allN (fun i => decide (jp s i = 1)) (m - i) i ∧ H = [⟨false, c, 8, [s.enc]⟩]) ⟨by simp [upd, e1], by simp [upd, e3], by simp [upd], by simp, rfl⟩ ?_
  clear e1 e3 e8 h
  intro i e H c' hi ⟨e1, e3, e10, hA, hH⟩ N hN
  subst hH
  by_cases h : i < m
  · have hal := allN_step (p := fun i => decide (jp s i = 1)) h
    have hstep : IntKind.i64.wrap ((i : Int) + 1) = ((i + 1 : Nat) : Int) := by rw [wrap64 (by omega) (by omega)]; rfl
    have h' : (i : Int) < m := by omega
    simp [e1, e3, e10, h, h', hm]
    refine call_fn0 (spec_jp (sz_srv hz)) .int fun _ _ => ?_
    by_cases hj : jp s i = 1
    · simp [e1, e3, e10, h, hj, hstep]
      exact hN _ _ _ _ h (List.Sublist.refl _) ⟨by simp [upd, e1], by simp [upd, e3], by simp [upd], by rw [hA, hal]; simp [hj], rfl⟩
    · simp [e1, e3, e10, h, hj, hstep]
      exact fin_plain ⟨by rw [fin, hA, hal]; simp [hj], rfl⟩
  rw [allN_end h] at hA
  simp only [hA, Bool.true_and] at fin
  simp [e1, e3, e10, h, hm]
  exact fin_plain ⟨by rw [fin], rfl⟩
theorem impl_isSrv {s : TServer} (hz : s.sz ≤ 1048576) : Fnc Tryz.prog 9 [.agg s.enc] (.bool (isSrv s)) := by
  obtain ⟨s1, s2, s3, s4, s5⟩ := srv_small hz
  have hz' := hz
  simp only [TServer.sz, szFileS, szLineS, szSessionS, szJobS, szWorkerS, szAnswerS] at hz'
  refine fn_of c9 (by simp [F9]) fun c => ?_
  unfold F9
  simp
  refine call_fn0 (impl_site s1) .bool fun _ _ => ?_
  cases h1 : isSite s.Files.list
  · simp
    exact fin_plain ⟨by simp [isSrv, h1], rfl⟩
  simp
  refine call_fn0 (impl_areLines s2) .bool fun _ _ => ?_
  cases h2 : areLines s.Lines.list
  · simp
    exact fin_plain ⟨by simp [isSrv, h2], rfl⟩
  simp
  refine call_fn0 (impl_areS s3) .bool fun _ _ => ?_
  cases h4 : areSessions s.Sessions.list
  · simp
    exact fin_plain ⟨by simp [isSrv, h4], rfl⟩
  have k3 : ((s.Lines.list.length : Int) = 8) = (s.Lines.list.length = 8) := by simp only [eq_iff_iff]; omega
  by_cases h3 : s.Lines.list.length = 8
  rotate_left
  · simp [k3, h3]
    exact fin_plain ⟨by simp [isSrv, h3], rfl⟩
  simp [k3, h3]
  refine call_fn0 (inRange_fn _ _ _) .bool fun _ _ => ?_
  cases h5 : inR s.Workers.list.length 1 4
  · simp
    exact fin_plain ⟨by simp [isSrv, h5], rfl⟩
  simp
  refine call_fn0 (inRange_fn _ _ _) .bool fun _ _ => ?_
  cases h6 : inR s.Next 0 20
  · simp
    exact fin_plain ⟨by simp [isSrv, h6], rfl⟩
  simp
  refine call_fn0 (inRange_fn _ _ _) .bool fun _ _ => ?_
  cases h7 : inR s.Now 0 1000000000
  · simp
    exact fin_plain ⟨by simp [isSrv, h7], rfl⟩
  have fin : isSrv s = ((allI (workOk s.Sessions.list) 0 s.Workers.list && allI (fun _ => jobOk) 0 s.Queue.list && allI (fun _ => sesHeld s.Workers.list) 0 s.Sessions.list && allI (fun _ => lineHeld s.Workers.list) 0 s.Lines.list
    && allN (fun i => decide (jp s i = 1)) s.Next.toNat 0)
    && decide (((s.Queue.list.length + s.Done.list.length + s.Workers.list.countP busy : Nat) : Int) = s.Next)) := by unfold isSrv; rw [h1, h2, h3, h4, h5, h6, h7]; simp
  have hc : IntKind.i64.wrap ((s.Queue.list.length : Int) + (s.Done.list.length : Int)) = ((s.Queue.list.length + s.Done.list.length : Nat) : Int) := by rw [wrap64 (by omega) (by omega)]; omega
  simp [hc, -Int.natCast_add]
  generalize hn : s.Queue.list.length + s.Done.list.length = n at fin hc
  refine loop_drop s.Queue.list.length (fun i e H c' => e 1 = .ptr 0 c 8 0 0 ∧ e 3 = .int .i64 n ∧ e 62 = s.Queue.av 5 TJob.enc ∧ e 63 = .int .i64 s.Queue.list.length ∧ e 64 = .int .i64 i ∧ allI (fun _ => jobOk) 0 s.Queue.list = allI (fun _ => jobOk) i (s.Queue.list.drop i) ∧ H = [⟨false, c, 8, [s.enc]⟩]) ⟨by simp [upd], by simp [upd, -Int.natCast_add], by simp [upd], by simp [upd], by simp [upd], by simp, rfl⟩ ?_
  intro i e H c' hi ⟨e1, e3, e62, e63, e64, hA, hH⟩ N hN
  subst hH
  by_cases h : i < s.Queue.list.length
  · have hg : s.Queue.list[i]? = some s.Queue.list[i] := List.getElem?_eq_getElem h
    have hal := allI_step (p := fun _ => jobOk) h
    have hxo := s4.2 _ (List.getElem_mem h)
    generalize s.Queue.list[i] = x at hg hal hxo
    have hstep : IntKind.i64.wrap ((i : Int) + 1) = ((i + 1 : Nat) : Int) := by rw [step64 s4.1 h]; rfl
    simp [e1, e3, e62, e63, e64, h, getW_of hg, putA]
    refine call_fn0 (impl_job hxo) .bool fun _ _ => ?_
    cases hwk : jobOk x
    · simp [e1, e3, e62, e63, e64, h]
      exact fin_plain ⟨by rw [fin, hA, hal, hwk]; simp, rfl⟩
    simp [e1, e3, e62, e63, e64, h, hstep]
    exact hN _ _ _ _ h (sub_one _ _) ⟨by simp [upd, e1], by simp [upd, e3], by simp [upd, e62], by simp [upd, e63], by simp [upd], by rw [hA, hal, hwk, Bool.true_and], rfl⟩
  rw [allI_end h] at hA
  simp only [hA, Bool.true_and, Bool.and_true] at fin
  clear hA hN
  simp [e1, e3, e62, e63, e64, h]
  refine loop_drop s.Workers.list.length (fun i e H c' => e 1 = .ptr 0 c 8 0 0 ∧ e 3 = .int .i64 (n + (s.Workers.list.take i).countP busy : Nat) ∧ e 73 = s.Workers.av 9 TWorker.enc ∧ e 74 = .int .i64 s.Workers.list.length ∧ e 75 = .int .i64 i ∧ allI (workOk s.Sessions.list) 0 s.Workers.list = allI (workOk s.Sessions.list) i (s.Workers.list.drop i) ∧ H = [⟨false, c, 8, [s.enc]⟩]) ⟨by simp [upd, e1], by simp [upd, e3, -Int.natCast_add], by simp [upd], by simp [upd], by simp [upd], by simp, rfl⟩ ?_
  clear e1 e3 e62 e63 e64 h
  intro i e H c' hi ⟨e1, e3, e73, e74, e75, hA, hH⟩ N hN
  subst hH
  by_cases h : i < s.Workers.list.length
  · have hg : s.Workers.list[i]? = some s.Workers.list[i] := List.getElem?_eq_getElem h
    have hst := count_step busy s.Workers.list h
    have hal := allI_step (p := workOk s.Sessions.list) h
    have hle : (s.Workers.list.take i).countP busy ≤ i := Nat.le_trans List.countP_le_length (by simp; omega)
    have hxz : s.Workers.list[i].sz ≤ 1048576 := by have := szL_mem (sz := TWorker.sz) (List.getElem_mem h); omega
    generalize s.Workers.list[i] = x at hg hst hal hxz
    generalize (s.Workers.list.take i).countP busy = b at e3 hst hle
    have hstep : IntKind.i64.wrap ((i : Int) + 1) = ((i + 1 : Nat) : Int) := by rw [step64 s5.1 h]; rfl
    have hw : IntKind.i64.wrap (((n + b : Nat) : Int) + (if decide (x.State = 1) = true then 1 else 0)) = ((n + (b + (if busy x then 1 else 0)) : Nat) : Int) := by unfold busy; rw [wrap64 (by split <;> omega) (by split <;> omega)]; split <;> omega
    simp [e1, e3, e73, e74, e75, h, getW_of hg, putA, -Int.natCast_add]
    refine call_fn0 (impl_worker s5 s3.1 hxz hg) .bool fun _ _ => ?_
    cases hwk : workOk s.Sessions.list i x
    · simp [e1, e3, e73, e74, e75, h, -Int.natCast_add]
      exact fin_plain ⟨by rw [fin, hA, hal, hwk]; simp, rfl⟩
    simp [e1, e3, e73, e74, e75, h, -Int.natCast_add]
    refine call_fn0 (boolNum_fn _) .int fun _ _ => ?_
    simp [e1, e3, e73, e74, e75, h, hstep, -Int.natCast_add]
    exact hN _ _ _ _ h (sub_one _ _) ⟨by simp [upd, e1], by simp [upd, hst, -Int.natCast_add]; simpa [-Int.natCast_add] using hw, by simp [upd, e73], by simp [upd, e74], by simp [upd, -Int.natCast_add], by rw [hA, hal, hwk, Bool.true_and], rfl⟩
  rw [allI_end h] at hA
  have hie : i = s.Workers.list.length := by omega
  subst hie
  rw [List.take_length] at e3
  simp only [hA, Bool.true_and, Bool.and_true] at fin
  generalize hq : (n + s.Workers.list.countP busy) = t at e3 fin
  clear hA hN
  obtain ⟨m, hm⟩ : ∃ m : Nat, s.Next = m := ⟨s.Next.toNat, by have := (inR_true h6).1; omega⟩
  have hm20 : m ≤ 20 := by have := (inR_true h6).2; omega
  rw [hm, Int.toNat_natCast] at fin
  simp [e1, e3, e73, e74, e75, -Int.natCast_add]
  refine loop_drop m (fun i e H c' => e 1 = .ptr 0 c 8 0 0 ∧ e 3 = .int .i64 t ∧ e 8 = .int .i64 i ∧ allN (fun i => decide (jp s i = 1)) m 0 = allN (fun i => decide (jp s i = 1)) (m - i) i ∧ H = [⟨false, c, 8, [s.enc]⟩]) ⟨by simp [upd, e1], by simp [upd, e3], by simp [upd], by simp, rfl⟩ ?_
  clear e1 e3 e73 e74 e75 h
  intro i e H c' hi ⟨e1, e3, e10, hA, hH⟩ N hN
  subst hH
  by_cases h : i < m
  · have hal := allN_step (p := fun i => decide (jp s i = 1)) h
    have hstep : IntKind.i64.wrap ((i : Int) + 1) = ((i + 1 : Nat) : Int) := by rw [wrap64 (by omega) (by omega)]; rfl
    have h' : (i : Int) < m := by omega
    simp [e1, e3, e10, h, h', hm]
    refine call_fn0 (impl_jp (sz_srv hz)) .int fun _ _ => ?_
    by_cases hj : jp s i = 1
    · simp [e1, e3, e10, h, hj, hstep]
      exact hN _ _ _ _ h (List.Sublist.refl _) ⟨by simp [upd, e1], by simp [upd, e3], by simp [upd], by rw [hA, hal]; simp [hj], rfl⟩
    · simp [e1, e3, e10, h, hj, hstep]
      exact fin_plain ⟨by rw [fin, hA, hal]; simp [hj], rfl⟩
  rw [allN_end h] at hA
  simp only [hA, Bool.true_and, Bool.and_true] at fin
  clear hA hN
  simp [e1, e3, e10, h, hm]
  refine loop_drop s.Sessions.list.length (fun i e H c' => e 1 = .ptr 0 c 8 0 0 ∧ e 3 = .int .i64 t ∧ e 102 = s.Sessions.av 4 TSession.enc ∧ e 103 = .int .i64 s.Sessions.list.length ∧ e 104 = .int .i64 i ∧ allI (fun _ => sesHeld s.Workers.list) 0 s.Sessions.list = allI (fun _ => sesHeld s.Workers.list) i (s.Sessions.list.drop i) ∧ H = [⟨false, c, 8, [s.enc]⟩]) ⟨by simp [upd, e1], by simp [upd, e3], by simp [upd], by simp [upd], by simp [upd], by simp, rfl⟩ ?_
  clear e1 e3 e10 h
  intro i e H c' hi ⟨e1, e3, e102, e103, e104, hA, hH⟩ N hN
  subst hH
  by_cases h : i < s.Sessions.list.length
  · have hg : s.Sessions.list[i]? = some s.Sessions.list[i] := List.getElem?_eq_getElem h
    have hal := allI_step (p := fun _ => sesHeld s.Workers.list) h
    have hx0 := areS_holder h4 (List.getElem_mem h)
    generalize s.Sessions.list[i] = x at hg hal hx0
    have hstep : IntKind.i64.wrap ((i : Int) + 1) = ((i + 1 : Nat) : Int) := by rw [step64 s3.1 h]; rfl
    have bad : sesHeld s.Workers.list x = false → isSrv s = false := fun hb => by rw [fin, hA, hal, hb]; simp
    have good : sesHeld s.Workers.list x = true → allI (fun _ => sesHeld s.Workers.list) 0 s.Sessions.list = allI (fun _ => sesHeld s.Workers.list) (i + 1) (s.Sessions.list.drop (i + 1)) := fun hb => by rw [hA, hal, hb, Bool.true_and]
    rcases nat_or hx0 with hp | ⟨q, hp⟩
    · have k1 : ¬ ((s.Workers.list.length : Int) < 0) := by omega
      simp [e1, e3, e102, e103, e104, h, getW_of hg, putA, hp, k1, hstep]
      exact hN _ _ _ _ h (sub_one _ _) ⟨by simp [upd, e1], by simp [upd, e3], by simp [upd, e102], by simp [upd, e103], by simp [upd], good (by simp [sesHeld, hp]), rfl⟩
    by_cases hq : q < s.Workers.list.length
    rotate_left
    · have k1 : (s.Workers.list.length : Int) < (q : Int) + 1 := by omega
      have k3 : ¬ ((q : Int) + 1 ≤ s.Workers.list.length) := by omega
      have k4 : ¬ ((q : Int) + 1 = 0) := by omega
      simp [e1, e3, e102, e103, e104, h, getW_of hg, putA, hp, k1, k4, hstep]
      exact fin_plain ⟨by rw [bad (by simp [sesHeld, hp, k3, k4])], rfl⟩
    have hgw : s.Workers.list[q]? = some s.Workers.list[q] := List.getElem?_eq_getElem hq
    generalize s.Workers.list[q] = w at hgw
    have k1 : ¬ ((s.Workers.list.length : Int) < (q : Int) + 1) := by omega
    have k3 : (q : Int) + 1 ≤ s.Workers.list.length := by omega
    have k4 : ¬ ((q : Int) + 1 = 0) := by omega
    have k5 : IntKind.i64.wrap (q : Int) = q := wrap64 (by omega) (by omega)
    by_cases h8 : w.State = 1
    rotate_left
    · simp [e1, e3, e102, e103, e104, h, getW_of hg, putA, hp, k1, k4, k5, hq, hstep, getW_of hgw, h8]
      exact fin_plain ⟨by rw [bad (by simp [sesHeld, hp, k3, k4, hgw, h8])], rfl⟩
    by_cases h9 : w.Job.Session = x.Id
    rotate_left
    · simp [e1, e3, e102, e103, e104, h, getW_of hg, putA, hp, k1, k4, k5, hq, hstep, getW_of hgw, h8, h9]
      exact fin_plain ⟨by rw [bad (by simp [sesHeld, hp, k3, k4, hgw, h9])], rfl⟩
    simp [e1, e3, e102, e103, e104, h, getW_of hg, putA, hp, k1, k4, k5, hq, hstep, getW_of hgw, h8, h9]
    exact hN _ _ _ _ h (sub_one _ _) ⟨by simp [upd, e1], by simp [upd, e3], by simp [upd, e102], by simp [upd, e103], by simp [upd], good (by simp [sesHeld, hp, k3, k4, hgw, h8, h9]), rfl⟩
  rw [allI_end h] at hA
  simp only [hA, Bool.true_and, Bool.and_true] at fin
  clear hA hN
  simp [e1, e3, e102, e103, e104, h]
  refine loop_drop s.Lines.list.length (fun i e H c' => e 1 = .ptr 0 c 8 0 0 ∧ e 3 = .int .i64 t ∧ e 146 = s.Lines.av 4 TLine.enc ∧ e 147 = .int .i64 s.Lines.list.length ∧ e 148 = .int .i64 i ∧ allI (fun _ => lineHeld s.Workers.list) 0 s.Lines.list = allI (fun _ => lineHeld s.Workers.list) i (s.Lines.list.drop i) ∧ H = [⟨false, c, 8, [s.enc]⟩]) ⟨by simp [upd, e1], by simp [upd, e3], by simp [upd], by simp [upd], by simp [upd], by simp, rfl⟩ ?_
  clear e1 e3 e102 e103 e104 h
  intro i e H c' hi ⟨e1, e3, e146, e147, e148, hA, hH⟩ N hN
  subst hH
  by_cases h : i < s.Lines.list.length
  · have hg : s.Lines.list[i]? = some s.Lines.list[i] := List.getElem?_eq_getElem h
    have hal := allI_step (p := fun _ => lineHeld s.Workers.list) h
    have hx0 := areL_owner h2 (List.getElem_mem h)
    generalize s.Lines.list[i] = x at hg hal hx0
    have hstep : IntKind.i64.wrap ((i : Int) + 1) = ((i + 1 : Nat) : Int) := by rw [step64 s2 h]; rfl
    have bad : lineHeld s.Workers.list x = false → isSrv s = false := fun hb => by rw [fin, hA, hal, hb]; simp
    have good : lineHeld s.Workers.list x = true → allI (fun _ => lineHeld s.Workers.list) 0 s.Lines.list = allI (fun _ => lineHeld s.Workers.list) (i + 1) (s.Lines.list.drop (i + 1)) := fun hb => by rw [hA, hal, hb, Bool.true_and]
    by_cases hS : x.Seq ≤ 1000000000
    rotate_left
    · have hS' : 1000000000 < x.Seq := by omega
      simp [e1, e3, e146, e147, e148, h, getW_of hg, putA, hstep, hS']
      exact fin_plain ⟨by rw [bad (by simp [lineHeld, hS, hS'])], rfl⟩
    have hS' : ¬ (1000000000 < x.Seq) := by omega
    rcases nat_or hx0 with hp | ⟨q, hp⟩
    · simp [e1, e3, e146, e147, e148, h, getW_of hg, putA, hp, hstep, hS']
      exact hN _ _ _ _ h (sub_one _ _) ⟨by simp [upd, e1], by simp [upd, e3], by simp [upd, e146], by simp [upd, e147], by simp [upd], good (by simp [lineHeld, hp, hS]), rfl⟩
    by_cases hq : q < s.Workers.list.length
    rotate_left
    · have k1 : (s.Workers.list.length : Int) < (q : Int) + 1 := by omega
      have k3 : ¬ ((q : Int) + 1 ≤ s.Workers.list.length) := by omega
      have k4 : ¬ ((q : Int) + 1 = 0) := by omega
      simp [e1, e3, e146, e147, e148, h, getW_of hg, putA, hp, k1, k4, hstep, hS']
      exact fin_plain ⟨by rw [bad (by simp [lineHeld, hp, k3, k4])], rfl⟩
    have hgw : s.Workers.list[q]? = some s.Workers.list[q] := List.getElem?_eq_getElem hq
    generalize s.Workers.list[q] = w at hgw
    have k1 : ¬ ((s.Workers.list.length : Int) < (q : Int) + 1) := by omega
    have k3 : (q : Int) + 1 ≤ s.Workers.list.length := by omega
    have k4 : ¬ ((q : Int) + 1 = 0) := by omega
    have k5 : IntKind.i64.wrap (q : Int) = q := wrap64 (by omega) (by omega)
    by_cases h8 : w.State = 2
    rotate_left
    · simp [e1, e3, e146, e147, e148, h, getW_of hg, putA, hp, k1, k4, k5, hq, hstep, getW_of hgw, h8, hS']
      exact fin_plain ⟨by rw [bad (by simp [lineHeld, hp, k3, k4, hgw, h8])], rfl⟩
    simp [e1, e3, e146, e147, e148, h, getW_of hg, putA, hp, k1, k4, k5, hq, hstep, getW_of hgw, h8, hS']
    exact hN _ _ _ _ h (sub_one _ _) ⟨by simp [upd, e1], by simp [upd, e3], by simp [upd, e146], by simp [upd, e147], by simp [upd], good (by simp [lineHeld, hp, k3, k4, hgw, h8, hS]), rfl⟩
  rw [allI_end h] at hA
  simp only [hA, Bool.true_and, Bool.and_true] at fin
  simp [e1, e3, e146, e147, e148, h, hm]
  exact fin_plain ⟨by rw [fin], rfl⟩

/-! ### of one content -/
theorem mapF (l : List TFile) : l.map TFile.con = l := List.map_id' l
theorem mapS (l : List TSession) : l.map TSession.con = l := List.map_id' l
theorem mapP (l : List TPair) : l.map TPair.con = l := List.map_id' l
theorem jobOk_con (x : TJob) : jobOk x.con = jobOk x := by
  have : isReq x.con.Request = isReq x.Request := isReq_con (by simp [TJob.con, TRequest.con, SL.con, mapP])
  unfold jobOk; rw [this]; rfl
theorem workOk_con (l : List TSession) (i : Nat) (x : TWorker) : workOk l i x.con = workOk l i x := by
  have e1 : x.con.Files.list = x.Files.list := mapF _
  have e2 : x.con.Job.Request.Query.list = x.Job.Request.Query.list := mapP _
  have e3 : x.con.Job.Request.Cookies.list = x.Job.Request.Cookies.list := mapP _
  have e4 : jobOk x.con.Job = jobOk x.Job := jobOk_con x.Job
  have e5 : idleOk x.con = idleOk x := by unfold idleOk; rw [e1, e2, e3]; rfl
  unfold workOk; rw [e1, e4, e5]; rfl
theorem sesHeld_con (l : List TWorker) (x : TSession) : sesHeld (l.map TWorker.con) x = sesHeld l x := by
  unfold sesHeld; rw [List.length_map, List.getElem?_map, Option.any_map]; rfl
theorem lineHeld_con (l : List TWorker) (x : TLine) : lineHeld (l.map TWorker.con) x.con = lineHeld l x := by
  unfold lineHeld; rw [List.length_map, List.getElem?_map, Option.any_map]; rfl
theorem jp_con (s : TServer) (i : Int) : jp s.con i = jp s i := by
  show ((((s.Queue.list.map TJob.con).countP (qP i) + (s.Workers.list.map TWorker.con).countP (wP i) + (s.Done.list.map TAnswer.con).countP (aP i) : Nat)) : Int) = _
  rw [List.countP_map, List.countP_map, List.countP_map]; rfl
theorem isSrv_con {a b : TServer} (h : a.con = b.con) : isSrv a = isSrv b := by
  have key : ∀ s : TServer, isSrv s.con = isSrv s := fun s => by
    have e1 : s.con.Files.list = s.Files.list := mapF _
    have e2 : s.con.Lines.list = s.Lines.list.map TLine.con := rfl
    have e3 : s.con.Sessions.list = s.Sessions.list := mapS _
    have e4 : s.con.Queue.list = s.Queue.list.map TJob.con := rfl
    have e5 : s.con.Workers.list = s.Workers.list.map TWorker.con := rfl
    have e6 : s.con.Done.list = s.Done.list.map TAnswer.con := rfl
    have e7 : (fun i : Nat => decide (jp s.con i = 1)) = fun i : Nat => decide (jp s i = 1) := by funext i; rw [jp_con]
    have e8 : areLines (s.Lines.list.map TLine.con) = areLines s.Lines.list := by unfold areLines; rw [List.all_map, List.length_map]; rfl
    have f1 : allI (workOk s.Sessions.list) 0 (s.Workers.list.map TWorker.con) = allI (workOk s.Sessions.list) 0 s.Workers.list := allI_map _ _ _ (fun i x => workOk_con _ i x) _ _
    have f2 : allI (fun _ => jobOk) 0 (s.Queue.list.map TJob.con) = allI (fun _ => jobOk) 0 s.Queue.list := allI_map _ _ _ (fun i x => jobOk_con x) _ _
    have f3 : (fun _ : Nat => sesHeld (s.Workers.list.map TWorker.con)) = fun _ : Nat => sesHeld s.Workers.list := by funext _ x; exact sesHeld_con _ x
    have f4 : allI (fun _ => lineHeld (s.Workers.list.map TWorker.con)) 0 (s.Lines.list.map TLine.con) = allI (fun _ => lineHeld s.Workers.list) 0 s.Lines.list := allI_map _ _ _ (fun i x => lineHeld_con _ x) _ _
    unfold isSrv
    rw [e1, e2, e3, e4, e5, e6, e7, e8, f1, f2, f3, f4, List.length_map, List.length_map, List.length_map, List.length_map, List.countP_map]
    rfl
  rw [← key a, h, key b]

end A
end Go.Proofs.YtknpgemlpbclkaaGreatDoor

/-
  IsServer: the law answers true. No condition.
-/

namespace Go.Proofs.YtknpgemlpbclkaaGreatDoor
namespace A
set_option linter.unusedVariables false
set_option linter.unusedSimpArgs false
set_option maxRecDepth 100000

theorem sl_from {α : Type} (c w : Nat) (enc : α → List AV) (l : List α) (h : ∀ x a, a ∈ enc x → From c a) : From c ((SL.mk c l).av w enc) := by
  refine from_slc (Nat.le_refl _) fun row hr y hy => ?_
  obtain ⟨x, _, rfl⟩ := List.mem_map.1 hr
  exact h x y hy
theorem sl_at {α : Type} (c w : Nat) (enc : α → List AV) (f : α → α) (l : List α) (h : ∀ x a, a ∈ enc (f x) → From c a) : From c ((SL.mk c (l.map f)).av w enc) := by
  refine from_slc (Nat.le_refl _) fun row hr y hy => ?_
  obtain ⟨x, hx, rfl⟩ := List.mem_map.1 hr
  obtain ⟨z, _, rfl⟩ := List.mem_map.1 hx
  exact h z y hy
def TLine.at (c : Nat) (x : TLine) : TLine := { x with Words := .mk c x.Words.list }
def TJob.at (c : Nat) (x : TJob) : TJob := { x with Request := x.Request.at c }
def TWorker.at (c : Nat) (x : TWorker) : TWorker := { x with Job := x.Job.at c, Files := .mk c x.Files.list }
def TAnswer.at (c : Nat) (x : TAnswer) : TAnswer := { x with Files := .mk c x.Files.list, Request := x.Request.at c, Response := { x.Response with Headers := .mk c x.Response.Headers.list } }
def TServer.at (c : Nat) (s : TServer) : TServer := ⟨.mk c s.Files.list, .mk c (s.Lines.list.map (TLine.at c)), .mk c s.Sessions.list, .mk c (s.Queue.list.map (TJob.at c)), .mk c (s.Workers.list.map (TWorker.at c)), .mk c (s.Done.list.map (TAnswer.at c)), s.Next, s.Now⟩
theorem TServer.at_con (c : Nat) (s : TServer) : (s.at c).con = s.con := by
  have e1 : (TLine.con ∘ TLine.at c) = TLine.con := rfl
  have e2 : (TJob.con ∘ TJob.at c) = TJob.con := rfl
  have e3 : (TWorker.con ∘ TWorker.at c) = TWorker.con := rfl
  have e4 : (TAnswer.con ∘ TAnswer.at c) = TAnswer.con := rfl
  unfold TServer.con TServer.at SL.con
  simp only [SL.list_mk, List.map_map, e1, e2, e3, e4]
theorem file_from (c : Nat) (l : List TFile) : From c ((SL.mk c l).av 3 TFile.enc) := sl_from c 3 _ l fun x a ha => by
  simp [TFile.enc] at ha
  rcases ha with rfl | rfl | rfl <;> simp
theorem job_at_from (c : Nat) (x : TJob) : ∀ a, a ∈ (x.at c).enc → From c a := fun a ha => by
  simp [TJob.enc, TJob.at, TRequest.at] at ha
  rcases ha with rfl | rfl | rfl | rfl | rfl
  · simp
  · simp
  · exact pairs_from c _
  · exact pairs_from c _
  · simp
theorem worker_at_from (c : Nat) (x : TWorker) : ∀ a, a ∈ (x.at c).enc → From c a := fun a ha => by
  simp [TWorker.enc, TWorker.at, TJob.at, TRequest.at] at ha
  rcases ha with rfl | rfl | rfl | rfl | rfl | rfl | rfl | rfl | rfl
  · simp
  · simp
  · simp
  · exact pairs_from c _
  · exact pairs_from c _
  · simp
  · simp
  · exact file_from c _
  · simp
theorem answer_at_from (c : Nat) (x : TAnswer) : ∀ a, a ∈ (x.at c).enc → From c a := fun a ha => by
  simp [TAnswer.enc, TAnswer.at, TRequest.at] at ha
  rcases ha with rfl | rfl | rfl | rfl | rfl | rfl | rfl | rfl | rfl | rfl | rfl
  · simp
  · simp
  · exact file_from c _
  · simp
  · exact pairs_from c _
  · exact pairs_from c _
  · simp
  · simp
  · exact sl_from c 2 _ _ fun x a ha => by
      simp [THeader.enc] at ha
      rcases ha with rfl | rfl <;> simp
  · simp
  · simp
theorem TServer.at_from (c : Nat) (s : TServer) : From c (.agg (s.at c).enc) := from_agg fun x hx => by
  simp [TServer.enc, TServer.at] at hx
  rcases hx with rfl | rfl | rfl | rfl | rfl | rfl | rfl | rfl
  · exact file_from c _
  · exact sl_at c 4 _ _ _ fun x a ha => by
      simp [TLine.enc, TLine.at] at ha
      rcases ha with rfl | rfl | rfl | rfl
      · simp
      · simp
      · simp
      · exact sl_from c 1 _ _ fun x a ha => by
          simp [encI] at ha
          subst ha; simp
  · exact sl_from c 4 _ _ fun x a ha => by
      simp [TSession.enc] at ha
      rcases ha with rfl | rfl | rfl | rfl <;> simp
  · exact sl_at c 5 _ _ _ (job_at_from c)
  · exact sl_at c 9 _ _ _ (worker_at_from c)
  · exact sl_at c 11 _ _ _ (answer_at_from c)
  · simp
  · simp
def SrvV (a : TServer) (v : AV) : Prop := ∃ b : TServer, v = .agg b.enc ∧ b.con = a.con
theorem SrvV_some (a : TServer) (c : Nat) : ∃ r, SrvV a r ∧ From c r := ⟨_, ⟨a.at c, rfl, a.at_con c⟩, a.at_from c⟩
theorem law_isSrv {a : TServer} (ha : a.ok) (c : Nat) : Con Tryz.prog 3 [.agg a.enc] [] c fun r H' _ => r = .bool true ∧ H' = [] := by
  refine con_of c3 (by simp [F3]) ?_
  unfold F3
  simp
  refine call_fn0 (TServer.sz_fn ha ⟨by omega, by omega⟩) .int fun _ _ => ?_
  simp
  refine ⟨fun _ => fin_plain ⟨rfl, rfl⟩, fun h1 => ?_⟩
  obtain ⟨h1', h1''⟩ := szOf_ge h1
  have hz : ∀ x : TServer, x.con = a.con → x.sz ≤ 1048576 := fun x hx => by rw [← x.sz_con, hx, a.sz_con]; omega
  refine call_tree0 (TServer.to_fn (hz a rfl)) fun r1 _ _ ⟨a1, e1, q1⟩ _ => ?_
  subst e1
  simp
  refine call_fn0 (spec_isSrv (hz _ q1)) .bool fun _ _ => ?_
  simp
  refine call_tree0 (TServer.to_fn (hz a rfl)) fun r2 _ _ ⟨a2, e2, q2⟩ _ => ?_
  subst e2
  simp [putA]
  refine call_fn0 (impl_isSrv (hz _ q2)) .bool fun _ _ => ?_
  rw [isSrv_con q1, isSrv_con q2]
  simp
  refine ⟨fun d v => if d = 24 then SrvV a v else v = .bool true, ?_⟩
  simp
  refine callD_tree0 (TServer.to_fn (hz a rfl)) (SrvV_some a _) fun r3 ⟨a3, e3, q3⟩ _ => ?_
  subst e3
  simp
  refine callD_fn0 (TServer.eq_fn (by have := hz _ q2; omega) (q2.trans q3.symm)) (fun v => Iff.rfl) (by simp) ?_
  simp
  intro c2 _
  exact fin_plain ⟨rfl, rfl⟩
end A
end Go.Proofs.YtknpgemlpbclkaaGreatDoor

/-
  The wrap of a row that lists package variables, the world's shape kept. No condition.
-/


namespace Go.Proofs.YtknpgemlpbclkaaGreatDoor
namespace A
open Go.RowKit
set_option linter.unusedVariables false
section
variable {H : Type} {enc : TypeId × Value → H}
theorem returns_shaped {a : Assume} {C : Checked} {os : Os} {f : FuncId} {fn : Func} {s : ChangeSpec} {conds : List PathCond} {apart fresh handsOn again : Bool} {X : World → Array Value → Prop}
    (hX : ∀ (w w' : World) (args : Array Value), w.heap = w'.heap → X w args → X w' args)
    (own : ownKnob C.prog.godebug = none) (started : os.Started) (noInit : C.prog.inits.idxOf? f = none) (hfn : C.prog.funcs[f]? = some fn)
    (witness : ∃ (w : World) (tape : Tape) (i : Input), w.os = os ∧ (w.forCall tape i).Shaped C.prog ∧ i.vars = [] ∧ Input.okWide C.prog (w.forCall tape i) .any w.heap.size f i ∧
      ((s.pre enc C.prog fn conds apart (w.forCall tape i).memory i.args ∧ X (w.forCall tape i).memory i.args) ∧ sizedMet enc C.prog fn (OpenSpec.ofChange s) apart (w.forCall tape i).memory i.args) ∧ a.holds C.prog (lone (Frame.enter C.prog f i.args .normal) [] (w.forCall tape i)))
    (contract : ∀ (W : World) (base : Nat) (args : Array Value) (ds gs : List (DataW H)) (before : List MemPlace),
      (∀ (j : Nat) t v, fn.params[j]? = some t → args[j]? = some v → Value.okWide C.prog W .any base t v) →
      DataW.Whole enc C.prog fn.params.toList s.vars apart W args.toList ds gs before →
      conds.all (PathCond.test C.prog ⟨fn.params.toList, ds, s.plain.varTypes C.prog, gs⟩) = true → X W args → W.ShapedOpen C.prog →
      Calls C.prog f args W fun e W' => ∃ v, e = .returned v ∧ s.post enc C.prog fn apart fresh handsOn again W args v W') :
    ReturnsInHanded a C os f .any (fun w args => (s.pre enc C.prog fn conds apart w args ∧ X w args) ∧ sizedMet enc C.prog fn (OpenSpec.ofChange s) apart w args) (s.post enc C.prog fn apart fresh handsOn again) := by
  refine returnsInHanded_of_calls own started noInit witness ?_
  intro w tape i _ hsh _ hok hpre _
  obtain ⟨_, _, _, fn', hfn', _, _, _, _, hval⟩ := hok
  have e : fn' = fn := Option.some.inj (hfn'.symm.trans hfn)
  subst e
  obtain ⟨⟨⟨ds, gs, before, hw, hc⟩, hx⟩, _⟩ := hpre
  refine (contract (w.forCall tape i) w.heap.size i.args ds gs before hval (DataW.Whole.of_heap (w' := w.forCall tape i) (by rfl) hw) hc (hX _ _ _ (by rfl) hx) hsh).mono fun e W' ⟨v, he, hp⟩ => ?_
  subst he
  exact ChangeSpec.post_blind hp
end
theorem cell_block {w : World} {m : Int} (hm : w.cell? ⟨0, 0, none⟩ = some (.int .i64 m)) : 0 < w.heap.size ∧ ∃ c t fr, w.heap[0]? = some (.cells c t fr) ∧ c[0]? = some (Value.int .i64 m) := by
  rw [cell?_eq] at hm
  unfold hcell at hm
  split at hm
  · rename_i c t fr hc
    exact ⟨(Array.getElem?_eq_some_iff.1 hc).1, c, t, fr, hc, hm⟩
  · cases hm
end A
end Go.Proofs.YtknpgemlpbclkaaGreatDoor

/-
  Facts of the whole program that every row of the seat asks, each worked out once. No condition.
-/


namespace Go.Proofs.YtknpgemlpbclkaaGreatDoor.Closed
open Go.ChangeShapes Go.WideShapes Go.RowKit
theorem heard : Tryz.pinned.checked.prog.stopsHeard = true := by kernel_rfl
theorem enter : Tryz.pinned.checked.prog.mayEnter = true := by kernel_rfl
theorem make : Tryz.pinned.checked.prog.make = some Rows.fnExactIsServerRow.make := by kernel_rfl
theorem lifts : Tryz.pinned.checked.prog.liftsFinal = Rows.fnExactIsServerRow.lifted := by kernel_rfl
end Go.Proofs.YtknpgemlpbclkaaGreatDoor.Closed

/-
  FnExactIsServer: the program's and the reference's give the same, for all arguments. No condition.
-/














namespace Go.Proofs.YtknpgemlpbclkaaGreatDoor.fnExactIsServer
open Go.ChangeShapes Go.WideShapes Go.ChangeAt Go.RowKit
open Go.Proofs.YtknpgemlpbclkaaGreatDoor.A
set_option linter.unusedVariables false

theorem own : ownKnob Tryz.prog.godebug = none := by kernel_rfl

def types : List TypeId := [29, 22, 113, 9, 3, 23, 115, 77, 24, 117, 25, 120, 45, 43, 152, 26, 123, 27, 129, 127, 125, 202, 4]

set_option maxRecDepth 100000 in
theorem lifted (os : Os) (started : os.Started) (H : Type) (enc : TypeId × Value → H) :
    ReturnsInHanded {} Tryz.checked os 3 .any (fun w args => (Rows.fnExactIsServerSpec.pre enc Tryz.prog Tryz.f3 Rows.fnExactIsServerRow.domain false w args ∧ laidMetH Tryz.prog Rows.fnExactIsServerRow.laid w) ∧ sizedMet enc Tryz.prog Tryz.f3 (OpenSpec.ofChange Rows.fnExactIsServerSpec) false w args) (Rows.fnExactIsServerSpec.post enc Tryz.prog Tryz.f3 false true false false) := by
  refine A.returns_shaped (C := Tryz.checked) (X := fun w _ => laidMetH Tryz.prog Rows.fnExactIsServerRow.laid w) (fun _ _ _ hh h => h.of_heap hh) own started (by kernel_rfl) Tryz.func3
    (ChangeSpec.witness_shaped (enc := enc) (C := Tryz.checked) (os := os) (X := fun w _ => laidMetH Tryz.prog Rows.fnExactIsServerRow.laid w) false (World.laidAll Tryz.prog os Rows.fnExactIsServerRow.laid) #[.agg #[.slice none 0 0, .slice none 0 0, .slice none 0 0, .slice none 0 0, .slice none 0 0, .slice none 0 0, .int .i64 0, .int .i64 0]] 8 (World.laidAll_os _ _ _)
      (World.shaped_of_ZipB (by kernel_rfl) (by kernel_rfl)) (by kernel_rfl) (by kernel_rfl) (by kernel_rfl)
      (by rw [MakeChecks.laidMetH_plain _ _ _ (by kernel_rfl)]; exact laidMet_laidAll _ (by kernel_rfl) (by kernel_rfl))) ?_
  intro W base args ds gs before hval0 hW hcnd hL hsh
  obtain ⟨m, hm⟩ := Tryz.laysM146.s1_3 W hsh
  have hg : ∀ b, b < NB → b < W.heap.size ∧ GL b W.heap[b]? := by
    obtain ⟨h0, c, t, fr, hc, hcm⟩ := cell_block hm
    intro b hb
    have hb0 : b = 0 := Nat.lt_one_iff.1 hb
    subst hb0
    exact ⟨h0, c, t, fr, m, hc, hcm⟩
  have hval : ∀ (j : Nat) t v, Tryz.f3.params[j]? = some t → args[j]? = some v → Value.okWide Tryz.prog W .any base t v := hval0
  refine law_post (rs := types) (bt := 4) (by kernel_rfl) (by kernel_rfl) (fun t ht => ?_) Tryz.underlying4 (by kernel_rfl) rfl (fun ds hds => ?_) hW hval (fun l has => ?_) hg
  · rw [Tryz.params3] at ht
    simp at ht
    first
      | (subst ht; exact ⟨by simp [types], by kernel_rfl, of_decide_eq_true (by kernel_rfl)⟩)
      | (rcases ht with rfl | rfl <;> exact ⟨by simp [types], by kernel_rfl, of_decide_eq_true (by kernel_rfl)⟩)
      | (rcases ht with rfl | rfl | rfl <;> exact ⟨by simp [types], by kernel_rfl, of_decide_eq_true (by kernel_rfl)⟩)
      | (rcases ht with rfl | rfl | rfl | rfl <;> exact ⟨by simp [types], by kernel_rfl, of_decide_eq_true (by kernel_rfl)⟩)
      | (rcases ht with rfl | rfl | rfl | rfl | rfl <;> exact ⟨by simp [types], by kernel_rfl, of_decide_eq_true (by kernel_rfl)⟩)
      | (rcases ht with rfl | rfl | rfl | rfl | rfl | rfl <;> exact ⟨by simp [types], by kernel_rfl, of_decide_eq_true (by kernel_rfl)⟩)
  · rw [← Array.length_toList, Tryz.params3] at hds
    match ds, hds with
    | [d0], _ => exact ⟨rfl, rfl, rfl⟩
  · rw [Tryz.params3] at has
    cases has with
    | cons h0 has =>
      cases has
      obtain ⟨n0, h0⟩ := h0
      rw [if_pos (by decide)] at h0
      obtain ⟨as0, rfl, h0⟩ := h0
      obtain ⟨s0, rfl, k0⟩ := TServer.sh _ _ h0
      exact A.law_isSrv k0 _

set_option maxHeartbeats 4000000 in
theorem facts : joinedFacts Tryz.pinned.checked.prog 3 Tryz.f3 Rows.fnExactIsServerSpec Rows.fnExactIsServerRow = true := by
  unfold joinedFacts
  rw [Closed.heard, Closed.enter, Closed.lifts, Closed.make]
  simp only [Bool.and_eq_true]
  iterate 6 (refine ⟨?_, by as_aux_lemma => kernel_rfl⟩)
  refine ⟨⟨?_, trivial⟩, trivial⟩
  iterate 23 (refine ⟨?_, by as_aux_lemma => kernel_rfl⟩)
  kernel_rfl
theorem named : Tryz.pinned.checked.prog.funcNamed Rows.fnExactIsServerRow.func = some 3 := by kernel_rfl
theorem inst : Tryz.f3.isInstance Tryz.pinned.checked.prog Rows.fnExactIsServerRow.origin Rows.fnExactIsServerRow.targs := of_decide_eq_true (by kernel_rfl)
theorem wrap : Tryz.f3.isWrapper Tryz.pinned.checked.prog Rows.fnExactIsServerRow.wrapper Rows.fnExactIsServerRow.mainSum := by
  unfold Func.isWrapper
  first
    | (rw [if_pos (by decide +kernel)]; kernel_rfl)
    | (rw [if_neg (by decide +kernel)]; exact ⟨rfl, rfl⟩)

theorem over : Rows.fnExactIsServerRow.holds Tryz.pinned (OpenSpec.ofChange Rows.fnExactIsServerSpec) :=
  OpenClaim.holds_of_wide 3 Tryz.f3 rfl rfl rfl rfl rfl rfl rfl ⟨rfl, rfl, rfl, rfl, rfl⟩ rfl rfl rfl rfl rfl named Tryz.func3 facts inst wrap
    (fun os started H enc _ => lifted os started H enc)

theorem row : Rows.FnExactIsServerSaid := over
/-- THE STATEMENT -/
theorem proved : Rows.FnExactIsServerCardSaid :=
  Claim7.holds_tied_plain_at .later [] [.data, .pinned] true Rows.fnExactIsServerCard.stood.harness false row (fun _ h => by cases h) (by kernel_rfl) (fun _ h => by cases h) fnExactIsServer_row_tie rfl ⟨rfl, rfl⟩ (by kernel_rfl) rfl
    (fun f fn hf hfn => by
      obtain rfl : f = 3 := Option.some.inj (named.symm.trans hf) |>.symm
      obtain rfl : fn = Tryz.f3 := (Option.some.inj (Tryz.func3.symm.trans hfn)).symm
      exact ⟨by kernel_rfl, fun j t ht => by
        rw [Tryz.params3] at ht
        have hm : t ∈ [29] := by simpa using Array.mem_of_getElem? ht
        have hall : ([29].all fun u => !Tryz.prog.wantsStandIn u) = true := by kernel_rfl
        exact (show Tryz.prog.wantsStandIn t = false by simpa using List.all_eq_true.1 hall t hm)⟩)
    (by kernel_rfl)
#print axioms proved
end Go.Proofs.YtknpgemlpbclkaaGreatDoor.fnExactIsServer
