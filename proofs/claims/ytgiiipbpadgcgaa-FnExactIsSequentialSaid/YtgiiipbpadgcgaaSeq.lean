/-
  IsSequential of the reference and of the program are the same plain function of the answers, and the law answers true. No condition.
-/
import Derived.Test.YtgiiipbpadgcgaaTAns
import Derived.Test.YtgiiipbpadgcgaaBase
namespace Go.Proofs.Ytgiiipbpadgcgaa
namespace A
set_option linter.unusedVariables false
set_option linter.unusedSimpArgs false
set_option maxRecDepth 100000

@[reducible] def Bs := List UInt8
/-- What the last answer of a session left. -/
def lastA (s : Bs) (l : List TAnswer) : Option Bs := l.foldl (fun acc x => if x.Session = s then some x.After else acc) none
theorem lastA_app (s : Bs) (l : List TAnswer) (x : TAnswer) : lastA s (l ++ [x]) = if x.Session = s then some x.After else lastA s l := by simp [lastA]
theorem lastA_step {s : Bs} {l : List TAnswer} {i : Nat} (h : i < l.length) : lastA s (l.take (i + 1)) = if l[i].Session = s then some l[i].After else lastA s (l.take i) := by
  rw [List.take_succ_eq_append_getElem h, lastA_app]
def okA (pre : List TAnswer) (x : TAnswer) : Bool := decide (x.Before = []) || (!decide (x.Session = []) && decide (lastA x.Session pre = some x.Before))
def seqA : List TAnswer → List TAnswer → Bool
  | _, [] => true
  | pre, x :: r => okA pre x && seqA (pre ++ [x]) r
theorem seqA_step {l : List TAnswer} {i : Nat} (h : i < l.length) : seqA (l.take i) (l.drop i) = (okA (l.take i) l[i] && seqA (l.take (i + 1)) (l.drop (i + 1))) := by
  rw [List.drop_eq_getElem_cons h, seqA, List.take_succ_eq_append_getElem h]

theorem last_fn {s : SL TAnswer} {k : Nat} (hn : s.list.length ≤ 1048576) (hk : k < s.list.length) :
    Fnc Try.prog 124 [s.av 11 TAnswer.enc, .int .i64 k] (.tup [.str ((lastA s.list[k].Session (s.list.take k)).getD []), .bool (lastA s.list[k].Session (s.list.take k)).isSome]) := by
  refine fn_of c124 (by simp [F124]) fun c => ?_
  unfold F124
  have w0 : IntKind.i64.wrap ((k : Int) - 1) = k - 1 := wrap64 (by omega) (by omega)
  simp [w0]
  have hgk : s.list[k]? = some s.list[k] := List.getElem?_eq_getElem hk
  generalize hid : s.list[k].Session = id
  refine loop_drop k (fun i e H c' => e 0 = s.av 11 TAnswer.enc ∧ e 1 = .int .i64 k ∧ e 6 = .int .i64 ((k : Int) - 1 - i) ∧ lastA id (s.list.take (k - i)) = lastA id (s.list.take k) ∧ H = []) ⟨rfl, rfl, by simp, by simp, rfl⟩ ?_
  intro i e H c hi ⟨e0, e1, e6, hl, hH⟩ N hN
  subst hH
  by_cases h : i < k
  · obtain ⟨m, hm⟩ : ∃ m : Nat, (k : Int) - 1 - i = m := ⟨k - 1 - i, by omega⟩
    have hmk : m < s.list.length := by omega
    have hgm : s.list[m]? = some s.list[m] := List.getElem?_eq_getElem hmk
    have hst := lastA_step (s := id) hmk
    have e2 : k - i = m + 1 := by omega
    rw [e2, hst] at hl
    rw [hm] at e6
    have hk0 : (0 : Int) ≤ m := by omega
    simp [e0, e1, e6]
    refine ⟨_, hgm, ?_⟩
    simp [e0, e1, e6]
    refine ⟨_, hgk, ?_⟩
    by_cases hq : s.list[m].Session = id
    · simp [e0, e1, e6, hid, hq]
      refine ⟨_, hgm, ?_⟩
      simp
      rw [if_pos hq] at hl
      exact fin_plain ⟨by rw [← hl]; rfl, rfl⟩
    · simp [e0, e1, e6, hid, hq]
      rw [if_neg hq] at hl
      have w1 : IntKind.i64.wrap ((m : Int) - 1) = m - 1 := wrap64 (by omega) (by omega)
      refine hN _ _ _ _ h (List.Sublist.refl _) ⟨by simp [upd, e0], by simp [upd, e1], by simp [upd, w1]; omega, ?_, rfl⟩
      rw [← hl]; congr 2; omega
  · have hik : i = k := by omega
    have hm : (k : Int) - 1 - i = -1 := by omega
    rw [hm] at e6
    rw [hik] at hl
    simp at hl
    simp [e0, e1, e6]
    exact fin_plain ⟨by rw [← hl]; rfl, rfl⟩

theorem spec_seq {s : SL TAnswer} (hn : s.list.length ≤ 1048576) : Fnc Try.prog 73 [s.av 11 TAnswer.enc] (.bool (seqA [] s.list)) := by
  refine fn_of c73 (by simp [F73]) fun c => ?_
  unfold F73
  simp
  refine loop_drop s.list.length (fun i e H c' => e 0 = s.av 11 TAnswer.enc ∧ e 3 = .int .i64 i ∧ seqA (s.list.take i) (s.list.drop i) = seqA [] s.list ∧ H = []) ⟨rfl, rfl, rfl, rfl⟩ ?_
  intro i e H c hi ⟨e0, e3, hs, hH⟩ N hN
  subst hH
  simp [e0, e3]
  refine ⟨fun h => ?_, fun h => ?_⟩
  · refine call_fn0 (last_fn hn h) (.tup fun j a ha => ?_) fun _ _ => ?_
    · match j, ha with
      | 0, ha => simp at ha; subst ha; exact .str
      | 1, ha => simp at ha; subst ha; exact .bool
      | j + 2, ha => simp at ha
    have hg : s.list[i]? = some s.list[i] := List.getElem?_eq_getElem h
    rw [seqA_step h] at hs
    have bad : okA (s.list.take i) s.list[i] = false → seqA [] s.list = false := fun hb => by rw [← hs, hb]; rfl
    have good : okA (s.list.take i) s.list[i] = true → seqA (s.list.take (i + 1)) (s.list.drop (i + 1)) = seqA [] s.list := fun hb => by rw [← hs, hb]; rfl
    generalize s.list[i] = x at hg bad good
    simp [e0, e3]
    refine ⟨_, hg, ?_⟩
    by_cases h1 : x.Before = []
    · simp [e0, e3, h1]
      exact hN _ _ _ _ h (List.Sublist.refl _) ⟨by simp [upd, e0], by simp [upd]; exact step64 (by unfold mx; omega) h, good (by simp [okA, h1]), rfl⟩
    simp [e0, e3, h1]
    refine ⟨_, hg, ?_⟩
    by_cases h2 : x.Session = []
    · simp [e0, e3, h1, h2]
      exact fin_plain ⟨by rw [bad (by simp [okA, h1, h2])], rfl⟩
    cases hl : lastA x.Session (s.list.take i) with
    | none =>
      simp [e0, e3, h1, h2]
      exact fin_plain ⟨by rw [bad (by simp [okA, h1, hl])], rfl⟩
    | some v =>
      simp [e0, e3, h1, h2]
      refine ⟨_, hg, ?_⟩
      by_cases h3 : x.Before = v
      · simp [e0, e3, h1, h2, h3]
        exact hN _ _ _ _ h (List.Sublist.refl _) ⟨by simp [upd, e0], by simp [upd]; exact step64 (by unfold mx; omega) h, good (by simp [okA, h2, hl, h3]), rfl⟩
      · simp [e0, e3, h1, h2, h3]
        exact fin_plain ⟨by rw [bad (by simp [okA, h1, hl]; intro _ e; exact h3 e.symm)], rfl⟩
  · have h1 : i = s.list.length := by omega
    subst h1
    refine fin_plain ⟨?_, rfl⟩
    rw [← hs]; simp [seqA]

/-! ### the map -/
def kRow (p : Bs × Bs) : List AV := [.str p.1, .str p.2]
def kget (s : Bs) : List (Bs × Bs) → Nat → Option (Nat × Bs)
  | [], _ => none
  | p :: l, k => if s = p.1 then some (k, p.2) else kget s l (k + 1)
theorem mfind_k (s : Bs) : ∀ (l : List (Bs × Bs)) (k : Nat), mfind (.str s) (l.map kRow) k = some ((kget s l k).map fun x => (x.1, .str x.2))
  | [], k => rfl
  | p :: l, k => by
    unfold kget
    by_cases h : s = p.1
    · have e : keyEq (.str s) (.str p.1) = some true := by simp [keyEq, h]
      simp only [List.map_cons, kRow, mfind, e, if_pos h]; rfl
    · have e : keyEq (.str s) (.str p.1) = some false := by simp [keyEq, h]
      simp only [List.map_cons, kRow, mfind, e, if_neg h]
      exact mfind_k s l (k + 1)
theorem kget_ge {s : Bs} : ∀ {l : List (Bs × Bs)} {k j : Nat} {v : Bs}, kget s l k = some (j, v) → k ≤ j ∧ j < k + l.length
  | p :: l, k, j, v, h => by
    unfold kget at h
    split at h
    · cases h; simp
    · have := kget_ge h; simp; omega
theorem kget_set {s0 : Bs} (v0 s : Bs) : ∀ {l : List (Bs × Bs)} {k j : Nat} {v : Bs}, kget s0 l k = some (j, v) → (kget s (l.set (j - k) (s0, v0)) k).map (·.2) = if s = s0 then some v0 else (kget s l k).map (·.2)
  | p :: l, k, j, v, h => by
    have hge := kget_ge h
    unfold kget at h
    split at h
    · rename_i hp
      cases h
      simp only [Nat.sub_self, List.set_cons_zero, kget]
      by_cases hs : s = s0
      · simp [hs]
      · simp [hs, ← hp]
    · rename_i hp
      have hj := kget_ge h
      have e : j - k = (j - (k + 1)) + 1 := by omega
      rw [e, List.set_cons_succ]
      have ih := kget_set v0 s h
      simp only [kget]
      by_cases hs : s = p.1
      · rw [if_pos hs, if_pos hs, if_neg (fun e : s = s0 => hp (by rw [← e]; exact hs))]
      · rw [if_neg hs, if_neg hs]; exact ih
theorem kget_app {s0 : Bs} (v0 s : Bs) : ∀ {l : List (Bs × Bs)} {k : Nat}, kget s0 l k = none → (kget s (l ++ [(s0, v0)]) k).map (·.2) = if s = s0 then some v0 else (kget s l k).map (·.2)
  | [], k, _ => by by_cases hs : s = s0 <;> simp [kget, hs]
  | p :: l, k, h => by
    unfold kget at h
    split at h
    · cases h
    · rename_i hp
      have ih := kget_app (s0 := s0) v0 s h
      simp only [List.cons_append, kget]
      by_cases hs : s = p.1
      · rw [if_pos hs, if_pos hs, if_neg (fun e : s = s0 => hp (by rw [← e]; exact hs))]
      · rw [if_neg hs, if_neg hs]; exact ih
/-- What a look into the map gives, and what it asks. -/
theorem lookup_k {H : List AObj} {i tag w : Nat} {kv : List (Bs × Bs)} {s : Bs} {K : AV → Prop} (ho : H[i]? = some ⟨true, tag, w, kv.map kRow⟩) (k : K (.tup [.str (((kget s kv 0).map (·.2)).getD []), .bool ((kget s kv 0).map (·.2)).isSome])) : lookupW (keyD 1) (.str []) true (.mref i tag) (.str s) H K := by
  refine ⟨rfl, _, ho, rfl, rfl, ?_⟩
  show match mfind (.str s) (kv.map kRow) 0 with | some (some (_, v)) => _ | some none => _ | none => _
  rw [mfind_k]
  cases hq : kget s kv 0 with
  | none => rw [hq] at k; exact k
  | some p => rw [hq] at k; exact k
theorem mupd_k {H : List AObj} {c : Nat} {i tag w : Nat} {kv : List (Bs × Bs)} {s v : Bs} {K : AV → List AObj → Nat → Prop} (ho : H[i]? = some ⟨true, tag, w, kv.map kRow⟩) (hl : kv.length < mx)
    (k : ∀ kv' : List (Bs × Bs), (∀ x, (kget x kv' 0).map (·.2) = if x = s then some v else (kget x kv 0).map (·.2)) → kv'.length ≤ kv.length + 1 → K .und (H.set i ⟨true, tag, w, kv'.map kRow⟩) c) : mupdW (keyD 1) (.mref i tag) (.str s) (.str v) H c K := by
  refine ⟨rfl, _, ho, rfl, rfl, ?_⟩
  show match mfind (.str s) (kv.map kRow) 0 with | some (some (_, v)) => _ | some none => _ | none => _
  rw [mfind_k]
  cases hq : kget s kv 0 with
  | none =>
    refine ⟨by simpa using hl, ?_⟩
    have := k (kv ++ [(s, v)]) (fun x => kget_app v x hq) (by simp)
    rw [List.map_append] at this
    exact this
  | some p =>
    obtain ⟨j, u⟩ := p
    have := k (kv.set j (s, v)) (fun x => by have := kget_set v x hq; simpa using this) (by simp)
    rw [List.map_set] at this
    exact this

theorem impl_seq {s : SL TAnswer} (hn : s.list.length ≤ 1048576) : Fnc Try.prog 75 [s.av 11 TAnswer.enc] (.bool (seqA [] s.list)) := by
  refine fn_of c75 (by simp [F75]) fun c => ?_
  unfold F75
  simp
  refine loop_drop s.list.length (fun i e H c' => e 3 = .mref 0 c ∧ e 9 = s.av 11 TAnswer.enc ∧ e 10 = .int .i64 s.list.length ∧ e 11 = .int .i64 i ∧ seqA (s.list.take i) (s.list.drop i) = seqA [] s.list ∧ ∃ kv : List (Bs × Bs), kv.length ≤ i ∧ (∀ x, (kget x kv 0).map (·.2) = lastA x (s.list.take i)) ∧ H = [⟨true, c, 0, kv.map kRow⟩]) ⟨rfl, rfl, rfl, rfl, rfl, [], by simp, fun x => rfl, rfl⟩ ?_
  intro i e H c' hi ⟨e3, e9, e10, e11, hs, kv, hkl, hkv, hH⟩ N hN
  subst hH
  simp [e3, e9, e10, e11]
  refine ⟨fun h => ⟨s.list[i], List.getElem?_eq_getElem h, ?_⟩, fun h => ?_⟩
  · have hst := fun y => lastA_step (s := y) h
    rw [seqA_step h] at hs
    have bad : okA (s.list.take i) s.list[i] = false → seqA [] s.list = false := fun hb => by rw [← hs, hb]; rfl
    have good : okA (s.list.take i) s.list[i] = true → seqA (s.list.take (i + 1)) (s.list.drop (i + 1)) = seqA [] s.list := fun hb => by rw [← hs, hb]; rfl
    generalize s.list[i] = x at hst bad good
    simp [e3, e9, e10, e11, -List.map_take]
    refine lookup_k rfl ?_
    rw [hkv]
    simp [e3, e9, e10, e11]
    have fin : okA (s.list.take i) x = true → ∀ e' c'', e' 3 = .mref 0 c → e' 9 = s.av 11 TAnswer.enc → e' 10 = .int .i64 s.list.length → e' 11 = .int .i64 ((i + 1 : Nat) : Int) →
        ∀ kv' : List (Bs × Bs), (∀ y, (kget y kv' 0).map (·.2) = if y = x.Session then some x.After else (kget y kv 0).map (·.2)) → kv'.length ≤ kv.length + 1 → ∀ H', [(⟨true, c, 0, kv'.map kRow⟩ : AObj)].Sublist H' → N e' H' c'' := fun hok e' c'' f3 f9 f10 f11 kv' hk1 hk2 H' hsub =>
      hN e' H' _ c'' h hsub ⟨f3, f9, f10, f11, good hok, kv', by omega, fun y => by
        rw [hk1, hst, hkv]
        by_cases hy : y = x.Session
        · simp [hy]
        · rw [if_neg hy, if_neg (fun e => hy e.symm)], rfl⟩
    by_cases h1 : x.Before = []
    · simp [e3, e9, e10, e11, h1]
      refine mupd_k rfl (by unfold mx; omega) fun kv' hk1 hk2 => ?_
      simp [e3, e9, e10, e11]
      exact fin (by simp [okA, h1]) _ _ (by simp [upd, e3]) (by simp [upd, e9]) (by simp [upd, e10]) (by simp [upd]; exact step64 (by unfold mx; omega) h) kv' hk1 hk2 _ (sub_one _ _)
    by_cases h2 : x.Session = []
    · simp [e3, e9, e10, e11, h1, h2]
      exact fin_plain ⟨by rw [bad (by simp [okA, h1, h2])], rfl⟩
    cases hl : lastA x.Session (s.list.take i) with
    | none =>
      simp [e3, e9, e10, e11, h1, h2]
      exact fin_plain ⟨by rw [bad (by simp [okA, h1, hl])], rfl⟩
    | some v =>
      by_cases h3 : v = x.Before
      · simp [e3, e9, e10, e11, h1, h2, h3]
        refine mupd_k rfl (by unfold mx; omega) fun kv' hk1 hk2 => ?_
        simp [e3, e9, e10, e11]
        exact fin (by simp [okA, h2, hl, h3]) _ _ (by simp [upd, e3]) (by simp [upd, e9]) (by simp [upd, e10]) (by simp [upd]; exact step64 (by unfold mx; omega) h) kv' hk1 hk2 _ (sub_one _ _)
      · simp [e3, e9, e10, e11, h1, h2, h3]
        exact fin_plain ⟨by rw [bad (by simp [okA, h1, hl]; intro _ e; exact h3 e)], rfl⟩
  · have h1 : i = s.list.length := by omega
    subst h1
    refine fin_plain ⟨?_, rfl⟩
    rw [← hs]; simp [seqA]

theorem lastA_con (s : Bs) (l : List TAnswer) : lastA s (l.map TAnswer.con) = lastA s l := by
  unfold lastA
  rw [List.foldl_map]
  rfl
theorem seqA_con : ∀ (l pre : List TAnswer), seqA (pre.map TAnswer.con) (l.map TAnswer.con) = seqA pre l
  | [], pre => rfl
  | x :: l, pre => by
    have e1 : okA (pre.map TAnswer.con) x.con = okA pre x := by
      unfold okA
      rw [lastA_con]; rfl
    have e2 : pre.map TAnswer.con ++ [x.con] = (pre ++ [x]).map TAnswer.con := by simp
    rw [List.map_cons, seqA, seqA, e1, e2, seqA_con l]
theorem seqA_eq {l m : List TAnswer} (h : l.map TAnswer.con = m.map TAnswer.con) : seqA [] l = seqA [] m := by
  rw [← seqA_con l [], ← seqA_con m [], h]

theorem law_seq {s : SL TAnswer} (hs : okAnswerS s) (c : Nat) : Con Try.prog 18 [s.av 11 TAnswer.enc] [] c fun r H' _ => r = .bool true ∧ H' = [] := by
  refine con_of c18 (by simp [F18]) ?_
  unfold F18
  simp
  refine call_fn0 (szAnswerS_fn hs ⟨by omega, by omega⟩) .int fun _ _ => ?_
  simp
  refine ⟨fun _ => fin_plain ⟨rfl, rfl⟩, fun h => ?_⟩
  have hz : szAnswerS s ≤ 1048576 := by have := (szOf_ge h).2; omega
  have hsz : ∀ b : SL TAnswer, b.list.map TAnswer.con = s.list.map TAnswer.con → szAnswerS b ≤ 1048576 := fun b hb => by rw [szAnswerS_con hb]; exact hz
  have hln : ∀ b : SL TAnswer, b.list.map TAnswer.con = s.list.map TAnswer.con → b.list.length ≤ 1048576 := fun b hb => by have := hsz b hb; unfold szAnswerS at this; omega
  refine call_tree0 (toAnswerS_fn hz) fun r1 _ _ ⟨b1, e1, q1⟩ _ => ?_
  subst e1
  simp
  refine call_fn0 (spec_seq (hln _ q1)) .bool fun _ _ => ?_
  simp
  refine call_tree0 (toAnswerS_fn hz) fun r2 _ _ ⟨b2, e2, q2⟩ _ => ?_
  subst e2
  simp
  refine call_fn0 (impl_seq (hln _ q2)) .bool fun _ _ => ?_
  simp [seqA_eq q1, seqA_eq q2]
  refine call_tree0 (toAnswerS_fn hz) fun r3 _ _ ⟨b3, e3, q3⟩ _ => ?_
  subst e3
  simp
  refine call_fn0 (eqAnswerS_fn (by have := hsz _ q2; omega) (q2.trans q3.symm)) .bool fun _ _ => ?_
  simp
  exact fin_plain ⟨rfl, rfl⟩
end A
end Go.Proofs.Ytgiiipbpadgcgaa
