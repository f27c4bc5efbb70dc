import Derived.Handed
import Derived.LaidLaws
import Derived.ProofKit
import Derived.Test.YtmhmaokbicgmbaaGreatDoorRows
import Derived.OpenShut
import Derived.LaidMore
import Derived.Lay
import Derived.LaidSub
import Derived.SevenTiedAt
import Derived.Stop.Joined
import Derived.Lib.LaidTab
import Derived.Test.YtmhmaokbicgmbaaGreatDoorTie
import Derived.Test.YtmhmaokbicgmbaaGreatDoorCards
import Derived.Test.YtmhmaokbicgmbaaGreatDoorB09

/-
  Requests read out of a text, by the reference and by the program: the same plain function. No condition.
-/


namespace Go.Proofs.YtmhmaokbicgmbaaGreatDoor
namespace A
set_option linter.unusedVariables false
set_option linter.unusedSimpArgs false
set_option maxRecDepth 100000
open Go.RowKit

/-! ### the plain function -/
def crlf : List UInt8 := [13, 10]
def getS : List UInt8 := [71, 69, 84, 32, 47]
def httpS : List UInt8 := [32, 72, 84, 84, 80, 47, 49, 46, 49]
def cookS : List UInt8 := [67, 111, 111, 107, 105, 101, 58, 32]
/-- the first line's target -/
def target (line : List UInt8) : Option (List UInt8) := if Lib.hasPrefix line getS && Lib.hasSuffix (line.drop 5) httpS then some ((line.drop 5).take (line.length - 14)) else none
/-- the cookies' text, behind the first line -/
def cookies (rest : List UInt8) : Option (List UInt8) :=
  if Lib.hasPrefix rest cookS then (if (Lib.cut (rest.drop 8) crlf).2.2 = true ∧ (Lib.cut (rest.drop 8) crlf).2.1 = crlf then some (Lib.cut (rest.drop 8) crlf).1 else none)
  else if rest = crlf then some [] else none
structure PReq where
  p : List UInt8
  q : List TPair
  k : List TPair
def PReq.ok (x : PReq) : Bool := isN x.p && okP x.q && okP x.k
def reqT (t : List UInt8) (k : Option (List TPair)) : Option PReq :=
  (normP (t.take (upTo 63 t))).bind fun p => (parseP [38] (t.drop (upTo 63 t + 1))).bind fun q => k.bind fun c => if PReq.ok ⟨p, q, c⟩ then some ⟨p, q, c⟩ else none
def parseR (s : List UInt8) : Option PReq :=
  if (Lib.cut s crlf).2.2 then (target (Lib.cut s crlf).1).bind fun t => (cookies (Lib.cut s crlf).2.1).bind fun k => reqT t (parseP [59, 32] k) else none
def PReq.is (x : PReq) (r : TRequest) : Prop := r.Path = x.p ∧ r.Query.list = x.q ∧ r.Cookies.list = x.k
/-- what is handed back -/
def RqsQ (s : List UInt8) (r : AV) (O : List AObj) : Prop :=
  ∃ b : TRequest, r = .tup [.agg b.encO, .bool (parseR s).isSome] ∧ O = b.inn ∧ ((parseR s).getD ⟨[], [], []⟩).is b

/-! ### the library's cuts -/
theorem trimP_fn {l p : List UInt8} (hl : l.length ≤ 1048576) : Fnc Tryz.prog 41 [.str l, .str p] (.tup [.str (Lib.trimPrefix l p), .bool (Lib.hasPrefix l p)]) := by
  intro c
  refine con_below (res := .tup [.str (Lib.trimPrefix l p), .bool (Lib.hasPrefix l p)]) (fun G w vs hc I hs hr => ?_) ⟨rfl, rfl⟩
  obtain ⟨v0, v1, rfl⟩ : ∃ v0 v1, vs = #[v0, v1] := by
    match vs, hs with
    | ⟨[a, b]⟩, _ => exact ⟨a, b, rfl⟩
  have h0 := hr 0 _ rfl
  have h1 := hr 1 _ rfl
  simp at h0 h1
  cases h0 with
  | @str s _ e hl0 =>
  cases h1 with
  | @str t _ e1 hl1 =>
  have key := Tryz.strings_CutPrefix s t w
  rw [e, e1] at key
  have hle : (Lib.trimPrefix l p).length ≤ l.length := by unfold Lib.trimPrefix; split <;> simp
  refine key.mono fun e w' ⟨h1, h2⟩ => ⟨_, h1, h2 ▸ Below.refl _ _, .tup rfl fun j a hj => ?_⟩
  match j, hj with
  | 0, hj => cases hj; exact .str (by simp) (by unfold mx; omega)
  | 1, hj => cases hj; exact .bool
theorem trimS_fn {l p : List UInt8} (hl : l.length ≤ 1048576) : Fnc Tryz.prog 42 [.str l, .str p] (.tup [.str (Lib.trimSuffix l p), .bool (Lib.hasSuffix l p)]) := by
  intro c
  refine con_below (res := .tup [.str (Lib.trimSuffix l p), .bool (Lib.hasSuffix l p)]) (fun G w vs hc I hs hr => ?_) ⟨rfl, rfl⟩
  obtain ⟨v0, v1, rfl⟩ : ∃ v0 v1, vs = #[v0, v1] := by
    match vs, hs with
    | ⟨[a, b]⟩, _ => exact ⟨a, b, rfl⟩
  have h0 := hr 0 _ rfl
  have h1 := hr 1 _ rfl
  simp at h0 h1
  cases h0 with
  | @str s _ e hl0 =>
  cases h1 with
  | @str t _ e1 hl1 =>
  have hsz : s.size ≤ 9223372036854775807 := by rw [Lib.size_eq, e]; omega
  have key := Tryz.strings_CutSuffix s t w hsz
  rw [e, e1] at key
  have hle : (Lib.trimSuffix l p).length ≤ l.length := by
    unfold Lib.trimSuffix; split
    · simp
    · exact Nat.le_refl _
  refine key.mono fun e w' ⟨h1, h2⟩ => ⟨_, h1, h2 ▸ Below.refl _ _, .tup rfl fun j a hj => ?_⟩
  match j, hj with
  | 0, hj => cases hj; exact .str (by simp) (by unfold mx; omega)
  | 1, hj => cases hj; exact .bool
theorem cut_len (l sep : List UInt8) : (Lib.cut l sep).1.length ≤ l.length ∧ (Lib.cut l sep).2.1.length ≤ l.length := by
  unfold Lib.cut; split <;> simp; omega
theorem free_cut (l sep : List UInt8) : Free (.tup [.str (Lib.cut l sep).1, .str (Lib.cut l sep).2.1, .bool (Lib.cut l sep).2.2]) := free_tup fun a ha => by
  simp at ha
  rcases ha with rfl | rfl | rfl
  · exact free_str _
  · exact free_str _
  · exact free_bool _
theorem free_sb (l : List UInt8) (b : Bool) : Free (.tup [.str l, .bool b]) := free_tup fun a ha => by
  simp at ha
  rcases ha with rfl | rfl
  · exact free_str _
  · exact free_bool _
theorem cut_63 (l : List UInt8) : (Lib.cut l [63]).1 = l.take (upTo 63 l) ∧ (Lib.cut l [63]).2.1 = l.drop (upTo 63 l + 1) := cut_one 63 l

/-! ### requests kept as0 objects -/
def TRequest.mkO (x : PReq) (q k : SL TPair) : TRequest := ⟨x.p, q, k⟩
theorem none_is : (PReq.mk [] [] []).is ⟨[], .nil, .nil⟩ := ⟨rfl, rfl, rfl⟩
theorem encO_nil : (TRequest.mk [] .nil .nil).encO = [.str [], .nsl, .nsl] := rfl
theorem inn_nil : (TRequest.mk [] .nil .nil).inn = [] := rfl
theorem rqs_none {s : List UInt8} {H : List AObj} {c : Nat} (h : parseR s = none) : finW (fun r O _ => RqsQ s r O) (.tup [.agg [.str [], .nsl, .nsl], .bool false]) H c :=
  fin_sub (List.nil_sublist _) (.refl _) ⟨⟨[], .nil, .nil⟩, by rw [h]; rfl, rfl, by rw [h]; exact none_is⟩

/-- A request that is kept as0 objects, seen as0 a tree. -/
theorem rqs_tr {f : Nat} {s : List UInt8} (h : ∀ c, Con Tryz.prog f [.str s] [] c fun r O _ => RqsQ s r O) :
    Tr Tryz.prog f [.str s] fun _ r => ∃ b : TRequest, r = .tup [.agg b.enc, .bool (parseR s).isSome] ∧ ((parseR s).getD ⟨[], [], []⟩).is b :=
  tr_of h fun c r O c' _ ⟨b, h1, h2, h3⟩ ht => ⟨.tup [.agg b.enc, .bool (parseR s).isSome], by rw [h1]; exact view_tup (.cons (view_ARequest fun o ho => h2 ▸ ho) (Views.refl _ _)), ⟨b, rfl, h3⟩, from_tup fun a ha => by
    rcases List.mem_cons.1 ha with rfl | ha
    · refine from_agg fun a ha => ?_
      simp [TRequest.enc] at ha
      rcases ha with rfl | rfl | rfl
      · simp
      · exact flat_from TPair.flat fun u hu => ht u (by rw [h2]; simp [TRequest.inn, tags] at hu ⊢; exact .inl hu)
      · exact flat_from TPair.flat fun u hu => ht u (by rw [h2]; simp [TRequest.inn, tags] at hu ⊢; exact .inr hu)
    · simp at ha; subst ha; simp⟩

/-! ### of the program -/
theorem cut_fn' {l sep a b : List UInt8} {f : Bool} (h : Lib.cut l sep = (a, b, f)) (hl : l.length < 4294967281) : Fnc Tryz.prog 40 [.str l, .str sep] (.tup [.str a, .str b, .bool f]) := by
  have := cut_fn (l := l) (sep := sep) hl
  rw [h] at this; exact this
theorem free_ssb (a b : List UInt8) (f : Bool) : Free (.tup [.str a, .str b, .bool f]) := free_tup fun x hx => by
  simp at hx
  rcases hx with rfl | rfl | rfl
  · exact free_str _
  · exact free_str _
  · exact free_bool _
theorem norm_len {l p : List UInt8} (h : normP l = some p) : p.length ≤ 60 := by
  unfold normP at h
  split at h
  · cases h
  · cases hs : splitP l with
    | none => rw [hs] at h; cases h
    | some o =>
      rw [hs] at h
      simp only [Option.bind_some] at h
      split at h
      · rename_i hr
        cases h
        have := inR_true hr; omega
      · cases h
theorem okP_ok {b : SL TPair} (h : okP b.list = true) : okPairS b := by
  have hl := (okP_sz h).1
  simp only [okP, Bool.and_eq_true, decide_eq_true_eq, List.all_eq_true, okPair] at h
  refine ⟨by unfold mx; omega, fun x hx => ?_⟩
  have := h.1 x hx
  exact ⟨by unfold mx; omega, by unfold mx; omega⟩
theorem implReq_con {s : List UInt8} (hl : s.length ≤ 1048576) (c : Nat) : Con Tryz.prog 17 [.str s] [] c fun r O _ => RqsQ s r O := by
  refine con_of c17 (by simp [F17]) ?_
  unfold F17
  simp
  have hcl := cut_len s crlf
  obtain ⟨line, rest, fd, hcut⟩ : ∃ line rest fd, Lib.cut s crlf = (line, rest, fd) := ⟨_, _, _, rfl⟩
  rw [hcut] at hcl
  obtain ⟨hl1, hl2⟩ : line.length ≤ s.length ∧ rest.length ≤ s.length := hcl
  have hpar : parseR s = if fd then (target line).bind fun t => (cookies rest).bind fun k => reqT t (parseP [59, 32] k) else none := by unfold parseR; rw [hcut]
  refine call_fn0 (cut_fn' (sep := crlf) hcut (by omega)) (free_ssb _ _ _ _) fun _ _ => ?_
  simp
  refine call_fn0 (trimP_fn (p := getS) (by omega)) (free_sb _ _ _) fun _ _ => ?_
  have hT1 : (Lib.trimPrefix line getS).length ≤ line.length := by unfold Lib.trimPrefix; split <;> simp
  obtain ⟨T1, hT1e⟩ : ∃ T1, Lib.trimPrefix line getS = T1 := ⟨_, rfl⟩
  rw [hT1e] at hT1
  simp [hT1e]
  refine call_fn0 (trimS_fn (p := httpS) (by omega)) (free_sb _ _ _) fun _ _ => ?_
  have hT2 : (Lib.trimSuffix T1 httpS).length ≤ T1.length := by
    unfold Lib.trimSuffix; split
    · simp
    · exact Nat.le_refl _
  obtain ⟨T2, hT2e⟩ : ∃ T2, Lib.trimSuffix T1 httpS = T2 := ⟨_, rfl⟩
  rw [hT2e] at hT2
  simp [hT2e]
  cases fd with
  | false =>
    simp
    exact rqs_none (by rw [hpar]; rfl)
  | true =>
  rw [if_pos rfl] at hpar
  cases hone : Lib.hasPrefix line getS with
  | false =>
    simp
    exact rqs_none (by rw [hpar]; simp [target, hone])
  | true =>
  have hT1' : T1 = line.drop 5 := by rw [← hT1e]; unfold Lib.trimPrefix; rw [if_pos hone]; rfl
  cases htwo : Lib.hasSuffix T1 httpS with
  | false =>
    simp
    exact rqs_none (by rw [hpar]; simp [target, hone, ← hT1', htwo])
  | true =>
  have htg : target line = some T2 := by
    rw [← hT2e]
    unfold target Lib.trimSuffix
    rw [← hT1', hone, htwo]
    simp only [Bool.and_self, ↓reduceIte]
    congr 2
    rw [hT1']; simp [httpS]; omega
  rw [htg] at hpar
  simp only [Option.bind_some] at hpar
  simp
  refine call_fn0 (trimP_fn (p := cookS) (by omega)) (free_sb _ _ _) fun _ _ => ?_
  cases hck : Lib.hasPrefix rest cookS
  focus
    simp
    by_cases hr : rest = [13, 10]
    rotate_left
    focus
      simp [hr]
      exact rqs_none (by rw [hpar]; unfold cookies; rw [hck]; simp [show ¬ rest = crlf from hr])
    have hk : cookies rest = some [] := by unfold cookies; rw [hck]; simp [show rest = crlf from hr]
    have hkl : ([] : List UInt8).length ≤ 1048576 := by simp
    obtain ⟨PC, hPC⟩ : ∃ PC, parseP [59, 32] ([] : List UInt8) = PC := ⟨_, rfl⟩
    simp [hr]
  rotate_left
  focus
    have hafter : Lib.trimPrefix rest cookS = rest.drop 8 := by unfold Lib.trimPrefix; rw [if_pos hck]; rfl
    have hcl2 := cut_len (rest.drop 8) crlf
    obtain ⟨kk, rest2, fd2, hcut2⟩ : ∃ u v w, Lib.cut (rest.drop 8) crlf = (u, v, w) := ⟨_, _, _, rfl⟩
    rw [hcut2] at hcl2
    have hkl : kk.length ≤ 1048576 := by have := hcl2.1; simp at this; omega
    simp [hafter]
    refine call_fn0 (cut_fn' (sep := crlf) hcut2 (by simp; omega)) (free_ssb _ _ _ _) fun _ _ => ?_
    cases fd2
    focus
      simp
      exact rqs_none (by rw [hpar]; unfold cookies; rw [hck, hcut2]; simp)
    by_cases hr : rest2 = [13, 10]
    rotate_left
    focus
      simp [hr]
      exact rqs_none (by rw [hpar]; unfold cookies; rw [hck, hcut2]; simp [show ¬ rest2 = crlf from hr])
    have hk : cookies rest = some kk := by unfold cookies; rw [hck, hcut2]; simp [show rest2 = crlf from hr]
    obtain ⟨PC, hPC⟩ : ∃ PC, parseP [59, 32] kk = PC := ⟨_, rfl⟩
    simp [hr]
  rotate_left
  all_goals
    rw [hk] at hpar
    simp only [Option.bind_some, hPC] at hpar
    have hPk : ∀ o, PC = some o → okP o = true := fun o ho => parseP_ok (hPC.trans ho)
    obtain ⟨hq1, hq2⟩ := cut_63 T2
    refine call_fn0 (cut_fn (by omega)) (free_cut _ _ _) fun _ _ => ?_
    simp
    rw [hq1]
    refine call_fn0 (impl_norm (by simp; unfold mx; omega)) (free_norm _ _) fun _ _ => ?_
    simp [normA, putA]
    rw [hq2]
    refine call_new (impl_Query (by simp; omega) _) (Views.refl _ _) fun r1 O1 c1 hc1 ⟨b1, e1, hO1, q1⟩ _ _ => ?_
    subst e1; subst hO1
    refine ⟨_, .refl _, free_tup (by simp [free_bool, free_ref]) _, fun o ho => flat_free TPair.flat' _ _ o ho _, ?_⟩
    simp [putA]
    refine call_new (impl_Cookies hkl _) (Views.refl _ _) fun r2 O2 c2 hc2 ⟨b2, e2, hO2, q2⟩ _ _ => ?_
    subst e2; subst hO2
    refine ⟨_, .refl _, free_tup (by simp [free_bool, free_ref]) _, fun o ho => flat_free TPair.flat' _ _ o ho _, ?_⟩
    rw [hPC] at q2
    simp [putA, hPC]
    cases hp : normP (T2.take (upTo 63 T2)) with
    | none =>
      simp [putA]
      exact rqs_none (by rw [hpar]; simp [reqT, hp])
    | some p =>
    cases hq : parseP [38] (T2.drop (upTo 63 T2 + 1)) with
    | none =>
      simp [putA]
      exact rqs_none (by rw [hpar]; simp [reqT, hp, hq])
    | some q =>
    cases PC with
    | none =>
      simp [putA]
      exact rqs_none (by rw [hpar]; simp [reqT, hp, hq])
    | some q0 =>
    rw [hq] at q1
    simp only [Option.getD_some] at q1 q2
    have ho1 := okP_ok (b := b1) (by rw [q1]; exact parseP_ok hq)
    have ho2 := okP_ok (b := b2) (by rw [q2]; exact hPk _ rfl)
    have hpl := norm_len hp
    have hisr : isReq ⟨p, b1, b2⟩ = PReq.ok ⟨p, q, q0⟩ := by unfold isReq PReq.ok; rw [q1, q2]
    have hR : reqT T2 (some q0) = if PReq.ok ⟨p, q, q0⟩ then some ⟨p, q, q0⟩ else none := by simp [reqT, hp, hq]
    rw [hR] at hpar
    simp [putA]
    refine call_fn (impl_isReq (x := ⟨p, b1, b2⟩) ⟨by show p.length ≤ mx; unfold mx; omega, ho1, ho2⟩) (.cons (view_ARequest (s := ⟨p, b1, b2⟩) fun o ho => by simp [TRequest.inn] at ho; rcases ho with ho | ho <;> simp [ho]) .nil) .bool fun _ _ => ?_
    rw [hisr]
    cases hok : PReq.ok ⟨p, q, q0⟩
    · rw [hok] at hpar
      simp [putA]
      exact rqs_none (by rw [hpar]; rfl)
    · rw [hok, if_pos rfl] at hpar
      simp [putA]
      exact fin_sub (Hk := (TRequest.mk p b1 b2).inn) ((List.Sublist.refl _).cons _ |>.cons _) (.refl _) ⟨⟨p, b1, b2⟩, by rw [hpar]; rfl, rfl, by rw [hpar]; exact ⟨rfl, q1, q2⟩⟩
end A
end Go.Proofs.YtmhmaokbicgmbaaGreatDoor

/-
  A response's text, read back: plain laws of texts. No condition.
-/

namespace Go.Proofs.YtmhmaokbicgmbaaGreatDoor
namespace A
set_option linter.unusedVariables false
set_option linter.unusedSimpArgs false
set_option maxRecDepth 100000

def noB (b : UInt8) (l : List UInt8) : Prop := ∀ x, x ∈ l → x ≠ b
theorem noB_at {b : UInt8} {l : List UInt8} (h : noB b l) {j : Nat} (hj : j < l.length) : l[j]? ≠ some b := by
  rw [List.getElem?_eq_getElem hj]
  intro e
  exact h _ (List.getElem_mem hj) (Option.some.inj e)
theorem noB_app {b : UInt8} {l m : List UInt8} (h : noB b l) (h' : noB b m) : noB b (l ++ m) := fun x hx => by
  rcases List.mem_append.1 hx with h1 | h1
  · exact h x h1
  · exact h' x h1
theorem occ_here (p sep t : List UInt8) : Lib.occAt (p ++ (sep ++ t)) sep p.length = true := by
  unfold Lib.occAt
  rw [List.drop_left]
  exact List.isPrefixOf_iff_prefix.2 (List.prefix_append _ _)
theorem index_here {p sep t : List UInt8} (hno : ∀ j, j < p.length → Lib.occAt (p ++ (sep ++ t)) sep j = false) : Lib.index (p ++ (sep ++ t)) sep = p.length :=
  Lib.index_first (by simp) (occ_here p sep t) hno
theorem cut_here {p sep t : List UInt8} (hno : ∀ j, j < p.length → Lib.occAt (p ++ (sep ++ t)) sep j = false) : Lib.cut (p ++ (sep ++ t)) sep = (p, t, true) := by
  unfold Lib.cut
  rw [index_here hno, if_pos (by omega)]
  simp
theorem no_occ {p t : List UInt8} {c : UInt8} {u : List UInt8} (h : noB c p) : ∀ j, j < p.length → Lib.occAt (p ++ t) (c :: u) j = false := fun j hj => by
  cases ho : Lib.occAt (p ++ t) (c :: u) j
  · rfl
  · have := Lib.occAt_head rfl ho
    rw [List.getElem?_append_left hj] at this
    exact absurd this (noB_at h hj)
/-- A text before the first of a separator's bytes. -/
theorem cut_first {p t : List UInt8} {c : UInt8} {u : List UInt8} (h : noB c p) : Lib.cut (p ++ (c :: u ++ t)) (c :: u) = (p, t, true) := cut_here (no_occ h)

/-! ### lines -/
def jn : List (List UInt8) → List UInt8
  | [] => []
  | [l] => l
  | l :: m :: r => l ++ ([13, 10] ++ jn (m :: r))
theorem jn_head {m : List UInt8} (r : List (List UInt8)) (h : m ≠ []) (t : List UInt8) : (jn (m :: r) ++ t)[0]? = m[0]? := by
  cases m with
  | nil => exact absurd rfl h
  | cons x m => cases r <;> simp [jn]
theorem jn_noX : ∀ (ls : List (List UInt8)) (t : List UInt8), (∀ l, l ∈ ls → noB 13 l ∧ l ≠ []) → ∀ j, j < (jn ls).length → ¬ ((jn ls ++ 13 :: 10 :: 13 :: 10 :: t)[j]? = some 13 ∧ (jn ls ++ 13 :: 10 :: 13 :: 10 :: t)[j + 2]? = some 13)
  | [], t, h, j, hj => by simp [jn] at hj
  | [l], t, h, j, hj => fun ⟨h1, _⟩ => by
    have hl := (h l (by simp)).1
    simp only [jn] at hj h1
    rw [List.getElem?_append_left hj] at h1
    exact noB_at hl hj h1
  | l :: m :: r, t, h, j, hj => fun ⟨h1, h2⟩ => by
    have hl := (h l (by simp)).1
    have hm := h m (by simp)
    have ih := jn_noX (m :: r) t fun x hx => h x (List.mem_cons_of_mem _ hx)
    have e : jn (l :: m :: r) ++ 13 :: 10 :: 13 :: 10 :: t = l ++ (13 :: 10 :: (jn (m :: r) ++ 13 :: 10 :: 13 :: 10 :: t)) := by simp [jn]
    have hlen : (jn (l :: m :: r)).length = l.length + (2 + (jn (m :: r)).length) := by simp [jn]; omega
    rw [e] at h1 h2
    rcases Nat.lt_or_ge j l.length with hj1 | hj1
    · rw [List.getElem?_append_left hj1] at h1
      exact noB_at hl hj1 h1
    · rw [List.getElem?_append_right hj1] at h1
      rw [List.getElem?_append_right (by omega)] at h2
      obtain ⟨k, rfl⟩ : ∃ k, j = l.length + k := ⟨j - l.length, by omega⟩
      rw [Nat.add_sub_cancel_left] at h1
      rw [show l.length + k + 2 - l.length = k + 2 by omega] at h2
      match k, h1, h2 with
      | 0, h1, h2 =>
        simp only [Nat.zero_add, List.getElem?_cons_succ] at h2
        rw [jn_head r hm.2] at h2
        have : 0 < m.length := List.length_pos_iff.2 hm.2
        exact noB_at hm.1 this h2
      | 1, h1, h2 => simp at h1
      | k + 2, h1, h2 =>
        simp only [List.getElem?_cons_succ] at h1 h2
        exact ih k (by omega) ⟨h1, h2⟩
theorem occ_third {s : List UInt8} {i : Nat} {c0 c1 c2 : UInt8} {t : List UInt8} (h : Lib.occAt s (c0 :: c1 :: c2 :: t) i = true) : s[i + 2]? = some c2 := by
  unfold Lib.occAt at h
  obtain ⟨r, hr⟩ := List.isPrefixOf_iff_prefix.1 h
  have := congrArg (fun l : List UInt8 => l[2]?) hr
  simp at this
  rw [show i + 2 = i + 2 from rfl, this]
/-- The head, cut off. -/
theorem cut_head {ls : List (List UInt8)} (t : List UInt8) (h : ∀ l, l ∈ ls → noB 13 l ∧ l ≠ []) : Lib.cut (jn ls ++ ([13, 10, 13, 10] ++ t)) [13, 10, 13, 10] = (jn ls, t, true) :=
  cut_here fun j hj => by
    cases ho : Lib.occAt (jn ls ++ ([13, 10, 13, 10] ++ t)) [13, 10, 13, 10] j
    · rfl
    · exact absurd ⟨Lib.occAt_head rfl ho, occ_third ho⟩ (jn_noX ls t h j hj)
/-- The lines, one by one. -/
theorem split_jn : ∀ (ls : List (List UInt8)), ls ≠ [] → (∀ l, l ∈ ls → noB 13 l) → Lib.split (jn ls) [13, 10] = ls
  | [], h, _ => absurd rfl h
  | [l], _, h => by
    have hl := h l (by simp)
    refine split_miss (Lib.index_none fun j _ => ?_)
    cases ho : Lib.occAt (jn [l]) [13, 10] j
    · rfl
    · have h1 := Lib.occAt_head rfl ho
      have h2 : j < l.length := by
        rcases Nat.lt_or_ge j l.length with h3 | h3
        · exact h3
        · simp only [jn] at h1; rw [List.getElem?_eq_none h3] at h1; cases h1
      exact absurd h1 (noB_at hl h2)
  | l :: m :: r, _, h => by
    have hl := h l (by simp)
    have ih := split_jn (m :: r) (by simp) fun x hx => h x (List.mem_cons_of_mem _ hx)
    have hi := index_here (sep := [13, 10]) (t := jn (m :: r)) (no_occ (u := [10]) hl (t := [13, 10] ++ jn (m :: r)))
    show Lib.split (l ++ ([13, 10] ++ jn (m :: r))) [13, 10] = _
    rw [split_hit (by simp) hi]
    simp [ih]
end A
end Go.Proofs.YtmhmaokbicgmbaaGreatDoor

/-
  Texts of pairs and of requests are read back (plain). No condition.
-/



namespace Go.Proofs.YtmhmaokbicgmbaaGreatDoor
namespace A
set_option linter.unusedVariables false
set_option linter.unusedSimpArgs false
set_option maxRecDepth 100000

theorem up_plain {n : Nat} (h : n < 16) : plainB (up n) = true := by
  have : ∀ n : Fin 16, plainB (up n.val) = true := by decide
  exact this ⟨n, h⟩
theorem up_hxv {n : Nat} (h : n < 16) : hxv (up n) = some n := by
  have : ∀ n : Fin 16, hxv (up n.val) = some n.val := by decide
  exact this ⟨n, h⟩
theorem esc_byte {l : List UInt8} {b : UInt8} (h : b ∈ escL l) : plainB b = true ∨ b = 37 := by
  unfold escL at h
  obtain ⟨x, _, hx⟩ := List.mem_flatMap.1 h
  unfold escB at hx
  have hl := x.toNat_lt
  split at hx
  · rename_i hp
    rw [List.mem_singleton.1 hx]; exact .inl hp
  · simp at hx
    rcases hx with rfl | rfl | rfl
    · exact .inr rfl
    · exact .inl (up_plain (by omega))
    · exact .inl (up_plain (by omega))
theorem esc_no {l : List UInt8} {c : UInt8} (h1 : plainB c = false) (h2 : c ≠ 37) : noB c (escL l) := fun b hb e => by
  subst e
  rcases esc_byte hb with h | h
  · rw [h1] at h; cases h
  · exact h2 h
theorem une_esc : ∀ l : List UInt8, une (escL l) = some l
  | [] => une_nil
  | b :: l => by
    have ih := une_esc l
    have e : escL (b :: l) = escB b ++ escL l := rfl
    rw [e]
    have hl := b.toNat_lt
    unfold escB
    cases hp : plainB b with
    | true =>
      rw [if_pos rfl]
      show une (b :: escL l) = _
      have h1 : ¬ b.toNat = 43 := fun h => by simp [plainB, isA, isD, inR, h] at hp
      have h2 : ¬ b.toNat = 37 := fun h => by simp [plainB, isA, isD, inR, h] at hp
      rw [une, if_neg h1, if_neg h2, ih]; rfl
    | false =>
      rw [if_neg (by simp)]
      show une (37 :: up (b.toNat / 16) :: up (b.toNat % 16) :: escL l) = _
      rw [une, if_neg (by decide), if_pos (by decide)]
      have ht : two (up (b.toNat / 16) :: up (b.toNat % 16) :: escL l) = some b.toNat := by
        simp only [two, stp, Option.bind_some, up_hxv (show b.toNat / 16 < 16 by omega), up_hxv (show b.toNat % 16 < 16 by omega), Option.map_some]
        congr 1
        omega
      rw [ht, Option.bind_some]
      show (une (escL l)).map _ = _
      rw [ih]
      simp
theorem upTo_pre {b : UInt8} {l m : List UInt8} (h : noB b l) : upTo b (l ++ b :: m) = l.length := by
  unfold upTo
  induction l with
  | nil => simp
  | cons x l ih =>
    have hx : x ≠ b := h x (by simp)
    have := ih fun y hy => h y (List.mem_cons_of_mem _ hy)
    simp only [List.cons_append, List.takeWhile_cons, hx, decide_false, Bool.not_false, if_true, List.length_cons, this]
theorem upTo_none {b : UInt8} {l : List UInt8} (h : noB b l) : upTo b l = l.length := by
  unfold upTo
  induction l with
  | nil => simp
  | cons x l ih =>
    have hx : x ≠ b := h x (by simp)
    have := ih fun y hy => h y (List.mem_cons_of_mem _ hy)
    simp only [List.takeWhile_cons, hx, decide_false, Bool.not_false, if_true, List.length_cons, this]
theorem pairOf_pairT (p : TPair) : pairOf (pairT p) = some p := by
  have h1 : noB 61 (escL p.Name) := esc_no (by decide) (by decide)
  have hu : upTo 61 (pairT p) = (escL p.Name).length := upTo_pre h1
  have e1 : (pairT p).take (upTo 61 (pairT p)) = escL p.Name := by rw [hu]; unfold pairT; simp
  have e2 : (pairT p).drop (upTo 61 (pairT p) + 1) = escL p.Value := by
    rw [hu]; unfold pairT
    rw [← List.drop_drop, List.drop_left]; rfl
  unfold pairOf pairB pairA
  rw [e1, e2, une_esc, une_esc]
  rfl
theorem pairT_ne (p : TPair) : pairT p ≠ [] := by simp [pairT]
theorem pairT_no {p : TPair} {c : UInt8} (h1 : plainB c = false) (h2 : c ≠ 37) (h3 : c ≠ 61) : noB c (pairT p) := by
  unfold pairT
  refine noB_app (esc_no h1 h2) fun b hb => ?_
  rcases List.mem_cons.1 hb with rfl | hb
  · exact fun e => h3 e.symm
  · exact esc_no h1 h2 b hb
theorem pairsOf_map (l : List TPair) : pairsOf (l.map pairT) = some l := by
  induction l with
  | nil => rfl
  | cons p l ih => simp only [List.map_cons, pairsOf, pairOf_pairT, Option.bind_some, ih, Option.map_some]
theorem split_join {c : UInt8} {u : List UInt8} : ∀ (ls : List (List UInt8)), ls ≠ [] → (∀ l, l ∈ ls → noB c l) → Lib.split (joinL (c :: u) ls) (c :: u) = ls
  | [], h, _ => absurd rfl h
  | [l], _, h => by
    have hl := h l (by simp)
    have e : joinL (c :: u) [l] = l := Lib.join_one l _
    rw [e]
    refine split_miss (Lib.index_none fun j _ => ?_)
    cases ho : Lib.occAt l (c :: u) j
    · rfl
    · have h1 := Lib.occAt_head rfl ho
      have h2 : j < l.length := by
        rcases Nat.lt_or_ge j l.length with h3 | h3
        · exact h3
        · rw [List.getElem?_eq_none h3] at h1; cases h1
      exact absurd h1 (noB_at hl h2)
  | l :: m :: r, _, h => by
    have hl := h l (by simp)
    have ih := split_join (c := c) (u := u) (m :: r) (by simp) fun x hx => h x (List.mem_cons_of_mem _ hx)
    have hi := index_here (sep := c :: u) (t := joinL (c :: u) (m :: r)) (no_occ (u := u) hl (t := (c :: u) ++ joinL (c :: u) (m :: r)))
    have e : joinL (c :: u) (l :: m :: r) = l ++ ((c :: u) ++ joinL (c :: u) (m :: r)) := by
      unfold joinL
      rw [Lib.join_cons, Lib.join_cons]
      simp [Lib.joinTail]
    rw [e, split_hit (by simp) hi]
    simp [ih]
theorem fmtP_ne {sep : List UInt8} {p : TPair} {l : List TPair} : fmtP sep (p :: l) ≠ [] := by
  unfold fmtP joinL
  rw [List.map_cons, Lib.join_cons]
  intro h
  exact pairT_ne p (List.append_eq_nil_iff.1 h).1
theorem parse_fmt {c : UInt8} {u : List UInt8} (h1 : plainB c = false) (h2 : c ≠ 37) (h3 : c ≠ 61) {l : List TPair} (h : okP l = true) : parseP (c :: u) (fmtP (c :: u) l) = some l := by
  cases l with
  | nil => rfl
  | cons p l =>
    unfold parseP
    rw [if_neg fmtP_ne]
    have : Lib.split (fmtP (c :: u) (p :: l)) (c :: u) = (p :: l).map pairT := split_join _ (by simp) fun x hx => by
      obtain ⟨q, _, rfl⟩ := List.mem_map.1 hx
      exact pairT_no h1 h2 h3
    rw [this, pairsOf_map, Option.bind_some, if_pos h]
theorem parse_q {l : List TPair} (h : okP l = true) : parseP [38] (fmtP [38] l) = some l := parse_fmt (by decide) (by decide) (by decide) h
theorem parse_c {l : List TPair} (h : okP l = true) : parseP [59, 32] (fmtP [59, 32] l) = some l := parse_fmt (by decide) (by decide) (by decide) h
theorem joinL_no {c : UInt8} {sep : List UInt8} (hs : noB c sep) : ∀ (ls : List (List UInt8)), (∀ l, l ∈ ls → noB c l) → noB c (joinL sep ls)
  | [], _ => fun x hx => by cases hx
  | l :: r, h => by
    unfold joinL
    rw [Lib.join_cons]
    refine noB_app (h l (by simp)) fun x hx => ?_
    unfold Lib.joinTail at hx
    obtain ⟨y, hy, hxy⟩ := List.mem_flatten.1 hx
    obtain ⟨z, hz, rfl⟩ := List.mem_map.1 hy
    rcases List.mem_append.1 hxy with h1 | h1
    · exact hs x h1
    · exact h z (List.mem_cons_of_mem _ hz) x h1
theorem fmtP_no {c : UInt8} {sep : List UInt8} (hs : noB c sep) (h1 : plainB c = false) (h2 : c ≠ 37) (h3 : c ≠ 61) (l : List TPair) : noB c (fmtP sep l) :=
  joinL_no hs _ fun x hx => by
    obtain ⟨q, _, rfl⟩ := List.mem_map.1 hx
    exact pairT_no h1 h2 h3
theorem path_no {l : List UInt8} {c : UInt8} (h : isN l = true) (h1 : pC c = false) (h2 : c ≠ 47) : noB c l := by
  have hn : normP l = some l := by simpa [isN] using h
  unfold normP at hn
  split at hn
  · cases hn
  · cases hs : splitP l with
    | none => rw [hs] at hn; cases hn
    | some o =>
      rw [hs, Option.bind_some] at hn
      split at hn
      · cases hn
        rename_i hin
        have := (splitP_ok hs).1
        refine joinL_no (fun x hx => ?_) o fun y hy x hx e => ?_
        · rw [List.mem_singleton.1 hx]; exact fun e => h2 e.symm
        · subst e
          have hp := this y hy
          unfold pPart at hp
          simp only [Bool.and_eq_true, List.all_eq_true] at hp
          rw [hp.1 x hx] at h1; cases h1
      · cases hn
theorem parse_req {x : TRequest} (h : isReq x = true) : parseR (fmtQ x) = some ⟨x.Path, x.Query.list, x.Cookies.list⟩ := by
  have h0 := h
  simp only [isReq, Bool.and_eq_true] at h0
  obtain ⟨⟨hp, hq⟩, hc⟩ := h0
  have hline : noB 13 (fqA x ++ (fqB x ++ httpS)) := by
    refine noB_app (noB_app (by unfold noB; decide) (path_no hp (by decide) (by decide))) (noB_app ?_ (by unfold noB httpS; decide))
    unfold fqB
    split
    · exact fun x hx => by cases hx
    · exact noB_app (l := [63]) (by unfold noB; decide) (fmtP_no (by unfold noB; decide) (by decide) (by decide) (by decide) _)
  have e : fmtQ x = (fqA x ++ (fqB x ++ httpS)) ++ (13 :: [10] ++ (fqD x ++ crlf)) := by simp [fmtQ, fqC, httpS, crlf]
  have hcut : Lib.cut (fmtQ x) crlf = (fqA x ++ (fqB x ++ httpS), fqD x ++ crlf, true) := by rw [e]; exact cut_first hline
  have htgt : target (fqA x ++ (fqB x ++ httpS)) = some (x.Path ++ fqB x) := by
    have e1 : fqA x ++ (fqB x ++ httpS) = getS ++ ((x.Path ++ fqB x) ++ httpS) := by simp [fqA, getS]
    have e2 : (getS ++ ((x.Path ++ fqB x) ++ httpS)).drop 5 = (x.Path ++ fqB x) ++ httpS := List.drop_left' rfl
    have p1 : Lib.hasPrefix (getS ++ ((x.Path ++ fqB x) ++ httpS)) getS = true := List.isPrefixOf_iff_prefix.2 (List.prefix_append _ _)
    have p2 : Lib.hasSuffix ((x.Path ++ fqB x) ++ httpS) httpS = true := by
      unfold Lib.hasSuffix
      exact List.isSuffixOf_iff_suffix.2 (List.suffix_append _ _)
    unfold target
    rw [e1, e2, p1, p2]
    have hl : (getS ++ ((x.Path ++ fqB x) ++ httpS)).length - 14 = (x.Path ++ fqB x).length := by simp [getS, httpS]; omega
    rw [hl, List.take_left]
    rfl
  have hck : ∃ k, cookies (fqD x ++ crlf) = some k ∧ parseP [59, 32] k = some x.Cookies.list := by
    unfold fqD
    by_cases hc0 : x.Cookies.list = []
    · rw [if_pos hc0, hc0]
      exact ⟨[], by decide, rfl⟩
    · rw [if_neg hc0]
      refine ⟨fmtP [59, 32] x.Cookies.list, ?_, parse_c hc⟩
      have e1 : [67, 111, 111, 107, 105, 101, 58, 32] ++ (fmtP [59, 32] x.Cookies.list ++ [13, 10]) ++ crlf = cookS ++ (fmtP [59, 32] x.Cookies.list ++ (13 :: [10] ++ crlf)) := by simp [cookS, crlf]
      have p1 : Lib.hasPrefix (cookS ++ (fmtP [59, 32] x.Cookies.list ++ (13 :: [10] ++ crlf))) cookS = true := List.isPrefixOf_iff_prefix.2 (List.prefix_append _ _)
      have e2 : (cookS ++ (fmtP [59, 32] x.Cookies.list ++ (13 :: [10] ++ crlf))).drop 8 = fmtP [59, 32] x.Cookies.list ++ (13 :: [10] ++ crlf) := List.drop_left' rfl
      have hcc : Lib.cut (fmtP [59, 32] x.Cookies.list ++ (13 :: [10] ++ crlf)) crlf = (fmtP [59, 32] x.Cookies.list, crlf, true) := cut_first (fmtP_no (by unfold noB; decide) (by decide) (by decide) (by decide) _)
      unfold cookies
      rw [e1, p1, if_pos rfl, e2, hcc, if_pos ⟨rfl, rfl⟩]
  obtain ⟨k, hk1, hk2⟩ := hck
  have hno : noB 63 x.Path := path_no hp (by decide) (by decide)
  have hnp : normP x.Path = some x.Path := by simpa [isN] using hp
  have hr : reqT (x.Path ++ fqB x) (some x.Cookies.list) = some ⟨x.Path, x.Query.list, x.Cookies.list⟩ := by
    have hok : PReq.ok ⟨x.Path, x.Query.list, x.Cookies.list⟩ = true := h
    unfold reqT fqB
    by_cases hq0 : x.Query.list = []
    · rw [if_pos hq0, List.append_nil, upTo_none hno, List.take_length, hnp, Option.bind_some, List.drop_eq_nil_of_le (by omega)]
      have : parseP [38] [] = some x.Query.list := by rw [hq0]; rfl
      rw [this, Option.bind_some, Option.bind_some, if_pos hok]
    · rw [if_neg hq0, upTo_pre hno, List.take_left, hnp, Option.bind_some]
      have : (x.Path ++ 63 :: fmtP [38] x.Query.list).drop (x.Path.length + 1) = fmtP [38] x.Query.list := by rw [← List.drop_drop, List.drop_left]; rfl
      rw [this, parse_q hq, Option.bind_some, Option.bind_some, if_pos hok]
  unfold parseR
  rw [hcut, if_pos rfl]
  show ((target _).bind fun t => (cookies (fqD x ++ crlf)).bind fun k => reqT t (parseP [59, 32] k)) = _
  rw [htgt, Option.bind_some, hk1, Option.bind_some, hk2, hr]
theorem parse_none : parseR [] = none := by decide
end A
end Go.Proofs.YtmhmaokbicgmbaaGreatDoor

/-
  The code that a law of the second kind is given: a slice of bytes. No condition.
-/


namespace Go.Proofs.YtmhmaokbicgmbaaGreatDoor
namespace A
set_option linter.unusedVariables false
theorem shByteS {n : Nat} {a : AV} (h : ShC Tryz.prog n 37 [a]) : ∃ s : SL Int, a = s.av 1 encU ∧ s.list.length ≤ mx := by
  obtain ⟨s, h1, h2, h3⟩ := sh_slc (P := Tryz.prog) (t := 37) (el := 5) (w := 1) (enc := encU) (ok := fun _ => True) (by kernel_rfl) (by kernel_rfl) (fun n row h => by obtain ⟨i, h1, _⟩ := sh_int1 (k := .u8) (P := Tryz.prog) (t := 5) (by kernel_rfl) h; exact ⟨i, h1, trivial⟩) h
  exact ⟨s, h1, h2⟩
end A
end Go.Proofs.YtmhmaokbicgmbaaGreatDoor

/-
  FnRequests answers true. No condition.
-/






namespace Go.Proofs.YtmhmaokbicgmbaaGreatDoor
namespace A
set_option linter.unusedVariables false
set_option linter.unusedSimpArgs false
set_option maxRecDepth 100000

theorem smL_sz {l : List TPair} (h : SmL l 5) : l.length + szL TPair.sz l ≤ 645 := by
  have key : ∀ l : List TPair, (∀ x, x ∈ l → x.Name.length ≤ 64 ∧ x.Value.length ≤ 64) → szL TPair.sz l ≤ 128 * l.length := by
    intro l
    induction l with
    | nil => intro _; simp [szL]
    | cons a l ih =>
      intro h
      have h1 := ih fun x hx => h x (List.mem_cons_of_mem _ hx)
      have h2 := h a List.mem_cons_self
      simp [szL, TPair.sz] at h1 ⊢
      omega
  have := key l h.2
  have := h.1
  omega
theorem smL_P {l : List TPair} (h : SmL l 5) : SmP l := ⟨by have := h.1; omega, fun x hx => by have := (h.2 x hx).1; omega⟩
theorem smL_ok {s : SL TPair} (h : SmL s.list 5) : okPairS s := ⟨by have := h.1; unfold mx; omega, fun x hx => ⟨by have := (h.2 x hx).1; unfold mx; omega, by have := (h.2 x hx).2; unfold mx; omega⟩⟩
theorem sm_ok {x : TRequest} (h : SmReq x) : x.ok := ⟨by have := h.1; unfold mx; omega, smL_ok h.2.1, smL_ok h.2.2⟩
theorem sm_sz {x : TRequest} (h : SmReq x) : x.sz ≤ 1048576 := by
  have h0 : x.sz = x.Path.length + (x.Query.list.length + szL TPair.sz x.Query.list) + (x.Cookies.list.length + szL TPair.sz x.Cookies.list) := rfl
  have := smL_sz h.2.1
  have := smL_sz h.2.2
  have := h.1
  omega
theorem sm_len {x : TRequest} (h : SmReq x) : (fmtQ x).length ≤ 1048576 := by
  have l1 := fmtP_len (sep := [38]) (by simp) x.Query.list
  have l2 := fmtP_len (sep := [59, 32]) (by simp) x.Cookies.list
  have := smL_sz h.2.1
  have := smL_sz h.2.2
  have := h.1
  have hB : (fqB x).length ≤ 1 + (fmtP [38] x.Query.list).length := by unfold fqB; split <;> simp; omega
  have hD : (fqD x).length ≤ 10 + (fmtP [59, 32] x.Cookies.list).length := by unfold fqD; split <;> simp; omega
  simp [fmtQ, fqA, fqC]
  omega
theorem seq_cut {P : Program} {A B : IR} {Q : Post} {e : Env} {H : List AObj} {c : Nat} (R : Env → List AObj → Nat → Prop) (hB : ∀ e H c, R e H c → irW P B Q e H c)
    (hA : ∀ K : Env → List AObj → Nat → Prop, (∀ e H c, R e H c → K e H c) → irW P A (thenQ K Q) e H c) : irW P (A.seq B) Q e H c := hA _ hB
theorem blk_cut {P : Program} {A : IR} {Q : Post} {id : Nat} {e : Env} {H : List AObj} {c : Nat} (h : irW P A (blockQ id Q) e H c) : irW P (.block id A) Q e H c := h
theorem valF_some {K : TKey} : ∀ (l : List TPair) (o : Option (List UInt8)), o.isSome = true → (l.foldl (valF K) o).isSome = true
  | [], o, h => h
  | p :: l, o, h => valF_some l _ (by unfold valF; split <;> simp [h])
theorem valP_some {l : List TPair} {p : TPair} (h : p ∈ l) : ∃ v, valP l (tKey p.Name) = some v := by
  have key : ∀ (l : List TPair) (o : Option (List UInt8)), p ∈ l → (l.foldl (valF (tKey p.Name)) o).isSome = true := by
    intro l
    induction l with
    | nil => intro o h; simp at h
    | cons a l ih =>
      intro o h
      rcases List.mem_cons.1 h with h | h
      · subst h; exact valF_some l _ (by simp [valF])
      · exact ih _ h
  exact Option.isSome_iff_exists.1 (key l none h)
theorem con_val {b : TValue} {l : List TPair} (h : b.con = (arrV l).con) : b.enc = vrow (arrP l).2 (b.Items.av 8 TEntry.enc) ∧ b.Items.list = (arrP l).1 := by
  cases b with
  | mk k n s x it =>
    simp [TValue.con, arrV] at h
    obtain ⟨h1, h2, h3, h4, h5⟩ := h
    subst h1; subst h2; subst h3; subst h4
    refine ⟨rfl, ?_⟩
    have := congrArg SL.list h5
    simpa using this
theorem vars_two {x : TRequest} {b : SL TBinding} (hi : isReq x = true) (hb : b.list.map TBinding.con = (varsP x).map TBinding.con) :
    ∃ b1 b2, b.list = [b1, b2] ∧ b1.Name = nGet ∧ TValue.enc b1.Val = vrow (arrP x.Query.list).2 (b1.Val.Items.av 8 TEntry.enc) ∧ b1.Val.Items.list = (arrP x.Query.list).1 ∧
      b2.Name = nCookie ∧ TValue.enc b2.Val = vrow (arrP x.Cookies.list).2 (b2.Val.Items.av 8 TEntry.enc) ∧ b2.Val.Items.list = (arrP x.Cookies.list).1 := by
  have hv : varsP x = [⟨nGet, arrV x.Query.list⟩, ⟨nCookie, arrV x.Cookies.list⟩] := by unfold varsP; rw [if_pos hi]
  rw [hv] at hb
  match hl : b.list, hb with
  | [b1, b2], hb =>
    simp [TBinding.con] at hb
    obtain ⟨⟨h1, h2⟩, h3, h4⟩ := hb
    exact ⟨b1, b2, rfl, h1, (con_val h2).1, (con_val h2).2, h3, (con_val h4).1, (con_val h4).2⟩
  | [], hb => simp at hb
  | [b1], hb => simp at hb
  | b1 :: b2 :: b3 :: l, hb => simp at hb
theorem from_key (k : TKey) (c : Nat) : From c (.agg k.enc) := from_agg fun a ha => by
  simp [TKey.enc] at ha
  rcases ha with rfl | rfl | rfl <;> simp
theorem law_requests {s : SL Int} (hs : s.list.length ≤ mx) (c : Nat) : Con Tryz.prog 4 [s.av 1 encU] [] c fun r H' _ => r = .bool true ∧ H' = [] := by
  refine con_of c4 (by simp [F4]) ?_
  unfold F4
  simp
  refine call_fn0 (big_fn hs) .bool fun _ _ => ?_
  by_cases hbig : (1048576 : Int) < s.list.length
  · simp [hbig]
    exact fin_plain ⟨rfl, rfl⟩
  simp [hbig]
  refine call_tree0 (draw_req (by omega)) fun r c1 _ ⟨x, hr, hsm⟩ _ => ?_
  subst hr
  simp
  have hok := sm_ok hsm
  have hsz := sm_sz hsm
  have hlen := sm_len hsm
  refine call_fn0 (impl_fmtReq hok hsz) .str fun _ _ => ?_
  simp
  cases hi : isReq x with
  | false =>
    simp
    refine call_tree0 (rqs_tr fun c => implReq_con (s := []) (by simp) c) fun r c2 _ ⟨y, hr, hy⟩ _ => ?_
    subst hr
    simp [parse_none, putA]
    refine call_fn0 (spec_isReq hok) .bool fun _ _ => ?_
    simp [hi]
    refine call_tree0 (vars_tr fun c => impl_vars hok (smL_P hsm.2.1) (smL_P hsm.2.2) c) fun r c3 _ ⟨b, hr, hb⟩ _ => ?_
    subst hr
    have hb0 : b.list.length = 0 := by
      have := congrArg List.length hb
      simpa [varsP, hi] using this
    simp [hb0]
    exact fin_plain ⟨rfl, rfl⟩
  | true =>
    simp
    refine call_tree0 (rqs_tr fun c => implReq_con hlen c) fun r c2 _ ⟨y, hr, hy⟩ _ => ?_
    subst hr
    rw [parse_req hi] at hy
    obtain ⟨y1, y2, y3⟩ := hy
    simp [parse_req hi, putA]
    refine call_fn0 (spec_isReq hok) .bool fun _ _ => ?_
    simp [hi]
    have hoq : okP x.Query.list = true ∧ okP x.Cookies.list = true := by
      have := hi
      simp [isReq] at this
      exact ⟨this.1.2, this.2⟩
    have zq := smL_sz hsm.2.1
    have zk := smL_sz hsm.2.2
    have lq := fmtP_len (sep := [38]) (by simp) x.Query.list
    have lk := fmtP_len (sep := [59, 32]) (by simp) x.Cookies.list
    have pq := parse_q hoq.1
    have pk := parse_c hoq.2
    refine call_fn0 (impl_fmtQ (by omega)) .str fun _ _ => ?_
    simp
    refine call_tree0 (prs_tr fun c => impl_Query (l := fmtP [38] x.Query.list) (by omega) c) fun r c3 _ ⟨q, hr, hq⟩ _ => ?_
    subst hr
    rw [pq] at hq
    simp [pq]
    refine call_fn0 (impl_fmtC (by omega)) .str fun _ _ => ?_
    simp
    refine call_tree0 (prs_tr fun c => impl_Cookies (l := fmtP [59, 32] x.Cookies.list) (by omega) c) fun r c4 _ ⟨k, hr, hk⟩ _ => ?_
    subst hr
    rw [pk] at hk
    simp [pk, hi, y1]
    refine call_fn0 (samePairs_fn (a := y.Query) (b := x.Query) y2 (by rw [y2]; have := hsm.2.1.1; simp; omega)) .bool fun _ _ => ?_
    simp
    refine call_fn0 (samePairs_fn (a := y.Cookies) (b := x.Cookies) y3 (by rw [y3]; have := hsm.2.2.1; simp; omega)) .bool fun _ _ => ?_
    simp
    refine call_fn0 (samePairs_fn (a := q) (b := x.Query) hq (by rw [hq]; have := hsm.2.1.1; simp; omega)) .bool fun _ _ => ?_
    simp
    refine call_fn0 (samePairs_fn (a := k) (b := x.Cookies) hk (by rw [hk]; have := hsm.2.2.1; simp; omega)) .bool fun _ _ => ?_
    simp
    refine call_tree0 (vars_tr fun c => impl_vars hok (smL_P hsm.2.1) (smL_P hsm.2.2) c) fun r c5 _ ⟨b, hr, hb⟩ _ => ?_
    subst hr
    obtain ⟨b1, b2, hbl, n1, v1, l1, n2, v2, l2⟩ := vars_two hi hb
    have hb2 : b.list.length = 2 := by rw [hbl]; rfl
    have hg0 : b.list[0]? = some b1 := by rw [hbl]; rfl
    have w1 := wf_arr hsm.2.1.2
    have w2 := wf_arr hsm.2.2.2
    have a1 := (arrP_bnd x.Query.list).2.2
    have a2 := (arrP_bnd x.Cookies.list).2.2
    have s1 := hsm.2.1.1
    have s2 := hsm.2.2.1
    simp [hb2]
    refine call_fn0 (areVars_fn (l := b) ?_ ?_ (by omega)) .bool fun _ _ => ?_
    · intro z hz
      rw [hbl] at hz
      simp at hz
      rcases hz with rfl | rfl
      · exact ⟨.inl n1, _, _, v1, by rw [l1]; exact w1, by rw [l1]; omega⟩
      · exact ⟨.inr n2, _, _, v2, by rw [l2]; exact w2, by rw [l2]; omega⟩
    · intro i k a d ha hd hk
      rw [hbl] at ha hd
      match i, k, ha, hd, hk with
      | 1, 0, ha, hd, _ => simp at ha hd; subst ha; subst hd; rw [n1, n2]; decide
      | 0, k, ha, hd, hk => omega
      | i + 2, k, ha, hd, hk => simp at ha
      | 1, k + 1, ha, hd, hk => omega
    simp [hb2, getW_of hg0, n1, nGet]

    refine loop_drop x.Query.list.length (fun i e H c' => e 3 = .ptr 0 c1 3 0 0 ∧ e 11 = b.av 6 TBinding.enc ∧ e 12 = .int .i64 i ∧ H = [⟨false, c1, 3, [x.enc]⟩, ⟨false, c2, 3, [y.enc]⟩]) ⟨rfl, rfl, rfl, rfl⟩ ?_
    intro i e H c' hi ⟨e3, e11, e12, hH⟩ N hN
    subst hH
    by_cases h : i < x.Query.list.length
    · have hx : x.Query.list[i]? = some x.Query.list[i] := List.getElem?_eq_getElem h
      generalize x.Query.list[i] = p at hx
      have hpm : p ∈ x.Query.list := List.mem_of_getElem? hx
      have hpl := (hsm.2.1.2 p hpm).1
      obtain ⟨v0, hv0⟩ := valP_some hpm
      have hget : getE b1.Val.Items.list (tKey p.Name) = some (txV v0) := by rw [l1, get_arr, hv0]; rfl
      have hbn : b1.Val.Items.list.length ≤ mx := by rw [l1]; unfold mx; omega
      have htk : List.take 5 b1.enc.tail = vrow (arrP x.Query.list).2 (b1.Val.Items.av 8 TEntry.enc) := v1
      refine seq_cut (fun e' H' c' => e' 3 = .ptr 0 c1 3 0 0 ∧ e' 11 = b.av 6 TBinding.enc ∧ e' 12 = .int .i64 i ∧ H' = [⟨false, c1, 3, [x.enc]⟩, ⟨false, c2, 3, [y.enc]⟩]) ?_ ?_
      rotate_left
      · intro K hK
        simp [e3, e11, e12, h]
        exact hK _ _ _ ⟨by simp [upd, e3], by simp [upd, e11], by simp [upd, e12], rfl⟩
      clear e3 e11 e12
      intro e H c' ⟨e3, e11, e12, hH⟩
      subst hH
      refine seq_cut (fun e' H' c' => e' 3 = .ptr 0 c1 3 0 0 ∧ e' 11 = b.av 6 TBinding.enc ∧ e' 12 = .int .i64 i ∧ [⟨false, c1, 3, [x.enc]⟩, ⟨false, c2, 3, [y.enc]⟩].Sublist H') ?_ ?_
      · intro e H c' ⟨e3, e11, e12, hH⟩
        simp [e3, e11, e12]
        exact hN _ _ _ _ h hH ⟨by simp [upd, e3], by simp [upd, e11], by simp [upd]; exact step64 (by unfold mx; omega) h, rfl⟩
      intro K hK
      refine blk_cut (seq_cut (fun e' H' c' => e' 3 = .ptr 0 c1 3 0 0 ∧ e' 11 = b.av 6 TBinding.enc ∧ e' 12 = .int .i64 i ∧ e' 14 = .bool true ∧ ∃ t, e' 13 = .ptr 2 t 5 0 0 ∧ H' = [⟨false, c1, 3, [x.enc]⟩, ⟨false, c2, 3, [y.enc]⟩, ⟨false, t, 5, [(txV v0).enc]⟩]) ?_ ?_)
      rotate_left
      · clear hK hN
        intro K hK
        simp [e3, e11, e12, h, getW_of hg0, getW_of hx, htk]
        repeat' (first
          | refine And.intro ?_ ?_
          | (refine call_fn0 (specKey_fn (by unfold mx; omega)) (free_key _ _) fun _ _ => ?_
             simp [e3, e11, e12, h, getW_of hg0, getW_of hx, htk])
          | (refine call_fn0 (getKey_fn hbn hget) (free_txb _ _ _) fun _ _ => ?_
             simp [e3, e11, e12, h, getW_of hg0, getW_of hx, htk])
          | exact hK _ _ _ ⟨by simp [upd, e3], by simp [upd, e11], by simp [upd, e12], by simp [upd], _, rfl, rfl⟩)
      · clear e3 e11 e12
        intro e H c' ⟨e3, e11, e12, e14, t, e13, hH⟩
        subst hH
        simp [e3, e11, e12, e13, e14, h, getW_of hx]
        generalize hKK : tKey p.Name = KK at hv0 hget
        refine loop_drop (x.Query.list.length - i) (fun j e H c' => e 3 = .ptr 0 c1 3 0 0 ∧ e 11 = b.av 6 TBinding.enc ∧ e 12 = .int .i64 i ∧ e 14 = .bool true ∧ e 13 = .ptr 2 t 5 0 0 ∧ e 16 = .int .i64 ((i + j : Nat) : Int) ∧ (∃ w, e 15 = .str w ∧ ((j = 0 ∧ w = p.Value) ∨ (x.Query.list.take (i + j)).foldl (valF KK) none = some w)) ∧ H = [⟨false, c1, 3, [x.enc]⟩, ⟨false, c2, 3, [y.enc]⟩, ⟨false, t, 5, [(txV v0).enc]⟩]) ⟨by simp [upd, e3], by simp [upd, e11], by simp [upd, e12], by simp [upd, e14], by simp [upd, e13], by simp [upd], ⟨_, rfl, .inl ⟨rfl, rfl⟩⟩, rfl⟩ ?_
        intro j e H c' hj ⟨e3, e11, e12, e14, e13, e16, ⟨w, e15, hw⟩, hH⟩ M hM
        subst hH
        generalize hk : i + j = k at e16 hw hM
        by_cases hkl : k < x.Query.list.length
        · have hy : x.Query.list[k]? = some x.Query.list[k] := List.getElem?_eq_getElem hkl
          have hfs : (x.Query.list.take (k + 1)).foldl (valF KK) none = valF KK ((x.Query.list.take k).foldl (valF KK) none) x.Query.list[k] := by
            rw [List.take_succ_eq_append_getElem hkl, List.foldl_append]; rfl
          generalize x.Query.list[k] = d at hy hfs
          have hpl2 := (hsm.2.1.2 d (List.mem_of_getElem? hy)).1
          simp [e3, e11, e12, e13, e14, e15, e16, h, hkl, getW_of hx, getW_of hy]
          refine ⟨fun n r => if n = 163 then r = .agg (tKey d.Name).enc else r = .agg KK.enc, ?_⟩
          refine callD_fn0 (specKey_fn (by unfold mx; omega)) (fun v => by simp) (from_key _) ?_
          simp [e3, e11, e12, e13, e14, e15, e16, h, hkl, getW_of hx, getW_of hy]
          refine callD_fn0 (res := .agg KK.enc) (by rw [← hKK]; exact specKey_fn (by unfold mx; omega)) (fun v => by simp) (from_key _) ?_
          have hvf : ∀ o, valF KK o d = if tKey d.Name = KK then some d.Value else o := fun o => rfl
          by_cases hkk : tKey d.Name = KK
          · simp [e3, e11, e12, e13, e14, e15, e16, h, hkl, getW_of hx, getW_of hy, hkk, -beqW'_agg]
            intro c2' hc2'
            exact hM _ _ _ _ (by omega) (List.Sublist.refl _) ⟨by simp [upd, e3], by simp [upd, e11], by simp [upd, e12], by simp [upd, e14], by simp [upd, e13], by simp [upd]; rw [step64 (by unfold mx; omega) hkl]; omega, ⟨_, rfl, .inr (by rw [← hk] at *; simp only [← Nat.add_assoc]; rw [hfs, hvf, if_pos hkk])⟩, rfl⟩
          · simp [e3, e11, e12, e13, e14, e15, e16, h, hkl, getW_of hx, getW_of hy, hkk, -beqW'_agg]
            intro c2' hc2'
            have hwf : (x.Query.list.take k).foldl (valF KK) none = some w := by
              rcases hw with ⟨h0, _⟩ | hw
              · have hki : k = i := by omega
                rw [hki, hx] at hy
                have hdp : p = d := by simpa using hy
                exact absurd (hdp ▸ hKK) hkk
              · exact hw
            exact hM _ _ _ _ (by omega) (List.Sublist.refl _) ⟨by simp [upd, e3], by simp [upd, e11], by simp [upd, e12], by simp [upd, e14], by simp [upd, e13], by simp [upd]; rw [step64 (by unfold mx; omega) hkl]; omega, ⟨w, by simp [upd, e15], .inr (by rw [← hk] at *; simp only [← Nat.add_assoc]; rw [hfs, hvf, if_neg hkk, hwf])⟩, rfl⟩
        · have hke : k = x.Query.list.length := by omega
          have hwv : w = v0 := by
            rcases hw with ⟨h0, _⟩ | hw
            · omega
            · rw [hke, List.take_length] at hw
              have : valP x.Query.list KK = some w := hw
              rw [hv0] at this
              simpa using this.symm
          subst hwv
          subst hke
          simp [e3, e11, e12, e13, e14, e15, e16]
          exact hK _ _ _ ⟨by simp [upd, e3], by simp [upd, e11], by simp [upd, e12], ((List.Sublist.refl _).cons_cons _).cons_cons _ |>.trans (by simp)⟩
    · have hie : i = x.Query.list.length := by omega
      subst hie
      simp [e3, e11, e12]
      exact fin_plain ⟨rfl, rfl⟩
end A
end Go.Proofs.YtmhmaokbicgmbaaGreatDoor

/-
  The wrap of a row that lists package variables, the world's shape kept. No condition.
-/


namespace Go.Proofs.YtmhmaokbicgmbaaGreatDoor
namespace A
open Go.RowKit
set_option linter.unusedVariables false
section
variable {H : Type} {enc : TypeId × Value → H}
theorem returns_shaped {a : Assume} {C : Checked} {os : Os} {f : FuncId} {fn : Func} {s : ChangeSpec} {conds : List PathCond} {apart fresh handsOn again : Bool} {X : World → Array Value → Prop}
    (hX : ∀ (w w' : World) (args : Array Value), w.heap = w'.heap → X w args → X w' args)
    (own : ownKnob C.prog.godebug = none) (started : os.Started) (noInit : C.prog.inits.idxOf? f = none) (hfn : C.prog.funcs[f]? = some fn)
    (witness : ∃ (w : World) (tape : Tape) (i : Input), w.os = os ∧ (w.forCall tape i).Shaped C.prog ∧ i.vars = [] ∧ Input.okWide C.prog (w.forCall tape i) .any w.heap.size f i ∧
      ((s.pre enc C.prog fn conds apart (w.forCall tape i).memory i.args ∧ X (w.forCall tape i).memory i.args) ∧ sizedMet enc C.prog fn (OpenSpec.ofChange s) apart (w.forCall tape i).memory i.args) ∧ a.holds C.prog (lone (Frame.enter C.prog f i.args .normal) [] (w.forCall tape i)))
    (contract : ∀ (W : World) (base : Nat) (args : Array Value) (ds gs : List (DataW H)) (before : List MemPlace),
      (∀ (j : Nat) t v, fn.params[j]? = some t → args[j]? = some v → Value.okWide C.prog W .any base t v) →
      DataW.Whole enc C.prog fn.params.toList s.vars apart W args.toList ds gs before →
      conds.all (PathCond.test C.prog ⟨fn.params.toList, ds, s.plain.varTypes C.prog, gs⟩) = true → X W args → W.ShapedOpen C.prog →
      Calls C.prog f args W fun e W' => ∃ v, e = .returned v ∧ s.post enc C.prog fn apart fresh handsOn again W args v W') :
    ReturnsInHanded a C os f .any (fun w args => (s.pre enc C.prog fn conds apart w args ∧ X w args) ∧ sizedMet enc C.prog fn (OpenSpec.ofChange s) apart w args) (s.post enc C.prog fn apart fresh handsOn again) := by
  refine returnsInHanded_of_calls own started noInit witness ?_
  intro w tape i _ hsh _ hok hpre _
  obtain ⟨_, _, _, fn', hfn', _, _, _, _, hval⟩ := hok
  have e : fn' = fn := Option.some.inj (hfn'.symm.trans hfn)
  subst e
  obtain ⟨⟨⟨ds, gs, before, hw, hc⟩, hx⟩, _⟩ := hpre
  refine (contract (w.forCall tape i) w.heap.size i.args ds gs before hval (DataW.Whole.of_heap (w' := w.forCall tape i) (by rfl) hw) hc (hX _ _ _ (by rfl) hx) hsh).mono fun e W' ⟨v, he, hp⟩ => ?_
  subst he
  exact ChangeSpec.post_blind hp
end
theorem cell_block {w : World} {m : Int} (hm : w.cell? ⟨0, 0, none⟩ = some (.int .i64 m)) : 0 < w.heap.size ∧ ∃ c t fr, w.heap[0]? = some (.cells c t fr) ∧ c[0]? = some (Value.int .i64 m) := by
  rw [cell?_eq] at hm
  unfold hcell at hm
  split at hm
  · rename_i c t fr hc
    exact ⟨(Array.getElem?_eq_some_iff.1 hc).1, c, t, fr, hc, hm⟩
  · cases hm
end A
end Go.Proofs.YtmhmaokbicgmbaaGreatDoor

/-
  A variable that is laid as0 an error, as0 it lies in the memory. No condition.
-/




namespace Go.Proofs.YtmhmaokbicgmbaaGreatDoor
namespace A
open Go.RowKit
set_option linter.unusedVariables false
theorem iface_of_head {P : Program} {W : World} {name nm : String} {d : DataW Unit} {rest : List (String × DataW Unit)} {g : Nat} {ti : TypeId}
    (hg : P.globalNamed name = some g) (hty : (P.globals[g]?).map (·.type) = some ti) (hi : isIfcT P ti = true) (h : laidMet P ((name, .iface nm d) :: rest) W) :
    ∃ t fr u v, W.heap[g]? = some (.cells #[.iface u v] t fr) := by
  obtain ⟨ps, ⟨g', t', cs, fuel, p, q, hg', ht', hvar, hd, _, _⟩, _⟩ := h
  obtain rfl := Option.some.inj (hg.symm.trans hg')
  obtain rfl := Option.some.inj (hty.symm.trans ht')
  obtain ⟨ms, hms⟩ : ∃ ms, P.underlying ti = some (.interface ms) := by
    unfold isIfcT at hi
    split at hi
    · rename_i ms h; exact ⟨ms, h⟩
    · cases hi
  obtain ⟨_, u, v, hcs, _, _⟩ := iface_of_trod hms hd
  unfold World.var? at hvar
  rw [hg] at hvar
  simp only [Option.bind_some] at hvar
  split at hvar
  · rename_i cs' t fr hc
    cases hvar
    refine ⟨t, fr, u, v, ?_⟩
    rw [hc]
    have : cs = #[.iface u v] := by rw [← Array.toList_inj, hcs]
    rw [this]
  · cases hvar
end A
end Go.Proofs.YtmhmaokbicgmbaaGreatDoor

/-
  Facts of the whole program that every row of the seat asks, each worked out once. No condition.
-/


namespace Go.Proofs.YtmhmaokbicgmbaaGreatDoor.Closed
open Go.ChangeShapes Go.WideShapes Go.RowKit
theorem heard : Tryz.pinned.checked.prog.stopsHeard = true := by kernel_rfl
theorem enter : Tryz.pinned.checked.prog.mayEnter = true := by kernel_rfl
theorem make : Tryz.pinned.checked.prog.make = some Rows.fnExactRequestVarsRow.make := by kernel_rfl
theorem lifts : Tryz.pinned.checked.prog.liftsFinal = Rows.fnExactRequestVarsRow.lifted := by kernel_rfl
end Go.Proofs.YtmhmaokbicgmbaaGreatDoor.Closed

/-
  FnRequests: requests are written and read again, and their variables are those of the query, for all arguments. No condition.
-/














namespace Go.Proofs.YtmhmaokbicgmbaaGreatDoor.fnRequests
open Go.ChangeShapes Go.WideShapes Go.ChangeAt Go.RowKit
open Go.Proofs.YtmhmaokbicgmbaaGreatDoor.A
set_option linter.unusedVariables false

theorem own : ownKnob Tryz.prog.godebug = none := by kernel_rfl

def types : List TypeId := [37, 5, 4]

set_option maxRecDepth 100000 in
theorem lifted (os : Os) (started : os.Started) (H : Type) (enc : TypeId × Value → H) :
    ReturnsInHanded {} Tryz.checked os 4 .any (fun w args => (Rows.fnRequestsSpec.pre enc Tryz.prog Tryz.f4 Rows.fnRequestsRow.domain false w args ∧ laidMetH Tryz.prog Rows.fnRequestsRow.laid w) ∧ sizedMet enc Tryz.prog Tryz.f4 (OpenSpec.ofChange Rows.fnRequestsSpec) false w args) (Rows.fnRequestsSpec.post enc Tryz.prog Tryz.f4 false true false false) := by
  refine A.returns_shaped (C := Tryz.checked) (X := fun w _ => laidMetH Tryz.prog Rows.fnRequestsRow.laid w) (fun _ _ _ hh h => h.of_heap hh) own started (by kernel_rfl) Tryz.func4
    (ChangeSpec.witness_shaped (enc := enc) (C := Tryz.checked) (os := os) (X := fun w _ => laidMetH Tryz.prog Rows.fnRequestsRow.laid w) false (World.laidAll Tryz.prog os Rows.fnRequestsRow.laid) #[.slice none 0 0] 8 (World.laidAll_os _ _ _)
      (World.shaped_of_ZipB (by kernel_rfl) (by kernel_rfl)) (by kernel_rfl) (by kernel_rfl) (by kernel_rfl)
      (by rw [MakeChecks.laidMetH_plain _ _ _ (by kernel_rfl)]; exact laidMet_laidAll _ (by kernel_rfl) (by kernel_rfl))) ?_
  intro W base args ds gs before hval0 hW hcnd hL hsh
  obtain ⟨m, hm⟩ := Tryz.laysM146.s1_3 W hsh
  have htab : Lib.TabIs Tryz.prog W "internal/strconv.uint64pow10" .u64 Lib.pow10Tab := by
    have h1 := hL.filter fun x => x.1 == "internal/strconv.uint64pow10"
    rw [show (Rows.fnRequestsRow.laid.filter fun x => x.1 == "internal/strconv.uint64pow10") = [("internal/strconv.uint64pow10", Lib.tabData .u64 Lib.pow10Tab)] from by kernel_rfl, MakeChecks.laidMetH_plain _ _ _ (by kernel_rfl)] at h1
    exact Lib.tabIs_of_head (g := 5) (t := 178) (e := 163) (n := 20) (by kernel_rfl) (by kernel_rfl) (by kernel_rfl) (by kernel_rfl) (by kernel_rfl) (by kernel_rfl) h1
  have heS : ∃ t fr u v, W.heap[3]? = some (.cells #[.iface u v] t fr) := by
    have h1 := hL.filter fun x => x.1 == "strconv.ErrSyntax"
    rw [show (Rows.fnRequestsRow.laid.filter fun x => x.1 == "strconv.ErrSyntax") = [("strconv.ErrSyntax", Rows.laid_strconv_ErrSyntax)] from by kernel_rfl, MakeChecks.laidMetH_plain _ _ _ (by kernel_rfl)] at h1
    exact iface_of_head (ti := 122) (by kernel_rfl) (by kernel_rfl) (by kernel_rfl) h1
  have heR : ∃ t fr u v, W.heap[4]? = some (.cells #[.iface u v] t fr) := by
    have h1 := hL.filter fun x => x.1 == "strconv.ErrRange"
    rw [show (Rows.fnRequestsRow.laid.filter fun x => x.1 == "strconv.ErrRange") = [("strconv.ErrRange", Rows.laid_strconv_ErrRange)] from by kernel_rfl, MakeChecks.laidMetH_plain _ _ _ (by kernel_rfl)] at h1
    exact iface_of_head (ti := 122) (by kernel_rfl) (by kernel_rfl) (by kernel_rfl) h1
  have hg : ∀ b, b < NB → b < W.heap.size ∧ GL b W.heap[b]? := by
    obtain ⟨h0, c, t, fr, hc, hcm⟩ := cell_block hm
    obtain ⟨t4, fr4, u4, v4, h4⟩ := heS
    obtain ⟨t5, fr5, u5, v5, h5⟩ := heR
    have hs4 := (Array.getElem?_eq_some_iff.1 h4).1
    have hs5 := (Array.getElem?_eq_some_iff.1 h5).1
    unfold Lib.TabIs World.var? at htab
    rw [show Tryz.prog.globalNamed "internal/strconv.uint64pow10" = some 5 by kernel_rfl] at htab
    simp only [Option.bind_some] at htab
    split at htab
    · rename_i cs t1 fr1 hc1
      have hs1 := (Array.getElem?_eq_some_iff.1 hc1).1
      intro b hb
      have hb6 : b < 6 := hb
      refine ⟨by omega, ?_, ?_, ?_⟩
      · intro e; subst e; exact ⟨c, t, fr, m, hc, hcm⟩
      · intro e; subst e; exact ⟨t1, fr1, by rw [hc1, Option.some.inj htab]⟩
      · rintro (e | e)
        · subst e; exact ⟨_, t4, fr4, .iface u4 v4, h4, rfl, .inr ⟨u4, v4, rfl⟩⟩
        · subst e; exact ⟨_, t5, fr5, .iface u5 v5, h5, rfl, .inr ⟨u5, v5, rfl⟩⟩
    · cases htab
  have hval : ∀ (j : Nat) t v, Tryz.f4.params[j]? = some t → args[j]? = some v → Value.okWide Tryz.prog W .any base t v := hval0
  refine law_post (rs := types) (bt := 4) (by kernel_rfl) (by kernel_rfl) (fun t ht => ?_) Tryz.underlying4 (by kernel_rfl) rfl (fun ds hds => ?_) hW hval (fun l has => ?_) hg
  · rw [Tryz.params4] at ht
    simp at ht
    first
      | (subst ht; exact ⟨by simp [types], by kernel_rfl, of_decide_eq_true (by kernel_rfl)⟩)
      | (rcases ht with rfl | rfl <;> exact ⟨by simp [types], by kernel_rfl, of_decide_eq_true (by kernel_rfl)⟩)
      | (rcases ht with rfl | rfl | rfl <;> exact ⟨by simp [types], by kernel_rfl, of_decide_eq_true (by kernel_rfl)⟩)
      | (rcases ht with rfl | rfl | rfl | rfl <;> exact ⟨by simp [types], by kernel_rfl, of_decide_eq_true (by kernel_rfl)⟩)
      | (rcases ht with rfl | rfl | rfl | rfl | rfl <;> exact ⟨by simp [types], by kernel_rfl, of_decide_eq_true (by kernel_rfl)⟩)
      | (rcases ht with rfl | rfl | rfl | rfl | rfl | rfl <;> exact ⟨by simp [types], by kernel_rfl, of_decide_eq_true (by kernel_rfl)⟩)
  · rw [← Array.length_toList, Tryz.params4] at hds
    match ds, hds with
    | [d0], _ => exact ⟨rfl, rfl, rfl⟩
  · rw [Tryz.params4] at has
    cases has with
    | cons h0 has =>
      cases has
      obtain ⟨n0, h0⟩ := h0
      rw [if_neg (by decide)] at h0
      obtain ⟨s0, rfl, k0⟩ := shByteS h0
      exact A.law_requests k0 _

set_option maxHeartbeats 4000000 in
theorem facts : joinedFacts Tryz.pinned.checked.prog 4 Tryz.f4 Rows.fnRequestsSpec Rows.fnRequestsRow = true := by
  unfold joinedFacts
  rw [Closed.heard, Closed.enter, Closed.lifts, Closed.make]
  simp only [Bool.and_eq_true]
  iterate 6 (refine ⟨?_, by as_aux_lemma => kernel_rfl⟩)
  refine ⟨⟨?_, trivial⟩, trivial⟩
  iterate 23 (refine ⟨?_, by as_aux_lemma => kernel_rfl⟩)
  kernel_rfl
theorem named : Tryz.pinned.checked.prog.funcNamed Rows.fnRequestsRow.func = some 4 := by kernel_rfl
theorem inst : Tryz.f4.isInstance Tryz.pinned.checked.prog Rows.fnRequestsRow.origin Rows.fnRequestsRow.targs := of_decide_eq_true (by kernel_rfl)
theorem wrap : Tryz.f4.isWrapper Tryz.pinned.checked.prog Rows.fnRequestsRow.wrapper Rows.fnRequestsRow.mainSum := by
  unfold Func.isWrapper
  first
    | (rw [if_pos (by decide +kernel)]; kernel_rfl)
    | (rw [if_neg (by decide +kernel)]; exact ⟨rfl, rfl⟩)

theorem over : Rows.fnRequestsRow.holds Tryz.pinned (OpenSpec.ofChange Rows.fnRequestsSpec) :=
  OpenClaim.holds_of_wide 4 Tryz.f4 rfl rfl rfl rfl rfl rfl rfl ⟨rfl, rfl, rfl, rfl, rfl⟩ rfl rfl rfl rfl rfl named Tryz.func4 facts inst wrap
    (fun os started H enc _ => lifted os started H enc)

theorem row : Rows.FnRequestsSaid := over
/-- THE STATEMENT -/
theorem proved : Rows.FnRequestsCardSaid :=
  Claim7.holds_tied_plain_at .later [] [.data, .data, .data, .data, .sentinel, .sentinel, .pinned] true Rows.fnRequestsCard.stood.harness true row (fun _ h => by cases h) (by kernel_rfl) (fun _ h => by cases h) fnRequests_row_tie rfl ⟨rfl, rfl⟩ (by kernel_rfl) rfl
    (fun f fn hf hfn => by
      obtain rfl : f = 4 := Option.some.inj (named.symm.trans hf) |>.symm
      obtain rfl : fn = Tryz.f4 := (Option.some.inj (Tryz.func4.symm.trans hfn)).symm
      exact ⟨by kernel_rfl, fun j t ht => by
        rw [Tryz.params4] at ht
        have hm : t ∈ [37] := by simpa using Array.mem_of_getElem? ht
        have hall : ([37].all fun u => !Tryz.prog.wantsStandIn u) = true := by kernel_rfl
        exact (show Tryz.prog.wantsStandIn t = false by simpa using List.all_eq_true.1 hall t hm)⟩)
    (by kernel_rfl)
#print axioms proved
end Go.Proofs.YtmhmaokbicgmbaaGreatDoor.fnRequests
