import Derived.Handed
import Derived.Test.YtfcimcoanlgldaaDoorRows
import Derived.OpenShut
import Derived.ProofKit
import Derived.LaidMore
import Derived.Lay
import Derived.LaidLaws
import Derived.LaidSub
import Derived.SevenTiedAt
import Derived.Stop.Joined
import Derived.Lib.LaidTab
import Derived.Test.YtfcimcoanlgldaaDoorTie
import Derived.Test.YtfcimcoanlgldaaDoorCards
import Derived.Test.YtfcimcoanlgldaaDoorB08

/-
  Requests read out of a text by the reference: the plain function of Rqs. No condition.
-/

namespace Go.Proofs.YtfcimcoanlgldaaDoor
namespace A
set_option linter.unusedVariables false
set_option linter.unusedSimpArgs false
set_option maxRecDepth 100000

/-! ### cuts at an end of line -/
theorem cut_hit {l sep : List UInt8} {i : Nat} (hi : i ≤ l.length) (ho : Lib.occAt l sep i = true) (hn : ∀ j, j < i → Lib.occAt l sep j = false) : Lib.cut l sep = (l.take i, l.drop (i + sep.length), true) := by
  have h := Lib.index_first hi ho hn
  unfold Lib.cut
  rw [h, if_pos (by omega)]; simp
theorem cut_miss {l sep : List UInt8} (hn : ∀ j, j ≤ l.length → Lib.occAt l sep j = false) : Lib.cut l sep = (l, [], false) := by
  have h := Lib.index_none hn
  unfold Lib.cut
  rw [h, if_neg (by omega)]
theorem cut_cases (l : List UInt8) : (∃ i : Nat, Lib.cut l crlf = (l.take i, l.drop (i + 2), true) ∧ i + 2 ≤ l.length ∧ Lib.occAt l crlf i = true ∧ ∀ j, j < i → Lib.occAt l crlf j = false) ∨ (Lib.cut l crlf = (l, [], false) ∧ ∀ j, j ≤ l.length → Lib.occAt l crlf j = false) := by
  rcases Lib.index_spec l crlf with ⟨_, h⟩ | ⟨i, _, h1, h2, h3⟩
  · exact .inr ⟨cut_miss h, h⟩
  · have hr := occ_room (sep := crlf) (by simp [crlf]) h2
    exact .inl ⟨i, cut_hit h1 h2 fun j hj => h3 j hj, hr, h2, fun j hj => h3 j hj⟩
theorem occ_cr {l : List UInt8} {i : Nat} (h : Lib.occAt l crlf i = true) : l[i]? = some 13 := Lib.occAt_head (t := [10]) rfl h
theorem pre_iff (l p : List UInt8) : Lib.hasPrefix l p = true ↔ p <+: l := by unfold Lib.hasPrefix; exact List.isPrefixOf_iff_prefix
theorem cook_no {l : List UInt8} (h : Lib.hasPrefix l cookS = true) {i : Nat} (hi : Lib.occAt l crlf i = true) : 8 ≤ i := by
  obtain ⟨t, rfl⟩ := (pre_iff l cookS).1 h
  have h1 := occ_cr hi
  rcases Nat.lt_or_ge i 8 with h2 | h2
  · rw [List.getElem?_append_left (by simpa [cookS] using h2)] at h1
    have : ∀ i, i < 8 → cookS[i]? ≠ some 13 := by decide
    exact absurd h1 (this i h2)
  · exact h2
/-- the line behind, with cookies -/
theorem cook_yes {l : List UInt8} {i : Nat} (hi : i + 2 ≤ l.length) (ho : Lib.occAt l crlf i = true) (hn : ∀ j, j < i → Lib.occAt l crlf j = false) (h : Lib.hasPrefix (l.take i) cookS = true) :
    Lib.hasPrefix l cookS = true ∧ Lib.cut (l.drop 8) crlf = ((l.take i).drop 8, l.drop (i + 2), true) := by
  have h1 := (pre_iff _ _).1 h
  have h2 : cookS <+: l := h1.trans (List.take_prefix i l)
  have h3 := (pre_iff _ _).2 h2
  have h8 := cook_no h3 ho
  refine ⟨h3, ?_⟩
  have e : 8 + (i - 8) = i := by omega
  have := cut_hit (l := l.drop 8) (sep := crlf) (i := i - 8) (by simp; omega) (by rw [occ_drop, e]; exact ho) fun j hj => by rw [occ_drop]; exact hn _ (by omega)
  rw [this, List.drop_drop, List.drop_take]
  congr 2
  show List.drop (8 + (i - 8 + 2)) l = List.drop (i + 2) l
  congr 1; omega
theorem cook_not {l : List UInt8} {i : Nat} (hi : i + 2 ≤ l.length) (ho : Lib.occAt l crlf i = true) (h : Lib.hasPrefix (l.take i) cookS = false) : Lib.hasPrefix l cookS = false := by
  cases h2 : Lib.hasPrefix l cookS
  · rfl
  · have h8 := cook_no h2 ho
    have h3 : cookS <+: l.take i := List.prefix_take_iff.2 ⟨(pre_iff _ _).1 h2, by simpa [cookS] using h8⟩
    rw [(pre_iff _ _).2 h3] at h; cases h
theorem cook_none {l : List UInt8} (hn : ∀ j, j ≤ l.length → Lib.occAt l crlf j = false) : cookies l = none := by
  have h1 : Lib.cut (l.drop 8) crlf = (l.drop 8, [], false) := cut_miss fun j hj => by
    rw [occ_drop]
    rcases Nat.lt_or_ge l.length (8 + j) with h | h
    · cases ho : Lib.occAt l crlf (8 + j)
      · rfl
      · have := occ_room (sep := crlf) (by simp [crlf]) ho; omega
    · exact hn _ h
  have h2 : ¬ l = crlf := fun e => by
    subst e
    have := hn 0 (by simp)
    simp [Lib.occAt, crlf] at this
  unfold cookies
  rw [h1]; simp [h2]
theorem line_end {l : List UInt8} {i : Nat} (hi : i + 2 ≤ l.length) (ho : Lib.occAt l crlf i = true) : (i + 2 = l.length ∧ l.take i = []) ↔ l = crlf := by
  constructor
  · rintro ⟨h1, h2⟩
    have h0 : i = 0 := by
      have := congrArg List.length h2
      rw [List.length_take, List.length_nil] at this; omega
    subst h0
    have h3 : crlf <+: l := by
      unfold Lib.occAt at ho
      rw [List.drop_zero] at ho
      exact List.isPrefixOf_iff_prefix.1 ho
    obtain ⟨t, rfl⟩ := h3
    have : t = [] := by
      have : t.length = 0 := by rw [List.length_append, show crlf.length = 2 from rfl] at h1; omega
      exact List.length_eq_zero_iff.1 this
    subst this; simp
  · intro h
    subst h
    have : i = 0 := by simp [crlf] at hi; omega
    subst this
    simp [crlf]

/-! ### a line -/
def lineV (s : List UInt8) (a : Nat) : List UInt8 := if (Lib.cut (s.drop a) crlf).2.2 then (Lib.cut (s.drop a) crlf).1 else []
def lineN (s : List UInt8) (a : Nat) : Int := if (Lib.cut (s.drop a) crlf).2.2 then ((a + (Lib.cut (s.drop a) crlf).1.length + 2 : Nat) : Int) else -1
theorem free_si (l : List UInt8) (k : Int) : Free (.tup [.str l, .int .i64 k]) := free_tup fun a ha => by
  simp at ha
  rcases ha with rfl | rfl
  · exact free_str _
  · exact free_int _ _
theorem line_fn {s : List UInt8} {a : Nat} (hs : s.length ≤ 1048576) (ha : a ≤ s.length) : Fnc Tryd.prog 77 [.str s, .int .i64 a] (.tup [.str (lineV s a), .int .i64 (lineN s a)]) := by
  refine fn_of c77 (by simp [F77]) fun c => ?_
  unfold F77
  simp
  refine loop_drop (s.length - a) (fun i e H c' => e 0 = .str s ∧ e 1 = .int .i64 a ∧ e 6 = .int .i64 ((a + i : Nat) : Int) ∧ (∀ j, a ≤ j → j < a + i → Lib.occAt s crlf j = false) ∧ H = []) ⟨rfl, rfl, rfl, fun j h1 h2 => by omega, rfl⟩ ?_
  intro i e H c' hi ⟨e0, e1, e6, hno, hH⟩ N hN
  subst hH
  by_cases h : a + i < s.length
  · have h0 : (0 : Int) ≤ ((a + i : Nat) : Int) := by omega
    have hlt : (((a + i : Nat) : Int) < (s.length : Int)) := by omega
    have hstep : IntKind.i64.wrap (((a + i : Nat) : Int) + 1) = ((a + (i + 1) : Nat) : Int) := by rw [wrap64 (by omega) (by omega)]; omega
    have hadd : IntKind.i64.wrap (((a + i : Nat) : Int) + 2) = ((a + i + 2 : Nat) : Int) := by rw [wrap64 (by omega) (by omega)]; omega
    simp [e0, e1, e6, h0, hlt, -Int.natCast_add]
    refine call_fn0 (is_fn (sep := crlf) (by omega) (by simp [crlf]) (by omega)) .bool fun _ _ => ?_
    cases ho : Lib.occAt s crlf (a + i)
    · simp [e0, e1, e6, hstep, -Int.natCast_add]
      refine hN _ _ _ _ (by omega) (List.Sublist.refl _) ⟨by simp [upd, e0], by simp [upd, e1], by simp [upd, -Int.natCast_add], fun j h1 h2 => ?_, rfl⟩
      rcases Nat.lt_or_ge j (a + i) with h3 | h3
      · exact hno j h1 h3
      · have : j = a + i := by omega
        subst this; exact ho
    · have hcut : Lib.cut (s.drop a) crlf = ((s.drop a).take i, (s.drop a).drop (i + 2), true) := cut_hit (by simp; omega) (by rw [occ_drop]; exact ho) fun j hj => by rw [occ_drop]; exact hno _ (by omega) (by omega)
      simp [e0, e1, e6, hadd, -Int.natCast_add]
      refine ⟨by omega, ?_⟩
      refine fin_plain ⟨?_, rfl⟩
      have e1 : lineV s a = (s.take (a + i)).drop a := by unfold lineV; rw [hcut, if_pos rfl, List.drop_take, Nat.add_sub_cancel_left]
      have e2 : lineN s a = ((a + i + 2 : Nat) : Int) := by
        unfold lineN; rw [hcut, if_pos rfl]
        have : ((s.drop a).take i).length = i := by simp; omega
        rw [this]
      rw [e1, e2]
  · have hie : a + i = s.length := by omega
    have h0 : (0 : Int) ≤ ((a + i : Nat) : Int) := by omega
    have hlt : ¬ (((a + i : Nat) : Int) < (s.length : Int)) := by omega
    have hcut : Lib.cut (s.drop a) crlf = (s.drop a, [], false) := cut_miss fun j hj => by
      rw [occ_drop]
      rcases Nat.lt_or_ge (a + j) (a + i) with h3 | h3
      · exact hno _ (by omega) h3
      · exact occ_end (by simp [crlf]) (by omega)
    simp [e0, e1, e6, h0, hlt, -Int.natCast_add]
    exact fin_plain ⟨by simp [lineV, lineN, hcut], rfl⟩

/-! ### a request -/
theorem prefix_occ (l p : List UInt8) : Lib.occAt l p 0 = Lib.hasPrefix l p := by unfold Lib.occAt Lib.hasPrefix; rw [List.drop_zero]
theorem target_spec {line : List UInt8} (h1 : Lib.hasPrefix line getS = true) : (14 ≤ line.length ∧ line.drop (line.length - 9) = httpS → target line = some ((line.take (line.length - 9)).drop 5)) ∧ (¬ (14 ≤ line.length ∧ line.drop (line.length - 9) = httpS) → target line = none) := by
  have key : Lib.hasSuffix (line.drop 5) httpS = true ↔ (14 ≤ line.length ∧ line.drop (line.length - 9) = httpS) := by
    unfold Lib.hasSuffix
    rw [List.isSuffixOf_iff_suffix]
    constructor
    · intro h
      have hl := h.length_le
      have hn : 14 ≤ line.length := by simp [httpS] at hl; omega
      have h2 := List.suffix_iff_eq_drop.1 h
      rw [List.drop_drop] at h2
      have e : 5 + ((line.drop 5).length - httpS.length) = line.length - 9 := by simp [httpS]; omega
      rw [e] at h2
      exact ⟨hn, h2.symm⟩
    · rintro ⟨hn, h2⟩
      rw [List.suffix_iff_eq_drop, List.drop_drop]
      have e : 5 + ((line.drop 5).length - httpS.length) = line.length - 9 := by simp [httpS]; omega
      rw [e, h2]
  unfold target
  rw [h1]
  refine ⟨fun h => ?_, fun h => ?_⟩
  · rw [key.2 h]
    simp only [Bool.and_self, if_true, Option.some.injEq]
    rw [List.drop_take]; congr 1
  · have : Lib.hasSuffix (line.drop 5) httpS = false := by
      cases hs : Lib.hasSuffix (line.drop 5) httpS
      · rfl
      · exact absurd (key.1 hs) h
    rw [this]; rfl
theorem line_hit {s : List UInt8} {a i : Nat} {X : List UInt8} (hs : s.length ≤ 1048576) (ha : a ≤ s.length) (hcut : Lib.cut (s.drop a) crlf = ((s.drop a).take i, X, true)) (hi : i + 2 ≤ (s.drop a).length) :
    Fnc Tryd.prog 77 [.str s, .int .i64 a] (.tup [.str ((s.drop a).take i), .int .i64 ((a + i + 2 : Nat) : Int)]) := by
  have h := line_fn hs ha
  have e1 : lineV s a = (s.drop a).take i := by unfold lineV; rw [hcut, if_pos rfl]
  have e2 : lineN s a = ((a + i + 2 : Nat) : Int) := by
    unfold lineN; rw [hcut, if_pos rfl]
    have : ((s.drop a).take i).length = i := by rw [List.length_take]; omega
    rw [this]
  rw [e1, e2] at h; exact h
theorem line_miss {s : List UInt8} {a : Nat} (hs : s.length ≤ 1048576) (ha : a ≤ s.length) (hcut : Lib.cut (s.drop a) crlf = (s.drop a, [], false)) :
    Fnc Tryd.prog 77 [.str s, .int .i64 a] (.tup [.str [], .int .i64 (-1)]) := by
  have h := line_fn hs ha
  have e1 : lineV s a = [] := by unfold lineV; rw [hcut, if_neg (by simp)]
  have e2 : lineN s a = -1 := by unfold lineN; rw [hcut, if_neg (by simp)]
  rw [e1, e2] at h; exact h
theorem from_tup_mem' {c : Nat} {l : List AV} (h : From c (.tup l)) : ∀ a, a ∈ l → From c a := fun a ha T hT => by
  have := h T hT
  cases this with
  | tup h => obtain ⟨j, hj⟩ := List.getElem?_of_mem ha; exact h j a hj
def RqT (s : List UInt8) (r : AV) : Prop := ∃ b : TRequest, r = .tup [.agg b.enc, .bool (parseR s).isSome] ∧ ((parseR s).getD ⟨[], [], []⟩).is b
theorem rqt_none {s : List UInt8} {H : List AObj} {c c' : Nat} (h : parseR s = none) : finW (fun r H' _ => H' = [] ∧ RqT s r ∧ From c r) (.tup [.agg [.str [], .nsl, .nsl], .bool false]) H c' :=
  fin_plain ⟨rfl, ⟨⟨[], .nil, .nil⟩, by rw [h]; rfl, by rw [h]; exact none_is⟩, from_tup fun a ha => by
    simp at ha
    rcases ha with rfl | rfl
    · exact from_agg (by simp)
    · simp⟩
theorem rqt_some {s : List UInt8} {H : List AObj} {c c' : Nat} {p : List UInt8} {q q0 : List TPair} {b1 b2 : SL TPair} (h : parseR s = some ⟨p, q, q0⟩) (h1 : b1.list = q) (h2 : b2.list = q0) (f1 : From c (b1.av 2 TPair.enc)) (f2 : From c (b2.av 2 TPair.enc)) :
    finW (fun r H' _ => H' = [] ∧ RqT s r ∧ From c r) (.tup [.agg [.str p, b1.av 2 TPair.enc, b2.av 2 TPair.enc], .bool true]) H c' :=
  fin_plain ⟨rfl, ⟨⟨p, b1, b2⟩, by rw [h]; rfl, by rw [h]; exact ⟨rfl, h1, h2⟩⟩, from_tup fun a ha => by
    simp at ha
    rcases ha with rfl | rfl
    · refine from_agg fun a ha => ?_
      simp at ha
      rcases ha with rfl | rfl | rfl
      · simp
      · exact f1
      · exact f2
    · simp⟩
set_option maxHeartbeats 2000000 in
theorem specReq_tr {s : List UInt8} (hl : s.length ≤ 1048576) : Tr Tryd.prog 36 [.str s] fun _ r => RqT s r := by
  intro c
  refine con_of c36 (by simp [F36]) ?_
  unfold F36
  simp [putA]
  rcases cut_cases s with ⟨i, hcut, hi, ho, hn⟩ | ⟨hcut, hn⟩
  case inr =>
    refine call_fn0 (line_miss (a := 0) hl (by omega) hcut) (free_si _ _ _) fun _ _ => ?_
    simp [putA]
    exact rqt_none (by unfold parseR; rw [hcut]; rfl)
  have hpar : parseR s = (target (s.take i)).bind fun t => (cookies (s.drop (i + 2))).bind fun k => reqT t (parseP [59, 32] k) := by unfold parseR; rw [hcut]; rfl
  have hL := line_hit (a := 0) hl (by omega) hcut (by simpa using hi)
  rw [List.drop_zero, show 0 + i + 2 = i + 2 by omega] at hL
  have hll : (s.take i).length ≤ 1048576 := by simp; omega
  generalize s.take i = line at hpar hL hll
  refine call_fn0 hL (free_si _ _ _) fun _ _ => ?_
  have hnx : ¬ (((i + 2 : Nat) : Int) < 0) := by omega
  simp [hnx, -Int.natCast_add]
  refine call_fn0 (is_fn (i := 0) (sep := getS) (by omega) (by simp [getS]) (by omega)) .bool fun _ _ => ?_
  rw [prefix_occ]
  cases hone : Lib.hasPrefix line getS with
  | false =>
    simp [putA]
    exact rqt_none (by rw [hpar]; simp [target, hone])
  | true =>
  obtain ⟨ht1, ht2⟩ := target_spec hone
  by_cases h14 : 14 ≤ line.length
  case neg =>
    have k14 : (line.length : Int) < 14 := by omega
    simp [k14, putA]
    exact rqt_none (by rw [hpar, ht2 (fun h => h14 h.1)]; rfl)
  have k14 : ¬ ((line.length : Int) < 14) := by omega
  have hw : IntKind.i64.wrap ((line.length : Int) - 9) = ((line.length - 9 : Nat) : Int) := by rw [wrap64 (by omega) (by omega)]; omega
  simp [k14, hw]
  by_cases hh : line.drop (line.length - 9) = [32, 72, 84, 84, 80, 47, 49, 46, 49]
  case neg =>
    simp [hh, putA]
    exact rqt_none (by rw [hpar, ht2 (fun h => hh h.2)]; rfl)
  have htg := ht1 ⟨h14, hh⟩
  have htl : ((line.take (line.length - 9)).drop 5).length ≤ 1048576 := by simp; omega
  simp [hh, hw]
  refine ⟨by omega, ?_⟩
  generalize (line.take (line.length - 9)).drop 5 = t at htg htl
  rw [htg] at hpar
  simp only [Option.bind_some] at hpar
  refine loop_drop t.length (fun k e H c' => c ≤ c' ∧ e 0 = .str s ∧ e 2 = .ptr 0 c 3 0 0 ∧ e 4 = .ptr 1 (c + 1) 3 0 0 ∧ e 6 = .int .i64 ((i + 2 : Nat) : Int) ∧ e 8 = .str t ∧ e 9 = .int .i64 k ∧ (∀ j, j < k → t[j]? ≠ some 63) ∧ H = [⟨false, c, 3, [[.str [], .nsl, .nsl]]⟩, ⟨false, c + 1, 3, [[.str [], .nsl, .nsl]]⟩]) ?_ ?_
  · exact ⟨by omega, rfl, rfl, rfl, rfl, rfl, rfl, by simp, rfl⟩
  intro k e H c' hk ⟨hcc, e0, e2, e4, e6, e8, e9, hno, hH⟩ N hN
  subst hH
  by_cases hgo : k < t.length ∧ t[k]? ≠ some 63
  · obtain ⟨h, hx⟩ := hgo
    have hb : t[k]? = some t[k] := List.getElem?_eq_getElem h
    have hstep : IntKind.i64.wrap ((k : Int) + 1) = ((k + 1 : Nat) : Int) := by rw [step64 (by unfold mx; omega) h]; rfl
    generalize t[k] = b at hb
    have hb63 : ¬ (b.toNat : Int) = 63 := fun e => hx (by rw [hb]; congr 1; exact UInt8.toNat_inj.1 (by have : (63 : UInt8).toNat = 63 := rfl; omega))
    simp [e8, e9, h, getW_of hb, hb63, hstep]
    refine hN _ _ _ _ h (List.Sublist.refl _) ⟨hcc, by simp [upd, e0], by simp [upd, e2], by simp [upd, e4], by simp [upd, e6], by simp [upd, e8], by simp [upd], fun j hj => ?_, rfl⟩
    rcases Nat.lt_or_ge j k with h1 | h1
    · exact hno j h1
    · have : j = k := by omega
      subst this; exact hx
  have hkk : upTo 63 t = k := upTo_eq hk hno (by
    rcases Nat.lt_or_ge k t.length with h | h
    · exact .inr (Classical.byContradiction fun hx => hgo ⟨h, hx⟩)
    · exact .inl (by omega))
  have hmin : (if (k : Int) + 1 < (t.length : Int) then (k : Int) + 1 else (t.length : Int)) = ((min t.length (k + 1) : Nat) : Int) := by
    split <;> omega
  have hwk : IntKind.i64.wrap ((k : Int) + 1) = (k : Int) + 1 := wrap64 (by omega) (by omega)
  have hdr : t.drop (min t.length (k + 1)) = t.drop (k + 1) := by rw [← hkk]; exact upTo_drop 63 t
  have hreq : ∀ PC, reqT t PC = (normP (t.take k)).bind fun p => (parseP [38] (t.drop (k + 1))).bind fun q => PC.bind fun c => if PReq.ok ⟨p, q, c⟩ then some ⟨p, q, c⟩ else none := fun PC => by unfold reqT; rw [hkk]
  have hrest : (s.drop (i + 2)).length ≤ 1048576 := by simp; omega
  have hdl : (s.drop (i + 2)).length = s.length - (i + 2) := by simp
  have hcc2 := cut_cases (s.drop (i + 2))
  rcases Nat.lt_or_ge k t.length with h | h
  focus
    have hb : t[k]? = some 63 := Classical.byContradiction fun hx => hgo ⟨h, hx⟩
    simp [e0, e8, e9, h, hk, getW_of hb]
  rotate_left
  focus
    have h' : ¬ k < t.length := by omega
    simp [e0, e8, e9, h', hk]
  rotate_left
  all_goals
    refine call_fn0 (spec_norm (l := t.take k) (by simp; unfold mx; omega)) (free_norm _ _) fun _ _ => ?_
    simp [e0, e8, e9, normA, hwk]
    refine call_fn0 (min_fn _ _) .int fun _ _ => ?_
    simp only [hmin]
    simp [e0, e8, e9]
    rw [hdr]
    refine ⟨Nat.min_le_left _ _, ?_⟩
    refine call_tree0 (prs_tr fun c => spec_Query (by simp; omega) c) fun r1 c1 hc1 ⟨b1, e1, q1⟩ f1 => ?_
    subst e1
    cases hp : normP (t.take k) with
    | none =>
      simp [e2, e4, putA]
      exact rqt_none (by rw [hpar]; cases cookies (s.drop (i + 2)) <;> simp [hreq, hp])
    | some p =>
    cases hq : parseP [38] (t.drop (k + 1)) with
    | none =>
      simp [e2, e4, putA]
      exact rqt_none (by rw [hpar]; cases cookies (s.drop (i + 2)) <;> simp [hreq, hp, hq])
    | some q =>
    rw [hq] at q1
    simp only [Option.getD_some] at q1
    have ho1 := okP_ok (b := b1) (by rw [q1]; exact parseP_ok hq)
    have hpl := norm_len hp
    have f1' : From c (b1.av 2 TPair.enc) := (from_tup_mem' f1 _ (by simp)).mono (by omega)
    have hR : ∀ q0, reqT t (some q0) = if PReq.ok ⟨p, q, q0⟩ then some ⟨p, q, q0⟩ else none := fun q0 => by rw [hreq, hp, hq]; rfl
    have hRn : reqT t none = none := by rw [hreq, hp, hq]; rfl
    have hisr : ∀ (b2 : SL TPair) q0, b2.list = q0 → isReq ⟨p, b1, b2⟩ = PReq.ok ⟨p, q, q0⟩ := fun b2 q0 h => by unfold isReq PReq.ok; rw [q1, h]
    simp [e0, e2, e4, e6, putA, -Int.natCast_add]
    rcases hcc2 with ⟨i2, hcut2, hi2, ho2, hn2⟩ | ⟨hcut2, hn2⟩
    case inr =>
      refine call_fn0 (line_miss (a := i + 2) hl (by omega) hcut2) (free_si _ _ _) fun _ _ => ?_
      have hm1 : ¬ ((-1 : Int) = (s.length : Int)) := by omega
      simp [e0, e2, e4, hm1, putA]
      exact rqt_none (by rw [hpar, cook_none hn2]; rfl)
    have hL2 := line_hit (a := i + 2) hl (by omega) hcut2 hi2
    refine call_fn0 hL2 (free_si _ _ _) fun _ _ => ?_
    have hat : (0 : Int) ≤ ((i + 2 + i2 + 2 : Nat) : Int) := by omega
    have hl2 : ((s.drop (i + 2)).take i2).length ≤ 1048576 := by rw [List.length_take]; omega
    simp [e0, e2, e4, hat, -Int.natCast_add, -List.length_drop]
    refine call_fn0 (is_fn (i := 0) (sep := cookS) (by omega) (by simp [cookS]) (by omega)) .bool fun _ _ => ?_
    rw [prefix_occ]
    cases hck : Lib.hasPrefix ((s.drop (i + 2)).take i2) cookS with
    | false =>
      have hnp := cook_not hi2 ho2 hck
      have hcook : cookies (s.drop (i + 2)) = if s.drop (i + 2) = crlf then some [] else none := by unfold cookies; rw [hnp]; simp
      have hend := line_end hi2 ho2
      rw [hcook] at hpar
      by_cases hfin : i2 + 2 = (s.drop (i + 2)).length
      case neg =>
        have k1 : ¬ (((i + 2 + i2 + 2 : Nat) : Int) = (s.length : Int)) := by omega
        simp [e0, e2, e4, k1, putA, -Int.natCast_add, -List.length_drop]
        exact rqt_none (by rw [hpar, if_neg fun h => hfin (hend.2 h).1]; rfl)
      have k1 : ((i + 2 + i2 + 2 : Nat) : Int) = (s.length : Int) := by omega
      by_cases hemp : (s.drop (i + 2)).take i2 = []
      case neg =>
        simp [e0, e2, e4, k1, hemp, putA, -Int.natCast_add, -List.length_drop, -List.take_eq_nil_iff]
        exact rqt_none (by rw [hpar, if_neg fun h => hemp (hend.2 h).2]; rfl)
      rw [if_pos (hend.1 ⟨hfin, hemp⟩)] at hpar
      simp only [Option.bind_some] at hpar
      have hpn : parseP [59, 32] [] = some [] := rfl
      rw [hpn, hR] at hpar
      simp [e0, e2, e4, k1, hemp, putA, -Int.natCast_add, -List.length_drop, -List.take_eq_nil_iff]
      refine call_fn0 (spec_isReq (x := ⟨p, b1, .nil⟩) ⟨by show p.length ≤ mx; unfold mx; omega, ho1, okP_ok rfl⟩) .bool fun _ _ => ?_
      rw [hisr .nil [] rfl]
      cases hok : PReq.ok ⟨p, q, []⟩ with
      | false =>
        rw [hok] at hpar
        simp [e0, e2, e4, putA, -Int.natCast_add]
        exact rqt_none (by rw [hpar]; rfl)
      | true =>
        rw [hok, if_pos rfl] at hpar
        simp [e0, e2, e4, putA, -Int.natCast_add]
        exact rqt_some (b2 := .nil) hpar q1 rfl f1' (from_nsl c)
    | true =>
    obtain ⟨hnp, hcut3⟩ := cook_yes hi2 ho2 hn2 hck
    have hcook : cookies (s.drop (i + 2)) = if (s.drop (i + 2)).drop (i2 + 2) = crlf then some (((s.drop (i + 2)).take i2).drop 8) else none := by
      unfold cookies; rw [hnp, hcut3]; simp
    have h8 : 8 ≤ ((s.drop (i + 2)).take i2).length := by
      have := ((pre_iff _ _).1 hck).length_le
      simpa [cookS] using this
    have hdd : s.drop (i + 2 + i2 + 2) = (s.drop (i + 2)).drop (i2 + 2) := by rw [List.drop_drop]; congr 1
    rw [hcook] at hpar
    have hk8 : (((s.drop (i + 2)).take i2).drop 8).length ≤ 1048576 := by rw [List.length_drop]; omega
    simp [e0, e2, e4, h8, putA, -Int.natCast_add, -List.length_drop, -List.length_take]
    refine call_tree0 (prs_tr fun c => spec_Cookies hk8 c) fun r2 c2 hc2 ⟨b2, e2', q2⟩ f2 => ?_
    subst e2'
    have f2' : From c (b2.av 2 TPair.enc) := (from_tup_mem' f2 _ (by simp)).mono (by omega)
    cases hc : parseP [59, 32] (((s.drop (i + 2)).take i2).drop 8) with
    | none =>
      simp [e0, e2, e4, putA]
      exact rqt_none (by
        rw [hpar]
        by_cases hz : (s.drop (i + 2)).drop (i2 + 2) = crlf
        · rw [if_pos hz]; simp only [Option.bind_some]; rw [hc, hRn]
        · rw [if_neg hz]; rfl)
    | some q0 =>
    rw [hc] at q2
    simp only [Option.getD_some] at q2
    have ho2' := okP_ok (b := b2) (by rw [q2]; exact parseP_ok hc)
    simp [e0, e2, e4, putA, -Int.natCast_add]
    rcases cut_cases (s.drop (i + 2 + i2 + 2)) with ⟨i3, hcut4, hi3, ho3, hn3⟩ | ⟨hcut4, hn3⟩
    case inr =>
      refine call_fn0 (line_miss (a := i + 2 + i2 + 2) hl (by omega) hcut4) (free_si _ _ _) fun _ _ => ?_
      have hm1 : ¬ ((-1 : Int) = (s.length : Int)) := by omega
      simp [e0, e2, e4, hm1, putA]
      refine rqt_none ?_
      rw [hpar, if_neg]
      · rfl
      · intro hz
        rw [hdd, hz] at hn3
        have := hn3 0 (by simp)
        simp [Lib.occAt, crlf] at this
    have hL3 := line_hit (a := i + 2 + i2 + 2) hl (by omega) hcut4 hi3
    refine call_fn0 hL3 (free_si _ _ _) fun _ _ => ?_
    have hend := line_end hi3 ho3
    have hdl3 : (s.drop (i + 2 + i2 + 2)).length = s.length - (i + 2 + i2 + 2) := by simp
    rw [← hdd] at hpar
    by_cases hfin : i3 + 2 = (s.drop (i + 2 + i2 + 2)).length
    case neg =>
      have k1 : ¬ (((i + 2 + i2 + 2 + i3 + 2 : Nat) : Int) = (s.length : Int)) := by omega
      simp [e0, e2, e4, k1, putA, -Int.natCast_add, -List.length_drop]
      exact rqt_none (by rw [hpar, if_neg fun h => hfin (hend.2 h).1]; rfl)
    have k1 : ((i + 2 + i2 + 2 + i3 + 2 : Nat) : Int) = (s.length : Int) := by omega
    by_cases hemp : (s.drop (i + 2 + i2 + 2)).take i3 = []
    case neg =>
      simp [e0, e2, e4, k1, hemp, putA, -Int.natCast_add, -List.length_drop, -List.take_eq_nil_iff]
      exact rqt_none (by rw [hpar, if_neg fun h => hemp (hend.2 h).2]; rfl)
    rw [if_pos (hend.1 ⟨hfin, hemp⟩)] at hpar
    simp only [Option.bind_some] at hpar
    rw [hc, hR] at hpar
    simp [e0, e2, e4, k1, hemp, putA, -Int.natCast_add, -List.length_drop, -List.take_eq_nil_iff]
    refine call_fn0 (spec_isReq (x := ⟨p, b1, b2⟩) ⟨by show p.length ≤ mx; unfold mx; omega, ho1, ho2'⟩) .bool fun _ _ => ?_
    rw [hisr b2 q0 q2]
    cases hok : PReq.ok ⟨p, q, q0⟩ with
    | false =>
      rw [hok] at hpar
      simp [e0, e2, e4, putA, -Int.natCast_add]
      exact rqt_none (by rw [hpar]; rfl)
    | true =>
      rw [hok, if_pos rfl] at hpar
      simp [e0, e2, e4, putA, -Int.natCast_add]
      exact rqt_some hpar q1 q2 f1' f2'
end A
end Go.Proofs.YtfcimcoanlgldaaDoor

/-
  ParseRequest: the law answers true. No condition.
-/

namespace Go.Proofs.YtfcimcoanlgldaaDoor
namespace A
set_option linter.unusedVariables false
set_option linter.unusedSimpArgs false
set_option maxRecDepth 100000

/-! ### marks on a request -/
theorem mark_inA {α : Type} {P : Program} {f w : Nat} {encO : α → List AV} {inn : α → List AObj} {mk : Int → α → α} {cnt : α → Nat} {K : AV → List AObj → Nat → Prop} {A C : List AObj} {s : SL α} {k n : Int} {c : Nat}
    (hf : Con P f [s.ref w, .int .i64 k] (s.wood w encO inn) c fun r H' _ => r = .int .i64 n ∧ H' = (s.marks mk cnt k).wood w encO inn)
    (hi : ∀ k x, tags (inn (mk k x)) = tags (inn x)) (hO : ∀ x a, a ∈ encO x → Free a) (hI : ∀ x o, o ∈ inn x → ∀ T, AvRows T o) {H X : List AObj} {B : AObj} (hH : H = A ++ (s.wood w encO inn ++ C)) (hX : A ++ ((s.marks mk cnt k).wood w encO inn ++ C) = X ++ [B]) (kk : ∀ c', c ≤ c' → K (.int .i64 n) (X ++ [B]) c') :
    CallW P f [s.ref w, .int .i64 k] H c K := by
  rw [hH, ← List.append_assoc]
  exact mark_mid hf hi hO hI fun c' h => by rw [List.append_assoc, hX]; exact kk c' h
theorem marks_wood_len {α : Type} {w : Nat} {encO : α → List AV} {inn : α → List AObj} {mk : Int → α → α} {cnt : α → Nat} (hi : ∀ k x, tags (inn (mk k x)) = tags (inn x)) (k : Int) (s : SL α) : ((s.marks mk cnt k).wood w encO inn).length = (s.wood w encO inn).length := by
  have := congrArg List.length (tags_wood (w := w) (encO := encO) (cnt := cnt) hi k s)
  simpa [tags] using this
theorem getW_endN {α : Type} {X : List α} {B : α} {n : Nat} (h : X.length = n) (K : α → Prop) : getW (X ++ [B]) n K = K B := getW_of (by rw [List.getElem?_append_right (by omega)]; simp [h]) K
def mkRequest (k : Int) (s : TRequest) : TRequest := { s with Query := s.Query.marks mkPair cPair k, Cookies := s.Cookies.marks mkPair cPair (k + szL cPair s.Query.list) }
def cRequest (s : TRequest) : Nat := szL cPair s.Query.list + szL cPair s.Cookies.list
theorem mkRequest_tags (k : Int) (s : TRequest) : tags (mkRequest k s).inn = tags s.inn := by
  have eT : ∀ X Y : List AObj, tags (X ++ Y) = tags X ++ tags Y := fun X Y => by simp [tags]
  unfold TRequest.inn
  simp only [eT, mkRequest]
  rw [flat_marks (enc := TPair.enc) (w := 2) mkPair cPair, flat_marks (enc := TPair.enc) (w := 2) mkPair cPair]
theorem markRequest_con {s : TRequest} (hz : szL cPair s.Query.list ≤ 8388608 ∧ szL cPair s.Cookies.list ≤ 8388608) {k : Int} (hk : 0 ≤ k ∧ k ≤ 1048576) (c : Nat) :
    Con Tryd.prog 38 [.agg s.encO, .int .i64 k] s.inn c fun r O _ => r = .int .i64 (k + cRequest s) ∧ O = (mkRequest k s).inn := by
  obtain ⟨z1, z2⟩ := hz
  refine con_of c38 (by simp [F38]) ?_
  unfold F38
  simp
  generalize hn : s.inn.length = n
  unfold TRequest.inn at hn ⊢
  have hn0 := hn
  simp only [List.length_append] at hn
  have l0 := marks_wood_len (w := 2) (encO := TPair.enc) (inn := noInn) (mk := mkPair) (cnt := cPair) (fun _ _ => rfl) k s.Query
  have l1 := marks_wood_len (w := 2) (encO := TPair.enc) (inn := noInn) (mk := mkPair) (cnt := cPair) (fun _ _ => rfl) (k + szL cPair s.Query.list) s.Cookies
  obtain ⟨X0, hX0⟩ : ∃ X : List AObj, X = ((s.Query.marks mkPair cPair k).wood 2 TPair.enc noInn) ++ (s.Cookies.wood 2 TPair.enc noInn) := ⟨_, rfl⟩
  have hl0 : X0.length = n := by rw [hX0]; simp only [List.length_append]; omega
  refine mark_inA (A := []) (C := (s.Cookies.wood 2 TPair.enc noInn) ++ ([(⟨false, c, 3, [s.encO]⟩ : AObj)])) (markPair_con (s := s.Query) (by omega) (k := k) ⟨by omega, by omega⟩ _) (fun _ _ => rfl) (fun x a ha => (TPair.flat x a ha).2) (fun x o ho => by cases ho) (X := X0) (B := ⟨false, c, 3, [s.encO]⟩) (by simp) (by rw [hX0]; simp) fun c0 _ => ?_
  simp [getW_endN hl0]
  obtain ⟨X1, hX1⟩ : ∃ X : List AObj, X = ((s.Query.marks mkPair cPair k).wood 2 TPair.enc noInn) ++ ((s.Cookies.marks mkPair cPair (k + szL cPair s.Query.list)).wood 2 TPair.enc noInn) := ⟨_, rfl⟩
  have hl1 : X1.length = n := by rw [hX1]; simp only [List.length_append]; omega
  refine mark_inA (A := ((s.Query.marks mkPair cPair k).wood 2 TPair.enc noInn)) (C := [(⟨false, c, 3, [s.encO]⟩ : AObj)]) (markPair_con (s := s.Cookies) (by omega) (k := k + szL cPair s.Query.list) ⟨by omega, by omega⟩ _) (fun _ _ => rfl) (fun x a ha => (TPair.flat x a ha).2) (fun x o ho => by cases ho) (X := X1) (B := ⟨false, c, 3, [s.encO]⟩) (by rw [hX0]; simp) (by rw [hX1]; simp) fun c1 _ => ?_
  simp [getW_endN hl1]
  refine fin_sub (Hk := X1) (List.sublist_append_left _ _) (.refl _) ⟨?_, ?_⟩
  · simp [cRequest]; omega
  · rw [hX1]; rfl
theorem heldRequest_fn {s : TRequest} (hz : szL cPair s.Query.list ≤ 8388608 ∧ szL cPair s.Cookies.list ≤ 8388608) {k : Int} (hk : 0 ≤ k ∧ k ≤ 1048576) :
    Fnc Tryd.prog 39 [.agg (mkRequest k s).enc, .int .i64 k] (.int .i64 (k + cRequest s)) := by
  obtain ⟨z1, z2⟩ := hz
  refine fn_of c39 (by simp [F39]) fun c => ?_
  unfold F39
  have f1 : (mkRequest k s).Query = s.Query.marks mkPair cPair k := rfl
  have f2 : (mkRequest k s).Cookies = s.Cookies.marks mkPair cPair (k + szL cPair s.Query.list) := rfl
  have p1 : ¬ (k + szL cPair s.Query.list < 0) := by omega
  have p2 : ¬ (k + szL cPair s.Query.list + szL cPair s.Cookies.list < 0) := by omega
  simp [f1, f2]
  refine call_fn0 (heldPair_fn (s := s.Query) (by omega) (k := k) ⟨by omega, by omega⟩) .int fun _ _ => ?_
  simp [f1, f2, p1]
  refine call_fn0 (heldPair_fn (s := s.Cookies) (by omega) (k := k + szL cPair s.Query.list) ⟨by omega, by omega⟩) .int fun _ _ => ?_
  simp [f1, f2, p1, p2]
  exact fin_plain ⟨by simp [cRequest]; omega, rfl⟩
theorem view_mReq {S : List AObj} {s : TRequest} {k : Int} (hs : ∀ o, o ∈ (mkRequest k s).inn → o ∈ S) : View S (.agg s.encO) (.agg (mkRequest k s).enc) := by
  have e : s.encO = (mkRequest k s).encO := by unfold TRequest.encO mkRequest; simp [SL.marks_ref]
  rw [e]
  exact view_ARequest hs

/-! ### the law -/
theorem rq_small {s : List UInt8} {b : TRequest} (h : ((parseR s).getD ⟨[], [], []⟩).is b) : b.sz ≤ 1048576 ∧ szL cPair b.Query.list ≤ 8388608 ∧ szL cPair b.Cookies.list ≤ 8388608 := by
  obtain ⟨h1, h2, h3⟩ := h
  have key : ∀ x : PReq, (x = ⟨[], [], []⟩ ∨ parseR s = some x) → x.p.length ≤ 60 ∧ okP x.q = true ∧ okP x.k = true := fun x hx => by
    rcases hx with rfl | hx
    · exact ⟨by simp, rfl, rfl⟩
    · have hok : PReq.ok x = true ∧ x.p.length ≤ 60 := by
        unfold parseR at hx
        split at hx
        · simp only [Option.bind_eq_some_iff] at hx
          obtain ⟨t, _, k, _, hx⟩ := hx
          unfold reqT at hx
          simp only [Option.bind_eq_some_iff] at hx
          obtain ⟨p, hp, q, _, c, _, hx⟩ := hx
          split at hx
          · cases hx
            exact ⟨by assumption, norm_len hp⟩
          · cases hx
        · cases hx
      simp only [PReq.ok, Bool.and_eq_true] at hok
      exact ⟨hok.2, hok.1.1.2, hok.1.2⟩
  have hk := key ((parseR s).getD ⟨[], [], []⟩) (by cases parseR s <;> simp)
  obtain ⟨k1, k2, k3⟩ := hk
  have s2 := okP_sz k2
  have s3 := okP_sz k3
  rw [← h1] at k1
  rw [← h2] at s2
  rw [← h3] at s3
  refine ⟨?_, ?_, ?_⟩
  · show b.Path.length + szPairS b.Query + szPairS b.Cookies ≤ _
    unfold szPairS; omega
  · rw [szL_ePair]; omega
  · rw [szL_ePair]; omega
theorem rq_con {s : List UInt8} {a b : TRequest} (h : ((parseR s).getD ⟨[], [], []⟩).is a) (h' : ((parseR s).getD ⟨[], [], []⟩).is b) : a.con = b.con := by
  obtain ⟨h1, h2, h3⟩ := h
  obtain ⟨g1, g2, g3⟩ := h'
  simp [TRequest.con, SL.con, h1, h2, h3, g1, g2, g3]
theorem law_parseR {s : List UInt8} (hmx : s.length ≤ mx) (c : Nat) : Con Tryd.prog 9 [.str s] [] c fun r H' _ => r = .bool true ∧ H' = [] := by
  refine con_of c9 (by simp [F9]) ?_
  unfold F9
  simp
  refine ⟨fun _ => fin_plain ⟨rfl, rfl⟩, fun h => ?_⟩
  have hl : s.length ≤ 1048576 := by omega
  refine call_tree0 (specReq_tr hl) fun r1 _ _ ⟨w, e1, q1⟩ _ => ?_
  subst e1
  simp [putA]
  refine call_new (implReq_con hl _) (Views.refl _ _) fun r2 O c3 hc3 ⟨g, e2, hO, q2⟩ _ _ => ?_
  subst e2; subst hO
  refine ⟨_, .refl _, free_tup (by simp [free_bool, free_agg (TRequest.freeO g)]) _, fun o ho => TRequest.freeI _ o ho _, ?_⟩
  simp [putA]
  obtain ⟨z1, z2⟩ := rq_small q2
  have hk : ¬ ((1 : Int) + (cRequest g : Int) < 0) := by omega
  refine call_fn (TRequest.eq_fn (a := g) (b := w) (by omega) (rq_con q2 q1)) (.cons (view_ARequest (fun o ho => by simp [ho])) (.cons (.refl _) .nil)) .bool fun _ _ => ?_
  simp [putA]
  refine call_midr (A := []) (B := g.inn) (markRequest_con (s := g) z2 (k := 1) ⟨by omega, by omega⟩ _) (Views.refl _ _) fun r B' c6 _ ⟨p1, p2⟩ => ?_
  subst p1; subst p2
  refine ⟨mkRequest_tags _ _, .int, fun o ho => TRequest.freeI _ o ho _, ?_⟩
  have hln : (mkRequest 1 g).inn.length = g.inn.length := by
    have := congrArg List.length (mkRequest_tags 1 g)
    simpa [tags] using this
  have ga : ∀ (B : AObj) (M : List AObj) (K : AObj → Prop), getW ((mkRequest 1 g).inn ++ B :: M) g.inn.length K = K B := fun B M K => getW_of (by rw [List.getElem?_append_right (by omega), hln]; simp) K
  have gb : ∀ (B C : AObj) (M : List AObj) (K : AObj → Prop), getW ((mkRequest 1 g).inn ++ B :: C :: M) (g.inn.length + 1) K = K C := fun B C M K => getW_of (by rw [List.getElem?_append_right (by omega), hln]; simp) K
  simp [ga, putA]
  refine call_fn (heldRequest_fn (s := g) z2 (k := 1) ⟨by omega, by omega⟩) (.cons (view_mReq (fun o ho => by simp [ho])) (.cons (.refl _) .nil)) .int fun _ _ => ?_
  simp [hk]
  refine call_tree0 (rqs_tr fun c => implReq_con hl c) fun r3 _ _ ⟨y, e3, q3⟩ _ => ?_
  subst e3
  obtain ⟨y1, y2⟩ := rq_small q3
  simp [hk, ga, gb, putA, hln]
  refine call_fn0 (TRequest.eq_fn (a := y) (b := w) (by omega) (rq_con q3 q1)) .bool fun _ _ => ?_
  simp [hk, ga, gb, putA, hln]
  refine call_fn (heldRequest_fn (s := g) z2 (k := 1) ⟨by omega, by omega⟩) (.cons (view_mReq (fun o ho => by simp [ho])) (.cons (.refl _) .nil)) .int fun _ _ => ?_
  simp [hk]
  exact fin_plain ⟨rfl, rfl⟩
end A
end Go.Proofs.YtfcimcoanlgldaaDoor

/-
  The wrap of a row that lists package variables, the world's shape kept. No condition.
-/


namespace Go.Proofs.YtfcimcoanlgldaaDoor
namespace A
open Go.RowKit
set_option linter.unusedVariables false
section
variable {H : Type} {enc : TypeId × Value → H}
theorem returns_shaped {a : Assume} {C : Checked} {os : Os} {f : FuncId} {fn : Func} {s : ChangeSpec} {conds : List PathCond} {apart fresh handsOn again : Bool} {X : World → Array Value → Prop}
    (hX : ∀ (w w' : World) (args : Array Value), w.heap = w'.heap → X w args → X w' args)
    (own : ownKnob C.prog.godebug = none) (started : os.Started) (noInit : C.prog.inits.idxOf? f = none) (hfn : C.prog.funcs[f]? = some fn)
    (witness : ∃ (w : World) (tape : Tape) (i : Input), w.os = os ∧ (w.forCall tape i).Shaped C.prog ∧ i.vars = [] ∧ Input.okWide C.prog (w.forCall tape i) .any w.heap.size f i ∧
      ((s.pre enc C.prog fn conds apart (w.forCall tape i).memory i.args ∧ X (w.forCall tape i).memory i.args) ∧ sizedMet enc C.prog fn (OpenSpec.ofChange s) apart (w.forCall tape i).memory i.args) ∧ a.holds C.prog (lone (Frame.enter C.prog f i.args .normal) [] (w.forCall tape i)))
    (contract : ∀ (W : World) (base : Nat) (args : Array Value) (ds gs : List (DataW H)) (before : List MemPlace),
      (∀ (j : Nat) t v, fn.params[j]? = some t → args[j]? = some v → Value.okWide C.prog W .any base t v) →
      DataW.Whole enc C.prog fn.params.toList s.vars apart W args.toList ds gs before →
      conds.all (PathCond.test C.prog ⟨fn.params.toList, ds, s.plain.varTypes C.prog, gs⟩) = true → X W args → W.ShapedOpen C.prog →
      Calls C.prog f args W fun e W' => ∃ v, e = .returned v ∧ s.post enc C.prog fn apart fresh handsOn again W args v W') :
    ReturnsInHanded a C os f .any (fun w args => (s.pre enc C.prog fn conds apart w args ∧ X w args) ∧ sizedMet enc C.prog fn (OpenSpec.ofChange s) apart w args) (s.post enc C.prog fn apart fresh handsOn again) := by
  refine returnsInHanded_of_calls own started noInit witness ?_
  intro w tape i _ hsh _ hok hpre _
  obtain ⟨_, _, _, fn', hfn', _, _, _, _, hval⟩ := hok
  have e : fn' = fn := Option.some.inj (hfn'.symm.trans hfn)
  subst e
  obtain ⟨⟨⟨ds, gs, before, hw, hc⟩, hx⟩, _⟩ := hpre
  refine (contract (w.forCall tape i) w.heap.size i.args ds gs before hval (DataW.Whole.of_heap (w' := w.forCall tape i) (by rfl) hw) hc (hX _ _ _ (by rfl) hx) hsh).mono fun e W' ⟨v, he, hp⟩ => ?_
  subst he
  exact ChangeSpec.post_blind hp
end
theorem cell_block {w : World} {m : Int} (hm : w.cell? ⟨0, 0, none⟩ = some (.int .i64 m)) : 0 < w.heap.size ∧ ∃ c t fr, w.heap[0]? = some (.cells c t fr) ∧ c[0]? = some (Value.int .i64 m) := by
  rw [cell?_eq] at hm
  unfold hcell at hm
  split at hm
  · rename_i c t fr hc
    exact ⟨(Array.getElem?_eq_some_iff.1 hc).1, c, t, fr, hc, hm⟩
  · cases hm
end A
end Go.Proofs.YtfcimcoanlgldaaDoor

/-
  Facts of the whole program that every row of the seat asks, each worked out once. No condition.
-/


namespace Go.Proofs.YtfcimcoanlgldaaDoor.Closed
open Go.ChangeShapes Go.WideShapes Go.RowKit
theorem heard : Tryd.pinned.checked.prog.stopsHeard = true := by kernel_rfl
theorem enter : Tryd.pinned.checked.prog.mayEnter = true := by kernel_rfl
theorem make : Tryd.pinned.checked.prog.make = some Rows.fnExactFormatResponseRow.make := by kernel_rfl
theorem lifts : Tryd.pinned.checked.prog.liftsFinal = Rows.fnExactFormatResponseRow.lifted := by kernel_rfl
end Go.Proofs.YtfcimcoanlgldaaDoor.Closed

/-
  FnExactParseRequest: the program's and the reference's give the same, for all arguments. No condition.
-/














namespace Go.Proofs.YtfcimcoanlgldaaDoor.fnExactParseRequest
open Go.ChangeShapes Go.WideShapes Go.ChangeAt Go.RowKit
open Go.Proofs.YtfcimcoanlgldaaDoor.A
set_option linter.unusedVariables false

theorem own : ownKnob Tryd.prog.godebug = none := by kernel_rfl

def types : List TypeId := [9, 4]

set_option maxRecDepth 100000 in
theorem lifted (os : Os) (started : os.Started) (H : Type) (enc : TypeId × Value → H) :
    ReturnsInHanded {} Tryd.checked os 9 .any (fun w args => (Rows.fnExactParseRequestSpec.pre enc Tryd.prog Tryd.f9 Rows.fnExactParseRequestRow.domain false w args ∧ laidMetH Tryd.prog Rows.fnExactParseRequestRow.laid w) ∧ sizedMet enc Tryd.prog Tryd.f9 (OpenSpec.ofChange Rows.fnExactParseRequestSpec) false w args) (Rows.fnExactParseRequestSpec.post enc Tryd.prog Tryd.f9 false true false false) := by
  refine A.returns_shaped (C := Tryd.checked) (X := fun w _ => laidMetH Tryd.prog Rows.fnExactParseRequestRow.laid w) (fun _ _ _ hh h => h.of_heap hh) own started (by kernel_rfl) Tryd.func9
    (ChangeSpec.witness_shaped (enc := enc) (C := Tryd.checked) (os := os) (X := fun w _ => laidMetH Tryd.prog Rows.fnExactParseRequestRow.laid w) false (World.laidAll Tryd.prog os Rows.fnExactParseRequestRow.laid) #[.string ⟨#[]⟩] 8 (World.laidAll_os _ _ _)
      (World.shaped_of_ZipB (by kernel_rfl) (by kernel_rfl)) (by kernel_rfl) (by kernel_rfl) (by kernel_rfl)
      (by rw [MakeChecks.laidMetH_plain _ _ _ (by kernel_rfl)]; exact laidMet_laidAll _ (by kernel_rfl) (by kernel_rfl))) ?_
  intro W base args ds gs before hval0 hW hcnd hL hsh
  obtain ⟨m, hm⟩ := Tryd.laysM146.s1_3 W hsh
  have hg : ∀ b, b < NB → b < W.heap.size ∧ GL b W.heap[b]? := by
    obtain ⟨h0, c, t, fr, hc, hcm⟩ := cell_block hm
    intro b hb
    have hb0 : b = 0 := Nat.lt_one_iff.1 hb
    subst hb0
    exact ⟨h0, c, t, fr, m, hc, hcm⟩
  have hval : ∀ (j : Nat) t v, Tryd.f9.params[j]? = some t → args[j]? = some v → Value.okWide Tryd.prog W .any base t v := hval0
  refine law_post (rs := types) (bt := 4) (by kernel_rfl) (by kernel_rfl) (fun t ht => ?_) Tryd.underlying4 (by kernel_rfl) rfl (fun ds hds => ?_) hW hval (fun l has => ?_) hg
  · rw [Tryd.params9] at ht
    simp at ht
    first
      | (subst ht; exact ⟨by simp [types], by kernel_rfl, of_decide_eq_true (by kernel_rfl)⟩)
      | (rcases ht with rfl | rfl <;> exact ⟨by simp [types], by kernel_rfl, of_decide_eq_true (by kernel_rfl)⟩)
      | (rcases ht with rfl | rfl | rfl <;> exact ⟨by simp [types], by kernel_rfl, of_decide_eq_true (by kernel_rfl)⟩)
      | (rcases ht with rfl | rfl | rfl | rfl <;> exact ⟨by simp [types], by kernel_rfl, of_decide_eq_true (by kernel_rfl)⟩)
      | (rcases ht with rfl | rfl | rfl | rfl | rfl <;> exact ⟨by simp [types], by kernel_rfl, of_decide_eq_true (by kernel_rfl)⟩)
      | (rcases ht with rfl | rfl | rfl | rfl | rfl | rfl <;> exact ⟨by simp [types], by kernel_rfl, of_decide_eq_true (by kernel_rfl)⟩)
  · rw [← Array.length_toList, Tryd.params9] at hds
    match ds, hds with
    | [d0], _ => exact ⟨rfl, rfl, rfl⟩
  · rw [Tryd.params9] at has
    cases has with
    | cons h0 has =>
      cases has
      obtain ⟨n0, h0⟩ := h0
      rw [if_neg (by decide)] at h0
      obtain ⟨s0, rfl, k0⟩ := sh_str (t := 9) (by kernel_rfl) h0
      exact A.law_parseR k0 _

set_option maxHeartbeats 4000000 in
theorem facts : joinedFacts Tryd.pinned.checked.prog 9 Tryd.f9 Rows.fnExactParseRequestSpec Rows.fnExactParseRequestRow = true := by
  unfold joinedFacts
  rw [Closed.heard, Closed.enter, Closed.lifts, Closed.make]
  simp only [Bool.and_eq_true]
  iterate 6 (refine ⟨?_, by as_aux_lemma => kernel_rfl⟩)
  refine ⟨⟨?_, trivial⟩, trivial⟩
  iterate 23 (refine ⟨?_, by as_aux_lemma => kernel_rfl⟩)
  kernel_rfl
theorem named : Tryd.pinned.checked.prog.funcNamed Rows.fnExactParseRequestRow.func = some 9 := by kernel_rfl
theorem inst : Tryd.f9.isInstance Tryd.pinned.checked.prog Rows.fnExactParseRequestRow.origin Rows.fnExactParseRequestRow.targs := of_decide_eq_true (by kernel_rfl)
theorem wrap : Tryd.f9.isWrapper Tryd.pinned.checked.prog Rows.fnExactParseRequestRow.wrapper Rows.fnExactParseRequestRow.mainSum := by
  unfold Func.isWrapper
  first
    | (rw [if_pos (by decide +kernel)]; kernel_rfl)
    | (rw [if_neg (by decide +kernel)]; exact ⟨rfl, rfl⟩)

theorem over : Rows.fnExactParseRequestRow.holds Tryd.pinned (OpenSpec.ofChange Rows.fnExactParseRequestSpec) :=
  OpenClaim.holds_of_wide 9 Tryd.f9 rfl rfl rfl rfl rfl rfl rfl ⟨rfl, rfl, rfl, rfl, rfl⟩ rfl rfl rfl rfl rfl named Tryd.func9 facts inst wrap
    (fun os started H enc _ => lifted os started H enc)

theorem row : Rows.FnExactParseRequestSaid := over
/-- THE STATEMENT -/
theorem proved : Rows.FnExactParseRequestCardSaid :=
  Claim7.holds_tied_plain_at .later [] [.data, .pinned] true Rows.fnExactParseRequestCard.stood.harness true row (fun _ h => by cases h) (by kernel_rfl) (fun _ h => by cases h) fnExactParseRequest_row_tie rfl ⟨rfl, rfl⟩ (by kernel_rfl) rfl
    (fun f fn hf hfn => by
      obtain rfl : f = 9 := Option.some.inj (named.symm.trans hf) |>.symm
      obtain rfl : fn = Tryd.f9 := (Option.some.inj (Tryd.func9.symm.trans hfn)).symm
      exact ⟨by kernel_rfl, fun j t ht => by
        rw [Tryd.params9] at ht
        have hm : t ∈ [9] := by simpa using Array.mem_of_getElem? ht
        have hall : ([9].all fun u => !Tryd.prog.wantsStandIn u) = true := by kernel_rfl
        exact (show Tryd.prog.wantsStandIn t = false by simpa using List.all_eq_true.1 hall t hm)⟩)
    (by kernel_rfl)
#print axioms proved
end Go.Proofs.YtfcimcoanlgldaaDoor.fnExactParseRequest
