import Derived.Handed
import Derived.Test.YtfcimcoanlgldaaDoorRows
import Derived.OpenShut
import Derived.ProofKit
import Derived.LaidMore
import Derived.Lay
import Derived.LaidLaws
import Derived.LaidSub
import Derived.SevenTiedAt
import Derived.Stop.Joined
import Derived.Lib.LaidTab
import Derived.Test.YtfcimcoanlgldaaDoorTie
import Derived.Test.YtfcimcoanlgldaaDoorCards
import Derived.Test.YtfcimcoanlgldaaDoorB07

/-
  The types that the laws of this seat speak of, and the helpers over them: printed by a program (wip/tools/gen.py). No condition.
-/


namespace Go.Proofs.YtfcimcoanlgldaaDoor
namespace A
set_option linter.unusedVariables false
set_option linter.unusedSimpArgs false
set_option maxRecDepth 100000

structure TPair where
  Name : List UInt8
  Value : List UInt8
def TPair.enc (s : TPair) : List AV := [.str s.Name, .str s.Value]
@[simp] theorem TPair.len (s : TPair) : s.enc.length = 2 := (rfl)
@[simp] theorem TPair.all (s : TPair) : s.enc.take 2 = s.enc := (rfl)
@[simp] theorem TPair.g0 (s : TPair) (K : AV → Prop) : getW s.enc 0 K = K (.str s.Name) := by simp [TPair.enc]
@[simp] theorem TPair.g1 (s : TPair) (K : AV → Prop) : getW s.enc 1 K = K (.str s.Value) := by simp [TPair.enc]
theorem TPair.cells (s : TPair) : ∀ a, a ∈ s.enc → a.cell = true := by simp [TPair.enc]
def TPair.sz (s : TPair) : Nat := s.Name.length + s.Value.length
def TPair.ok (s : TPair) : Prop := s.Name.length ≤ mx ∧ s.Value.length ≤ mx
def TPair.con (s : TPair) : TPair := s
theorem TPair.sz_con (s : TPair) : s.con.sz = s.sz := rfl
theorem TPair.sh : ∀ (n : Nat) (row : List AV), ShC Tryd.prog n 139 row → ∃ s : TPair, row = s.enc ∧ s.ok := by
  intro n row h
  obtain ⟨m, hl, hf⟩ := sh_fields (l := [(9, 0), (9, 1)]) (by kernel_rfl) h
  have hl' : row.length = 2 := hl.trans (by kernel_rfl)
  match row, hl' with
  | [x0, x1], _ =>
    have h0 := hf (9, 0) (by simp)
    rw [show Tryd.prog.cellsOf 9 = 1 by kernel_rfl] at h0
    obtain ⟨v0, rfl, k0⟩ := sh_str (t := 9) (by kernel_rfl) (show ShC Tryd.prog m 9 [x0] from h0)
    have h1 := hf (9, 1) (by simp)
    rw [show Tryd.prog.cellsOf 9 = 1 by kernel_rfl] at h1
    obtain ⟨v1, rfl, k1⟩ := sh_str (t := 9) (by kernel_rfl) (show ShC Tryd.prog m 9 [x1] from h1)
    exact ⟨⟨v0, v1⟩, rfl, ⟨k0, k1⟩⟩
theorem TPair.sz_fn {s : TPair} (hs : s.ok) {left : Int} (hl : Room left) : Fnc Tryd.prog 123 [.agg s.enc, .int .i64 left] (.int .i64 (szOf s.sz left)) := by
  unfold TPair.ok at hs
  have hr := hl.2
  refine fn_of c123 (by simp [F123]) fun c => ?_
  unfold F123
  simp
  rw [szOf_wrap hs.1 hl]
  refine ⟨fun h => fin_plain ⟨by rw [szOf_neg (by simp only [TPair.sz]; omega)], rfl⟩, fun h => ?_⟩
  rw [szOf_wrap hs.2 ⟨by omega, by omega⟩]
  refine ⟨fun h => fin_plain ⟨by rw [szOf_neg (by simp only [TPair.sz]; omega)], rfl⟩, fun h => ?_⟩
  have hz : s.sz = s.Name.length + s.Value.length := rfl
  have e : szOf s.sz left = left - (s.Name.length : Int) - (s.Value.length : Int) := by
    unfold szOf
    rw [if_pos (by omega)]
    omega
  exact fin_plain ⟨by rw [e], rfl⟩
theorem TPair.to_fn {s : TPair} (h : s.sz ≤ 1048576) : Tr Tryd.prog 124 [.agg s.enc] fun _ r => ∃ b : TPair, r = .agg b.enc ∧ b.con = s.con := by
  simp only [TPair.sz] at h
  intro c
  refine con_of c124 (by simp [F124]) ?_
  unfold F124
  simp [putA]
  refine fin_plain ⟨rfl, ⟨⟨s.Name, s.Value⟩, rfl, ?_⟩, from_agg ?_⟩
  · rfl
  · simp
theorem TPair.eq_fn {a b : TPair} (h : a.sz ≤ 1099511627776) (he : a.con = b.con) : Fnc Tryd.prog 52 [.agg a.enc, .agg b.enc] (.bool true) := by
  simp only [TPair.sz] at h
  have e0 : a.Name = b.Name := (congrArg TPair.Name he : a.con.Name = b.con.Name)
  have e1 : a.Value = b.Value := (congrArg TPair.Value he : a.con.Value = b.con.Value)
  refine fn_of c52 (by simp [F52]) fun c => ?_
  unfold F52
  simp [e0, e1]
  exact fin_plain ⟨rfl, rfl⟩
def szPairS (s : SL TPair) : Nat := s.list.length + szL TPair.sz s.list
def okPairS (s : SL TPair) : Prop := s.list.length ≤ mx ∧ ∀ x, x ∈ s.list → TPair.ok x
theorem szPairS_con {s t : SL TPair} (h : s.list.map TPair.con = t.list.map TPair.con) : szPairS s = szPairS t := by
  unfold szPairS
  rw [← szL_map (con := TPair.con) TPair.sz_con s.list, ← szL_map (con := TPair.con) TPair.sz_con t.list, h]
  have := congrArg List.length h; simp at this; rw [this]
theorem shPairS {n : Nat} {a : AV} (h : ShC Tryd.prog n 46 [a]) : ∃ s : SL TPair, a = s.av 2 TPair.enc ∧ okPairS s := by
  obtain ⟨s, h1, h2, h3⟩ := sh_slc (P := Tryd.prog) (t := 46) (el := 139) (w := 2) (enc := TPair.enc) (ok := TPair.ok) (by kernel_rfl) (by kernel_rfl) (TPair.sh) h
  exact ⟨s, h1, h2, h3⟩
theorem szPairS_fn {s : SL TPair} (hs : okPairS s) {left : Int} (hl : Room left) : Fnc Tryd.prog 67 [s.av 2 TPair.enc, .int .i64 left] (.int .i64 (szOf (szPairS s) left)) :=
  szS_fn (g := 123) c67 (fun _ => rfl) hs.1 hl fun x hx left hl => TPair.sz_fn (hs.2 x hx) hl
theorem toPairS_fn {s : SL TPair} (h : szPairS s ≤ 1048576) : Tr Tryd.prog 70 [s.av 2 TPair.enc] fun _ r => ∃ b : SL TPair, r = b.av 2 TPair.enc ∧ b.list.map TPair.con = s.list.map TPair.con := by
  unfold szPairS at h
  exact toS_fn (g := 124) (z := [.str [], .str []]) (bytes := 32) c70 rfl (fun _ => rfl) (fun x => TPair.cells x) (by omega) (by omega) fun x hx => TPair.to_fn (by have := szL_mem (sz := TPair.sz) hx; omega)
theorem eqPairS_fn {s t : SL TPair} (h : szPairS s ≤ 1099511627776) (he : s.list.map TPair.con = t.list.map TPair.con) : Fnc Tryd.prog 14 [s.av 2 TPair.enc, t.av 2 TPair.enc] (.bool true) := by
  unfold szPairS at h
  exact eqS_fn (g := 52) (con := TPair.con) c14 (fun _ => rfl) (by unfold mx; omega) he fun x hx y hxy => TPair.eq_fn (by have := szL_mem (sz := TPair.sz) hx; omega) hxy
structure TRequest where
  Path : List UInt8
  Query : SL TPair
  Cookies : SL TPair
def TRequest.enc (s : TRequest) : List AV := [.str s.Path, s.Query.av 2 TPair.enc, s.Cookies.av 2 TPair.enc]
@[simp] theorem TRequest.len (s : TRequest) : s.enc.length = 3 := (rfl)
@[simp] theorem TRequest.all (s : TRequest) : s.enc.take 3 = s.enc := (rfl)
@[simp] theorem TRequest.g0 (s : TRequest) (K : AV → Prop) : getW s.enc 0 K = K (.str s.Path) := by simp [TRequest.enc]
@[simp] theorem TRequest.g1 (s : TRequest) (K : AV → Prop) : getW s.enc 1 K = K (s.Query.av 2 TPair.enc) := by simp [TRequest.enc]
@[simp] theorem TRequest.g2 (s : TRequest) (K : AV → Prop) : getW s.enc 2 K = K (s.Cookies.av 2 TPair.enc) := by simp [TRequest.enc]
theorem TRequest.cells (s : TRequest) : ∀ a, a ∈ s.enc → a.cell = true := by simp [TRequest.enc]
def TRequest.sz (s : TRequest) : Nat := s.Path.length + (szPairS s.Query) + (szPairS s.Cookies)
def TRequest.ok (s : TRequest) : Prop := s.Path.length ≤ mx ∧ okPairS s.Query ∧ okPairS s.Cookies
def TRequest.con (s : TRequest) : TRequest := { s with Query := s.Query.con TPair.con, Cookies := s.Cookies.con TPair.con }
theorem TRequest.sz_con (s : TRequest) : s.con.sz = s.sz := by
  simp [TRequest.sz, TRequest.con, szPairS, szPairS, szL_map TPair.sz_con, szL_map TPair.sz_con]
theorem TRequest.sh : ∀ (n : Nat) (row : List AV), ShC Tryd.prog n 48 row → ∃ s : TRequest, row = s.enc ∧ s.ok := by
  intro n row h
  obtain ⟨m, hl, hf⟩ := sh_fields (l := [(9, 0), (46, 1), (46, 2)]) (by kernel_rfl) h
  have hl' : row.length = 3 := hl.trans (by kernel_rfl)
  match row, hl' with
  | [x0, x1, x2], _ =>
    have h0 := hf (9, 0) (by simp)
    rw [show Tryd.prog.cellsOf 9 = 1 by kernel_rfl] at h0
    obtain ⟨v0, rfl, k0⟩ := sh_str (t := 9) (by kernel_rfl) (show ShC Tryd.prog m 9 [x0] from h0)
    have h1 := hf (46, 1) (by simp)
    rw [show Tryd.prog.cellsOf 46 = 1 by kernel_rfl] at h1
    obtain ⟨v1, rfl, k1⟩ := shPairS (show ShC Tryd.prog m 46 [x1] from h1)
    have h2 := hf (46, 2) (by simp)
    rw [show Tryd.prog.cellsOf 46 = 1 by kernel_rfl] at h2
    obtain ⟨v2, rfl, k2⟩ := shPairS (show ShC Tryd.prog m 46 [x2] from h2)
    exact ⟨⟨v0, v1, v2⟩, rfl, ⟨k0, k1, k2⟩⟩
theorem TRequest.sz_fn {s : TRequest} (hs : s.ok) {left : Int} (hl : Room left) : Fnc Tryd.prog 29 [.agg s.enc, .int .i64 left] (.int .i64 (szOf s.sz left)) := by
  unfold TRequest.ok at hs
  have hr := hl.2
  refine fn_of c29 (by simp [F29]) fun c => ?_
  unfold F29
  simp
  rw [szOf_wrap hs.1 hl]
  refine ⟨fun h => fin_plain ⟨by rw [szOf_neg (by simp only [TRequest.sz]; omega)], rfl⟩, fun h => ?_⟩
  refine call_fn0 (szPairS_fn hs.2.1 ⟨by omega, by omega⟩) .int fun _ _ => ?_
  simp
  refine ⟨fun h => fin_plain ⟨by have := szOf_lt h; rw [szOf_neg (by simp only [TRequest.sz]; omega)], rfl⟩, fun h => ?_⟩
  obtain ⟨h1, k1⟩ := szOf_ge h
  rw [h1]
  refine call_fn0 (szPairS_fn hs.2.2 ⟨by omega, by omega⟩) .int fun _ _ => ?_
  simp
  refine ⟨fun h => fin_plain ⟨by have := szOf_lt h; rw [szOf_neg (by simp only [TRequest.sz]; omega)], rfl⟩, fun h => ?_⟩
  obtain ⟨h2, k2⟩ := szOf_ge h
  rw [h2]
  have hz : s.sz = s.Path.length + (szPairS s.Query) + (szPairS s.Cookies) := rfl
  have e : szOf s.sz left = left - (s.Path.length : Int) - ((szPairS s.Query) : Int) - ((szPairS s.Cookies) : Int) := by
    unfold szOf
    rw [if_pos (by omega)]
    omega
  exact fin_plain ⟨by rw [e], rfl⟩
theorem TRequest.to_fn {s : TRequest} (h : s.sz ≤ 1048576) : Tr Tryd.prog 31 [.agg s.enc] fun _ r => ∃ b : TRequest, r = .agg b.enc ∧ b.con = s.con := by
  simp only [TRequest.sz] at h
  intro c
  refine con_of c31 (by simp [F31]) ?_
  unfold F31
  simp [putA]
  refine call_tree0 (toPairS_fn (by omega)) fun r1 c1 hc1 ⟨b1, e1, q1⟩ f1 => ?_
  subst e1
  simp [putA]
  refine call_tree0 (toPairS_fn (by omega)) fun r2 c2 hc2 ⟨b2, e2, q2⟩ f2 => ?_
  subst e2
  simp [putA]
  refine fin_plain ⟨rfl, ⟨⟨s.Path, b1, b2⟩, rfl, ?_⟩, from_agg ?_⟩
  · simp [TRequest.con, SL.con, SL.pcon, q1, q2]
  · simp
    exact ⟨f1.mono (by omega), f2.mono (by omega)⟩
theorem TRequest.eq_fn {a b : TRequest} (h : a.sz ≤ 1099511627776) (he : a.con = b.con) : Fnc Tryd.prog 33 [.agg a.enc, .agg b.enc] (.bool true) := by
  simp only [TRequest.sz] at h
  have e0 : a.Path = b.Path := (congrArg TRequest.Path he : a.con.Path = b.con.Path)
  have e1 : a.Query.list.map TPair.con = b.Query.list.map TPair.con := congrArg (fun s => s.Query.list) he
  have e2 : a.Cookies.list.map TPair.con = b.Cookies.list.map TPair.con := congrArg (fun s => s.Cookies.list) he
  refine fn_of c33 (by simp [F33]) fun c => ?_
  unfold F33
  simp [e0]
  refine call_fn0 (eqPairS_fn (by omega) e1) .bool fun _ _ => ?_
  simp [e0]
  refine call_fn0 (eqPairS_fn (by omega) e2) .bool fun _ _ => ?_
  simp [e0]
  exact fin_plain ⟨rfl, rfl⟩
end A
end Go.Proofs.YtfcimcoanlgldaaDoor

/-
  Pairs read out of a text, by the reference and by the program: the same plain function. No condition.
-/




namespace Go.Proofs.YtfcimcoanlgldaaDoor
namespace A
set_option linter.unusedVariables false
set_option linter.unusedSimpArgs false
set_option maxRecDepth 100000

/-! ### the plain function -/
def okPair (p : TPair) : Bool := decide (p.Name.length ≤ 60) && decide (p.Value.length ≤ 60)
def okP (l : List TPair) : Bool := l.all okPair && decide (l.length ≤ 12)
def pairA (x : List UInt8) : TPair := ⟨(une (x.take (upTo 61 x))).getD [], (une (x.drop (upTo 61 x + 1))).getD []⟩
def pairB (x : List UInt8) : Bool := (une (x.take (upTo 61 x))).isSome && (une (x.drop (upTo 61 x + 1))).isSome
def pairOf (x : List UInt8) : Option TPair := if pairB x then some (pairA x) else none
def pairsOf : List (List UInt8) → Option (List TPair)
  | [] => some []
  | x :: r => (pairOf x).bind fun p => (pairsOf r).map (p :: ·)
def parseP (sep l : List UInt8) : Option (List TPair) := if l = [] then some [] else (pairsOf (Lib.split l sep)).bind fun o => if okP o then some o else none
theorem pairsOf_app : ∀ (a b : List (List UInt8)), pairsOf (a ++ b) = (pairsOf a).bind fun x => (pairsOf b).map (x ++ ·)
  | [], b => by simp [pairsOf]
  | x :: a, b => by
    simp only [List.cons_append, pairsOf, pairsOf_app a b]
    cases pairOf x with
    | none => rfl
    | some p =>
      cases pairsOf a with
      | none => rfl
      | some y => cases pairsOf b <;> simp
theorem pairsOf_len : ∀ {a : List (List UInt8)} {o : List TPair}, pairsOf a = some o → o.length = a.length
  | [], o, h => by simp [pairsOf] at h; subst h; rfl
  | x :: a, o, h => by
    simp only [pairsOf] at h
    cases hp : pairOf x with
    | none => rw [hp] at h; cases h
    | some p =>
      rw [hp] at h
      cases ha : pairsOf a with
      | none => rw [ha] at h; cases h
      | some y => rw [ha] at h; simp at h; subst h; simp [pairsOf_len ha]
theorem okP_sz {l : List TPair} (h : okP l = true) : l.length ≤ 12 ∧ szL TPair.sz l ≤ 120 * l.length := by
  simp only [okP, Bool.and_eq_true, decide_eq_true_eq] at h
  refine ⟨h.2, ?_⟩
  have h1 := h.1
  clear h
  induction l with
  | nil => simp [szL]
  | cons p l ih =>
    simp only [List.all_cons, Bool.and_eq_true, okPair, decide_eq_true_eq] at h1
    have := ih h1.2
    simp [szL, TPair.sz] at this ⊢; omega
theorem parseP_ok {sep l : List UInt8} {o : List TPair} (h : parseP sep l = some o) : okP o = true := by
  unfold parseP at h
  split at h
  · cases h; rfl
  · cases hp : pairsOf (Lib.split l sep) with
    | none => rw [hp] at h; cases h
    | some x =>
      rw [hp] at h
      simp only [Option.bind_some] at h
      split at h
      · cases h; assumption
      · cases h

/-! ### the pairs' bounds -/
theorem TPair.flat' : Flat TPair.enc := fun x a ha => by
  simp [TPair.enc] at ha
  rcases ha with rfl | rfl <;> exact ⟨rfl, free_str _⟩
theorem TPair.free (x : TPair) : ∀ a, a ∈ x.enc → Free a := fun a ha => (TPair.flat' x a ha).2
theorem spec_pairs {s : SL TPair} (hn : s.list.length ≤ mx) : Fnc Tryd.prog 69 [s.av 2 TPair.enc] (.bool (okP s.list)) := by
  refine fn_of c69 (by simp [F69]) fun c => ?_
  unfold F69
  simp
  refine loop_drop s.list.length (fun i e H c' => e 0 = s.av 2 TPair.enc ∧ e 3 = .int .i64 i ∧ (s.list.take i).all okPair = true ∧ H = []) ⟨rfl, rfl, by simp, rfl⟩ ?_
  intro i e H c hi ⟨e0, e3, ha, hH⟩ N hN
  subst hH
  by_cases h : i < s.list.length
  · have hb : s.list[i]? = some s.list[i] := List.getElem?_eq_getElem h
    have bad : okPair s.list[i] = false → okP s.list = false := fun hb => by
      unfold okP
      have : s.list.all okPair = false := by rw [List.all_eq_false]; exact ⟨_, List.getElem_mem h, by simp [hb]⟩
      rw [this]; rfl
    have good : okPair s.list[i] = true → (s.list.take (i + 1)).all okPair = true := fun hx => all_step ha h hx
    have hstep : IntKind.i64.wrap ((i : Int) + 1) = ((i + 1 : Nat) : Int) := by rw [step64 hn h]; rfl
    generalize s.list[i] = p at hb bad good
    by_cases h1 : p.Name.length ≤ 60
    · have k1 : ¬ (60 < (p.Name.length : Int)) := by omega
      by_cases h2 : p.Value.length ≤ 60
      · have k2 : ¬ (60 < (p.Value.length : Int)) := by omega
        simp [e0, e3, h, getW_of hb, k1, k2, hstep]
        exact hN _ _ _ _ h (List.Sublist.refl _) ⟨by simp [upd, e0], by simp [upd], good (by simp [okPair, h1, h2]), rfl⟩
      · have k2 : (60 < (p.Value.length : Int)) := by omega
        simp [e0, e3, h, getW_of hb, k1, k2, hstep]
        exact fin_plain ⟨by rw [bad (by simp [okPair, h2])], rfl⟩
    · have k1 : (60 < (p.Name.length : Int)) := by omega
      simp [e0, e3, h, getW_of hb, k1, hstep]
      exact fin_plain ⟨by rw [bad (by simp [okPair, h1])], rfl⟩
  · have h1 : i = s.list.length := by omega
    subst h1
    rw [List.take_length] at ha
    have k : ((s.list.length : Int) ≤ 12) = (s.list.length ≤ 12) := by simp only [eq_iff_iff]; omega
    simp [e0, e3]
    exact fin_plain ⟨by simp [okP, ha, k], rfl⟩
theorem impl_pairs {s : SL TPair} (hn : s.list.length ≤ mx) : Fnc Tryd.prog 72 [s.av 2 TPair.enc] (.bool (okP s.list)) := by
  refine fn_of c72 (by simp [F72]) fun c => ?_
  unfold F72
  simp
  refine loop_drop s.list.length (fun i e H c' => e 0 = s.av 2 TPair.enc ∧ e 5 = s.av 2 TPair.enc ∧ e 6 = .int .i64 s.list.length ∧ e 7 = .int .i64 i ∧ (s.list.take i).all okPair = true ∧ H = []) ⟨rfl, rfl, rfl, rfl, by simp, rfl⟩ ?_
  intro i e H c hi ⟨e0, e5, e6, e7, ha, hH⟩ N hN
  subst hH
  by_cases h : i < s.list.length
  · have hb : s.list[i]? = some s.list[i] := List.getElem?_eq_getElem h
    have bad : okPair s.list[i] = false → okP s.list = false := fun hb => by
      unfold okP
      have : s.list.all okPair = false := by rw [List.all_eq_false]; exact ⟨_, List.getElem_mem h, by simp [hb]⟩
      rw [this]; rfl
    have good : okPair s.list[i] = true → (s.list.take (i + 1)).all okPair = true := fun hx => all_step ha h hx
    have hstep : IntKind.i64.wrap ((i : Int) + 1) = ((i + 1 : Nat) : Int) := by rw [step64 hn h]; rfl
    generalize s.list[i] = p at hb bad good
    by_cases h1 : p.Name.length ≤ 60
    · have k1 : ¬ (60 < (p.Name.length : Int)) := by omega
      by_cases h2 : p.Value.length ≤ 60
      · have k2 : ¬ (60 < (p.Value.length : Int)) := by omega
        simp [e0, e5, e6, e7, h, getW_of hb, k1, k2, hstep, putA]
        exact hN _ _ _ _ h (List.nil_sublist _) ⟨by simp [upd, e0], by simp [upd, e5], by simp [upd, e6], by simp [upd], good (by simp [okPair, h1, h2]), rfl⟩
      · have k2 : (60 < (p.Value.length : Int)) := by omega
        simp [e0, e5, e6, e7, h, getW_of hb, k1, k2, hstep, putA]
        exact fin_plain ⟨by rw [bad (by simp [okPair, h2])], rfl⟩
    · have k1 : (60 < (p.Name.length : Int)) := by omega
      simp [e0, e5, e6, e7, h, getW_of hb, k1, hstep, putA]
      exact fin_plain ⟨by rw [bad (by simp [okPair, h1])], rfl⟩
  · have h1 : i = s.list.length := by omega
    subst h1
    rw [List.take_length] at ha
    have k : ((s.list.length : Int) ≤ 12) = (s.list.length ≤ 12) := by simp only [eq_iff_iff]; omega
    simp [e0, e5, e6, e7]
    exact fin_plain ⟨by simp [okP, ha, k], rfl⟩

/-! ### one pair -/
theorem free_un (l : List UInt8) : Free (.tup (unO l)) := free_tup fun a ha => by
  simp [unO] at ha
  rcases ha with rfl | rfl
  · exact free_str _
  · exact free_bool _
theorem min_fn (a b : Int) : Fnc Tryd.prog 80 [.int .i64 a, .int .i64 b] (.int .i64 (if b < a then b else a)) := by
  refine fn_of c80 (by simp [F80]) fun c => ?_
  unfold F80
  by_cases h : b < a <;> simp [h] <;> exact fin_plain ⟨rfl, rfl⟩
theorem upTo_drop (b : UInt8) (l : List UInt8) : l.drop (min l.length (upTo b l + 1)) = l.drop (upTo b l + 1) := by
  rcases Nat.le_total l.length (upTo b l + 1) with h | h
  · rw [Nat.min_eq_left h, List.drop_length, List.drop_eq_nil_of_le h]
  · rw [Nat.min_eq_right h]
theorem specPair_fn {l : List UInt8} (hl : l.length ≤ 1048576) : Fnc Tryd.prog 112 [.str l] (.tup [.agg (pairA l).enc, .bool (pairB l)]) := by
  refine fn_of c112 (by simp [F112]) fun c => ?_
  unfold F112
  simp
  refine loop_drop l.length (fun i e H c' => e 0 = .str l ∧ e 2 = .ptr 0 c 2 0 0 ∧ e 4 = .int .i64 i ∧ (∀ j, j < i → l[j]? ≠ some 61) ∧ H = [⟨false, c, 2, [[.str [], .str []]]⟩]) ⟨rfl, rfl, rfl, by simp, rfl⟩ ?_
  intro i e H c' hi ⟨e0, e2, e4, hno, hH⟩ N hN
  subst hH
  by_cases hgo : i < l.length ∧ l[i]? ≠ some 61
  · obtain ⟨h, hx⟩ := hgo
    have hb : l[i]? = some l[i] := List.getElem?_eq_getElem h
    have hstep : IntKind.i64.wrap ((i : Int) + 1) = ((i + 1 : Nat) : Int) := by rw [step64 (by unfold mx; omega) h]; rfl
    generalize l[i] = b at hb
    have hb61 : ¬ (b.toNat : Int) = 61 := fun e => hx (by rw [hb]; congr 1; exact UInt8.toNat_inj.1 (by have : (61 : UInt8).toNat = 61 := rfl; omega))
    simp [e0, e4, h, getW_of hb, hb61, hstep]
    refine hN _ _ _ _ h (List.Sublist.refl _) ⟨by simp [upd, e0], by simp [upd, e2], by simp [upd], fun j hj => ?_, rfl⟩
    rcases Nat.lt_or_ge j i with h1 | h1
    · exact hno j h1
    · have : j = i := by omega
      subst this; exact hx
  have hk : upTo 61 l = i := upTo_eq hi hno (by
    rcases Nat.lt_or_ge i l.length with h | h
    · exact .inr (Classical.byContradiction fun hx => hgo ⟨h, hx⟩)
    · exact .inl (by omega))
  have hmin : (if (i : Int) + 1 < (l.length : Int) then (i : Int) + 1 else (l.length : Int)) = ((min l.length (i + 1) : Nat) : Int) := by
    split <;> omega
  have hw : IntKind.i64.wrap ((i : Int) + 1) = (i : Int) + 1 := wrap64 (by omega) (by omega)
  have hdr : l.drop (min l.length (i + 1)) = l.drop (upTo 61 l + 1) := by rw [← hk]; exact upTo_drop 61 l
  have hA : ((une (l.take i)).getD []) = (pairA l).Name := by rw [← hk]; rfl
  have hB : ((une (l.drop (upTo 61 l + 1))).getD []) = (pairA l).Value := rfl
  have hC : ((une (l.take i)).isSome && (une (l.drop (upTo 61 l + 1))).isSome) = pairB l := by rw [← hk]; rfl
  rcases Nat.lt_or_ge i l.length with h | h
  focus
    have hb : l[i]? = some 61 := Classical.byContradiction fun hx => hgo ⟨h, hx⟩
    simp [e0, e4, h, hi, getW_of hb]
  rotate_left
  focus
    have h' : ¬ i < l.length := by omega
    simp [e0, e4, h', hi]
  rotate_left
  all_goals
    refine call_fn0 (specUne_fn (l := l.take i) (by simp; omega)) (free_un _ _) fun _ _ => ?_
    simp [e0, e4, unO, hw]
    refine call_fn0 (min_fn _ _) .int fun _ _ => ?_
    simp only [hmin]
    simp [e0, e4]
    rw [hdr]
    refine ⟨Nat.min_le_left _ _, ?_⟩
    refine call_fn0 (specUne_fn (by simp; omega)) (free_un _ _) fun _ _ => ?_
    simp [e0, e2, e4, unO, putA]
    cases h1 : (une (l.take i)).isSome
    · simp [e0, e2, e4, putA]
      exact fin_plain ⟨by rw [← hC, h1, hA, hB]; rfl, rfl⟩
    · simp [e0, e2, e4, putA]
      exact fin_plain ⟨by rw [← hC, h1, hA, hB]; simp [TPair.enc], rfl⟩
theorem cut_61 (l : List UInt8) : (Lib.cut l [61]).1 = l.take (upTo 61 l) ∧ (Lib.cut l [61]).2.1 = l.drop (upTo 61 l + 1) := cut_one 61 l

/-! ### all pairs, of the program -/
theorem implParse_con {l sep : List UInt8} (hl : l.length ≤ 1048576) (hs : sep ≠ []) (c : Nat) :
    Con Tryd.prog 51 [.str l, .str sep] [] c fun r O _ => ∃ b : SL TPair, r = .tup [b.ref 2, .bool (parseP sep l).isSome] ∧ O = b.wood 2 TPair.enc noInn ∧ b.list = (parseP sep l).getD [] := by
  refine con_of c51 (by simp [F51]) ?_
  unfold F51
  by_cases h0 : l = []
  · subst h0
    simp
    exact fin_all ⟨.mk c [], by simp [SL.ref, parseP], by simp [flat_wood], by simp [parseP]⟩
  simp [h0]
  refine call_tree0 (split_tr (by omega) hs) fun r _ hc1 ⟨b, e1, q1⟩ _ => ?_
  subst e1
  simp [h0]
  have hpl := split_len l sep
  have hpm := fun x => split_mem (l := l) (sep := sep) (x := x)
  have hpar : parseP sep l = (pairsOf b.list).bind fun o => if okP o then some o else none := by unfold parseP; rw [if_neg h0, q1]
  rw [← q1] at hpl hpm
  refine loop_drop b.list.length (fun i e H c' => e 22 = b.av 1 encS ∧ e 23 = .int .i64 b.list.length ∧ e 24 = .int .i64 i ∧ ∃ (o : List TPair) (t : Nat), pairsOf (b.list.take i) = some o ∧ e 6 = .ref 0 t 2 o.length ∧ H = [⟨false, t, 2, o.map TPair.enc⟩]) ⟨rfl, rfl, rfl, [], c, by simp [pairsOf], rfl, rfl⟩ ?_
  intro i e H c hi ⟨e22, e23, e24, o, t, ho, e6, hH⟩ N hN
  subst hH
  have hol := pairsOf_len ho
  rw [List.length_take] at hol
  have hm1 : (o.length + 1) * 32 ≤ 140737488355328 := by omega
  have hm2 : o.length + 1 ≤ mx := by unfold mx; omega
  by_cases h : i < b.list.length
  · have hx : b.list[i]? = some b.list[i] := List.getElem?_eq_getElem h
    have hall : pairsOf b.list = (pairsOf (b.list.take i)).bind fun x => (pairsOf (b.list[i] :: b.list.drop (i + 1))).map (x ++ ·) := by
      rw [← pairsOf_app, ← List.drop_eq_getElem_cons h, List.take_append_drop]
    have hnext : pairsOf (b.list.take (i + 1)) = (pairsOf (b.list.take i)).bind fun x => (pairsOf [b.list[i]]).map (x ++ ·) := by
      rw [← pairsOf_app, List.take_succ_eq_append_getElem h]
    have hxl := hpm _ (List.getElem_mem h)
    generalize b.list[i] = x at hx hall hnext hxl
    have hstep : IntKind.i64.wrap ((i : Int) + 1) = ((i + 1 : Nat) : Int) := by rw [step64 (by unfold mx; omega) h]; rfl
    obtain ⟨hc1, hc2⟩ := cut_61 x
    rw [ho] at hall hnext
    simp only [Option.bind_some, pairsOf] at hall hnext
    simp [e22, e23, e24, h, getW_of hx]
    refine call_fn0 (cut_fn (by omega)) (free_tup (by simp [free_str, free_bool]) _) fun _ _ => ?_
    simp [e22, e23, e24]
    rw [hc1]
    refine call_fn0 (implUne_fn (by simp; omega)) (free_un _ _) fun _ _ => ?_
    simp [e22, e23, e24, unO]
    rw [hc2]
    refine call_fn0 (implUne_fn (by simp; omega)) (free_un _ _) fun _ _ => ?_
    simp [e22, e23, e24, unO]
    have hpB : pairB x = ((une (x.take (upTo 61 x))).isSome && (une (x.drop (upTo 61 x + 1))).isSome) := rfl
    have hA : ((une (x.take (upTo 61 x))).getD []) = (pairA x).Name := rfl
    have hB : ((une (x.drop (upTo 61 x + 1))).getD []) = (pairA x).Value := rfl
    rw [hA, hB]
    have bad : pairB x = false → parseP sep l = none := fun hb => by
      rw [hpar, hall]; simp [pairOf, hb]
    cases h1 : une (x.take (upTo 61 x)) with
    | none =>
      simp
      have := bad (by rw [hpB, h1]; rfl)
      exact fin_sub (List.nil_sublist _) (.refl _) ⟨.nil, by rw [this]; rfl, rfl, by rw [this]; rfl⟩
    | some u1 =>
    cases h2 : une (x.drop (upTo 61 x + 1)) with
    | none =>
      simp
      have := bad (by rw [hpB, h1, h2]; rfl)
      exact fin_sub (List.nil_sublist _) (.refl _) ⟨.nil, by rw [this]; rfl, rfl, by rw [this]; rfl⟩
    | some u2 =>
    have hgood : pairB x = true := by rw [hpB, h1, h2]; rfl
    simp [e6, e24, hm1, hm2, putA, hstep]
    refine hN _ _ _ _ h (sub_one _ _) ⟨by simp [upd, e22], by simp [upd, e23], by simp [upd], o ++ [pairA x], _, by rw [hnext]; simp [pairOf, hgood], by simp [upd]; rfl, by simp [TPair.enc]⟩
  · have h1 : i = b.list.length := by omega
    subst h1
    rw [List.take_length] at ho
    rw [ho] at hpar
    simp only [Option.bind_some] at hpar
    simp [e6, e22, e23, e24]
    refine call_fn (impl_pairs (s := .mk t o) (by simp; unfold mx; omega)) (.cons (view_ref (by simp) rfl fun x _ => TPair.cells x) .nil) .bool fun _ _ => ?_
    cases hk : okP o
    · simp [hk, e6]
      rw [hk] at hpar
      simp at hpar
      exact fin_sub (List.nil_sublist _) (.refl _) ⟨.nil, by simp [hpar, SL.ref], by simp [SL.wood], by simp [hpar]⟩
    · simp [hk, e6]
      rw [hk] at hpar
      simp at hpar
      exact fin_sub (List.Sublist.refl _) (.refl _) ⟨.mk t o, by simp [hpar, SL.ref], by simp [flat_wood], by simp [hpar]⟩

/-! ### all pairs, of the reference -/
theorem is_fn {l sep : List UInt8} {i : Nat} (hl : l.length ≤ 9223372036854775000) (hs : sep.length ≤ 100) (hi : i ≤ l.length) : Fnc Tryd.prog 78 [.str l, .int .i64 i, .str sep] (.bool (Lib.occAt l sep i)) := by
  refine fn_of c78 (by simp [F78]) fun c => ?_
  unfold F78
  have w1 : IntKind.i64.wrap ((l.length : Int) - (i : Int)) = (l.length : Int) - i := wrap64 (by omega) (by omega)
  have w2 : IntKind.i64.wrap ((i : Int) + (sep.length : Int)) = ((i + sep.length : Nat) : Int) := by rw [wrap64 (by omega) (by omega)]; omega
  by_cases h : i + sep.length ≤ l.length
  · have k : (sep.length : Int) ≤ (l.length : Int) - i := by omega
    have e : Lib.occAt l sep i = decide ((l.take (i + sep.length)).drop i = sep) := by
      rw [Lib.occAt_iff_take _ _ _ h, List.drop_take, Nat.add_sub_cancel_left, dec_beq]
    simp [w1, w2, k, -Int.natCast_add]
    exact ⟨h, fin_plain ⟨by rw [e], rfl⟩⟩
  · have k : ¬ (sep.length : Int) ≤ (l.length : Int) - i := by omega
    have e : Lib.occAt l sep i = false := by
      cases ho : Lib.occAt l sep i
      · rfl
      · rcases Lib.occAt_room ho with h1 | h1
        · exact absurd h1 h
        · subst h1; simp at h; omega
    simp [w1, k]
    exact fin_plain ⟨by rw [e], rfl⟩
theorem specParse_con {l sep : List UInt8} (hl : l.length ≤ 1048576) (hs : sep ≠ []) (hs2 : sep.length ≤ 100) (c : Nat) :
    Con Tryd.prog 50 [.str l, .str sep] [] c fun r O _ => ∃ b : SL TPair, r = .tup [b.ref 2, .bool (parseP sep l).isSome] ∧ O = b.wood 2 TPair.enc noInn ∧ b.list = (parseP sep l).getD [] := by
  refine con_of c50 (by simp [F50]) ?_
  unfold F50
  simp
  by_cases h0 : l = []
  · subst h0
    refine loop_drop 0 (fun i e H c' => e 0 = .str [] ∧ e 6 = .ref 0 c 2 0 ∧ e 8 = .int .i64 0 ∧ H = [⟨false, c, 2, []⟩]) ⟨rfl, rfl, rfl, rfl⟩ ?_
    intro i e H c' hi ⟨e0, e6, e8, hH⟩ N hN
    subst hH
    simp [e0, e6, e8]
    refine call_fn (spec_pairs (s := .mk c []) (by simp)) (.cons (view_ref (by simp) rfl fun x _ => TPair.cells x) .nil) .bool fun _ _ => ?_
    have : okP ([] : List TPair) = true := rfl
    simp [this, e6]
    exact fin_all ⟨.mk c [], by simp [SL.ref, parseP], by simp [flat_wood], by simp [parseP]⟩
  have hlp : 0 < l.length := List.length_pos_iff.2 h0
  have hs1 : 0 < sep.length := List.length_pos_iff.2 hs
  have hpar : parseP sep l = (pairsOf (Lib.split l sep)).bind fun o => if okP o then some o else none := by unfold parseP; rw [if_neg h0]
  refine loop_drop (l.length + 1) (fun i e H c' => e 0 = .str l ∧ e 1 = .str sep ∧ e 8 = .int .i64 i ∧ ∃ (a : Nat) (o : List TPair) (t : Nat), e 7 = .int .i64 a ∧ e 6 = .ref 0 t 2 o.length ∧ H = [⟨false, t, 2, o.map TPair.enc⟩] ∧ o.length ≤ i ∧
      (i ≤ l.length → a ≤ l.length ∧ (∀ j, a ≤ j → j < i → Lib.occAt l sep j = false) ∧ pairsOf (Lib.split l sep) = (pairsOf (Lib.split (l.drop a) sep)).map (o ++ ·)) ∧ (l.length < i → pairsOf (Lib.split l sep) = some o)) ?_ ?_
  · exact ⟨rfl, rfl, rfl, 0, [], c, rfl, rfl, rfl, by simp, fun _ => ⟨by omega, fun j h1 h2 => by omega, by simp⟩, fun h => by omega⟩
  intro i e H c' hi ⟨e0, e1, e8, a, o, t, e7, e6, hH, hoi, hinv, hend⟩ N hN
  subst hH
  have hm1 : (o.length + 1) * 32 ≤ 140737488355328 := by omega
  have hm2 : o.length + 1 ≤ mx := by unfold mx; omega
  by_cases hle : i ≤ l.length
  case neg =>
    have hie : i = l.length + 1 := by omega
    have ho := hend (by omega)
    rw [ho] at hpar
    simp only [Option.bind_some] at hpar
    have hnle : ¬ ((i : Int) ≤ (l.length : Int)) := by omega
    simp [e0, e6, e8, hle]
    refine call_fn (spec_pairs (s := .mk t o) (by simp; unfold mx; omega)) (.cons (view_ref (by simp) rfl fun x _ => TPair.cells x) .nil) .bool fun _ _ => ?_
    cases hk : okP o
    · simp [hk, e6]
      rw [hk] at hpar
      simp at hpar
      exact fin_sub (Hk := [⟨false, _, 2, []⟩]) ((List.Sublist.refl _).cons _) (view_tup (.cons .name (Views.refl _ _))) ⟨.mk _ [], by rw [hpar]; rfl, rfl, by rw [hpar]; rfl⟩
    · simp [hk, e6]
      rw [hk] at hpar
      simp at hpar
      exact fin_sub (List.Sublist.refl _) (.refl _) ⟨.mk t o, by simp [hpar, SL.ref], by simp [flat_wood], by simp [hpar]⟩
  obtain ⟨ha, hno, hsp⟩ := hinv hle
  have hstep : IntKind.i64.wrap ((i : Int) + 1) = ((i + 1 : Nat) : Int) := by rw [wrap64 (by omega) (by omega)]; rfl
  have hadd : IntKind.i64.wrap ((i : Int) + (sep.length : Int)) = ((i + sep.length : Nat) : Int) := by rw [wrap64 (by omega) (by omega)]; omega
  by_cases hA : i < l.length ∧ Lib.occAt l sep i = false
  · obtain ⟨h, ho⟩ := hA
    simp [e0, e1, e8, hle, h0, h]
    refine call_fn0 (is_fn (by omega) hs2 hle) .bool fun _ _ => ?_
    simp [e0, e1, e8, ho, hstep]
    refine hN _ _ _ _ (by omega) (List.Sublist.refl _) ⟨by simp [upd, e0], by simp [upd, e1], by simp [upd], a, o, t, by simp [upd, e7], by simp [upd, e6], rfl, by omega, fun _ => ⟨ha, fun j h1 h2 => ?_, hsp⟩, fun h2 => by omega⟩
    rcases Nat.lt_or_ge j i with h3 | h3
    · exact hno j h1 h3
    · have : j = i := by omega
      subst this; exact ho
  have hocc : i < l.length → Lib.occAt l sep i = true := fun h => by
    cases ho : Lib.occAt l sep i
    · exact absurd ⟨h, ho⟩ hA
    · rfl
  by_cases hB : i < a
  · have h : i < l.length := by omega
    simp [e0, e1, e8, hle, h0, h]
    refine call_fn0 (is_fn (by omega) hs2 hle) .bool fun _ _ => ?_
    simp [e0, e1, e7, e8, hocc h, hstep, hB]
    exact hN _ _ _ _ (by omega) (List.Sublist.refl _) ⟨by simp [upd, e0], by simp [upd, e1], by simp [upd], a, o, t, by simp [upd, e7], by simp [upd, e6], rfl, by omega, fun _ => ⟨ha, fun j h1 h2 => by omega, hsp⟩, fun h2 => by omega⟩
  have hai : a ≤ i := by omega
  obtain ⟨x, hx⟩ : ∃ x, (l.take i).drop a = x := ⟨_, rfl⟩
  obtain ⟨R, hR⟩ : ∃ R, (if i < l.length then Lib.split (l.drop (i + sep.length)) sep else []) = R := ⟨_, rfl⟩
  have hcons : Lib.split (l.drop a) sep = x :: R := by
    rw [← hx, ← hR]
    by_cases h : i < l.length
    · rw [if_pos h]; exact split_at hs hai hle hno (hocc h)
    · have hie : i = l.length := by omega
      subst hie
      rw [if_neg h, List.take_length]; exact split_end hs hno
  rw [hcons] at hsp
  simp only [pairsOf] at hsp
  have hxl : x.length ≤ 1048576 := by rw [← hx]; simp; omega
  have bad : pairB x = false → parseP sep l = none := fun hb => by rw [hpar, hsp]; simp [pairOf, hb]
  have good : pairB x = true → pairsOf (Lib.split l sep) = (pairsOf R).map ((o ++ [pairA x]) ++ ·) := fun hb => by
    rw [hsp]; simp only [pairOf, hb, if_true, Option.bind_some, Option.map_map]
    congr 1; funext y; simp
  have hroom : i < l.length → i + sep.length ≤ l.length := fun h => occ_room hs (hocc h)
  have hsl : ∀ K : AV → Prop, strSliceW (.str l) (some (.int .i64 a)) (some (.int .i64 i)) K = K (.str x) := fun K => by rw [← hx]; simp [hai, hle]
  rcases Nat.lt_or_ge i l.length with h | h
  focus
    simp [e0, e1, e8, hle, h0, h]
    refine call_fn0 (is_fn (by omega) hs2 hle) .bool fun _ _ => ?_
    simp [e0, e1, e7, e8, hocc h, hstep, hB, hsl, -strSliceW_str]
  rotate_left
  focus
    have h' : ¬ i < l.length := by omega
    simp [e0, e1, e7, e8, hle, h0, h', hB, hsl, -strSliceW_str]
  rotate_left
  all_goals
    refine call_fn0 (specPair_fn hxl) (free_tup (by simp [free_bool, free_agg (TPair.free _)]) _) fun _ _ => ?_
    cases hb : pairB x
    · simp [e0, e1, e7, e8, hb, putA]
      have hn := bad hb
      exact fin_sub (Hk := [⟨false, _, 2, []⟩]) (((List.Sublist.refl _).cons _).cons _) (view_tup (.cons .name (Views.refl _ _))) ⟨.mk _ [], by rw [hn]; rfl, rfl, by rw [hn]; rfl⟩
    · have hg := good hb
      simp [e0, e1, e6, e7, e8, hb, putA, hm1, hm2, hadd, hstep]
      refine hN _ _ _ _ (by omega) (sub_one _ _) ⟨by simp [upd, e0], by simp [upd, e1], by simp [upd], i + sep.length, o ++ [pairA x], _, by simp [upd], by simp [upd]; rfl, by simp, by simp; omega, fun h2 => ⟨hroom (by omega), fun j h3 h4 => by omega, ?_⟩, fun h2 => ?_⟩
      · have : i < l.length := by omega
        rw [hg, ← hR, if_pos this]
      · have : ¬ i < l.length := by omega
        rw [hg, ← hR, if_neg this]; simp [pairsOf]
end A
end Go.Proofs.YtfcimcoanlgldaaDoor

/-
  The words that mark strings. No condition.
-/


namespace Go.Proofs.YtfcimcoanlgldaaDoor
namespace A
set_option linter.unusedVariables false
set_option linter.unusedSimpArgs false
set_option maxRecDepth 100000

def mtD : Nat → Nat → List UInt8 → List UInt8
  | 0, _, acc => acc
  | f + 1, k, acc => if k = 0 then acc else mtD f (k / 10) (UInt8.ofNat (48 + k % 10) :: acc)
def mtext (k : Int) : List UInt8 := if k ≤ 0 then [109, 48] else 109 :: mtD 40 k.toNat []
theorem mtD_len : ∀ (f k : Nat) (acc : List UInt8), (mtD f k acc).length ≤ f + acc.length
  | 0, _, _ => by simp [mtD]
  | f + 1, k, acc => by
    unfold mtD
    split
    · omega
    · have := mtD_len f (k / 10) (UInt8.ofNat (48 + k % 10) :: acc)
      rw [List.length_cons] at this; omega
theorem mtext_len (k : Int) : (mtext k).length ≤ 41 := by
  unfold mtext
  split
  · simp
  · have := mtD_len 40 k.toNat []
    simp at this ⊢; omega

theorem mtext_fn {k : Int} (hk : k ≤ 1000000000000000000) : Fnc Tryd.prog 53 [.int .i64 k] (.str (mtext k)) := by
  refine fn_of c53 (by simp [F53]) fun c => ?_
  unfold F53
  simp
  refine ⟨fun h => fin_plain ⟨by simp [mtext, h], rfl⟩, fun h => ?_⟩
  have hm : mtext k = 109 :: mtD 40 k.toNat [] := by simp [mtext]; omega
  refine loop_drop 20 (fun i e H c' => ∃ (n : Nat) (acc : List UInt8), e 0 = .int .i64 n ∧ e 3 = .str acc ∧ acc.length = i ∧ n * 10 ^ i ≤ k.toNat ∧ mtD (40 - i) n acc = mtD 40 k.toNat [] ∧ H = []) ⟨k.toNat, [], by simp; omega, rfl, rfl, by simp, rfl, rfl⟩ ?_
  intro i e H c hi ⟨n, acc, e0, e3, hl, hn, hd, hH⟩ N hN
  subst hH
  simp [e0, e3]
  refine ⟨fun h => ?_, fun h => ?_⟩
  · have hi' : i < 20 := by
      rcases Nat.lt_or_ge i 20 with h1 | h1
      · exact h1
      · have : i = 20 := by omega
        subst this
        omega
    have h10 : ((n : Int)).tmod 10 = ((n % 10 : Nat) : Int) := by rw [Int.tmod_eq_emod_of_nonneg (by omega)]; omega
    have hq : ((n : Int)).tdiv 10 = ((n / 10 : Nat) : Int) := by rw [Int.tdiv_eq_ediv_of_nonneg (by omega)]; omega
    have h48 : (48 : Int) + ((n % 10 : Nat) : Int) = ((48 + n % 10 : Nat) : Int) := by omega
    have hw : IntKind.u8.wrap (IntKind.i64.wrap (48 + ((n % 10 : Nat) : Int))) = ((UInt8.ofNat (48 + n % 10)).toNat : Int) := by rw [h48]; exact wrap_u8 (by omega)
    rw [h10]
    refine toStrW_ref (l := [UInt8.ofNat (48 + n % 10)]) (by rw [hw]; rfl) rfl (by simp [mx]) ?_
    have hm1 : 1 + acc.length ≤ mx := by unfold mx; omega
    have hq' : IntKind.i64.wrap ((n / 10 : Nat) : Int) = ((n / 10 : Nat) : Int) := by
      have : n ≤ k.toNat := Nat.le_trans (Nat.le_mul_of_pos_right n (Nat.pos_of_ne_zero (by simp))) hn
      exact wrap64 (by omega) (by omega)
    simp [e0, e3, hm1, hq, hq', -Int.natCast_ediv]
    refine hN _ _ [] _ hi' (by simp) ⟨n / 10, UInt8.ofNat (48 + n % 10) :: acc, ?_, ?_, by simp [hl], ?_, ?_, rfl⟩
    · simp [upd]
    · simp [upd]
    · refine Nat.le_trans ?_ hn
      rw [Nat.pow_succ, Nat.mul_comm (10 ^ i) 10, ← Nat.mul_assoc]
      exact Nat.mul_le_mul_right _ (Nat.div_mul_le_self n 10)
    · rw [← hd]
      have e40 : 40 - i = (40 - (i + 1)) + 1 := by omega
      rw [e40]
      conv => rhs; unfold mtD
      rw [if_neg (by omega)]
  · have h0 : n = 0 := by omega
    subst h0
    have ha : acc = mtD 40 k.toNat [] := by
      rw [← hd]
      have e40 : 40 - i = (39 - i) + 1 := by omega
      rw [e40]; simp [mtD]
    have hm1 : 1 + acc.length ≤ mx := by unfold mx; omega
    exact ⟨hm1, fin_plain ⟨by rw [hm, ← ha], rfl⟩⟩
end A
end Go.Proofs.YtfcimcoanlgldaaDoor

/-
  Pairs and requests kept as0 objects: printed by a program (wip/tools/genobj.py). No condition.
-/



namespace Go.Proofs.YtfcimcoanlgldaaDoor
namespace A
set_option linter.unusedVariables false
set_option linter.unusedSimpArgs false
set_option maxRecDepth 100000

theorem call_mid2 {P : Program} {K : AV → List AObj → Nat → Prop} {f : Nat} {l l' : List AV} {a : AObj} {A A2 B C : List AObj} {c : Nat} {Q : AV → List AObj → Nat → Prop} (hf : Con P f l' B c Q) (hv : Views [] l l')
    (k : ∀ r B' c', c ≤ c' → Q r B' c' → tags B' = tags B ∧ Av [] r ∧ (∀ o, o ∈ B' → AvRows [] o) ∧ K r (a :: (A ++ (A2 ++ (B' ++ C)))) c') : CallW P f l (a :: (A ++ (A2 ++ (B ++ C)))) c K := by
  have e : ∀ X : List AObj, a :: (A ++ (A2 ++ (X ++ C))) = a :: ((A ++ A2) ++ (X ++ C)) := fun X => by simp
  rw [e]
  exact call_midr hf hv fun r B' c' hc hq => by rw [← e]; exact k r B' c' hc hq
theorem call_mid3 {P : Program} {K : AV → List AObj → Nat → Prop} {f : Nat} {l l' : List AV} {a : AObj} {A A2 A3 B C : List AObj} {c : Nat} {Q : AV → List AObj → Nat → Prop} (hf : Con P f l' B c Q) (hv : Views [] l l')
    (k : ∀ r B' c', c ≤ c' → Q r B' c' → tags B' = tags B ∧ Av [] r ∧ (∀ o, o ∈ B' → AvRows [] o) ∧ K r (a :: (A ++ (A2 ++ (A3 ++ (B' ++ C))))) c') : CallW P f l (a :: (A ++ (A2 ++ (A3 ++ (B ++ C))))) c K := by
  have e : ∀ X : List AObj, a :: (A ++ (A2 ++ (A3 ++ (X ++ C)))) = a :: ((A ++ (A2 ++ A3)) ++ (X ++ C)) := fun X => by simp
  rw [e]
  exact call_midr hf hv fun r B' c' hc hq => by rw [← e]; exact k r B' c' hc hq
theorem call_mid4 {P : Program} {K : AV → List AObj → Nat → Prop} {f : Nat} {l l' : List AV} {a : AObj} {A A2 A3 A4 B C : List AObj} {c : Nat} {Q : AV → List AObj → Nat → Prop} (hf : Con P f l' B c Q) (hv : Views [] l l')
    (k : ∀ r B' c', c ≤ c' → Q r B' c' → tags B' = tags B ∧ Av [] r ∧ (∀ o, o ∈ B' → AvRows [] o) ∧ K r (a :: (A ++ (A2 ++ (A3 ++ (A4 ++ (B' ++ C)))))) c') : CallW P f l (a :: (A ++ (A2 ++ (A3 ++ (A4 ++ (B ++ C)))))) c K := by
  have e : ∀ X : List AObj, a :: (A ++ (A2 ++ (A3 ++ (A4 ++ (X ++ C))))) = a :: ((A ++ (A2 ++ (A3 ++ A4))) ++ (X ++ C)) := fun X => by simp
  rw [e]
  exact call_midr hf hv fun r B' c' hc hq => by rw [← e]; exact k r B' c' hc hq
theorem TPair.flat : Flat TPair.enc := fun x a ha => by
  simp [TPair.enc] at ha
  rcases ha with rfl | rfl <;> exact ⟨rfl, fun T => by constructor⟩
theorem toPairSO {s : SL TPair} (h : szPairS s ≤ 1048576) (c : Nat) : Con Tryd.prog 70 [s.av 2 TPair.enc] [] c fun r H' _ => ∃ b : SL TPair, r = b.ref 2 ∧ H' = b.wood 2 TPair.enc noInn ∧ b.list.map TPair.con = s.list.map TPair.con := by
  unfold szPairS at h
  exact toSO_fn (g := 124) (z := [.str [], .str []]) (bytes := 32) c70 rfl (fun _ => rfl) (fun _ => rfl) (fun x a ha => (TPair.flat x a ha).2) (fun x o ho => by cases ho) (by omega) (by omega)
    (fun x hx c => (TPair.to_fn (by have := szL_mem (sz := TPair.sz) hx; omega) c).mono fun r H' c' _ ⟨hH, ⟨b, hr, hb⟩, _⟩ => ⟨b, hr, hH, hb⟩) c
def mkPair (k : Int) (x : TPair) : TPair := ⟨mtext k, mtext (k + 1)⟩
def cPair (x : TPair) : Nat := 2
theorem markPair_nil (k : Int) : Fnc Tryd.prog 15 [.nsl, .int .i64 k] (.int .i64 k) := by
  refine fn_of c15 (by simp [F15]) fun c => ?_
  unfold F15
  simp
  refine loop_drop 0 (fun i e H c' => e 0 = .nsl ∧ e 1 = .int .i64 k ∧ e 5 = .int .i64 0 ∧ H = []) ⟨rfl, rfl, rfl, rfl⟩ ?_
  intro i e H c hi ⟨e0, e1, e5, hH⟩ N hN
  subst hH
  simp [e0, e1, e5]
  exact fin_plain ⟨rfl, rfl⟩
theorem szL_cPair (l : List TPair) : l.length ≤ szL cPair l := by
  induction l with
  | nil => simp
  | cons x l ih => simp [szL, cPair] at ih ⊢; omega
theorem szL_ePair (l : List TPair) : szL cPair l = 2 * l.length := by
  show szL (fun _ => 2) l = _
  rw [szL_const]
theorem markPair_con1 {l : List TPair} (hz : szL cPair l ≤ 16777216) {k : Int} (hk : 0 ≤ k ∧ k ≤ 1099511627776) (t c : Nat) :
    Con Tryd.prog 15 [.ref 0 t 2 l.length, .int .i64 k] ([⟨false, t, 2, l.map TPair.enc⟩]) c fun r H' _ => r = .int .i64 (k + szL cPair l) ∧ H' = [⟨false, t, 2, (mks mkPair cPair k l).map TPair.enc⟩] := by
  have hln := szL_cPair l
  refine con_of c15 (by simp [F15]) ?_
  unfold F15
  simp
  refine loop_drop l.length (fun i e H c' => e 0 = .ref 0 t 2 l.length ∧ e 1 = .int .i64 (k + szL cPair (l.take i)) ∧ e 5 = .int .i64 i ∧ H = [⟨false, t, 2, (mixed mkPair cPair k l i).map TPair.enc⟩]) ⟨rfl, by simp [szL], rfl, by rw [mixed_zero]⟩ ?_
  intro i e H c hi ⟨e0, e1, e5, hH⟩ N hN
  subst hH
  have hs := mixed_set mkPair cPair k l (i := i)
  have hst := fun h : i < l.length => szL_step cPair l h
  have hle := szL_le cPair l i
  have hle1 := szL_le cPair l (i + 1)
  generalize hjj : k + (szL cPair (l.take i) : Int) = j at e1 hs
  simp [e0, e1, e5]
  refine ⟨fun h => ?_, fun h => ?_⟩
  · have hs := hs h
    have hst := hst h
    have hg := mixed_get mkPair cPair k l h
    have hx := szL_mem (sz := cPair) (List.getElem_mem h)
    generalize l[i] = x at hs hst hg hx
    simp only [cPair] at hx hst
    have w0 : IntKind.i64.wrap (j + 1) = j + 1 := wrap64 (by omega) (by omega)
    have w1 : IntKind.i64.wrap (j + 1 + 1) = j + 1 + 1 := wrap64 (by omega) (by omega)
    refine call_fn0 (mtext_fn (by omega)) .str fun _ _ => ?_
    simp [e0, e1, e5, h]
    refine ⟨_, hg, ?_⟩
    simp [e0, e1, e5, h, mixed_len, w0, w1, putA, TPair.enc]
    refine call_fn0 (mtext_fn (by omega)) .str fun _ _ => ?_
    simp [e0, e1, e5, h, mixed_len, w0, w1, putA, TPair.enc]
    refine hN _ _ _ _ h (List.Sublist.refl _) ⟨by simp [upd, e0], ?_, by simp [upd]; exact step64 (by unfold mx; omega) h, ?_⟩
    · simp [upd, w0, w1, hst]; omega
    · rw [← hs, List.map_set]
      simp [mkPair, TPair.enc, w0, w1]
  · have h1 : i = l.length := by omega
    subst h1
    refine fin_all ⟨?_, ?_⟩
    · rw [← hjj]; simp
    · rw [mixed_all]
theorem markPair_con {s : SL TPair} (hz : szL cPair s.list ≤ 16777216) {k : Int} (hk : 0 ≤ k ∧ k ≤ 1099511627776) (c : Nat) :
    Con Tryd.prog 15 [s.ref 2, .int .i64 k] (s.wood 2 TPair.enc noInn) c fun r H' _ => r = .int .i64 (k + szL cPair s.list) ∧ H' = (s.marks mkPair cPair k).wood 2 TPair.enc noInn := by
  cases s with
  | nil =>
    have := markPair_nil k c
    simpa [SL.ref, SL.wood, SL.marks, szL] using this
  | mk t l =>
    have := markPair_con1 (l := l) hz hk t c
    simpa [SL.ref, SL.wood, SL.marks, wood_flat] using this
def TRequest.encO (s : TRequest) : List AV := [.str s.Path, s.Query.ref 2, s.Cookies.ref 2]
def TRequest.inn (s : TRequest) : List AObj := s.Query.wood 2 TPair.enc noInn ++ (s.Cookies.wood 2 TPair.enc noInn)
@[simp] theorem TRequest.lenO (s : TRequest) : s.encO.length = 3 := (rfl)
@[simp] theorem TRequest.allO (s : TRequest) : s.encO.take 3 = s.encO := (rfl)
@[simp] theorem TRequest.o0 (s : TRequest) (K : AV → Prop) : getW s.encO 0 K = K (.str s.Path) := by simp [TRequest.encO]
@[simp] theorem TRequest.o1 (s : TRequest) (K : AV → Prop) : getW s.encO 1 K = K (s.Query.ref 2) := by simp [TRequest.encO]
@[simp] theorem TRequest.o2 (s : TRequest) (K : AV → Prop) : getW s.encO 2 K = K (s.Cookies.ref 2) := by simp [TRequest.encO]
theorem TRequest.freeO : ∀ (x : TRequest) a, a ∈ x.encO → Free a := fun x a ha => by
  simp [TRequest.encO] at ha
  rcases ha with rfl | rfl | rfl
  · exact free_str _
  · exact free_ref _ _
  · exact free_ref _ _
theorem TRequest.freeI : ∀ (x : TRequest) o, o ∈ x.inn → ∀ T, AvRows T o := fun x o ho => by
  simp only [TRequest.inn, List.mem_append] at ho
  rcases ho with ho | ho
  · exact flat_free TPair.flat _ _ o ho
  · exact flat_free TPair.flat _ _ o ho
theorem TRequest.viewO {S : List AObj} (x : TRequest) (h : ∀ o, o ∈ x.inn → o ∈ S) : ∀ (j : Nat) (a a' : AV), x.encO[j]? = some a → x.enc[j]? = some a' → View S a a' := fun j a a' h1 h2 => by
  match j, h1, h2 with
  | 0, h1, h2 => simp [TRequest.encO] at h1; simp [TRequest.enc] at h2; subst h1; subst h2; exact .refl _
  | 1, h1, h2 => simp [TRequest.encO] at h1; simp [TRequest.enc] at h2; subst h1; subst h2; exact view_flat (fun o ho => h o (by simp [TRequest.inn, ho])) TPair.flat.cells
  | 2, h1, h2 => simp [TRequest.encO] at h1; simp [TRequest.enc] at h2; subst h1; subst h2; exact view_flat (fun o ho => h o (by simp [TRequest.inn, ho])) TPair.flat.cells
  | j + 3, h1, h2 => simp [TRequest.encO] at h1
theorem view_ORequest {S : List AObj} {s : SL TRequest} (hs : ∀ o, o ∈ s.wood 3 TRequest.encO TRequest.inn → o ∈ S) : View S (s.ref 3) (s.av 3 TRequest.enc) :=
  view_wood hs (fun x => TRequest.cells x) (fun _ => rfl) fun x h => TRequest.viewO x h
theorem view_ARequest {S : List AObj} {s : TRequest} (hs : ∀ o, o ∈ s.inn → o ∈ S) : View S (.agg s.encO) (.agg s.enc) :=
  .agg rfl (fun j a ha => TRequest.cells s a (List.mem_of_getElem? ha)) (TRequest.viewO s hs)
theorem toRequestO {x : TRequest} (h : x.sz ≤ 1048576) (c : Nat) : Con Tryd.prog 31 [.agg x.enc] [] c fun r O _ => ∃ b : TRequest, r = .agg b.encO ∧ O = b.inn ∧ b.con = x.con := by
  simp only [TRequest.sz] at h
  refine con_of c31 (by simp [F31]) ?_
  unfold F31
  simp [putA]
  refine call_new (toPairSO (by omega) _) (Views.refl _ _) fun r1 O1 c1 hc1 ⟨b1, hr, hO, q1⟩ _ _ => ?_
  subst hr; subst hO
  refine ⟨_, .refl _, free_ref _ _ _, fun o ho => flat_free TPair.flat _ _ o ho _, ?_⟩
  simp [putA]
  refine call_new (toPairSO (by omega) _) (Views.refl _ _) fun r2 O2 c2 hc2 ⟨b2, hr, hO, q2⟩ _ _ => ?_
  subst hr; subst hO
  refine ⟨_, .refl _, free_ref _ _ _, fun o ho => flat_free TPair.flat _ _ o ho _, ?_⟩
  simp [putA]
  refine fin_sub (Hk := b1.wood 2 TPair.enc noInn ++ (b2.wood 2 TPair.enc noInn)) ?_ (.refl _) ⟨⟨x.Path, b1, b2⟩, rfl, by simp [TRequest.inn], by simp [TRequest.con, SL.con, SL.pcon, q1, q2]⟩
  exact ((List.Sublist.refl _).cons _).cons _ |>.cons _
end A
end Go.Proofs.YtfcimcoanlgldaaDoor

/-
  What reads the marks on pairs: printed by a program (wip/tools/genobj.py). No condition.
-/

namespace Go.Proofs.YtfcimcoanlgldaaDoor
namespace A
set_option linter.unusedVariables false
set_option linter.unusedSimpArgs false
set_option maxRecDepth 100000

theorem heldPair_nil (k : Int) : Fnc Tryd.prog 16 [.nsl, .int .i64 k] (.int .i64 k) := by
  refine fn_of c16 (by simp [F16]) fun c => ?_
  unfold F16
  simp
  refine loop_drop 0 (fun i e H c' => e 0 = .nsl ∧ e 1 = .int .i64 k ∧ e 5 = .int .i64 0 ∧ H = []) ⟨rfl, rfl, rfl, rfl⟩ ?_
  intro i e H c hi ⟨e0, e1, e5, hH⟩ N hN
  subst hH
  simp [e0, e1, e5]
  exact fin_plain ⟨rfl, rfl⟩
set_option maxHeartbeats 4000000 in
theorem heldPair_fn1 {l : List TPair} (hz : szL cPair l ≤ 16777216) {k : Int} (hk : 0 ≤ k ∧ k ≤ 1099511627776) (t : Nat) :
    Fnc Tryd.prog 16 [(SL.mk t (mks mkPair cPair k l)).av 2 TPair.enc, .int .i64 k] (.int .i64 (k + szL cPair l)) := by
  have hln := szL_cPair l
  refine fn_of c16 (by simp [F16]) fun c => ?_
  unfold F16
  simp
  have hlen := mks_len mkPair cPair k l
  refine loop_drop l.length (fun i e H c' => e 0 = (SL.mk t (mks mkPair cPair k l)).av 2 TPair.enc ∧ e 1 = .int .i64 (k + szL cPair (l.take i)) ∧ e 5 = .int .i64 i ∧ H = []) ⟨rfl, by simp [szL], rfl, rfl⟩ ?_
  intro i e H c hi ⟨e0, e1, e5, hH⟩ N hN
  subst hH
  have hg := fun h : i < l.length => mks_get mkPair cPair k l h
  have hst := fun h : i < l.length => szL_step cPair l h
  have hle := szL_le cPair l i
  have hle' := szL_le cPair l (i + 1)
  generalize hjj : k + (szL cPair (l.take i) : Int) = j at e1 hg
  simp [e0, e1, e5, hlen]
  refine ⟨fun h => ?_, fun h => ?_⟩
  · have hg := hg h
    have hst := hst h
    have hx := szL_mem (sz := cPair) (List.getElem_mem h)
    generalize l[i] = x at hg hst hx
    simp only [cPair] at hx hst
    have w0 : IntKind.i64.wrap (j + 1) = j + 1 := wrap64 (by omega) (by omega)
    have f0 : (mkPair j x).Name = mtext (j) := rfl
    have w1 : IntKind.i64.wrap (j + 1 + 1) = j + 1 + 1 := wrap64 (by omega) (by omega)
    have f1 : (mkPair j x).Value = mtext (j + 1) := rfl
    refine ⟨_, hg, ?_⟩
    simp [e0, e1, e5, h, w0, w1, f0, f1]
    refine callF_fn0 (mtext_fn (by omega)) .str fun _ _ => ?_
    simp [e0, e1, e5, h, w0, w1, f0, f1]
    refine ⟨_, hg, ?_⟩
    simp [e0, e1, e5, h, w0, w1, f0, f1]
    refine callF_fn0 (mtext_fn (by omega)) .str fun _ _ => ?_
    simp [e0, e1, e5, h, w0, w1, f0, f1]
    refine hN _ _ _ _ h (List.Sublist.refl _) ⟨by simp [upd, e0], ?_, by simp [upd]; exact step64 (by unfold mx; omega) h, rfl⟩
    simp [upd, w0, w1, hst]; omega
  · have h1 : i = l.length := by omega
    subst h1
    refine fin_plain ⟨?_, rfl⟩
    rw [← hjj]; simp
theorem heldPair_fn {s : SL TPair} (hz : szL cPair s.list ≤ 16777216) {k : Int} (hk : 0 ≤ k ∧ k ≤ 1099511627776) :
    Fnc Tryd.prog 16 [(s.marks mkPair cPair k).av 2 TPair.enc, .int .i64 k] (.int .i64 (k + szL cPair s.list)) := by
  cases s with
  | nil =>
    have := heldPair_nil k
    simpa [SL.av, SL.marks, szL] using this
  | mk t l => exact heldPair_fn1 (l := l) hz hk t
end A
end Go.Proofs.YtfcimcoanlgldaaDoor

/-
  ParseQuery and ParseCookies: the laws answer true. No condition.
-/


namespace Go.Proofs.YtfcimcoanlgldaaDoor
namespace A
set_option linter.unusedVariables false
set_option linter.unusedSimpArgs false
set_option maxRecDepth 100000

def PrsQ (sep l : List UInt8) (r : AV) (O : List AObj) : Prop := ∃ b : SL TPair, r = .tup [b.ref 2, .bool (parseP sep l).isSome] ∧ O = b.wood 2 TPair.enc noInn ∧ b.list = (parseP sep l).getD []
theorem prs_list {sep l : List UInt8} : ((parseP sep l).getD []).length ≤ 12 ∧ szL TPair.sz ((parseP sep l).getD []) ≤ 1440 := by
  cases h : parseP sep l with
  | none => simp [szL]
  | some o => have := okP_sz (parseP_ok h); simp; omega
theorem prs_tr {f : Nat} {l sep : List UInt8} (h : ∀ c, Con Tryd.prog f [.str l] [] c fun r O _ => PrsQ sep l r O) :
    Tr Tryd.prog f [.str l] fun _ r => ∃ b : SL TPair, r = .tup [b.av 2 TPair.enc, .bool (parseP sep l).isSome] ∧ b.list = (parseP sep l).getD [] := by
  have := flat_tr2 (P := Tryd.prog) (w := 2) (f := f) (args := [.str l]) (Q := fun b x => x = [.bool (parseP sep l).isSome] ∧ b.list = (parseP sep l).getD []) TPair.flat'
    (fun b x hq a ha => by rw [hq.1] at ha; simp at ha; subst ha; exact free_bool _) fun c => (h c).mono fun r O c' _ ⟨b, h1, h2, h3⟩ => ⟨b, _, h1, h2, rfl, h3⟩
  intro c
  refine (this c).mono fun r O c' _ ⟨h1, ⟨b, x, h2, h3, h4⟩, h5⟩ => ⟨h1, ⟨b, by rw [h2, h3], h4⟩, h5⟩
theorem spec_Query {l : List UInt8} (hl : l.length ≤ 1048576) (c : Nat) : Con Tryd.prog 17 [.str l] [] c fun r O _ => PrsQ [38] l r O := by
  refine con_of c17 (by simp [F17]) ?_
  unfold F17
  simp
  refine call_con (specParse_con hl (by simp) (by simp) _) fun r O c' hc ⟨b, e1, e2, e3⟩ _ _ => ?_
  subst e1; subst e2
  refine ⟨free_tup (by simp [free_bool, free_ref]) _, fun o ho => flat_free TPair.flat' _ _ o ho _, ?_⟩
  simp
  exact fin_all ⟨b, rfl, rfl, e3⟩
theorem impl_Query {l : List UInt8} (hl : l.length ≤ 1048576) (c : Nat) : Con Tryd.prog 18 [.str l] [] c fun r O _ => PrsQ [38] l r O := by
  refine con_of c18 (by simp [F18]) ?_
  unfold F18
  simp
  refine call_con (implParse_con hl (by simp) _) fun r O c' hc ⟨b, e1, e2, e3⟩ _ _ => ?_
  subst e1; subst e2
  refine ⟨free_tup (by simp [free_bool, free_ref]) _, fun o ho => flat_free TPair.flat' _ _ o ho _, ?_⟩
  simp
  exact fin_all ⟨b, rfl, rfl, e3⟩
theorem spec_Cookies {l : List UInt8} (hl : l.length ≤ 1048576) (c : Nat) : Con Tryd.prog 12 [.str l] [] c fun r O _ => PrsQ [59, 32] l r O := by
  refine con_of c12 (by simp [F12]) ?_
  unfold F12
  simp
  refine call_con (specParse_con hl (by simp) (by simp) _) fun r O c' hc ⟨b, e1, e2, e3⟩ _ _ => ?_
  subst e1; subst e2
  refine ⟨free_tup (by simp [free_bool, free_ref]) _, fun o ho => flat_free TPair.flat' _ _ o ho _, ?_⟩
  simp
  exact fin_all ⟨b, rfl, rfl, e3⟩
theorem impl_Cookies {l : List UInt8} (hl : l.length ≤ 1048576) (c : Nat) : Con Tryd.prog 13 [.str l] [] c fun r O _ => PrsQ [59, 32] l r O := by
  refine con_of c13 (by simp [F13]) ?_
  unfold F13
  simp
  refine call_con (implParse_con hl (by simp) _) fun r O c' hc ⟨b, e1, e2, e3⟩ _ _ => ?_
  subst e1; subst e2
  refine ⟨free_tup (by simp [free_bool, free_ref]) _, fun o ho => flat_free TPair.flat' _ _ o ho _, ?_⟩
  simp
  exact fin_all ⟨b, rfl, rfl, e3⟩

theorem law_parseQuery {l : List UInt8} (hmx : l.length ≤ mx) (c : Nat) : Con Tryd.prog 4 [.str l] [] c fun r H' _ => r = .bool true ∧ H' = [] := by
  refine con_of c4 (by simp [F4]) ?_
  unfold F4
  simp
  refine ⟨fun _ => fin_plain ⟨rfl, rfl⟩, fun h => ?_⟩
  have hl : l.length ≤ 1048576 := by omega
  obtain ⟨p1, p2⟩ := prs_list (sep := [38]) (l := l)
  refine call_tree0 (prs_tr fun c => spec_Query hl c) fun r1 _ _ ⟨w, e1, q1⟩ _ => ?_
  subst e1
  simp
  refine call_new (impl_Query hl _) (Views.refl _ _) fun r2 O c3 hc3 ⟨g, e2, hO, q2⟩ _ _ => ?_
  subst e2; subst hO
  refine ⟨_, .refl _, free_tup (by simp [free_bool, free_ref]) _, fun o ho => flat_free TPair.flat' _ _ o ho _, ?_⟩
  simp
  have hsz : ∀ b : SL TPair, b.list = (parseP [38] l).getD [] → szPairS b ≤ 1099511627776 := fun b hb => by unfold szPairS; rw [hb]; omega
  have hg : szL cPair g.list ≤ 16777216 := by rw [szL_ePair, q2]; omega
  have hk : ¬ ((1 : Int) + (szL cPair g.list : Int) < 0) := by omega
  refine call_fn (eqPairS_fn (s := g) (t := w) (hsz _ q2) (by rw [q2, q1])) (.cons (view_flat (fun _ h => h) TPair.flat'.cells) (.cons (.refl _) .nil)) .bool fun _ _ => ?_
  simp
  refine call_con (markPair_con hg ⟨by omega, by omega⟩ _) fun r H' c' _ ⟨e1, e2⟩ _ _ => ?_
  subst e1; subst e2
  refine ⟨.int, fun o ho => flat_free TPair.flat' _ _ o ho _, ?_⟩
  simp
  refine call_fn (heldPair_fn hg ⟨by omega, by omega⟩) (.cons (view_marks (fun _ h => h) TPair.flat'.cells) (.cons (.refl _) .nil)) .int fun _ _ => ?_
  simp [hk]
  refine call_tree0 (prs_tr fun c => impl_Query hl c) fun r3 _ _ ⟨y, e3, q3⟩ _ => ?_
  subst e3
  simp
  refine call_fn0 (eqPairS_fn (s := y) (t := w) (hsz _ q3) (by rw [q3, q1])) .bool fun _ _ => ?_
  simp
  refine call_fn (heldPair_fn hg ⟨by omega, by omega⟩) (.cons (view_marks (fun _ h => h) TPair.flat'.cells) (.cons (.refl _) .nil)) .int fun _ _ => ?_
  simp [hk]
  exact fin_plain ⟨rfl, rfl⟩

theorem law_parseCookies {l : List UInt8} (hmx : l.length ≤ mx) (c : Nat) : Con Tryd.prog 3 [.str l] [] c fun r H' _ => r = .bool true ∧ H' = [] := by
  refine con_of c3 (by simp [F3]) ?_
  unfold F3
  simp
  refine ⟨fun _ => fin_plain ⟨rfl, rfl⟩, fun h => ?_⟩
  have hl : l.length ≤ 1048576 := by omega
  obtain ⟨p1, p2⟩ := prs_list (sep := [59, 32]) (l := l)
  refine call_tree0 (prs_tr fun c => spec_Cookies hl c) fun r1 _ _ ⟨w, e1, q1⟩ _ => ?_
  subst e1
  simp
  refine call_new (impl_Cookies hl _) (Views.refl _ _) fun r2 O c3 hc3 ⟨g, e2, hO, q2⟩ _ _ => ?_
  subst e2; subst hO
  refine ⟨_, .refl _, free_tup (by simp [free_bool, free_ref]) _, fun o ho => flat_free TPair.flat' _ _ o ho _, ?_⟩
  simp
  have hsz : ∀ b : SL TPair, b.list = (parseP [59, 32] l).getD [] → szPairS b ≤ 1099511627776 := fun b hb => by unfold szPairS; rw [hb]; omega
  have hg : szL cPair g.list ≤ 16777216 := by rw [szL_ePair, q2]; omega
  have hk : ¬ ((1 : Int) + (szL cPair g.list : Int) < 0) := by omega
  refine call_fn (eqPairS_fn (s := g) (t := w) (hsz _ q2) (by rw [q2, q1])) (.cons (view_flat (fun _ h => h) TPair.flat'.cells) (.cons (.refl _) .nil)) .bool fun _ _ => ?_
  simp
  refine call_con (markPair_con hg ⟨by omega, by omega⟩ _) fun r H' c' _ ⟨e1, e2⟩ _ _ => ?_
  subst e1; subst e2
  refine ⟨.int, fun o ho => flat_free TPair.flat' _ _ o ho _, ?_⟩
  simp
  refine call_fn (heldPair_fn hg ⟨by omega, by omega⟩) (.cons (view_marks (fun _ h => h) TPair.flat'.cells) (.cons (.refl _) .nil)) .int fun _ _ => ?_
  simp [hk]
  refine call_tree0 (prs_tr fun c => impl_Cookies hl c) fun r3 _ _ ⟨y, e3, q3⟩ _ => ?_
  subst e3
  simp
  refine call_fn0 (eqPairS_fn (s := y) (t := w) (hsz _ q3) (by rw [q3, q1])) .bool fun _ _ => ?_
  simp
  refine call_fn (heldPair_fn hg ⟨by omega, by omega⟩) (.cons (view_marks (fun _ h => h) TPair.flat'.cells) (.cons (.refl _) .nil)) .int fun _ _ => ?_
  simp [hk]
  exact fin_plain ⟨rfl, rfl⟩
end A
end Go.Proofs.YtfcimcoanlgldaaDoor

/-
  The wrap of a row that lists package variables, the world's shape kept. No condition.
-/


namespace Go.Proofs.YtfcimcoanlgldaaDoor
namespace A
open Go.RowKit
set_option linter.unusedVariables false
section
variable {H : Type} {enc : TypeId × Value → H}
theorem returns_shaped {a : Assume} {C : Checked} {os : Os} {f : FuncId} {fn : Func} {s : ChangeSpec} {conds : List PathCond} {apart fresh handsOn again : Bool} {X : World → Array Value → Prop}
    (hX : ∀ (w w' : World) (args : Array Value), w.heap = w'.heap → X w args → X w' args)
    (own : ownKnob C.prog.godebug = none) (started : os.Started) (noInit : C.prog.inits.idxOf? f = none) (hfn : C.prog.funcs[f]? = some fn)
    (witness : ∃ (w : World) (tape : Tape) (i : Input), w.os = os ∧ (w.forCall tape i).Shaped C.prog ∧ i.vars = [] ∧ Input.okWide C.prog (w.forCall tape i) .any w.heap.size f i ∧
      ((s.pre enc C.prog fn conds apart (w.forCall tape i).memory i.args ∧ X (w.forCall tape i).memory i.args) ∧ sizedMet enc C.prog fn (OpenSpec.ofChange s) apart (w.forCall tape i).memory i.args) ∧ a.holds C.prog (lone (Frame.enter C.prog f i.args .normal) [] (w.forCall tape i)))
    (contract : ∀ (W : World) (base : Nat) (args : Array Value) (ds gs : List (DataW H)) (before : List MemPlace),
      (∀ (j : Nat) t v, fn.params[j]? = some t → args[j]? = some v → Value.okWide C.prog W .any base t v) →
      DataW.Whole enc C.prog fn.params.toList s.vars apart W args.toList ds gs before →
      conds.all (PathCond.test C.prog ⟨fn.params.toList, ds, s.plain.varTypes C.prog, gs⟩) = true → X W args → W.ShapedOpen C.prog →
      Calls C.prog f args W fun e W' => ∃ v, e = .returned v ∧ s.post enc C.prog fn apart fresh handsOn again W args v W') :
    ReturnsInHanded a C os f .any (fun w args => (s.pre enc C.prog fn conds apart w args ∧ X w args) ∧ sizedMet enc C.prog fn (OpenSpec.ofChange s) apart w args) (s.post enc C.prog fn apart fresh handsOn again) := by
  refine returnsInHanded_of_calls own started noInit witness ?_
  intro w tape i _ hsh _ hok hpre _
  obtain ⟨_, _, _, fn', hfn', _, _, _, _, hval⟩ := hok
  have e : fn' = fn := Option.some.inj (hfn'.symm.trans hfn)
  subst e
  obtain ⟨⟨⟨ds, gs, before, hw, hc⟩, hx⟩, _⟩ := hpre
  refine (contract (w.forCall tape i) w.heap.size i.args ds gs before hval (DataW.Whole.of_heap (w' := w.forCall tape i) (by rfl) hw) hc (hX _ _ _ (by rfl) hx) hsh).mono fun e W' ⟨v, he, hp⟩ => ?_
  subst he
  exact ChangeSpec.post_blind hp
end
theorem cell_block {w : World} {m : Int} (hm : w.cell? ⟨0, 0, none⟩ = some (.int .i64 m)) : 0 < w.heap.size ∧ ∃ c t fr, w.heap[0]? = some (.cells c t fr) ∧ c[0]? = some (Value.int .i64 m) := by
  rw [cell?_eq] at hm
  unfold hcell at hm
  split at hm
  · rename_i c t fr hc
    exact ⟨(Array.getElem?_eq_some_iff.1 hc).1, c, t, fr, hc, hm⟩
  · cases hm
end A
end Go.Proofs.YtfcimcoanlgldaaDoor

/-
  Facts of the whole program that every row of the seat asks, each worked out once. No condition.
-/


namespace Go.Proofs.YtfcimcoanlgldaaDoor.Closed
open Go.ChangeShapes Go.WideShapes Go.RowKit
theorem heard : Tryd.pinned.checked.prog.stopsHeard = true := by kernel_rfl
theorem enter : Tryd.pinned.checked.prog.mayEnter = true := by kernel_rfl
theorem make : Tryd.pinned.checked.prog.make = some Rows.fnExactFormatResponseRow.make := by kernel_rfl
theorem lifts : Tryd.pinned.checked.prog.liftsFinal = Rows.fnExactFormatResponseRow.lifted := by kernel_rfl
end Go.Proofs.YtfcimcoanlgldaaDoor.Closed

/-
  FnExactParseCookies: the program's and the reference's give the same, for all arguments. No condition.
-/














namespace Go.Proofs.YtfcimcoanlgldaaDoor.fnExactParseCookies
open Go.ChangeShapes Go.WideShapes Go.ChangeAt Go.RowKit
open Go.Proofs.YtfcimcoanlgldaaDoor.A
set_option linter.unusedVariables false

theorem own : ownKnob Tryd.prog.godebug = none := by kernel_rfl

def types : List TypeId := [9, 4]

set_option maxRecDepth 100000 in
theorem lifted (os : Os) (started : os.Started) (H : Type) (enc : TypeId × Value → H) :
    ReturnsInHanded {} Tryd.checked os 3 .any (fun w args => (Rows.fnExactParseCookiesSpec.pre enc Tryd.prog Tryd.f3 Rows.fnExactParseCookiesRow.domain false w args ∧ laidMetH Tryd.prog Rows.fnExactParseCookiesRow.laid w) ∧ sizedMet enc Tryd.prog Tryd.f3 (OpenSpec.ofChange Rows.fnExactParseCookiesSpec) false w args) (Rows.fnExactParseCookiesSpec.post enc Tryd.prog Tryd.f3 false true false false) := by
  refine A.returns_shaped (C := Tryd.checked) (X := fun w _ => laidMetH Tryd.prog Rows.fnExactParseCookiesRow.laid w) (fun _ _ _ hh h => h.of_heap hh) own started (by kernel_rfl) Tryd.func3
    (ChangeSpec.witness_shaped (enc := enc) (C := Tryd.checked) (os := os) (X := fun w _ => laidMetH Tryd.prog Rows.fnExactParseCookiesRow.laid w) false (World.laidAll Tryd.prog os Rows.fnExactParseCookiesRow.laid) #[.string ⟨#[]⟩] 8 (World.laidAll_os _ _ _)
      (World.shaped_of_ZipB (by kernel_rfl) (by kernel_rfl)) (by kernel_rfl) (by kernel_rfl) (by kernel_rfl)
      (by rw [MakeChecks.laidMetH_plain _ _ _ (by kernel_rfl)]; exact laidMet_laidAll _ (by kernel_rfl) (by kernel_rfl))) ?_
  intro W base args ds gs before hval0 hW hcnd hL hsh
  obtain ⟨m, hm⟩ := Tryd.laysM146.s1_3 W hsh
  have hg : ∀ b, b < NB → b < W.heap.size ∧ GL b W.heap[b]? := by
    obtain ⟨h0, c, t, fr, hc, hcm⟩ := cell_block hm
    intro b hb
    have hb0 : b = 0 := Nat.lt_one_iff.1 hb
    subst hb0
    exact ⟨h0, c, t, fr, m, hc, hcm⟩
  have hval : ∀ (j : Nat) t v, Tryd.f3.params[j]? = some t → args[j]? = some v → Value.okWide Tryd.prog W .any base t v := hval0
  refine law_post (rs := types) (bt := 4) (by kernel_rfl) (by kernel_rfl) (fun t ht => ?_) Tryd.underlying4 (by kernel_rfl) rfl (fun ds hds => ?_) hW hval (fun l has => ?_) hg
  · rw [Tryd.params3] at ht
    simp at ht
    first
      | (subst ht; exact ⟨by simp [types], by kernel_rfl, of_decide_eq_true (by kernel_rfl)⟩)
      | (rcases ht with rfl | rfl <;> exact ⟨by simp [types], by kernel_rfl, of_decide_eq_true (by kernel_rfl)⟩)
      | (rcases ht with rfl | rfl | rfl <;> exact ⟨by simp [types], by kernel_rfl, of_decide_eq_true (by kernel_rfl)⟩)
      | (rcases ht with rfl | rfl | rfl | rfl <;> exact ⟨by simp [types], by kernel_rfl, of_decide_eq_true (by kernel_rfl)⟩)
      | (rcases ht with rfl | rfl | rfl | rfl | rfl <;> exact ⟨by simp [types], by kernel_rfl, of_decide_eq_true (by kernel_rfl)⟩)
      | (rcases ht with rfl | rfl | rfl | rfl | rfl | rfl <;> exact ⟨by simp [types], by kernel_rfl, of_decide_eq_true (by kernel_rfl)⟩)
  · rw [← Array.length_toList, Tryd.params3] at hds
    match ds, hds with
    | [d0], _ => exact ⟨rfl, rfl, rfl⟩
  · rw [Tryd.params3] at has
    cases has with
    | cons h0 has =>
      cases has
      obtain ⟨n0, h0⟩ := h0
      rw [if_neg (by decide)] at h0
      obtain ⟨s0, rfl, k0⟩ := sh_str (t := 9) (by kernel_rfl) h0
      exact A.law_parseCookies k0 _

set_option maxHeartbeats 4000000 in
theorem facts : joinedFacts Tryd.pinned.checked.prog 3 Tryd.f3 Rows.fnExactParseCookiesSpec Rows.fnExactParseCookiesRow = true := by
  unfold joinedFacts
  rw [Closed.heard, Closed.enter, Closed.lifts, Closed.make]
  simp only [Bool.and_eq_true]
  iterate 6 (refine ⟨?_, by as_aux_lemma => kernel_rfl⟩)
  refine ⟨⟨?_, trivial⟩, trivial⟩
  iterate 23 (refine ⟨?_, by as_aux_lemma => kernel_rfl⟩)
  kernel_rfl
theorem named : Tryd.pinned.checked.prog.funcNamed Rows.fnExactParseCookiesRow.func = some 3 := by kernel_rfl
theorem inst : Tryd.f3.isInstance Tryd.pinned.checked.prog Rows.fnExactParseCookiesRow.origin Rows.fnExactParseCookiesRow.targs := of_decide_eq_true (by kernel_rfl)
theorem wrap : Tryd.f3.isWrapper Tryd.pinned.checked.prog Rows.fnExactParseCookiesRow.wrapper Rows.fnExactParseCookiesRow.mainSum := by
  unfold Func.isWrapper
  first
    | (rw [if_pos (by decide +kernel)]; kernel_rfl)
    | (rw [if_neg (by decide +kernel)]; exact ⟨rfl, rfl⟩)

theorem over : Rows.fnExactParseCookiesRow.holds Tryd.pinned (OpenSpec.ofChange Rows.fnExactParseCookiesSpec) :=
  OpenClaim.holds_of_wide 3 Tryd.f3 rfl rfl rfl rfl rfl rfl rfl ⟨rfl, rfl, rfl, rfl, rfl⟩ rfl rfl rfl rfl rfl named Tryd.func3 facts inst wrap
    (fun os started H enc _ => lifted os started H enc)

theorem row : Rows.FnExactParseCookiesSaid := over
/-- THE STATEMENT -/
theorem proved : Rows.FnExactParseCookiesCardSaid :=
  Claim7.holds_tied_plain_at .later [] [.data, .pinned] true Rows.fnExactParseCookiesCard.stood.harness true row (fun _ h => by cases h) (by kernel_rfl) (fun _ h => by cases h) fnExactParseCookies_row_tie rfl ⟨rfl, rfl⟩ (by kernel_rfl) rfl
    (fun f fn hf hfn => by
      obtain rfl : f = 3 := Option.some.inj (named.symm.trans hf) |>.symm
      obtain rfl : fn = Tryd.f3 := (Option.some.inj (Tryd.func3.symm.trans hfn)).symm
      exact ⟨by kernel_rfl, fun j t ht => by
        rw [Tryd.params3] at ht
        have hm : t ∈ [9] := by simpa using Array.mem_of_getElem? ht
        have hall : ([9].all fun u => !Tryd.prog.wantsStandIn u) = true := by kernel_rfl
        exact (show Tryd.prog.wantsStandIn t = false by simpa using List.all_eq_true.1 hall t hm)⟩)
    (by kernel_rfl)
#print axioms proved
end Go.Proofs.YtfcimcoanlgldaaDoor.fnExactParseCookies
