import Derived.Test.YtknpgemlpbclkaaGreatDoorB07

/-
  The types that the laws of this seat speak of, and the helpers over them: printed by a program (wip/tools/gen.py). No condition.
-/


namespace Go.Proofs.YtknpgemlpbclkaaGreatDoor
namespace A
set_option linter.unusedVariables false
set_option linter.unusedSimpArgs false
set_option maxRecDepth 100000

structure TFile where
  Path : List UInt8
  Source : List UInt8
  Version : Int
def TFile.enc (s : TFile) : List AV := [.str s.Path, .str s.Source, .int .i64 s.Version]
@[simp] theorem TFile.len (s : TFile) : s.enc.length = 3 := (rfl)
@[simp] theorem TFile.all (s : TFile) : s.enc.take 3 = s.enc := (rfl)
@[simp] theorem TFile.g0 (s : TFile) (K : AV → Prop) : getW s.enc 0 K = K (.str s.Path) := by simp [TFile.enc]
@[simp] theorem TFile.g1 (s : TFile) (K : AV → Prop) : getW s.enc 1 K = K (.str s.Source) := by simp [TFile.enc]
@[simp] theorem TFile.g2 (s : TFile) (K : AV → Prop) : getW s.enc 2 K = K (.int .i64 s.Version) := by simp [TFile.enc]
theorem TFile.cells (s : TFile) : ∀ a, a ∈ s.enc → a.cell = true := by simp [TFile.enc]
def TFile.sz (s : TFile) : Nat := s.Path.length + s.Source.length
def TFile.ok (s : TFile) : Prop := s.Path.length ≤ mx ∧ s.Source.length ≤ mx
def TFile.con (s : TFile) : TFile := s
theorem TFile.sz_con (s : TFile) : s.con.sz = s.sz := rfl
theorem TFile.sh : ∀ (n : Nat) (row : List AV), ShC Tryz.prog n 113 row → ∃ s : TFile, row = s.enc ∧ s.ok := by
  intro n row h
  obtain ⟨m, hl, hf⟩ := sh_fields (l := [(9, 0), (9, 1), (3, 2)]) (by kernel_rfl) h
  have hl' : row.length = 3 := hl.trans (by kernel_rfl)
  match row, hl' with
  | [x0, x1, x2], _ =>
    have h0 := hf (9, 0) (by simp)
    rw [show Tryz.prog.cellsOf 9 = 1 by kernel_rfl] at h0
    obtain ⟨v0, rfl, k0⟩ := sh_str (t := 9) (by kernel_rfl) (show ShC Tryz.prog m 9 [x0] from h0)
    have h1 := hf (9, 1) (by simp)
    rw [show Tryz.prog.cellsOf 9 = 1 by kernel_rfl] at h1
    obtain ⟨v1, rfl, k1⟩ := sh_str (t := 9) (by kernel_rfl) (show ShC Tryz.prog m 9 [x1] from h1)
    have h2 := hf (3, 2) (by simp)
    rw [show Tryz.prog.cellsOf 3 = 1 by kernel_rfl] at h2
    obtain ⟨v2, rfl, _⟩ := sh_int (k := .i64) (t := 3) (by kernel_rfl) (show ShC Tryz.prog m 3 [x2] from h2)
    exact ⟨⟨v0, v1, v2⟩, rfl, ⟨k0, k1⟩⟩
theorem TFile.sz_fn {s : TFile} (hs : s.ok) {left : Int} (hl : Room left) : Fnc Tryz.prog 83 [.agg s.enc, .int .i64 left] (.int .i64 (szOf s.sz left)) := by
  unfold TFile.ok at hs
  have hr := hl.2
  refine fn_of c83 (by simp [F83]) fun c => ?_
  unfold F83
  simp
  rw [szOf_wrap hs.1 hl]
  refine ⟨fun h => fin_plain ⟨by rw [szOf_neg (by simp only [TFile.sz]; omega)], rfl⟩, fun h => ?_⟩
  rw [szOf_wrap hs.2 ⟨by omega, by omega⟩]
  refine ⟨fun h => fin_plain ⟨by rw [szOf_neg (by simp only [TFile.sz]; omega)], rfl⟩, fun h => ?_⟩
  have hz : s.sz = s.Path.length + s.Source.length := rfl
  have e : szOf s.sz left = left - (s.Path.length : Int) - (s.Source.length : Int) := by
    unfold szOf
    rw [if_pos (by omega)]
    omega
  exact fin_plain ⟨by rw [e], rfl⟩
theorem TFile.to_fn {s : TFile} (h : s.sz ≤ 1048576) : Tr Tryz.prog 93 [.agg s.enc] fun _ r => ∃ b : TFile, r = .agg b.enc ∧ b.con = s.con := by
  simp only [TFile.sz] at h
  intro c
  refine con_of c93 (by simp [F93]) ?_
  unfold F93
  simp [putA]
  refine fin_plain ⟨rfl, ⟨⟨s.Path, s.Source, s.Version⟩, rfl, ?_⟩, from_agg ?_⟩
  · rfl
  · simp
theorem TFile.eq_fn {a b : TFile} (h : a.sz ≤ 1099511627776) (he : a.con = b.con) : Fnc Tryz.prog 101 [.agg a.enc, .agg b.enc] (.bool true) := by
  simp only [TFile.sz] at h
  have e0 : a.Path = b.Path := (congrArg TFile.Path he : a.con.Path = b.con.Path)
  have e1 : a.Source = b.Source := (congrArg TFile.Source he : a.con.Source = b.con.Source)
  have e2 : a.Version = b.Version := (congrArg TFile.Version he : a.con.Version = b.con.Version)
  refine fn_of c101 (by simp [F101]) fun c => ?_
  unfold F101
  simp [e0, e1, e2]
  exact fin_plain ⟨rfl, rfl⟩
def szFileS (s : SL TFile) : Nat := s.list.length + szL TFile.sz s.list
def okFileS (s : SL TFile) : Prop := s.list.length ≤ mx ∧ ∀ x, x ∈ s.list → TFile.ok x
theorem szFileS_con {s t : SL TFile} (h : s.list.map TFile.con = t.list.map TFile.con) : szFileS s = szFileS t := by
  unfold szFileS
  rw [← szL_map (con := TFile.con) TFile.sz_con s.list, ← szL_map (con := TFile.con) TFile.sz_con t.list, h]
  have := congrArg List.length h; simp at this; rw [this]
theorem shFileS {n : Nat} {a : AV} (h : ShC Tryz.prog n 22 [a]) : ∃ s : SL TFile, a = s.av 3 TFile.enc ∧ okFileS s := by
  obtain ⟨s, h1, h2, h3⟩ := sh_slc (P := Tryz.prog) (t := 22) (el := 113) (w := 3) (enc := TFile.enc) (ok := TFile.ok) (by kernel_rfl) (by kernel_rfl) (TFile.sh) h
  exact ⟨s, h1, h2, h3⟩
theorem szFileS_fn {s : SL TFile} (hs : okFileS s) {left : Int} (hl : Room left) : Fnc Tryz.prog 21 [s.av 3 TFile.enc, .int .i64 left] (.int .i64 (szOf (szFileS s) left)) :=
  szS_fn (g := 83) c21 (fun _ => rfl) hs.1 hl fun x hx left hl => TFile.sz_fn (hs.2 x hx) hl
theorem toFileS_fn {s : SL TFile} (h : szFileS s ≤ 1048576) : Tr Tryz.prog 34 [s.av 3 TFile.enc] fun _ r => ∃ b : SL TFile, r = b.av 3 TFile.enc ∧ b.list.map TFile.con = s.list.map TFile.con := by
  unfold szFileS at h
  exact toS_fn (g := 93) (z := [.str [], .str [], .int .i64 0]) (bytes := 40) c34 rfl (fun _ => rfl) (fun x => TFile.cells x) (by omega) (by omega) fun x hx => TFile.to_fn (by have := szL_mem (sz := TFile.sz) hx; omega)
theorem eqFileS_fn {s t : SL TFile} (h : szFileS s ≤ 1099511627776) (he : s.list.map TFile.con = t.list.map TFile.con) : Fnc Tryz.prog 48 [s.av 3 TFile.enc, t.av 3 TFile.enc] (.bool true) := by
  unfold szFileS at h
  exact eqS_fn (g := 101) (con := TFile.con) c48 (fun _ => rfl) (by unfold mx; omega) he fun x hx y hxy => TFile.eq_fn (by have := szL_mem (sz := TFile.sz) hx; omega) hxy
def szIntS (s : SL Int) : Nat := s.list.length
def okIntS (s : SL Int) : Prop := s.list.length ≤ mx ∧ ∀ x, x ∈ s.list → IOk .i64 x
theorem shIntS {n : Nat} {a : AV} (h : ShC Tryz.prog n 77 [a]) : ∃ s : SL Int, a = s.av 1 encI ∧ okIntS s := by
  obtain ⟨s, h1, h2, h3⟩ := sh_slc (P := Tryz.prog) (t := 77) (el := 3) (w := 1) (enc := encI) (ok := fun x => IOk .i64 x) (by kernel_rfl) (by kernel_rfl) (fun n row h => by obtain ⟨i, h1, h2⟩ := sh_int1 (k := .i64) (P := Tryz.prog) (t := 3) (by kernel_rfl) h; exact ⟨i, h1, h2⟩) h
  exact ⟨s, h1, h2, h3⟩
theorem szIntS_fn {s : SL Int} (hs : okIntS s) {left : Int} (hl : Room left) : Fnc Tryz.prog 132 [s.av 1 encI, .int .i64 left] (.int .i64 (szOf (szIntS s) left)) := szP_fn c132 hs.1 hl
theorem toIntS_fn {s : SL Int} (h : szIntS s ≤ 1048576) : Tr Tryz.prog 136 [s.av 1 encI] fun _ r => ∃ t, r = (SL.mk t s.list).av 1 encI := by
  unfold szIntS at h
  exact toP_fn (v := fun n => .int .i64 n) (z := .int .i64 0) (bytes := 8) c136 (fun _ => rfl) (fun _ _ => by simp) (fun _ _ => rfl) (by omega) (by omega)
theorem eqIntS_fn {s t : SL Int} (h : szIntS s ≤ 1099511627776) (he : s.list = t.list) : Fnc Tryz.prog 140 [s.av 1 encI, t.av 1 encI] (.bool true) := by
  unfold szIntS at h
  exact eqP_fn (v := fun n => .int .i64 n) c140 (fun x K => by simp) (by unfold mx; omega) he
structure TLine where
  Seq : Int
  Owner : Int
  Version : Int
  Words : SL Int
def TLine.enc (s : TLine) : List AV := [.int .i64 s.Seq, .int .i64 s.Owner, .int .i64 s.Version, s.Words.av 1 encI]
@[simp] theorem TLine.len (s : TLine) : s.enc.length = 4 := (rfl)
@[simp] theorem TLine.all (s : TLine) : s.enc.take 4 = s.enc := (rfl)
@[simp] theorem TLine.g0 (s : TLine) (K : AV → Prop) : getW s.enc 0 K = K (.int .i64 s.Seq) := by simp [TLine.enc]
@[simp] theorem TLine.g1 (s : TLine) (K : AV → Prop) : getW s.enc 1 K = K (.int .i64 s.Owner) := by simp [TLine.enc]
@[simp] theorem TLine.g2 (s : TLine) (K : AV → Prop) : getW s.enc 2 K = K (.int .i64 s.Version) := by simp [TLine.enc]
@[simp] theorem TLine.g3 (s : TLine) (K : AV → Prop) : getW s.enc 3 K = K (s.Words.av 1 encI) := by simp [TLine.enc]
theorem TLine.cells (s : TLine) : ∀ a, a ∈ s.enc → a.cell = true := by simp [TLine.enc]
def TLine.sz (s : TLine) : Nat := (szIntS s.Words)
def TLine.ok (s : TLine) : Prop := okIntS s.Words
def TLine.con (s : TLine) : TLine := { s with Words := s.Words.pcon }
theorem TLine.sz_con (s : TLine) : s.con.sz = s.sz := by
  simp [TLine.sz, TLine.con, szIntS]
theorem TLine.sh : ∀ (n : Nat) (row : List AV), ShC Tryz.prog n 115 row → ∃ s : TLine, row = s.enc ∧ s.ok := by
  intro n row h
  obtain ⟨m, hl, hf⟩ := sh_fields (l := [(3, 0), (3, 1), (3, 2), (77, 3)]) (by kernel_rfl) h
  have hl' : row.length = 4 := hl.trans (by kernel_rfl)
  match row, hl' with
  | [x0, x1, x2, x3], _ =>
    have h0 := hf (3, 0) (by simp)
    rw [show Tryz.prog.cellsOf 3 = 1 by kernel_rfl] at h0
    obtain ⟨v0, rfl, _⟩ := sh_int (k := .i64) (t := 3) (by kernel_rfl) (show ShC Tryz.prog m 3 [x0] from h0)
    have h1 := hf (3, 1) (by simp)
    rw [show Tryz.prog.cellsOf 3 = 1 by kernel_rfl] at h1
    obtain ⟨v1, rfl, _⟩ := sh_int (k := .i64) (t := 3) (by kernel_rfl) (show ShC Tryz.prog m 3 [x1] from h1)
    have h2 := hf (3, 2) (by simp)
    rw [show Tryz.prog.cellsOf 3 = 1 by kernel_rfl] at h2
    obtain ⟨v2, rfl, _⟩ := sh_int (k := .i64) (t := 3) (by kernel_rfl) (show ShC Tryz.prog m 3 [x2] from h2)
    have h3 := hf (77, 3) (by simp)
    rw [show Tryz.prog.cellsOf 77 = 1 by kernel_rfl] at h3
    obtain ⟨v3, rfl, k3⟩ := shIntS (show ShC Tryz.prog m 77 [x3] from h3)
    exact ⟨⟨v0, v1, v2, v3⟩, rfl, k3⟩
theorem TLine.sz_fn {s : TLine} (hs : s.ok) {left : Int} (hl : Room left) : Fnc Tryz.prog 84 [.agg s.enc, .int .i64 left] (.int .i64 (szOf s.sz left)) := by
  unfold TLine.ok at hs
  have hr := hl.2
  refine fn_of c84 (by simp [F84]) fun c => ?_
  unfold F84
  simp
  refine call_fn0 (szIntS_fn hs hl) .int fun _ _ => ?_
  simp
  refine ⟨fun h => fin_plain ⟨by have := szOf_lt h; rw [szOf_neg (by simp only [TLine.sz]; omega)], rfl⟩, fun h => ?_⟩
  obtain ⟨h0, k0⟩ := szOf_ge h
  rw [h0]
  have hz : s.sz = (szIntS s.Words) := rfl
  have e : szOf s.sz left = left - ((szIntS s.Words) : Int) := by
    unfold szOf
    rw [if_pos (by omega)]
    omega
  exact fin_plain ⟨by rw [e], rfl⟩
theorem TLine.to_fn {s : TLine} (h : s.sz ≤ 1048576) : Tr Tryz.prog 94 [.agg s.enc] fun _ r => ∃ b : TLine, r = .agg b.enc ∧ b.con = s.con := by
  simp only [TLine.sz] at h
  intro c
  refine con_of c94 (by simp [F94]) ?_
  unfold F94
  simp [putA]
  refine call_tree0 (toIntS_fn (by omega)) fun r3 c3 hc3 ⟨t3, e3⟩ f3 => ?_
  subst e3
  simp [putA]
  refine fin_plain ⟨rfl, ⟨⟨s.Seq, s.Owner, s.Version, .mk t3 s.Words.list⟩, rfl, ?_⟩, from_agg ?_⟩
  · simp [TLine.con, SL.con, SL.pcon]
  · simp
    exact f3.mono (by omega)
theorem TLine.eq_fn {a b : TLine} (h : a.sz ≤ 1099511627776) (he : a.con = b.con) : Fnc Tryz.prog 102 [.agg a.enc, .agg b.enc] (.bool true) := by
  simp only [TLine.sz] at h
  have e0 : a.Seq = b.Seq := (congrArg TLine.Seq he : a.con.Seq = b.con.Seq)
  have e1 : a.Owner = b.Owner := (congrArg TLine.Owner he : a.con.Owner = b.con.Owner)
  have e2 : a.Version = b.Version := (congrArg TLine.Version he : a.con.Version = b.con.Version)
  have e3 : a.Words.list = b.Words.list := congrArg (fun s => s.Words.list) he
  refine fn_of c102 (by simp [F102]) fun c => ?_
  unfold F102
  simp [e0, e1, e2]
  refine call_fn0 (eqIntS_fn (by omega) e3) .bool fun _ _ => ?_
  simp [e0, e1, e2]
  exact fin_plain ⟨rfl, rfl⟩
def szLineS (s : SL TLine) : Nat := s.list.length + szL TLine.sz s.list
def okLineS (s : SL TLine) : Prop := s.list.length ≤ mx ∧ ∀ x, x ∈ s.list → TLine.ok x
theorem szLineS_con {s t : SL TLine} (h : s.list.map TLine.con = t.list.map TLine.con) : szLineS s = szLineS t := by
  unfold szLineS
  rw [← szL_map (con := TLine.con) TLine.sz_con s.list, ← szL_map (con := TLine.con) TLine.sz_con t.list, h]
  have := congrArg List.length h; simp at this; rw [this]
theorem shLineS {n : Nat} {a : AV} (h : ShC Tryz.prog n 23 [a]) : ∃ s : SL TLine, a = s.av 4 TLine.enc ∧ okLineS s := by
  obtain ⟨s, h1, h2, h3⟩ := sh_slc (P := Tryz.prog) (t := 23) (el := 115) (w := 4) (enc := TLine.enc) (ok := TLine.ok) (by kernel_rfl) (by kernel_rfl) (TLine.sh) h
  exact ⟨s, h1, h2, h3⟩
theorem szLineS_fn {s : SL TLine} (hs : okLineS s) {left : Int} (hl : Room left) : Fnc Tryz.prog 22 [s.av 4 TLine.enc, .int .i64 left] (.int .i64 (szOf (szLineS s) left)) :=
  szS_fn (g := 84) c22 (fun _ => rfl) hs.1 hl fun x hx left hl => TLine.sz_fn (hs.2 x hx) hl
theorem toLineS_fn {s : SL TLine} (h : szLineS s ≤ 1048576) : Tr Tryz.prog 35 [s.av 4 TLine.enc] fun _ r => ∃ b : SL TLine, r = b.av 4 TLine.enc ∧ b.list.map TLine.con = s.list.map TLine.con := by
  unfold szLineS at h
  exact toS_fn (g := 94) (z := [.int .i64 0, .int .i64 0, .int .i64 0, .nsl]) (bytes := 48) c35 rfl (fun _ => rfl) (fun x => TLine.cells x) (by omega) (by omega) fun x hx => TLine.to_fn (by have := szL_mem (sz := TLine.sz) hx; omega)
theorem eqLineS_fn {s t : SL TLine} (h : szLineS s ≤ 1099511627776) (he : s.list.map TLine.con = t.list.map TLine.con) : Fnc Tryz.prog 49 [s.av 4 TLine.enc, t.av 4 TLine.enc] (.bool true) := by
  unfold szLineS at h
  exact eqS_fn (g := 102) (con := TLine.con) c49 (fun _ => rfl) (by unfold mx; omega) he fun x hx y hxy => TLine.eq_fn (by have := szL_mem (sz := TLine.sz) hx; omega) hxy
structure TSession where
  Id : List UInt8
  Data : List UInt8
  Holder : Int
  At : Int
def TSession.enc (s : TSession) : List AV := [.str s.Id, .str s.Data, .int .i64 s.Holder, .int .i64 s.At]
@[simp] theorem TSession.len (s : TSession) : s.enc.length = 4 := (rfl)
@[simp] theorem TSession.all (s : TSession) : s.enc.take 4 = s.enc := (rfl)
@[simp] theorem TSession.g0 (s : TSession) (K : AV → Prop) : getW s.enc 0 K = K (.str s.Id) := by simp [TSession.enc]
@[simp] theorem TSession.g1 (s : TSession) (K : AV → Prop) : getW s.enc 1 K = K (.str s.Data) := by simp [TSession.enc]
@[simp] theorem TSession.g2 (s : TSession) (K : AV → Prop) : getW s.enc 2 K = K (.int .i64 s.Holder) := by simp [TSession.enc]
@[simp] theorem TSession.g3 (s : TSession) (K : AV → Prop) : getW s.enc 3 K = K (.int .i64 s.At) := by simp [TSession.enc]
theorem TSession.cells (s : TSession) : ∀ a, a ∈ s.enc → a.cell = true := by simp [TSession.enc]
def TSession.sz (s : TSession) : Nat := s.Id.length + s.Data.length
def TSession.ok (s : TSession) : Prop := s.Id.length ≤ mx ∧ s.Data.length ≤ mx
def TSession.con (s : TSession) : TSession := s
theorem TSession.sz_con (s : TSession) : s.con.sz = s.sz := rfl
theorem TSession.sh : ∀ (n : Nat) (row : List AV), ShC Tryz.prog n 117 row → ∃ s : TSession, row = s.enc ∧ s.ok := by
  intro n row h
  obtain ⟨m, hl, hf⟩ := sh_fields (l := [(9, 0), (9, 1), (3, 2), (3, 3)]) (by kernel_rfl) h
  have hl' : row.length = 4 := hl.trans (by kernel_rfl)
  match row, hl' with
  | [x0, x1, x2, x3], _ =>
    have h0 := hf (9, 0) (by simp)
    rw [show Tryz.prog.cellsOf 9 = 1 by kernel_rfl] at h0
    obtain ⟨v0, rfl, k0⟩ := sh_str (t := 9) (by kernel_rfl) (show ShC Tryz.prog m 9 [x0] from h0)
    have h1 := hf (9, 1) (by simp)
    rw [show Tryz.prog.cellsOf 9 = 1 by kernel_rfl] at h1
    obtain ⟨v1, rfl, k1⟩ := sh_str (t := 9) (by kernel_rfl) (show ShC Tryz.prog m 9 [x1] from h1)
    have h2 := hf (3, 2) (by simp)
    rw [show Tryz.prog.cellsOf 3 = 1 by kernel_rfl] at h2
    obtain ⟨v2, rfl, _⟩ := sh_int (k := .i64) (t := 3) (by kernel_rfl) (show ShC Tryz.prog m 3 [x2] from h2)
    have h3 := hf (3, 3) (by simp)
    rw [show Tryz.prog.cellsOf 3 = 1 by kernel_rfl] at h3
    obtain ⟨v3, rfl, _⟩ := sh_int (k := .i64) (t := 3) (by kernel_rfl) (show ShC Tryz.prog m 3 [x3] from h3)
    exact ⟨⟨v0, v1, v2, v3⟩, rfl, ⟨k0, k1⟩⟩
theorem TSession.sz_fn {s : TSession} (hs : s.ok) {left : Int} (hl : Room left) : Fnc Tryz.prog 85 [.agg s.enc, .int .i64 left] (.int .i64 (szOf s.sz left)) := by
  unfold TSession.ok at hs
  have hr := hl.2
  refine fn_of c85 (by simp [F85]) fun c => ?_
  unfold F85
  simp
  rw [szOf_wrap hs.1 hl]
  refine ⟨fun h => fin_plain ⟨by rw [szOf_neg (by simp only [TSession.sz]; omega)], rfl⟩, fun h => ?_⟩
  rw [szOf_wrap hs.2 ⟨by omega, by omega⟩]
  refine ⟨fun h => fin_plain ⟨by rw [szOf_neg (by simp only [TSession.sz]; omega)], rfl⟩, fun h => ?_⟩
  have hz : s.sz = s.Id.length + s.Data.length := rfl
  have e : szOf s.sz left = left - (s.Id.length : Int) - (s.Data.length : Int) := by
    unfold szOf
    rw [if_pos (by omega)]
    omega
  exact fin_plain ⟨by rw [e], rfl⟩
theorem TSession.to_fn {s : TSession} (h : s.sz ≤ 1048576) : Tr Tryz.prog 95 [.agg s.enc] fun _ r => ∃ b : TSession, r = .agg b.enc ∧ b.con = s.con := by
  simp only [TSession.sz] at h
  intro c
  refine con_of c95 (by simp [F95]) ?_
  unfold F95
  simp [putA]
  refine fin_plain ⟨rfl, ⟨⟨s.Id, s.Data, s.Holder, s.At⟩, rfl, ?_⟩, from_agg ?_⟩
  · rfl
  · simp
theorem TSession.eq_fn {a b : TSession} (h : a.sz ≤ 1099511627776) (he : a.con = b.con) : Fnc Tryz.prog 103 [.agg a.enc, .agg b.enc] (.bool true) := by
  simp only [TSession.sz] at h
  have e0 : a.Id = b.Id := (congrArg TSession.Id he : a.con.Id = b.con.Id)
  have e1 : a.Data = b.Data := (congrArg TSession.Data he : a.con.Data = b.con.Data)
  have e2 : a.Holder = b.Holder := (congrArg TSession.Holder he : a.con.Holder = b.con.Holder)
  have e3 : a.At = b.At := (congrArg TSession.At he : a.con.At = b.con.At)
  refine fn_of c103 (by simp [F103]) fun c => ?_
  unfold F103
  simp [e0, e1, e2, e3]
  exact fin_plain ⟨rfl, rfl⟩
def szSessionS (s : SL TSession) : Nat := s.list.length + szL TSession.sz s.list
def okSessionS (s : SL TSession) : Prop := s.list.length ≤ mx ∧ ∀ x, x ∈ s.list → TSession.ok x
theorem szSessionS_con {s t : SL TSession} (h : s.list.map TSession.con = t.list.map TSession.con) : szSessionS s = szSessionS t := by
  unfold szSessionS
  rw [← szL_map (con := TSession.con) TSession.sz_con s.list, ← szL_map (con := TSession.con) TSession.sz_con t.list, h]
  have := congrArg List.length h; simp at this; rw [this]
theorem shSessionS {n : Nat} {a : AV} (h : ShC Tryz.prog n 24 [a]) : ∃ s : SL TSession, a = s.av 4 TSession.enc ∧ okSessionS s := by
  obtain ⟨s, h1, h2, h3⟩ := sh_slc (P := Tryz.prog) (t := 24) (el := 117) (w := 4) (enc := TSession.enc) (ok := TSession.ok) (by kernel_rfl) (by kernel_rfl) (TSession.sh) h
  exact ⟨s, h1, h2, h3⟩
theorem szSessionS_fn {s : SL TSession} (hs : okSessionS s) {left : Int} (hl : Room left) : Fnc Tryz.prog 23 [s.av 4 TSession.enc, .int .i64 left] (.int .i64 (szOf (szSessionS s) left)) :=
  szS_fn (g := 85) c23 (fun _ => rfl) hs.1 hl fun x hx left hl => TSession.sz_fn (hs.2 x hx) hl
theorem toSessionS_fn {s : SL TSession} (h : szSessionS s ≤ 1048576) : Tr Tryz.prog 36 [s.av 4 TSession.enc] fun _ r => ∃ b : SL TSession, r = b.av 4 TSession.enc ∧ b.list.map TSession.con = s.list.map TSession.con := by
  unfold szSessionS at h
  exact toS_fn (g := 95) (z := [.str [], .str [], .int .i64 0, .int .i64 0]) (bytes := 48) c36 rfl (fun _ => rfl) (fun x => TSession.cells x) (by omega) (by omega) fun x hx => TSession.to_fn (by have := szL_mem (sz := TSession.sz) hx; omega)
theorem eqSessionS_fn {s t : SL TSession} (h : szSessionS s ≤ 1099511627776) (he : s.list.map TSession.con = t.list.map TSession.con) : Fnc Tryz.prog 50 [s.av 4 TSession.enc, t.av 4 TSession.enc] (.bool true) := by
  unfold szSessionS at h
  exact eqS_fn (g := 103) (con := TSession.con) c50 (fun _ => rfl) (by unfold mx; omega) he fun x hx y hxy => TSession.eq_fn (by have := szL_mem (sz := TSession.sz) hx; omega) hxy
structure TPair where
  Name : List UInt8
  Value : List UInt8
def TPair.enc (s : TPair) : List AV := [.str s.Name, .str s.Value]
@[simp] theorem TPair.len (s : TPair) : s.enc.length = 2 := (rfl)
@[simp] theorem TPair.all (s : TPair) : s.enc.take 2 = s.enc := (rfl)
@[simp] theorem TPair.g0 (s : TPair) (K : AV → Prop) : getW s.enc 0 K = K (.str s.Name) := by simp [TPair.enc]
@[simp] theorem TPair.g1 (s : TPair) (K : AV → Prop) : getW s.enc 1 K = K (.str s.Value) := by simp [TPair.enc]
theorem TPair.cells (s : TPair) : ∀ a, a ∈ s.enc → a.cell = true := by simp [TPair.enc]
def TPair.sz (s : TPair) : Nat := s.Name.length + s.Value.length
def TPair.ok (s : TPair) : Prop := s.Name.length ≤ mx ∧ s.Value.length ≤ mx
def TPair.con (s : TPair) : TPair := s
theorem TPair.sz_con (s : TPair) : s.con.sz = s.sz := rfl
theorem TPair.sh : ∀ (n : Nat) (row : List AV), ShC Tryz.prog n 152 row → ∃ s : TPair, row = s.enc ∧ s.ok := by
  intro n row h
  obtain ⟨m, hl, hf⟩ := sh_fields (l := [(9, 0), (9, 1)]) (by kernel_rfl) h
  have hl' : row.length = 2 := hl.trans (by kernel_rfl)
  match row, hl' with
  | [x0, x1], _ =>
    have h0 := hf (9, 0) (by simp)
    rw [show Tryz.prog.cellsOf 9 = 1 by kernel_rfl] at h0
    obtain ⟨v0, rfl, k0⟩ := sh_str (t := 9) (by kernel_rfl) (show ShC Tryz.prog m 9 [x0] from h0)
    have h1 := hf (9, 1) (by simp)
    rw [show Tryz.prog.cellsOf 9 = 1 by kernel_rfl] at h1
    obtain ⟨v1, rfl, k1⟩ := sh_str (t := 9) (by kernel_rfl) (show ShC Tryz.prog m 9 [x1] from h1)
    exact ⟨⟨v0, v1⟩, rfl, ⟨k0, k1⟩⟩
theorem TPair.sz_fn {s : TPair} (hs : s.ok) {left : Int} (hl : Room left) : Fnc Tryz.prog 107 [.agg s.enc, .int .i64 left] (.int .i64 (szOf s.sz left)) := by
  unfold TPair.ok at hs
  have hr := hl.2
  refine fn_of c107 (by simp [F107]) fun c => ?_
  unfold F107
  simp
  rw [szOf_wrap hs.1 hl]
  refine ⟨fun h => fin_plain ⟨by rw [szOf_neg (by simp only [TPair.sz]; omega)], rfl⟩, fun h => ?_⟩
  rw [szOf_wrap hs.2 ⟨by omega, by omega⟩]
  refine ⟨fun h => fin_plain ⟨by rw [szOf_neg (by simp only [TPair.sz]; omega)], rfl⟩, fun h => ?_⟩
  have hz : s.sz = s.Name.length + s.Value.length := rfl
  have e : szOf s.sz left = left - (s.Name.length : Int) - (s.Value.length : Int) := by
    unfold szOf
    rw [if_pos (by omega)]
    omega
  exact fin_plain ⟨by rw [e], rfl⟩
theorem TPair.to_fn {s : TPair} (h : s.sz ≤ 1048576) : Tr Tryz.prog 112 [.agg s.enc] fun _ r => ∃ b : TPair, r = .agg b.enc ∧ b.con = s.con := by
  simp only [TPair.sz] at h
  intro c
  refine con_of c112 (by simp [F112]) ?_
  unfold F112
  simp [putA]
  refine fin_plain ⟨rfl, ⟨⟨s.Name, s.Value⟩, rfl, ?_⟩, from_agg ?_⟩
  · rfl
  · simp
theorem TPair.eq_fn {a b : TPair} (h : a.sz ≤ 1099511627776) (he : a.con = b.con) : Fnc Tryz.prog 121 [.agg a.enc, .agg b.enc] (.bool true) := by
  simp only [TPair.sz] at h
  have e0 : a.Name = b.Name := (congrArg TPair.Name he : a.con.Name = b.con.Name)
  have e1 : a.Value = b.Value := (congrArg TPair.Value he : a.con.Value = b.con.Value)
  refine fn_of c121 (by simp [F121]) fun c => ?_
  unfold F121
  simp [e0, e1]
  exact fin_plain ⟨rfl, rfl⟩
def szPairS (s : SL TPair) : Nat := s.list.length + szL TPair.sz s.list
def okPairS (s : SL TPair) : Prop := s.list.length ≤ mx ∧ ∀ x, x ∈ s.list → TPair.ok x
theorem szPairS_con {s t : SL TPair} (h : s.list.map TPair.con = t.list.map TPair.con) : szPairS s = szPairS t := by
  unfold szPairS
  rw [← szL_map (con := TPair.con) TPair.sz_con s.list, ← szL_map (con := TPair.con) TPair.sz_con t.list, h]
  have := congrArg List.length h; simp at this; rw [this]
theorem shPairS {n : Nat} {a : AV} (h : ShC Tryz.prog n 43 [a]) : ∃ s : SL TPair, a = s.av 2 TPair.enc ∧ okPairS s := by
  obtain ⟨s, h1, h2, h3⟩ := sh_slc (P := Tryz.prog) (t := 43) (el := 152) (w := 2) (enc := TPair.enc) (ok := TPair.ok) (by kernel_rfl) (by kernel_rfl) (TPair.sh) h
  exact ⟨s, h1, h2, h3⟩
theorem szPairS_fn {s : SL TPair} (hs : okPairS s) {left : Int} (hl : Room left) : Fnc Tryz.prog 54 [s.av 2 TPair.enc, .int .i64 left] (.int .i64 (szOf (szPairS s) left)) :=
  szS_fn (g := 107) c54 (fun _ => rfl) hs.1 hl fun x hx left hl => TPair.sz_fn (hs.2 x hx) hl
theorem toPairS_fn {s : SL TPair} (h : szPairS s ≤ 1048576) : Tr Tryz.prog 57 [s.av 2 TPair.enc] fun _ r => ∃ b : SL TPair, r = b.av 2 TPair.enc ∧ b.list.map TPair.con = s.list.map TPair.con := by
  unfold szPairS at h
  exact toS_fn (g := 112) (z := [.str [], .str []]) (bytes := 32) c57 rfl (fun _ => rfl) (fun x => TPair.cells x) (by omega) (by omega) fun x hx => TPair.to_fn (by have := szL_mem (sz := TPair.sz) hx; omega)
theorem eqPairS_fn {s t : SL TPair} (h : szPairS s ≤ 1099511627776) (he : s.list.map TPair.con = t.list.map TPair.con) : Fnc Tryz.prog 62 [s.av 2 TPair.enc, t.av 2 TPair.enc] (.bool true) := by
  unfold szPairS at h
  exact eqS_fn (g := 121) (con := TPair.con) c62 (fun _ => rfl) (by unfold mx; omega) he fun x hx y hxy => TPair.eq_fn (by have := szL_mem (sz := TPair.sz) hx; omega) hxy
structure TRequest where
  Path : List UInt8
  Query : SL TPair
  Cookies : SL TPair
def TRequest.enc (s : TRequest) : List AV := [.str s.Path, s.Query.av 2 TPair.enc, s.Cookies.av 2 TPair.enc]
@[simp] theorem TRequest.len (s : TRequest) : s.enc.length = 3 := (rfl)
@[simp] theorem TRequest.all (s : TRequest) : s.enc.take 3 = s.enc := (rfl)
@[simp] theorem TRequest.g0 (s : TRequest) (K : AV → Prop) : getW s.enc 0 K = K (.str s.Path) := by simp [TRequest.enc]
@[simp] theorem TRequest.g1 (s : TRequest) (K : AV → Prop) : getW s.enc 1 K = K (s.Query.av 2 TPair.enc) := by simp [TRequest.enc]
@[simp] theorem TRequest.g2 (s : TRequest) (K : AV → Prop) : getW s.enc 2 K = K (s.Cookies.av 2 TPair.enc) := by simp [TRequest.enc]
theorem TRequest.cells (s : TRequest) : ∀ a, a ∈ s.enc → a.cell = true := by simp [TRequest.enc]
def TRequest.sz (s : TRequest) : Nat := s.Path.length + (szPairS s.Query) + (szPairS s.Cookies)
def TRequest.ok (s : TRequest) : Prop := s.Path.length ≤ mx ∧ okPairS s.Query ∧ okPairS s.Cookies
def TRequest.con (s : TRequest) : TRequest := { s with Query := s.Query.con TPair.con, Cookies := s.Cookies.con TPair.con }
theorem TRequest.sz_con (s : TRequest) : s.con.sz = s.sz := by
  simp [TRequest.sz, TRequest.con, szPairS, szPairS, szL_map TPair.sz_con, szL_map TPair.sz_con]
theorem TRequest.sh : ∀ (n : Nat) (row : List AV), ShC Tryz.prog n 45 row → ∃ s : TRequest, row = s.enc ∧ s.ok := by
  intro n row h
  obtain ⟨m, hl, hf⟩ := sh_fields (l := [(9, 0), (43, 1), (43, 2)]) (by kernel_rfl) h
  have hl' : row.length = 3 := hl.trans (by kernel_rfl)
  match row, hl' with
  | [x0, x1, x2], _ =>
    have h0 := hf (9, 0) (by simp)
    rw [show Tryz.prog.cellsOf 9 = 1 by kernel_rfl] at h0
    obtain ⟨v0, rfl, k0⟩ := sh_str (t := 9) (by kernel_rfl) (show ShC Tryz.prog m 9 [x0] from h0)
    have h1 := hf (43, 1) (by simp)
    rw [show Tryz.prog.cellsOf 43 = 1 by kernel_rfl] at h1
    obtain ⟨v1, rfl, k1⟩ := shPairS (show ShC Tryz.prog m 43 [x1] from h1)
    have h2 := hf (43, 2) (by simp)
    rw [show Tryz.prog.cellsOf 43 = 1 by kernel_rfl] at h2
    obtain ⟨v2, rfl, k2⟩ := shPairS (show ShC Tryz.prog m 43 [x2] from h2)
    exact ⟨⟨v0, v1, v2⟩, rfl, ⟨k0, k1, k2⟩⟩
theorem TRequest.sz_fn {s : TRequest} (hs : s.ok) {left : Int} (hl : Room left) : Fnc Tryz.prog 11 [.agg s.enc, .int .i64 left] (.int .i64 (szOf s.sz left)) := by
  unfold TRequest.ok at hs
  have hr := hl.2
  refine fn_of c11 (by simp [F11]) fun c => ?_
  unfold F11
  simp
  rw [szOf_wrap hs.1 hl]
  refine ⟨fun h => fin_plain ⟨by rw [szOf_neg (by simp only [TRequest.sz]; omega)], rfl⟩, fun h => ?_⟩
  refine call_fn0 (szPairS_fn hs.2.1 ⟨by omega, by omega⟩) .int fun _ _ => ?_
  simp
  refine ⟨fun h => fin_plain ⟨by have := szOf_lt h; rw [szOf_neg (by simp only [TRequest.sz]; omega)], rfl⟩, fun h => ?_⟩
  obtain ⟨h1, k1⟩ := szOf_ge h
  rw [h1]
  refine call_fn0 (szPairS_fn hs.2.2 ⟨by omega, by omega⟩) .int fun _ _ => ?_
  simp
  refine ⟨fun h => fin_plain ⟨by have := szOf_lt h; rw [szOf_neg (by simp only [TRequest.sz]; omega)], rfl⟩, fun h => ?_⟩
  obtain ⟨h2, k2⟩ := szOf_ge h
  rw [h2]
  have hz : s.sz = s.Path.length + (szPairS s.Query) + (szPairS s.Cookies) := rfl
  have e : szOf s.sz left = left - (s.Path.length : Int) - ((szPairS s.Query) : Int) - ((szPairS s.Cookies) : Int) := by
    unfold szOf
    rw [if_pos (by omega)]
    omega
  exact fin_plain ⟨by rw [e], rfl⟩
theorem TRequest.to_fn {s : TRequest} (h : s.sz ≤ 1048576) : Tr Tryz.prog 13 [.agg s.enc] fun _ r => ∃ b : TRequest, r = .agg b.enc ∧ b.con = s.con := by
  simp only [TRequest.sz] at h
  intro c
  refine con_of c13 (by simp [F13]) ?_
  unfold F13
  simp [putA]
  refine call_tree0 (toPairS_fn (by omega)) fun r1 c1 hc1 ⟨b1, e1, q1⟩ f1 => ?_
  subst e1
  simp [putA]
  refine call_tree0 (toPairS_fn (by omega)) fun r2 c2 hc2 ⟨b2, e2, q2⟩ f2 => ?_
  subst e2
  simp [putA]
  refine fin_plain ⟨rfl, ⟨⟨s.Path, b1, b2⟩, rfl, ?_⟩, from_agg ?_⟩
  · simp [TRequest.con, SL.con, SL.pcon, q1, q2]
  · simp
    exact ⟨f1.mono (by omega), f2.mono (by omega)⟩
theorem TRequest.eq_fn {a b : TRequest} (h : a.sz ≤ 1099511627776) (he : a.con = b.con) : Fnc Tryz.prog 15 [.agg a.enc, .agg b.enc] (.bool true) := by
  simp only [TRequest.sz] at h
  have e0 : a.Path = b.Path := (congrArg TRequest.Path he : a.con.Path = b.con.Path)
  have e1 : a.Query.list.map TPair.con = b.Query.list.map TPair.con := congrArg (fun s => s.Query.list) he
  have e2 : a.Cookies.list.map TPair.con = b.Cookies.list.map TPair.con := congrArg (fun s => s.Cookies.list) he
  refine fn_of c15 (by simp [F15]) fun c => ?_
  unfold F15
  simp [e0]
  refine call_fn0 (eqPairS_fn (by omega) e1) .bool fun _ _ => ?_
  simp [e0]
  refine call_fn0 (eqPairS_fn (by omega) e2) .bool fun _ _ => ?_
  simp [e0]
  exact fin_plain ⟨rfl, rfl⟩
structure TJob where
  Id : Int
  Request : TRequest
  Session : List UInt8
def TJob.enc (s : TJob) : List AV := [.int .i64 s.Id, .str s.Request.Path, s.Request.Query.av 2 TPair.enc, s.Request.Cookies.av 2 TPair.enc, .str s.Session]
@[simp] theorem TJob.len (s : TJob) : s.enc.length = 5 := (rfl)
@[simp] theorem TJob.all (s : TJob) : s.enc.take 5 = s.enc := (rfl)
@[simp] theorem TJob.g0 (s : TJob) (K : AV → Prop) : getW s.enc 0 K = K (.int .i64 s.Id) := by simp [TJob.enc]
@[simp] theorem TJob.g1 (s : TJob) (K : AV → Prop) : getW s.enc 1 K = K (.str s.Request.Path) := by simp [TJob.enc]
@[simp] theorem TJob.g2 (s : TJob) (K : AV → Prop) : getW s.enc 2 K = K (s.Request.Query.av 2 TPair.enc) := by simp [TJob.enc]
@[simp] theorem TJob.g3 (s : TJob) (K : AV → Prop) : getW s.enc 3 K = K (s.Request.Cookies.av 2 TPair.enc) := by simp [TJob.enc]
@[simp] theorem TJob.g4 (s : TJob) (K : AV → Prop) : getW s.enc 4 K = K (.str s.Session) := by simp [TJob.enc]
@[simp] theorem TJob.seg1 (s : TJob) : (s.enc.drop 1).take 3 = s.Request.enc := (rfl)
theorem TJob.cells (s : TJob) : ∀ a, a ∈ s.enc → a.cell = true := by simp [TJob.enc]
def TJob.sz (s : TJob) : Nat := s.Request.sz + s.Session.length
def TJob.ok (s : TJob) : Prop := s.Request.ok ∧ s.Session.length ≤ mx
def TJob.con (s : TJob) : TJob := { s with Request := s.Request.con }
theorem TJob.sz_con (s : TJob) : s.con.sz = s.sz := by
  simp [TJob.sz, TJob.con, TRequest.sz_con]
theorem TJob.sh : ∀ (n : Nat) (row : List AV), ShC Tryz.prog n 120 row → ∃ s : TJob, row = s.enc ∧ s.ok := by
  intro n row h
  obtain ⟨m, hl, hf⟩ := sh_fields (l := [(3, 0), (45, 1), (9, 4)]) (by kernel_rfl) h
  have hl' : row.length = 5 := hl.trans (by kernel_rfl)
  match row, hl' with
  | [x0, x1, x2, x3, x4], _ =>
    have h0 := hf (3, 0) (by simp)
    rw [show Tryz.prog.cellsOf 3 = 1 by kernel_rfl] at h0
    obtain ⟨v0, rfl, _⟩ := sh_int (k := .i64) (t := 3) (by kernel_rfl) (show ShC Tryz.prog m 3 [x0] from h0)
    have h1 := hf (45, 1) (by simp)
    rw [show Tryz.prog.cellsOf 45 = 3 by kernel_rfl] at h1
    obtain ⟨v1, u1, k1⟩ := TRequest.sh m _ (show ShC Tryz.prog m 45 [x1, x2, x3] from h1)
    simp only [TRequest.enc, List.cons.injEq, and_true] at u1
    obtain ⟨rfl, rfl, rfl⟩ := u1
    have h2 := hf (9, 4) (by simp)
    rw [show Tryz.prog.cellsOf 9 = 1 by kernel_rfl] at h2
    obtain ⟨v2, rfl, k2⟩ := sh_str (t := 9) (by kernel_rfl) (show ShC Tryz.prog m 9 [x4] from h2)
    exact ⟨⟨v0, v1, v2⟩, rfl, ⟨k1, k2⟩⟩
theorem TJob.sz_fn {s : TJob} (hs : s.ok) {left : Int} (hl : Room left) : Fnc Tryz.prog 86 [.agg s.enc, .int .i64 left] (.int .i64 (szOf s.sz left)) := by
  unfold TJob.ok at hs
  have hr := hl.2
  refine fn_of c86 (by simp [F86]) fun c => ?_
  unfold F86
  simp
  refine call_fn0 (TRequest.sz_fn hs.1 hl) .int fun _ _ => ?_
  simp
  refine ⟨fun h => fin_plain ⟨by have := szOf_lt h; rw [szOf_neg (by simp only [TJob.sz]; omega)], rfl⟩, fun h => ?_⟩
  obtain ⟨h0, k0⟩ := szOf_ge h
  rw [h0]
  rw [szOf_wrap hs.2 ⟨by omega, by omega⟩]
  refine ⟨fun h => fin_plain ⟨by rw [szOf_neg (by simp only [TJob.sz]; omega)], rfl⟩, fun h => ?_⟩
  have hz : s.sz = s.Request.sz + s.Session.length := rfl
  have e : szOf s.sz left = left - (s.Request.sz : Int) - (s.Session.length : Int) := by
    unfold szOf
    rw [if_pos (by omega)]
    omega
  exact fin_plain ⟨by rw [e], rfl⟩
theorem TJob.to_fn {s : TJob} (h : s.sz ≤ 1048576) : Tr Tryz.prog 96 [.agg s.enc] fun _ r => ∃ b : TJob, r = .agg b.enc ∧ b.con = s.con := by
  simp only [TJob.sz] at h
  intro c
  refine con_of c96 (by simp [F96]) ?_
  unfold F96
  simp [putA, TRequest.enc]
  refine call_tree0 (TRequest.to_fn (by omega)) fun r1 c1 hc1 ⟨b1, e1, q1⟩ f1 => ?_
  subst e1
  simp [putA, TRequest.enc]
  refine fin_plain ⟨rfl, ⟨⟨s.Id, b1, s.Session⟩, rfl, ?_⟩, from_agg ?_⟩
  · simp [TJob.con, SL.con, SL.pcon, q1]
  · simp
    exact ⟨(from_agg_mem f1 _ (by simp [TRequest.enc])).mono (by omega), (from_agg_mem f1 _ (by simp [TRequest.enc])).mono (by omega)⟩
theorem TJob.eq_fn {a b : TJob} (h : a.sz ≤ 1099511627776) (he : a.con = b.con) : Fnc Tryz.prog 104 [.agg a.enc, .agg b.enc] (.bool true) := by
  simp only [TJob.sz] at h
  have e0 : a.Id = b.Id := (congrArg TJob.Id he : a.con.Id = b.con.Id)
  have e1 : a.Request.con = b.Request.con := congrArg TJob.Request he
  have e2 : a.Session = b.Session := (congrArg TJob.Session he : a.con.Session = b.con.Session)
  refine fn_of c104 (by simp [F104]) fun c => ?_
  unfold F104
  simp [e0, e2]
  refine call_fn0 (TRequest.eq_fn (by omega) e1) .bool fun _ _ => ?_
  simp [e0, e2]
  exact fin_plain ⟨rfl, rfl⟩
def szJobS (s : SL TJob) : Nat := s.list.length + szL TJob.sz s.list
def okJobS (s : SL TJob) : Prop := s.list.length ≤ mx ∧ ∀ x, x ∈ s.list → TJob.ok x
theorem szJobS_con {s t : SL TJob} (h : s.list.map TJob.con = t.list.map TJob.con) : szJobS s = szJobS t := by
  unfold szJobS
  rw [← szL_map (con := TJob.con) TJob.sz_con s.list, ← szL_map (con := TJob.con) TJob.sz_con t.list, h]
  have := congrArg List.length h; simp at this; rw [this]
theorem shJobS {n : Nat} {a : AV} (h : ShC Tryz.prog n 25 [a]) : ∃ s : SL TJob, a = s.av 5 TJob.enc ∧ okJobS s := by
  obtain ⟨s, h1, h2, h3⟩ := sh_slc (P := Tryz.prog) (t := 25) (el := 120) (w := 5) (enc := TJob.enc) (ok := TJob.ok) (by kernel_rfl) (by kernel_rfl) (TJob.sh) h
  exact ⟨s, h1, h2, h3⟩
theorem szJobS_fn {s : SL TJob} (hs : okJobS s) {left : Int} (hl : Room left) : Fnc Tryz.prog 24 [s.av 5 TJob.enc, .int .i64 left] (.int .i64 (szOf (szJobS s) left)) :=
  szS_fn (g := 86) c24 (fun _ => rfl) hs.1 hl fun x hx left hl => TJob.sz_fn (hs.2 x hx) hl
theorem toJobS_fn {s : SL TJob} (h : szJobS s ≤ 1048576) : Tr Tryz.prog 37 [s.av 5 TJob.enc] fun _ r => ∃ b : SL TJob, r = b.av 5 TJob.enc ∧ b.list.map TJob.con = s.list.map TJob.con := by
  unfold szJobS at h
  exact toS_fn (g := 96) (z := [.int .i64 0, .str [], .nsl, .nsl, .str []]) (bytes := 88) c37 rfl (fun _ => rfl) (fun x => TJob.cells x) (by omega) (by omega) fun x hx => TJob.to_fn (by have := szL_mem (sz := TJob.sz) hx; omega)
theorem eqJobS_fn {s t : SL TJob} (h : szJobS s ≤ 1099511627776) (he : s.list.map TJob.con = t.list.map TJob.con) : Fnc Tryz.prog 51 [s.av 5 TJob.enc, t.av 5 TJob.enc] (.bool true) := by
  unfold szJobS at h
  exact eqS_fn (g := 104) (con := TJob.con) c51 (fun _ => rfl) (by unfold mx; omega) he fun x hx y hxy => TJob.eq_fn (by have := szL_mem (sz := TJob.sz) hx; omega) hxy
structure TWorker where
  State : Int
  Job : TJob
  Data : List UInt8
  Files : SL TFile
  Served : Int
def TWorker.enc (s : TWorker) : List AV := [.int .i64 s.State, .int .i64 s.Job.Id, .str s.Job.Request.Path, s.Job.Request.Query.av 2 TPair.enc, s.Job.Request.Cookies.av 2 TPair.enc, .str s.Job.Session, .str s.Data, s.Files.av 3 TFile.enc, .int .i64 s.Served]
@[simp] theorem TWorker.len (s : TWorker) : s.enc.length = 9 := (rfl)
@[simp] theorem TWorker.all (s : TWorker) : s.enc.take 9 = s.enc := (rfl)
@[simp] theorem TWorker.g0 (s : TWorker) (K : AV → Prop) : getW s.enc 0 K = K (.int .i64 s.State) := by simp [TWorker.enc]
@[simp] theorem TWorker.g1 (s : TWorker) (K : AV → Prop) : getW s.enc 1 K = K (.int .i64 s.Job.Id) := by simp [TWorker.enc]
@[simp] theorem TWorker.g2 (s : TWorker) (K : AV → Prop) : getW s.enc 2 K = K (.str s.Job.Request.Path) := by simp [TWorker.enc]
@[simp] theorem TWorker.g3 (s : TWorker) (K : AV → Prop) : getW s.enc 3 K = K (s.Job.Request.Query.av 2 TPair.enc) := by simp [TWorker.enc]
@[simp] theorem TWorker.g4 (s : TWorker) (K : AV → Prop) : getW s.enc 4 K = K (s.Job.Request.Cookies.av 2 TPair.enc) := by simp [TWorker.enc]
@[simp] theorem TWorker.g5 (s : TWorker) (K : AV → Prop) : getW s.enc 5 K = K (.str s.Job.Session) := by simp [TWorker.enc]
@[simp] theorem TWorker.g6 (s : TWorker) (K : AV → Prop) : getW s.enc 6 K = K (.str s.Data) := by simp [TWorker.enc]
@[simp] theorem TWorker.g7 (s : TWorker) (K : AV → Prop) : getW s.enc 7 K = K (s.Files.av 3 TFile.enc) := by simp [TWorker.enc]
@[simp] theorem TWorker.g8 (s : TWorker) (K : AV → Prop) : getW s.enc 8 K = K (.int .i64 s.Served) := by simp [TWorker.enc]
@[simp] theorem TWorker.seg1 (s : TWorker) : (s.enc.drop 1).take 5 = s.Job.enc := (rfl)
theorem TWorker.cells (s : TWorker) : ∀ a, a ∈ s.enc → a.cell = true := by simp [TWorker.enc]
def TWorker.sz (s : TWorker) : Nat := s.Job.sz + s.Data.length + (szFileS s.Files)
def TWorker.ok (s : TWorker) : Prop := s.Job.ok ∧ s.Data.length ≤ mx ∧ okFileS s.Files
def TWorker.con (s : TWorker) : TWorker := { s with Job := s.Job.con, Files := s.Files.con TFile.con }
theorem TWorker.sz_con (s : TWorker) : s.con.sz = s.sz := by
  simp [TWorker.sz, TWorker.con, szFileS, TJob.sz_con, szL_map TFile.sz_con]
theorem TWorker.sh : ∀ (n : Nat) (row : List AV), ShC Tryz.prog n 123 row → ∃ s : TWorker, row = s.enc ∧ s.ok := by
  intro n row h
  obtain ⟨m, hl, hf⟩ := sh_fields (l := [(3, 0), (120, 1), (9, 6), (22, 7), (3, 8)]) (by kernel_rfl) h
  have hl' : row.length = 9 := hl.trans (by kernel_rfl)
  match row, hl' with
  | [x0, x1, x2, x3, x4, x5, x6, x7, x8], _ =>
    have h0 := hf (3, 0) (by simp)
    rw [show Tryz.prog.cellsOf 3 = 1 by kernel_rfl] at h0
    obtain ⟨v0, rfl, _⟩ := sh_int (k := .i64) (t := 3) (by kernel_rfl) (show ShC Tryz.prog m 3 [x0] from h0)
    have h1 := hf (120, 1) (by simp)
    rw [show Tryz.prog.cellsOf 120 = 5 by kernel_rfl] at h1
    obtain ⟨v1, u1, k1⟩ := TJob.sh m _ (show ShC Tryz.prog m 120 [x1, x2, x3, x4, x5] from h1)
    simp only [TJob.enc, TRequest.enc, List.cons.injEq, and_true] at u1
    obtain ⟨rfl, rfl, rfl, rfl, rfl⟩ := u1
    have h2 := hf (9, 6) (by simp)
    rw [show Tryz.prog.cellsOf 9 = 1 by kernel_rfl] at h2
    obtain ⟨v2, rfl, k2⟩ := sh_str (t := 9) (by kernel_rfl) (show ShC Tryz.prog m 9 [x6] from h2)
    have h3 := hf (22, 7) (by simp)
    rw [show Tryz.prog.cellsOf 22 = 1 by kernel_rfl] at h3
    obtain ⟨v3, rfl, k3⟩ := shFileS (show ShC Tryz.prog m 22 [x7] from h3)
    have h4 := hf (3, 8) (by simp)
    rw [show Tryz.prog.cellsOf 3 = 1 by kernel_rfl] at h4
    obtain ⟨v4, rfl, _⟩ := sh_int (k := .i64) (t := 3) (by kernel_rfl) (show ShC Tryz.prog m 3 [x8] from h4)
    exact ⟨⟨v0, v1, v2, v3, v4⟩, rfl, ⟨k1, k2, k3⟩⟩
theorem TWorker.sz_fn {s : TWorker} (hs : s.ok) {left : Int} (hl : Room left) : Fnc Tryz.prog 87 [.agg s.enc, .int .i64 left] (.int .i64 (szOf s.sz left)) := by
  unfold TWorker.ok at hs
  have hr := hl.2
  refine fn_of c87 (by simp [F87]) fun c => ?_
  unfold F87
  simp
  refine call_fn0 (TJob.sz_fn hs.1 hl) .int fun _ _ => ?_
  simp
  refine ⟨fun h => fin_plain ⟨by have := szOf_lt h; rw [szOf_neg (by simp only [TWorker.sz]; omega)], rfl⟩, fun h => ?_⟩
  obtain ⟨h0, k0⟩ := szOf_ge h
  rw [h0]
  rw [szOf_wrap hs.2.1 ⟨by omega, by omega⟩]
  refine ⟨fun h => fin_plain ⟨by rw [szOf_neg (by simp only [TWorker.sz]; omega)], rfl⟩, fun h => ?_⟩
  refine call_fn0 (szFileS_fn hs.2.2 ⟨by omega, by omega⟩) .int fun _ _ => ?_
  simp
  refine ⟨fun h => fin_plain ⟨by have := szOf_lt h; rw [szOf_neg (by simp only [TWorker.sz]; omega)], rfl⟩, fun h => ?_⟩
  obtain ⟨h2, k2⟩ := szOf_ge h
  rw [h2]
  have hz : s.sz = s.Job.sz + s.Data.length + (szFileS s.Files) := rfl
  have e : szOf s.sz left = left - (s.Job.sz : Int) - (s.Data.length : Int) - ((szFileS s.Files) : Int) := by
    unfold szOf
    rw [if_pos (by omega)]
    omega
  exact fin_plain ⟨by rw [e], rfl⟩
theorem TWorker.to_fn {s : TWorker} (h : s.sz ≤ 1048576) : Tr Tryz.prog 97 [.agg s.enc] fun _ r => ∃ b : TWorker, r = .agg b.enc ∧ b.con = s.con := by
  simp only [TWorker.sz] at h
  intro c
  refine con_of c97 (by simp [F97]) ?_
  unfold F97
  simp [putA, TJob.enc, TRequest.enc]
  refine call_tree0 (TJob.to_fn (by omega)) fun r1 c1 hc1 ⟨b1, e1, q1⟩ f1 => ?_
  subst e1
  simp [putA, TJob.enc, TRequest.enc]
  refine call_tree0 (toFileS_fn (by omega)) fun r3 c3 hc3 ⟨b3, e3, q3⟩ f3 => ?_
  subst e3
  simp [putA, TJob.enc, TRequest.enc]
  refine fin_plain ⟨rfl, ⟨⟨s.State, b1, s.Data, b3, s.Served⟩, rfl, ?_⟩, from_agg ?_⟩
  · simp [TWorker.con, SL.con, SL.pcon, q1, q3]
  · simp
    exact ⟨(from_agg_mem f1 _ (by simp [TJob.enc, TRequest.enc])).mono (by omega), (from_agg_mem f1 _ (by simp [TJob.enc, TRequest.enc])).mono (by omega), f3.mono (by omega)⟩
theorem TWorker.eq_fn {a b : TWorker} (h : a.sz ≤ 1099511627776) (he : a.con = b.con) : Fnc Tryz.prog 105 [.agg a.enc, .agg b.enc] (.bool true) := by
  simp only [TWorker.sz] at h
  have e0 : a.State = b.State := (congrArg TWorker.State he : a.con.State = b.con.State)
  have e1 : a.Job.con = b.Job.con := congrArg TWorker.Job he
  have e2 : a.Data = b.Data := (congrArg TWorker.Data he : a.con.Data = b.con.Data)
  have e3 : a.Files.list.map TFile.con = b.Files.list.map TFile.con := congrArg (fun s => s.Files.list) he
  have e4 : a.Served = b.Served := (congrArg TWorker.Served he : a.con.Served = b.con.Served)
  refine fn_of c105 (by simp [F105]) fun c => ?_
  unfold F105
  simp [e0, e2, e4]
  refine call_fn0 (TJob.eq_fn (by omega) e1) .bool fun _ _ => ?_
  simp [e0, e2, e4]
  refine call_fn0 (eqFileS_fn (by omega) e3) .bool fun _ _ => ?_
  simp [e0, e2, e4]
  exact fin_plain ⟨rfl, rfl⟩
def szWorkerS (s : SL TWorker) : Nat := s.list.length + szL TWorker.sz s.list
def okWorkerS (s : SL TWorker) : Prop := s.list.length ≤ mx ∧ ∀ x, x ∈ s.list → TWorker.ok x
theorem szWorkerS_con {s t : SL TWorker} (h : s.list.map TWorker.con = t.list.map TWorker.con) : szWorkerS s = szWorkerS t := by
  unfold szWorkerS
  rw [← szL_map (con := TWorker.con) TWorker.sz_con s.list, ← szL_map (con := TWorker.con) TWorker.sz_con t.list, h]
  have := congrArg List.length h; simp at this; rw [this]
theorem shWorkerS {n : Nat} {a : AV} (h : ShC Tryz.prog n 26 [a]) : ∃ s : SL TWorker, a = s.av 9 TWorker.enc ∧ okWorkerS s := by
  obtain ⟨s, h1, h2, h3⟩ := sh_slc (P := Tryz.prog) (t := 26) (el := 123) (w := 9) (enc := TWorker.enc) (ok := TWorker.ok) (by kernel_rfl) (by kernel_rfl) (TWorker.sh) h
  exact ⟨s, h1, h2, h3⟩
theorem szWorkerS_fn {s : SL TWorker} (hs : okWorkerS s) {left : Int} (hl : Room left) : Fnc Tryz.prog 25 [s.av 9 TWorker.enc, .int .i64 left] (.int .i64 (szOf (szWorkerS s) left)) :=
  szS_fn (g := 87) c25 (fun _ => rfl) hs.1 hl fun x hx left hl => TWorker.sz_fn (hs.2 x hx) hl
theorem toWorkerS_fn {s : SL TWorker} (h : szWorkerS s ≤ 1048576) : Tr Tryz.prog 38 [s.av 9 TWorker.enc] fun _ r => ∃ b : SL TWorker, r = b.av 9 TWorker.enc ∧ b.list.map TWorker.con = s.list.map TWorker.con := by
  unfold szWorkerS at h
  exact toS_fn (g := 97) (z := [.int .i64 0, .int .i64 0, .str [], .nsl, .nsl, .str [], .str [], .nsl, .int .i64 0]) (bytes := 144) c38 rfl (fun _ => rfl) (fun x => TWorker.cells x) (by omega) (by omega) fun x hx => TWorker.to_fn (by have := szL_mem (sz := TWorker.sz) hx; omega)
theorem eqWorkerS_fn {s t : SL TWorker} (h : szWorkerS s ≤ 1099511627776) (he : s.list.map TWorker.con = t.list.map TWorker.con) : Fnc Tryz.prog 52 [s.av 9 TWorker.enc, t.av 9 TWorker.enc] (.bool true) := by
  unfold szWorkerS at h
  exact eqS_fn (g := 105) (con := TWorker.con) c52 (fun _ => rfl) (by unfold mx; omega) he fun x hx y hxy => TWorker.eq_fn (by have := szL_mem (sz := TWorker.sz) hx; omega) hxy
structure THeader where
  Name : List UInt8
  Value : List UInt8
def THeader.enc (s : THeader) : List AV := [.str s.Name, .str s.Value]
@[simp] theorem THeader.len (s : THeader) : s.enc.length = 2 := (rfl)
@[simp] theorem THeader.all (s : THeader) : s.enc.take 2 = s.enc := (rfl)
@[simp] theorem THeader.g0 (s : THeader) (K : AV → Prop) : getW s.enc 0 K = K (.str s.Name) := by simp [THeader.enc]
@[simp] theorem THeader.g1 (s : THeader) (K : AV → Prop) : getW s.enc 1 K = K (.str s.Value) := by simp [THeader.enc]
theorem THeader.cells (s : THeader) : ∀ a, a ∈ s.enc → a.cell = true := by simp [THeader.enc]
def THeader.sz (s : THeader) : Nat := s.Name.length + s.Value.length
def THeader.ok (s : THeader) : Prop := s.Name.length ≤ mx ∧ s.Value.length ≤ mx
def THeader.con (s : THeader) : THeader := s
theorem THeader.sz_con (s : THeader) : s.con.sz = s.sz := rfl
theorem THeader.sh : ∀ (n : Nat) (row : List AV), ShC Tryz.prog n 202 row → ∃ s : THeader, row = s.enc ∧ s.ok := by
  intro n row h
  obtain ⟨m, hl, hf⟩ := sh_fields (l := [(9, 0), (9, 1)]) (by kernel_rfl) h
  have hl' : row.length = 2 := hl.trans (by kernel_rfl)
  match row, hl' with
  | [x0, x1], _ =>
    have h0 := hf (9, 0) (by simp)
    rw [show Tryz.prog.cellsOf 9 = 1 by kernel_rfl] at h0
    obtain ⟨v0, rfl, k0⟩ := sh_str (t := 9) (by kernel_rfl) (show ShC Tryz.prog m 9 [x0] from h0)
    have h1 := hf (9, 1) (by simp)
    rw [show Tryz.prog.cellsOf 9 = 1 by kernel_rfl] at h1
    obtain ⟨v1, rfl, k1⟩ := sh_str (t := 9) (by kernel_rfl) (show ShC Tryz.prog m 9 [x1] from h1)
    exact ⟨⟨v0, v1⟩, rfl, ⟨k0, k1⟩⟩
theorem THeader.sz_fn {s : THeader} (hs : s.ok) {left : Int} (hl : Room left) : Fnc Tryz.prog 162 [.agg s.enc, .int .i64 left] (.int .i64 (szOf s.sz left)) := by
  unfold THeader.ok at hs
  have hr := hl.2
  refine fn_of c162 (by simp [F162]) fun c => ?_
  unfold F162
  simp
  rw [szOf_wrap hs.1 hl]
  refine ⟨fun h => fin_plain ⟨by rw [szOf_neg (by simp only [THeader.sz]; omega)], rfl⟩, fun h => ?_⟩
  rw [szOf_wrap hs.2 ⟨by omega, by omega⟩]
  refine ⟨fun h => fin_plain ⟨by rw [szOf_neg (by simp only [THeader.sz]; omega)], rfl⟩, fun h => ?_⟩
  have hz : s.sz = s.Name.length + s.Value.length := rfl
  have e : szOf s.sz left = left - (s.Name.length : Int) - (s.Value.length : Int) := by
    unfold szOf
    rw [if_pos (by omega)]
    omega
  exact fin_plain ⟨by rw [e], rfl⟩
theorem THeader.to_fn {s : THeader} (h : s.sz ≤ 1048576) : Tr Tryz.prog 163 [.agg s.enc] fun _ r => ∃ b : THeader, r = .agg b.enc ∧ b.con = s.con := by
  simp only [THeader.sz] at h
  intro c
  refine con_of c163 (by simp [F163]) ?_
  unfold F163
  simp [putA]
  refine fin_plain ⟨rfl, ⟨⟨s.Name, s.Value⟩, rfl, ?_⟩, from_agg ?_⟩
  · rfl
  · simp
theorem THeader.eq_fn {a b : THeader} (h : a.sz ≤ 1099511627776) (he : a.con = b.con) : Fnc Tryz.prog 164 [.agg a.enc, .agg b.enc] (.bool true) := by
  simp only [THeader.sz] at h
  have e0 : a.Name = b.Name := (congrArg THeader.Name he : a.con.Name = b.con.Name)
  have e1 : a.Value = b.Value := (congrArg THeader.Value he : a.con.Value = b.con.Value)
  refine fn_of c164 (by simp [F164]) fun c => ?_
  unfold F164
  simp [e0, e1]
  exact fin_plain ⟨rfl, rfl⟩
def szHeaderS (s : SL THeader) : Nat := s.list.length + szL THeader.sz s.list
def okHeaderS (s : SL THeader) : Prop := s.list.length ≤ mx ∧ ∀ x, x ∈ s.list → THeader.ok x
theorem szHeaderS_con {s t : SL THeader} (h : s.list.map THeader.con = t.list.map THeader.con) : szHeaderS s = szHeaderS t := by
  unfold szHeaderS
  rw [← szL_map (con := THeader.con) THeader.sz_con s.list, ← szL_map (con := THeader.con) THeader.sz_con t.list, h]
  have := congrArg List.length h; simp at this; rw [this]
theorem shHeaderS {n : Nat} {a : AV} (h : ShC Tryz.prog n 125 [a]) : ∃ s : SL THeader, a = s.av 2 THeader.enc ∧ okHeaderS s := by
  obtain ⟨s, h1, h2, h3⟩ := sh_slc (P := Tryz.prog) (t := 125) (el := 202) (w := 2) (enc := THeader.enc) (ok := THeader.ok) (by kernel_rfl) (by kernel_rfl) (THeader.sh) h
  exact ⟨s, h1, h2, h3⟩
theorem szHeaderS_fn {s : SL THeader} (hs : okHeaderS s) {left : Int} (hl : Room left) : Fnc Tryz.prog 150 [s.av 2 THeader.enc, .int .i64 left] (.int .i64 (szOf (szHeaderS s) left)) :=
  szS_fn (g := 162) c150 (fun _ => rfl) hs.1 hl fun x hx left hl => THeader.sz_fn (hs.2 x hx) hl
theorem toHeaderS_fn {s : SL THeader} (h : szHeaderS s ≤ 1048576) : Tr Tryz.prog 153 [s.av 2 THeader.enc] fun _ r => ∃ b : SL THeader, r = b.av 2 THeader.enc ∧ b.list.map THeader.con = s.list.map THeader.con := by
  unfold szHeaderS at h
  exact toS_fn (g := 163) (z := [.str [], .str []]) (bytes := 32) c153 rfl (fun _ => rfl) (fun x => THeader.cells x) (by omega) (by omega) fun x hx => THeader.to_fn (by have := szL_mem (sz := THeader.sz) hx; omega)
theorem eqHeaderS_fn {s t : SL THeader} (h : szHeaderS s ≤ 1099511627776) (he : s.list.map THeader.con = t.list.map THeader.con) : Fnc Tryz.prog 154 [s.av 2 THeader.enc, t.av 2 THeader.enc] (.bool true) := by
  unfold szHeaderS at h
  exact eqS_fn (g := 164) (con := THeader.con) c154 (fun _ => rfl) (by unfold mx; omega) he fun x hx y hxy => THeader.eq_fn (by have := szL_mem (sz := THeader.sz) hx; omega) hxy
structure TResponse where
  Code : Int
  Headers : SL THeader
  Body : List UInt8
def TResponse.enc (s : TResponse) : List AV := [.int .i64 s.Code, s.Headers.av 2 THeader.enc, .str s.Body]
@[simp] theorem TResponse.len (s : TResponse) : s.enc.length = 3 := (rfl)
@[simp] theorem TResponse.all (s : TResponse) : s.enc.take 3 = s.enc := (rfl)
@[simp] theorem TResponse.g0 (s : TResponse) (K : AV → Prop) : getW s.enc 0 K = K (.int .i64 s.Code) := by simp [TResponse.enc]
@[simp] theorem TResponse.g1 (s : TResponse) (K : AV → Prop) : getW s.enc 1 K = K (s.Headers.av 2 THeader.enc) := by simp [TResponse.enc]
@[simp] theorem TResponse.g2 (s : TResponse) (K : AV → Prop) : getW s.enc 2 K = K (.str s.Body) := by simp [TResponse.enc]
theorem TResponse.cells (s : TResponse) : ∀ a, a ∈ s.enc → a.cell = true := by simp [TResponse.enc]
def TResponse.sz (s : TResponse) : Nat := (szHeaderS s.Headers) + s.Body.length
def TResponse.ok (s : TResponse) : Prop := okHeaderS s.Headers ∧ s.Body.length ≤ mx
def TResponse.con (s : TResponse) : TResponse := { s with Headers := s.Headers.con THeader.con }
theorem TResponse.sz_con (s : TResponse) : s.con.sz = s.sz := by
  simp [TResponse.sz, TResponse.con, szHeaderS, szL_map THeader.sz_con]
theorem TResponse.sh : ∀ (n : Nat) (row : List AV), ShC Tryz.prog n 127 row → ∃ s : TResponse, row = s.enc ∧ s.ok := by
  intro n row h
  obtain ⟨m, hl, hf⟩ := sh_fields (l := [(3, 0), (125, 1), (9, 2)]) (by kernel_rfl) h
  have hl' : row.length = 3 := hl.trans (by kernel_rfl)
  match row, hl' with
  | [x0, x1, x2], _ =>
    have h0 := hf (3, 0) (by simp)
    rw [show Tryz.prog.cellsOf 3 = 1 by kernel_rfl] at h0
    obtain ⟨v0, rfl, _⟩ := sh_int (k := .i64) (t := 3) (by kernel_rfl) (show ShC Tryz.prog m 3 [x0] from h0)
    have h1 := hf (125, 1) (by simp)
    rw [show Tryz.prog.cellsOf 125 = 1 by kernel_rfl] at h1
    obtain ⟨v1, rfl, k1⟩ := shHeaderS (show ShC Tryz.prog m 125 [x1] from h1)
    have h2 := hf (9, 2) (by simp)
    rw [show Tryz.prog.cellsOf 9 = 1 by kernel_rfl] at h2
    obtain ⟨v2, rfl, k2⟩ := sh_str (t := 9) (by kernel_rfl) (show ShC Tryz.prog m 9 [x2] from h2)
    exact ⟨⟨v0, v1, v2⟩, rfl, ⟨k1, k2⟩⟩
theorem TResponse.sz_fn {s : TResponse} (hs : s.ok) {left : Int} (hl : Room left) : Fnc Tryz.prog 133 [.agg s.enc, .int .i64 left] (.int .i64 (szOf s.sz left)) := by
  unfold TResponse.ok at hs
  have hr := hl.2
  refine fn_of c133 (by simp [F133]) fun c => ?_
  unfold F133
  simp
  refine call_fn0 (szHeaderS_fn hs.1 hl) .int fun _ _ => ?_
  simp
  refine ⟨fun h => fin_plain ⟨by have := szOf_lt h; rw [szOf_neg (by simp only [TResponse.sz]; omega)], rfl⟩, fun h => ?_⟩
  obtain ⟨h0, k0⟩ := szOf_ge h
  rw [h0]
  rw [szOf_wrap hs.2 ⟨by omega, by omega⟩]
  refine ⟨fun h => fin_plain ⟨by rw [szOf_neg (by simp only [TResponse.sz]; omega)], rfl⟩, fun h => ?_⟩
  have hz : s.sz = (szHeaderS s.Headers) + s.Body.length := rfl
  have e : szOf s.sz left = left - ((szHeaderS s.Headers) : Int) - (s.Body.length : Int) := by
    unfold szOf
    rw [if_pos (by omega)]
    omega
  exact fin_plain ⟨by rw [e], rfl⟩
theorem TResponse.to_fn {s : TResponse} (h : s.sz ≤ 1048576) : Tr Tryz.prog 137 [.agg s.enc] fun _ r => ∃ b : TResponse, r = .agg b.enc ∧ b.con = s.con := by
  simp only [TResponse.sz] at h
  intro c
  refine con_of c137 (by simp [F137]) ?_
  unfold F137
  simp [putA]
  refine call_tree0 (toHeaderS_fn (by omega)) fun r1 c1 hc1 ⟨b1, e1, q1⟩ f1 => ?_
  subst e1
  simp [putA]
  refine fin_plain ⟨rfl, ⟨⟨s.Code, b1, s.Body⟩, rfl, ?_⟩, from_agg ?_⟩
  · simp [TResponse.con, SL.con, SL.pcon, q1]
  · simp
    exact f1.mono (by omega)
theorem TResponse.eq_fn {a b : TResponse} (h : a.sz ≤ 1099511627776) (he : a.con = b.con) : Fnc Tryz.prog 141 [.agg a.enc, .agg b.enc] (.bool true) := by
  simp only [TResponse.sz] at h
  have e0 : a.Code = b.Code := (congrArg TResponse.Code he : a.con.Code = b.con.Code)
  have e1 : a.Headers.list.map THeader.con = b.Headers.list.map THeader.con := congrArg (fun s => s.Headers.list) he
  have e2 : a.Body = b.Body := (congrArg TResponse.Body he : a.con.Body = b.con.Body)
  refine fn_of c141 (by simp [F141]) fun c => ?_
  unfold F141
  simp [e0, e2]
  refine call_fn0 (eqHeaderS_fn (by omega) e1) .bool fun _ _ => ?_
  simp [e0, e2]
  exact fin_plain ⟨rfl, rfl⟩
structure TAnswer where
  Id : Int
  Session : List UInt8
  Files : SL TFile
  Request : TRequest
  Before : List UInt8
  Response : TResponse
  After : List UInt8
def TAnswer.enc (s : TAnswer) : List AV := [.int .i64 s.Id, .str s.Session, s.Files.av 3 TFile.enc, .str s.Request.Path, s.Request.Query.av 2 TPair.enc, s.Request.Cookies.av 2 TPair.enc, .str s.Before, .int .i64 s.Response.Code, s.Response.Headers.av 2 THeader.enc, .str s.Response.Body, .str s.After]
@[simp] theorem TAnswer.len (s : TAnswer) : s.enc.length = 11 := (rfl)
@[simp] theorem TAnswer.all (s : TAnswer) : s.enc.take 11 = s.enc := (rfl)
@[simp] theorem TAnswer.g0 (s : TAnswer) (K : AV → Prop) : getW s.enc 0 K = K (.int .i64 s.Id) := by simp [TAnswer.enc]
@[simp] theorem TAnswer.g1 (s : TAnswer) (K : AV → Prop) : getW s.enc 1 K = K (.str s.Session) := by simp [TAnswer.enc]
@[simp] theorem TAnswer.g2 (s : TAnswer) (K : AV → Prop) : getW s.enc 2 K = K (s.Files.av 3 TFile.enc) := by simp [TAnswer.enc]
@[simp] theorem TAnswer.g3 (s : TAnswer) (K : AV → Prop) : getW s.enc 3 K = K (.str s.Request.Path) := by simp [TAnswer.enc]
@[simp] theorem TAnswer.g4 (s : TAnswer) (K : AV → Prop) : getW s.enc 4 K = K (s.Request.Query.av 2 TPair.enc) := by simp [TAnswer.enc]
@[simp] theorem TAnswer.g5 (s : TAnswer) (K : AV → Prop) : getW s.enc 5 K = K (s.Request.Cookies.av 2 TPair.enc) := by simp [TAnswer.enc]
@[simp] theorem TAnswer.g6 (s : TAnswer) (K : AV → Prop) : getW s.enc 6 K = K (.str s.Before) := by simp [TAnswer.enc]
@[simp] theorem TAnswer.g7 (s : TAnswer) (K : AV → Prop) : getW s.enc 7 K = K (.int .i64 s.Response.Code) := by simp [TAnswer.enc]
@[simp] theorem TAnswer.g8 (s : TAnswer) (K : AV → Prop) : getW s.enc 8 K = K (s.Response.Headers.av 2 THeader.enc) := by simp [TAnswer.enc]
@[simp] theorem TAnswer.g9 (s : TAnswer) (K : AV → Prop) : getW s.enc 9 K = K (.str s.Response.Body) := by simp [TAnswer.enc]
@[simp] theorem TAnswer.g10 (s : TAnswer) (K : AV → Prop) : getW s.enc 10 K = K (.str s.After) := by simp [TAnswer.enc]
@[simp] theorem TAnswer.seg3 (s : TAnswer) : (s.enc.drop 3).take 3 = s.Request.enc := (rfl)
@[simp] theorem TAnswer.seg7 (s : TAnswer) : (s.enc.drop 7).take 3 = s.Response.enc := (rfl)
theorem TAnswer.cells (s : TAnswer) : ∀ a, a ∈ s.enc → a.cell = true := by simp [TAnswer.enc]
def TAnswer.sz (s : TAnswer) : Nat := s.Session.length + (szFileS s.Files) + s.Request.sz + s.Before.length + s.Response.sz + s.After.length
def TAnswer.ok (s : TAnswer) : Prop := s.Session.length ≤ mx ∧ okFileS s.Files ∧ s.Request.ok ∧ s.Before.length ≤ mx ∧ s.Response.ok ∧ s.After.length ≤ mx
def TAnswer.con (s : TAnswer) : TAnswer := { s with Files := s.Files.con TFile.con, Request := s.Request.con, Response := s.Response.con }
theorem TAnswer.sz_con (s : TAnswer) : s.con.sz = s.sz := by
  simp [TAnswer.sz, TAnswer.con, szFileS, szL_map TFile.sz_con, TRequest.sz_con, TResponse.sz_con]
theorem TAnswer.sh : ∀ (n : Nat) (row : List AV), ShC Tryz.prog n 129 row → ∃ s : TAnswer, row = s.enc ∧ s.ok := by
  intro n row h
  obtain ⟨m, hl, hf⟩ := sh_fields (l := [(3, 0), (9, 1), (22, 2), (45, 3), (9, 6), (127, 7), (9, 10)]) (by kernel_rfl) h
  have hl' : row.length = 11 := hl.trans (by kernel_rfl)
  match row, hl' with
  | [x0, x1, x2, x3, x4, x5, x6, x7, x8, x9, x10], _ =>
    have h0 := hf (3, 0) (by simp)
    rw [show Tryz.prog.cellsOf 3 = 1 by kernel_rfl] at h0
    obtain ⟨v0, rfl, _⟩ := sh_int (k := .i64) (t := 3) (by kernel_rfl) (show ShC Tryz.prog m 3 [x0] from h0)
    have h1 := hf (9, 1) (by simp)
    rw [show Tryz.prog.cellsOf 9 = 1 by kernel_rfl] at h1
    obtain ⟨v1, rfl, k1⟩ := sh_str (t := 9) (by kernel_rfl) (show ShC Tryz.prog m 9 [x1] from h1)
    have h2 := hf (22, 2) (by simp)
    rw [show Tryz.prog.cellsOf 22 = 1 by kernel_rfl] at h2
    obtain ⟨v2, rfl, k2⟩ := shFileS (show ShC Tryz.prog m 22 [x2] from h2)
    have h3 := hf (45, 3) (by simp)
    rw [show Tryz.prog.cellsOf 45 = 3 by kernel_rfl] at h3
    obtain ⟨v3, u3, k3⟩ := TRequest.sh m _ (show ShC Tryz.prog m 45 [x3, x4, x5] from h3)
    simp only [TRequest.enc, List.cons.injEq, and_true] at u3
    obtain ⟨rfl, rfl, rfl⟩ := u3
    have h4 := hf (9, 6) (by simp)
    rw [show Tryz.prog.cellsOf 9 = 1 by kernel_rfl] at h4
    obtain ⟨v4, rfl, k4⟩ := sh_str (t := 9) (by kernel_rfl) (show ShC Tryz.prog m 9 [x6] from h4)
    have h5 := hf (127, 7) (by simp)
    rw [show Tryz.prog.cellsOf 127 = 3 by kernel_rfl] at h5
    obtain ⟨v5, u5, k5⟩ := TResponse.sh m _ (show ShC Tryz.prog m 127 [x7, x8, x9] from h5)
    simp only [TResponse.enc, List.cons.injEq, and_true] at u5
    obtain ⟨rfl, rfl, rfl⟩ := u5
    have h6 := hf (9, 10) (by simp)
    rw [show Tryz.prog.cellsOf 9 = 1 by kernel_rfl] at h6
    obtain ⟨v6, rfl, k6⟩ := sh_str (t := 9) (by kernel_rfl) (show ShC Tryz.prog m 9 [x10] from h6)
    exact ⟨⟨v0, v1, v2, v3, v4, v5, v6⟩, rfl, ⟨k1, k2, k3, k4, k5, k6⟩⟩
theorem TAnswer.sz_fn {s : TAnswer} (hs : s.ok) {left : Int} (hl : Room left) : Fnc Tryz.prog 88 [.agg s.enc, .int .i64 left] (.int .i64 (szOf s.sz left)) := by
  unfold TAnswer.ok at hs
  have hr := hl.2
  refine fn_of c88 (by simp [F88]) fun c => ?_
  unfold F88
  simp
  rw [szOf_wrap hs.1 hl]
  refine ⟨fun h => fin_plain ⟨by rw [szOf_neg (by simp only [TAnswer.sz]; omega)], rfl⟩, fun h => ?_⟩
  refine call_fn0 (szFileS_fn hs.2.1 ⟨by omega, by omega⟩) .int fun _ _ => ?_
  simp
  refine ⟨fun h => fin_plain ⟨by have := szOf_lt h; rw [szOf_neg (by simp only [TAnswer.sz]; omega)], rfl⟩, fun h => ?_⟩
  obtain ⟨h1, k1⟩ := szOf_ge h
  rw [h1]
  refine call_fn0 (TRequest.sz_fn hs.2.2.1 ⟨by omega, by omega⟩) .int fun _ _ => ?_
  simp
  refine ⟨fun h => fin_plain ⟨by have := szOf_lt h; rw [szOf_neg (by simp only [TAnswer.sz]; omega)], rfl⟩, fun h => ?_⟩
  obtain ⟨h2, k2⟩ := szOf_ge h
  rw [h2]
  rw [szOf_wrap hs.2.2.2.1 ⟨by omega, by omega⟩]
  refine ⟨fun h => fin_plain ⟨by rw [szOf_neg (by simp only [TAnswer.sz]; omega)], rfl⟩, fun h => ?_⟩
  refine call_fn0 (TResponse.sz_fn hs.2.2.2.2.1 ⟨by omega, by omega⟩) .int fun _ _ => ?_
  simp
  refine ⟨fun h => fin_plain ⟨by have := szOf_lt h; rw [szOf_neg (by simp only [TAnswer.sz]; omega)], rfl⟩, fun h => ?_⟩
  obtain ⟨h4, k4⟩ := szOf_ge h
  rw [h4]
  rw [szOf_wrap hs.2.2.2.2.2 ⟨by omega, by omega⟩]
  refine ⟨fun h => fin_plain ⟨by rw [szOf_neg (by simp only [TAnswer.sz]; omega)], rfl⟩, fun h => ?_⟩
  have hz : s.sz = s.Session.length + (szFileS s.Files) + s.Request.sz + s.Before.length + s.Response.sz + s.After.length := rfl
  have e : szOf s.sz left = left - (s.Session.length : Int) - ((szFileS s.Files) : Int) - (s.Request.sz : Int) - (s.Before.length : Int) - (s.Response.sz : Int) - (s.After.length : Int) := by
    unfold szOf
    rw [if_pos (by omega)]
    omega
  exact fin_plain ⟨by rw [e], rfl⟩
theorem TAnswer.to_fn {s : TAnswer} (h : s.sz ≤ 1048576) : Tr Tryz.prog 98 [.agg s.enc] fun _ r => ∃ b : TAnswer, r = .agg b.enc ∧ b.con = s.con := by
  simp only [TAnswer.sz] at h
  intro c
  refine con_of c98 (by simp [F98]) ?_
  unfold F98
  simp [putA, TRequest.enc, TResponse.enc]
  refine call_tree0 (toFileS_fn (by omega)) fun r2 c2 hc2 ⟨b2, e2, q2⟩ f2 => ?_
  subst e2
  simp [putA, TRequest.enc, TResponse.enc]
  refine call_tree0 (TRequest.to_fn (by omega)) fun r3 c3 hc3 ⟨b3, e3, q3⟩ f3 => ?_
  subst e3
  simp [putA, TRequest.enc, TResponse.enc]
  refine call_tree0 (TResponse.to_fn (by omega)) fun r5 c5 hc5 ⟨b5, e5, q5⟩ f5 => ?_
  subst e5
  simp [putA, TRequest.enc, TResponse.enc]
  refine fin_plain ⟨rfl, ⟨⟨s.Id, s.Session, b2, b3, s.Before, b5, s.After⟩, rfl, ?_⟩, from_agg ?_⟩
  · simp [TAnswer.con, SL.con, SL.pcon, q2, q3, q5]
  · simp
    exact ⟨f2.mono (by omega), (from_agg_mem f3 _ (by simp [TRequest.enc])).mono (by omega), (from_agg_mem f3 _ (by simp [TRequest.enc])).mono (by omega), (from_agg_mem f5 _ (by simp [TResponse.enc])).mono (by omega)⟩
theorem TAnswer.eq_fn {a b : TAnswer} (h : a.sz ≤ 1099511627776) (he : a.con = b.con) : Fnc Tryz.prog 106 [.agg a.enc, .agg b.enc] (.bool true) := by
  simp only [TAnswer.sz] at h
  have e0 : a.Id = b.Id := (congrArg TAnswer.Id he : a.con.Id = b.con.Id)
  have e1 : a.Session = b.Session := (congrArg TAnswer.Session he : a.con.Session = b.con.Session)
  have e2 : a.Files.list.map TFile.con = b.Files.list.map TFile.con := congrArg (fun s => s.Files.list) he
  have e3 : a.Request.con = b.Request.con := congrArg TAnswer.Request he
  have e4 : a.Before = b.Before := (congrArg TAnswer.Before he : a.con.Before = b.con.Before)
  have e5 : a.Response.con = b.Response.con := congrArg TAnswer.Response he
  have e6 : a.After = b.After := (congrArg TAnswer.After he : a.con.After = b.con.After)
  refine fn_of c106 (by simp [F106]) fun c => ?_
  unfold F106
  simp [e0, e1, e4, e6]
  refine call_fn0 (eqFileS_fn (by omega) e2) .bool fun _ _ => ?_
  simp [e0, e1, e4, e6]
  refine call_fn0 (TRequest.eq_fn (by omega) e3) .bool fun _ _ => ?_
  simp [e0, e1, e4, e6]
  refine call_fn0 (TResponse.eq_fn (by omega) e5) .bool fun _ _ => ?_
  simp [e0, e1, e4, e6]
  exact fin_plain ⟨rfl, rfl⟩
def szAnswerS (s : SL TAnswer) : Nat := s.list.length + szL TAnswer.sz s.list
def okAnswerS (s : SL TAnswer) : Prop := s.list.length ≤ mx ∧ ∀ x, x ∈ s.list → TAnswer.ok x
theorem szAnswerS_con {s t : SL TAnswer} (h : s.list.map TAnswer.con = t.list.map TAnswer.con) : szAnswerS s = szAnswerS t := by
  unfold szAnswerS
  rw [← szL_map (con := TAnswer.con) TAnswer.sz_con s.list, ← szL_map (con := TAnswer.con) TAnswer.sz_con t.list, h]
  have := congrArg List.length h; simp at this; rw [this]
theorem shAnswerS {n : Nat} {a : AV} (h : ShC Tryz.prog n 27 [a]) : ∃ s : SL TAnswer, a = s.av 11 TAnswer.enc ∧ okAnswerS s := by
  obtain ⟨s, h1, h2, h3⟩ := sh_slc (P := Tryz.prog) (t := 27) (el := 129) (w := 11) (enc := TAnswer.enc) (ok := TAnswer.ok) (by kernel_rfl) (by kernel_rfl) (TAnswer.sh) h
  exact ⟨s, h1, h2, h3⟩
theorem szAnswerS_fn {s : SL TAnswer} (hs : okAnswerS s) {left : Int} (hl : Room left) : Fnc Tryz.prog 26 [s.av 11 TAnswer.enc, .int .i64 left] (.int .i64 (szOf (szAnswerS s) left)) :=
  szS_fn (g := 88) c26 (fun _ => rfl) hs.1 hl fun x hx left hl => TAnswer.sz_fn (hs.2 x hx) hl
theorem toAnswerS_fn {s : SL TAnswer} (h : szAnswerS s ≤ 1048576) : Tr Tryz.prog 39 [s.av 11 TAnswer.enc] fun _ r => ∃ b : SL TAnswer, r = b.av 11 TAnswer.enc ∧ b.list.map TAnswer.con = s.list.map TAnswer.con := by
  unfold szAnswerS at h
  exact toS_fn (g := 98) (z := [.int .i64 0, .str [], .nsl, .str [], .nsl, .nsl, .str [], .int .i64 0, .nsl, .str [], .str []]) (bytes := 192) c39 rfl (fun _ => rfl) (fun x => TAnswer.cells x) (by omega) (by omega) fun x hx => TAnswer.to_fn (by have := szL_mem (sz := TAnswer.sz) hx; omega)
theorem eqAnswerS_fn {s t : SL TAnswer} (h : szAnswerS s ≤ 1099511627776) (he : s.list.map TAnswer.con = t.list.map TAnswer.con) : Fnc Tryz.prog 53 [s.av 11 TAnswer.enc, t.av 11 TAnswer.enc] (.bool true) := by
  unfold szAnswerS at h
  exact eqS_fn (g := 106) (con := TAnswer.con) c53 (fun _ => rfl) (by unfold mx; omega) he fun x hx y hxy => TAnswer.eq_fn (by have := szL_mem (sz := TAnswer.sz) hx; omega) hxy
structure TServer where
  Files : SL TFile
  Lines : SL TLine
  Sessions : SL TSession
  Queue : SL TJob
  Workers : SL TWorker
  Done : SL TAnswer
  Next : Int
  Now : Int
def TServer.enc (s : TServer) : List AV := [s.Files.av 3 TFile.enc, s.Lines.av 4 TLine.enc, s.Sessions.av 4 TSession.enc, s.Queue.av 5 TJob.enc, s.Workers.av 9 TWorker.enc, s.Done.av 11 TAnswer.enc, .int .i64 s.Next, .int .i64 s.Now]
@[simp] theorem TServer.len (s : TServer) : s.enc.length = 8 := (rfl)
@[simp] theorem TServer.all (s : TServer) : s.enc.take 8 = s.enc := (rfl)
@[simp] theorem TServer.g0 (s : TServer) (K : AV → Prop) : getW s.enc 0 K = K (s.Files.av 3 TFile.enc) := by simp [TServer.enc]
@[simp] theorem TServer.g1 (s : TServer) (K : AV → Prop) : getW s.enc 1 K = K (s.Lines.av 4 TLine.enc) := by simp [TServer.enc]
@[simp] theorem TServer.g2 (s : TServer) (K : AV → Prop) : getW s.enc 2 K = K (s.Sessions.av 4 TSession.enc) := by simp [TServer.enc]
@[simp] theorem TServer.g3 (s : TServer) (K : AV → Prop) : getW s.enc 3 K = K (s.Queue.av 5 TJob.enc) := by simp [TServer.enc]
@[simp] theorem TServer.g4 (s : TServer) (K : AV → Prop) : getW s.enc 4 K = K (s.Workers.av 9 TWorker.enc) := by simp [TServer.enc]
@[simp] theorem TServer.g5 (s : TServer) (K : AV → Prop) : getW s.enc 5 K = K (s.Done.av 11 TAnswer.enc) := by simp [TServer.enc]
@[simp] theorem TServer.g6 (s : TServer) (K : AV → Prop) : getW s.enc 6 K = K (.int .i64 s.Next) := by simp [TServer.enc]
@[simp] theorem TServer.g7 (s : TServer) (K : AV → Prop) : getW s.enc 7 K = K (.int .i64 s.Now) := by simp [TServer.enc]
theorem TServer.cells (s : TServer) : ∀ a, a ∈ s.enc → a.cell = true := by simp [TServer.enc]
def TServer.sz (s : TServer) : Nat := (szFileS s.Files) + (szLineS s.Lines) + (szSessionS s.Sessions) + (szJobS s.Queue) + (szWorkerS s.Workers) + (szAnswerS s.Done)
def TServer.ok (s : TServer) : Prop := okFileS s.Files ∧ okLineS s.Lines ∧ okSessionS s.Sessions ∧ okJobS s.Queue ∧ okWorkerS s.Workers ∧ okAnswerS s.Done
def TServer.con (s : TServer) : TServer := { s with Files := s.Files.con TFile.con, Lines := s.Lines.con TLine.con, Sessions := s.Sessions.con TSession.con, Queue := s.Queue.con TJob.con, Workers := s.Workers.con TWorker.con, Done := s.Done.con TAnswer.con }
theorem TServer.sz_con (s : TServer) : s.con.sz = s.sz := by
  simp [TServer.sz, TServer.con, szFileS, szLineS, szSessionS, szJobS, szWorkerS, szAnswerS, szL_map TFile.sz_con, szL_map TLine.sz_con, szL_map TSession.sz_con, szL_map TJob.sz_con, szL_map TWorker.sz_con, szL_map TAnswer.sz_con]
theorem TServer.sh : ∀ (n : Nat) (row : List AV), ShC Tryz.prog n 29 row → ∃ s : TServer, row = s.enc ∧ s.ok := by
  intro n row h
  obtain ⟨m, hl, hf⟩ := sh_fields (l := [(22, 0), (23, 1), (24, 2), (25, 3), (26, 4), (27, 5), (3, 6), (3, 7)]) (by kernel_rfl) h
  have hl' : row.length = 8 := hl.trans (by kernel_rfl)
  match row, hl' with
  | [x0, x1, x2, x3, x4, x5, x6, x7], _ =>
    have h0 := hf (22, 0) (by simp)
    rw [show Tryz.prog.cellsOf 22 = 1 by kernel_rfl] at h0
    obtain ⟨v0, rfl, k0⟩ := shFileS (show ShC Tryz.prog m 22 [x0] from h0)
    have h1 := hf (23, 1) (by simp)
    rw [show Tryz.prog.cellsOf 23 = 1 by kernel_rfl] at h1
    obtain ⟨v1, rfl, k1⟩ := shLineS (show ShC Tryz.prog m 23 [x1] from h1)
    have h2 := hf (24, 2) (by simp)
    rw [show Tryz.prog.cellsOf 24 = 1 by kernel_rfl] at h2
    obtain ⟨v2, rfl, k2⟩ := shSessionS (show ShC Tryz.prog m 24 [x2] from h2)
    have h3 := hf (25, 3) (by simp)
    rw [show Tryz.prog.cellsOf 25 = 1 by kernel_rfl] at h3
    obtain ⟨v3, rfl, k3⟩ := shJobS (show ShC Tryz.prog m 25 [x3] from h3)
    have h4 := hf (26, 4) (by simp)
    rw [show Tryz.prog.cellsOf 26 = 1 by kernel_rfl] at h4
    obtain ⟨v4, rfl, k4⟩ := shWorkerS (show ShC Tryz.prog m 26 [x4] from h4)
    have h5 := hf (27, 5) (by simp)
    rw [show Tryz.prog.cellsOf 27 = 1 by kernel_rfl] at h5
    obtain ⟨v5, rfl, k5⟩ := shAnswerS (show ShC Tryz.prog m 27 [x5] from h5)
    have h6 := hf (3, 6) (by simp)
    rw [show Tryz.prog.cellsOf 3 = 1 by kernel_rfl] at h6
    obtain ⟨v6, rfl, _⟩ := sh_int (k := .i64) (t := 3) (by kernel_rfl) (show ShC Tryz.prog m 3 [x6] from h6)
    have h7 := hf (3, 7) (by simp)
    rw [show Tryz.prog.cellsOf 3 = 1 by kernel_rfl] at h7
    obtain ⟨v7, rfl, _⟩ := sh_int (k := .i64) (t := 3) (by kernel_rfl) (show ShC Tryz.prog m 3 [x7] from h7)
    exact ⟨⟨v0, v1, v2, v3, v4, v5, v6, v7⟩, rfl, ⟨k0, k1, k2, k3, k4, k5⟩⟩
theorem TServer.sz_fn {s : TServer} (hs : s.ok) {left : Int} (hl : Room left) : Fnc Tryz.prog 6 [.agg s.enc, .int .i64 left] (.int .i64 (szOf s.sz left)) := by
  unfold TServer.ok at hs
  have hr := hl.2
  refine fn_of c6 (by simp [F6]) fun c => ?_
  unfold F6
  simp
  refine call_fn0 (szFileS_fn hs.1 hl) .int fun _ _ => ?_
  simp
  refine ⟨fun h => fin_plain ⟨by have := szOf_lt h; rw [szOf_neg (by simp only [TServer.sz]; omega)], rfl⟩, fun h => ?_⟩
  obtain ⟨h0, k0⟩ := szOf_ge h
  rw [h0]
  refine call_fn0 (szLineS_fn hs.2.1 ⟨by omega, by omega⟩) .int fun _ _ => ?_
  simp
  refine ⟨fun h => fin_plain ⟨by have := szOf_lt h; rw [szOf_neg (by simp only [TServer.sz]; omega)], rfl⟩, fun h => ?_⟩
  obtain ⟨h1, k1⟩ := szOf_ge h
  rw [h1]
  refine call_fn0 (szSessionS_fn hs.2.2.1 ⟨by omega, by omega⟩) .int fun _ _ => ?_
  simp
  refine ⟨fun h => fin_plain ⟨by have := szOf_lt h; rw [szOf_neg (by simp only [TServer.sz]; omega)], rfl⟩, fun h => ?_⟩
  obtain ⟨h2, k2⟩ := szOf_ge h
  rw [h2]
  refine call_fn0 (szJobS_fn hs.2.2.2.1 ⟨by omega, by omega⟩) .int fun _ _ => ?_
  simp
  refine ⟨fun h => fin_plain ⟨by have := szOf_lt h; rw [szOf_neg (by simp only [TServer.sz]; omega)], rfl⟩, fun h => ?_⟩
  obtain ⟨h3, k3⟩ := szOf_ge h
  rw [h3]
  refine call_fn0 (szWorkerS_fn hs.2.2.2.2.1 ⟨by omega, by omega⟩) .int fun _ _ => ?_
  simp
  refine ⟨fun h => fin_plain ⟨by have := szOf_lt h; rw [szOf_neg (by simp only [TServer.sz]; omega)], rfl⟩, fun h => ?_⟩
  obtain ⟨h4, k4⟩ := szOf_ge h
  rw [h4]
  refine call_fn0 (szAnswerS_fn hs.2.2.2.2.2 ⟨by omega, by omega⟩) .int fun _ _ => ?_
  simp
  refine ⟨fun h => fin_plain ⟨by have := szOf_lt h; rw [szOf_neg (by simp only [TServer.sz]; omega)], rfl⟩, fun h => ?_⟩
  obtain ⟨h5, k5⟩ := szOf_ge h
  rw [h5]
  have hz : s.sz = (szFileS s.Files) + (szLineS s.Lines) + (szSessionS s.Sessions) + (szJobS s.Queue) + (szWorkerS s.Workers) + (szAnswerS s.Done) := rfl
  have e : szOf s.sz left = left - ((szFileS s.Files) : Int) - ((szLineS s.Lines) : Int) - ((szSessionS s.Sessions) : Int) - ((szJobS s.Queue) : Int) - ((szWorkerS s.Workers) : Int) - ((szAnswerS s.Done) : Int) := by
    unfold szOf
    rw [if_pos (by omega)]
    omega
  exact fin_plain ⟨by rw [e], rfl⟩
theorem TServer.to_fn {s : TServer} (h : s.sz ≤ 1048576) : Tr Tryz.prog 8 [.agg s.enc] fun _ r => ∃ b : TServer, r = .agg b.enc ∧ b.con = s.con := by
  simp only [TServer.sz] at h
  intro c
  refine con_of c8 (by simp [F8]) ?_
  unfold F8
  simp [putA]
  refine call_tree0 (toFileS_fn (by omega)) fun r0 c0 hc0 ⟨b0, e0, q0⟩ f0 => ?_
  subst e0
  simp [putA]
  refine call_tree0 (toLineS_fn (by omega)) fun r1 c1 hc1 ⟨b1, e1, q1⟩ f1 => ?_
  subst e1
  simp [putA]
  refine call_tree0 (toSessionS_fn (by omega)) fun r2 c2 hc2 ⟨b2, e2, q2⟩ f2 => ?_
  subst e2
  simp [putA]
  refine call_tree0 (toJobS_fn (by omega)) fun r3 c3 hc3 ⟨b3, e3, q3⟩ f3 => ?_
  subst e3
  simp [putA]
  refine call_tree0 (toWorkerS_fn (by omega)) fun r4 c4 hc4 ⟨b4, e4, q4⟩ f4 => ?_
  subst e4
  simp [putA]
  refine call_tree0 (toAnswerS_fn (by omega)) fun r5 c5 hc5 ⟨b5, e5, q5⟩ f5 => ?_
  subst e5
  simp [putA]
  refine fin_plain ⟨rfl, ⟨⟨b0, b1, b2, b3, b4, b5, s.Next, s.Now⟩, rfl, ?_⟩, from_agg ?_⟩
  · simp [TServer.con, SL.con, SL.pcon, q0, q1, q2, q3, q4, q5]
  · simp
    exact ⟨f0.mono (by omega), f1.mono (by omega), f2.mono (by omega), f3.mono (by omega), f4.mono (by omega), f5.mono (by omega)⟩
theorem TServer.eq_fn {a b : TServer} (h : a.sz ≤ 1099511627776) (he : a.con = b.con) : Fnc Tryz.prog 10 [.agg a.enc, .agg b.enc] (.bool true) := by
  simp only [TServer.sz] at h
  have e0 : a.Files.list.map TFile.con = b.Files.list.map TFile.con := congrArg (fun s => s.Files.list) he
  have e1 : a.Lines.list.map TLine.con = b.Lines.list.map TLine.con := congrArg (fun s => s.Lines.list) he
  have e2 : a.Sessions.list.map TSession.con = b.Sessions.list.map TSession.con := congrArg (fun s => s.Sessions.list) he
  have e3 : a.Queue.list.map TJob.con = b.Queue.list.map TJob.con := congrArg (fun s => s.Queue.list) he
  have e4 : a.Workers.list.map TWorker.con = b.Workers.list.map TWorker.con := congrArg (fun s => s.Workers.list) he
  have e5 : a.Done.list.map TAnswer.con = b.Done.list.map TAnswer.con := congrArg (fun s => s.Done.list) he
  have e6 : a.Next = b.Next := (congrArg TServer.Next he : a.con.Next = b.con.Next)
  have e7 : a.Now = b.Now := (congrArg TServer.Now he : a.con.Now = b.con.Now)
  refine fn_of c10 (by simp [F10]) fun c => ?_
  unfold F10
  simp [e6, e7]
  refine call_fn0 (eqFileS_fn (by omega) e0) .bool fun _ _ => ?_
  simp [e6, e7]
  refine call_fn0 (eqLineS_fn (by omega) e1) .bool fun _ _ => ?_
  simp [e6, e7]
  refine call_fn0 (eqSessionS_fn (by omega) e2) .bool fun _ _ => ?_
  simp [e6, e7]
  refine call_fn0 (eqJobS_fn (by omega) e3) .bool fun _ _ => ?_
  simp [e6, e7]
  refine call_fn0 (eqWorkerS_fn (by omega) e4) .bool fun _ _ => ?_
  simp [e6, e7]
  refine call_fn0 (eqAnswerS_fn (by omega) e5) .bool fun _ _ => ?_
  simp [e6, e7]
  exact fin_plain ⟨rfl, rfl⟩
end A
end Go.Proofs.YtknpgemlpbclkaaGreatDoor

/-
  A name for the typed texts of this seat. No condition.
-/

/-
  The pairs' bounds, of the reference and of the program. No condition.
-/


namespace Go.Proofs.YtknpgemlpbclkaaGreatDoor
namespace A
set_option linter.unusedVariables false
set_option linter.unusedSimpArgs false
set_option maxRecDepth 100000

def okPair (p : TPair) : Bool := decide (p.Name.length ≤ 60) && decide (p.Value.length ≤ 60)
def okP (l : List TPair) : Bool := l.all okPair && decide (l.length ≤ 12)
theorem okP_sz {l : List TPair} (h : okP l = true) : l.length ≤ 12 ∧ szL TPair.sz l ≤ 120 * l.length := by
  simp only [okP, Bool.and_eq_true, decide_eq_true_eq] at h
  refine ⟨h.2, ?_⟩
  have h1 := h.1
  clear h
  induction l with
  | nil => simp [szL]
  | cons p l ih =>
    simp only [List.all_cons, Bool.and_eq_true, okPair, decide_eq_true_eq] at h1
    have := ih h1.2
    simp [szL, TPair.sz] at this ⊢; omega
/-! ### the pairs' bounds -/
theorem TPair.flat' : Flat TPair.enc := fun x a ha => by
  simp [TPair.enc] at ha
  rcases ha with rfl | rfl <;> exact ⟨rfl, free_str _⟩
theorem TPair.free (x : TPair) : ∀ a, a ∈ x.enc → Free a := fun a ha => (TPair.flat' x a ha).2
theorem spec_pairs {s : SL TPair} (hn : s.list.length ≤ mx) : Fnc Tryz.prog 135 [s.av 2 TPair.enc] (.bool (okP s.list)) := by
  refine fn_of c135 (by simp [F135]) fun c => ?_
  unfold F135
  simp
  refine loop_drop s.list.length (fun i e H c' => e 0 = s.av 2 TPair.enc ∧ e 3 = .int .i64 i ∧ (s.list.take i).all okPair = true ∧ H = []) ⟨rfl, rfl, by simp, rfl⟩ ?_
  intro i e H c hi ⟨e0, e3, ha, hH⟩ N hN
  subst hH
  by_cases h : i < s.list.length
  · have hb : s.list[i]? = some s.list[i] := List.getElem?_eq_getElem h
    have bad : okPair s.list[i] = false → okP s.list = false := fun hb => by
      unfold okP
      have : s.list.all okPair = false := by rw [List.all_eq_false]; exact ⟨_, List.getElem_mem h, by simp [hb]⟩
      rw [this]; rfl
    have good : okPair s.list[i] = true → (s.list.take (i + 1)).all okPair = true := fun hx => all_step ha h hx
    have hstep : IntKind.i64.wrap ((i : Int) + 1) = ((i + 1 : Nat) : Int) := by rw [step64 hn h]; rfl
    generalize s.list[i] = p at hb bad good
    by_cases h1 : p.Name.length ≤ 60
    · have k1 : ¬ (60 < (p.Name.length : Int)) := by omega
      by_cases h2 : p.Value.length ≤ 60
      · have k2 : ¬ (60 < (p.Value.length : Int)) := by omega
        simp [e0, e3, h, getW_of hb, k1, k2, hstep]
        exact hN _ _ _ _ h (List.Sublist.refl _) ⟨by simp [upd, e0], by simp [upd], good (by simp [okPair, h1, h2]), rfl⟩
      · have k2 : (60 < (p.Value.length : Int)) := by omega
        simp [e0, e3, h, getW_of hb, k1, k2, hstep]
        exact fin_plain ⟨by rw [bad (by simp [okPair, h2])], rfl⟩
    · have k1 : (60 < (p.Name.length : Int)) := by omega
      simp [e0, e3, h, getW_of hb, k1, hstep]
      exact fin_plain ⟨by rw [bad (by simp [okPair, h1])], rfl⟩
  · have h1 : i = s.list.length := by omega
    subst h1
    rw [List.take_length] at ha
    have k : ((s.list.length : Int) ≤ 12) = (s.list.length ≤ 12) := by simp only [eq_iff_iff]; omega
    simp [e0, e3]
    exact fin_plain ⟨by simp [okP, ha, k], rfl⟩
theorem impl_pairs {s : SL TPair} (hn : s.list.length ≤ mx) : Fnc Tryz.prog 118 [s.av 2 TPair.enc] (.bool (okP s.list)) := by
  refine fn_of c118 (by simp [F118]) fun c => ?_
  unfold F118
  simp
  refine loop_drop s.list.length (fun i e H c' => e 0 = s.av 2 TPair.enc ∧ e 5 = s.av 2 TPair.enc ∧ e 6 = .int .i64 s.list.length ∧ e 7 = .int .i64 i ∧ (s.list.take i).all okPair = true ∧ H = []) ⟨rfl, rfl, rfl, rfl, by simp, rfl⟩ ?_
  intro i e H c hi ⟨e0, e5, e6, e7, ha, hH⟩ N hN
  subst hH
  by_cases h : i < s.list.length
  · have hb : s.list[i]? = some s.list[i] := List.getElem?_eq_getElem h
    have bad : okPair s.list[i] = false → okP s.list = false := fun hb => by
      unfold okP
      have : s.list.all okPair = false := by rw [List.all_eq_false]; exact ⟨_, List.getElem_mem h, by simp [hb]⟩
      rw [this]; rfl
    have good : okPair s.list[i] = true → (s.list.take (i + 1)).all okPair = true := fun hx => all_step ha h hx
    have hstep : IntKind.i64.wrap ((i : Int) + 1) = ((i + 1 : Nat) : Int) := by rw [step64 hn h]; rfl
    generalize s.list[i] = p at hb bad good
    by_cases h1 : p.Name.length ≤ 60
    · have k1 : ¬ (60 < (p.Name.length : Int)) := by omega
      by_cases h2 : p.Value.length ≤ 60
      · have k2 : ¬ (60 < (p.Value.length : Int)) := by omega
        simp [e0, e5, e6, e7, h, getW_of hb, k1, k2, hstep, putA]
        exact hN _ _ _ _ h (List.nil_sublist _) ⟨by simp [upd, e0], by simp [upd, e5], by simp [upd, e6], by simp [upd], good (by simp [okPair, h1, h2]), rfl⟩
      · have k2 : (60 < (p.Value.length : Int)) := by omega
        simp [e0, e5, e6, e7, h, getW_of hb, k1, k2, hstep, putA]
        exact fin_plain ⟨by rw [bad (by simp [okPair, h2])], rfl⟩
    · have k1 : (60 < (p.Name.length : Int)) := by omega
      simp [e0, e5, e6, e7, h, getW_of hb, k1, hstep, putA]
      exact fin_plain ⟨by rw [bad (by simp [okPair, h1])], rfl⟩
  · have h1 : i = s.list.length := by omega
    subst h1
    rw [List.take_length] at ha
    have k : ((s.list.length : Int) ≤ 12) = (s.list.length ≤ 12) := by simp only [eq_iff_iff]; omega
    simp [e0, e5, e6, e7]
    exact fin_plain ⟨by simp [okP, ha, k], rfl⟩
end A
end Go.Proofs.YtknpgemlpbclkaaGreatDoor

/-
  IsRequest of the reference and of the program are the same plain function, and the law answers true. No condition.
-/


namespace Go.Proofs.YtknpgemlpbclkaaGreatDoor
namespace A
set_option linter.unusedVariables false
set_option linter.unusedSimpArgs false
set_option maxRecDepth 100000

def isReq (x : TRequest) : Bool := isN x.Path && okP x.Query.list && okP x.Cookies.list
theorem req_same {a b : TRequest} (h : a.con = b.con) : a.Path = b.Path ∧ a.Query.list = b.Query.list ∧ a.Cookies.list = b.Cookies.list := by
  have e : ∀ l : List TPair, l.map TPair.con = l := fun l => List.map_id' l
  have h1 : (a.con.Query).list = (b.con.Query).list := congrArg (fun z => z.Query.list) h
  have h2 : (a.con.Cookies).list = (b.con.Cookies).list := congrArg (fun z => z.Cookies.list) h
  exact ⟨(congrArg TRequest.Path h : a.con.Path = b.con.Path), by simpa [TRequest.con, e] using h1, by simpa [TRequest.con, e] using h2⟩
theorem isReq_con {a b : TRequest} (h : a.con = b.con) : isReq a = isReq b := by
  obtain ⟨h1, h2, h3⟩ := req_same h
  unfold isReq; rw [h1, h2, h3]
theorem reqOk_con {a b : TRequest} (h : a.con = b.con) (ha : b.ok) : a.ok := by
  obtain ⟨h1, h2, h3⟩ := req_same h
  unfold TRequest.ok okPairS at ha ⊢; rw [h1, h2, h3]; exact ha
theorem spec_isReq {x : TRequest} (hx : x.ok) : Fnc Tryz.prog 92 [.agg x.enc] (.bool (isReq x)) := by
  obtain ⟨h1, h2, h3⟩ := hx
  refine fn_of c92 (by simp [F92]) fun c => ?_
  unfold F92
  simp
  refine call_fn0 (spec_isN h1) .bool fun _ _ => ?_
  cases hN : isN x.Path
  · simp
    exact fin_plain ⟨by simp [isReq, hN], rfl⟩
  simp
  refine call_fn0 (spec_pairs h2.1) .bool fun _ _ => ?_
  cases hQ : okP x.Query.list
  · simp
    exact fin_plain ⟨by simp [isReq, hQ], rfl⟩
  simp
  refine call_fn0 (spec_pairs h3.1) .bool fun _ _ => ?_
  simp
  exact fin_plain ⟨by simp [isReq, hN, hQ], rfl⟩
theorem impl_isReq {x : TRequest} (hx : x.ok) : Fnc Tryz.prog 59 [.agg x.enc] (.bool (isReq x)) := by
  obtain ⟨h1, h2, h3⟩ := hx
  refine fn_of c59 (by simp [F59]) fun c => ?_
  unfold F59
  simp
  refine call_fn0 (impl_isN h1) .bool fun _ _ => ?_
  cases hN : isN x.Path
  · simp
    exact fin_plain ⟨by simp [isReq, hN], rfl⟩
  simp
  refine call_fn0 (impl_pairs h2.1) .bool fun _ _ => ?_
  cases hQ : okP x.Query.list
  · simp
    exact fin_plain ⟨by simp [isReq, hQ], rfl⟩
  simp
  refine call_fn0 (impl_pairs h3.1) .bool fun _ _ => ?_
  simp
  exact fin_plain ⟨by simp [isReq, hN, hQ], rfl⟩
def TRequest.at (c : Nat) (a : TRequest) : TRequest := { a with Query := .mk c a.Query.list, Cookies := .mk c a.Cookies.list }
theorem TRequest.at_con (c : Nat) (a : TRequest) : (a.at c).con = a.con := rfl
theorem pairs_from (c : Nat) (l : List TPair) : From c ((SL.mk c l).av 2 TPair.enc) := by
  refine from_slc (Nat.le_refl _) fun row hr y hy => ?_
  obtain ⟨h, _, rfl⟩ := List.mem_map.1 hr
  exact (TPair.free h y hy).from c
theorem TRequest.at_from (c : Nat) (a : TRequest) : From c (.agg (a.at c).enc) := from_agg fun x hx => by
  simp [TRequest.enc, TRequest.at] at hx
  rcases hx with rfl | rfl | rfl
  · simp
  · exact pairs_from c _
  · exact pairs_from c _
def IsQ (a : TRequest) (v : AV) : Prop := ∃ b : TRequest, v = .agg b.enc ∧ b.con = a.con
theorem IsQ_some (a : TRequest) (c : Nat) : ∃ r, IsQ a r ∧ From c r := ⟨_, ⟨a.at c, rfl, a.at_con c⟩, a.at_from c⟩
end A
end Go.Proofs.YtknpgemlpbclkaaGreatDoor

/-
  Lists of sessions of one content are one list. No condition.
-/


namespace Go.Proofs.YtknpgemlpbclkaaGreatDoor
namespace A
theorem sessCon {l m : List TSession} (h : l.map TSession.con = m.map TSession.con) : l = m := by
  have e : ∀ l : List TSession, l.map TSession.con = l := fun l => List.map_id' l
  rwa [e, e] at h
end A
end Go.Proofs.YtknpgemlpbclkaaGreatDoor

/-
  A name for the typed texts of this seat. No condition.
-/

/-
  FindSession of the reference and of the program are the same plain function of the list and the name. No condition.
-/


namespace Go.Proofs.YtknpgemlpbclkaaGreatDoor
namespace A
set_option linter.unusedVariables false
set_option linter.unusedSimpArgs false
set_option maxRecDepth 100000

def findS (id : List UInt8) : List TSession → Nat → Int
  | [], _ => -1
  | x :: l, i => if x.Id = id then i else findS id l (i + 1)

theorem findS_hit {id : List UInt8} {l : List TSession} {i : Nat} (h : i < l.length) (e : l[i].Id = id) : findS id (l.drop i) i = i := by
  rw [List.drop_eq_getElem_cons h]; simp [findS, e]
theorem findS_miss {id : List UInt8} {l : List TSession} {i : Nat} (h : i < l.length) (e : l[i].Id ≠ id) : findS id (l.drop i) i = findS id (l.drop (i + 1)) (i + 1) := by
  rw [List.drop_eq_getElem_cons h]; simp [findS, e]
theorem findS_con (id : List UInt8) : ∀ (l : List TSession) (i : Nat), findS id (l.map TSession.con) i = findS id l i
  | [], _ => rfl
  | x :: l, i => by
    have : x.con.Id = x.Id := rfl
    simp [findS, this, findS_con id l]

theorem spec_find {s : SL TSession} {id : List UInt8} (hn : s.list.length ≤ mx) : Fnc Tryz.prog 91 [s.av 4 TSession.enc, .str id] (.int .i64 (findS id s.list 0)) := by
  refine fn_of c91 (by simp [F91]) fun c => ?_
  unfold F91
  simp
  refine loop_drop s.list.length (fun i e H c' => e 0 = s.av 4 TSession.enc ∧ e 1 = .str id ∧ e 5 = .int .i64 i ∧ findS id (s.list.drop i) i = findS id s.list 0 ∧ H = []) ⟨rfl, rfl, rfl, by simp, rfl⟩ ?_
  intro i e H c hi ⟨e0, e1, e5, hall, hH⟩ N hN
  subst hH
  simp [e0, e1, e5]
  refine ⟨fun h => ⟨s.list[i], List.getElem?_eq_getElem h, ?_⟩, fun h => ?_⟩
  · simp [e0, e1, e5]
    by_cases hq : s.list[i].Id = id
    · simp [e0, e1, e5, hq]
      exact fin_plain ⟨by rw [← hall, findS_hit h hq], rfl⟩
    · simp [e0, e1, e5, hq]
      exact hN _ _ _ _ h (List.nil_sublist _) ⟨by simp [upd, e0], by simp [upd, e1], by simp [upd]; exact step64 hn h, by rw [← hall, findS_miss h hq], rfl⟩
  · refine fin_plain ⟨?_, rfl⟩
    have h1 : i = s.list.length := by omega
    rw [h1, List.drop_length] at hall
    rw [← hall]; rfl

theorem pred_fn (x : TSession) (id : List UInt8) : Fnc Tryz.prog 139 [.agg x.enc, .cpt [.str id] 0] (.bool (decide (x.Id = id))) := by
  refine fn_of c139 (by simp [F139]) fun c => ?_
  unfold F139
  simp
  exact fin_plain ⟨rfl, rfl⟩

theorem index_con {s : SL TSession} {id : List UInt8} (hn : s.list.length ≤ mx) (t c : Nat) :
    Con Tryz.prog 138 [s.av 4 TSession.enc, .fn 139 [.ptr 0 t 1 0 0]] [⟨false, t, 1, [[.str id]]⟩] c fun r H' _ => r = .int .i64 (findS id s.list 0) ∧ H' = [⟨false, t, 1, [[.str id]]⟩] := by
  refine con_of c138 (by simp [F138]) ?_
  unfold F138
  simp
  refine loop_drop s.list.length (fun i e H c' => e 0 = s.av 4 TSession.enc ∧ e 1 = .fn 139 [.ptr 0 t 1 0 0] ∧ e 7 = .int .i64 s.list.length ∧ e 8 = .int .i64 i ∧ findS id (s.list.drop i) i = findS id s.list 0 ∧ H = [⟨false, t, 1, [[.str id]]⟩]) ⟨rfl, rfl, rfl, rfl, by simp, rfl⟩ ?_
  intro i e H c hi ⟨e0, e1, e7, e8, hall, hH⟩ N hN
  subst hH
  simp [e0, e1, e7, e8]
  refine ⟨fun h => ⟨s.list[i], List.getElem?_eq_getElem h, ?_⟩, fun h => ?_⟩
  · simp [e0, e1, e7, e8]
    refine ⟨by kernel_rfl, call_fn (pred_fn s.list[i] id) (.cons (.refl _) (.cons (view_ptr (rows := [[.str id]]) (by simp) rfl (by simp)) .nil)) .bool fun _ _ => ?_⟩
    by_cases hq : s.list[i].Id = id
    · simp [e0, e1, e7, e8, hq]
      exact fin_all ⟨by rw [← hall, findS_hit h hq], rfl⟩
    · simp [e0, e1, e7, e8, hq]
      exact hN _ _ _ _ h (List.Sublist.refl _) ⟨by simp [upd, e0], by simp [upd, e1], by simp [upd, e7], by simp [upd]; exact step64 hn h, by rw [← hall, findS_miss h hq], rfl⟩
  · refine fin_all ⟨?_, rfl⟩
    have h1 : i = s.list.length := by omega
    rw [h1, List.drop_length] at hall
    rw [← hall]; rfl

theorem impl_find {s : SL TSession} {id : List UInt8} (hn : s.list.length ≤ mx) : Fnc Tryz.prog 100 [s.av 4 TSession.enc, .str id] (.int .i64 (findS id s.list 0)) := by
  refine fn_of c100 (by simp [F100]) fun c => ?_
  unfold F100
  simp
  refine call_con (index_con hn c _) fun r H' c' hc hq _ _ => ?_
  obtain ⟨rfl, rfl⟩ := hq
  refine ⟨.int, ?_, ?_⟩
  · intro o ho
    simp at ho; subst ho
    exact avRows_of fun row hr a ha => by simp at hr; subst hr; simp at ha; subst ha; exact .str
  · simp
    exact fin_plain ⟨rfl, rfl⟩

end A
end Go.Proofs.YtknpgemlpbclkaaGreatDoor

/-
  Names, of the reference and of the program. No condition.
-/

namespace Go.Proofs.YtknpgemlpbclkaaGreatDoor
namespace A
set_option linter.unusedVariables false
set_option linter.unusedSimpArgs false
set_option maxRecDepth 100000


/-- The end of the name. -/
def nm : List UInt8 → Nat → Nat
  | [], i => i
  | b :: l, i => if isL b || (decide (0 < i) && isD b) then nm l (i + 1) else i
theorem nm_go {l : List UInt8} {i : Nat} (h : i < l.length) (e : (isL l[i] || (decide (0 < i) && isD l[i])) = true) : nm (l.drop i) i = nm (l.drop (i + 1)) (i + 1) := by
  rw [List.drop_eq_getElem_cons h, nm, if_pos e]
theorem nm_stop {l : List UInt8} {i : Nat} (h : i < l.length) (e : (isL l[i] || (decide (0 < i) && isD l[i])) = false) : nm (l.drop i) i = i := by
  rw [List.drop_eq_getElem_cons h, nm, if_neg (by simp only [e]; simp)]
theorem nm_end {l : List UInt8} {i : Nat} (h : l.length ≤ i) : nm (l.drop i) i = i := by
  rw [List.drop_eq_nil_of_le h]; rfl
theorem specName_fn {l : List UInt8} (hl : l.length ≤ mx) : Fnc Tryz.prog 134 [.str l, .int .i64 0] (.int .i64 (nm l 0)) := by
  refine fn_of c134 (by simp [F134]) fun c => ?_
  unfold F134
  simp
  refine loop_drop l.length (fun i e H c' => e 0 = .str l ∧ e 1 = .int .i64 0 ∧ e 5 = .int .i64 i ∧ nm (l.drop i) i = nm l 0 ∧ H = []) ⟨rfl, rfl, rfl, by simp, rfl⟩ ?_
  intro i e H c hi ⟨e0, e1, e5, hd, hH⟩ N hN
  subst hH
  rcases Nat.lt_or_ge i l.length with h | h
  · have hb : l[i]? = some l[i] := List.getElem?_eq_getElem h
    have next : (isL l[i] || (decide (0 < i) && isD l[i])) = true → nm (l.drop (i + 1)) (i + 1) = nm l 0 := fun e => by rw [← hd, nm_go h e]
    have stop : (isL l[i] || (decide (0 < i) && isD l[i])) = false → i = nm l 0 := fun e => by rw [← hd, nm_stop h e]
    generalize l[i] = b at hb next stop
    simp [e0, e1, e5, h]
    refine ⟨_, hb, ?_⟩
    simp [e0, e1, e5, h]
    refine call_fn0 (letter_fn b) .bool fun _ _ => ?_
    cases h1 : isL b
    · by_cases h2 : 0 < i
      · simp [e0, e1, e5, h, h2]
        refine ⟨_, hb, ?_⟩
        simp [e0, e1, e5, h, h2]
        refine call_fn0 (digit_fn b) .bool fun _ _ => ?_
        cases h3 : isD b
        · simp [e0, e1, e5]
          exact fin_plain ⟨by rw [stop (by simp [h1, h3])], rfl⟩
        · simp [e0, e1, e5]
          exact hN _ _ _ _ h (List.Sublist.refl _) ⟨by simp [upd, e0], by simp [upd, e1], by simp [upd]; exact step64 hl h, next (by simp [h1, h2, h3]), rfl⟩
      · simp [e0, e1, e5, h, h2]
        exact fin_plain ⟨by rw [stop (by simp [h1, h2])], rfl⟩
    · simp [e0, e1, e5]
      exact hN _ _ _ _ h (List.Sublist.refl _) ⟨by simp [upd, e0], by simp [upd, e1], by simp [upd]; exact step64 hl h, next (by simp [h1]), rfl⟩
  · have : ¬ (i < l.length) := by omega
    simp [e0, e1, e5, this]
    exact fin_plain ⟨by rw [← hd, nm_end h], rfl⟩
theorem implName_fn {l : List UInt8} (hl : l.length ≤ mx) : Fnc Tryz.prog 119 [.str l] (.int .i64 (nm l 0)) := by
  refine fn_of c119 (by simp [F119]) fun c => ?_
  unfold F119
  simp
  refine loop_drop l.length (fun i e H c' => e 0 = .str l ∧ e 3 = .int .i64 i ∧ nm (l.drop i) i = nm l 0 ∧ H = []) ⟨rfl, rfl, by simp, rfl⟩ ?_
  intro i e H c hi ⟨e0, e3, hd, hH⟩ N hN
  subst hH
  rcases Nat.lt_or_ge i l.length with h | h
  · have hb : l[i]? = some l[i] := List.getElem?_eq_getElem h
    have next : (isL l[i] || (decide (0 < i) && isD l[i])) = true → nm (l.drop (i + 1)) (i + 1) = nm l 0 := fun e => by rw [← hd, nm_go h e]
    have stop : (isL l[i] || (decide (0 < i) && isD l[i])) = false → i = nm l 0 := fun e => by rw [← hd, nm_stop h e]
    generalize l[i] = b at hb next stop
    rw [isL_A] at next stop
    simp [e0, e3, h]
    refine ⟨_, hb, ?_⟩
    simp [e0, e3, h]
    refine call_fn0 (isLetter_fn b) .bool fun _ _ => ?_
    cases h1 : isA b
    · simp [e0, e3, h]
      refine ⟨_, hb, ?_⟩
      by_cases h4 : (b.toNat : Int) = 95
      · have h4' : b.toNat = 95 := by omega
        simp [e0, e3, h4]
        exact hN _ _ _ _ h (List.Sublist.refl _) ⟨by simp [upd, e0], by simp [upd]; exact step64 hl h, next (by simp [h4']), rfl⟩
      have h4' : ¬ b.toNat = 95 := by omega
      by_cases h2 : 0 < i
      · simp [e0, e3, h, h2, h4]
        refine ⟨_, hb, ?_⟩
        simp [e0, e3, h, h2, h4]
        refine call_fn0 (isDigit_fn b) .bool fun _ _ => ?_
        cases h3 : isD b
        · simp [e0, e3, h2, h4]
          exact fin_plain ⟨by rw [stop (by simp [h1, h3, h4'])], rfl⟩
        · simp [e0, e3, h2, h4]
          exact hN _ _ _ _ h (List.Sublist.refl _) ⟨by simp [upd, e0], by simp [upd]; exact step64 hl h, next (by simp [h2, h3]), rfl⟩
      · simp [e0, e3, h, h2, h4]
        exact fin_plain ⟨by rw [stop (by simp [h1, h2, h4'])], rfl⟩
    · simp [e0, e3]
      exact hN _ _ _ _ h (List.Sublist.refl _) ⟨by simp [upd, e0], by simp [upd]; exact step64 hl h, next (by simp [h1]), rfl⟩
  · have : ¬ (i < l.length) := by omega
    simp [e0, e3, this]
    exact fin_plain ⟨by rw [← hd, nm_end h], rfl⟩

def isName (l : List UInt8) : Bool := decide (1 ≤ l.length) && decide (l.length ≤ 20) && decide (nm l 0 = l.length)
theorem spec_isName {l : List UInt8} (hl : l.length ≤ mx) : Fnc Tryz.prog 90 [.str l] (.bool (isName l)) := by
  refine fn_of c90 (by simp [F90]) fun c => ?_
  unfold F90
  by_cases h1 : (1 : Int) ≤ l.length
  · by_cases h2 : (l.length : Int) ≤ 20
    · simp [h1, h2]
      refine call_fn0 (specName_fn hl) .int fun _ _ => ?_
      by_cases h3 : nm l 0 = l.length
      · simp [h1, h2, h3]
        exact fin_plain ⟨by simp [isName, h3]; omega, rfl⟩
      · have h3' : ¬ (nm l 0 : Int) = l.length := by omega
        simp [h1, h2, h3']
        exact fin_plain ⟨by simp [isName, h3], rfl⟩
    · simp [h1, h2]
      exact fin_plain ⟨by simp [isName]; intros; omega, rfl⟩
  · simp [h1]
    exact fin_plain ⟨by simp [isName]; intros; omega, rfl⟩
theorem impl_isName {l : List UInt8} (hl : l.length ≤ mx) : Fnc Tryz.prog 60 [.str l] (.bool (isName l)) := by
  refine fn_of c60 (by simp [F60]) fun c => ?_
  unfold F60
  by_cases h2 : (l.length : Int) ≤ 20
  · simp [h2]
    refine call_fn0 (implName_fn hl) .int fun _ _ => ?_
    by_cases h3 : nm l 0 = l.length
    · simp [h2, h3]
      refine fin_plain ⟨?_, rfl⟩
      cases l with
      | nil => simp [isName]
      | cons b l => simp [isName, h3]; simp at h2; omega
    · have h3' : ¬ (nm l 0 : Int) = l.length := by omega
      simp [h2, h3']
      exact fin_plain ⟨by simp [isName, h3], rfl⟩
  · simp [h2]
    exact fin_plain ⟨by simp [isName]; intros; omega, rfl⟩
end A
end Go.Proofs.YtknpgemlpbclkaaGreatDoor

/-
  AreSessions of the reference and of the program are the same plain function of the list, and the law answers true. No condition.
-/



namespace Go.Proofs.YtknpgemlpbclkaaGreatDoor
namespace A
set_option linter.unusedVariables false
set_option linter.unusedSimpArgs false
set_option maxRecDepth 100000

/-- One session by itself. -/
def sessOk (x : TSession) : Bool := isName x.Id && decide (x.Data.length ≤ 2000) && inR x.Holder 0 1000000000000 && inR x.At 0 1000000000000
/-- No name stands twice. -/
def once : List TSession → Bool
  | [] => true
  | x :: l => !(l.map (·.Id)).contains x.Id && once l
def areSessions (l : List TSession) : Bool := l.all sessOk && once l.reverse && decide (l.length ≤ 8)

theorem findS_miss_iff (id : List UInt8) : ∀ (l : List TSession) (i : Nat), (l.map (·.Id)).contains id = false → findS id l i = -1
  | [], i, _ => rfl
  | x :: l, i, h => by
    simp only [List.map_cons, List.contains_cons, Bool.or_eq_false_iff] at h
    unfold findS
    rw [if_neg (by intro e; simp [e] at h)]
    exact findS_miss_iff id l (i + 1) h.2
theorem findS_app {id : List UInt8} (m : List TSession) : ∀ (l : List TSession) (i : Nat), (l.map (·.Id)).contains id = false → findS id (l ++ m) i = findS id m (i + l.length)
  | [], i, _ => by simp
  | x :: l, i, h => by
    simp only [List.map_cons, List.contains_cons, Bool.or_eq_false_iff] at h
    rw [List.cons_append, findS, if_neg (by intro e; simp [e] at h), findS_app m l (i + 1) h.2]
    simp only [List.length_cons]; congr 1; omega
theorem findS_hit_lt {id : List UInt8} (m : List TSession) : ∀ (l : List TSession) (i : Nat), (l.map (·.Id)).contains id = true → findS id (l ++ m) i < i + l.length
  | [], i, h => by simp at h
  | x :: l, i, h => by
    rw [List.cons_append, findS]
    by_cases e : x.Id = id
    · rw [if_pos e]; simp; omega
    · rw [if_neg e]
      have h' : (l.map (·.Id)).contains id = true := by
        simp only [List.map_cons, List.contains_cons, Bool.or_eq_true] at h
        rcases h with h | h
        · exact absurd (by simpa using h : id = x.Id).symm e
        · exact h
      have := findS_hit_lt m l (i + 1) h'
      simp; omega
/-- The first of its name is it itself just if none before has it. -/
theorem find_self {l : List TSession} {i : Nat} (h : i < l.length) : (findS l[i].Id l 0 = i) ↔ ((l.take i).map (·.Id)).contains l[i].Id = false := by
  have e : l = l.take i ++ l.drop i := (List.take_append_drop i l).symm
  have hl : (l.take i).length = i := by simp; omega
  constructor
  · intro hf
    cases hc : ((l.take i).map (·.Id)).contains l[i].Id with
    | false => rfl
    | true =>
      have := findS_hit_lt (l.drop i) (l.take i) 0 hc
      rw [← e, hf, hl] at this
      omega
  · intro hc
    have := findS_app (l.drop i) (l.take i) 0 hc
    rw [← e, hl] at this
    rw [this, List.drop_eq_getElem_cons h, findS, if_pos rfl]
    simp
theorem once_step {l : List TSession} {i : Nat} (h : i < l.length) : once (l.take (i + 1)).reverse = (!((l.take i).map (·.Id)).contains l[i].Id && once (l.take i).reverse) := by
  rw [List.take_succ_eq_append_getElem h, List.reverse_append]
  simp only [List.reverse_cons, List.reverse_nil, List.nil_append, List.singleton_append, once, List.map_reverse]
  congr 2
  rw [Bool.eq_iff_iff]
  simp
/-- Up to an index. -/
def okTo (l : List TSession) (i : Nat) : Bool := (l.take i).all sessOk && once (l.take i).reverse
theorem okTo_step {l : List TSession} {i : Nat} (h : i < l.length) : okTo l (i + 1) = (okTo l i && sessOk l[i] && !((l.take i).map (·.Id)).contains l[i].Id) := by
  unfold okTo
  rw [once_step h, List.take_succ_eq_append_getElem h, List.all_append]
  simp only [List.all_cons, List.all_nil, Bool.and_true]
  cases (l.take i).all sessOk <;> cases sessOk l[i] <;> cases once (l.take i).reverse <;> simp
theorem okTo_mono {l : List TSession} {i : Nat} (h : okTo l i = false) : areSessions l = false := by
  have key : ∀ j, i ≤ j → j ≤ l.length → okTo l j = false := by
    intro j hj
    induction hj with
    | refl => exact fun _ => h
    | step hj ih => intro hl; rw [okTo_step (by omega), ih (by omega)]; simp
  rcases Nat.lt_or_ge i l.length with h1 | h1
  · have := key l.length (Nat.le_of_lt h1) (Nat.le_refl _)
    unfold okTo at this
    rw [List.take_length] at this
    unfold areSessions
    rw [this]; rfl
  · unfold okTo at h
    rw [List.take_of_length_le h1] at h
    unfold areSessions
    rw [h]; rfl
theorem okTo_all {l : List TSession} (h : okTo l l.length = true) : areSessions l = decide (l.length ≤ 8) := by
  unfold okTo at h
  rw [List.take_length] at h
  unfold areSessions
  rw [h]; rfl

theorem spec_areS {s : SL TSession} (hs : okSessionS s) : Fnc Tryz.prog 29 [s.av 4 TSession.enc] (.bool (areSessions s.list)) := by
  have hn := hs.1
  refine fn_of c29 (by simp [F29]) fun c => ?_
  unfold F29
  simp
  refine loop_drop s.list.length (fun i e H c' => e 0 = s.av 4 TSession.enc ∧ e 3 = .int .i64 i ∧ okTo s.list i = true ∧ H = []) ⟨rfl, rfl, rfl, rfl⟩ ?_
  intro i e H c hi ⟨e0, e3, hall, hH⟩ N hN
  subst hH
  simp [e0, e3]
  refine ⟨fun h => ⟨s.list[i], List.getElem?_eq_getElem h, ?_⟩, fun h => ?_⟩
  · have hst := okTo_step h
    have hself := find_self h
    have hok := hs.2 _ (List.getElem_mem h)
    rw [hall] at hst
    generalize hx : s.list[i] = x at hst hself hok
    have bad : (sessOk x && !((s.list.take i).map (·.Id)).contains x.Id) = false → areSessions s.list = false := fun hb => okTo_mono (i := i + 1) (by rw [hst]; simpa using hb)
    simp [e0, e3]
    refine call_fn0 (spec_isName hok.1) .bool fun _ _ => ?_
    cases h1 : isName x.Id
    · simp [e0, e3]; exact fin_plain ⟨by rw [bad (by simp [sessOk, h1])], rfl⟩
    simp [e0, e3]
    refine call_fn0 (spec_find hn) .int fun _ _ => ?_
    by_cases h2 : findS x.Id s.list 0 = i
    rotate_left
    · simp [e0, e3, h2]
      have hc : ((s.list.take i).map (·.Id)).contains x.Id = true := by
        cases hc : ((s.list.take i).map (·.Id)).contains x.Id with
        | true => rfl
        | false => exact absurd (hself.2 hc) h2
      exact fin_plain ⟨by rw [bad (by rw [hc]; simp)], rfl⟩
    have hc := hself.1 h2
    simp [e0, e3, h2]
    by_cases h3 : (2000 : Int) < x.Data.length
    · simp [e0, e3, h3]; exact fin_plain ⟨by rw [bad (by simp [sessOk]; intros; omega)], rfl⟩
    simp [e0, e3, h3]
    refine call_fn0 (l1In_fn _ _ _) .bool fun _ _ => ?_
    cases h4 : inR x.Holder 0 1000000000000
    · simp [e0, e3, h3]; exact fin_plain ⟨by rw [bad (by simp [sessOk, h4])], rfl⟩
    simp [e0, e3, h3]
    refine call_fn0 (l1In_fn _ _ _) .bool fun _ _ => ?_
    cases h5 : inR x.At 0 1000000000000
    · simp [e0, e3, h3]; exact fin_plain ⟨by rw [bad (by simp [sessOk, h5])], rfl⟩
    simp [e0, e3, h3]
    exact hN _ _ _ _ h (List.nil_sublist _) ⟨by simp [upd, e0], by simp [upd]; exact step64 hn h, by rw [hst]; simp only [sessOk, h1, h4, h5, hc]; simp; omega, rfl⟩
  · have : i = s.list.length := by omega
    subst this
    refine fin_plain ⟨?_, rfl⟩
    rw [okTo_all hall]; simp; omega
def seenRow (x : TSession) : List AV := [.str x.Id, .bool true]
theorem mfind_no {id : List UInt8} : ∀ (l : List TSession) (k : Nat), (l.map (·.Id)).contains id = false → mfind (.str id) (l.map seenRow) k = some none
  | [], k, _ => rfl
  | x :: l, k, h => by
    simp only [List.map_cons, List.contains_cons, Bool.or_eq_false_iff] at h
    have e : keyEq (.str id) (.str x.Id) = some false := by simp only [keyEq]; rw [h.1]
    simp only [List.map_cons, seenRow, mfind, e]
    exact mfind_no l (k + 1) h.2
theorem mfind_yes {id : List UInt8} : ∀ (l : List TSession) (k : Nat), (l.map (·.Id)).contains id = true → ∃ j, mfind (.str id) (l.map seenRow) k = some (some (j, .bool true))
  | [], k, h => by simp at h
  | x :: l, k, h => by
    cases e : (id == x.Id) with
    | true =>
      have e' : keyEq (.str id) (.str x.Id) = some true := by simp only [keyEq]; rw [e]
      exact ⟨k, by simp only [List.map_cons, seenRow, mfind, e']⟩
    | false =>
      have e' : keyEq (.str id) (.str x.Id) = some false := by simp only [keyEq]; rw [e]
      simp only [List.map_cons, List.contains_cons, e, Bool.false_or] at h
      obtain ⟨j, hj⟩ := mfind_yes l (k + 1) h
      exact ⟨j, by simp only [List.map_cons, seenRow, mfind, e']; exact hj⟩
theorem lookup_no {H : List AObj} {d : TypeDesc} {z k : AV} {i tag : Nat} {rows : List (List AV)} {w : Nat} {K : AV → Prop} (hd : keyFits d k = true) (ho : H[i]? = some ⟨true, tag, w, rows⟩) (hm : mfind k rows 0 = some none) (h : K z) : lookupW d z false (.mref i tag) k H K :=
  ⟨hd, _, ho, rfl, rfl, by rw [hm]; exact h⟩
theorem lookup_yes {H : List AObj} {d : TypeDesc} {z k v : AV} {i tag j : Nat} {rows : List (List AV)} {w : Nat} {K : AV → Prop} (hd : keyFits d k = true) (ho : H[i]? = some ⟨true, tag, w, rows⟩) (hm : mfind k rows 0 = some (some (j, v))) (h : K v) : lookupW d z false (.mref i tag) k H K :=
  ⟨hd, _, ho, rfl, rfl, by rw [hm]; exact h⟩
theorem mupd_no {H : List AObj} {c : Nat} {d : TypeDesc} {k v : AV} {i tag : Nat} {rows : List (List AV)} {w : Nat} {K : AV → List AObj → Nat → Prop} (hd : keyFits d k = true) (ho : H[i]? = some ⟨true, tag, w, rows⟩) (hm : mfind k rows 0 = some none) (hl : rows.length < mx) (h : K .und (H.set i ⟨true, tag, w, rows ++ [[k, v]]⟩) c) : mupdW d (.mref i tag) k v H c K :=
  ⟨hd, _, ho, rfl, rfl, by rw [hm]; exact ⟨hl, h⟩⟩

def seenRows (l : List TSession) (i : Nat) : List (List AV) := (l.take i).map seenRow
theorem seenRows_step {l : List TSession} {i : Nat} (h : i < l.length) : seenRows l (i + 1) = seenRows l i ++ [seenRow l[i]] := by
  unfold seenRows; rw [List.take_succ_eq_append_getElem h, List.map_append]; rfl
theorem seenRows_len {l : List TSession} {i : Nat} : (seenRows l i).length ≤ i := by unfold seenRows; simp; omega
theorem impl_areS {s : SL TSession} (hs : okSessionS s) : Fnc Tryz.prog 42 [s.av 4 TSession.enc] (.bool (areSessions s.list)) := by
  have hn := hs.1
  refine fn_of c42 (by simp [F42]) fun c => ?_
  unfold F42
  simp
  refine loop_drop s.list.length (fun i e H c' => e 0 = s.av 4 TSession.enc ∧ e 3 = .mref 0 c ∧ e 7 = s.av 4 TSession.enc ∧ e 8 = .int .i64 s.list.length ∧ e 9 = .int .i64 i ∧ okTo s.list i = true ∧ H = [⟨true, c, 0, seenRows s.list i⟩]) ⟨rfl, rfl, rfl, rfl, rfl, rfl, rfl⟩ ?_
  intro i e H c' hi ⟨e0, e3, e7, e8, e9, hall, hH⟩ N hN
  subst hH
  simp [e0, e3, e7, e8, e9]
  refine ⟨fun h => ⟨s.list[i], List.getElem?_eq_getElem h, ?_⟩, fun h => ?_⟩
  · have hst := okTo_step h
    have hok := hs.2 _ (List.getElem_mem h)
    rw [hall] at hst
    have htk := seenRows_step h
    generalize hx : s.list[i] = x at hst hok htk
    have bad : (sessOk x && !((s.list.take i).map (·.Id)).contains x.Id) = false → areSessions s.list = false := fun hb => okTo_mono (i := i + 1) (by rw [hst]; simpa using hb)
    simp [e0, e3, e7, e8, e9]
    cases hc : ((s.list.take i).map (·.Id)).contains x.Id
    rotate_left
    · obtain ⟨j, hj⟩ : ∃ j, mfind (.str x.Id) (seenRows s.list i) 0 = some (some (j, .bool true)) := mfind_yes _ 0 hc
      refine lookup_yes rfl rfl hj ?_
      simp [e0, e3, e7, e8, e9]
      exact fin_plain ⟨by rw [bad (by rw [hc]; simp)], rfl⟩
    have hm : mfind (.str x.Id) (seenRows s.list i) 0 = some none := mfind_no _ 0 hc
    refine lookup_no rfl rfl hm ?_
    simp [e0, e3, e7, e8, e9]
    refine call_fn0 (impl_isName hok.1) .bool fun _ _ => ?_
    cases h1 : isName x.Id
    · simp [e0, e3, e7, e8, e9]; exact fin_plain ⟨by rw [bad (by simp [sessOk, h1])], rfl⟩
    simp [e0, e3, e7, e8, e9]
    by_cases h3 : (2000 : Int) < x.Data.length
    · simp [e0, e3, e7, e8, e9, h3]; exact fin_plain ⟨by rw [bad (by simp [sessOk]; intros; omega)], rfl⟩
    simp [e0, e3, e7, e8, e9, h3]
    refine call_fn0 (inRange_fn _ _ _) .bool fun _ _ => ?_
    cases h4 : inR x.Holder 0 1000000000000
    · simp [e0, e3, e7, e8, e9, h3]; exact fin_plain ⟨by rw [bad (by simp [sessOk, h4])], rfl⟩
    simp [e0, e3, e7, e8, e9, h3]
    refine call_fn0 (inRange_fn _ _ _) .bool fun _ _ => ?_
    cases h5 : inR x.At 0 1000000000000
    · simp [e0, e3, e7, e8, e9, h3]; exact fin_plain ⟨by rw [bad (by simp [sessOk, h5])], rfl⟩
    simp [e0, e3, e7, e8, e9, h3]
    refine mupd_no rfl rfl hm (by have := seenRows_len (l := s.list) (i := i); omega) ?_
    simp [e0, e3, e7, e8, e9, h3]
    exact hN _ _ _ _ h (sub_one _ _) ⟨by simp [upd, e0], by simp [upd, e3], by simp [upd, e7], by simp [upd, e8], by simp [upd]; exact step64 hn h, by rw [hst]; simp only [sessOk, h1, h4, h5, hc]; simp; omega, by rw [htk]; rfl⟩
  · have : i = s.list.length := by omega
    subst this
    refine fin_plain ⟨?_, rfl⟩
    rw [okTo_all hall]; simp; omega

end A
end Go.Proofs.YtknpgemlpbclkaaGreatDoor
