/-
  The types that the laws of this seat speak of, and the helpers over them: printed by a program (wip/tools/gen.py). No condition.
-/
import Derived.Test.YtgiiipbpadgcgaaIR
import Derived.Test.YtgiiipbpadgcgaaFam
namespace Go.Proofs.Ytgiiipbpadgcgaa
namespace A
set_option linter.unusedVariables false
set_option linter.unusedSimpArgs false
set_option maxRecDepth 100000

structure TFile where
  Path : List UInt8
  Source : List UInt8
  Version : Int
def TFile.enc (s : TFile) : List AV := [.str s.Path, .str s.Source, .int .i64 s.Version]
@[simp] theorem TFile.len (s : TFile) : s.enc.length = 3 := (rfl)
@[simp] theorem TFile.all (s : TFile) : s.enc.take 3 = s.enc := (rfl)
@[simp] theorem TFile.g0 (s : TFile) (K : AV → Prop) : getW s.enc 0 K = K (.str s.Path) := by simp [TFile.enc]
@[simp] theorem TFile.g1 (s : TFile) (K : AV → Prop) : getW s.enc 1 K = K (.str s.Source) := by simp [TFile.enc]
@[simp] theorem TFile.g2 (s : TFile) (K : AV → Prop) : getW s.enc 2 K = K (.int .i64 s.Version) := by simp [TFile.enc]
theorem TFile.cells (s : TFile) : ∀ a, a ∈ s.enc → a.cell = true := by simp [TFile.enc]
def TFile.sz (s : TFile) : Nat := s.Path.length + s.Source.length
def TFile.ok (s : TFile) : Prop := s.Path.length ≤ mx ∧ s.Source.length ≤ mx
def TFile.con (s : TFile) : TFile := s
theorem TFile.sz_con (s : TFile) : s.con.sz = s.sz := rfl
theorem TFile.sh : ∀ (n : Nat) (row : List AV), ShC Try.prog n 209 row → ∃ s : TFile, row = s.enc ∧ s.ok := by
  intro n row h
  obtain ⟨m, hl, hf⟩ := sh_fields (l := [(9, 0), (9, 1), (3, 2)]) (by kernel_rfl) h
  have hl' : row.length = 3 := hl.trans (by kernel_rfl)
  match row, hl' with
  | [x0, x1, x2], _ =>
    have h0 := hf (9, 0) (by simp)
    rw [show Try.prog.cellsOf 9 = 1 by kernel_rfl] at h0
    obtain ⟨v0, rfl, k0⟩ := sh_str (t := 9) (by kernel_rfl) (show ShC Try.prog m 9 [x0] from h0)
    have h1 := hf (9, 1) (by simp)
    rw [show Try.prog.cellsOf 9 = 1 by kernel_rfl] at h1
    obtain ⟨v1, rfl, k1⟩ := sh_str (t := 9) (by kernel_rfl) (show ShC Try.prog m 9 [x1] from h1)
    have h2 := hf (3, 2) (by simp)
    rw [show Try.prog.cellsOf 3 = 1 by kernel_rfl] at h2
    obtain ⟨v2, rfl, _⟩ := sh_int (k := .i64) (t := 3) (by kernel_rfl) (show ShC Try.prog m 3 [x2] from h2)
    exact ⟨⟨v0, v1, v2⟩, rfl, ⟨k0, k1⟩⟩
theorem TFile.sz_fn {s : TFile} (hs : s.ok) {left : Int} (hl : Room left) : Fnc Try.prog 173 [.agg s.enc, .int .i64 left] (.int .i64 (szOf s.sz left)) := by
  unfold TFile.ok at hs
  have hr := hl.2
  refine fn_of c173 (by simp [F173]) fun c => ?_
  unfold F173
  simp
  rw [szOf_wrap hs.1 hl]
  refine ⟨fun h => fin_plain ⟨by rw [szOf_neg (by simp only [TFile.sz]; omega)], rfl⟩, fun h => ?_⟩
  rw [szOf_wrap hs.2 ⟨by omega, by omega⟩]
  refine ⟨fun h => fin_plain ⟨by rw [szOf_neg (by simp only [TFile.sz]; omega)], rfl⟩, fun h => ?_⟩
  have hz : s.sz = s.Path.length + s.Source.length := rfl
  have e : szOf s.sz left = left - (s.Path.length : Int) - (s.Source.length : Int) := by
    unfold szOf
    rw [if_pos (by omega)]
    omega
  exact fin_plain ⟨by rw [e], rfl⟩
theorem TFile.to_fn {s : TFile} (h : s.sz ≤ 1048576) : Tr Try.prog 174 [.agg s.enc] fun _ r => ∃ b : TFile, r = .agg b.enc ∧ b.con = s.con := by
  simp only [TFile.sz] at h
  intro c
  refine con_of c174 (by simp [F174]) ?_
  unfold F174
  simp [putA]
  refine fin_plain ⟨rfl, ⟨⟨s.Path, s.Source, s.Version⟩, rfl, ?_⟩, from_agg ?_⟩
  · rfl
  · simp
theorem TFile.eq_fn {a b : TFile} (h : a.sz ≤ 1099511627776) (he : a.con = b.con) : Fnc Try.prog 175 [.agg a.enc, .agg b.enc] (.bool true) := by
  simp only [TFile.sz] at h
  have e0 : a.Path = b.Path := (congrArg TFile.Path he : a.con.Path = b.con.Path)
  have e1 : a.Source = b.Source := (congrArg TFile.Source he : a.con.Source = b.con.Source)
  have e2 : a.Version = b.Version := (congrArg TFile.Version he : a.con.Version = b.con.Version)
  refine fn_of c175 (by simp [F175]) fun c => ?_
  unfold F175
  simp [e0, e1, e2]
  exact fin_plain ⟨rfl, rfl⟩
def szFileS (s : SL TFile) : Nat := s.list.length + szL TFile.sz s.list
def okFileS (s : SL TFile) : Prop := s.list.length ≤ mx ∧ ∀ x, x ∈ s.list → TFile.ok x
theorem szFileS_con {s t : SL TFile} (h : s.list.map TFile.con = t.list.map TFile.con) : szFileS s = szFileS t := by
  unfold szFileS
  rw [← szL_map (con := TFile.con) TFile.sz_con s.list, ← szL_map (con := TFile.con) TFile.sz_con t.list, h]
  have := congrArg List.length h; simp at this; rw [this]
theorem shFileS {n : Nat} {a : AV} (h : ShC Try.prog n 151 [a]) : ∃ s : SL TFile, a = s.av 3 TFile.enc ∧ okFileS s := by
  obtain ⟨s, h1, h2, h3⟩ := sh_slc (P := Try.prog) (t := 151) (el := 209) (w := 3) (enc := TFile.enc) (ok := TFile.ok) (by kernel_rfl) (by kernel_rfl) (TFile.sh) h
  exact ⟨s, h1, h2, h3⟩
theorem szFileS_fn {s : SL TFile} (hs : okFileS s) {left : Int} (hl : Room left) : Fnc Try.prog 154 [s.av 3 TFile.enc, .int .i64 left] (.int .i64 (szOf (szFileS s) left)) :=
  szS_fn (g := 173) c154 (fun _ => rfl) hs.1 hl fun x hx left hl => TFile.sz_fn (hs.2 x hx) hl
theorem toFileS_fn {s : SL TFile} (h : szFileS s ≤ 1048576) : Tr Try.prog 156 [s.av 3 TFile.enc] fun _ r => ∃ b : SL TFile, r = b.av 3 TFile.enc ∧ b.list.map TFile.con = s.list.map TFile.con := by
  unfold szFileS at h
  exact toS_fn (g := 174) (z := [.str [], .str [], .int .i64 0]) (bytes := 40) c156 rfl (fun _ => rfl) (fun x => TFile.cells x) (by omega) (by omega) fun x hx => TFile.to_fn (by have := szL_mem (sz := TFile.sz) hx; omega)
theorem eqFileS_fn {s t : SL TFile} (h : szFileS s ≤ 1099511627776) (he : s.list.map TFile.con = t.list.map TFile.con) : Fnc Try.prog 158 [s.av 3 TFile.enc, t.av 3 TFile.enc] (.bool true) := by
  unfold szFileS at h
  exact eqS_fn (g := 175) (con := TFile.con) c158 (fun _ => rfl) (by unfold mx; omega) he fun x hx y hxy => TFile.eq_fn (by have := szL_mem (sz := TFile.sz) hx; omega) hxy
structure TPair where
  Name : List UInt8
  Value : List UInt8
def TPair.enc (s : TPair) : List AV := [.str s.Name, .str s.Value]
@[simp] theorem TPair.len (s : TPair) : s.enc.length = 2 := (rfl)
@[simp] theorem TPair.all (s : TPair) : s.enc.take 2 = s.enc := (rfl)
@[simp] theorem TPair.g0 (s : TPair) (K : AV → Prop) : getW s.enc 0 K = K (.str s.Name) := by simp [TPair.enc]
@[simp] theorem TPair.g1 (s : TPair) (K : AV → Prop) : getW s.enc 1 K = K (.str s.Value) := by simp [TPair.enc]
theorem TPair.cells (s : TPair) : ∀ a, a ∈ s.enc → a.cell = true := by simp [TPair.enc]
def TPair.sz (s : TPair) : Nat := s.Name.length + s.Value.length
def TPair.ok (s : TPair) : Prop := s.Name.length ≤ mx ∧ s.Value.length ≤ mx
def TPair.con (s : TPair) : TPair := s
theorem TPair.sz_con (s : TPair) : s.con.sz = s.sz := rfl
theorem TPair.sh : ∀ (n : Nat) (row : List AV), ShC Try.prog n 126 row → ∃ s : TPair, row = s.enc ∧ s.ok := by
  intro n row h
  obtain ⟨m, hl, hf⟩ := sh_fields (l := [(9, 0), (9, 1)]) (by kernel_rfl) h
  have hl' : row.length = 2 := hl.trans (by kernel_rfl)
  match row, hl' with
  | [x0, x1], _ =>
    have h0 := hf (9, 0) (by simp)
    rw [show Try.prog.cellsOf 9 = 1 by kernel_rfl] at h0
    obtain ⟨v0, rfl, k0⟩ := sh_str (t := 9) (by kernel_rfl) (show ShC Try.prog m 9 [x0] from h0)
    have h1 := hf (9, 1) (by simp)
    rw [show Try.prog.cellsOf 9 = 1 by kernel_rfl] at h1
    obtain ⟨v1, rfl, k1⟩ := sh_str (t := 9) (by kernel_rfl) (show ShC Try.prog m 9 [x1] from h1)
    exact ⟨⟨v0, v1⟩, rfl, ⟨k0, k1⟩⟩
theorem TPair.sz_fn {s : TPair} (hs : s.ok) {left : Int} (hl : Room left) : Fnc Try.prog 95 [.agg s.enc, .int .i64 left] (.int .i64 (szOf s.sz left)) := by
  unfold TPair.ok at hs
  have hr := hl.2
  refine fn_of c95 (by simp [F95]) fun c => ?_
  unfold F95
  simp
  rw [szOf_wrap hs.1 hl]
  refine ⟨fun h => fin_plain ⟨by rw [szOf_neg (by simp only [TPair.sz]; omega)], rfl⟩, fun h => ?_⟩
  rw [szOf_wrap hs.2 ⟨by omega, by omega⟩]
  refine ⟨fun h => fin_plain ⟨by rw [szOf_neg (by simp only [TPair.sz]; omega)], rfl⟩, fun h => ?_⟩
  have hz : s.sz = s.Name.length + s.Value.length := rfl
  have e : szOf s.sz left = left - (s.Name.length : Int) - (s.Value.length : Int) := by
    unfold szOf
    rw [if_pos (by omega)]
    omega
  exact fin_plain ⟨by rw [e], rfl⟩
theorem TPair.to_fn {s : TPair} (h : s.sz ≤ 1048576) : Tr Try.prog 97 [.agg s.enc] fun _ r => ∃ b : TPair, r = .agg b.enc ∧ b.con = s.con := by
  simp only [TPair.sz] at h
  intro c
  refine con_of c97 (by simp [F97]) ?_
  unfold F97
  simp [putA]
  refine fin_plain ⟨rfl, ⟨⟨s.Name, s.Value⟩, rfl, ?_⟩, from_agg ?_⟩
  · rfl
  · simp
theorem TPair.eq_fn {a b : TPair} (h : a.sz ≤ 1099511627776) (he : a.con = b.con) : Fnc Try.prog 99 [.agg a.enc, .agg b.enc] (.bool true) := by
  simp only [TPair.sz] at h
  have e0 : a.Name = b.Name := (congrArg TPair.Name he : a.con.Name = b.con.Name)
  have e1 : a.Value = b.Value := (congrArg TPair.Value he : a.con.Value = b.con.Value)
  refine fn_of c99 (by simp [F99]) fun c => ?_
  unfold F99
  simp [e0, e1]
  exact fin_plain ⟨rfl, rfl⟩
def szPairS (s : SL TPair) : Nat := s.list.length + szL TPair.sz s.list
def okPairS (s : SL TPair) : Prop := s.list.length ≤ mx ∧ ∀ x, x ∈ s.list → TPair.ok x
theorem szPairS_con {s t : SL TPair} (h : s.list.map TPair.con = t.list.map TPair.con) : szPairS s = szPairS t := by
  unfold szPairS
  rw [← szL_map (con := TPair.con) TPair.sz_con s.list, ← szL_map (con := TPair.con) TPair.sz_con t.list, h]
  have := congrArg List.length h; simp at this; rw [this]
theorem shPairS {n : Nat} {a : AV} (h : ShC Try.prog n 55 [a]) : ∃ s : SL TPair, a = s.av 2 TPair.enc ∧ okPairS s := by
  obtain ⟨s, h1, h2, h3⟩ := sh_slc (P := Try.prog) (t := 55) (el := 126) (w := 2) (enc := TPair.enc) (ok := TPair.ok) (by kernel_rfl) (by kernel_rfl) (TPair.sh) h
  exact ⟨s, h1, h2, h3⟩
theorem szPairS_fn {s : SL TPair} (hs : okPairS s) {left : Int} (hl : Room left) : Fnc Try.prog 43 [s.av 2 TPair.enc, .int .i64 left] (.int .i64 (szOf (szPairS s) left)) :=
  szS_fn (g := 95) c43 (fun _ => rfl) hs.1 hl fun x hx left hl => TPair.sz_fn (hs.2 x hx) hl
theorem toPairS_fn {s : SL TPair} (h : szPairS s ≤ 1048576) : Tr Try.prog 45 [s.av 2 TPair.enc] fun _ r => ∃ b : SL TPair, r = b.av 2 TPair.enc ∧ b.list.map TPair.con = s.list.map TPair.con := by
  unfold szPairS at h
  exact toS_fn (g := 97) (z := [.str [], .str []]) (bytes := 32) c45 rfl (fun _ => rfl) (fun x => TPair.cells x) (by omega) (by omega) fun x hx => TPair.to_fn (by have := szL_mem (sz := TPair.sz) hx; omega)
theorem eqPairS_fn {s t : SL TPair} (h : szPairS s ≤ 1099511627776) (he : s.list.map TPair.con = t.list.map TPair.con) : Fnc Try.prog 47 [s.av 2 TPair.enc, t.av 2 TPair.enc] (.bool true) := by
  unfold szPairS at h
  exact eqS_fn (g := 99) (con := TPair.con) c47 (fun _ => rfl) (by unfold mx; omega) he fun x hx y hxy => TPair.eq_fn (by have := szL_mem (sz := TPair.sz) hx; omega) hxy
structure TRequest where
  Path : List UInt8
  Query : SL TPair
  Cookies : SL TPair
def TRequest.enc (s : TRequest) : List AV := [.str s.Path, s.Query.av 2 TPair.enc, s.Cookies.av 2 TPair.enc]
@[simp] theorem TRequest.len (s : TRequest) : s.enc.length = 3 := (rfl)
@[simp] theorem TRequest.all (s : TRequest) : s.enc.take 3 = s.enc := (rfl)
@[simp] theorem TRequest.g0 (s : TRequest) (K : AV → Prop) : getW s.enc 0 K = K (.str s.Path) := by simp [TRequest.enc]
@[simp] theorem TRequest.g1 (s : TRequest) (K : AV → Prop) : getW s.enc 1 K = K (s.Query.av 2 TPair.enc) := by simp [TRequest.enc]
@[simp] theorem TRequest.g2 (s : TRequest) (K : AV → Prop) : getW s.enc 2 K = K (s.Cookies.av 2 TPair.enc) := by simp [TRequest.enc]
theorem TRequest.cells (s : TRequest) : ∀ a, a ∈ s.enc → a.cell = true := by simp [TRequest.enc]
def TRequest.sz (s : TRequest) : Nat := s.Path.length + (szPairS s.Query) + (szPairS s.Cookies)
def TRequest.ok (s : TRequest) : Prop := s.Path.length ≤ mx ∧ okPairS s.Query ∧ okPairS s.Cookies
def TRequest.con (s : TRequest) : TRequest := { s with Query := s.Query.con TPair.con, Cookies := s.Cookies.con TPair.con }
theorem TRequest.sz_con (s : TRequest) : s.con.sz = s.sz := by
  simp [TRequest.sz, TRequest.con, szPairS, szPairS, szL_map TPair.sz_con, szL_map TPair.sz_con]
theorem TRequest.sh : ∀ (n : Nat) (row : List AV), ShC Try.prog n 153 row → ∃ s : TRequest, row = s.enc ∧ s.ok := by
  intro n row h
  obtain ⟨m, hl, hf⟩ := sh_fields (l := [(9, 0), (55, 1), (55, 2)]) (by kernel_rfl) h
  have hl' : row.length = 3 := hl.trans (by kernel_rfl)
  match row, hl' with
  | [x0, x1, x2], _ =>
    have h0 := hf (9, 0) (by simp)
    rw [show Try.prog.cellsOf 9 = 1 by kernel_rfl] at h0
    obtain ⟨v0, rfl, k0⟩ := sh_str (t := 9) (by kernel_rfl) (show ShC Try.prog m 9 [x0] from h0)
    have h1 := hf (55, 1) (by simp)
    rw [show Try.prog.cellsOf 55 = 1 by kernel_rfl] at h1
    obtain ⟨v1, rfl, k1⟩ := shPairS (show ShC Try.prog m 55 [x1] from h1)
    have h2 := hf (55, 2) (by simp)
    rw [show Try.prog.cellsOf 55 = 1 by kernel_rfl] at h2
    obtain ⟨v2, rfl, k2⟩ := shPairS (show ShC Try.prog m 55 [x2] from h2)
    exact ⟨⟨v0, v1, v2⟩, rfl, ⟨k0, k1, k2⟩⟩
theorem TRequest.sz_fn {s : TRequest} (hs : s.ok) {left : Int} (hl : Room left) : Fnc Try.prog 155 [.agg s.enc, .int .i64 left] (.int .i64 (szOf s.sz left)) := by
  unfold TRequest.ok at hs
  have hr := hl.2
  refine fn_of c155 (by simp [F155]) fun c => ?_
  unfold F155
  simp
  rw [szOf_wrap hs.1 hl]
  refine ⟨fun h => fin_plain ⟨by rw [szOf_neg (by simp only [TRequest.sz]; omega)], rfl⟩, fun h => ?_⟩
  refine call_fn0 (szPairS_fn hs.2.1 ⟨by omega, by omega⟩) .int fun _ _ => ?_
  simp
  refine ⟨fun h => fin_plain ⟨by have := szOf_lt h; rw [szOf_neg (by simp only [TRequest.sz]; omega)], rfl⟩, fun h => ?_⟩
  obtain ⟨h1, k1⟩ := szOf_ge h
  rw [h1]
  refine call_fn0 (szPairS_fn hs.2.2 ⟨by omega, by omega⟩) .int fun _ _ => ?_
  simp
  refine ⟨fun h => fin_plain ⟨by have := szOf_lt h; rw [szOf_neg (by simp only [TRequest.sz]; omega)], rfl⟩, fun h => ?_⟩
  obtain ⟨h2, k2⟩ := szOf_ge h
  rw [h2]
  have hz : s.sz = s.Path.length + (szPairS s.Query) + (szPairS s.Cookies) := rfl
  have e : szOf s.sz left = left - (s.Path.length : Int) - ((szPairS s.Query) : Int) - ((szPairS s.Cookies) : Int) := by
    unfold szOf
    rw [if_pos (by omega)]
    omega
  exact fin_plain ⟨by rw [e], rfl⟩
theorem TRequest.to_fn {s : TRequest} (h : s.sz ≤ 1048576) : Tr Try.prog 157 [.agg s.enc] fun _ r => ∃ b : TRequest, r = .agg b.enc ∧ b.con = s.con := by
  simp only [TRequest.sz] at h
  intro c
  refine con_of c157 (by simp [F157]) ?_
  unfold F157
  simp [putA]
  refine call_tree0 (toPairS_fn (by omega)) fun r1 c1 hc1 ⟨b1, e1, q1⟩ f1 => ?_
  subst e1
  simp [putA]
  refine call_tree0 (toPairS_fn (by omega)) fun r2 c2 hc2 ⟨b2, e2, q2⟩ f2 => ?_
  subst e2
  simp [putA]
  refine fin_plain ⟨rfl, ⟨⟨s.Path, b1, b2⟩, rfl, ?_⟩, from_agg ?_⟩
  · simp [TRequest.con, SL.con, SL.pcon, q1, q2]
  · simp
    exact ⟨f1.mono (by omega), f2.mono (by omega)⟩
theorem TRequest.eq_fn {a b : TRequest} (h : a.sz ≤ 1099511627776) (he : a.con = b.con) : Fnc Try.prog 159 [.agg a.enc, .agg b.enc] (.bool true) := by
  simp only [TRequest.sz] at h
  have e0 : a.Path = b.Path := (congrArg TRequest.Path he : a.con.Path = b.con.Path)
  have e1 : a.Query.list.map TPair.con = b.Query.list.map TPair.con := congrArg (fun s => s.Query.list) he
  have e2 : a.Cookies.list.map TPair.con = b.Cookies.list.map TPair.con := congrArg (fun s => s.Cookies.list) he
  refine fn_of c159 (by simp [F159]) fun c => ?_
  unfold F159
  simp [e0]
  refine call_fn0 (eqPairS_fn (by omega) e1) .bool fun _ _ => ?_
  simp [e0]
  refine call_fn0 (eqPairS_fn (by omega) e2) .bool fun _ _ => ?_
  simp [e0]
  exact fin_plain ⟨rfl, rfl⟩
structure THeader where
  Name : List UInt8
  Value : List UInt8
def THeader.enc (s : THeader) : List AV := [.str s.Name, .str s.Value]
@[simp] theorem THeader.len (s : THeader) : s.enc.length = 2 := (rfl)
@[simp] theorem THeader.all (s : THeader) : s.enc.take 2 = s.enc := (rfl)
@[simp] theorem THeader.g0 (s : THeader) (K : AV → Prop) : getW s.enc 0 K = K (.str s.Name) := by simp [THeader.enc]
@[simp] theorem THeader.g1 (s : THeader) (K : AV → Prop) : getW s.enc 1 K = K (.str s.Value) := by simp [THeader.enc]
theorem THeader.cells (s : THeader) : ∀ a, a ∈ s.enc → a.cell = true := by simp [THeader.enc]
def THeader.sz (s : THeader) : Nat := s.Name.length + s.Value.length
def THeader.ok (s : THeader) : Prop := s.Name.length ≤ mx ∧ s.Value.length ≤ mx
def THeader.con (s : THeader) : THeader := s
theorem THeader.sz_con (s : THeader) : s.con.sz = s.sz := rfl
theorem THeader.sh : ∀ (n : Nat) (row : List AV), ShC Try.prog n 177 row → ∃ s : THeader, row = s.enc ∧ s.ok := by
  intro n row h
  obtain ⟨m, hl, hf⟩ := sh_fields (l := [(9, 0), (9, 1)]) (by kernel_rfl) h
  have hl' : row.length = 2 := hl.trans (by kernel_rfl)
  match row, hl' with
  | [x0, x1], _ =>
    have h0 := hf (9, 0) (by simp)
    rw [show Try.prog.cellsOf 9 = 1 by kernel_rfl] at h0
    obtain ⟨v0, rfl, k0⟩ := sh_str (t := 9) (by kernel_rfl) (show ShC Try.prog m 9 [x0] from h0)
    have h1 := hf (9, 1) (by simp)
    rw [show Try.prog.cellsOf 9 = 1 by kernel_rfl] at h1
    obtain ⟨v1, rfl, k1⟩ := sh_str (t := 9) (by kernel_rfl) (show ShC Try.prog m 9 [x1] from h1)
    exact ⟨⟨v0, v1⟩, rfl, ⟨k0, k1⟩⟩
theorem THeader.sz_fn {s : THeader} (hs : s.ok) {left : Int} (hl : Room left) : Fnc Try.prog 140 [.agg s.enc, .int .i64 left] (.int .i64 (szOf s.sz left)) := by
  unfold THeader.ok at hs
  have hr := hl.2
  refine fn_of c140 (by simp [F140]) fun c => ?_
  unfold F140
  simp
  rw [szOf_wrap hs.1 hl]
  refine ⟨fun h => fin_plain ⟨by rw [szOf_neg (by simp only [THeader.sz]; omega)], rfl⟩, fun h => ?_⟩
  rw [szOf_wrap hs.2 ⟨by omega, by omega⟩]
  refine ⟨fun h => fin_plain ⟨by rw [szOf_neg (by simp only [THeader.sz]; omega)], rfl⟩, fun h => ?_⟩
  have hz : s.sz = s.Name.length + s.Value.length := rfl
  have e : szOf s.sz left = left - (s.Name.length : Int) - (s.Value.length : Int) := by
    unfold szOf
    rw [if_pos (by omega)]
    omega
  exact fin_plain ⟨by rw [e], rfl⟩
theorem THeader.to_fn {s : THeader} (h : s.sz ≤ 1048576) : Tr Try.prog 144 [.agg s.enc] fun _ r => ∃ b : THeader, r = .agg b.enc ∧ b.con = s.con := by
  simp only [THeader.sz] at h
  intro c
  refine con_of c144 (by simp [F144]) ?_
  unfold F144
  simp [putA]
  refine fin_plain ⟨rfl, ⟨⟨s.Name, s.Value⟩, rfl, ?_⟩, from_agg ?_⟩
  · rfl
  · simp
theorem THeader.eq_fn {a b : THeader} (h : a.sz ≤ 1099511627776) (he : a.con = b.con) : Fnc Try.prog 148 [.agg a.enc, .agg b.enc] (.bool true) := by
  simp only [THeader.sz] at h
  have e0 : a.Name = b.Name := (congrArg THeader.Name he : a.con.Name = b.con.Name)
  have e1 : a.Value = b.Value := (congrArg THeader.Value he : a.con.Value = b.con.Value)
  refine fn_of c148 (by simp [F148]) fun c => ?_
  unfold F148
  simp [e0, e1]
  exact fin_plain ⟨rfl, rfl⟩
def szHeaderS (s : SL THeader) : Nat := s.list.length + szL THeader.sz s.list
def okHeaderS (s : SL THeader) : Prop := s.list.length ≤ mx ∧ ∀ x, x ∈ s.list → THeader.ok x
theorem szHeaderS_con {s t : SL THeader} (h : s.list.map THeader.con = t.list.map THeader.con) : szHeaderS s = szHeaderS t := by
  unfold szHeaderS
  rw [← szL_map (con := THeader.con) THeader.sz_con s.list, ← szL_map (con := THeader.con) THeader.sz_con t.list, h]
  have := congrArg List.length h; simp at this; rw [this]
theorem shHeaderS {n : Nat} {a : AV} (h : ShC Try.prog n 73 [a]) : ∃ s : SL THeader, a = s.av 2 THeader.enc ∧ okHeaderS s := by
  obtain ⟨s, h1, h2, h3⟩ := sh_slc (P := Try.prog) (t := 73) (el := 177) (w := 2) (enc := THeader.enc) (ok := THeader.ok) (by kernel_rfl) (by kernel_rfl) (THeader.sh) h
  exact ⟨s, h1, h2, h3⟩
theorem szHeaderS_fn {s : SL THeader} (hs : okHeaderS s) {left : Int} (hl : Room left) : Fnc Try.prog 108 [s.av 2 THeader.enc, .int .i64 left] (.int .i64 (szOf (szHeaderS s) left)) :=
  szS_fn (g := 140) c108 (fun _ => rfl) hs.1 hl fun x hx left hl => THeader.sz_fn (hs.2 x hx) hl
theorem toHeaderS_fn {s : SL THeader} (h : szHeaderS s ≤ 1048576) : Tr Try.prog 111 [s.av 2 THeader.enc] fun _ r => ∃ b : SL THeader, r = b.av 2 THeader.enc ∧ b.list.map THeader.con = s.list.map THeader.con := by
  unfold szHeaderS at h
  exact toS_fn (g := 144) (z := [.str [], .str []]) (bytes := 32) c111 rfl (fun _ => rfl) (fun x => THeader.cells x) (by omega) (by omega) fun x hx => THeader.to_fn (by have := szL_mem (sz := THeader.sz) hx; omega)
theorem eqHeaderS_fn {s t : SL THeader} (h : szHeaderS s ≤ 1099511627776) (he : s.list.map THeader.con = t.list.map THeader.con) : Fnc Try.prog 114 [s.av 2 THeader.enc, t.av 2 THeader.enc] (.bool true) := by
  unfold szHeaderS at h
  exact eqS_fn (g := 148) (con := THeader.con) c114 (fun _ => rfl) (by unfold mx; omega) he fun x hx y hxy => THeader.eq_fn (by have := szL_mem (sz := THeader.sz) hx; omega) hxy
structure TResponse where
  Code : Int
  Headers : SL THeader
  Body : List UInt8
def TResponse.enc (s : TResponse) : List AV := [.int .i64 s.Code, s.Headers.av 2 THeader.enc, .str s.Body]
@[simp] theorem TResponse.len (s : TResponse) : s.enc.length = 3 := (rfl)
@[simp] theorem TResponse.all (s : TResponse) : s.enc.take 3 = s.enc := (rfl)
@[simp] theorem TResponse.g0 (s : TResponse) (K : AV → Prop) : getW s.enc 0 K = K (.int .i64 s.Code) := by simp [TResponse.enc]
@[simp] theorem TResponse.g1 (s : TResponse) (K : AV → Prop) : getW s.enc 1 K = K (s.Headers.av 2 THeader.enc) := by simp [TResponse.enc]
@[simp] theorem TResponse.g2 (s : TResponse) (K : AV → Prop) : getW s.enc 2 K = K (.str s.Body) := by simp [TResponse.enc]
theorem TResponse.cells (s : TResponse) : ∀ a, a ∈ s.enc → a.cell = true := by simp [TResponse.enc]
def TResponse.sz (s : TResponse) : Nat := (szHeaderS s.Headers) + s.Body.length
def TResponse.ok (s : TResponse) : Prop := okHeaderS s.Headers ∧ s.Body.length ≤ mx
def TResponse.con (s : TResponse) : TResponse := { s with Headers := s.Headers.con THeader.con }
theorem TResponse.sz_con (s : TResponse) : s.con.sz = s.sz := by
  simp [TResponse.sz, TResponse.con, szHeaderS, szL_map THeader.sz_con]
theorem TResponse.sh : ∀ (n : Nat) (row : List AV), ShC Try.prog n 75 row → ∃ s : TResponse, row = s.enc ∧ s.ok := by
  intro n row h
  obtain ⟨m, hl, hf⟩ := sh_fields (l := [(3, 0), (73, 1), (9, 2)]) (by kernel_rfl) h
  have hl' : row.length = 3 := hl.trans (by kernel_rfl)
  match row, hl' with
  | [x0, x1, x2], _ =>
    have h0 := hf (3, 0) (by simp)
    rw [show Try.prog.cellsOf 3 = 1 by kernel_rfl] at h0
    obtain ⟨v0, rfl, _⟩ := sh_int (k := .i64) (t := 3) (by kernel_rfl) (show ShC Try.prog m 3 [x0] from h0)
    have h1 := hf (73, 1) (by simp)
    rw [show Try.prog.cellsOf 73 = 1 by kernel_rfl] at h1
    obtain ⟨v1, rfl, k1⟩ := shHeaderS (show ShC Try.prog m 73 [x1] from h1)
    have h2 := hf (9, 2) (by simp)
    rw [show Try.prog.cellsOf 9 = 1 by kernel_rfl] at h2
    obtain ⟨v2, rfl, k2⟩ := sh_str (t := 9) (by kernel_rfl) (show ShC Try.prog m 9 [x2] from h2)
    exact ⟨⟨v0, v1, v2⟩, rfl, ⟨k1, k2⟩⟩
theorem TResponse.sz_fn {s : TResponse} (hs : s.ok) {left : Int} (hl : Room left) : Fnc Try.prog 59 [.agg s.enc, .int .i64 left] (.int .i64 (szOf s.sz left)) := by
  unfold TResponse.ok at hs
  have hr := hl.2
  refine fn_of c59 (by simp [F59]) fun c => ?_
  unfold F59
  simp
  refine call_fn0 (szHeaderS_fn hs.1 hl) .int fun _ _ => ?_
  simp
  refine ⟨fun h => fin_plain ⟨by have := szOf_lt h; rw [szOf_neg (by simp only [TResponse.sz]; omega)], rfl⟩, fun h => ?_⟩
  obtain ⟨h0, k0⟩ := szOf_ge h
  rw [h0]
  rw [szOf_wrap hs.2 ⟨by omega, by omega⟩]
  refine ⟨fun h => fin_plain ⟨by rw [szOf_neg (by simp only [TResponse.sz]; omega)], rfl⟩, fun h => ?_⟩
  have hz : s.sz = (szHeaderS s.Headers) + s.Body.length := rfl
  have e : szOf s.sz left = left - ((szHeaderS s.Headers) : Int) - (s.Body.length : Int) := by
    unfold szOf
    rw [if_pos (by omega)]
    omega
  exact fin_plain ⟨by rw [e], rfl⟩
theorem TResponse.to_fn {s : TResponse} (h : s.sz ≤ 1048576) : Tr Try.prog 61 [.agg s.enc] fun _ r => ∃ b : TResponse, r = .agg b.enc ∧ b.con = s.con := by
  simp only [TResponse.sz] at h
  intro c
  refine con_of c61 (by simp [F61]) ?_
  unfold F61
  simp [putA]
  refine call_tree0 (toHeaderS_fn (by omega)) fun r1 c1 hc1 ⟨b1, e1, q1⟩ f1 => ?_
  subst e1
  simp [putA]
  refine fin_plain ⟨rfl, ⟨⟨s.Code, b1, s.Body⟩, rfl, ?_⟩, from_agg ?_⟩
  · simp [TResponse.con, SL.con, SL.pcon, q1]
  · simp
    exact f1.mono (by omega)
theorem TResponse.eq_fn {a b : TResponse} (h : a.sz ≤ 1099511627776) (he : a.con = b.con) : Fnc Try.prog 63 [.agg a.enc, .agg b.enc] (.bool true) := by
  simp only [TResponse.sz] at h
  have e0 : a.Code = b.Code := (congrArg TResponse.Code he : a.con.Code = b.con.Code)
  have e1 : a.Headers.list.map THeader.con = b.Headers.list.map THeader.con := congrArg (fun s => s.Headers.list) he
  have e2 : a.Body = b.Body := (congrArg TResponse.Body he : a.con.Body = b.con.Body)
  refine fn_of c63 (by simp [F63]) fun c => ?_
  unfold F63
  simp [e0, e2]
  refine call_fn0 (eqHeaderS_fn (by omega) e1) .bool fun _ _ => ?_
  simp [e0, e2]
  exact fin_plain ⟨rfl, rfl⟩
structure TAnswer where
  Id : Int
  Session : List UInt8
  Files : SL TFile
  Request : TRequest
  Before : List UInt8
  Response : TResponse
  After : List UInt8
def TAnswer.enc (s : TAnswer) : List AV := [.int .i64 s.Id, .str s.Session, s.Files.av 3 TFile.enc, .str s.Request.Path, s.Request.Query.av 2 TPair.enc, s.Request.Cookies.av 2 TPair.enc, .str s.Before, .int .i64 s.Response.Code, s.Response.Headers.av 2 THeader.enc, .str s.Response.Body, .str s.After]
@[simp] theorem TAnswer.len (s : TAnswer) : s.enc.length = 11 := (rfl)
@[simp] theorem TAnswer.all (s : TAnswer) : s.enc.take 11 = s.enc := (rfl)
@[simp] theorem TAnswer.g0 (s : TAnswer) (K : AV → Prop) : getW s.enc 0 K = K (.int .i64 s.Id) := by simp [TAnswer.enc]
@[simp] theorem TAnswer.g1 (s : TAnswer) (K : AV → Prop) : getW s.enc 1 K = K (.str s.Session) := by simp [TAnswer.enc]
@[simp] theorem TAnswer.g2 (s : TAnswer) (K : AV → Prop) : getW s.enc 2 K = K (s.Files.av 3 TFile.enc) := by simp [TAnswer.enc]
@[simp] theorem TAnswer.g3 (s : TAnswer) (K : AV → Prop) : getW s.enc 3 K = K (.str s.Request.Path) := by simp [TAnswer.enc]
@[simp] theorem TAnswer.g4 (s : TAnswer) (K : AV → Prop) : getW s.enc 4 K = K (s.Request.Query.av 2 TPair.enc) := by simp [TAnswer.enc]
@[simp] theorem TAnswer.g5 (s : TAnswer) (K : AV → Prop) : getW s.enc 5 K = K (s.Request.Cookies.av 2 TPair.enc) := by simp [TAnswer.enc]
@[simp] theorem TAnswer.g6 (s : TAnswer) (K : AV → Prop) : getW s.enc 6 K = K (.str s.Before) := by simp [TAnswer.enc]
@[simp] theorem TAnswer.g7 (s : TAnswer) (K : AV → Prop) : getW s.enc 7 K = K (.int .i64 s.Response.Code) := by simp [TAnswer.enc]
@[simp] theorem TAnswer.g8 (s : TAnswer) (K : AV → Prop) : getW s.enc 8 K = K (s.Response.Headers.av 2 THeader.enc) := by simp [TAnswer.enc]
@[simp] theorem TAnswer.g9 (s : TAnswer) (K : AV → Prop) : getW s.enc 9 K = K (.str s.Response.Body) := by simp [TAnswer.enc]
@[simp] theorem TAnswer.g10 (s : TAnswer) (K : AV → Prop) : getW s.enc 10 K = K (.str s.After) := by simp [TAnswer.enc]
@[simp] theorem TAnswer.seg3 (s : TAnswer) : (s.enc.drop 3).take 3 = s.Request.enc := (rfl)
@[simp] theorem TAnswer.seg7 (s : TAnswer) : (s.enc.drop 7).take 3 = s.Response.enc := (rfl)
theorem TAnswer.cells (s : TAnswer) : ∀ a, a ∈ s.enc → a.cell = true := by simp [TAnswer.enc]
def TAnswer.sz (s : TAnswer) : Nat := s.Session.length + (szFileS s.Files) + s.Request.sz + s.Before.length + s.Response.sz + s.After.length
def TAnswer.ok (s : TAnswer) : Prop := s.Session.length ≤ mx ∧ okFileS s.Files ∧ s.Request.ok ∧ s.Before.length ≤ mx ∧ s.Response.ok ∧ s.After.length ≤ mx
def TAnswer.con (s : TAnswer) : TAnswer := { s with Files := s.Files.con TFile.con, Request := s.Request.con, Response := s.Response.con }
theorem TAnswer.sz_con (s : TAnswer) : s.con.sz = s.sz := by
  simp [TAnswer.sz, TAnswer.con, szFileS, szL_map TFile.sz_con, TRequest.sz_con, TResponse.sz_con]
theorem TAnswer.sh : ∀ (n : Nat) (row : List AV), ShC Try.prog n 155 row → ∃ s : TAnswer, row = s.enc ∧ s.ok := by
  intro n row h
  obtain ⟨m, hl, hf⟩ := sh_fields (l := [(3, 0), (9, 1), (151, 2), (153, 3), (9, 6), (75, 7), (9, 10)]) (by kernel_rfl) h
  have hl' : row.length = 11 := hl.trans (by kernel_rfl)
  match row, hl' with
  | [x0, x1, x2, x3, x4, x5, x6, x7, x8, x9, x10], _ =>
    have h0 := hf (3, 0) (by simp)
    rw [show Try.prog.cellsOf 3 = 1 by kernel_rfl] at h0
    obtain ⟨v0, rfl, _⟩ := sh_int (k := .i64) (t := 3) (by kernel_rfl) (show ShC Try.prog m 3 [x0] from h0)
    have h1 := hf (9, 1) (by simp)
    rw [show Try.prog.cellsOf 9 = 1 by kernel_rfl] at h1
    obtain ⟨v1, rfl, k1⟩ := sh_str (t := 9) (by kernel_rfl) (show ShC Try.prog m 9 [x1] from h1)
    have h2 := hf (151, 2) (by simp)
    rw [show Try.prog.cellsOf 151 = 1 by kernel_rfl] at h2
    obtain ⟨v2, rfl, k2⟩ := shFileS (show ShC Try.prog m 151 [x2] from h2)
    have h3 := hf (153, 3) (by simp)
    rw [show Try.prog.cellsOf 153 = 3 by kernel_rfl] at h3
    obtain ⟨v3, u3, k3⟩ := TRequest.sh m _ (show ShC Try.prog m 153 [x3, x4, x5] from h3)
    simp only [TRequest.enc, List.cons.injEq, and_true] at u3
    obtain ⟨rfl, rfl, rfl⟩ := u3
    have h4 := hf (9, 6) (by simp)
    rw [show Try.prog.cellsOf 9 = 1 by kernel_rfl] at h4
    obtain ⟨v4, rfl, k4⟩ := sh_str (t := 9) (by kernel_rfl) (show ShC Try.prog m 9 [x6] from h4)
    have h5 := hf (75, 7) (by simp)
    rw [show Try.prog.cellsOf 75 = 3 by kernel_rfl] at h5
    obtain ⟨v5, u5, k5⟩ := TResponse.sh m _ (show ShC Try.prog m 75 [x7, x8, x9] from h5)
    simp only [TResponse.enc, List.cons.injEq, and_true] at u5
    obtain ⟨rfl, rfl, rfl⟩ := u5
    have h6 := hf (9, 10) (by simp)
    rw [show Try.prog.cellsOf 9 = 1 by kernel_rfl] at h6
    obtain ⟨v6, rfl, k6⟩ := sh_str (t := 9) (by kernel_rfl) (show ShC Try.prog m 9 [x10] from h6)
    exact ⟨⟨v0, v1, v2, v3, v4, v5, v6⟩, rfl, ⟨k1, k2, k3, k4, k5, k6⟩⟩
theorem TAnswer.sz_fn {s : TAnswer} (hs : s.ok) {left : Int} (hl : Room left) : Fnc Try.prog 123 [.agg s.enc, .int .i64 left] (.int .i64 (szOf s.sz left)) := by
  unfold TAnswer.ok at hs
  have hr := hl.2
  refine fn_of c123 (by simp [F123]) fun c => ?_
  unfold F123
  simp
  rw [szOf_wrap hs.1 hl]
  refine ⟨fun h => fin_plain ⟨by rw [szOf_neg (by simp only [TAnswer.sz]; omega)], rfl⟩, fun h => ?_⟩
  refine call_fn0 (szFileS_fn hs.2.1 ⟨by omega, by omega⟩) .int fun _ _ => ?_
  simp
  refine ⟨fun h => fin_plain ⟨by have := szOf_lt h; rw [szOf_neg (by simp only [TAnswer.sz]; omega)], rfl⟩, fun h => ?_⟩
  obtain ⟨h1, k1⟩ := szOf_ge h
  rw [h1]
  refine call_fn0 (TRequest.sz_fn hs.2.2.1 ⟨by omega, by omega⟩) .int fun _ _ => ?_
  simp
  refine ⟨fun h => fin_plain ⟨by have := szOf_lt h; rw [szOf_neg (by simp only [TAnswer.sz]; omega)], rfl⟩, fun h => ?_⟩
  obtain ⟨h2, k2⟩ := szOf_ge h
  rw [h2]
  rw [szOf_wrap hs.2.2.2.1 ⟨by omega, by omega⟩]
  refine ⟨fun h => fin_plain ⟨by rw [szOf_neg (by simp only [TAnswer.sz]; omega)], rfl⟩, fun h => ?_⟩
  refine call_fn0 (TResponse.sz_fn hs.2.2.2.2.1 ⟨by omega, by omega⟩) .int fun _ _ => ?_
  simp
  refine ⟨fun h => fin_plain ⟨by have := szOf_lt h; rw [szOf_neg (by simp only [TAnswer.sz]; omega)], rfl⟩, fun h => ?_⟩
  obtain ⟨h4, k4⟩ := szOf_ge h
  rw [h4]
  rw [szOf_wrap hs.2.2.2.2.2 ⟨by omega, by omega⟩]
  refine ⟨fun h => fin_plain ⟨by rw [szOf_neg (by simp only [TAnswer.sz]; omega)], rfl⟩, fun h => ?_⟩
  have hz : s.sz = s.Session.length + (szFileS s.Files) + s.Request.sz + s.Before.length + s.Response.sz + s.After.length := rfl
  have e : szOf s.sz left = left - (s.Session.length : Int) - ((szFileS s.Files) : Int) - (s.Request.sz : Int) - (s.Before.length : Int) - (s.Response.sz : Int) - (s.After.length : Int) := by
    unfold szOf
    rw [if_pos (by omega)]
    omega
  exact fin_plain ⟨by rw [e], rfl⟩
theorem TAnswer.to_fn {s : TAnswer} (h : s.sz ≤ 1048576) : Tr Try.prog 125 [.agg s.enc] fun _ r => ∃ b : TAnswer, r = .agg b.enc ∧ b.con = s.con := by
  simp only [TAnswer.sz] at h
  intro c
  refine con_of c125 (by simp [F125]) ?_
  unfold F125
  simp [putA, TRequest.enc, TResponse.enc]
  refine call_tree0 (toFileS_fn (by omega)) fun r2 c2 hc2 ⟨b2, e2, q2⟩ f2 => ?_
  subst e2
  simp [putA, TRequest.enc, TResponse.enc]
  refine call_tree0 (TRequest.to_fn (by omega)) fun r3 c3 hc3 ⟨b3, e3, q3⟩ f3 => ?_
  subst e3
  simp [putA, TRequest.enc, TResponse.enc]
  refine call_tree0 (TResponse.to_fn (by omega)) fun r5 c5 hc5 ⟨b5, e5, q5⟩ f5 => ?_
  subst e5
  simp [putA, TRequest.enc, TResponse.enc]
  refine fin_plain ⟨rfl, ⟨⟨s.Id, s.Session, b2, b3, s.Before, b5, s.After⟩, rfl, ?_⟩, from_agg ?_⟩
  · simp [TAnswer.con, SL.con, SL.pcon, q2, q3, q5]
  · simp
    exact ⟨f2.mono (by omega), (from_agg_mem f3 _ (by simp [TRequest.enc])).mono (by omega), (from_agg_mem f3 _ (by simp [TRequest.enc])).mono (by omega), (from_agg_mem f5 _ (by simp [TResponse.enc])).mono (by omega)⟩
theorem TAnswer.eq_fn {a b : TAnswer} (h : a.sz ≤ 1099511627776) (he : a.con = b.con) : Fnc Try.prog 126 [.agg a.enc, .agg b.enc] (.bool true) := by
  simp only [TAnswer.sz] at h
  have e0 : a.Id = b.Id := (congrArg TAnswer.Id he : a.con.Id = b.con.Id)
  have e1 : a.Session = b.Session := (congrArg TAnswer.Session he : a.con.Session = b.con.Session)
  have e2 : a.Files.list.map TFile.con = b.Files.list.map TFile.con := congrArg (fun s => s.Files.list) he
  have e3 : a.Request.con = b.Request.con := congrArg TAnswer.Request he
  have e4 : a.Before = b.Before := (congrArg TAnswer.Before he : a.con.Before = b.con.Before)
  have e5 : a.Response.con = b.Response.con := congrArg TAnswer.Response he
  have e6 : a.After = b.After := (congrArg TAnswer.After he : a.con.After = b.con.After)
  refine fn_of c126 (by simp [F126]) fun c => ?_
  unfold F126
  simp [e0, e1, e4, e6]
  refine call_fn0 (eqFileS_fn (by omega) e2) .bool fun _ _ => ?_
  simp [e0, e1, e4, e6]
  refine call_fn0 (TRequest.eq_fn (by omega) e3) .bool fun _ _ => ?_
  simp [e0, e1, e4, e6]
  refine call_fn0 (TResponse.eq_fn (by omega) e5) .bool fun _ _ => ?_
  simp [e0, e1, e4, e6]
  exact fin_plain ⟨rfl, rfl⟩
def szAnswerS (s : SL TAnswer) : Nat := s.list.length + szL TAnswer.sz s.list
def okAnswerS (s : SL TAnswer) : Prop := s.list.length ≤ mx ∧ ∀ x, x ∈ s.list → TAnswer.ok x
theorem szAnswerS_con {s t : SL TAnswer} (h : s.list.map TAnswer.con = t.list.map TAnswer.con) : szAnswerS s = szAnswerS t := by
  unfold szAnswerS
  rw [← szL_map (con := TAnswer.con) TAnswer.sz_con s.list, ← szL_map (con := TAnswer.con) TAnswer.sz_con t.list, h]
  have := congrArg List.length h; simp at this; rw [this]
theorem shAnswerS {n : Nat} {a : AV} (h : ShC Try.prog n 100 [a]) : ∃ s : SL TAnswer, a = s.av 11 TAnswer.enc ∧ okAnswerS s := by
  obtain ⟨s, h1, h2, h3⟩ := sh_slc (P := Try.prog) (t := 100) (el := 155) (w := 11) (enc := TAnswer.enc) (ok := TAnswer.ok) (by kernel_rfl) (by kernel_rfl) (TAnswer.sh) h
  exact ⟨s, h1, h2, h3⟩
theorem szAnswerS_fn {s : SL TAnswer} (hs : okAnswerS s) {left : Int} (hl : Room left) : Fnc Try.prog 72 [s.av 11 TAnswer.enc, .int .i64 left] (.int .i64 (szOf (szAnswerS s) left)) :=
  szS_fn (g := 123) c72 (fun _ => rfl) hs.1 hl fun x hx left hl => TAnswer.sz_fn (hs.2 x hx) hl
theorem toAnswerS_fn {s : SL TAnswer} (h : szAnswerS s ≤ 1048576) : Tr Try.prog 74 [s.av 11 TAnswer.enc] fun _ r => ∃ b : SL TAnswer, r = b.av 11 TAnswer.enc ∧ b.list.map TAnswer.con = s.list.map TAnswer.con := by
  unfold szAnswerS at h
  exact toS_fn (g := 125) (z := [.int .i64 0, .str [], .nsl, .str [], .nsl, .nsl, .str [], .int .i64 0, .nsl, .str [], .str []]) (bytes := 192) c74 rfl (fun _ => rfl) (fun x => TAnswer.cells x) (by omega) (by omega) fun x hx => TAnswer.to_fn (by have := szL_mem (sz := TAnswer.sz) hx; omega)
theorem eqAnswerS_fn {s t : SL TAnswer} (h : szAnswerS s ≤ 1099511627776) (he : s.list.map TAnswer.con = t.list.map TAnswer.con) : Fnc Try.prog 76 [s.av 11 TAnswer.enc, t.av 11 TAnswer.enc] (.bool true) := by
  unfold szAnswerS at h
  exact eqS_fn (g := 126) (con := TAnswer.con) c76 (fun _ => rfl) (by unfold mx; omega) he fun x hx y hxy => TAnswer.eq_fn (by have := szL_mem (sz := TAnswer.sz) hx; omega) hxy
end A
end Go.Proofs.Ytgiiipbpadgcgaa
