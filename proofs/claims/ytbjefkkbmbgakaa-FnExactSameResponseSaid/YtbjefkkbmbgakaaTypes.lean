/-
  The types that the laws of this seat speak of, and the helpers over them: printed by a program (wip/tools/gen.py). No condition.
-/
import Derived.Test.YtbjefkkbmbgakaaIR
import Derived.Test.YtbjefkkbmbgakaaFam
namespace Go.Proofs.Ytbjefkkbmbgakaa
namespace A
set_option linter.unusedVariables false
set_option linter.unusedSimpArgs false
set_option maxRecDepth 100000

def szIntS (s : SL Int) : Nat := s.list.length
def okIntS (s : SL Int) : Prop := s.list.length ≤ mx
theorem shIntS {n : Nat} {a : AV} (h : ShC Try.prog n 67 [a]) : ∃ s : SL Int, a = s.av 1 encI ∧ okIntS s := by
  obtain ⟨s, h1, h2, h3⟩ := sh_slc (P := Try.prog) (t := 67) (el := 3) (w := 1) (enc := encI) (ok := fun _ => True) (by kernel_rfl) (by kernel_rfl) (fun n row h => by obtain ⟨i, h1, _⟩ := sh_int1 (k := .i64) (P := Try.prog) (t := 3) (by kernel_rfl) h; exact ⟨i, h1, trivial⟩) h
  exact ⟨s, h1, h2⟩
theorem szIntS_fn {s : SL Int} (hs : okIntS s) {left : Int} (hl : Room left) : Fnc Try.prog 55 [s.av 1 encI, .int .i64 left] (.int .i64 (szOf (szIntS s) left)) := szP_fn c55 hs hl
theorem toIntS_fn {s : SL Int} (h : szIntS s ≤ 1048576) : Tr Try.prog 56 [s.av 1 encI] fun _ r => ∃ t, r = (SL.mk t s.list).av 1 encI := by
  unfold szIntS at h
  exact toP_fn (v := fun n => .int .i64 n) (z := .int .i64 0) (bytes := 8) c56 (fun _ => rfl) (fun _ _ => by simp) (fun _ _ => rfl) (by omega) (by omega)
theorem eqIntS_fn {s t : SL Int} (h : szIntS s ≤ 1048576) (he : s.list = t.list) : Fnc Try.prog 54 [s.av 1 encI, t.av 1 encI] (.bool true) := by
  unfold szIntS at h
  exact eqP_fn (v := fun n => .int .i64 n) c54 (fun x K => by simp) (by unfold mx; omega) he
structure TActor where
  Writer : Bool
  Line : Int
  Version : Int
  Words : SL Int
  State : Int
  At : Int
  Seq : Int
def TActor.enc (s : TActor) : List AV := [.bool s.Writer, .int .i64 s.Line, .int .i64 s.Version, s.Words.av 1 encI, .int .i64 s.State, .int .i64 s.At, .int .i64 s.Seq]
@[simp] theorem TActor.len (s : TActor) : s.enc.length = 7 := (rfl)
@[simp] theorem TActor.all (s : TActor) : s.enc.take 7 = s.enc := (rfl)
@[simp] theorem TActor.g0 (s : TActor) (K : AV → Prop) : getW s.enc 0 K = K (.bool s.Writer) := by simp [TActor.enc]
@[simp] theorem TActor.g1 (s : TActor) (K : AV → Prop) : getW s.enc 1 K = K (.int .i64 s.Line) := by simp [TActor.enc]
@[simp] theorem TActor.g2 (s : TActor) (K : AV → Prop) : getW s.enc 2 K = K (.int .i64 s.Version) := by simp [TActor.enc]
@[simp] theorem TActor.g3 (s : TActor) (K : AV → Prop) : getW s.enc 3 K = K (s.Words.av 1 encI) := by simp [TActor.enc]
@[simp] theorem TActor.g4 (s : TActor) (K : AV → Prop) : getW s.enc 4 K = K (.int .i64 s.State) := by simp [TActor.enc]
@[simp] theorem TActor.g5 (s : TActor) (K : AV → Prop) : getW s.enc 5 K = K (.int .i64 s.At) := by simp [TActor.enc]
@[simp] theorem TActor.g6 (s : TActor) (K : AV → Prop) : getW s.enc 6 K = K (.int .i64 s.Seq) := by simp [TActor.enc]
theorem TActor.cells (s : TActor) : ∀ a, a ∈ s.enc → a.cell = true := by simp [TActor.enc]
def TActor.sz (s : TActor) : Nat := (szIntS s.Words)
def TActor.ok (s : TActor) : Prop := okIntS s.Words
def TActor.con (s : TActor) : TActor := { s with Words := s.Words.pcon }
theorem TActor.sz_con (s : TActor) : s.con.sz = s.sz := by
  simp [TActor.sz, TActor.con, szIntS]
theorem TActor.sh : ∀ (n : Nat) (row : List AV), ShC Try.prog n 82 row → ∃ s : TActor, row = s.enc ∧ s.ok := by
  intro n row h
  obtain ⟨m, hl, hf⟩ := sh_fields (l := [(4, 0), (3, 1), (3, 2), (67, 3), (3, 4), (3, 5), (3, 6)]) (by kernel_rfl) h
  have hl' : row.length = 7 := hl.trans (by kernel_rfl)
  match row, hl' with
  | [x0, x1, x2, x3, x4, x5, x6], _ =>
    have h0 := hf (4, 0) (by simp)
    rw [show Try.prog.cellsOf 4 = 1 by kernel_rfl] at h0
    obtain ⟨v0, rfl⟩ := sh_bool (t := 4) (by kernel_rfl) (show ShC Try.prog m 4 [x0] from h0)
    have h1 := hf (3, 1) (by simp)
    rw [show Try.prog.cellsOf 3 = 1 by kernel_rfl] at h1
    obtain ⟨v1, rfl, _⟩ := sh_int (k := .i64) (t := 3) (by kernel_rfl) (show ShC Try.prog m 3 [x1] from h1)
    have h2 := hf (3, 2) (by simp)
    rw [show Try.prog.cellsOf 3 = 1 by kernel_rfl] at h2
    obtain ⟨v2, rfl, _⟩ := sh_int (k := .i64) (t := 3) (by kernel_rfl) (show ShC Try.prog m 3 [x2] from h2)
    have h3 := hf (67, 3) (by simp)
    rw [show Try.prog.cellsOf 67 = 1 by kernel_rfl] at h3
    obtain ⟨v3, rfl, k3⟩ := shIntS (show ShC Try.prog m 67 [x3] from h3)
    have h4 := hf (3, 4) (by simp)
    rw [show Try.prog.cellsOf 3 = 1 by kernel_rfl] at h4
    obtain ⟨v4, rfl, _⟩ := sh_int (k := .i64) (t := 3) (by kernel_rfl) (show ShC Try.prog m 3 [x4] from h4)
    have h5 := hf (3, 5) (by simp)
    rw [show Try.prog.cellsOf 3 = 1 by kernel_rfl] at h5
    obtain ⟨v5, rfl, _⟩ := sh_int (k := .i64) (t := 3) (by kernel_rfl) (show ShC Try.prog m 3 [x5] from h5)
    have h6 := hf (3, 6) (by simp)
    rw [show Try.prog.cellsOf 3 = 1 by kernel_rfl] at h6
    obtain ⟨v6, rfl, _⟩ := sh_int (k := .i64) (t := 3) (by kernel_rfl) (show ShC Try.prog m 3 [x6] from h6)
    exact ⟨⟨v0, v1, v2, v3, v4, v5, v6⟩, rfl, k3⟩
theorem TActor.sz_fn {s : TActor} (hs : s.ok) {left : Int} (hl : Room left) : Fnc Try.prog 51 [.agg s.enc, .int .i64 left] (.int .i64 (szOf s.sz left)) := by
  unfold TActor.ok at hs
  have hr := hl.2
  refine fn_of c51 (by simp [F51]) fun c => ?_
  unfold F51
  simp
  refine call_fn0 (szIntS_fn hs hl) .int fun _ _ => ?_
  simp
  refine ⟨fun h => fin_plain ⟨by have := szOf_lt h; rw [szOf_neg (by simp only [TActor.sz]; omega)], rfl⟩, fun h => ?_⟩
  obtain ⟨h0, k0⟩ := szOf_ge h
  rw [h0]
  have hz : s.sz = (szIntS s.Words) := rfl
  have e : szOf s.sz left = left - (szIntS s.Words : Int) := by
    unfold szOf
    rw [if_pos (by omega)]
    omega
  exact fin_plain ⟨by rw [e], rfl⟩
theorem TActor.to_fn {s : TActor} (h : s.sz ≤ 1048576) : Tr Try.prog 52 [.agg s.enc] fun _ r => ∃ b : TActor, r = .agg b.enc ∧ b.con = s.con := by
  simp only [TActor.sz] at h
  intro c
  refine con_of c52 (by simp [F52]) ?_
  unfold F52
  simp [putA]
  refine call_tree0 (toIntS_fn (by omega)) fun r3 c3 hc3 ⟨t3, e3⟩ f3 => ?_
  subst e3
  simp [putA]
  refine fin_plain ⟨rfl, ⟨⟨s.Writer, s.Line, s.Version, .mk t3 s.Words.list, s.State, s.At, s.Seq⟩, rfl, ?_⟩, from_agg ?_⟩
  · simp [TActor.con, SL.con, SL.pcon]
  · simp
    exact f3.mono (by omega)
theorem TActor.eq_fn {a b : TActor} (h : a.sz ≤ 1048576) (he : a.con = b.con) : Fnc Try.prog 53 [.agg a.enc, .agg b.enc] (.bool true) := by
  simp only [TActor.sz] at h
  have e0 : a.Writer = b.Writer := (congrArg TActor.Writer he : a.con.Writer = b.con.Writer)
  have e1 : a.Line = b.Line := (congrArg TActor.Line he : a.con.Line = b.con.Line)
  have e2 : a.Version = b.Version := (congrArg TActor.Version he : a.con.Version = b.con.Version)
  have e3 : a.Words.list = b.Words.list := congrArg (fun s => s.Words.list) he
  have e4 : a.State = b.State := (congrArg TActor.State he : a.con.State = b.con.State)
  have e5 : a.At = b.At := (congrArg TActor.At he : a.con.At = b.con.At)
  have e6 : a.Seq = b.Seq := (congrArg TActor.Seq he : a.con.Seq = b.con.Seq)
  refine fn_of c53 (by simp [F53]) fun c => ?_
  unfold F53
  simp [e0, e1, e2, e4, e5, e6]
  refine call_fn0 (eqIntS_fn (by omega) e3) .bool fun _ _ => ?_
  simp [e0, e1, e2, e4, e5, e6]
  exact fin_plain ⟨rfl, rfl⟩
def szActorS (s : SL TActor) : Nat := s.list.length + szL TActor.sz s.list
def okActorS (s : SL TActor) : Prop := s.list.length ≤ mx ∧ ∀ x, x ∈ s.list → TActor.ok x
theorem szActorS_con {s t : SL TActor} (h : s.list.map TActor.con = t.list.map TActor.con) : szActorS s = szActorS t := by
  unfold szActorS
  rw [← szL_map (con := TActor.con) TActor.sz_con s.list, ← szL_map (con := TActor.con) TActor.sz_con t.list, h]
  have := congrArg List.length h; simp at this; rw [this]
theorem shActorS {n : Nat} {a : AV} (h : ShC Try.prog n 51 [a]) : ∃ s : SL TActor, a = s.av 7 TActor.enc ∧ okActorS s := by
  obtain ⟨s, h1, h2, h3⟩ := sh_slc (P := Try.prog) (t := 51) (el := 82) (w := 7) (enc := TActor.enc) (ok := TActor.ok) (by kernel_rfl) (by kernel_rfl) (TActor.sh) h
  exact ⟨s, h1, h2, h3⟩
theorem szActorS_fn {s : SL TActor} (hs : okActorS s) {left : Int} (hl : Room left) : Fnc Try.prog 30 [s.av 7 TActor.enc, .int .i64 left] (.int .i64 (szOf (szActorS s) left)) :=
  szS_fn (g := 51) c30 (fun _ => rfl) hs.1 hl fun x hx left hl => TActor.sz_fn (hs.2 x hx) hl
theorem toActorS_fn {s : SL TActor} (h : szActorS s ≤ 1048576) : Tr Try.prog 32 [s.av 7 TActor.enc] fun _ r => ∃ b : SL TActor, r = b.av 7 TActor.enc ∧ b.list.map TActor.con = s.list.map TActor.con := by
  unfold szActorS at h
  exact toS_fn (g := 52) (z := [.bool false, .int .i64 0, .int .i64 0, .nsl, .int .i64 0, .int .i64 0, .int .i64 0]) (bytes := 72) c32 rfl (fun _ => rfl) (fun x => TActor.cells x) (by omega) (by omega) fun x hx => TActor.to_fn (by have := szL_mem (sz := TActor.sz) hx; omega)
theorem eqActorS_fn {s t : SL TActor} (h : szActorS s ≤ 1048576) (he : s.list.map TActor.con = t.list.map TActor.con) : Fnc Try.prog 34 [s.av 7 TActor.enc, t.av 7 TActor.enc] (.bool true) := by
  unfold szActorS at h
  exact eqS_fn (g := 53) (con := TActor.con) c34 (fun _ => rfl) (by unfold mx; omega) he fun x hx y hxy => TActor.eq_fn (by have := szL_mem (sz := TActor.sz) hx; omega) hxy
structure TLine where
  Seq : Int
  Owner : Int
  Version : Int
  Words : SL Int
def TLine.enc (s : TLine) : List AV := [.int .i64 s.Seq, .int .i64 s.Owner, .int .i64 s.Version, s.Words.av 1 encI]
@[simp] theorem TLine.len (s : TLine) : s.enc.length = 4 := (rfl)
@[simp] theorem TLine.all (s : TLine) : s.enc.take 4 = s.enc := (rfl)
@[simp] theorem TLine.g0 (s : TLine) (K : AV → Prop) : getW s.enc 0 K = K (.int .i64 s.Seq) := by simp [TLine.enc]
@[simp] theorem TLine.g1 (s : TLine) (K : AV → Prop) : getW s.enc 1 K = K (.int .i64 s.Owner) := by simp [TLine.enc]
@[simp] theorem TLine.g2 (s : TLine) (K : AV → Prop) : getW s.enc 2 K = K (.int .i64 s.Version) := by simp [TLine.enc]
@[simp] theorem TLine.g3 (s : TLine) (K : AV → Prop) : getW s.enc 3 K = K (s.Words.av 1 encI) := by simp [TLine.enc]
theorem TLine.cells (s : TLine) : ∀ a, a ∈ s.enc → a.cell = true := by simp [TLine.enc]
def TLine.sz (s : TLine) : Nat := (szIntS s.Words)
def TLine.ok (s : TLine) : Prop := okIntS s.Words
def TLine.con (s : TLine) : TLine := { s with Words := s.Words.pcon }
theorem TLine.sz_con (s : TLine) : s.con.sz = s.sz := by
  simp [TLine.sz, TLine.con, szIntS]
theorem TLine.sh : ∀ (n : Nat) (row : List AV), ShC Try.prog n 72 row → ∃ s : TLine, row = s.enc ∧ s.ok := by
  intro n row h
  obtain ⟨m, hl, hf⟩ := sh_fields (l := [(3, 0), (3, 1), (3, 2), (67, 3)]) (by kernel_rfl) h
  have hl' : row.length = 4 := hl.trans (by kernel_rfl)
  match row, hl' with
  | [x0, x1, x2, x3], _ =>
    have h0 := hf (3, 0) (by simp)
    rw [show Try.prog.cellsOf 3 = 1 by kernel_rfl] at h0
    obtain ⟨v0, rfl, _⟩ := sh_int (k := .i64) (t := 3) (by kernel_rfl) (show ShC Try.prog m 3 [x0] from h0)
    have h1 := hf (3, 1) (by simp)
    rw [show Try.prog.cellsOf 3 = 1 by kernel_rfl] at h1
    obtain ⟨v1, rfl, _⟩ := sh_int (k := .i64) (t := 3) (by kernel_rfl) (show ShC Try.prog m 3 [x1] from h1)
    have h2 := hf (3, 2) (by simp)
    rw [show Try.prog.cellsOf 3 = 1 by kernel_rfl] at h2
    obtain ⟨v2, rfl, _⟩ := sh_int (k := .i64) (t := 3) (by kernel_rfl) (show ShC Try.prog m 3 [x2] from h2)
    have h3 := hf (67, 3) (by simp)
    rw [show Try.prog.cellsOf 67 = 1 by kernel_rfl] at h3
    obtain ⟨v3, rfl, k3⟩ := shIntS (show ShC Try.prog m 67 [x3] from h3)
    exact ⟨⟨v0, v1, v2, v3⟩, rfl, k3⟩
theorem TLine.sz_fn {s : TLine} (hs : s.ok) {left : Int} (hl : Room left) : Fnc Try.prog 43 [.agg s.enc, .int .i64 left] (.int .i64 (szOf s.sz left)) := by
  unfold TLine.ok at hs
  have hr := hl.2
  refine fn_of c43 (by simp [F43]) fun c => ?_
  unfold F43
  simp
  refine call_fn0 (szIntS_fn hs hl) .int fun _ _ => ?_
  simp
  refine ⟨fun h => fin_plain ⟨by have := szOf_lt h; rw [szOf_neg (by simp only [TLine.sz]; omega)], rfl⟩, fun h => ?_⟩
  obtain ⟨h0, k0⟩ := szOf_ge h
  rw [h0]
  have hz : s.sz = (szIntS s.Words) := rfl
  have e : szOf s.sz left = left - (szIntS s.Words : Int) := by
    unfold szOf
    rw [if_pos (by omega)]
    omega
  exact fin_plain ⟨by rw [e], rfl⟩
theorem TLine.to_fn {s : TLine} (h : s.sz ≤ 1048576) : Tr Try.prog 45 [.agg s.enc] fun _ r => ∃ b : TLine, r = .agg b.enc ∧ b.con = s.con := by
  simp only [TLine.sz] at h
  intro c
  refine con_of c45 (by simp [F45]) ?_
  unfold F45
  simp [putA]
  refine call_tree0 (toIntS_fn (by omega)) fun r3 c3 hc3 ⟨t3, e3⟩ f3 => ?_
  subst e3
  simp [putA]
  refine fin_plain ⟨rfl, ⟨⟨s.Seq, s.Owner, s.Version, .mk t3 s.Words.list⟩, rfl, ?_⟩, from_agg ?_⟩
  · simp [TLine.con, SL.con, SL.pcon]
  · simp
    exact f3.mono (by omega)
theorem TLine.eq_fn {a b : TLine} (h : a.sz ≤ 1048576) (he : a.con = b.con) : Fnc Try.prog 40 [.agg a.enc, .agg b.enc] (.bool true) := by
  simp only [TLine.sz] at h
  have e0 : a.Seq = b.Seq := (congrArg TLine.Seq he : a.con.Seq = b.con.Seq)
  have e1 : a.Owner = b.Owner := (congrArg TLine.Owner he : a.con.Owner = b.con.Owner)
  have e2 : a.Version = b.Version := (congrArg TLine.Version he : a.con.Version = b.con.Version)
  have e3 : a.Words.list = b.Words.list := congrArg (fun s => s.Words.list) he
  refine fn_of c40 (by simp [F40]) fun c => ?_
  unfold F40
  simp [e0, e1, e2]
  refine call_fn0 (eqIntS_fn (by omega) e3) .bool fun _ _ => ?_
  simp [e0, e1, e2]
  exact fin_plain ⟨rfl, rfl⟩
def szLineS (s : SL TLine) : Nat := s.list.length + szL TLine.sz s.list
def okLineS (s : SL TLine) : Prop := s.list.length ≤ mx ∧ ∀ x, x ∈ s.list → TLine.ok x
theorem szLineS_con {s t : SL TLine} (h : s.list.map TLine.con = t.list.map TLine.con) : szLineS s = szLineS t := by
  unfold szLineS
  rw [← szL_map (con := TLine.con) TLine.sz_con s.list, ← szL_map (con := TLine.con) TLine.sz_con t.list, h]
  have := congrArg List.length h; simp at this; rw [this]
theorem shLineS {n : Nat} {a : AV} (h : ShC Try.prog n 36 [a]) : ∃ s : SL TLine, a = s.av 4 TLine.enc ∧ okLineS s := by
  obtain ⟨s, h1, h2, h3⟩ := sh_slc (P := Try.prog) (t := 36) (el := 72) (w := 4) (enc := TLine.enc) (ok := TLine.ok) (by kernel_rfl) (by kernel_rfl) (TLine.sh) h
  exact ⟨s, h1, h2, h3⟩
theorem szLineS_fn {s : SL TLine} (hs : okLineS s) {left : Int} (hl : Room left) : Fnc Try.prog 21 [s.av 4 TLine.enc, .int .i64 left] (.int .i64 (szOf (szLineS s) left)) :=
  szS_fn (g := 43) c21 (fun _ => rfl) hs.1 hl fun x hx left hl => TLine.sz_fn (hs.2 x hx) hl
theorem toLineS_fn {s : SL TLine} (h : szLineS s ≤ 1048576) : Tr Try.prog 23 [s.av 4 TLine.enc] fun _ r => ∃ b : SL TLine, r = b.av 4 TLine.enc ∧ b.list.map TLine.con = s.list.map TLine.con := by
  unfold szLineS at h
  exact toS_fn (g := 45) (z := [.int .i64 0, .int .i64 0, .int .i64 0, .nsl]) (bytes := 48) c23 rfl (fun _ => rfl) (fun x => TLine.cells x) (by omega) (by omega) fun x hx => TLine.to_fn (by have := szL_mem (sz := TLine.sz) hx; omega)
theorem eqLineS_fn {s t : SL TLine} (h : szLineS s ≤ 1048576) (he : s.list.map TLine.con = t.list.map TLine.con) : Fnc Try.prog 18 [s.av 4 TLine.enc, t.av 4 TLine.enc] (.bool true) := by
  unfold szLineS at h
  exact eqS_fn (g := 40) (con := TLine.con) c18 (fun _ => rfl) (by unfold mx; omega) he fun x hx y hxy => TLine.eq_fn (by have := szL_mem (sz := TLine.sz) hx; omega) hxy
structure TSession where
  Id : List UInt8
  Data : List UInt8
  Holder : Int
  At : Int
def TSession.enc (s : TSession) : List AV := [.str s.Id, .str s.Data, .int .i64 s.Holder, .int .i64 s.At]
@[simp] theorem TSession.len (s : TSession) : s.enc.length = 4 := (rfl)
@[simp] theorem TSession.all (s : TSession) : s.enc.take 4 = s.enc := (rfl)
@[simp] theorem TSession.g0 (s : TSession) (K : AV → Prop) : getW s.enc 0 K = K (.str s.Id) := by simp [TSession.enc]
@[simp] theorem TSession.g1 (s : TSession) (K : AV → Prop) : getW s.enc 1 K = K (.str s.Data) := by simp [TSession.enc]
@[simp] theorem TSession.g2 (s : TSession) (K : AV → Prop) : getW s.enc 2 K = K (.int .i64 s.Holder) := by simp [TSession.enc]
@[simp] theorem TSession.g3 (s : TSession) (K : AV → Prop) : getW s.enc 3 K = K (.int .i64 s.At) := by simp [TSession.enc]
theorem TSession.cells (s : TSession) : ∀ a, a ∈ s.enc → a.cell = true := by simp [TSession.enc]
def TSession.sz (s : TSession) : Nat := s.Id.length + s.Data.length
def TSession.ok (s : TSession) : Prop := s.Id.length ≤ mx ∧ s.Data.length ≤ mx
def TSession.con (s : TSession) : TSession := s
theorem TSession.sz_con (s : TSession) : s.con.sz = s.sz := rfl
theorem TSession.sh : ∀ (n : Nat) (row : List AV), ShC Try.prog n 60 row → ∃ s : TSession, row = s.enc ∧ s.ok := by
  intro n row h
  obtain ⟨m, hl, hf⟩ := sh_fields (l := [(9, 0), (9, 1), (3, 2), (3, 3)]) (by kernel_rfl) h
  have hl' : row.length = 4 := hl.trans (by kernel_rfl)
  match row, hl' with
  | [x0, x1, x2, x3], _ =>
    have h0 := hf (9, 0) (by simp)
    rw [show Try.prog.cellsOf 9 = 1 by kernel_rfl] at h0
    obtain ⟨v0, rfl, k0⟩ := sh_str (t := 9) (by kernel_rfl) (show ShC Try.prog m 9 [x0] from h0)
    have h1 := hf (9, 1) (by simp)
    rw [show Try.prog.cellsOf 9 = 1 by kernel_rfl] at h1
    obtain ⟨v1, rfl, k1⟩ := sh_str (t := 9) (by kernel_rfl) (show ShC Try.prog m 9 [x1] from h1)
    have h2 := hf (3, 2) (by simp)
    rw [show Try.prog.cellsOf 3 = 1 by kernel_rfl] at h2
    obtain ⟨v2, rfl, _⟩ := sh_int (k := .i64) (t := 3) (by kernel_rfl) (show ShC Try.prog m 3 [x2] from h2)
    have h3 := hf (3, 3) (by simp)
    rw [show Try.prog.cellsOf 3 = 1 by kernel_rfl] at h3
    obtain ⟨v3, rfl, _⟩ := sh_int (k := .i64) (t := 3) (by kernel_rfl) (show ShC Try.prog m 3 [x3] from h3)
    exact ⟨⟨v0, v1, v2, v3⟩, rfl, ⟨k0, k1⟩⟩
theorem TSession.sz_fn {s : TSession} (hs : s.ok) {left : Int} (hl : Room left) : Fnc Try.prog 35 [.agg s.enc, .int .i64 left] (.int .i64 (szOf s.sz left)) := by
  unfold TSession.ok at hs
  have hr := hl.2
  refine fn_of c35 (by simp [F35]) fun c => ?_
  unfold F35
  simp
  rw [szOf_wrap hs.1 hl]
  refine ⟨fun h => fin_plain ⟨by rw [szOf_neg (by simp only [TSession.sz]; omega)], rfl⟩, fun h => ?_⟩
  rw [szOf_wrap hs.2 ⟨by omega, by omega⟩]
  refine ⟨fun h => fin_plain ⟨by rw [szOf_neg (by simp only [TSession.sz]; omega)], rfl⟩, fun h => ?_⟩
  have hz : s.sz = s.Id.length + s.Data.length := rfl
  have e : szOf s.sz left = left - (s.Id.length : Int) - (s.Data.length : Int) := by
    unfold szOf
    rw [if_pos (by omega)]
    omega
  exact fin_plain ⟨by rw [e], rfl⟩
theorem TSession.to_fn {s : TSession} (h : s.sz ≤ 1048576) : Tr Try.prog 36 [.agg s.enc] fun _ r => ∃ b : TSession, r = .agg b.enc ∧ b.con = s.con := by
  simp only [TSession.sz] at h
  intro c
  refine con_of c36 (by simp [F36]) ?_
  unfold F36
  simp [putA]
  refine fin_plain ⟨rfl, ⟨⟨s.Id, s.Data, s.Holder, s.At⟩, rfl, ?_⟩, from_agg ?_⟩
  · rfl
  · simp
theorem TSession.eq_fn {a b : TSession} (h : a.sz ≤ 1048576) (he : a.con = b.con) : Fnc Try.prog 39 [.agg a.enc, .agg b.enc] (.bool true) := by
  simp only [TSession.sz] at h
  have e0 : a.Id = b.Id := (congrArg TSession.Id he : a.con.Id = b.con.Id)
  have e1 : a.Data = b.Data := (congrArg TSession.Data he : a.con.Data = b.con.Data)
  have e2 : a.Holder = b.Holder := (congrArg TSession.Holder he : a.con.Holder = b.con.Holder)
  have e3 : a.At = b.At := (congrArg TSession.At he : a.con.At = b.con.At)
  refine fn_of c39 (by simp [F39]) fun c => ?_
  unfold F39
  simp [e0, e1, e2, e3]
  exact fin_plain ⟨rfl, rfl⟩
def szSessionS (s : SL TSession) : Nat := s.list.length + szL TSession.sz s.list
def okSessionS (s : SL TSession) : Prop := s.list.length ≤ mx ∧ ∀ x, x ∈ s.list → TSession.ok x
theorem szSessionS_con {s t : SL TSession} (h : s.list.map TSession.con = t.list.map TSession.con) : szSessionS s = szSessionS t := by
  unfold szSessionS
  rw [← szL_map (con := TSession.con) TSession.sz_con s.list, ← szL_map (con := TSession.con) TSession.sz_con t.list, h]
  have := congrArg List.length h; simp at this; rw [this]
theorem shSessionS {n : Nat} {a : AV} (h : ShC Try.prog n 24 [a]) : ∃ s : SL TSession, a = s.av 4 TSession.enc ∧ okSessionS s := by
  obtain ⟨s, h1, h2, h3⟩ := sh_slc (P := Try.prog) (t := 24) (el := 60) (w := 4) (enc := TSession.enc) (ok := TSession.ok) (by kernel_rfl) (by kernel_rfl) (TSession.sh) h
  exact ⟨s, h1, h2, h3⟩
theorem szSessionS_fn {s : SL TSession} (hs : okSessionS s) {left : Int} (hl : Room left) : Fnc Try.prog 11 [s.av 4 TSession.enc, .int .i64 left] (.int .i64 (szOf (szSessionS s) left)) :=
  szS_fn (g := 35) c11 (fun _ => rfl) hs.1 hl fun x hx left hl => TSession.sz_fn (hs.2 x hx) hl
theorem toSessionS_fn {s : SL TSession} (h : szSessionS s ≤ 1048576) : Tr Try.prog 13 [s.av 4 TSession.enc] fun _ r => ∃ b : SL TSession, r = b.av 4 TSession.enc ∧ b.list.map TSession.con = s.list.map TSession.con := by
  unfold szSessionS at h
  exact toS_fn (g := 36) (z := [.str [], .str [], .int .i64 0, .int .i64 0]) (bytes := 48) c13 rfl (fun _ => rfl) (fun x => TSession.cells x) (by omega) (by omega) fun x hx => TSession.to_fn (by have := szL_mem (sz := TSession.sz) hx; omega)
theorem eqSessionS_fn {s t : SL TSession} (h : szSessionS s ≤ 1048576) (he : s.list.map TSession.con = t.list.map TSession.con) : Fnc Try.prog 15 [s.av 4 TSession.enc, t.av 4 TSession.enc] (.bool true) := by
  unfold szSessionS at h
  exact eqS_fn (g := 39) (con := TSession.con) c15 (fun _ => rfl) (by unfold mx; omega) he fun x hx y hxy => TSession.eq_fn (by have := szL_mem (sz := TSession.sz) hx; omega) hxy
structure THeader where
  Name : List UInt8
  Value : List UInt8
def THeader.enc (s : THeader) : List AV := [.str s.Name, .str s.Value]
@[simp] theorem THeader.len (s : THeader) : s.enc.length = 2 := (rfl)
@[simp] theorem THeader.all (s : THeader) : s.enc.take 2 = s.enc := (rfl)
@[simp] theorem THeader.g0 (s : THeader) (K : AV → Prop) : getW s.enc 0 K = K (.str s.Name) := by simp [THeader.enc]
@[simp] theorem THeader.g1 (s : THeader) (K : AV → Prop) : getW s.enc 1 K = K (.str s.Value) := by simp [THeader.enc]
theorem THeader.cells (s : THeader) : ∀ a, a ∈ s.enc → a.cell = true := by simp [THeader.enc]
def THeader.sz (s : THeader) : Nat := s.Name.length + s.Value.length
def THeader.ok (s : THeader) : Prop := s.Name.length ≤ mx ∧ s.Value.length ≤ mx
def THeader.con (s : THeader) : THeader := s
theorem THeader.sz_con (s : THeader) : s.con.sz = s.sz := rfl
theorem THeader.sh : ∀ (n : Nat) (row : List AV), ShC Try.prog n 89 row → ∃ s : THeader, row = s.enc ∧ s.ok := by
  intro n row h
  obtain ⟨m, hl, hf⟩ := sh_fields (l := [(9, 0), (9, 1)]) (by kernel_rfl) h
  have hl' : row.length = 2 := hl.trans (by kernel_rfl)
  match row, hl' with
  | [x0, x1], _ =>
    have h0 := hf (9, 0) (by simp)
    rw [show Try.prog.cellsOf 9 = 1 by kernel_rfl] at h0
    obtain ⟨v0, rfl, k0⟩ := sh_str (t := 9) (by kernel_rfl) (show ShC Try.prog m 9 [x0] from h0)
    have h1 := hf (9, 1) (by simp)
    rw [show Try.prog.cellsOf 9 = 1 by kernel_rfl] at h1
    obtain ⟨v1, rfl, k1⟩ := sh_str (t := 9) (by kernel_rfl) (show ShC Try.prog m 9 [x1] from h1)
    exact ⟨⟨v0, v1⟩, rfl, ⟨k0, k1⟩⟩
theorem THeader.sz_fn {s : THeader} (hs : s.ok) {left : Int} (hl : Room left) : Fnc Try.prog 57 [.agg s.enc, .int .i64 left] (.int .i64 (szOf s.sz left)) := by
  unfold THeader.ok at hs
  have hr := hl.2
  refine fn_of c57 (by simp [F57]) fun c => ?_
  unfold F57
  simp
  rw [szOf_wrap hs.1 hl]
  refine ⟨fun h => fin_plain ⟨by rw [szOf_neg (by simp only [THeader.sz]; omega)], rfl⟩, fun h => ?_⟩
  rw [szOf_wrap hs.2 ⟨by omega, by omega⟩]
  refine ⟨fun h => fin_plain ⟨by rw [szOf_neg (by simp only [THeader.sz]; omega)], rfl⟩, fun h => ?_⟩
  have hz : s.sz = s.Name.length + s.Value.length := rfl
  have e : szOf s.sz left = left - (s.Name.length : Int) - (s.Value.length : Int) := by
    unfold szOf
    rw [if_pos (by omega)]
    omega
  exact fin_plain ⟨by rw [e], rfl⟩
theorem THeader.to_fn {s : THeader} (h : s.sz ≤ 1048576) : Tr Try.prog 58 [.agg s.enc] fun _ r => ∃ b : THeader, r = .agg b.enc ∧ b.con = s.con := by
  simp only [THeader.sz] at h
  intro c
  refine con_of c58 (by simp [F58]) ?_
  unfold F58
  simp [putA]
  refine fin_plain ⟨rfl, ⟨⟨s.Name, s.Value⟩, rfl, ?_⟩, from_agg ?_⟩
  · rfl
  · simp
theorem THeader.eq_fn {a b : THeader} (h : a.sz ≤ 1048576) (he : a.con = b.con) : Fnc Try.prog 59 [.agg a.enc, .agg b.enc] (.bool true) := by
  simp only [THeader.sz] at h
  have e0 : a.Name = b.Name := (congrArg THeader.Name he : a.con.Name = b.con.Name)
  have e1 : a.Value = b.Value := (congrArg THeader.Value he : a.con.Value = b.con.Value)
  refine fn_of c59 (by simp [F59]) fun c => ?_
  unfold F59
  simp [e0, e1]
  exact fin_plain ⟨rfl, rfl⟩
def szHeaderS (s : SL THeader) : Nat := s.list.length + szL THeader.sz s.list
def okHeaderS (s : SL THeader) : Prop := s.list.length ≤ mx ∧ ∀ x, x ∈ s.list → THeader.ok x
theorem szHeaderS_con {s t : SL THeader} (h : s.list.map THeader.con = t.list.map THeader.con) : szHeaderS s = szHeaderS t := by
  unfold szHeaderS
  rw [← szL_map (con := THeader.con) THeader.sz_con s.list, ← szL_map (con := THeader.con) THeader.sz_con t.list, h]
  have := congrArg List.length h; simp at this; rw [this]
theorem shHeaderS {n : Nat} {a : AV} (h : ShC Try.prog n 41 [a]) : ∃ s : SL THeader, a = s.av 2 THeader.enc ∧ okHeaderS s := by
  obtain ⟨s, h1, h2, h3⟩ := sh_slc (P := Try.prog) (t := 41) (el := 89) (w := 2) (enc := THeader.enc) (ok := THeader.ok) (by kernel_rfl) (by kernel_rfl) (THeader.sh) h
  exact ⟨s, h1, h2, h3⟩
theorem szHeaderS_fn {s : SL THeader} (hs : okHeaderS s) {left : Int} (hl : Room left) : Fnc Try.prog 47 [s.av 2 THeader.enc, .int .i64 left] (.int .i64 (szOf (szHeaderS s) left)) :=
  szS_fn (g := 57) c47 (fun _ => rfl) hs.1 hl fun x hx left hl => THeader.sz_fn (hs.2 x hx) hl
theorem toHeaderS_fn {s : SL THeader} (h : szHeaderS s ≤ 1048576) : Tr Try.prog 48 [s.av 2 THeader.enc] fun _ r => ∃ b : SL THeader, r = b.av 2 THeader.enc ∧ b.list.map THeader.con = s.list.map THeader.con := by
  unfold szHeaderS at h
  exact toS_fn (g := 58) (z := [.str [], .str []]) (bytes := 32) c48 rfl (fun _ => rfl) (fun x => THeader.cells x) (by omega) (by omega) fun x hx => THeader.to_fn (by have := szL_mem (sz := THeader.sz) hx; omega)
theorem eqHeaderS_fn {s t : SL THeader} (h : szHeaderS s ≤ 1048576) (he : s.list.map THeader.con = t.list.map THeader.con) : Fnc Try.prog 50 [s.av 2 THeader.enc, t.av 2 THeader.enc] (.bool true) := by
  unfold szHeaderS at h
  exact eqS_fn (g := 59) (con := THeader.con) c50 (fun _ => rfl) (by unfold mx; omega) he fun x hx y hxy => THeader.eq_fn (by have := szL_mem (sz := THeader.sz) hx; omega) hxy
structure TResponse where
  Code : Int
  Headers : SL THeader
  Body : List UInt8
def TResponse.enc (s : TResponse) : List AV := [.int .i64 s.Code, s.Headers.av 2 THeader.enc, .str s.Body]
@[simp] theorem TResponse.len (s : TResponse) : s.enc.length = 3 := (rfl)
@[simp] theorem TResponse.all (s : TResponse) : s.enc.take 3 = s.enc := (rfl)
@[simp] theorem TResponse.g0 (s : TResponse) (K : AV → Prop) : getW s.enc 0 K = K (.int .i64 s.Code) := by simp [TResponse.enc]
@[simp] theorem TResponse.g1 (s : TResponse) (K : AV → Prop) : getW s.enc 1 K = K (s.Headers.av 2 THeader.enc) := by simp [TResponse.enc]
@[simp] theorem TResponse.g2 (s : TResponse) (K : AV → Prop) : getW s.enc 2 K = K (.str s.Body) := by simp [TResponse.enc]
theorem TResponse.cells (s : TResponse) : ∀ a, a ∈ s.enc → a.cell = true := by simp [TResponse.enc]
def TResponse.sz (s : TResponse) : Nat := (szHeaderS s.Headers) + s.Body.length
def TResponse.ok (s : TResponse) : Prop := okHeaderS s.Headers ∧ s.Body.length ≤ mx
def TResponse.con (s : TResponse) : TResponse := { s with Headers := s.Headers.con THeader.con }
theorem TResponse.sz_con (s : TResponse) : s.con.sz = s.sz := by
  simp [TResponse.sz, TResponse.con, szHeaderS, szL_map THeader.sz_con]
theorem TResponse.sh : ∀ (n : Nat) (row : List AV), ShC Try.prog n 43 row → ∃ s : TResponse, row = s.enc ∧ s.ok := by
  intro n row h
  obtain ⟨m, hl, hf⟩ := sh_fields (l := [(3, 0), (41, 1), (9, 2)]) (by kernel_rfl) h
  have hl' : row.length = 3 := hl.trans (by kernel_rfl)
  match row, hl' with
  | [x0, x1, x2], _ =>
    have h0 := hf (3, 0) (by simp)
    rw [show Try.prog.cellsOf 3 = 1 by kernel_rfl] at h0
    obtain ⟨v0, rfl, _⟩ := sh_int (k := .i64) (t := 3) (by kernel_rfl) (show ShC Try.prog m 3 [x0] from h0)
    have h1 := hf (41, 1) (by simp)
    rw [show Try.prog.cellsOf 41 = 1 by kernel_rfl] at h1
    obtain ⟨v1, rfl, k1⟩ := shHeaderS (show ShC Try.prog m 41 [x1] from h1)
    have h2 := hf (9, 2) (by simp)
    rw [show Try.prog.cellsOf 9 = 1 by kernel_rfl] at h2
    obtain ⟨v2, rfl, k2⟩ := sh_str (t := 9) (by kernel_rfl) (show ShC Try.prog m 9 [x2] from h2)
    exact ⟨⟨v0, v1, v2⟩, rfl, ⟨k1, k2⟩⟩
theorem TResponse.sz_fn {s : TResponse} (hs : s.ok) {left : Int} (hl : Room left) : Fnc Try.prog 25 [.agg s.enc, .int .i64 left] (.int .i64 (szOf s.sz left)) := by
  unfold TResponse.ok at hs
  have hr := hl.2
  refine fn_of c25 (by simp [F25]) fun c => ?_
  unfold F25
  simp
  refine call_fn0 (szHeaderS_fn hs.1 hl) .int fun _ _ => ?_
  simp
  refine ⟨fun h => fin_plain ⟨by have := szOf_lt h; rw [szOf_neg (by simp only [TResponse.sz]; omega)], rfl⟩, fun h => ?_⟩
  obtain ⟨h0, k0⟩ := szOf_ge h
  rw [h0]
  rw [szOf_wrap hs.2 ⟨by omega, by omega⟩]
  refine ⟨fun h => fin_plain ⟨by rw [szOf_neg (by simp only [TResponse.sz]; omega)], rfl⟩, fun h => ?_⟩
  have hz : s.sz = (szHeaderS s.Headers) + s.Body.length := rfl
  have e : szOf s.sz left = left - (szHeaderS s.Headers : Int) - (s.Body.length : Int) := by
    unfold szOf
    rw [if_pos (by omega)]
    omega
  exact fin_plain ⟨by rw [e], rfl⟩
theorem TResponse.to_fn {s : TResponse} (h : s.sz ≤ 1048576) : Tr Try.prog 27 [.agg s.enc] fun _ r => ∃ b : TResponse, r = .agg b.enc ∧ b.con = s.con := by
  simp only [TResponse.sz] at h
  intro c
  refine con_of c27 (by simp [F27]) ?_
  unfold F27
  simp [putA]
  refine call_tree0 (toHeaderS_fn (by omega)) fun r1 c1 hc1 ⟨b1, e1, q1⟩ f1 => ?_
  subst e1
  simp [putA]
  refine fin_plain ⟨rfl, ⟨⟨s.Code, b1, s.Body⟩, rfl, ?_⟩, from_agg ?_⟩
  · simp [TResponse.con, SL.con, SL.pcon, q1]
  · simp
    exact f1.mono (by omega)
theorem TResponse.eq_fn {a b : TResponse} (h : a.sz ≤ 1048576) (he : a.con = b.con) : Fnc Try.prog 29 [.agg a.enc, .agg b.enc] (.bool true) := by
  simp only [TResponse.sz] at h
  have e0 : a.Code = b.Code := (congrArg TResponse.Code he : a.con.Code = b.con.Code)
  have e1 : a.Headers.list.map THeader.con = b.Headers.list.map THeader.con := congrArg (fun s => s.Headers.list) he
  have e2 : a.Body = b.Body := (congrArg TResponse.Body he : a.con.Body = b.con.Body)
  refine fn_of c29 (by simp [F29]) fun c => ?_
  unfold F29
  simp [e0, e2]
  refine call_fn0 (eqHeaderS_fn (by omega) e1) .bool fun _ _ => ?_
  simp [e0, e2]
  exact fin_plain ⟨rfl, rfl⟩
end A
end Go.Proofs.Ytbjefkkbmbgakaa
