/-
  The types that the laws of this seat speak of, and the helpers over them: printed by a program (wip/tools/gen.py). No condition.
-/
import Derived.Test.YtgiiipbpadgcgaaIR
import Derived.Test.YtgiiipbpadgcgaaFam
namespace Go.Proofs.Ytgiiipbpadgcgaa
namespace A
set_option linter.unusedVariables false
set_option linter.unusedSimpArgs false
set_option maxRecDepth 100000

structure THeader where
  Name : List UInt8
  Value : List UInt8
def THeader.enc (s : THeader) : List AV := [.str s.Name, .str s.Value]
@[simp] theorem THeader.len (s : THeader) : s.enc.length = 2 := (rfl)
@[simp] theorem THeader.all (s : THeader) : s.enc.take 2 = s.enc := (rfl)
@[simp] theorem THeader.g0 (s : THeader) (K : AV → Prop) : getW s.enc 0 K = K (.str s.Name) := by simp [THeader.enc]
@[simp] theorem THeader.g1 (s : THeader) (K : AV → Prop) : getW s.enc 1 K = K (.str s.Value) := by simp [THeader.enc]
theorem THeader.cells (s : THeader) : ∀ a, a ∈ s.enc → a.cell = true := by simp [THeader.enc]
def THeader.sz (s : THeader) : Nat := s.Name.length + s.Value.length
def THeader.ok (s : THeader) : Prop := s.Name.length ≤ mx ∧ s.Value.length ≤ mx
def THeader.con (s : THeader) : THeader := s
theorem THeader.sz_con (s : THeader) : s.con.sz = s.sz := rfl
theorem THeader.sh : ∀ (n : Nat) (row : List AV), ShC Try.prog n 177 row → ∃ s : THeader, row = s.enc ∧ s.ok := by
  intro n row h
  obtain ⟨m, hl, hf⟩ := sh_fields (l := [(9, 0), (9, 1)]) (by kernel_rfl) h
  have hl' : row.length = 2 := hl.trans (by kernel_rfl)
  match row, hl' with
  | [x0, x1], _ =>
    have h0 := hf (9, 0) (by simp)
    rw [show Try.prog.cellsOf 9 = 1 by kernel_rfl] at h0
    obtain ⟨v0, rfl, k0⟩ := sh_str (t := 9) (by kernel_rfl) (show ShC Try.prog m 9 [x0] from h0)
    have h1 := hf (9, 1) (by simp)
    rw [show Try.prog.cellsOf 9 = 1 by kernel_rfl] at h1
    obtain ⟨v1, rfl, k1⟩ := sh_str (t := 9) (by kernel_rfl) (show ShC Try.prog m 9 [x1] from h1)
    exact ⟨⟨v0, v1⟩, rfl, ⟨k0, k1⟩⟩
theorem THeader.sz_fn {s : THeader} (hs : s.ok) {left : Int} (hl : Room left) : Fnc Try.prog 140 [.agg s.enc, .int .i64 left] (.int .i64 (szOf s.sz left)) := by
  unfold THeader.ok at hs
  have hr := hl.2
  refine fn_of c140 (by simp [F140]) fun c => ?_
  unfold F140
  simp
  rw [szOf_wrap hs.1 hl]
  refine ⟨fun h => fin_plain ⟨by rw [szOf_neg (by simp only [THeader.sz]; omega)], rfl⟩, fun h => ?_⟩
  rw [szOf_wrap hs.2 ⟨by omega, by omega⟩]
  refine ⟨fun h => fin_plain ⟨by rw [szOf_neg (by simp only [THeader.sz]; omega)], rfl⟩, fun h => ?_⟩
  have hz : s.sz = s.Name.length + s.Value.length := rfl
  have e : szOf s.sz left = left - (s.Name.length : Int) - (s.Value.length : Int) := by
    unfold szOf
    rw [if_pos (by omega)]
    omega
  exact fin_plain ⟨by rw [e], rfl⟩
theorem THeader.to_fn {s : THeader} (h : s.sz ≤ 1048576) : Tr Try.prog 144 [.agg s.enc] fun _ r => ∃ b : THeader, r = .agg b.enc ∧ b.con = s.con := by
  simp only [THeader.sz] at h
  intro c
  refine con_of c144 (by simp [F144]) ?_
  unfold F144
  simp [putA]
  refine fin_plain ⟨rfl, ⟨⟨s.Name, s.Value⟩, rfl, ?_⟩, from_agg ?_⟩
  · rfl
  · simp
theorem THeader.eq_fn {a b : THeader} (h : a.sz ≤ 1099511627776) (he : a.con = b.con) : Fnc Try.prog 148 [.agg a.enc, .agg b.enc] (.bool true) := by
  simp only [THeader.sz] at h
  have e0 : a.Name = b.Name := (congrArg THeader.Name he : a.con.Name = b.con.Name)
  have e1 : a.Value = b.Value := (congrArg THeader.Value he : a.con.Value = b.con.Value)
  refine fn_of c148 (by simp [F148]) fun c => ?_
  unfold F148
  simp [e0, e1]
  exact fin_plain ⟨rfl, rfl⟩
def szHeaderS (s : SL THeader) : Nat := s.list.length + szL THeader.sz s.list
def okHeaderS (s : SL THeader) : Prop := s.list.length ≤ mx ∧ ∀ x, x ∈ s.list → THeader.ok x
theorem szHeaderS_con {s t : SL THeader} (h : s.list.map THeader.con = t.list.map THeader.con) : szHeaderS s = szHeaderS t := by
  unfold szHeaderS
  rw [← szL_map (con := THeader.con) THeader.sz_con s.list, ← szL_map (con := THeader.con) THeader.sz_con t.list, h]
  have := congrArg List.length h; simp at this; rw [this]
theorem shHeaderS {n : Nat} {a : AV} (h : ShC Try.prog n 73 [a]) : ∃ s : SL THeader, a = s.av 2 THeader.enc ∧ okHeaderS s := by
  obtain ⟨s, h1, h2, h3⟩ := sh_slc (P := Try.prog) (t := 73) (el := 177) (w := 2) (enc := THeader.enc) (ok := THeader.ok) (by kernel_rfl) (by kernel_rfl) (THeader.sh) h
  exact ⟨s, h1, h2, h3⟩
theorem szHeaderS_fn {s : SL THeader} (hs : okHeaderS s) {left : Int} (hl : Room left) : Fnc Try.prog 108 [s.av 2 THeader.enc, .int .i64 left] (.int .i64 (szOf (szHeaderS s) left)) :=
  szS_fn (g := 140) c108 (fun _ => rfl) hs.1 hl fun x hx left hl => THeader.sz_fn (hs.2 x hx) hl
theorem toHeaderS_fn {s : SL THeader} (h : szHeaderS s ≤ 1048576) : Tr Try.prog 111 [s.av 2 THeader.enc] fun _ r => ∃ b : SL THeader, r = b.av 2 THeader.enc ∧ b.list.map THeader.con = s.list.map THeader.con := by
  unfold szHeaderS at h
  exact toS_fn (g := 144) (z := [.str [], .str []]) (bytes := 32) c111 rfl (fun _ => rfl) (fun x => THeader.cells x) (by omega) (by omega) fun x hx => THeader.to_fn (by have := szL_mem (sz := THeader.sz) hx; omega)
theorem eqHeaderS_fn {s t : SL THeader} (h : szHeaderS s ≤ 1099511627776) (he : s.list.map THeader.con = t.list.map THeader.con) : Fnc Try.prog 114 [s.av 2 THeader.enc, t.av 2 THeader.enc] (.bool true) := by
  unfold szHeaderS at h
  exact eqS_fn (g := 148) (con := THeader.con) c114 (fun _ => rfl) (by unfold mx; omega) he fun x hx y hxy => THeader.eq_fn (by have := szL_mem (sz := THeader.sz) hx; omega) hxy
structure TResponse where
  Code : Int
  Headers : SL THeader
  Body : List UInt8
def TResponse.enc (s : TResponse) : List AV := [.int .i64 s.Code, s.Headers.av 2 THeader.enc, .str s.Body]
@[simp] theorem TResponse.len (s : TResponse) : s.enc.length = 3 := (rfl)
@[simp] theorem TResponse.all (s : TResponse) : s.enc.take 3 = s.enc := (rfl)
@[simp] theorem TResponse.g0 (s : TResponse) (K : AV → Prop) : getW s.enc 0 K = K (.int .i64 s.Code) := by simp [TResponse.enc]
@[simp] theorem TResponse.g1 (s : TResponse) (K : AV → Prop) : getW s.enc 1 K = K (s.Headers.av 2 THeader.enc) := by simp [TResponse.enc]
@[simp] theorem TResponse.g2 (s : TResponse) (K : AV → Prop) : getW s.enc 2 K = K (.str s.Body) := by simp [TResponse.enc]
theorem TResponse.cells (s : TResponse) : ∀ a, a ∈ s.enc → a.cell = true := by simp [TResponse.enc]
def TResponse.sz (s : TResponse) : Nat := (szHeaderS s.Headers) + s.Body.length
def TResponse.ok (s : TResponse) : Prop := okHeaderS s.Headers ∧ s.Body.length ≤ mx
def TResponse.con (s : TResponse) : TResponse := { s with Headers := s.Headers.con THeader.con }
theorem TResponse.sz_con (s : TResponse) : s.con.sz = s.sz := by
  simp [TResponse.sz, TResponse.con, szHeaderS, szL_map THeader.sz_con]
theorem TResponse.sh : ∀ (n : Nat) (row : List AV), ShC Try.prog n 75 row → ∃ s : TResponse, row = s.enc ∧ s.ok := by
  intro n row h
  obtain ⟨m, hl, hf⟩ := sh_fields (l := [(3, 0), (73, 1), (9, 2)]) (by kernel_rfl) h
  have hl' : row.length = 3 := hl.trans (by kernel_rfl)
  match row, hl' with
  | [x0, x1, x2], _ =>
    have h0 := hf (3, 0) (by simp)
    rw [show Try.prog.cellsOf 3 = 1 by kernel_rfl] at h0
    obtain ⟨v0, rfl, _⟩ := sh_int (k := .i64) (t := 3) (by kernel_rfl) (show ShC Try.prog m 3 [x0] from h0)
    have h1 := hf (73, 1) (by simp)
    rw [show Try.prog.cellsOf 73 = 1 by kernel_rfl] at h1
    obtain ⟨v1, rfl, k1⟩ := shHeaderS (show ShC Try.prog m 73 [x1] from h1)
    have h2 := hf (9, 2) (by simp)
    rw [show Try.prog.cellsOf 9 = 1 by kernel_rfl] at h2
    obtain ⟨v2, rfl, k2⟩ := sh_str (t := 9) (by kernel_rfl) (show ShC Try.prog m 9 [x2] from h2)
    exact ⟨⟨v0, v1, v2⟩, rfl, ⟨k1, k2⟩⟩
theorem TResponse.sz_fn {s : TResponse} (hs : s.ok) {left : Int} (hl : Room left) : Fnc Try.prog 59 [.agg s.enc, .int .i64 left] (.int .i64 (szOf s.sz left)) := by
  unfold TResponse.ok at hs
  have hr := hl.2
  refine fn_of c59 (by simp [F59]) fun c => ?_
  unfold F59
  simp
  refine call_fn0 (szHeaderS_fn hs.1 hl) .int fun _ _ => ?_
  simp
  refine ⟨fun h => fin_plain ⟨by have := szOf_lt h; rw [szOf_neg (by simp only [TResponse.sz]; omega)], rfl⟩, fun h => ?_⟩
  obtain ⟨h0, k0⟩ := szOf_ge h
  rw [h0]
  rw [szOf_wrap hs.2 ⟨by omega, by omega⟩]
  refine ⟨fun h => fin_plain ⟨by rw [szOf_neg (by simp only [TResponse.sz]; omega)], rfl⟩, fun h => ?_⟩
  have hz : s.sz = (szHeaderS s.Headers) + s.Body.length := rfl
  have e : szOf s.sz left = left - ((szHeaderS s.Headers) : Int) - (s.Body.length : Int) := by
    unfold szOf
    rw [if_pos (by omega)]
    omega
  exact fin_plain ⟨by rw [e], rfl⟩
theorem TResponse.to_fn {s : TResponse} (h : s.sz ≤ 1048576) : Tr Try.prog 61 [.agg s.enc] fun _ r => ∃ b : TResponse, r = .agg b.enc ∧ b.con = s.con := by
  simp only [TResponse.sz] at h
  intro c
  refine con_of c61 (by simp [F61]) ?_
  unfold F61
  simp [putA]
  refine call_tree0 (toHeaderS_fn (by omega)) fun r1 c1 hc1 ⟨b1, e1, q1⟩ f1 => ?_
  subst e1
  simp [putA]
  refine fin_plain ⟨rfl, ⟨⟨s.Code, b1, s.Body⟩, rfl, ?_⟩, from_agg ?_⟩
  · simp [TResponse.con, SL.con, SL.pcon, q1]
  · simp
    exact f1.mono (by omega)
theorem TResponse.eq_fn {a b : TResponse} (h : a.sz ≤ 1099511627776) (he : a.con = b.con) : Fnc Try.prog 63 [.agg a.enc, .agg b.enc] (.bool true) := by
  simp only [TResponse.sz] at h
  have e0 : a.Code = b.Code := (congrArg TResponse.Code he : a.con.Code = b.con.Code)
  have e1 : a.Headers.list.map THeader.con = b.Headers.list.map THeader.con := congrArg (fun s => s.Headers.list) he
  have e2 : a.Body = b.Body := (congrArg TResponse.Body he : a.con.Body = b.con.Body)
  refine fn_of c63 (by simp [F63]) fun c => ?_
  unfold F63
  simp [e0, e2]
  refine call_fn0 (eqHeaderS_fn (by omega) e1) .bool fun _ _ => ?_
  simp [e0, e2]
  exact fin_plain ⟨rfl, rfl⟩
end A
end Go.Proofs.Ytgiiipbpadgcgaa
