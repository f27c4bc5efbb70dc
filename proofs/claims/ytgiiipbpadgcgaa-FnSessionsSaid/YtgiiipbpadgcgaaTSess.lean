/-
  The types that the laws of this seat speak of, and the helpers over them: printed by a program (wip/tools/gen.py). No condition.
-/
import Derived.Test.YtgiiipbpadgcgaaIR
import Derived.Test.YtgiiipbpadgcgaaFam
namespace Go.Proofs.Ytgiiipbpadgcgaa
namespace A
set_option linter.unusedVariables false
set_option linter.unusedSimpArgs false
set_option maxRecDepth 100000

structure TSession where
  Id : List UInt8
  Data : List UInt8
  Holder : Int
  At : Int
def TSession.enc (s : TSession) : List AV := [.str s.Id, .str s.Data, .int .i64 s.Holder, .int .i64 s.At]
@[simp] theorem TSession.len (s : TSession) : s.enc.length = 4 := (rfl)
@[simp] theorem TSession.all (s : TSession) : s.enc.take 4 = s.enc := (rfl)
@[simp] theorem TSession.g0 (s : TSession) (K : AV → Prop) : getW s.enc 0 K = K (.str s.Id) := by simp [TSession.enc]
@[simp] theorem TSession.g1 (s : TSession) (K : AV → Prop) : getW s.enc 1 K = K (.str s.Data) := by simp [TSession.enc]
@[simp] theorem TSession.g2 (s : TSession) (K : AV → Prop) : getW s.enc 2 K = K (.int .i64 s.Holder) := by simp [TSession.enc]
@[simp] theorem TSession.g3 (s : TSession) (K : AV → Prop) : getW s.enc 3 K = K (.int .i64 s.At) := by simp [TSession.enc]
theorem TSession.cells (s : TSession) : ∀ a, a ∈ s.enc → a.cell = true := by simp [TSession.enc]
def TSession.sz (s : TSession) : Nat := s.Id.length + s.Data.length
def TSession.ok (s : TSession) : Prop := s.Id.length ≤ mx ∧ s.Data.length ≤ mx
def TSession.con (s : TSession) : TSession := s
theorem TSession.sz_con (s : TSession) : s.con.sz = s.sz := rfl
theorem TSession.sh : ∀ (n : Nat) (row : List AV), ShC Try.prog n 108 row → ∃ s : TSession, row = s.enc ∧ s.ok := by
  intro n row h
  obtain ⟨m, hl, hf⟩ := sh_fields (l := [(9, 0), (9, 1), (3, 2), (3, 3)]) (by kernel_rfl) h
  have hl' : row.length = 4 := hl.trans (by kernel_rfl)
  match row, hl' with
  | [x0, x1, x2, x3], _ =>
    have h0 := hf (9, 0) (by simp)
    rw [show Try.prog.cellsOf 9 = 1 by kernel_rfl] at h0
    obtain ⟨v0, rfl, k0⟩ := sh_str (t := 9) (by kernel_rfl) (show ShC Try.prog m 9 [x0] from h0)
    have h1 := hf (9, 1) (by simp)
    rw [show Try.prog.cellsOf 9 = 1 by kernel_rfl] at h1
    obtain ⟨v1, rfl, k1⟩ := sh_str (t := 9) (by kernel_rfl) (show ShC Try.prog m 9 [x1] from h1)
    have h2 := hf (3, 2) (by simp)
    rw [show Try.prog.cellsOf 3 = 1 by kernel_rfl] at h2
    obtain ⟨v2, rfl, _⟩ := sh_int (k := .i64) (t := 3) (by kernel_rfl) (show ShC Try.prog m 3 [x2] from h2)
    have h3 := hf (3, 3) (by simp)
    rw [show Try.prog.cellsOf 3 = 1 by kernel_rfl] at h3
    obtain ⟨v3, rfl, _⟩ := sh_int (k := .i64) (t := 3) (by kernel_rfl) (show ShC Try.prog m 3 [x3] from h3)
    exact ⟨⟨v0, v1, v2, v3⟩, rfl, ⟨k0, k1⟩⟩
theorem TSession.sz_fn {s : TSession} (hs : s.ok) {left : Int} (hl : Room left) : Fnc Try.prog 77 [.agg s.enc, .int .i64 left] (.int .i64 (szOf s.sz left)) := by
  unfold TSession.ok at hs
  have hr := hl.2
  refine fn_of c77 (by simp [F77]) fun c => ?_
  unfold F77
  simp
  rw [szOf_wrap hs.1 hl]
  refine ⟨fun h => fin_plain ⟨by rw [szOf_neg (by simp only [TSession.sz]; omega)], rfl⟩, fun h => ?_⟩
  rw [szOf_wrap hs.2 ⟨by omega, by omega⟩]
  refine ⟨fun h => fin_plain ⟨by rw [szOf_neg (by simp only [TSession.sz]; omega)], rfl⟩, fun h => ?_⟩
  have hz : s.sz = s.Id.length + s.Data.length := rfl
  have e : szOf s.sz left = left - (s.Id.length : Int) - (s.Data.length : Int) := by
    unfold szOf
    rw [if_pos (by omega)]
    omega
  exact fin_plain ⟨by rw [e], rfl⟩
theorem TSession.to_fn {s : TSession} (h : s.sz ≤ 1048576) : Tr Try.prog 81 [.agg s.enc] fun _ r => ∃ b : TSession, r = .agg b.enc ∧ b.con = s.con := by
  simp only [TSession.sz] at h
  intro c
  refine con_of c81 (by simp [F81]) ?_
  unfold F81
  simp [putA]
  refine fin_plain ⟨rfl, ⟨⟨s.Id, s.Data, s.Holder, s.At⟩, rfl, ?_⟩, from_agg ?_⟩
  · rfl
  · simp
theorem TSession.eq_fn {a b : TSession} (h : a.sz ≤ 1099511627776) (he : a.con = b.con) : Fnc Try.prog 84 [.agg a.enc, .agg b.enc] (.bool true) := by
  simp only [TSession.sz] at h
  have e0 : a.Id = b.Id := (congrArg TSession.Id he : a.con.Id = b.con.Id)
  have e1 : a.Data = b.Data := (congrArg TSession.Data he : a.con.Data = b.con.Data)
  have e2 : a.Holder = b.Holder := (congrArg TSession.Holder he : a.con.Holder = b.con.Holder)
  have e3 : a.At = b.At := (congrArg TSession.At he : a.con.At = b.con.At)
  refine fn_of c84 (by simp [F84]) fun c => ?_
  unfold F84
  simp [e0, e1, e2, e3]
  exact fin_plain ⟨rfl, rfl⟩
def szSessionS (s : SL TSession) : Nat := s.list.length + szL TSession.sz s.list
def okSessionS (s : SL TSession) : Prop := s.list.length ≤ mx ∧ ∀ x, x ∈ s.list → TSession.ok x
theorem szSessionS_con {s t : SL TSession} (h : s.list.map TSession.con = t.list.map TSession.con) : szSessionS s = szSessionS t := by
  unfold szSessionS
  rw [← szL_map (con := TSession.con) TSession.sz_con s.list, ← szL_map (con := TSession.con) TSession.sz_con t.list, h]
  have := congrArg List.length h; simp at this; rw [this]
theorem shSessionS {n : Nat} {a : AV} (h : ShC Try.prog n 22 [a]) : ∃ s : SL TSession, a = s.av 4 TSession.enc ∧ okSessionS s := by
  obtain ⟨s, h1, h2, h3⟩ := sh_slc (P := Try.prog) (t := 22) (el := 108) (w := 4) (enc := TSession.enc) (ok := TSession.ok) (by kernel_rfl) (by kernel_rfl) (TSession.sh) h
  exact ⟨s, h1, h2, h3⟩
theorem szSessionS_fn {s : SL TSession} (hs : okSessionS s) {left : Int} (hl : Room left) : Fnc Try.prog 19 [s.av 4 TSession.enc, .int .i64 left] (.int .i64 (szOf (szSessionS s) left)) :=
  szS_fn (g := 77) c19 (fun _ => rfl) hs.1 hl fun x hx left hl => TSession.sz_fn (hs.2 x hx) hl
theorem toSessionS_fn {s : SL TSession} (h : szSessionS s ≤ 1048576) : Tr Try.prog 21 [s.av 4 TSession.enc] fun _ r => ∃ b : SL TSession, r = b.av 4 TSession.enc ∧ b.list.map TSession.con = s.list.map TSession.con := by
  unfold szSessionS at h
  exact toS_fn (g := 81) (z := [.str [], .str [], .int .i64 0, .int .i64 0]) (bytes := 48) c21 rfl (fun _ => rfl) (fun x => TSession.cells x) (by omega) (by omega) fun x hx => TSession.to_fn (by have := szL_mem (sz := TSession.sz) hx; omega)
theorem eqSessionS_fn {s t : SL TSession} (h : szSessionS s ≤ 1099511627776) (he : s.list.map TSession.con = t.list.map TSession.con) : Fnc Try.prog 23 [s.av 4 TSession.enc, t.av 4 TSession.enc] (.bool true) := by
  unfold szSessionS at h
  exact eqS_fn (g := 84) (con := TSession.con) c23 (fun _ => rfl) (by unfold mx; omega) he fun x hx y hxy => TSession.eq_fn (by have := szL_mem (sz := TSession.sz) hx; omega) hxy
end A
end Go.Proofs.Ytgiiipbpadgcgaa
