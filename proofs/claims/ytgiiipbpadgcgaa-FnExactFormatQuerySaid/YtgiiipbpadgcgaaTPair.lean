/-
  The types that the laws of this seat speak of, and the helpers over them: printed by a program (wip/tools/gen.py). No condition.
-/
import Derived.Test.YtgiiipbpadgcgaaIR
import Derived.Test.YtgiiipbpadgcgaaFam
namespace Go.Proofs.Ytgiiipbpadgcgaa
namespace A
set_option linter.unusedVariables false
set_option linter.unusedSimpArgs false
set_option maxRecDepth 100000

structure TPair where
  Name : List UInt8
  Value : List UInt8
def TPair.enc (s : TPair) : List AV := [.str s.Name, .str s.Value]
@[simp] theorem TPair.len (s : TPair) : s.enc.length = 2 := (rfl)
@[simp] theorem TPair.all (s : TPair) : s.enc.take 2 = s.enc := (rfl)
@[simp] theorem TPair.g0 (s : TPair) (K : AV → Prop) : getW s.enc 0 K = K (.str s.Name) := by simp [TPair.enc]
@[simp] theorem TPair.g1 (s : TPair) (K : AV → Prop) : getW s.enc 1 K = K (.str s.Value) := by simp [TPair.enc]
theorem TPair.cells (s : TPair) : ∀ a, a ∈ s.enc → a.cell = true := by simp [TPair.enc]
def TPair.sz (s : TPair) : Nat := s.Name.length + s.Value.length
def TPair.ok (s : TPair) : Prop := s.Name.length ≤ mx ∧ s.Value.length ≤ mx
def TPair.con (s : TPair) : TPair := s
theorem TPair.sz_con (s : TPair) : s.con.sz = s.sz := rfl
theorem TPair.sh : ∀ (n : Nat) (row : List AV), ShC Try.prog n 126 row → ∃ s : TPair, row = s.enc ∧ s.ok := by
  intro n row h
  obtain ⟨m, hl, hf⟩ := sh_fields (l := [(9, 0), (9, 1)]) (by kernel_rfl) h
  have hl' : row.length = 2 := hl.trans (by kernel_rfl)
  match row, hl' with
  | [x0, x1], _ =>
    have h0 := hf (9, 0) (by simp)
    rw [show Try.prog.cellsOf 9 = 1 by kernel_rfl] at h0
    obtain ⟨v0, rfl, k0⟩ := sh_str (t := 9) (by kernel_rfl) (show ShC Try.prog m 9 [x0] from h0)
    have h1 := hf (9, 1) (by simp)
    rw [show Try.prog.cellsOf 9 = 1 by kernel_rfl] at h1
    obtain ⟨v1, rfl, k1⟩ := sh_str (t := 9) (by kernel_rfl) (show ShC Try.prog m 9 [x1] from h1)
    exact ⟨⟨v0, v1⟩, rfl, ⟨k0, k1⟩⟩
theorem TPair.sz_fn {s : TPair} (hs : s.ok) {left : Int} (hl : Room left) : Fnc Try.prog 95 [.agg s.enc, .int .i64 left] (.int .i64 (szOf s.sz left)) := by
  unfold TPair.ok at hs
  have hr := hl.2
  refine fn_of c95 (by simp [F95]) fun c => ?_
  unfold F95
  simp
  rw [szOf_wrap hs.1 hl]
  refine ⟨fun h => fin_plain ⟨by rw [szOf_neg (by simp only [TPair.sz]; omega)], rfl⟩, fun h => ?_⟩
  rw [szOf_wrap hs.2 ⟨by omega, by omega⟩]
  refine ⟨fun h => fin_plain ⟨by rw [szOf_neg (by simp only [TPair.sz]; omega)], rfl⟩, fun h => ?_⟩
  have hz : s.sz = s.Name.length + s.Value.length := rfl
  have e : szOf s.sz left = left - (s.Name.length : Int) - (s.Value.length : Int) := by
    unfold szOf
    rw [if_pos (by omega)]
    omega
  exact fin_plain ⟨by rw [e], rfl⟩
theorem TPair.to_fn {s : TPair} (h : s.sz ≤ 1048576) : Tr Try.prog 97 [.agg s.enc] fun _ r => ∃ b : TPair, r = .agg b.enc ∧ b.con = s.con := by
  simp only [TPair.sz] at h
  intro c
  refine con_of c97 (by simp [F97]) ?_
  unfold F97
  simp [putA]
  refine fin_plain ⟨rfl, ⟨⟨s.Name, s.Value⟩, rfl, ?_⟩, from_agg ?_⟩
  · rfl
  · simp
theorem TPair.eq_fn {a b : TPair} (h : a.sz ≤ 1099511627776) (he : a.con = b.con) : Fnc Try.prog 99 [.agg a.enc, .agg b.enc] (.bool true) := by
  simp only [TPair.sz] at h
  have e0 : a.Name = b.Name := (congrArg TPair.Name he : a.con.Name = b.con.Name)
  have e1 : a.Value = b.Value := (congrArg TPair.Value he : a.con.Value = b.con.Value)
  refine fn_of c99 (by simp [F99]) fun c => ?_
  unfold F99
  simp [e0, e1]
  exact fin_plain ⟨rfl, rfl⟩
def szPairS (s : SL TPair) : Nat := s.list.length + szL TPair.sz s.list
def okPairS (s : SL TPair) : Prop := s.list.length ≤ mx ∧ ∀ x, x ∈ s.list → TPair.ok x
theorem szPairS_con {s t : SL TPair} (h : s.list.map TPair.con = t.list.map TPair.con) : szPairS s = szPairS t := by
  unfold szPairS
  rw [← szL_map (con := TPair.con) TPair.sz_con s.list, ← szL_map (con := TPair.con) TPair.sz_con t.list, h]
  have := congrArg List.length h; simp at this; rw [this]
theorem shPairS {n : Nat} {a : AV} (h : ShC Try.prog n 55 [a]) : ∃ s : SL TPair, a = s.av 2 TPair.enc ∧ okPairS s := by
  obtain ⟨s, h1, h2, h3⟩ := sh_slc (P := Try.prog) (t := 55) (el := 126) (w := 2) (enc := TPair.enc) (ok := TPair.ok) (by kernel_rfl) (by kernel_rfl) (TPair.sh) h
  exact ⟨s, h1, h2, h3⟩
theorem szPairS_fn {s : SL TPair} (hs : okPairS s) {left : Int} (hl : Room left) : Fnc Try.prog 43 [s.av 2 TPair.enc, .int .i64 left] (.int .i64 (szOf (szPairS s) left)) :=
  szS_fn (g := 95) c43 (fun _ => rfl) hs.1 hl fun x hx left hl => TPair.sz_fn (hs.2 x hx) hl
theorem toPairS_fn {s : SL TPair} (h : szPairS s ≤ 1048576) : Tr Try.prog 45 [s.av 2 TPair.enc] fun _ r => ∃ b : SL TPair, r = b.av 2 TPair.enc ∧ b.list.map TPair.con = s.list.map TPair.con := by
  unfold szPairS at h
  exact toS_fn (g := 97) (z := [.str [], .str []]) (bytes := 32) c45 rfl (fun _ => rfl) (fun x => TPair.cells x) (by omega) (by omega) fun x hx => TPair.to_fn (by have := szL_mem (sz := TPair.sz) hx; omega)
theorem eqPairS_fn {s t : SL TPair} (h : szPairS s ≤ 1099511627776) (he : s.list.map TPair.con = t.list.map TPair.con) : Fnc Try.prog 47 [s.av 2 TPair.enc, t.av 2 TPair.enc] (.bool true) := by
  unfold szPairS at h
  exact eqS_fn (g := 99) (con := TPair.con) c47 (fun _ => rfl) (by unfold mx; omega) he fun x hx y hxy => TPair.eq_fn (by have := szL_mem (sz := TPair.sz) hx; omega) hxy
end A
end Go.Proofs.Ytgiiipbpadgcgaa
