/-
  ReadLine of the reference and of the program are the same plain function. No condition.
-/
import Derived.Test.YtgiiipbpadgcgaaLines
import Derived.Test.YtgiiipbpadgcgaaMLine
namespace Go.Proofs.Ytgiiipbpadgcgaa
namespace A
set_option linter.unusedVariables false
set_option linter.unusedSimpArgs false
set_option maxRecDepth 100000

/-- Whether a line is read. -/
def readsL (at_ ver : Int) (l : List TLine) : Bool :=
  areLines l && inR at_ 0 (l.length - 1) && (match l[at_.toNat]? with | some x => decide (x.Seq.tmod 2 ≠ 1) && decide (x.Version = ver) | none => false) && decide (1 ≤ ver)
def readL (at_ ver : Int) (l : List TLine) : List Int := if readsL at_ ver l then (match l[at_.toNat]? with | some x => x.Words.list | none => []) else []

def ReadQ (at_ ver : Int) (l : List TLine) (x : SL Int) (r : List AV) : Prop := x.list = readL at_ ver l ∧ r = [.bool (readsL at_ ver l)]

theorem readL_no {at_ ver : Int} {l : List TLine} (h : readsL at_ ver l = false) : readL at_ ver l = [] := by unfold readL; rw [h]; rfl

theorem spec_readO {s : SL TLine} {at_ ver : Int} (hn : s.list.length ≤ 1048576) (hz : ∀ x, x ∈ s.list → x.Words.list.length ≤ 1048576) (c : Nat) :
    Con Try.prog 31 [s.av 4 TLine.enc, .int .i64 at_, .int .i64 ver] [] c fun r O _ => ∃ (x : SL Int) (l : List AV), r = .tup (x.ref 1 :: l) ∧ O = x.wood 1 encI noInn ∧ ReadQ at_ ver s.list x l := by
  refine con_of c31 (by simp [F31]) ?_
  unfold F31
  simp
  refine call_fn0 (spec_areLines (by unfold mx; omega)) .bool fun cc _ => ?_
  have bad : ∀ c', readsL at_ ver s.list = false → finW (fun r O _ => ∃ (x : SL Int) (l : List AV), r = .tup (x.ref 1 :: l) ∧ O = x.wood 1 encI noInn ∧ ReadQ at_ ver s.list x l)
      (.tup [.ref 0 c' 1 0, .bool false]) [⟨false, c', 1, []⟩] (c' + 1) := fun c' hb => fin_all ⟨.mk c' [], [.bool false], rfl, by simp [flat_wood], by rw [readL_no hb]; rfl, by rw [hb]⟩
  cases h1 : areLines s.list
  · simp
    exact bad _ (by simp [readsL, h1])
  have hw : IntKind.i64.wrap ((s.list.length : Int) - 1) = s.list.length - 1 := wrap64 (by omega) (by omega)
  simp [hw]
  refine call_fn0 (l1In_fn _ _ _) .bool fun cc _ => ?_
  cases h2 : inR at_ 0 (s.list.length - 1)
  · simp
    exact bad _ (by simp [readsL, h2])
  have g2 := inR_true h2
  obtain ⟨k, rfl⟩ : ∃ k : Nat, at_ = k := ⟨at_.toNat, by omega⟩
  have hk : k < s.list.length := by omega
  have hg : s.list[k]? = some s.list[k] := List.getElem?_eq_getElem hk
  have hr : readsL k ver s.list = (decide (s.list[k].Seq.tmod 2 ≠ 1) && decide (s.list[k].Version = ver) && decide (1 ≤ ver)) := by simp [readsL, h1, h2, hg]
  simp
  refine ⟨_, hg, ?_⟩
  have hwx := hz _ (List.getElem_mem hk)
  by_cases h3 : s.list[k].Seq.tmod 2 = 1
  · simp [h3]
    exact bad _ (by rw [hr]; simp [h3])
  simp [h3]
  refine ⟨_, hg, ?_⟩
  by_cases h4 : s.list[k].Version = ver
  rotate_left
  · simp [h4]
    exact bad _ (by rw [hr]; simp [h4])
  by_cases h5 : ver < 1
  · simp [h4, h5]
    exact bad _ (by rw [hr]; simp [h3]; intros; omega)
  simp [h4, h5]
  refine ⟨_, hg, ?_⟩
  simp
  have hgood : readsL k ver s.list = true := by rw [hr]; simp [h3, h4]; omega
  refine ⟨by omega, by unfold mx; omega, ?_⟩
  exact fin_all ⟨.mk (cc + 1) s.list[k].Words.list, [.bool true], by simp [SL.ref], by simp [flat_wood], by simp [readL, hgood, hg], by rw [hgood]⟩

theorem cloneIO {s : SL Int} (hn : s.list.length ≤ 1048576) (c : Nat) : Con Try.prog 90 [s.av 1 encI] [] c fun r O _ => ∃ x : SL Int, r = x.ref 1 ∧ O = x.wood 1 encI noInn ∧ x.list = s.list :=
  clone_con (b := 8) (z := [.int .i64 0]) c90 (by omega) (by unfold mx; omega) c

theorem impl_readO {s : SL TLine} {at_ ver : Int} (hn : s.list.length ≤ 1048576) (hz : ∀ x, x ∈ s.list → x.Words.list.length ≤ 1048576) (c : Nat) :
    Con Try.prog 33 [s.av 4 TLine.enc, .int .i64 at_, .int .i64 ver] [] c fun r O _ => ∃ (x : SL Int) (l : List AV), r = .tup (x.ref 1 :: l) ∧ O = x.wood 1 encI noInn ∧ ReadQ at_ ver s.list x l := by
  refine con_of c33 (by simp [F33]) ?_
  unfold F33
  simp
  refine call_fn0 (impl_areLines (by unfold mx; omega)) .bool fun cc _ => ?_
  have bad : ∀ c', readsL at_ ver s.list = false → finW (fun r O _ => ∃ (x : SL Int) (l : List AV), r = .tup (x.ref 1 :: l) ∧ O = x.wood 1 encI noInn ∧ ReadQ at_ ver s.list x l)
      (.tup [.nsl, .bool false]) [] c' := fun c' hb => fin_all ⟨.nil, [.bool false], rfl, rfl, by rw [readL_no hb]; rfl, by rw [hb]⟩
  cases h1 : areLines s.list
  · simp
    exact bad _ (by simp [readsL, h1])
  have hw : IntKind.i64.wrap ((s.list.length : Int) - 1) = s.list.length - 1 := wrap64 (by omega) (by omega)
  simp [hw]
  refine call_fn0 (inRange_fn _ _ _) .bool fun cc _ => ?_
  cases h2 : inR at_ 0 (s.list.length - 1)
  · simp
    exact bad _ (by simp [readsL, h2])
  have g2 := inR_true h2
  obtain ⟨k, rfl⟩ : ∃ k : Nat, at_ = k := ⟨at_.toNat, by omega⟩
  have hk : k < s.list.length := by omega
  have hg : s.list[k]? = some s.list[k] := List.getElem?_eq_getElem hk
  have hr : readsL k ver s.list = (decide (s.list[k].Seq.tmod 2 ≠ 1) && decide (s.list[k].Version = ver) && decide (1 ≤ ver)) := by simp [readsL, h1, h2, hg]
  simp
  refine ⟨_, hg, ?_⟩
  have hwx := hz _ (List.getElem_mem hk)
  by_cases h3 : s.list[k].Seq.tmod 2 = 1
  · simp [h3]
    exact bad _ (by rw [hr]; simp [h3])
  simp [h3]
  refine ⟨_, hg, ?_⟩
  by_cases h4 : s.list[k].Version = ver
  rotate_left
  · simp [h4]
    exact bad _ (by rw [hr]; simp [h4])
  by_cases h5 : ver < 1
  · simp [h4, h5]
    exact bad _ (by rw [hr]; simp [h3]; intros; omega)
  simp [h4, h5]
  refine ⟨_, hg, ?_⟩
  simp
  have hgood : readsL k ver s.list = true := by rw [hr]; simp [h3, h4]; omega
  refine call_new (cloneIO hwx _) (Views.refl _ _) fun r O c1 hc ⟨x, hr, hO, hx⟩ _ _ => ?_
  subst hr; subst hO
  refine ⟨_, .refl _, free_ref _ _ _, fun o ho => flat_free encI_flat _ _ o ho _, ?_⟩
  simp
  exact fin_all ⟨x, [.bool true], rfl, rfl, by simp [readL, hgood, hg, hx], by rw [hgood]⟩
end A
end Go.Proofs.Ytgiiipbpadgcgaa
