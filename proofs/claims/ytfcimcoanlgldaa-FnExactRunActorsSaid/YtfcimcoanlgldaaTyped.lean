/-
  Typed readings of trees. No condition.
-/
import Derived.Test.YtfcimcoanlgldaaLift
namespace Go.Proofs.Ytfcimcoanlgldaa
namespace A
set_option linter.unusedVariables false

/-- A slice that is only read. -/
inductive SL (α : Type) where
  | nil
  | mk (tag : Nat) (xs : List α)
namespace SL
variable {α : Type}
def list : SL α → List α
  | nil => []
  | mk _ xs => xs
def av (w : Nat) (f : α → List AV) : SL α → AV
  | nil => .nsl
  | mk t xs => .slc t w (xs.map f)
@[simp] theorem list_nil : (SL.nil : SL α).list = [] := (rfl)
@[simp] theorem list_mk (t : Nat) (xs : List α) : (SL.mk t xs).list = xs := (rfl)
end SL
section
variable {α : Type} {w : Nat} {f : α → List AV} {s : SL α}
@[simp] theorem SL.len (K : AV → Prop) : lenSlcW (s.av w f) K = K (.int .i64 s.list.length) := by cases s <;> simp [SL.av, SL.list]
@[simp] theorem SL.at (k : IntKind) (n : Int) (K : AV → Prop) : iaddrW w (s.av w f) (.int k n) K = (0 ≤ n ∧ getW s.list n.toNat (Lz (fun x => K (.cpt (f x) 0)) ⟨⟩)) := by
  show _ = (0 ≤ n ∧ getW s.list n.toNat fun x => K (.cpt (f x) 0))
  cases s with
  | nil => simp [SL.av, SL.list, iaddrW, getW]
  | mk t xs => simp only [SL.av, SL.list, iaddrW_slc, getW_map, true_and]; rfl
@[simp] theorem SL.cells (K : List AV → Prop) : cellsW (s.av w f) K = K [s.av w f] := by cases s <;> rfl
end

section
variable {α : Type}
def SL.con (f : α → α) (s : SL α) : SL α := .mk 0 (s.list.map f)
def SL.pcon (s : SL α) : SL α := .mk 0 s.list
@[simp] theorem SL.con_list (f : α → α) (s : SL α) : (s.con f).list = s.list.map f := (rfl)
@[simp] theorem SL.pcon_list (s : SL α) : s.pcon.list = s.list := (rfl)

end

@[simp] theorem putA_all {row l : List AV} (h : l.length = row.length) : putA row 0 l = l := by
  unfold putA; simp [h]

section
variable {P : Program} {H : List AObj} {c : Nat} {K : AV → List AObj → Nat → Prop}
theorem call_fn0 {f : Nat} {as : List AV} {res : AV} (hf : Fnc P f as res) (hres : Av (tags H) res) (k : ∀ c', c ≤ c' → K res H c') : CallW P f as H c K := call_fn hf (Views.refl _ _) hres k
theorem callF_fn0 {f : Nat} {as : List AV} {res : AV} (hf : Fnc P f as res) (hres : Av (tags H) res) (k : ∀ c', c ≤ c' → K res H c') : callFW P f as H c K := ⟨as, res, Views.refl _ _, hf, hres, k⟩
theorem call_tree0 {f : Nat} {as : List AV} {Q : Nat → AV → Prop} (hf : Tr P f as Q) (k : ∀ r c', c ≤ c' → Q c r → From c r → K r H c') : CallW P f as H c K := call_tree hf (Views.refl _ _) k

/-- A slice of the function's own, handed back as a tree. -/
theorem fin_slc {Q : AV → List AObj → Nat → Prop} {i t w len : Nat} {rows : List (List AV)} (ho : H[i]? = some ⟨false, t, w, rows⟩) (hl : rows.length = len) (hc : ∀ row, row ∈ rows → ∀ a, a ∈ row → a.cell = true) (h : Q (.slc t w rows) [] c) : finW Q (.ref i t w len) H c :=
  ⟨H, [], [], .slc t w rows, List.nil_sublist _, .nil, fun o h => h, by simp [tags], .ref (List.mem_of_getElem? ho) (by omega) hl (fun r x x' h1 h2 => by rw [h1] at h2; cases h2; rfl)
    (fun r j x a hx ha => hc x (List.mem_of_getElem? hx) a (List.mem_of_getElem? ha)) (fun r j x x' a a' h1 h2 h3 h4 => by rw [h1] at h2; cases h2; rw [h3] at h4; cases h4; exact .refl _), h⟩
end

/-- the sizes -/
def szOf (n : Nat) (left : Int) : Int := if (n : Int) ≤ left then left - n else -1
def Room (left : Int) : Prop := -1 ≤ left ∧ left ≤ 1048576

theorem wrap64 {n : Int} (h1 : -9223372036854775808 ≤ n) (h2 : n ≤ 9223372036854775807) : IntKind.i64.wrap n = n := by
  simp only [IntKind.wrap_i64]; omega
section
variable {P : Program} {H : List AObj} {c : Nat} {e : Env} {Q : Post}
/-- A loop that counts. -/
theorem loop_nat {B : IR} (n : Nat) (I : Nat → Env → List AObj → Nat → Prop) (h0 : I 0 e H c)
    (hs : ∀ i e H c, i ≤ n → I i e H c → ∀ N : Env → List AObj → Nat → Prop, (∀ e' H' c', i < n → I (i + 1) e' H' c' → N e' H' c') → irW P B (thenQ N Q) e H c) : irW P (.loop B) Q e H c := by
  refine ⟨fun e H c => ∃ i, i ≤ n ∧ I i e H c, fun e H c => least fun k => ∃ i, i ≤ n ∧ I i e H c ∧ k = n - i, ⟨H, List.Sublist.refl _, 0, Nat.zero_le _, h0⟩, fun e H c ⟨i0, hi0, hI0⟩ => ?_⟩
  obtain ⟨i, hi, hI, hk⟩ := least_spec (p := fun k => ∃ i, i ≤ n ∧ I i e H c ∧ k = n - i) ⟨_, i0, hi0, hI0, rfl⟩
  refine hs i e H c hi hI _ fun e' H' c' hlt hI' => ⟨H', List.Sublist.refl _, ⟨i + 1, hlt, hI'⟩, Nat.lt_of_le_of_lt (least_le (p := fun k => ∃ i, i ≤ n ∧ I i e' H' c' ∧ k = n - i) ⟨i + 1, hlt, hI', rfl⟩) ?_⟩
  show n - (i + 1) < least fun k => ∃ i, i ≤ n ∧ I i e H c ∧ k = n - i
  rw [hk]; omega
/-- The same, where what a round made is let go. -/
theorem loop_drop {B : IR} (n : Nat) (I : Nat → Env → List AObj → Nat → Prop) (h0 : I 0 e H c)
    (hs : ∀ i e H c, i ≤ n → I i e H c → ∀ N : Env → List AObj → Nat → Prop, (∀ e' H' H'' c', i < n → H''.Sublist H' → I (i + 1) e' H'' c' → N e' H' c') → irW P B (thenQ N Q) e H c) : irW P (.loop B) Q e H c := by
  refine ⟨fun e H c => ∃ i, i ≤ n ∧ I i e H c, fun e H c => least fun k => ∃ i, i ≤ n ∧ I i e H c ∧ k = n - i, ⟨H, List.Sublist.refl _, 0, Nat.zero_le _, h0⟩, fun e H c ⟨i0, hi0, hI0⟩ => ?_⟩
  obtain ⟨i, hi, hI, hk⟩ := least_spec (p := fun k => ∃ i, i ≤ n ∧ I i e H c ∧ k = n - i) ⟨_, i0, hi0, hI0, rfl⟩
  refine hs i e H c hi hI _ fun e' H' H'' c' hlt hsub hI' => ⟨H'', hsub, ⟨i + 1, hlt, hI'⟩, Nat.lt_of_le_of_lt (least_le (p := fun k => ∃ i, i ≤ n ∧ I i e' H'' c' ∧ k = n - i) ⟨i + 1, hlt, hI', rfl⟩) ?_⟩
  show n - (i + 1) < least fun k => ∃ i, i ≤ n ∧ I i e H c ∧ k = n - i
  rw [hk]; omega
end
theorem szOf_wrap {n : Nat} {left : Int} (hn : n ≤ mx) (hl : Room left) : IntKind.i64.wrap (left - n) = left - n := wrap64 (by have := hl.1; unfold mx at hn; omega) (by have := hl.2; omega)

theorem szOf_room {n : Nat} {left : Int} (h : Room left) : Room (szOf n left) := by
  unfold szOf Room at *; split <;> omega

def szL {α : Type} (sz : α → Nat) (l : List α) : Nat := (l.map sz).sum

theorem szL_step {α : Type} (sz : α → Nat) (l : List α) {i : Nat} (h : i < l.length) : szL sz (l.take (i + 1)) = szL sz (l.take i) + sz l[i] := by
  unfold szL; rw [List.take_succ_eq_append_getElem h, List.map_append, List.sum_append]; rfl
theorem szL_le {α : Type} (sz : α → Nat) (l : List α) (i : Nat) : szL sz (l.take i) ≤ szL sz l := by
  have : szL sz l = szL sz (l.take i) + szL sz (l.drop i) := by
    unfold szL; rw [← List.sum_append, ← List.map_append, List.take_append_drop]
  omega
theorem step64 {i n : Nat} (hn : n ≤ mx) (h : i < n) : IntKind.i64.wrap ((i : Int) + 1) = i + 1 := by
  rw [wrap64 (by omega) (by unfold mx at hn; omega)]


/-- A new slice, filled up to i. -/
def fill {α : Type} (f : α → List AV) (z : List AV) (l : List α) (i : Nat) : List (List AV) := (l.take i).map f ++ List.replicate (l.length - i) z
theorem fill_zero {α : Type} (f : α → List AV) (z : List AV) (l : List α) : fill f z l 0 = List.replicate l.length z := by simp [fill]
theorem fill_all {α : Type} (f : α → List AV) (z : List AV) (l : List α) : fill f z l l.length = l.map f := by simp [fill]
theorem fill_len {α : Type} (f : α → List AV) (z : List AV) (l : List α) {i : Nat} (h : i ≤ l.length) : (fill f z l i).length = l.length := by simp [fill]; omega
theorem fill_get {α : Type} (f : α → List AV) (z : List AV) (l : List α) {i : Nat} (h : i < l.length) : (fill f z l i)[i]? = some z := by
  have hl : ((l.take i).map f).length = i := by simp; omega
  unfold fill
  rw [List.getElem?_append_right (by omega), hl, Nat.sub_self, List.getElem?_replicate, if_pos (by omega)]
theorem fill_set {α : Type} (f : α → List AV) (z : List AV) (l : List α) {i : Nat} (h : i < l.length) : (fill f z l i).set i (f l[i]) = fill f z l (i + 1) := by
  unfold fill
  have e : l.length - i = (l.length - (i + 1)) + 1 := by omega
  have hl : ((l.take i).map f).length = i := by simp; omega
  rw [e, List.replicate_succ, List.set_append_right _ _ (by omega), hl, Nat.sub_self, List.set_cons_zero, List.take_succ_eq_append_getElem h, List.map_append]
  simp

def encI (n : Int) : List AV := [.int .i64 n]
@[simp] theorem encI_g (n : Int) (K : AV → Prop) : getW (encI n) 0 K = K (.int .i64 n) := by simp [encI]
@[simp] theorem encI_l (n : Int) : (encI n).length = 1 := (rfl)


def encS (l : List UInt8) : List AV := [.str l]
@[simp] theorem encS_g (l : List UInt8) (K : AV → Prop) : getW (encS l) 0 K = K (.str l) := by simp [encS]
@[simp] theorem encS_l (l : List UInt8) : (encS l).length = 1 := (rfl)
def encB (b : Bool) : List AV := [.bool b]
@[simp] theorem encB_g (b : Bool) (K : AV → Prop) : getW (encB b) 0 K = K (.bool b) := by simp [encB]
@[simp] theorem encB_l (b : Bool) : (encB b).length = 1 := (rfl)
@[simp] theorem cell_int (k : IntKind) (n : Int) : (AV.int k n).cell = true := (rfl)
@[simp] theorem cell_bool (b : Bool) : (AV.bool b).cell = true := (rfl)
@[simp] theorem cell_str (l : List UInt8) : (AV.str l).cell = true := (rfl)
@[simp] theorem cell_nsl : AV.nsl.cell = true := (rfl)
@[simp] theorem cell_slc (t w : Nat) (r : List (List AV)) : (AV.slc t w r).cell = true := (rfl)
@[simp] theorem cell_sl {α : Type} (w : Nat) (f : α → List AV) (s : SL α) : (s.av w f).cell = true := by cases s <;> rfl
end A
end Go.Proofs.Ytfcimcoanlgldaa
