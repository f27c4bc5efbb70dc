/-
  The cursor of the draws: what its functions may hand back. No condition.
-/
import Derived.Test.YtgiiipbpadgcgaaBase
import Derived.Test.YtgiiipbpadgcgaaSlc
namespace Go.Proofs.Ytgiiipbpadgcgaa
namespace A
set_option linter.unusedVariables false
set_option linter.unusedSimpArgs false
set_option maxRecDepth 100000

def encU (n : Int) : List AV := [.int .u8 n]
theorem av_code (s : SL Int) : Av [] (s.av 1 encU) := by
  cases s with
  | nil => exact .nsl
  | mk t l =>
    exact .slc (by simp) fun r j x a hx ha => by
      obtain ⟨n, _, rfl⟩ := List.mem_map.1 (List.mem_of_getElem? hx)
      have := List.mem_of_getElem? ha
      simp [encU] at this; subst this; exact .int

/-- The cursor. -/
def cur (t : Nat) (s : SL Int) (i : Nat) (h : Int) : AObj := ⟨false, t, 3, [[s.av 1 encU, .int .i64 i, .int .i64 h]]⟩
theorem cur_rows (t : Nat) (s : SL Int) (i : Nat) (h : Int) : AvRows [] (cur t s i h) := avRows_of fun row hr a ha => by
  simp [cur] at hr
  subst hr
  simp at ha
  rcases ha with rfl | rfl | rfl
  · exact av_code s
  · exact .int
  · exact .int

/-- A number from 0 to hi, the cursor moved. -/
def NumQ (t : Nat) (s : SL Int) (hi : Int) (r : AV) (O : List AObj) : Prop := ∃ (x : Int) (i : Nat) (h : Int), r = .int .i64 x ∧ 0 ≤ x ∧ x ≤ hi ∧ i ≤ s.list.length ∧ O = [cur t s i h]

/-! The operations on bits, left as they are. -/
def andI (a b : Int) : Int := IntKind.i64.wrap ((BitVec.ofInt 64 a &&& BitVec.ofInt 64 b).toNat : Int)
def xorI (a b : Int) : Int := IntKind.i64.wrap ((BitVec.ofInt 64 a ^^^ BitVec.ofInt 64 b).toNat : Int)
def shrI (a b : Int) : Int := a.fdiv (2 ^ (min b.toNat 64))
theorem intW_and (a b : Int) (K : AV → Prop) : intW .and .i64 a b K = K (.int .i64 (andI a b)) := rfl
theorem intW_xor (a b : Int) (K : AV → Prop) : intW .xor .i64 a b K = K (.int .i64 (xorI a b)) := rfl
theorem binW_shr (a b : Int) (K : AV → Prop) : binW .shr (.int .i64 a) (.int .u64 b) K = (0 ≤ b ∧ K (.int .i64 (shrI a b))) := rfl
theorem land255 (a : Int) : 0 ≤ andI a 255 ∧ andI a 255 ≤ 255 := by
  have h : (BitVec.ofInt 64 a &&& BitVec.ofInt 64 255).toNat ≤ 255 := by
    rw [BitVec.toNat_and]
    exact Nat.le_trans Nat.and_le_right (by decide)
  unfold andI
  rw [wrap64 (by omega) (by omega)]
  omega

theorem l1Byte_con {t i : Nat} {h : Int} {s : SL Int} (hi : i ≤ s.list.length) (hn : s.list.length ≤ 1048576) (c : Nat) : Con Try.prog 139 [.ptr 0 t 3 0 0] [cur t s i h] c fun r O _ => NumQ t s 255 r O := by
  refine con_of c139 (by simp [F139]) ?_
  unfold F139
  simp [cur, putA, intW_and, intW_xor, binW_shr]
  generalize IntKind.i64.wrap (IntKind.i64.wrap (h * 6364136223846793005) + 1442695040888963407) = h'
  refine ⟨fun hlt => ?_, fun hge => ?_⟩
  · have hb : s.list[i]? = some s.list[i] := List.getElem?_eq_getElem hlt
    generalize s.list[i] = b at hb
    have hst : IntKind.i64.wrap ((i : Int) + 1) = ((i + 1 : Nat) : Int) := by rw [wrap64 (by omega) (by omega)]; omega
    refine ⟨b, hb, ?_⟩
    simp [cur, putA, intW_and, intW_xor, binW_shr, encU, hlt]
    refine fin_all ⟨_, i + 1, h', rfl, (land255 _).1, (land255 _).2, by omega, ?_⟩
    rw [cur, hst]
  · exact fin_all ⟨_, i, h', rfl, (land255 _).1, (land255 _).2, hi, rfl⟩

theorem numQ_next {t : Nat} {s : SL Int} {hi : Int} {r : AV} {O : List AObj} (h : NumQ t s hi r O) : Av [] r ∧ ∀ o, o ∈ O → AvRows [] o := by
  obtain ⟨x, i, h, rfl, _, _, _, rfl⟩ := h
  exact ⟨.int, fun o ho => by simp at ho; subst ho; exact cur_rows t s i h⟩

theorem l1Below_con {t i : Nat} {h n : Int} {s : SL Int} (hi : i ≤ s.list.length) (hn : s.list.length ≤ 1048576) (hw : n ≤ 1000000000000) (c : Nat) :
    Con Try.prog 105 [.ptr 0 t 3 0 0, .int .i64 n] [cur t s i h] c fun r O _ => NumQ t s (if n ≤ 0 then 0 else n - 1) r O := by
  refine con_of c105 (by simp [F105]) ?_
  unfold F105
  have modB : 0 < n → ∀ x : Int, 0 ≤ x → 0 ≤ x.tmod n ∧ x.tmod n ≤ n - 1 := fun h0 x hx => by
    have h1 := Int.tmod_nonneg n hx
    have h2 := Int.tmod_lt_of_pos x h0
    omega
  by_cases h0 : n ≤ 0
  · simp [h0]
    exact fin_all ⟨0, i, h, rfl, by omega, by simp [h0], hi, rfl⟩
  have h0' : 0 < n := by omega
  have hne : n ≠ 0 := by omega
  by_cases h1 : n ≤ 256
  · simp [h0, h1]
    refine call_con (l1Byte_con hi hn _) fun r O c1 _ q _ _ => ⟨(numQ_next q).1, (numQ_next q).2, ?_⟩
    obtain ⟨x, i1, h1', rfl, x0, x1, k1, rfl⟩ := q
    simp [h0, h1, hne]
    exact fin_all ⟨_, i1, h1', rfl, (modB h0' x x0).1, (modB h0' x x0).2, k1, rfl⟩
  · simp [h0, h1]
    refine call_con (l1Byte_con hi hn _) fun r O c1 _ q _ _ => ⟨(numQ_next q).1, (numQ_next q).2, ?_⟩
    obtain ⟨x, i1, h1', rfl, x0, x1, k1, rfl⟩ := q
    simp [h0, h1, hne]
    refine call_con (l1Byte_con k1 hn _) fun r O c1 _ q _ _ => ⟨(numQ_next q).1, (numQ_next q).2, ?_⟩
    obtain ⟨y, i2, h2', rfl, y0, y1, k2, rfl⟩ := q
    simp [h0, h1, hne]
    refine call_con (l1Byte_con k2 hn _) fun r O c1 _ q _ _ => ⟨(numQ_next q).1, (numQ_next q).2, ?_⟩
    obtain ⟨z, i3, h3', rfl, z0, z1, k3, rfl⟩ := q
    have w1 : IntKind.i64.wrap (x * 65536) = x * 65536 := wrap64 (by omega) (by omega)
    have w2 : IntKind.i64.wrap (y * 256) = y * 256 := wrap64 (by omega) (by omega)
    have w3 : IntKind.i64.wrap (x * 65536 + y * 256) = x * 65536 + y * 256 := wrap64 (by omega) (by omega)
    have w4 : IntKind.i64.wrap (x * 65536 + y * 256 + z) = x * 65536 + y * 256 + z := wrap64 (by omega) (by omega)
    simp [h0, h1, hne, w1, w2, w3, w4]
    exact fin_all ⟨_, i3, h3', rfl, (modB h0' _ (by omega)).1, (modB h0' _ (by omega)).2, k3, rfl⟩

/-- A bool, the cursor moved. -/
def BoolQ (t : Nat) (s : SL Int) (r : AV) (O : List AObj) : Prop := ∃ (b : Bool) (i : Nat) (h : Int), r = .bool b ∧ i ≤ s.list.length ∧ O = [cur t s i h]
theorem boolQ_next {t : Nat} {s : SL Int} {r : AV} {O : List AObj} (h : BoolQ t s r O) : Av [] r ∧ ∀ o, o ∈ O → AvRows [] o := by
  obtain ⟨x, i, h, rfl, _, rfl⟩ := h
  exact ⟨.bool, fun o ho => by simp at ho; subst ho; exact cur_rows t s i h⟩
theorem l1Once_con {t i : Nat} {h n : Int} {s : SL Int} (hi : i ≤ s.list.length) (hn : s.list.length ≤ 1048576) (hw : n ≤ 1000000000000) (c : Nat) :
    Con Try.prog 131 [.ptr 0 t 3 0 0, .int .i64 n] [cur t s i h] c fun r O _ => BoolQ t s r O := by
  refine con_of c131 (by simp [F131]) ?_
  unfold F131
  simp
  refine call_con (l1Below_con hi hn hw _) fun r O c1 _ q _ _ => ⟨(numQ_next q).1, (numQ_next q).2, ?_⟩
  obtain ⟨x, i1, h1', rfl, x0, x1, k1, rfl⟩ := q
  by_cases hx : x = 0 <;> simp [hx]
  · exact fin_all ⟨true, i1, h1', rfl, k1, rfl⟩
  · exact fin_all ⟨false, i1, h1', rfl, k1, rfl⟩

/-- A call that is handed the cursor alone, out of more. -/
theorem call_cur {P : Program} {f : Nat} {l : List AV} {t i : Nat} {h : Int} {s : SL Int} {C : List AObj} {c : Nat} {Q : AV → List AObj → Nat → Prop} {K : AV → List AObj → Nat → Prop} (hf : Con P f l [cur t s i h] c Q)
    (k : ∀ r B' c', c ≤ c' → Q r B' c' → tags B' = [t] ∧ Av [] r ∧ (∀ o, o ∈ B' → AvRows [] o) ∧ K r (B' ++ C) c') : CallW P f l (cur t s i h :: C) c K :=
  call_mid (A := []) (B := [cur t s i h]) (C := C) hf (Views.refl _ _) k
theorem numQ_tags {t : Nat} {s : SL Int} {hi : Int} {r : AV} {O : List AObj} (h : NumQ t s hi r O) : tags O = [t] := by
  obtain ⟨x, i, h, rfl, _, _, _, rfl⟩ := h; rfl
theorem call_num {P : Program} {f : Nat} {l : List AV} {t i : Nat} {h hi : Int} {s : SL Int} {C : List AObj} {c : Nat} {K : AV → List AObj → Nat → Prop} (hf : Con P f l [cur t s i h] c fun r O _ => NumQ t s hi r O)
    (k : ∀ (x : Int) (i' : Nat) (h' : Int) (c' : Nat), c ≤ c' → 0 ≤ x → x ≤ hi → i' ≤ s.list.length → K (.int .i64 x) (cur t s i' h' :: C) c') : CallW P f l (cur t s i h :: C) c K :=
  call_cur hf fun r B' c' hc q => ⟨numQ_tags q, (numQ_next q).1, (numQ_next q).2, by
    obtain ⟨x, i', h', rfl, x0, x1, k1, rfl⟩ := q
    exact k x i' h' c' hc x0 x1 k1⟩
theorem call_bool {P : Program} {f : Nat} {l : List AV} {t i : Nat} {h : Int} {s : SL Int} {C : List AObj} {c : Nat} {K : AV → List AObj → Nat → Prop} (hf : Con P f l [cur t s i h] c fun r O _ => BoolQ t s r O)
    (k : ∀ (b : Bool) (i' : Nat) (h' : Int) (c' : Nat), c ≤ c' → i' ≤ s.list.length → K (.bool b) (cur t s i' h' :: C) c') : CallW P f l (cur t s i h :: C) c K :=
  call_cur hf fun r B' c' hc q => ⟨by obtain ⟨x, i, h, rfl, _, rfl⟩ := q; rfl, (boolQ_next q).1, (boolQ_next q).2, by
    obtain ⟨x, i', h', rfl, k1, rfl⟩ := q
    exact k x i' h' c' hc k1⟩

/-- One of a list's, the cursor moved. -/
def OneQ {α : Type} (t : Nat) (s : SL Int) (v : α → AV) (l : List α) (o : AObj) (r : AV) (O : List AObj) : Prop := ∃ (x : α) (i : Nat) (h : Int), r = v x ∧ x ∈ l ∧ i ≤ s.list.length ∧ O = [cur t s i h, o]

theorem l1Int_con {t tl i : Nat} {h : Int} {s : SL Int} {l : List Int} (hi : i ≤ s.list.length) (hn : s.list.length ≤ 1048576) (h0 : 0 < l.length) (h1 : l.length ≤ 256) (c : Nat) :
    Con Try.prog 94 [.ptr 0 t 3 0 0, .ref 1 tl 1 l.length] [cur t s i h, ⟨false, tl, 1, l.map encI⟩] c fun r O _ => OneQ t s (AV.int .i64) l ⟨false, tl, 1, l.map encI⟩ r O := by
  refine con_of c94 (by simp [F94]) ?_
  unfold F94
  simp
  refine call_num (l1Below_con hi hn (by omega) _) fun x i' h' c' _ x0 x1 k1 => ?_
  rw [if_neg (by omega)] at x1
  obtain ⟨k, rfl⟩ := Int.eq_ofNat_of_zero_le x0
  have hk : k < l.length := by omega
  have hg : l[k]? = some l[k] := List.getElem?_eq_getElem hk
  have hm := List.getElem_mem hk
  generalize l[k] = y at hg hm
  simp [hk]
  refine ⟨y, hg, ?_⟩
  simp [encI]
  exact fin_all ⟨y, i', h', rfl, hm, k1, rfl⟩
theorem l1Str_con {t tl i : Nat} {h : Int} {s : SL Int} {l : List (List UInt8)} (hi : i ≤ s.list.length) (hn : s.list.length ≤ 1048576) (h0 : 0 < l.length) (h1 : l.length ≤ 256) (c : Nat) :
    Con Try.prog 138 [.ptr 0 t 3 0 0, .ref 1 tl 1 l.length] [cur t s i h, ⟨false, tl, 1, l.map fun x => [AV.str x]⟩] c fun r O _ => OneQ t s AV.str l ⟨false, tl, 1, l.map fun x => [AV.str x]⟩ r O := by
  refine con_of c138 (by simp [F138]) ?_
  unfold F138
  simp
  refine call_num (l1Below_con hi hn (by omega) _) fun x i' h' c' _ x0 x1 k1 => ?_
  rw [if_neg (by omega)] at x1
  obtain ⟨k, rfl⟩ := Int.eq_ofNat_of_zero_le x0
  have hk : k < l.length := by omega
  have hg : l[k]? = some l[k] := List.getElem?_eq_getElem hk
  have hm := List.getElem_mem hk
  generalize l[k] = y at hg hm
  simp [hk]
  refine ⟨y, hg, ?_⟩
  simp
  exact fin_all ⟨y, i', h', rfl, hm, k1, rfl⟩
end A
end Go.Proofs.Ytgiiipbpadgcgaa
