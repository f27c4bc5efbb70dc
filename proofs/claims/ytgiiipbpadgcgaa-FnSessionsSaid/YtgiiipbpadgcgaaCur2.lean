/-
  The cursor's making, and the words that are drawn. No condition.
-/
import Derived.Test.YtgiiipbpadgcgaaCur
namespace Go.Proofs.Ytgiiipbpadgcgaa
namespace A
set_option linter.unusedVariables false
set_option linter.unusedSimpArgs false
set_option maxRecDepth 100000

/-- A text of at most 16 bytes, the cursor moved. -/
def TextQ (t : Nat) (s : SL Int) (r : AV) (O : List AObj) : Prop := ∃ (x : List UInt8) (i : Nat) (h : Int), r = .str x ∧ x.length ≤ 16 ∧ i ≤ s.list.length ∧ O = [cur t s i h]
theorem textQ_next {t : Nat} {s : SL Int} {r : AV} {O : List AObj} (h : TextQ t s r O) : Av [] r ∧ ∀ o, o ∈ O → AvRows [] o := by
  obtain ⟨x, i, h, rfl, _, _, rfl⟩ := h
  exact ⟨.str, fun o ho => by simp at ho; subst ho; exact cur_rows t s i h⟩
theorem call_text {P : Program} {f : Nat} {l : List AV} {t i : Nat} {h : Int} {s : SL Int} {C : List AObj} {c : Nat} {K : AV → List AObj → Nat → Prop} (hf : Con P f l [cur t s i h] c fun r O _ => TextQ t s r O)
    (k : ∀ (x : List UInt8) (i' : Nat) (h' : Int) (c' : Nat), c ≤ c' → x.length ≤ 16 → i' ≤ s.list.length → K (.str x) (cur t s i' h' :: C) c') : CallW P f l (cur t s i h :: C) c K :=
  call_cur hf fun r B' c' hc q => ⟨by obtain ⟨x, i, h, rfl, _, _, rfl⟩ := q; rfl, (textQ_next q).1, (textQ_next q).2, by
    obtain ⟨x, i', h', rfl, x0, k1, rfl⟩ := q
    exact k x i' h' c' hc x0 k1⟩

theorem avrows_str (tl : Nat) (l : List (List UInt8)) : AvRows [] ⟨false, tl, 1, l.map fun x => [AV.str x]⟩ := avRows_of fun row hr a ha => by
  obtain ⟨x, _, rfl⟩ := List.mem_map.1 hr
  simp at ha; subst ha; exact .str
theorem avrows_int (tl : Nat) (l : List Int) : AvRows [] ⟨false, tl, 1, l.map encI⟩ := avRows_of fun row hr a ha => by
  obtain ⟨x, _, rfl⟩ := List.mem_map.1 hr
  simp [encI] at ha; subst ha; exact .int

theorem call_str {t tl i : Nat} {h : Int} {s : SL Int} (l : List (List UInt8)) {c : Nat} {K : AV → List AObj → Nat → Prop} (hi : i ≤ s.list.length) (hn : s.list.length ≤ 1048576) (h0 : 0 < l.length) (h1 : l.length ≤ 256)
    (k : ∀ (x : List UInt8) (i' : Nat) (h' : Int) (c' : Nat), c ≤ c' → x ∈ l → i' ≤ s.list.length → K (.str x) [cur t s i' h', ⟨false, tl, 1, l.map fun x => [AV.str x]⟩] c') :
    CallW Try.prog 138 [.ptr 0 t 3 0 0, .ref 1 tl 1 l.length] [cur t s i h, ⟨false, tl, 1, l.map fun x => [AV.str x]⟩] c K :=
  call_con (l1Str_con hi hn h0 h1 c) fun r O c' hc q _ _ => by
    obtain ⟨x, i', h', rfl, hx, k1, rfl⟩ := q
    exact ⟨.str, fun o ho => by
      simp at ho
      rcases ho with rfl | rfl
      · exact cur_rows t s i' h'
      · exact avrows_str tl l, k x i' h' c' hc hx k1⟩
theorem call_int {t tl i : Nat} {h : Int} {s : SL Int} (l : List Int) {C : List AObj} {c : Nat} {K : AV → List AObj → Nat → Prop} (hi : i ≤ s.list.length) (hn : s.list.length ≤ 1048576) (h0 : 0 < l.length) (h1 : l.length ≤ 256)
    (k : ∀ (x : Int) (i' : Nat) (h' : Int) (c' : Nat), c ≤ c' → x ∈ l → i' ≤ s.list.length → K (.int .i64 x) [cur t s i' h', ⟨false, tl, 1, l.map encI⟩] c') :
    CallW Try.prog 94 [.ptr 0 t 3 0 0, .ref 1 tl 1 l.length] [cur t s i h, ⟨false, tl, 1, l.map encI⟩] c K :=
  call_con (l1Int_con hi hn h0 h1 c) fun r O c' hc q _ _ => by
    obtain ⟨x, i', h', rfl, hx, k1, rfl⟩ := q
    exact ⟨.int, fun o ho => by
      simp at ho
      rcases ho with rfl | rfl
      · exact cur_rows t s i' h'
      · exact avrows_int tl l, k x i' h' c' hc hx k1⟩

def ids : List (List UInt8) := [[117, 49], [117, 50], [117, 51], [], [97, 32, 98], [117, 52]]
theorem l37Id_con {t i : Nat} {h : Int} {s : SL Int} (hi : i ≤ s.list.length) (hn : s.list.length ≤ 1048576) (c : Nat) : Con Try.prog 104 [.ptr 0 t 3 0 0] [cur t s i h] c fun r O _ => TextQ t s r O := by
  refine con_of c104 (by simp [F104]) ?_
  unfold F104
  simp [putA]
  refine call_str ids hi hn (by decide) (by decide) fun x i' h' c' _ hx k1 => ?_
  simp
  refine fin_sub (Hk := [cur t s i' h']) ((List.nil_sublist _).cons_cons _) (.refl _) ⟨x, i', h', rfl, ?_, k1, rfl⟩
  exact (by decide : ∀ x, x ∈ ids → x.length ≤ 16) x hx

def wrds : List (List UInt8) := [[], [97], [98], [120, 49], [48], [53], [45, 53], [48, 53], [45, 48], [49, 50, 97], [48, 48, 55], [49, 48, 48, 48, 48, 48, 48, 48, 48, 48], [49, 48, 48, 48, 48, 48, 48, 48, 48, 49], [32, 49], [105, 116, 39, 115], [10], [60, 105, 62], [255, 59], [110, 97, 109, 101], [115, 58, 49, 58]]
theorem l5Word_con {t i : Nat} {h : Int} {s : SL Int} (hi : i ≤ s.list.length) (hn : s.list.length ≤ 1048576) (c : Nat) : Con Try.prog 130 [.ptr 0 t 3 0 0] [cur t s i h] c fun r O _ => TextQ t s r O := by
  refine con_of c130 (by simp [F130]) ?_
  unfold F130
  simp [putA]
  refine call_str wrds hi hn (by decide) (by decide) fun x i' h' c' _ hx k1 => ?_
  simp
  refine fin_sub (Hk := [cur t s i' h']) ((List.nil_sublist _).cons_cons _) (.refl _) ⟨x, i', h', rfl, ?_, k1, rfl⟩
  exact (by decide : ∀ x, x ∈ wrds → x.length ≤ 16) x hx

/-- Any number, the cursor moved. -/
def AnyQ (t : Nat) (s : SL Int) (r : AV) (O : List AObj) : Prop := ∃ (x : Int) (i : Nat) (h : Int), r = .int .i64 x ∧ i ≤ s.list.length ∧ O = [cur t s i h]
theorem call_any {P : Program} {f : Nat} {l : List AV} {t i : Nat} {h : Int} {s : SL Int} {C : List AObj} {c : Nat} {K : AV → List AObj → Nat → Prop} (hf : Con P f l [cur t s i h] c fun r O _ => AnyQ t s r O)
    (k : ∀ (x : Int) (i' : Nat) (h' : Int) (c' : Nat), c ≤ c' → i' ≤ s.list.length → K (.int .i64 x) (cur t s i' h' :: C) c') : CallW P f l (cur t s i h :: C) c K :=
  call_cur hf fun r B' c' hc q => by
    obtain ⟨x, i', h', rfl, k1, rfl⟩ := q
    exact ⟨rfl, .int, fun o ho => by simp at ho; subst ho; exact cur_rows t s i' h', k x i' h' c' hc k1⟩
def odds : List Int := [-1, 0, 1, 2, 255, 256, 65535, 2147483647, 2147483648, 4294967295, 4294967296, -2147483648, 9223372036854775807, -9223372036854775808]
theorem l1Odd_con {t i : Nat} {h : Int} {s : SL Int} (hi : i ≤ s.list.length) (hn : s.list.length ≤ 1048576) (c : Nat) : Con Try.prog 133 [.ptr 0 t 3 0 0] [cur t s i h] c fun r O _ => AnyQ t s r O := by
  refine con_of c133 (by simp [F133]) ?_
  unfold F133
  simp [putA]
  refine call_int odds (C := []) hi hn (by decide) (by decide) fun x i' h' c' _ hx k1 => ?_
  simp
  exact fin_sub (Hk := [cur t s i' h']) ((List.nil_sublist _).cons_cons _) (.refl _) ⟨x, i', h', rfl, k1, rfl⟩

def NewQ (s : SL Int) (r : AV) (O : List AObj) : Prop := ∃ (t : Nat) (h : Int), r = .ptr 0 t 3 0 0 ∧ O = [cur t s 0 h]
theorem l1New_con {s : SL Int} (hn : s.list.length ≤ 1048576) (c : Nat) : Con Try.prog 92 [s.av 1 encU] [] c fun r O _ => NewQ s r O := by
  refine con_of c92 (by simp [F92]) ?_
  unfold F92
  simp
  refine loop_drop s.list.length (fun i e H c' => e 0 = s.av 1 encU ∧ e 4 = .int .i64 i ∧ (∃ h : Int, e 3 = .int .i64 h) ∧ H = []) ⟨rfl, rfl, ⟨_, rfl⟩, rfl⟩ ?_
  intro i e H c' hi ⟨e0, e4, ⟨h, e3⟩, hH⟩ N hN
  subst hH
  by_cases hlt : i < s.list.length
  · have hg : s.list[i]? = some s.list[i] := List.getElem?_eq_getElem hlt
    generalize s.list[i] = b at hg
    by_cases h4 : (i : Int) < 4000
    · simp [e0, e3, e4, hlt, h4]
      refine ⟨b, hg, ?_⟩
      simp [e0, e3, e4, encU, intW_and]
      exact hN _ _ _ _ hlt (List.nil_sublist _) ⟨by simp [upd, e0], by simp [upd]; exact step64 (by unfold mx; omega) hlt, ⟨_, by simp [upd]; rfl⟩, rfl⟩
    · simp [e0, e3, e4, hlt, h4, putA]
      exact fin_all ⟨_, h, rfl, rfl⟩
  · simp [e0, e3, e4, hlt, putA]
    exact fin_all ⟨_, h, rfl, rfl⟩

/-- A number below ten, written. -/
theorem fmtDigit {n : Nat} (h : n ≤ 9) : ∃ x : List UInt8, x.length ≤ 16 ∧ Fnc Try.prog 132 [.int .i64 n] (.str x) := by
  by_cases h0 : n = 0
  · subst h0
    refine ⟨[48], by decide, fn_of c132 (by simp [F132]) fun c => ?_⟩
    unfold F132
    simp
    exact fin_plain ⟨rfl, rfl⟩
  · refine ⟨[UInt8.ofNat (48 + n)], by simp, fn_of c132 (by simp [F132]) fun c => ?_⟩
    unfold F132
    have hm : ((n : Int).tmod 10) = n := by rw [Int.tmod_eq_emod_of_nonneg (by omega)]; omega
    have hq : ((n : Int).tdiv 10) = 0 := by rw [Int.tdiv_eq_ediv_of_nonneg (by omega)]; omega
    have hn0 : ¬ (n : Int) = 0 := by omega
    have hneg : ¬ (n : Int) < 0 := by omega
    have w0 : IntKind.i64.wrap 0 = 0 := by decide
    have w1 : IntKind.i64.wrap (48 + (n : Int)) = 48 + n := wrap64 (by omega) (by omega)
    simp [h0, hn0]
    refine loop_drop 1 (fun i e H c' => e 0 = .int .i64 n ∧ H = [] ∧ ((i = 0 ∧ e 4 = .int .i64 n ∧ e 3 = .str []) ∨ (i = 1 ∧ e 4 = .int .i64 0 ∧ e 3 = .str [UInt8.ofNat (48 + n)]))) ⟨rfl, rfl, .inl ⟨rfl, rfl, rfl⟩⟩ ?_
    intro i e H c' hi ⟨e0, hH, hc⟩ N hN
    subst hH
    rcases hc with ⟨rfl, e4, e3⟩ | ⟨rfl, e4, e3⟩
    · have hu : IntKind.u8.wrap (48 + (n : Int)) = 48 + n := by
        rcases n with _ | _ | _ | _ | _ | _ | _ | _ | _ | _ | n
        all_goals first | rfl | omega
      simp [e0, e3, e4, h0, hn0, hm, hneg, w1, putA, hq, w0, hu]
      refine toStrW_ref (l := [UInt8.ofNat (48 + n)]) ?_ rfl (by unfold mx; simp) ?_
      · simp [byteRow, UInt8.toNat_ofNat']
        omega
      · simp [e0, e3, e4, hq, w0, h0]
        refine ⟨by unfold mx; omega, hN _ _ _ _ (by omega) (List.nil_sublist _) ⟨?_, rfl, .inr ⟨rfl, ?_, ?_⟩⟩⟩
        · simp [upd, e0]
        · simp [upd]
        · simp [upd]
    · simp [e0, e3, e4, hneg]
      exact fin_plain ⟨rfl, rfl⟩
end A
end Go.Proofs.Ytgiiipbpadgcgaa
