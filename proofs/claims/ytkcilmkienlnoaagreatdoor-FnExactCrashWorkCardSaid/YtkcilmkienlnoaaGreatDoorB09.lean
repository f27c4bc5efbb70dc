import Derived.Test.YtkcilmkienlnoaaGreatDoorB08

/-
  Slices handed back as0 objects, and the same seen as0 trees; appends. No condition.
-/

namespace Go.Proofs.YtkcilmkienlnoaaGreatDoor
namespace A
set_option linter.unusedVariables false
set_option linter.unusedSimpArgs false

theorem szL_const {α : Type} (n : Nat) (l : List α) : szL (fun _ => n) l = n * l.length := by
  induction l with
  | nil => simp [szL]
  | cons x l ih => simp [szL] at ih ⊢; rw [Nat.mul_add]; omega

section
variable {P : Program} {H : List AObj} {c : Nat} {K : AV → List AObj → Nat → Prop}
@[simp] theorem srcW_slc (wd t w : Nat) (rows : List (List AV)) (K : List (List AV) → Prop) : srcW wd (.slc t w rows) H K = (w = wd ∧ K rows) := (rfl)
@[simp] theorem srcW_nsl (wd : Nat) (K : List (List AV) → Prop) : srcW wd .nsl H K = K [] := (rfl)
@[simp] theorem srcW_str (wd : Nat) (l : List UInt8) (K : List (List AV) → Prop) : srcW wd (.str l) H K = (wd = 1 ∧ K (l.map byteRow)) := (rfl)
@[simp] theorem srcW_ref (wd j t w n : Nat) (K : List (List AV) → Prop) : srcW wd (.ref j t w n) H K = (w = wd ∧ getW H j fun ob => ob.tag = t ∧ ob.mp = false ∧ ob.w = w ∧ n ≤ ob.rows.length ∧ K (ob.rows.take n)) := (rfl)
@[simp] theorem srcW_sub (wd j t w off n : Nat) (K : List (List AV) → Prop) : srcW wd (.sub j t w off n) H K = (w = wd ∧ getW H j fun ob => ob.tag = t ∧ ob.mp = false ∧ ob.w = w ∧ off + n ≤ ob.rows.length ∧ K ((ob.rows.drop off).take n)) := (rfl)
@[simp] theorem srcW_sl {α : Type} (w : Nat) (f : α → List AV) (s : SL α) (K : List (List AV) → Prop) : srcW w (s.av w f) H K = K (s.list.map f) := by
  cases s <;> simp [SL.av]
@[simp] theorem appendW_ref (wd b i t w n : Nat) (y : AV) : appendW wd b (.ref i t w n) y H c K = srcW wd y H fun rows' => w = wd ∧ getW H i fun ob => ob.tag = t ∧ ob.mp = false ∧ ob.w = w ∧ cutW ob.rows n fun rs => (n + rows'.length) * b ≤ 140737488355328 ∧ n + rows'.length ≤ mx ∧
        K (.ref i c wd (n + rows'.length)) (H.set i ⟨false, c, wd, rs ++ rows'⟩) (c + 1) := (rfl)
@[simp] theorem cutW_all {rows : List (List AV)} {n : Nat} (h : rows.length = n) (K : List (List AV) → Prop) : cutW rows n K = K rows := by
  subst h; simp [cutW]
@[simp] theorem appendW_nsl (wd b : Nat) (y : AV) : appendW wd b .nsl y H c K = srcW wd y H fun rows' => (rows' = [] → K .nsl H c) ∧ (rows' ≠ [] → rows'.length * b ≤ 140737488355328 ∧ rows'.length ≤ mx ∧ K (.ref H.length c wd rows'.length) (H ++ [⟨false, c, wd, rows'⟩]) (c + 1)) := (rfl)

theorem tr_fn {f : Nat} {l : List AV} {res : AV} (hf : Fnc P f l res) (hfr : ∀ c, From c res) : Tr P f l fun _ r => r = res := fun c => (hf c).mono fun r H' c' _ ⟨h1, h2⟩ => ⟨h2, h1, h1 ▸ hfr c⟩
theorem callD_fn0 {R : AV → Prop} {f : Nat} {l : List AV} {K : AV → Prop} {res : AV} (hf : Fnc P f l res) (hR : ∀ v, R v ↔ v = res) (hfr : ∀ c, From c res) (k : K res) : callD P R f l H c K :=
  ⟨l, Views.refl _ _, (fun c => (hf c).mono fun r H' c' _ ⟨h1, h2⟩ => ⟨h2, (hR r).2 h1, h1 ▸ hfr c⟩), ⟨res, (hR res).2 rfl, hfr c⟩, fun r hr _ => by rw [(hR r).1 hr]; exact k⟩
theorem callD_tree0 {R : AV → Prop} {f : Nat} {l : List AV} {K : AV → Prop} (hf : Tr P f l fun _ r => R r) (hx : ∃ r, R r ∧ From c r) (k : ∀ r, R r → From c r → K r) : callD P R f l H c K := ⟨l, Views.refl _ _, hf, hx, k⟩

theorem toStrW_ref {i t n : Nat} {l : List UInt8} {K : AV → Prop} (ho : H[i]? = some ⟨false, t, 1, l.map byteRow⟩) (hn : l.length = n) (hl : l.length ≤ mx) (k : K (.str l)) : toStrW (.ref i t 1 n) H K := by
  unfold toStrW
  simp only [srcW_ref]
  exact ⟨trivial, _, ho, rfl, rfl, rfl, by simp; omega, l, by rw [← hn]; exact List.take_of_length_le (by simp), hl, k⟩
theorem wrap_u8 {n : Nat} (h : n < 256) : IntKind.u8.wrap (IntKind.i64.wrap n) = ((UInt8.ofNat n).toNat : Int) := by
  rw [wrap64 (by omega) (by omega), IntKind.wrap_u8]
  simp [UInt8.toNat_ofNat']
/-- What a call gives, seen otherwise behind it. -/
theorem Con.fin {f : Nat} {args : List AV} {Q Q' : AV → List AObj → Nat → Prop} (h : Con P f args H c Q)
    (k : ∀ r H' c', c ≤ c' → Q r H' c' → (∀ t, t < c → t ∈ tags H' → t ∈ tags H) → (tags H').Nodup → finW Q' r H' c') : Con P f args H c Q' := by
  intro G w vs e I hs hr
  refine (h G w vs e I hs hr).mono fun en w' ⟨v, res, H', G1, h1, h2, x1, I1, r1⟩ => ?_
  subst e
  obtain ⟨S, Hk, Hk', v', q1, qr, q2, q3, q4, q5⟩ := k res H' G1.c x1.x.c h2 x1.oldH I1.nodup
  have hS : ∀ t, t ∈ tags S → t ∈ tags H' := fun t ht => by obtain ⟨o, ho, rfl⟩ := of_mem_tags ht; exact mem_tags (q2 o ho)
  exact ⟨v, v', Hk', G1.freeze S, h1, q5, ⟨x1.x.trans (Ext1.freeze _ _ _), x1.os, x1.tape, x1.output, x1.size, x1.frame, x1.newm, fun t h1 h2 => x1.oldH t h1 ((q1.map _).subset (by rw [qr.tags_eq] at h2; exact h2)), fun t h1 h2 => by
    rcases h2 with h2 | h2
    · exact x1.oldF t h1 h2
    · exact .inr (x1.oldH t h1 (hS t h2))⟩, I1.ren q1.subset q2 (I1.freeze q1 q2 q3) qr, q4.rep I1 q2 r1⟩

/-- A function that hands back objects of its own hands back trees of its own. -/
theorem tr_of {f : Nat} {args : List AV} {Q : AV → List AObj → Nat → Prop} {Q' : Nat → AV → Prop} (h : ∀ c, Con P f args [] c Q)
    (k : ∀ c r O c', c ≤ c' → Q r O c' → (∀ t, t ∈ tags O → c ≤ t) → ∃ v', View O r v' ∧ Q' c v' ∧ From c v') : Tr P f args Q' := by
  intro c
  refine (h c).fin fun r O c' hc hq ho hd => ?_
  obtain ⟨v', h1, h2, h3⟩ := k c r O c' hc hq fun t ht => by
    rcases Nat.lt_or_ge t c with h | h
    · have := ho t h ht; simp [tags] at this
    · exact h
  exact ⟨O, [], [], v', List.nil_sublist _, .nil, fun _ h => h, by simp [tags], h1, rfl, h2, h3⟩

theorem free_tup {l : List AV} (h : ∀ a, a ∈ l → Free a) : Free (.tup l) := fun T => .tup fun j a ha => h a (List.mem_of_getElem? ha) T
theorem free_bool (b : Bool) : Free (.bool b) := fun _ => .bool
theorem free_int (k : IntKind) (n : Int) : Free (.int k n) := fun _ => .int
theorem free_str (l : List UInt8) : Free (.str l) := fun _ => .str
theorem view_tup {S : List AObj} {l l' : List AV} (h : Views S l l') : View S (.tup l) (.tup l') := .tup h.spec.1 h.spec.2
theorem from_tup {c : Nat} {l : List AV} (h : ∀ a, a ∈ l → From c a) : From c (.tup l) := fun T hT => .tup fun j a ha => h a (List.mem_of_getElem? ha) T hT

section
variable {α : Type}
/-- A slice as0 an object at a place of the state. -/
def SL.at_ (i w : Nat) : SL α → AV
  | .nil => .nsl
  | .mk t xs => .ref i t w xs.length
theorem view_at (i w : Nat) (s : SL α) (S : List AObj) : View S (s.ref w) (s.at_ i w) := by cases s <;> constructor
theorem view_at' (i w : Nat) (s : SL α) (S : List AObj) : View S (s.at_ i w) (s.ref w) := by cases s <;> constructor
@[simp] theorem at_len (i w : Nat) (s : SL α) (K : AV → Prop) : lenSlcW (s.at_ i w) K = K (.int .i64 s.list.length) := by cases s <;> rfl
@[simp] theorem at_cells (i w : Nat) (s : SL α) (K : List AV → Prop) : cellsW (s.at_ i w) K = K [s.at_ i w] := by cases s <;> rfl
@[simp] theorem ref_cells (w : Nat) (s : SL α) (K : List AV → Prop) : cellsW (s.ref w) K = K [s.ref w] := by cases s <;> rfl
@[simp] theorem cell_at (i w : Nat) (s : SL α) : (s.at_ i w).cell = true := by cases s <;> rfl
@[simp] theorem cell_ref (w : Nat) (s : SL α) : (s.ref w).cell = true := by cases s <;> rfl
theorem isnl_av (neg : Bool) (w : Nat) (f : α → List AV) (s : SL α) (K : AV → Prop) (h0 : s.list = [] → K (.bool (true != neg))) (h1 : K (.bool (false != neg))) : isnlW neg (s.av w f) K := by
  cases s with
  | nil => exact h0 rfl
  | mk t l => cases l with
    | nil => exact ⟨h0 rfl, h1⟩
    | cons x l => exact h1

/-- Flat elements: cells that hang on nothing. -/
def Flat (enc : α → List AV) : Prop := ∀ x a, a ∈ enc x → a.cell = true ∧ Free a
theorem Flat.cells {enc : α → List AV} (h : Flat enc) : ∀ x a, a ∈ enc x → a.cell = true := fun x a ha => (h x a ha).1
theorem Free.from {a : AV} (h : Free a) (c : Nat) : From c a := fun T _ => h T
theorem flat_wood (t w : Nat) (enc : α → List AV) (l : List α) : (SL.mk t l).wood w enc noInn = [⟨false, t, w, l.map enc⟩] := wood_flat ..
theorem flat_free {enc : α → List AV} (h : Flat enc) (w : Nat) (s : SL α) : ∀ o, o ∈ s.wood w enc noInn → ∀ T, AvRows T o :=
  free_wood (fun x a ha => (h x a ha).2) (fun x o ho => by cases ho) s
theorem flat_from {enc : α → List AV} (h : Flat enc) {w c : Nat} {s : SL α} (ht : ∀ t, t ∈ tags (s.wood w enc noInn) → c ≤ t) : From c (s.av w enc) := by
  cases s with
  | nil => exact from_nsl c
  | mk t l =>
    refine from_slc (ht t ?_) fun row hr a ha => ?_
    · rw [flat_wood]; simp [tags]
    · obtain ⟨x, _, rfl⟩ := List.mem_map.1 hr
      exact ((h x a ha).2).from c
theorem flat_tr {enc : α → List AV} (hE : Flat enc) {w : Nat} {f : Nat} {args : List AV} {Q : SL α → Prop} (h : ∀ c, Con P f args [] c fun r O _ => ∃ b : SL α, r = b.ref w ∧ O = b.wood w enc noInn ∧ Q b) :
    Tr P f args fun _ r => ∃ b : SL α, r = b.av w enc ∧ Q b :=
  tr_of h fun c r O c' _ ⟨b, h1, h2, h3⟩ ht => ⟨b.av w enc, by rw [h1]; exact view_flat (by rw [h2]; exact fun _ h => h) hE.cells, ⟨b, rfl, h3⟩, flat_from hE (by rw [← h2]; exact ht)⟩
/-- The same with more results, which hang on nothing. -/
theorem flat_tr2 {enc : α → List AV} (hE : Flat enc) {w : Nat} {f : Nat} {args : List AV} {Q : SL α → List AV → Prop} (hF : ∀ b l, Q b l → ∀ a, a ∈ l → Free a)
    (h : ∀ c, Con P f args [] c fun r O _ => ∃ (b : SL α) (l : List AV), r = .tup (b.ref w :: l) ∧ O = b.wood w enc noInn ∧ Q b l) :
    Tr P f args fun _ r => ∃ (b : SL α) (l : List AV), r = .tup (b.av w enc :: l) ∧ Q b l :=
  tr_of h fun c r O c' _ ⟨b, l, h1, h2, h3⟩ ht => ⟨.tup (b.av w enc :: l), by rw [h1]; exact view_tup (.cons (view_flat (by rw [h2]; exact fun _ h => h) hE.cells) (Views.refl _ _)), ⟨b, l, rfl, h3⟩,
    from_tup fun a ha => by
      rcases List.mem_cons.1 ha with rfl | ha
      · exact flat_from hE (by rw [← h2]; exact ht)
      · exact (hF b l h3 a ha).from c⟩

theorem flat_marks {enc : α → List AV} {w : Nat} (mk : Int → α → α) (cnt : α → Nat) (k : Int) (s : SL α) : tags ((s.marks mk cnt k).wood w enc noInn) = tags (s.wood w enc noInn) := tags_wood (inn := noInn) (mk := mk) (cnt := cnt) (fun _ _ => rfl) k s
end
end
end A
end Go.Proofs.YtkcilmkienlnoaaGreatDoor

/-
  The words that mark strings. No condition.
-/


namespace Go.Proofs.YtkcilmkienlnoaaGreatDoor
namespace A
set_option linter.unusedVariables false
set_option linter.unusedSimpArgs false
set_option maxRecDepth 100000

def mtD : Nat → Nat → List UInt8 → List UInt8
  | 0, _, acc => acc
  | f + 1, k, acc => if k = 0 then acc else mtD f (k / 10) (UInt8.ofNat (48 + k % 10) :: acc)
def mtext (k : Int) : List UInt8 := if k ≤ 0 then [109, 48] else 109 :: mtD 40 k.toNat []
theorem mtD_len : ∀ (f k : Nat) (acc : List UInt8), (mtD f k acc).length ≤ f + acc.length
  | 0, _, _ => by simp [mtD]
  | f + 1, k, acc => by
    unfold mtD
    split
    · omega
    · have := mtD_len f (k / 10) (UInt8.ofNat (48 + k % 10) :: acc)
      rw [List.length_cons] at this; omega
theorem mtext_len (k : Int) : (mtext k).length ≤ 41 := by
  unfold mtext
  split
  · simp
  · have := mtD_len 40 k.toNat []
    simp at this ⊢; omega

theorem mtext_fn {k : Int} (hk : k ≤ 1000000000000000000) : Fnc Tryz.prog 86 [.int .i64 k] (.str (mtext k)) := by
  refine fn_of c86 (by simp [F86]) fun c => ?_
  unfold F86
  simp
  refine ⟨fun h => fin_plain ⟨by simp [mtext, h], rfl⟩, fun h => ?_⟩
  have hm : mtext k = 109 :: mtD 40 k.toNat [] := by simp [mtext]; omega
  refine loop_drop 20 (fun i e H c' => ∃ (n : Nat) (acc : List UInt8), e 0 = .int .i64 n ∧ e 3 = .str acc ∧ acc.length = i ∧ n * 10 ^ i ≤ k.toNat ∧ mtD (40 - i) n acc = mtD 40 k.toNat [] ∧ H = []) ⟨k.toNat, [], by simp; omega, rfl, rfl, by simp, rfl, rfl⟩ ?_
  intro i e H c hi ⟨n, acc, e0, e3, hl, hn, hd, hH⟩ N hN
  subst hH
  simp [e0, e3]
  refine ⟨fun h => ?_, fun h => ?_⟩
  · have hi' : i < 20 := by
      rcases Nat.lt_or_ge i 20 with h1 | h1
      · exact h1
      · have : i = 20 := by omega
        subst this
        omega
    have h10 : ((n : Int)).tmod 10 = ((n % 10 : Nat) : Int) := by rw [Int.tmod_eq_emod_of_nonneg (by omega)]; omega
    have hq : ((n : Int)).tdiv 10 = ((n / 10 : Nat) : Int) := by rw [Int.tdiv_eq_ediv_of_nonneg (by omega)]; omega
    have h48 : (48 : Int) + ((n % 10 : Nat) : Int) = ((48 + n % 10 : Nat) : Int) := by omega
    have hw : IntKind.u8.wrap (IntKind.i64.wrap (48 + ((n % 10 : Nat) : Int))) = ((UInt8.ofNat (48 + n % 10)).toNat : Int) := by rw [h48]; exact wrap_u8 (by omega)
    rw [h10]
    refine toStrW_ref (l := [UInt8.ofNat (48 + n % 10)]) (by rw [hw]; rfl) rfl (by simp [mx]) ?_
    have hm1 : 1 + acc.length ≤ mx := by unfold mx; omega
    have hq' : IntKind.i64.wrap ((n / 10 : Nat) : Int) = ((n / 10 : Nat) : Int) := by
      have : n ≤ k.toNat := Nat.le_trans (Nat.le_mul_of_pos_right n (Nat.pos_of_ne_zero (by simp))) hn
      exact wrap64 (by omega) (by omega)
    simp [e0, e3, hm1, hq, hq', -Int.natCast_ediv]
    refine hN _ _ [] _ hi' (by simp) ⟨n / 10, UInt8.ofNat (48 + n % 10) :: acc, ?_, ?_, by simp [hl], ?_, ?_, rfl⟩
    · simp [upd]
    · simp [upd]
    · refine Nat.le_trans ?_ hn
      rw [Nat.pow_succ, Nat.mul_comm (10 ^ i) 10, ← Nat.mul_assoc]
      exact Nat.mul_le_mul_right _ (Nat.div_mul_le_self n 10)
    · rw [← hd]
      have e40 : 40 - i = (40 - (i + 1)) + 1 := by omega
      rw [e40]
      conv => rhs; unfold mtD
      rw [if_neg (by omega)]
  · have h0 : n = 0 := by omega
    subst h0
    have ha : acc = mtD 40 k.toNat [] := by
      rw [← hd]
      have e40 : 40 - i = (39 - i) + 1 := by omega
      rw [e40]; simp [mtD]
    have hm1 : 1 + acc.length ≤ mx := by unfold mx; omega
    exact ⟨hm1, fin_plain ⟨by rw [hm, ← ha], rfl⟩⟩
end A
end Go.Proofs.YtkcilmkienlnoaaGreatDoor

/-
  Slices: copies by append, changes in place, what is kept of one. No condition.
-/

namespace Go.Proofs.YtkcilmkienlnoaaGreatDoor
namespace A
set_option linter.unusedVariables false
set_option linter.unusedSimpArgs false

/-- slices.Clone. -/
def cloneF (w : Nat) (z : List AV) (b : Nat) : Fun := ⟨8,
  .seq (.reg [o 2 (.mv (.c .nsl))])
  (.seq (.seq (.reg [o 3 (.mv (.t 0)), o 4 (.isnl false (.t 3))])
  (.cond (.t 4) (.seq (.reg [o 2 (.mv (.c .nsl))])
   (.ret)) (.skip)))
  (.seq (.reg [o 5 (.bslice w z 0 []), o 6 (.mv (.t 0)), o 7 (.append w b (.t 5) (.t 6)), o 2 (.mv (.t 7))])
  (.ret))),
  [.tmp 2]⟩

theorem sub_one {α : Type} (a : α) (l : List α) : [a].Sublist (a :: l) := (List.nil_sublist l).cons_cons a
theorem sub_two {α : Type} (a b : α) (l : List α) : [a, b].Sublist (a :: b :: l) := (sub_one b l).cons_cons a

@[simp] theorem getW_len {α : Type} (L M : List α) (x : α) (K : α → Prop) : getW (L ++ x :: M) L.length K = K x := getW_of (by rw [List.getElem?_append_right (Nat.le_refl _)]; simp) K
@[simp] theorem set_len {α : Type} (L M : List α) (x y : α) : (L ++ x :: M).set L.length y = L ++ y :: M := by
  rw [List.set_append_right _ _ (Nat.le_refl _), Nat.sub_self, List.set_cons_zero]
@[simp] theorem getW_len1 {α : Type} (L M : List α) (x y : α) (K : α → Prop) : getW (L ++ x :: y :: M) (L.length + 1) K = K y := getW_of (by rw [List.getElem?_append_right (by omega)]; simp) K
@[simp] theorem set_len1 {α : Type} (L M : List α) (x y z : α) : (L ++ x :: y :: M).set (L.length + 1) z = L ++ x :: z :: M := by
  rw [List.set_append_right _ _ (by omega)]; simp
@[simp] theorem getW_len2 {α : Type} (L M : List α) (x y z : α) (K : α → Prop) : getW (L ++ x :: y :: z :: M) (L.length + 2) K = K z := getW_of (by rw [List.getElem?_append_right (by omega)]; simp) K
@[simp] theorem getW_len2' {α : Type} (L M : List α) (x y z : α) (K : α → Prop) : getW (L ++ x :: y :: z :: M) (L.length + 1 + 1) K = K z := getW_len2 L M x y z K
/-- Some of the objects are let go. -/
theorem fin_sub {Q : AV → List AObj → Nat → Prop} {v v' : AV} {H Hk : List AObj} {c : Nat} (hs : Hk.Sublist H) (hv : View [] v v') (h : Q v' Hk c) : finW Q v H c := ⟨[], Hk, Hk, v', hs, .refl _ _, by simp, by simp [tags], hv, h⟩
/-- Some of the objects are let go, those that stay are named anew. -/
theorem fin_ren {Q : AV → List AObj → Nat → Prop} {v v' : AV} {H Hk Hk' : List AObj} {c : Nat} (hs : Hk.Sublist H) (hr : Rens [] Hk Hk') (hv : View [] v v') (h : Q v' Hk' c) : finW Q v H c := ⟨[], Hk, Hk', v', hs, hr, by simp, by simp [tags], hv, h⟩

section
variable {α : Type}
def SL.lmap (f : List α → List α) : SL α → SL α
  | .nil => .nil
  | .mk t l => .mk t (f l)
theorem ref_mk (t w : Nat) (l : List α) : (SL.mk t l).ref w = .ref 0 t w l.length := rfl
theorem ref_nil (w : Nat) : (SL.nil : SL α).ref w = .nsl := rfl
theorem SL.lmap_list {f : List α → List α} (h : f [] = []) (s : SL α) : (s.lmap f).list = f s.list := by cases s <;> simp [SL.lmap, h]
theorem SL.wood_lmap (w : Nat) (enc : α → List AV) (s : SL α) : (s.lmap id).wood w enc noInn = s.wood w enc noInn := by cases s <;> rfl

section
variable {P : Program} {enc : α → List AV} {w b f : Nat} {z : List AV}
theorem clone_con (hf : compF P f = some (cloneF w z b)) {s : SL α} (hn : s.list.length * b ≤ 140737488355328) (hn' : s.list.length ≤ mx) (c : Nat) :
    Con P f [s.av w enc] [] c fun r O _ => ∃ x : SL α, r = x.ref w ∧ O = x.wood w enc noInn ∧ x.list = s.list := by
  refine con_of hf (by simp [cloneF]) ?_
  unfold cloneF
  simp
  refine isnl_av _ _ _ _ _ (fun h => ?_) ?_
  · simp
    exact fin_all ⟨.nil, rfl, rfl, by rw [h]; rfl⟩
  · simp
    exact ⟨hn, hn', fin_all ⟨.mk (c + 1) s.list, by simp [SL.ref], by simp [flat_wood], rfl⟩⟩
theorem clone_tr (hf : compF P f = some (cloneF w z b)) (hE : Flat enc) {s : SL α} (hn : s.list.length * b ≤ 140737488355328) (hn' : s.list.length ≤ mx) : Tr P f [s.av w enc] fun _ r => ∃ x : SL α, r = x.av w enc ∧ x.list = s.list :=
  flat_tr hE (clone_con hf hn hn')
end

/-- Changed up to an index. -/
def mixM (f : α → α) (l : List α) (i : Nat) : List α := (l.take i).map f ++ l.drop i
theorem mixM_zero (f : α → α) (l : List α) : mixM f l 0 = l := by simp [mixM]
theorem mixM_all (f : α → α) (l : List α) : mixM f l l.length = l.map f := by simp [mixM]
@[simp] theorem mixM_len (f : α → α) (l : List α) (i : Nat) : (mixM f l i).length = l.length := by simp [mixM]; omega
@[simp] theorem mixM_nil (f : α → α) (i : Nat) : mixM f [] i = [] := by simp [mixM]
theorem mixM_get (f : α → α) {l : List α} {i : Nat} (h : i < l.length) : (mixM f l i)[i]? = some l[i] := by
  unfold mixM
  rw [List.getElem?_append_right (by simp; omega)]
  simp [h, Nat.min_eq_left (Nat.le_of_lt h)]
theorem mixM_set (f : α → α) {l : List α} {i : Nat} (h : i < l.length) : (mixM f l i).set i (f l[i]) = mixM f l (i + 1) := by
  unfold mixM
  rw [List.set_append_right _ _ (by simp; omega), List.length_map, List.length_take, Nat.min_eq_left (by omega), Nat.sub_self, List.drop_eq_getElem_cons h, List.set_cons_zero, List.take_succ_eq_append_getElem h, List.map_append]
  simp
theorem mixM_same (f : α → α) {l : List α} {i : Nat} (h : i < l.length) (e : f l[i] = l[i]) : mixM f l i = mixM f l (i + 1) := by
  have := mixM_set f h
  rw [e] at this
  rw [← this]
  refine List.ext_getElem? fun j => ?_
  by_cases hj : j = i
  · subst hj; rw [mixM_get f h, List.getElem?_set_self (by simp; exact h)]
  · rw [List.getElem?_set_ne (by omega)]

/-- Kept up to an index. -/
theorem filter_step (p : α → Bool) {l : List α} {i : Nat} (h : i < l.length) : (l.take (i + 1)).filter p = (l.take i).filter p ++ (if p l[i] then [l[i]] else []) := by
  rw [List.take_succ_eq_append_getElem h, List.filter_append]
  by_cases hp : p l[i] = true <;> simp [hp]
end
/-! ### the ends of the laws: marks on what was handed in, on what was handed back -/
section
variable {P : Program} {K : AV → List AObj → Nat → Prop} {α : Type} {enc encO : α → List AV} {inn : α → List AObj} {w f : Nat} {mk : Int → α → α} {cnt : α → Nat}
theorem call_midr {f : Nat} {l l' : List AV} {a : AObj} {A B C : List AObj} {c : Nat} {Q : AV → List AObj → Nat → Prop} (hf : Con P f l' B c Q) (hv : Views [] l l')
    (k : ∀ r B' c', c ≤ c' → Q r B' c' → tags B' = tags B ∧ Av [] r ∧ (∀ o, o ∈ B' → AvRows [] o) ∧ K r (a :: (A ++ (B' ++ C))) c') : CallW P f l (a :: (A ++ (B ++ C))) c K := by
  have e : ∀ X : List AObj, a :: (A ++ (X ++ C)) = (a :: A) ++ X ++ C := fun X => by simp
  rw [e]
  exact call_mid hf hv fun r B' c' hc hq => by rw [← e]; exact k r B' c' hc hq
theorem SL.marks_ref (k : Int) (s : SL α) : (s.marks mk cnt k).ref w = s.ref w := by cases s <;> simp [SL.marks, SL.ref, mks_len]
theorem view_marks {S : List AObj} {s : SL α} {k : Int} (hs : ∀ o, o ∈ (s.marks mk cnt k).wood w enc noInn → o ∈ S) (hc : ∀ x a, a ∈ enc x → a.cell = true) : View S (s.ref w) ((s.marks mk cnt k).av w enc) := by
  rw [← SL.marks_ref (mk := mk) (cnt := cnt) k s]
  exact view_flat hs hc
theorem mark_mid {A C : List AObj} {s : SL α} {k n : Int} {c : Nat} (hf : Con P f [s.ref w, .int .i64 k] (s.wood w encO inn) c fun r H' _ => r = .int .i64 n ∧ H' = (s.marks mk cnt k).wood w encO inn)
    (hi : ∀ k x, tags (inn (mk k x)) = tags (inn x)) (hO : ∀ x a, a ∈ encO x → Free a) (hI : ∀ x o, o ∈ inn x → ∀ T, AvRows T o) (kk : ∀ c', c ≤ c' → K (.int .i64 n) (A ++ (s.marks mk cnt k).wood w encO inn ++ C) c') :
    CallW P f [s.ref w, .int .i64 k] (A ++ s.wood w encO inn ++ C) c K :=
  call_mid hf (Views.refl _ _) fun r B' c' hc ⟨h1, h2⟩ => by
    subst h1; subst h2
    exact ⟨tags_wood hi _ s, .int, fun o ho => free_wood hO hI _ o ho _, kk c' hc⟩
theorem mark_first {C : List AObj} {s : SL α} {k n : Int} {c : Nat} (hE : Flat enc) (hf : Con P f [s.ref w, .int .i64 k] (s.wood w enc noInn) c fun r H' _ => r = .int .i64 n ∧ H' = (s.marks mk cnt k).wood w enc noInn)
    (kk : ∀ c', c ≤ c' → K (.int .i64 n) ((s.marks mk cnt k).wood w enc noInn ++ C) c') : CallW P f [s.ref w, .int .i64 k] (s.wood w enc noInn ++ C) c K :=
  mark_mid (A := []) hf (fun _ _ => rfl) (fun x a ha => (hE x a ha).2) (fun x o ho => by cases ho) kk
theorem mark_last {A : List AObj} {s : SL α} {k n : Int} {c : Nat} (hE : Flat enc) (hf : Con P f [s.ref w, .int .i64 k] (s.wood w enc noInn) c fun r H' _ => r = .int .i64 n ∧ H' = (s.marks mk cnt k).wood w enc noInn)
    (kk : ∀ c', c ≤ c' → K (.int .i64 n) (A ++ (s.marks mk cnt k).wood w enc noInn) c') : CallW P f [s.ref w, .int .i64 k] (A ++ s.wood w enc noInn) c K := by
  have := mark_mid (A := A) (C := []) (K := K) hf (fun _ _ => rfl) (fun x a ha => (hE x a ha).2) (fun x o ho => by cases ho) (by simpa using kk)
  simpa using this
end
end A
end Go.Proofs.YtkcilmkienlnoaaGreatDoor

/-
  Lines kept as0 objects: copies, marks, and what reads marks. No condition.
-/



namespace Go.Proofs.YtkcilmkienlnoaaGreatDoor
namespace A
set_option linter.unusedVariables false
set_option linter.unusedSimpArgs false
set_option maxRecDepth 100000

theorem encI_flat : Flat encI := fun x a ha => by simp [encI] at ha; subst ha; exact ⟨rfl, free_int _ _⟩
def TLine.encO (s : TLine) : List AV := [.int .i64 s.Seq, .int .i64 s.Owner, .int .i64 s.Version, s.Words.ref 1]
def TLine.inn (s : TLine) : List AObj := s.Words.wood 1 encI noInn
theorem TLine.lenO (s : TLine) : s.encO.length = 4 := (rfl)
@[simp] theorem TLine.o0 (s : TLine) (K : AV → Prop) : getW s.encO 0 K = K (.int .i64 s.Seq) := by simp [TLine.encO]
@[simp] theorem TLine.o1 (s : TLine) (K : AV → Prop) : getW s.encO 1 K = K (.int .i64 s.Owner) := by simp [TLine.encO]
@[simp] theorem TLine.o2 (s : TLine) (K : AV → Prop) : getW s.encO 2 K = K (.int .i64 s.Version) := by simp [TLine.encO]
@[simp] theorem TLine.o3 (s : TLine) (K : AV → Prop) : getW s.encO 3 K = K (s.Words.ref 1) := by simp [TLine.encO]
theorem TLine.freeO : ∀ (x : TLine) a, a ∈ x.encO → Free a := fun x a ha => by
  simp [TLine.encO] at ha
  rcases ha with rfl | rfl | rfl | rfl
  · exact free_int _ _
  · exact free_int _ _
  · exact free_int _ _
  · exact free_ref _ _
theorem TLine.freeI : ∀ (x : TLine) o, o ∈ x.inn → ∀ T, AvRows T o := fun x o ho => flat_free encI_flat _ _ o ho
theorem TLine.viewO {S : List AObj} (x : TLine) (h : ∀ o, o ∈ x.inn → o ∈ S) : ∀ (j : Nat) (a a' : AV), x.encO[j]? = some a → x.enc[j]? = some a' → View S a a' := fun j a a' h1 h2 => by
  match j, h1, h2 with
  | 0, h1, h2 => simp [TLine.encO] at h1; simp [TLine.enc] at h2; subst h1; subst h2; exact .refl _
  | 1, h1, h2 => simp [TLine.encO] at h1; simp [TLine.enc] at h2; subst h1; subst h2; exact .refl _
  | 2, h1, h2 => simp [TLine.encO] at h1; simp [TLine.enc] at h2; subst h1; subst h2; exact .refl _
  | 3, h1, h2 => simp [TLine.encO] at h1; simp [TLine.enc] at h2; subst h1; subst h2; exact view_flat h encI_flat.cells
  | j + 4, h1, h2 => simp [TLine.encO] at h1
/-- Lines, seen as0 trees. -/
theorem view_line {S : List AObj} {s : SL TLine} (hs : ∀ o, o ∈ s.wood 4 TLine.encO TLine.inn → o ∈ S) : View S (s.ref 4) (s.av 4 TLine.enc) :=
  view_wood hs (fun x => TLine.cells x) (fun _ => rfl) fun x h => TLine.viewO x h

theorem toLineO {x : TLine} (h : x.sz ≤ 1048576) (c : Nat) : Con Tryz.prog 65 [.agg x.enc] [] c fun r O _ => ∃ b : TLine, r = .agg b.encO ∧ O = b.inn ∧ b.con = x.con := by
  simp only [TLine.sz] at h
  refine con_of c65 (by simp [F65]) ?_
  unfold F65
  simp [putA]
  refine call_new (toPO_fn (v := fun n => .int .i64 n) (z := .int .i64 0) (bytes := 8) c99 (fun _ _ => by simp) (by unfold szIntS at h; omega) (by unfold szIntS at h; omega) _) (Views.refl _ _) fun r O c1 hc ⟨w, hr, hO, hw⟩ _ _ => ?_
  subst hr; subst hO
  refine ⟨_, .refl _, free_ref _ _ _, fun o ho => flat_free encI_flat _ _ o ho _, ?_⟩
  simp [putA]
  refine fin_sub (Hk := w.wood 1 encI noInn) ?_ (.refl _) ⟨⟨x.Seq, x.Owner, x.Version, w⟩, rfl, rfl, by simp [TLine.con, SL.pcon, hw]⟩
  exact ((List.Sublist.refl _).cons _).cons _ |>.cons _
theorem toLineSO {s : SL TLine} (h : szLineS s ≤ 1048576) (c : Nat) : Con Tryz.prog 23 [s.av 4 TLine.enc] [] c fun r H' _ => ∃ b : SL TLine, r = b.ref 4 ∧ H' = b.wood 4 TLine.encO TLine.inn ∧ b.list.map TLine.con = s.list.map TLine.con := by
  unfold szLineS at h
  exact toSO_fn (g := 65) (z := [.int .i64 0, .int .i64 0, .int .i64 0, .nsl]) (bytes := 48) c23 rfl (fun _ => rfl) TLine.lenO TLine.freeO TLine.freeI (by omega) (by omega)
    (fun x hx c => toLineO (by have := szL_mem (sz := TLine.sz) hx; omega) c) c

/-! ### marks -/
def mkLine (k : Int) (x : TLine) : TLine := ⟨k, k + 1, k + 2, x.Words.marks mkI cI (k + 3)⟩
def cLine (x : TLine) : Nat := 3 + x.Words.list.length
theorem mkLine_encO (k : Int) (x : TLine) : (mkLine k x).encO = [.int .i64 k, .int .i64 (k + 1), .int .i64 (k + 2), x.Words.ref 1] := by
  simp [mkLine, TLine.encO, SL.marks_ref]
theorem mkLine_tags (k : Int) (x : TLine) : tags (mkLine k x).inn = tags x.inn := flat_marks (enc := encI) (w := 1) mkI cI (k + 3) x.Words

theorem mixed_flat {α : Type} {mk : Int → α → α} {cnt : α → Nat} {k : Int} {l : List α} {inn : α → List AObj} {i : Nat} (h : i < l.length) :
    (mixed mk cnt k l i).flatMap inn = (mks mk cnt k (l.take i)).flatMap inn ++ inn l[i] ++ (l.drop (i + 1)).flatMap inn := by
  unfold mixed
  rw [List.drop_eq_getElem_cons h, List.flatMap_append, List.flatMap_cons, List.append_assoc]
theorem mixed_flat' {α : Type} {mk : Int → α → α} {cnt : α → Nat} {k : Int} {l : List α} {inn : α → List AObj} {i : Nat} (h : i < l.length) :
    (mixed mk cnt k l (i + 1)).flatMap inn = (mks mk cnt k (l.take i)).flatMap inn ++ inn (mk (k + szL cnt (l.take i)) l[i]) ++ (l.drop (i + 1)).flatMap inn := by
  unfold mixed
  rw [mks_step mk cnt k l h, List.flatMap_append, List.flatMap_append]
  simp

theorem markLine_nil (k : Int) : Fnc Tryz.prog 41 [.nsl, .int .i64 k] (.int .i64 k) := by
  refine fn_of c41 (by simp [F41]) fun c => ?_
  unfold F41
  simp
  refine loop_drop 0 (fun i e H c' => e 0 = .nsl ∧ e 1 = .int .i64 k ∧ e 5 = .int .i64 0 ∧ H = []) ⟨rfl, rfl, rfl, rfl⟩ ?_
  intro i e H c hi ⟨e0, e1, e5, hH⟩ N hN
  subst hH
  simp [e0, e1, e5]
  exact fin_plain ⟨rfl, rfl⟩
theorem heldLine_nil (k : Int) : Fnc Tryz.prog 47 [.nsl, .int .i64 k] (.int .i64 k) := by
  refine fn_of c47 (by simp [F47]) fun c => ?_
  unfold F47
  simp
  refine loop_drop 0 (fun i e H c' => e 0 = .nsl ∧ e 1 = .int .i64 k ∧ e 5 = .int .i64 0 ∧ H = []) ⟨rfl, rfl, rfl, rfl⟩ ?_
  intro i e H c hi ⟨e0, e1, e5, hH⟩ N hN
  subst hH
  simp [e0, e1, e5]
  exact fin_plain ⟨rfl, rfl⟩

theorem markLine_con1 {l : List TLine} (hz : szL cLine l ≤ 8388608) (hw : ∀ x, x ∈ l → x.Words.list.length ≤ 1048576) {k : Int} (hk : 0 ≤ k ∧ k ≤ 549755813888) (t c : Nat) :
    Con Tryz.prog 41 [.ref 0 t 4 l.length, .int .i64 k] (wood t 4 TLine.encO TLine.inn l) c fun r H' _ => r = .int .i64 (k + szL cLine l) ∧ H' = wood t 4 TLine.encO TLine.inn (mks mkLine cLine k l) := by
  have hln : l.length ≤ szL cLine l := by
    have : ∀ l : List TLine, l.length ≤ szL cLine l := fun l => by
      induction l with
      | nil => simp
      | cons x l ih => simp [szL, cLine] at ih ⊢; omega
    exact this l
  refine con_of c41 (by simp [F41]) ?_
  unfold F41
  simp
  refine loop_drop l.length (fun i e H c' => e 0 = .ref 0 t 4 l.length ∧ e 1 = .int .i64 (k + szL cLine (l.take i)) ∧ e 5 = .int .i64 i ∧ H = ⟨false, t, 4, (mixed mkLine cLine k l i).map TLine.encO⟩ :: (mixed mkLine cLine k l i).flatMap TLine.inn) ⟨rfl, by simp [szL], rfl, by rw [mixed_zero]; rfl⟩ ?_
  intro i e H c hi ⟨e0, e1, e5, hH⟩ N hN
  subst hH
  have hs := mixed_set mkLine cLine k l (i := i)
  have hst := fun h : i < l.length => szL_step cLine l h
  have hle := szL_le cLine l i
  have hfl := fun h : i < l.length => mixed_flat (mk := mkLine) (cnt := cLine) (k := k) (inn := TLine.inn) h
  have hfl' := fun h : i < l.length => mixed_flat' (mk := mkLine) (cnt := cLine) (k := k) (inn := TLine.inn) h
  generalize hjj : k + (szL cLine (l.take i) : Int) = j at e1 hs hfl'
  have w1 : IntKind.i64.wrap (j + 1) = j + 1 := wrap64 (by omega) (by omega)
  have w2 : IntKind.i64.wrap (j + 1 + 1) = j + 1 + 1 := wrap64 (by omega) (by omega)
  have w3 : IntKind.i64.wrap (j + 1 + 1 + 1) = j + 1 + 1 + 1 := wrap64 (by omega) (by omega)
  simp [e0, e1, e5]
  refine ⟨fun h => ?_, fun h => ?_⟩
  · have hs := hs h
    have hst := hst h
    have hg := mixed_get mkLine cLine k l h
    have hx := hw _ (List.getElem_mem h)
    rw [hfl h]
    have hfl' := hfl' h
    generalize l[i] = x at hs hst hg hx hfl'
    refine ⟨h, x, hg, ?_⟩
    simp [e0, e1, e5, h, mixed_len, w1, w2, w3, putA, TLine.encO]
    refine call_midr (f := 87) (B := x.inn) (markI_con c87 (s := x.Words) hx (k := j + 1 + 1 + 1) ⟨by omega, by omega⟩ c) (Views.refl _ _) fun r B' c' hc ⟨q1, q2⟩ => ?_
    subst q1; subst q2
    refine ⟨flat_marks (enc := encI) (w := 1) mkI cI _ x.Words, .int, fun o ho => flat_free encI_flat _ _ o ho _, ?_⟩
    simp [e0, e1, e5]
    refine hN _ _ _ _ h (List.Sublist.refl _) ⟨by simp [upd, e0], ?_, by simp [upd]; exact step64 (by unfold mx; omega) h, ?_⟩
    · simp [upd, hst, cLine]; omega
    · rw [hfl', ← hs, List.map_set, mkLine_encO]
      simp [mkLine, TLine.inn, Int.add_assoc]
  · have h1 : i = l.length := by omega
    subst h1
    refine fin_all ⟨?_, ?_⟩
    · rw [← hjj]; simp
    · rw [mixed_all]; rfl

theorem heldLine_fn1 {l : List TLine} (hz : szL cLine l ≤ 8388608) (hw : ∀ x, x ∈ l → x.Words.list.length ≤ 1048576) {k : Int} (hk : 0 ≤ k ∧ k ≤ 549755813888) (t : Nat) :
    Fnc Tryz.prog 47 [(SL.mk t (mks mkLine cLine k l)).av 4 TLine.enc, .int .i64 k] (.int .i64 (k + szL cLine l)) := by
  have hln : l.length ≤ szL cLine l := by
    have : ∀ l : List TLine, l.length ≤ szL cLine l := fun l => by
      induction l with
      | nil => simp
      | cons x l ih => simp [szL, cLine] at ih ⊢; omega
    exact this l
  refine fn_of c47 (by simp [F47]) fun c => ?_
  unfold F47
  simp
  have hlen := mks_len mkLine cLine k l
  refine loop_drop l.length (fun i e H c' => e 0 = (SL.mk t (mks mkLine cLine k l)).av 4 TLine.enc ∧ e 1 = .int .i64 (k + szL cLine (l.take i)) ∧ e 5 = .int .i64 i ∧ H = []) ⟨rfl, by simp [szL], rfl, rfl⟩ ?_
  intro i e H c hi ⟨e0, e1, e5, hH⟩ N hN
  subst hH
  have hg := fun h : i < l.length => mks_get mkLine cLine k l h
  have hst := fun h : i < l.length => szL_step cLine l h
  have hle := szL_le cLine l i
  have hle' := szL_le cLine l (i + 1)
  generalize hjj : k + (szL cLine (l.take i) : Int) = j at e1 hg
  have w1 : IntKind.i64.wrap (j + 1) = j + 1 := wrap64 (by omega) (by omega)
  have w2 : IntKind.i64.wrap (j + 1 + 1) = j + 1 + 1 := wrap64 (by omega) (by omega)
  have w3 : IntKind.i64.wrap (j + 1 + 1 + 1) = j + 1 + 1 + 1 := wrap64 (by omega) (by omega)
  simp [e0, e1, e5, hlen]
  refine ⟨fun h => ?_, fun h => ?_⟩
  · have hg := hg h
    have hst := hst h
    have hx := hw _ (List.getElem_mem h)
    generalize l[i] = x at hg hst hx
    have f0 : (mkLine j x).Seq = j := rfl
    have f1 : (mkLine j x).Owner = j + 1 := rfl
    have f2 : (mkLine j x).Version = j + 1 + 1 := by simp [mkLine]; omega
    have f3 : (mkLine j x).Words = x.Words.marks mkI cI (j + 1 + 1 + 1) := by simp [mkLine]; congr 1; omega
    refine ⟨_, hg, ?_⟩
    simp [e0, e1, e5, h, w1, w2, w3, f0, f1, f2, f3]
    refine ⟨_, hg, ?_⟩
    simp [e0, e1, e5, h, w1, w2, w3, f0, f1, f2, f3]
    refine ⟨_, hg, ?_⟩
    simp [e0, e1, e5, h, w1, w2, w3, f0, f1, f2, f3]
    refine ⟨_, hg, ?_⟩
    simp [e0, e1, e5, h, w1, w2, w3, f0, f1, f2, f3]
    refine call_fn0 (heldI_fn c90 (s := x.Words) hx ⟨by omega, by omega⟩) .int fun _ _ => ?_
    have hp : ¬ (j + 1 + 1 + 1 + (x.Words.list.length : Int) < 0) := by omega
    simp [e0, e1, e5, h, w1, w2, w3, hp]
    refine hN _ _ _ _ h (List.Sublist.refl _) ⟨by simp [upd, e0], ?_, by simp [upd]; exact step64 (by unfold mx; omega) h, rfl⟩
    simp [upd, hst, cLine]; omega
  · have h1 : i = l.length := by omega
    subst h1
    refine fin_plain ⟨?_, rfl⟩
    rw [← hjj]; simp

theorem markLine_con {s : SL TLine} (hz : szL cLine s.list ≤ 8388608) (hw : ∀ x, x ∈ s.list → x.Words.list.length ≤ 1048576) {k : Int} (hk : 0 ≤ k ∧ k ≤ 549755813888) (c : Nat) :
    Con Tryz.prog 41 [s.ref 4, .int .i64 k] (s.wood 4 TLine.encO TLine.inn) c fun r H' _ => r = .int .i64 (k + szL cLine s.list) ∧ H' = (s.marks mkLine cLine k).wood 4 TLine.encO TLine.inn := by
  cases s with
  | nil =>
    have := markLine_nil k c
    simpa [SL.ref, SL.wood, SL.marks, szL] using this
  | mk t l => exact markLine_con1 (l := l) hz hw hk t c
theorem heldLine_fn {s : SL TLine} (hz : szL cLine s.list ≤ 8388608) (hw : ∀ x, x ∈ s.list → x.Words.list.length ≤ 1048576) {k : Int} (hk : 0 ≤ k ∧ k ≤ 549755813888) :
    Fnc Tryz.prog 47 [(s.marks mkLine cLine k).av 4 TLine.enc, .int .i64 k] (.int .i64 (k + szL cLine s.list)) := by
  cases s with
  | nil =>
    have := heldLine_nil k
    simpa [SL.av, SL.marks, szL] using this
  | mk t l => exact heldLine_fn1 (l := l) hz hw hk t
theorem line_first {K : AV → List AObj → Nat → Prop} {C : List AObj} {s : SL TLine} {c : Nat} (hz : szL cLine s.list ≤ 8388608) (hw : ∀ x, x ∈ s.list → x.Words.list.length ≤ 1048576)
    (kk : ∀ c', c ≤ c' → K (.int .i64 (1 + szL cLine s.list)) ((s.marks mkLine cLine 1).wood 4 TLine.encO TLine.inn ++ C) c') : CallW Tryz.prog 41 [s.ref 4, .int .i64 1] (s.wood 4 TLine.encO TLine.inn ++ C) c K :=
  mark_mid (A := []) (markLine_con hz hw ⟨by omega, by omega⟩ c) mkLine_tags TLine.freeO TLine.freeI kk
theorem line_last {K : AV → List AObj → Nat → Prop} {A : List AObj} {s : SL TLine} {c : Nat} (hz : szL cLine s.list ≤ 8388608) (hw : ∀ x, x ∈ s.list → x.Words.list.length ≤ 1048576)
    (kk : ∀ c', c ≤ c' → K (.int .i64 (1 + szL cLine s.list)) (A ++ (s.marks mkLine cLine 1).wood 4 TLine.encO TLine.inn) c') : CallW Tryz.prog 41 [s.ref 4, .int .i64 1] (A ++ s.wood 4 TLine.encO TLine.inn) c K := by
  have := mark_mid (A := A) (C := []) (K := K) (markLine_con hz hw (k := 1) ⟨by omega, by omega⟩ c) mkLine_tags TLine.freeO TLine.freeI (by simpa using kk)
  simpa using this
theorem cloneIO {s : SL Int} (hn : s.list.length ≤ 1048576) (c : Nat) : Con Tryz.prog 103 [s.av 1 encI] [] c fun r O _ => ∃ x : SL Int, r = x.ref 1 ∧ O = x.wood 1 encI noInn ∧ x.list = s.list :=
  clone_con (b := 8) (z := [.int .i64 0]) c103 (by omega) (by unfold mx; omega) c

theorem szLine_bounds {l : List TLine} (h : l.length + szL TLine.sz l ≤ 1048576) : szL cLine l ≤ 8388608 ∧ (∀ x, x ∈ l → x.Words.list.length ≤ 1048576) ∧ l.length ≤ 1048576 := by
  have key : ∀ l : List TLine, szL cLine l ≤ 3 * l.length + szL TLine.sz l := fun l => by
    induction l with
    | nil => simp [szL]
    | cons x l ih =>
      have e : x.sz = x.Words.list.length := rfl
      simp only [szL, List.map_cons, List.sum_cons, List.length_cons, cLine, e] at ih ⊢; omega
  refine ⟨by have := key l; omega, fun x hx => ?_, by omega⟩
  have := szL_mem (sz := TLine.sz) hx
  have e : x.sz = x.Words.list.length := rfl
  omega

theorem line_from {c : Nat} {s : SL TLine} (ht : ∀ t, t ∈ tags (s.wood 4 TLine.encO TLine.inn) → c ≤ t) : From c (s.av 4 TLine.enc) := by
  cases s with
  | nil => exact from_nsl c
  | mk t l =>
    have ht' : ∀ u, u ∈ t :: tags (l.flatMap TLine.inn) → c ≤ u := ht
    refine from_slc (ht' t (List.mem_cons_self ..)) fun row hr a ha => ?_
    obtain ⟨x, hx, rfl⟩ := List.mem_map.1 hr
    simp [TLine.enc] at ha
    rcases ha with rfl | rfl | rfl | rfl
    · simp
    · simp
    · simp
    · refine flat_from encI_flat fun u hu => ht' u (List.mem_cons_of_mem _ ?_)
      obtain ⟨o, ho, rfl⟩ := of_mem_tags hu
      exact mem_tags (List.mem_flatMap.2 ⟨x, hx, ho⟩)
theorem line_tr {f : Nat} {args : List AV} {Q : SL TLine → Prop} (h : ∀ c, Con Tryz.prog f args [] c fun r O _ => ∃ b : SL TLine, r = b.ref 4 ∧ O = b.wood 4 TLine.encO TLine.inn ∧ Q b) :
    Tr Tryz.prog f args fun _ r => ∃ b : SL TLine, r = b.av 4 TLine.enc ∧ Q b :=
  tr_of h fun c r O c' _ ⟨b, h1, h2, h3⟩ ht => ⟨b.av 4 TLine.enc, by rw [h1]; exact view_line (by rw [h2]; exact fun _ h => h), ⟨b, rfl, h3⟩, line_from (by rw [← h2]; exact ht)⟩
theorem line_tr2 {f : Nat} {args : List AV} {Q : SL TLine → List AV → Prop} (hF : ∀ b l, Q b l → ∀ a, a ∈ l → Free a) (h : ∀ c, Con Tryz.prog f args [] c fun r O _ => ∃ (b : SL TLine) (l : List AV), r = .tup (b.ref 4 :: l) ∧ O = b.wood 4 TLine.encO TLine.inn ∧ Q b l) :
    Tr Tryz.prog f args fun _ r => ∃ (b : SL TLine) (l : List AV), r = .tup (b.av 4 TLine.enc :: l) ∧ Q b l :=
  tr_of h fun c r O c' _ ⟨b, l, h1, h2, h3⟩ ht => ⟨.tup (b.av 4 TLine.enc :: l), by rw [h1]; exact view_tup (.cons (view_line (by rw [h2]; exact fun _ h => h)) (Views.refl _ _)), ⟨b, l, rfl, h3⟩,
    from_tup fun a ha => by
      rcases List.mem_cons.1 ha with rfl | ha
      · exact line_from (by rw [← h2]; exact ht)
      · exact (hF b l h3 a ha).from c⟩
theorem view_lmarks {S : List AObj} {s : SL TLine} {k : Int} (hs : ∀ o, o ∈ (s.marks mkLine cLine k).wood 4 TLine.encO TLine.inn → o ∈ S) : View S (s.ref 4) ((s.marks mkLine cLine k).av 4 TLine.enc) := by
  rw [← SL.marks_ref (mk := mkLine) (cnt := cLine) k s]
  exact view_line hs
end A
end Go.Proofs.YtkcilmkienlnoaaGreatDoor

/-
  Servers kept as0 objects: printed by a program (wip/tools/genobj.py). No condition.
-/

namespace Go.Proofs.YtkcilmkienlnoaaGreatDoor
namespace A
set_option linter.unusedVariables false
set_option linter.unusedSimpArgs false
set_option maxRecDepth 100000

theorem call_mid2 {P : Program} {K : AV → List AObj → Nat → Prop} {f : Nat} {l l' : List AV} {a : AObj} {A A2 B C : List AObj} {c : Nat} {Q : AV → List AObj → Nat → Prop} (hf : Con P f l' B c Q) (hv : Views [] l l')
    (k : ∀ r B' c', c ≤ c' → Q r B' c' → tags B' = tags B ∧ Av [] r ∧ (∀ o, o ∈ B' → AvRows [] o) ∧ K r (a :: (A ++ (A2 ++ (B' ++ C)))) c') : CallW P f l (a :: (A ++ (A2 ++ (B ++ C)))) c K := by
  have e : ∀ X : List AObj, a :: (A ++ (A2 ++ (X ++ C))) = a :: ((A ++ A2) ++ (X ++ C)) := fun X => by simp
  rw [e]
  exact call_midr hf hv fun r B' c' hc hq => by rw [← e]; exact k r B' c' hc hq
theorem call_mid3 {P : Program} {K : AV → List AObj → Nat → Prop} {f : Nat} {l l' : List AV} {a : AObj} {A A2 A3 B C : List AObj} {c : Nat} {Q : AV → List AObj → Nat → Prop} (hf : Con P f l' B c Q) (hv : Views [] l l')
    (k : ∀ r B' c', c ≤ c' → Q r B' c' → tags B' = tags B ∧ Av [] r ∧ (∀ o, o ∈ B' → AvRows [] o) ∧ K r (a :: (A ++ (A2 ++ (A3 ++ (B' ++ C))))) c') : CallW P f l (a :: (A ++ (A2 ++ (A3 ++ (B ++ C))))) c K := by
  have e : ∀ X : List AObj, a :: (A ++ (A2 ++ (A3 ++ (X ++ C)))) = a :: ((A ++ (A2 ++ A3)) ++ (X ++ C)) := fun X => by simp
  rw [e]
  exact call_midr hf hv fun r B' c' hc hq => by rw [← e]; exact k r B' c' hc hq
theorem call_mid4 {P : Program} {K : AV → List AObj → Nat → Prop} {f : Nat} {l l' : List AV} {a : AObj} {A A2 A3 A4 B C : List AObj} {c : Nat} {Q : AV → List AObj → Nat → Prop} (hf : Con P f l' B c Q) (hv : Views [] l l')
    (k : ∀ r B' c', c ≤ c' → Q r B' c' → tags B' = tags B ∧ Av [] r ∧ (∀ o, o ∈ B' → AvRows [] o) ∧ K r (a :: (A ++ (A2 ++ (A3 ++ (A4 ++ (B' ++ C)))))) c') : CallW P f l (a :: (A ++ (A2 ++ (A3 ++ (A4 ++ (B ++ C)))))) c K := by
  have e : ∀ X : List AObj, a :: (A ++ (A2 ++ (A3 ++ (A4 ++ (X ++ C))))) = a :: ((A ++ (A2 ++ (A3 ++ A4))) ++ (X ++ C)) := fun X => by simp
  rw [e]
  exact call_midr hf hv fun r B' c' hc hq => by rw [← e]; exact k r B' c' hc hq
theorem TFile.flat : Flat TFile.enc := fun x a ha => by
  simp [TFile.enc] at ha
  rcases ha with rfl | rfl | rfl <;> exact ⟨rfl, fun T => by constructor⟩
theorem toFileSO {s : SL TFile} (h : szFileS s ≤ 1048576) (c : Nat) : Con Tryz.prog 22 [s.av 3 TFile.enc] [] c fun r H' _ => ∃ b : SL TFile, r = b.ref 3 ∧ H' = b.wood 3 TFile.enc noInn ∧ b.list.map TFile.con = s.list.map TFile.con := by
  unfold szFileS at h
  exact toSO_fn (g := 64) (z := [.str [], .str [], .int .i64 0]) (bytes := 40) c22 rfl (fun _ => rfl) (fun _ => rfl) (fun x a ha => (TFile.flat x a ha).2) (fun x o ho => by cases ho) (by omega) (by omega)
    (fun x hx c => (TFile.to_fn (by have := szL_mem (sz := TFile.sz) hx; omega) c).mono fun r H' c' _ ⟨hH, ⟨b, hr, hb⟩, _⟩ => ⟨b, hr, hH, hb⟩) c
def mkFile (k : Int) (x : TFile) : TFile := ⟨mtext k, mtext (k + 1), k + 1 + 1⟩
def cFile (x : TFile) : Nat := 3
theorem markFile_nil (k : Int) : Fnc Tryz.prog 40 [.nsl, .int .i64 k] (.int .i64 k) := by
  refine fn_of c40 (by simp [F40]) fun c => ?_
  unfold F40
  simp
  refine loop_drop 0 (fun i e H c' => e 0 = .nsl ∧ e 1 = .int .i64 k ∧ e 5 = .int .i64 0 ∧ H = []) ⟨rfl, rfl, rfl, rfl⟩ ?_
  intro i e H c hi ⟨e0, e1, e5, hH⟩ N hN
  subst hH
  simp [e0, e1, e5]
  exact fin_plain ⟨rfl, rfl⟩
theorem szL_cFile (l : List TFile) : l.length ≤ szL cFile l := by
  induction l with
  | nil => simp
  | cons x l ih => simp [szL, cFile] at ih ⊢; omega
theorem szL_eFile (l : List TFile) : szL cFile l = 3 * l.length := by
  show szL (fun _ => 3) l = _
  rw [szL_const]
theorem markFile_con1 {l : List TFile} (hz : szL cFile l ≤ 16777216) {k : Int} (hk : 0 ≤ k ∧ k ≤ 1099511627776) (t c : Nat) :
    Con Tryz.prog 40 [.ref 0 t 3 l.length, .int .i64 k] ([⟨false, t, 3, l.map TFile.enc⟩]) c fun r H' _ => r = .int .i64 (k + szL cFile l) ∧ H' = [⟨false, t, 3, (mks mkFile cFile k l).map TFile.enc⟩] := by
  have hln := szL_cFile l
  refine con_of c40 (by simp [F40]) ?_
  unfold F40
  simp
  refine loop_drop l.length (fun i e H c' => e 0 = .ref 0 t 3 l.length ∧ e 1 = .int .i64 (k + szL cFile (l.take i)) ∧ e 5 = .int .i64 i ∧ H = [⟨false, t, 3, (mixed mkFile cFile k l i).map TFile.enc⟩]) ⟨rfl, by simp [szL], rfl, by rw [mixed_zero]⟩ ?_
  intro i e H c hi ⟨e0, e1, e5, hH⟩ N hN
  subst hH
  have hs := mixed_set mkFile cFile k l (i := i)
  have hst := fun h : i < l.length => szL_step cFile l h
  have hle := szL_le cFile l i
  have hle1 := szL_le cFile l (i + 1)
  generalize hjj : k + (szL cFile (l.take i) : Int) = j at e1 hs
  simp [e0, e1, e5]
  refine ⟨fun h => ?_, fun h => ?_⟩
  · have hs := hs h
    have hst := hst h
    have hg := mixed_get mkFile cFile k l h
    have hx := szL_mem (sz := cFile) (List.getElem_mem h)
    generalize l[i] = x at hs hst hg hx
    simp only [cFile] at hx hst
    have w0 : IntKind.i64.wrap (j + 1) = j + 1 := wrap64 (by omega) (by omega)
    have w1 : IntKind.i64.wrap (j + 1 + 1) = j + 1 + 1 := wrap64 (by omega) (by omega)
    have w2 : IntKind.i64.wrap (j + 1 + 1 + 1) = j + 1 + 1 + 1 := wrap64 (by omega) (by omega)
    refine call_fn0 (mtext_fn (by omega)) .str fun _ _ => ?_
    simp [e0, e1, e5, h]
    refine ⟨_, hg, ?_⟩
    simp [e0, e1, e5, h, mixed_len, w0, w1, w2, putA, TFile.enc]
    refine call_fn0 (mtext_fn (by omega)) .str fun _ _ => ?_
    simp [e0, e1, e5, h, mixed_len, w0, w1, w2, putA, TFile.enc]
    refine hN _ _ _ _ h (List.Sublist.refl _) ⟨by simp [upd, e0], ?_, by simp [upd]; exact step64 (by unfold mx; omega) h, ?_⟩
    · simp [upd, w0, w1, w2, hst]; omega
    · rw [← hs, List.map_set]
      simp [mkFile, TFile.enc, w0, w1, w2]
  · have h1 : i = l.length := by omega
    subst h1
    refine fin_all ⟨?_, ?_⟩
    · rw [← hjj]; simp
    · rw [mixed_all]
theorem markFile_con {s : SL TFile} (hz : szL cFile s.list ≤ 16777216) {k : Int} (hk : 0 ≤ k ∧ k ≤ 1099511627776) (c : Nat) :
    Con Tryz.prog 40 [s.ref 3, .int .i64 k] (s.wood 3 TFile.enc noInn) c fun r H' _ => r = .int .i64 (k + szL cFile s.list) ∧ H' = (s.marks mkFile cFile k).wood 3 TFile.enc noInn := by
  cases s with
  | nil =>
    have := markFile_nil k c
    simpa [SL.ref, SL.wood, SL.marks, szL] using this
  | mk t l =>
    have := markFile_con1 (l := l) hz hk t c
    simpa [SL.ref, SL.wood, SL.marks, wood_flat] using this
theorem TSession.flat : Flat TSession.enc := fun x a ha => by
  simp [TSession.enc] at ha
  rcases ha with rfl | rfl | rfl | rfl <;> exact ⟨rfl, fun T => by constructor⟩
theorem toSessionSO {s : SL TSession} (h : szSessionS s ≤ 1048576) (c : Nat) : Con Tryz.prog 24 [s.av 4 TSession.enc] [] c fun r H' _ => ∃ b : SL TSession, r = b.ref 4 ∧ H' = b.wood 4 TSession.enc noInn ∧ b.list.map TSession.con = s.list.map TSession.con := by
  unfold szSessionS at h
  exact toSO_fn (g := 66) (z := [.str [], .str [], .int .i64 0, .int .i64 0]) (bytes := 48) c24 rfl (fun _ => rfl) (fun _ => rfl) (fun x a ha => (TSession.flat x a ha).2) (fun x o ho => by cases ho) (by omega) (by omega)
    (fun x hx c => (TSession.to_fn (by have := szL_mem (sz := TSession.sz) hx; omega) c).mono fun r H' c' _ ⟨hH, ⟨b, hr, hb⟩, _⟩ => ⟨b, hr, hH, hb⟩) c
def mkSession (k : Int) (x : TSession) : TSession := ⟨mtext k, mtext (k + 1), k + 1 + 1, k + 1 + 1 + 1⟩
def cSession (x : TSession) : Nat := 4
theorem markSession_nil (k : Int) : Fnc Tryz.prog 42 [.nsl, .int .i64 k] (.int .i64 k) := by
  refine fn_of c42 (by simp [F42]) fun c => ?_
  unfold F42
  simp
  refine loop_drop 0 (fun i e H c' => e 0 = .nsl ∧ e 1 = .int .i64 k ∧ e 5 = .int .i64 0 ∧ H = []) ⟨rfl, rfl, rfl, rfl⟩ ?_
  intro i e H c hi ⟨e0, e1, e5, hH⟩ N hN
  subst hH
  simp [e0, e1, e5]
  exact fin_plain ⟨rfl, rfl⟩
theorem szL_cSession (l : List TSession) : l.length ≤ szL cSession l := by
  induction l with
  | nil => simp
  | cons x l ih => simp [szL, cSession] at ih ⊢; omega
theorem szL_eSession (l : List TSession) : szL cSession l = 4 * l.length := by
  show szL (fun _ => 4) l = _
  rw [szL_const]
theorem markSession_con1 {l : List TSession} (hz : szL cSession l ≤ 16777216) {k : Int} (hk : 0 ≤ k ∧ k ≤ 1099511627776) (t c : Nat) :
    Con Tryz.prog 42 [.ref 0 t 4 l.length, .int .i64 k] ([⟨false, t, 4, l.map TSession.enc⟩]) c fun r H' _ => r = .int .i64 (k + szL cSession l) ∧ H' = [⟨false, t, 4, (mks mkSession cSession k l).map TSession.enc⟩] := by
  have hln := szL_cSession l
  refine con_of c42 (by simp [F42]) ?_
  unfold F42
  simp
  refine loop_drop l.length (fun i e H c' => e 0 = .ref 0 t 4 l.length ∧ e 1 = .int .i64 (k + szL cSession (l.take i)) ∧ e 5 = .int .i64 i ∧ H = [⟨false, t, 4, (mixed mkSession cSession k l i).map TSession.enc⟩]) ⟨rfl, by simp [szL], rfl, by rw [mixed_zero]⟩ ?_
  intro i e H c hi ⟨e0, e1, e5, hH⟩ N hN
  subst hH
  have hs := mixed_set mkSession cSession k l (i := i)
  have hst := fun h : i < l.length => szL_step cSession l h
  have hle := szL_le cSession l i
  have hle1 := szL_le cSession l (i + 1)
  generalize hjj : k + (szL cSession (l.take i) : Int) = j at e1 hs
  simp [e0, e1, e5]
  refine ⟨fun h => ?_, fun h => ?_⟩
  · have hs := hs h
    have hst := hst h
    have hg := mixed_get mkSession cSession k l h
    have hx := szL_mem (sz := cSession) (List.getElem_mem h)
    generalize l[i] = x at hs hst hg hx
    simp only [cSession] at hx hst
    have w0 : IntKind.i64.wrap (j + 1) = j + 1 := wrap64 (by omega) (by omega)
    have w1 : IntKind.i64.wrap (j + 1 + 1) = j + 1 + 1 := wrap64 (by omega) (by omega)
    have w2 : IntKind.i64.wrap (j + 1 + 1 + 1) = j + 1 + 1 + 1 := wrap64 (by omega) (by omega)
    have w3 : IntKind.i64.wrap (j + 1 + 1 + 1 + 1) = j + 1 + 1 + 1 + 1 := wrap64 (by omega) (by omega)
    refine call_fn0 (mtext_fn (by omega)) .str fun _ _ => ?_
    simp [e0, e1, e5, h]
    refine ⟨_, hg, ?_⟩
    simp [e0, e1, e5, h, mixed_len, w0, w1, w2, w3, putA, TSession.enc]
    refine call_fn0 (mtext_fn (by omega)) .str fun _ _ => ?_
    simp [e0, e1, e5, h, mixed_len, w0, w1, w2, w3, putA, TSession.enc]
    refine hN _ _ _ _ h (List.Sublist.refl _) ⟨by simp [upd, e0], ?_, by simp [upd]; exact step64 (by unfold mx; omega) h, ?_⟩
    · simp [upd, w0, w1, w2, w3, hst]; omega
    · rw [← hs, List.map_set]
      simp [mkSession, TSession.enc, w0, w1, w2, w3]
  · have h1 : i = l.length := by omega
    subst h1
    refine fin_all ⟨?_, ?_⟩
    · rw [← hjj]; simp
    · rw [mixed_all]
theorem markSession_con {s : SL TSession} (hz : szL cSession s.list ≤ 16777216) {k : Int} (hk : 0 ≤ k ∧ k ≤ 1099511627776) (c : Nat) :
    Con Tryz.prog 42 [s.ref 4, .int .i64 k] (s.wood 4 TSession.enc noInn) c fun r H' _ => r = .int .i64 (k + szL cSession s.list) ∧ H' = (s.marks mkSession cSession k).wood 4 TSession.enc noInn := by
  cases s with
  | nil =>
    have := markSession_nil k c
    simpa [SL.ref, SL.wood, SL.marks, szL] using this
  | mk t l =>
    have := markSession_con1 (l := l) hz hk t c
    simpa [SL.ref, SL.wood, SL.marks, wood_flat] using this
theorem TPair.flat : Flat TPair.enc := fun x a ha => by
  simp [TPair.enc] at ha
  rcases ha with rfl | rfl <;> exact ⟨rfl, fun T => by constructor⟩
theorem toPairSO {s : SL TPair} (h : szPairS s ≤ 1048576) (c : Nat) : Con Tryz.prog 115 [s.av 2 TPair.enc] [] c fun r H' _ => ∃ b : SL TPair, r = b.ref 2 ∧ H' = b.wood 2 TPair.enc noInn ∧ b.list.map TPair.con = s.list.map TPair.con := by
  unfold szPairS at h
  exact toSO_fn (g := 129) (z := [.str [], .str []]) (bytes := 32) c115 rfl (fun _ => rfl) (fun _ => rfl) (fun x a ha => (TPair.flat x a ha).2) (fun x o ho => by cases ho) (by omega) (by omega)
    (fun x hx c => (TPair.to_fn (by have := szL_mem (sz := TPair.sz) hx; omega) c).mono fun r H' c' _ ⟨hH, ⟨b, hr, hb⟩, _⟩ => ⟨b, hr, hH, hb⟩) c
def mkPair (k : Int) (x : TPair) : TPair := ⟨mtext k, mtext (k + 1)⟩
def cPair (x : TPair) : Nat := 2
theorem markPair_nil (k : Int) : Fnc Tryz.prog 88 [.nsl, .int .i64 k] (.int .i64 k) := by
  refine fn_of c88 (by simp [F88]) fun c => ?_
  unfold F88
  simp
  refine loop_drop 0 (fun i e H c' => e 0 = .nsl ∧ e 1 = .int .i64 k ∧ e 5 = .int .i64 0 ∧ H = []) ⟨rfl, rfl, rfl, rfl⟩ ?_
  intro i e H c hi ⟨e0, e1, e5, hH⟩ N hN
  subst hH
  simp [e0, e1, e5]
  exact fin_plain ⟨rfl, rfl⟩
theorem szL_cPair (l : List TPair) : l.length ≤ szL cPair l := by
  induction l with
  | nil => simp
  | cons x l ih => simp [szL, cPair] at ih ⊢; omega
theorem szL_ePair (l : List TPair) : szL cPair l = 2 * l.length := by
  show szL (fun _ => 2) l = _
  rw [szL_const]
theorem markPair_con1 {l : List TPair} (hz : szL cPair l ≤ 16777216) {k : Int} (hk : 0 ≤ k ∧ k ≤ 1099511627776) (t c : Nat) :
    Con Tryz.prog 88 [.ref 0 t 2 l.length, .int .i64 k] ([⟨false, t, 2, l.map TPair.enc⟩]) c fun r H' _ => r = .int .i64 (k + szL cPair l) ∧ H' = [⟨false, t, 2, (mks mkPair cPair k l).map TPair.enc⟩] := by
  have hln := szL_cPair l
  refine con_of c88 (by simp [F88]) ?_
  unfold F88
  simp
  refine loop_drop l.length (fun i e H c' => e 0 = .ref 0 t 2 l.length ∧ e 1 = .int .i64 (k + szL cPair (l.take i)) ∧ e 5 = .int .i64 i ∧ H = [⟨false, t, 2, (mixed mkPair cPair k l i).map TPair.enc⟩]) ⟨rfl, by simp [szL], rfl, by rw [mixed_zero]⟩ ?_
  intro i e H c hi ⟨e0, e1, e5, hH⟩ N hN
  subst hH
  have hs := mixed_set mkPair cPair k l (i := i)
  have hst := fun h : i < l.length => szL_step cPair l h
  have hle := szL_le cPair l i
  have hle1 := szL_le cPair l (i + 1)
  generalize hjj : k + (szL cPair (l.take i) : Int) = j at e1 hs
  simp [e0, e1, e5]
  refine ⟨fun h => ?_, fun h => ?_⟩
  · have hs := hs h
    have hst := hst h
    have hg := mixed_get mkPair cPair k l h
    have hx := szL_mem (sz := cPair) (List.getElem_mem h)
    generalize l[i] = x at hs hst hg hx
    simp only [cPair] at hx hst
    have w0 : IntKind.i64.wrap (j + 1) = j + 1 := wrap64 (by omega) (by omega)
    have w1 : IntKind.i64.wrap (j + 1 + 1) = j + 1 + 1 := wrap64 (by omega) (by omega)
    refine call_fn0 (mtext_fn (by omega)) .str fun _ _ => ?_
    simp [e0, e1, e5, h]
    refine ⟨_, hg, ?_⟩
    simp [e0, e1, e5, h, mixed_len, w0, w1, putA, TPair.enc]
    refine call_fn0 (mtext_fn (by omega)) .str fun _ _ => ?_
    simp [e0, e1, e5, h, mixed_len, w0, w1, putA, TPair.enc]
    refine hN _ _ _ _ h (List.Sublist.refl _) ⟨by simp [upd, e0], ?_, by simp [upd]; exact step64 (by unfold mx; omega) h, ?_⟩
    · simp [upd, w0, w1, hst]; omega
    · rw [← hs, List.map_set]
      simp [mkPair, TPair.enc, w0, w1]
  · have h1 : i = l.length := by omega
    subst h1
    refine fin_all ⟨?_, ?_⟩
    · rw [← hjj]; simp
    · rw [mixed_all]
theorem markPair_con {s : SL TPair} (hz : szL cPair s.list ≤ 16777216) {k : Int} (hk : 0 ≤ k ∧ k ≤ 1099511627776) (c : Nat) :
    Con Tryz.prog 88 [s.ref 2, .int .i64 k] (s.wood 2 TPair.enc noInn) c fun r H' _ => r = .int .i64 (k + szL cPair s.list) ∧ H' = (s.marks mkPair cPair k).wood 2 TPair.enc noInn := by
  cases s with
  | nil =>
    have := markPair_nil k c
    simpa [SL.ref, SL.wood, SL.marks, szL] using this
  | mk t l =>
    have := markPair_con1 (l := l) hz hk t c
    simpa [SL.ref, SL.wood, SL.marks, wood_flat] using this
theorem THeader.flat : Flat THeader.enc := fun x a ha => by
  simp [THeader.enc] at ha
  rcases ha with rfl | rfl <;> exact ⟨rfl, fun T => by constructor⟩
theorem toHeaderSO {s : SL THeader} (h : szHeaderS s ≤ 1048576) (c : Nat) : Con Tryz.prog 116 [s.av 2 THeader.enc] [] c fun r H' _ => ∃ b : SL THeader, r = b.ref 2 ∧ H' = b.wood 2 THeader.enc noInn ∧ b.list.map THeader.con = s.list.map THeader.con := by
  unfold szHeaderS at h
  exact toSO_fn (g := 130) (z := [.str [], .str []]) (bytes := 32) c116 rfl (fun _ => rfl) (fun _ => rfl) (fun x a ha => (THeader.flat x a ha).2) (fun x o ho => by cases ho) (by omega) (by omega)
    (fun x hx c => (THeader.to_fn (by have := szL_mem (sz := THeader.sz) hx; omega) c).mono fun r H' c' _ ⟨hH, ⟨b, hr, hb⟩, _⟩ => ⟨b, hr, hH, hb⟩) c
def mkHeader (k : Int) (x : THeader) : THeader := ⟨mtext k, mtext (k + 1)⟩
def cHeader (x : THeader) : Nat := 2
theorem markHeader_nil (k : Int) : Fnc Tryz.prog 89 [.nsl, .int .i64 k] (.int .i64 k) := by
  refine fn_of c89 (by simp [F89]) fun c => ?_
  unfold F89
  simp
  refine loop_drop 0 (fun i e H c' => e 0 = .nsl ∧ e 1 = .int .i64 k ∧ e 5 = .int .i64 0 ∧ H = []) ⟨rfl, rfl, rfl, rfl⟩ ?_
  intro i e H c hi ⟨e0, e1, e5, hH⟩ N hN
  subst hH
  simp [e0, e1, e5]
  exact fin_plain ⟨rfl, rfl⟩
theorem szL_cHeader (l : List THeader) : l.length ≤ szL cHeader l := by
  induction l with
  | nil => simp
  | cons x l ih => simp [szL, cHeader] at ih ⊢; omega
theorem szL_eHeader (l : List THeader) : szL cHeader l = 2 * l.length := by
  show szL (fun _ => 2) l = _
  rw [szL_const]
theorem markHeader_con1 {l : List THeader} (hz : szL cHeader l ≤ 16777216) {k : Int} (hk : 0 ≤ k ∧ k ≤ 1099511627776) (t c : Nat) :
    Con Tryz.prog 89 [.ref 0 t 2 l.length, .int .i64 k] ([⟨false, t, 2, l.map THeader.enc⟩]) c fun r H' _ => r = .int .i64 (k + szL cHeader l) ∧ H' = [⟨false, t, 2, (mks mkHeader cHeader k l).map THeader.enc⟩] := by
  have hln := szL_cHeader l
  refine con_of c89 (by simp [F89]) ?_
  unfold F89
  simp
  refine loop_drop l.length (fun i e H c' => e 0 = .ref 0 t 2 l.length ∧ e 1 = .int .i64 (k + szL cHeader (l.take i)) ∧ e 5 = .int .i64 i ∧ H = [⟨false, t, 2, (mixed mkHeader cHeader k l i).map THeader.enc⟩]) ⟨rfl, by simp [szL], rfl, by rw [mixed_zero]⟩ ?_
  intro i e H c hi ⟨e0, e1, e5, hH⟩ N hN
  subst hH
  have hs := mixed_set mkHeader cHeader k l (i := i)
  have hst := fun h : i < l.length => szL_step cHeader l h
  have hle := szL_le cHeader l i
  have hle1 := szL_le cHeader l (i + 1)
  generalize hjj : k + (szL cHeader (l.take i) : Int) = j at e1 hs
  simp [e0, e1, e5]
  refine ⟨fun h => ?_, fun h => ?_⟩
  · have hs := hs h
    have hst := hst h
    have hg := mixed_get mkHeader cHeader k l h
    have hx := szL_mem (sz := cHeader) (List.getElem_mem h)
    generalize l[i] = x at hs hst hg hx
    simp only [cHeader] at hx hst
    have w0 : IntKind.i64.wrap (j + 1) = j + 1 := wrap64 (by omega) (by omega)
    have w1 : IntKind.i64.wrap (j + 1 + 1) = j + 1 + 1 := wrap64 (by omega) (by omega)
    refine call_fn0 (mtext_fn (by omega)) .str fun _ _ => ?_
    simp [e0, e1, e5, h]
    refine ⟨_, hg, ?_⟩
    simp [e0, e1, e5, h, mixed_len, w0, w1, putA, THeader.enc]
    refine call_fn0 (mtext_fn (by omega)) .str fun _ _ => ?_
    simp [e0, e1, e5, h, mixed_len, w0, w1, putA, THeader.enc]
    refine hN _ _ _ _ h (List.Sublist.refl _) ⟨by simp [upd, e0], ?_, by simp [upd]; exact step64 (by unfold mx; omega) h, ?_⟩
    · simp [upd, w0, w1, hst]; omega
    · rw [← hs, List.map_set]
      simp [mkHeader, THeader.enc, w0, w1]
  · have h1 : i = l.length := by omega
    subst h1
    refine fin_all ⟨?_, ?_⟩
    · rw [← hjj]; simp
    · rw [mixed_all]
theorem markHeader_con {s : SL THeader} (hz : szL cHeader s.list ≤ 16777216) {k : Int} (hk : 0 ≤ k ∧ k ≤ 1099511627776) (c : Nat) :
    Con Tryz.prog 89 [s.ref 2, .int .i64 k] (s.wood 2 THeader.enc noInn) c fun r H' _ => r = .int .i64 (k + szL cHeader s.list) ∧ H' = (s.marks mkHeader cHeader k).wood 2 THeader.enc noInn := by
  cases s with
  | nil =>
    have := markHeader_nil k c
    simpa [SL.ref, SL.wood, SL.marks, szL] using this
  | mk t l =>
    have := markHeader_con1 (l := l) hz hk t c
    simpa [SL.ref, SL.wood, SL.marks, wood_flat] using this
def TRequest.encO (s : TRequest) : List AV := [.str s.Path, s.Query.ref 2, s.Cookies.ref 2]
def TRequest.inn (s : TRequest) : List AObj := s.Query.wood 2 TPair.enc noInn ++ (s.Cookies.wood 2 TPair.enc noInn)
@[simp] theorem TRequest.lenO (s : TRequest) : s.encO.length = 3 := (rfl)
@[simp] theorem TRequest.allO (s : TRequest) : s.encO.take 3 = s.encO := (rfl)
@[simp] theorem TRequest.o0 (s : TRequest) (K : AV → Prop) : getW s.encO 0 K = K (.str s.Path) := by simp [TRequest.encO]
@[simp] theorem TRequest.o1 (s : TRequest) (K : AV → Prop) : getW s.encO 1 K = K (s.Query.ref 2) := by simp [TRequest.encO]
@[simp] theorem TRequest.o2 (s : TRequest) (K : AV → Prop) : getW s.encO 2 K = K (s.Cookies.ref 2) := by simp [TRequest.encO]
theorem TRequest.freeO : ∀ (x : TRequest) a, a ∈ x.encO → Free a := fun x a ha => by
  simp [TRequest.encO] at ha
  rcases ha with rfl | rfl | rfl
  · exact free_str _
  · exact free_ref _ _
  · exact free_ref _ _
theorem TRequest.freeI : ∀ (x : TRequest) o, o ∈ x.inn → ∀ T, AvRows T o := fun x o ho => by
  simp only [TRequest.inn, List.mem_append] at ho
  rcases ho with ho | ho
  · exact flat_free TPair.flat _ _ o ho
  · exact flat_free TPair.flat _ _ o ho
theorem TRequest.viewO {S : List AObj} (x : TRequest) (h : ∀ o, o ∈ x.inn → o ∈ S) : ∀ (j : Nat) (a a' : AV), x.encO[j]? = some a → x.enc[j]? = some a' → View S a a' := fun j a a' h1 h2 => by
  match j, h1, h2 with
  | 0, h1, h2 => simp [TRequest.encO] at h1; simp [TRequest.enc] at h2; subst h1; subst h2; exact .refl _
  | 1, h1, h2 => simp [TRequest.encO] at h1; simp [TRequest.enc] at h2; subst h1; subst h2; exact view_flat (fun o ho => h o (by simp [TRequest.inn, ho])) TPair.flat.cells
  | 2, h1, h2 => simp [TRequest.encO] at h1; simp [TRequest.enc] at h2; subst h1; subst h2; exact view_flat (fun o ho => h o (by simp [TRequest.inn, ho])) TPair.flat.cells
  | j + 3, h1, h2 => simp [TRequest.encO] at h1
theorem view_ORequest {S : List AObj} {s : SL TRequest} (hs : ∀ o, o ∈ s.wood 3 TRequest.encO TRequest.inn → o ∈ S) : View S (s.ref 3) (s.av 3 TRequest.enc) :=
  view_wood hs (fun x => TRequest.cells x) (fun _ => rfl) fun x h => TRequest.viewO x h
theorem view_ARequest {S : List AObj} {s : TRequest} (hs : ∀ o, o ∈ s.inn → o ∈ S) : View S (.agg s.encO) (.agg s.enc) :=
  .agg rfl (fun j a ha => TRequest.cells s a (List.mem_of_getElem? ha)) (TRequest.viewO s hs)
theorem toRequestO {x : TRequest} (h : x.sz ≤ 1048576) (c : Nat) : Con Tryz.prog 100 [.agg x.enc] [] c fun r O _ => ∃ b : TRequest, r = .agg b.encO ∧ O = b.inn ∧ b.con = x.con := by
  simp only [TRequest.sz] at h
  refine con_of c100 (by simp [F100]) ?_
  unfold F100
  simp [putA]
  refine call_new (toPairSO (by omega) _) (Views.refl _ _) fun r1 O1 c1 hc1 ⟨b1, hr, hO, q1⟩ _ _ => ?_
  subst hr; subst hO
  refine ⟨_, .refl _, free_ref _ _ _, fun o ho => flat_free TPair.flat _ _ o ho _, ?_⟩
  simp [putA]
  refine call_new (toPairSO (by omega) _) (Views.refl _ _) fun r2 O2 c2 hc2 ⟨b2, hr, hO, q2⟩ _ _ => ?_
  subst hr; subst hO
  refine ⟨_, .refl _, free_ref _ _ _, fun o ho => flat_free TPair.flat _ _ o ho _, ?_⟩
  simp [putA]
  refine fin_sub (Hk := b1.wood 2 TPair.enc noInn ++ (b2.wood 2 TPair.enc noInn)) ?_ (.refl _) ⟨⟨x.Path, b1, b2⟩, rfl, by simp [TRequest.inn], by simp [TRequest.con, SL.con, SL.pcon, q1, q2]⟩
  exact ((List.Sublist.refl _).cons _).cons _ |>.cons _
def TResponse.encO (s : TResponse) : List AV := [.int .i64 s.Code, s.Headers.ref 2, .str s.Body]
def TResponse.inn (s : TResponse) : List AObj := s.Headers.wood 2 THeader.enc noInn
@[simp] theorem TResponse.lenO (s : TResponse) : s.encO.length = 3 := (rfl)
@[simp] theorem TResponse.allO (s : TResponse) : s.encO.take 3 = s.encO := (rfl)
@[simp] theorem TResponse.o0 (s : TResponse) (K : AV → Prop) : getW s.encO 0 K = K (.int .i64 s.Code) := by simp [TResponse.encO]
@[simp] theorem TResponse.o1 (s : TResponse) (K : AV → Prop) : getW s.encO 1 K = K (s.Headers.ref 2) := by simp [TResponse.encO]
@[simp] theorem TResponse.o2 (s : TResponse) (K : AV → Prop) : getW s.encO 2 K = K (.str s.Body) := by simp [TResponse.encO]
theorem TResponse.freeO : ∀ (x : TResponse) a, a ∈ x.encO → Free a := fun x a ha => by
  simp [TResponse.encO] at ha
  rcases ha with rfl | rfl | rfl
  · exact free_int _ _
  · exact free_ref _ _
  · exact free_str _
theorem TResponse.freeI : ∀ (x : TResponse) o, o ∈ x.inn → ∀ T, AvRows T o := fun x o ho => by
  exact flat_free THeader.flat _ _ o ho
theorem TResponse.viewO {S : List AObj} (x : TResponse) (h : ∀ o, o ∈ x.inn → o ∈ S) : ∀ (j : Nat) (a a' : AV), x.encO[j]? = some a → x.enc[j]? = some a' → View S a a' := fun j a a' h1 h2 => by
  match j, h1, h2 with
  | 0, h1, h2 => simp [TResponse.encO] at h1; simp [TResponse.enc] at h2; subst h1; subst h2; exact .refl _
  | 1, h1, h2 => simp [TResponse.encO] at h1; simp [TResponse.enc] at h2; subst h1; subst h2; exact view_flat (fun o ho => h o (by simp [TResponse.inn, ho])) THeader.flat.cells
  | 2, h1, h2 => simp [TResponse.encO] at h1; simp [TResponse.enc] at h2; subst h1; subst h2; exact .refl _
  | j + 3, h1, h2 => simp [TResponse.encO] at h1
theorem view_OResponse {S : List AObj} {s : SL TResponse} (hs : ∀ o, o ∈ s.wood 3 TResponse.encO TResponse.inn → o ∈ S) : View S (s.ref 3) (s.av 3 TResponse.enc) :=
  view_wood hs (fun x => TResponse.cells x) (fun _ => rfl) fun x h => TResponse.viewO x h
theorem view_AResponse {S : List AObj} {s : TResponse} (hs : ∀ o, o ∈ s.inn → o ∈ S) : View S (.agg s.encO) (.agg s.enc) :=
  .agg rfl (fun j a ha => TResponse.cells s a (List.mem_of_getElem? ha)) (TResponse.viewO s hs)
theorem toResponseO {x : TResponse} (h : x.sz ≤ 1048576) (c : Nat) : Con Tryz.prog 101 [.agg x.enc] [] c fun r O _ => ∃ b : TResponse, r = .agg b.encO ∧ O = b.inn ∧ b.con = x.con := by
  simp only [TResponse.sz] at h
  refine con_of c101 (by simp [F101]) ?_
  unfold F101
  simp [putA]
  refine call_new (toHeaderSO (by omega) _) (Views.refl _ _) fun r1 O1 c1 hc1 ⟨b1, hr, hO, q1⟩ _ _ => ?_
  subst hr; subst hO
  refine ⟨_, .refl _, free_ref _ _ _, fun o ho => flat_free THeader.flat _ _ o ho _, ?_⟩
  simp [putA]
  refine fin_sub (Hk := b1.wood 2 THeader.enc noInn) ?_ (.refl _) ⟨⟨x.Code, b1, x.Body⟩, rfl, by simp [TResponse.inn], by simp [TResponse.con, SL.con, SL.pcon, q1]⟩
  exact ((List.Sublist.refl _).cons _).cons _ |>.cons _
def TJob.encO (s : TJob) : List AV := [.int .i64 s.Id, .str s.Request.Path, s.Request.Query.ref 2, s.Request.Cookies.ref 2, .str s.Session]
def TJob.inn (s : TJob) : List AObj := s.Request.Query.wood 2 TPair.enc noInn ++ (s.Request.Cookies.wood 2 TPair.enc noInn)
@[simp] theorem TJob.lenO (s : TJob) : s.encO.length = 5 := (rfl)
@[simp] theorem TJob.allO (s : TJob) : s.encO.take 5 = s.encO := (rfl)
@[simp] theorem TJob.o0 (s : TJob) (K : AV → Prop) : getW s.encO 0 K = K (.int .i64 s.Id) := by simp [TJob.encO]
@[simp] theorem TJob.o1 (s : TJob) (K : AV → Prop) : getW s.encO 1 K = K (.str s.Request.Path) := by simp [TJob.encO]
@[simp] theorem TJob.o2 (s : TJob) (K : AV → Prop) : getW s.encO 2 K = K (s.Request.Query.ref 2) := by simp [TJob.encO]
@[simp] theorem TJob.o3 (s : TJob) (K : AV → Prop) : getW s.encO 3 K = K (s.Request.Cookies.ref 2) := by simp [TJob.encO]
@[simp] theorem TJob.o4 (s : TJob) (K : AV → Prop) : getW s.encO 4 K = K (.str s.Session) := by simp [TJob.encO]
theorem TJob.freeO : ∀ (x : TJob) a, a ∈ x.encO → Free a := fun x a ha => by
  simp [TJob.encO] at ha
  rcases ha with rfl | rfl | rfl | rfl | rfl
  · exact free_int _ _
  · exact free_str _
  · exact free_ref _ _
  · exact free_ref _ _
  · exact free_str _
theorem TJob.freeI : ∀ (x : TJob) o, o ∈ x.inn → ∀ T, AvRows T o := fun x o ho => by
  simp only [TJob.inn, List.mem_append] at ho
  rcases ho with ho | ho
  · exact flat_free TPair.flat _ _ o ho
  · exact flat_free TPair.flat _ _ o ho
theorem TJob.viewO {S : List AObj} (x : TJob) (h : ∀ o, o ∈ x.inn → o ∈ S) : ∀ (j : Nat) (a a' : AV), x.encO[j]? = some a → x.enc[j]? = some a' → View S a a' := fun j a a' h1 h2 => by
  match j, h1, h2 with
  | 0, h1, h2 => simp [TJob.encO] at h1; simp [TJob.enc] at h2; subst h1; subst h2; exact .refl _
  | 1, h1, h2 => simp [TJob.encO] at h1; simp [TJob.enc] at h2; subst h1; subst h2; exact .refl _
  | 2, h1, h2 => simp [TJob.encO] at h1; simp [TJob.enc] at h2; subst h1; subst h2; exact view_flat (fun o ho => h o (by simp [TJob.inn, ho])) TPair.flat.cells
  | 3, h1, h2 => simp [TJob.encO] at h1; simp [TJob.enc] at h2; subst h1; subst h2; exact view_flat (fun o ho => h o (by simp [TJob.inn, ho])) TPair.flat.cells
  | 4, h1, h2 => simp [TJob.encO] at h1; simp [TJob.enc] at h2; subst h1; subst h2; exact .refl _
  | j + 5, h1, h2 => simp [TJob.encO] at h1
theorem view_OJob {S : List AObj} {s : SL TJob} (hs : ∀ o, o ∈ s.wood 5 TJob.encO TJob.inn → o ∈ S) : View S (s.ref 5) (s.av 5 TJob.enc) :=
  view_wood hs (fun x => TJob.cells x) (fun _ => rfl) fun x h => TJob.viewO x h
theorem view_AJob {S : List AObj} {s : TJob} (hs : ∀ o, o ∈ s.inn → o ∈ S) : View S (.agg s.encO) (.agg s.enc) :=
  .agg rfl (fun j a ha => TJob.cells s a (List.mem_of_getElem? ha)) (TJob.viewO s hs)
theorem toJobO {x : TJob} (h : x.sz ≤ 1048576) (c : Nat) : Con Tryz.prog 67 [.agg x.enc] [] c fun r O _ => ∃ b : TJob, r = .agg b.encO ∧ O = b.inn ∧ b.con = x.con := by
  simp only [TJob.sz] at h
  refine con_of c67 (by simp [F67]) ?_
  unfold F67
  simp [putA]
  refine call_new (toRequestO (by omega) _) (Views.refl _ _) fun r1 O1 c1 hc1 ⟨b1, hr, hO, q1⟩ _ _ => ?_
  subst hr; subst hO
  refine ⟨_, .refl _, free_agg (TRequest.freeO b1) _, fun o ho => TRequest.freeI b1 o ho _, ?_⟩
  simp [putA]
  refine fin_sub (Hk := b1.inn) ?_ (.refl _) ⟨⟨x.Id, b1, x.Session⟩, rfl, by simp [TJob.inn, TRequest.inn], by simp [TJob.con, SL.con, SL.pcon, q1]⟩
  exact ((List.Sublist.refl _).cons _).cons _ |>.cons _
theorem toJobSO {s : SL TJob} (h : szJobS s ≤ 1048576) (c : Nat) : Con Tryz.prog 25 [s.av 5 TJob.enc] [] c fun r H' _ => ∃ b : SL TJob, r = b.ref 5 ∧ H' = b.wood 5 TJob.encO TJob.inn ∧ b.list.map TJob.con = s.list.map TJob.con := by
  unfold szJobS at h
  exact toSO_fn (g := 67) (z := [.int .i64 0, .str [], .nsl, .nsl, .str []]) (bytes := 88) c25 rfl (fun _ => rfl) (fun _ => rfl) TJob.freeO TJob.freeI (by omega) (by omega)
    (fun x hx c => toJobO (by have := szL_mem (sz := TJob.sz) hx; omega) c) c
def mkJob (k : Int) (x : TJob) : TJob := ⟨k, ⟨mtext (k + 1), x.Request.Query.marks mkPair cPair (k + 1 + 1), x.Request.Cookies.marks mkPair cPair (k + 1 + 1 + szL cPair x.Request.Query.list)⟩, mtext (k + 1 + 1 + szL cPair x.Request.Query.list + szL cPair x.Request.Cookies.list)⟩
def cJob (x : TJob) : Nat := 3 + szL cPair x.Request.Query.list + szL cPair x.Request.Cookies.list
theorem markJob_nil (k : Int) : Fnc Tryz.prog 43 [.nsl, .int .i64 k] (.int .i64 k) := by
  refine fn_of c43 (by simp [F43]) fun c => ?_
  unfold F43
  simp
  refine loop_drop 0 (fun i e H c' => e 0 = .nsl ∧ e 1 = .int .i64 k ∧ e 5 = .int .i64 0 ∧ H = []) ⟨rfl, rfl, rfl, rfl⟩ ?_
  intro i e H c hi ⟨e0, e1, e5, hH⟩ N hN
  subst hH
  simp [e0, e1, e5]
  exact fin_plain ⟨rfl, rfl⟩
theorem szL_cJob (l : List TJob) : l.length ≤ szL cJob l := by
  induction l with
  | nil => simp
  | cons x l ih => simp [szL, cJob] at ih ⊢; omega
theorem mkJob_encO (k : Int) (x : TJob) : (mkJob k x).encO = [.int .i64 (k), .str (mtext (k + 1)), x.Request.Query.ref 2, x.Request.Cookies.ref 2, .str (mtext (k + 1 + 1 + szL cPair x.Request.Query.list + szL cPair x.Request.Cookies.list))] := by
  simp [mkJob, TJob.encO, SL.marks_ref]
theorem mkJob_tags (k : Int) (x : TJob) : tags (mkJob k x).inn = tags x.inn := by
  have eT : ∀ X Y : List AObj, tags (X ++ Y) = tags X ++ tags Y := fun X Y => by simp [tags]
  simp only [TJob.inn, mkJob, eT, flat_marks (enc := TPair.enc) (w := 2) mkPair cPair]
theorem markJob_con1 {l : List TJob} (hz : szL cJob l ≤ 16777216) {k : Int} (hk : 0 ≤ k ∧ k ≤ 549755813888) (t c : Nat) :
    Con Tryz.prog 43 [.ref 0 t 5 l.length, .int .i64 k] (wood t 5 TJob.encO TJob.inn l) c fun r H' _ => r = .int .i64 (k + szL cJob l) ∧ H' = wood t 5 TJob.encO TJob.inn (mks mkJob cJob k l) := by
  have hln := szL_cJob l
  refine con_of c43 (by simp [F43]) ?_
  unfold F43
  simp
  refine loop_drop l.length (fun i e H c' => e 0 = .ref 0 t 5 l.length ∧ e 1 = .int .i64 (k + szL cJob (l.take i)) ∧ e 5 = .int .i64 i ∧ H = ⟨false, t, 5, (mixed mkJob cJob k l i).map TJob.encO⟩ :: (mixed mkJob cJob k l i).flatMap TJob.inn) ⟨rfl, by simp [szL], rfl, by rw [mixed_zero]; rfl⟩ ?_
  intro i e H c hi ⟨e0, e1, e5, hH⟩ N hN
  subst hH
  have hs := mixed_set mkJob cJob k l (i := i)
  have hst := fun h : i < l.length => szL_step cJob l h
  have hle := szL_le cJob l i
  have hle1 := szL_le cJob l (i + 1)
  have hfl := fun h : i < l.length => mixed_flat (mk := mkJob) (cnt := cJob) (k := k) (inn := TJob.inn) h
  have hfl' := fun h : i < l.length => mixed_flat' (mk := mkJob) (cnt := cJob) (k := k) (inn := TJob.inn) h
  generalize hjj : k + (szL cJob (l.take i) : Int) = j at e1 hs hfl'
  simp [e0, e1, e5]
  refine ⟨fun h => ?_, fun h => ?_⟩
  · have hs := hs h
    have hst := hst h
    have hg := mixed_get mkJob cJob k l h
    have hx := szL_mem (sz := cJob) (List.getElem_mem h)
    rw [hfl h]
    have hfl' := hfl' h
    generalize l[i] = x at hs hst hg hx hfl'
    generalize (mks mkJob cJob k (l.take i)).flatMap TJob.inn = PRE at hfl' ⊢
    generalize (l.drop (i + 1)).flatMap TJob.inn = POST at hfl' ⊢
    simp only [cJob] at hx hst
    have w0 : IntKind.i64.wrap (j + 1) = j + 1 := wrap64 (by omega) (by omega)
    have w1 : IntKind.i64.wrap (j + 1 + 1) = j + 1 + 1 := wrap64 (by omega) (by omega)
    have w4 : IntKind.i64.wrap (j + 1 + 1 + szL cPair x.Request.Query.list + szL cPair x.Request.Cookies.list + 1) = j + 1 + 1 + szL cPair x.Request.Query.list + szL cPair x.Request.Cookies.list + 1 := wrap64 (by omega) (by omega)
    refine ⟨h, x, hg, ?_⟩
    simp [e0, e1, e5, h, mixed_len, w0, w1, w4, putA, TJob.encO, TJob.inn]
    refine call_fn0 (mtext_fn (by omega)) .str fun _ _ => ?_
    simp [e0, e1, e5, h, mixed_len, w0, w1, w4, putA, TJob.encO, TJob.inn]
    refine call_midr (f := 88) (B := x.Request.Query.wood 2 TPair.enc noInn) (markPair_con (s := x.Request.Query) (by omega) (k := j + 1 + 1) ⟨by omega, by omega⟩ _) (Views.refl _ _) fun r B' c' hc ⟨q1, q2⟩ => ?_
    subst q1; subst q2
    refine ⟨flat_marks (enc := TPair.enc) (w := 2) mkPair cPair _ x.Request.Query, .int, fun o ho => flat_free TPair.flat _ _ o ho _, ?_⟩
    simp [e0, e1, e5, h, mixed_len, w0, w1, w4, putA, TJob.encO, TJob.inn]
    refine call_mid2 (f := 88) (B := x.Request.Cookies.wood 2 TPair.enc noInn) (markPair_con (s := x.Request.Cookies) (by omega) (k := j + 1 + 1 + szL cPair x.Request.Query.list) ⟨by omega, by omega⟩ _) (Views.refl _ _) fun r B' c' hc ⟨q1, q2⟩ => ?_
    subst q1; subst q2
    refine ⟨flat_marks (enc := TPair.enc) (w := 2) mkPair cPair _ x.Request.Cookies, .int, fun o ho => flat_free TPair.flat _ _ o ho _, ?_⟩
    simp [e0, e1, e5, h, mixed_len, w0, w1, w4, putA, TJob.encO, TJob.inn]
    refine call_fn0 (mtext_fn (by omega)) .str fun _ _ => ?_
    simp [e0, e1, e5, h, mixed_len, w0, w1, w4, putA, TJob.encO, TJob.inn]
    refine hN _ _ _ _ h (List.Sublist.refl _) ⟨by simp [upd, e0], ?_, by simp [upd]; exact step64 (by unfold mx; omega) h, ?_⟩
    · simp [upd, w0, w1, w4, hst]; omega
    · rw [hfl', ← hs, List.map_set, mkJob_encO]
      simp [mkJob, TJob.inn]
  · have h1 : i = l.length := by omega
    subst h1
    refine fin_all ⟨?_, ?_⟩
    · rw [← hjj]; simp
    · rw [mixed_all]; rfl
theorem markJob_con {s : SL TJob} (hz : szL cJob s.list ≤ 16777216) {k : Int} (hk : 0 ≤ k ∧ k ≤ 549755813888) (c : Nat) :
    Con Tryz.prog 43 [s.ref 5, .int .i64 k] (s.wood 5 TJob.encO TJob.inn) c fun r H' _ => r = .int .i64 (k + szL cJob s.list) ∧ H' = (s.marks mkJob cJob k).wood 5 TJob.encO TJob.inn := by
  cases s with
  | nil =>
    have := markJob_nil k c
    simpa [SL.ref, SL.wood, SL.marks, szL] using this
  | mk t l =>
    have := markJob_con1 (l := l) hz hk t c
    exact this
def TWorker.encO (s : TWorker) : List AV := [.int .i64 s.State, .int .i64 s.Job.Id, .str s.Job.Request.Path, s.Job.Request.Query.ref 2, s.Job.Request.Cookies.ref 2, .str s.Job.Session, .str s.Data, s.Files.ref 3, .int .i64 s.Served]
def TWorker.inn (s : TWorker) : List AObj := s.Job.Request.Query.wood 2 TPair.enc noInn ++ (s.Job.Request.Cookies.wood 2 TPair.enc noInn ++ (s.Files.wood 3 TFile.enc noInn))
@[simp] theorem TWorker.lenO (s : TWorker) : s.encO.length = 9 := (rfl)
@[simp] theorem TWorker.allO (s : TWorker) : s.encO.take 9 = s.encO := (rfl)
@[simp] theorem TWorker.o0 (s : TWorker) (K : AV → Prop) : getW s.encO 0 K = K (.int .i64 s.State) := by simp [TWorker.encO]
@[simp] theorem TWorker.o1 (s : TWorker) (K : AV → Prop) : getW s.encO 1 K = K (.int .i64 s.Job.Id) := by simp [TWorker.encO]
@[simp] theorem TWorker.o2 (s : TWorker) (K : AV → Prop) : getW s.encO 2 K = K (.str s.Job.Request.Path) := by simp [TWorker.encO]
@[simp] theorem TWorker.o3 (s : TWorker) (K : AV → Prop) : getW s.encO 3 K = K (s.Job.Request.Query.ref 2) := by simp [TWorker.encO]
@[simp] theorem TWorker.o4 (s : TWorker) (K : AV → Prop) : getW s.encO 4 K = K (s.Job.Request.Cookies.ref 2) := by simp [TWorker.encO]
@[simp] theorem TWorker.o5 (s : TWorker) (K : AV → Prop) : getW s.encO 5 K = K (.str s.Job.Session) := by simp [TWorker.encO]
@[simp] theorem TWorker.o6 (s : TWorker) (K : AV → Prop) : getW s.encO 6 K = K (.str s.Data) := by simp [TWorker.encO]
@[simp] theorem TWorker.o7 (s : TWorker) (K : AV → Prop) : getW s.encO 7 K = K (s.Files.ref 3) := by simp [TWorker.encO]
@[simp] theorem TWorker.o8 (s : TWorker) (K : AV → Prop) : getW s.encO 8 K = K (.int .i64 s.Served) := by simp [TWorker.encO]
theorem TWorker.freeO : ∀ (x : TWorker) a, a ∈ x.encO → Free a := fun x a ha => by
  simp [TWorker.encO] at ha
  rcases ha with rfl | rfl | rfl | rfl | rfl | rfl | rfl | rfl | rfl
  · exact free_int _ _
  · exact free_int _ _
  · exact free_str _
  · exact free_ref _ _
  · exact free_ref _ _
  · exact free_str _
  · exact free_str _
  · exact free_ref _ _
  · exact free_int _ _
theorem TWorker.freeI : ∀ (x : TWorker) o, o ∈ x.inn → ∀ T, AvRows T o := fun x o ho => by
  simp only [TWorker.inn, List.mem_append] at ho
  rcases ho with ho | ho | ho
  · exact flat_free TPair.flat _ _ o ho
  · exact flat_free TPair.flat _ _ o ho
  · exact flat_free TFile.flat _ _ o ho
theorem TWorker.viewO {S : List AObj} (x : TWorker) (h : ∀ o, o ∈ x.inn → o ∈ S) : ∀ (j : Nat) (a a' : AV), x.encO[j]? = some a → x.enc[j]? = some a' → View S a a' := fun j a a' h1 h2 => by
  match j, h1, h2 with
  | 0, h1, h2 => simp [TWorker.encO] at h1; simp [TWorker.enc] at h2; subst h1; subst h2; exact .refl _
  | 1, h1, h2 => simp [TWorker.encO] at h1; simp [TWorker.enc] at h2; subst h1; subst h2; exact .refl _
  | 2, h1, h2 => simp [TWorker.encO] at h1; simp [TWorker.enc] at h2; subst h1; subst h2; exact .refl _
  | 3, h1, h2 => simp [TWorker.encO] at h1; simp [TWorker.enc] at h2; subst h1; subst h2; exact view_flat (fun o ho => h o (by simp [TWorker.inn, ho])) TPair.flat.cells
  | 4, h1, h2 => simp [TWorker.encO] at h1; simp [TWorker.enc] at h2; subst h1; subst h2; exact view_flat (fun o ho => h o (by simp [TWorker.inn, ho])) TPair.flat.cells
  | 5, h1, h2 => simp [TWorker.encO] at h1; simp [TWorker.enc] at h2; subst h1; subst h2; exact .refl _
  | 6, h1, h2 => simp [TWorker.encO] at h1; simp [TWorker.enc] at h2; subst h1; subst h2; exact .refl _
  | 7, h1, h2 => simp [TWorker.encO] at h1; simp [TWorker.enc] at h2; subst h1; subst h2; exact view_flat (fun o ho => h o (by simp [TWorker.inn, ho])) TFile.flat.cells
  | 8, h1, h2 => simp [TWorker.encO] at h1; simp [TWorker.enc] at h2; subst h1; subst h2; exact .refl _
  | j + 9, h1, h2 => simp [TWorker.encO] at h1
theorem view_OWorker {S : List AObj} {s : SL TWorker} (hs : ∀ o, o ∈ s.wood 9 TWorker.encO TWorker.inn → o ∈ S) : View S (s.ref 9) (s.av 9 TWorker.enc) :=
  view_wood hs (fun x => TWorker.cells x) (fun _ => rfl) fun x h => TWorker.viewO x h
theorem view_AWorker {S : List AObj} {s : TWorker} (hs : ∀ o, o ∈ s.inn → o ∈ S) : View S (.agg s.encO) (.agg s.enc) :=
  .agg rfl (fun j a ha => TWorker.cells s a (List.mem_of_getElem? ha)) (TWorker.viewO s hs)
theorem toWorkerO {x : TWorker} (h : x.sz ≤ 1048576) (c : Nat) : Con Tryz.prog 68 [.agg x.enc] [] c fun r O _ => ∃ b : TWorker, r = .agg b.encO ∧ O = b.inn ∧ b.con = x.con := by
  simp only [TWorker.sz] at h
  refine con_of c68 (by simp [F68]) ?_
  unfold F68
  simp [putA]
  refine call_new (toJobO (by omega) _) (Views.refl _ _) fun r1 O1 c1 hc1 ⟨b1, hr, hO, q1⟩ _ _ => ?_
  subst hr; subst hO
  refine ⟨_, .refl _, free_agg (TJob.freeO b1) _, fun o ho => TJob.freeI b1 o ho _, ?_⟩
  simp [putA]
  refine call_new (toFileSO (by omega) _) (Views.refl _ _) fun r2 O2 c2 hc2 ⟨b2, hr, hO, q2⟩ _ _ => ?_
  subst hr; subst hO
  refine ⟨_, .refl _, free_ref _ _ _, fun o ho => flat_free TFile.flat _ _ o ho _, ?_⟩
  simp [putA]
  refine fin_sub (Hk := b1.inn ++ (b2.wood 3 TFile.enc noInn)) ?_ (.refl _) ⟨⟨x.State, b1, x.Data, b2, x.Served⟩, rfl, by simp [TWorker.inn, TJob.inn], by simp [TWorker.con, SL.con, SL.pcon, q1, q2]⟩
  exact ((List.Sublist.refl _).cons _).cons _ |>.cons _
theorem toWorkerSO {s : SL TWorker} (h : szWorkerS s ≤ 1048576) (c : Nat) : Con Tryz.prog 26 [s.av 9 TWorker.enc] [] c fun r H' _ => ∃ b : SL TWorker, r = b.ref 9 ∧ H' = b.wood 9 TWorker.encO TWorker.inn ∧ b.list.map TWorker.con = s.list.map TWorker.con := by
  unfold szWorkerS at h
  exact toSO_fn (g := 68) (z := [.int .i64 0, .int .i64 0, .str [], .nsl, .nsl, .str [], .str [], .nsl, .int .i64 0]) (bytes := 144) c26 rfl (fun _ => rfl) (fun _ => rfl) TWorker.freeO TWorker.freeI (by omega) (by omega)
    (fun x hx c => toWorkerO (by have := szL_mem (sz := TWorker.sz) hx; omega) c) c
def mkWorker (k : Int) (x : TWorker) : TWorker := ⟨k, ⟨k + 1, ⟨mtext (k + 1 + 1), x.Job.Request.Query.marks mkPair cPair (k + 1 + 1 + 1), x.Job.Request.Cookies.marks mkPair cPair (k + 1 + 1 + 1 + szL cPair x.Job.Request.Query.list)⟩, mtext (k + 1 + 1 + 1 + szL cPair x.Job.Request.Query.list + szL cPair x.Job.Request.Cookies.list)⟩, mtext (k + 1 + 1 + 1 + szL cPair x.Job.Request.Query.list + szL cPair x.Job.Request.Cookies.list + 1), x.Files.marks mkFile cFile (k + 1 + 1 + 1 + szL cPair x.Job.Request.Query.list + szL cPair x.Job.Request.Cookies.list + 1 + 1), k + 1 + 1 + 1 + szL cPair x.Job.Request.Query.list + szL cPair x.Job.Request.Cookies.list + 1 + 1 + szL cFile x.Files.list⟩
def cWorker (x : TWorker) : Nat := 6 + szL cPair x.Job.Request.Query.list + szL cPair x.Job.Request.Cookies.list + szL cFile x.Files.list
theorem markWorker_nil (k : Int) : Fnc Tryz.prog 44 [.nsl, .int .i64 k] (.int .i64 k) := by
  refine fn_of c44 (by simp [F44]) fun c => ?_
  unfold F44
  simp
  refine loop_drop 0 (fun i e H c' => e 0 = .nsl ∧ e 1 = .int .i64 k ∧ e 5 = .int .i64 0 ∧ H = []) ⟨rfl, rfl, rfl, rfl⟩ ?_
  intro i e H c hi ⟨e0, e1, e5, hH⟩ N hN
  subst hH
  simp [e0, e1, e5]
  exact fin_plain ⟨rfl, rfl⟩
theorem szL_cWorker (l : List TWorker) : l.length ≤ szL cWorker l := by
  induction l with
  | nil => simp
  | cons x l ih => simp [szL, cWorker] at ih ⊢; omega
theorem mkWorker_encO (k : Int) (x : TWorker) : (mkWorker k x).encO = [.int .i64 (k), .int .i64 (k + 1), .str (mtext (k + 1 + 1)), x.Job.Request.Query.ref 2, x.Job.Request.Cookies.ref 2, .str (mtext (k + 1 + 1 + 1 + szL cPair x.Job.Request.Query.list + szL cPair x.Job.Request.Cookies.list)), .str (mtext (k + 1 + 1 + 1 + szL cPair x.Job.Request.Query.list + szL cPair x.Job.Request.Cookies.list + 1)), x.Files.ref 3, .int .i64 (k + 1 + 1 + 1 + szL cPair x.Job.Request.Query.list + szL cPair x.Job.Request.Cookies.list + 1 + 1 + szL cFile x.Files.list)] := by
  simp [mkWorker, TWorker.encO, SL.marks_ref]
theorem mkWorker_tags (k : Int) (x : TWorker) : tags (mkWorker k x).inn = tags x.inn := by
  have eT : ∀ X Y : List AObj, tags (X ++ Y) = tags X ++ tags Y := fun X Y => by simp [tags]
  simp only [TWorker.inn, mkWorker, eT, flat_marks (enc := TPair.enc) (w := 2) mkPair cPair, flat_marks (enc := TFile.enc) (w := 3) mkFile cFile]
theorem markWorker_con1 {l : List TWorker} (hz : szL cWorker l ≤ 16777216) {k : Int} (hk : 0 ≤ k ∧ k ≤ 549755813888) (t c : Nat) :
    Con Tryz.prog 44 [.ref 0 t 9 l.length, .int .i64 k] (wood t 9 TWorker.encO TWorker.inn l) c fun r H' _ => r = .int .i64 (k + szL cWorker l) ∧ H' = wood t 9 TWorker.encO TWorker.inn (mks mkWorker cWorker k l) := by
  have hln := szL_cWorker l
  refine con_of c44 (by simp [F44]) ?_
  unfold F44
  simp
  refine loop_drop l.length (fun i e H c' => e 0 = .ref 0 t 9 l.length ∧ e 1 = .int .i64 (k + szL cWorker (l.take i)) ∧ e 5 = .int .i64 i ∧ H = ⟨false, t, 9, (mixed mkWorker cWorker k l i).map TWorker.encO⟩ :: (mixed mkWorker cWorker k l i).flatMap TWorker.inn) ⟨rfl, by simp [szL], rfl, by rw [mixed_zero]; rfl⟩ ?_
  intro i e H c hi ⟨e0, e1, e5, hH⟩ N hN
  subst hH
  have hs := mixed_set mkWorker cWorker k l (i := i)
  have hst := fun h : i < l.length => szL_step cWorker l h
  have hle := szL_le cWorker l i
  have hle1 := szL_le cWorker l (i + 1)
  have hfl := fun h : i < l.length => mixed_flat (mk := mkWorker) (cnt := cWorker) (k := k) (inn := TWorker.inn) h
  have hfl' := fun h : i < l.length => mixed_flat' (mk := mkWorker) (cnt := cWorker) (k := k) (inn := TWorker.inn) h
  generalize hjj : k + (szL cWorker (l.take i) : Int) = j at e1 hs hfl'
  simp [e0, e1, e5]
  refine ⟨fun h => ?_, fun h => ?_⟩
  · have hs := hs h
    have hst := hst h
    have hg := mixed_get mkWorker cWorker k l h
    have hx := szL_mem (sz := cWorker) (List.getElem_mem h)
    rw [hfl h]
    have hfl' := hfl' h
    generalize l[i] = x at hs hst hg hx hfl'
    generalize (mks mkWorker cWorker k (l.take i)).flatMap TWorker.inn = PRE at hfl' ⊢
    generalize (l.drop (i + 1)).flatMap TWorker.inn = POST at hfl' ⊢
    simp only [cWorker] at hx hst
    have w0 : IntKind.i64.wrap (j + 1) = j + 1 := wrap64 (by omega) (by omega)
    have w1 : IntKind.i64.wrap (j + 1 + 1) = j + 1 + 1 := wrap64 (by omega) (by omega)
    have w2 : IntKind.i64.wrap (j + 1 + 1 + 1) = j + 1 + 1 + 1 := wrap64 (by omega) (by omega)
    have w5 : IntKind.i64.wrap (j + 1 + 1 + 1 + szL cPair x.Job.Request.Query.list + szL cPair x.Job.Request.Cookies.list + 1) = j + 1 + 1 + 1 + szL cPair x.Job.Request.Query.list + szL cPair x.Job.Request.Cookies.list + 1 := wrap64 (by omega) (by omega)
    have w6 : IntKind.i64.wrap (j + 1 + 1 + 1 + szL cPair x.Job.Request.Query.list + szL cPair x.Job.Request.Cookies.list + 1 + 1) = j + 1 + 1 + 1 + szL cPair x.Job.Request.Query.list + szL cPair x.Job.Request.Cookies.list + 1 + 1 := wrap64 (by omega) (by omega)
    have w8 : IntKind.i64.wrap (j + 1 + 1 + 1 + szL cPair x.Job.Request.Query.list + szL cPair x.Job.Request.Cookies.list + 1 + 1 + szL cFile x.Files.list + 1) = j + 1 + 1 + 1 + szL cPair x.Job.Request.Query.list + szL cPair x.Job.Request.Cookies.list + 1 + 1 + szL cFile x.Files.list + 1 := wrap64 (by omega) (by omega)
    refine ⟨h, x, hg, ?_⟩
    simp [e0, e1, e5, h, mixed_len, w0, w1, w2, w5, w6, w8, putA, TWorker.encO, TWorker.inn]
    refine call_fn0 (mtext_fn (by omega)) .str fun _ _ => ?_
    simp [e0, e1, e5, h, mixed_len, w0, w1, w2, w5, w6, w8, putA, TWorker.encO, TWorker.inn]
    refine call_midr (f := 88) (B := x.Job.Request.Query.wood 2 TPair.enc noInn) (markPair_con (s := x.Job.Request.Query) (by omega) (k := j + 1 + 1 + 1) ⟨by omega, by omega⟩ _) (Views.refl _ _) fun r B' c' hc ⟨q1, q2⟩ => ?_
    subst q1; subst q2
    refine ⟨flat_marks (enc := TPair.enc) (w := 2) mkPair cPair _ x.Job.Request.Query, .int, fun o ho => flat_free TPair.flat _ _ o ho _, ?_⟩
    simp [e0, e1, e5, h, mixed_len, w0, w1, w2, w5, w6, w8, putA, TWorker.encO, TWorker.inn]
    refine call_mid2 (f := 88) (B := x.Job.Request.Cookies.wood 2 TPair.enc noInn) (markPair_con (s := x.Job.Request.Cookies) (by omega) (k := j + 1 + 1 + 1 + szL cPair x.Job.Request.Query.list) ⟨by omega, by omega⟩ _) (Views.refl _ _) fun r B' c' hc ⟨q1, q2⟩ => ?_
    subst q1; subst q2
    refine ⟨flat_marks (enc := TPair.enc) (w := 2) mkPair cPair _ x.Job.Request.Cookies, .int, fun o ho => flat_free TPair.flat _ _ o ho _, ?_⟩
    simp [e0, e1, e5, h, mixed_len, w0, w1, w2, w5, w6, w8, putA, TWorker.encO, TWorker.inn]
    refine call_fn0 (mtext_fn (by omega)) .str fun _ _ => ?_
    simp [e0, e1, e5, h, mixed_len, w0, w1, w2, w5, w6, w8, putA, TWorker.encO, TWorker.inn]
    refine call_fn0 (mtext_fn (by omega)) .str fun _ _ => ?_
    simp [e0, e1, e5, h, mixed_len, w0, w1, w2, w5, w6, w8, putA, TWorker.encO, TWorker.inn]
    refine call_mid3 (f := 40) (B := x.Files.wood 3 TFile.enc noInn) (markFile_con (s := x.Files) (by omega) (k := j + 1 + 1 + 1 + szL cPair x.Job.Request.Query.list + szL cPair x.Job.Request.Cookies.list + 1 + 1) ⟨by omega, by omega⟩ _) (Views.refl _ _) fun r B' c' hc ⟨q1, q2⟩ => ?_
    subst q1; subst q2
    refine ⟨flat_marks (enc := TFile.enc) (w := 3) mkFile cFile _ x.Files, .int, fun o ho => flat_free TFile.flat _ _ o ho _, ?_⟩
    simp [e0, e1, e5, h, mixed_len, w0, w1, w2, w5, w6, w8, putA, TWorker.encO, TWorker.inn]
    refine hN _ _ _ _ h (List.Sublist.refl _) ⟨by simp [upd, e0], ?_, by simp [upd]; exact step64 (by unfold mx; omega) h, ?_⟩
    · simp [upd, w0, w1, w2, w5, w6, w8, hst]; omega
    · rw [hfl', ← hs, List.map_set, mkWorker_encO]
      simp [mkWorker, TWorker.inn]
  · have h1 : i = l.length := by omega
    subst h1
    refine fin_all ⟨?_, ?_⟩
    · rw [← hjj]; simp
    · rw [mixed_all]; rfl
theorem markWorker_con {s : SL TWorker} (hz : szL cWorker s.list ≤ 16777216) {k : Int} (hk : 0 ≤ k ∧ k ≤ 549755813888) (c : Nat) :
    Con Tryz.prog 44 [s.ref 9, .int .i64 k] (s.wood 9 TWorker.encO TWorker.inn) c fun r H' _ => r = .int .i64 (k + szL cWorker s.list) ∧ H' = (s.marks mkWorker cWorker k).wood 9 TWorker.encO TWorker.inn := by
  cases s with
  | nil =>
    have := markWorker_nil k c
    simpa [SL.ref, SL.wood, SL.marks, szL] using this
  | mk t l =>
    have := markWorker_con1 (l := l) hz hk t c
    exact this
def TAnswer.encO (s : TAnswer) : List AV := [.int .i64 s.Id, .str s.Session, s.Files.ref 3, .str s.Request.Path, s.Request.Query.ref 2, s.Request.Cookies.ref 2, .str s.Before, .int .i64 s.Response.Code, s.Response.Headers.ref 2, .str s.Response.Body, .str s.After]
def TAnswer.inn (s : TAnswer) : List AObj := s.Files.wood 3 TFile.enc noInn ++ (s.Request.Query.wood 2 TPair.enc noInn ++ (s.Request.Cookies.wood 2 TPair.enc noInn ++ (s.Response.Headers.wood 2 THeader.enc noInn)))
@[simp] theorem TAnswer.lenO (s : TAnswer) : s.encO.length = 11 := (rfl)
@[simp] theorem TAnswer.allO (s : TAnswer) : s.encO.take 11 = s.encO := (rfl)
@[simp] theorem TAnswer.o0 (s : TAnswer) (K : AV → Prop) : getW s.encO 0 K = K (.int .i64 s.Id) := by simp [TAnswer.encO]
@[simp] theorem TAnswer.o1 (s : TAnswer) (K : AV → Prop) : getW s.encO 1 K = K (.str s.Session) := by simp [TAnswer.encO]
@[simp] theorem TAnswer.o2 (s : TAnswer) (K : AV → Prop) : getW s.encO 2 K = K (s.Files.ref 3) := by simp [TAnswer.encO]
@[simp] theorem TAnswer.o3 (s : TAnswer) (K : AV → Prop) : getW s.encO 3 K = K (.str s.Request.Path) := by simp [TAnswer.encO]
@[simp] theorem TAnswer.o4 (s : TAnswer) (K : AV → Prop) : getW s.encO 4 K = K (s.Request.Query.ref 2) := by simp [TAnswer.encO]
@[simp] theorem TAnswer.o5 (s : TAnswer) (K : AV → Prop) : getW s.encO 5 K = K (s.Request.Cookies.ref 2) := by simp [TAnswer.encO]
@[simp] theorem TAnswer.o6 (s : TAnswer) (K : AV → Prop) : getW s.encO 6 K = K (.str s.Before) := by simp [TAnswer.encO]
@[simp] theorem TAnswer.o7 (s : TAnswer) (K : AV → Prop) : getW s.encO 7 K = K (.int .i64 s.Response.Code) := by simp [TAnswer.encO]
@[simp] theorem TAnswer.o8 (s : TAnswer) (K : AV → Prop) : getW s.encO 8 K = K (s.Response.Headers.ref 2) := by simp [TAnswer.encO]
@[simp] theorem TAnswer.o9 (s : TAnswer) (K : AV → Prop) : getW s.encO 9 K = K (.str s.Response.Body) := by simp [TAnswer.encO]
@[simp] theorem TAnswer.o10 (s : TAnswer) (K : AV → Prop) : getW s.encO 10 K = K (.str s.After) := by simp [TAnswer.encO]
theorem TAnswer.freeO : ∀ (x : TAnswer) a, a ∈ x.encO → Free a := fun x a ha => by
  simp [TAnswer.encO] at ha
  rcases ha with rfl | rfl | rfl | rfl | rfl | rfl | rfl | rfl | rfl | rfl | rfl
  · exact free_int _ _
  · exact free_str _
  · exact free_ref _ _
  · exact free_str _
  · exact free_ref _ _
  · exact free_ref _ _
  · exact free_str _
  · exact free_int _ _
  · exact free_ref _ _
  · exact free_str _
  · exact free_str _
theorem TAnswer.freeI : ∀ (x : TAnswer) o, o ∈ x.inn → ∀ T, AvRows T o := fun x o ho => by
  simp only [TAnswer.inn, List.mem_append] at ho
  rcases ho with ho | ho | ho | ho
  · exact flat_free TFile.flat _ _ o ho
  · exact flat_free TPair.flat _ _ o ho
  · exact flat_free TPair.flat _ _ o ho
  · exact flat_free THeader.flat _ _ o ho
theorem TAnswer.viewO {S : List AObj} (x : TAnswer) (h : ∀ o, o ∈ x.inn → o ∈ S) : ∀ (j : Nat) (a a' : AV), x.encO[j]? = some a → x.enc[j]? = some a' → View S a a' := fun j a a' h1 h2 => by
  match j, h1, h2 with
  | 0, h1, h2 => simp [TAnswer.encO] at h1; simp [TAnswer.enc] at h2; subst h1; subst h2; exact .refl _
  | 1, h1, h2 => simp [TAnswer.encO] at h1; simp [TAnswer.enc] at h2; subst h1; subst h2; exact .refl _
  | 2, h1, h2 => simp [TAnswer.encO] at h1; simp [TAnswer.enc] at h2; subst h1; subst h2; exact view_flat (fun o ho => h o (by simp [TAnswer.inn, ho])) TFile.flat.cells
  | 3, h1, h2 => simp [TAnswer.encO] at h1; simp [TAnswer.enc] at h2; subst h1; subst h2; exact .refl _
  | 4, h1, h2 => simp [TAnswer.encO] at h1; simp [TAnswer.enc] at h2; subst h1; subst h2; exact view_flat (fun o ho => h o (by simp [TAnswer.inn, ho])) TPair.flat.cells
  | 5, h1, h2 => simp [TAnswer.encO] at h1; simp [TAnswer.enc] at h2; subst h1; subst h2; exact view_flat (fun o ho => h o (by simp [TAnswer.inn, ho])) TPair.flat.cells
  | 6, h1, h2 => simp [TAnswer.encO] at h1; simp [TAnswer.enc] at h2; subst h1; subst h2; exact .refl _
  | 7, h1, h2 => simp [TAnswer.encO] at h1; simp [TAnswer.enc] at h2; subst h1; subst h2; exact .refl _
  | 8, h1, h2 => simp [TAnswer.encO] at h1; simp [TAnswer.enc] at h2; subst h1; subst h2; exact view_flat (fun o ho => h o (by simp [TAnswer.inn, ho])) THeader.flat.cells
  | 9, h1, h2 => simp [TAnswer.encO] at h1; simp [TAnswer.enc] at h2; subst h1; subst h2; exact .refl _
  | 10, h1, h2 => simp [TAnswer.encO] at h1; simp [TAnswer.enc] at h2; subst h1; subst h2; exact .refl _
  | j + 11, h1, h2 => simp [TAnswer.encO] at h1
theorem view_OAnswer {S : List AObj} {s : SL TAnswer} (hs : ∀ o, o ∈ s.wood 11 TAnswer.encO TAnswer.inn → o ∈ S) : View S (s.ref 11) (s.av 11 TAnswer.enc) :=
  view_wood hs (fun x => TAnswer.cells x) (fun _ => rfl) fun x h => TAnswer.viewO x h
theorem view_AAnswer {S : List AObj} {s : TAnswer} (hs : ∀ o, o ∈ s.inn → o ∈ S) : View S (.agg s.encO) (.agg s.enc) :=
  .agg rfl (fun j a ha => TAnswer.cells s a (List.mem_of_getElem? ha)) (TAnswer.viewO s hs)
theorem toAnswerO {x : TAnswer} (h : x.sz ≤ 1048576) (c : Nat) : Con Tryz.prog 69 [.agg x.enc] [] c fun r O _ => ∃ b : TAnswer, r = .agg b.encO ∧ O = b.inn ∧ b.con = x.con := by
  simp only [TAnswer.sz] at h
  refine con_of c69 (by simp [F69]) ?_
  unfold F69
  simp [putA]
  refine call_new (toFileSO (by omega) _) (Views.refl _ _) fun r1 O1 c1 hc1 ⟨b1, hr, hO, q1⟩ _ _ => ?_
  subst hr; subst hO
  refine ⟨_, .refl _, free_ref _ _ _, fun o ho => flat_free TFile.flat _ _ o ho _, ?_⟩
  simp [putA]
  refine call_new (toRequestO (by omega) _) (Views.refl _ _) fun r2 O2 c2 hc2 ⟨b2, hr, hO, q2⟩ _ _ => ?_
  subst hr; subst hO
  refine ⟨_, .refl _, free_agg (TRequest.freeO b2) _, fun o ho => TRequest.freeI b2 o ho _, ?_⟩
  simp [putA]
  refine call_new (toResponseO (by omega) _) (Views.refl _ _) fun r3 O3 c3 hc3 ⟨b3, hr, hO, q3⟩ _ _ => ?_
  subst hr; subst hO
  refine ⟨_, .refl _, free_agg (TResponse.freeO b3) _, fun o ho => TResponse.freeI b3 o ho _, ?_⟩
  simp [putA]
  refine fin_sub (Hk := b1.wood 3 TFile.enc noInn ++ (b2.inn ++ (b3.inn))) ?_ (.refl _) ⟨⟨x.Id, x.Session, b1, b2, x.Before, b3, x.After⟩, rfl, by simp [TAnswer.inn, TRequest.inn, TResponse.inn], by simp [TAnswer.con, SL.con, SL.pcon, q1, q2, q3]⟩
  exact ((List.Sublist.refl _).cons _).cons _ |>.cons _
theorem toAnswerSO {s : SL TAnswer} (h : szAnswerS s ≤ 1048576) (c : Nat) : Con Tryz.prog 27 [s.av 11 TAnswer.enc] [] c fun r H' _ => ∃ b : SL TAnswer, r = b.ref 11 ∧ H' = b.wood 11 TAnswer.encO TAnswer.inn ∧ b.list.map TAnswer.con = s.list.map TAnswer.con := by
  unfold szAnswerS at h
  exact toSO_fn (g := 69) (z := [.int .i64 0, .str [], .nsl, .str [], .nsl, .nsl, .str [], .int .i64 0, .nsl, .str [], .str []]) (bytes := 192) c27 rfl (fun _ => rfl) (fun _ => rfl) TAnswer.freeO TAnswer.freeI (by omega) (by omega)
    (fun x hx c => toAnswerO (by have := szL_mem (sz := TAnswer.sz) hx; omega) c) c
def mkAnswer (k : Int) (x : TAnswer) : TAnswer := ⟨k, mtext (k + 1), x.Files.marks mkFile cFile (k + 1 + 1), ⟨mtext (k + 1 + 1 + szL cFile x.Files.list), x.Request.Query.marks mkPair cPair (k + 1 + 1 + szL cFile x.Files.list + 1), x.Request.Cookies.marks mkPair cPair (k + 1 + 1 + szL cFile x.Files.list + 1 + szL cPair x.Request.Query.list)⟩, mtext (k + 1 + 1 + szL cFile x.Files.list + 1 + szL cPair x.Request.Query.list + szL cPair x.Request.Cookies.list), ⟨k + 1 + 1 + szL cFile x.Files.list + 1 + szL cPair x.Request.Query.list + szL cPair x.Request.Cookies.list + 1, x.Response.Headers.marks mkHeader cHeader (k + 1 + 1 + szL cFile x.Files.list + 1 + szL cPair x.Request.Query.list + szL cPair x.Request.Cookies.list + 1 + 1), mtext (k + 1 + 1 + szL cFile x.Files.list + 1 + szL cPair x.Request.Query.list + szL cPair x.Request.Cookies.list + 1 + 1 + szL cHeader x.Response.Headers.list)⟩, mtext (k + 1 + 1 + szL cFile x.Files.list + 1 + szL cPair x.Request.Query.list + szL cPair x.Request.Cookies.list + 1 + 1 + szL cHeader x.Response.Headers.list + 1)⟩
def cAnswer (x : TAnswer) : Nat := 7 + szL cFile x.Files.list + szL cPair x.Request.Query.list + szL cPair x.Request.Cookies.list + szL cHeader x.Response.Headers.list
theorem markAnswer_nil (k : Int) : Fnc Tryz.prog 45 [.nsl, .int .i64 k] (.int .i64 k) := by
  refine fn_of c45 (by simp [F45]) fun c => ?_
  unfold F45
  simp
  refine loop_drop 0 (fun i e H c' => e 0 = .nsl ∧ e 1 = .int .i64 k ∧ e 5 = .int .i64 0 ∧ H = []) ⟨rfl, rfl, rfl, rfl⟩ ?_
  intro i e H c hi ⟨e0, e1, e5, hH⟩ N hN
  subst hH
  simp [e0, e1, e5]
  exact fin_plain ⟨rfl, rfl⟩
theorem szL_cAnswer (l : List TAnswer) : l.length ≤ szL cAnswer l := by
  induction l with
  | nil => simp
  | cons x l ih => simp [szL, cAnswer] at ih ⊢; omega
theorem mkAnswer_encO (k : Int) (x : TAnswer) : (mkAnswer k x).encO = [.int .i64 (k), .str (mtext (k + 1)), x.Files.ref 3, .str (mtext (k + 1 + 1 + szL cFile x.Files.list)), x.Request.Query.ref 2, x.Request.Cookies.ref 2, .str (mtext (k + 1 + 1 + szL cFile x.Files.list + 1 + szL cPair x.Request.Query.list + szL cPair x.Request.Cookies.list)), .int .i64 (k + 1 + 1 + szL cFile x.Files.list + 1 + szL cPair x.Request.Query.list + szL cPair x.Request.Cookies.list + 1), x.Response.Headers.ref 2, .str (mtext (k + 1 + 1 + szL cFile x.Files.list + 1 + szL cPair x.Request.Query.list + szL cPair x.Request.Cookies.list + 1 + 1 + szL cHeader x.Response.Headers.list)), .str (mtext (k + 1 + 1 + szL cFile x.Files.list + 1 + szL cPair x.Request.Query.list + szL cPair x.Request.Cookies.list + 1 + 1 + szL cHeader x.Response.Headers.list + 1))] := by
  simp [mkAnswer, TAnswer.encO, SL.marks_ref]
theorem mkAnswer_tags (k : Int) (x : TAnswer) : tags (mkAnswer k x).inn = tags x.inn := by
  have eT : ∀ X Y : List AObj, tags (X ++ Y) = tags X ++ tags Y := fun X Y => by simp [tags]
  simp only [TAnswer.inn, mkAnswer, eT, flat_marks (enc := TFile.enc) (w := 3) mkFile cFile, flat_marks (enc := TPair.enc) (w := 2) mkPair cPair, flat_marks (enc := THeader.enc) (w := 2) mkHeader cHeader]
theorem markAnswer_con1 {l : List TAnswer} (hz : szL cAnswer l ≤ 16777216) {k : Int} (hk : 0 ≤ k ∧ k ≤ 549755813888) (t c : Nat) :
    Con Tryz.prog 45 [.ref 0 t 11 l.length, .int .i64 k] (wood t 11 TAnswer.encO TAnswer.inn l) c fun r H' _ => r = .int .i64 (k + szL cAnswer l) ∧ H' = wood t 11 TAnswer.encO TAnswer.inn (mks mkAnswer cAnswer k l) := by
  have hln := szL_cAnswer l
  refine con_of c45 (by simp [F45]) ?_
  unfold F45
  simp
  refine loop_drop l.length (fun i e H c' => e 0 = .ref 0 t 11 l.length ∧ e 1 = .int .i64 (k + szL cAnswer (l.take i)) ∧ e 5 = .int .i64 i ∧ H = ⟨false, t, 11, (mixed mkAnswer cAnswer k l i).map TAnswer.encO⟩ :: (mixed mkAnswer cAnswer k l i).flatMap TAnswer.inn) ⟨rfl, by simp [szL], rfl, by rw [mixed_zero]; rfl⟩ ?_
  intro i e H c hi ⟨e0, e1, e5, hH⟩ N hN
  subst hH
  have hs := mixed_set mkAnswer cAnswer k l (i := i)
  have hst := fun h : i < l.length => szL_step cAnswer l h
  have hle := szL_le cAnswer l i
  have hle1 := szL_le cAnswer l (i + 1)
  have hfl := fun h : i < l.length => mixed_flat (mk := mkAnswer) (cnt := cAnswer) (k := k) (inn := TAnswer.inn) h
  have hfl' := fun h : i < l.length => mixed_flat' (mk := mkAnswer) (cnt := cAnswer) (k := k) (inn := TAnswer.inn) h
  generalize hjj : k + (szL cAnswer (l.take i) : Int) = j at e1 hs hfl'
  simp [e0, e1, e5]
  refine ⟨fun h => ?_, fun h => ?_⟩
  · have hs := hs h
    have hst := hst h
    have hg := mixed_get mkAnswer cAnswer k l h
    have hx := szL_mem (sz := cAnswer) (List.getElem_mem h)
    rw [hfl h]
    have hfl' := hfl' h
    generalize l[i] = x at hs hst hg hx hfl'
    generalize (mks mkAnswer cAnswer k (l.take i)).flatMap TAnswer.inn = PRE at hfl' ⊢
    generalize (l.drop (i + 1)).flatMap TAnswer.inn = POST at hfl' ⊢
    simp only [cAnswer] at hx hst
    have w0 : IntKind.i64.wrap (j + 1) = j + 1 := wrap64 (by omega) (by omega)
    have w1 : IntKind.i64.wrap (j + 1 + 1) = j + 1 + 1 := wrap64 (by omega) (by omega)
    have w3 : IntKind.i64.wrap (j + 1 + 1 + szL cFile x.Files.list + 1) = j + 1 + 1 + szL cFile x.Files.list + 1 := wrap64 (by omega) (by omega)
    have w6 : IntKind.i64.wrap (j + 1 + 1 + szL cFile x.Files.list + 1 + szL cPair x.Request.Query.list + szL cPair x.Request.Cookies.list + 1) = j + 1 + 1 + szL cFile x.Files.list + 1 + szL cPair x.Request.Query.list + szL cPair x.Request.Cookies.list + 1 := wrap64 (by omega) (by omega)
    have w7 : IntKind.i64.wrap (j + 1 + 1 + szL cFile x.Files.list + 1 + szL cPair x.Request.Query.list + szL cPair x.Request.Cookies.list + 1 + 1) = j + 1 + 1 + szL cFile x.Files.list + 1 + szL cPair x.Request.Query.list + szL cPair x.Request.Cookies.list + 1 + 1 := wrap64 (by omega) (by omega)
    have w9 : IntKind.i64.wrap (j + 1 + 1 + szL cFile x.Files.list + 1 + szL cPair x.Request.Query.list + szL cPair x.Request.Cookies.list + 1 + 1 + szL cHeader x.Response.Headers.list + 1) = j + 1 + 1 + szL cFile x.Files.list + 1 + szL cPair x.Request.Query.list + szL cPair x.Request.Cookies.list + 1 + 1 + szL cHeader x.Response.Headers.list + 1 := wrap64 (by omega) (by omega)
    have w10 : IntKind.i64.wrap (j + 1 + 1 + szL cFile x.Files.list + 1 + szL cPair x.Request.Query.list + szL cPair x.Request.Cookies.list + 1 + 1 + szL cHeader x.Response.Headers.list + 1 + 1) = j + 1 + 1 + szL cFile x.Files.list + 1 + szL cPair x.Request.Query.list + szL cPair x.Request.Cookies.list + 1 + 1 + szL cHeader x.Response.Headers.list + 1 + 1 := wrap64 (by omega) (by omega)
    refine ⟨h, x, hg, ?_⟩
    simp [e0, e1, e5, h, mixed_len, w0, w1, w3, w6, w7, w9, w10, putA, TAnswer.encO, TAnswer.inn]
    refine call_fn0 (mtext_fn (by omega)) .str fun _ _ => ?_
    simp [e0, e1, e5, h, mixed_len, w0, w1, w3, w6, w7, w9, w10, putA, TAnswer.encO, TAnswer.inn]
    refine call_midr (f := 40) (B := x.Files.wood 3 TFile.enc noInn) (markFile_con (s := x.Files) (by omega) (k := j + 1 + 1) ⟨by omega, by omega⟩ _) (Views.refl _ _) fun r B' c' hc ⟨q1, q2⟩ => ?_
    subst q1; subst q2
    refine ⟨flat_marks (enc := TFile.enc) (w := 3) mkFile cFile _ x.Files, .int, fun o ho => flat_free TFile.flat _ _ o ho _, ?_⟩
    simp [e0, e1, e5, h, mixed_len, w0, w1, w3, w6, w7, w9, w10, putA, TAnswer.encO, TAnswer.inn]
    refine call_fn0 (mtext_fn (by omega)) .str fun _ _ => ?_
    simp [e0, e1, e5, h, mixed_len, w0, w1, w3, w6, w7, w9, w10, putA, TAnswer.encO, TAnswer.inn]
    refine call_mid2 (f := 88) (B := x.Request.Query.wood 2 TPair.enc noInn) (markPair_con (s := x.Request.Query) (by omega) (k := j + 1 + 1 + szL cFile x.Files.list + 1) ⟨by omega, by omega⟩ _) (Views.refl _ _) fun r B' c' hc ⟨q1, q2⟩ => ?_
    subst q1; subst q2
    refine ⟨flat_marks (enc := TPair.enc) (w := 2) mkPair cPair _ x.Request.Query, .int, fun o ho => flat_free TPair.flat _ _ o ho _, ?_⟩
    simp [e0, e1, e5, h, mixed_len, w0, w1, w3, w6, w7, w9, w10, putA, TAnswer.encO, TAnswer.inn]
    refine call_mid3 (f := 88) (B := x.Request.Cookies.wood 2 TPair.enc noInn) (markPair_con (s := x.Request.Cookies) (by omega) (k := j + 1 + 1 + szL cFile x.Files.list + 1 + szL cPair x.Request.Query.list) ⟨by omega, by omega⟩ _) (Views.refl _ _) fun r B' c' hc ⟨q1, q2⟩ => ?_
    subst q1; subst q2
    refine ⟨flat_marks (enc := TPair.enc) (w := 2) mkPair cPair _ x.Request.Cookies, .int, fun o ho => flat_free TPair.flat _ _ o ho _, ?_⟩
    simp [e0, e1, e5, h, mixed_len, w0, w1, w3, w6, w7, w9, w10, putA, TAnswer.encO, TAnswer.inn]
    refine call_fn0 (mtext_fn (by omega)) .str fun _ _ => ?_
    simp [e0, e1, e5, h, mixed_len, w0, w1, w3, w6, w7, w9, w10, putA, TAnswer.encO, TAnswer.inn]
    refine call_mid4 (f := 89) (B := x.Response.Headers.wood 2 THeader.enc noInn) (markHeader_con (s := x.Response.Headers) (by omega) (k := j + 1 + 1 + szL cFile x.Files.list + 1 + szL cPair x.Request.Query.list + szL cPair x.Request.Cookies.list + 1 + 1) ⟨by omega, by omega⟩ _) (Views.refl _ _) fun r B' c' hc ⟨q1, q2⟩ => ?_
    subst q1; subst q2
    refine ⟨flat_marks (enc := THeader.enc) (w := 2) mkHeader cHeader _ x.Response.Headers, .int, fun o ho => flat_free THeader.flat _ _ o ho _, ?_⟩
    simp [e0, e1, e5, h, mixed_len, w0, w1, w3, w6, w7, w9, w10, putA, TAnswer.encO, TAnswer.inn]
    refine call_fn0 (mtext_fn (by omega)) .str fun _ _ => ?_
    simp [e0, e1, e5, h, mixed_len, w0, w1, w3, w6, w7, w9, w10, putA, TAnswer.encO, TAnswer.inn]
    refine call_fn0 (mtext_fn (by omega)) .str fun _ _ => ?_
    simp [e0, e1, e5, h, mixed_len, w0, w1, w3, w6, w7, w9, w10, putA, TAnswer.encO, TAnswer.inn]
    refine hN _ _ _ _ h (List.Sublist.refl _) ⟨by simp [upd, e0], ?_, by simp [upd]; exact step64 (by unfold mx; omega) h, ?_⟩
    · simp [upd, w0, w1, w3, w6, w7, w9, w10, hst]; omega
    · rw [hfl', ← hs, List.map_set, mkAnswer_encO]
      simp [mkAnswer, TAnswer.inn]
  · have h1 : i = l.length := by omega
    subst h1
    refine fin_all ⟨?_, ?_⟩
    · rw [← hjj]; simp
    · rw [mixed_all]; rfl
theorem markAnswer_con {s : SL TAnswer} (hz : szL cAnswer s.list ≤ 16777216) {k : Int} (hk : 0 ≤ k ∧ k ≤ 549755813888) (c : Nat) :
    Con Tryz.prog 45 [s.ref 11, .int .i64 k] (s.wood 11 TAnswer.encO TAnswer.inn) c fun r H' _ => r = .int .i64 (k + szL cAnswer s.list) ∧ H' = (s.marks mkAnswer cAnswer k).wood 11 TAnswer.encO TAnswer.inn := by
  cases s with
  | nil =>
    have := markAnswer_nil k c
    simpa [SL.ref, SL.wood, SL.marks, szL] using this
  | mk t l =>
    have := markAnswer_con1 (l := l) hz hk t c
    exact this
end A
end Go.Proofs.YtkcilmkienlnoaaGreatDoor

/-
  Servers kept as0 objects: printed by a program (wip/tools/genobj.py). No condition.
-/

namespace Go.Proofs.YtkcilmkienlnoaaGreatDoor
namespace A
set_option linter.unusedVariables false
set_option linter.unusedSimpArgs false
set_option maxRecDepth 100000

theorem view_OLine {S : List AObj} {s : SL TLine} (hs : ∀ o, o ∈ s.wood 4 TLine.encO TLine.inn → o ∈ S) : View S (s.ref 4) (s.av 4 TLine.enc) := view_line hs
def TServer.encO (s : TServer) : List AV := [s.Files.ref 3, s.Lines.ref 4, s.Sessions.ref 4, s.Queue.ref 5, s.Workers.ref 9, s.Done.ref 11, .int .i64 s.Next, .int .i64 s.Now]
def TServer.inn (s : TServer) : List AObj := s.Files.wood 3 TFile.enc noInn ++ (s.Lines.wood 4 TLine.encO TLine.inn ++ (s.Sessions.wood 4 TSession.enc noInn ++ (s.Queue.wood 5 TJob.encO TJob.inn ++ (s.Workers.wood 9 TWorker.encO TWorker.inn ++ (s.Done.wood 11 TAnswer.encO TAnswer.inn)))))
@[simp] theorem TServer.lenO (s : TServer) : s.encO.length = 8 := (rfl)
@[simp] theorem TServer.allO (s : TServer) : s.encO.take 8 = s.encO := (rfl)
@[simp] theorem TServer.o0 (s : TServer) (K : AV → Prop) : getW s.encO 0 K = K (s.Files.ref 3) := by simp [TServer.encO]
@[simp] theorem TServer.o1 (s : TServer) (K : AV → Prop) : getW s.encO 1 K = K (s.Lines.ref 4) := by simp [TServer.encO]
@[simp] theorem TServer.o2 (s : TServer) (K : AV → Prop) : getW s.encO 2 K = K (s.Sessions.ref 4) := by simp [TServer.encO]
@[simp] theorem TServer.o3 (s : TServer) (K : AV → Prop) : getW s.encO 3 K = K (s.Queue.ref 5) := by simp [TServer.encO]
@[simp] theorem TServer.o4 (s : TServer) (K : AV → Prop) : getW s.encO 4 K = K (s.Workers.ref 9) := by simp [TServer.encO]
@[simp] theorem TServer.o5 (s : TServer) (K : AV → Prop) : getW s.encO 5 K = K (s.Done.ref 11) := by simp [TServer.encO]
@[simp] theorem TServer.o6 (s : TServer) (K : AV → Prop) : getW s.encO 6 K = K (.int .i64 s.Next) := by simp [TServer.encO]
@[simp] theorem TServer.o7 (s : TServer) (K : AV → Prop) : getW s.encO 7 K = K (.int .i64 s.Now) := by simp [TServer.encO]
theorem TServer.freeO : ∀ (x : TServer) a, a ∈ x.encO → Free a := fun x a ha => by
  simp [TServer.encO] at ha
  rcases ha with rfl | rfl | rfl | rfl | rfl | rfl | rfl | rfl
  · exact free_ref _ _
  · exact free_ref _ _
  · exact free_ref _ _
  · exact free_ref _ _
  · exact free_ref _ _
  · exact free_ref _ _
  · exact free_int _ _
  · exact free_int _ _
theorem TServer.freeI : ∀ (x : TServer) o, o ∈ x.inn → ∀ T, AvRows T o := fun x o ho => by
  simp only [TServer.inn, List.mem_append] at ho
  rcases ho with ho | ho | ho | ho | ho | ho
  · exact flat_free TFile.flat _ _ o ho
  · exact free_wood TLine.freeO TLine.freeI _ o ho
  · exact flat_free TSession.flat _ _ o ho
  · exact free_wood TJob.freeO TJob.freeI _ o ho
  · exact free_wood TWorker.freeO TWorker.freeI _ o ho
  · exact free_wood TAnswer.freeO TAnswer.freeI _ o ho
theorem TServer.viewO {S : List AObj} (x : TServer) (h : ∀ o, o ∈ x.inn → o ∈ S) : ∀ (j : Nat) (a a' : AV), x.encO[j]? = some a → x.enc[j]? = some a' → View S a a' := fun j a a' h1 h2 => by
  match j, h1, h2 with
  | 0, h1, h2 => simp [TServer.encO] at h1; simp [TServer.enc] at h2; subst h1; subst h2; exact view_flat (fun o ho => h o (by simp [TServer.inn, ho])) TFile.flat.cells
  | 1, h1, h2 => simp [TServer.encO] at h1; simp [TServer.enc] at h2; subst h1; subst h2; exact view_OLine (fun o ho => h o (by simp [TServer.inn, ho]))
  | 2, h1, h2 => simp [TServer.encO] at h1; simp [TServer.enc] at h2; subst h1; subst h2; exact view_flat (fun o ho => h o (by simp [TServer.inn, ho])) TSession.flat.cells
  | 3, h1, h2 => simp [TServer.encO] at h1; simp [TServer.enc] at h2; subst h1; subst h2; exact view_OJob (fun o ho => h o (by simp [TServer.inn, ho]))
  | 4, h1, h2 => simp [TServer.encO] at h1; simp [TServer.enc] at h2; subst h1; subst h2; exact view_OWorker (fun o ho => h o (by simp [TServer.inn, ho]))
  | 5, h1, h2 => simp [TServer.encO] at h1; simp [TServer.enc] at h2; subst h1; subst h2; exact view_OAnswer (fun o ho => h o (by simp [TServer.inn, ho]))
  | 6, h1, h2 => simp [TServer.encO] at h1; simp [TServer.enc] at h2; subst h1; subst h2; exact .refl _
  | 7, h1, h2 => simp [TServer.encO] at h1; simp [TServer.enc] at h2; subst h1; subst h2; exact .refl _
  | j + 8, h1, h2 => simp [TServer.encO] at h1
theorem view_OServer {S : List AObj} {s : SL TServer} (hs : ∀ o, o ∈ s.wood 8 TServer.encO TServer.inn → o ∈ S) : View S (s.ref 8) (s.av 8 TServer.enc) :=
  view_wood hs (fun x => TServer.cells x) (fun _ => rfl) fun x h => TServer.viewO x h
theorem view_AServer {S : List AObj} {s : TServer} (hs : ∀ o, o ∈ s.inn → o ∈ S) : View S (.agg s.encO) (.agg s.enc) :=
  .agg rfl (fun j a ha => TServer.cells s a (List.mem_of_getElem? ha)) (TServer.viewO s hs)
theorem toServerO {x : TServer} (h : x.sz ≤ 1048576) (c : Nat) : Con Tryz.prog 6 [.agg x.enc] [] c fun r O _ => ∃ b : TServer, r = .agg b.encO ∧ O = b.inn ∧ b.con = x.con := by
  simp only [TServer.sz] at h
  refine con_of c6 (by simp [F6]) ?_
  unfold F6
  simp [putA]
  refine call_new (toFileSO (by omega) _) (Views.refl _ _) fun r1 O1 c1 hc1 ⟨b1, hr, hO, q1⟩ _ _ => ?_
  subst hr; subst hO
  refine ⟨_, .refl _, free_ref _ _ _, fun o ho => flat_free TFile.flat _ _ o ho _, ?_⟩
  simp [putA]
  refine call_new (toLineSO (by omega) _) (Views.refl _ _) fun r2 O2 c2 hc2 ⟨b2, hr, hO, q2⟩ _ _ => ?_
  subst hr; subst hO
  refine ⟨_, .refl _, free_ref _ _ _, fun o ho => free_wood TLine.freeO TLine.freeI _ o ho _, ?_⟩
  simp [putA]
  refine call_new (toSessionSO (by omega) _) (Views.refl _ _) fun r3 O3 c3 hc3 ⟨b3, hr, hO, q3⟩ _ _ => ?_
  subst hr; subst hO
  refine ⟨_, .refl _, free_ref _ _ _, fun o ho => flat_free TSession.flat _ _ o ho _, ?_⟩
  simp [putA]
  refine call_new (toJobSO (by omega) _) (Views.refl _ _) fun r4 O4 c4 hc4 ⟨b4, hr, hO, q4⟩ _ _ => ?_
  subst hr; subst hO
  refine ⟨_, .refl _, free_ref _ _ _, fun o ho => free_wood TJob.freeO TJob.freeI _ o ho _, ?_⟩
  simp [putA]
  refine call_new (toWorkerSO (by omega) _) (Views.refl _ _) fun r5 O5 c5 hc5 ⟨b5, hr, hO, q5⟩ _ _ => ?_
  subst hr; subst hO
  refine ⟨_, .refl _, free_ref _ _ _, fun o ho => free_wood TWorker.freeO TWorker.freeI _ o ho _, ?_⟩
  simp [putA]
  refine call_new (toAnswerSO (by omega) _) (Views.refl _ _) fun r6 O6 c6 hc6 ⟨b6, hr, hO, q6⟩ _ _ => ?_
  subst hr; subst hO
  refine ⟨_, .refl _, free_ref _ _ _, fun o ho => free_wood TAnswer.freeO TAnswer.freeI _ o ho _, ?_⟩
  simp [putA]
  refine fin_sub (Hk := b1.wood 3 TFile.enc noInn ++ (b2.wood 4 TLine.encO TLine.inn ++ (b3.wood 4 TSession.enc noInn ++ (b4.wood 5 TJob.encO TJob.inn ++ (b5.wood 9 TWorker.encO TWorker.inn ++ (b6.wood 11 TAnswer.encO TAnswer.inn)))))) ?_ (.refl _) ⟨⟨b1, b2, b3, b4, b5, b6, x.Next, x.Now⟩, rfl, by simp [TServer.inn], by simp [TServer.con, SL.con, SL.pcon, q1, q2, q3, q4, q5, q6]⟩
  exact ((List.Sublist.refl _).cons _).cons _ |>.cons _

theorem mark_inA {α : Type} {P : Program} {f w : Nat} {encO : α → List AV} {inn : α → List AObj} {mk : Int → α → α} {cnt : α → Nat} {K : AV → List AObj → Nat → Prop} {A C : List AObj} {s : SL α} {k n : Int} {c : Nat}
    (hf : Con P f [s.ref w, .int .i64 k] (s.wood w encO inn) c fun r H' _ => r = .int .i64 n ∧ H' = (s.marks mk cnt k).wood w encO inn)
    (hi : ∀ k x, tags (inn (mk k x)) = tags (inn x)) (hO : ∀ x a, a ∈ encO x → Free a) (hI : ∀ x o, o ∈ inn x → ∀ T, AvRows T o) {H X : List AObj} {B : AObj} (hH : H = A ++ (s.wood w encO inn ++ C)) (hX : A ++ ((s.marks mk cnt k).wood w encO inn ++ C) = X ++ [B]) (kk : ∀ c', c ≤ c' → K (.int .i64 n) (X ++ [B]) c') :
    CallW P f [s.ref w, .int .i64 k] H c K := by
  rw [hH, ← List.append_assoc]
  exact mark_mid hf hi hO hI fun c' h => by rw [List.append_assoc, hX]; exact kk c' h
theorem marks_wood_len {α : Type} {w : Nat} {encO : α → List AV} {inn : α → List AObj} {mk : Int → α → α} {cnt : α → Nat} (hi : ∀ k x, tags (inn (mk k x)) = tags (inn x)) (k : Int) (s : SL α) : ((s.marks mk cnt k).wood w encO inn).length = (s.wood w encO inn).length := by
  have := congrArg List.length (tags_wood (w := w) (encO := encO) (cnt := cnt) hi k s)
  simpa [tags] using this
theorem getW_endN {α : Type} {X : List α} {B : α} {n : Nat} (h : X.length = n) (K : α → Prop) : getW (X ++ [B]) n K = K B := getW_of (by rw [List.getElem?_append_right (by omega)]; simp [h]) K
def mkServer (k : Int) (s : TServer) : TServer := { s with
  Files := s.Files.marks mkFile cFile k
  Lines := s.Lines.marks mkLine cLine (k + szL cFile s.Files.list)
  Sessions := s.Sessions.marks mkSession cSession (k + szL cFile s.Files.list + szL cLine s.Lines.list)
  Queue := s.Queue.marks mkJob cJob (k + szL cFile s.Files.list + szL cLine s.Lines.list + szL cSession s.Sessions.list)
  Workers := s.Workers.marks mkWorker cWorker (k + szL cFile s.Files.list + szL cLine s.Lines.list + szL cSession s.Sessions.list + szL cJob s.Queue.list)
  Done := s.Done.marks mkAnswer cAnswer (k + szL cFile s.Files.list + szL cLine s.Lines.list + szL cSession s.Sessions.list + szL cJob s.Queue.list + szL cWorker s.Workers.list) }
def cServer (s : TServer) : Nat := szL cFile s.Files.list + szL cLine s.Lines.list + szL cSession s.Sessions.list + szL cJob s.Queue.list + szL cWorker s.Workers.list + szL cAnswer s.Done.list

theorem markServer_con {s : TServer} (hz : szL cFile s.Files.list ≤ 8388608 ∧ szL cLine s.Lines.list ≤ 8388608 ∧ szL cSession s.Sessions.list ≤ 8388608 ∧ szL cJob s.Queue.list ≤ 8388608 ∧ szL cWorker s.Workers.list ≤ 8388608 ∧ szL cAnswer s.Done.list ≤ 8388608) (hw : ∀ x, x ∈ s.Lines.list → x.Words.list.length ≤ 1048576) {k : Int} (hk : 0 ≤ k ∧ k ≤ 1048576) (c : Nat) :
    Con Tryz.prog 9 [.agg s.encO, .int .i64 k] s.inn c fun r O _ => r = .int .i64 (k + cServer s) ∧ O = (mkServer k s).inn := by
  obtain ⟨z1, z2, z3, z4, z5, z6⟩ := hz
  refine con_of c9 (by simp [F9]) ?_
  unfold F9
  simp
  generalize hn : s.inn.length = n
  unfold TServer.inn at hn ⊢
  have hn0 := hn
  simp only [List.length_append] at hn
  have l0 := marks_wood_len (w := 3) (encO := TFile.enc) (inn := noInn) (mk := mkFile) (cnt := cFile) (fun _ _ => rfl) (k) s.Files
  have l1 := marks_wood_len (w := 4) (encO := TLine.encO) (inn := TLine.inn) (mk := mkLine) (cnt := cLine) mkLine_tags (k + szL cFile s.Files.list) s.Lines
  have l2 := marks_wood_len (w := 4) (encO := TSession.enc) (inn := noInn) (mk := mkSession) (cnt := cSession) (fun _ _ => rfl) (k + szL cFile s.Files.list + szL cLine s.Lines.list) s.Sessions
  have l3 := marks_wood_len (w := 5) (encO := TJob.encO) (inn := TJob.inn) (mk := mkJob) (cnt := cJob) mkJob_tags (k + szL cFile s.Files.list + szL cLine s.Lines.list + szL cSession s.Sessions.list) s.Queue
  have l4 := marks_wood_len (w := 9) (encO := TWorker.encO) (inn := TWorker.inn) (mk := mkWorker) (cnt := cWorker) mkWorker_tags (k + szL cFile s.Files.list + szL cLine s.Lines.list + szL cSession s.Sessions.list + szL cJob s.Queue.list) s.Workers
  have l5 := marks_wood_len (w := 11) (encO := TAnswer.encO) (inn := TAnswer.inn) (mk := mkAnswer) (cnt := cAnswer) mkAnswer_tags (k + szL cFile s.Files.list + szL cLine s.Lines.list + szL cSession s.Sessions.list + szL cJob s.Queue.list + szL cWorker s.Workers.list) s.Done
  obtain ⟨X0, hX0⟩ : ∃ X : List AObj, X = ((s.Files.marks mkFile cFile (k)).wood 3 TFile.enc noInn) ++ ((s.Lines.wood 4 TLine.encO TLine.inn) ++ ((s.Sessions.wood 4 TSession.enc noInn) ++ ((s.Queue.wood 5 TJob.encO TJob.inn) ++ ((s.Workers.wood 9 TWorker.encO TWorker.inn) ++ ((s.Done.wood 11 TAnswer.encO TAnswer.inn)))))) := ⟨_, rfl⟩
  have hl0 : X0.length = n := by rw [hX0]; simp only [List.length_append]; omega
  refine mark_inA (A := []) (C := (s.Lines.wood 4 TLine.encO TLine.inn) ++ ((s.Sessions.wood 4 TSession.enc noInn) ++ ((s.Queue.wood 5 TJob.encO TJob.inn) ++ ((s.Workers.wood 9 TWorker.encO TWorker.inn) ++ ((s.Done.wood 11 TAnswer.encO TAnswer.inn) ++ ([(⟨false, c, 8, [s.encO]⟩ : AObj)])))))) (markFile_con (s := s.Files) (by omega) (k := k) ⟨by omega, by omega⟩ _) (fun _ _ => rfl) (fun x a ha => (TFile.flat x a ha).2) (fun x o ho => by cases ho) (X := X0) (B := ⟨false, c, 8, [s.encO]⟩) (by simp) (by rw [hX0]; simp) fun c0 _ => ?_
  simp [getW_endN hl0]
  obtain ⟨X1, hX1⟩ : ∃ X : List AObj, X = ((s.Files.marks mkFile cFile (k)).wood 3 TFile.enc noInn) ++ (((s.Lines.marks mkLine cLine (k + szL cFile s.Files.list)).wood 4 TLine.encO TLine.inn) ++ ((s.Sessions.wood 4 TSession.enc noInn) ++ ((s.Queue.wood 5 TJob.encO TJob.inn) ++ ((s.Workers.wood 9 TWorker.encO TWorker.inn) ++ ((s.Done.wood 11 TAnswer.encO TAnswer.inn)))))) := ⟨_, rfl⟩
  have hl1 : X1.length = n := by rw [hX1]; simp only [List.length_append]; omega
  refine mark_inA (A := ((s.Files.marks mkFile cFile (k)).wood 3 TFile.enc noInn)) (C := (s.Sessions.wood 4 TSession.enc noInn) ++ ((s.Queue.wood 5 TJob.encO TJob.inn) ++ ((s.Workers.wood 9 TWorker.encO TWorker.inn) ++ ((s.Done.wood 11 TAnswer.encO TAnswer.inn) ++ ([(⟨false, c, 8, [s.encO]⟩ : AObj)]))))) (markLine_con (s := s.Lines) (by omega) hw (k := k + szL cFile s.Files.list) ⟨by omega, by omega⟩ _) mkLine_tags TLine.freeO TLine.freeI (X := X1) (B := ⟨false, c, 8, [s.encO]⟩) (by rw [hX0]; simp) (by rw [hX1]; simp) fun c1 _ => ?_
  simp [getW_endN hl1]
  obtain ⟨X2, hX2⟩ : ∃ X : List AObj, X = ((s.Files.marks mkFile cFile (k)).wood 3 TFile.enc noInn) ++ (((s.Lines.marks mkLine cLine (k + szL cFile s.Files.list)).wood 4 TLine.encO TLine.inn) ++ (((s.Sessions.marks mkSession cSession (k + szL cFile s.Files.list + szL cLine s.Lines.list)).wood 4 TSession.enc noInn) ++ ((s.Queue.wood 5 TJob.encO TJob.inn) ++ ((s.Workers.wood 9 TWorker.encO TWorker.inn) ++ ((s.Done.wood 11 TAnswer.encO TAnswer.inn)))))) := ⟨_, rfl⟩
  have hl2 : X2.length = n := by rw [hX2]; simp only [List.length_append]; omega
  refine mark_inA (A := ((s.Files.marks mkFile cFile (k)).wood 3 TFile.enc noInn) ++ (((s.Lines.marks mkLine cLine (k + szL cFile s.Files.list)).wood 4 TLine.encO TLine.inn))) (C := (s.Queue.wood 5 TJob.encO TJob.inn) ++ ((s.Workers.wood 9 TWorker.encO TWorker.inn) ++ ((s.Done.wood 11 TAnswer.encO TAnswer.inn) ++ ([(⟨false, c, 8, [s.encO]⟩ : AObj)])))) (markSession_con (s := s.Sessions) (by omega) (k := k + szL cFile s.Files.list + szL cLine s.Lines.list) ⟨by omega, by omega⟩ _) (fun _ _ => rfl) (fun x a ha => (TSession.flat x a ha).2) (fun x o ho => by cases ho) (X := X2) (B := ⟨false, c, 8, [s.encO]⟩) (by rw [hX1]; simp) (by rw [hX2]; simp) fun c2 _ => ?_
  simp [getW_endN hl2]
  obtain ⟨X3, hX3⟩ : ∃ X : List AObj, X = ((s.Files.marks mkFile cFile (k)).wood 3 TFile.enc noInn) ++ (((s.Lines.marks mkLine cLine (k + szL cFile s.Files.list)).wood 4 TLine.encO TLine.inn) ++ (((s.Sessions.marks mkSession cSession (k + szL cFile s.Files.list + szL cLine s.Lines.list)).wood 4 TSession.enc noInn) ++ (((s.Queue.marks mkJob cJob (k + szL cFile s.Files.list + szL cLine s.Lines.list + szL cSession s.Sessions.list)).wood 5 TJob.encO TJob.inn) ++ ((s.Workers.wood 9 TWorker.encO TWorker.inn) ++ ((s.Done.wood 11 TAnswer.encO TAnswer.inn)))))) := ⟨_, rfl⟩
  have hl3 : X3.length = n := by rw [hX3]; simp only [List.length_append]; omega
  refine mark_inA (A := ((s.Files.marks mkFile cFile (k)).wood 3 TFile.enc noInn) ++ (((s.Lines.marks mkLine cLine (k + szL cFile s.Files.list)).wood 4 TLine.encO TLine.inn) ++ (((s.Sessions.marks mkSession cSession (k + szL cFile s.Files.list + szL cLine s.Lines.list)).wood 4 TSession.enc noInn)))) (C := (s.Workers.wood 9 TWorker.encO TWorker.inn) ++ ((s.Done.wood 11 TAnswer.encO TAnswer.inn) ++ ([(⟨false, c, 8, [s.encO]⟩ : AObj)]))) (markJob_con (s := s.Queue) (by omega) (k := k + szL cFile s.Files.list + szL cLine s.Lines.list + szL cSession s.Sessions.list) ⟨by omega, by omega⟩ _) mkJob_tags TJob.freeO TJob.freeI (X := X3) (B := ⟨false, c, 8, [s.encO]⟩) (by rw [hX2]; simp) (by rw [hX3]; simp) fun c3 _ => ?_
  simp [getW_endN hl3]
  obtain ⟨X4, hX4⟩ : ∃ X : List AObj, X = ((s.Files.marks mkFile cFile (k)).wood 3 TFile.enc noInn) ++ (((s.Lines.marks mkLine cLine (k + szL cFile s.Files.list)).wood 4 TLine.encO TLine.inn) ++ (((s.Sessions.marks mkSession cSession (k + szL cFile s.Files.list + szL cLine s.Lines.list)).wood 4 TSession.enc noInn) ++ (((s.Queue.marks mkJob cJob (k + szL cFile s.Files.list + szL cLine s.Lines.list + szL cSession s.Sessions.list)).wood 5 TJob.encO TJob.inn) ++ (((s.Workers.marks mkWorker cWorker (k + szL cFile s.Files.list + szL cLine s.Lines.list + szL cSession s.Sessions.list + szL cJob s.Queue.list)).wood 9 TWorker.encO TWorker.inn) ++ ((s.Done.wood 11 TAnswer.encO TAnswer.inn)))))) := ⟨_, rfl⟩
  have hl4 : X4.length = n := by rw [hX4]; simp only [List.length_append]; omega
  refine mark_inA (A := ((s.Files.marks mkFile cFile (k)).wood 3 TFile.enc noInn) ++ (((s.Lines.marks mkLine cLine (k + szL cFile s.Files.list)).wood 4 TLine.encO TLine.inn) ++ (((s.Sessions.marks mkSession cSession (k + szL cFile s.Files.list + szL cLine s.Lines.list)).wood 4 TSession.enc noInn) ++ (((s.Queue.marks mkJob cJob (k + szL cFile s.Files.list + szL cLine s.Lines.list + szL cSession s.Sessions.list)).wood 5 TJob.encO TJob.inn))))) (C := (s.Done.wood 11 TAnswer.encO TAnswer.inn) ++ ([(⟨false, c, 8, [s.encO]⟩ : AObj)])) (markWorker_con (s := s.Workers) (by omega) (k := k + szL cFile s.Files.list + szL cLine s.Lines.list + szL cSession s.Sessions.list + szL cJob s.Queue.list) ⟨by omega, by omega⟩ _) mkWorker_tags TWorker.freeO TWorker.freeI (X := X4) (B := ⟨false, c, 8, [s.encO]⟩) (by rw [hX3]; simp) (by rw [hX4]; simp) fun c4 _ => ?_
  simp [getW_endN hl4]
  obtain ⟨X5, hX5⟩ : ∃ X : List AObj, X = ((s.Files.marks mkFile cFile (k)).wood 3 TFile.enc noInn) ++ (((s.Lines.marks mkLine cLine (k + szL cFile s.Files.list)).wood 4 TLine.encO TLine.inn) ++ (((s.Sessions.marks mkSession cSession (k + szL cFile s.Files.list + szL cLine s.Lines.list)).wood 4 TSession.enc noInn) ++ (((s.Queue.marks mkJob cJob (k + szL cFile s.Files.list + szL cLine s.Lines.list + szL cSession s.Sessions.list)).wood 5 TJob.encO TJob.inn) ++ (((s.Workers.marks mkWorker cWorker (k + szL cFile s.Files.list + szL cLine s.Lines.list + szL cSession s.Sessions.list + szL cJob s.Queue.list)).wood 9 TWorker.encO TWorker.inn) ++ (((s.Done.marks mkAnswer cAnswer (k + szL cFile s.Files.list + szL cLine s.Lines.list + szL cSession s.Sessions.list + szL cJob s.Queue.list + szL cWorker s.Workers.list)).wood 11 TAnswer.encO TAnswer.inn)))))) := ⟨_, rfl⟩
  have hl5 : X5.length = n := by rw [hX5]; simp only [List.length_append]; omega
  refine mark_inA (A := ((s.Files.marks mkFile cFile (k)).wood 3 TFile.enc noInn) ++ (((s.Lines.marks mkLine cLine (k + szL cFile s.Files.list)).wood 4 TLine.encO TLine.inn) ++ (((s.Sessions.marks mkSession cSession (k + szL cFile s.Files.list + szL cLine s.Lines.list)).wood 4 TSession.enc noInn) ++ (((s.Queue.marks mkJob cJob (k + szL cFile s.Files.list + szL cLine s.Lines.list + szL cSession s.Sessions.list)).wood 5 TJob.encO TJob.inn) ++ (((s.Workers.marks mkWorker cWorker (k + szL cFile s.Files.list + szL cLine s.Lines.list + szL cSession s.Sessions.list + szL cJob s.Queue.list)).wood 9 TWorker.encO TWorker.inn)))))) (C := [(⟨false, c, 8, [s.encO]⟩ : AObj)]) (markAnswer_con (s := s.Done) (by omega) (k := k + szL cFile s.Files.list + szL cLine s.Lines.list + szL cSession s.Sessions.list + szL cJob s.Queue.list + szL cWorker s.Workers.list) ⟨by omega, by omega⟩ _) mkAnswer_tags TAnswer.freeO TAnswer.freeI (X := X5) (B := ⟨false, c, 8, [s.encO]⟩) (by rw [hX4]; simp) (by rw [hX5]; simp) fun c5 _ => ?_
  simp [getW_endN hl5]
  refine fin_sub (Hk := X5) (List.sublist_append_left _ _) (.refl _) ⟨?_, ?_⟩
  · simp [cServer]; omega
  · rw [hX5]; rfl
end A
end Go.Proofs.YtkcilmkienlnoaaGreatDoor
