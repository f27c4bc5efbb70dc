/-
  Slices handed back as objects, and the same seen as trees; appends. No condition.
-/
import Derived.Test.YtfcimcoanlgldaaMark
namespace Go.Proofs.Ytfcimcoanlgldaa
namespace A
set_option linter.unusedVariables false
set_option linter.unusedSimpArgs false

theorem szL_const {α : Type} (n : Nat) (l : List α) : szL (fun _ => n) l = n * l.length := by
  induction l with
  | nil => simp [szL]
  | cons x l ih => simp [szL] at ih ⊢; rw [Nat.mul_add]; omega

section
variable {P : Program} {H : List AObj} {c : Nat} {K : AV → List AObj → Nat → Prop}
@[simp] theorem srcW_slc (wd t w : Nat) (rows : List (List AV)) (K : List (List AV) → Prop) : srcW wd (.slc t w rows) H K = (w = wd ∧ K rows) := (rfl)
@[simp] theorem srcW_nsl (wd : Nat) (K : List (List AV) → Prop) : srcW wd .nsl H K = K [] := (rfl)
@[simp] theorem srcW_str (wd : Nat) (l : List UInt8) (K : List (List AV) → Prop) : srcW wd (.str l) H K = (wd = 1 ∧ K (l.map byteRow)) := (rfl)
@[simp] theorem srcW_ref (wd j t w n : Nat) (K : List (List AV) → Prop) : srcW wd (.ref j t w n) H K = (w = wd ∧ getW H j fun ob => ob.tag = t ∧ ob.mp = false ∧ ob.w = w ∧ n ≤ ob.rows.length ∧ K (ob.rows.take n)) := (rfl)
@[simp] theorem srcW_sl {α : Type} (w : Nat) (f : α → List AV) (s : SL α) (K : List (List AV) → Prop) : srcW w (s.av w f) H K = K (s.list.map f) := by
  cases s <;> simp [SL.av]
@[simp] theorem appendW_ref (wd b i t w n : Nat) (y : AV) : appendW wd b (.ref i t w n) y H c K = srcW wd y H fun rows' => w = wd ∧ getW H i fun ob => ob.tag = t ∧ ob.mp = false ∧ ob.w = w ∧ ob.rows.length = n ∧ (n + rows'.length) * b ≤ 140737488355328 ∧ n + rows'.length ≤ mx ∧
        K (.ref i c wd (n + rows'.length)) (H.set i ⟨false, c, wd, ob.rows ++ rows'⟩) (c + 1) := (rfl)
@[simp] theorem appendW_nsl (wd b : Nat) (y : AV) : appendW wd b .nsl y H c K = srcW wd y H fun rows' => (rows' = [] → K .nsl H c) ∧ (rows' ≠ [] → rows'.length * b ≤ 140737488355328 ∧ rows'.length ≤ mx ∧ K (.ref H.length c wd rows'.length) (H ++ [⟨false, c, wd, rows'⟩]) (c + 1)) := (rfl)

theorem tr_fn {f : Nat} {l : List AV} {res : AV} (hf : Fnc P f l res) (hfr : ∀ c, From c res) : Tr P f l fun _ r => r = res := fun c => (hf c).mono fun r H' c' _ ⟨h1, h2⟩ => ⟨h2, h1, h1 ▸ hfr c⟩
theorem callD_fn0 {R : AV → Prop} {f : Nat} {l : List AV} {K : AV → Prop} {res : AV} (hf : Fnc P f l res) (hR : ∀ v, R v ↔ v = res) (hfr : ∀ c, From c res) (k : K res) : callD P R f l H c K :=
  ⟨l, Views.refl _ _, (fun c => (hf c).mono fun r H' c' _ ⟨h1, h2⟩ => ⟨h2, (hR r).2 h1, h1 ▸ hfr c⟩), ⟨res, (hR res).2 rfl, hfr c⟩, fun r hr _ => by rw [(hR r).1 hr]; exact k⟩
theorem callD_tree0 {R : AV → Prop} {f : Nat} {l : List AV} {K : AV → Prop} (hf : Tr P f l fun _ r => R r) (hx : ∃ r, R r ∧ From c r) (k : ∀ r, R r → From c r → K r) : callD P R f l H c K := ⟨l, Views.refl _ _, hf, hx, k⟩

theorem toStrW_ref {i t n : Nat} {l : List UInt8} {K : AV → Prop} (ho : H[i]? = some ⟨false, t, 1, l.map byteRow⟩) (hn : l.length = n) (hl : l.length ≤ mx) (k : K (.str l)) : toStrW (.ref i t 1 n) H K := by
  unfold toStrW
  simp only [srcW_ref]
  exact ⟨trivial, _, ho, rfl, rfl, rfl, by simp; omega, l, by rw [← hn]; exact List.take_of_length_le (by simp), hl, k⟩
theorem wrap_u8 {n : Nat} (h : n < 256) : IntKind.u8.wrap (IntKind.i64.wrap n) = ((UInt8.ofNat n).toNat : Int) := by
  rw [wrap64 (by omega) (by omega), IntKind.wrap_u8]
  simp [UInt8.toNat_ofNat']
/-- What a call gives, seen otherwise behind it. -/
theorem Con.fin {f : Nat} {args : List AV} {Q Q' : AV → List AObj → Nat → Prop} (h : Con P f args H c Q)
    (k : ∀ r H' c', c ≤ c' → Q r H' c' → (∀ t, t < c → t ∈ tags H' → t ∈ tags H) → (tags H').Nodup → finW Q' r H' c') : Con P f args H c Q' := by
  intro G w vs e I hs hr
  refine (h G w vs e I hs hr).mono fun en w' ⟨v, res, H', G1, h1, h2, x1, I1, r1⟩ => ?_
  subst e
  obtain ⟨S, Hk, Hk', v', q1, qr, q2, q3, q4, q5⟩ := k res H' G1.c x1.x.c h2 x1.oldH I1.nodup
  have hS : ∀ t, t ∈ tags S → t ∈ tags H' := fun t ht => by obtain ⟨o, ho, rfl⟩ := of_mem_tags ht; exact mem_tags (q2 o ho)
  exact ⟨v, v', Hk', G1.freeze S, h1, q5, ⟨x1.x.trans (Ext1.freeze _ _ _), x1.os, x1.tape, x1.output, x1.size, x1.frame, x1.newm, fun t h1 h2 => x1.oldH t h1 ((q1.map _).subset (by rw [qr.tags_eq] at h2; exact h2)), fun t h1 h2 => by
    rcases h2 with h2 | h2
    · exact x1.oldF t h1 h2
    · exact .inr (x1.oldH t h1 (hS t h2))⟩, I1.ren q1.subset q2 (I1.freeze q1 q2 q3) qr, q4.rep I1 q2 r1⟩

/-- A function that hands back objects of its own hands back trees of its own. -/
theorem tr_of {f : Nat} {args : List AV} {Q : AV → List AObj → Nat → Prop} {Q' : Nat → AV → Prop} (h : ∀ c, Con P f args [] c Q)
    (k : ∀ c r O c', c ≤ c' → Q r O c' → (∀ t, t ∈ tags O → c ≤ t) → ∃ v', View O r v' ∧ Q' c v' ∧ From c v') : Tr P f args Q' := by
  intro c
  refine (h c).fin fun r O c' hc hq ho hd => ?_
  obtain ⟨v', h1, h2, h3⟩ := k c r O c' hc hq fun t ht => by
    rcases Nat.lt_or_ge t c with h | h
    · have := ho t h ht; simp [tags] at this
    · exact h
  exact ⟨O, [], [], v', List.nil_sublist _, .nil, fun _ h => h, by simp [tags], h1, rfl, h2, h3⟩

theorem free_tup {l : List AV} (h : ∀ a, a ∈ l → Free a) : Free (.tup l) := fun T => .tup fun j a ha => h a (List.mem_of_getElem? ha) T
theorem free_bool (b : Bool) : Free (.bool b) := fun _ => .bool
theorem free_int (k : IntKind) (n : Int) : Free (.int k n) := fun _ => .int
theorem free_str (l : List UInt8) : Free (.str l) := fun _ => .str
theorem view_tup {S : List AObj} {l l' : List AV} (h : Views S l l') : View S (.tup l) (.tup l') := .tup h.spec.1 h.spec.2
theorem from_tup {c : Nat} {l : List AV} (h : ∀ a, a ∈ l → From c a) : From c (.tup l) := fun T hT => .tup fun j a ha => h a (List.mem_of_getElem? ha) T hT

section
variable {α : Type}
/-- A slice as an object at a place of the state. -/
def SL.at_ (i w : Nat) : SL α → AV
  | .nil => .nsl
  | .mk t xs => .ref i t w xs.length
theorem view_at (i w : Nat) (s : SL α) (S : List AObj) : View S (s.ref w) (s.at_ i w) := by cases s <;> constructor
theorem view_at' (i w : Nat) (s : SL α) (S : List AObj) : View S (s.at_ i w) (s.ref w) := by cases s <;> constructor
@[simp] theorem at_len (i w : Nat) (s : SL α) (K : AV → Prop) : lenSlcW (s.at_ i w) K = K (.int .i64 s.list.length) := by cases s <;> rfl
@[simp] theorem at_cells (i w : Nat) (s : SL α) (K : List AV → Prop) : cellsW (s.at_ i w) K = K [s.at_ i w] := by cases s <;> rfl
@[simp] theorem ref_cells (w : Nat) (s : SL α) (K : List AV → Prop) : cellsW (s.ref w) K = K [s.ref w] := by cases s <;> rfl
@[simp] theorem cell_at (i w : Nat) (s : SL α) : (s.at_ i w).cell = true := by cases s <;> rfl
@[simp] theorem cell_ref (w : Nat) (s : SL α) : (s.ref w).cell = true := by cases s <;> rfl
theorem isnl_av (neg : Bool) (w : Nat) (f : α → List AV) (s : SL α) (K : AV → Prop) (h0 : s.list = [] → K (.bool (true != neg))) (h1 : K (.bool (false != neg))) : isnlW neg (s.av w f) K := by
  cases s with
  | nil => exact h0 rfl
  | mk t l => cases l with
    | nil => exact ⟨h0 rfl, h1⟩
    | cons x l => exact h1

/-- Flat elements: cells that hang on nothing. -/
def Flat (enc : α → List AV) : Prop := ∀ x a, a ∈ enc x → a.cell = true ∧ Free a
theorem Flat.cells {enc : α → List AV} (h : Flat enc) : ∀ x a, a ∈ enc x → a.cell = true := fun x a ha => (h x a ha).1
theorem Free.from {a : AV} (h : Free a) (c : Nat) : From c a := fun T _ => h T
theorem flat_wood (t w : Nat) (enc : α → List AV) (l : List α) : (SL.mk t l).wood w enc noInn = [⟨false, t, w, l.map enc⟩] := wood_flat ..
theorem flat_free {enc : α → List AV} (h : Flat enc) (w : Nat) (s : SL α) : ∀ o, o ∈ s.wood w enc noInn → ∀ T, AvRows T o :=
  free_wood (fun x a ha => (h x a ha).2) (fun x o ho => by cases ho) s
theorem flat_from {enc : α → List AV} (h : Flat enc) {w c : Nat} {s : SL α} (ht : ∀ t, t ∈ tags (s.wood w enc noInn) → c ≤ t) : From c (s.av w enc) := by
  cases s with
  | nil => exact from_nsl c
  | mk t l =>
    refine from_slc (ht t ?_) fun row hr a ha => ?_
    · rw [flat_wood]; simp [tags]
    · obtain ⟨x, _, rfl⟩ := List.mem_map.1 hr
      exact ((h x a ha).2).from c
theorem flat_tr {enc : α → List AV} (hE : Flat enc) {w : Nat} {f : Nat} {args : List AV} {Q : SL α → Prop} (h : ∀ c, Con P f args [] c fun r O _ => ∃ b : SL α, r = b.ref w ∧ O = b.wood w enc noInn ∧ Q b) :
    Tr P f args fun _ r => ∃ b : SL α, r = b.av w enc ∧ Q b :=
  tr_of h fun c r O c' _ ⟨b, h1, h2, h3⟩ ht => ⟨b.av w enc, by rw [h1]; exact view_flat (by rw [h2]; exact fun _ h => h) hE.cells, ⟨b, rfl, h3⟩, flat_from hE (by rw [← h2]; exact ht)⟩
/-- The same with more results, which hang on nothing. -/
theorem flat_tr2 {enc : α → List AV} (hE : Flat enc) {w : Nat} {f : Nat} {args : List AV} {Q : SL α → List AV → Prop} (hF : ∀ b l, Q b l → ∀ a, a ∈ l → Free a)
    (h : ∀ c, Con P f args [] c fun r O _ => ∃ (b : SL α) (l : List AV), r = .tup (b.ref w :: l) ∧ O = b.wood w enc noInn ∧ Q b l) :
    Tr P f args fun _ r => ∃ (b : SL α) (l : List AV), r = .tup (b.av w enc :: l) ∧ Q b l :=
  tr_of h fun c r O c' _ ⟨b, l, h1, h2, h3⟩ ht => ⟨.tup (b.av w enc :: l), by rw [h1]; exact view_tup (.cons (view_flat (by rw [h2]; exact fun _ h => h) hE.cells) (Views.refl _ _)), ⟨b, l, rfl, h3⟩,
    from_tup fun a ha => by
      rcases List.mem_cons.1 ha with rfl | ha
      · exact flat_from hE (by rw [← h2]; exact ht)
      · exact (hF b l h3 a ha).from c⟩

theorem flat_marks {enc : α → List AV} {w : Nat} (mk : Int → α → α) (cnt : α → Nat) (k : Int) (s : SL α) : tags ((s.marks mk cnt k).wood w enc noInn) = tags (s.wood w enc noInn) := tags_wood (inn := noInn) (mk := mk) (cnt := cnt) (fun _ _ => rfl) k s
end
end
end A
end Go.Proofs.Ytfcimcoanlgldaa
