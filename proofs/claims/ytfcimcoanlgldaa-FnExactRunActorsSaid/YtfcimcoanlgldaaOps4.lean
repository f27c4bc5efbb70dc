/-
  Structs and slices written out, fields, indexes, parts of strings and slices, lengths, append, make, conversions: what each operation does to abstract values, and that the model's does so. No condition.
-/
import Derived.Test.YtfcimcoanlgldaaOps3
namespace Go.Proofs.Ytfcimcoanlgldaa
namespace A
set_option linter.unusedVariables false
inductive F2 {α β : Type} (R : α → β → Prop) : List α → List β → Prop
  | nil : F2 R [] []
  | cons {a : α} {b : β} {l : List α} {m : List β} (h : R a b) (t : F2 R l m) : F2 R (a :: l) (b :: m)

section
variable {P : Program} {G : Gh} {H : List AObj} {w : World} {K : AV → List AObj → Nat → Prop}

/-! ### structs and slices written out -/
/-- A row of concrete cells stands for a row of abstract ones. -/
def RowRep (G : Gh) (h : Array Obj) (cs : Array Value) (l : List AV) : Prop := cs.size = l.length ∧ ∀ (j : Nat) (b : AV), l[j]? = some b → b.cell = true ∧ Rep G h (cs.getD j undef) b

theorem getD_of {cs : Array Value} {j : Nat} {v : Value} (h : cs[j]? = some v) : cs.getD j undef = v := by
  obtain ⟨hl, he⟩ := Array.getElem?_eq_some_iff.1 h
  simp [Array.getD, hl, he]
theorem of_getD {cs : Array Value} {j : Nat} (h : j < cs.size) : cs[j]? = some (cs.getD j undef) := by simp [Array.getD, h]

theorem RowRep.put {h : Array Obj} {cs : Array Value} {l : List AV} (r : RowRep G h cs l) {v : Value} {m : List AV} {off : Nat} (hv : RowRep G h v.cells m) (hl : off + m.length ≤ l.length) :
    RowRep G h (putCells cs off v.cells.toList) (putA l off m) := by
  have hvl : v.cells.toList.length = m.length := by simpa using hv.1
  refine ⟨by rw [putCells_size, putA_length _ _ _ hl]; exact r.1, fun j b hj => ?_⟩
  by_cases hin : off ≤ j ∧ j < off + m.length
  · obtain ⟨q, rfl⟩ : ∃ q, j = off + q := ⟨j - off, by omega⟩
    rw [putA_in _ _ _ hl q (by omega)] at hj
    have hq := hv.2 q b hj
    have hz : v.cells.toList[q]? = some (v.cells.getD q undef) := by
      rw [Array.getElem?_toList]; exact of_getD (by have := hv.1; omega)
    rw [getD_of (putCells_in _ _ _ _ _ (by have := r.1; omega) hz)]
    exact hq
  · rw [putA_out _ _ _ hl j (by omega)] at hj
    have hjl := (List.getElem?_eq_some_iff.1 hj).1
    rw [getD_of (cs := putCells cs off v.cells.toList) (v := cs.getD j undef) (by rw [putCells_out _ _ _ _ (by omega)]; exact of_getD (by have := r.1; omega))]
    exact r.2 j b hj

theorem fold_put (off : Nat) : ∀ (l : List Value) (k : Nat) (cells : Array Value), (l.zipIdx k).foldl (fun cs (x : Value × Nat) => cs.setIfInBounds (off + x.2) x.1) cells = putCells cells (off + k) l := by
  intro l
  induction l with
  | nil => intro k cells; rfl
  | cons v l ih =>
    intro k cells
    simp only [List.zipIdx_cons, List.foldl_cons, putCells]
    rw [ih (k + 1) _]
    rfl

theorem fold_putA (off : Nat) (v cells : Array Value) : (v.zipIdx.foldl (fun cs (x : Value × Nat) => cs.setIfInBounds (off + x.2) x.1) cells) = putCells cells off v.toList := by
  rw [← Array.foldl_toList, Array.toList_zipIdx]
  exact fold_put off v.toList 0 cells

def fillW (cells : List AV) : List (Nat × Nat × AV) → (List AV → Prop) → Prop
  | [], K => K cells
  | (off, n, v) :: rest, K => cellsW v fun l => l.length = n ∧ off + n ≤ cells.length ∧ fillW (putA cells off l) rest K

theorem fill_sound {h : Array Obj} {place : Nat → Option (Nat × Nat)} {K : List AV → Prop} : ∀ (parts : List (Nat × Value)) (ps : List (Nat × Nat × AV)) (cs : Array Value) (l : List AV), RowRep G h cs l →
    F2 (fun p q => place p.1 = some (q.1, q.2.1) ∧ Rep G h p.2 q.2.2) parts ps → fillW l ps K → ∃ cs' l', Instr.fill place cs parts = some cs' ∧ RowRep G h cs' l' ∧ K l' := by
  intro parts
  induction parts with
  | nil => intro ps cs l r f k; cases f; exact ⟨cs, l, rfl, r, k⟩
  | cons p parts ih =>
    intro ps cs l r f k
    cases f with
    | cons hp hf =>
      rename_i q qs
      obtain ⟨i, v⟩ := p
      obtain ⟨off, n, a⟩ := q
      obtain ⟨m, ⟨hm, hl, k'⟩, h1, h2⟩ := cellsW_rep hp.2 k
      have hv : RowRep G h v.cells m := ⟨h1, h2⟩
      have r' := r.put hv (off := off) (by omega)
      obtain ⟨cs', l', e, r'', k''⟩ := ih qs _ _ r' hf k'
      refine ⟨cs', l', ?_, r'', k''⟩
      have hpl : place i = some (off, n) := hp.1
      simp only [Instr.fill, hpl]
      have h1' : v.cells.size = m.length := h1
      have h0 := r.1
      rw [if_neg (by simp; omega), fold_putA]
      exact e

def placeOf (P : Program) (t : TypeId) (i : Nat) : Option (Nat × Nat) :=
  match P.underlying t with
  | some (.struct fs) => match fs[i]? with
    | some f => (P.info? f.type).map fun x => (f.offset, x.size)
    | none => none
  | some (.array _ e) => (P.info? e).map fun x => (i * x.size, x.size)
  | _ => none

/-- All the fields' types are known (the model looks at every one). -/
def placesOk (P : Program) (t : TypeId) : Bool :=
  match P.underlying t with
  | some (.struct fs) => fs.toList.all fun f => (P.info? f.type).isSome
  | some (.array _ e) => (P.info? e).isSome
  | _ => false

theorem mapM_places : ∀ (fs : List Field), (fs.all fun f => (P.info? f.type).isSome) = true →
    ∃ places : List (Nat × Nat), fs.mapM (fun (f : Field) => (P.info? f.type).map fun i => (f.offset, i.size)) = some places ∧ ∀ i : Nat, places[i]? = (fs[i]?).bind fun (f : Field) => (P.info? f.type).map fun x => (f.offset, x.size) := by
  intro fs
  induction fs with
  | nil => intro _; exact ⟨[], rfl, by simp⟩
  | cons f fs ih =>
    intro h
    simp only [List.all_cons, Bool.and_eq_true] at h
    obtain ⟨places, h1, h2⟩ := ih h.2
    obtain ⟨x, hx⟩ := Option.isSome_iff_exists.1 h.1
    refine ⟨(f.offset, x.size) :: places, by simp [List.mapM_cons, hx, h1], fun i => ?_⟩
    cases i with
    | zero => simp [hx]
    | succ i => simpa using h2 i

theorem forall2_place {place place' : Nat → Option (Nat × Nat)} {h : Array Obj} (e : ∀ i p, place i = some p → place' i = some p) {parts : List (Nat × Value)} {ps : List (Nat × Nat × AV)}
    (f : F2 (fun p q => place p.1 = some (q.1, q.2.1) ∧ Rep G h p.2 q.2.2) parts ps) : F2 (fun p q => place' p.1 = some (q.1, q.2.1) ∧ Rep G h p.2 q.2.2) parts ps := by
  induction f with
  | nil => exact .nil
  | cons hp _ ih => exact .cons ⟨e _ _ hp.1, hp.2⟩ ih

theorem build_sound (I : Inv G H w.heap) {t : TypeId} {zero : List AV} (hz : zeroOf? P t = some zero) (hok : placesOk P t = true) {parts : Array (Nat × Value)} {ps : List (Nat × Nat × AV)}
    (f : F2 (fun p q => placeOf P t p.1 = some (q.1, q.2.1) ∧ Rep G w.heap p.2 q.2.2) parts.toList ps) (hk : fillW zero ps fun l => K (.agg l) H G.c) :
    Run P (Instr.build t parts) G H w K := by
  obtain ⟨it, z, h1, h2, h3, h4, h5⟩ := zeroOf_some hz
  have r0 : RowRep G w.heap z.cells zero := ⟨h4, fun j b hj => h5 _ _ j b hj⟩
  have fin : ∀ (place : Nat → Option (Nat × Nat)), (∀ i p, placeOf P t i = some p → place i = some p) → ((∃ cs, Instr.fill place z.cells parts.toList = some cs) → P.built t parts.toList = Instr.fill place z.cells parts.toList) →
      Run P (Instr.build t parts) G H w K := fun place hp hb => by
    obtain ⟨cs, l, e, r, k⟩ := fill_sound parts.toList ps z.cells zero r0 (forall2_place hp f) hk
    exact Run.here I (run_build w t parts cs ((hb ⟨_, e⟩).trans e)) k (.agg r.1 (fun j b hj => (r.2 j b hj).1) fun j b hj => (r.2 j b hj).2)
  cases hu : P.underlying t with
  | none => simp [placesOk, hu] at hok
  | some d =>
    cases d <;> try (simp [placesOk, hu] at hok; done)
    case array n e =>
      obtain ⟨ie, hie⟩ := Option.isSome_iff_exists.1 (by simpa [placesOk, hu] using hok)
      refine fin (fun i => some (i * ie.size, ie.size)) (fun i p hp => ?_) fun _ => ?_
      · simpa [placeOf, hu, hie] using hp
      · simp [Program.built, h1, hu, h2, hie]
    case struct fs =>
      obtain ⟨places, hp, hq⟩ := mapM_places (P := P) fs.toList (by simpa [placesOk, hu] using hok)
      refine fin (places.toArray[·]?) (fun i p hpi => ?_) fun _ => ?_
      · simp only [List.getElem?_toArray]
        rw [hq i]
        simp only [placeOf, hu] at hpi
        rw [Array.getElem?_toList]
        cases hf : fs[i]? with
        | none => simp [hf] at hpi
        | some x => simpa [hf] using hpi
      · simp [Program.built, h1, hu, h2, hp]

def rowsFillW (rows : List (List AV)) : List (Nat × AV) → (List (List AV) → Prop) → Prop
  | [], K => K rows
  | (i, v) :: rest, K => cellsW v fun l => getW rows i fun row => l.length = row.length ∧ rowsFillW (rows.set i l) rest K

/-- rows, one behind the other -/
structure RowsRep (G : Gh) (h : Array Obj) (wd : Nat) (cs : Array Value) (rows : List (List AV)) : Prop where
  size : cs.size = rows.length * wd
  w : ∀ (r : Nat) (row : List AV), rows[r]? = some row → row.length = wd
  rep : ∀ (r j : Nat) (row : List AV) (a : AV), rows[r]? = some row → row[j]? = some a → ∃ v, cs[r * wd + j]? = some v ∧ a.cell = true ∧ Rep G h v a

theorem RowsRep.set {h : Array Obj} {wd : Nat} {cs : Array Value} {rows : List (List AV)} (r : RowsRep G h wd cs rows) {v : Value} {l : List AV} (hv : RowRep G h v.cells l) (hl : l.length = wd) {i : Nat} (hi : i < rows.length) :
    RowsRep G h wd (putCells cs (i * wd) v.cells.toList) (rows.set i l) := by
  have hm := mul_lt_of (r := i) (r' := rows.length) (n := 0) (w := wd) hi
  have hvl : v.cells.toList.length = wd := by simpa [hl] using hv.1
  refine ⟨by rw [putCells_size]; simpa using r.size, fun r' row hr' => ?_, fun r' j row a hr' ha => ?_⟩
  · rw [List.getElem?_set] at hr'
    split at hr'
    · rename_i e; subst e; cases hr'; exact hl
    · exact r.w r' row hr'
  · rw [List.getElem?_set] at hr'
    split at hr'
    · rename_i e; subst e; cases hr'
      have hj : j < l.length := (List.getElem?_eq_some_iff.1 ha).1
      refine ⟨v.cells.getD j undef, ?_, hv.2 j a ha⟩
      refine putCells_in _ _ _ _ _ (by rw [r.size]; omega) ?_
      rw [Array.getElem?_toList]; exact of_getD (by have := hv.1; omega)
    · rename_i e
      obtain ⟨z, hz, rz⟩ := r.rep r' j row a hr' ha
      have hjw : j < wd := by rw [← r.w r' row hr']; exact (List.getElem?_eq_some_iff.1 ha).1
      refine ⟨z, ?_, rz⟩
      rw [putCells_out]
      · exact hz
      · rcases Nat.lt_or_ge r' i with hlt | hge
        · left; have := mul_lt_of (r := r') (r' := i) (n := 0) (w := wd) hlt; omega
        · right; have := mul_lt_of (r := i) (r' := r') (n := 0) (w := wd) (by omega); omega

theorem rowsFill_sound {h : Array Obj} {wd : Nat} {K : List (List AV) → Prop} : ∀ (parts : List (Nat × Value)) (ps : List (Nat × AV)) (cs : Array Value) (rows : List (List AV)), RowsRep G h wd cs rows →
    F2 (fun p q => p.1 = q.1 ∧ Rep G h p.2 q.2) parts ps → rowsFillW rows ps K → ∃ cs' rows', Instr.fill (fun i => some (i * wd, wd)) cs parts = some cs' ∧ RowsRep G h wd cs' rows' ∧ rows'.length = rows.length ∧ K rows' := by
  intro parts
  induction parts with
  | nil => intro ps cs rows r f k; cases f; exact ⟨cs, rows, rfl, r, rfl, k⟩
  | cons p parts ih =>
    intro ps cs rows r f k
    cases f with
    | cons hp hf =>
      rename_i q qs
      obtain ⟨i, v⟩ := p
      obtain ⟨i', a⟩ := q
      obtain ⟨m, ⟨row, hrow, hm, k'⟩, h1, h2⟩ := cellsW_rep hp.2 k
      have hi : i = i' := hp.1
      subst hi
      have hil : i < rows.length := (List.getElem?_eq_some_iff.1 hrow).1
      have hrl := r.w i row hrow
      have hv : RowRep G h v.cells m := ⟨h1, h2⟩
      have r' := r.set hv (by omega) hil
      obtain ⟨cs', rows', e, r'', hl, k''⟩ := ih qs _ _ r' hf k'
      refine ⟨cs', rows', ?_, r'', by simpa using hl, k''⟩
      have hmul := mul_lt_of (r := i) (r' := rows.length) (n := 0) (w := wd) hil
      have h1' : v.cells.size = m.length := h1
      have h0 := r.size
      simp only [Instr.fill]
      rw [if_neg (by simp; omega), fold_putA]
      exact e

/-- So many rows of the zero value. -/
theorem zeros_rep {h : Array Obj} {z : Array Value} {l : List AV} (hz : RowRep G h z l) (n : Nat) : RowsRep G h l.length ((Array.range (n * l.length)).map fun i => z[i % z.size]!) (List.replicate n l) := by
  refine ⟨by simp, fun r row hr => ?_, fun r j row a hr ha => ?_⟩
  · rw [List.getElem?_replicate] at hr
    split at hr <;> cases hr
    rfl
  · rw [List.getElem?_replicate] at hr
    split at hr <;> cases hr
    have hj : j < l.length := (List.getElem?_eq_some_iff.1 ha).1
    rename_i hrn
    have hm := mul_lt_of (r := r) (r' := n) (n := 0) (w := l.length) hrn
    refine ⟨z.getD j undef, ?_, hz.2 j a ha⟩
    have hlt : r * l.length + j < n * l.length := by omega
    simp only [Array.getElem?_map, Array.getElem?_range, hlt, if_true, Option.map_some]
    have e : (r * l.length + j) % z.size = j := by
      rw [hz.1, Nat.mul_comm, Nat.mul_add_mod, Nat.mod_eq_of_lt hj]
    rw [e]
    have hjz : j < z.size := by have := hz.1; omega
    simp [hjz]

def bsliceW (w : Nat) (zero : List AV) (len : Nat) (ps : List (Nat × AV)) (H : List AObj) (c : Nat) (K : AV → List AObj → Nat → Prop) : Prop :=
  rowsFillW (List.replicate len zero) ps fun rows => K (.ref H.length c w len) (H ++ [⟨false, c, w, rows⟩]) (c + 1)

theorem ref_new {c : Array Value} {e : TypeId} {fr : Nat × Nat} {i wd len cap : Nat} (h1 : cap * wd ≤ c.size) (h2 : len ≤ cap) (h3 : len ≤ mx) :
    Rep (G.new w.heap.size) (w.alloc (.cells c e fr)).heap (.slice (some ⟨w.heap.size, 0, none⟩) len cap) (.ref i G.c wd len) := by
  have h := Rep.ref (G := G.new w.heap.size) (h := (w.alloc (.cells c e fr)).heap) (i := i) (tag := G.c) (w := wd) (len := len) (cap := cap) (c := c) (e := e) (fr := fr) (by simp [Gh.new])
    (by show (w.heap.push _)[(upd G.m G.c w.heap.size) G.c]? = _; rw [upd_same]; simp) h1 h2 h3
  simpa [Gh.new] using h

theorem bslice_sound (I : Inv G H w.heap) {t e : TypeId} {i : TypeInfo} (ht : sliceElem P t = some (e, i)) {zero : List AV} (hz : zeroOf? P e = some zero) {len : Nat} (hlen : len * i.size ≤ 16777216) (hmx : len ≤ mx)
    {parts : Array (Nat × Value)} {ps : List (Nat × AV)} (f : F2 (fun p q => p.1 = q.1 ∧ Rep G w.heap p.2 q.2) parts.toList ps) (hk : bsliceW i.size zero len ps H G.c K) :
    Run P (Instr.buildSlice t len parts) G H w K := by
  obtain ⟨h1, h2⟩ := sliceElem_some ht
  obtain ⟨it, z, q1, q2, q3, q4, q5⟩ := zeroOf_some hz
  rw [h2] at q1; cases q1
  have r0 : RowsRep G w.heap i.size ((Array.range (len * i.size)).map fun j => z.cells[j % z.cells.size]!) (List.replicate len zero) := by
    rw [← q3]; exact zeros_rep ⟨q4, fun j b hj => q5 _ _ j b hj⟩ len
  obtain ⟨cs, rows, e1, r, hl, k⟩ := rowsFill_sound parts.toList ps _ _ r0 f hk
  simp at hl
  obtain ⟨x, I'⟩ := newObj_good I (cs := cs) (e := e) (wd := i.size) (rows := rows) (by rw [r.size]; omega) (by omega) r.w r.rep (0, 0) (fun _ _ h => by omega)
  refine ⟨.slice (some ⟨w.heap.size, 0, none⟩) len len, w.alloc (.cells cs e (0, 0)), ?_, _, _, _, k, x, I', ref_new (by rw [r.size, hl]; omega) (Nat.le_refl _) hmx⟩
  unfold Instr.buildSlice
  simp only [Sem.run_bind, run_underlying h1, Result.andThen_ok, r_sizeOf h2]
  rw [if_neg (by omega)]
  by_cases h0 : len * i.size = 0
  · have ez : (Array.range 0 : Array Nat) = #[] := rfl
    rw [h0, ez, Array.map_empty] at e1
    simp only [h0, if_true, Sem.run_pure, Result.andThen_ok, ez, Array.map_empty, e1, newRow, Sem.run_bind, run_newObj]
    rfl
  · simp only [h0, if_false, Sem.run_bind, r_zero h2 q2, Result.andThen_ok, Sem.run_pure, e1, newRow, run_newObj]
    rfl
end
end A
end Go.Proofs.Ytfcimcoanlgldaa
