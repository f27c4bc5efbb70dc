import Derived.Test.YtkcilmkienlnoaaGreatDoorB01

/-
  append, make, conversions, unary operators: what each operation does to abstract values, and that the model's does so. No condition.
-/

namespace Go.Proofs.YtkcilmkienlnoaaGreatDoor
namespace A
set_option linter.unusedVariables false
section
variable {P : Program} {G : Gh} {H : List AObj} {w : World} {K : AV → List AObj → Nat → Prop}

def byteRow (b : UInt8) : List AV := [.int .u8 b.toNat]

/-- The rows that an append adds. -/
def srcW (wd : Nat) (y : AV) (H : List AObj) (K : List (List AV) → Prop) : Prop :=
  match y with
  | .slc _ w' rows => w' = wd ∧ K rows
  | .ref j tag w' len => w' = wd ∧ getW H j fun ob => ob.tag = tag ∧ ob.mp = false ∧ ob.w = w' ∧ len ≤ ob.rows.length ∧ K (ob.rows.take len)
  | .sub j tag w' off len => w' = wd ∧ getW H j fun ob => ob.tag = tag ∧ ob.mp = false ∧ ob.w = w' ∧ off + len ≤ ob.rows.length ∧ K ((ob.rows.drop off).take len)
  | .nsl => K []
  | .str l => wd = 1 ∧ K (l.map byteRow)
  | _ => False

theorem flat_div {n wd j : Nat} (h : j < n * wd) : j / wd < n ∧ j % wd < wd ∧ j = j / wd * wd + j % wd := by
  have hw : 0 < wd := by
    rcases Nat.eq_zero_or_pos wd with h0 | h0
    · subst h0; simp at h
    · exact h0
  refine ⟨(Nat.div_lt_iff_lt_mul hw).2 h, Nat.mod_lt _ hw, ?_⟩
  have := Nat.div_add_mod j wd
  rw [Nat.mul_comm] at this; omega

/-- Rows that lie somewhere, loaded. -/
theorem load_rows {b off wd : Nat} {rows : List (List AV)} (hw : ∀ (r : Nat) (row : List AV), rows[r]? = some row → row.length = wd)
    (hr : ∀ (r j : Nat) (row : List AV) (a : AV), rows[r]? = some row → row[j]? = some a → ∃ v, hcell w.heap b (off + r * wd + j) = some v ∧ a.cell = true ∧ Rep G w.heap v a) :
    ∃ cs, (∀ w' : World, w'.heap = w.heap → (loadCells ⟨b, off, none⟩ (rows.length * wd)).run P w' = .ok cs w') ∧ RowsRep G w.heap wd cs rows := by
  have hf : ∀ j, j < rows.length * wd → hcell w.heap b (off + j) = some ((hcell w.heap b (off + j)).getD undef) := fun j hj => by
    obtain ⟨h1, h2, h3⟩ := flat_div hj
    have hrow : rows[j / wd]? = some rows[j / wd] := List.getElem?_eq_getElem h1
    have hl := hw _ _ hrow
    obtain ⟨v, hv, _⟩ := hr (j / wd) (j % wd) _ _ hrow (List.getElem?_eq_getElem (by omega))
    rw [Nat.add_assoc, ← h3] at hv
    rw [hv]; rfl
  refine ⟨_, fun w' e => run_loadCells P w' b off _ _ (fun j hj => by rw [e]; exact hf j hj), ⟨by simp, hw, fun r j row a h1 h2 => ?_⟩⟩
  obtain ⟨v, hv, hc, rv⟩ := hr r j row a h1 h2
  refine ⟨v, ?_, hc, rv⟩
  have hj : j < wd := by rw [← hw r row h1]; exact (List.getElem?_eq_some_iff.1 h2).1
  have hrl : r < rows.length := (List.getElem?_eq_some_iff.1 h1).1
  have hm := mul_lt_of (r := r) (r' := rows.length) (n := 0) (w := wd) hrl
  have hlt : r * wd + j < rows.length * wd := by omega
  rw [Nat.add_assoc] at hv
  simp [hlt, hv]

theorem src_sound (I : Inv G H w.heap) {wd : Nat} {v : Value} {y : AV} (r : Rep G w.heap v y) {K' : List (List AV) → Prop} (hk : srcW wd y H K') :
    ∃ cs rows, (∀ w' : World, w'.heap = w.heap → (Builtin.lenOf v).run P w' = .ok rows.length w' ∧ (Builtin.firstCells wd rows.length v).run P w' = .ok cs w') ∧ RowsRep G w.heap wd cs rows ∧ K' rows := by
  cases r <;> simp only [srcW] at hk
  case nsl => exact ⟨#[], [], fun _ _ => ⟨rfl, rfl⟩, ⟨by simp, by simp, by simp⟩, hk⟩
  case slc0 a cap tag w' =>
    obtain ⟨rfl, hk⟩ := hk
    refine ⟨#[], [], fun w' _ => ⟨rfl, ?_⟩, ⟨by simp, by simp, by simp⟩, hk⟩
    cases a with
    | none => rfl
    | some a => simp [Builtin.firstCells, loadCells, loadCellsFrom]
  case slc tag w' off cap rows f hF hc hlen hcap hw hcell hcl hrep =>
    obtain ⟨rfl, hk⟩ := hk
    obtain ⟨cs, h1, h2⟩ := load_rows (P := P) (w := w) (G := G) hw (fun r j row a q1 q2 => ⟨_, hcell r j row a q1 q2, hcl r j row a q1 q2, hrep r j row a q1 q2⟩)
    exact ⟨cs, rows, fun w' e => ⟨rfl, h1 w' e⟩, h2, hk⟩
  case ref j tag w' len cap c e fr hc hb h1 h2 h3 =>
    obtain ⟨rfl, ob, hob, rfl, hmp, hw', hlen, hk⟩ := hk
    subst hw'
    obtain ⟨c', e', fr', q1, q2, q3, q4, q5, q6⟩ := (I.obj ob (List.mem_of_getElem? hob)).lies hmp
    have hl : (ob.rows.take len).length = len := by simp; omega
    have hg : ∀ (r : Nat) (row : List AV), (ob.rows.take len)[r]? = some row → ob.rows[r]? = some row := fun r row h => by
      have := (List.getElem?_eq_some_iff.1 h).1
      rwa [List.getElem?_take_of_lt (by omega)] at h
    obtain ⟨cs, p1, p2⟩ := load_rows (P := P) (w := w) (G := G) (b := G.m ob.tag) (off := 0) (wd := ob.w) (rows := ob.rows.take len) (fun r row h => q5 r row (hg r row h)) (fun r j row a h ha => by
      obtain ⟨v, hv, hcl, rv⟩ := q6 r j row a (hg r row h) ha
      exact ⟨v, by rw [hcell_of q1, Nat.zero_add]; exact hv, hcl, rv⟩)
    rw [hl] at p1
    exact ⟨cs, ob.rows.take len, fun w' e => ⟨by rw [hl]; rfl, by rw [hl]; exact p1 w' e⟩, p2, hk⟩
  case sub0 a j tag w' off cap =>
    obtain ⟨rfl, ob, hob, rfl, hmp, hw', hlen, hk⟩ := hk
    rw [List.take_zero] at hk
    refine ⟨#[], [], fun w' _ => ⟨rfl, ?_⟩, ⟨by simp, by simp, by simp⟩, hk⟩
    cases a with
    | none => rfl
    | some a => simp [Builtin.firstCells, loadCells, loadCellsFrom]
  case sub j tag w' off len cap c e fr hc hb h1 h2 h3 =>
    obtain ⟨rfl, ob, hob, rfl, hmp, hw', hlen, hk⟩ := hk
    subst hw'
    obtain ⟨c', e', fr', q1, q2, q3, q4, q5, q6⟩ := (I.obj ob (List.mem_of_getElem? hob)).lies hmp
    have hl : ((ob.rows.drop off).take len).length = len := by simp; omega
    have hg : ∀ (r : Nat) (row : List AV), ((ob.rows.drop off).take len)[r]? = some row → ob.rows[off + r]? = some row := fun r row h => by
      have := (List.getElem?_eq_some_iff.1 h).1
      rwa [List.getElem?_take_of_lt (by omega), List.getElem?_drop] at h
    obtain ⟨cs, p1, p2⟩ := load_rows (P := P) (w := w) (G := G) (b := G.m ob.tag) (off := off * ob.w) (wd := ob.w) (rows := (ob.rows.drop off).take len) (fun r row h => q5 _ row (hg r row h)) (fun r j row a h ha => by
      obtain ⟨v, hv, hcl, rv⟩ := q6 _ j row a (hg r row h) ha
      exact ⟨v, by rw [hcell_of q1, ← Nat.add_mul]; exact hv, hcl, rv⟩)
    rw [hl] at p1
    exact ⟨cs, (ob.rows.drop off).take len, fun w' e => ⟨by rw [hl]; rfl, by rw [hl]; exact p1 w' e⟩, p2, hk⟩
  case str s l e hl =>
    obtain ⟨rfl, hk⟩ := hk
    subst e
    have hsz : s.data.toList.length = s.size := by cases s; rfl
    refine ⟨s.data.map fun b => .int .u8 b.toNat, s.data.toList.map byteRow, fun w' _ => ⟨by simp [Builtin.lenOf], ?_⟩, ⟨by simp, fun r row h => ?_, fun r j row a h ha => ?_⟩, hk⟩
    · have : s.extract 0 s.size = s := by
        apply ByteArray.ext
        rw [ByteArray.data_extract]; exact Array.extract_size
      simp only [Builtin.firstCells, List.length_map, hsz, this, Sem.run_pure]
    · simp at h; obtain ⟨b, _, rfl⟩ := h; rfl
    · simp at h; obtain ⟨b, hb, rfl⟩ := h
      cases j with
      | zero =>
        simp [byteRow] at ha; subst ha
        refine ⟨.int .u8 b.toNat, ?_, rfl, .int (iok_u8 b)⟩
        simp
        exact ⟨b, by rw [← Array.getElem?_toList]; simpa using hb, rfl⟩
      | succ j => simp [byteRow] at ha
  all_goals exact hk.elim

/-- What of an object's rows a slice sees. -/
def cutW (rows : List (List AV)) (n : Nat) (K : List (List AV) → Prop) : Prop := n ≤ rows.length ∧ K (rows.take n)
def appendW (wd bytes : Nat) (x y : AV) (H : List AObj) (c : Nat) (K : AV → List AObj → Nat → Prop) : Prop :=
  srcW wd y H fun rows' =>
    match x with
    | .nsl => (rows' = [] → K .nsl H c) ∧ (rows' ≠ [] → rows'.length * bytes ≤ 140737488355328 ∧ rows'.length ≤ mx ∧ K (.ref H.length c wd rows'.length) (H ++ [⟨false, c, wd, rows'⟩]) (c + 1))
    | .ref i tag w' len => w' = wd ∧ getW H i fun ob => ob.tag = tag ∧ ob.mp = false ∧ ob.w = w' ∧ cutW ob.rows len fun rs => (len + rows'.length) * bytes ≤ 140737488355328 ∧ len + rows'.length ≤ mx ∧
        K (.ref i c wd (len + rows'.length)) (H.set i ⟨false, c, wd, rs ++ rows'⟩) (c + 1)
    | _ => False

theorem rows_append {h : Array Obj} {wd : Nat} {cs cs' : Array Value} {rows rows' : List (List AV)} (r : RowsRep G h wd cs rows) (r' : RowsRep G h wd cs' rows') : RowsRep G h wd (cs ++ cs') (rows ++ rows') := by
  refine ⟨by simp [r.size, r'.size, Nat.add_mul], fun i row hi => ?_, fun i j row a hi ha => ?_⟩
  · rw [List.getElem?_append] at hi
    split at hi
    · exact r.w i row hi
    · exact r'.w _ row hi
  · rw [List.getElem?_append] at hi
    have hj := (List.getElem?_eq_some_iff.1 ha).1
    split at hi
    · rename_i hl
      obtain ⟨v, hv, x⟩ := r.rep i j row a hi ha
      exact ⟨v, by rw [Array.getElem?_append_left (Array.getElem?_eq_some_iff.1 hv).1]; exact hv, x⟩
    · rename_i hl
      obtain ⟨v, hv, x⟩ := r'.rep _ j row a hi ha
      refine ⟨v, ?_, x⟩
      have e : i * wd + j = cs.size + ((i - rows.length) * wd + j) := by
        have : i = rows.length + (i - rows.length) := by omega
        rw [r.size]
        conv => lhs; rw [this, Nat.add_mul]
        omega
      rw [e, Array.getElem?_append_right (by omega), Nat.add_sub_cancel_left]
      exact hv


theorem run_append_fits {t xt e ty : TypeId} {i : TypeInfo} (h1 : P.underlying t = some (.slice e)) (h2 : P.info? e = some i) {d : TypeDesc} (hd : P.underlying xt = some d) (hdi : ∀ k, d ≠ .int k)
    {v : Value} {n : Nat} {cs : Array Value} (s1 : (Builtin.lenOf v).run P w = .ok n w) (s2 : (Builtin.firstCells i.size n v).run P w = .ok cs w) (base : Option Addr) (sLen sCap : Nat) (hf : sLen + n ≤ sCap) :
    (Builtin.append_ #[t, xt] ty #[.slice base sLen sCap, v]).run P w =
      (match base with
       | some a => (storeCells (a.add (sLen * i.size)) cs.toList).run P w
       | none => .ok () w).andThen fun _ w' => .ok (.slice base (sLen + n) sCap) w' := by
  unfold Builtin.append_
  have g0 : (#[t, xt] : Array TypeId)[0]? = some t := rfl
  have g1 : (#[t, xt] : Array TypeId)[1]? = some xt := rfl
  have v0 : (#[.slice base sLen sCap, v] : Array Value)[0]? = some (.slice base sLen sCap) := rfl
  have v1 : (#[.slice base sLen sCap, v] : Array Value)[1]? = some v := rfl
  simp only [g0, g1, v0, v1, Sem.run_bind, run_underlying h1, run_underlying hd, r_sizeOf h2, Result.andThen_ok]
  simp only [Sem.run_pure, Result.andThen_ok, Bool.false_eq_true, if_false, Sem.run_bind, s1, hf, if_true, Bool.not_false, s2]
  cases base with
  | none => simp only [Sem.run_pure, Result.andThen_ok]
  | some a => simp only [Sem.run_bind, Sem.run_pure]

theorem run_append_grows {t xt e ty : TypeId} {i : TypeInfo} (h1 : P.underlying t = some (.slice e)) (h2 : P.info? e = some i) {z : Value} (hz : i.zero = some z) {d : TypeDesc} (hd : P.underlying xt = some d) (hdi : ∀ k, d ≠ .int k)
    {v : Value} {n : Nat} {cs old : Array Value} (s1 : (Builtin.lenOf v).run P w = .ok n w) (s2 : (Builtin.firstCells i.size n v).run P w.drew = .ok cs w.drew) (base : Option Addr) (sLen sCap : Nat)
    (s3 : (Builtin.firstCells i.size sLen (.slice base sLen sCap)).run P w.drew = .ok old w.drew) (hf : ¬ sLen + n ≤ sCap) (hb : (sLen + n) * i.bytes ≤ 140737488355328) (hm : sLen + n ≤ mx) :
    ∃ cap, sLen + n ≤ cap ∧ cap ≤ mx ∧ (Builtin.append_ #[t, xt] ty #[.slice base sLen sCap, v]).run P w =
      .ok (.slice (some ⟨w.heap.size, 0, none⟩) (sLen + n) cap) (w.drew.alloc (.cells (old ++ cs ++ Builtin.zeroCells z.cells (cap - (sLen + n))) e)) := by
  refine ⟨(Question.appendCap (sLen + n) sCap e).cut (w.tape w.drawn (.appendCap (sLen + n) sCap e)), by simp only [Question.cut]; omega, ?_, ?_⟩
  · have hlt := Nat.mod_lt (w.tape w.drawn (.appendCap (sLen + n) sCap e)) (show 0 < 2 ^ 63 - (sLen + n) by unfold mx at hm; omega)
    simp only [Question.cut]
    unfold mx at hm ⊢
    omega
  have hfit := growslice_fits (by omega : sCap < sLen + n) hb
  have hbig : ¬ (((sLen + n : Nat) : Int) > IntKind.i64.max) := by
    unfold mx at hm; simp [IntKind.max, IntKind.signed, IntKind.bits]; omega
  have hno : ¬ (Builtin.nextslicecap (sLen + n) sCap * i.bytes > 2 ^ 48) := by omega
  have hfc : (Question.appendCap (sLen + n) sCap e).forced = false := rfl
  unfold Builtin.append_
  have g0 : (#[t, xt] : Array TypeId)[0]? = some t := rfl
  have g1 : (#[t, xt] : Array TypeId)[1]? = some xt := rfl
  have v0 : (#[.slice base sLen sCap, v] : Array Value)[0]? = some (.slice base sLen sCap) := rfl
  have v1 : (#[.slice base sLen sCap, v] : Array Value)[1]? = some v := rfl
  simp only [g0, g1, v0, v1, Sem.run_bind, run_underlying h1, run_underlying hd, r_sizeOf h2, Result.andThen_ok]
  simp only [Sem.run_pure, Result.andThen_ok, Bool.false_eq_true, if_false, Sem.run_bind, s1, hf, r_typeInfo h2, hbig, false_and, hno, run_choose, hfc, World.drew_eq, run_askRoom, s3, Bool.not_false, if_true, s2, r_zero h2 hz, newRow,
    run_newObj, World.alloc_eq]
  rfl

theorem Ext1.new (G : Gh) (h : Array Obj) (b : Nat) : Ext1 G h (G.new b) h where
  c := by simp [Gh.new]
  m t ht := by simp [Gh.new, upd_ne _ _ _ (Nat.ne_of_lt ht)]
  F t _ hF := hF
  keep t _ _ := rfl
  shape b c e fr hb := ⟨c, fr, hb, rfl⟩

theorem ObjOk.take {h : Array Obj} {ob : AObj} (k : ObjOk G h ob) (hm : ob.mp = false) (n : Nat) : ObjOk G h { ob with rows := ob.rows.take n } where
  c := k.c
  lies _ := by
    obtain ⟨c, e, fr, h1, h2, h3, h4, h5, h6⟩ := k.lies hm
    have hl : (ob.rows.take n).length ≤ ob.rows.length := by simp; omega
    have hg : ∀ (r : Nat) (row : List AV), (ob.rows.take n)[r]? = some row → ob.rows[r]? = some row := fun r row hr => by
      rw [List.getElem?_take] at hr
      split at hr
      · exact hr
      · cases hr
    exact ⟨c, e, fr, h1, h2, Nat.le_trans (Nat.mul_le_mul_right _ hl) h3, Nat.le_trans hl h4, fun r row hr => h5 r row (hg r row hr), fun r j row a hr ha => h6 r j row a (hg r row hr) ha⟩
  mlies h := by
    have h' : ob.mp = true := h
    rw [hm] at h'; cases h'
theorem Inv.take {h : Array Obj} (I : Inv G H h) {i : Nat} {ob : AObj} (hi : H[i]? = some ob) (hm : ob.mp = false) (n : Nat) : Inv G (H.set i { ob with rows := ob.rows.take n }) h := by
  have ht : tags (H.set i { ob with rows := ob.rows.take n }) = tags H := tags_set hi rfl
  refine ⟨I.fz, fun o ho => ?_, by rw [ht]; exact I.nfz, by rw [ht]; exact I.nodup, by rw [ht]; exact I.inj, I.gl⟩
  rcases mem_set I.nodup hi ho with rfl | ⟨h1, _⟩
  · exact (I.obj ob (List.mem_of_getElem? hi)).take hm n
  · exact I.obj o h1
theorem Run.of_tags {H0 : List AObj} {s : Sem Value} (h : tags H0 = tags H) (r : Run P s G H0 w K) : Run P s G H w K := by
  obtain ⟨v, w', h1, av, H', G', k, x, I', rv⟩ := r
  refine ⟨v, w', h1, av, H', G', k, ⟨x.x, x.os, x.tape, x.output, x.size, fun b hb hn => x.frame b hb (by rw [h]; exact hn), fun t h1 h2 => ?_, fun t h1 h2 => h ▸ x.oldH t h1 h2, fun t h1 h2 => h ▸ x.oldF t h1 h2⟩, I', rv⟩
  have := x.newm t h1 h2
  rw [h] at this
  exact this

theorem append_sound (I : Inv G H w.heap) {t xt e ty : TypeId} {i : TypeInfo} (ht : sliceElem P t = some (e, i)) {zero : List AV} (hz : zeroOf? P e = some zero)
    {d : TypeDesc} (hd : P.underlying xt = some d) (hdi : ∀ k, d ≠ .int k) {u v : Value} {x y : AV} (rx : Rep G w.heap u x) (ry : Rep G w.heap v y)
    (hk : appendW i.size i.bytes x y H G.c K) : Run P (Builtin.append_ #[t, xt] ty #[u, v]) G H w K := by
  obtain ⟨h1, h2⟩ := sliceElem_some ht
  obtain ⟨it, z, q1, q2, q3, q4, q5⟩ := zeroOf_some hz
  rw [h2] at q1; cases q1
  obtain ⟨cs, rows', s1, s3, s4⟩ := src_sound (P := P) I ry hk
  have zrow : ∀ n, (Builtin.zeroCells z.cells n).size = n * i.size := fun n => by simp [Builtin.zeroCells, q4, q3]
  cases rx <;> simp only at s4
  case nsl =>
    by_cases he : rows' = []
    · refine Run.here I ?_ (s4.1 he) .nsl
      have := run_append_fits (ty := ty) h1 h2 hd hdi (s1 w rfl).1 (s1 w rfl).2 none 0 0 (by simp [he])
      rw [this]
      simp [he]
    · obtain ⟨hb, hm, k⟩ := s4.2 he
      have hpos : ¬ 0 + rows'.length ≤ 0 := by
        cases rows' with
        | nil => exact absurd rfl he
        | cons a l => simp
      obtain ⟨cap, hcap, hcm, hrun⟩ := run_append_grows (ty := ty) h1 h2 q2 hd hdi (s1 w rfl).1 (s1 w.drew rfl).2 none 0 0 (old := #[]) rfl hpos (by simpa using hb) (by simpa using hm)
      obtain ⟨x, I'⟩ := newObj_good (w := w.drew) I (cs := #[] ++ cs ++ Builtin.zeroCells z.cells (cap - (0 + rows'.length))) (e := e) (wd := i.size) (rows := rows') (by simp [s3.size]) hm s3.w (fun r j row a ha hb => by
        obtain ⟨v, hv, x⟩ := s3.rep r j row a ha hb
        exact ⟨v, by rw [Array.empty_append, Array.getElem?_append_left (Array.getElem?_eq_some_iff.1 hv).1]; exact hv, x⟩) (0, 0) (fun _ _ h => by omega)
      refine ⟨_, _, hrun, _, _, _, k, { x with }, I', ?_⟩
      rw [Nat.zero_add]
      refine ref_new (w := w.drew) ?_ (by omega) hcm
      simp only [Array.empty_append, Array.size_append, s3.size, zrow]
      rw [← Nat.add_mul]
      exact Nat.le_of_eq (by congr 1; omega)
  case ref j tag wd len cap c e' fr hc hb h3 h4 h5 =>
    obtain ⟨rfl, ob1, hob1, htag1, hmp1, hw1, hle1, hby, hm, k1⟩ := s4
    obtain ⟨H0, ob, I, hob, htag, hmp, hw', hlen, k, hback⟩ : ∃ (H0 : List AObj) (ob : AObj), Inv G H0 w.heap ∧ H0[j]? = some ob ∧ ob.tag = tag ∧ ob.mp = false ∧ ob.w = i.size ∧ ob.rows.length = len ∧
        K (.ref j G.c i.size (len + rows'.length)) (H0.set j ⟨false, G.c, i.size, ob.rows ++ rows'⟩) (G.c + 1) ∧ tags H0 = tags H := by
      have hjl : j < H.length := (List.getElem?_eq_some_iff.1 hob1).1
      refine ⟨H.set j { ob1 with rows := ob1.rows.take len }, { ob1 with rows := ob1.rows.take len }, I.take hob1 hmp1 len, List.getElem?_set_self hjl, htag1, hmp1, hw1, ?_, ?_, tags_set hob1 rfl⟩
      · show (ob1.rows.take len).length = len
        rw [List.length_take]; exact Nat.min_eq_left hle1
      · rw [List.set_set]; exact k1
    refine Run.of_tags hback ?_
    subst htag
    obtain ⟨c', e'', fr', p1, p2, p3, p4, p5, p6⟩ := (I.obj ob (List.mem_of_getElem? hob)).lies hmp
    rw [hb] at p1; cases p1
    have hmem := List.mem_of_getElem? hob
    have hold : RowsRep G w.heap ob.w (c.extract 0 (len * ob.w)) ob.rows := by
      refine ⟨by rw [hlen, Array.size_extract]; rw [hlen] at p3; omega, p5, fun r q row a hr ha => ?_⟩
      obtain ⟨v', hv', x⟩ := p6 r q row a hr ha
      refine ⟨v', ?_, x⟩
      have hq : q < ob.w := by rw [← p5 r row hr]; exact (List.getElem?_eq_some_iff.1 ha).1
      have hrl : r < len := by rw [← hlen]; exact (List.getElem?_eq_some_iff.1 hr).1
      have hm' := mul_lt_of (r := r) (r' := len) (n := 0) (w := ob.w) hrl
      rw [Array.getElem?_extract, if_pos (by rw [hlen] at p3; omega), Nat.zero_add]
      exact hv'
    have hall := rows_append hold (hw' ▸ s3)
    by_cases hf : len + rows'.length ≤ cap
    · -- in place
      have hone : ∀ z, z ∈ cs.toList → z.oneCell' = true := fun z hz => by
        obtain ⟨q, hq⟩ := List.mem_iff_getElem?.1 hz
        have hql : q < rows'.length * i.size := by have := (List.getElem?_eq_some_iff.1 hq).1; simpa [s3.size] using this
        obtain ⟨a1, a2, a3⟩ := flat_div hql
        have hrow : rows'[q / i.size]? = some rows'[q / i.size] := List.getElem?_eq_getElem a1
        have hl := s3.w _ _ hrow
        obtain ⟨v', hv', hcl, rv⟩ := s3.rep _ (q % i.size) _ _ hrow (List.getElem?_eq_getElem (by omega))
        rw [← a3] at hv'
        rw [Array.getElem?_toList, hv'] at hq
        cases hq
        exact rv.oneCell hcl
      have hin : 0 + len * i.size + 0 + cs.toList.length ≤ c.size := by
        have : (len + rows'.length) * i.size ≤ cap * i.size := Nat.mul_le_mul_right _ hf
        rw [Nat.add_mul] at this
        have h3' : cap * i.size ≤ c.size := h3
        simp [s3.size]; omega
      have hstore := run_storeCells P (G.m ob.tag) (0 + len * i.size) e' fr cs.toList 0 w c hb (fun j hj => p2 j (by omega)) hin hone
      have hrun := run_append_fits (ty := ty) h1 h2 hd hdi (s1 w rfl).1 (s1 w rfl).2 (some ⟨G.m ob.tag, 0, none⟩) len cap hf
      simp only [addr_add, hstore, Result.andThen_ok] at hrun
      have x0 : Ext1 G w.heap G (w.heap.setIfInBounds (G.m ob.tag) (.cells (putCells c (0 + len * i.size + 0) cs.toList) e' fr)) :=
        Ext1.write (fun u hF => I.nfz_m (mem_tags hmem) hF) fun _ _ _ hb' => by rw [hb] at hb'; cases hb'; exact ⟨_, _, rfl, putCells_size _ _ _⟩
      have x1 := x0.trans (Ext1.new G _ (G.m ob.tag))
      have hob' : ObjOk (G.new (G.m ob.tag)) (w.heap.setIfInBounds (G.m ob.tag) (.cells (putCells c (0 + len * i.size + 0) cs.toList) e' fr)) ⟨false, G.c, i.size, ob.rows ++ rows'⟩ := by
        refine ⟨by simp [Gh.new], fun _ => ?_, fun h => by cases h⟩
        refine ⟨putCells c (0 + len * i.size + 0) cs.toList, e', fr, by simp [Gh.new, lt_of_get hb], by have p2' := p2; rw [hw'] at p2'; simpa [putCells_size] using p2', ?_, by simp; omega, fun r row hr => ?_, fun r q row a hr ha => ?_⟩
        · simp only [putCells_size, List.length_append, hlen, Nat.add_mul]
          simp [s3.size] at hin; omega
        · exact hw' ▸ hall.w r row hr
        · have hq : q < i.size := by rw [← hw', ← hall.w r row hr]; exact (List.getElem?_eq_some_iff.1 ha).1
          dsimp only at hr ⊢
          rw [List.getElem?_append] at hr
          split at hr
          · rename_i hl
            obtain ⟨v', hv', hcl, rv⟩ := p6 r q row a hr ha
            refine ⟨v', ?_, hcl, rv.ext x1⟩
            have hm' := mul_lt_of (r := r) (r' := len) (n := 0) (w := i.size) (by omega)
            rw [putCells_out _ _ _ _ (by omega), ← hw']
            exact hv'
          · rename_i hl
            obtain ⟨v', hv', hcl, rv⟩ := s3.rep _ q row a hr ha
            refine ⟨v', ?_, hcl, rv.ext x1⟩
            have e1 : r * i.size + q = 0 + len * i.size + 0 + ((r - ob.rows.length) * i.size + q) := by
              have : r = len + (r - ob.rows.length) := by omega
              conv => lhs; rw [this, Nat.add_mul]
              omega
            rw [e1]
            exact putCells_in _ _ _ _ _ hin (by rw [Array.getElem?_toList]; exact hv')
      refine ⟨_, _, hrun, _, _, G.new (G.m ob.tag), k, ?_, ?_, ?_⟩
      · exact Ext.grow I hob rfl (.inl rfl) x1 rfl rfl rfl (by simp [wset]) (fun k hk hne => Array.getElem?_setIfInBounds_ne (Ne.symm hne))
      · refine Inv.grow I hob (ob' := ⟨false, G.c, i.size, ob.rows ++ rows'⟩) rfl (by simp [wset, lt_of_get hb]) (.inl rfl) x1 (fun t ht hne => ?_) (by simp [wset]) hob'
        refine Array.getElem?_setIfInBounds_ne fun e => hne ?_
        exact (I.inj _ _ (.inr (mem_tags hmem)) (.inr ht) e).symm
      · have h := Rep.ref (G := G.new (G.m ob.tag)) (h := w.heap.setIfInBounds (G.m ob.tag) (.cells (putCells c (0 + len * i.size + 0) cs.toList) e' fr)) (i := j) (tag := G.c) (w := i.size) (len := len + rows'.length) (cap := cap)
          (c := putCells c (0 + len * i.size + 0) cs.toList) (e := e') (fr := fr) (by simp [Gh.new]) (by simp [Gh.new, lt_of_get hb]) (by rw [putCells_size]; exact h3) hf h5
        simpa [Gh.new, wset] using h
    · -- in a new block
      have hold' : (Builtin.firstCells i.size len (.slice (some ⟨G.m ob.tag, 0, none⟩) len cap)).run P w.drew = .ok (c.extract 0 (len * ob.w)) w.drew := by
        have hfc : ∀ q, q < len * i.size → hcell w.heap (G.m ob.tag) (0 + q) = some (c.getD q undef) := fun q hq => by
          rw [hcell_of hb, Nat.zero_add]
          refine of_getD ?_
          rw [hlen, hw'] at p3; omega
        have := run_loadCells P w.drew (G.m ob.tag) 0 (len * i.size) (fun q => c.getD q undef) hfc
        simp only [Builtin.firstCells]
        rw [this]
        congr 1
        rw [hlen, hw'] at p3
        apply Array.ext_getElem?
        intro q
        rw [Array.getElem?_extract, hw', Nat.zero_add]
        by_cases hq : q < len * i.size
        · rw [if_pos (by omega)]
          have : c[q]? = some (c.getD q undef) := of_getD (by omega)
          rw [this, List.getElem?_toArray, List.getElem?_map, List.getElem?_range hq]; rfl
        · rw [if_neg (by omega), List.getElem?_toArray, List.getElem?_eq_none (by simp; omega)]
      obtain ⟨cap', hcap, hcm, hrun⟩ := run_append_grows (ty := ty) h1 h2 q2 hd hdi (s1 w rfl).1 (s1 w.drew rfl).2 (some ⟨G.m ob.tag, 0, none⟩) len cap hold' hf hby hm
      have x1 : Ext1 G w.heap (G.new w.heap.size) (w.heap.push (.cells (c.extract 0 (len * ob.w) ++ cs ++ Builtin.zeroCells z.cells (cap' - (len + rows'.length))) e)) := Ext1.push I _ _
      have hsz : (c.extract 0 (len * ob.w) ++ cs).size = (len + rows'.length) * i.size := by
        have := hall.size
        rw [List.length_append, hlen, hw'] at this
        rw [hw']; exact this
      have hob' : ObjOk (G.new w.heap.size) (w.heap.push (.cells (c.extract 0 (len * ob.w) ++ cs ++ Builtin.zeroCells z.cells (cap' - (len + rows'.length))) e)) ⟨false, G.c, i.size, ob.rows ++ rows'⟩ := by
        refine ⟨by simp [Gh.new], fun _ => ?_, fun h => by cases h⟩
        refine ⟨c.extract 0 (len * ob.w) ++ cs ++ Builtin.zeroCells z.cells (cap' - (len + rows'.length)), e, (0, 0), by simp [Gh.new], fun _ _ h => by omega, ?_, by simp; omega, fun r row hr => hw' ▸ hall.w r row hr, fun r q row a hr ha => ?_⟩
        · rw [Array.size_append, hsz]; simp only [List.length_append, hlen]; omega
        · obtain ⟨v', hv', hcl, rv⟩ := hall.rep r q row a hr ha
          rw [hw'] at hv'
          refine ⟨v', ?_, hcl, rv.ext x1⟩
          rw [hw', Array.getElem?_append_left (Array.getElem?_eq_some_iff.1 hv').1]
          exact hv'
      refine ⟨_, _, hrun, _, _, G.new w.heap.size, k, ?_, ?_, ?_⟩
      · exact Ext.grow I hob rfl (.inr (Nat.le_refl _)) x1 rfl rfl rfl (by simp) (fun k hk _ => push_old hk)
      · exact Inv.grow I hob (ob' := ⟨false, G.c, i.size, ob.rows ++ rows'⟩) rfl (by simp) (.inr (Nat.le_refl _)) x1 (fun t ht _ => push_old (by obtain ⟨o', ho', rfl⟩ := of_mem_tags ht; exact (I.obj o' ho').block)) (by simp) hob'
      · refine ref_new (w := w.drew) ?_ hcap hcm
        rw [Array.size_append, hsz, zrow, ← Nat.add_mul]
        exact Nat.le_of_eq (by congr 1; omega)
  all_goals exact s4.elim
end
end A
end Go.Proofs.YtkcilmkienlnoaaGreatDoor

/-
  make, unary operators, conversions, maps: what each operation does to abstract values, and that the model's does so. No condition.
-/

namespace Go.Proofs.YtkcilmkienlnoaaGreatDoor
namespace A
set_option linter.unusedVariables false
section
variable {P : Program} {G : Gh} {H : List AObj} {w : World} {K : AV → List AObj → Nat → Prop}

def mksliceW (wd : Nat) (zero : List AV) (bytes : Nat) (l c : AV) (H : List AObj) (cl : Nat) (K : AV → List AObj → Nat → Prop) : Prop :=
  match l, c with
  | .int _ n, .int _ m => 0 ≤ n ∧ n ≤ m ∧ m ≤ 281474976710656 ∧ m.toNat * bytes ≤ 281474976710656 ∧ K (.ref H.length cl wd n.toNat) (H ++ [⟨false, cl, wd, List.replicate n.toNat zero⟩]) (cl + 1)
  | _, _ => False

theorem mkslice_sound (I : Inv G H w.heap) {t e : TypeId} {i : TypeInfo} (ht : sliceElem P t = some (e, i)) {zero : List AV} (hz : zeroOf? P e = some zero) {u v : Value} {x y : AV} (rx : Rep G w.heap u x) (ry : Rep G w.heap v y)
    (hk : mksliceW i.size zero i.bytes x y H G.c K) : Run P (Instr.makeSlice t u v) G H w K := by
  obtain ⟨h1, h2⟩ := sliceElem_some ht
  obtain ⟨it, z, q1, q2, q3, q4, q5⟩ := zeroOf_some hz
  rw [h2] at q1; cases q1
  cases rx <;> simp only [mksliceW] at hk
  case int k n hn =>
    cases ry <;> simp only at hk
    case int k' m hm =>
      obtain ⟨h0, hnm, hm8, hby, hk⟩ := hk
      have en : IntKind.i64.wrap n = n := IntWalk.i64_in n (by omega)
      have em : IntKind.i64.wrap m = m := IntWalk.i64_in m (by omega)
      have hb' : (i.bytes : Int) * m ≤ 281474976710656 := by
        have : ((m.toNat * i.bytes : Nat) : Int) ≤ 281474976710656 := by omega
        rw [Int.natCast_mul, Int.toNat_of_nonneg (by omega), Int.mul_comm] at this
        exact this
      have r0 : RowsRep G w.heap i.size ((Array.range (m.toNat * i.size)).map fun j => z.cells[j % z.cells.size]!) (List.replicate m.toNat zero) := by
        rw [← q3]; exact zeros_rep ⟨q4, fun j b hj => q5 _ _ j b hj⟩ m.toNat
      have hle : n.toNat * i.size ≤ m.toNat * i.size := Nat.mul_le_mul_right _ (by omega)
      have hget : ∀ (r : Nat) (row : List AV), (List.replicate n.toNat zero)[r]? = some row → (List.replicate m.toNat zero)[r]? = some row := fun r row h => by
        rw [List.getElem?_replicate] at h ⊢
        split at h
        · rw [if_pos (by omega)]; exact h
        · cases h
      have hsz := r0.size
      simp only [List.length_replicate] at hsz
      obtain ⟨x, I'⟩ := newObj_good I (cs := (Array.range (m.toNat * i.size)).map fun j => z.cells[j % z.cells.size]!) (e := e) (wd := i.size) (rows := List.replicate n.toNat zero) (by rw [hsz]; simpa using hle)
        (by unfold mx; simp; omega) (fun r row h => r0.w r row (hget r row h)) (fun r j row a h ha => r0.rep r j row a (hget r row h) ha) (0, 0) (fun _ _ h => by omega)
      refine ⟨.slice (some ⟨w.heap.size, 0, none⟩) n.toNat m.toNat, _, ?_, _, _, _, hk, x, I', ref_new (by rw [hsz]; exact Nat.le_refl _) (by omega) (by unfold mx; omega)⟩
      have t1 : ((decide (m < 0) || decide ((i.bytes : Int) * m > 2 ^ 48)) || decide (n < 0) || decide (n > m)) = false := by
        simp; omega
      unfold Instr.makeSlice
      simp only [Sem.run_bind, run_underlying h1, Result.andThen_ok, asInt, asIntOf, Sem.run_pure, r_typeInfo h2, en, em, t1, Bool.false_eq_true, if_false, run_askRoom, r_sizeOf h2]
      by_cases hz0 : m.toNat * i.size = 0
      · have ez : (Array.range 0 : Array Nat) = #[] := rfl
        simp only [hz0, if_true, Sem.run_pure, Result.andThen_ok, ez, Array.map_empty, newRow, Sem.run_bind, run_newObj]
        rfl
      · simp only [hz0, if_false, Sem.run_bind, r_zero h2 q2, Result.andThen_ok, Sem.run_pure, newRow, run_newObj]
        rfl
    all_goals exact hk.elim
  all_goals exact hk.elim

/-! ### unary operators, conversions -/
def unW (op : UnOp) (x : AV) (K : AV → Prop) : Prop :=
  match op, x with
  | .not, .bool b => K (.bool (!b))
  | .neg, .int k n => K (.int k (k.wrap (0 - n)))
  | _, _ => False

theorem un_sound (I : Inv G H w.heap) {op : UnOp} {v : Value} {x : AV} (r : Rep G w.heap v x) (hk : unW op x (fun v => K v H G.c)) : Run P (Op.unary op v) G H w K := by
  cases r <;> cases op <;> simp only [unW] at hk <;> first
    | exact hk.elim
    | exact Run.here I (v := .bool (!_)) (by simp only [Op.unary, Sem.run_pure]) hk .bool
    | exact Run.here I (v := .int _ (IntKind.wrap _ (0 - _))) (by simp only [Op.unary, Op.intArith, Sem.run_pure]) hk (.int (iok_wrap _ _))

def toIntW (k : IntKind) (x : AV) (K : AV → Prop) : Prop := match x with | .int _ n => K (.int k (k.wrap n)) | _ => False

theorem toInt_sound (I : Inv G H w.heap) {src dst : TypeId} {d : TypeDesc} {k : IntKind} (hs : P.underlying src = some d) (hd : P.underlying dst = some (.int k)) {v : Value} {x : AV} (r : Rep G w.heap v x)
    (hk : toIntW k x (fun v => K v H G.c)) : Run P (convert src dst v) G H w K := by
  cases r <;> simp only [toIntW] at hk
  case int k' n hn =>
    refine Run.here I (v := .int k (k.wrap n)) ?_ hk (.int (iok_wrap _ _))
    unfold convert
    simp only [Sem.run_bind, run_underlying hs, run_underlying hd, Result.andThen_ok, Conv.intToInt, Sem.run_pure]
  all_goals exact hk.elim

/-- A slice of bytes, as0 a string. -/
def toStrW (x : AV) (H : List AObj) (K : AV → Prop) : Prop :=
  match x with
  | .slc _ _ _ | .ref _ _ _ _ | .nsl => srcW 1 x H fun rows => ∃ l : List UInt8, rows = l.map byteRow ∧ l.length ≤ mx ∧ K (.str l)
  | _ => False

theorem fold_bytes : ∀ (l : List UInt8) (s : ByteArray), ((l.map fun b => (b.toNat : Int)).foldl (fun r n => r.push (UInt8.ofNat n.toNat)) s).data.toList = s.data.toList ++ l := by
  intro l
  induction l with
  | nil => intro s; simp
  | cons b l ih => intro s; simp only [List.map_cons, List.foldl_cons]; rw [ih]; simp [ByteArray.push]

theorem toStr_sound (I : Inv G H w.heap) {src dst e : TypeId} (hs : P.underlying src = some (.slice e)) (he : P.underlying e = some (.int .u8)) (hd : P.underlying dst = some .string) {v : Value} {x : AV} (r : Rep G w.heap v x)
    (hk : toStrW x H (fun v => K v H G.c)) : Run P (convert src dst v) G H w K := by
  have hk' : srcW 1 x H fun rows => ∃ l : List UInt8, rows = l.map byteRow ∧ l.length ≤ mx ∧ K (.str l) H G.c := by
    cases x <;> simp only [toStrW] at hk <;> first | exact hk.elim | exact hk
  obtain ⟨cs, rows, s1, s2, l, rfl, hl, k⟩ := src_sound (P := P) I r hk'
  have hcs : cs = (l.map fun b => Value.int .u8 (b.toNat : Int)).toArray := by
    apply Array.ext_getElem?
    intro j
    by_cases hj : j < l.length
    · have hrow : (l.map byteRow)[j]? = some (byteRow l[j]) := by simp [hj]
      obtain ⟨z, hz, _, rz⟩ := s2.rep j 0 _ (.int .u8 l[j].toNat) hrow rfl
      cases rz
      simp only [Nat.mul_one, Nat.add_zero] at hz
      rw [hz]; simp [hj]
    · have hsz : cs.size = l.length := by simpa using s2.size
      rw [Array.getElem?_eq_none (by omega), Array.getElem?_eq_none (by simp; omega)]
  have hload := (s1 w rfl).2
  have key : ∀ a len cap, v = .slice a len cap → len = l.length → Run P (convert src dst v) G H w K := fun a len cap hv hlen => by
    subst hv
    cases a with
    | none =>
      have h0 : l = [] := by
        have h1 : (Builtin.firstCells 1 l.length (.slice none len cap)).run P w = .ok #[] w := rfl
        have h2 := hload
        rw [List.length_map] at h2
        rw [h1] at h2
        have : cs = #[] := by cases h2; rfl
        rw [this] at hcs
        cases l with
        | nil => rfl
        | cons b l => simp at hcs
      subst h0
      refine Run.here I (v := .string .empty) ?_ k (.str rfl hl)
      rw [run_convert_bytes_string w src dst e none len cap hs he hd]; rfl
    | some a =>
      have h2 := hload
      rw [List.length_map, ← hlen] at h2
      simp only [Builtin.firstCells, Nat.mul_one] at h2
      rw [hcs] at h2
      have h3 := run_bytesToString (P := P) w a len cap (l.map fun b => (b.toNat : Int)) (by rw [h2]; simp)
      refine Run.here I ?_ k (.str (fold_bytes l ByteArray.empty) hl)
      rw [run_convert_bytes_string w src dst e (some a) len cap hs he hd]
      exact h3
  have hlenv := (s1 w rfl).1
  rw [List.length_map] at hlenv
  have hlenOf : ∀ a len cap, v = .slice a len cap → len = l.length := fun a len cap hv => by
    subst hv
    have h1 : (Builtin.lenOf (.slice a len cap)).run P w = .ok len w := rfl
    rw [h1] at hlenv; cases hlenv; rfl
  cases r <;> first
    | exact key _ _ _ rfl (hlenOf _ _ _ rfl)
    | (simp only [toStrW] at hk)

/-- A string, as0 a new slice of bytes. -/
def toBytesW (x : AV) (H : List AObj) (c : Nat) (K : AV → List AObj → Nat → Prop) : Prop :=
  match x with
  | .str l => K (.ref H.length c 1 l.length) (H ++ [⟨false, c, 1, l.map byteRow⟩]) (c + 1)
  | _ => False

theorem toBytes_sound (I : Inv G H w.heap) {src dst e : TypeId} {d : TypeDesc} (hs : P.underlying src = some .string) (hd : P.underlying dst = some (.slice e)) (he : P.underlying e = some (.int .u8)) {v : Value} {x : AV} (r : Rep G w.heap v x)
    (hk : toBytesW x H G.c K) : Run P (convert src dst v) G H w K := by
  cases r <;> simp only [toBytesW] at hk
  case str s l hl he' =>
    subst hl
    have hsz : s.data.toList.length = s.size := by cases s; rfl
    generalize hcap : (Question.appendCap s.size 0 e).cut (w.tape w.drawn (.appendCap s.size 0 e)) = cap
    have hle : s.size ≤ cap := by rw [← hcap]; simp only [Question.cut]; omega
    have hcm : cap ≤ mx := by
      have hlt := Nat.mod_lt (w.tape w.drawn (.appendCap s.size 0 e)) (show 0 < 2 ^ 63 - s.size by unfold mx at he'; omega)
      rw [← hcap]
      simp only [Question.cut]
      unfold mx at he' ⊢
      omega
    let cs : Array Value := (s.data.map fun b => Value.int .u8 b.toNat) ++ Array.replicate (cap - s.size) (.int .u8 0)
    have hcs : cs.size = cap := by simp [cs]; omega
    obtain ⟨x, I'⟩ := newObj_good (w := w.drew) I (cs := cs) (e := e) (wd := 1) (rows := s.data.toList.map byteRow) (by simp [hcs, hle]) (by simpa using he')
      (fun r row h => by simp at h; obtain ⟨b, _, rfl⟩ := h; rfl)
      (fun r j row a h ha => by
        simp at h; obtain ⟨b, hb, rfl⟩ := h
        cases j with
        | zero =>
          simp [byteRow] at ha; subst ha
          have hr : r < s.size := by have := (Array.getElem?_eq_some_iff.1 hb).1; simpa using this
          refine ⟨.int .u8 b.toNat, ?_, rfl, .int (iok_u8 b)⟩
          simp only [cs, Nat.mul_one, Nat.add_zero]
          rw [Array.getElem?_append_left (by simpa using hr), Array.getElem?_map, hb]; rfl
        | succ j => simp [byteRow] at ha) (cap, cap + 1) (fun i hi h => by omega)
    refine ⟨.slice (some ⟨w.heap.size, 0, none⟩) s.size cap, _, ?_, _, _, _, hk, { x with }, I', ?_⟩
    · unfold convert
      simp only [Sem.run_bind, run_underlying hs, run_underlying hd, Result.andThen_ok, run_underlying he, Conv.stringToBytes, run_choose, Question.forced, Bool.false_eq_true, if_false, hcap, World.drew_eq, newRow, run_newObj, World.alloc_eq,
        Sem.run_pure, markStringish, run_shape]
      have hshape : (w.drew.alloc (.cells cs e)).shape? w.heap.size = some (e, cap) := by
        simp only [World.shape?, World.alloc, World.drew, Array.getElem?_push, if_true, hcs]
      have hfr : (w.drew.alloc (.cells cs e)).freeze ⟨w.heap.size, cap, none⟩ 1 = w.drew.alloc (.cells cs e (cap, cap + 1)) := by
        unfold World.freeze World.alloc World.drew
        simp only [Nat.succ_ne_zero, if_false]
        congr 1
        apply Array.ext_getElem?
        intro j
        rw [Array.getElem?_modify, Array.getElem?_push, Array.getElem?_push]
        by_cases hj : w.heap.size = j
        · subst hj; simp
        · simp [hj, Ne.symm hj]
      show Result.andThen (Sem.run P (match (w.drew.alloc (.cells cs e)).shape? w.heap.size with | some (_, n) => freeze { block := w.heap.size, off := n } 1 | _ => pure ()) (w.drew.alloc (.cells cs e))) _ = _
      rw [hshape]
      simp only [run_freeze, Result.andThen_ok, hfr]
      rfl
    · have := ref_new (G := G) (w := w.drew) (c := cs) (e := e) (fr := (cap, cap + 1)) (i := H.length) (wd := 1) (len := s.size) (cap := cap) (by rw [hcs, Nat.mul_one]; exact Nat.le_refl _) hle hcm
      rw [hsz]
      exact this
  all_goals exact hk.elim
end
end A
end Go.Proofs.YtkcilmkienlnoaaGreatDoor

/-
  Maps: what each operation does to abstract values, and that the model's does so. No condition.
-/

namespace Go.Proofs.YtkcilmkienlnoaaGreatDoor
namespace A
set_option linter.unusedVariables false
section
variable {P : Program} {G : Gh} {H : List AObj} {w : World} {K : AV → List AObj → Nat → Prop}

def keyEq : AV → AV → Option Bool
  | .str a, .str b => some (a == b)
  | .int k a, .int k' b => if k = k' then some (a == b) else none
  | .bool a, .bool b => some (a == b)
  | _, _ => none

def mfind (k : AV) : List (List AV) → Nat → Option (Option (Nat × AV))
  | [], _ => some none
  | [k', v] :: rest, i =>
    match keyEq k k' with
    | some true => some (some (i, v))
    | some false => mfind k rest (i + 1)
    | none => none
  | _ :: _, _ => none

def keyDesc : TypeDesc → Bool
  | .string | .int _ | .bool => true
  | _ => false

/-- The key's type: its kind of value tells keys apart. -/
def keyT (P : Program) (t : TypeId) : Bool := match P.underlying t with | some .string | some (.int _) | some .bool => true | _ => false

def keyFits (d : TypeDesc) (k : AV) : Bool :=
  match d, k with
  | .string, .str _ | .int _, .int _ _ | .bool, .bool _ => true
  | _, _ => false

theorem beq_ba (a b : ByteArray) : (a == b) = (a.data.toList == b.data.toList) := by
  rw [beq_toListBytes, ByteArray.toList_eq, ByteArray.toList_eq]

theorem sameNow_eq {h : Array Obj} {d : TypeDesc} {a b : Value} {x y : AV} (ra : Rep G h a x) (rb : Rep G h b y) (hd : keyFits d x = true) {c : Bool} (hq : keyEq x y = some c) : Instr.sameNow d a b = some c := by
  cases ra <;> cases d <;> simp only [keyFits] at hd <;> first
    | (cases hd; done)
    | skip
  all_goals cases rb <;> simp only [keyEq] at hq <;> first
    | exact hq
    | (cases hq; done)
    | (subst_vars; simp only [Instr.sameNow]; rw [beq_ba]; exact hq)

theorem findNow_eq {h : Array Obj} {d : TypeDesc} {kv : Value} {k : AV} (rk : Rep G h kv k) (hd : keyFits d k = true) : ∀ (es : List MapEntry) (rows : List (List AV)) (i : Nat),
    es.length = rows.length → (∀ (r : Nat) (row : List AV), rows[r]? = some row → ∃ (k v : AV) (en : MapEntry), row = [k, v] ∧ es[r]? = some en ∧ Rep G h en.key k ∧ Rep G h en.val v) →
    ∀ res, mfind k rows i = some res → ∃ res', Instr.findNow d kv es i = some res' ∧ (match res, res' with
      | some (j, v), some (j', v') => j = j' ∧ i ≤ j ∧ Rep G h v' v ∧ ∃ k' : AV, rows[j - i]? = some [k', v] ∧ keyEq k k' = some true
      | none, none => True
      | _, _ => False) := by
  intro es
  induction es with
  | nil =>
    intro rows i hl hr res hm
    cases rows with
    | nil => simp only [mfind] at hm; cases hm; exact ⟨none, rfl, trivial⟩
    | cons a l => simp at hl
  | cons e es ih =>
    intro rows i hl hr res hm
    cases rows with
    | nil => simp at hl
    | cons row rows =>
      obtain ⟨k', v, en, rfl, he, r1, r2⟩ := hr 0 row rfl
      simp at he; subst he
      simp only [mfind] at hm
      simp only [Instr.findNow]
      cases hq : keyEq k k' with
      | none => rw [hq] at hm; cases hm
      | some b =>
        rw [hq] at hm
        rw [sameNow_eq rk r1 hd hq]
        cases b with
        | true =>
          simp only at hm; cases hm
          exact ⟨some (i, e.val), rfl, rfl, Nat.le_refl _, r2, k', by simp, hq⟩
        | false =>
          simp only at hm
          obtain ⟨res', h1, h2⟩ := ih rows (i + 1) (by simpa using hl) (fun r row h => hr (r + 1) row h) res hm
          refine ⟨res', h1, ?_⟩
          cases res with
          | none =>
            cases res' with
            | none => trivial
            | some p => exact h2.elim
          | some p =>
            cases res' with
            | none => exact h2.elim
            | some p' =>
              obtain ⟨j, v'⟩ := p
              obtain ⟨j', v''⟩ := p'
              obtain ⟨e1, e2, e3, k'', e4, e5⟩ := h2
              refine ⟨e1, by omega, e3, k'', ?_, e5⟩
              have : j - i = j - (i + 1) + 1 := by omega
              rw [this]; exact e4

theorem run_checkKey {t : TypeId} {d : TypeDesc} (ht : P.underlying t = some d) (hd : keyDesc d = true) (b : Bool) (n : Nat) (v : Value) : (Instr.checkKey b (n + 1) t v).run P w = .ok () w := by
  cases d <;> first
    | (cases hd; done)
    | (simp only [Instr.checkKey, Sem.run_bind, run_underlying ht, Result.andThen_ok, Sem.run_pure])

theorem run_findKey {t : TypeId} {d : TypeDesc} (ht : P.underlying t = some d) {k : Value} {es : List MapEntry} {r : Option (Nat × Value)} (h : Instr.findNow d k es 0 = some r) : (Instr.findKey t k es).run P w = .ok r w := by
  unfold Instr.findKey
  simp only [Sem.run_bind, run_underlying ht, Result.andThen_ok, h, Sem.run_pure]

/-- The zero of a type, as0 a value. -/
def zeroVal? (P : Program) (t : TypeId) : Option AV := do
  let i ← P.info? t
  let z ← i.zero
  match z with
  | .agg cs => (cs.toList.mapM constAV).map .agg
  | v => constAV v

theorem zeroVal_some {t : TypeId} {a : AV} (h : zeroVal? P t = some a) : ∃ z, (∀ w : World, (zeroValue t).run P w = .ok z w) ∧ ∀ (G : Gh) (hp : Array Obj), Rep G hp z a := by
  unfold zeroVal? at h
  simp only [Option.bind_eq_bind, Option.bind_eq_some_iff] at h
  obtain ⟨i, hi, z, hz, h⟩ := h
  refine ⟨z, fun w => r_zero hi hz w, fun G hp => ?_⟩
  split at h
  · simp only [Option.map_eq_some_iff] at h
    obtain ⟨l, hl, rfl⟩ := h
    obtain ⟨h1, h2⟩ := mapM_constAV _ _ hl
    refine .agg (by simpa using h1) (fun j b hj => ?_) (fun j b hj => ?_)
    · obtain ⟨v, _, hc⟩ := h2 j b hj; exact constAV_cell hc
    · obtain ⟨v, hv, hc⟩ := h2 j b hj
      rw [Array.getElem?_toList] at hv
      rw [getD_of hv]; exact constAV_rep hc G hp
  · exact constAV_rep h G hp

def lookupW (d : TypeDesc) (zero : AV) (ok : Bool) (m k : AV) (H : List AObj) (K : AV → Prop) : Prop :=
  match m with
  | .mref i tag => keyFits d k = true ∧ getW H i fun ob => ob.tag = tag ∧ ob.mp = true ∧
      (match mfind k ob.rows 0 with
       | some (some (_, v)) => K (if ok then .tup [v, .bool true] else v)
       | some none => K (if ok then .tup [zero, .bool false] else zero)
       | none => False)
  | _ => False

theorem rep_pair {G : Gh} {h : Array Obj} {v : Value} {a : AV} (r : Rep G h v a) (b : Bool) : Rep G h (.tuple #[v, .bool b]) (.tup [a, .bool b]) := by
  refine .tup rfl fun j x hj => ?_
  match j, hj with
  | 0, hj => simp at hj; subst hj; exact r
  | 1, hj => simp at hj; subst hj; exact .bool
  | j + 2, hj => simp at hj

theorem lookup_sound (I : Inv G H w.heap) {t kt et : TypeId} {d : TypeDesc} (ht : P.underlying t = some (.map kt et)) (hk : P.underlying kt = some d) (hd : keyDesc d = true)
    {zero : AV} (hz : zeroVal? P et = some zero) {ok : Bool} {u v : Value} {x y : AV} (rx : Rep G w.heap u x) (ry : Rep G w.heap v y) (hk' : lookupW d zero ok x y H (fun v => K v H G.c)) :
    Run P (Instr.lookup t u v ok) G H w K := by
  cases rx <;> simp only [lookupW] at hk'
  case mref i tag hc =>
    obtain ⟨hfit, ob, hob, rfl, hmp, hk'⟩ := hk'
    obtain ⟨es, clock, h1, h2, h3, h4⟩ := (I.obj ob (List.mem_of_getElem? hob)).mlies hmp
    obtain ⟨z, hz1, hz2⟩ := zeroVal_some hz
    have hg : (getObj (G.m ob.tag)).run P w = .ok (.map es clock) w := by simp only [getObj, Sem.run, h1]
    cases hm : mfind y ob.rows 0 with
    | none => rw [hm] at hk'; exact hk'.elim
    | some res =>
      rw [hm] at hk'
      obtain ⟨res', e1, e2⟩ := findNow_eq ry hfit es.toList ob.rows 0 (by simpa using h2) (fun r row h => by
        obtain ⟨k, v, en, a1, a2, a3, a4⟩ := h4 r row h
        exact ⟨k, v, en, a1, by rw [Array.getElem?_toList]; exact a2, a3, a4⟩) res hm
      have run : (Instr.lookup t (.map (some (G.m ob.tag))) v ok).run P w = (match res' with
          | some (_, v) => .ok (if ok then .tuple #[v, .bool true] else v) w
          | none => .ok (if ok then .tuple #[z, .bool false] else z) w) := by
        unfold Instr.lookup
        simp only [Sem.run_bind, run_underlying ht, Result.andThen_ok, hg, Sem.run_pure, run_checkKey hk hd, run_findKey hk e1]
        cases res' with
        | none => simp only [Sem.run_bind, hz1, Result.andThen_ok, Sem.run_pure]
        | some p => rfl
      cases res with
      | none =>
        cases res' with
        | some p => exact e2.elim
        | none =>
          refine Run.here I run hk' ?_
          cases ok
          · exact hz2 _ _
          · exact rep_pair (hz2 _ _) false
      | some p =>
        cases res' with
        | none => exact e2.elim
        | some p' =>
          obtain ⟨j, a⟩ := p
          obtain ⟨j', v'⟩ := p'
          obtain ⟨_, _, r, _⟩ := e2
          refine Run.here I run hk' ?_
          cases ok
          · exact r
          · exact rep_pair r true
  all_goals exact hk'.elim

def mkmapW (H : List AObj) (c : Nat) (K : AV → List AObj → Nat → Prop) : Prop := K (.mref H.length c) (H ++ [⟨true, c, 0, []⟩]) (c + 1)

theorem mkmap_sound (I : Inv G H w.heap) {t : TypeId} (hk : mkmapW H G.c K) : Run P (Instr.makeMap t none) G H w K := by
  have hob : ObjOk (G.new w.heap.size) (w.heap.push (.map #[] 0)) ⟨true, G.c, 0, []⟩ := by
    refine ⟨by simp [Gh.new], fun h => (by cases h), fun _ => ⟨#[], 0, by simp [Gh.new], rfl, by simp, by simp⟩⟩
  refine ⟨.map (some w.heap.size), w.alloc (.map #[] 0), ?_, _, _, G.new w.heap.size, hk, Ext.push I _ _ rfl, Inv.push I _ _ rfl hob, ?_⟩
  · unfold Instr.makeMap
    simp only [Sem.run_bind, run_newObj, Result.andThen_ok, Sem.run_pure]
    rfl
  · have h := Rep.mref (G := G.new w.heap.size) (h := (w.alloc (.map #[] 0)).heap) (i := H.length) (tag := G.c) (by simp [Gh.new])
    simpa [Gh.new] using h

def mupdW (d : TypeDesc) (m k v : AV) (H : List AObj) (c : Nat) (K : AV → List AObj → Nat → Prop) : Prop :=
  match m with
  | .mref i tag => keyFits d k = true ∧ getW H i fun ob => ob.tag = tag ∧ ob.mp = true ∧
      (match mfind k ob.rows 0 with
       | some (some (j, _)) => K .und (H.set i { ob with rows := ob.rows.set j [k, v] }) c
       | some none => ob.rows.length < mx ∧ K .und (H.set i { ob with rows := ob.rows ++ [[k, v]] }) c
       | none => False)
  | _ => False

theorem keyThatStays_run {h : Array Obj} {a b : Value} {x y : AV} (ra : Rep G h a x) (rb : Rep G h b y) (hk : keyEq x y = some true) : (Instr.keyThatStays b a).run P w = .ok a w := by
  have : Instr.sameBits 10000 b a = true := by
    cases ra <;> cases rb <;> simp only [keyEq] at hk <;> first
      | (cases hk; done)
      | skip
    · split at hk
      · subst_vars; simp at hk; subst hk; simp [Instr.sameBits]
      · cases hk
    · simp at hk; subst hk; simp [Instr.sameBits]
    · simp only [Instr.sameBits]
      rw [beq_ba]
      subst_vars
      simp only [Option.some.injEq, beq_iff_eq] at hk ⊢
      exact hk.symm
  unfold Instr.keyThatStays
  rw [this]; rfl

theorem Inv.writeMap {h : Array Obj} (I : Inv G H h) {i : Nat} {ob : AObj} (hob : H[i]? = some ob) {es es' : Array MapEntry} {clock clock' : Nat} (h1 : h[G.m ob.tag]? = some (.map es clock)) {rows : List (List AV)} (hmp : ob.mp = true)
    (hs : es'.size = rows.length) (hm : rows.length ≤ mx) (hr : ∀ (r : Nat) (row : List AV), rows[r]? = some row → ∃ (k v : AV) (en : MapEntry), row = [k, v] ∧ es'[r]? = some en ∧ Rep G h en.key k ∧ Rep G h en.val v) :
    Ext1 G h G (h.setIfInBounds (G.m ob.tag) (.map es' clock')) ∧ Inv G (H.set i { ob with rows := rows }) (h.setIfInBounds (G.m ob.tag) (.map es' clock')) := by
  have hnc : ∀ c e fr, h[G.m ob.tag]? = some (.cells c e fr) → ∃ c' fr', (Obj.map es' clock') = .cells c' e fr' ∧ c'.size = c.size := fun c e fr hb => by rw [h1] at hb; cases hb
  have x : Ext1 G h G (h.setIfInBounds (G.m ob.tag) (.map es' clock')) := Ext1.write (fun u hF => I.nfz_m (mem_tags (List.mem_of_getElem? hob)) hF) hnc
  refine I.write hob (ob' := { ob with rows := rows }) rfl hnc ⟨(I.obj ob (List.mem_of_getElem? hob)).c, fun hm' => by simp [hmp] at hm', fun _ => ⟨es', clock', by simp [lt_of_get h1], hs, hm, fun r row h => ?_⟩⟩
  obtain ⟨k, v, en, a1, a2, a3, a4⟩ := hr r row h
  exact ⟨k, v, en, a1, a2, a3.ext x, a4.ext x⟩

theorem mupd_sound (I : Inv G H w.heap) {t kt et : TypeId} {d : TypeDesc} (ht : P.underlying t = some (.map kt et)) (hk : P.underlying kt = some d) (hd : keyDesc d = true)
    {u v z : Value} {x y q : AV} (rx : Rep G w.heap u x) (ry : Rep G w.heap v y) (rz : Rep G w.heap z q) (hk' : mupdW d x y q H G.c K) :
    ∃ w', (Instr.mapUpdate t u v z).run P w = .ok () w' ∧ Good G H w K undef w' := by
  cases rx <;> simp only [mupdW] at hk'
  case mref i tag hc =>
    obtain ⟨hfit, ob, hob, rfl, hmp, hk'⟩ := hk'
    obtain ⟨es, clock, h1, h2, h3, h4⟩ := (I.obj ob (List.mem_of_getElem? hob)).mlies hmp
    have hg : (getObj (G.m ob.tag)).run P w = .ok (.map es clock) w := by simp only [getObj, Sem.run, h1]
    have hset : ∀ o : Obj, (setObj (G.m ob.tag) o).run P w = .ok () (wset w (G.m ob.tag) o) := fun o => by
      simp only [setObj, Sem.run, h1]; rfl
    cases hm : mfind y ob.rows 0 with
    | none => rw [hm] at hk'; exact hk'.elim
    | some res =>
      rw [hm] at hk'
      obtain ⟨res', e1, e2⟩ := findNow_eq ry hfit es.toList ob.rows 0 (by simpa using h2) (fun r row h => by
        obtain ⟨k, v, en, a1, a2, a3, a4⟩ := h4 r row h
        exact ⟨k, v, en, a1, by rw [Array.getElem?_toList]; exact a2, a3, a4⟩) res hm
      cases res with
      | none =>
        cases res' with
        | some p => exact e2.elim
        | none =>
          obtain ⟨hlt, hk'⟩ := hk'
          obtain ⟨x, I'⟩ := Inv.writeMap I hob h1 (es' := es.push { key := v, val := z, born := clock }) (clock' := clock + 1) (rows := ob.rows ++ [[y, q]]) hmp (by simp [h2]) (by simp; omega) (fun r row h => by
            rw [List.getElem?_append] at h
            split at h
            · obtain ⟨k, v', en, a1, a2, a3⟩ := h4 r row h
              exact ⟨k, v', en, a1, by rw [Array.getElem?_push, if_neg (by omega)]; exact a2, a3⟩
            · rename_i hge
              have hr0 : r - ob.rows.length = 0 := by
                have := (List.getElem?_eq_some_iff.1 h).1; simp at this; omega
              rw [hr0] at h; simp at h; subst h
              exact ⟨y, q, _, rfl, by rw [Array.getElem?_push, if_pos (by omega)], ry, rz⟩)
          refine ⟨_, ?_, .und, _, _, hk', Ext.write I hob (ob' := { ob with rows := ob.rows ++ [[y, q]] }) rfl x, I', .und⟩
          unfold Instr.mapUpdate
          simp only [Sem.run_bind, run_underlying ht, Result.andThen_ok, hg, run_checkKey hk hd, run_findKey hk e1, hset]
      | some p =>
        cases res' with
        | none => exact e2.elim
        | some p' =>
          obtain ⟨j, a⟩ := p
          obtain ⟨j', v'⟩ := p'
          obtain ⟨hj, _, r, k', hrow, hkq⟩ := e2
          subst hj
          rw [Nat.sub_zero] at hrow
          obtain ⟨k0, v0, en, a1, a2, a3, a4⟩ := h4 j _ hrow
          cases a1
          have hjl : j < ob.rows.length := (List.getElem?_eq_some_iff.1 hrow).1
          have hstay : (Instr.keyThatStays (((es[j]?).map (·.key)).getD v) v).run P w = .ok v w := by
            rw [a2]; exact keyThatStays_run ry a3 hkq
          obtain ⟨x, I'⟩ := Inv.writeMap I hob h1 (es' := es.modify j fun e => { e with key := v, val := z }) (clock' := clock) (rows := ob.rows.set j [y, q]) hmp (by simp [h2]) (by simpa using h3) (fun r row h => by
            rw [List.getElem?_set] at h
            split at h
            · rename_i e; subst e; cases h
              exact ⟨y, q, { en with key := v, val := z }, rfl, by rw [Array.getElem?_modify, if_pos rfl, a2]; rfl, ry, rz⟩
            · rename_i hne
              obtain ⟨k, v'', en', b1, b2, b3⟩ := h4 r row h
              exact ⟨k, v'', en', b1, by rw [Array.getElem?_modify, if_neg hne]; exact b2, b3⟩)
          refine ⟨_, ?_, .und, _, _, hk', Ext.write I hob (ob' := { ob with rows := ob.rows.set j [y, q] }) rfl x, I', .und⟩
          unfold Instr.mapUpdate
          simp only [Sem.run_bind, run_underlying ht, Result.andThen_ok, hg, run_checkKey hk hd, run_findKey hk e1, hstay, hset]
  all_goals exact hk'.elim
end
end A
end Go.Proofs.YtkcilmkienlnoaaGreatDoor

/-
  Structs compared; abstract values seen as0 others; calls. No condition.
-/

namespace Go.Proofs.YtkcilmkienlnoaaGreatDoor
namespace A
set_option linter.unusedVariables false
section
variable {P : Program} {G : Gh} {H : List AObj} {w : World} {K : AV → List AObj → Nat → Prop}

/-! ### structs of plain fields, compared -/
def eqCells : List AV → List AV → Option Bool
  | [], [] => some true
  | a :: as0, b :: bs =>
    match keyEq a b with
    | some true => eqCells as0 bs
    | some false => some false
    | none => none
  | _, _ => none

def flatFields (P : Program) : List Field → Nat → Bool
  | [], _ => true
  | f :: fs, k => f.offset == k && f.name != "_" && keyT P f.type && flatFields P fs (k + 1)

def flatT (P : Program) (t : TypeId) : Bool :=
  match P.underlying t with
  | some (.struct fs) => flatFields P fs.toList 0 && !P.stoodInHeld t && !P.eqGuardType P.depth t
  | _ => false

theorem run_equalIn_key {h : Array Obj} {t : TypeId} (ht : keyT P t = true) {a b : Value} {x y : AV} (ra : Rep G h a x) (rb : Rep G h b y) {c : Bool} (hk : keyEq x y = some c) (hfit : ∀ d, P.underlying t = some d → keyFits d x = true) (n : Nat) :
    (Op.equalIn (n + 1) t a b).run P w = .ok c w := by
  unfold keyT at ht
  split at ht
  · rename_i hu
    have hf := hfit _ hu
    cases ra <;> simp only [keyFits] at hf <;> first | (cases hf; done) | skip
    cases rb <;> simp only [keyEq] at hk <;> first | (cases hk; done) | skip
    subst_vars
    rw [run_equalIn_string w n t _ _ hu, ByteArray.toList_eq, ByteArray.toList_eq, Option.some.inj hk]
  · rename_i k hu
    have hf := hfit _ hu
    cases ra <;> simp only [keyFits] at hf <;> first | (cases hf; done) | skip
    cases rb <;> simp only [keyEq] at hk <;> first | (cases hk; done) | skip
    split at hk
    · subst_vars
      rw [run_equalIn_int w n t _ _ _ _ hu, Option.some.inj hk]
    · cases hk
  · rename_i hu
    have hf := hfit _ hu
    cases ra <;> simp only [keyFits] at hf <;> first | (cases hf; done) | skip
    cases rb <;> simp only [keyEq] at hk <;> first | (cases hk; done) | skip
    rw [equalIn_bool n hu, Option.some.inj hk]
  · cases ht

theorem keyT_agg {t : TypeId} (ht : keyT P t = true) : ∃ d, P.underlying t = some d ∧ aggD d = false := by
  unfold keyT at ht
  split at ht <;> first | exact ⟨_, by assumption, rfl⟩ | cases ht

/-- The cells' kinds fit the fields' types (so has the program been checked; here it is asked of the values at hand). -/
def fitsF (P : Program) : List Field → List AV → Bool
  | [], [] => true
  | f :: fs, a :: as0 => (match P.underlying f.type with | some d => keyFits d a | none => false) && fitsF P fs as0
  | _, _ => false

theorem eqFields_sound (n : Nat) {xs ys : Array Value} : ∀ (fs : List Field) (k : Nat) (l m : List AV), flatFields P fs k = true → fitsF P fs l = true →
    (∀ (j : Nat) (a : AV), l[j]? = some a → xs[k + j]? = some (xs.getD (k + j) undef) ∧ Rep G w.heap (xs.getD (k + j) undef) a) →
    (∀ (j : Nat) (a : AV), m[j]? = some a → ys[k + j]? = some (ys.getD (k + j) undef) ∧ Rep G w.heap (ys.getD (k + j) undef) a) →
    ∀ b, eqCells l m = some b → (Op.eqFields (n + 1) xs ys fs).run P w = .ok b w := by
  intro fs
  induction fs with
  | nil =>
    intro k l m _ hfit _ _ b hb
    cases l with
    | nil =>
      cases m with
      | nil => simp only [eqCells] at hb; cases hb; rfl
      | cons _ _ => simp only [eqCells] at hb; cases hb
    | cons _ _ => simp [fitsF] at hfit
  | cons f fs ih =>
    intro k l m hflat hfit hl hm b hb
    simp only [flatFields, Bool.and_eq_true, beq_iff_eq, bne_iff_ne, ne_eq] at hflat
    obtain ⟨⟨⟨ho, hname⟩, hkt⟩, hflat⟩ := hflat
    cases l with
    | nil => simp [fitsF] at hfit
    | cons a as0 =>
      cases m with
      | nil => simp only [eqCells] at hb; cases hb
      | cons a' as' =>
        simp only [fitsF, Bool.and_eq_true] at hfit
        obtain ⟨d, hd, hagg⟩ := keyT_agg hkt
        obtain ⟨hx, rx⟩ := hl 0 a rfl
        obtain ⟨hy, ry⟩ := hm 0 a' rfl
        rw [Nat.add_zero] at hx rx hy ry
        have part1 : (part f.type xs f.offset).run P w = .ok (xs.getD k undef) w := by
          unfold part
          simp only [Sem.run_bind, r_isAgg hd, hagg, Result.andThen_ok, Bool.false_eq_true, if_false, ho, hx, Sem.run_pure]
        have part2 : (part f.type ys f.offset).run P w = .ok (ys.getD k undef) w := by
          unfold part
          simp only [Sem.run_bind, r_isAgg hd, hagg, Result.andThen_ok, Bool.false_eq_true, if_false, ho, hy, Sem.run_pure]
        have hfit1 : ∀ d', P.underlying f.type = some d' → keyFits d' a = true := fun d' hd' => by
          have := hfit.1; rw [hd'] at this; exact this
        simp only [eqCells] at hb
        cases hq : keyEq a a' with
        | none => rw [hq] at hb; cases hb
        | some c =>
          rw [hq] at hb
          have he := run_equalIn_key (w := w) hkt rx ry hq hfit1 n
          simp only [Op.eqFields]
          rw [if_pos hname]
          simp only [Sem.run_bind, part1, part2, he, Result.andThen_ok]
          cases c with
          | false =>
            simp only at hb; cases hb
            rfl
          | true =>
            simp only at hb
            simp only [Bool.not_true, Bool.false_eq_true, if_false]
            exact ih (k + 1) as0 as' hflat hfit.2 (fun j x hj => by have := hl (j + 1) x hj; rwa [← Nat.add_assoc, Nat.add_right_comm] at this) (fun j x hj => by have := hm (j + 1) x hj; rwa [← Nat.add_assoc, Nat.add_right_comm] at this) b hb

def kindOf (d : TypeDesc) : Nat := match d with | .int _ => 0 | .string => 1 | .bool => 2 | _ => 3
def kindsF (P : Program) (fs : List Field) : List Nat := fs.map fun f => match P.underlying f.type with | some d => kindOf d | none => 3
def fitsK : List Nat → List AV → Bool
  | [], [] => true
  | 0 :: ks, .int _ _ :: as0 => fitsK ks as0
  | 1 :: ks, .str _ :: as0 => fitsK ks as0
  | 2 :: ks, .bool _ :: as0 => fitsK ks as0
  | _, _ => false

theorem fits_of : ∀ (fs : List Field) (l : List AV), fitsK (kindsF P fs) l = true → fitsF P fs l = true := by
  intro fs
  induction fs with
  | nil => intro l h; cases l <;> first | rfl | (simp [kindsF, fitsK] at h)
  | cons f fs ih =>
    intro l h
    cases l with
    | nil =>
      simp only [kindsF, List.map_cons] at h
      cases P.underlying f.type with
      | none => simp [fitsK] at h
      | some d => cases d <;> simp [kindOf, fitsK] at h
    | cons a as0 =>
      simp only [kindsF, List.map_cons] at h
      cases hu : P.underlying f.type with
      | none => rw [hu] at h; cases a <;> simp [fitsK] at h
      | some d =>
        rw [hu] at h
        simp only [fitsF, hu, Bool.and_eq_true]
        cases d <;> cases a <;> simp only [kindOf, fitsK] at h <;> first
          | exact ⟨rfl, ih as0 h⟩
          | (cases h; done)

/-- with the fit asked of the left operand -/
def beqW' (neg : Bool) (ks : List Nat) (x y : AV) (K : AV → Prop) : Prop :=
  match x, y with
  | .agg xs, .agg ys => fitsK ks xs = true ∧ (match eqCells xs ys with | some b => K (.bool (b != neg)) | none => False)
  | _, _ => False

theorem beq_sound (I : Inv G H w.heap) {t : TypeId} (ht : flatT P t = true) {op : BinOp} {neg : Bool} (hop : (op = .eql ∧ neg = false) ∨ (op = .neq ∧ neg = true)) {x y : Operand} {u v : Value} {ax ay : AV}
    (rx : Rep G w.heap u ax) (ry : Rep G w.heap v ay) (hk : beqW' neg (kindsF P (P.fieldsOf t).toList) ax ay (fun r => K r H G.c)) : Run P (do eqGuard op t x y u v; binOp op t u v) G H w K := by
  cases rx <;> simp only [beqW'] at hk
  case agg xs l hs hcl hr =>
    cases ry <;> simp only at hk
    case agg ys m hs' hcl' hr' =>
      obtain ⟨hfit, hk⟩ := hk
      unfold flatT at ht
      split at ht
      · rename_i fs hu
        simp only [Bool.and_eq_true, Bool.not_eq_true'] at ht
        obtain ⟨⟨hflat, hst⟩, hg⟩ := ht
        have hfo : P.fieldsOf t = fs := by simp [Program.fieldsOf, hu]
        cases he : eqCells l m with
        | none => rw [he] at hk; exact hk.elim
        | some b =>
          rw [he] at hk
          have h1 := eqFields_sound (P := P) (G := G) (w := w) 9998 (xs := xs) (ys := ys) fs.toList 0 l m hflat (hfo ▸ fits_of _ _ hfit)
            (fun j a hj => by rw [Nat.zero_add]; exact ⟨of_getD (by have := (List.getElem?_eq_some_iff.1 hj).1; omega), hr j a hj⟩)
            (fun j a hj => by rw [Nat.zero_add]; exact ⟨of_getD (by have := (List.getElem?_eq_some_iff.1 hj).1; omega), hr' j a hj⟩) b he
          have h2 : (Op.equalIn 10000 t (.agg xs) (.agg ys)).run P w = .ok b w := by
            have := run_equalIn_struct (P := P) w 9999 t xs ys (by rw [hfo]; exact hu) hst
            rw [hfo] at this
            exact this.trans h1
          rcases hop with ⟨rfl, rfl⟩ | ⟨rfl, rfl⟩
          · refine Run.here I (v := .bool b) ?_ (by simpa using hk) .bool
            simp only [Sem.run_bind, run_eqGuard_agg w .eql t x y xs ys hg, Result.andThen_ok, run_eql_struct, h2]
          · refine Run.here I (v := .bool (!b)) ?_ (by simpa using hk) .bool
            simp only [Sem.run_bind, run_eqGuard_agg w .neq t x y xs ys hg, Result.andThen_ok, run_neq_struct, h2]
      · cases ht
    all_goals exact hk.elim
  all_goals exact hk.elim

/-! ### an abstract value seen as0 another -/
/-- Once the objects of S are only read, what stands for the first stands for the second. -/
inductive View (S : List AObj) : AV → AV → Prop
  | refl (a : AV) : View S a a
  | junk (a : AV) : View S a .junk
  | nsl (tag w : Nat) : View S .nsl (.slc tag w [])
  | slc0 (tag w tag' w' : Nat) : View S (.slc tag w []) (.slc tag' w' [])
  | name {i j tag w len : Nat} : View S (.ref i tag w len) (.ref j tag w len)
  | namep {i j tag w r o : Nat} : View S (.ptr i tag w r o) (.ptr j tag w r o)
  | namem {i j tag : Nat} : View S (.mref i tag) (.mref j tag)
  | agg {l l' : List AV} (hl : l.length = l'.length) (hc : ∀ (j : Nat) (a : AV), l'[j]? = some a → a.cell = true) (h : ∀ (j : Nat) (a a' : AV), l[j]? = some a → l'[j]? = some a' → View S a a') : View S (.agg l) (.agg l')
  | tup {l l' : List AV} (hl : l.length = l'.length) (h : ∀ (j : Nat) (a a' : AV), l[j]? = some a → l'[j]? = some a' → View S a a') : View S (.tup l) (.tup l')
  | slc {tag w : Nat} {rows rows' : List (List AV)} (hl : rows.length = rows'.length) (hr : ∀ (r : Nat) (x x' : List AV), rows[r]? = some x → rows'[r]? = some x' → x.length = x'.length)
      (hc : ∀ (r j : Nat) (x : List AV) (a : AV), rows'[r]? = some x → x[j]? = some a → a.cell = true)
      (h : ∀ (r j : Nat) (x x' : List AV) (a a' : AV), rows[r]? = some x → rows'[r]? = some x' → x[j]? = some a → x'[j]? = some a' → View S a a') : View S (.slc tag w rows) (.slc tag w rows')
  | ref {i tag w len : Nat} {rows rows' : List (List AV)} (ho : (⟨false, tag, w, rows⟩ : AObj) ∈ S) (hle : len ≤ rows.length) (hl : rows'.length = len)
      (hr : ∀ (r : Nat) (x x' : List AV), rows[r]? = some x → rows'[r]? = some x' → x.length = x'.length) (hc : ∀ (r j : Nat) (x : List AV) (a : AV), rows'[r]? = some x → x[j]? = some a → a.cell = true)
      (h : ∀ (r j : Nat) (x x' : List AV) (a a' : AV), rows[r]? = some x → rows'[r]? = some x' → x[j]? = some a → x'[j]? = some a' → View S a a') : View S (.ref i tag w len) (.slc tag w rows')
  | ptr {i tag w r o : Nat} {rows : List (List AV)} {row row' : List AV} (ho : (⟨false, tag, w, rows⟩ : AObj) ∈ S) (hrow : rows[r]? = some row) (hl : row.length = row'.length) (hc : ∀ (j : Nat) (a : AV), row'[j]? = some a → a.cell = true)
      (h : ∀ (j : Nat) (a a' : AV), row[j]? = some a → row'[j]? = some a' → View S a a') : View S (.ptr i tag w r o) (.cpt row' o)

theorem get_of_len {α β : Type} {l : List α} {l' : List β} (h : l.length = l'.length) {j : Nat} {b : β} (hb : l'[j]? = some b) : ∃ a, l[j]? = some a := by
  have := (List.getElem?_eq_some_iff.1 hb).1
  exact ⟨l[j], List.getElem?_eq_getElem (by omega)⟩

theorem View.rep {S : List AObj} {h : Array Obj} (I : Inv G H h) (hS : ∀ o, o ∈ S → o ∈ H) {a a' : AV} (v : View S a a') : ∀ {u : Value}, Rep G h u a → Rep (G.freeze S) h u a' := by
  have x := Ext1.freeze G S h
  induction v with
  | refl a => exact fun r => r.ext x
  | junk a => exact fun _ => .junk
  | nsl tag w => intro u r; cases r; exact .slc0
  | slc0 tag w tag' w' => intro u r; cases r <;> exact .slc0
  | name => intro u r; cases r with | ref hc hb h1 h2 h3 => exact .ref (G := G.freeze S) hc hb h1 h2 h3
  | namep => intro u r; cases r with | ptr hc => exact .ptr (G := G.freeze S) hc
  | namem => intro u r; cases r with | mref hc => exact .mref (G := G.freeze S) hc
  | agg hl hc h ih =>
    intro u r
    cases r with
    | agg hs hcl hr =>
      refine .agg (hs.trans hl) hc fun j a' hj => ?_
      obtain ⟨a, ha⟩ := get_of_len hl hj
      exact ih j a a' ha hj (hr j a ha)
  | tup hl h ih =>
    intro u r
    cases r with
    | tup hs hr =>
      refine .tup (hs.trans hl) fun j a' hj => ?_
      obtain ⟨a, ha⟩ := get_of_len hl hj
      exact ih j a a' ha hj (hr j a ha)
  | @slc tag w rows rows' hl hr hc h ih =>
    intro u r
    cases r with
    | slc0 =>
      have : rows' = [] := List.length_eq_zero_iff.1 (by simpa using hl.symm)
      subst this; exact .slc0
    | slc f hF hc' hlen hcap hw hcell hcl hrep =>
      have e := hl
      rw [show rows.length = rows'.length from hl]
      refine .slc (G := G.freeze S) f (.inl hF) hc' (by omega) (by omega) (fun r row' hr' => ?_) (fun r o row' a' hr' ha' => ?_) hc (fun r o row' a' hr' ha' => ?_)
      · obtain ⟨row, hrow⟩ := get_of_len hl hr'
        rw [← hr r row row' hrow hr']; exact hw r row hrow
      · obtain ⟨row, hrow⟩ := get_of_len hl hr'
        obtain ⟨a, ha⟩ := get_of_len (hr r row row' hrow hr') ha'
        exact hcell r o row a hrow ha
      · obtain ⟨row, hrow⟩ := get_of_len hl hr'
        obtain ⟨a, ha⟩ := get_of_len (hr r row row' hrow hr') ha'
        exact ih r o row row' a a' hrow hr' ha ha' (hrep r o row a hrow ha)
  | @ref i tag w len rows rows' ho hle hl hr hc _ ih =>
    intro u r
    cases r with
    | @ref _ _ _ _ cap c e fr hc' hb h1 h2 h3 =>
      obtain ⟨c', e', fr', q1, q2, q3, q4, q5, q6⟩ := (I.obj _ (hS _ ho)).lies rfl
      simp only at q1 q3 q4 q5 q6
      rw [hb] at q1; cases q1
      subst hl
      have hget : ∀ (r : Nat) (x' : List AV), rows'[r]? = some x' → ∃ x, rows[r]? = some x := fun r x' hx => by
        have := (List.getElem?_eq_some_iff.1 hx).1
        exact ⟨rows[r], List.getElem?_eq_getElem (by omega)⟩
      refine .slc (G := G.freeze S) (off := 0) (fun r o => c.getD (r * w + o) undef) (.inr (mem_tags ho)) hc' (Nat.le_trans h2 h3) h2 (fun r row' hr' => ?_) (fun r o row' a' hr' ha' => ?_) hc (fun r o row' a' hr' ha' => ?_)
      · obtain ⟨row, hrow⟩ := hget r row' hr'
        rw [← hr r row row' hrow hr']; exact q5 r row hrow
      · obtain ⟨row, hrow⟩ := hget r row' hr'
        obtain ⟨a, ha⟩ := get_of_len (hr r row row' hrow hr') ha'
        obtain ⟨v, hv, _, _⟩ := q6 r o row a hrow ha
        show hcell h (G.m tag) _ = _
        rw [hcell_of hb, Nat.zero_add, hv, getD_of hv]
      · obtain ⟨row, hrow⟩ := hget r row' hr'
        obtain ⟨a, ha⟩ := get_of_len (hr r row row' hrow hr') ha'
        obtain ⟨v, hv, _, rv⟩ := q6 r o row a hrow ha
        rw [getD_of hv]
        exact ih r o row row' a a' hrow hr' ha ha' rv
  | @ptr i tag w r o rows row row' ho hrow hl hc _ ih =>
    intro u rp
    cases rp with
    | ptr hc' =>
      obtain ⟨c, e, fr, q1, q2, q3, q4, q5, q6⟩ := (I.obj _ (hS _ ho)).lies rfl
      simp only at q1 q3 q4 q5 q6
      refine .cpt (G := G.freeze S) (off := r * w) (fun j => c.getD (r * w + j) undef) (.inr (mem_tags ho)) hc' (fun j a' ha' => ?_) hc (fun j a' ha' => ?_)
      · obtain ⟨a, ha⟩ := get_of_len hl ha'
        obtain ⟨v, hv, _, _⟩ := q6 r j row a hrow ha
        show hcell h (G.m tag) _ = _
        rw [hcell_of q1, hv, getD_of hv]
      · obtain ⟨a, ha⟩ := get_of_len hl ha'
        obtain ⟨v, hv, _, rv⟩ := q6 r j row a hrow ha
        rw [getD_of hv]
        exact ih j a a' ha ha' rv

/-- The value does not hang on what is read only by the tags of T. -/
inductive Av (T : List Nat) : AV → Prop
  | int {k : IntKind} {n : Int} : Av T (.int k n)
  | bool {b : Bool} : Av T (.bool b)
  | str {l : List UInt8} : Av T (.str l)
  | und : Av T .und
  | junk : Av T .junk
  | nsl : Av T .nsl
  | nptr : Av T .nptr
  | slc0 {tag w : Nat} : Av T (.slc tag w [])
  | slc {tag w : Nat} {rows : List (List AV)} (ht : tag ∉ T) (h : ∀ (r j : Nat) (x : List AV) (a : AV), rows[r]? = some x → x[j]? = some a → Av T a) : Av T (.slc tag w rows)
  | ref {i tag w len : Nat} : Av T (.ref i tag w len)
  | ptr {i tag w r o : Nat} : Av T (.ptr i tag w r o)
  | mref {i tag : Nat} : Av T (.mref i tag)
  | ifc {b : Bool} : Av T (.ifc b)
  | agg {l : List AV} (h : ∀ (j : Nat) (a : AV), l[j]? = some a → Av T a) : Av T (.agg l)
  | tup {l : List AV} (h : ∀ (j : Nat) (a : AV), l[j]? = some a → Av T a) : Av T (.tup l)

/-- The ghost in which the tags of T are read-only no more. -/
def Gh.thaw (G : Gh) (T : List Nat) : Gh := { G with Fz := fun t => G.Fz t ∧ t ∉ T }

theorem Av.rep {T : List Nat} {h : Array Obj} {a : AV} (v : Av T a) : ∀ {u : Value}, Rep G h u a → Rep (G.thaw T) h u a := by
  induction v with
  | int => intro u r; cases r with | int hk => exact .int hk
  | bool => intro u r; cases r; exact .bool
  | str => intro u r; cases r with | str e hl => exact .str e hl
  | und => intro u r; cases r; exact .und
  | junk => exact fun _ => .junk
  | nsl => intro u r; cases r; exact .nsl
  | nptr => intro u r; cases r; exact .nptr
  | slc0 => intro u r; cases r <;> exact .slc0
  | slc ht h ih =>
    intro u r
    cases r with
    | slc0 => exact .slc0
    | slc f hF hc hlen hcap hw hcell hcl hrep => exact .slc (G := G.thaw T) f ⟨hF, ht⟩ hc hlen hcap hw hcell hcl (fun r o row a h1 h2 => ih r o row a h1 h2 (hrep r o row a h1 h2))
  | ref => intro u r; cases r with | ref hc hb h1 h2 h3 => exact .ref (G := G.thaw T) hc hb h1 h2 h3
  | ptr => intro u r; cases r with | ptr hc => exact .ptr (G := G.thaw T) hc
  | mref => intro u r; cases r with | mref hc => exact .mref (G := G.thaw T) hc
  | ifc => intro u r; cases r <;> first | exact .nilI | exact .ifc
  | agg h ih => intro u r; cases r with | agg hs hcl hr => exact .agg hs hcl fun j a hj => ih j a hj (hr j a hj)
  | tup h ih => intro u r; cases r with | tup hs hr => exact .tup hs fun j a hj => ih j a hj (hr j a hj)
end
end A
end Go.Proofs.YtkcilmkienlnoaaGreatDoor

/-
  A call out of an abstract state, by what is known of the callee. No condition.
-/

namespace Go.Proofs.YtkcilmkienlnoaaGreatDoor
namespace A
set_option linter.unusedVariables false
section
variable {P : Program} {G : Gh} {H : List AObj} {w : World} {K : AV → List AObj → Nat → Prop}

def AvRows (T : List Nat) (o : AObj) : Prop := ∀ (r j : Nat) (x : List AV) (a : AV), o.rows[r]? = some x → x[j]? = some a → Av T a

theorem ObjOk.thaw {h : Array Obj} {o : AObj} {T : List Nat} (k : ObjOk G h o) (v : AvRows T o) : ObjOk (G.thaw T) h o where
  c := k.c
  lies hm := by
    obtain ⟨c, e, fr, h1, h2, h3, h4, h5, h6⟩ := k.lies hm
    exact ⟨c, e, fr, h1, h2, h3, h4, h5, fun r j row a hr ha => let ⟨x, hx, hc, rx⟩ := h6 r j row a hr ha; ⟨x, hx, hc, (v r j row a hr ha).rep rx⟩⟩
  mlies hm := by
    obtain ⟨es, cl, h1, h2, h3, h4⟩ := k.mlies hm
    refine ⟨es, cl, h1, h2, h3, fun r row hr => ?_⟩
    obtain ⟨k', x, en, rfl, he, r1, r2⟩ := h4 r row hr
    exact ⟨k', x, en, rfl, he, (v r 0 _ k' hr rfl).rep r1, (v r 1 _ x hr rfl).rep r2⟩

/-- What must be known for a call of f. H1: the objects that the callee may write; S: those that it only reads. -/
def CallW (P : Program) (f : FuncId) (as0 : List AV) (H : List AObj) (c : Nat) (K : AV → List AObj → Nat → Prop) : Prop :=
  (tags H).Nodup → (∀ t, t ∈ tags H → t < c) → ∃ (H1 S : List AObj) (as' : List AV) (Q : AV → List AObj → Nat → Prop), H1.Sublist H ∧ (∀ o, o ∈ S → o ∈ H) ∧ (∀ t, t ∈ tags H1 → t ∉ tags S) ∧ as0.length = as'.length ∧
    (∀ (j : Nat) (a a' : AV), as0[j]? = some a → as'[j]? = some a' → View S a a') ∧ Con P f as' H1 c Q ∧
    ∀ res H1' c', c ≤ c' → Q res H1' c' → (∀ t, t < c → t ∈ tags H1' → t ∈ tags H1) → (tags H1').Nodup → ∃ H' res', (∀ o, o ∈ H' → o ∈ H1' ∨ (o ∈ H ∧ o.tag ∉ tags H1)) ∧ (tags H').Nodup ∧ View [] res res' ∧ Av (tags S) res' ∧
      (∀ o, o ∈ H' → o ∈ H1' → AvRows (tags S) o) ∧ K res' H' c'

theorem call_good (I : Inv G H w.heap) {H1 S : List AObj} (hsub : H1.Sublist H) (hS : ∀ o, o ∈ S → o ∈ H) (hd : ∀ t, t ∈ tags H1 → t ∉ tags S) {G2 : Gh} {H1' : List AObj} {w' : World}
    (x : Ext (G.freeze S) H1 w G2 H1' w') (I2 : Inv G2 H1' w'.heap) {H' : List AObj} (hH' : ∀ o, o ∈ H' → o ∈ H1' ∨ (o ∈ H ∧ o.tag ∉ tags H1)) (hnd : (tags H').Nodup) (hav : ∀ o, o ∈ H' → o ∈ H1' → AvRows (tags S) o) :
    Ext G H w (G2.thaw (tags S)) H' w' ∧ Inv (G2.thaw (tags S)) H' w'.heap := by
  have hsubt : ∀ t, t ∈ tags H1 → t ∈ tags H := fun t ht => (hsub.map _).subset ht
  have hSt : ∀ t, t ∈ tags S → t ∈ tags H := fun t ht => by obtain ⟨o, ho, rfl⟩ := of_mem_tags ht; exact mem_tags (hS o ho)
  have hc : G.c ≤ G2.c := x.x.c
  have hm : ∀ t, t < G.c → G2.m t = G.m t := fun t ht => x.x.m t ht
  have hold : ∀ t, t < G.c → G2.Fz t → G.Fz t ∨ t ∈ tags H := fun t ht hF => by
    rcases x.oldF t ht hF with (h1 | h1) | h1
    · exact .inl h1
    · exact .inr (hSt t h1)
    · exact .inr (hsubt t h1)
  have hH'' : ∀ t, t ∈ tags H' → t ∈ tags H1' ∨ (t ∈ tags H ∧ t ∉ tags H1) := fun t ht => by
    obtain ⟨o, ho, rfl⟩ := of_mem_tags ht
    rcases hH' o ho with h1 | ⟨h1, h2⟩
    · exact .inl (mem_tags h1)
    · exact .inr ⟨mem_tags h1, h2⟩
  have x1 : Ext1 G w.heap (G2.thaw (tags S)) w'.heap :=
    ⟨hc, hm, fun t ht hF => ⟨x.x.F t ht (.inl hF), fun hs => I.nfz t (hSt t hs) hF⟩, fun t ht hF => x.x.keep t ht (.inl hF), x.x.shape⟩
  have hblk : ∀ o, o ∈ H → o.tag ∉ tags H1 → w'.heap[G.m o.tag]? = w.heap[G.m o.tag]? := fun o ho hn => by
    refine x.frame _ (I.obj o ho).block fun t ht e => hn ?_
    have : t = o.tag := I.inj t o.tag (.inr (hsubt t ht)) (.inr (mem_tags ho)) e
    exact this ▸ ht
  refine ⟨⟨x1, x.os, x.tape, x.output, x.size, fun b hb hn => x.frame b hb fun t ht => hn t (hsubt t ht), fun t h1 h2 => ?_, fun t h1 h2 => ?_, fun t h1 h2 => hold t h1 h2.1⟩, ⟨fun t hF => I2.fz t hF.1, fun o ho => ?_, fun t ht hF => ?_, hnd, ?_, I.gl.ext x1⟩⟩
  · rcases x.newm t h1 h2 with h3 | ⟨u, hu, h3⟩
    · exact .inl h3
    · exact .inr ⟨u, hsubt u hu, h3⟩
  · rcases hH'' t h2 with h3 | ⟨h3, _⟩
    · exact hsubt t (x.oldH t h1 h3)
    · exact h3
  · by_cases h1 : o ∈ H1'
    · exact (I2.obj o h1).thaw (hav o ho h1)
    · rcases hH' o ho with h2 | ⟨h2, h3⟩
      · exact absurd h2 h1
      · exact (I.obj o h2).ext x1 (hblk o h2 h3)
  · rcases hH'' t ht with h1 | ⟨h1, h2⟩
    · exact I2.nfz t h1 hF.1
    · have htc := I.lt h1
      rcases x.oldF t htc hF.1 with (h3 | h3) | h3
      · exact I.nfz t h1 h3
      · exact hF.2 h3
      · exact h2 h3
  · have key : ∀ t, ((G2.thaw (tags S)).Fz t ∨ t ∈ tags H') → (G2.Fz t ∨ t ∈ tags H1') ∨ (t ∈ tags H ∧ t ∉ tags H1) := fun t hl => by
      rcases hl with h1 | h1
      · exact .inl (.inl h1.1)
      · rcases hH'' t h1 with h2 | h2
        · exact .inl (.inr h2)
        · exact .inr h2
    have cross : ∀ t u, (G2.Fz t ∨ t ∈ tags H1') → (u ∈ tags H ∧ u ∉ tags H1) → G2.m t = G2.m u → t = u := fun t u hl ⟨hu, hn⟩ he => by
      have huc := I.lt hu
      rw [hm u huc] at he
      rcases Nat.lt_or_ge t G.c with htc | htc
      · rw [hm t htc] at he
        refine I.inj t u ?_ (.inr hu) he
        rcases hl with h1 | h1
        · exact hold t htc h1
        · exact .inr (hsubt t (x.oldH t htc h1))
      · have htl : t < G2.c := by
          rcases hl with h1 | h1
          · exact (I2.fz t h1).1
          · exact I2.lt h1
        rcases x.newm t htc htl with h3 | ⟨y, hy, h3⟩
        · obtain ⟨o, ho, rfl⟩ := of_mem_tags hu
          have := (I.obj o ho).block
          omega
        · have h3' : G2.m t = G.m y := h3
          have : y = u := I.inj y u (.inr (hsubt y hy)) (.inr hu) (h3'.symm.trans he)
          exact absurd (this ▸ hy) hn
    intro t t' h1 h2 he
    have he' : G2.m t = G2.m t' := he
    rcases key t h1 with k1 | k1 <;> rcases key t' h2 with k2 | k2
    · exact I2.inj t t' k1 k2 he'
    · exact cross t t' k1 k2 he'
    · exact (cross t' t k2 k1 he'.symm).symm
    · rw [hm t (I.lt k1.1), hm t' (I.lt k2.1)] at he'
      exact I.inj t t' (.inr k1.1) (.inr k2.1) he'

theorem Rep.unfreeze_nil {h : Array Obj} {u : Value} {a : AV} (r : Rep (G.freeze []) h u a) : Rep G h u a :=
  r.ext ⟨Nat.le_refl _, fun _ _ => rfl, fun t _ hF => hF.elim id (fun hm => by simp [tags] at hm), fun _ _ _ => rfl, fun _ c _ fr hb => ⟨c, fr, hb, rfl⟩⟩

/-- Arguments that stand for a list of abstract values. -/
def Args (G : Gh) (h : Array Obj) (vs : Array Value) (as0 : List AV) : Prop := vs.size = as0.length ∧ ∀ (j : Nat) (a : AV), as0[j]? = some a → Rep G h (vs.getD j undef) a

theorem call_sound (I : Inv G H w.heap) {f : FuncId} {vs : Array Value} {as0 : List AV} (ha : Args G w.heap vs as0) (hk : CallW P f as0 H G.c K) :
    Calls P f vs w fun e w' => ∃ v, e = .returned v ∧ Good G H w K v w' := by
  obtain ⟨H1, S, as', Q, h1, h2, h3, h4, h5, h6, h7⟩ := hk I.nodup (fun t ht => I.lt ht)
  have I1 := I.freeze h1 h2 h3
  refine (h6 (G.freeze S) w vs rfl I1 (ha.1.trans h4) fun j a' hj => ?_).mono fun e w' ⟨v, res, H1', G2, he, hq, x, I2, r⟩ => ?_
  · obtain ⟨a, haj⟩ := get_of_len h4 hj
    exact (h5 j a a' haj hj).rep I h2 (ha.2 j a haj)
  · obtain ⟨H', res', q1, q2, q3, q4, q5, q6⟩ := h7 res H1' G2.c x.x.c hq x.oldH I2.nodup
    obtain ⟨x', I'⟩ := call_good I h1 h2 h3 x I2 q1 q2 q5
    exact ⟨v, he, res', H', G2.thaw (tags S), q6, x', I', q4.rep ((q3.rep I2 (by simp) r).unfreeze_nil)⟩
/-- A function that only computes: from these arguments this result, whatever the tags. -/
def Fnc (P : Program) (f : Nat) (args : List AV) (res : AV) : Prop := ∀ c, Con P f args [] c fun r H' _ => r = res ∧ H' = []

/-- The arguments, seen as0 the callee wants them. -/
inductive Views (S : List AObj) : List AV → List AV → Prop
  | nil : Views S [] []
  | cons {a a' : AV} {l l' : List AV} (h : View S a a') (t : Views S l l') : Views S (a :: l) (a' :: l')
theorem Views.refl (S : List AObj) : ∀ l, Views S l l
  | [] => .nil
  | a :: l => .cons (.refl a) (Views.refl S l)
theorem Views.spec {S : List AObj} {l l' : List AV} (h : Views S l l') : l.length = l'.length ∧ ∀ (j : Nat) (a a' : AV), l[j]? = some a → l'[j]? = some a' → View S a a' := by
  induction h with
  | nil => exact ⟨rfl, by simp⟩
  | cons h t ih =>
    refine ⟨by simp [ih.1], fun j a a' h1 h2 => ?_⟩
    cases j with
    | zero => simp at h1 h2; subst h1; subst h2; exact h
    | succ j => exact ih.2 j a a' (by simpa using h1) (by simpa using h2)

/-- A call of a function that only computes; its result hangs on no tag. -/
theorem call_fn {c : Nat} {f : Nat} {as0 as' : List AV} {res : AV} (hf : Fnc P f as' res) (hv : Views H as0 as') (hres : Av (tags H) res) (k : ∀ c', c ≤ c' → K res H c') : CallW P f as0 H c K := by
  intro hn _
  obtain ⟨h1, h2⟩ := hv.spec
  refine ⟨[], H, as', _, List.nil_sublist _, fun o h => h, by simp [tags], h1, h2, hf c, fun r H1' c' hc ⟨hr, hH⟩ _ _ => ?_⟩
  subst hr; subst hH
  exact ⟨H, r, fun o ho => .inr ⟨ho, by simp [tags]⟩, hn, .refl r, hres, by simp, k c' hc⟩

/-- The same, as0 an operation of a statement whose order is open: one result, whatever the tags. -/
def callFW (P : Program) (f : Nat) (as0 : List AV) (H : List AObj) (c : Nat) (K : AV → List AObj → Nat → Prop) : Prop :=
  ∃ as' res, Views H as0 as' ∧ Fnc P f as' res ∧ Av (tags H) res ∧ ∀ c', c ≤ c' → K res H c'

theorem callFW_call {f : Nat} {as0 : List AV} {c : Nat} (h : callFW P f as0 H c K) : CallW P f as0 H c K := by
  obtain ⟨as', res, h1, h2, h3, h4⟩ := h
  exact call_fn h2 h1 h3 h4
end

/-- All tags in it are new. -/
def From (c : Nat) (a : AV) : Prop := ∀ T : List Nat, (∀ t, t ∈ T → t < c) → Av T a
theorem From.mono {c c' : Nat} {a : AV} (h : From c' a) (hc : c ≤ c') : From c a := fun T hT => h T fun t ht => Nat.lt_of_lt_of_le (hT t ht) hc
@[simp] theorem from_int (c : Nat) (k : IntKind) (n : Int) : From c (.int k n) := fun _ _ => .int
@[simp] theorem from_bool (c : Nat) (b : Bool) : From c (.bool b) := fun _ _ => .bool
@[simp] theorem from_str (c : Nat) (l : List UInt8) : From c (.str l) := fun _ _ => .str
@[simp] theorem from_nsl (c : Nat) : From c .nsl := fun _ _ => .nsl
@[simp] theorem from_ifc (c : Nat) (b : Bool) : From c (.ifc b) := fun _ _ => .ifc
@[simp] theorem from_nptr (c : Nat) : From c .nptr := fun _ _ => .nptr
theorem from_agg {c : Nat} {l : List AV} (h : ∀ a, a ∈ l → From c a) : From c (.agg l) := fun T hT => .agg fun j a ha => h a (List.mem_of_getElem? ha) T hT
theorem from_slc {c t w : Nat} {rows : List (List AV)} (ht : c ≤ t) (h : ∀ row, row ∈ rows → ∀ a, a ∈ row → From c a) : From c (.slc t w rows) := fun T hT =>
  .slc (fun hm => absurd (hT t hm) (by omega)) fun r j x a hx ha => h x (List.mem_of_getElem? hx) a (List.mem_of_getElem? ha) T hT

/-- A function that hands back a tree of its own. -/
def Tr (P : Program) (f : Nat) (args : List AV) (Q : Nat → AV → Prop) : Prop := ∀ c, Con P f args [] c fun r H' _ => H' = [] ∧ Q c r ∧ From c r

section
variable {P : Program} {H : List AObj} {c : Nat} {K : AV → List AObj → Nat → Prop}
theorem call_tree {f : Nat} {as0 as' : List AV} {Q : Nat → AV → Prop} (hf : Tr P f as' Q) (hv : Views H as0 as') (k : ∀ r c', c ≤ c' → Q c r → From c r → K r H c') : CallW P f as0 H c K := by
  intro hn hlt
  obtain ⟨h1, h2⟩ := hv.spec
  refine ⟨[], H, as', _, List.nil_sublist _, fun o h => h, by simp [tags], h1, h2, hf c, fun r H1' c' hc ⟨hH, hq, hfr⟩ _ _ => ?_⟩
  subst hH
  exact ⟨H, r, fun o ho => .inr ⟨ho, by simp [tags]⟩, hn, .refl r, hfr _ hlt, by simp, k r c' hc hq hfr⟩


/-- A call among statements whose order is open, of a function that hands back a tree of its own: what is asked of the result is said beforehand. -/
def callD (P : Program) (R : AV → Prop) (f : Nat) (as0 : List AV) (H : List AObj) (c : Nat) (K : AV → Prop) : Prop :=
  ∃ as', Views H as0 as' ∧ Tr P f as' (fun _ r => R r) ∧ (∃ r, R r ∧ From c r) ∧ ∀ r, R r → From c r → K r
end
end A
end Go.Proofs.YtkcilmkienlnoaaGreatDoor
