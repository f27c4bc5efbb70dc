/-
  append, make, conversions, unary operators: what each operation does to abstract values, and that the model's does so. No condition.
-/
import Derived.Test.YtfcimcoanlgldaaOps5
namespace Go.Proofs.Ytfcimcoanlgldaa
namespace A
set_option linter.unusedVariables false
section
variable {P : Program} {G : Gh} {H : List AObj} {w : World} {K : AV → List AObj → Nat → Prop}

def byteRow (b : UInt8) : List AV := [.int .u8 b.toNat]

/-- The rows that an append adds. -/
def srcW (wd : Nat) (y : AV) (H : List AObj) (K : List (List AV) → Prop) : Prop :=
  match y with
  | .slc _ w' rows => w' = wd ∧ K rows
  | .ref j tag w' len => w' = wd ∧ getW H j fun ob => ob.tag = tag ∧ ob.mp = false ∧ ob.w = w' ∧ len ≤ ob.rows.length ∧ K (ob.rows.take len)
  | .nsl => K []
  | .str l => wd = 1 ∧ K (l.map byteRow)
  | _ => False

theorem flat_div {n wd j : Nat} (h : j < n * wd) : j / wd < n ∧ j % wd < wd ∧ j = j / wd * wd + j % wd := by
  have hw : 0 < wd := by
    rcases Nat.eq_zero_or_pos wd with h0 | h0
    · subst h0; simp at h
    · exact h0
  refine ⟨(Nat.div_lt_iff_lt_mul hw).2 h, Nat.mod_lt _ hw, ?_⟩
  have := Nat.div_add_mod j wd
  rw [Nat.mul_comm] at this; omega

/-- Rows that lie somewhere, loaded. -/
theorem load_rows {b off wd : Nat} {rows : List (List AV)} (hw : ∀ (r : Nat) (row : List AV), rows[r]? = some row → row.length = wd)
    (hr : ∀ (r j : Nat) (row : List AV) (a : AV), rows[r]? = some row → row[j]? = some a → ∃ v, hcell w.heap b (off + r * wd + j) = some v ∧ a.cell = true ∧ Rep G w.heap v a) :
    ∃ cs, (∀ w' : World, w'.heap = w.heap → (loadCells ⟨b, off, none⟩ (rows.length * wd)).run P w' = .ok cs w') ∧ RowsRep G w.heap wd cs rows := by
  have hf : ∀ j, j < rows.length * wd → hcell w.heap b (off + j) = some ((hcell w.heap b (off + j)).getD undef) := fun j hj => by
    obtain ⟨h1, h2, h3⟩ := flat_div hj
    have hrow : rows[j / wd]? = some rows[j / wd] := List.getElem?_eq_getElem h1
    have hl := hw _ _ hrow
    obtain ⟨v, hv, _⟩ := hr (j / wd) (j % wd) _ _ hrow (List.getElem?_eq_getElem (by omega))
    rw [Nat.add_assoc, ← h3] at hv
    rw [hv]; rfl
  refine ⟨_, fun w' e => run_loadCells P w' b off _ _ (fun j hj => by rw [e]; exact hf j hj), ⟨by simp, hw, fun r j row a h1 h2 => ?_⟩⟩
  obtain ⟨v, hv, hc, rv⟩ := hr r j row a h1 h2
  refine ⟨v, ?_, hc, rv⟩
  have hj : j < wd := by rw [← hw r row h1]; exact (List.getElem?_eq_some_iff.1 h2).1
  have hrl : r < rows.length := (List.getElem?_eq_some_iff.1 h1).1
  have hm := mul_lt_of (r := r) (r' := rows.length) (n := 0) (w := wd) hrl
  have hlt : r * wd + j < rows.length * wd := by omega
  rw [Nat.add_assoc] at hv
  simp [hlt, hv]

theorem src_sound (I : Inv G H w.heap) {wd : Nat} {v : Value} {y : AV} (r : Rep G w.heap v y) {K' : List (List AV) → Prop} (hk : srcW wd y H K') :
    ∃ cs rows, (∀ w' : World, w'.heap = w.heap → (Builtin.lenOf v).run P w' = .ok rows.length w' ∧ (Builtin.firstCells wd rows.length v).run P w' = .ok cs w') ∧ RowsRep G w.heap wd cs rows ∧ K' rows := by
  cases r <;> simp only [srcW] at hk
  case nsl => exact ⟨#[], [], fun _ _ => ⟨rfl, rfl⟩, ⟨by simp, by simp, by simp⟩, hk⟩
  case slc0 a cap tag w' =>
    obtain ⟨rfl, hk⟩ := hk
    refine ⟨#[], [], fun w' _ => ⟨rfl, ?_⟩, ⟨by simp, by simp, by simp⟩, hk⟩
    cases a with
    | none => rfl
    | some a => simp [Builtin.firstCells, loadCells, loadCellsFrom]
  case slc tag w' off cap rows f hF hc hlen hcap hw hcell hcl hrep =>
    obtain ⟨rfl, hk⟩ := hk
    obtain ⟨cs, h1, h2⟩ := load_rows (P := P) (w := w) (G := G) hw (fun r j row a q1 q2 => ⟨_, hcell r j row a q1 q2, hcl r j row a q1 q2, hrep r j row a q1 q2⟩)
    exact ⟨cs, rows, fun w' e => ⟨rfl, h1 w' e⟩, h2, hk⟩
  case ref j tag w' len cap c e fr hc hb h1 h2 h3 =>
    obtain ⟨rfl, ob, hob, rfl, hmp, hw', hlen, hk⟩ := hk
    subst hw'
    obtain ⟨c', e', fr', q1, q2, q3, q4, q5, q6⟩ := (I.obj ob (List.mem_of_getElem? hob)).lies hmp
    have hl : (ob.rows.take len).length = len := by simp; omega
    have hg : ∀ (r : Nat) (row : List AV), (ob.rows.take len)[r]? = some row → ob.rows[r]? = some row := fun r row h => by
      have := (List.getElem?_eq_some_iff.1 h).1
      rwa [List.getElem?_take_of_lt (by omega)] at h
    obtain ⟨cs, p1, p2⟩ := load_rows (P := P) (w := w) (G := G) (b := G.m ob.tag) (off := 0) (wd := ob.w) (rows := ob.rows.take len) (fun r row h => q5 r row (hg r row h)) (fun r j row a h ha => by
      obtain ⟨v, hv, hcl, rv⟩ := q6 r j row a (hg r row h) ha
      exact ⟨v, by rw [hcell_of q1, Nat.zero_add]; exact hv, hcl, rv⟩)
    rw [hl] at p1
    exact ⟨cs, ob.rows.take len, fun w' e => ⟨by rw [hl]; rfl, by rw [hl]; exact p1 w' e⟩, p2, hk⟩
  case str s l e hl =>
    obtain ⟨rfl, hk⟩ := hk
    subst e
    have hsz : s.data.toList.length = s.size := by cases s; rfl
    refine ⟨s.data.map fun b => .int .u8 b.toNat, s.data.toList.map byteRow, fun w' _ => ⟨by simp [Builtin.lenOf], ?_⟩, ⟨by simp, fun r row h => ?_, fun r j row a h ha => ?_⟩, hk⟩
    · have : s.extract 0 s.size = s := by
        apply ByteArray.ext
        rw [ByteArray.data_extract]; exact Array.extract_size
      simp only [Builtin.firstCells, List.length_map, hsz, this, Sem.run_pure]
    · simp at h; obtain ⟨b, _, rfl⟩ := h; rfl
    · simp at h; obtain ⟨b, hb, rfl⟩ := h
      cases j with
      | zero =>
        simp [byteRow] at ha; subst ha
        refine ⟨.int .u8 b.toNat, ?_, rfl, .int (iok_u8 b)⟩
        simp
        exact ⟨b, by rw [← Array.getElem?_toList]; simpa using hb, rfl⟩
      | succ j => simp [byteRow] at ha
  all_goals exact hk.elim

def appendW (wd bytes : Nat) (x y : AV) (H : List AObj) (c : Nat) (K : AV → List AObj → Nat → Prop) : Prop :=
  srcW wd y H fun rows' =>
    match x with
    | .nsl => (rows' = [] → K .nsl H c) ∧ (rows' ≠ [] → rows'.length * bytes ≤ 140737488355328 ∧ rows'.length ≤ mx ∧ K (.ref H.length c wd rows'.length) (H ++ [⟨false, c, wd, rows'⟩]) (c + 1))
    | .ref i tag w' len => w' = wd ∧ getW H i fun ob => ob.tag = tag ∧ ob.mp = false ∧ ob.w = w' ∧ ob.rows.length = len ∧ (len + rows'.length) * bytes ≤ 140737488355328 ∧ len + rows'.length ≤ mx ∧
        K (.ref i c wd (len + rows'.length)) (H.set i ⟨false, c, wd, ob.rows ++ rows'⟩) (c + 1)
    | _ => False

theorem rows_append {h : Array Obj} {wd : Nat} {cs cs' : Array Value} {rows rows' : List (List AV)} (r : RowsRep G h wd cs rows) (r' : RowsRep G h wd cs' rows') : RowsRep G h wd (cs ++ cs') (rows ++ rows') := by
  refine ⟨by simp [r.size, r'.size, Nat.add_mul], fun i row hi => ?_, fun i j row a hi ha => ?_⟩
  · rw [List.getElem?_append] at hi
    split at hi
    · exact r.w i row hi
    · exact r'.w _ row hi
  · rw [List.getElem?_append] at hi
    have hj := (List.getElem?_eq_some_iff.1 ha).1
    split at hi
    · rename_i hl
      obtain ⟨v, hv, x⟩ := r.rep i j row a hi ha
      exact ⟨v, by rw [Array.getElem?_append_left (Array.getElem?_eq_some_iff.1 hv).1]; exact hv, x⟩
    · rename_i hl
      obtain ⟨v, hv, x⟩ := r'.rep _ j row a hi ha
      refine ⟨v, ?_, x⟩
      have e : i * wd + j = cs.size + ((i - rows.length) * wd + j) := by
        have : i = rows.length + (i - rows.length) := by omega
        rw [r.size]
        conv => lhs; rw [this, Nat.add_mul]
        omega
      rw [e, Array.getElem?_append_right (by omega), Nat.add_sub_cancel_left]
      exact hv


theorem run_append_fits {t xt e ty : TypeId} {i : TypeInfo} (h1 : P.underlying t = some (.slice e)) (h2 : P.info? e = some i) {d : TypeDesc} (hd : P.underlying xt = some d) (hdi : ∀ k, d ≠ .int k)
    {v : Value} {n : Nat} {cs : Array Value} (s1 : (Builtin.lenOf v).run P w = .ok n w) (s2 : (Builtin.firstCells i.size n v).run P w = .ok cs w) (base : Option Addr) (sLen sCap : Nat) (hf : sLen + n ≤ sCap) :
    (Builtin.append_ #[t, xt] ty #[.slice base sLen sCap, v]).run P w =
      (match base with
       | some a => (storeCells (a.add (sLen * i.size)) cs.toList).run P w
       | none => .ok () w).andThen fun _ w' => .ok (.slice base (sLen + n) sCap) w' := by
  unfold Builtin.append_
  have g0 : (#[t, xt] : Array TypeId)[0]? = some t := rfl
  have g1 : (#[t, xt] : Array TypeId)[1]? = some xt := rfl
  have v0 : (#[.slice base sLen sCap, v] : Array Value)[0]? = some (.slice base sLen sCap) := rfl
  have v1 : (#[.slice base sLen sCap, v] : Array Value)[1]? = some v := rfl
  simp only [g0, g1, v0, v1, Sem.run_bind, run_underlying h1, run_underlying hd, r_sizeOf h2, Result.andThen_ok]
  simp only [Sem.run_pure, Result.andThen_ok, Bool.false_eq_true, if_false, Sem.run_bind, s1, hf, if_true, Bool.not_false, s2]
  cases base with
  | none => simp only [Sem.run_pure, Result.andThen_ok]
  | some a => simp only [Sem.run_bind, Sem.run_pure]

theorem run_append_grows {t xt e ty : TypeId} {i : TypeInfo} (h1 : P.underlying t = some (.slice e)) (h2 : P.info? e = some i) {z : Value} (hz : i.zero = some z) {d : TypeDesc} (hd : P.underlying xt = some d) (hdi : ∀ k, d ≠ .int k)
    {v : Value} {n : Nat} {cs old : Array Value} (s1 : (Builtin.lenOf v).run P w = .ok n w) (s2 : (Builtin.firstCells i.size n v).run P w.drew = .ok cs w.drew) (base : Option Addr) (sLen sCap : Nat)
    (s3 : (Builtin.firstCells i.size sLen (.slice base sLen sCap)).run P w.drew = .ok old w.drew) (hf : ¬ sLen + n ≤ sCap) (hb : (sLen + n) * i.bytes ≤ 140737488355328) (hm : sLen + n ≤ mx) :
    ∃ cap, sLen + n ≤ cap ∧ (Builtin.append_ #[t, xt] ty #[.slice base sLen sCap, v]).run P w =
      .ok (.slice (some ⟨w.heap.size, 0, none⟩) (sLen + n) cap) (w.drew.alloc (.cells (old ++ cs ++ Builtin.zeroCells z.cells (cap - (sLen + n))) e)) := by
  refine ⟨(Question.appendCap (sLen + n) sCap e).cut (w.tape w.drawn (.appendCap (sLen + n) sCap e)), by simp only [Question.cut]; omega, ?_⟩
  have hfit := growslice_fits (by omega : sCap < sLen + n) hb
  have hbig : ¬ (((sLen + n : Nat) : Int) > IntKind.i64.max) := by
    unfold mx at hm; simp [IntKind.max, IntKind.signed, IntKind.bits]; omega
  have hno : ¬ (Builtin.nextslicecap (sLen + n) sCap * i.bytes > 2 ^ 48) := by omega
  have hfc : (Question.appendCap (sLen + n) sCap e).forced = false := rfl
  unfold Builtin.append_
  have g0 : (#[t, xt] : Array TypeId)[0]? = some t := rfl
  have g1 : (#[t, xt] : Array TypeId)[1]? = some xt := rfl
  have v0 : (#[.slice base sLen sCap, v] : Array Value)[0]? = some (.slice base sLen sCap) := rfl
  have v1 : (#[.slice base sLen sCap, v] : Array Value)[1]? = some v := rfl
  simp only [g0, g1, v0, v1, Sem.run_bind, run_underlying h1, run_underlying hd, r_sizeOf h2, Result.andThen_ok]
  simp only [Sem.run_pure, Result.andThen_ok, Bool.false_eq_true, if_false, Sem.run_bind, s1, hf, r_typeInfo h2, hbig, false_and, hno, run_choose, hfc, World.drew_eq, run_askRoom, s3, Bool.not_false, if_true, s2, r_zero h2 hz, newRow,
    run_newObj, World.alloc_eq]
  rfl

theorem Ext1.new (G : Gh) (h : Array Obj) (b : Nat) : Ext1 G h (G.new b) h where
  c := by simp [Gh.new]
  m t ht := by simp [Gh.new, upd_ne _ _ _ (Nat.ne_of_lt ht)]
  F t _ hF := hF
  keep t _ _ := rfl
  shape b c e fr hb := ⟨c, fr, hb, rfl⟩

theorem append_sound (I : Inv G H w.heap) {t xt e ty : TypeId} {i : TypeInfo} (ht : sliceElem P t = some (e, i)) {zero : List AV} (hz : zeroOf? P e = some zero)
    {d : TypeDesc} (hd : P.underlying xt = some d) (hdi : ∀ k, d ≠ .int k) {u v : Value} {x y : AV} (rx : Rep G w.heap u x) (ry : Rep G w.heap v y)
    (hk : appendW i.size i.bytes x y H G.c K) : Run P (Builtin.append_ #[t, xt] ty #[u, v]) G H w K := by
  obtain ⟨h1, h2⟩ := sliceElem_some ht
  obtain ⟨it, z, q1, q2, q3, q4, q5⟩ := zeroOf_some hz
  rw [h2] at q1; cases q1
  obtain ⟨cs, rows', s1, s3, s4⟩ := src_sound (P := P) I ry hk
  have zrow : ∀ n, (Builtin.zeroCells z.cells n).size = n * i.size := fun n => by simp [Builtin.zeroCells, q4, q3]
  cases rx <;> simp only at s4
  case nsl =>
    by_cases he : rows' = []
    · refine Run.here I ?_ (s4.1 he) .nsl
      have := run_append_fits (ty := ty) h1 h2 hd hdi (s1 w rfl).1 (s1 w rfl).2 none 0 0 (by simp [he])
      rw [this]
      simp [he]
    · obtain ⟨hb, hm, k⟩ := s4.2 he
      have hpos : ¬ 0 + rows'.length ≤ 0 := by
        cases rows' with
        | nil => exact absurd rfl he
        | cons a l => simp
      obtain ⟨cap, hcap, hrun⟩ := run_append_grows (ty := ty) h1 h2 q2 hd hdi (s1 w rfl).1 (s1 w.drew rfl).2 none 0 0 (old := #[]) rfl hpos (by simpa using hb) (by simpa using hm)
      obtain ⟨x, I'⟩ := newObj_good (w := w.drew) I (cs := #[] ++ cs ++ Builtin.zeroCells z.cells (cap - (0 + rows'.length))) (e := e) (wd := i.size) (rows := rows') (by simp [s3.size]) hm s3.w (fun r j row a ha hb => by
        obtain ⟨v, hv, x⟩ := s3.rep r j row a ha hb
        exact ⟨v, by rw [Array.empty_append, Array.getElem?_append_left (Array.getElem?_eq_some_iff.1 hv).1]; exact hv, x⟩) (0, 0) (fun _ _ h => by omega)
      refine ⟨_, _, hrun, _, _, _, k, { x with }, I', ?_⟩
      rw [Nat.zero_add]
      refine ref_new (w := w.drew) ?_ (by omega) hm
      simp only [Array.empty_append, Array.size_append, s3.size, zrow]
      rw [← Nat.add_mul]
      exact Nat.le_of_eq (by congr 1; omega)
  case ref j tag wd len cap c e' fr hc hb h3 h4 h5 =>
    obtain ⟨rfl, ob, hob, rfl, hmp, hw', hlen, hby, hm, k⟩ := s4
    obtain ⟨c', e'', fr', p1, p2, p3, p4, p5, p6⟩ := (I.obj ob (List.mem_of_getElem? hob)).lies hmp
    rw [hb] at p1; cases p1
    have hmem := List.mem_of_getElem? hob
    have hold : RowsRep G w.heap ob.w (c.extract 0 (len * ob.w)) ob.rows := by
      refine ⟨by rw [hlen, Array.size_extract]; rw [hlen] at p3; omega, p5, fun r q row a hr ha => ?_⟩
      obtain ⟨v', hv', x⟩ := p6 r q row a hr ha
      refine ⟨v', ?_, x⟩
      have hq : q < ob.w := by rw [← p5 r row hr]; exact (List.getElem?_eq_some_iff.1 ha).1
      have hrl : r < len := by rw [← hlen]; exact (List.getElem?_eq_some_iff.1 hr).1
      have hm' := mul_lt_of (r := r) (r' := len) (n := 0) (w := ob.w) hrl
      rw [Array.getElem?_extract, if_pos (by rw [hlen] at p3; omega), Nat.zero_add]
      exact hv'
    have hall := rows_append hold (hw' ▸ s3)
    by_cases hf : len + rows'.length ≤ cap
    · -- in place
      have hone : ∀ z, z ∈ cs.toList → z.oneCell' = true := fun z hz => by
        obtain ⟨q, hq⟩ := List.mem_iff_getElem?.1 hz
        have hql : q < rows'.length * i.size := by have := (List.getElem?_eq_some_iff.1 hq).1; simpa [s3.size] using this
        obtain ⟨a1, a2, a3⟩ := flat_div hql
        have hrow : rows'[q / i.size]? = some rows'[q / i.size] := List.getElem?_eq_getElem a1
        have hl := s3.w _ _ hrow
        obtain ⟨v', hv', hcl, rv⟩ := s3.rep _ (q % i.size) _ _ hrow (List.getElem?_eq_getElem (by omega))
        rw [← a3] at hv'
        rw [Array.getElem?_toList, hv'] at hq
        cases hq
        exact rv.oneCell hcl
      have hin : 0 + len * i.size + 0 + cs.toList.length ≤ c.size := by
        have : (len + rows'.length) * i.size ≤ cap * i.size := Nat.mul_le_mul_right _ hf
        rw [Nat.add_mul] at this
        have h3' : cap * i.size ≤ c.size := h3
        simp [s3.size]; omega
      have hstore := run_storeCells P (G.m ob.tag) (0 + len * i.size) e' fr cs.toList 0 w c hb p2 hin hone
      have hrun := run_append_fits (ty := ty) h1 h2 hd hdi (s1 w rfl).1 (s1 w rfl).2 (some ⟨G.m ob.tag, 0, none⟩) len cap hf
      simp only [addr_add, hstore, Result.andThen_ok] at hrun
      have x0 : Ext1 G w.heap G (w.heap.setIfInBounds (G.m ob.tag) (.cells (putCells c (0 + len * i.size + 0) cs.toList) e' fr)) :=
        Ext1.write (fun u hF => I.nfz_m (mem_tags hmem) hF) fun _ _ _ hb' => by rw [hb] at hb'; cases hb'; exact ⟨_, _, rfl, putCells_size _ _ _⟩
      have x1 := x0.trans (Ext1.new G _ (G.m ob.tag))
      have hob' : ObjOk (G.new (G.m ob.tag)) (w.heap.setIfInBounds (G.m ob.tag) (.cells (putCells c (0 + len * i.size + 0) cs.toList) e' fr)) ⟨false, G.c, i.size, ob.rows ++ rows'⟩ := by
        refine ⟨by simp [Gh.new], fun _ => ?_, fun h => by cases h⟩
        refine ⟨putCells c (0 + len * i.size + 0) cs.toList, e', fr, by simp [Gh.new, lt_of_get hb], by simpa [putCells_size] using p2, ?_, by simp; omega, fun r row hr => ?_, fun r q row a hr ha => ?_⟩
        · simp only [putCells_size, List.length_append, hlen, Nat.add_mul]
          simp [s3.size] at hin; omega
        · exact hw' ▸ hall.w r row hr
        · have hq : q < i.size := by rw [← hw', ← hall.w r row hr]; exact (List.getElem?_eq_some_iff.1 ha).1
          dsimp only at hr ⊢
          rw [List.getElem?_append] at hr
          split at hr
          · rename_i hl
            obtain ⟨v', hv', hcl, rv⟩ := p6 r q row a hr ha
            refine ⟨v', ?_, hcl, rv.ext x1⟩
            have hm' := mul_lt_of (r := r) (r' := len) (n := 0) (w := i.size) (by omega)
            rw [putCells_out _ _ _ _ (by omega), ← hw']
            exact hv'
          · rename_i hl
            obtain ⟨v', hv', hcl, rv⟩ := s3.rep _ q row a hr ha
            refine ⟨v', ?_, hcl, rv.ext x1⟩
            have e1 : r * i.size + q = 0 + len * i.size + 0 + ((r - ob.rows.length) * i.size + q) := by
              have : r = len + (r - ob.rows.length) := by omega
              conv => lhs; rw [this, Nat.add_mul]
              omega
            rw [e1]
            exact putCells_in _ _ _ _ _ hin (by rw [Array.getElem?_toList]; exact hv')
      refine ⟨_, _, hrun, _, _, G.new (G.m ob.tag), k, ?_, ?_, ?_⟩
      · exact Ext.grow I hob rfl (.inl rfl) x1 rfl rfl rfl (by simp [wset]) (fun k hk hne => Array.getElem?_setIfInBounds_ne (Ne.symm hne))
      · refine Inv.grow I hob (ob' := ⟨false, G.c, i.size, ob.rows ++ rows'⟩) rfl (by simp [wset, lt_of_get hb]) (.inl rfl) x1 (fun t ht hne => ?_) (by simp [wset]) hob'
        refine Array.getElem?_setIfInBounds_ne fun e => hne ?_
        exact (I.inj _ _ (.inr (mem_tags hmem)) (.inr ht) e).symm
      · have h := Rep.ref (G := G.new (G.m ob.tag)) (h := w.heap.setIfInBounds (G.m ob.tag) (.cells (putCells c (0 + len * i.size + 0) cs.toList) e' fr)) (i := j) (tag := G.c) (w := i.size) (len := len + rows'.length) (cap := cap)
          (c := putCells c (0 + len * i.size + 0) cs.toList) (e := e') (fr := fr) (by simp [Gh.new]) (by simp [Gh.new, lt_of_get hb]) (by rw [putCells_size]; exact h3) hf hm
        simpa [Gh.new, wset] using h
    · -- in a new block
      have hold' : (Builtin.firstCells i.size len (.slice (some ⟨G.m ob.tag, 0, none⟩) len cap)).run P w.drew = .ok (c.extract 0 (len * ob.w)) w.drew := by
        have hfc : ∀ q, q < len * i.size → hcell w.heap (G.m ob.tag) (0 + q) = some (c.getD q undef) := fun q hq => by
          rw [hcell_of hb, Nat.zero_add]
          refine of_getD ?_
          rw [hlen, hw'] at p3; omega
        have := run_loadCells P w.drew (G.m ob.tag) 0 (len * i.size) (fun q => c.getD q undef) hfc
        simp only [Builtin.firstCells]
        rw [this]
        congr 1
        rw [hlen, hw'] at p3
        apply Array.ext_getElem?
        intro q
        rw [Array.getElem?_extract, hw', Nat.zero_add]
        by_cases hq : q < len * i.size
        · rw [if_pos (by omega)]
          have : c[q]? = some (c.getD q undef) := of_getD (by omega)
          rw [this, List.getElem?_toArray, List.getElem?_map, List.getElem?_range hq]; rfl
        · rw [if_neg (by omega), List.getElem?_toArray, List.getElem?_eq_none (by simp; omega)]
      obtain ⟨cap', hcap, hrun⟩ := run_append_grows (ty := ty) h1 h2 q2 hd hdi (s1 w rfl).1 (s1 w.drew rfl).2 (some ⟨G.m ob.tag, 0, none⟩) len cap hold' hf hby hm
      have x1 : Ext1 G w.heap (G.new w.heap.size) (w.heap.push (.cells (c.extract 0 (len * ob.w) ++ cs ++ Builtin.zeroCells z.cells (cap' - (len + rows'.length))) e)) := Ext1.push I _ _
      have hsz : (c.extract 0 (len * ob.w) ++ cs).size = (len + rows'.length) * i.size := by
        have := hall.size
        rw [List.length_append, hlen, hw'] at this
        rw [hw']; exact this
      have hob' : ObjOk (G.new w.heap.size) (w.heap.push (.cells (c.extract 0 (len * ob.w) ++ cs ++ Builtin.zeroCells z.cells (cap' - (len + rows'.length))) e)) ⟨false, G.c, i.size, ob.rows ++ rows'⟩ := by
        refine ⟨by simp [Gh.new], fun _ => ?_, fun h => by cases h⟩
        refine ⟨c.extract 0 (len * ob.w) ++ cs ++ Builtin.zeroCells z.cells (cap' - (len + rows'.length)), e, (0, 0), by simp [Gh.new], fun _ _ h => by omega, ?_, by simp; omega, fun r row hr => hw' ▸ hall.w r row hr, fun r q row a hr ha => ?_⟩
        · rw [Array.size_append, hsz]; simp only [List.length_append, hlen]; omega
        · obtain ⟨v', hv', hcl, rv⟩ := hall.rep r q row a hr ha
          rw [hw'] at hv'
          refine ⟨v', ?_, hcl, rv.ext x1⟩
          rw [hw', Array.getElem?_append_left (Array.getElem?_eq_some_iff.1 hv').1]
          exact hv'
      refine ⟨_, _, hrun, _, _, G.new w.heap.size, k, ?_, ?_, ?_⟩
      · exact Ext.grow I hob rfl (.inr (Nat.le_refl _)) x1 rfl rfl rfl (by simp) (fun k hk _ => push_old hk)
      · exact Inv.grow I hob (ob' := ⟨false, G.c, i.size, ob.rows ++ rows'⟩) rfl (by simp) (.inr (Nat.le_refl _)) x1 (fun t ht _ => push_old (by obtain ⟨o', ho', rfl⟩ := of_mem_tags ht; exact (I.obj o' ho').block)) (by simp) hob'
      · refine ref_new (w := w.drew) ?_ hcap hm
        rw [Array.size_append, hsz, zrow, ← Nat.add_mul]
        exact Nat.le_of_eq (by congr 1; omega)
  all_goals exact s4.elim
end
end A
end Go.Proofs.Ytfcimcoanlgldaa
