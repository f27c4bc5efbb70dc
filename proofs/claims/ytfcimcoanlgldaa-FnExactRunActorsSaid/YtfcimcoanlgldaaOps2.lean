/-
  Loads, stores, addresses, new variables, slices: what each operation does to abstract values, and that the model's does so. No condition.
-/
import Derived.Test.YtfcimcoanlgldaaOps
namespace Go.Proofs.Ytfcimcoanlgldaa
namespace A
set_option linter.unusedVariables false
section
variable {P : Program} {G : Gh} {H : List AObj} {w : World} {K : AV → List AObj → Nat → Prop}

def cellsW (v : AV) (K : List AV → Prop) : Prop :=
  match v with
  | .agg l => K l
  | .und | .junk | .tup _ => False
  | a => K [a]

theorem cellsW_cell {a : AV} (h : a.cell = true) (K : List AV → Prop) : cellsW a K = K [a] := by
  cases a <;> first | rfl | cases h

/-- What 'cellsW' gives of the value itself. -/
theorem cellsW_rep {v : Value} {a : AV} {G : Gh} {h : Array Obj} (r : Rep G h v a) {K : List AV → Prop} (k : cellsW a K) :
    ∃ l, K l ∧ v.cells.size = l.length ∧ ∀ (j : Nat) (b : AV), l[j]? = some b → b.cell = true ∧ Rep G h (v.cells.getD j undef) b := by
  by_cases hc : a.cell = true
  · rw [cellsW_cell hc] at k
    refine ⟨_, k, by rw [r.cells_one hc]; rfl, fun j b hb => ?_⟩
    rw [r.cells_one hc]
    cases j with
    | zero => simp at hb; subst hb; exact ⟨hc, r⟩
    | succ j => simp at hb
  · cases r with
    | agg hs hcl hr => exact ⟨_, k, hs, fun j b hb => ⟨hcl j b hb, hr j b hb⟩⟩
    | _ => first | exact absurd rfl hc | exact k.elim

def rowW (ag : Option Nat) (row : List AV) (o : Nat) (K : AV → Prop) : Prop :=
  match ag with
  | none => getW row o K
  | some n => o + n ≤ row.length ∧ K (.agg ((row.drop o).take n))

def loadW (ag : Option Nat) (x : AV) (H : List AObj) (K : AV → Prop) : Prop :=
  match x with
  | .cpt cells o => rowW ag cells o K
  | .ptr i tag w r o => getW H i fun ob => ob.tag = tag ∧ ob.mp = false ∧ ob.w = w ∧ getW ob.rows r fun row => rowW ag row o K
  | _ => False

theorem agOf_none {t : TypeId} (h : agOf P t = some none) : ∃ d i, P.underlying t = some d ∧ P.info? t = some i ∧ i.size = 1 ∧ aggD d = false := by
  unfold agOf at h
  split at h
  · cases h
  · cases h
  · rename_i d i h1 h2 h3 h4
    split at h
    · refine ⟨_, _, h3, h4, by assumption, ?_⟩
      unfold aggD
      split
      · rename_i fs; exact (h1 fs rfl).elim
      · rename_i n e; exact (h2 n e rfl).elim
      · rfl
    · cases h
  · cases h

theorem agOf_some {t : TypeId} {n : Nat} (h : agOf P t = some (some n)) : ∃ d i, P.underlying t = some d ∧ P.info? t = some i ∧ i.size = n ∧ aggD d = true := by
  unfold agOf at h
  split at h
  · rename_i h1 h2; cases h; exact ⟨_, _, h1, h2, rfl, rfl⟩
  · rename_i h1 h2; cases h; exact ⟨_, _, h1, h2, rfl, rfl⟩
  · split at h <;> cases h
  · cases h

theorem load_row {ag : Option Nat} {t : TypeId} (ht : agOf P t = some ag) {row : List AV} {b p o : Nat}
    (hr : ∀ (j : Nat) (a : AV), row[j]? = some a → ∃ v, hcell w.heap b (p + j) = some v ∧ a.cell = true ∧ Rep G w.heap v a) {K : AV → Prop} (hk : rowW ag row o K) :
    ∃ u av, (loadVar t ⟨b, p + o, none⟩).run P w = .ok u w ∧ K av ∧ Rep G w.heap u av := by
  cases ag with
  | none =>
    obtain ⟨d, i, h1, h2, h3, h4⟩ := agOf_none ht
    obtain ⟨a, ha, k⟩ := hk
    obtain ⟨v, hv, _, r⟩ := hr o a ha
    refine ⟨v, a, ?_, k, r⟩
    unfold loadVar
    simp only [Sem.run_bind, r_isAgg h1, h4, Result.andThen_ok, Bool.false_eq_true, if_false]
    exact run_loadCell P w b (p + o) v hv
  | some n =>
    obtain ⟨d, i, h1, h2, h3, h4⟩ := agOf_some ht
    obtain ⟨hl, k⟩ := hk
    have hf : ∀ j, j < n → hcell w.heap b (p + o + j) = some ((hcell w.heap b (p + o + j)).getD undef) := fun j hj => by
      have hj' : o + j < row.length := by omega
      obtain ⟨v, hv, _⟩ := hr (o + j) row[o + j] (List.getElem?_eq_getElem hj')
      rw [← Nat.add_assoc] at hv
      rw [hv]; rfl
    refine ⟨.agg ((List.range n).map fun j => (hcell w.heap b (p + o + j)).getD undef).toArray, _, ?_, k, .agg (by simp; omega) (fun j a hj => ?_) fun j a hj => ?_⟩
    · unfold loadVar
      simp only [Sem.run_bind, r_isAgg h1, h4, Result.andThen_ok, if_true, r_sizeOf h2, h3]
      rw [run_loadCells P w b (p + o) n _ hf]
      rfl
    · have hjn : j < n := by
        have := (List.getElem?_eq_some_iff.1 hj).1
        simp at this; omega
      rw [List.getElem?_take_of_lt hjn, List.getElem?_drop] at hj
      obtain ⟨v, hv, hc, r⟩ := hr (o + j) a hj
      exact hc
    · have hjn : j < n := by
        have := (List.getElem?_eq_some_iff.1 hj).1
        simp at this; omega
      rw [List.getElem?_take_of_lt hjn, List.getElem?_drop] at hj
      obtain ⟨v, hv, hc, r⟩ := hr (o + j) a hj
      rw [← Nat.add_assoc] at hv
      simp [hjn, hv, r]

theorem hcell_of {h : Array Obj} {b : Nat} {c : Array Value} {e : TypeId} {fr : Nat × Nat} (hb : h[b]? = some (.cells c e fr)) (o : Nat) : hcell h b o = c[o]? := by simp [hcell, hb]

theorem load_pure (I : Inv G H w.heap) {ag : Option Nat} {t : TypeId} (ht : agOf P t = some ag) {v : Value} {x : AV} (r : Rep G w.heap v x) {K : AV → Prop} (hk : loadW ag x H K) :
    ∃ u av, (Instr.loadAt t v).run P w = .ok u w ∧ K av ∧ Rep G w.heap u av := by
  have hsure : ∀ a, Instr.loadAt t (.pointer (some a)) = loadVar t a := fun a => rfl
  cases r <;> simp only [loadW] at hk
  case cpt tag off o cells f hF hc hcell hcl hrep =>
    rw [hsure]
    exact load_row ht (row := cells) (fun j a ha => ⟨_, hcell j a ha, hcl j a ha, hrep j a ha⟩) hk
  case ptr i tag wd r o hc =>
    obtain ⟨ob, hob, rfl, hmp, rfl, row, hrow, hk⟩ := hk
    obtain ⟨c, e, fr, h1, h2, h3, h4, h5, h6⟩ := (I.obj ob (List.mem_of_getElem? hob)).lies hmp
    rw [hsure]
    refine load_row ht (row := row) (fun j a ha => ?_) hk
    obtain ⟨v, hv, hc', r⟩ := h6 r j row a hrow ha
    exact ⟨v, by rw [hcell_of h1]; exact hv, hc', r⟩
  all_goals exact hk.elim

theorem load_sound (I : Inv G H w.heap) {ag : Option Nat} {t : TypeId} (ht : agOf P t = some ag) {v : Value} {x : AV} (r : Rep G w.heap v x) (hk : loadW ag x H (fun v => K v H G.c)) :
    Run P (Instr.loadAt t v) G H w K := by
  obtain ⟨u, av, h1, h2, h3⟩ := load_pure I ht r hk
  exact Run.here I h1 h2 h3

/-! ### addresses -/
def faddrW (off : Nat) (x : AV) (K : AV → Prop) : Prop :=
  match x with
  | .cpt cells o => K (.cpt cells (o + off))
  | .ptr i tag w r o => K (.ptr i tag w r (o + off))
  | _ => False

/-- The field's place: its cell in the struct; a field without cells is not taken. -/
def fieldOff (P : Program) (t : TypeId) (f : Nat) : Option (Nat × TypeId) :=
  match P.underlying t with
  | some (.struct fs) =>
    match fs[f]? with
    | some x => match P.info? x.type with
      | some i => if i.size = 0 then none else some (x.offset, x.type)
      | none => none
    | none => none
  | _ => none

theorem fieldOff_some {t : TypeId} {f off : Nat} {ft : TypeId} (h : fieldOff P t f = some (off, ft)) : ∃ fs x i, P.underlying t = some (.struct fs) ∧ fs[f]? = some x ∧ x.offset = off ∧ x.type = ft ∧ P.info? x.type = some i ∧ i.size ≠ 0 := by
  unfold fieldOff at h
  split at h
  · split at h
    · split at h
      · split at h
        · cases h
        · cases h; exact ⟨_, _, _, by assumption, by assumption, rfl, rfl, by assumption, by assumption⟩
      · cases h
    · cases h
  · cases h

theorem faddr_sound (I : Inv G H w.heap) {t : TypeId} {f off : Nat} {ft : TypeId} (ht : fieldOff P t f = some (off, ft)) {v : Value} {x : AV} (r : Rep G w.heap v x) (hk : faddrW off x (fun v => K v H G.c)) :
    Run P (Instr.fieldAt t v f) G H w K := by
  obtain ⟨fs, fd, i, h1, h2, rfl, rfl, h3, h4⟩ := fieldOff_some ht
  have run : ∀ b p, (Instr.fieldAt t (.pointer (some ⟨b, p, none⟩)) f).run P w = .ok (.pointer (some ⟨b, p + fd.offset, none⟩)) w := fun b p => by
    unfold Instr.fieldAt
    simp only [Sem.run_bind, run_underlying h1, Result.andThen_ok, h2, Instr.sureAddr, Sem.run_pure, fieldPlace, r_sizeOf h3, h4, if_false, addr_add]
  cases r <;> simp only [faddrW] at hk
  case cpt tag p o cells f' hF hc hcell hcl hrep => exact Run.here I (by rw [run, Nat.add_assoc]) hk (.cpt f' hF hc hcell hcl hrep)
  case ptr i' tag wd r o hc => exact Run.here I (by rw [run, Nat.add_assoc]) hk (.ptr hc)
  all_goals exact hk.elim

def iaddrW (w : Nat) (x i : AV) (K : AV → Prop) : Prop :=
  match i with
  | .int _ n =>
    match x with
    | .slc _ w' rows => w' = w ∧ 0 ≤ n ∧ getW rows n.toNat fun row => K (.cpt row 0)
    | .ref j tag w' len => w' = w ∧ 0 ≤ n ∧ n < len ∧ K (.ptr j tag w n.toNat 0)
    | _ => False
  | _ => False

def sliceElem (P : Program) (t : TypeId) : Option (TypeId × TypeInfo) :=
  match P.underlying t with
  | some (.slice e) => (P.info? e).map fun i => (e, i)
  | _ => none

theorem sliceElem_some {t e : TypeId} {i : TypeInfo} (h : sliceElem P t = some (e, i)) : P.underlying t = some (.slice e) ∧ P.info? e = some i := by
  unfold sliceElem at h
  split at h
  · simp only [Option.map_eq_some_iff] at h
    obtain ⟨j, hj, hh⟩ := h
    cases hh
    exact ⟨by assumption, hj⟩
  · cases h

theorem run_iaddr {t e : TypeId} {i : TypeInfo} (ht : sliceElem P t = some (e, i)) {b p len cap : Nat} {k : IntKind} {n : Int} (h0 : 0 ≤ n) (h1 : n < len) (w : World) :
    (Instr.indexAt t (.slice (some ⟨b, p, none⟩) len cap) (.int k n)).run P w = .ok (.pointer (some ⟨b, p + n.toNat * i.size, none⟩)) w := by
  obtain ⟨h2, h3⟩ := sliceElem_some ht
  unfold Instr.indexAt
  simp only [asIntOf, Sem.run_bind, Sem.run_pure, run_underlying h2, Result.andThen_ok, Bool.and_false, h0, h1, and_self, if_true, r_sizeOf h3, addr_add]

theorem iaddr_sound (I : Inv G H w.heap) {t e : TypeId} {i : TypeInfo} (ht : sliceElem P t = some (e, i)) {u v : Value} {x y : AV} (r : Rep G w.heap u x) (ry : Rep G w.heap v y)
    (hk : iaddrW i.size x y (fun v => K v H G.c)) : Run P (Instr.indexAt t u v) G H w K := by
  cases ry <;> simp only [iaddrW] at hk
  case int k n hn =>
    cases r <;> simp only at hk
    case slc0 => obtain ⟨_, _, _, h, _⟩ := hk; simp at h
    case slc tag wd off cap rows f hF hc hlen hcap hw hcell hcl hrep =>
      obtain ⟨rfl, h0, row, hrow, hk⟩ := hk
      have hl : n.toNat < rows.length := (List.getElem?_eq_some_iff.1 hrow).1
      refine Run.here I (run_iaddr ht h0 (by omega) w) hk ?_
      refine .cpt (o := 0) (off := off + n.toNat * i.size) (tag := tag) (fun j => f n.toNat j) hF hc (fun j a ha => hcell _ _ _ _ hrow ha) (fun j a ha => hcl _ _ _ _ hrow ha) (fun j a ha => hrep _ _ _ _ hrow ha)
    case ref j tag wd len cap c e' fr hc hb h1 h2 h3 =>
      obtain ⟨rfl, h0, hl, hk⟩ := hk
      refine Run.here I (run_iaddr ht h0 hl w) hk ?_
      rw [Nat.zero_add]
      exact .ptr (o := 0) hc
    all_goals exact hk.elim
  all_goals exact hk.elim
end
end A
end Go.Proofs.Ytfcimcoanlgldaa
