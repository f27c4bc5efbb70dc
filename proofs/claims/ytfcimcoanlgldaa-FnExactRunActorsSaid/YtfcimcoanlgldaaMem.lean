/-
  What becomes of the abstract memory when a cell is stored, a row is made, a slice grows, an object is given up or becomes read-only. No condition.
-/
import Derived.Test.YtfcimcoanlgldaaCore
namespace Go.Proofs.Ytfcimcoanlgldaa
namespace A
set_option linter.unusedVariables false

/-! ### stores -/
def putCells (c : Array Value) (p : Nat) : List Value → Array Value
  | [] => c
  | v :: vs => putCells (c.setIfInBounds p v) (p + 1) vs

theorem putCells_size (vs : List Value) : ∀ (c : Array Value) (p : Nat), (putCells c p vs).size = c.size := by
  induction vs with
  | nil => intro c p; rfl
  | cons v vs ih => intro c p; simp [putCells, ih]

theorem putCells_out (vs : List Value) : ∀ (c : Array Value) (p j : Nat), (j < p ∨ p + vs.length ≤ j) → (putCells c p vs)[j]? = c[j]? := by
  induction vs with
  | nil => intro c p j _; rfl
  | cons v vs ih =>
    intro c p j h
    simp only [putCells]
    rw [ih _ _ _ (by simp at h; omega), Array.getElem?_setIfInBounds_ne (by simp at h; omega)]

theorem putCells_in (vs : List Value) : ∀ (c : Array Value) (p j : Nat) (v : Value), p + vs.length ≤ c.size → vs[j]? = some v → (putCells c p vs)[p + j]? = some v := by
  induction vs with
  | nil => intro c p j v _ h; simp at h
  | cons u vs ih =>
    intro c p j v h hv
    simp only [putCells]
    cases j with
    | zero =>
      simp at hv; subst hv
      rw [putCells_out _ _ _ _ (by omega)]
      simp at h
      rw [Array.getElem?_setIfInBounds]
      simp; omega
    | succ j =>
      have e : p + (j + 1) = p + 1 + j := by omega
      rw [e]
      exact ih _ _ _ _ (by simp at h ⊢; omega) (by simpa using hv)

def wset (w : World) (x : Nat) (o : Obj) : World := { w with heap := w.heap.setIfInBounds x o }

theorem wset_get (w : World) (x y : Nat) (o : Obj) : (wset w x o).heap[y]? = if y = x then (if x < w.heap.size then some o else none) else w.heap[y]? := by
  simp only [wset]
  by_cases h : y = x
  · subst h; simp [Array.getElem?_setIfInBounds]
  · rw [if_neg h, Array.getElem?_setIfInBounds_ne (Ne.symm h)]

theorem wset_wset (w : World) (x : Nat) (o o' : Obj) : wset (wset w x o) x o' = wset w x o' := by
  simp [wset]

theorem lt_of_get {h : Array Obj} {x : Nat} {o : Obj} (e : h[x]? = some o) : x < h.size := by
  rcases Nat.lt_or_ge x h.size with hl | hl
  · exact hl
  · rw [Array.getElem?_eq_none hl] at e; cases e

theorem setCell_eq {w : World} {x p : Nat} {c : Array Value} {t : TypeId} {fr : Nat × Nat} (hb : w.heap[x]? = some (.cells c t fr)) (v : Value) :
    w.setCell ⟨x, p, none⟩ v = wset w x (.cells (c.setIfInBounds p v) t fr) := by
  have hx := lt_of_get hb
  unfold World.setCell wset
  congr 1
  apply Array.ext_getElem?
  intro i
  rw [Array.getElem?_modify, Array.getElem?_setIfInBounds]
  by_cases h : x = i
  · subst h; rw [hb, if_pos rfl, if_pos rfl, if_pos hx]; rfl
  · simp [h]

theorem frozen_false {w : World} {x p : Nat} {c : Array Value} {t : TypeId} {fr : Nat × Nat} (hb : w.heap[x]? = some (.cells c t fr)) (hf : ¬ (fr.1 ≤ p ∧ p < fr.2)) :
    w.frozen? ⟨x, p, none⟩ = false := by
  obtain ⟨lo, hi⟩ := fr
  simp only [World.frozen?, hb]
  simpa using hf

theorem addr_add (x p n : Nat) : (⟨x, p, none⟩ : Addr).add n = ⟨x, p + n, none⟩ := by
  unfold Addr.add
  split
  · rename_i h; subst h; rfl
  · rfl

theorem run_storeCells (P : Program) (x p : Nat) (t : TypeId) (fr : Nat × Nat) : ∀ (vs : List Value) (i : Nat) (w : World) (c : Array Value),
    w.heap[x]? = some (.cells c t fr) → (∀ j, j < c.size → ¬ (fr.1 ≤ j ∧ j < fr.2)) → p + i + vs.length ≤ c.size → (∀ v, v ∈ vs → v.oneCell' = true) →
    (storeCells ⟨x, p, none⟩ vs i).run P w = .ok () (wset w x (.cells (putCells c (p + i) vs) t fr)) := by
  intro vs
  induction vs with
  | nil =>
    intro i w c hb _ _ _
    simp only [storeCells, Sem.run_pure, putCells]
    have hx := lt_of_get hb
    have : w = wset w x (.cells c t fr) := by
      unfold wset
      have : w.heap = w.heap.setIfInBounds x (.cells c t fr) := by
        apply Array.ext_getElem?
        intro i
        rw [Array.getElem?_setIfInBounds]
        by_cases h : x = i
        · subst h; rw [hb, if_pos rfl, if_pos hx]
        · simp [h]
      rw [← this]
    rw [← this]
  | cons v vs ih =>
    intro i w c hb hfr hl hv
    have hp : p + i < c.size := by simp at hl; omega
    have hcell : w.cell? ⟨x, p + i, none⟩ = some (c[p + i]) := by
      rw [cell?_eq]; simp [hcell, hb, hp]
    simp only [storeCells, addr_add, Sem.run_bind, run_store P w _ v .plain (hv v (by simp)), hcell, frozen_false hb (hfr _ hp), Bool.false_eq_true, if_false, Result.andThen_ok]
    rw [setCell_eq hb]
    have hb' : (wset w x (.cells (c.setIfInBounds (p + i) v) t fr)).heap[x]? = some (.cells (c.setIfInBounds (p + i) v) t fr) := by
      rw [wset_get]; simp [lt_of_get hb]
    rw [ih (i + 1) _ _ hb' (by simpa using hfr) (by simp at hl ⊢; omega) (fun u hu => hv u (by simp [hu]))]
    rw [wset_wset]
    rfl

/-! ### loads -/
theorem run_loadCellsFrom (P : Program) (w : World) (x p : Nat) (f : Nat → Value) : ∀ (n i : Nat) (acc : Array Value), (∀ j, i ≤ j → j < i + n → hcell w.heap x (p + j) = some (f j)) →
    (loadCellsFrom ⟨x, p, none⟩ i n acc).run P w = .ok (acc ++ ((List.range' i n).map f).toArray) w := by
  intro n
  induction n with
  | zero => intro i acc _; simp [loadCellsFrom]
  | succ n ih =>
    intro i acc h
    have h0 : w.cell? ⟨x, p + i, none⟩ = some (f i) := by rw [cell?_eq]; exact h i (Nat.le_refl _) (by omega)
    simp only [loadCellsFrom, addr_add, Sem.run_bind, run_load, h0, Result.andThen_ok]
    rw [ih (i + 1) _ (fun j h1 h2 => h j (by omega) (by omega))]
    simp [List.range'_succ]

theorem run_loadCells (P : Program) (w : World) (x p n : Nat) (f : Nat → Value) (h : ∀ j, j < n → hcell w.heap x (p + j) = some (f j)) :
    (loadCells ⟨x, p, none⟩ n).run P w = .ok ((List.range n).map f).toArray w := by
  unfold loadCells
  rw [run_loadCellsFrom P w x p f n 0 #[] (fun j _ h2 => h j (by omega))]
  simp [List.range_eq_range']

theorem run_loadCell (P : Program) (w : World) (x p : Nat) (v : Value) (h : hcell w.heap x p = some v) : (load ⟨x, p, none⟩).run P w = .ok v w := by
  have h0 : w.cell? ⟨x, p, none⟩ = some v := by rw [cell?_eq]; exact h
  simp only [run_load, h0]

/-! ### an object is written -/
theorem Ext1.write {G : Gh} {h : Array Obj} {x : Nat} {o : Obj} (hn : ∀ t, G.Fz t → G.m t ≠ x) (hs : ∀ c e fr, h[x]? = some (.cells c e fr) → ∃ c' fr', o = .cells c' e fr' ∧ c'.size = c.size) :
    Ext1 G h G (h.setIfInBounds x o) where
  c := Nat.le_refl _
  m _ _ := rfl
  F _ _ hF := hF
  keep t _ hF := Array.getElem?_setIfInBounds_ne (Ne.symm (hn t hF))
  shape b c e fr hb := by
    by_cases hx : b = x
    · subst hx
      obtain ⟨c', fr', rfl, h2⟩ := hs c e fr hb
      exact ⟨c', fr', by simp [lt_of_get hb], h2⟩
    · exact ⟨c, fr, by rw [Array.getElem?_setIfInBounds_ne (Ne.symm hx)]; exact hb, rfl⟩

theorem tags_set {H : List AObj} {i : Nat} {ob ob' : AObj} (hi : H[i]? = some ob) (ht : ob'.tag = ob.tag) : tags (H.set i ob') = tags H := by
  unfold tags
  rw [List.map_set, ht]
  apply List.ext_getElem?
  intro j
  rw [List.getElem?_set]
  by_cases h : i = j
  · subst h
    obtain ⟨hl, he⟩ := List.getElem?_eq_some_iff.1 hi
    simp [hl, he]
  · simp [h]

theorem nodup_get {l : List Nat} (hn : l.Nodup) {i j x : Nat} (hi : l[i]? = some x) (hj : l[j]? = some x) : i = j := by
  obtain ⟨h1, e1⟩ := List.getElem?_eq_some_iff.1 hi
  obtain ⟨h2, e2⟩ := List.getElem?_eq_some_iff.1 hj
  rcases Nat.lt_trichotomy i j with h | h | h
  · exact absurd (e1.trans e2.symm) (List.pairwise_iff_getElem.1 hn i j h1 h2 h)
  · exact h
  · exact absurd (e2.trans e1.symm) (List.pairwise_iff_getElem.1 hn j i h2 h1 h)

theorem mem_set {H : List AObj} {i : Nat} {ob ob' o : AObj} (hn : (tags H).Nodup) (hi : H[i]? = some ob) (ho : o ∈ H.set i ob') : o = ob' ∨ (o ∈ H ∧ o.tag ≠ ob.tag) := by
  rw [List.mem_iff_getElem?] at ho
  obtain ⟨j, hj⟩ := ho
  rw [List.getElem?_set] at hj
  by_cases h : i = j
  · subst h
    rw [if_pos rfl] at hj
    split at hj
    · exact .inl (Option.some.inj hj).symm
    · cases hj
  · rw [if_neg h] at hj
    refine .inr ⟨List.mem_of_getElem? hj, fun e => h ?_⟩
    have h1 : (tags H)[i]? = some ob.tag := by simp [tags, hi]
    have h2 : (tags H)[j]? = some ob.tag := by simp [tags, hj, e]
    exact nodup_get hn h1 h2

theorem Inv.nfz_m {G : Gh} {H : List AObj} {h : Array Obj} (I : Inv G H h) {t u : Nat} (ht : t ∈ tags H) (hF : G.Fz u) : G.m u ≠ G.m t := fun e =>
  I.nfz t ht (I.inj u t (.inl hF) (.inr ht) e ▸ hF)

/-- The block of an object turns; the object is then what the new block holds. -/
theorem Inv.write {G : Gh} {H : List AObj} {h : Array Obj} (I : Inv G H h) {i : Nat} {ob ob' : AObj} (hi : H[i]? = some ob) (ht : ob'.tag = ob.tag) {o : Obj}
    (hs : ∀ c e fr, h[G.m ob.tag]? = some (.cells c e fr) → ∃ c' fr', o = .cells c' e fr' ∧ c'.size = c.size) (hob : ObjOk G (h.setIfInBounds (G.m ob.tag) o) ob') :
    Ext1 G h G (h.setIfInBounds (G.m ob.tag) o) ∧ Inv G (H.set i ob') (h.setIfInBounds (G.m ob.tag) o) := by
  have hmem : ob ∈ H := List.mem_of_getElem? hi
  have x : Ext1 G h G (h.setIfInBounds (G.m ob.tag) o) := Ext1.write (fun u hF => I.nfz_m (mem_tags hmem) hF) hs
  refine ⟨x, fun t hF => ?_, fun o' ho' => ?_, fun t hm => ?_, ?_, fun t t' h1 h2 => ?_⟩
  · simpa using I.fz t hF
  · rcases mem_set I.nodup hi ho' with rfl | ⟨h1, h2⟩
    · exact hob
    · refine (I.obj o' h1).ext x (Array.getElem?_setIfInBounds_ne fun e => h2 ?_)
      exact (I.inj _ _ (.inr (mem_tags hmem)) (.inr (mem_tags h1)) e).symm
  · rw [tags_set hi ht] at hm; exact I.nfz t hm
  · rw [tags_set hi ht]; exact I.nodup
  · rw [tags_set hi ht] at h1 h2; exact I.inj t t' h1 h2

theorem Ext.write {G : Gh} {H : List AObj} {w : World} (I : Inv G H w.heap) {i : Nat} {ob ob' : AObj} (hi : H[i]? = some ob) (ht : ob'.tag = ob.tag) {o : Obj}
    (x : Ext1 G w.heap G (w.heap.setIfInBounds (G.m ob.tag) o)) : Ext G H w G (H.set i ob') (wset w (G.m ob.tag) o) where
  x := x
  os := rfl
  tape := rfl
  output := rfl
  size := by simp [wset]
  frame b hb hn := Array.getElem?_setIfInBounds_ne (hn _ (mem_tags (List.mem_of_getElem? hi)))
  newm t h1 h2 := absurd h2 (by omega)
  oldH t _ h2 := by rw [tags_set hi ht] at h2; exact h2
  oldF t _ h2 := .inl h2

/-! ### an object's slice grows: it takes a new tag; it lies where it lay, or in a new block -/
theorem mem_tags_set {H : List AObj} {i : Nat} {ob ob' : AObj} (hn : (tags H).Nodup) (hi : H[i]? = some ob) {t : Nat} (h : t ∈ tags (H.set i ob')) : t = ob'.tag ∨ (t ∈ tags H ∧ t ≠ ob.tag) := by
  obtain ⟨o, ho, rfl⟩ := of_mem_tags h
  rcases mem_set hn hi ho with rfl | ⟨h1, h2⟩
  · exact .inl rfl
  · exact .inr ⟨mem_tags h1, h2⟩

theorem nodup_tags_set {H : List AObj} {i : Nat} {ob ob' : AObj} (hn : (tags H).Nodup) (hi : H[i]? = some ob) (hf : ob'.tag ∉ tags H) : (tags (H.set i ob')).Nodup := by
  have e : tags (H.set i ob') = (tags H).set i ob'.tag := by simp [tags, List.map_set]
  rw [e]
  refine List.pairwise_iff_getElem.2 fun a b ha hb hab => ?_
  have hne : ∀ j (h : j < (tags H).length), (tags H)[j] ≠ ob'.tag := fun j h e => hf (e ▸ List.getElem_mem h)
  simp only [List.getElem_set]
  split
  · rename_i h; subst h
    rw [if_neg (by omega)]
    exact fun e => hne b (by simpa using hb) e.symm
  · split
    · exact hne a (by simpa using ha)
    · exact List.pairwise_iff_getElem.1 hn a b (by simpa using ha) (by simpa using hb) hab

/-- In place. -/
theorem Inv.grow {G : Gh} {H : List AObj} {h h' : Array Obj} (I : Inv G H h) {i : Nat} {ob ob' : AObj} (hi : H[i]? = some ob) (ht : ob'.tag = G.c) {b : Nat} (hb : b < h'.size)
    (hb' : b = G.m ob.tag ∨ h.size ≤ b) (x : Ext1 G h (G.new b) h') (hfr : ∀ t, t ∈ tags H → t ≠ ob.tag → h'[G.m t]? = h[G.m t]?) (hsz : h.size ≤ h'.size)
    (hob : ObjOk (G.new b) h' ob') : Inv (G.new b) (H.set i ob') h' := by
  have hmem : ob ∈ H := List.mem_of_getElem? hi
  have hc := not_tag_c I
  have hm : ∀ t, t < G.c → (G.new b).m t = G.m t := fun t h => by simp [Gh.new, upd_ne _ _ _ (Nat.ne_of_lt h)]
  have hmc : (G.new b).m G.c = b := by simp [Gh.new]
  refine ⟨fun t hF => ?_, fun o' ho' => ?_, fun t hm' hF => ?_, ?_, fun t t' h1 h2 he => ?_⟩
  · have := I.fz t hF
    refine ⟨by simp [Gh.new]; omega, ?_⟩
    rw [hm t this.1]; omega
  · rcases mem_set I.nodup hi ho' with rfl | ⟨h1, h2⟩
    · exact hob
    · exact (I.obj o' h1).ext x (hfr _ (mem_tags h1) h2)
  · rcases mem_tags_set I.nodup hi hm' with h1 | ⟨h1, _⟩
    · rw [ht] at h1; subst h1; exact absurd (I.fz _ hF).1 (by omega)
    · exact I.nfz t h1 hF
  · exact nodup_tags_set I.nodup hi (ht ▸ hc)
  · have key : ∀ t, ((G.new b).Fz t ∨ t ∈ tags (H.set i ob')) → ((G.Fz t ∨ t ∈ tags H) ∧ t < G.c ∧ t ≠ ob.tag ∧ G.m t < h.size) ∨ t = G.c := fun t hl => by
      rcases hl with h1 | h1
      · refine .inl ⟨.inl h1, (I.fz t h1).1, fun e => I.nfz _ (mem_tags hmem) (e ▸ h1), (I.fz t h1).2⟩
      · rcases mem_tags_set I.nodup hi h1 with h1 | ⟨h1, h2⟩
        · exact .inr (h1.trans ht)
        · obtain ⟨o', ho', rfl⟩ := of_mem_tags h1
          exact .inl ⟨.inr h1, (I.obj o' ho').c, h2, (I.obj o' ho').block⟩
    rcases key t h1 with ⟨l1, c1, n1, s1⟩ | h1 <;> rcases key t' h2 with ⟨l2, c2, n2, s2⟩ | h2
    · rw [hm t c1, hm t' c2] at he; exact I.inj t t' l1 l2 he
    · subst h2; rw [hm t c1, hmc] at he
      rcases hb' with e | e
      · exact absurd (I.inj t ob.tag l1 (.inr (mem_tags hmem)) (he.trans e)) n1
      · omega
    · subst h1; rw [hm t' c2, hmc] at he
      rcases hb' with e | e
      · exact absurd (I.inj t' ob.tag l2 (.inr (mem_tags hmem)) (he.symm.trans e)) n2
      · omega
    · rw [h1, h2]

theorem Ext.grow {G : Gh} {H : List AObj} {w w' : World} (I : Inv G H w.heap) {i : Nat} {ob ob' : AObj} (hi : H[i]? = some ob) (ht : ob'.tag = G.c) {b : Nat}
    (hb' : b = G.m ob.tag ∨ w.heap.size ≤ b) (x : Ext1 G w.heap (G.new b) w'.heap) (hos : w'.os = w.os) (htape : w'.tape = w.tape) (hout : w'.output = w.output) (hsz : w.heap.size ≤ w'.heap.size)
    (hfr : ∀ k, k < w.heap.size → k ≠ G.m ob.tag → w'.heap[k]? = w.heap[k]?) : Ext G H w (G.new b) (H.set i ob') w' where
  x := x
  os := hos
  tape := htape
  output := hout
  size := hsz
  frame k hk hn := hfr k hk fun e => hn _ (mem_tags (List.mem_of_getElem? hi)) e.symm
  newm t h1 h2 := by
    have : t = G.c := by simp [Gh.new] at h2; omega
    subst this
    rcases hb' with e | e
    · exact .inr ⟨ob.tag, mem_tags (List.mem_of_getElem? hi), by simp [Gh.new, e]⟩
    · exact .inl (by simpa [Gh.new] using e)
  oldH t h1 h2 := by
    rcases mem_tags_set I.nodup hi h2 with h3 | ⟨h3, _⟩
    · omega
    · exact h3
  oldF t _ h2 := .inl h2

/-! ### objects are given up, or become read-only -/
theorem Inv.drop {G : Gh} {H H' : List AObj} {h : Array Obj} (I : Inv G H h) (hs : H'.Sublist H) : Inv G H' h where
  fz := I.fz
  obj o ho := I.obj o (hs.subset ho)
  nfz t ht := I.nfz t ((hs.map _).subset ht)
  nodup := List.Nodup.sublist (hs.map _) I.nodup
  inj t t' h1 h2 := I.inj t t' (h1.imp id ((hs.map _).subset ·)) (h2.imp id ((hs.map _).subset ·))

theorem Ext.drop {G G' : Gh} {H H' H'' : List AObj} {w w' : World} (x : Ext G H w G' H' w') (hs : H''.Sublist H') : Ext G H w G' H'' w' :=
  { x with oldH := fun t h1 h2 => x.oldH t h1 ((hs.map _).subset h2) }

theorem Ext.draw {G G' : Gh} {H H' : List AObj} {w w' : World} (x : Ext G H w G' H' w') : Ext G H w G' H' w'.drew := { x with }

/-- The ghost in which the objects of S are only read. -/
def Gh.freeze (G : Gh) (S : List AObj) : Gh := { G with Fz := fun t => G.Fz t ∨ t ∈ tags S }

theorem Ext1.freeze (G : Gh) (S : List AObj) (h : Array Obj) : Ext1 G h (G.freeze S) h :=
  ⟨Nat.le_refl _, fun _ _ => rfl, fun _ _ x => .inl x, fun _ _ _ => rfl, fun _ c _ fr hb => ⟨c, fr, hb, rfl⟩⟩

theorem ObjOk.freeze {G : Gh} {h : Array Obj} {o : AObj} (k : ObjOk G h o) (S : List AObj) : ObjOk (G.freeze S) h o := k.ext (Ext1.freeze G S h) rfl

/-- H1 is what remains to be written; S what is only read from now on. -/
theorem Inv.freeze {G : Gh} {H H1 S : List AObj} {h : Array Obj} (I : Inv G H h) (h1 : H1.Sublist H) (h2 : ∀ o, o ∈ S → o ∈ H) (hd : ∀ t, t ∈ tags H1 → t ∉ tags S) : Inv (G.freeze S) H1 h where
  fz t hF := by
    rcases hF with hF | hF
    · exact I.fz t hF
    · obtain ⟨o, ho, rfl⟩ := of_mem_tags hF
      exact ⟨(I.obj o (h2 o ho)).c, (I.obj o (h2 o ho)).block⟩
  obj o ho := (I.obj o (h1.subset ho)).freeze S
  nfz t ht hF := by
    rcases hF with hF | hF
    · exact I.nfz t ((h1.map _).subset ht) hF
    · exact hd t ht hF
  nodup := List.Nodup.sublist (h1.map _) I.nodup
  inj t t' a b := by
    have key : ∀ t, ((G.freeze S).Fz t ∨ t ∈ tags H1) → (G.Fz t ∨ t ∈ tags H) := fun t hl => by
      rcases hl with (hl | hl) | hl
      · exact .inl hl
      · obtain ⟨o, ho, rfl⟩ := of_mem_tags hl
        exact .inr (mem_tags (h2 o ho))
      · exact .inr ((h1.map _).subset hl)
    exact I.inj t t' (key t a) (key t' b)
end A
end Go.Proofs.Ytfcimcoanlgldaa
