/-
  The ground of the seat's proofs: abstract values (trees), what it means that a value of the model stands for one, and the memory's invariants. No condition.
-/
import Derived.WalkKit
namespace Go.Proofs.Ytfcimcoanlgldaa
namespace A
set_option linter.unusedVariables false

/-- An abstract value. 'slc': a slice that is only read; 'ref': a slice over a memory object of the state; 'ptr': a pointer into one; 'cpt': a pointer to cells that are only read. -/
inductive AV where
  | int (k : IntKind) (n : Int)
  | bool (b : Bool)
  | str (s : List UInt8)
  | und
  | junk
  | nsl
  | nptr
  | slc (tag w : Nat) (rows : List (List AV))
  | ref (i tag w len : Nat)
  | ptr (i tag w row off : Nat)
  | cpt (cells : List AV) (off : Nat)
  | agg (cells : List AV)
  | tup (vs : List AV)
  | fn (f : Nat) (caps : List AV)
  | mref (i tag : Nat)
  deriving Inhabited

/-- A memory object of the state: rows of cells (a slice's array, a variable), or a map's entries (key, element). -/
structure AObj where
  mp : Bool
  tag : Nat
  w : Nat
  rows : List (List AV)

def mx : Nat := 9223372036854775807
theorem mx_eq : mx = 9223372036854775807 := rfl

def IOk (k : IntKind) (n : Int) : Prop := k.min ≤ n ∧ n ≤ k.max

def hcell (h : Array Obj) (b o : Nat) : Option Value :=
  match h[b]? with
  | some (.cells c _ _) => c[o]?
  | _ => none

theorem cell?_eq (w : World) (b o : Nat) : w.cell? ⟨b, o, none⟩ = hcell w.heap b o := by
  unfold World.cell? hcell
  cases w.heap[b]? with
  | none => rfl
  | some o => cases o <;> rfl

/-- The ghost: where each tag lies, how many tags there are, which are only read. -/
structure Gh where
  m : Nat → Nat
  c : Nat
  Fz : Nat → Prop

/-- What a value of one cell looks like. -/
def AV.cell : AV → Bool
  | .agg _ | .tup _ | .und | .junk => false
  | _ => true

inductive Rep (G : Gh) (h : Array Obj) : Value → AV → Prop
  | int {k : IntKind} {n : Int} (hk : IOk k n) : Rep G h (.int k n) (.int k n)
  | bool {b : Bool} : Rep G h (.bool b) (.bool b)
  | str {s : ByteArray} {l : List UInt8} (e : s.data.toList = l) (hl : l.length ≤ mx) : Rep G h (.string s) (.str l)
  | und : Rep G h undef .und
  | junk {v : Value} : Rep G h v .junk
  | nsl : Rep G h (.slice none 0 0) .nsl
  | nptr : Rep G h (.pointer none) .nptr
  | slc0 {a : Option Addr} {cap tag w : Nat} : Rep G h (.slice a 0 cap) (.slc tag w [])
  | slc {tag w off cap : Nat} {rows : List (List AV)} (f : Nat → Nat → Value) (hF : G.Fz tag) (hc : tag < G.c) (hlen : rows.length ≤ mx) (hcap : rows.length ≤ cap)
      (hw : ∀ (r : Nat) (row : List AV), rows[r]? = some row → row.length = w)
      (hcell : ∀ (r o : Nat) (row : List AV) (a : AV), rows[r]? = some row → row[o]? = some a → hcell h (G.m tag) (off + r * w + o) = some (f r o))
      (hcl : ∀ (r o : Nat) (row : List AV) (a : AV), rows[r]? = some row → row[o]? = some a → a.cell = true)
      (hrep : ∀ (r o : Nat) (row : List AV) (a : AV), rows[r]? = some row → row[o]? = some a → Rep G h (f r o) a) :
      Rep G h (.slice (some ⟨G.m tag, off, none⟩) rows.length cap) (.slc tag w rows)
  | ref {i tag w len cap : Nat} {c : Array Value} {e : TypeId} {fr : Nat × Nat} (hc : tag < G.c) (hb : h[G.m tag]? = some (.cells c e fr))
      (h1 : cap * w ≤ c.size) (h2 : len ≤ cap) (h3 : len ≤ mx) : Rep G h (.slice (some ⟨G.m tag, 0, none⟩) len cap) (.ref i tag w len)
  | ptr {i tag w r o : Nat} (hc : tag < G.c) : Rep G h (.pointer (some ⟨G.m tag, r * w + o, none⟩)) (.ptr i tag w r o)
  | cpt {tag off o : Nat} {cells : List AV} (f : Nat → Value) (hF : G.Fz tag) (hc : tag < G.c)
      (hcell : ∀ (j : Nat) (a : AV), cells[j]? = some a → hcell h (G.m tag) (off + j) = some (f j))
      (hcl : ∀ (j : Nat) (a : AV), cells[j]? = some a → a.cell = true)
      (hrep : ∀ (j : Nat) (a : AV), cells[j]? = some a → Rep G h (f j) a) : Rep G h (.pointer (some ⟨G.m tag, off + o, none⟩)) (.cpt cells o)
  | agg {cs : Array Value} {cells : List AV} (hs : cs.size = cells.length) (hcl : ∀ (j : Nat) (a : AV), cells[j]? = some a → a.cell = true) (hr : ∀ (j : Nat) (a : AV), cells[j]? = some a → Rep G h (cs.getD j undef) a) : Rep G h (.agg cs) (.agg cells)
  | tup {cs : Array Value} {vs : List AV} (hs : cs.size = vs.length) (hr : ∀ (j : Nat) (a : AV), vs[j]? = some a → Rep G h (cs.getD j undef) a) : Rep G h (.tuple cs) (.tup vs)
  | fn {f : Nat} {cs : Array Value} {caps : List AV} (hs : cs.size = caps.length) (hr : ∀ (j : Nat) (a : AV), caps[j]? = some a → Rep G h (cs.getD j undef) a) :
      Rep G h (.func (.func f) #[] cs) (.fn f caps)
  | mref {i tag : Nat} (hc : tag < G.c) : Rep G h (.map (some (G.m tag))) (.mref i tag)

/-- What a step must keep so that a reading stays one. -/
structure Ext1 (G : Gh) (h : Array Obj) (G' : Gh) (h' : Array Obj) : Prop where
  c : G.c ≤ G'.c
  m : ∀ t, t < G.c → G'.m t = G.m t
  F : ∀ t, t < G.c → G.Fz t → G'.Fz t
  keep : ∀ t, t < G.c → G.Fz t → h'[G.m t]? = h[G.m t]?
  shape : ∀ (b : Nat) (c : Array Value) (e : TypeId) (fr : Nat × Nat), h[b]? = some (.cells c e fr) → ∃ (c' : Array Value) (fr' : Nat × Nat), h'[b]? = some (.cells c' e fr') ∧ c'.size = c.size

theorem Ext1.refl (G : Gh) (h : Array Obj) : Ext1 G h G h :=
  ⟨Nat.le_refl _, fun _ _ => rfl, fun _ _ x => x, fun _ _ _ => rfl, fun _ c _ fr hb => ⟨c, fr, hb, rfl⟩⟩

theorem Ext1.trans {G : Gh} {h : Array Obj} {G' : Gh} {h' : Array Obj} {G'' : Gh} {h'' : Array Obj} (a : Ext1 G h G' h') (b : Ext1 G' h' G'' h'') : Ext1 G h G'' h'' where
  c := Nat.le_trans a.c b.c
  m t ht := (b.m t (Nat.lt_of_lt_of_le ht a.c)).trans (a.m t ht)
  F t ht hF := b.F t (Nat.lt_of_lt_of_le ht a.c) (a.F t ht hF)
  keep t ht hF := by
    have := b.keep t (Nat.lt_of_lt_of_le ht a.c) (a.F t ht hF)
    rw [a.m t ht] at this
    exact this.trans (a.keep t ht hF)
  shape x c e fr hb := by
    obtain ⟨c', fr', h1, h2⟩ := a.shape x c e fr hb
    obtain ⟨c'', fr'', h3, h4⟩ := b.shape x c' e fr' h1
    exact ⟨c'', fr'', h3, h4.trans h2⟩

theorem hcell_congr {h h' : Array Obj} {b : Nat} (e : h'[b]? = h[b]?) (o : Nat) : hcell h' b o = hcell h b o := by simp [hcell, e]

theorem Rep.ext {G : Gh} {h : Array Obj} {G' : Gh} {h' : Array Obj} {v : Value} {a : AV} (r : Rep G h v a) (x : Ext1 G h G' h') : Rep G' h' v a := by
  induction r with
  | int hk => exact .int hk
  | bool => exact .bool
  | str e hl => exact .str e hl
  | und => exact .und
  | junk => exact .junk
  | nsl => exact .nsl
  | nptr => exact .nptr
  | slc0 => exact .slc0
  | slc f hF hc hlen hcap hw hcell hcl hrep ih =>
    rw [← x.m _ hc]
    refine .slc f (x.F _ hc hF) (Nat.lt_of_lt_of_le hc x.c) hlen hcap hw (fun r o row a h1 h2 => ?_) hcl ih
    rw [x.m _ hc, hcell_congr (x.keep _ hc hF)]
    exact hcell r o row a h1 h2
  | ref hc hb h1 h2 h3 =>
    obtain ⟨c', fr', hb', hs⟩ := x.shape _ _ _ _ hb
    rw [← x.m _ hc] at hb' ⊢
    exact .ref (Nat.lt_of_lt_of_le hc x.c) hb' (by omega) h2 h3
  | ptr hc => rw [← x.m _ hc]; exact .ptr (Nat.lt_of_lt_of_le hc x.c)
  | cpt f hF hc hcell hcl hrep ih =>
    rw [← x.m _ hc]
    refine .cpt f (x.F _ hc hF) (Nat.lt_of_lt_of_le hc x.c) (fun j a h1 => ?_) hcl ih
    rw [x.m _ hc, hcell_congr (x.keep _ hc hF)]
    exact hcell j a h1
  | agg hs hcl hr ih => exact .agg hs hcl ih
  | tup hs hr ih => exact .tup hs ih
  | fn hs hr ih => exact .fn hs ih
  | mref hc => rw [← x.m _ hc]; exact .mref (Nat.lt_of_lt_of_le hc x.c)

theorem Rep.oneCell {G : Gh} {h : Array Obj} {v : Value} {a : AV} (r : Rep G h v a) (hc : a.cell = true) : v.oneCell' = true := by
  cases r <;> first | rfl | cases hc

theorem Rep.cells_one {G : Gh} {h : Array Obj} {v : Value} {a : AV} (r : Rep G h v a) (hc : a.cell = true) : v.cells = #[v] := by
  cases r <;> first | rfl | cases hc

def AV.cells : AV → List AV
  | .agg l => l
  | a => [a]

/-- A memory object as it lies in the heap. -/
structure ObjOk (G : Gh) (h : Array Obj) (o : AObj) : Prop where
  c : o.tag < G.c
  lies : o.mp = false → ∃ (c : Array Value) (e : TypeId) (fr : Nat × Nat), h[G.m o.tag]? = some (.cells c e fr) ∧ (∀ i : Nat, i < c.size → ¬ (fr.1 ≤ i ∧ i < fr.2)) ∧ o.rows.length * o.w ≤ c.size ∧ o.rows.length ≤ mx ∧
    (∀ (r : Nat) (row : List AV), o.rows[r]? = some row → row.length = o.w) ∧ ∀ (r j : Nat) (row : List AV) (a : AV), o.rows[r]? = some row → row[j]? = some a → ∃ v, c[r * o.w + j]? = some v ∧ a.cell = true ∧ Rep G h v a
  mlies : o.mp = true → ∃ (es : Array MapEntry) (clock : Nat), h[G.m o.tag]? = some (.map es clock) ∧ es.size = o.rows.length ∧ o.rows.length ≤ mx ∧
    ∀ (r : Nat) (row : List AV), o.rows[r]? = some row → ∃ (k v : AV) (en : MapEntry), row = [k, v] ∧ es[r]? = some en ∧ Rep G h en.key k ∧ Rep G h en.val v

theorem ObjOk.ext {G : Gh} {h : Array Obj} {G' : Gh} {h' : Array Obj} {o : AObj} (k : ObjOk G h o) (x : Ext1 G h G' h') (e : h'[G.m o.tag]? = h[G.m o.tag]?) : ObjOk G' h' o where
  c := Nat.lt_of_lt_of_le k.c x.c
  lies hm := by
    obtain ⟨c, t, fr, h1, h2, h3, h4, h5, h6⟩ := k.lies hm
    refine ⟨c, t, fr, by rw [x.m _ k.c, e, h1], h2, h3, h4, h5, fun r j row a ha hb => ?_⟩
    obtain ⟨v, hv, hc, hr⟩ := h6 r j row a ha hb
    exact ⟨v, hv, hc, hr.ext x⟩
  mlies hm := by
    obtain ⟨es, clock, h1, h2, h3, h4⟩ := k.mlies hm
    refine ⟨es, clock, by rw [x.m _ k.c, e, h1], h2, h3, fun r row hr => ?_⟩
    obtain ⟨k', v, en, e1, e2, r1, r2⟩ := h4 r row hr
    exact ⟨k', v, en, e1, e2, r1.ext x, r2.ext x⟩

def tags (H : List AObj) : List Nat := H.map (·.tag)

/-- The memory's invariant. -/
structure Inv (G : Gh) (H : List AObj) (h : Array Obj) : Prop where
  fz : ∀ t, G.Fz t → t < G.c ∧ G.m t < h.size
  obj : ∀ o, o ∈ H → ObjOk G h o
  nfz : ∀ t, t ∈ tags H → ¬ G.Fz t
  nodup : (tags H).Nodup
  inj : ∀ t t', (G.Fz t ∨ t ∈ tags H) → (G.Fz t' ∨ t' ∈ tags H) → G.m t = G.m t' → t = t'

theorem mem_tags {H : List AObj} {o : AObj} (h : o ∈ H) : o.tag ∈ tags H := List.mem_map_of_mem h
theorem of_mem_tags {H : List AObj} {t : Nat} (h : t ∈ tags H) : ∃ o, o ∈ H ∧ o.tag = t := by simpa [tags] using h

theorem Inv.lt {G : Gh} {H : List AObj} {h : Array Obj} (I : Inv G H h) {t : Nat} (ht : t ∈ tags H) : t < G.c := by
  obtain ⟨o, ho, rfl⟩ := of_mem_tags ht
  exact (I.obj o ho).c

theorem ObjOk.block {G : Gh} {h : Array Obj} {o : AObj} (k : ObjOk G h o) : G.m o.tag < h.size := by
  rcases Nat.lt_or_ge (G.m o.tag) h.size with hl | hl
  · exact hl
  · cases hm : o.mp with
    | false => obtain ⟨c, t, fr, h1, _⟩ := k.lies hm; rw [Array.getElem?_eq_none hl] at h1; cases h1
    | true => obtain ⟨es, cl, h1, _⟩ := k.mlies hm; rw [Array.getElem?_eq_none hl] at h1; cases h1

/-- One run, or a part of one: the objects of H and new blocks may have been written, nothing else. -/
structure Ext (G : Gh) (H : List AObj) (w : World) (G' : Gh) (H' : List AObj) (w' : World) : Prop where
  x : Ext1 G w.heap G' w'.heap
  os : w'.os = w.os
  tape : w'.tape = w.tape
  output : w'.output = w.output
  size : w.heap.size ≤ w'.heap.size
  frame : ∀ b, b < w.heap.size → (∀ t, t ∈ tags H → G.m t ≠ b) → w'.heap[b]? = w.heap[b]?
  newm : ∀ t, G.c ≤ t → t < G'.c → w.heap.size ≤ G'.m t ∨ ∃ u, u ∈ tags H ∧ G'.m t = G.m u
  oldH : ∀ t, t < G.c → t ∈ tags H' → t ∈ tags H
  oldF : ∀ t, t < G.c → G'.Fz t → G.Fz t ∨ t ∈ tags H

theorem Ext.refl (G : Gh) (H : List AObj) (w : World) : Ext G H w G H w :=
  ⟨Ext1.refl _ _, rfl, rfl, rfl, Nat.le_refl _, fun _ _ _ => rfl, fun t h1 h2 => absurd h2 (by omega), fun _ _ h => h, fun _ _ h => .inl h⟩

theorem Ext.trans {G : Gh} {H : List AObj} {w : World} {G' : Gh} {H' : List AObj} {w' : World} {G'' : Gh} {H'' : List AObj} {w'' : World}
    (hH : ∀ t, t ∈ tags H → t < G.c) (hH' : ∀ t, t ∈ tags H' → t < G'.c) (a : Ext G H w G' H' w') (b : Ext G' H' w' G'' H'' w'') : Ext G H w G'' H'' w'' where
  x := a.x.trans b.x
  os := b.os.trans a.os
  tape := b.tape.trans a.tape
  output := b.output.trans a.output
  size := Nat.le_trans a.size b.size
  frame k hk hn := by
    rw [b.frame k (Nat.lt_of_lt_of_le hk a.size), a.frame k hk hn]
    intro t ht he
    rcases Nat.lt_or_ge t G.c with h1 | h1
    · rw [a.x.m t h1] at he
      exact hn t (a.oldH t h1 ht) he
    · rcases a.newm t h1 (hH' t ht) with h2 | ⟨u, hu, h2⟩
      · omega
      · exact hn u hu (h2 ▸ he)
  newm t h1 h2 := by
    rcases Nat.lt_or_ge t G'.c with h3 | h3
    · rw [b.x.m t h3]; exact a.newm t h1 h3
    · rcases b.newm t h3 h2 with h4 | ⟨u, hu, h4⟩
      · exact .inl (Nat.le_trans a.size h4)
      · rcases Nat.lt_or_ge u G.c with h5 | h5
        · exact .inr ⟨u, a.oldH u h5 hu, by rw [h4, a.x.m u h5]⟩
        · rcases a.newm u h5 (hH' u hu) with h6 | ⟨y, hy, h6⟩
          · exact .inl (by omega)
          · exact .inr ⟨y, hy, h4.trans h6⟩
  oldH t h1 h2 := a.oldH t h1 (b.oldH t (Nat.lt_of_lt_of_le h1 a.x.c) h2)
  oldF t h1 h2 := by
    rcases b.oldF t (Nat.lt_of_lt_of_le h1 a.x.c) h2 with h3 | h3
    · exact a.oldF t h1 h3
    · exact .inr (a.oldH t h1 h3)

/-- What a call of function f gives, said over abstract values: Q of the result, of the objects behind the call, of the number of tags. -/
def Con (P : Program) (f : FuncId) (args : List AV) (H : List AObj) (c : Nat) (Q : AV → List AObj → Nat → Prop) : Prop :=
  ∀ (G : Gh) (w : World) (vs : Array Value), G.c = c → Inv G H w.heap → vs.size = args.length → (∀ (j : Nat) (a : AV), args[j]? = some a → Rep G w.heap (vs.getD j undef) a) →
    Calls P f vs w fun e w' => ∃ v res H' G', e = .returned v ∧ Q res H' G'.c ∧ Ext G H w G' H' w' ∧ Inv G' H' w'.heap ∧ Rep G' w'.heap v res

theorem Con.mono {P : Program} {f : FuncId} {args : List AV} {H : List AObj} {c : Nat} {Q Q' : AV → List AObj → Nat → Prop} (h : Con P f args H c Q)
    (hq : ∀ r H' c', c ≤ c' → Q r H' c' → Q' r H' c') : Con P f args H c Q' := by
  intro G w vs e I hs hr
  refine (h G w vs e I hs hr).mono fun en w' ⟨v, res, H', G', h1, h2, h3, h4⟩ => ⟨v, res, H', G', h1, hq _ _ _ (e ▸ h3.x.c) h2, h3, h4⟩

/-! ### What may be made of a memory -/

def upd {α : Type} (f : Nat → α) (i : Nat) (v : α) : Nat → α := fun j => if j = i then v else f j
@[simp] theorem upd_same {α : Type} (f : Nat → α) (i : Nat) (v : α) : upd f i v i = v := by simp [upd]
theorem upd_ne {α : Type} (f : Nat → α) (i : Nat) (v : α) {j : Nat} (h : j ≠ i) : upd f i v j = f j := by simp [upd, h]

/-- The ghost behind a new block. -/
def Gh.new (G : Gh) (b : Nat) : Gh := { m := upd G.m G.c b, c := G.c + 1, Fz := G.Fz }

theorem push_old {h : Array Obj} {o : Obj} {b : Nat} (hb : b < h.size) : (h.push o)[b]? = h[b]? := by
  rw [Array.getElem?_push, if_neg (by omega)]

theorem Ext1.push {G : Gh} {H : List AObj} {h : Array Obj} (I : Inv G H h) (o : Obj) (b : Nat) : Ext1 G h (G.new b) (h.push o) where
  c := by simp [Gh.new]
  m t ht := by simp [Gh.new, upd_ne _ _ _ (Nat.ne_of_lt ht)]
  F t _ hF := hF
  keep t ht hF := push_old (I.fz t hF).2
  shape b c e fr hb := by
    refine ⟨c, fr, ?_, rfl⟩
    rw [push_old]; exact hb
    rcases Nat.lt_or_ge b h.size with h1 | h1
    · exact h1
    · rw [Array.getElem?_eq_none h1] at hb; cases hb

theorem not_tag_c {G : Gh} {H : List AObj} {h : Array Obj} (I : Inv G H h) : G.c ∉ tags H := fun hm => absurd (I.lt hm) (by omega)

/-- A new block becomes an object of the state. -/
theorem Inv.push {G : Gh} {H : List AObj} {h : Array Obj} (I : Inv G H h) (o : Obj) (ob : AObj) (ht : ob.tag = G.c)
    (hob : ObjOk (G.new h.size) (h.push o) ob) : Inv (G.new h.size) (H ++ [ob]) (h.push o) := by
  have hsz : ∀ t, (G.Fz t ∨ t ∈ tags H) → t < G.c ∧ G.m t < h.size := fun t hl => hl.elim (I.fz t) (fun hm => by
    obtain ⟨o', ho', rfl⟩ := of_mem_tags hm
    exact ⟨(I.obj o' ho').c, (I.obj o' ho').block⟩)
  have hmem : ∀ t, t ∈ tags (H ++ [ob]) ↔ t ∈ tags H ∨ t = G.c := fun t => by simp [tags, ht]
  refine ⟨fun t hF => ?_, fun o' ho' => ?_, fun t hm hF => ?_, ?_, fun t t' h1 h2 he => ?_⟩
  · have hF' : G.Fz t := hF
    have := I.fz t hF'
    refine ⟨by simp [Gh.new]; omega, ?_⟩
    simp [Gh.new, upd_ne _ _ _ (Nat.ne_of_lt this.1)]; omega
  · rcases List.mem_append.1 ho' with h1 | h1
    · exact (I.obj o' h1).ext (Ext1.push I o _) (push_old (I.obj o' h1).block)
    · simp at h1; subst h1; exact hob
  · rcases (hmem t).1 hm with h1 | h1
    · exact I.nfz t h1 hF
    · subst h1; exact absurd (I.fz _ hF).1 (by omega)
  · have e : tags (H ++ [ob]) = tags H ++ [G.c] := by simp [tags, ht]
    rw [e, List.nodup_append]
    exact ⟨I.nodup, by simp, fun a ha b hb => by simp at hb; subst hb; exact fun e => absurd ha (e ▸ not_tag_c I)⟩
  · have key : ∀ t, ((G.new h.size).Fz t ∨ t ∈ tags (H ++ [ob])) → (G.Fz t ∨ t ∈ tags H) ∨ t = G.c := fun t hl => by
      rcases hl with h1 | h1
      · exact .inl (.inl h1)
      · rcases (hmem t).1 h1 with h1 | h1
        · exact .inl (.inr h1)
        · exact .inr h1
    rcases key t h1 with h1 | h1 <;> rcases key t' h2 with h2 | h2
    · simp [Gh.new, upd_ne _ _ _ (Nat.ne_of_lt (hsz t h1).1), upd_ne _ _ _ (Nat.ne_of_lt (hsz t' h2).1)] at he
      exact I.inj t t' h1 h2 he
    · subst h2
      have := hsz t h1
      simp [Gh.new, upd_ne _ _ _ (Nat.ne_of_lt this.1)] at he
      omega
    · subst h1
      have := hsz t' h2
      simp [Gh.new, upd_ne _ _ _ (Nat.ne_of_lt this.1)] at he
      omega
    · rw [h1, h2]

theorem Ext.push {G : Gh} {H : List AObj} {w : World} (I : Inv G H w.heap) (o : Obj) (ob : AObj) (ht : ob.tag = G.c) : Ext G H w (G.new w.heap.size) (H ++ [ob]) (w.alloc o) where
  x := Ext1.push I o _
  os := rfl
  tape := rfl
  output := rfl
  size := by simp
  frame b hb _ := push_old hb
  newm t h1 h2 := .inl (by
    have : t = G.c := by simp [Gh.new] at h2; omega
    subst this
    simp [Gh.new])
  oldH t h1 h2 := by
    have : t ∈ tags H ∨ t = G.c := by simpa [tags, ht] using h2
    rcases this with h3 | h3
    · exact h3
    · omega
  oldF t _ h2 := .inl h2
end A
end Go.Proofs.Ytfcimcoanlgldaa
