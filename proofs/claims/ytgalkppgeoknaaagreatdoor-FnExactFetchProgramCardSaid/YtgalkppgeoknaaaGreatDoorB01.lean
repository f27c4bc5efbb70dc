import Derived.WalkKit
import Derived.Lib.LaidTab
import Derived.Lib.ItoaNum

/-
  The package variables that the seat's functions may read: the blocks below NB, and what they hold: strconv's table of powers, its two errors. No condition.
-/
set_option linter.unusedVariables false
set_option linter.unusedSimpArgs false
namespace Go.Proofs.YtgalkppgeoknaaaGreatDoor
namespace A
def NB : Nat := 2 + 1
def GL (b : Nat) (o : Option Obj) : Prop :=
  (b = 0 → ∃ t fr,o = some (.cells (Go.Lib.pow10Tab.map fun z => Value.int .u64 z).toArray t fr)) ∧
  (b = 1 ∨ b = 2 → ∃ c t fr ev,o = some (.cells c t fr) ∧ c[0]? = some ev ∧ (ev = Value.nilIface ∨ ∃ te pe,ev = Value.iface te pe))
theorem gl_pow {o : Option Obj} (h : GL 0 o) : ∃ t fr,o = some (.cells (Go.Lib.pow10Tab.map fun z => Value.int .u64 z).toArray t fr) := h.1 rfl
theorem gl_err {b : Nat} {o : Option Obj} (hb : b = 1 ∨ b = 2) (h : GL b o) : ∃ c t fr ev,o = some (.cells c t fr) ∧ c[0]? = some ev ∧ (ev = Value.nilIface ∨ ∃ te pe,ev = Value.iface te pe) := h.2 hb
inductive AV where
  | int (k : IntKind) (n : Int)
  | bool (b : Bool)
  | str (s : List UInt8)
  | und
  | junk
  | nsl
  | nptr
  | slc (tag w : Nat) (rows : List (List AV))
  | ref (i tag w len : Nat)
  | ptr (i tag w row off : Nat)
  | cpt (cells : List AV) (off : Nat)
  | agg (cells : List AV)
  | tup (vs : List AV)
  | fn (f : Nat) (caps : List AV)
  | mref (i tag : Nat)
  | ifc (nil : Bool)
  | sub (i tag w off len : Nat)
  deriving Inhabited
structure AObj where
  mp : Bool
  tag : Nat
  w : Nat
  rows : List (List AV)
def mx : Nat := 9223372036854775807
def IOk (k : IntKind) (n : Int) : Prop := k.min ≤ n ∧ n ≤ k.max
def hcell (h : Array Obj) (b o : Nat) : Option Value :=
  match h[b]? with
  | some (.cells c _ _) => c[o]?
  | _ => none
theorem cell?_eq (w : World) (b o : Nat) : w.cell? ⟨b,o,none⟩ = hcell w.heap b o := by
  unfold World.cell? hcell
  cases w.heap[b]? with
  | none => rfl
  | some o => cases o <;> rfl
structure Gh where
  m : Nat → Nat
  c : Nat
  Fz : Nat → Prop
def AV.cell : AV → Bool
  | .agg _ | .tup _ | .und | .junk => false
  | _ => true
inductive Rep (G : Gh) (h : Array Obj) : Value → AV → Prop
  | int {k : IntKind} {n : Int} (hk : IOk k n) : Rep G h (.int k n) (.int k n)
  | bool {b : Bool} : Rep G h (.bool b) (.bool b)
  | str {s : ByteArray} {l : List UInt8} (e : s.data.toList = l) (hl : l.length ≤ mx) : Rep G h (.string s) (.str l)
  | und : Rep G h undef .und
  | junk {v : Value} : Rep G h v .junk
  | nsl : Rep G h (.slice none 0 0) .nsl
  | nptr : Rep G h (.pointer none) .nptr
  | slc0 {a : Option Addr} {cap tag w : Nat} : Rep G h (.slice a 0 cap) (.slc tag w [])
  | slc {tag w off cap : Nat} {rows : List (List AV)} (f : Nat → Nat → Value) (hF : G.Fz tag) (hc : tag < G.c) (hlen : rows.length ≤ mx) (hcap : rows.length ≤ cap)
      (hw : ∀ (r : Nat) (row : List AV),rows[r]? = some row → row.length = w)
      (hcell : ∀ (r o : Nat) (row : List AV) (a : AV),rows[r]? = some row → row[o]? = some a → hcell h (G.m tag) (off + r * w + o) = some (f r o))
      (hcl : ∀ (r o : Nat) (row : List AV) (a : AV),rows[r]? = some row → row[o]? = some a → a.cell = true)
      (hrep : ∀ (r o : Nat) (row : List AV) (a : AV),rows[r]? = some row → row[o]? = some a → Rep G h (f r o) a) :
      Rep G h (.slice (some ⟨G.m tag,off,none⟩) rows.length cap) (.slc tag w rows)
  | ref {i tag w len cap : Nat} {c : Array Value} {e : TypeId} {fr : Nat × Nat} (hc : tag < G.c) (hb : h[G.m tag]? = some (.cells c e fr))
      (h1 : cap * w ≤ c.size) (h2 : len ≤ cap) (h3 : cap ≤ mx) : Rep G h (.slice (some ⟨G.m tag,0,none⟩) len cap) (.ref i tag w len)
  | ptr {i tag w r o : Nat} (hc : tag < G.c) : Rep G h (.pointer (some ⟨G.m tag,r * w + o,none⟩)) (.ptr i tag w r o)
  | cpt {tag off o : Nat} {cells : List AV} (f : Nat → Value) (hF : G.Fz tag) (hc : tag < G.c)
      (hcell : ∀ (j : Nat) (a : AV),cells[j]? = some a → hcell h (G.m tag) (off + j) = some (f j))
      (hcl : ∀ (j : Nat) (a : AV),cells[j]? = some a → a.cell = true)
      (hrep : ∀ (j : Nat) (a : AV),cells[j]? = some a → Rep G h (f j) a) : Rep G h (.pointer (some ⟨G.m tag,off + o,none⟩)) (.cpt cells o)
  | agg {cs : Array Value} {cells : List AV} (hs : cs.size = cells.length) (hcl : ∀ (j : Nat) (a : AV),cells[j]? = some a → a.cell = true) (hr : ∀ (j : Nat) (a : AV),cells[j]? = some a → Rep G h (cs.getD j undef) a) : Rep G h (.agg cs) (.agg cells)
  | tup {cs : Array Value} {vs : List AV} (hs : cs.size = vs.length) (hr : ∀ (j : Nat) (a : AV),vs[j]? = some a → Rep G h (cs.getD j undef) a) : Rep G h (.tuple cs) (.tup vs)
  | fn {f : Nat} {cs : Array Value} {caps : List AV} (hs : cs.size = caps.length) (hr : ∀ (j : Nat) (a : AV),caps[j]? = some a → Rep G h (cs.getD j undef) a) :
      Rep G h (.func (.func f) #[] cs) (.fn f caps)
  | mref {i tag : Nat} (hc : tag < G.c) : Rep G h (.map (some (G.m tag))) (.mref i tag)
  | nilI : Rep G h .nilIface (.ifc true)
  | ifc {te : TypeId} {pe : Value} : Rep G h (.iface te pe) (.ifc false)
  | sub0 {a : Option Addr} {i tag w off cap : Nat} : Rep G h (.slice a 0 cap) (.sub i tag w off 0)
  | sub {i tag w off len cap : Nat} {c : Array Value} {e : TypeId} {fr : Nat × Nat} (hc : tag < G.c) (hb : h[G.m tag]? = some (.cells c e fr))
      (h1 : (off + cap) * w ≤ c.size) (h2 : len ≤ cap) (h3 : len ≤ mx) : Rep G h (.slice (some ⟨G.m tag,off * w,none⟩) len cap) (.sub i tag w off len)
structure Ext1 (G : Gh) (h : Array Obj) (G' : Gh) (h' : Array Obj) : Prop where
  c : G.c ≤ G'.c
  m : ∀ t,t < G.c → G'.m t = G.m t
  F : ∀ t,t < G.c → G.Fz t → G'.Fz t
  keep : ∀ t,t < G.c → G.Fz t → h'[G.m t]? = h[G.m t]?
  shape : ∀ (b : Nat) (c : Array Value) (e : TypeId) (fr : Nat × Nat),h[b]? = some (.cells c e fr) → ∃ (c' : Array Value) (fr' : Nat × Nat),h'[b]? = some (.cells c' e fr') ∧ c'.size = c.size
theorem Ext1.refl (G : Gh) (h : Array Obj) : Ext1 G h G h :=
  ⟨Nat.le_refl _,fun _ _ => rfl,fun _ _ x => x,fun _ _ _ => rfl,fun _ c _ fr hb => ⟨c,fr,hb,rfl⟩⟩
theorem Ext1.trans {G : Gh} {h : Array Obj} {G' : Gh} {h' : Array Obj} {G'' : Gh} {h'' : Array Obj} (a : Ext1 G h G' h') (b : Ext1 G' h' G'' h'') : Ext1 G h G'' h'' where
  c := Nat.le_trans a.c b.c
  m t ht := (b.m t (Nat.lt_of_lt_of_le ht a.c)).trans (a.m t ht)
  F t ht hF := b.F t (Nat.lt_of_lt_of_le ht a.c) (a.F t ht hF)
  keep t ht hF := by
    have := b.keep t (Nat.lt_of_lt_of_le ht a.c) (a.F t ht hF)
    rw [a.m t ht] at this
    exact this.trans (a.keep t ht hF)
  shape x c e fr hb := by
    obtain ⟨c',fr',h1,h2⟩ := a.shape x c e fr hb
    obtain ⟨c'',fr'',h3,h4⟩ := b.shape x c' e fr' h1
    exact ⟨c'',fr'',h3,h4.trans h2⟩
theorem hcell_congr {h h' : Array Obj} {b : Nat} (e : h'[b]? = h[b]?) (o : Nat) : hcell h' b o = hcell h b o := by simp [hcell,e]
theorem Rep.ext {G : Gh} {h : Array Obj} {G' : Gh} {h' : Array Obj} {v : Value} {a : AV} (r : Rep G h v a) (x : Ext1 G h G' h') : Rep G' h' v a := by
  induction r with
  | int hk => exact .int hk
  | bool => exact .bool
  | str e hl => exact .str e hl
  | und => exact .und
  | junk => exact .junk
  | nsl => exact .nsl
  | nptr => exact .nptr
  | slc0 => exact .slc0
  | slc f hF hc hlen hcap hw hcell hcl hrep ih =>
    rw [← x.m _ hc]
    refine .slc f (x.F _ hc hF) (Nat.lt_of_lt_of_le hc x.c) hlen hcap hw (fun r o row a h1 h2 => ?_) hcl ih
    rw [x.m _ hc,hcell_congr (x.keep _ hc hF)]
    exact hcell r o row a h1 h2
  | ref hc hb h1 h2 h3 =>
    obtain ⟨c',fr',hb',hs⟩ := x.shape _ _ _ _ hb
    rw [← x.m _ hc] at hb' ⊢
    exact .ref (Nat.lt_of_lt_of_le hc x.c) hb' (by omega) h2 h3
  | ptr hc => rw [← x.m _ hc]; exact .ptr (Nat.lt_of_lt_of_le hc x.c)
  | cpt f hF hc hcell hcl hrep ih =>
    rw [← x.m _ hc]
    refine .cpt f (x.F _ hc hF) (Nat.lt_of_lt_of_le hc x.c) (fun j a h1 => ?_) hcl ih
    rw [x.m _ hc,hcell_congr (x.keep _ hc hF)]
    exact hcell j a h1
  | agg hs hcl hr ih => exact .agg hs hcl ih
  | tup hs hr ih => exact .tup hs ih
  | fn hs hr ih => exact .fn hs ih
  | mref hc => rw [← x.m _ hc]; exact .mref (Nat.lt_of_lt_of_le hc x.c)
  | nilI => exact .nilI
  | ifc => exact .ifc
  | sub0 => exact .sub0
  | sub hc hb h1 h2 h3 =>
    obtain ⟨c',fr',hb',hs⟩ := x.shape _ _ _ _ hb
    rw [← x.m _ hc] at hb' ⊢
    exact .sub (Nat.lt_of_lt_of_le hc x.c) hb' (by omega) h2 h3
theorem Rep.oneCell {G : Gh} {h : Array Obj} {v : Value} {a : AV} (r : Rep G h v a) (hc : a.cell = true) : v.oneCell' = true := by
  cases r <;> first | rfl | cases hc
theorem Rep.cells_one {G : Gh} {h : Array Obj} {v : Value} {a : AV} (r : Rep G h v a) (hc : a.cell = true) : v.cells = #[v] := by
  cases r <;> first | rfl | cases hc
structure ObjOk (G : Gh) (h : Array Obj) (o : AObj) : Prop where
  c : o.tag < G.c
  lies : o.mp = false → ∃ (c : Array Value) (e : TypeId) (fr : Nat × Nat),h[G.m o.tag]? = some (.cells c e fr) ∧ (∀ i : Nat,i < c.size + (o.w - 1) → ¬ (fr.1 ≤ i ∧ i < fr.2)) ∧ o.rows.length * o.w ≤ c.size ∧ o.rows.length ≤ mx ∧
    (∀ (r : Nat) (row : List AV),o.rows[r]? = some row → row.length = o.w) ∧ ∀ (r j : Nat) (row : List AV) (a : AV),o.rows[r]? = some row → row[j]? = some a → ∃ v,c[r * o.w + j]? = some v ∧ a.cell = true ∧ Rep G h v a
  mlies : o.mp = true → ∃ (es : Array MapEntry) (clock : Nat),h[G.m o.tag]? = some (.map es clock) ∧ es.size = o.rows.length ∧ o.rows.length ≤ mx ∧
    ∀ (r : Nat) (row : List AV),o.rows[r]? = some row → ∃ (k v : AV) (en : MapEntry),row = [k,v] ∧ es[r]? = some en ∧ Rep G h en.key k ∧ Rep G h en.val v
theorem ObjOk.ext {G : Gh} {h : Array Obj} {G' : Gh} {h' : Array Obj} {o : AObj} (k : ObjOk G h o) (x : Ext1 G h G' h') (e : h'[G.m o.tag]? = h[G.m o.tag]?) : ObjOk G' h' o where
  c := Nat.lt_of_lt_of_le k.c x.c
  lies hm := by
    obtain ⟨c,t,fr,h1,h2,h3,h4,h5,h6⟩ := k.lies hm
    refine ⟨c,t,fr,by rw [x.m _ k.c,e,h1],h2,h3,h4,h5,fun r j row a ha hb => ?_⟩
    obtain ⟨v,hv,hc,hr⟩ := h6 r j row a ha hb
    exact ⟨v,hv,hc,hr.ext x⟩
  mlies hm := by
    obtain ⟨es,clock,h1,h2,h3,h4⟩ := k.mlies hm
    refine ⟨es,clock,by rw [x.m _ k.c,e,h1],h2,h3,fun r row hr => ?_⟩
    obtain ⟨k',v,en,e1,e2,r1,r2⟩ := h4 r row hr
    exact ⟨k',v,en,e1,e2,r1.ext x,r2.ext x⟩
def tags (H : List AObj) : List Nat := H.map (·.tag)
def Gl (G : Gh) (h : Array Obj) : Prop := ∀ b,b < NB → G.Fz b ∧ b < G.c ∧ G.m b = b ∧ GL b h[b]?
theorem Gl.ext {G G' : Gh} {h h' : Array Obj} (g : Gl G h) (x : Ext1 G h G' h') : Gl G' h' := fun b hb => by
  obtain ⟨h1,h2,h3,h4⟩ := g b hb
  have hk := x.keep b h2 h1
  rw [h3] at hk
  exact ⟨x.F b h2 h1,Nat.lt_of_lt_of_le h2 x.c,(x.m b h2).trans h3,hk ▸ h4⟩
structure Inv (G : Gh) (H : List AObj) (h : Array Obj) : Prop where
  fz : ∀ t,G.Fz t → t < G.c ∧ G.m t < h.size
  obj : ∀ o,o ∈ H → ObjOk G h o
  nfz : ∀ t,t ∈ tags H → ¬ G.Fz t
  nodup : (tags H).Nodup
  inj : ∀ t t',(G.Fz t ∨ t ∈ tags H) → (G.Fz t' ∨ t' ∈ tags H) → G.m t = G.m t' → t = t'
  gl : Gl G h
theorem mem_tags {H : List AObj} {o : AObj} (h : o ∈ H) : o.tag ∈ tags H := List.mem_map_of_mem h
theorem of_mem_tags {H : List AObj} {t : Nat} (h : t ∈ tags H) : ∃ o,o ∈ H ∧ o.tag = t := by simpa [tags] using h
theorem Inv.lt {G : Gh} {H : List AObj} {h : Array Obj} (I : Inv G H h) {t : Nat} (ht : t ∈ tags H) : t < G.c := by
  obtain ⟨o,ho,rfl⟩ := of_mem_tags ht
  exact (I.obj o ho).c
theorem ObjOk.block {G : Gh} {h : Array Obj} {o : AObj} (k : ObjOk G h o) : G.m o.tag < h.size := by
  rcases Nat.lt_or_ge (G.m o.tag) h.size with hl | hl
  · exact hl
  · cases hm : o.mp with
    | false => obtain ⟨c,t,fr,h1,_⟩ := k.lies hm; rw [Array.getElem?_eq_none hl] at h1; cases h1
    | true => obtain ⟨es,cl,h1,_⟩ := k.mlies hm; rw [Array.getElem?_eq_none hl] at h1; cases h1
structure Ext (G : Gh) (H : List AObj) (w : World) (G' : Gh) (H' : List AObj) (w' : World) : Prop where
  x : Ext1 G w.heap G' w'.heap
  os : w'.os = w.os
  tape : w'.tape = w.tape
  output : w'.output = w.output
  size : w.heap.size ≤ w'.heap.size
  frame : ∀ b,b < w.heap.size → (∀ t,t ∈ tags H → G.m t ≠ b) → w'.heap[b]? = w.heap[b]?
  newm : ∀ t,G.c ≤ t → t < G'.c → w.heap.size ≤ G'.m t ∨ ∃ u,u ∈ tags H ∧ G'.m t = G.m u
  oldH : ∀ t,t < G.c → t ∈ tags H' → t ∈ tags H
  oldF : ∀ t,t < G.c → G'.Fz t → G.Fz t ∨ t ∈ tags H
theorem Ext.refl (G : Gh) (H : List AObj) (w : World) : Ext G H w G H w :=
  ⟨Ext1.refl _ _,rfl,rfl,rfl,Nat.le_refl _,fun _ _ _ => rfl,fun t h1 h2 => absurd h2 (by omega),fun _ _ h => h,fun _ _ h => .inl h⟩
theorem Ext.trans {G : Gh} {H : List AObj} {w : World} {G' : Gh} {H' : List AObj} {w' : World} {G'' : Gh} {H'' : List AObj} {w'' : World}
    (hH : ∀ t,t ∈ tags H → t < G.c) (hH' : ∀ t,t ∈ tags H' → t < G'.c) (a : Ext G H w G' H' w') (b : Ext G' H' w' G'' H'' w'') : Ext G H w G'' H'' w'' where
  x := a.x.trans b.x
  os := b.os.trans a.os
  tape := b.tape.trans a.tape
  output := b.output.trans a.output
  size := Nat.le_trans a.size b.size
  frame k hk hn := by
    rw [b.frame k (Nat.lt_of_lt_of_le hk a.size),a.frame k hk hn]
    intro t ht he
    rcases Nat.lt_or_ge t G.c with h1 | h1
    · rw [a.x.m t h1] at he
      exact hn t (a.oldH t h1 ht) he
    · rcases a.newm t h1 (hH' t ht) with h2 | ⟨u,hu,h2⟩
      · omega
      · exact hn u hu (h2 ▸ he)
  newm t h1 h2 := by
    rcases Nat.lt_or_ge t G'.c with h3 | h3
    · rw [b.x.m t h3]; exact a.newm t h1 h3
    · rcases b.newm t h3 h2 with h4 | ⟨u,hu,h4⟩
      · exact .inl (Nat.le_trans a.size h4)
      · rcases Nat.lt_or_ge u G.c with h5 | h5
        · exact .inr ⟨u,a.oldH u h5 hu,by rw [h4,a.x.m u h5]⟩
        · rcases a.newm u h5 (hH' u hu) with h6 | ⟨y,hy,h6⟩
          · exact .inl (by omega)
          · exact .inr ⟨y,hy,h4.trans h6⟩
  oldH t h1 h2 := a.oldH t h1 (b.oldH t (Nat.lt_of_lt_of_le h1 a.x.c) h2)
  oldF t h1 h2 := by
    rcases b.oldF t (Nat.lt_of_lt_of_le h1 a.x.c) h2 with h3 | h3
    · exact a.oldF t h1 h3
    · exact .inr (a.oldH t h1 h3)
def Con (P : Program) (f : FuncId) (args : List AV) (H : List AObj) (c : Nat) (Q : AV → List AObj → Nat → Prop) : Prop :=
  ∀ (G : Gh) (w : World) (vs : Array Value),G.c = c → Inv G H w.heap → vs.size = args.length → (∀ (j : Nat) (a : AV),args[j]? = some a → Rep G w.heap (vs.getD j undef) a) →
    Calls P f vs w fun e w' => ∃ v res H' G',e = .returned v ∧ Q res H' G'.c ∧ Ext G H w G' H' w' ∧ Inv G' H' w'.heap ∧ Rep G' w'.heap v res
theorem Con.mono {P : Program} {f : FuncId} {args : List AV} {H : List AObj} {c : Nat} {Q Q' : AV → List AObj → Nat → Prop} (h : Con P f args H c Q)
    (hq : ∀ r H' c',c ≤ c' → Q r H' c' → Q' r H' c') : Con P f args H c Q' := by
  intro G w vs e I hs hr
  refine (h G w vs e I hs hr).mono fun en w' ⟨v,res,H',G',h1,h2,h3,h4⟩ => ⟨v,res,H',G',h1,hq _ _ _ (e ▸ h3.x.c) h2,h3,h4⟩
def upd {α : Type} (f : Nat → α) (i : Nat) (v : α) : Nat → α := fun j => if j = i then v else f j
@[simp] theorem upd_same {α : Type} (f : Nat → α) (i : Nat) (v : α) : upd f i v i = v := by simp [upd]
theorem upd_ne {α : Type} (f : Nat → α) (i : Nat) (v : α) {j : Nat} (h : j ≠ i) : upd f i v j = f j := by simp [upd,h]
def Gh.new (G : Gh) (b : Nat) : Gh := { m := upd G.m G.c b,c := G.c + 1,Fz := G.Fz }
theorem push_old {h : Array Obj} {o : Obj} {b : Nat} (hb : b < h.size) : (h.push o)[b]? = h[b]? := by
  rw [Array.getElem?_push,if_neg (by omega)]
theorem Ext1.push {G : Gh} {H : List AObj} {h : Array Obj} (I : Inv G H h) (o : Obj) (b : Nat) : Ext1 G h (G.new b) (h.push o) where
  c := by simp [Gh.new]
  m t ht := by simp [Gh.new,upd_ne _ _ _ (Nat.ne_of_lt ht)]
  F t _ hF := hF
  keep t ht hF := push_old (I.fz t hF).2
  shape b c e fr hb := by
    refine ⟨c,fr,?_,rfl⟩
    rw [push_old]; exact hb
    rcases Nat.lt_or_ge b h.size with h1 | h1
    · exact h1
    · rw [Array.getElem?_eq_none h1] at hb; cases hb
theorem not_tag_c {G : Gh} {H : List AObj} {h : Array Obj} (I : Inv G H h) : G.c ∉ tags H := fun hm => absurd (I.lt hm) (by omega)
theorem Inv.push {G : Gh} {H : List AObj} {h : Array Obj} (I : Inv G H h) (o : Obj) (ob : AObj) (ht : ob.tag = G.c)
    (hob : ObjOk (G.new h.size) (h.push o) ob) : Inv (G.new h.size) (H ++ [ob]) (h.push o) := by
  have hsz : ∀ t,(G.Fz t ∨ t ∈ tags H) → t < G.c ∧ G.m t < h.size := fun t hl => hl.elim (I.fz t) (fun hm => by
    obtain ⟨o',ho',rfl⟩ := of_mem_tags hm
    exact ⟨(I.obj o' ho').c,(I.obj o' ho').block⟩)
  have hmem : ∀ t,t ∈ tags (H ++ [ob]) ↔ t ∈ tags H ∨ t = G.c := fun t => by simp [tags,ht]
  refine ⟨fun t hF => ?_,fun o' ho' => ?_,fun t hm hF => ?_,?_,fun t t' h1 h2 he => ?_,I.gl.ext (Ext1.push I o _)⟩
  · have hF' : G.Fz t := hF
    have := I.fz t hF'
    refine ⟨by simp [Gh.new]; omega,?_⟩
    simp [Gh.new,upd_ne _ _ _ (Nat.ne_of_lt this.1)]; omega
  · rcases List.mem_append.1 ho' with h1 | h1
    · exact (I.obj o' h1).ext (Ext1.push I o _) (push_old (I.obj o' h1).block)
    · simp at h1; subst h1; exact hob
  · rcases (hmem t).1 hm with h1 | h1
    · exact I.nfz t h1 hF
    · subst h1; exact absurd (I.fz _ hF).1 (by omega)
  · have e : tags (H ++ [ob]) = tags H ++ [G.c] := by simp [tags,ht]
    rw [e,List.nodup_append]
    exact ⟨I.nodup,by simp,fun a ha b hb => by simp at hb; subst hb; exact fun e => absurd ha (e ▸ not_tag_c I)⟩
  · have key : ∀ t,((G.new h.size).Fz t ∨ t ∈ tags (H ++ [ob])) → (G.Fz t ∨ t ∈ tags H) ∨ t = G.c := fun t hl => by
      rcases hl with h1 | h1
      · exact .inl (.inl h1)
      · rcases (hmem t).1 h1 with h1 | h1
        · exact .inl (.inr h1)
        · exact .inr h1
    rcases key t h1 with h1 | h1 <;> rcases key t' h2 with h2 | h2
    · simp [Gh.new,upd_ne _ _ _ (Nat.ne_of_lt (hsz t h1).1),upd_ne _ _ _ (Nat.ne_of_lt (hsz t' h2).1)] at he
      exact I.inj t t' h1 h2 he
    · subst h2
      have := hsz t h1
      simp [Gh.new,upd_ne _ _ _ (Nat.ne_of_lt this.1)] at he
      omega
    · subst h1
      have := hsz t' h2
      simp [Gh.new,upd_ne _ _ _ (Nat.ne_of_lt this.1)] at he
      omega
    · rw [h1,h2]
theorem Ext.push {G : Gh} {H : List AObj} {w : World} (I : Inv G H w.heap) (o : Obj) (ob : AObj) (ht : ob.tag = G.c) : Ext G H w (G.new w.heap.size) (H ++ [ob]) (w.alloc o) where
  x := Ext1.push I o _
  os := rfl
  tape := rfl
  output := rfl
  size := by simp
  frame b hb _ := push_old hb
  newm t h1 h2 := .inl (by
    have : t = G.c := by simp [Gh.new] at h2; omega
    subst this
    simp [Gh.new])
  oldH t h1 h2 := by
    have : t ∈ tags H ∨ t = G.c := by simpa [tags,ht] using h2
    rcases this with h3 | h3
    · exact h3
    · omega
  oldF t _ h2 := .inl h2
def putCells (c : Array Value) (p : Nat) : List Value → Array Value
  | [] => c
  | v :: vs => putCells (c.setIfInBounds p v) (p + 1) vs
theorem putCells_size (vs : List Value) : ∀ (c : Array Value) (p : Nat),(putCells c p vs).size = c.size := by
  induction vs with
  | nil => intro c p; rfl
  | cons v vs ih => intro c p; simp [putCells,ih]
theorem putCells_out (vs : List Value) : ∀ (c : Array Value) (p j : Nat),(j < p ∨ p + vs.length ≤ j) → (putCells c p vs)[j]? = c[j]? := by
  induction vs with
  | nil => intro c p j _; rfl
  | cons v vs ih =>
    intro c p j h
    simp only [putCells]
    rw [ih _ _ _ (by simp at h; omega),Array.getElem?_setIfInBounds_ne (by simp at h; omega)]
theorem putCells_in (vs : List Value) : ∀ (c : Array Value) (p j : Nat) (v : Value),p + vs.length ≤ c.size → vs[j]? = some v → (putCells c p vs)[p + j]? = some v := by
  induction vs with
  | nil => intro c p j v _ h; simp at h
  | cons u vs ih =>
    intro c p j v h hv
    simp only [putCells]
    cases j with
    | zero =>
      simp at hv; subst hv
      rw [putCells_out _ _ _ _ (by omega)]
      simp at h
      rw [Array.getElem?_setIfInBounds]
      simp; omega
    | succ j =>
      have e : p + (j + 1) = p + 1 + j := by omega
      rw [e]
      exact ih _ _ _ _ (by simp at h ⊢; omega) (by simpa using hv)
def wset (w : World) (x : Nat) (o : Obj) : World := { w with heap := w.heap.setIfInBounds x o }
theorem wset_get (w : World) (x y : Nat) (o : Obj) : (wset w x o).heap[y]? = if y = x then (if x < w.heap.size then some o else none) else w.heap[y]? := by
  simp only [wset]
  by_cases h : y = x
  · subst h; simp [Array.getElem?_setIfInBounds]
  · rw [if_neg h,Array.getElem?_setIfInBounds_ne (Ne.symm h)]
theorem wset_wset (w : World) (x : Nat) (o o' : Obj) : wset (wset w x o) x o' = wset w x o' := by
  simp [wset]
theorem lt_of_get {h : Array Obj} {x : Nat} {o : Obj} (e : h[x]? = some o) : x < h.size := by
  rcases Nat.lt_or_ge x h.size with hl | hl
  · exact hl
  · rw [Array.getElem?_eq_none hl] at e; cases e
theorem setCell_eq {w : World} {x p : Nat} {c : Array Value} {t : TypeId} {fr : Nat × Nat} (hb : w.heap[x]? = some (.cells c t fr)) (v : Value) :
    w.setCell ⟨x,p,none⟩ v = wset w x (.cells (c.setIfInBounds p v) t fr) := by
  have hx := lt_of_get hb
  unfold World.setCell wset
  congr 1
  apply Array.ext_getElem?
  intro i
  rw [Array.getElem?_modify,Array.getElem?_setIfInBounds]
  by_cases h : x = i
  · subst h; rw [hb,if_pos rfl,if_pos rfl,if_pos hx]; rfl
  · simp [h]
theorem frozen_false {w : World} {x p : Nat} {c : Array Value} {t : TypeId} {fr : Nat × Nat} (hb : w.heap[x]? = some (.cells c t fr)) (hf : ¬ (fr.1 ≤ p ∧ p < fr.2)) :
    w.frozen? ⟨x,p,none⟩ = false := by
  obtain ⟨lo,hi⟩ := fr
  simp only [World.frozen?,hb]
  simpa using hf
theorem addr_add (x p n : Nat) : (⟨x,p,none⟩ : Addr).add n = ⟨x,p + n,none⟩ := by
  unfold Addr.add
  split
  · rename_i h; subst h; rfl
  · rfl
theorem run_storeCells (P : Program) (x p : Nat) (t : TypeId) (fr : Nat × Nat) : ∀ (vs : List Value) (i : Nat) (w : World) (c : Array Value),
    w.heap[x]? = some (.cells c t fr) → (∀ j,j < c.size → ¬ (fr.1 ≤ j ∧ j < fr.2)) → p + i + vs.length ≤ c.size → (∀ v,v ∈ vs → v.oneCell' = true) →
    (storeCells ⟨x,p,none⟩ vs i).run P w = .ok () (wset w x (.cells (putCells c (p + i) vs) t fr)) := by
  intro vs
  induction vs with
  | nil =>
    intro i w c hb _ _ _
    simp only [storeCells,Sem.run_pure,putCells]
    have hx := lt_of_get hb
    have : w = wset w x (.cells c t fr) := by
      unfold wset
      have : w.heap = w.heap.setIfInBounds x (.cells c t fr) := by
        apply Array.ext_getElem?
        intro i
        rw [Array.getElem?_setIfInBounds]
        by_cases h : x = i
        · subst h; rw [hb,if_pos rfl,if_pos hx]
        · simp [h]
      rw [← this]
    rw [← this]
  | cons v vs ih =>
    intro i w c hb hfr hl hv
    have hp : p + i < c.size := by simp at hl; omega
    have hcell : w.cell? ⟨x,p + i,none⟩ = some (c[p + i]) := by
      rw [cell?_eq]; simp [hcell,hb,hp]
    simp only [storeCells,addr_add,Sem.run_bind,run_store P w _ v .plain (hv v (by simp)),hcell,frozen_false hb (hfr _ hp),Bool.false_eq_true,if_false,Result.andThen_ok]
    rw [setCell_eq hb]
    have hb' : (wset w x (.cells (c.setIfInBounds (p + i) v) t fr)).heap[x]? = some (.cells (c.setIfInBounds (p + i) v) t fr) := by
      rw [wset_get]; simp [lt_of_get hb]
    rw [ih (i + 1) _ _ hb' (by simpa using hfr) (by simp at hl ⊢; omega) (fun u hu => hv u (by simp [hu]))]
    rw [wset_wset]
    rfl
theorem run_loadCellsFrom (P : Program) (w : World) (x p : Nat) (f : Nat → Value) : ∀ (n i : Nat) (acc : Array Value),(∀ j,i ≤ j → j < i + n → hcell w.heap x (p + j) = some (f j)) →
    (loadCellsFrom ⟨x,p,none⟩ i n acc).run P w = .ok (acc ++ ((List.range' i n).map f).toArray) w := by
  intro n
  induction n with
  | zero => intro i acc _; simp [loadCellsFrom]
  | succ n ih =>
    intro i acc h
    have h0 : w.cell? ⟨x,p + i,none⟩ = some (f i) := by rw [cell?_eq]; exact h i (Nat.le_refl _) (by omega)
    simp only [loadCellsFrom,addr_add,Sem.run_bind,run_load,h0,Result.andThen_ok]
    rw [ih (i + 1) _ (fun j h1 h2 => h j (by omega) (by omega))]
    simp [List.range'_succ]
theorem run_loadCells (P : Program) (w : World) (x p n : Nat) (f : Nat → Value) (h : ∀ j,j < n → hcell w.heap x (p + j) = some (f j)) :
    (loadCells ⟨x,p,none⟩ n).run P w = .ok ((List.range n).map f).toArray w := by
  unfold loadCells
  rw [run_loadCellsFrom P w x p f n 0 #[] (fun j _ h2 => h j (by omega))]
  simp [List.range_eq_range']
theorem run_loadCell (P : Program) (w : World) (x p : Nat) (v : Value) (h : hcell w.heap x p = some v) : (load ⟨x,p,none⟩).run P w = .ok v w := by
  have h0 : w.cell? ⟨x,p,none⟩ = some v := by rw [cell?_eq]; exact h
  simp only [run_load,h0]
theorem Ext1.write {G : Gh} {h : Array Obj} {x : Nat} {o : Obj} (hn : ∀ t,G.Fz t → G.m t ≠ x) (hs : ∀ c e fr,h[x]? = some (.cells c e fr) → ∃ c' fr',o = .cells c' e fr' ∧ c'.size = c.size) :
    Ext1 G h G (h.setIfInBounds x o) where
  c := Nat.le_refl _
  m _ _ := rfl
  F _ _ hF := hF
  keep t _ hF := Array.getElem?_setIfInBounds_ne (Ne.symm (hn t hF))
  shape b c e fr hb := by
    by_cases hx : b = x
    · subst hx
      obtain ⟨c',fr',rfl,h2⟩ := hs c e fr hb
      exact ⟨c',fr',by simp [lt_of_get hb],h2⟩
    · exact ⟨c,fr,by rw [Array.getElem?_setIfInBounds_ne (Ne.symm hx)]; exact hb,rfl⟩
theorem tags_set {H : List AObj} {i : Nat} {ob ob' : AObj} (hi : H[i]? = some ob) (ht : ob'.tag = ob.tag) : tags (H.set i ob') = tags H := by
  unfold tags
  rw [List.map_set,ht]
  apply List.ext_getElem?
  intro j
  rw [List.getElem?_set]
  by_cases h : i = j
  · subst h
    obtain ⟨hl,he⟩ := List.getElem?_eq_some_iff.1 hi
    simp [hl,he]
  · simp [h]
theorem nodup_get {l : List Nat} (hn : l.Nodup) {i j x : Nat} (hi : l[i]? = some x) (hj : l[j]? = some x) : i = j := by
  obtain ⟨h1,e1⟩ := List.getElem?_eq_some_iff.1 hi
  obtain ⟨h2,e2⟩ := List.getElem?_eq_some_iff.1 hj
  rcases Nat.lt_trichotomy i j with h | h | h
  · exact absurd (e1.trans e2.symm) (List.pairwise_iff_getElem.1 hn i j h1 h2 h)
  · exact h
  · exact absurd (e2.trans e1.symm) (List.pairwise_iff_getElem.1 hn j i h2 h1 h)
theorem mem_set {H : List AObj} {i : Nat} {ob ob' o : AObj} (hn : (tags H).Nodup) (hi : H[i]? = some ob) (ho : o ∈ H.set i ob') : o = ob' ∨ (o ∈ H ∧ o.tag ≠ ob.tag) := by
  rw [List.mem_iff_getElem?] at ho
  obtain ⟨j,hj⟩ := ho
  rw [List.getElem?_set] at hj
  by_cases h : i = j
  · subst h
    rw [if_pos rfl] at hj
    split at hj
    · exact .inl (Option.some.inj hj).symm
    · cases hj
  · rw [if_neg h] at hj
    refine .inr ⟨List.mem_of_getElem? hj,fun e => h ?_⟩
    have h1 : (tags H)[i]? = some ob.tag := by simp [tags,hi]
    have h2 : (tags H)[j]? = some ob.tag := by simp [tags,hj,e]
    exact nodup_get hn h1 h2
theorem Inv.nfz_m {G : Gh} {H : List AObj} {h : Array Obj} (I : Inv G H h) {t u : Nat} (ht : t ∈ tags H) (hF : G.Fz u) : G.m u ≠ G.m t := fun e =>
  I.nfz t ht (I.inj u t (.inl hF) (.inr ht) e ▸ hF)
theorem Inv.write {G : Gh} {H : List AObj} {h : Array Obj} (I : Inv G H h) {i : Nat} {ob ob' : AObj} (hi : H[i]? = some ob) (ht : ob'.tag = ob.tag) {o : Obj}
    (hs : ∀ c e fr,h[G.m ob.tag]? = some (.cells c e fr) → ∃ c' fr',o = .cells c' e fr' ∧ c'.size = c.size) (hob : ObjOk G (h.setIfInBounds (G.m ob.tag) o) ob') :
    Ext1 G h G (h.setIfInBounds (G.m ob.tag) o) ∧ Inv G (H.set i ob') (h.setIfInBounds (G.m ob.tag) o) := by
  have hmem : ob ∈ H := List.mem_of_getElem? hi
  have x : Ext1 G h G (h.setIfInBounds (G.m ob.tag) o) := Ext1.write (fun u hF => I.nfz_m (mem_tags hmem) hF) hs
  refine ⟨x,fun t hF => ?_,fun o' ho' => ?_,fun t hm => ?_,?_,fun t t' h1 h2 => ?_,I.gl.ext x⟩
  · simpa using I.fz t hF
  · rcases mem_set I.nodup hi ho' with rfl | ⟨h1,h2⟩
    · exact hob
    · refine (I.obj o' h1).ext x (Array.getElem?_setIfInBounds_ne fun e => h2 ?_)
      exact (I.inj _ _ (.inr (mem_tags hmem)) (.inr (mem_tags h1)) e).symm
  · rw [tags_set hi ht] at hm; exact I.nfz t hm
  · rw [tags_set hi ht]; exact I.nodup
  · rw [tags_set hi ht] at h1 h2; exact I.inj t t' h1 h2
theorem Ext.write {G : Gh} {H : List AObj} {w : World} (I : Inv G H w.heap) {i : Nat} {ob ob' : AObj} (hi : H[i]? = some ob) (ht : ob'.tag = ob.tag) {o : Obj}
    (x : Ext1 G w.heap G (w.heap.setIfInBounds (G.m ob.tag) o)) : Ext G H w G (H.set i ob') (wset w (G.m ob.tag) o) where
  x := x
  os := rfl
  tape := rfl
  output := rfl
  size := by simp [wset]
  frame b hb hn := Array.getElem?_setIfInBounds_ne (hn _ (mem_tags (List.mem_of_getElem? hi)))
  newm t h1 h2 := absurd h2 (by omega)
  oldH t _ h2 := by rw [tags_set hi ht] at h2; exact h2
  oldF t _ h2 := .inl h2
theorem mem_tags_set {H : List AObj} {i : Nat} {ob ob' : AObj} (hn : (tags H).Nodup) (hi : H[i]? = some ob) {t : Nat} (h : t ∈ tags (H.set i ob')) : t = ob'.tag ∨ (t ∈ tags H ∧ t ≠ ob.tag) := by
  obtain ⟨o,ho,rfl⟩ := of_mem_tags h
  rcases mem_set hn hi ho with rfl | ⟨h1,h2⟩
  · exact .inl rfl
  · exact .inr ⟨mem_tags h1,h2⟩
theorem nodup_tags_set {H : List AObj} {i : Nat} {ob ob' : AObj} (hn : (tags H).Nodup) (hi : H[i]? = some ob) (hf : ob'.tag ∉ tags H) : (tags (H.set i ob')).Nodup := by
  have e : tags (H.set i ob') = (tags H).set i ob'.tag := by simp [tags,List.map_set]
  rw [e]
  refine List.pairwise_iff_getElem.2 fun a b ha hb hab => ?_
  have hne : ∀ j (h : j < (tags H).length),(tags H)[j] ≠ ob'.tag := fun j h e => hf (e ▸ List.getElem_mem h)
  simp only [List.getElem_set]
  split
  · rename_i h; subst h
    rw [if_neg (by omega)]
    exact fun e => hne b (by simpa using hb) e.symm
  · split
    · exact hne a (by simpa using ha)
    · exact List.pairwise_iff_getElem.1 hn a b (by simpa using ha) (by simpa using hb) hab
theorem Inv.grow {G : Gh} {H : List AObj} {h h' : Array Obj} (I : Inv G H h) {i : Nat} {ob ob' : AObj} (hi : H[i]? = some ob) (ht : ob'.tag = G.c) {b : Nat} (hb : b < h'.size)
    (hb' : b = G.m ob.tag ∨ h.size ≤ b) (x : Ext1 G h (G.new b) h') (hfr : ∀ t,t ∈ tags H → t ≠ ob.tag → h'[G.m t]? = h[G.m t]?) (hsz : h.size ≤ h'.size)
    (hob : ObjOk (G.new b) h' ob') : Inv (G.new b) (H.set i ob') h' := by
  have hmem : ob ∈ H := List.mem_of_getElem? hi
  have hc := not_tag_c I
  have hm : ∀ t,t < G.c → (G.new b).m t = G.m t := fun t h => by simp [Gh.new,upd_ne _ _ _ (Nat.ne_of_lt h)]
  have hmc : (G.new b).m G.c = b := by simp [Gh.new]
  refine ⟨fun t hF => ?_,fun o' ho' => ?_,fun t hm' hF => ?_,?_,fun t t' h1 h2 he => ?_,I.gl.ext x⟩
  · have := I.fz t hF
    refine ⟨by simp [Gh.new]; omega,?_⟩
    rw [hm t this.1]; omega
  · rcases mem_set I.nodup hi ho' with rfl | ⟨h1,h2⟩
    · exact hob
    · exact (I.obj o' h1).ext x (hfr _ (mem_tags h1) h2)
  · rcases mem_tags_set I.nodup hi hm' with h1 | ⟨h1,_⟩
    · rw [ht] at h1; subst h1; exact absurd (I.fz _ hF).1 (by omega)
    · exact I.nfz t h1 hF
  · exact nodup_tags_set I.nodup hi (ht ▸ hc)
  · have key : ∀ t,((G.new b).Fz t ∨ t ∈ tags (H.set i ob')) → ((G.Fz t ∨ t ∈ tags H) ∧ t < G.c ∧ t ≠ ob.tag ∧ G.m t < h.size) ∨ t = G.c := fun t hl => by
      rcases hl with h1 | h1
      · refine .inl ⟨.inl h1,(I.fz t h1).1,fun e => I.nfz _ (mem_tags hmem) (e ▸ h1),(I.fz t h1).2⟩
      · rcases mem_tags_set I.nodup hi h1 with h1 | ⟨h1,h2⟩
        · exact .inr (h1.trans ht)
        · obtain ⟨o',ho',rfl⟩ := of_mem_tags h1
          exact .inl ⟨.inr h1,(I.obj o' ho').c,h2,(I.obj o' ho').block⟩
    rcases key t h1 with ⟨l1,c1,n1,s1⟩ | h1 <;> rcases key t' h2 with ⟨l2,c2,n2,s2⟩ | h2
    · rw [hm t c1,hm t' c2] at he; exact I.inj t t' l1 l2 he
    · subst h2; rw [hm t c1,hmc] at he
      rcases hb' with e | e
      · exact absurd (I.inj t ob.tag l1 (.inr (mem_tags hmem)) (he.trans e)) n1
      · omega
    · subst h1; rw [hm t' c2,hmc] at he
      rcases hb' with e | e
      · exact absurd (I.inj t' ob.tag l2 (.inr (mem_tags hmem)) (he.symm.trans e)) n2
      · omega
    · rw [h1,h2]
theorem Ext.grow {G : Gh} {H : List AObj} {w w' : World} (I : Inv G H w.heap) {i : Nat} {ob ob' : AObj} (hi : H[i]? = some ob) (ht : ob'.tag = G.c) {b : Nat}
    (hb' : b = G.m ob.tag ∨ w.heap.size ≤ b) (x : Ext1 G w.heap (G.new b) w'.heap) (hos : w'.os = w.os) (htape : w'.tape = w.tape) (hout : w'.output = w.output) (hsz : w.heap.size ≤ w'.heap.size)
    (hfr : ∀ k,k < w.heap.size → k ≠ G.m ob.tag → w'.heap[k]? = w.heap[k]?) : Ext G H w (G.new b) (H.set i ob') w' where
  x := x
  os := hos
  tape := htape
  output := hout
  size := hsz
  frame k hk hn := hfr k hk fun e => hn _ (mem_tags (List.mem_of_getElem? hi)) e.symm
  newm t h1 h2 := by
    have : t = G.c := by simp [Gh.new] at h2; omega
    subst this
    rcases hb' with e | e
    · exact .inr ⟨ob.tag,mem_tags (List.mem_of_getElem? hi),by simp [Gh.new,e]⟩
    · exact .inl (by simpa [Gh.new] using e)
  oldH t h1 h2 := by
    rcases mem_tags_set I.nodup hi h2 with h3 | ⟨h3,_⟩
    · omega
    · exact h3
  oldF t _ h2 := .inl h2
theorem Inv.drop {G : Gh} {H H' : List AObj} {h : Array Obj} (I : Inv G H h) (hs : H'.Sublist H) : Inv G H' h where
  fz := I.fz
  obj o ho := I.obj o (hs.subset ho)
  nfz t ht := I.nfz t ((hs.map _).subset ht)
  nodup := List.Nodup.sublist (hs.map _) I.nodup
  inj t t' h1 h2 := I.inj t t' (h1.imp id ((hs.map _).subset ·)) (h2.imp id ((hs.map _).subset ·))
  gl := I.gl
theorem Ext.drop {G G' : Gh} {H H' H'' : List AObj} {w w' : World} (x : Ext G H w G' H' w') (hs : H''.Sublist H') : Ext G H w G' H'' w' :=
  { x with oldH := fun t h1 h2 => x.oldH t h1 ((hs.map _).subset h2) }
def Gh.freeze (G : Gh) (S : List AObj) : Gh := { G with Fz := fun t => G.Fz t ∨ t ∈ tags S }
theorem Ext1.freeze (G : Gh) (S : List AObj) (h : Array Obj) : Ext1 G h (G.freeze S) h :=
  ⟨Nat.le_refl _,fun _ _ => rfl,fun _ _ x => .inl x,fun _ _ _ => rfl,fun _ c _ fr hb => ⟨c,fr,hb,rfl⟩⟩
theorem ObjOk.freeze {G : Gh} {h : Array Obj} {o : AObj} (k : ObjOk G h o) (S : List AObj) : ObjOk (G.freeze S) h o := k.ext (Ext1.freeze G S h) rfl
theorem Inv.freeze {G : Gh} {H H1 S : List AObj} {h : Array Obj} (I : Inv G H h) (h1 : H1.Sublist H) (h2 : ∀ o,o ∈ S → o ∈ H) (hd : ∀ t,t ∈ tags H1 → t ∉ tags S) : Inv (G.freeze S) H1 h where
  fz t hF := by
    rcases hF with hF | hF
    · exact I.fz t hF
    · obtain ⟨o,ho,rfl⟩ := of_mem_tags hF
      exact ⟨(I.obj o (h2 o ho)).c,(I.obj o (h2 o ho)).block⟩
  obj o ho := (I.obj o (h1.subset ho)).freeze S
  nfz t ht hF := by
    rcases hF with hF | hF
    · exact I.nfz t ((h1.map _).subset ht) hF
    · exact hd t ht hF
  nodup := List.Nodup.sublist (h1.map _) I.nodup
  inj t t' a b := by
    have key : ∀ t,((G.freeze S).Fz t ∨ t ∈ tags H1) → (G.Fz t ∨ t ∈ tags H) := fun t hl => by
      rcases hl with (hl | hl) | hl
      · exact .inl hl
      · obtain ⟨o,ho,rfl⟩ := of_mem_tags hl
        exact .inr (mem_tags (h2 o ho))
      · exact .inr ((h1.map _).subset hl)
    exact I.inj t t' (key t a) (key t' b)
  gl := I.gl.ext (Ext1.freeze G S h)
abbrev Env := Nat → AV
inductive Opd where
  | t (n : Nat)
  | c (v : AV)
  deriving Inhabited
def ev (e : Env) : Opd → AV
  | .t n => e n
  | .c v => v
inductive IOp where
  | mv (x : Opd)
  | pick (c a b : Opd)
  | new (w : Nat) (zero : List AV)
  | box (w : Nat) (x : Opd)
  | build (zero : List AV) (parts : List (Nat × Nat × Opd))
  | bslice (w : Nat) (zero : List AV) (len : Nat) (parts : List (Nat × Opd))
  | load (ag : Option Nat) (x : Opd)
  | store (n : Nat) (a x : Opd)
  | nilck (x : Opd)
  | bin (op : BinOp) (x y : Opd)
  | binb (op : BinOp) (x y : Opd)
  | beq (neg : Bool) (ks : List Nat) (x y : Opd)
  | un (op : UnOp) (x : Opd)
  | toInt (k : IntKind) (x : Opd)
  | toStr (x : Opd)
  | toBytes (x : Opd)
  | mkfn (f : Nat) (caps : List Opd)
  | mkmap
  | mkslice (w : Nat) (zero : List AV) (bytes : Nat) (l c : Opd)
  | sliceS (x : Opd) (lo hi : Option Opd)
  | slice (w : Nat) (x : Opd) (lo hi : Option Opd)
  | slice3 (w : Nat) (x h m : Opd)
  | faddr (off : Nat) (x : Opd)
  | field (off : Nat) (ag : Option Nat) (x : Opd)
  | iaddr (w : Nat) (x i : Opd)
  | index (x i : Opd)
  | lookup (d : Nat) (zero : AV) (ok : Bool) (m k : Opd)
  | mupd (d : Nat) (m k v : Opd)
  | lenS (x : Opd)
  | lenL (x : Opd)
  | lenM (x : Opd)
  | append (w bytes : Nat) (x y : Opd)
  | extract (x : Opd) (i : Nat)
  | call (f : Nat) (args : List Opd)
  | callv (x : Opd) (args : List Opd)
  | callF (f : Nat) (args : List Opd)
  | isnl (neg : Bool) (x : Opd)
  | isni (neg : Bool) (x : Opd)
  | loadC (ag : Option Nat) (x : Opd)
  | chk (ag : Option Nat) (x y : Opd)
  deriving Inhabited
def constAV : Value → Option AV
  | .int k n => if k.min ≤ n ∧ n ≤ k.max then some (.int k n) else none
  | .bool b => some (.bool b)
  | .string s => if s.data.toList.length ≤ mx then some (.str s.data.toList) else none
  | .slice none 0 0 => some .nsl
  | .pointer none => some .nptr
  | .nilIface => some (.ifc true)
  | _ => none
theorem constAV_rep {v : Value} {a : AV} (h : constAV v = some a) (G : Gh) (hp : Array Obj) : Rep G hp v a := by
  unfold constAV at h
  split at h
  · split at h
    · cases h; rename_i hk; exact .int hk
    · cases h
  · cases h; exact .bool
  · split at h
    · cases h; rename_i hk; exact .str rfl hk
    · cases h
  · cases h; exact .nsl
  · cases h; exact .nptr
  · cases h; exact .nilI
  · cases h
theorem constAV_cell {v : Value} {a : AV} (h : constAV v = some a) : a.cell = true := by
  unfold constAV at h
  split at h <;> (try split at h) <;> cases h <;> rfl
def constOp : Value → Option AV
  | .agg cs => (cs.toList.mapM constAV).map .agg
  | v => constAV v
theorem constOp_rep {v : Value} {a : AV} (h : constOp v = some a) (G : Gh) (hp : Array Obj) : Rep G hp v a := by
  unfold constOp at h
  split at h
  · rename_i cs
    simp only [Option.map_eq_some_iff] at h
    obtain ⟨l,hl,rfl⟩ := h
    have key : ∀ (vs : List Value) (l : List AV),vs.mapM constAV = some l → vs.length = l.length ∧ ∀ (j : Nat) (a : AV),l[j]? = some a → ∃ v,vs[j]? = some v ∧ constAV v = some a := by
      intro vs
      induction vs with
      | nil => intro l h; simp at h; subst h; simp
      | cons v vs ih =>
        intro l h
        simp only [List.mapM_cons,Option.bind_eq_bind,Option.bind_eq_some_iff,Option.pure_def,Option.some.injEq] at h
        obtain ⟨b,hb,l',hl',rfl⟩ := h
        obtain ⟨i1,i2⟩ := ih l' hl'
        refine ⟨by simp [i1],fun j a hj => ?_⟩
        cases j with
        | zero => simp at hj; subst hj; exact ⟨v,rfl,hb⟩
        | succ j => exact i2 j a (by simpa using hj)
    obtain ⟨k1,k2⟩ := key cs.toList l hl
    refine .agg (by simpa using k1) (fun j a hj => ?_) fun j a hj => ?_
    · obtain ⟨v,_,hv⟩ := k2 j a hj; exact constAV_cell hv
    · obtain ⟨v,hv,hc⟩ := k2 j a hj
      have e : cs.getD j undef = v := by
        have : cs[j]? = some v := by simpa using hv
        simp [Array.getD_eq_getD_getElem?,this]
      rw [e]; exact constAV_rep hc G hp
  · exact constAV_rep h G hp
def opd : Operand → Option Opd
  | .tmp t => some (.t t)
  | .const v => (constOp v).map .c
  | .func f => some (.c (.fn f []))
  | .global _ => none
def Tmps (G : Gh) (h : Array Obj) (a : Act) (e : Env) : Prop := ∀ t,Rep G h (a.tmps.getD t undef) (e t)
theorem opd_rep {G : Gh} {h : Array Obj} {a : Act} {e : Env} (hE : Tmps G h a e) {x : Operand} {y : Opd} (hx : opd x = some y) : Rep G h (a.eval x) (ev e y) := by
  cases x with
  | tmp t => simp [opd] at hx; subst hx; exact hE t
  | const v =>
    simp only [opd,Option.map_eq_some_iff] at hx
    obtain ⟨b,hb,rfl⟩ := hx
    exact constOp_rep hb G h
  | func f => simp [opd] at hx; subst hx; exact .fn rfl (fun j a h => by simp at h)
  | global g => simp [opd] at hx
def Good (G : Gh) (H : List AObj) (w : World) (K : AV → List AObj → Nat → Prop) (v : Value) (w' : World) : Prop :=
  ∃ av H' G',K av H' G'.c ∧ Ext G H w G' H' w' ∧ Inv G' H' w'.heap ∧ Rep G' w'.heap v av
def Run (P : Program) (s : Sem Value) (G : Gh) (H : List AObj) (w : World) (K : AV → List AObj → Nat → Prop) : Prop :=
  ∃ v w',s.run P w = .ok v w' ∧ Good G H w K v w'
theorem Good.here {G : Gh} {H : List AObj} {w : World} {K : AV → List AObj → Nat → Prop} {v : Value} {av : AV} (I : Inv G H w.heap) (k : K av H G.c) (r : Rep G w.heap v av) : Good G H w K v w :=
  ⟨av,H,G,k,Ext.refl _ _ _,I,r⟩
theorem Run.here {P : Program} {s : Sem Value} {G : Gh} {H : List AObj} {w : World} {K : AV → List AObj → Nat → Prop} {v : Value} {av : AV} (I : Inv G H w.heap) (hs : s.run P w = .ok v w) (k : K av H G.c)
    (r : Rep G w.heap v av) : Run P s G H w K := ⟨v,w,hs,Good.here I k r⟩
theorem r_typeInfo {P : Program} {t : TypeId} {i : TypeInfo} (h : P.info? t = some i) (w : World) : (typeInfo t).run P w = .ok i w := by simp [typeInfo,h]
theorem r_sizeOf {P : Program} {t : TypeId} {i : TypeInfo} (h : P.info? t = some i) (w : World) : (sizeOf t).run P w = .ok i.size w := by simp [sizeOf,r_typeInfo h]
def aggD : TypeDesc → Bool
  | .struct _ | .array .. => true
  | _ => false
theorem r_isAgg {P : Program} {t : TypeId} {d : TypeDesc} (h : P.underlying t = some d) (w : World) : (isAgg t).run P w = .ok (aggD d) w := by
  unfold isAgg
  simp only [Sem.run_bind,run_underlying h,Result.andThen_ok]
  cases d <;> rfl
theorem r_zero {P : Program} {t : TypeId} {i : TypeInfo} {z : Value} (h : P.info? t = some i) (hz : i.zero = some z) (w : World) : (zeroValue t).run P w = .ok z w := by
  simp [zeroValue,r_typeInfo h,hz]
def agOf (P : Program) (t : TypeId) : Option (Option Nat) :=
  match P.underlying t,P.info? t with
  | some (.struct _),some i | some (.array ..),some i => some (some i.size)
  | some _,some i => if i.size = 1 then some none else none
  | _,_ => none
def sizeOf? (P : Program) (t : TypeId) : Option Nat := (P.info? t).map (·.size)
def zeroOf? (P : Program) (t : TypeId) : Option (List AV) := do
  let i ← P.info? t
  let z ← i.zero
  let l ← z.cells.toList.mapM constAV
  if l.length = i.size then some l else none
def getW {α : Type} (l : List α) (i : Nat) (K : α → Prop) : Prop := ∃ x,l[i]? = some x ∧ K x
def intW (op : BinOp) (k : IntKind) (a b : Int) (K : AV → Prop) : Prop :=
  match op with
  | .add => K (.int k (k.wrap (a + b)))
  | .sub => K (.int k (k.wrap (a - b)))
  | .mul => K (.int k (k.wrap (a * b)))
  | .quo => b ≠ 0 ∧ K (.int k (k.wrap (a.tdiv b)))
  | .rem => b ≠ 0 ∧ K (.int k (a.tmod b))
  | .and => K (.int k (k.wrap (BitVec.ofInt k.bits a &&& BitVec.ofInt k.bits b).toNat))
  | .or => K (.int k (k.wrap (BitVec.ofInt k.bits a ||| BitVec.ofInt k.bits b).toNat))
  | .xor => K (.int k (k.wrap (BitVec.ofInt k.bits a ^^^ BitVec.ofInt k.bits b).toNat))
  | .eql => K (.bool (a == b))
  | .neq => K (.bool (a != b))
  | .lss => K (.bool (decide (a < b)))
  | .leq => K (.bool (decide (a ≤ b)))
  | .gtr => K (.bool (decide (a > b)))
  | .geq => K (.bool (decide (a ≥ b)))
  | _ => False
def strW (op : BinOp) (a b : List UInt8) (K : AV → Prop) : Prop :=
  match op with
  | .add => a.length + b.length ≤ mx ∧ K (.str (a ++ b))
  | .eql => K (.bool (a == b))
  | .neq => K (.bool (!(a == b)))
  | .lss => K (.bool (Op.bytesLess a b))
  | .leq => K (.bool (Op.bytesLess a b || a == b))
  | .gtr => K (.bool (!(Op.bytesLess a b || a == b)))
  | .geq => K (.bool (!(Op.bytesLess a b)))
  | _ => False
def boolW (op : BinOp) (a b : Bool) (K : AV → Prop) : Prop :=
  match op with
  | .eql => K (.bool (a == b))
  | .neq => K (.bool (!(a == b)))
  | _ => False
def binW (op : BinOp) (x y : AV) (K : AV → Prop) : Prop :=
  match x,y with
  | .int k a,.int k' b =>
    match op with
    | .shl => 0 ≤ b ∧ K (.int k (k.wrap (a * 2 ^ (min b.toNat k.bits))))
    | .shr => 0 ≤ b ∧ K (.int k (a.fdiv (2 ^ (min b.toNat k.bits))))
    | _ => k = k' ∧ intW op k a b K
  | .str a,.str b => strW op a b K
  | _,_ => False
def binbW (op : BinOp) (x y : AV) (K : AV → Prop) : Prop :=
  match x,y with
  | .bool a,.bool b => boolW op a b K
  | _,_ => False
theorem iok_wrap (k : IntKind) (n : Int) : IOk k (k.wrap n) := wrap_within k n
theorem iok_tmod {k : IntKind} {a b : Int} (h : IOk k a) : IOk k (a.tmod b) := by
  have h0 : k.min ≤ 0 ∧ 0 ≤ k.max := by cases k <;> decide
  have h1 := Int.natAbs_tmod a b
  have h2 := Nat.mod_le a.natAbs b.natAbs
  rcases Int.lt_or_le a 0 with ha | ha
  · have h4 : (-a).tmod b = -(a.tmod b) := Int.neg_tmod a b
    have h5 : 0 ≤ (-a).tmod b := Int.tmod_nonneg b (by omega)
    exact ⟨by have := h.1; omega,by omega⟩
  · have h5 : 0 ≤ a.tmod b := Int.tmod_nonneg b ha
    exact ⟨by omega,by have := h.2; omega⟩
theorem iok_shr {k : IntKind} {a : Int} (n : Nat) (h : IOk k a) : IOk k (a.fdiv (2 ^ n)) := by
  have h0 : k.min ≤ 0 ∧ 0 ≤ k.max := by cases k <;> decide
  have hp : (0 : Int) < 2 ^ n := Int.pow_pos (by omega)
  rw [Int.fdiv_eq_ediv_of_nonneg a (by omega)]
  have h1 := Int.natAbs_ediv_le_natAbs a (2 ^ n)
  rcases Int.lt_or_le a 0 with ha | ha
  · have h2 := Int.ediv_neg_of_neg_of_pos ha hp
    exact ⟨by have := h.1; omega,by omega⟩
  · have h2 := Int.ediv_nonneg ha (by omega : (0 : Int) ≤ 2 ^ n)
    exact ⟨by omega,by have := h.2; omega⟩
section
variable {P : Program} {G : Gh} {H : List AObj} {w : World} {K : AV → List AObj → Nat → Prop}
theorem eqGuard_scalar (op : BinOp) (t : TypeId) (x y : Operand) (a b : Value) (h1 : ¬ (∃ u,a = .agg u)) (h2 : a ≠ .nilIface) : (eqGuard op t x y a b).run P w = .ok () w := by
  unfold eqGuard
  cases a <;> first | exact absurd rfl h2 | exact absurd ⟨_,rfl⟩ h1 | (cases op <;> rfl)
theorem run_bits (op : BinOp) (k : IntKind) (a b : Int) (t : TypeId) (r : BitVec k.bits)
    (h : Op.intBits op k a b = pure (.int k (k.wrap r.toNat))) (hb : op = .and ∨ op = .or ∨ op = .xor) : (binOp op t (.int k a) (.int k b)).run P w = .ok (.int k (k.wrap r.toNat)) w := by
  rcases hb with rfl | rfl | rfl <;> (simp only [binOp,ne_eq,not_true_eq_false,if_false,h]; rfl)
theorem int_sound {op : BinOp} {k : IntKind} {a b : Int} (I : Inv G H w.heap) (ha : IOk k a) (hk : intW op k a b (fun v => K v H G.c)) (t : TypeId) (hs : op ≠ .shl) (hr : op ≠ .shr) :
    Run P (binOp op t (.int k a) (.int k b)) G H w K := by
  cases op
  case add => exact Run.here I (by simp [binOp,Op.intArith]) hk (.int (iok_wrap _ _))
  case sub => exact Run.here I (by simp [binOp,Op.intArith]) hk (.int (iok_wrap _ _))
  case mul => exact Run.here I (by simp [binOp,Op.intArith]) hk (.int (iok_wrap _ _))
  case quo => exact Run.here I (v := .int k (k.wrap (a.tdiv b))) (by simp [binOp,Op.intDiv,hk.1]) hk.2 (.int (iok_wrap _ _))
  case rem => exact Run.here I (v := .int k (a.tmod b)) (by simp [binOp,Op.intDiv,hk.1]) hk.2 (.int (iok_tmod ha))
  case and => exact Run.here I (run_bits .and k a b t _ rfl (by simp)) hk (.int (iok_wrap _ _))
  case or => exact Run.here I (run_bits .or k a b t _ rfl (by simp)) hk (.int (iok_wrap _ _))
  case xor => exact Run.here I (run_bits .xor k a b t _ rfl (by simp)) hk (.int (iok_wrap _ _))
  case eql => exact Run.here I (by simp [binOp,Op.intCmp]) hk .bool
  case neq => exact Run.here I (by simp [binOp,Op.intCmp]) hk .bool
  case lss => exact Run.here I (by simp [binOp,Op.intCmp]) hk .bool
  case leq => exact Run.here I (by simp [binOp,Op.intCmp]) hk .bool
  case gtr => exact Run.here I (v := .bool (decide (a > b))) (by simp [binOp,Op.intCmp]) hk .bool
  case geq => exact Run.here I (v := .bool (decide (a ≥ b))) (by simp [binOp,Op.intCmp]) hk .bool
  case shl => exact absurd rfl hs
  case shr => exact absurd rfl hr
  case andNot => exact hk.elim
theorem str_sound {op : BinOp} {a b : ByteArray} (I : Inv G H w.heap) (hk : strW op a.data.toList b.data.toList (fun v => K v H G.c)) (t : TypeId) :
    Run P (binOp op t (.string a) (.string b)) G H w K := by
  have ea : a.size = a.data.toList.length := by cases a; rfl
  have eb : b.size = b.data.toList.length := by cases b; rfl
  cases op <;> simp only [strW] at hk <;> first
    | exact hk.elim
    | exact Run.here I (by simp [binOp,Op.stringOp,ByteArray.toList_eq]) hk .bool
    | (refine Run.here I (v := .string (a ++ b)) ?_ hk.2 (.str (by simp) (by simp at hk ⊢; omega))
       have h1 := hk.1
       have : ¬ (((a.size + b.size : Nat) : Int) > IntKind.i64.max) := by
         rw [ea,eb]; unfold mx at h1; simp [IntKind.max,IntKind.signed,IntKind.bits]; omega
       simp [binOp,Op.stringOp]
       simp at this
       omega)
theorem bin_sound {op : BinOp} {x y : Operand} {a : Act} {e : Env} {u v : Opd} (I : Inv G H w.heap) (hE : Tmps G w.heap a e) (hx : opd x = some u) (hy : opd y = some v) (t : TypeId)
    (hk : binW op (ev e u) (ev e v) (fun r => K r H G.c)) : Run P (do eqGuard op t x y (a.eval x) (a.eval y); binOp op t (a.eval x) (a.eval y)) G H w K := by
  have rx := opd_rep hE hx
  have ry := opd_rep hE hy
  suffices h : (¬ (∃ q,a.eval x = .agg q) ∧ a.eval x ≠ .nilIface) ∧ Run P (binOp op t (a.eval x) (a.eval y)) G H w K by
    obtain ⟨⟨h1,h2⟩,z,w',h3,h4⟩ := h
    exact ⟨z,w',by simp only [Sem.run_bind,eqGuard_scalar op t x y _ _ h1 h2,Result.andThen_ok,h3],h4⟩
  generalize a.eval x = vx at rx
  generalize a.eval y = vy at ry
  generalize ev e u = ax at rx hk
  generalize ev e v = ay at ry hk
  cases rx <;> simp only [binW] at hk
  case int k n hn =>
    refine ⟨⟨by simp,by simp⟩,?_⟩
    cases ry <;> try exact hk.elim
    rename_i k' n' hn'
    by_cases hs : op = .shl
    · subst hs
      have h0 : ¬ n' < 0 := by have := hk.1; omega
      exact Run.here I (v := .int k (k.wrap (n * 2 ^ (min n'.toNat k.bits)))) (by simp [binOp,Op.shift,h0]) hk.2 (.int (iok_wrap _ _))
    · by_cases hr : op = .shr
      · subst hr
        have h0 : ¬ n' < 0 := by have := hk.1; omega
        exact Run.here I (v := .int k (n.fdiv (2 ^ (min n'.toNat k.bits)))) (by simp [binOp,Op.shift,h0]) hk.2 (.int (iok_shr _ hn))
      · have hk' : k = k' ∧ intW op k n n' (fun r => K r H G.c) := by cases op <;> first | exact hk | exact absurd rfl hs | exact absurd rfl hr
        obtain ⟨rfl,hk'⟩ := hk'
        exact int_sound I hn hk' t hs hr
  case str s l e hl =>
    refine ⟨⟨by simp,by simp⟩,?_⟩
    cases ry <;> try exact hk.elim
    rename_i s' l' e' hl'
    subst e; subst e'
    exact str_sound I hk t
  all_goals (first | exact hk.elim | skip)
theorem equalIn_bool (d : Nat) {t : TypeId} (ht : P.underlying t = some .bool) (b b' : Bool) : (Op.equalIn (d + 1) t (.bool b) (.bool b')).run P w = .ok (b == b') w := by
  simp only [Op.equalIn,Sem.run_bind,run_underlying ht,Result.andThen_ok,Sem.run_pure]
theorem binb_sound {op : BinOp} {x y : Operand} {a : Act} {e : Env} {u v : Opd} (I : Inv G H w.heap) (hE : Tmps G w.heap a e) (hx : opd x = some u) (hy : opd y = some v) {t : TypeId} (ht : P.underlying t = some .bool)
    (hk : binbW op (ev e u) (ev e v) (fun r => K r H G.c)) : Run P (do eqGuard op t x y (a.eval x) (a.eval y); binOp op t (a.eval x) (a.eval y)) G H w K := by
  have rx := opd_rep hE hx
  have ry := opd_rep hE hy
  generalize a.eval x = vx at rx
  generalize a.eval y = vy at ry
  generalize ev e u = ax at rx hk
  generalize ev e v = ay at ry hk
  cases rx <;> simp only [binbW] at hk
  case bool b =>
    cases ry <;> try exact hk.elim
    rename_i b'
    have e1 : ∀ op',(eqGuard op' t x y (.bool b) (.bool b')).run P w = .ok () w := fun op' => eqGuard_scalar op' t x y _ _ (by simp) (by simp)
    have e2 : (Op.equal t (.bool b) (.bool b')).run P w = .ok (b == b') w := by
      exact equalIn_bool 9999 ht b b'
    cases op <;> simp only [boolW] at hk <;> first
      | exact hk.elim
      | exact Run.here I (v := .bool (b == b')) (by simp only [Sem.run_bind,e1,Result.andThen_ok,binOp,e2,Sem.run_pure]) hk .bool
      | exact Run.here I (v := .bool (!(b == b'))) (by simp only [Sem.run_bind,e1,Result.andThen_ok,binOp,e2,Sem.run_pure]) hk .bool
  all_goals exact hk.elim
end
section
variable {P : Program} {G : Gh} {H : List AObj} {w : World} {K : AV → List AObj → Nat → Prop}
def cellsW (v : AV) (K : List AV → Prop) : Prop :=
  match v with
  | .agg l => K l
  | .und | .junk | .tup _ => False
  | a => K [a]
theorem cellsW_cell {a : AV} (h : a.cell = true) (K : List AV → Prop) : cellsW a K = K [a] := by
  cases a <;> first | rfl | cases h
theorem cellsW_rep {v : Value} {a : AV} {G : Gh} {h : Array Obj} (r : Rep G h v a) {K : List AV → Prop} (k : cellsW a K) :
    ∃ l,K l ∧ v.cells.size = l.length ∧ ∀ (j : Nat) (b : AV),l[j]? = some b → b.cell = true ∧ Rep G h (v.cells.getD j undef) b := by
  by_cases hc : a.cell = true
  · rw [cellsW_cell hc] at k
    refine ⟨_,k,by rw [r.cells_one hc]; rfl,fun j b hb => ?_⟩
    rw [r.cells_one hc]
    cases j with
    | zero => simp at hb; subst hb; exact ⟨hc,r⟩
    | succ j => simp at hb
  · cases r with
    | agg hs hcl hr => exact ⟨_,k,hs,fun j b hb => ⟨hcl j b hb,hr j b hb⟩⟩
    | _ => first | exact absurd rfl hc | exact k.elim
def rowW (ag : Option Nat) (row : List AV) (o : Nat) (K : AV → Prop) : Prop :=
  match ag with
  | none => getW row o K
  | some n => o + n ≤ row.length ∧ K (.agg ((row.drop o).take n))
def loadW (ag : Option Nat) (x : AV) (H : List AObj) (K : AV → Prop) : Prop :=
  match x with
  | .cpt cells o => rowW ag cells o K
  | .ptr i tag w r o => getW H i fun ob => ob.tag = tag ∧ ob.mp = false ∧ ob.w = w ∧ getW ob.rows r fun row => rowW ag row o K
  | _ => False
theorem agOf_none {t : TypeId} (h : agOf P t = some none) : ∃ d i,P.underlying t = some d ∧ P.info? t = some i ∧ i.size = 1 ∧ aggD d = false := by
  unfold agOf at h
  split at h
  · cases h
  · cases h
  · rename_i d i h1 h2 h3 h4
    split at h
    · refine ⟨_,_,h3,h4,by assumption,?_⟩
      unfold aggD
      split
      · rename_i fs; exact (h1 fs rfl).elim
      · rename_i n e; exact (h2 n e rfl).elim
      · rfl
    · cases h
  · cases h
theorem agOf_some {t : TypeId} {n : Nat} (h : agOf P t = some (some n)) : ∃ d i,P.underlying t = some d ∧ P.info? t = some i ∧ i.size = n ∧ aggD d = true := by
  unfold agOf at h
  split at h
  · rename_i h1 h2; cases h; exact ⟨_,_,h1,h2,rfl,rfl⟩
  · rename_i h1 h2; cases h; exact ⟨_,_,h1,h2,rfl,rfl⟩
  · split at h <;> cases h
  · cases h
theorem load_row {ag : Option Nat} {t : TypeId} (ht : agOf P t = some ag) {row : List AV} {b p o : Nat}
    (hr : ∀ (j : Nat) (a : AV),row[j]? = some a → ∃ v,hcell w.heap b (p + j) = some v ∧ a.cell = true ∧ Rep G w.heap v a) {K : AV → Prop} (hk : rowW ag row o K) :
    ∃ u av,(loadVar t ⟨b,p + o,none⟩).run P w = .ok u w ∧ K av ∧ Rep G w.heap u av := by
  cases ag with
  | none =>
    obtain ⟨d,i,h1,h2,h3,h4⟩ := agOf_none ht
    obtain ⟨a,ha,k⟩ := hk
    obtain ⟨v,hv,_,r⟩ := hr o a ha
    refine ⟨v,a,?_,k,r⟩
    unfold loadVar
    simp only [Sem.run_bind,r_isAgg h1,h4,Result.andThen_ok,Bool.false_eq_true,if_false]
    exact run_loadCell P w b (p + o) v hv
  | some n =>
    obtain ⟨d,i,h1,h2,h3,h4⟩ := agOf_some ht
    obtain ⟨hl,k⟩ := hk
    have hf : ∀ j,j < n → hcell w.heap b (p + o + j) = some ((hcell w.heap b (p + o + j)).getD undef) := fun j hj => by
      have hj' : o + j < row.length := by omega
      obtain ⟨v,hv,_⟩ := hr (o + j) row[o + j] (List.getElem?_eq_getElem hj')
      rw [← Nat.add_assoc] at hv
      rw [hv]; rfl
    refine ⟨.agg ((List.range n).map fun j => (hcell w.heap b (p + o + j)).getD undef).toArray,_,?_,k,.agg (by simp; omega) (fun j a hj => ?_) fun j a hj => ?_⟩
    · unfold loadVar
      simp only [Sem.run_bind,r_isAgg h1,h4,Result.andThen_ok,if_true,r_sizeOf h2,h3]
      rw [run_loadCells P w b (p + o) n _ hf]
      rfl
    · have hjn : j < n := by
        have := (List.getElem?_eq_some_iff.1 hj).1
        simp at this; omega
      rw [List.getElem?_take_of_lt hjn,List.getElem?_drop] at hj
      obtain ⟨v,hv,hc,r⟩ := hr (o + j) a hj
      exact hc
    · have hjn : j < n := by
        have := (List.getElem?_eq_some_iff.1 hj).1
        simp at this; omega
      rw [List.getElem?_take_of_lt hjn,List.getElem?_drop] at hj
      obtain ⟨v,hv,hc,r⟩ := hr (o + j) a hj
      rw [← Nat.add_assoc] at hv
      simp [hjn,hv,r]
theorem hcell_of {h : Array Obj} {b : Nat} {c : Array Value} {e : TypeId} {fr : Nat × Nat} (hb : h[b]? = some (.cells c e fr)) (o : Nat) : hcell h b o = c[o]? := by simp [hcell,hb]
theorem load_pure (I : Inv G H w.heap) {ag : Option Nat} {t : TypeId} (ht : agOf P t = some ag) {v : Value} {x : AV} (r : Rep G w.heap v x) {K : AV → Prop} (hk : loadW ag x H K) :
    ∃ u av,(Instr.loadAt t v).run P w = .ok u w ∧ K av ∧ Rep G w.heap u av := by
  have hsure : ∀ a,Instr.loadAt t (.pointer (some a)) = loadVar t a := fun a => rfl
  cases r <;> simp only [loadW] at hk
  case cpt tag off o cells f hF hc hcell hcl hrep =>
    rw [hsure]
    exact load_row ht (row := cells) (fun j a ha => ⟨_,hcell j a ha,hcl j a ha,hrep j a ha⟩) hk
  case ptr i tag wd r o hc =>
    obtain ⟨ob,hob,rfl,hmp,rfl,row,hrow,hk⟩ := hk
    obtain ⟨c,e,fr,h1,h2,h3,h4,h5,h6⟩ := (I.obj ob (List.mem_of_getElem? hob)).lies hmp
    rw [hsure]
    refine load_row ht (row := row) (fun j a ha => ?_) hk
    obtain ⟨v,hv,hc',r⟩ := h6 r j row a hrow ha
    exact ⟨v,by rw [hcell_of h1]; exact hv,hc',r⟩
  all_goals exact hk.elim
theorem load_sound (I : Inv G H w.heap) {ag : Option Nat} {t : TypeId} (ht : agOf P t = some ag) {v : Value} {x : AV} (r : Rep G w.heap v x) (hk : loadW ag x H (fun v => K v H G.c)) :
    Run P (Instr.loadAt t v) G H w K := by
  obtain ⟨u,av,h1,h2,h3⟩ := load_pure I ht r hk
  exact Run.here I h1 h2 h3
def faddrW (off : Nat) (x : AV) (K : AV → Prop) : Prop :=
  match x with
  | .cpt cells o => K (.cpt cells (o + off))
  | .ptr i tag w r o => K (.ptr i tag w r (o + off))
  | _ => False
def fieldOff (P : Program) (t : TypeId) (f : Nat) : Option (Nat × TypeId) :=
  match P.underlying t with
  | some (.struct fs) =>
    match fs[f]? with
    | some x => match P.info? x.type with
      | some i => if i.size = 0 then none else some (x.offset,x.type)
      | none => none
    | none => none
  | _ => none
theorem fieldOff_some {t : TypeId} {f off : Nat} {ft : TypeId} (h : fieldOff P t f = some (off,ft)) : ∃ fs x i,P.underlying t = some (.struct fs) ∧ fs[f]? = some x ∧ x.offset = off ∧ x.type = ft ∧ P.info? x.type = some i ∧ i.size ≠ 0 := by
  unfold fieldOff at h
  split at h
  · split at h
    · split at h
      · split at h
        · cases h
        · cases h; exact ⟨_,_,_,by assumption,by assumption,rfl,rfl,by assumption,by assumption⟩
      · cases h
    · cases h
  · cases h
theorem faddr_sound (I : Inv G H w.heap) {t : TypeId} {f off : Nat} {ft : TypeId} (ht : fieldOff P t f = some (off,ft)) {v : Value} {x : AV} (r : Rep G w.heap v x) (hk : faddrW off x (fun v => K v H G.c)) :
    Run P (Instr.fieldAt t v f) G H w K := by
  obtain ⟨fs,fd,i,h1,h2,rfl,rfl,h3,h4⟩ := fieldOff_some ht
  have run : ∀ b p,(Instr.fieldAt t (.pointer (some ⟨b,p,none⟩)) f).run P w = .ok (.pointer (some ⟨b,p + fd.offset,none⟩)) w := fun b p => by
    unfold Instr.fieldAt
    simp only [Sem.run_bind,run_underlying h1,Result.andThen_ok,h2,Instr.sureAddr,Sem.run_pure,fieldPlace,r_sizeOf h3,h4,if_false,addr_add]
  cases r <;> simp only [faddrW] at hk
  case cpt tag p o cells f' hF hc hcell hcl hrep => exact Run.here I (by rw [run,Nat.add_assoc]) hk (.cpt f' hF hc hcell hcl hrep)
  case ptr i' tag wd r o hc => exact Run.here I (by rw [run,Nat.add_assoc]) hk (.ptr hc)
  all_goals exact hk.elim
def iaddrW (w : Nat) (x i : AV) (K : AV → Prop) : Prop :=
  match i with
  | .int _ n =>
    match x with
    | .slc _ w' rows => w' = w ∧ 0 ≤ n ∧ getW rows n.toNat fun row => K (.cpt row 0)
    | .ref j tag w' len => w' = w ∧ 0 ≤ n ∧ n < len ∧ K (.ptr j tag w n.toNat 0)
    | .sub j tag w' off len => w' = w ∧ 0 ≤ n ∧ n < len ∧ K (.ptr j tag w (off + n.toNat) 0)
    | _ => False
  | _ => False
def sliceElem (P : Program) (t : TypeId) : Option (TypeId × TypeInfo) :=
  match P.underlying t with
  | some (.slice e) => (P.info? e).map fun i => (e,i)
  | _ => none
theorem sliceElem_some {t e : TypeId} {i : TypeInfo} (h : sliceElem P t = some (e,i)) : P.underlying t = some (.slice e) ∧ P.info? e = some i := by
  unfold sliceElem at h
  split at h
  · simp only [Option.map_eq_some_iff] at h
    obtain ⟨j,hj,hh⟩ := h
    cases hh
    exact ⟨by assumption,hj⟩
  · cases h
theorem run_iaddr {t e : TypeId} {i : TypeInfo} (ht : sliceElem P t = some (e,i)) {b p len cap : Nat} {k : IntKind} {n : Int} (h0 : 0 ≤ n) (h1 : n < len) (w : World) :
    (Instr.indexAt t (.slice (some ⟨b,p,none⟩) len cap) (.int k n)).run P w = .ok (.pointer (some ⟨b,p + n.toNat * i.size,none⟩)) w := by
  obtain ⟨h2,h3⟩ := sliceElem_some ht
  unfold Instr.indexAt
  simp only [asIntOf,Sem.run_bind,Sem.run_pure,run_underlying h2,Result.andThen_ok,Bool.and_false,h0,h1,and_self,if_true,r_sizeOf h3,addr_add]
theorem iaddr_sound (I : Inv G H w.heap) {t e : TypeId} {i : TypeInfo} (ht : sliceElem P t = some (e,i)) {u v : Value} {x y : AV} (r : Rep G w.heap u x) (ry : Rep G w.heap v y)
    (hk : iaddrW i.size x y (fun v => K v H G.c)) : Run P (Instr.indexAt t u v) G H w K := by
  cases ry <;> simp only [iaddrW] at hk
  case int k n hn =>
    cases r <;> simp only at hk
    case slc0 => obtain ⟨_,_,_,h,_⟩ := hk; simp at h
    case slc tag wd off cap rows f hF hc hlen hcap hw hcell hcl hrep =>
      obtain ⟨rfl,h0,row,hrow,hk⟩ := hk
      have hl : n.toNat < rows.length := (List.getElem?_eq_some_iff.1 hrow).1
      refine Run.here I (run_iaddr ht h0 (by omega) w) hk ?_
      refine .cpt (o := 0) (off := off + n.toNat * i.size) (tag := tag) (fun j => f n.toNat j) hF hc (fun j a ha => hcell _ _ _ _ hrow ha) (fun j a ha => hcl _ _ _ _ hrow ha) (fun j a ha => hrep _ _ _ _ hrow ha)
    case ref j tag wd len cap c e' fr hc hb h1 h2 h3 =>
      obtain ⟨rfl,h0,hl,hk⟩ := hk
      refine Run.here I (run_iaddr ht h0 hl w) hk ?_
      rw [Nat.zero_add]
      exact .ptr (o := 0) hc
    case sub0 => obtain ⟨_,h0,h1,_⟩ := hk; omega
    case sub j tag wd off len cap c e' fr hc hb h1 h2 h3 =>
      obtain ⟨rfl,h0,hl,hk⟩ := hk
      refine Run.here I (run_iaddr ht h0 hl w) hk ?_
      rw [← Nat.add_mul]
      exact .ptr (o := 0) hc
    all_goals exact hk.elim
  all_goals exact hk.elim
end
section
variable {P : Program} {G : Gh} {H : List AObj} {w : World} {K : AV → List AObj → Nat → Prop}
def putA (row : List AV) (o : Nat) (l : List AV) : List AV := row.take o ++ l ++ row.drop (o + l.length)
theorem putA_length (row : List AV) (o : Nat) (l : List AV) (h : o + l.length ≤ row.length) : (putA row o l).length = row.length := by
  simp [putA]; omega
theorem putA_in (row : List AV) (o : Nat) (l : List AV) (h : o + l.length ≤ row.length) (j : Nat) (hj : j < l.length) : (putA row o l)[o + j]? = l[j]? := by
  unfold putA
  rw [List.append_assoc,List.getElem?_append_right (by simp; omega)]
  rw [List.getElem?_append_left (by simp; omega)]
  congr 1; simp; omega
theorem putA_out (row : List AV) (o : Nat) (l : List AV) (h : o + l.length ≤ row.length) (j : Nat) (hj : j < o ∨ o + l.length ≤ j) : (putA row o l)[j]? = row[j]? := by
  unfold putA
  rcases hj with hj | hj
  · rw [List.append_assoc,List.getElem?_append_left (by simp; omega),List.getElem?_take_of_lt hj]
  · rw [List.getElem?_append_right (by simp; omega),List.getElem?_drop]
    congr 1; simp; omega
def storeW (n : Nat) (a x : AV) (H : List AObj) (c : Nat) (K : AV → List AObj → Nat → Prop) : Prop :=
  match a with
  | .ptr i tag w r o => cellsW x fun l => l.length = n ∧ getW H i fun ob => ob.tag = tag ∧ ob.mp = false ∧ ob.w = w ∧ getW ob.rows r fun row =>
      o + n ≤ w ∧ K .und (H.set i { ob with rows := ob.rows.set r (putA row o l) }) c
  | _ => False
theorem mul_lt_of {r r' n w : Nat} (h : r < r') : r * w + w ≤ r' * w := by
  have : (r + 1) * w ≤ r' * w := Nat.mul_le_mul_right w h
  rw [Nat.add_mul] at this
  omega
theorem store_sound (I : Inv G H w.heap) {t : TypeId} {n : Nat} (ht : sizeOf? P t = some n) {u v : Value} {a x : AV} (ra : Rep G w.heap u a) (rx : Rep G w.heap v x)
    (hk : storeW n a x H G.c K) : ∃ w',(Instr.storeAt t u v).run P w = .ok () w' ∧ Good G H w K undef w' := by
  cases ra <;> simp only [storeW] at hk
  case ptr i tag wd r o hc =>
    obtain ⟨l,⟨hln,ob,hob,rfl,hmp,rfl,row,hrow,hon,hk⟩,hcs,hcr⟩ := cellsW_rep rx hk
    obtain ⟨c,e,fr,h1,h2,h3,h4,h5,h6⟩ := (I.obj ob (List.mem_of_getElem? hob)).lies hmp
    obtain ⟨i',hi',hsz⟩ : ∃ i',P.info? t = some i' ∧ i'.size = n := by simpa [sizeOf?] using ht
    have hrl : row.length = ob.w := h5 r row hrow
    have hr : r < ob.rows.length := (List.getElem?_eq_some_iff.1 hrow).1
    have hmul := mul_lt_of (r := r) (r' := ob.rows.length) (n := 0) (w := ob.w) hr
    have hlen : v.cells.toList.length = n := by simpa [hln] using hcs
    have hin : r * ob.w + o + 0 + v.cells.toList.length ≤ c.size := by omega
    have hget : ∀ j (b : AV),l[j]? = some b → ∃ z,v.cells.toList[j]? = some z ∧ b.cell = true ∧ Rep G w.heap z b := fun j b hj => by
      have hjl : j < l.length := (List.getElem?_eq_some_iff.1 hj).1
      have := hcr j b hj
      refine ⟨v.cells.getD j undef,?_,this⟩
      have hj' : j < v.cells.size := by omega
      simp only [Array.getD,hj',dite_true]
      rw [Array.getElem?_toList]; simp [hj']
    have hone : ∀ z,z ∈ v.cells.toList → z.oneCell' = true := fun z hz => by
      obtain ⟨j,hj⟩ := List.mem_iff_getElem?.1 hz
      have hjl : j < l.length := by have := (List.getElem?_eq_some_iff.1 hj).1; omega
      obtain ⟨z',hz',hc',r'⟩ := hget j l[j] (List.getElem?_eq_getElem hjl)
      rw [hj] at hz'; cases hz'
      exact r'.oneCell hc'
    have hrun := run_storeCells P (G.m ob.tag) (r * ob.w + o) e fr v.cells.toList 0 w c h1 (fun j hj => h2 j (by omega)) hin hone
    refine ⟨wset w (G.m ob.tag) (.cells (putCells c (r * ob.w + o + 0) v.cells.toList) e fr),?_,?_⟩
    · show (do storeVar t (← Instr.sureAddr _) v : Sem Unit).run P w = _
      simp only [Instr.sureAddr,Sem.run_bind,Sem.run_pure,Result.andThen_ok,storeVar,r_sizeOf hi',hsz,ne_eq]
      rw [if_neg (by simpa [hln] using hcs)]
      exact hrun
    · have hob' : ObjOk G (w.heap.setIfInBounds (G.m ob.tag) (.cells (putCells c (r * ob.w + o + 0) v.cells.toList) e fr)) { ob with rows := ob.rows.set r (putA row o l) } := by
        have x : Ext1 G w.heap G (w.heap.setIfInBounds (G.m ob.tag) (.cells (putCells c (r * ob.w + o + 0) v.cells.toList) e fr)) :=
          Ext1.write (fun u hF => I.nfz_m (mem_tags (List.mem_of_getElem? hob)) hF) fun c' e' fr' hb => by
            rw [h1] at hb; cases hb; exact ⟨_,_,rfl,putCells_size _ _ _⟩
        refine ⟨(I.obj ob (List.mem_of_getElem? hob)).c,fun _ => ?_,fun hm => by simp [hmp] at hm⟩
        refine ⟨putCells c (r * ob.w + o + 0) v.cells.toList,e,fr,by simp [lt_of_get h1],by simpa [putCells_size] using h2,by simpa [putCells_size] using h3,by simpa using h4,fun r' row' hr' => ?_,fun r' j row' a' hr' ha' => ?_⟩
        · simp only [List.getElem?_set] at hr'
          split at hr'
          · rename_i hrr; subst hrr
            cases hr'
            rw [putA_length _ _ _ (by omega)]; exact hrl
          · exact h5 r' row' hr'
        · simp only [List.getElem?_set] at hr'
          split at hr'
          · rename_i hrr; subst hrr
            cases hr'
            by_cases hj : o ≤ j ∧ j < o + l.length
            · obtain ⟨q,rfl⟩ : ∃ q,j = o + q := ⟨j - o,by omega⟩
              rw [putA_in _ _ _ (by omega) q (by omega)] at ha'
              obtain ⟨z,hz,hcz,rz⟩ := hget q a' ha'
              refine ⟨z,?_,hcz,rz.ext x⟩
              have e1 : r * ob.w + (o + q) = r * ob.w + o + 0 + q := by omega
              rw [e1]
              exact putCells_in _ _ _ _ _ hin hz
            · rw [putA_out _ _ _ (by omega) j (by omega)] at ha'
              have hjw : j < ob.w := by rw [← hrl]; exact (List.getElem?_eq_some_iff.1 ha').1
              obtain ⟨z,hz,hcz,rz⟩ := h6 r j row a' hrow ha'
              exact ⟨z,by dsimp only; rw [putCells_out _ _ _ _ (by omega)]; exact hz,hcz,rz.ext x⟩
          · rename_i hrr
            obtain ⟨z,hz,hcz,rz⟩ := h6 r' j row' a' hr' ha'
            have hjw : j < ob.w := by rw [← h5 r' row' hr']; exact (List.getElem?_eq_some_iff.1 ha').1
            refine ⟨z,?_,hcz,rz.ext x⟩
            dsimp only
            rw [putCells_out]
            · exact hz
            · rcases Nat.lt_or_ge r' r with hlt | hge
              · left; have := mul_lt_of (r := r') (r' := r) (n := 0) (w := ob.w) hlt; omega
              · right; have := mul_lt_of (r := r) (r' := r') (n := 0) (w := ob.w) (by omega); omega
      obtain ⟨x,I'⟩ := I.write hob (ob' := { ob with rows := ob.rows.set r (putA row o l) }) rfl (fun c' e' fr' hb => by rw [h1] at hb; cases hb; exact ⟨_,_,rfl,putCells_size _ _ _⟩) hob'
      exact ⟨.und,_,G,hk,Ext.write I hob (ob' := { ob with rows := ob.rows.set r (putA row o l) }) rfl x,I',.und⟩
  all_goals exact hk.elim
theorem newObj_good (I : Inv G H w.heap) {cs : Array Value} {e : TypeId} {wd : Nat} {rows : List (List AV)} (hsz : rows.length * wd ≤ cs.size) (hmx : rows.length ≤ mx)
    (hw : ∀ (r : Nat) (row : List AV),rows[r]? = some row → row.length = wd) (hr : ∀ (r j : Nat) (row : List AV) (a : AV),rows[r]? = some row → row[j]? = some a → ∃ v,cs[r * wd + j]? = some v ∧ a.cell = true ∧ Rep G w.heap v a)
    (fr : Nat × Nat) (hfr : ∀ i : Nat,i < cs.size + (wd - 1) → ¬ (fr.1 ≤ i ∧ i < fr.2)) :
    Ext G H w (G.new w.heap.size) (H ++ [⟨false,G.c,wd,rows⟩]) (w.alloc (.cells cs e fr)) ∧ Inv (G.new w.heap.size) (H ++ [⟨false,G.c,wd,rows⟩]) (w.alloc (.cells cs e fr)).heap := by
  have x : Ext1 G w.heap (G.new w.heap.size) (w.heap.push (.cells cs e fr)) := Ext1.push I _ _
  refine ⟨Ext.push I _ _ rfl,Inv.push I _ _ rfl ⟨by simp [Gh.new],fun _ => ?_,fun h => by cases h⟩⟩
  refine ⟨cs,e,fr,by simp [Gh.new],hfr,hsz,hmx,hw,fun r j row a h1 h2 => ?_⟩
  obtain ⟨v,hv,hc,rv⟩ := hr r j row a h1 h2
  exact ⟨v,hv,hc,rv.ext x⟩
def newW (w : Nat) (zero : List AV) (H : List AObj) (c : Nat) (K : AV → List AObj → Nat → Prop) : Prop :=
  K (.ptr H.length c w 0 0) (H ++ [⟨false,c,w,[zero]⟩]) (c + 1)
theorem one_row {cs : Array Value} {l : List AV} (hs : cs.size = l.length) (hr : ∀ (j : Nat) (b : AV),l[j]? = some b → b.cell = true ∧ Rep G w.heap (cs.getD j undef) b) :
    ∀ (r j : Nat) (row : List AV) (a : AV),([l] : List (List AV))[r]? = some row → row[j]? = some a → ∃ v,cs[r * l.length + j]? = some v ∧ a.cell = true ∧ Rep G w.heap v a := fun r j row a h1 h2 => by
  cases r with
  | zero =>
    simp at h1; subst h1
    have hj : j < l.length := (List.getElem?_eq_some_iff.1 h2).1
    refine ⟨cs.getD j undef,?_,hr j a h2⟩
    simp [Array.getD,hs,hj]
  | succ r => simp at h1
theorem newVar_good (I : Inv G H w.heap) {t : TypeId} {v : Value} {l : List AV} (hs : v.cells.size = l.length) (hr : ∀ (j : Nat) (b : AV),l[j]? = some b → b.cell = true ∧ Rep G w.heap (v.cells.getD j undef) b)
    (hk : K (.ptr H.length G.c l.length 0 0) (H ++ [⟨false,G.c,l.length,[l]⟩]) (G.c + 1)) : Run P (do pure (.pointer (some (← newVar t v)))) G H w K := by
  obtain ⟨x,I'⟩ := newObj_good I (cs := v.cells) (e := t) (wd := l.length) (rows := [l]) (by simp [hs]) (by unfold mx; simp)
    (fun r row h => by cases r with | zero => simp at h; subst h; rfl | succ r => simp at h) (one_row hs hr) (0,0) (fun i _ h => by omega)
  refine ⟨.pointer (some ⟨w.heap.size,0,none⟩),_,?_,_,_,_,hk,x,I',?_⟩
  · simp only [newVar,newRow,Sem.run_bind,run_newObj,Result.andThen_ok,Sem.run_pure]; rfl
  · have h := Rep.ptr (G := G.new w.heap.size) (h := (w.alloc (.cells v.cells t)).heap) (i := H.length) (tag := G.c) (w := l.length) (r := 0) (o := 0) (by simp [Gh.new])
    simpa [Gh.new] using h
theorem mapM_constAV : ∀ (l : List Value) (r : List AV),l.mapM constAV = some r → l.length = r.length ∧ ∀ (j : Nat) (b : AV),r[j]? = some b → ∃ v,l[j]? = some v ∧ constAV v = some b := by
  intro l
  induction l with
  | nil => intro r h; simp at h; subst h; simp
  | cons v l ih =>
    intro r h
    simp only [List.mapM_cons,Option.bind_eq_bind,Option.bind_eq_some_iff,Option.pure_def,Option.some.injEq] at h
    obtain ⟨a,ha,r',hr',rfl⟩ := h
    obtain ⟨h1,h2⟩ := ih r' hr'
    refine ⟨by simp [h1],fun j b hj => ?_⟩
    cases j with
    | zero => simp at hj; subst hj; exact ⟨v,rfl,ha⟩
    | succ j => exact h2 j b (by simpa using hj)
theorem zeroOf_some {t : TypeId} {l : List AV} (h : zeroOf? P t = some l) : ∃ i z,P.info? t = some i ∧ i.zero = some z ∧ l.length = i.size ∧ z.cells.size = l.length ∧
    (∀ (G : Gh) (hp : Array Obj) (j : Nat) (b : AV),l[j]? = some b → b.cell = true ∧ Rep G hp (z.cells.getD j undef) b) := by
  unfold zeroOf? at h
  simp only [Option.bind_eq_bind,Option.bind_eq_some_iff] at h
  obtain ⟨i,hi,z,hz,l',hl',h⟩ := h
  split at h
  · cases h
    obtain ⟨h1,h2⟩ := mapM_constAV _ _ hl'
    refine ⟨i,z,hi,hz,by assumption,by simpa using h1,fun G hp j b hj => ?_⟩
    obtain ⟨v,hv,hc⟩ := h2 j b hj
    have hjl : j < z.cells.size := by have := (List.getElem?_eq_some_iff.1 hv).1; simpa using this
    have : z.cells.getD j undef = v := by
      simp [Array.getD,hjl]
      simpa [hjl] using hv
    rw [this]
    exact ⟨constAV_cell hc,constAV_rep hc G hp⟩
  · cases h
theorem new_sound (I : Inv G H w.heap) {t : TypeId} {l : List AV} (ht : zeroOf? P t = some l) (hk : newW l.length l H G.c K) : Run P (Instr.alloc t true (.tuple #[])) G H w K := by
  obtain ⟨i,z,h1,h2,h3,h4,h5⟩ := zeroOf_some ht
  have : Run P (do pure (.pointer (some (← newVar t z)))) G H w K := newVar_good I h4 (fun j b hj => h5 _ _ j b hj) hk
  obtain ⟨v,w',h,g⟩ := this
  refine ⟨v,w',?_,g⟩
  unfold Instr.alloc
  simp only [Sem.run_bind,r_zero h1 h2,Result.andThen_ok]
  simpa [Sem.run_bind] using h
def boxW (x : AV) (H : List AObj) (c : Nat) (K : AV → List AObj → Nat → Prop) : Prop :=
  cellsW x fun l => K (.ptr H.length c l.length 0 0) (H ++ [⟨false,c,l.length,[l]⟩]) (c + 1)
theorem box_sound (I : Inv G H w.heap) {t : TypeId} {v : Value} {x : AV} (r : Rep G w.heap v x) (hk : boxW x H G.c K) : Run P (Instr.box t v) G H w K := by
  obtain ⟨l,k,hs,hr⟩ := cellsW_rep r hk
  exact newVar_good I hs hr k
end
inductive F2 {α β : Type} (R : α → β → Prop) : List α → List β → Prop
  | nil : F2 R [] []
  | cons {a : α} {b : β} {l : List α} {m : List β} (h : R a b) (t : F2 R l m) : F2 R (a :: l) (b :: m)
section
variable {P : Program} {G : Gh} {H : List AObj} {w : World} {K : AV → List AObj → Nat → Prop}
def RowRep (G : Gh) (h : Array Obj) (cs : Array Value) (l : List AV) : Prop := cs.size = l.length ∧ ∀ (j : Nat) (b : AV),l[j]? = some b → b.cell = true ∧ Rep G h (cs.getD j undef) b
theorem getD_of {cs : Array Value} {j : Nat} {v : Value} (h : cs[j]? = some v) : cs.getD j undef = v := by
  obtain ⟨hl,he⟩ := Array.getElem?_eq_some_iff.1 h
  simp [Array.getD,hl,he]
theorem of_getD {cs : Array Value} {j : Nat} (h : j < cs.size) : cs[j]? = some (cs.getD j undef) := by simp [Array.getD,h]
theorem RowRep.put {h : Array Obj} {cs : Array Value} {l : List AV} (r : RowRep G h cs l) {v : Value} {m : List AV} {off : Nat} (hv : RowRep G h v.cells m) (hl : off + m.length ≤ l.length) :
    RowRep G h (putCells cs off v.cells.toList) (putA l off m) := by
  have hvl : v.cells.toList.length = m.length := by simpa using hv.1
  refine ⟨by rw [putCells_size,putA_length _ _ _ hl]; exact r.1,fun j b hj => ?_⟩
  by_cases hin : off ≤ j ∧ j < off + m.length
  · obtain ⟨q,rfl⟩ : ∃ q,j = off + q := ⟨j - off,by omega⟩
    rw [putA_in _ _ _ hl q (by omega)] at hj
    have hq := hv.2 q b hj
    have hz : v.cells.toList[q]? = some (v.cells.getD q undef) := by
      rw [Array.getElem?_toList]; exact of_getD (by have := hv.1; omega)
    rw [getD_of (putCells_in _ _ _ _ _ (by have := r.1; omega) hz)]
    exact hq
  · rw [putA_out _ _ _ hl j (by omega)] at hj
    have hjl := (List.getElem?_eq_some_iff.1 hj).1
    rw [getD_of (cs := putCells cs off v.cells.toList) (v := cs.getD j undef) (by rw [putCells_out _ _ _ _ (by omega)]; exact of_getD (by have := r.1; omega))]
    exact r.2 j b hj
theorem fold_put (off : Nat) : ∀ (l : List Value) (k : Nat) (cells : Array Value),(l.zipIdx k).foldl (fun cs (x : Value × Nat) => cs.setIfInBounds (off + x.2) x.1) cells = putCells cells (off + k) l := by
  intro l
  induction l with
  | nil => intro k cells; rfl
  | cons v l ih =>
    intro k cells
    simp only [List.zipIdx_cons,List.foldl_cons,putCells]
    rw [ih (k + 1) _]
    rfl
theorem fold_putA (off : Nat) (v cells : Array Value) : (v.zipIdx.foldl (fun cs (x : Value × Nat) => cs.setIfInBounds (off + x.2) x.1) cells) = putCells cells off v.toList := by
  rw [← Array.foldl_toList,Array.toList_zipIdx]
  exact fold_put off v.toList 0 cells
def fillW (cells : List AV) : List (Nat × Nat × AV) → (List AV → Prop) → Prop
  | [],K => K cells
  | (off,n,v) :: rest,K => cellsW v fun l => l.length = n ∧ off + n ≤ cells.length ∧ fillW (putA cells off l) rest K
theorem fill_sound {h : Array Obj} {place : Nat → Option (Nat × Nat)} {K : List AV → Prop} : ∀ (parts : List (Nat × Value)) (ps : List (Nat × Nat × AV)) (cs : Array Value) (l : List AV),RowRep G h cs l →
    F2 (fun p q => place p.1 = some (q.1,q.2.1) ∧ Rep G h p.2 q.2.2) parts ps → fillW l ps K → ∃ cs' l',Instr.fill place cs parts = some cs' ∧ RowRep G h cs' l' ∧ K l' := by
  intro parts
  induction parts with
  | nil => intro ps cs l r f k; cases f; exact ⟨cs,l,rfl,r,k⟩
  | cons p parts ih =>
    intro ps cs l r f k
    cases f with
    | cons hp hf =>
      rename_i q qs
      obtain ⟨i,v⟩ := p
      obtain ⟨off,n,a⟩ := q
      obtain ⟨m,⟨hm,hl,k'⟩,h1,h2⟩ := cellsW_rep hp.2 k
      have hv : RowRep G h v.cells m := ⟨h1,h2⟩
      have r' := r.put hv (off := off) (by omega)
      obtain ⟨cs',l',e,r'',k''⟩ := ih qs _ _ r' hf k'
      refine ⟨cs',l',?_,r'',k''⟩
      have hpl : place i = some (off,n) := hp.1
      simp only [Instr.fill,hpl]
      have h1' : v.cells.size = m.length := h1
      have h0 := r.1
      rw [if_neg (by simp; omega),fold_putA]
      exact e
def placeOf (P : Program) (t : TypeId) (i : Nat) : Option (Nat × Nat) :=
  match P.underlying t with
  | some (.struct fs) => match fs[i]? with
    | some f => (P.info? f.type).map fun x => (f.offset,x.size)
    | none => none
  | some (.array _ e) => (P.info? e).map fun x => (i * x.size,x.size)
  | _ => none
def placesOk (P : Program) (t : TypeId) : Bool :=
  match P.underlying t with
  | some (.struct fs) => fs.toList.all fun f => (P.info? f.type).isSome
  | some (.array _ e) => (P.info? e).isSome
  | _ => false
theorem mapM_places : ∀ (fs : List Field),(fs.all fun f => (P.info? f.type).isSome) = true →
    ∃ places : List (Nat × Nat),fs.mapM (fun (f : Field) => (P.info? f.type).map fun i => (f.offset,i.size)) = some places ∧ ∀ i : Nat,places[i]? = (fs[i]?).bind fun (f : Field) => (P.info? f.type).map fun x => (f.offset,x.size) := by
  intro fs
  induction fs with
  | nil => intro _; exact ⟨[],rfl,by simp⟩
  | cons f fs ih =>
    intro h
    simp only [List.all_cons,Bool.and_eq_true] at h
    obtain ⟨places,h1,h2⟩ := ih h.2
    obtain ⟨x,hx⟩ := Option.isSome_iff_exists.1 h.1
    refine ⟨(f.offset,x.size) :: places,by simp [List.mapM_cons,hx,h1],fun i => ?_⟩
    cases i with
    | zero => simp [hx]
    | succ i => simpa using h2 i
theorem forall2_place {place place' : Nat → Option (Nat × Nat)} {h : Array Obj} (e : ∀ i p,place i = some p → place' i = some p) {parts : List (Nat × Value)} {ps : List (Nat × Nat × AV)}
    (f : F2 (fun p q => place p.1 = some (q.1,q.2.1) ∧ Rep G h p.2 q.2.2) parts ps) : F2 (fun p q => place' p.1 = some (q.1,q.2.1) ∧ Rep G h p.2 q.2.2) parts ps := by
  induction f with
  | nil => exact .nil
  | cons hp _ ih => exact .cons ⟨e _ _ hp.1,hp.2⟩ ih
theorem build_sound (I : Inv G H w.heap) {t : TypeId} {zero : List AV} (hz : zeroOf? P t = some zero) (hok : placesOk P t = true) {parts : Array (Nat × Value)} {ps : List (Nat × Nat × AV)}
    (f : F2 (fun p q => placeOf P t p.1 = some (q.1,q.2.1) ∧ Rep G w.heap p.2 q.2.2) parts.toList ps) (hk : fillW zero ps fun l => K (.agg l) H G.c) :
    Run P (Instr.build t parts) G H w K := by
  obtain ⟨it,z,h1,h2,h3,h4,h5⟩ := zeroOf_some hz
  have r0 : RowRep G w.heap z.cells zero := ⟨h4,fun j b hj => h5 _ _ j b hj⟩
  have fin : ∀ (place : Nat → Option (Nat × Nat)),(∀ i p,placeOf P t i = some p → place i = some p) → ((∃ cs,Instr.fill place z.cells parts.toList = some cs) → P.built t parts.toList = Instr.fill place z.cells parts.toList) →
      Run P (Instr.build t parts) G H w K := fun place hp hb => by
    obtain ⟨cs,l,e,r,k⟩ := fill_sound parts.toList ps z.cells zero r0 (forall2_place hp f) hk
    exact Run.here I (run_build w t parts cs ((hb ⟨_,e⟩).trans e)) k (.agg r.1 (fun j b hj => (r.2 j b hj).1) fun j b hj => (r.2 j b hj).2)
  cases hu : P.underlying t with
  | none => simp [placesOk,hu] at hok
  | some d =>
    cases d <;> try (simp [placesOk,hu] at hok; done)
    case array n e =>
      obtain ⟨ie,hie⟩ := Option.isSome_iff_exists.1 (by simpa [placesOk,hu] using hok)
      refine fin (fun i => some (i * ie.size,ie.size)) (fun i p hp => ?_) fun _ => ?_
      · simpa [placeOf,hu,hie] using hp
      · simp [Program.built,h1,hu,h2,hie]
    case struct fs =>
      obtain ⟨places,hp,hq⟩ := mapM_places (P := P) fs.toList (by simpa [placesOk,hu] using hok)
      refine fin (places.toArray[·]?) (fun i p hpi => ?_) fun _ => ?_
      · simp only [List.getElem?_toArray]
        rw [hq i]
        simp only [placeOf,hu] at hpi
        rw [Array.getElem?_toList]
        cases hf : fs[i]? with
        | none => simp [hf] at hpi
        | some x => simpa [hf] using hpi
      · simp [Program.built,h1,hu,h2,hp]
def rowsFillW (rows : List (List AV)) : List (Nat × AV) → (List (List AV) → Prop) → Prop
  | [],K => K rows
  | (i,v) :: rest,K => cellsW v fun l => getW rows i fun row => l.length = row.length ∧ rowsFillW (rows.set i l) rest K
structure RowsRep (G : Gh) (h : Array Obj) (wd : Nat) (cs : Array Value) (rows : List (List AV)) : Prop where
  size : cs.size = rows.length * wd
  w : ∀ (r : Nat) (row : List AV),rows[r]? = some row → row.length = wd
  rep : ∀ (r j : Nat) (row : List AV) (a : AV),rows[r]? = some row → row[j]? = some a → ∃ v,cs[r * wd + j]? = some v ∧ a.cell = true ∧ Rep G h v a
theorem RowsRep.set {h : Array Obj} {wd : Nat} {cs : Array Value} {rows : List (List AV)} (r : RowsRep G h wd cs rows) {v : Value} {l : List AV} (hv : RowRep G h v.cells l) (hl : l.length = wd) {i : Nat} (hi : i < rows.length) :
    RowsRep G h wd (putCells cs (i * wd) v.cells.toList) (rows.set i l) := by
  have hm := mul_lt_of (r := i) (r' := rows.length) (n := 0) (w := wd) hi
  have hvl : v.cells.toList.length = wd := by simpa [hl] using hv.1
  refine ⟨by rw [putCells_size]; simpa using r.size,fun r' row hr' => ?_,fun r' j row a hr' ha => ?_⟩
  · rw [List.getElem?_set] at hr'
    split at hr'
    · rename_i e; subst e; cases hr'; exact hl
    · exact r.w r' row hr'
  · rw [List.getElem?_set] at hr'
    split at hr'
    · rename_i e; subst e; cases hr'
      have hj : j < l.length := (List.getElem?_eq_some_iff.1 ha).1
      refine ⟨v.cells.getD j undef,?_,hv.2 j a ha⟩
      refine putCells_in _ _ _ _ _ (by rw [r.size]; omega) ?_
      rw [Array.getElem?_toList]; exact of_getD (by have := hv.1; omega)
    · rename_i e
      obtain ⟨z,hz,rz⟩ := r.rep r' j row a hr' ha
      have hjw : j < wd := by rw [← r.w r' row hr']; exact (List.getElem?_eq_some_iff.1 ha).1
      refine ⟨z,?_,rz⟩
      rw [putCells_out]
      · exact hz
      · rcases Nat.lt_or_ge r' i with hlt | hge
        · left; have := mul_lt_of (r := r') (r' := i) (n := 0) (w := wd) hlt; omega
        · right; have := mul_lt_of (r := i) (r' := r') (n := 0) (w := wd) (by omega); omega
theorem rowsFill_sound {h : Array Obj} {wd : Nat} {K : List (List AV) → Prop} : ∀ (parts : List (Nat × Value)) (ps : List (Nat × AV)) (cs : Array Value) (rows : List (List AV)),RowsRep G h wd cs rows →
    F2 (fun p q => p.1 = q.1 ∧ Rep G h p.2 q.2) parts ps → rowsFillW rows ps K → ∃ cs' rows',Instr.fill (fun i => some (i * wd,wd)) cs parts = some cs' ∧ RowsRep G h wd cs' rows' ∧ rows'.length = rows.length ∧ K rows' := by
  intro parts
  induction parts with
  | nil => intro ps cs rows r f k; cases f; exact ⟨cs,rows,rfl,r,rfl,k⟩
  | cons p parts ih =>
    intro ps cs rows r f k
    cases f with
    | cons hp hf =>
      rename_i q qs
      obtain ⟨i,v⟩ := p
      obtain ⟨i',a⟩ := q
      obtain ⟨m,⟨row,hrow,hm,k'⟩,h1,h2⟩ := cellsW_rep hp.2 k
      have hi : i = i' := hp.1
      subst hi
      have hil : i < rows.length := (List.getElem?_eq_some_iff.1 hrow).1
      have hrl := r.w i row hrow
      have hv : RowRep G h v.cells m := ⟨h1,h2⟩
      have r' := r.set hv (by omega) hil
      obtain ⟨cs',rows',e,r'',hl,k''⟩ := ih qs _ _ r' hf k'
      refine ⟨cs',rows',?_,r'',by simpa using hl,k''⟩
      have hmul := mul_lt_of (r := i) (r' := rows.length) (n := 0) (w := wd) hil
      have h1' : v.cells.size = m.length := h1
      have h0 := r.size
      simp only [Instr.fill]
      rw [if_neg (by simp; omega),fold_putA]
      exact e
theorem zeros_rep {h : Array Obj} {z : Array Value} {l : List AV} (hz : RowRep G h z l) (n : Nat) : RowsRep G h l.length ((Array.range (n * l.length)).map fun i => z[i % z.size]!) (List.replicate n l) := by
  refine ⟨by simp,fun r row hr => ?_,fun r j row a hr ha => ?_⟩
  · rw [List.getElem?_replicate] at hr
    split at hr <;> cases hr
    rfl
  · rw [List.getElem?_replicate] at hr
    split at hr <;> cases hr
    have hj : j < l.length := (List.getElem?_eq_some_iff.1 ha).1
    rename_i hrn
    have hm := mul_lt_of (r := r) (r' := n) (n := 0) (w := l.length) hrn
    refine ⟨z.getD j undef,?_,hz.2 j a ha⟩
    have hlt : r * l.length + j < n * l.length := by omega
    simp only [Array.getElem?_map,Array.getElem?_range,hlt,if_true,Option.map_some]
    have e : (r * l.length + j) % z.size = j := by
      rw [hz.1,Nat.mul_comm,Nat.mul_add_mod,Nat.mod_eq_of_lt hj]
    rw [e]
    have hjz : j < z.size := by have := hz.1; omega
    simp [hjz]
def bsliceW (w : Nat) (zero : List AV) (len : Nat) (ps : List (Nat × AV)) (H : List AObj) (c : Nat) (K : AV → List AObj → Nat → Prop) : Prop :=
  rowsFillW (List.replicate len zero) ps fun rows => K (.ref H.length c w len) (H ++ [⟨false,c,w,rows⟩]) (c + 1)
theorem ref_new {c : Array Value} {e : TypeId} {fr : Nat × Nat} {i wd len cap : Nat} (h1 : cap * wd ≤ c.size) (h2 : len ≤ cap) (h3 : cap ≤ mx) :
    Rep (G.new w.heap.size) (w.alloc (.cells c e fr)).heap (.slice (some ⟨w.heap.size,0,none⟩) len cap) (.ref i G.c wd len) := by
  have h := Rep.ref (G := G.new w.heap.size) (h := (w.alloc (.cells c e fr)).heap) (i := i) (tag := G.c) (w := wd) (len := len) (cap := cap) (c := c) (e := e) (fr := fr) (by simp [Gh.new])
    (by show (w.heap.push _)[(upd G.m G.c w.heap.size) G.c]? = _; rw [upd_same]; simp) h1 h2 h3
  simpa [Gh.new] using h
theorem bslice_sound (I : Inv G H w.heap) {t e : TypeId} {i : TypeInfo} (ht : sliceElem P t = some (e,i)) {zero : List AV} (hz : zeroOf? P e = some zero) {len : Nat} (hlen : len * i.size ≤ 16777216) (hmx : len ≤ mx)
    {parts : Array (Nat × Value)} {ps : List (Nat × AV)} (f : F2 (fun p q => p.1 = q.1 ∧ Rep G w.heap p.2 q.2) parts.toList ps) (hk : bsliceW i.size zero len ps H G.c K) :
    Run P (Instr.buildSlice t len parts) G H w K := by
  obtain ⟨h1,h2⟩ := sliceElem_some ht
  obtain ⟨it,z,q1,q2,q3,q4,q5⟩ := zeroOf_some hz
  rw [h2] at q1; cases q1
  have r0 : RowsRep G w.heap i.size ((Array.range (len * i.size)).map fun j => z.cells[j % z.cells.size]!) (List.replicate len zero) := by
    rw [← q3]; exact zeros_rep ⟨q4,fun j b hj => q5 _ _ j b hj⟩ len
  obtain ⟨cs,rows,e1,r,hl,k⟩ := rowsFill_sound parts.toList ps _ _ r0 f hk
  simp at hl
  obtain ⟨x,I'⟩ := newObj_good I (cs := cs) (e := e) (wd := i.size) (rows := rows) (by rw [r.size]; omega) (by omega) r.w r.rep (0,0) (fun _ _ h => by omega)
  refine ⟨.slice (some ⟨w.heap.size,0,none⟩) len len,w.alloc (.cells cs e (0,0)),?_,_,_,_,k,x,I',ref_new (by rw [r.size,hl]; omega) (Nat.le_refl _) hmx⟩
  unfold Instr.buildSlice
  simp only [Sem.run_bind,run_underlying h1,Result.andThen_ok,r_sizeOf h2]
  rw [if_neg (by omega)]
  by_cases h0 : len * i.size = 0
  · have ez : (Array.range 0 : Array Nat) = #[] := rfl
    rw [h0,ez,Array.map_empty] at e1
    simp only [h0,if_true,Sem.run_pure,Result.andThen_ok,ez,Array.map_empty,e1,newRow,Sem.run_bind,run_newObj]
    rfl
  · simp only [h0,if_false,Sem.run_bind,r_zero h2 q2,Result.andThen_ok,Sem.run_pure,e1,newRow,run_newObj]
    rfl
end
section
variable {P : Program} {G : Gh} {H : List AObj} {w : World} {K : AV → List AObj → Nat → Prop}
def fieldW (off : Nat) (ag : Option Nat) (x : AV) (K : AV → Prop) : Prop :=
  match x with
  | .agg cells => rowW ag cells off K
  | _ => False
theorem field_sound (I : Inv G H w.heap) {t : TypeId} {f off : Nat} {ft : TypeId} (ht : fieldOff P t f = some (off,ft)) {ag : Option Nat} (hag : agOf P ft = some ag) {v : Value} {x : AV} (r : Rep G w.heap v x)
    (hk : fieldW off ag x (fun v => K v H G.c)) : Run P (Instr.field t v f) G H w K := by
  obtain ⟨fs,fd,i,h1,h2,rfl,rfl,h3,h4⟩ := fieldOff_some ht
  cases r <;> simp only [fieldW] at hk
  case agg cs cells hs hcl hr =>
    have hrun : (Instr.field t (.agg cs) f).run P w = (part fd.type cs fd.offset).run P w := by
      unfold Instr.field
      simp only [Sem.run_bind,run_underlying h1,Result.andThen_ok,h2,asAgg,Sem.run_pure]
    cases ag with
    | none =>
      obtain ⟨d,i',q1,q2,q3,q4⟩ := agOf_none hag
      obtain ⟨a,ha,k⟩ := hk
      have hl : fd.offset < cs.size := by rw [hs]; exact (List.getElem?_eq_some_iff.1 ha).1
      refine Run.here I (v := cs.getD fd.offset undef) ?_ k (hr _ _ ha)
      rw [hrun]
      unfold part
      simp only [Sem.run_bind,r_isAgg q1,q4,Result.andThen_ok,Bool.false_eq_true,if_false,of_getD hl,Sem.run_pure]
    | some n =>
      obtain ⟨d,i',q1,q2,q3,q4⟩ := agOf_some hag
      obtain ⟨hl,k⟩ := hk
      have hget : ∀ (j : Nat) (b : AV),((cells.drop fd.offset).take n)[j]? = some b → j < n ∧ cells[fd.offset + j]? = some b := fun j b hj => by
        have hjn : j < n := by have := (List.getElem?_eq_some_iff.1 hj).1; simp at this; omega
        rw [List.getElem?_take_of_lt hjn,List.getElem?_drop] at hj
        exact ⟨hjn,hj⟩
      refine Run.here I (v := .agg (cs.extract fd.offset (fd.offset + n))) ?_ k (.agg (by simp; omega) (fun j b hj => hcl _ _ (hget j b hj).2) fun j b hj => ?_)
      · rw [hrun]
        unfold part
        simp only [Sem.run_bind,r_isAgg q1,q4,Result.andThen_ok,if_true,r_sizeOf q2,q3,Sem.run_pure]
      · obtain ⟨hjn,hj'⟩ := hget j b hj
        have hjl := (List.getElem?_eq_some_iff.1 hj').1
        have := hr _ _ hj'
        have e : (cs.extract fd.offset (fd.offset + n)).getD j undef = cs.getD (fd.offset + j) undef := by
          refine getD_of ?_
          rw [Array.getElem?_extract]
          rw [if_pos (by omega)]
          exact of_getD (by omega)
        rw [e]; exact this
  all_goals exact hk.elim
def indexW (x i : AV) (K : AV → Prop) : Prop :=
  match x,i with
  | .str l,.int _ n => 0 ≤ n ∧ getW l n.toNat fun b => K (.int .u8 b.toNat)
  | _,_ => False
theorem ba_get {s : ByteArray} {n : Nat} : s[n]? = s.data.toList[n]? := by
  by_cases h : n < s.size
  · rw [ByteArray.getElem?_lt' s n h]
    have : n < s.data.toList.length := by simpa using h
    rw [List.getElem?_eq_getElem this]; rfl
  · rw [ByteArray.getElem?_ge' s n h]
    rw [List.getElem?_eq_none (by simpa using h)]
theorem iok_u8 (b : UInt8) : IOk .u8 b.toNat := by
  have := b.toNat_lt
  constructor <;> simp [IntKind.min,IntKind.max,IntKind.signed,IntKind.bits]
  omega
theorem index_sound (I : Inv G H w.heap) {t : TypeId} (ht : P.underlying t = some .string) {u v : Value} {x i : AV} (rx : Rep G w.heap u x) (ri : Rep G w.heap v i) (hk : indexW x i (fun v => K v H G.c)) :
    Run P (Instr.index t u v) G H w K := by
  cases rx <;> simp only [indexW] at hk
  case str s l e hl =>
    cases ri <;> simp only at hk
    case int k n hn =>
      obtain ⟨h0,b,hb,k'⟩ := hk
      subst e
      refine Run.here I (v := .int .u8 b.toNat) ?_ k' (.int (iok_u8 b))
      unfold Instr.index
      simp only [asIntOf,Sem.run_bind,Sem.run_pure,run_underlying ht,Result.andThen_ok,h0,if_true,ba_get,hb]
    all_goals exact hk.elim
  all_goals exact hk.elim
def bndW (x : Option AV) (d : Nat) (K : Nat → Prop) : Prop :=
  match x with
  | none => K d
  | some (.int _ n) => 0 ≤ n ∧ K n.toNat
  | _ => False
def strSliceW (x : AV) (lo hi : Option AV) (K : AV → Prop) : Prop :=
  match x with
  | .str l => bndW lo 0 fun a => bndW hi l.length fun b => a ≤ b ∧ b ≤ l.length ∧ K (.str ((l.take b).drop a))
  | _ => False
def slcSliceW (w : Nat) (x : AV) (lo hi : Option AV) (K : AV → Prop) : Prop :=
  match x with
  | .slc tag w' rows => w' = w ∧ bndW lo 0 fun a => bndW hi rows.length fun b => a ≤ b ∧ b ≤ rows.length ∧ K (.slc tag w' ((rows.take b).drop a))
  | .ref i tag w' len => w' = w ∧ bndW lo 0 fun a => bndW hi len fun b => if a = 0 then b ≤ len ∧ K (.ref i tag w' b) else a ≤ b ∧ b ≤ len ∧ K (.sub i tag w' a (b - a))
  | _ => False
inductive OptRep (G : Gh) (h : Array Obj) : Option Value → Option AV → Prop
  | none : OptRep G h none none
  | some {v : Value} {a : AV} (r : Rep G h v a) : OptRep G h (some v) (some a)
theorem bound_hi {b : Bool} {lo hi : Option Value} {x y : Option AV} {len cap d : Nat} (rx : OptRep G w.heap lo x) (ry : OptRep G w.heap hi y) {K' : Nat → Nat → Prop}
    (k : bndW x 0 fun a => bndW y len fun c => a ≤ c ∧ c ≤ cap ∧ K' a c) : ∃ a c,a ≤ c ∧ c ≤ cap ∧ K' a c ∧ (Instr.sliceBounds b len cap lo hi none).run P w = .ok (a,c,cap) w := by
  cases rx with
  | none =>
    cases ry with
    | none =>
      obtain ⟨h1,h2,k'⟩ : (0 ≤ len ∧ len ≤ cap ∧ K' 0 len) := k
      exact ⟨0,len,h1,h2,k',by simp [Instr.sliceBounds]⟩
    | some r =>
      cases r <;> simp only [bndW] at k
      case int kk n hn =>
        obtain ⟨h0,h1,h2,k'⟩ := k
        refine ⟨0,n.toNat,h1,h2,k',?_⟩
        have hc : 0 ≤ n ∧ n ≤ cap := by omega
        simp [Instr.sliceBounds,Instr.sliceBound,asIntOf,hc]
      all_goals exact k.elim
  | some r =>
    cases r <;> simp only [bndW] at k
    case int kk n hn =>
      obtain ⟨h0,k⟩ := k
      cases ry with
      | none =>
        obtain ⟨h1,h2,k'⟩ : n.toNat ≤ len ∧ len ≤ cap ∧ K' n.toNat len := k
        refine ⟨n.toNat,len,h1,h2,k',?_⟩
        have hc : 0 ≤ n ∧ n ≤ len := by omega
        simp [Instr.sliceBounds,Instr.sliceBound,asIntOf,hc]
      | some r' =>
        cases r' <;> simp only at k
        case int kk' m hm =>
          obtain ⟨h3,h1,h2,k'⟩ := k
          refine ⟨n.toNat,m.toNat,h1,h2,k',?_⟩
          have hc : 0 ≤ m ∧ m ≤ cap := by omega
          have hd : 0 ≤ n ∧ n ≤ (m.toNat : Int) := by omega
          simp only [Instr.sliceBounds,Instr.sliceBound,asIntOf,Sem.run_bind,Sem.run_pure,Result.andThen_ok,hc,and_self,if_true,hd,Option.isSome_none,Bool.false_eq_true,if_false]
        all_goals exact k.elim
    all_goals exact k.elim
theorem bndW_mono {x : Option AV} {d : Nat} {K K' : Nat → Prop} (h : ∀ n,K n → K' n) (k : bndW x d K) : bndW x d K' := by
  unfold bndW at *
  split at k
  · exact h _ k
  · exact ⟨k.1,h _ k.2⟩
  · exact k.elim
theorem ba_extract (s : ByteArray) (a b : Nat) (h : b ≤ s.size) : (s.extract a b).data.toList = (s.data.toList.take b).drop a := by
  rw [ByteArray.data_extract,Array.toList_extract]
  simp [List.drop_take]
theorem strSlice_sound (I : Inv G H w.heap) {t : TypeId} (ht : P.underlying t = some .string) {u : Value} {lo hi : Option Value} {x : AV} {y z : Option AV} (rx : Rep G w.heap u x) (ry : OptRep G w.heap lo y) (rz : OptRep G w.heap hi z)
    (hk : strSliceW x y z (fun v => K v H G.c)) : Run P (Instr.sliceAt t u lo hi none) G H w K := by
  cases rx <;> simp only [strSliceW] at hk
  case str s l e hl =>
    subst e
    have hsz : s.data.toList.length = s.size := by cases s; rfl
    rw [hsz] at hk
    obtain ⟨a,b,h1,h2,k',hrun⟩ := bound_hi (P := P) (b := false) (d := 0) ry rz hk
    refine Run.here I (v := .string (s.extract a b)) ?_ k' (.str (ba_extract s a b h2) (by simp; omega))
    unfold Instr.sliceAt
    simp only [Sem.run_bind,run_underlying ht,Result.andThen_ok,Instr.slice,Option.isSome_none,Bool.false_eq_true,if_false,Sem.run_pure,hrun]
  all_goals exact hk.elim
theorem run_slice {t e : TypeId} {i : TypeInfo} (ht : sliceElem P t = some (e,i)) {a : Option Addr} {len cap : Nat} {lo hi : Option Value} {l h : Nat} (hb : (Instr.sliceBounds true len cap lo hi none).run P w = .ok (l,h,cap) w) :
    (Instr.sliceAt t (.slice a len cap) lo hi none).run P w = .ok (.slice (if cap = l then a else a.map (·.add (l * i.size))) (h - l) (cap - l)) w := by
  obtain ⟨h1,h2⟩ := sliceElem_some ht
  unfold Instr.sliceAt
  simp only [Sem.run_bind,run_underlying h1,Result.andThen_ok,Instr.slice,hb,r_sizeOf h2,Sem.run_pure]
def slice3W (w : Nat) (x h m : AV) (K : AV → Prop) : Prop :=
  match x,h,m with
  | .ref i t w' len,.int _ a,.int _ b => w' = w ∧ 0 ≤ a ∧ a ≤ b ∧ b ≤ len ∧ K (.ref i t w a.toNat)
  | _,_,_ => False
theorem slice3W_inv {w : Nat} {x h m : AV} {K : AV → Prop} (hk : slice3W w x h m K) : ∃ i t len k a k' b,x = .ref i t w len ∧ h = .int k a ∧ m = .int k' b ∧ 0 ≤ a ∧ a ≤ b ∧ b ≤ (len : Int) ∧ K (.ref i t w a.toNat) := by
  unfold slice3W at hk
  split at hk
  · obtain ⟨rfl,h1,h2,h3,h4⟩ := hk
    exact ⟨_,_,_,_,_,_,_,rfl,rfl,rfl,h1,h2,h3,h4⟩
  · exact hk.elim
theorem slice3_sound (I : Inv G H w.heap) {t e : TypeId} {i : TypeInfo} (ht : sliceElem P t = some (e,i)) {u hv mv : Value} {x y z : AV} (rx : Rep G w.heap u x) (ry : Rep G w.heap hv y)
    (rz : Rep G w.heap mv z) (hk : slice3W i.size x y z (fun v => K v H G.c)) : Run P (Instr.sliceAt t u none (some hv) (some mv)) G H w K := by
  obtain ⟨j,tag,len,k,a,k',b,rfl,rfl,rfl,g0,g1,g2,hk⟩ := slice3W_inv hk
  cases ry
  cases rz
  cases rx with
  | @ref _ _ _ _ cap c e' fr hc hb h1 h2 h3 =>
    obtain ⟨q1,q2⟩ := sliceElem_some ht
    have hm : 0 ≤ b ∧ b ≤ cap := by omega
    have hh : 0 ≤ a ∧ a ≤ (b.toNat : Int) := by omega
    have hrun : (Instr.sliceBounds true len cap none (some (.int k a)) (some (.int k' b))).run P w = .ok (0,a.toNat,b.toNat) w := by
      simp only [Instr.sliceBounds,Instr.sliceBound,asIntOf,Sem.run_bind,Sem.run_pure,Result.andThen_ok,hm,and_self,if_true,hh]
    refine Run.here I (v := .slice (some ⟨G.m tag,0,none⟩) a.toNat b.toNat) ?_ hk (.ref hc hb (Nat.le_trans (Nat.mul_le_mul_right _ (by omega)) h1) (by omega) (by omega))
    unfold Instr.sliceAt
    simp only [Sem.run_bind,run_underlying q1,Result.andThen_ok,Instr.slice,hrun,r_sizeOf q2,Sem.run_pure]
    have e1 : (if b.toNat = 0 then some (⟨G.m tag,0,none⟩ : Addr) else (some (⟨G.m tag,0,none⟩ : Addr)).map (·.add (0 * i.size))) = some ⟨G.m tag,0,none⟩ := by
      split
      · rfl
      · simp [addr_add]
    rw [e1,Nat.sub_zero,Nat.sub_zero]
theorem slcSlice_sound (I : Inv G H w.heap) {t e : TypeId} {i : TypeInfo} (ht : sliceElem P t = some (e,i)) {u : Value} {lo hi : Option Value} {x : AV} {y z : Option AV} (rx : Rep G w.heap u x) (ry : OptRep G w.heap lo y)
    (rz : OptRep G w.heap hi z) (hk : slcSliceW i.size x y z (fun v => K v H G.c)) : Run P (Instr.sliceAt t u lo hi none) G H w K := by
  cases rx <;> simp only [slcSliceW] at hk
  case slc0 a cap tag wd =>
    obtain ⟨rfl,hk⟩ := hk
    have hk' : bndW y 0 fun a => bndW z 0 fun b => a ≤ b ∧ b ≤ cap ∧ (b = 0 ∧ K (.slc tag i.size []) H G.c) :=
      bndW_mono (fun _ k => bndW_mono (fun n k => ⟨k.1,by have := k.2.1; simp at this; omega,by simpa using k.2.1,by simpa using k.2.2⟩) k) hk
    obtain ⟨l,h,h1,h2,⟨rfl,k'⟩,hrun⟩ := bound_hi (P := P) (b := true) (d := 0) ry rz hk'
    have hl : l = 0 := by omega
    subst hl
    exact Run.here I (run_slice ht hrun) k' .slc0
  case slc tag wd off cap rows f hF hc hlen hcap hw hcell hcl hrep =>
    obtain ⟨rfl,hk⟩ := hk
    have hk' : bndW y 0 fun a => bndW z rows.length fun b => a ≤ b ∧ b ≤ cap ∧ (b ≤ rows.length ∧ K (.slc tag i.size ((rows.take b).drop a)) H G.c) :=
      bndW_mono (fun _ k => bndW_mono (fun n k => ⟨k.1,by have := k.2.1; omega,k.2.1,k.2.2⟩) k) hk
    obtain ⟨l,h,h1,h2,⟨h3,k'⟩,hrun⟩ := bound_hi (P := P) (b := true) (d := 0) ry rz hk'
    refine Run.here I (run_slice ht hrun) k' ?_
    by_cases he : h = l
    · subst he
      have : (rows.take h).drop h = [] := by apply List.drop_eq_nil_of_le; simp; omega
      rw [this,Nat.sub_self]
      exact .slc0
    · rw [if_neg (by omega)]
      simp only [Option.map_some,addr_add]
      have hl' : ((rows.take h).drop l).length = h - l := by simp; omega
      have hg : ∀ (r : Nat) (row : List AV),((rows.take h).drop l)[r]? = some row → rows[l + r]? = some row := fun r row hr => by
        have := (List.getElem?_eq_some_iff.1 hr).1
        rw [List.getElem?_drop,List.getElem?_take_of_lt (by omega)] at hr
        exact hr
      rw [← hl']
      refine .slc (fun r o => f (l + r) o) hF hc (by omega) (by omega) (fun r row hr => hw _ _ (hg r row hr)) (fun r o row a hr ha => ?_) (fun r o row a hr ha => hcl _ _ _ _ (hg r row hr) ha) (fun r o row a hr ha => hrep _ _ _ _ (hg r row hr) ha)
      have := hcell _ _ _ _ (hg r row hr) ha
      rw [← this]
      congr 1
      rw [Nat.add_mul]; omega
  case ref j tag wd len cap c e' fr hc hb h1 h2 h3 =>
    obtain ⟨rfl,hk⟩ := hk
    have hk' : bndW y 0 fun a => bndW z len fun b => a ≤ b ∧ b ≤ cap ∧ (b ≤ len ∧ if a = 0 then K (.ref j tag i.size b) H G.c else K (.sub j tag i.size a (b - a)) H G.c) :=
      bndW_mono (fun a k => bndW_mono (fun b k => by
        by_cases ha : a = 0
        · rw [if_pos ha] at k ⊢; exact ⟨by omega,by omega,k.1,k.2⟩
        · rw [if_neg ha] at k ⊢; exact ⟨k.1,by omega,k.2.1,k.2.2⟩) k) hk
    obtain ⟨l,h,q1,q2,⟨q3,k'⟩,hrun⟩ := bound_hi (P := P) (b := true) (d := 0) ry rz hk'
    by_cases hl0 : l = 0
    rotate_left
    · rw [if_neg hl0] at k'
      refine Run.here I (run_slice ht hrun) k' ?_
      by_cases he : h = l
      · subst he
        rw [Nat.sub_self]
        exact .sub0
      rw [if_neg (by omega)]
      simp only [Option.map_some,addr_add,Nat.zero_add]
      refine .sub hc hb ?_ (by omega) (by omega)
      rw [show l + (cap - l) = cap by omega]
      exact h1
    subst hl0
    rw [if_pos rfl] at k'
    refine Run.here I (run_slice ht hrun) k' ?_
    have e1 : (if cap = 0 then some (⟨G.m tag,0,none⟩ : Addr) else (some (⟨G.m tag,0,none⟩ : Addr)).map (·.add (0 * i.size))) = some ⟨G.m tag,0,none⟩ := by
      split
      · rfl
      · simp [addr_add]
    rw [e1,Nat.sub_zero,Nat.sub_zero]
    exact .ref hc hb h1 (by omega) (by omega)
  all_goals exact hk.elim
theorem iok_len {n : Nat} (h : n ≤ mx) : IOk .i64 n := by
  unfold mx at h
  constructor <;> simp [IntKind.min,IntKind.max,IntKind.signed,IntKind.bits] <;> omega
def lenOk (P : Program) (t : TypeId) : Bool :=
  match P.underlying t with
  | some .string | some (.slice _) | some (.map ..) => true
  | _ => false
def isStrT (P : Program) (t : TypeId) : Bool := match P.underlying t with | some .string => true | _ => false
def isSlcT (P : Program) (t : TypeId) : Bool := match P.underlying t with | some (.slice _) => true | _ => false
def isMapT (P : Program) (t : TypeId) : Bool := match P.underlying t with | some (.map ..) => true | _ => false
theorem isStrT_spec {t : TypeId} (h : isStrT P t = true) : P.underlying t = some .string := by unfold isStrT at h; split at h <;> first | assumption | cases h
theorem isSlcT_spec {t : TypeId} (h : isSlcT P t = true) : ∃ e,P.underlying t = some (.slice e) := by unfold isSlcT at h; split at h <;> first | exact ⟨_,by assumption⟩ | cases h
theorem isMapT_spec {t : TypeId} (h : isMapT P t = true) : ∃ k e,P.underlying t = some (.map k e) := by unfold isMapT at h; split at h <;> first | exact ⟨_,_,by assumption⟩ | cases h
def lenStrW (x : AV) (K : AV → Prop) : Prop := match x with | .str l => K (.int .i64 l.length) | _ => False
def lenSlcW (x : AV) (K : AV → Prop) : Prop :=
  match x with
  | .slc _ _ rows => K (.int .i64 rows.length)
  | .ref _ _ _ len => K (.int .i64 len)
  | .sub _ _ _ _ len => K (.int .i64 len)
  | .nsl => K (.int .i64 0)
  | _ => False
def lenMapW (x : AV) (H : List AObj) (K : AV → Prop) : Prop :=
  match x with
  | .mref i tag => getW H i fun ob => ob.tag = tag ∧ ob.mp = true ∧ K (.int .i64 ob.rows.length)
  | _ => False
theorem lenStr_sound (I : Inv G H w.heap) {t ty : TypeId} (ht : isStrT P t = true) {v : Value} {x : AV} (r : Rep G w.heap v x) (hk : lenStrW x (fun v => K v H G.c)) : Run P (Builtin.len_ #[t] ty #[v]) G H w K := by
  cases r <;> simp only [lenStrW] at hk
  case str s l e hl =>
    subst e
    exact Run.here I (v := .int .i64 s.data.toList.length) (by simp [Builtin.len_,run_underlying (isStrT_spec ht),goInt]) hk (.int (iok_len hl))
  all_goals exact hk.elim
theorem lenSlc_sound (I : Inv G H w.heap) {t ty : TypeId} (ht : isSlcT P t = true) {v : Value} {x : AV} (r : Rep G w.heap v x) (hk : lenSlcW x (fun v => K v H G.c)) : Run P (Builtin.len_ #[t] ty #[v]) G H w K := by
  obtain ⟨e,he⟩ := isSlcT_spec ht
  cases r <;> simp only [lenSlcW] at hk
  case nsl => exact Run.here I (v := .int .i64 0) (by simp [Builtin.len_,run_underlying he,goInt]) hk (.int (iok_len (n := 0) (Nat.zero_le _)))
  case slc0 => exact Run.here I (v := .int .i64 0) (by simp [Builtin.len_,run_underlying he,goInt]) hk (.int (iok_len (n := 0) (Nat.zero_le _)))
  case slc tag wd off cap rows f hF hc hlen hcap hw hcell hcl hrep =>
    exact Run.here I (v := .int .i64 rows.length) (by simp [Builtin.len_,run_underlying he,goInt]) hk (.int (iok_len hlen))
  case ref j tag wd len cap c e' fr hc hb h1 h2 h3 =>
    exact Run.here I (v := .int .i64 len) (by simp [Builtin.len_,run_underlying he,goInt]) hk (.int (iok_len (Nat.le_trans h2 h3)))
  case sub0 => exact Run.here I (v := .int .i64 0) (by simp [Builtin.len_,run_underlying he,goInt]) hk (.int (iok_len (n := 0) (Nat.zero_le _)))
  case sub j tag wd off len cap c e' fr hc hb h1 h2 h3 =>
    exact Run.here I (v := .int .i64 len) (by simp [Builtin.len_,run_underlying he,goInt]) hk (.int (iok_len h3))
  all_goals exact hk.elim
theorem lenMap_sound (I : Inv G H w.heap) {t ty : TypeId} (ht : isMapT P t = true) {v : Value} {x : AV} (r : Rep G w.heap v x) (hk : lenMapW x H (fun v => K v H G.c)) : Run P (Builtin.len_ #[t] ty #[v]) G H w K := by
  obtain ⟨ke,e,he⟩ := isMapT_spec ht
  cases r <;> simp only [lenMapW] at hk
  case mref i tag hc =>
    obtain ⟨ob,hob,rfl,hmp,hk⟩ := hk
    obtain ⟨es,clock,h1,h2,h3,h4⟩ := (I.obj ob (List.mem_of_getElem? hob)).mlies hmp
    refine Run.here I (v := .int .i64 ob.rows.length) ?_ hk (.int (iok_len h3))
    have hg : (getObj (G.m ob.tag)).run P w = .ok (.map es clock) w := by simp only [getObj,Sem.run,h1]
    simp [Builtin.len_,run_underlying he,goInt,hg,h2]
  all_goals exact hk.elim
def extractW (x : AV) (i : Nat) (K : AV → Prop) : Prop := match x with | .tup vs => getW vs i K | _ => False
theorem extract_sound (I : Inv G H w.heap) {v : Value} {x : AV} {i : Nat} (r : Rep G w.heap v x) (hk : extractW x i (fun v => K v H G.c)) : Run P (Instr.extract v i) G H w K := by
  cases r <;> simp only [extractW] at hk
  case tup cs vs hs hr =>
    obtain ⟨a,ha,k⟩ := hk
    have hl : i < cs.size := by rw [hs]; exact (List.getElem?_eq_some_iff.1 ha).1
    exact Run.here I (v := cs.getD i undef) (by unfold Instr.extract; simp only [of_getD hl,Sem.run_pure]) k (hr _ _ ha)
  all_goals exact hk.elim
end
section
variable {P : Program} {G : Gh} {H : List AObj} {w : World} {K : AV → List AObj → Nat → Prop}
def byteRow (b : UInt8) : List AV := [.int .u8 b.toNat]
def srcW (wd : Nat) (y : AV) (H : List AObj) (K : List (List AV) → Prop) : Prop :=
  match y with
  | .slc _ w' rows => w' = wd ∧ K rows
  | .ref j tag w' len => w' = wd ∧ getW H j fun ob => ob.tag = tag ∧ ob.mp = false ∧ ob.w = w' ∧ len ≤ ob.rows.length ∧ K (ob.rows.take len)
  | .sub j tag w' off len => w' = wd ∧ getW H j fun ob => ob.tag = tag ∧ ob.mp = false ∧ ob.w = w' ∧ off + len ≤ ob.rows.length ∧ K ((ob.rows.drop off).take len)
  | .nsl => K []
  | .str l => wd = 1 ∧ K (l.map byteRow)
  | _ => False
theorem flat_div {n wd j : Nat} (h : j < n * wd) : j / wd < n ∧ j % wd < wd ∧ j = j / wd * wd + j % wd := by
  have hw : 0 < wd := by
    rcases Nat.eq_zero_or_pos wd with h0 | h0
    · subst h0; simp at h
    · exact h0
  refine ⟨(Nat.div_lt_iff_lt_mul hw).2 h,Nat.mod_lt _ hw,?_⟩
  have := Nat.div_add_mod j wd
  rw [Nat.mul_comm] at this; omega
theorem load_rows {b off wd : Nat} {rows : List (List AV)} (hw : ∀ (r : Nat) (row : List AV),rows[r]? = some row → row.length = wd)
    (hr : ∀ (r j : Nat) (row : List AV) (a : AV),rows[r]? = some row → row[j]? = some a → ∃ v,hcell w.heap b (off + r * wd + j) = some v ∧ a.cell = true ∧ Rep G w.heap v a) :
    ∃ cs,(∀ w' : World,w'.heap = w.heap → (loadCells ⟨b,off,none⟩ (rows.length * wd)).run P w' = .ok cs w') ∧ RowsRep G w.heap wd cs rows := by
  have hf : ∀ j,j < rows.length * wd → hcell w.heap b (off + j) = some ((hcell w.heap b (off + j)).getD undef) := fun j hj => by
    obtain ⟨h1,h2,h3⟩ := flat_div hj
    have hrow : rows[j / wd]? = some rows[j / wd] := List.getElem?_eq_getElem h1
    have hl := hw _ _ hrow
    obtain ⟨v,hv,_⟩ := hr (j / wd) (j % wd) _ _ hrow (List.getElem?_eq_getElem (by omega))
    rw [Nat.add_assoc,← h3] at hv
    rw [hv]; rfl
  refine ⟨_,fun w' e => run_loadCells P w' b off _ _ (fun j hj => by rw [e]; exact hf j hj),⟨by simp,hw,fun r j row a h1 h2 => ?_⟩⟩
  obtain ⟨v,hv,hc,rv⟩ := hr r j row a h1 h2
  refine ⟨v,?_,hc,rv⟩
  have hj : j < wd := by rw [← hw r row h1]; exact (List.getElem?_eq_some_iff.1 h2).1
  have hrl : r < rows.length := (List.getElem?_eq_some_iff.1 h1).1
  have hm := mul_lt_of (r := r) (r' := rows.length) (n := 0) (w := wd) hrl
  have hlt : r * wd + j < rows.length * wd := by omega
  rw [Nat.add_assoc] at hv
  simp [hlt,hv]
theorem src_sound (I : Inv G H w.heap) {wd : Nat} {v : Value} {y : AV} (r : Rep G w.heap v y) {K' : List (List AV) → Prop} (hk : srcW wd y H K') :
    ∃ cs rows,(∀ w' : World,w'.heap = w.heap → (Builtin.lenOf v).run P w' = .ok rows.length w' ∧ (Builtin.firstCells wd rows.length v).run P w' = .ok cs w') ∧ RowsRep G w.heap wd cs rows ∧ K' rows := by
  cases r <;> simp only [srcW] at hk
  case nsl => exact ⟨#[],[],fun _ _ => ⟨rfl,rfl⟩,⟨by simp,by simp,by simp⟩,hk⟩
  case slc0 a cap tag w' =>
    obtain ⟨rfl,hk⟩ := hk
    refine ⟨#[],[],fun w' _ => ⟨rfl,?_⟩,⟨by simp,by simp,by simp⟩,hk⟩
    cases a with
    | none => rfl
    | some a => simp [Builtin.firstCells,loadCells,loadCellsFrom]
  case slc tag w' off cap rows f hF hc hlen hcap hw hcell hcl hrep =>
    obtain ⟨rfl,hk⟩ := hk
    obtain ⟨cs,h1,h2⟩ := load_rows (P := P) (w := w) (G := G) hw (fun r j row a q1 q2 => ⟨_,hcell r j row a q1 q2,hcl r j row a q1 q2,hrep r j row a q1 q2⟩)
    exact ⟨cs,rows,fun w' e => ⟨rfl,h1 w' e⟩,h2,hk⟩
  case ref j tag w' len cap c e fr hc hb h1 h2 h3 =>
    obtain ⟨rfl,ob,hob,rfl,hmp,hw',hlen,hk⟩ := hk
    subst hw'
    obtain ⟨c',e',fr',q1,q2,q3,q4,q5,q6⟩ := (I.obj ob (List.mem_of_getElem? hob)).lies hmp
    have hl : (ob.rows.take len).length = len := by simp; omega
    have hg : ∀ (r : Nat) (row : List AV),(ob.rows.take len)[r]? = some row → ob.rows[r]? = some row := fun r row h => by
      have := (List.getElem?_eq_some_iff.1 h).1
      rwa [List.getElem?_take_of_lt (by omega)] at h
    obtain ⟨cs,p1,p2⟩ := load_rows (P := P) (w := w) (G := G) (b := G.m ob.tag) (off := 0) (wd := ob.w) (rows := ob.rows.take len) (fun r row h => q5 r row (hg r row h)) (fun r j row a h ha => by
      obtain ⟨v,hv,hcl,rv⟩ := q6 r j row a (hg r row h) ha
      exact ⟨v,by rw [hcell_of q1,Nat.zero_add]; exact hv,hcl,rv⟩)
    rw [hl] at p1
    exact ⟨cs,ob.rows.take len,fun w' e => ⟨by rw [hl]; rfl,by rw [hl]; exact p1 w' e⟩,p2,hk⟩
  case sub0 a j tag w' off cap =>
    obtain ⟨rfl,ob,hob,rfl,hmp,hw',hlen,hk⟩ := hk
    rw [List.take_zero] at hk
    refine ⟨#[],[],fun w' _ => ⟨rfl,?_⟩,⟨by simp,by simp,by simp⟩,hk⟩
    cases a with
    | none => rfl
    | some a => simp [Builtin.firstCells,loadCells,loadCellsFrom]
  case sub j tag w' off len cap c e fr hc hb h1 h2 h3 =>
    obtain ⟨rfl,ob,hob,rfl,hmp,hw',hlen,hk⟩ := hk
    subst hw'
    obtain ⟨c',e',fr',q1,q2,q3,q4,q5,q6⟩ := (I.obj ob (List.mem_of_getElem? hob)).lies hmp
    have hl : ((ob.rows.drop off).take len).length = len := by simp; omega
    have hg : ∀ (r : Nat) (row : List AV),((ob.rows.drop off).take len)[r]? = some row → ob.rows[off + r]? = some row := fun r row h => by
      have := (List.getElem?_eq_some_iff.1 h).1
      rwa [List.getElem?_take_of_lt (by omega),List.getElem?_drop] at h
    obtain ⟨cs,p1,p2⟩ := load_rows (P := P) (w := w) (G := G) (b := G.m ob.tag) (off := off * ob.w) (wd := ob.w) (rows := (ob.rows.drop off).take len) (fun r row h => q5 _ row (hg r row h)) (fun r j row a h ha => by
      obtain ⟨v,hv,hcl,rv⟩ := q6 _ j row a (hg r row h) ha
      exact ⟨v,by rw [hcell_of q1,← Nat.add_mul]; exact hv,hcl,rv⟩)
    rw [hl] at p1
    exact ⟨cs,(ob.rows.drop off).take len,fun w' e => ⟨by rw [hl]; rfl,by rw [hl]; exact p1 w' e⟩,p2,hk⟩
  case str s l e hl =>
    obtain ⟨rfl,hk⟩ := hk
    subst e
    have hsz : s.data.toList.length = s.size := by cases s; rfl
    refine ⟨s.data.map fun b => .int .u8 b.toNat,s.data.toList.map byteRow,fun w' _ => ⟨by simp [Builtin.lenOf],?_⟩,⟨by simp,fun r row h => ?_,fun r j row a h ha => ?_⟩,hk⟩
    · have : s.extract 0 s.size = s := by
        apply ByteArray.ext
        rw [ByteArray.data_extract]; exact Array.extract_size
      simp only [Builtin.firstCells,List.length_map,hsz,this,Sem.run_pure]
    · simp at h; obtain ⟨b,_,rfl⟩ := h; rfl
    · simp at h; obtain ⟨b,hb,rfl⟩ := h
      cases j with
      | zero =>
        simp [byteRow] at ha; subst ha
        refine ⟨.int .u8 b.toNat,?_,rfl,.int (iok_u8 b)⟩
        simp
        exact ⟨b,by rw [← Array.getElem?_toList]; simpa using hb,rfl⟩
      | succ j => simp [byteRow] at ha
  all_goals exact hk.elim
def cutW (rows : List (List AV)) (n : Nat) (K : List (List AV) → Prop) : Prop := n ≤ rows.length ∧ K (rows.take n)
def appendW (wd bytes : Nat) (x y : AV) (H : List AObj) (c : Nat) (K : AV → List AObj → Nat → Prop) : Prop :=
  srcW wd y H fun rows' =>
    match x with
    | .nsl => (rows' = [] → K .nsl H c) ∧ (rows' ≠ [] → rows'.length * bytes ≤ 140737488355328 ∧ rows'.length ≤ mx ∧ K (.ref H.length c wd rows'.length) (H ++ [⟨false,c,wd,rows'⟩]) (c + 1))
    | .ref i tag w' len => w' = wd ∧ getW H i fun ob => ob.tag = tag ∧ ob.mp = false ∧ ob.w = w' ∧ cutW ob.rows len fun rs => (len + rows'.length) * bytes ≤ 140737488355328 ∧ len + rows'.length ≤ mx ∧
        K (.ref i c wd (len + rows'.length)) (H.set i ⟨false,c,wd,rs ++ rows'⟩) (c + 1)
    | _ => False
theorem rows_append {h : Array Obj} {wd : Nat} {cs cs' : Array Value} {rows rows' : List (List AV)} (r : RowsRep G h wd cs rows) (r' : RowsRep G h wd cs' rows') : RowsRep G h wd (cs ++ cs') (rows ++ rows') := by
  refine ⟨by simp [r.size,r'.size,Nat.add_mul],fun i row hi => ?_,fun i j row a hi ha => ?_⟩
  · rw [List.getElem?_append] at hi
    split at hi
    · exact r.w i row hi
    · exact r'.w _ row hi
  · rw [List.getElem?_append] at hi
    have hj := (List.getElem?_eq_some_iff.1 ha).1
    split at hi
    · rename_i hl
      obtain ⟨v,hv,x⟩ := r.rep i j row a hi ha
      exact ⟨v,by rw [Array.getElem?_append_left (Array.getElem?_eq_some_iff.1 hv).1]; exact hv,x⟩
    · rename_i hl
      obtain ⟨v,hv,x⟩ := r'.rep _ j row a hi ha
      refine ⟨v,?_,x⟩
      have e : i * wd + j = cs.size + ((i - rows.length) * wd + j) := by
        have : i = rows.length + (i - rows.length) := by omega
        rw [r.size]
        conv => lhs; rw [this,Nat.add_mul]
        omega
      rw [e,Array.getElem?_append_right (by omega),Nat.add_sub_cancel_left]
      exact hv
theorem run_append_fits {t xt e ty : TypeId} {i : TypeInfo} (h1 : P.underlying t = some (.slice e)) (h2 : P.info? e = some i) {d : TypeDesc} (hd : P.underlying xt = some d) (hdi : ∀ k,d ≠ .int k)
    {v : Value} {n : Nat} {cs : Array Value} (s1 : (Builtin.lenOf v).run P w = .ok n w) (s2 : (Builtin.firstCells i.size n v).run P w = .ok cs w) (base : Option Addr) (sLen sCap : Nat) (hf : sLen + n ≤ sCap) :
    (Builtin.append_ #[t,xt] ty #[.slice base sLen sCap,v]).run P w =
      (match base with
       | some a => (storeCells (a.add (sLen * i.size)) cs.toList).run P w
       | none => .ok () w).andThen fun _ w' => .ok (.slice base (sLen + n) sCap) w' := by
  unfold Builtin.append_
  have g0 : (#[t,xt] : Array TypeId)[0]? = some t := rfl
  have g1 : (#[t,xt] : Array TypeId)[1]? = some xt := rfl
  have v0 : (#[.slice base sLen sCap,v] : Array Value)[0]? = some (.slice base sLen sCap) := rfl
  have v1 : (#[.slice base sLen sCap,v] : Array Value)[1]? = some v := rfl
  simp only [g0,g1,v0,v1,Sem.run_bind,run_underlying h1,run_underlying hd,r_sizeOf h2,Result.andThen_ok]
  simp only [Sem.run_pure,Result.andThen_ok,Bool.false_eq_true,if_false,Sem.run_bind,s1,hf,if_true,Bool.not_false,s2]
  cases base with
  | none => simp only [Sem.run_pure,Result.andThen_ok]
  | some a => simp only [Sem.run_bind,Sem.run_pure]
theorem run_append_grows {t xt e ty : TypeId} {i : TypeInfo} (h1 : P.underlying t = some (.slice e)) (h2 : P.info? e = some i) {z : Value} (hz : i.zero = some z) {d : TypeDesc} (hd : P.underlying xt = some d) (hdi : ∀ k,d ≠ .int k)
    {v : Value} {n : Nat} {cs old : Array Value} (s1 : (Builtin.lenOf v).run P w = .ok n w) (s2 : (Builtin.firstCells i.size n v).run P w.drew = .ok cs w.drew) (base : Option Addr) (sLen sCap : Nat)
    (s3 : (Builtin.firstCells i.size sLen (.slice base sLen sCap)).run P w.drew = .ok old w.drew) (hf : ¬ sLen + n ≤ sCap) (hb : (sLen + n) * i.bytes ≤ 140737488355328) (hm : sLen + n ≤ mx) :
    ∃ cap,sLen + n ≤ cap ∧ cap ≤ mx ∧ (Builtin.append_ #[t,xt] ty #[.slice base sLen sCap,v]).run P w =
      .ok (.slice (some ⟨w.heap.size,0,none⟩) (sLen + n) cap) (w.drew.alloc (.cells (old ++ cs ++ Builtin.zeroCells z.cells (cap - (sLen + n))) e)) := by
  refine ⟨(Question.appendCap (sLen + n) sCap e).cut (w.tape w.drawn (.appendCap (sLen + n) sCap e)),by simp only [Question.cut]; omega,?_,?_⟩
  · have hlt := Nat.mod_lt (w.tape w.drawn (.appendCap (sLen + n) sCap e)) (show 0 < 2 ^ 63 - (sLen + n) by unfold mx at hm; omega)
    simp only [Question.cut]
    unfold mx at hm ⊢
    omega
  have hfit := growslice_fits (by omega : sCap < sLen + n) hb
  have hbig : ¬ (((sLen + n : Nat) : Int) > IntKind.i64.max) := by
    unfold mx at hm; simp [IntKind.max,IntKind.signed,IntKind.bits]; omega
  have hno : ¬ (Builtin.nextslicecap (sLen + n) sCap * i.bytes > 2 ^ 48) := by omega
  have hfc : (Question.appendCap (sLen + n) sCap e).forced = false := rfl
  unfold Builtin.append_
  have g0 : (#[t,xt] : Array TypeId)[0]? = some t := rfl
  have g1 : (#[t,xt] : Array TypeId)[1]? = some xt := rfl
  have v0 : (#[.slice base sLen sCap,v] : Array Value)[0]? = some (.slice base sLen sCap) := rfl
  have v1 : (#[.slice base sLen sCap,v] : Array Value)[1]? = some v := rfl
  simp only [g0,g1,v0,v1,Sem.run_bind,run_underlying h1,run_underlying hd,r_sizeOf h2,Result.andThen_ok]
  simp only [Sem.run_pure,Result.andThen_ok,Bool.false_eq_true,if_false,Sem.run_bind,s1,hf,r_typeInfo h2,hbig,false_and,hno,run_choose,hfc,World.drew_eq,run_askRoom,s3,Bool.not_false,if_true,s2,r_zero h2 hz,newRow,
    run_newObj,World.alloc_eq]
  rfl
theorem Ext1.new (G : Gh) (h : Array Obj) (b : Nat) : Ext1 G h (G.new b) h where
  c := by simp [Gh.new]
  m t ht := by simp [Gh.new,upd_ne _ _ _ (Nat.ne_of_lt ht)]
  F t _ hF := hF
  keep t _ _ := rfl
  shape b c e fr hb := ⟨c,fr,hb,rfl⟩
theorem ObjOk.take {h : Array Obj} {ob : AObj} (k : ObjOk G h ob) (hm : ob.mp = false) (n : Nat) : ObjOk G h { ob with rows := ob.rows.take n } where
  c := k.c
  lies _ := by
    obtain ⟨c,e,fr,h1,h2,h3,h4,h5,h6⟩ := k.lies hm
    have hl : (ob.rows.take n).length ≤ ob.rows.length := by simp; omega
    have hg : ∀ (r : Nat) (row : List AV),(ob.rows.take n)[r]? = some row → ob.rows[r]? = some row := fun r row hr => by
      rw [List.getElem?_take] at hr
      split at hr
      · exact hr
      · cases hr
    exact ⟨c,e,fr,h1,h2,Nat.le_trans (Nat.mul_le_mul_right _ hl) h3,Nat.le_trans hl h4,fun r row hr => h5 r row (hg r row hr),fun r j row a hr ha => h6 r j row a (hg r row hr) ha⟩
  mlies h := by
    have h' : ob.mp = true := h
    rw [hm] at h'; cases h'
theorem Inv.take {h : Array Obj} (I : Inv G H h) {i : Nat} {ob : AObj} (hi : H[i]? = some ob) (hm : ob.mp = false) (n : Nat) : Inv G (H.set i { ob with rows := ob.rows.take n }) h := by
  have ht : tags (H.set i { ob with rows := ob.rows.take n }) = tags H := tags_set hi rfl
  refine ⟨I.fz,fun o ho => ?_,by rw [ht]; exact I.nfz,by rw [ht]; exact I.nodup,by rw [ht]; exact I.inj,I.gl⟩
  rcases mem_set I.nodup hi ho with rfl | ⟨h1,_⟩
  · exact (I.obj ob (List.mem_of_getElem? hi)).take hm n
  · exact I.obj o h1
theorem Run.of_tags {H0 : List AObj} {s : Sem Value} (h : tags H0 = tags H) (r : Run P s G H0 w K) : Run P s G H w K := by
  obtain ⟨v,w',h1,av,H',G',k,x,I',rv⟩ := r
  refine ⟨v,w',h1,av,H',G',k,⟨x.x,x.os,x.tape,x.output,x.size,fun b hb hn => x.frame b hb (by rw [h]; exact hn),fun t h1 h2 => ?_,fun t h1 h2 => h ▸ x.oldH t h1 h2,fun t h1 h2 => h ▸ x.oldF t h1 h2⟩,I',rv⟩
  have := x.newm t h1 h2
  rw [h] at this
  exact this
theorem append_sound (I : Inv G H w.heap) {t xt e ty : TypeId} {i : TypeInfo} (ht : sliceElem P t = some (e,i)) {zero : List AV} (hz : zeroOf? P e = some zero)
    {d : TypeDesc} (hd : P.underlying xt = some d) (hdi : ∀ k,d ≠ .int k) {u v : Value} {x y : AV} (rx : Rep G w.heap u x) (ry : Rep G w.heap v y)
    (hk : appendW i.size i.bytes x y H G.c K) : Run P (Builtin.append_ #[t,xt] ty #[u,v]) G H w K := by
  obtain ⟨h1,h2⟩ := sliceElem_some ht
  obtain ⟨it,z,q1,q2,q3,q4,q5⟩ := zeroOf_some hz
  rw [h2] at q1; cases q1
  obtain ⟨cs,rows',s1,s3,s4⟩ := src_sound (P := P) I ry hk
  have zrow : ∀ n,(Builtin.zeroCells z.cells n).size = n * i.size := fun n => by simp [Builtin.zeroCells,q4,q3]
  cases rx <;> simp only at s4
  case nsl =>
    by_cases he : rows' = []
    · refine Run.here I ?_ (s4.1 he) .nsl
      have := run_append_fits (ty := ty) h1 h2 hd hdi (s1 w rfl).1 (s1 w rfl).2 none 0 0 (by simp [he])
      rw [this]
      simp [he]
    · obtain ⟨hb,hm,k⟩ := s4.2 he
      have hpos : ¬ 0 + rows'.length ≤ 0 := by
        cases rows' with
        | nil => exact absurd rfl he
        | cons a l => simp
      obtain ⟨cap,hcap,hcm,hrun⟩ := run_append_grows (ty := ty) h1 h2 q2 hd hdi (s1 w rfl).1 (s1 w.drew rfl).2 none 0 0 (old := #[]) rfl hpos (by simpa using hb) (by simpa using hm)
      obtain ⟨x,I'⟩ := newObj_good (w := w.drew) I (cs := #[] ++ cs ++ Builtin.zeroCells z.cells (cap - (0 + rows'.length))) (e := e) (wd := i.size) (rows := rows') (by simp [s3.size]) hm s3.w (fun r j row a ha hb => by
        obtain ⟨v,hv,x⟩ := s3.rep r j row a ha hb
        exact ⟨v,by rw [Array.empty_append,Array.getElem?_append_left (Array.getElem?_eq_some_iff.1 hv).1]; exact hv,x⟩) (0,0) (fun _ _ h => by omega)
      refine ⟨_,_,hrun,_,_,_,k,{ x with },I',?_⟩
      rw [Nat.zero_add]
      refine ref_new (w := w.drew) ?_ (by omega) hcm
      simp only [Array.empty_append,Array.size_append,s3.size,zrow]
      rw [← Nat.add_mul]
      exact Nat.le_of_eq (by congr 1; omega)
  case ref j tag wd len cap c e' fr hc hb h3 h4 h5 =>
    obtain ⟨rfl,ob1,hob1,htag1,hmp1,hw1,hle1,hby,hm,k1⟩ := s4
    obtain ⟨H0,ob,I,hob,htag,hmp,hw',hlen,k,hback⟩ : ∃ (H0 : List AObj) (ob : AObj),Inv G H0 w.heap ∧ H0[j]? = some ob ∧ ob.tag = tag ∧ ob.mp = false ∧ ob.w = i.size ∧ ob.rows.length = len ∧
        K (.ref j G.c i.size (len + rows'.length)) (H0.set j ⟨false,G.c,i.size,ob.rows ++ rows'⟩) (G.c + 1) ∧ tags H0 = tags H := by
      have hjl : j < H.length := (List.getElem?_eq_some_iff.1 hob1).1
      refine ⟨H.set j { ob1 with rows := ob1.rows.take len },{ ob1 with rows := ob1.rows.take len },I.take hob1 hmp1 len,List.getElem?_set_self hjl,htag1,hmp1,hw1,?_,?_,tags_set hob1 rfl⟩
      · show (ob1.rows.take len).length = len
        rw [List.length_take]; exact Nat.min_eq_left hle1
      · rw [List.set_set]; exact k1
    refine Run.of_tags hback ?_
    subst htag
    obtain ⟨c',e'',fr',p1,p2,p3,p4,p5,p6⟩ := (I.obj ob (List.mem_of_getElem? hob)).lies hmp
    rw [hb] at p1; cases p1
    have hmem := List.mem_of_getElem? hob
    have hold : RowsRep G w.heap ob.w (c.extract 0 (len * ob.w)) ob.rows := by
      refine ⟨by rw [hlen,Array.size_extract]; rw [hlen] at p3; omega,p5,fun r q row a hr ha => ?_⟩
      obtain ⟨v',hv',x⟩ := p6 r q row a hr ha
      refine ⟨v',?_,x⟩
      have hq : q < ob.w := by rw [← p5 r row hr]; exact (List.getElem?_eq_some_iff.1 ha).1
      have hrl : r < len := by rw [← hlen]; exact (List.getElem?_eq_some_iff.1 hr).1
      have hm' := mul_lt_of (r := r) (r' := len) (n := 0) (w := ob.w) hrl
      rw [Array.getElem?_extract,if_pos (by rw [hlen] at p3; omega),Nat.zero_add]
      exact hv'
    have hall := rows_append hold (hw' ▸ s3)
    by_cases hf : len + rows'.length ≤ cap
    · -- in place
      have hone : ∀ z,z ∈ cs.toList → z.oneCell' = true := fun z hz => by
        obtain ⟨q,hq⟩ := List.mem_iff_getElem?.1 hz
        have hql : q < rows'.length * i.size := by have := (List.getElem?_eq_some_iff.1 hq).1; simpa [s3.size] using this
        obtain ⟨a1,a2,a3⟩ := flat_div hql
        have hrow : rows'[q / i.size]? = some rows'[q / i.size] := List.getElem?_eq_getElem a1
        have hl := s3.w _ _ hrow
        obtain ⟨v',hv',hcl,rv⟩ := s3.rep _ (q % i.size) _ _ hrow (List.getElem?_eq_getElem (by omega))
        rw [← a3] at hv'
        rw [Array.getElem?_toList,hv'] at hq
        cases hq
        exact rv.oneCell hcl
      have hin : 0 + len * i.size + 0 + cs.toList.length ≤ c.size := by
        have : (len + rows'.length) * i.size ≤ cap * i.size := Nat.mul_le_mul_right _ hf
        rw [Nat.add_mul] at this
        have h3' : cap * i.size ≤ c.size := h3
        simp [s3.size]; omega
      have hstore := run_storeCells P (G.m ob.tag) (0 + len * i.size) e' fr cs.toList 0 w c hb (fun j hj => p2 j (by omega)) hin hone
      have hrun := run_append_fits (ty := ty) h1 h2 hd hdi (s1 w rfl).1 (s1 w rfl).2 (some ⟨G.m ob.tag,0,none⟩) len cap hf
      simp only [addr_add,hstore,Result.andThen_ok] at hrun
      have x0 : Ext1 G w.heap G (w.heap.setIfInBounds (G.m ob.tag) (.cells (putCells c (0 + len * i.size + 0) cs.toList) e' fr)) :=
        Ext1.write (fun u hF => I.nfz_m (mem_tags hmem) hF) fun _ _ _ hb' => by rw [hb] at hb'; cases hb'; exact ⟨_,_,rfl,putCells_size _ _ _⟩
      have x1 := x0.trans (Ext1.new G _ (G.m ob.tag))
      have hob' : ObjOk (G.new (G.m ob.tag)) (w.heap.setIfInBounds (G.m ob.tag) (.cells (putCells c (0 + len * i.size + 0) cs.toList) e' fr)) ⟨false,G.c,i.size,ob.rows ++ rows'⟩ := by
        refine ⟨by simp [Gh.new],fun _ => ?_,fun h => by cases h⟩
        refine ⟨putCells c (0 + len * i.size + 0) cs.toList,e',fr,by simp [Gh.new,lt_of_get hb],by have p2' := p2; rw [hw'] at p2'; simpa [putCells_size] using p2',?_,by simp; omega,fun r row hr => ?_,fun r q row a hr ha => ?_⟩
        · simp only [putCells_size,List.length_append,hlen,Nat.add_mul]
          simp [s3.size] at hin; omega
        · exact hw' ▸ hall.w r row hr
        · have hq : q < i.size := by rw [← hw',← hall.w r row hr]; exact (List.getElem?_eq_some_iff.1 ha).1
          dsimp only at hr ⊢
          rw [List.getElem?_append] at hr
          split at hr
          · rename_i hl
            obtain ⟨v',hv',hcl,rv⟩ := p6 r q row a hr ha
            refine ⟨v',?_,hcl,rv.ext x1⟩
            have hm' := mul_lt_of (r := r) (r' := len) (n := 0) (w := i.size) (by omega)
            rw [putCells_out _ _ _ _ (by omega),← hw']
            exact hv'
          · rename_i hl
            obtain ⟨v',hv',hcl,rv⟩ := s3.rep _ q row a hr ha
            refine ⟨v',?_,hcl,rv.ext x1⟩
            have e1 : r * i.size + q = 0 + len * i.size + 0 + ((r - ob.rows.length) * i.size + q) := by
              have : r = len + (r - ob.rows.length) := by omega
              conv => lhs; rw [this,Nat.add_mul]
              omega
            rw [e1]
            exact putCells_in _ _ _ _ _ hin (by rw [Array.getElem?_toList]; exact hv')
      refine ⟨_,_,hrun,_,_,G.new (G.m ob.tag),k,?_,?_,?_⟩
      · exact Ext.grow I hob rfl (.inl rfl) x1 rfl rfl rfl (by simp [wset]) (fun k hk hne => Array.getElem?_setIfInBounds_ne (Ne.symm hne))
      · refine Inv.grow I hob (ob' := ⟨false,G.c,i.size,ob.rows ++ rows'⟩) rfl (by simp [wset,lt_of_get hb]) (.inl rfl) x1 (fun t ht hne => ?_) (by simp [wset]) hob'
        refine Array.getElem?_setIfInBounds_ne fun e => hne ?_
        exact (I.inj _ _ (.inr (mem_tags hmem)) (.inr ht) e).symm
      · have h := Rep.ref (G := G.new (G.m ob.tag)) (h := w.heap.setIfInBounds (G.m ob.tag) (.cells (putCells c (0 + len * i.size + 0) cs.toList) e' fr)) (i := j) (tag := G.c) (w := i.size) (len := len + rows'.length) (cap := cap)
          (c := putCells c (0 + len * i.size + 0) cs.toList) (e := e') (fr := fr) (by simp [Gh.new]) (by simp [Gh.new,lt_of_get hb]) (by rw [putCells_size]; exact h3) hf h5
        simpa [Gh.new,wset] using h
    · -- in a new block
      have hold' : (Builtin.firstCells i.size len (.slice (some ⟨G.m ob.tag,0,none⟩) len cap)).run P w.drew = .ok (c.extract 0 (len * ob.w)) w.drew := by
        have hfc : ∀ q,q < len * i.size → hcell w.heap (G.m ob.tag) (0 + q) = some (c.getD q undef) := fun q hq => by
          rw [hcell_of hb,Nat.zero_add]
          refine of_getD ?_
          rw [hlen,hw'] at p3; omega
        have := run_loadCells P w.drew (G.m ob.tag) 0 (len * i.size) (fun q => c.getD q undef) hfc
        simp only [Builtin.firstCells]
        rw [this]
        congr 1
        rw [hlen,hw'] at p3
        apply Array.ext_getElem?
        intro q
        rw [Array.getElem?_extract,hw',Nat.zero_add]
        by_cases hq : q < len * i.size
        · rw [if_pos (by omega)]
          have : c[q]? = some (c.getD q undef) := of_getD (by omega)
          rw [this,List.getElem?_toArray,List.getElem?_map,List.getElem?_range hq]; rfl
        · rw [if_neg (by omega),List.getElem?_toArray,List.getElem?_eq_none (by simp; omega)]
      obtain ⟨cap',hcap,hcm,hrun⟩ := run_append_grows (ty := ty) h1 h2 q2 hd hdi (s1 w rfl).1 (s1 w.drew rfl).2 (some ⟨G.m ob.tag,0,none⟩) len cap hold' hf hby hm
      have x1 : Ext1 G w.heap (G.new w.heap.size) (w.heap.push (.cells (c.extract 0 (len * ob.w) ++ cs ++ Builtin.zeroCells z.cells (cap' - (len + rows'.length))) e)) := Ext1.push I _ _
      have hsz : (c.extract 0 (len * ob.w) ++ cs).size = (len + rows'.length) * i.size := by
        have := hall.size
        rw [List.length_append,hlen,hw'] at this
        rw [hw']; exact this
      have hob' : ObjOk (G.new w.heap.size) (w.heap.push (.cells (c.extract 0 (len * ob.w) ++ cs ++ Builtin.zeroCells z.cells (cap' - (len + rows'.length))) e)) ⟨false,G.c,i.size,ob.rows ++ rows'⟩ := by
        refine ⟨by simp [Gh.new],fun _ => ?_,fun h => by cases h⟩
        refine ⟨c.extract 0 (len * ob.w) ++ cs ++ Builtin.zeroCells z.cells (cap' - (len + rows'.length)),e,(0,0),by simp [Gh.new],fun _ _ h => by omega,?_,by simp; omega,fun r row hr => hw' ▸ hall.w r row hr,fun r q row a hr ha => ?_⟩
        · rw [Array.size_append,hsz]; simp only [List.length_append,hlen]; omega
        · obtain ⟨v',hv',hcl,rv⟩ := hall.rep r q row a hr ha
          rw [hw'] at hv'
          refine ⟨v',?_,hcl,rv.ext x1⟩
          rw [hw',Array.getElem?_append_left (Array.getElem?_eq_some_iff.1 hv').1]
          exact hv'
      refine ⟨_,_,hrun,_,_,G.new w.heap.size,k,?_,?_,?_⟩
      · exact Ext.grow I hob rfl (.inr (Nat.le_refl _)) x1 rfl rfl rfl (by simp) (fun k hk _ => push_old hk)
      · exact Inv.grow I hob (ob' := ⟨false,G.c,i.size,ob.rows ++ rows'⟩) rfl (by simp) (.inr (Nat.le_refl _)) x1 (fun t ht _ => push_old (by obtain ⟨o',ho',rfl⟩ := of_mem_tags ht; exact (I.obj o' ho').block)) (by simp) hob'
      · refine ref_new (w := w.drew) ?_ hcap hcm
        rw [Array.size_append,hsz,zrow,← Nat.add_mul]
        exact Nat.le_of_eq (by congr 1; omega)
  all_goals exact s4.elim
end
end A
end Go.Proofs.YtgalkppgeoknaaaGreatDoor
