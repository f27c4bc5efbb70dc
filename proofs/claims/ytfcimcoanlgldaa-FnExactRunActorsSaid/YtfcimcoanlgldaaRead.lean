/-
  The arguments as the row reads them, as abstract values. No condition.
-/
import Derived.Test.YtfcimcoanlgldaaSimp
import GoSem.ClaimChange
import Derived.DataReads
import Derived.DataShut
namespace Go.Proofs.Ytfcimcoanlgldaa
namespace A
set_option linter.unusedVariables false

def tile (P : Program) (N : Nat) : Nat → List Field → Bool
  | o, [] => o == N
  | o, f :: fs => f.offset == o && tile P N (o + P.cellsOf f.type) fs

def okRow (P : Program) (ts : List TypeId) (t : TypeId) : Bool :=
  match P.underlying t with
  | some .bool | some (.int _) | some .string => P.cellsOf t == 1
  | some (.slice e) | some (.pointer e) => P.cellsOf t == 1 && (ts.contains e && decide (0 < P.cellsOf e))
  | some (.struct fs) => (fs.toList.all fun f => ts.contains f.type) && tile P (P.cellsOf t) 0 fs.toList
  | _ => false
/-- A closed set of types that these proofs read. -/
def okRows (P : Program) (ts : List TypeId) : Bool := ts.all (okRow P ts)

/-- The shape of a type's cells. -/
def ShC (P : Program) : Nat → TypeId → List AV → Prop
  | 0, _, _ => False
  | n + 1, t, as =>
    match P.underlying t with
    | some .bool => ∃ b, as = [.bool b]
    | some (.int k) => ∃ i, as = [.int k i] ∧ IOk k i
    | some .string => ∃ l, as = [.str l] ∧ l.length ≤ mx
    | some (.slice e) => as = [.nsl] ∨ ∃ tag rows, as = [.slc tag (P.cellsOf e) rows] ∧ rows.length ≤ mx ∧ ∀ row, row ∈ rows → ShC P n e row
    | some (.pointer e) => as = [.nptr] ∨ ∃ cells, as = [.cpt cells 0] ∧ ShC P n e cells
    | some (.struct fs) => as.length = P.cellsOf t ∧ ∀ f, f ∈ fs.toList → ShC P n f.type ((as.drop f.offset).take (P.cellsOf f.type))
    | _ => False

/-- The state when the law is called: all that lies in memory is only read. -/
def G0 (w : World) : Gh := ⟨id, w.heap.size, fun t => t < w.heap.size⟩
theorem inv0 (w : World) : Inv (G0 w) [] w.heap :=
  ⟨fun t h => ⟨h, h⟩, by simp, by simp [tags], by simp [tags], fun t t' _ _ h => h⟩

section
variable {H : Type} {enc : TypeId × Value → H} {P : Program} {w : World} {base : Nat} {sp : Nat → Bool} {held : Bool}

def Rd (w : World) (cs : List Value) (as : List AV) : Prop := as.length = cs.length ∧ ∀ (j : Nat) (v : Value) (a : AV), cs[j]? = some v → as[j]? = some a → a.cell = true ∧ Rep (G0 w) w.heap v a

theorem Rd.one {v : Value} {a : AV} (hc : a.cell = true) (r : Rep (G0 w) w.heap v a) : Rd w [v] [a] :=
  ⟨rfl, fun j v' a' h1 h2 => by
    cases j with
    | zero => simp at h1 h2; subst h1; subst h2; exact ⟨hc, r⟩
    | succ j => simp at h1⟩

theorem cells_at {a : Addr} {n : Nat} {cs : List Value} (h : w.cells? base a n = some cs) (hn : 0 < n) : a.spot = none ∧ a.block < w.heap.size ∧ cs.length = n ∧ ∀ j : Nat, j < n → ∃ v, cs[j]? = some v ∧ hcell w.heap a.block (a.off + j) = some v := by
  unfold World.cells? at h
  split at h
  · obtain ⟨hl, hg⟩ := mapM_get _ _ h
    have key : ∀ j : Nat, j < n → ∃ v, cs[j]? = some v ∧ w.cell? (a.add j) = some v := fun j hj => hg j j (by simp [hj])
    have hcell_of : ∀ (x : Addr) (v : Value), w.cell? x = some v → x.spot = none ∧ hcell w.heap x.block x.off = some v := fun x v hx => by
      unfold World.cell? at hx
      unfold hcell
      split at hx
      · split at hx
        · cases hx
        · rename_i hs; rw [‹w.heap[x.block]? = _›]; exact ⟨by simpa using hs, hx⟩
      · cases hx
    obtain ⟨v0, h0, h0'⟩ := key 0 hn
    have hs0 : a.spot = none := (hcell_of _ _ h0').1
    refine ⟨hs0, ?_, by simpa using hl, fun j hj => ?_⟩
    · have := (hcell_of _ _ h0').2
      unfold hcell at this
      rcases Nat.lt_or_ge a.block w.heap.size with h | h
      · exact h
      · have e : (a.add 0).block = a.block := rfl
        rw [e, Array.getElem?_eq_none h] at this; cases this
    · obtain ⟨v, h1, h2⟩ := key j hj
      refine ⟨v, h1, ?_⟩
      have := (hcell_of _ _ h2).2
      have e1 : (a.add j).block = a.block := by unfold Addr.add; split <;> rfl
      have e2 : (a.add j).off = a.off + j := by unfold Addr.add; split <;> simp_all
      rw [e1, e2] at this
      exact this
  · cases h

theorem drop_take_append {α : Type} (x y : List α) (o n : Nat) (h : x.length = o) : ((x ++ y).drop o).take n = y.take n := by
  subst h; simp

/-- Fields, laid end to end. -/
theorem read_fields {n : Nat} {ts : List TypeId} {N : Nat} {cs : List Value} (hcs : cs.length = N)
    (ih : ∀ t cs d ps, t ∈ ts → cs.length = P.cellsOf t → DataW.trod enc P w base sp held n t cs = some (d, ps) → ∃ as, Rd w cs as ∧ ShC P n t as) :
    ∀ (fs : List Field) (o : Nat) (xs : List (DataW H × List MemPlace)), tile P N o fs = true → (∀ f, f ∈ fs → f.type ∈ ts) → o ≤ N →
      fs.mapM (fun f => DataW.trod enc P w base sp held n f.type ((cs.drop f.offset).take (P.cellsOf f.type))) = some xs →
      ∀ pre : List AV, pre.length = o → ∃ as, Rd w (cs.drop o) as ∧ ∀ f, f ∈ fs → ShC P n f.type (((pre ++ as).drop f.offset).take (P.cellsOf f.type)) := by
  intro fs
  induction fs with
  | nil =>
    intro o xs ht _ ho _ pre hp
    simp [tile] at ht
    exact ⟨[], ⟨by simp; omega, by simp⟩, by simp⟩
  | cons f fs ihf =>
    intro o xs ht hm ho hx pre hp
    simp only [tile, Bool.and_eq_true, beq_iff_eq] at ht
    obtain ⟨h1, h2⟩ := ht
    simp only [List.mapM_cons, Option.bind_eq_bind, Option.bind_eq_some_iff, Option.pure_def, Option.some.injEq] at hx
    obtain ⟨⟨d, ps⟩, hd, ys, hys, rfl⟩ := hx
    have hle : o + P.cellsOf f.type ≤ N := by
      have : ∀ (fs : List Field) (k : Nat), tile P N k fs = true → k ≤ N := fun fs => by
        induction fs with
        | nil => intro k h; simp [tile] at h; omega
        | cons f fs ih => intro k h; simp only [tile, Bool.and_eq_true, beq_iff_eq] at h; have := ih _ h.2; omega
      exact this fs _ h2
    have hlen : ((cs.drop f.offset).take (P.cellsOf f.type)).length = P.cellsOf f.type := by simp; omega
    obtain ⟨a1, r1, s1⟩ := ih f.type _ d ps (hm f (List.mem_cons_self ..)) hlen hd
    have la1 : a1.length = P.cellsOf f.type := r1.1.trans hlen
    obtain ⟨a2, r2, s2⟩ := ihf (o + P.cellsOf f.type) ys h2 (fun g hg => hm g (List.mem_cons_of_mem _ hg)) hle hys (pre ++ a1) (by simp [hp, la1])
    refine ⟨a1 ++ a2, ⟨by have := r2.1; simp at this ⊢; omega, fun j v a hj ha => ?_⟩, fun g hg => ?_⟩
    · rw [List.getElem?_append] at ha
      split at ha
      · rename_i hlt
        refine r1.2 j v a ?_ ha
        rw [List.getElem?_take, if_pos (by omega), h1]
        exact hj
      · rename_i hge
        refine r2.2 (j - a1.length) v a ?_ ha
        rw [← hj, List.getElem?_drop, List.getElem?_drop]
        congr 1
        omega
    · rcases List.mem_cons.1 hg with rfl | hg
      · rw [h1]
        rw [drop_take_append _ _ _ _ hp, List.take_append_of_le_length (by omega), List.take_of_length_le (by omega)]
        exact s1
      · have := s2 g hg
        rwa [List.append_assoc] at this

theorem trod_read {ts : List TypeId} (hok : okRows P ts = true) : ∀ (n : Nat) (t : TypeId) (cs : List Value) (d : DataW H) (ps : List MemPlace), t ∈ ts → cs.length = P.cellsOf t → DataW.trod enc P w base sp held n t cs = some (d, ps) →
    ∃ as, Rd w cs as ∧ ShC P n t as := by
  intro n
  induction n with
  | zero => intro t cs d ps _ _ h; simp [DataW.trod] at h
  | succ n ih =>
    intro t cs d ps ht hl h
    have hrow : okRow P ts t = true := List.all_eq_true.1 hok t ht
    unfold okRow at hrow
    unfold DataW.trod at h
    simp only [ShC]
    cases hu : P.underlying t with
    | none => rw [hu] at hrow; cases hrow
    | some desc =>
      rw [hu] at hrow h
      cases desc <;> simp only [Bool.false_eq_true] at hrow
      case bool =>
        split at h <;> first
          | (cases h; done)
          | skip
        all_goals (rename_i heq; first | (cases heq; done) | skip)
        rename_i b
        exact ⟨[.bool b], Rd.one rfl .bool, b, rfl⟩
      case int =>
        split at h <;> first
          | (cases h; done)
          | skip
        all_goals (rename_i heq; first | (cases heq; done) | skip)
        rename_i k' i
        cases heq
        split at h
        · rename_i hk
          obtain ⟨rfl, hw⟩ := hk
          have hi := (Lit.wf_int_iff _ _).1 hw
          exact ⟨[.int _ i], Rd.one rfl (.int hi), i, rfl, hi⟩
        · cases h
      case string =>
        split at h <;> first
          | (cases h; done)
          | skip
        all_goals (rename_i heq; first | (cases heq; done) | skip)
        rename_i s
        split at h
        · rename_i hk
          have hk' : s.data.toList.length ≤ mx := by
            have : s.data.toList.length = s.size := Array.length_toList
            unfold maxLen at hk; unfold mx; omega
          exact ⟨[.str s.data.toList], Rd.one rfl (.str rfl hk'), _, rfl, hk'⟩
        · cases h
      case slice e =>
        simp only [Bool.and_eq_true, List.contains_eq_mem, decide_eq_true_eq] at hrow
        replace hrow := hrow.2
        split at h <;> first
          | (cases h; done)
          | skip
        all_goals (rename_i heq; first | (cases heq; done) | skip)
        · exact ⟨[.nsl], Rd.one rfl .nsl, .inl rfl⟩
        · rename_i e' a len cap
          cases heq
          split at h
          · rename_i hk
            obtain ⟨hb, hlc, hcm⟩ := hk
            simp only [Option.bind_eq_some_iff, Option.map_eq_some_iff] at h
            obtain ⟨elems, hel, rest, _, _⟩ := h
            obtain ⟨hel1, hel2⟩ := mapM_get _ _ hel
            simp only [List.length_range] at hel1
            have hmx : len ≤ mx := by unfold maxLen at hcm; unfold mx; omega
            have hz : 0 < P.cellsOf e := hrow.2
            cases len with
            | zero => exact ⟨[.slc 0 (P.cellsOf e) []], Rd.one rfl .slc0, .inr ⟨0, [], rfl, by simp, by simp⟩⟩
            | succ len' =>
              have key : ∀ i : Nat, i < len' + 1 → ∃ (ecs : List Value) (as : List AV), w.cells? base (a.add (i * P.cellsOf e)) (P.cellsOf e) = some ecs ∧ Rd w ecs as ∧ ShC P n e as := fun i hi => by
                obtain ⟨⟨ed, eps⟩, _, he⟩ := hel2 i i (by simp [hi])
                simp only [Option.bind_eq_some_iff] at he
                obtain ⟨ecs, h1, h2⟩ := he
                obtain ⟨as, r, s⟩ := ih e ecs ed eps hrow.1 (cells_at h1 hz).2.2.1 h2
                exact ⟨ecs, as, h1, r, s⟩
              let row : Nat → List AV := fun i => if h : i < len' + 1 then Classical.choose (Classical.choose_spec (key i h)) else []
              let val : Nat → List Value := fun i => if h : i < len' + 1 then Classical.choose (key i h) else []
              have hrowv : ∀ i, i < len' + 1 → w.cells? base (a.add (i * P.cellsOf e)) (P.cellsOf e) = some (val i) ∧ Rd w (val i) (row i) ∧ ShC P n e (row i) := fun i hi => by
                simp only [row, val, dif_pos hi]
                exact Classical.choose_spec (Classical.choose_spec (key i hi))
              have h00 := cells_at (hrowv 0 (by omega)).1 hz
              have hspot : a.spot = none := by simpa [Addr.add] using h00.1
              have hblk : a.block < w.heap.size := by simpa [Addr.add] using h00.2.1
              have hget : ∀ (r : Nat) (x : List AV), ((List.range (len' + 1)).map row)[r]? = some x → r < len' + 1 ∧ x = row r := fun r x h => by
                simp only [List.getElem?_map, Option.map_eq_some_iff] at h
                obtain ⟨k, hk, rfl⟩ := h
                obtain ⟨h1, h2⟩ := List.getElem?_eq_some_iff.1 hk
                simp at h1 h2
                subst h2
                exact ⟨h1, rfl⟩
              have hcellv : ∀ (r o : Nat) (x : List AV) (b : AV), ((List.range (len' + 1)).map row)[r]? = some x → x[o]? = some b → ∃ v, (val r)[o]? = some v ∧ hcell w.heap a.block (a.off + r * P.cellsOf e + o) = some v ∧ b.cell = true ∧ Rep (G0 w) w.heap v b := fun r o x b hx hb => by
                obtain ⟨hr, rfl⟩ := hget r x hx
                obtain ⟨c1, r1, s1⟩ := hrowv r hr
                obtain ⟨_, _, q3, q4⟩ := cells_at c1 hz
                have ho : o < P.cellsOf e := by have := (List.getElem?_eq_some_iff.1 hb).1; have := r1.1; omega
                obtain ⟨v, v1, v2⟩ := q4 o ho
                have e1 : (a.add (r * P.cellsOf e)).block = a.block := by unfold Addr.add; split <;> rfl
                have e2 : (a.add (r * P.cellsOf e)).off = a.off + r * P.cellsOf e := by unfold Addr.add; split <;> simp_all
                rw [e1, e2] at v2
                obtain ⟨p1, p2⟩ := r1.2 o v b v1 hb
                exact ⟨v, v1, v2, p1, p2⟩
              refine ⟨[.slc a.block (P.cellsOf e) ((List.range (len' + 1)).map row)], Rd.one rfl ?_, .inr ⟨_, _, rfl, by simpa using hmx, fun x hx => ?_⟩⟩
              · have ha : a = ⟨(G0 w).m a.block, a.off, none⟩ := by cases a; simp at hspot; subst hspot; rfl
                have R : Rep (G0 w) w.heap (.slice (some ⟨(G0 w).m a.block, a.off, none⟩) ((List.range (len' + 1)).map row).length cap) (.slc a.block (P.cellsOf e) ((List.range (len' + 1)).map row)) := by
                 refine .slc (fun r o => ((val r)[o]?).getD undef) (show a.block < w.heap.size from hblk) (show a.block < w.heap.size from hblk) (by simpa using hmx) (by simpa using hlc) (fun r x hx => ?_) (fun r o x b hx hb => ?_) (fun r o x b hx hb => ?_) (fun r o x b hx hb => ?_)
                 · obtain ⟨hr, rfl⟩ := hget r x hx
                   obtain ⟨c1, r1, _⟩ := hrowv r hr
                   rw [r1.1, (cells_at c1 hz).2.2.1]
                 · obtain ⟨v, v1, v2, _, _⟩ := hcellv r o x b hx hb
                   rw [v1]; exact v2
                 · obtain ⟨v, v1, v2, v3, _⟩ := hcellv r o x b hx hb
                   exact v3
                 · obtain ⟨v, v1, v2, _, v4⟩ := hcellv r o x b hx hb
                   rw [v1]; exact v4
                have hl' : ((List.range (len' + 1)).map row).length = len' + 1 := by simp
                rw [hl', ← ha] at R
                exact R
              · obtain ⟨r, hr, rfl⟩ := List.mem_iff_getElem.1 hx
                obtain ⟨hr', e⟩ := hget r _ (List.getElem?_eq_getElem hr)
                rw [e]
                exact (hrowv r hr').2.2
          · cases h
      case pointer e =>
        simp only [Bool.and_eq_true, List.contains_eq_mem, decide_eq_true_eq] at hrow
        replace hrow := hrow.2
        split at h <;> first
          | (cases h; done)
          | skip
        all_goals (rename_i heq; first | (cases heq; done) | skip)
        · exact ⟨[.nptr], Rd.one rfl .nptr, .inl rfl⟩
        · rename_i e' a
          cases heq
          simp only [Option.map_eq_some_iff, Option.bind_eq_some_iff] at h
          obtain ⟨⟨d1, p1⟩, ⟨ecs, h1, h2⟩, _⟩ := h
          obtain ⟨q1, q2, q3, q4⟩ := cells_at h1 hrow.2
          obtain ⟨as, r, s⟩ := ih e ecs d1 p1 hrow.1 q3 h2
          refine ⟨[.cpt as 0], Rd.one rfl ?_, .inr ⟨as, rfl, s⟩⟩
          have ha : a = ⟨(G0 w).m a.block, a.off + 0, none⟩ := by cases a; simp at q1; subst q1; rfl
          rw [ha]
          have hv : ∀ (j : Nat) (b : AV), as[j]? = some b → ∃ v, ecs[j]? = some v ∧ hcell w.heap a.block (a.off + j) = some v ∧ b.cell = true ∧ Rep (G0 w) w.heap v b := fun j b hb => by
            obtain ⟨v, v1, v2⟩ := q4 j (by have := (List.getElem?_eq_some_iff.1 hb).1; have := r.1; omega)
            obtain ⟨p1, p2⟩ := r.2 j v b v1 hb
            exact ⟨v, v1, v2, p1, p2⟩
          refine .cpt (fun j => (ecs[j]?).getD undef) q2 q2 (fun j b hb => ?_) (fun j b hb => ?_) (fun j b hb => ?_)
          · obtain ⟨v, v1, v2, _⟩ := hv j b hb; rw [v1]; exact v2
          · obtain ⟨v, v1, v2, v3, _⟩ := hv j b hb; exact v3
          · obtain ⟨v, v1, v2, _, v4⟩ := hv j b hb; rw [v1]; exact v4
      case struct fs =>
        simp only [Bool.and_eq_true, List.all_eq_true, List.contains_eq_mem, decide_eq_true_eq] at hrow
        split at h <;> first
          | (cases h; done)
          | skip
        all_goals (rename_i heq; first | (cases heq; done) | skip)
        · cases heq
          rw [if_pos hl] at h
          simp only [Option.map_eq_some_iff] at h
          obtain ⟨xs, hxs, _⟩ := h
          obtain ⟨as, r, s⟩ := read_fields hl ih fs.toList 0 xs hrow.2 hrow.1 (Nat.zero_le _) hxs [] rfl
          exact ⟨as, by simpa using r, by have := r.1; simp at this; omega, fun f hf => by simpa using s f hf⟩
        · exact (‹∀ fs_1 : Array Field, some (TypeDesc.struct fs) = some (TypeDesc.struct fs_1) → False› fs rfl).elim
end
end A
end Go.Proofs.Ytfcimcoanlgldaa
