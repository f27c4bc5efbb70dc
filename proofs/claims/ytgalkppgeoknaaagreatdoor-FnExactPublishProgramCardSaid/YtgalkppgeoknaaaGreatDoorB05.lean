import GoSem.ClaimChange
import Derived.DataReads
import Derived.DataShut
import Derived.Below
import Derived.Carry
import Derived.ChangeSame
import Derived.ProofKit
import Derived.OpenShut
import Derived.Test.YtgalkppgeoknaaaGreatDoorB04

/-
  The arguments as0 the row reads them, as0 abstract values. No condition.
-/
set_option linter.unusedVariables false
set_option linter.unusedSimpArgs false
namespace Go.Proofs.YtgalkppgeoknaaaGreatDoor
namespace A
set_option linter.unusedVariables false
def tile (P : Program) (N : Nat) : Nat → List Field → Bool
  | o,[] => o == N
  | o,f :: fs => f.offset == o && tile P N (o + P.cellsOf f.type) fs
def okRow (P : Program) (ts : List TypeId) (t : TypeId) : Bool :=
  match P.underlying t with
  | some .bool | some (.int _) | some .string => P.cellsOf t == 1
  | some (.slice e) | some (.pointer e) => P.cellsOf t == 1 && (ts.contains e && decide (0 < P.cellsOf e))
  | some (.struct fs) => (fs.toList.all fun f => ts.contains f.type) && tile P (P.cellsOf t) 0 fs.toList
  | _ => false
def okRows (P : Program) (ts : List TypeId) : Bool := ts.all (okRow P ts)
def ShC (P : Program) : Nat → TypeId → List AV → Prop
  | 0,_,_ => False
  | n + 1,t,as0 =>
    match P.underlying t with
    | some .bool => ∃ b,as0 = [.bool b]
    | some (.int k) => ∃ i,as0 = [.int k i] ∧ IOk k i
    | some .string => ∃ l,as0 = [.str l] ∧ l.length ≤ mx
    | some (.slice e) => as0 = [.nsl] ∨ ∃ tag rows,as0 = [.slc tag (P.cellsOf e) rows] ∧ rows.length ≤ mx ∧ ∀ row,row ∈ rows → ShC P n e row
    | some (.pointer e) => as0 = [.nptr] ∨ ∃ cells,as0 = [.cpt cells 0] ∧ ShC P n e cells
    | some (.struct fs) => as0.length = P.cellsOf t ∧ ∀ f,f ∈ fs.toList → ShC P n f.type ((as0.drop f.offset).take (P.cellsOf f.type))
    | _ => False
def G0 (w : World) : Gh := ⟨id,w.heap.size,fun t => t < w.heap.size⟩
theorem inv0 (w : World) (hg : ∀ b,b < NB → b < w.heap.size ∧ GL b w.heap[b]?) : Inv (G0 w) [] w.heap :=
  ⟨fun t h => ⟨h,h⟩,by simp,by simp [tags],by simp [tags],fun t t' _ _ h => h,fun b hb => ⟨(hg b hb).1,(hg b hb).1,rfl,(hg b hb).2⟩⟩
section
variable {H : Type} {enc : TypeId × Value → H} {P : Program} {w : World} {base : Nat} {sp : Nat → Bool} {held : Bool}
def Rd (w : World) (cs : List Value) (as0 : List AV) : Prop := as0.length = cs.length ∧ ∀ (j : Nat) (v : Value) (a : AV),cs[j]? = some v → as0[j]? = some a → a.cell = true ∧ Rep (G0 w) w.heap v a
theorem Rd.one {v : Value} {a : AV} (hc : a.cell = true) (r : Rep (G0 w) w.heap v a) : Rd w [v] [a] :=
  ⟨rfl,fun j v' a' h1 h2 => by
    cases j with
    | zero => simp at h1 h2; subst h1; subst h2; exact ⟨hc,r⟩
    | succ j => simp at h1⟩
theorem cells_at {a : Addr} {n : Nat} {cs : List Value} (h : w.cells? base a n = some cs) (hn : 0 < n) : a.spot = none ∧ a.block < w.heap.size ∧ cs.length = n ∧ ∀ j : Nat,j < n → ∃ v,cs[j]? = some v ∧ hcell w.heap a.block (a.off + j) = some v := by
  unfold World.cells? at h
  split at h
  · obtain ⟨hl,hg⟩ := mapM_get _ _ h
    have key : ∀ j : Nat,j < n → ∃ v,cs[j]? = some v ∧ w.cell? (a.add j) = some v := fun j hj => hg j j (by simp [hj])
    have hcell_of : ∀ (x : Addr) (v : Value),w.cell? x = some v → x.spot = none ∧ hcell w.heap x.block x.off = some v := fun x v hx => by
      unfold World.cell? at hx
      unfold hcell
      split at hx
      · split at hx
        · cases hx
        · rename_i hs; rw [‹w.heap[x.block]? = _›]; exact ⟨by simpa using hs,hx⟩
      · cases hx
    obtain ⟨v0,h0,h0'⟩ := key 0 hn
    have hs0 : a.spot = none := (hcell_of _ _ h0').1
    refine ⟨hs0,?_,by simpa using hl,fun j hj => ?_⟩
    · have := (hcell_of _ _ h0').2
      unfold hcell at this
      rcases Nat.lt_or_ge a.block w.heap.size with h | h
      · exact h
      · have e : (a.add 0).block = a.block := rfl
        rw [e,Array.getElem?_eq_none h] at this; cases this
    · obtain ⟨v,h1,h2⟩ := key j hj
      refine ⟨v,h1,?_⟩
      have := (hcell_of _ _ h2).2
      have e1 : (a.add j).block = a.block := by unfold Addr.add; split <;> rfl
      have e2 : (a.add j).off = a.off + j := by unfold Addr.add; split <;> simp_all
      rw [e1,e2] at this
      exact this
  · cases h
theorem drop_take_append {α : Type} (x y : List α) (o n : Nat) (h : x.length = o) : ((x ++ y).drop o).take n = y.take n := by
  subst h; simp
theorem read_fields {n : Nat} {ts : List TypeId} {N : Nat} {cs : List Value} (hcs : cs.length = N)
    (ih : ∀ t cs d ps,t ∈ ts → cs.length = P.cellsOf t → DataW.trod enc P w base sp held n t cs = some (d,ps) → ∃ as0,Rd w cs as0 ∧ ShC P n t as0) :
    ∀ (fs : List Field) (o : Nat) (xs : List (DataW H × List MemPlace)),tile P N o fs = true → (∀ f,f ∈ fs → f.type ∈ ts) → o ≤ N →
      fs.mapM (fun f => DataW.trod enc P w base sp held n f.type ((cs.drop f.offset).take (P.cellsOf f.type))) = some xs →
      ∀ pre : List AV,pre.length = o → ∃ as0,Rd w (cs.drop o) as0 ∧ ∀ f,f ∈ fs → ShC P n f.type (((pre ++ as0).drop f.offset).take (P.cellsOf f.type)) := by
  intro fs
  induction fs with
  | nil =>
    intro o xs ht _ ho _ pre hp
    simp [tile] at ht
    exact ⟨[],⟨by simp; omega,by simp⟩,by simp⟩
  | cons f fs ihf =>
    intro o xs ht hm ho hx pre hp
    simp only [tile,Bool.and_eq_true,beq_iff_eq] at ht
    obtain ⟨h1,h2⟩ := ht
    simp only [List.mapM_cons,Option.bind_eq_bind,Option.bind_eq_some_iff,Option.pure_def,Option.some.injEq] at hx
    obtain ⟨⟨d,ps⟩,hd,ys,hys,rfl⟩ := hx
    have hle : o + P.cellsOf f.type ≤ N := by
      have : ∀ (fs : List Field) (k : Nat),tile P N k fs = true → k ≤ N := fun fs => by
        induction fs with
        | nil => intro k h; simp [tile] at h; omega
        | cons f fs ih => intro k h; simp only [tile,Bool.and_eq_true,beq_iff_eq] at h; have := ih _ h.2; omega
      exact this fs _ h2
    have hlen : ((cs.drop f.offset).take (P.cellsOf f.type)).length = P.cellsOf f.type := by simp; omega
    obtain ⟨a1,r1,s1⟩ := ih f.type _ d ps (hm f (List.mem_cons_self ..)) hlen hd
    have la1 : a1.length = P.cellsOf f.type := r1.1.trans hlen
    obtain ⟨a2,r2,s2⟩ := ihf (o + P.cellsOf f.type) ys h2 (fun g hg => hm g (List.mem_cons_of_mem _ hg)) hle hys (pre ++ a1) (by simp [hp,la1])
    refine ⟨a1 ++ a2,⟨by have := r2.1; simp at this ⊢; omega,fun j v a hj ha => ?_⟩,fun g hg => ?_⟩
    · rw [List.getElem?_append] at ha
      split at ha
      · rename_i hlt
        refine r1.2 j v a ?_ ha
        rw [List.getElem?_take,if_pos (by omega),h1]
        exact hj
      · rename_i hge
        refine r2.2 (j - a1.length) v a ?_ ha
        rw [← hj,List.getElem?_drop,List.getElem?_drop]
        congr 1
        omega
    · rcases List.mem_cons.1 hg with rfl | hg
      · rw [h1]
        rw [drop_take_append _ _ _ _ hp,List.take_append_of_le_length (by omega),List.take_of_length_le (by omega)]
        exact s1
      · have := s2 g hg
        rwa [List.append_assoc] at this
theorem trod_read {ts : List TypeId} (hok : okRows P ts = true) : ∀ (n : Nat) (t : TypeId) (cs : List Value) (d : DataW H) (ps : List MemPlace),t ∈ ts → cs.length = P.cellsOf t → DataW.trod enc P w base sp held n t cs = some (d,ps) →
    ∃ as0,Rd w cs as0 ∧ ShC P n t as0 := by
  intro n
  induction n with
  | zero => intro t cs d ps _ _ h; simp [DataW.trod] at h
  | succ n ih =>
    intro t cs d ps ht hl h
    have hrow : okRow P ts t = true := List.all_eq_true.1 hok t ht
    unfold okRow at hrow
    unfold DataW.trod at h
    simp only [ShC]
    cases hu : P.underlying t with
    | none => rw [hu] at hrow; cases hrow
    | some desc =>
      rw [hu] at hrow h
      cases desc <;> simp only [Bool.false_eq_true] at hrow
      case bool =>
        split at h <;> first
          | (cases h; done)
          | skip
        all_goals (rename_i heq; first | (cases heq; done) | skip)
        rename_i b
        exact ⟨[.bool b],Rd.one rfl .bool,b,rfl⟩
      case int =>
        split at h <;> first
          | (cases h; done)
          | skip
        all_goals (rename_i heq; first | (cases heq; done) | skip)
        rename_i k' i
        cases heq
        split at h
        · rename_i hk
          obtain ⟨rfl,hw⟩ := hk
          have hi := (Lit.wf_int_iff _ _).1 hw
          exact ⟨[.int _ i],Rd.one rfl (.int hi),i,rfl,hi⟩
        · cases h
      case string =>
        split at h <;> first
          | (cases h; done)
          | skip
        all_goals (rename_i heq; first | (cases heq; done) | skip)
        rename_i s
        split at h
        · rename_i hk
          have hk' : s.data.toList.length ≤ mx := by
            have : s.data.toList.length = s.size := Array.length_toList
            unfold maxLen at hk; unfold mx; omega
          exact ⟨[.str s.data.toList],Rd.one rfl (.str rfl hk'),_,rfl,hk'⟩
        · cases h
      case slice e =>
        simp only [Bool.and_eq_true,List.contains_eq_mem,decide_eq_true_eq] at hrow
        replace hrow := hrow.2
        split at h <;> first
          | (cases h; done)
          | skip
        all_goals (rename_i heq; first | (cases heq; done) | skip)
        · exact ⟨[.nsl],Rd.one rfl .nsl,.inl rfl⟩
        · rename_i e' a len cap
          cases heq
          split at h
          · rename_i hk
            obtain ⟨hb,hlc,hcm⟩ := hk
            simp only [Option.bind_eq_some_iff,Option.map_eq_some_iff] at h
            obtain ⟨elems,hel,rest,_,_⟩ := h
            obtain ⟨hel1,hel2⟩ := mapM_get _ _ hel
            simp only [List.length_range] at hel1
            have hmx : len ≤ mx := by unfold maxLen at hcm; unfold mx; omega
            have hz : 0 < P.cellsOf e := hrow.2
            cases len with
            | zero => exact ⟨[.slc 0 (P.cellsOf e) []],Rd.one rfl .slc0,.inr ⟨0,[],rfl,by simp,by simp⟩⟩
            | succ len' =>
              have key : ∀ i : Nat,i < len' + 1 → ∃ (ecs : List Value) (as0 : List AV),w.cells? base (a.add (i * P.cellsOf e)) (P.cellsOf e) = some ecs ∧ Rd w ecs as0 ∧ ShC P n e as0 := fun i hi => by
                obtain ⟨⟨ed,eps⟩,_,he⟩ := hel2 i i (by simp [hi])
                simp only [Option.bind_eq_some_iff] at he
                obtain ⟨ecs,h1,h2⟩ := he
                obtain ⟨as0,r,s⟩ := ih e ecs ed eps hrow.1 (cells_at h1 hz).2.2.1 h2
                exact ⟨ecs,as0,h1,r,s⟩
              let row : Nat → List AV := fun i => if h : i < len' + 1 then Classical.choose (Classical.choose_spec (key i h)) else []
              let val : Nat → List Value := fun i => if h : i < len' + 1 then Classical.choose (key i h) else []
              have hrowv : ∀ i,i < len' + 1 → w.cells? base (a.add (i * P.cellsOf e)) (P.cellsOf e) = some (val i) ∧ Rd w (val i) (row i) ∧ ShC P n e (row i) := fun i hi => by
                simp only [row,val,dif_pos hi]
                exact Classical.choose_spec (Classical.choose_spec (key i hi))
              have h00 := cells_at (hrowv 0 (by omega)).1 hz
              have hspot : a.spot = none := by simpa [Addr.add] using h00.1
              have hblk : a.block < w.heap.size := by simpa [Addr.add] using h00.2.1
              have hget : ∀ (r : Nat) (x : List AV),((List.range (len' + 1)).map row)[r]? = some x → r < len' + 1 ∧ x = row r := fun r x h => by
                simp only [List.getElem?_map,Option.map_eq_some_iff] at h
                obtain ⟨k,hk,rfl⟩ := h
                obtain ⟨h1,h2⟩ := List.getElem?_eq_some_iff.1 hk
                simp at h1 h2
                subst h2
                exact ⟨h1,rfl⟩
              have hcellv : ∀ (r o : Nat) (x : List AV) (b : AV),((List.range (len' + 1)).map row)[r]? = some x → x[o]? = some b → ∃ v,(val r)[o]? = some v ∧ hcell w.heap a.block (a.off + r * P.cellsOf e + o) = some v ∧ b.cell = true ∧ Rep (G0 w) w.heap v b := fun r o x b hx hb => by
                obtain ⟨hr,rfl⟩ := hget r x hx
                obtain ⟨c1,r1,s1⟩ := hrowv r hr
                obtain ⟨_,_,q3,q4⟩ := cells_at c1 hz
                have ho : o < P.cellsOf e := by have := (List.getElem?_eq_some_iff.1 hb).1; have := r1.1; omega
                obtain ⟨v,v1,v2⟩ := q4 o ho
                have e1 : (a.add (r * P.cellsOf e)).block = a.block := by unfold Addr.add; split <;> rfl
                have e2 : (a.add (r * P.cellsOf e)).off = a.off + r * P.cellsOf e := by unfold Addr.add; split <;> simp_all
                rw [e1,e2] at v2
                obtain ⟨p1,p2⟩ := r1.2 o v b v1 hb
                exact ⟨v,v1,v2,p1,p2⟩
              refine ⟨[.slc a.block (P.cellsOf e) ((List.range (len' + 1)).map row)],Rd.one rfl ?_,.inr ⟨_,_,rfl,by simpa using hmx,fun x hx => ?_⟩⟩
              · have ha : a = ⟨(G0 w).m a.block,a.off,none⟩ := by cases a; simp at hspot; subst hspot; rfl
                have R : Rep (G0 w) w.heap (.slice (some ⟨(G0 w).m a.block,a.off,none⟩) ((List.range (len' + 1)).map row).length cap) (.slc a.block (P.cellsOf e) ((List.range (len' + 1)).map row)) := by
                 refine .slc (fun r o => ((val r)[o]?).getD undef) (show a.block < w.heap.size from hblk) (show a.block < w.heap.size from hblk) (by simpa using hmx) (by simpa using hlc) (fun r x hx => ?_) (fun r o x b hx hb => ?_) (fun r o x b hx hb => ?_) (fun r o x b hx hb => ?_)
                 · obtain ⟨hr,rfl⟩ := hget r x hx
                   obtain ⟨c1,r1,_⟩ := hrowv r hr
                   rw [r1.1,(cells_at c1 hz).2.2.1]
                 · obtain ⟨v,v1,v2,_,_⟩ := hcellv r o x b hx hb
                   rw [v1]; exact v2
                 · obtain ⟨v,v1,v2,v3,_⟩ := hcellv r o x b hx hb
                   exact v3
                 · obtain ⟨v,v1,v2,_,v4⟩ := hcellv r o x b hx hb
                   rw [v1]; exact v4
                have hl' : ((List.range (len' + 1)).map row).length = len' + 1 := by simp
                rw [hl',← ha] at R
                exact R
              · obtain ⟨r,hr,rfl⟩ := List.mem_iff_getElem.1 hx
                obtain ⟨hr',e⟩ := hget r _ (List.getElem?_eq_getElem hr)
                rw [e]
                exact (hrowv r hr').2.2
          · cases h
      case pointer e =>
        simp only [Bool.and_eq_true,List.contains_eq_mem,decide_eq_true_eq] at hrow
        replace hrow := hrow.2
        split at h <;> first
          | (cases h; done)
          | skip
        all_goals (rename_i heq; first | (cases heq; done) | skip)
        · exact ⟨[.nptr],Rd.one rfl .nptr,.inl rfl⟩
        · rename_i e' a
          cases heq
          simp only [Option.map_eq_some_iff,Option.bind_eq_some_iff] at h
          obtain ⟨⟨d1,p1⟩,⟨ecs,h1,h2⟩,_⟩ := h
          obtain ⟨q1,q2,q3,q4⟩ := cells_at h1 hrow.2
          obtain ⟨as0,r,s⟩ := ih e ecs d1 p1 hrow.1 q3 h2
          refine ⟨[.cpt as0 0],Rd.one rfl ?_,.inr ⟨as0,rfl,s⟩⟩
          have ha : a = ⟨(G0 w).m a.block,a.off + 0,none⟩ := by cases a; simp at q1; subst q1; rfl
          rw [ha]
          have hv : ∀ (j : Nat) (b : AV),as0[j]? = some b → ∃ v,ecs[j]? = some v ∧ hcell w.heap a.block (a.off + j) = some v ∧ b.cell = true ∧ Rep (G0 w) w.heap v b := fun j b hb => by
            obtain ⟨v,v1,v2⟩ := q4 j (by have := (List.getElem?_eq_some_iff.1 hb).1; have := r.1; omega)
            obtain ⟨p1,p2⟩ := r.2 j v b v1 hb
            exact ⟨v,v1,v2,p1,p2⟩
          refine .cpt (fun j => (ecs[j]?).getD undef) q2 q2 (fun j b hb => ?_) (fun j b hb => ?_) (fun j b hb => ?_)
          · obtain ⟨v,v1,v2,_⟩ := hv j b hb; rw [v1]; exact v2
          · obtain ⟨v,v1,v2,v3,_⟩ := hv j b hb; exact v3
          · obtain ⟨v,v1,v2,_,v4⟩ := hv j b hb; rw [v1]; exact v4
      case struct fs =>
        simp only [Bool.and_eq_true,List.all_eq_true,List.contains_eq_mem,decide_eq_true_eq] at hrow
        split at h <;> first
          | (cases h; done)
          | skip
        all_goals (rename_i heq; first | (cases heq; done) | skip)
        · cases heq
          rw [if_pos hl] at h
          simp only [Option.map_eq_some_iff] at h
          obtain ⟨xs,hxs,_⟩ := h
          obtain ⟨as0,r,s⟩ := read_fields hl ih fs.toList 0 xs hrow.2 hrow.1 (Nat.zero_le _) hxs [] rfl
          exact ⟨as0,by simpa using r,by have := r.1; simp at this; omega,fun f hf => by simpa using s f hf⟩
        · exact (‹∀ fs_1 : Array Field,some (TypeDesc.struct fs) = some (TypeDesc.struct fs_1) → False› fs rfl).elim
end
open Go.RowKit Go.WideShapes Go.ChangeShapes Go.ChangeAt
set_option linter.unusedVariables false
section
variable {H : Type} {enc : TypeId × Value → H} {P : Program} {w : World}
def isSt (P : Program) (t : TypeId) : Bool := match P.underlying t with | some (.struct _) => true | _ => false
def ArgSh (P : Program) (t : TypeId) (a : AV) : Prop := ∃ n,if isSt P t then ∃ as0,a = .agg as0 ∧ ShC P n t as0 else ShC P n t [a]
theorem rd_agg {cs : Array Value} {as0 : List AV} (r : Rd w cs.toList as0) : Rep (G0 w) w.heap (.agg cs) (.agg as0) := by
  have hl : cs.size = as0.length := by have := r.1; simp at this; exact this.symm
  have key : ∀ (j : Nat) (a : AV),as0[j]? = some a → ∃ v,cs[j]? = some v ∧ a.cell = true ∧ Rep (G0 w) w.heap v a := fun j a ha => by
    have hj := (List.getElem?_eq_some_iff.1 ha).1
    have hv : cs.toList[j]? = some (cs[j]'(by omega)) := by simp
    obtain ⟨h1,h2⟩ := r.2 j _ a hv ha
    exact ⟨_,Array.getElem?_eq_getElem (by omega),h1,h2⟩
  exact .agg hl (fun j a ha => let ⟨v,_,h,_⟩ := key j a ha; h) fun j a ha => by
    obtain ⟨v,h1,_,h2⟩ := key j a ha
    rw [getD_of h1]; exact h2
theorem arg_read {ts : List TypeId} (hok : okRows P ts = true) {t : TypeId} (ht : t ∈ ts) {base : Nat} {r : Reach} {b : Nat} {sp : Nat → Bool} {held : Bool} {v : Value} {d : DataW H} {ps : List MemPlace} (hv : Value.okWide P w r b t v) (h : DataW.Trod enc P w base sp held t v d ps) :
    ∃ a,ArgSh P t a ∧ Rep (G0 w) w.heap v a := by
  obtain ⟨n,h⟩ := h
  have hrow : okRow P ts t = true := List.all_eq_true.1 hok t ht
  have one : isSt P t = false → P.cellsOf t = 1 → v.cells = #[v] → ∃ a,ArgSh P t a ∧ Rep (G0 w) w.heap v a := fun h1 h2 h3 => by
    rw [h3] at h
    obtain ⟨as0,r,s⟩ := trod_read hok n t _ d ps ht (by simp [h2]) h
    have hl := r.1
    match as0,hl with
    | [a],_ => exact ⟨a,⟨n,by rw [h1]; exact s⟩,(r.2 0 v a (by simp) (by simp)).2⟩
  unfold okRow at hrow
  unfold Value.okWide at hv
  have hcell : ∀ v,Cell.okWide P w r b t v → isSt P t = false → (match P.underlying t with | some .bool | some (.int _) | some .string | some (.slice _) | some (.pointer _) => true | _ => false) = true → v.cells = #[v] := fun v hv _ hm => by
    cases v <;> first
      | rfl
      | skip
    all_goals
      unfold Cell.okWide Cell.ok at hv
      cases hu : P.underlying t with
      | none => rw [hu] at hm; cases hm
      | some desc => rw [hu] at hm hv; cases desc <;> first | (cases hm; done) | exact hv.elim
  cases hu : P.underlying t with
  | none => rw [hu] at hrow; cases hrow
  | some desc =>
    rw [hu] at hrow hv
    cases desc <;> simp only [Bool.false_eq_true] at hrow
    case struct fs =>
      obtain ⟨cs,rfl,hsz,_⟩ := hv
      obtain ⟨as0,r,s⟩ := trod_read hok n t _ d ps ht (by simpa [Value.cells] using hsz) h
      exact ⟨.agg as0,⟨n,by rw [if_pos (by simp [isSt,hu])]; exact ⟨as0,rfl,s⟩⟩,rd_agg r⟩
    all_goals
      have h1 : isSt P t = false := by simp [isSt,hu]
      refine one h1 ?_ (hcell v hv h1 (by rw [hu]))
      simp only [Bool.and_eq_true,beq_iff_eq] at hrow
      first | exact hrow | exact hrow.1
inductive ArgsSh (P : Program) : List TypeId → List AV → Prop
  | nil : ArgsSh P [] []
  | cons {t : TypeId} {ts : List TypeId} {a : AV} {as0 : List AV} (h : ArgSh P t a) (r : ArgsSh P ts as0) : ArgsSh P (t :: ts) (a :: as0)
theorem args_read {rs : List TypeId} (hok : okRows P rs = true) {base : Nat} {r : Reach} {b : Nat} {sp : Nat → Bool} {held : Bool} : ∀ (ts : List TypeId) (vs : List Value) (ds : List (DataW H)) (ps : List MemPlace),(∀ t,t ∈ ts → t ∈ rs) →
    (∀ (j : Nat) t v,ts[j]? = some t → vs[j]? = some v → Value.okWide P w r b t v) → DataW.TrodAll enc P w base sp held ts vs ds ps → vs.length = ts.length ∧ ∃ as0,as0.length = ts.length ∧ ArgsSh P ts as0 ∧ ∀ (j : Nat) (v : Value) (a : AV),vs[j]? = some v → as0[j]? = some a → Rep (G0 w) w.heap v a := by
  intro ts
  induction ts with
  | nil =>
    intro vs ds ps _ _ h
    obtain ⟨rfl,rfl,rfl⟩ := trodAll_nil h
    exact ⟨rfl,[],rfl,.nil,by simp⟩
  | cons t ts ih =>
    intro vs ds ps hm hv h
    obtain ⟨v,vs',d,ds',p,q,rfl,rfl,rfl,h1,h2⟩ := trodAll_cons h
    obtain ⟨a,s,ra⟩ := arg_read hok (hm t (List.mem_cons_self ..)) (hv 0 t v (by simp) (by simp)) h1
    obtain ⟨hl,as0,hla,ss,rs'⟩ := ih vs' ds' q (fun t h => hm t (List.mem_cons_of_mem _ h)) (fun j t v h1 h2 => hv (j + 1) t v (by simpa using h1) (by simpa using h2)) h2
    refine ⟨by simp [hl],a :: as0,by simp [hla],.cons s ss,fun j v' a' h1 h2 => ?_⟩
    cases j with
    | zero => simp at h1 h2; subst h1; subst h2; exact ra
    | succ j => exact rs' j v' a' (by simpa using h1) (by simpa using h2)
theorem law_calls {f : Nat} {vs : Array Value} {as0 : List AV} (hg : ∀ b,b < NB → b < w.heap.size ∧ GL b w.heap[b]?) (hc : Con P f as0 [] w.heap.size fun r H' _ => r = .bool true ∧ H' = []) (hl : vs.toList.length = as0.length) (hr : ∀ (j : Nat) (v : Value) (a : AV),vs.toList[j]? = some v → as0[j]? = some a → Rep (G0 w) w.heap v a) :
    Calls P f vs w fun e w' => e = .returned (.bool true) ∧ Below w.heap.size w w' := by
  refine (hc (G0 w) w vs rfl (inv0 w hg) (by simpa using hl) fun j a ha => ?_).mono fun e w' ⟨v,res,H',G',he,⟨h1,h2⟩,x,I,r⟩ => ?_
  · have hj := (List.getElem?_eq_some_iff.1 ha).1
    have hv : vs.toList[j]? = some (vs[j]'(by simp at hl; omega)) := by simp
    have h1 := hr j _ a hv ha
    rw [getD_of (Array.getElem?_eq_getElem (by simp at hl; omega))]
    exact h1
  · subst h1
    cases r
    exact ⟨he,x.os,x.tape,x.output,x.size,fun k hk => x.frame k hk (by simp [tags])⟩
theorem trodAll_stays (hl : laidOutB P = true) {W W' : World} (hb : Below W.heap.size W W') {sp : Nat → Bool} : ∀ (ts : List TypeId) (vs : List Value) (ds : List (DataW H)) (ps : List MemPlace),(∀ t,t ∈ ts → P.readableRec t = true ∧ t < P.types.size) →
    (∀ p,p ∈ ps → p.block < W.heap.size) → (∀ p,p ∈ ps → sp p.block = true) → DataW.TrodAll enc P W 0 (fun _ => true) true ts vs ds ps → DataW.TrodAll enc P W' 0 sp true ts vs ds ps := by
  intro ts
  induction ts with
  | nil => intro vs ds ps _ _ _ h; obtain ⟨rfl,rfl,rfl⟩ := trodAll_nil h; exact h
  | cons t ts ih =>
    intro vs ds ps ht hlt hs h
    obtain ⟨v,vs',d,ds',p,q,rfl,rfl,rfl,h1,h2⟩ := trodAll_cons h
    obtain ⟨t1,t2⟩ := ht t (List.mem_cons_self ..)
    exact ⟨p,q,WideElems.Trod_stays hl t1 t2 h1 (fun x hx => hb.same (hlt x (List.mem_append_left _ hx))) (fun x hx => hs x (List.mem_append_left _ hx)),
      ih vs' ds' q (fun t h => ht t (List.mem_cons_of_mem _ h)) (fun x hx => hlt x (List.mem_append_right _ hx)) (fun x hx => hs x (List.mem_append_right _ hx)) h2,rfl⟩
theorem post_of_below {f : Func} {s : ChangeSpec} {apart fresh handsOn again : Bool} {W W' : World} {args : Array Value} {v : Value} {ds gs : List (DataW H)} {before pa pv : List MemPlace}
    (hW : DataW.Whole enc P f.params.toList s.vars apart W args.toList ds gs before)
    (hres : ∀ (b : Nat) (sp : Nat → Bool) (hd : Bool),DataW.TrodAll enc P W' b sp hd f.resultTypes.toList (v.resultList f.resultTypes.size) (s.fn H (ds ++ gs)).results [])
    (hargs : ∀ sp : Nat → Bool,(∀ p ∈ before,sp p.block = true) → DataW.TrodAll enc P W' 0 sp true f.params.toList args.toList (s.fn H (ds ++ gs)).args pa)
    (hvars : ∀ sp : Nat → Bool,(∀ p ∈ before,sp p.block = true) → DataW.TrodVars enc P W' sp s.vars (s.fn H (ds ++ gs)).vars pv)
    (hps : before = pa ++ pv) (hb : Below W.heap.size W W')
    (hok : ∀ (j : Nat) (t : TypeId) (r : Value),f.resultTypes[j]? = some t → (v.resultList f.resultTypes.size)[j]? = some r → Value.okWide P W' .any 0 t r) :
    s.post enc P f apart fresh handsOn again W args v W' := by
  have hlt : ∀ p ∈ before,p.block < W.heap.size := fun p hp => hW.lt p hp
  have hold : ∀ p ∈ before,(fun b => decide (b < W.heap.size)) p.block = true := fun p hp => by simpa using hlt p hp
  refine ⟨ds,gs,before,[],pa,pv,hW,hres _ _ _,hargs _ hold,hvars _ hold,World.keptBut_mono (fun p hp => ⟨hp,?_⟩) (hb.frame (· ∈ before)),fun _ => ?_⟩
  · rw [hps,List.mem_append] at hp
    exact Or.inr hp
  · obtain ⟨_,_,_,_,_,hz,hn⟩ := hW
    refine ⟨hok,_,_,([] ++ pa) ++ pv,⟨[] ++ pa,pv,trodAll_append (hargs _ (fun _ _ => rfl)) (hres _ _ _),hvars _ (fun _ _ => rfl),rfl,?_,?_⟩,?_⟩
    · intro b off hp
      have hin : MemPlace.cell b off ∈ before := by rw [hps]; simpa using hp
      rw [hb.frozen (hlt _ hin)]
      exact hz b off hin
    · intro ha
      have := hn ha
      rw [hps] at this
      simpa using this
    · intro p hp _
      rw [hps]
      simpa using hp
theorem law_post {f : Nat} {fn : Func} {s : ChangeSpec} {W : World} {args : Array Value} {ds gs : List (DataW H)} {before : List MemPlace} {bt : TypeId} {rs : List TypeId} {base : Nat} {fresh handsOn again : Bool}
    (hok : okRows P rs = true) (hl : laidOutB P = true) (hts : ∀ t,t ∈ fn.params.toList → t ∈ rs ∧ P.readableRec t = true ∧ t < P.types.size) (hbt : P.underlying bt = some .bool) (hres : fn.resultTypes = #[bt]) (hvars : s.vars = [])
    (hs : ∀ ds : List (DataW H),ds.length = fn.params.size → (s.fn H ds).results = [.lit (.bool true)] ∧ (s.fn H ds).args = ds ∧ (s.fn H ds).vars = [])
    (hW : DataW.Whole enc P fn.params.toList s.vars false W args.toList ds gs before)
    (hval : ∀ (j : Nat) t v,fn.params[j]? = some t → args[j]? = some v → Value.okWide P W .any base t v)
    (hcon : ∀ as0,ArgsSh P fn.params.toList as0 → Con P f as0 [] W.heap.size fun r H' _ => r = .bool true ∧ H' = [])
    (hg : ∀ b,b < NB → b < W.heap.size ∧ GL b W.heap[b]? := by intro b hb; exact absurd hb (Nat.not_lt_zero b)) :
    Calls P f args W fun e W' => ∃ v,e = .returned v ∧ s.post enc P fn false fresh handsOn again W args v W' := by
  have hW' := hW
  obtain ⟨p,q,hA,hV,rfl,hfz,hnd⟩ := hW
  rw [hvars] at hV
  obtain ⟨rfl,rfl⟩ := trodVars_none hV
  obtain ⟨hlen,as0,hla,hsh,hrep⟩ := args_read (w := W) hok fn.params.toList args.toList ds p (fun t h => (hts t h).1) (fun j t v h1 h2 => hval j t v (by simpa using h1) (by simpa using h2)) hA
  refine (law_calls hg (hcon as0 hsh) (hlen.trans hla.symm) hrep).mono fun e W' ⟨he,hb⟩ => ?_
  have hds : ds.length = fn.params.size := by
    have : ∀ (ts : List TypeId) (vs : List Value) (ds : List (DataW H)) (ps : List MemPlace),DataW.TrodAll enc P W 0 (fun _ => true) true ts vs ds ps → ds.length = ts.length := fun ts => by
      induction ts with
      | nil => intro vs ds ps h; obtain ⟨rfl,rfl,rfl⟩ := trodAll_nil h; rfl
      | cons t ts ih => intro vs ds ps h; obtain ⟨v,vs',d,ds',p,q,rfl,rfl,rfl,h1,h2⟩ := trodAll_cons h; simp [ih _ _ _ h2]
    simpa using this _ _ _ _ hA
  obtain ⟨s1,s2,s3⟩ := hs (ds ++ []) (by simpa using hds)
  refine ⟨_,he,post_of_below (pa := p) (pv := []) hW' (fun b sp hd => ?_) (fun sp hsp => ?_) (fun sp _ => ?_) (by simp) hb ?_⟩
  · rw [s1,hres]
    exact trodAll_cons_mk (shut_bool hbt _) trodAll_mk0
  · rw [s2,List.append_nil]
    exact trodAll_stays hl hb _ _ _ _ (fun t h => (hts t h).2) (fun x hx => hW'.lt x (by simpa using hx)) (fun x hx => hsp x (by simpa using hx)) hA
  · rw [s3,hvars]; rfl
  · exact ok_one hres rfl (okWide_bool_mk hbt _)
end
inductive SL (α : Type) where
  | nil
  | mk (tag : Nat) (xs : List α)
namespace SL
variable {α : Type}
def list : SL α → List α
  | nil => []
  | mk _ xs => xs
def av (w : Nat) (f : α → List AV) : SL α → AV
  | nil => .nsl
  | mk t xs => .slc t w (xs.map f)
@[simp] theorem list_nil : (SL.nil : SL α).list = [] := (rfl)
@[simp] theorem list_mk (t : Nat) (xs : List α) : (SL.mk t xs).list = xs := (rfl)
end SL
section
variable {α : Type} {w : Nat} {f : α → List AV} {s : SL α}
@[simp] theorem SL.len (K : AV → Prop) : lenSlcW (s.av w f) K = K (.int .i64 s.list.length) := by cases s <;> simp [SL.av,SL.list]
@[simp] theorem SL.at (k : IntKind) (n : Int) (K : AV → Prop) : iaddrW w (s.av w f) (.int k n) K = (0 ≤ n ∧ getW s.list n.toNat (Lz (fun x => K (.cpt (f x) 0)) ⟨⟩)) := by
  show _ = (0 ≤ n ∧ getW s.list n.toNat fun x => K (.cpt (f x) 0))
  cases s with
  | nil => simp [SL.av,SL.list,iaddrW,getW]
  | mk t xs => simp only [SL.av,SL.list,iaddrW_slc,getW_map,true_and]; rfl
@[simp] theorem SL.cells (K : List AV → Prop) : cellsW (s.av w f) K = K [s.av w f] := by cases s <;> rfl
end
section
variable {α : Type}
def SL.con (f : α → α) (s : SL α) : SL α := .mk 0 (s.list.map f)
def SL.pcon (s : SL α) : SL α := .mk 0 s.list
@[simp] theorem SL.con_list (f : α → α) (s : SL α) : (s.con f).list = s.list.map f := (rfl)
@[simp] theorem SL.pcon_list (s : SL α) : s.pcon.list = s.list := (rfl)
end
@[simp] theorem putA_all {row l : List AV} (h : l.length = row.length) : putA row 0 l = l := by
  unfold putA; simp [h]
section
variable {P : Program} {H : List AObj} {c : Nat} {K : AV → List AObj → Nat → Prop}
theorem call_fn0 {f : Nat} {as0 : List AV} {res : AV} (hf : Fnc P f as0 res) (hres : Av (tags H) res) (k : ∀ c',c ≤ c' → K res H c') : CallW P f as0 H c K := call_fn hf (Views.refl _ _) hres k
theorem callF_fn0 {f : Nat} {as0 : List AV} {res : AV} (hf : Fnc P f as0 res) (hres : Av (tags H) res) (k : ∀ c',c ≤ c' → K res H c') : callFW P f as0 H c K := ⟨as0,res,Views.refl _ _,hf,hres,k⟩
theorem call_tree0 {f : Nat} {as0 : List AV} {Q : Nat → AV → Prop} (hf : Tr P f as0 Q) (k : ∀ r c',c ≤ c' → Q c r → From c r → K r H c') : CallW P f as0 H c K := call_tree hf (Views.refl _ _) k
theorem fin_slc {Q : AV → List AObj → Nat → Prop} {i t w len : Nat} {rows : List (List AV)} (ho : H[i]? = some ⟨false,t,w,rows⟩) (hl : rows.length = len) (hc : ∀ row,row ∈ rows → ∀ a,a ∈ row → a.cell = true) (h : Q (.slc t w rows) [] c) : finW Q (.ref i t w len) H c :=
  ⟨H,[],[],.slc t w rows,List.nil_sublist _,.nil,fun o h => h,by simp [tags],.ref (List.mem_of_getElem? ho) (by omega) hl (fun r x x' h1 h2 => by rw [h1] at h2; cases h2; rfl)
    (fun r j x a hx ha => hc x (List.mem_of_getElem? hx) a (List.mem_of_getElem? ha)) (fun r j x x' a a' h1 h2 h3 h4 => by rw [h1] at h2; cases h2; rw [h3] at h4; cases h4; exact .refl _),h⟩
end
def szOf (n : Nat) (left : Int) : Int := if (n : Int) ≤ left then left - n else -1
def Room (left : Int) : Prop := -1 ≤ left ∧ left ≤ 1048576
theorem wrap64 {n : Int} (h1 : -9223372036854775808 ≤ n) (h2 : n ≤ 9223372036854775807) : IntKind.i64.wrap n = n := by
  simp only [IntKind.wrap_i64]; omega
section
variable {P : Program} {H : List AObj} {c : Nat} {e : Env} {Q : Post}
theorem loop_nat {B : IR} (n : Nat) (I : Nat → Env → List AObj → Nat → Prop) (h0 : I 0 e H c)
    (hs : ∀ i e H c,i ≤ n → I i e H c → ∀ N : Env → List AObj → Nat → Prop,(∀ e' H' c',i < n → I (i + 1) e' H' c' → N e' H' c') → irW P B (thenQ N Q) e H c) : irW P (.loop B) Q e H c := by
  refine ⟨fun e H c => ∃ i,i ≤ n ∧ I i e H c,fun e H c => least fun k => ∃ i,i ≤ n ∧ I i e H c ∧ k = n - i,⟨H,List.Sublist.refl _,0,Nat.zero_le _,h0⟩,fun e H c ⟨i0,hi0,hI0⟩ => ?_⟩
  obtain ⟨i,hi,hI,hk⟩ := least_spec (p := fun k => ∃ i,i ≤ n ∧ I i e H c ∧ k = n - i) ⟨_,i0,hi0,hI0,rfl⟩
  refine hs i e H c hi hI _ fun e' H' c' hlt hI' => ⟨H',List.Sublist.refl _,⟨i + 1,hlt,hI'⟩,Nat.lt_of_le_of_lt (least_le (p := fun k => ∃ i,i ≤ n ∧ I i e' H' c' ∧ k = n - i) ⟨i + 1,hlt,hI',rfl⟩) ?_⟩
  show n - (i + 1) < least fun k => ∃ i,i ≤ n ∧ I i e H c ∧ k = n - i
  rw [hk]; omega
theorem loop_drop {B : IR} (n : Nat) (I : Nat → Env → List AObj → Nat → Prop) (h0 : I 0 e H c)
    (hs : ∀ i e H c,i ≤ n → I i e H c → ∀ N : Env → List AObj → Nat → Prop,(∀ e' H' H'' c',i < n → H''.Sublist H' → I (i + 1) e' H'' c' → N e' H' c') → irW P B (thenQ N Q) e H c) : irW P (.loop B) Q e H c := by
  refine ⟨fun e H c => ∃ i,i ≤ n ∧ I i e H c,fun e H c => least fun k => ∃ i,i ≤ n ∧ I i e H c ∧ k = n - i,⟨H,List.Sublist.refl _,0,Nat.zero_le _,h0⟩,fun e H c ⟨i0,hi0,hI0⟩ => ?_⟩
  obtain ⟨i,hi,hI,hk⟩ := least_spec (p := fun k => ∃ i,i ≤ n ∧ I i e H c ∧ k = n - i) ⟨_,i0,hi0,hI0,rfl⟩
  refine hs i e H c hi hI _ fun e' H' H'' c' hlt hsub hI' => ⟨H'',hsub,⟨i + 1,hlt,hI'⟩,Nat.lt_of_le_of_lt (least_le (p := fun k => ∃ i,i ≤ n ∧ I i e' H'' c' ∧ k = n - i) ⟨i + 1,hlt,hI',rfl⟩) ?_⟩
  show n - (i + 1) < least fun k => ∃ i,i ≤ n ∧ I i e H c ∧ k = n - i
  rw [hk]; omega
end
theorem szOf_wrap {n : Nat} {left : Int} (hn : n ≤ mx) (hl : Room left) : IntKind.i64.wrap (left - n) = left - n := wrap64 (by have := hl.1; unfold mx at hn; omega) (by have := hl.2; omega)
def szL {α : Type} (sz : α → Nat) (l : List α) : Nat := (l.map sz).sum
theorem szL_step {α : Type} (sz : α → Nat) (l : List α) {i : Nat} (h : i < l.length) : szL sz (l.take (i + 1)) = szL sz (l.take i) + sz l[i] := by
  unfold szL; rw [List.take_succ_eq_append_getElem h,List.map_append,List.sum_append]; rfl
theorem szL_le {α : Type} (sz : α → Nat) (l : List α) (i : Nat) : szL sz (l.take i) ≤ szL sz l := by
  have : szL sz l = szL sz (l.take i) + szL sz (l.drop i) := by
    unfold szL; rw [← List.sum_append,← List.map_append,List.take_append_drop]
  omega
theorem step64 {i n : Nat} (hn : n ≤ mx) (h : i < n) : IntKind.i64.wrap ((i : Int) + 1) = i + 1 := by
  rw [wrap64 (by omega) (by unfold mx at hn; omega)]
def encI (n : Int) : List AV := [.int .i64 n]
@[simp] theorem encI_g (n : Int) (K : AV → Prop) : getW (encI n) 0 K = K (.int .i64 n) := by simp [encI]
@[simp] theorem encI_l (n : Int) : (encI n).length = 1 := (rfl)
def encS (l : List UInt8) : List AV := [.str l]
@[simp] theorem encS_g (l : List UInt8) (K : AV → Prop) : getW (encS l) 0 K = K (.str l) := by simp [encS]
@[simp] theorem encS_l (l : List UInt8) : (encS l).length = 1 := (rfl)
def encB (b : Bool) : List AV := [.bool b]
@[simp] theorem encB_g (b : Bool) (K : AV → Prop) : getW (encB b) 0 K = K (.bool b) := by simp [encB]
@[simp] theorem encB_l (b : Bool) : (encB b).length = 1 := (rfl)
@[simp] theorem cell_int (k : IntKind) (n : Int) : (AV.int k n).cell = true := (rfl)
@[simp] theorem cell_bool (b : Bool) : (AV.bool b).cell = true := (rfl)
@[simp] theorem cell_str (l : List UInt8) : (AV.str l).cell = true := (rfl)
@[simp] theorem cell_nsl : AV.nsl.cell = true := (rfl)
@[simp] theorem cell_slc (t w : Nat) (r : List (List AV)) : (AV.slc t w r).cell = true := (rfl)
@[simp] theorem cell_sl {α : Type} (w : Nat) (f : α → List AV) (s : SL α) : (s.av w f).cell = true := by cases s <;> rfl
end A
end Go.Proofs.YtgalkppgeoknaaaGreatDoor
