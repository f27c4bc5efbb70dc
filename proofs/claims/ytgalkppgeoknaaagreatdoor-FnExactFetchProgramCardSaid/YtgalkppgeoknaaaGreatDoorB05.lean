import Derived.Below
import Derived.Carry
import Derived.ChangeSame
import Derived.ProofKit
import Derived.OpenShut
import Derived.Test.YtgalkppgeoknaaaGreatDoorRows
import Derived.Test.YtgalkppgeoknaaaGreatDoorB04

/-
  From a contract over every shape of the arguments to the row's words. No condition.
-/
set_option linter.unusedVariables false
set_option linter.unusedSimpArgs false
namespace Go.Proofs.YtgalkppgeoknaaaGreatDoor
namespace A
open Go.RowKit Go.WideShapes Go.ChangeShapes Go.ChangeAt
set_option linter.unusedVariables false
section
variable {H : Type} {enc : TypeId × Value → H} {P : Program} {w : World}
def isSt (P : Program) (t : TypeId) : Bool := match P.underlying t with | some (.struct _) => true | _ => false
def ArgSh (P : Program) (t : TypeId) (a : AV) : Prop := ∃ n,if isSt P t then ∃ as0,a = .agg as0 ∧ ShC P n t as0 else ShC P n t [a]
theorem rd_agg {cs : Array Value} {as0 : List AV} (r : Rd w cs.toList as0) : Rep (G0 w) w.heap (.agg cs) (.agg as0) := by
  have hl : cs.size = as0.length := by have := r.1; simp at this; exact this.symm
  have key : ∀ (j : Nat) (a : AV),as0[j]? = some a → ∃ v,cs[j]? = some v ∧ a.cell = true ∧ Rep (G0 w) w.heap v a := fun j a ha => by
    have hj := (List.getElem?_eq_some_iff.1 ha).1
    have hv : cs.toList[j]? = some (cs[j]'(by omega)) := by simp
    obtain ⟨h1,h2⟩ := r.2 j _ a hv ha
    exact ⟨_,Array.getElem?_eq_getElem (by omega),h1,h2⟩
  exact .agg hl (fun j a ha => let ⟨v,_,h,_⟩ := key j a ha; h) fun j a ha => by
    obtain ⟨v,h1,_,h2⟩ := key j a ha
    rw [getD_of h1]; exact h2
theorem arg_read {ts : List TypeId} (hok : okRows P ts = true) {t : TypeId} (ht : t ∈ ts) {base : Nat} {r : Reach} {b : Nat} {sp : Nat → Bool} {held : Bool} {v : Value} {d : DataW H} {ps : List MemPlace} (hv : Value.okWide P w r b t v) (h : DataW.Trod enc P w base sp held t v d ps) :
    ∃ a,ArgSh P t a ∧ Rep (G0 w) w.heap v a := by
  obtain ⟨n,h⟩ := h
  have hrow : okRow P ts t = true := List.all_eq_true.1 hok t ht
  have one : isSt P t = false → P.cellsOf t = 1 → v.cells = #[v] → ∃ a,ArgSh P t a ∧ Rep (G0 w) w.heap v a := fun h1 h2 h3 => by
    rw [h3] at h
    obtain ⟨as0,r,s⟩ := trod_read hok n t _ d ps ht (by simp [h2]) h
    have hl := r.1
    match as0,hl with
    | [a],_ => exact ⟨a,⟨n,by rw [h1]; exact s⟩,(r.2 0 v a (by simp) (by simp)).2⟩
  unfold okRow at hrow
  unfold Value.okWide at hv
  have hcell : ∀ v,Cell.okWide P w r b t v → isSt P t = false → (match P.underlying t with | some .bool | some (.int _) | some .string | some (.slice _) | some (.pointer _) => true | _ => false) = true → v.cells = #[v] := fun v hv _ hm => by
    cases v <;> first
      | rfl
      | skip
    all_goals
      unfold Cell.okWide Cell.ok at hv
      cases hu : P.underlying t with
      | none => rw [hu] at hm; cases hm
      | some desc => rw [hu] at hm hv; cases desc <;> first | (cases hm; done) | exact hv.elim
  cases hu : P.underlying t with
  | none => rw [hu] at hrow; cases hrow
  | some desc =>
    rw [hu] at hrow hv
    cases desc <;> simp only [Bool.false_eq_true] at hrow
    case struct fs =>
      obtain ⟨cs,rfl,hsz,_⟩ := hv
      obtain ⟨as0,r,s⟩ := trod_read hok n t _ d ps ht (by simpa [Value.cells] using hsz) h
      exact ⟨.agg as0,⟨n,by rw [if_pos (by simp [isSt,hu])]; exact ⟨as0,rfl,s⟩⟩,rd_agg r⟩
    all_goals
      have h1 : isSt P t = false := by simp [isSt,hu]
      refine one h1 ?_ (hcell v hv h1 (by rw [hu]))
      simp only [Bool.and_eq_true,beq_iff_eq] at hrow
      first | exact hrow | exact hrow.1
inductive ArgsSh (P : Program) : List TypeId → List AV → Prop
  | nil : ArgsSh P [] []
  | cons {t : TypeId} {ts : List TypeId} {a : AV} {as0 : List AV} (h : ArgSh P t a) (r : ArgsSh P ts as0) : ArgsSh P (t :: ts) (a :: as0)
theorem args_read {rs : List TypeId} (hok : okRows P rs = true) {base : Nat} {r : Reach} {b : Nat} {sp : Nat → Bool} {held : Bool} : ∀ (ts : List TypeId) (vs : List Value) (ds : List (DataW H)) (ps : List MemPlace),(∀ t,t ∈ ts → t ∈ rs) →
    (∀ (j : Nat) t v,ts[j]? = some t → vs[j]? = some v → Value.okWide P w r b t v) → DataW.TrodAll enc P w base sp held ts vs ds ps → vs.length = ts.length ∧ ∃ as0,as0.length = ts.length ∧ ArgsSh P ts as0 ∧ ∀ (j : Nat) (v : Value) (a : AV),vs[j]? = some v → as0[j]? = some a → Rep (G0 w) w.heap v a := by
  intro ts
  induction ts with
  | nil =>
    intro vs ds ps _ _ h
    obtain ⟨rfl,rfl,rfl⟩ := trodAll_nil h
    exact ⟨rfl,[],rfl,.nil,by simp⟩
  | cons t ts ih =>
    intro vs ds ps hm hv h
    obtain ⟨v,vs',d,ds',p,q,rfl,rfl,rfl,h1,h2⟩ := trodAll_cons h
    obtain ⟨a,s,ra⟩ := arg_read hok (hm t (List.mem_cons_self ..)) (hv 0 t v (by simp) (by simp)) h1
    obtain ⟨hl,as0,hla,ss,rs'⟩ := ih vs' ds' q (fun t h => hm t (List.mem_cons_of_mem _ h)) (fun j t v h1 h2 => hv (j + 1) t v (by simpa using h1) (by simpa using h2)) h2
    refine ⟨by simp [hl],a :: as0,by simp [hla],.cons s ss,fun j v' a' h1 h2 => ?_⟩
    cases j with
    | zero => simp at h1 h2; subst h1; subst h2; exact ra
    | succ j => exact rs' j v' a' (by simpa using h1) (by simpa using h2)
theorem law_calls {f : Nat} {vs : Array Value} {as0 : List AV} (hg : ∀ b,b < NB → b < w.heap.size ∧ GL b w.heap[b]?) (hc : Con P f as0 [] w.heap.size fun r H' _ => r = .bool true ∧ H' = []) (hl : vs.toList.length = as0.length) (hr : ∀ (j : Nat) (v : Value) (a : AV),vs.toList[j]? = some v → as0[j]? = some a → Rep (G0 w) w.heap v a) :
    Calls P f vs w fun e w' => e = .returned (.bool true) ∧ Below w.heap.size w w' := by
  refine (hc (G0 w) w vs rfl (inv0 w hg) (by simpa using hl) fun j a ha => ?_).mono fun e w' ⟨v,res,H',G',he,⟨h1,h2⟩,x,I,r⟩ => ?_
  · have hj := (List.getElem?_eq_some_iff.1 ha).1
    have hv : vs.toList[j]? = some (vs[j]'(by simp at hl; omega)) := by simp
    have h1 := hr j _ a hv ha
    rw [getD_of (Array.getElem?_eq_getElem (by simp at hl; omega))]
    exact h1
  · subst h1
    cases r
    exact ⟨he,x.os,x.tape,x.output,x.size,fun k hk => x.frame k hk (by simp [tags])⟩
theorem trodAll_stays (hl : laidOutB P = true) {W W' : World} (hb : Below W.heap.size W W') {sp : Nat → Bool} : ∀ (ts : List TypeId) (vs : List Value) (ds : List (DataW H)) (ps : List MemPlace),(∀ t,t ∈ ts → P.readableRec t = true ∧ t < P.types.size) →
    (∀ p,p ∈ ps → p.block < W.heap.size) → (∀ p,p ∈ ps → sp p.block = true) → DataW.TrodAll enc P W 0 (fun _ => true) true ts vs ds ps → DataW.TrodAll enc P W' 0 sp true ts vs ds ps := by
  intro ts
  induction ts with
  | nil => intro vs ds ps _ _ _ h; obtain ⟨rfl,rfl,rfl⟩ := trodAll_nil h; exact h
  | cons t ts ih =>
    intro vs ds ps ht hlt hs h
    obtain ⟨v,vs',d,ds',p,q,rfl,rfl,rfl,h1,h2⟩ := trodAll_cons h
    obtain ⟨t1,t2⟩ := ht t (List.mem_cons_self ..)
    exact ⟨p,q,WideElems.Trod_stays hl t1 t2 h1 (fun x hx => hb.same (hlt x (List.mem_append_left _ hx))) (fun x hx => hs x (List.mem_append_left _ hx)),
      ih vs' ds' q (fun t h => ht t (List.mem_cons_of_mem _ h)) (fun x hx => hlt x (List.mem_append_right _ hx)) (fun x hx => hs x (List.mem_append_right _ hx)) h2,rfl⟩
theorem post_of_below {f : Func} {s : ChangeSpec} {apart fresh handsOn again : Bool} {W W' : World} {args : Array Value} {v : Value} {ds gs : List (DataW H)} {before pa pv : List MemPlace}
    (hW : DataW.Whole enc P f.params.toList s.vars apart W args.toList ds gs before)
    (hres : ∀ (b : Nat) (sp : Nat → Bool) (hd : Bool),DataW.TrodAll enc P W' b sp hd f.resultTypes.toList (v.resultList f.resultTypes.size) (s.fn H (ds ++ gs)).results [])
    (hargs : ∀ sp : Nat → Bool,(∀ p ∈ before,sp p.block = true) → DataW.TrodAll enc P W' 0 sp true f.params.toList args.toList (s.fn H (ds ++ gs)).args pa)
    (hvars : ∀ sp : Nat → Bool,(∀ p ∈ before,sp p.block = true) → DataW.TrodVars enc P W' sp s.vars (s.fn H (ds ++ gs)).vars pv)
    (hps : before = pa ++ pv) (hb : Below W.heap.size W W')
    (hok : ∀ (j : Nat) (t : TypeId) (r : Value),f.resultTypes[j]? = some t → (v.resultList f.resultTypes.size)[j]? = some r → Value.okWide P W' .any 0 t r) :
    s.post enc P f apart fresh handsOn again W args v W' := by
  have hlt : ∀ p ∈ before,p.block < W.heap.size := fun p hp => hW.lt p hp
  have hold : ∀ p ∈ before,(fun b => decide (b < W.heap.size)) p.block = true := fun p hp => by simpa using hlt p hp
  refine ⟨ds,gs,before,[],pa,pv,hW,hres _ _ _,hargs _ hold,hvars _ hold,World.keptBut_mono (fun p hp => ⟨hp,?_⟩) (hb.frame (· ∈ before)),fun _ => ?_⟩
  · rw [hps,List.mem_append] at hp
    exact Or.inr hp
  · obtain ⟨_,_,_,_,_,hz,hn⟩ := hW
    refine ⟨hok,_,_,([] ++ pa) ++ pv,⟨[] ++ pa,pv,trodAll_append (hargs _ (fun _ _ => rfl)) (hres _ _ _),hvars _ (fun _ _ => rfl),rfl,?_,?_⟩,?_⟩
    · intro b off hp
      have hin : MemPlace.cell b off ∈ before := by rw [hps]; simpa using hp
      rw [hb.frozen (hlt _ hin)]
      exact hz b off hin
    · intro ha
      have := hn ha
      rw [hps] at this
      simpa using this
    · intro p hp _
      rw [hps]
      simpa using hp
theorem law_post {f : Nat} {fn : Func} {s : ChangeSpec} {W : World} {args : Array Value} {ds gs : List (DataW H)} {before : List MemPlace} {bt : TypeId} {rs : List TypeId} {base : Nat} {fresh handsOn again : Bool}
    (hok : okRows P rs = true) (hl : laidOutB P = true) (hts : ∀ t,t ∈ fn.params.toList → t ∈ rs ∧ P.readableRec t = true ∧ t < P.types.size) (hbt : P.underlying bt = some .bool) (hres : fn.resultTypes = #[bt]) (hvars : s.vars = [])
    (hs : ∀ ds : List (DataW H),ds.length = fn.params.size → (s.fn H ds).results = [.lit (.bool true)] ∧ (s.fn H ds).args = ds ∧ (s.fn H ds).vars = [])
    (hW : DataW.Whole enc P fn.params.toList s.vars false W args.toList ds gs before)
    (hval : ∀ (j : Nat) t v,fn.params[j]? = some t → args[j]? = some v → Value.okWide P W .any base t v)
    (hcon : ∀ as0,ArgsSh P fn.params.toList as0 → Con P f as0 [] W.heap.size fun r H' _ => r = .bool true ∧ H' = [])
    (hg : ∀ b,b < NB → b < W.heap.size ∧ GL b W.heap[b]? := by intro b hb; exact absurd hb (Nat.not_lt_zero b)) :
    Calls P f args W fun e W' => ∃ v,e = .returned v ∧ s.post enc P fn false fresh handsOn again W args v W' := by
  have hW' := hW
  obtain ⟨p,q,hA,hV,rfl,hfz,hnd⟩ := hW
  rw [hvars] at hV
  obtain ⟨rfl,rfl⟩ := trodVars_none hV
  obtain ⟨hlen,as0,hla,hsh,hrep⟩ := args_read (w := W) hok fn.params.toList args.toList ds p (fun t h => (hts t h).1) (fun j t v h1 h2 => hval j t v (by simpa using h1) (by simpa using h2)) hA
  refine (law_calls hg (hcon as0 hsh) (hlen.trans hla.symm) hrep).mono fun e W' ⟨he,hb⟩ => ?_
  have hds : ds.length = fn.params.size := by
    have : ∀ (ts : List TypeId) (vs : List Value) (ds : List (DataW H)) (ps : List MemPlace),DataW.TrodAll enc P W 0 (fun _ => true) true ts vs ds ps → ds.length = ts.length := fun ts => by
      induction ts with
      | nil => intro vs ds ps h; obtain ⟨rfl,rfl,rfl⟩ := trodAll_nil h; rfl
      | cons t ts ih => intro vs ds ps h; obtain ⟨v,vs',d,ds',p,q,rfl,rfl,rfl,h1,h2⟩ := trodAll_cons h; simp [ih _ _ _ h2]
    simpa using this _ _ _ _ hA
  obtain ⟨s1,s2,s3⟩ := hs (ds ++ []) (by simpa using hds)
  refine ⟨_,he,post_of_below (pa := p) (pv := []) hW' (fun b sp hd => ?_) (fun sp hsp => ?_) (fun sp _ => ?_) (by simp) hb ?_⟩
  · rw [s1,hres]
    exact trodAll_cons_mk (shut_bool hbt _) trodAll_mk0
  · rw [s2,List.append_nil]
    exact trodAll_stays hl hb _ _ _ _ (fun t h => (hts t h).2) (fun x hx => hW'.lt x (by simpa using hx)) (fun x hx => hsp x (by simpa using hx)) hA
  · rw [s3,hvars]; rfl
  · exact ok_one hres rfl (okWide_bool_mk hbt _)
end
inductive SL (α : Type) where
  | nil
  | mk (tag : Nat) (xs : List α)
namespace SL
variable {α : Type}
def list : SL α → List α
  | nil => []
  | mk _ xs => xs
def av (w : Nat) (f : α → List AV) : SL α → AV
  | nil => .nsl
  | mk t xs => .slc t w (xs.map f)
@[simp] theorem list_nil : (SL.nil : SL α).list = [] := (rfl)
@[simp] theorem list_mk (t : Nat) (xs : List α) : (SL.mk t xs).list = xs := (rfl)
end SL
section
variable {α : Type} {w : Nat} {f : α → List AV} {s : SL α}
@[simp] theorem SL.len (K : AV → Prop) : lenSlcW (s.av w f) K = K (.int .i64 s.list.length) := by cases s <;> simp [SL.av,SL.list]
@[simp] theorem SL.at (k : IntKind) (n : Int) (K : AV → Prop) : iaddrW w (s.av w f) (.int k n) K = (0 ≤ n ∧ getW s.list n.toNat (Lz (fun x => K (.cpt (f x) 0)) ⟨⟩)) := by
  show _ = (0 ≤ n ∧ getW s.list n.toNat fun x => K (.cpt (f x) 0))
  cases s with
  | nil => simp [SL.av,SL.list,iaddrW,getW]
  | mk t xs => simp only [SL.av,SL.list,iaddrW_slc,getW_map,true_and]; rfl
@[simp] theorem SL.cells (K : List AV → Prop) : cellsW (s.av w f) K = K [s.av w f] := by cases s <;> rfl
end
section
variable {α : Type}
def SL.con (f : α → α) (s : SL α) : SL α := .mk 0 (s.list.map f)
def SL.pcon (s : SL α) : SL α := .mk 0 s.list
@[simp] theorem SL.con_list (f : α → α) (s : SL α) : (s.con f).list = s.list.map f := (rfl)
@[simp] theorem SL.pcon_list (s : SL α) : s.pcon.list = s.list := (rfl)
end
@[simp] theorem putA_all {row l : List AV} (h : l.length = row.length) : putA row 0 l = l := by
  unfold putA; simp [h]
section
variable {P : Program} {H : List AObj} {c : Nat} {K : AV → List AObj → Nat → Prop}
theorem call_fn0 {f : Nat} {as0 : List AV} {res : AV} (hf : Fnc P f as0 res) (hres : Av (tags H) res) (k : ∀ c',c ≤ c' → K res H c') : CallW P f as0 H c K := call_fn hf (Views.refl _ _) hres k
theorem callF_fn0 {f : Nat} {as0 : List AV} {res : AV} (hf : Fnc P f as0 res) (hres : Av (tags H) res) (k : ∀ c',c ≤ c' → K res H c') : callFW P f as0 H c K := ⟨as0,res,Views.refl _ _,hf,hres,k⟩
theorem call_tree0 {f : Nat} {as0 : List AV} {Q : Nat → AV → Prop} (hf : Tr P f as0 Q) (k : ∀ r c',c ≤ c' → Q c r → From c r → K r H c') : CallW P f as0 H c K := call_tree hf (Views.refl _ _) k
theorem fin_slc {Q : AV → List AObj → Nat → Prop} {i t w len : Nat} {rows : List (List AV)} (ho : H[i]? = some ⟨false,t,w,rows⟩) (hl : rows.length = len) (hc : ∀ row,row ∈ rows → ∀ a,a ∈ row → a.cell = true) (h : Q (.slc t w rows) [] c) : finW Q (.ref i t w len) H c :=
  ⟨H,[],[],.slc t w rows,List.nil_sublist _,.nil,fun o h => h,by simp [tags],.ref (List.mem_of_getElem? ho) (by omega) hl (fun r x x' h1 h2 => by rw [h1] at h2; cases h2; rfl)
    (fun r j x a hx ha => hc x (List.mem_of_getElem? hx) a (List.mem_of_getElem? ha)) (fun r j x x' a a' h1 h2 h3 h4 => by rw [h1] at h2; cases h2; rw [h3] at h4; cases h4; exact .refl _),h⟩
end
def szOf (n : Nat) (left : Int) : Int := if (n : Int) ≤ left then left - n else -1
def Room (left : Int) : Prop := -1 ≤ left ∧ left ≤ 1048576
theorem wrap64 {n : Int} (h1 : -9223372036854775808 ≤ n) (h2 : n ≤ 9223372036854775807) : IntKind.i64.wrap n = n := by
  simp only [IntKind.wrap_i64]; omega
section
variable {P : Program} {H : List AObj} {c : Nat} {e : Env} {Q : Post}
theorem loop_nat {B : IR} (n : Nat) (I : Nat → Env → List AObj → Nat → Prop) (h0 : I 0 e H c)
    (hs : ∀ i e H c,i ≤ n → I i e H c → ∀ N : Env → List AObj → Nat → Prop,(∀ e' H' c',i < n → I (i + 1) e' H' c' → N e' H' c') → irW P B (thenQ N Q) e H c) : irW P (.loop B) Q e H c := by
  refine ⟨fun e H c => ∃ i,i ≤ n ∧ I i e H c,fun e H c => least fun k => ∃ i,i ≤ n ∧ I i e H c ∧ k = n - i,⟨H,List.Sublist.refl _,0,Nat.zero_le _,h0⟩,fun e H c ⟨i0,hi0,hI0⟩ => ?_⟩
  obtain ⟨i,hi,hI,hk⟩ := least_spec (p := fun k => ∃ i,i ≤ n ∧ I i e H c ∧ k = n - i) ⟨_,i0,hi0,hI0,rfl⟩
  refine hs i e H c hi hI _ fun e' H' c' hlt hI' => ⟨H',List.Sublist.refl _,⟨i + 1,hlt,hI'⟩,Nat.lt_of_le_of_lt (least_le (p := fun k => ∃ i,i ≤ n ∧ I i e' H' c' ∧ k = n - i) ⟨i + 1,hlt,hI',rfl⟩) ?_⟩
  show n - (i + 1) < least fun k => ∃ i,i ≤ n ∧ I i e H c ∧ k = n - i
  rw [hk]; omega
theorem loop_drop {B : IR} (n : Nat) (I : Nat → Env → List AObj → Nat → Prop) (h0 : I 0 e H c)
    (hs : ∀ i e H c,i ≤ n → I i e H c → ∀ N : Env → List AObj → Nat → Prop,(∀ e' H' H'' c',i < n → H''.Sublist H' → I (i + 1) e' H'' c' → N e' H' c') → irW P B (thenQ N Q) e H c) : irW P (.loop B) Q e H c := by
  refine ⟨fun e H c => ∃ i,i ≤ n ∧ I i e H c,fun e H c => least fun k => ∃ i,i ≤ n ∧ I i e H c ∧ k = n - i,⟨H,List.Sublist.refl _,0,Nat.zero_le _,h0⟩,fun e H c ⟨i0,hi0,hI0⟩ => ?_⟩
  obtain ⟨i,hi,hI,hk⟩ := least_spec (p := fun k => ∃ i,i ≤ n ∧ I i e H c ∧ k = n - i) ⟨_,i0,hi0,hI0,rfl⟩
  refine hs i e H c hi hI _ fun e' H' H'' c' hlt hsub hI' => ⟨H'',hsub,⟨i + 1,hlt,hI'⟩,Nat.lt_of_le_of_lt (least_le (p := fun k => ∃ i,i ≤ n ∧ I i e' H'' c' ∧ k = n - i) ⟨i + 1,hlt,hI',rfl⟩) ?_⟩
  show n - (i + 1) < least fun k => ∃ i,i ≤ n ∧ I i e H c ∧ k = n - i
  rw [hk]; omega
end
theorem szOf_wrap {n : Nat} {left : Int} (hn : n ≤ mx) (hl : Room left) : IntKind.i64.wrap (left - n) = left - n := wrap64 (by have := hl.1; unfold mx at hn; omega) (by have := hl.2; omega)
def szL {α : Type} (sz : α → Nat) (l : List α) : Nat := (l.map sz).sum
theorem szL_step {α : Type} (sz : α → Nat) (l : List α) {i : Nat} (h : i < l.length) : szL sz (l.take (i + 1)) = szL sz (l.take i) + sz l[i] := by
  unfold szL; rw [List.take_succ_eq_append_getElem h,List.map_append,List.sum_append]; rfl
theorem szL_le {α : Type} (sz : α → Nat) (l : List α) (i : Nat) : szL sz (l.take i) ≤ szL sz l := by
  have : szL sz l = szL sz (l.take i) + szL sz (l.drop i) := by
    unfold szL; rw [← List.sum_append,← List.map_append,List.take_append_drop]
  omega
theorem step64 {i n : Nat} (hn : n ≤ mx) (h : i < n) : IntKind.i64.wrap ((i : Int) + 1) = i + 1 := by
  rw [wrap64 (by omega) (by unfold mx at hn; omega)]
def encI (n : Int) : List AV := [.int .i64 n]
@[simp] theorem encI_g (n : Int) (K : AV → Prop) : getW (encI n) 0 K = K (.int .i64 n) := by simp [encI]
@[simp] theorem encI_l (n : Int) : (encI n).length = 1 := (rfl)
def encS (l : List UInt8) : List AV := [.str l]
@[simp] theorem encS_g (l : List UInt8) (K : AV → Prop) : getW (encS l) 0 K = K (.str l) := by simp [encS]
@[simp] theorem cell_int (k : IntKind) (n : Int) : (AV.int k n).cell = true := (rfl)
@[simp] theorem cell_bool (b : Bool) : (AV.bool b).cell = true := (rfl)
@[simp] theorem cell_str (l : List UInt8) : (AV.str l).cell = true := (rfl)
@[simp] theorem cell_sl {α : Type} (w : Nat) (f : α → List AV) (s : SL α) : (s.av w f).cell = true := by cases s <;> rfl
set_option maxRecDepth 1000000
abbrev Cbv (n : Nat) := {F : Fun // compF Tryz.prog n=some F}
def F3 : Fun := ⟨129,
 .seq (.reg [o 7 (.box 2 (.t 3)),o 8 (.mv (.c (.bool false)))])
 (.seq (.reg [o 9 (.mv (.c (.int .i64 1048576)))])
 (.seq (.reg [o 21 (.mv (.t 0)),o 22 (.mv (.t 9)),o 23 (.call 5 [.t 21,.t 22]),o 9 (.mv (.t 23))])
 (.seq (.seq (.reg [o 24 (.mv (.t 9)),o 25 (.bin .lss (.t 24) (.c (.int .i64 0)))])
 (.cond (.t 25) (.seq (.reg [o 8 (.mv (.c (.bool true)))])
 .ret) .skip))
 (.seq (.reg [o 26 (.load (some 2) (.t 7)),o 27 (.mv (.t 9)),o 28 (.call 6 [.t 26,.t 27]),o 9 (.mv (.t 28))])
 (.seq (.seq (.reg [o 29 (.mv (.t 9)),o 30 (.bin .lss (.t 29) (.c (.int .i64 0)))])
 (.cond (.t 30) (.seq (.reg [o 8 (.mv (.c (.bool true)))])
 .ret) .skip))
 (.seq (.draw [o 32 (.mv (.t 0)),o 33 (.callF 8 [.t 32]),o 34 (.mv (.t 1)),o 35 (.mv (.t 2)),o 36 (.load (some 2) (.t 7)),o 37 (.callF 9 [.t 36]),o 38 (.callF 7 [.t 33,.t 34,.t 35,.t 37]),o 31 (.mv (.t 38)),o 39 (.extract (.t 31) 0),o 40 (.extract (.t 31) 1),o 10 (.mv (.t 39)),o 11 (.mv (.t 40))])
 (.seq (.reg [o 41 (.mv (.t 0)),o 42 (.call 8 [.t 41]),o 12 (.mv (.t 42))])
 (.seq (.reg [o 43 (.load (some 2) (.t 7)),o 44 (.call 9 [.t 43]),o 13 (.new 2 [.nsl,.nsl]),st (.store 2 (.t 13) (.t 44))])
 (.seq (.reg [o 46 (.mv (.t 12)),o 47 (.mv (.t 1)),o 48 (.mv (.t 2)),o 49 (.load (some 2) (.t 13)),o 50 (.call 10 [.t 46,.t 47,.t 48,.t 49]),o 45 (.mv (.t 50)),o 51 (.extract (.t 45) 0),o 52 (.extract (.t 45) 1),o 14 (.mv (.t 51)),o 15 (.mv (.t 52))])
 (.seq (.seq (.reg [o 53 (.mv (.t 14)),o 54 (.mv (.t 10)),o 55 (.call 11 [.t 53,.t 54]),o 56 (.un .not (.t 55)),o 57 (.mv (.t 56)),og 58 (.mv (.t 15)) 57 false,og 59 (.mv (.t 11)) 57 false,og 60 (.binb .neq (.t 58) (.t 59)) 57 false,o 61 (.pick (.t 57) (.c (.bool true)) (.t 60))])
 (.cond (.t 61) (.seq (.reg [o 8 (.mv (.c (.bool false)))])
 .ret) .skip))
 (.seq (.seq (.reg [o 62 (.mv (.t 12)),o 63 (.mv (.t 0)),o 64 (.call 8 [.t 63]),o 65 (.call 11 [.t 62,.t 64]),o 66 (.un .not (.t 65))])
 (.cond (.t 66) (.seq (.reg [o 8 (.mv (.c (.bool false)))])
 .ret) .skip))
 (.seq (.seq (.draw [o 67 (.load (some 2) (.t 13)),o 68 (.load (some 2) (.t 7)),o 69 (.callF 9 [.t 68]),o 70 (.callF 12 [.t 67,.t 69]),o 71 (.un .not (.t 70))])
 (.cond (.t 71) (.seq (.reg [o 8 (.mv (.c (.bool false)))])
 .ret) .skip))
 (.seq (.reg [o 16 (.mv (.c (.int .i64 1)))])
 (.seq (.reg [o 72 (.mv (.t 12)),o 73 (.mv (.t 16)),o 74 (.call 13 [.t 72,.t 73]),o 16 (.mv (.t 74))])
 (.seq (.reg [o 75 (.load (some 2) (.t 13)),o 76 (.mv (.t 16)),o 77 (.call 14 [.t 75,.t 76]),o 16 (.mv (.t 77))])
 (.seq (.seq (.reg [o 78 (.mv (.t 16)),o 79 (.bin .lss (.t 78) (.c (.int .i64 0))),o 80 (.mv (.t 79)),og 81 (.mv (.t 14)) 80 false,og 82 (.mv (.t 10)) 80 false,og 83 (.call 11 [.t 81,.t 82]) 80 false,og 84 (.un .not (.t 83)) 80 false,o 85 (.pick (.t 80) (.c (.bool true)) (.t 84)),o 86 (.mv (.t 85)),og 87 (.mv (.t 15)) 86 false,og 88 (.mv (.t 11)) 86 false,og 89 (.binb .neq (.t 87) (.t 88)) 86 false,o 90 (.pick (.t 86) (.c (.bool true)) (.t 89))])
 (.cond (.t 90) (.seq (.reg [o 8 (.mv (.c (.bool false)))])
 .ret) .skip))
 (.seq (.reg [o 17 (.mv (.c (.int .i64 1)))])
 (.seq (.reg [o 91 (.mv (.t 14)),o 92 (.mv (.t 17)),o 93 (.call 13 [.t 91,.t 92]),o 17 (.mv (.t 93))])
 (.seq (.reg [o 18 (.mv (.c (.int .i64 1)))])
 (.seq (.reg [o 94 (.mv (.t 14)),o 95 (.mv (.t 18)),o 96 (.call 15 [.t 94,.t 95]),o 18 (.mv (.t 96))])
 (.seq (.seq (.reg [o 97 (.mv (.t 18)),o 98 (.bin .lss (.t 97) (.c (.int .i64 0)))])
 (.cond (.t 98) (.seq (.reg [o 8 (.mv (.c (.bool false)))])
 .ret) .skip))
 (.seq (.seq (.reg [o 99 (.mv (.t 18)),o 100 (.mv (.t 17)),o 101 (.bin .neq (.t 99) (.t 100))])
 (.cond (.t 101) (.seq (.reg [o 8 (.mv (.c (.bool false)))])
 .ret) .skip))
 (.seq (.draw [o 103 (.mv (.t 0)),o 104 (.callF 8 [.t 103]),o 105 (.mv (.t 1)),o 106 (.mv (.t 2)),o 107 (.load (some 2) (.t 7)),o 108 (.callF 9 [.t 107]),o 109 (.callF 10 [.t 104,.t 105,.t 106,.t 108]),o 102 (.mv (.t 109)),o 110 (.extract (.t 102) 0),o 111 (.extract (.t 102) 1),o 19 (.mv (.t 110)),o 20 (.mv (.t 111))])
 (.seq (.seq (.reg [o 112 (.mv (.t 19)),o 113 (.mv (.t 10)),o 114 (.call 11 [.t 112,.t 113]),o 115 (.un .not (.t 114)),o 116 (.mv (.t 115)),og 117 (.mv (.t 20)) 116 false,og 118 (.mv (.t 11)) 116 false,og 119 (.binb .neq (.t 117) (.t 118)) 116 false,o 120 (.pick (.t 116) (.c (.bool true)) (.t 119))])
 (.cond (.t 120) (.seq (.reg [o 8 (.mv (.c (.bool false)))])
 .ret) .skip))
 (.seq (.reg [o 18 (.mv (.c (.int .i64 1)))])
 (.seq (.reg [o 121 (.mv (.t 14)),o 122 (.mv (.t 18)),o 123 (.call 15 [.t 121,.t 122]),o 18 (.mv (.t 123))])
 (.seq (.seq (.reg [o 124 (.mv (.t 18)),o 125 (.bin .lss (.t 124) (.c (.int .i64 0)))])
 (.cond (.t 125) (.seq (.reg [o 8 (.mv (.c (.bool false)))])
 .ret) .skip))
 (.seq (.seq (.reg [o 126 (.mv (.t 18)),o 127 (.mv (.t 17)),o 128 (.bin .neq (.t 126) (.t 127))])
 (.cond (.t 128) (.seq (.reg [o 8 (.mv (.c (.bool false)))])
 .ret) .skip))
 (.seq (.reg [o 8 (.mv (.c (.bool true)))])
 .ret))))))))))))))))))))))))))))),
 [.tmp 8]⟩
def F4 : Fun := (⟨_,by cbv⟩ : Cbv 4).1
def F5 : Fun := (⟨_,by cbv⟩ : Cbv 5).1
def F6 : Fun := (⟨_,by cbv⟩ : Cbv 6).1
def F7 : Fun := (⟨_,by cbv⟩ : Cbv 7).1
def F8 : Fun := (⟨_,by cbv⟩ : Cbv 8).1
def F9 : Fun := (⟨_,by cbv⟩ : Cbv 9).1
def F11 : Fun := (⟨_,by cbv⟩ : Cbv 11).1
def F12 : Fun := (⟨_,by cbv⟩ : Cbv 12).1
def F13 : Fun := (⟨_,by cbv⟩ : Cbv 13).1
def F14 : Fun := (⟨_,by cbv⟩ : Cbv 14).1
def F16 : Fun := (⟨_,by cbv⟩ : Cbv 16).1
def F18 : Fun := (⟨_,by cbv⟩ : Cbv 18).1
def F19 : Fun := (⟨_,by cbv⟩ : Cbv 19).1
def F26 : Fun := (⟨_,by cbv⟩ : Cbv 26).1
def F33 : Fun := (⟨_,by cbv⟩ : Cbv 33).1
def F34 : Fun := (⟨_,by cbv⟩ : Cbv 34).1
def F35 : Fun := (⟨_,by cbv⟩ : Cbv 35).1
def F36 : Fun := (⟨_,by cbv⟩ : Cbv 36).1
def F37 : Fun := (⟨_,by cbv⟩ : Cbv 37).1
def F38 : Fun := (⟨_,by cbv⟩ : Cbv 38).1
def F40 : Fun := (⟨_,by cbv⟩ : Cbv 40).1
def F41 : Fun := (⟨_,by cbv⟩ : Cbv 41).1
def F42 : Fun := ⟨55,
 .seq (.reg [o 2 (.new 2 [.nsl,.nsl]),o 3 (.mv (.c (.bool false)))])
 (.seq (.reg [o 8 (.mv (.t 0)),o 9 (.build [.nsl,.int .i64 0] [(0,1,(.t 8))]),o 4 (.new 2 [.nsl,.int .i64 0]),st (.store 2 (.t 4) (.t 9))])
 (.seq (.reg [o 10 (.build [.nsl,.nsl] []),o 5 (.new 2 [.nsl,.nsl]),st (.store 2 (.t 5) (.t 10))])
 (.seq (.seq (.reg [o 11 (.call 76 [.t 4]),o 6 (.mv (.t 11))])
 (.block 0 (.loop (.seq (.seq (.reg [o 12 (.mv (.t 6)),o 13 (.bin .gtr (.t 12) (.c (.int .i64 0))),o 14 (.mv (.t 13)),og 15 (.faddr 1 (.t 4)) 14 true,og 16 (.load none (.t 15)) 14 true,og 17 (.bin .geq (.t 16) (.c (.int .i64 0))) 14 true,o 18 (.pick (.t 14) (.t 17) (.c (.bool false)))])
 (.cond (.t 18) .skip (.exit 0)))
 (.seq (.block 1 (.reg [o 21 (.faddr 0 (.t 5)),o 22 (.load none (.t 21)),o 23 (.call 77 [.t 4]),st (.chk none (.t 21) (.t 22)),o 24 (.bslice 6 [.str [],.nsl,.nsl,.nsl,.bool false,.nsl] 1 [(0,(.t 23))]),st (.chk none (.t 21) (.t 22)),o 25 (.append 6 120 (.t 22) (.t 24)),o 26 (.faddr 0 (.t 5)),st (.store 1 (.t 26) (.t 25))]))
 (.reg [o 19 (.mv (.t 6)),o 20 (.bin .sub (.t 19) (.c (.int .i64 1))),o 6 (.mv (.t 20))]))))))
 (.seq (.seq (.reg [o 27 (.call 76 [.t 4]),o 7 (.mv (.t 27))])
 (.block 2 (.loop (.seq (.seq (.reg [o 28 (.mv (.t 7)),o 29 (.bin .gtr (.t 28) (.c (.int .i64 0))),o 30 (.mv (.t 29)),og 31 (.faddr 1 (.t 4)) 30 true,og 32 (.load none (.t 31)) 30 true,og 33 (.bin .geq (.t 32) (.c (.int .i64 0))) 30 true,o 34 (.pick (.t 30) (.t 33) (.c (.bool false)))])
 (.cond (.t 34) .skip (.exit 2)))
 (.seq (.block 3 (.reg [o 37 (.faddr 1 (.t 5)),o 38 (.load none (.t 37)),o 39 (.call 78 [.t 4]),st (.chk none (.t 37) (.t 38)),o 40 (.bslice 4 [.str [],.str [],.nsl,.nsl] 1 [(0,(.t 39))]),st (.chk none (.t 37) (.t 38)),o 41 (.append 4 80 (.t 38) (.t 40)),o 42 (.faddr 1 (.t 5)),st (.store 1 (.t 42) (.t 41))]))
 (.reg [o 35 (.mv (.t 7)),o 36 (.bin .sub (.t 35) (.c (.int .i64 1))),o 7 (.mv (.t 36))]))))))
 (.seq (.seq (.reg [o 43 (.faddr 1 (.t 4)),o 44 (.load none (.t 43)),o 45 (.mv (.t 0)),o 46 (.lenL (.t 45)),o 47 (.bin .neq (.t 44) (.t 46)),o 48 (.mv (.t 47)),og 49 (.load (some 2) (.t 5)) 48 false,og 50 (.call 51 [.t 49]) 48 false,og 51 (.un .not (.t 50)) 48 false,o 52 (.pick (.t 48) (.c (.bool true)) (.t 51))])
 (.cond (.t 52) (.seq (.reg [o 53 (.build [.nsl,.nsl] []),st (.store 2 (.t 2) (.t 53)),o 3 (.mv (.c (.bool false)))])
 .ret) .skip))
 (.seq (.reg [o 54 (.load (some 2) (.t 5)),st (.store 2 (.t 2) (.t 54)),o 3 (.mv (.c (.bool true)))])
 .ret)))))),
 [.cell 2 (some 2),.tmp 3]⟩
def F46 : Fun := (⟨_,by cbv⟩ : Cbv 46).1
def F47 : Fun := (⟨_,by cbv⟩ : Cbv 47).1
def F48 : Fun := (⟨_,by cbv⟩ : Cbv 48).1
def F51 : Fun := ⟨189,
 .seq (.reg [o 1 (.box 2 (.t 0)),o 2 (.mv (.c (.bool false)))])
 (.seq (.seq (.reg [o 10 (.faddr 0 (.t 1)),o 11 (.load none (.t 10)),o 12 (.lenL (.t 11)),o 13 (.bin .gtr (.t 12) (.c (.int .i64 5000))),o 14 (.mv (.t 13)),og 15 (.faddr 1 (.t 1)) 14 false,og 16 (.load none (.t 15)) 14 false,og 17 (.lenL (.t 16)) 14 false,og 18 (.bin .eql (.t 17) (.c (.int .i64 0))) 14 false,o 19 (.pick (.t 14) (.c (.bool true)) (.t 18)),o 20 (.mv (.t 19)),og 21 (.faddr 1 (.t 1)) 20 false,og 22 (.load none (.t 21)) 20 false,og 23 (.iaddr 4 (.t 22) (.c (.int .i64 0))) 20 false,og 24 (.faddr 0 (.t 23)) 20 false,og 25 (.load none (.t 24)) 20 false,og 26 (.bin .neq (.t 25) (.c (.str [69,114,114,111,114]))) 20 false,o 27 (.pick (.t 20) (.c (.bool true)) (.t 26)),o 28 (.mv (.t 27)),og 29 (.faddr 1 (.t 1)) 28 false,og 30 (.load none (.t 29)) 28 false,og 31 (.iaddr 4 (.t 30) (.c (.int .i64 0))) 28 false,og 32 (.faddr 2 (.t 31)) 28 false,og 33 (.load none (.t 32)) 28 false,og 34 (.lenL (.t 33)) 28 false,og 35 (.bin .eql (.t 34) (.c (.int .i64 0))) 28 false,o 36 (.pick (.t 28) (.c (.bool true)) (.t 35)),o 37 (.mv (.t 36)),og 38 (.faddr 1 (.t 1)) 37 false,og 39 (.load none (.t 38)) 37 false,og 40 (.iaddr 4 (.t 39) (.c (.int .i64 0))) 37 false,og 41 (.faddr 2 (.t 40)) 37 false,og 42 (.load none (.t 41)) 37 false,og 43 (.iaddr 8 (.t 42) (.c (.int .i64 0))) 37 false,og 44 (.faddr 0 (.t 43)) 37 false,og 45 (.load none (.t 44)) 37 false,og 46 (.bin .neq (.t 45) (.c (.str [109,101,115,115,97,103,101]))) 37 false,o 47 (.pick (.t 37) (.c (.bool true)) (.t 46))])
 (.cond (.t 47) (.seq (.reg [o 2 (.mv (.c (.bool false)))])
 .ret) .skip))
 (.seq (.seq (.reg [o 3 (.mv (.c (.int .i64 0)))])
 (.block 0 (.loop (.seq (.seq (.reg [o 48 (.mv (.t 3)),o 49 (.faddr 0 (.t 1)),o 50 (.load none (.t 49)),o 51 (.lenL (.t 50)),o 52 (.bin .lss (.t 48) (.t 51))])
 (.cond (.t 52) .skip (.exit 0)))
 (.seq (.block 1 (.seq (.reg [o 55 (.load (some 2) (.t 1)),o 56 (.faddr 0 (.t 1)),o 57 (.load none (.t 56)),o 58 (.mv (.t 3)),o 59 (.iaddr 6 (.t 57) (.t 58)),o 60 (.faddr 0 (.t 59)),o 61 (.load none (.t 60)),o 62 (.callF 92 [.t 55,.t 61]),o 63 (.mv (.t 3)),o 64 (.bin .neq (.t 62) (.t 63)),o 65 (.mv (.t 64)),og 66 (.faddr 0 (.t 1)) 65 false,og 67 (.load none (.t 66)) 65 false,og 68 (.mv (.t 3)) 65 false,og 69 (.iaddr 6 (.t 67) (.t 68)) 65 false,og 70 (.load (some 6) (.t 69)) 65 false,og 71 (.callF 93 [.t 70]) 65 false,og 72 (.un .not (.t 71)) 65 false,o 73 (.pick (.t 65) (.c (.bool true)) (.t 72))])
 (.cond (.t 73) (.seq (.reg [o 2 (.mv (.c (.bool false)))])
 .ret) .skip)))
 (.reg [o 53 (.mv (.t 3)),o 54 (.bin .add (.t 53) (.c (.int .i64 1))),o 3 (.mv (.t 54))]))))))
 (.seq (.seq (.reg [o 4 (.mv (.c (.int .i64 0)))])
 (.block 2 (.loop (.seq (.seq (.reg [o 74 (.mv (.t 4)),o 75 (.faddr 1 (.t 1)),o 76 (.load none (.t 75)),o 77 (.lenL (.t 76)),o 78 (.bin .lss (.t 74) (.t 77))])
 (.cond (.t 78) .skip (.exit 2)))
 (.seq (.block 3 (.seq (.reg [o 81 (.faddr 1 (.t 1)),o 82 (.load none (.t 81)),o 83 (.mv (.t 4)),o 84 (.iaddr 4 (.t 82) (.t 83)),o 85 (.load (some 4) (.t 84)),o 5 (.new 4 [.str [],.str [],.nsl,.nsl]),st (.store 4 (.t 5) (.t 85))])
 (.seq (.seq (.reg [o 86 (.faddr 1 (.t 1)),o 87 (.load none (.t 86)),o 88 (.faddr 0 (.t 5)),o 89 (.load none (.t 88)),o 90 (.call 94 [.t 87,.t 89]),o 91 (.mv (.t 4)),o 92 (.bin .neq (.t 90) (.t 91))])
 (.cond (.t 92) (.seq (.reg [o 2 (.mv (.c (.bool false)))])
 .ret) .skip))
 (.seq (.seq (.reg [o 6 (.mv (.c (.int .i64 0)))])
 (.block 4 (.loop (.seq (.seq (.reg [o 93 (.mv (.t 6)),o 94 (.faddr 2 (.t 5)),o 95 (.load none (.t 94)),o 96 (.lenL (.t 95)),o 97 (.bin .lss (.t 93) (.t 96))])
 (.cond (.t 97) .skip (.exit 4)))
 (.seq (.block 5 (.seq (.seq (.reg [o 100 (.faddr 2 (.t 5)),o 101 (.load none (.t 100)),o 102 (.mv (.t 6)),o 103 (.iaddr 8 (.t 101) (.t 102)),o 104 (.faddr 3 (.t 103)),o 105 (.load (some 5) (.t 104)),o 106 (.call 95 [.t 105]),o 107 (.un .not (.t 106)),o 108 (.mv (.t 107)),og 109 (.faddr 2 (.t 5)) 108 false,og 110 (.load none (.t 109)) 108 false,og 111 (.mv (.t 6)) 108 false,og 112 (.iaddr 8 (.t 110) (.t 111)) 108 false,og 113 (.faddr 3 (.t 112)) 108 false,og 114 (.faddr 0 (.t 113)) 108 false,og 115 (.load none (.t 114)) 108 false,og 116 (.bin .gtr (.t 115) (.c (.int .i64 3))) 108 false,o 117 (.pick (.t 108) (.c (.bool true)) (.t 116)),o 118 (.mv (.t 117)),og 119 (.faddr 2 (.t 5)) 118 false,og 120 (.load none (.t 119)) 118 false,og 121 (.mv (.t 6)) 118 false,og 122 (.iaddr 8 (.t 120) (.t 121)) 118 false,og 123 (.faddr 0 (.t 122)) 118 false,og 124 (.load none (.t 123)) 118 false,og 125 (.call 96 [.t 124]) 118 false,og 126 (.un .not (.t 125)) 118 false,o 127 (.pick (.t 118) (.c (.bool true)) (.t 126))])
 (.cond (.t 127) (.seq (.reg [o 2 (.mv (.c (.bool false)))])
 .ret) .skip))
 (.seq (.reg [o 7 (.mv (.c (.int .i64 0)))])
 (.block 6 (.loop (.seq (.seq (.reg [o 128 (.mv (.t 7)),o 129 (.mv (.t 6)),o 130 (.bin .lss (.t 128) (.t 129))])
 (.cond (.t 130) .skip (.exit 6)))
 (.seq (.block 7 (.seq (.reg [o 133 (.faddr 2 (.t 5)),o 134 (.load none (.t 133)),o 135 (.mv (.t 7)),o 136 (.iaddr 8 (.t 134) (.t 135)),o 137 (.faddr 0 (.t 136)),o 138 (.load none (.t 137)),o 139 (.faddr 2 (.t 5)),o 140 (.load none (.t 139)),o 141 (.mv (.t 6)),o 142 (.iaddr 8 (.t 140) (.t 141)),o 143 (.faddr 0 (.t 142)),o 144 (.load none (.t 143)),o 145 (.bin .eql (.t 138) (.t 144))])
 (.cond (.t 145) (.seq (.reg [o 2 (.mv (.c (.bool false)))])
 .ret) .skip)))
 (.reg [o 131 (.mv (.t 7)),o 132 (.bin .add (.t 131) (.c (.int .i64 1))),o 7 (.mv (.t 132))]))))))))
 (.reg [o 98 (.mv (.t 6)),o 99 (.bin .add (.t 98) (.c (.int .i64 1))),o 6 (.mv (.t 99))]))))))
 (.seq (.reg [o 8 (.mv (.c (.int .i64 0)))])
 (.block 8 (.loop (.seq (.seq (.reg [o 146 (.mv (.t 8)),o 147 (.faddr 3 (.t 5)),o 148 (.load none (.t 147)),o 149 (.lenL (.t 148)),o 150 (.bin .lss (.t 146) (.t 149))])
 (.cond (.t 150) .skip (.exit 8)))
 (.seq (.block 9 (.seq (.reg [o 153 (.load (some 2) (.t 1)),o 154 (.faddr 3 (.t 5)),o 155 (.load none (.t 154)),o 156 (.mv (.t 8)),o 157 (.iaddr 5 (.t 155) (.t 156)),o 158 (.faddr 2 (.t 157)),o 159 (.load none (.t 158)),o 160 (.bin .add (.t 159) (.c (.str [58,58]))),o 161 (.faddr 3 (.t 5)),o 162 (.load none (.t 161)),o 163 (.mv (.t 8)),o 164 (.iaddr 5 (.t 162) (.t 163)),o 165 (.faddr 0 (.t 164)),o 166 (.load none (.t 165)),o 167 (.bin .add (.t 160) (.t 166)),o 168 (.callF 92 [.t 153,.t 167]),o 9 (.mv (.t 168))])
 (.seq (.reg [o 169 (.mv (.t 9)),o 170 (.bin .lss (.t 169) (.c (.int .i64 0))),o 171 (.mv (.t 170)),og 172 (.faddr 0 (.t 1)) 171 false,og 173 (.load none (.t 172)) 171 false,og 174 (.mv (.t 9)) 171 false,og 175 (.iaddr 6 (.t 173) (.t 174)) 171 false,og 176 (.load (some 6) (.t 175)) 171 false,og 177 (.call 97 [.t 176]) 171 false,o 178 (.pick (.t 171) (.c (.bool true)) (.t 177)),o 179 (.mv (.t 178)),og 180 (.faddr 0 (.t 1)) 179 false,og 181 (.load none (.t 180)) 179 false,og 182 (.mv (.t 9)) 179 false,og 183 (.iaddr 6 (.t 181) (.t 182)) 179 false,og 184 (.faddr 2 (.t 183)) 179 false,og 185 (.load none (.t 184)) 179 false,og 186 (.lenL (.t 185)) 179 false,og 187 (.bin .gtr (.t 186) (.c (.int .i64 0))) 179 false,o 188 (.pick (.t 179) (.c (.bool true)) (.t 187))])
 (.cond (.t 188) (.seq (.reg [o 2 (.mv (.c (.bool false)))])
 .ret) .skip))))
 (.reg [o 151 (.mv (.t 8)),o 152 (.bin .add (.t 151) (.c (.int .i64 1))),o 8 (.mv (.t 152))]))))))))))
 (.reg [o 79 (.mv (.t 4)),o 80 (.bin .add (.t 79) (.c (.int .i64 1))),o 4 (.mv (.t 80))]))))))
 (.seq (.reg [o 2 (.mv (.c (.bool true)))])
 .ret)))),
 [.tmp 2]⟩
def F53 : Fun := (⟨_,by cbv⟩ : Cbv 53).1
def F54 : Fun := (⟨_,by cbv⟩ : Cbv 54).1
def F55 : Fun := (⟨_,by cbv⟩ : Cbv 55).1
def F64 : Fun := (⟨_,by cbv⟩ : Cbv 64).1
def F67 : Fun := (⟨_,by cbv⟩ : Cbv 67).1
def F68 : Fun := (⟨_,by cbv⟩ : Cbv 68).1
def F69 : Fun := (⟨_,by cbv⟩ : Cbv 69).1
def F70 : Fun := (⟨_,by cbv⟩ : Cbv 70).1
def F71 : Fun := (⟨_,by cbv⟩ : Cbv 71).1
def F72 : Fun := (⟨_,by cbv⟩ : Cbv 72).1
def F73 : Fun := (⟨_,by cbv⟩ : Cbv 73).1
def F74 : Fun := (⟨_,by cbv⟩ : Cbv 74).1
def F75 : Fun := (⟨_,by cbv⟩ : Cbv 75).1
def F76 : Fun := ⟨29,
 .seq (.reg [o 2 (.mv (.c (.int .i64 0)))])
 (.seq (.draw [o 7 (.mv (.t 0)),o 8 (.nilck (.t 7)),o 9 (.faddr 0 (.t 8)),o 10 (.load none (.t 9)),o 11 (.mv (.t 0)),o 12 (.nilck (.t 11)),o 13 (.faddr 1 (.t 12)),o 14 (.load none (.t 13)),o 15 (.callF 120 [.t 10,.t 14]),o 6 (.mv (.t 15)),o 16 (.extract (.t 6) 0),o 17 (.extract (.t 6) 1),o 18 (.extract (.t 6) 2),o 3 (.mv (.t 16)),o 4 (.mv (.t 17)),o 5 (.mv (.t 18))])
 (.seq (.seq (.reg [o 19 (.mv (.t 5)),o 20 (.un .not (.t 19))])
 (.cond (.t 20) (.seq (.reg [o 21 (.mv (.t 0)),o 22 (.nilck (.t 21)),o 23 (.faddr 1 (.t 22)),st (.store 1 (.t 23) (.c (.int .i64 (-1))))])
 (.seq (.reg [o 2 (.mv (.c (.int .i64 0)))])
 .ret)) .skip))
 (.seq (.reg [o 24 (.mv (.t 0)),o 25 (.mv (.t 4)),o 26 (.nilck (.t 24)),o 27 (.faddr 1 (.t 26)),st (.store 1 (.t 27) (.t 25))])
 (.seq (.reg [o 28 (.mv (.t 3)),o 2 (.mv (.t 28))])
 .ret)))),
 [.tmp 2]⟩
def F77 : Fun := ⟨74,
 .seq (.reg [o 2 (.new 6 [.str [],.nsl,.nsl,.nsl,.bool false,.nsl])])
 (.seq (.reg [o 7 (.mv (.t 0)),o 8 (.call 121 [.t 7]),o 9 (.build [.str [],.nsl,.nsl,.nsl,.bool false,.nsl] [(0,1,(.t 8))]),o 3 (.new 6 [.str [],.nsl,.nsl,.nsl,.bool false,.nsl]),st (.store 6 (.t 3) (.t 9))])
 (.seq (.reg [o 10 (.mv (.t 0)),o 11 (.call 122 [.t 10]),o 12 (.faddr 1 (.t 3)),st (.store 1 (.t 12) (.t 11))])
 (.seq (.reg [o 13 (.mv (.t 0)),o 14 (.call 122 [.t 13]),o 15 (.faddr 2 (.t 3)),st (.store 1 (.t 15) (.t 14))])
 (.seq (.seq (.reg [o 16 (.mv (.t 0)),o 17 (.call 76 [.t 16]),o 4 (.mv (.t 17))])
 (.block 0 (.loop (.seq (.seq (.reg [o 18 (.mv (.t 4)),o 19 (.bin .gtr (.t 18) (.c (.int .i64 0))),o 20 (.mv (.t 19)),og 21 (.mv (.t 0)) 20 true,og 22 (.nilck (.t 21)) 20 true,og 23 (.faddr 1 (.t 22)) 20 true,og 24 (.load none (.t 23)) 20 true,og 25 (.bin .geq (.t 24) (.c (.int .i64 0))) 20 true,o 26 (.pick (.t 20) (.t 25) (.c (.bool false)))])
 (.cond (.t 26) .skip (.exit 0)))
 (.seq (.block 1 (.reg [o 29 (.faddr 3 (.t 3)),o 30 (.load none (.t 29)),o 31 (.mv (.t 0)),o 32 (.call 121 [.t 31]),st (.chk none (.t 29) (.t 30)),o 33 (.bslice 1 [.str []] 1 [(0,(.t 32))]),st (.chk none (.t 29) (.t 30)),o 34 (.append 1 16 (.t 30) (.t 33)),o 35 (.faddr 3 (.t 3)),st (.store 1 (.t 35) (.t 34))]))
 (.reg [o 27 (.mv (.t 4)),o 28 (.bin .sub (.t 27) (.c (.int .i64 1))),o 4 (.mv (.t 28))]))))))
 (.seq (.reg [o 36 (.mv (.t 0)),o 37 (.call 123 [.t 36]),o 38 (.faddr 4 (.t 3)),st (.store 1 (.t 38) (.t 37))])
 (.seq (.seq (.reg [o 39 (.mv (.t 0)),o 40 (.call 76 [.t 39]),o 5 (.mv (.t 40))])
 (.block 2 (.loop (.seq (.seq (.reg [o 41 (.mv (.t 5)),o 42 (.bin .gtr (.t 41) (.c (.int .i64 0))),o 43 (.mv (.t 42)),og 44 (.mv (.t 0)) 43 true,og 45 (.nilck (.t 44)) 43 true,og 46 (.faddr 1 (.t 45)) 43 true,og 47 (.load none (.t 46)) 43 true,og 48 (.bin .geq (.t 47) (.c (.int .i64 0))) 43 true,o 49 (.pick (.t 43) (.t 48) (.c (.bool false)))])
 (.cond (.t 49) .skip (.exit 2)))
 (.seq (.block 3 (.seq (.reg [o 52 (.mv (.t 0)),o 53 (.call 76 [.t 52]),o 54 (.build [.int .i64 0,.int .i64 0,.int .i64 0,.str [],.str []] [(0,1,(.t 53))]),o 6 (.new 5 [.int .i64 0,.int .i64 0,.int .i64 0,.str [],.str []]),st (.store 5 (.t 6) (.t 54))])
 (.seq (.reg [o 55 (.mv (.t 0)),o 56 (.call 76 [.t 55]),o 57 (.faddr 1 (.t 6)),st (.store 1 (.t 57) (.t 56))])
 (.seq (.reg [o 58 (.mv (.t 0)),o 59 (.call 76 [.t 58]),o 60 (.faddr 2 (.t 6)),st (.store 1 (.t 60) (.t 59))])
 (.seq (.reg [o 61 (.mv (.t 0)),o 62 (.call 121 [.t 61]),o 63 (.faddr 3 (.t 6)),st (.store 1 (.t 63) (.t 62))])
 (.seq (.reg [o 64 (.mv (.t 0)),o 65 (.call 121 [.t 64]),o 66 (.faddr 4 (.t 6)),st (.store 1 (.t 66) (.t 65))])
 (.reg [o 67 (.faddr 5 (.t 3)),o 68 (.load none (.t 67)),o 69 (.load (some 5) (.t 6)),o 70 (.bslice 5 [.int .i64 0,.int .i64 0,.int .i64 0,.str [],.str []] 1 [(0,(.t 69))]),o 71 (.append 5 56 (.t 68) (.t 70)),o 72 (.faddr 5 (.t 3)),st (.store 1 (.t 72) (.t 71))])))))))
 (.reg [o 50 (.mv (.t 5)),o 51 (.bin .sub (.t 50) (.c (.int .i64 1))),o 5 (.mv (.t 51))]))))))
 (.seq (.reg [o 73 (.load (some 6) (.t 3)),st (.store 6 (.t 2) (.t 73))])
 .ret))))))),
 [.cell 2 (some 6)]⟩
def F78 : Fun := (⟨_,by cbv⟩ : Cbv 78).1
def F82 : Fun := (⟨_,by cbv⟩ : Cbv 82).1
def F83 : Fun := (⟨_,by cbv⟩ : Cbv 83).1
def F84 : Fun := (⟨_,by cbv⟩ : Cbv 84).1
def F85 : Fun := ⟨95,
 .seq (.reg [o 4 (.mv (.c (.int .i64 0)))])
 (.seq (.seq (.reg [o 5 (.mv (.c (.int .i64 0)))])
 (.block 0 (.loop (.seq (.seq (.reg [o 6 (.mv (.t 5)),o 7 (.mv (.t 0)),o 8 (.lenL (.t 7)),o 9 (.bin .lss (.t 6) (.t 8))])
 (.cond (.t 9) .skip (.exit 0)))
 (.seq (.block 1 (.seq (.seq (.reg [o 12 (.mv (.t 0)),o 13 (.mv (.t 5)),o 14 (.iaddr 8 (.t 12) (.t 13)),o 15 (.faddr 0 (.t 14)),o 16 (.load none (.t 15)),o 17 (.mv (.t 1)),o 18 (.callF 70 [.t 17]),o 19 (.bin .neq (.t 16) (.t 18))])
 (.cond (.t 19) (.seq (.reg [o 4 (.mv (.c (.int .i64 (-1))))])
 .ret) .skip))
 (.seq (.reg [o 20 (.mv (.t 1)),o 21 (.bin .add (.t 20) (.c (.int .i64 1))),o 1 (.mv (.t 21))])
 (.seq (.seq (.reg [o 22 (.mv (.t 0)),o 23 (.mv (.t 5)),o 24 (.iaddr 8 (.t 22) (.t 23)),o 25 (.faddr 1 (.t 24)),o 26 (.load none (.t 25)),o 27 (.mv (.t 1)),o 28 (.callF 70 [.t 27]),o 29 (.bin .neq (.t 26) (.t 28))])
 (.cond (.t 29) (.seq (.reg [o 4 (.mv (.c (.int .i64 (-1))))])
 .ret) .skip))
 (.seq (.reg [o 30 (.mv (.t 1)),o 31 (.bin .add (.t 30) (.c (.int .i64 1))),o 1 (.mv (.t 31))])
 (.seq (.seq (.reg [o 32 (.mv (.t 0)),o 33 (.mv (.t 5)),o 34 (.iaddr 8 (.t 32) (.t 33)),o 35 (.faddr 2 (.t 34)),o 36 (.load none (.t 35)),o 37 (.mv (.t 1)),o 38 (.bin .rem (.t 37) (.c (.int .i64 3))),o 39 (.bin .eql (.t 38) (.c (.int .i64 0))),o 40 (.binb .neq (.t 36) (.t 39))])
 (.cond (.t 40) (.seq (.reg [o 4 (.mv (.c (.int .i64 (-1))))])
 .ret) .skip))
 (.seq (.reg [o 41 (.mv (.t 1)),o 42 (.bin .add (.t 41) (.c (.int .i64 1))),o 1 (.mv (.t 42))])
 (.seq (.seq (.reg [o 43 (.mv (.t 0)),o 44 (.mv (.t 5)),o 45 (.iaddr 8 (.t 43) (.t 44)),o 46 (.faddr 3 (.t 45)),o 47 (.faddr 0 (.t 46)),o 48 (.load none (.t 47)),o 49 (.mv (.t 1)),o 50 (.bin .neq (.t 48) (.t 49))])
 (.cond (.t 50) (.seq (.reg [o 4 (.mv (.c (.int .i64 (-1))))])
 .ret) .skip))
 (.seq (.reg [o 51 (.mv (.t 1)),o 52 (.bin .add (.t 51) (.c (.int .i64 1))),o 1 (.mv (.t 52))])
 (.seq (.seq (.reg [o 53 (.mv (.t 0)),o 54 (.mv (.t 5)),o 55 (.iaddr 8 (.t 53) (.t 54)),o 56 (.faddr 3 (.t 55)),o 57 (.faddr 1 (.t 56)),o 58 (.load none (.t 57)),o 59 (.mv (.t 1)),o 60 (.bin .neq (.t 58) (.t 59))])
 (.cond (.t 60) (.seq (.reg [o 4 (.mv (.c (.int .i64 (-1))))])
 .ret) .skip))
 (.seq (.reg [o 61 (.mv (.t 1)),o 62 (.bin .add (.t 61) (.c (.int .i64 1))),o 1 (.mv (.t 62))])
 (.seq (.seq (.reg [o 63 (.mv (.t 0)),o 64 (.mv (.t 5)),o 65 (.iaddr 8 (.t 63) (.t 64)),o 66 (.faddr 3 (.t 65)),o 67 (.faddr 2 (.t 66)),o 68 (.load none (.t 67)),o 69 (.mv (.t 1)),o 70 (.callF 70 [.t 69]),o 71 (.bin .neq (.t 68) (.t 70))])
 (.cond (.t 71) (.seq (.reg [o 4 (.mv (.c (.int .i64 (-1))))])
 .ret) .skip))
 (.seq (.reg [o 72 (.mv (.t 1)),o 73 (.bin .add (.t 72) (.c (.int .i64 1))),o 1 (.mv (.t 73))])
 (.seq (.seq (.reg [o 74 (.mv (.t 0)),o 75 (.mv (.t 5)),o 76 (.iaddr 8 (.t 74) (.t 75)),o 77 (.faddr 3 (.t 76)),o 78 (.faddr 3 (.t 77)),o 79 (.load none (.t 78)),o 80 (.mv (.t 1)),o 81 (.bin .neq (.t 79) (.t 80))])
 (.cond (.t 81) (.seq (.reg [o 4 (.mv (.c (.int .i64 (-1))))])
 .ret) .skip))
 (.seq (.reg [o 82 (.mv (.t 1)),o 83 (.bin .add (.t 82) (.c (.int .i64 1))),o 1 (.mv (.t 83))])
 (.seq (.reg [o 84 (.mv (.t 0)),o 85 (.mv (.t 5)),o 86 (.iaddr 8 (.t 84) (.t 85)),o 87 (.faddr 3 (.t 86)),o 88 (.faddr 4 (.t 87)),o 89 (.load none (.t 88)),o 90 (.mv (.t 1)),o 91 (.call 130 [.t 89,.t 90]),o 1 (.mv (.t 91))])
 (.seq (.reg [o 92 (.mv (.t 1)),o 93 (.bin .lss (.t 92) (.c (.int .i64 0)))])
 (.cond (.t 93) (.seq (.reg [o 4 (.mv (.c (.int .i64 (-1))))])
 .ret) .skip))))))))))))))))))
 (.reg [o 10 (.mv (.t 5)),o 11 (.bin .add (.t 10) (.c (.int .i64 1))),o 5 (.mv (.t 11))]))))))
 (.seq (.reg [o 94 (.mv (.t 1)),o 4 (.mv (.t 94))])
 .ret)),
 [.tmp 4]⟩
def F86 : Fun := ⟨65,
 .seq (.reg [o 4 (.mv (.c (.int .i64 0)))])
 (.seq (.seq (.reg [o 5 (.mv (.c (.int .i64 0)))])
 (.block 0 (.loop (.seq (.seq (.reg [o 6 (.mv (.t 5)),o 7 (.mv (.t 0)),o 8 (.lenL (.t 7)),o 9 (.bin .lss (.t 6) (.t 8))])
 (.cond (.t 9) .skip (.exit 0)))
 (.seq (.block 1 (.seq (.seq (.reg [o 12 (.mv (.t 0)),o 13 (.mv (.t 5)),o 14 (.iaddr 5 (.t 12) (.t 13)),o 15 (.faddr 0 (.t 14)),o 16 (.load none (.t 15)),o 17 (.mv (.t 1)),o 18 (.callF 70 [.t 17]),o 19 (.bin .neq (.t 16) (.t 18))])
 (.cond (.t 19) (.seq (.reg [o 4 (.mv (.c (.int .i64 (-1))))])
 .ret) .skip))
 (.seq (.reg [o 20 (.mv (.t 1)),o 21 (.bin .add (.t 20) (.c (.int .i64 1))),o 1 (.mv (.t 21))])
 (.seq (.seq (.reg [o 22 (.mv (.t 0)),o 23 (.mv (.t 5)),o 24 (.iaddr 5 (.t 22) (.t 23)),o 25 (.faddr 1 (.t 24)),o 26 (.load none (.t 25)),o 27 (.mv (.t 1)),o 28 (.callF 70 [.t 27]),o 29 (.bin .neq (.t 26) (.t 28))])
 (.cond (.t 29) (.seq (.reg [o 4 (.mv (.c (.int .i64 (-1))))])
 .ret) .skip))
 (.seq (.reg [o 30 (.mv (.t 1)),o 31 (.bin .add (.t 30) (.c (.int .i64 1))),o 1 (.mv (.t 31))])
 (.seq (.seq (.reg [o 32 (.mv (.t 0)),o 33 (.mv (.t 5)),o 34 (.iaddr 5 (.t 32) (.t 33)),o 35 (.faddr 2 (.t 34)),o 36 (.load none (.t 35)),o 37 (.mv (.t 1)),o 38 (.callF 70 [.t 37]),o 39 (.bin .neq (.t 36) (.t 38))])
 (.cond (.t 39) (.seq (.reg [o 4 (.mv (.c (.int .i64 (-1))))])
 .ret) .skip))
 (.seq (.reg [o 40 (.mv (.t 1)),o 41 (.bin .add (.t 40) (.c (.int .i64 1))),o 1 (.mv (.t 41))])
 (.seq (.seq (.reg [o 42 (.mv (.t 0)),o 43 (.mv (.t 5)),o 44 (.iaddr 5 (.t 42) (.t 43)),o 45 (.faddr 3 (.t 44)),o 46 (.load none (.t 45)),o 47 (.mv (.t 1)),o 48 (.bin .rem (.t 47) (.c (.int .i64 3))),o 49 (.bin .eql (.t 48) (.c (.int .i64 0))),o 50 (.binb .neq (.t 46) (.t 49))])
 (.cond (.t 50) (.seq (.reg [o 4 (.mv (.c (.int .i64 (-1))))])
 .ret) .skip))
 (.seq (.reg [o 51 (.mv (.t 1)),o 52 (.bin .add (.t 51) (.c (.int .i64 1))),o 1 (.mv (.t 52))])
 (.seq (.seq (.reg [o 53 (.mv (.t 0)),o 54 (.mv (.t 5)),o 55 (.iaddr 5 (.t 53) (.t 54)),o 56 (.faddr 4 (.t 55)),o 57 (.load none (.t 56)),o 58 (.mv (.t 1)),o 59 (.bin .rem (.t 58) (.c (.int .i64 3))),o 60 (.bin .eql (.t 59) (.c (.int .i64 0))),o 61 (.binb .neq (.t 57) (.t 60))])
 (.cond (.t 61) (.seq (.reg [o 4 (.mv (.c (.int .i64 (-1))))])
 .ret) .skip))
 (.reg [o 62 (.mv (.t 1)),o 63 (.bin .add (.t 62) (.c (.int .i64 1))),o 1 (.mv (.t 63))])))))))))))
 (.reg [o 10 (.mv (.t 5)),o 11 (.bin .add (.t 10) (.c (.int .i64 1))),o 5 (.mv (.t 11))]))))))
 (.seq (.reg [o 64 (.mv (.t 1)),o 4 (.mv (.t 64))])
 .ret)),
 [.tmp 4]⟩
def F92 : Fun := (⟨_,by cbv⟩ : Cbv 92).1
def F93 : Fun := (⟨_,by cbv⟩ : Cbv 93).1
def F94 : Fun := (⟨_,by cbv⟩ : Cbv 94).1
def F95 : Fun := (⟨_,by cbv⟩ : Cbv 95).1
def F96 : Fun := (⟨_,by cbv⟩ : Cbv 96).1
def F97 : Fun := (⟨_,by cbv⟩ : Cbv 97).1
def F114 : Fun := (⟨_,by cbv⟩ : Cbv 114).1
def F115 : Fun := (⟨_,by cbv⟩ : Cbv 115).1
def F116 : Fun := (⟨_,by cbv⟩ : Cbv 116).1
def F117 : Fun := (⟨_,by cbv⟩ : Cbv 117).1
def F118 : Fun := (⟨_,by cbv⟩ : Cbv 118).1
def F119 : Fun := (⟨_,by cbv⟩ : Cbv 119).1
def F120 : Fun := (⟨_,by cbv⟩ : Cbv 120).1
def F121 : Fun := ⟨34,
 .seq (.reg [o 2 (.mv (.c (.str [])))])
 (.seq (.draw [o 7 (.mv (.t 0)),o 8 (.nilck (.t 7)),o 9 (.faddr 0 (.t 8)),o 10 (.load none (.t 9)),o 11 (.mv (.t 0)),o 12 (.nilck (.t 11)),o 13 (.faddr 1 (.t 12)),o 14 (.load none (.t 13)),o 15 (.mv (.t 0)),o 16 (.nilck (.t 15)),o 17 (.faddr 0 (.t 16)),o 18 (.load none (.t 17)),o 19 (.lenL (.t 18)),o 20 (.callF 162 [.t 10,.t 14,.t 19]),o 6 (.mv (.t 20)),o 21 (.extract (.t 6) 0),o 22 (.extract (.t 6) 1),o 23 (.extract (.t 6) 2),o 3 (.mv (.t 21)),o 4 (.mv (.t 22)),o 5 (.mv (.t 23))])
 (.seq (.seq (.reg [o 24 (.mv (.t 5)),o 25 (.un .not (.t 24))])
 (.cond (.t 25) (.seq (.reg [o 26 (.mv (.t 0)),o 27 (.nilck (.t 26)),o 28 (.faddr 1 (.t 27)),st (.store 1 (.t 28) (.c (.int .i64 (-1))))])
 (.seq (.reg [o 2 (.mv (.c (.str [])))])
 .ret)) .skip))
 (.seq (.reg [o 29 (.mv (.t 0)),o 30 (.mv (.t 4)),o 31 (.nilck (.t 29)),o 32 (.faddr 1 (.t 31)),st (.store 1 (.t 32) (.t 30))])
 (.seq (.reg [o 33 (.mv (.t 3)),o 2 (.mv (.t 33))])
 .ret)))),
 [.tmp 2]⟩
def F122 : Fun := (⟨_,by cbv⟩ : Cbv 122).1
def F123 : Fun := (⟨_,by cbv⟩ : Cbv 123).1
def F124 : Fun := (⟨_,by cbv⟩ : Cbv 124).1
def F130 : Fun := ⟨97,
 .seq (.reg [o 4 (.mv (.c (.int .i64 0)))])
 (.seq (.seq (.reg [o 5 (.mv (.c (.int .i64 0)))])
 (.block 0 (.loop (.seq (.seq (.reg [o 6 (.mv (.t 5)),o 7 (.mv (.t 0)),o 8 (.lenL (.t 7)),o 9 (.bin .lss (.t 6) (.t 8))])
 (.cond (.t 9) .skip (.exit 0)))
 (.seq (.block 1 (.seq (.seq (.reg [o 12 (.mv (.t 0)),o 13 (.mv (.t 5)),o 14 (.iaddr 8 (.t 12) (.t 13)),o 15 (.faddr 0 (.t 14)),o 16 (.faddr 0 (.t 15)),o 17 (.load none (.t 16)),o 18 (.mv (.t 1)),o 19 (.bin .rem (.t 18) (.c (.int .i64 3))),o 20 (.bin .eql (.t 19) (.c (.int .i64 0))),o 21 (.binb .neq (.t 17) (.t 20))])
 (.cond (.t 21) (.seq (.reg [o 4 (.mv (.c (.int .i64 (-1))))])
 .ret) .skip))
 (.seq (.reg [o 22 (.mv (.t 1)),o 23 (.bin .add (.t 22) (.c (.int .i64 1))),o 1 (.mv (.t 23))])
 (.seq (.seq (.reg [o 24 (.mv (.t 0)),o 25 (.mv (.t 5)),o 26 (.iaddr 8 (.t 24) (.t 25)),o 27 (.faddr 0 (.t 26)),o 28 (.faddr 1 (.t 27)),o 29 (.load none (.t 28)),o 30 (.mv (.t 1)),o 31 (.bin .neq (.t 29) (.t 30))])
 (.cond (.t 31) (.seq (.reg [o 4 (.mv (.c (.int .i64 (-1))))])
 .ret) .skip))
 (.seq (.reg [o 32 (.mv (.t 1)),o 33 (.bin .add (.t 32) (.c (.int .i64 1))),o 1 (.mv (.t 33))])
 (.seq (.seq (.reg [o 34 (.mv (.t 0)),o 35 (.mv (.t 5)),o 36 (.iaddr 8 (.t 34) (.t 35)),o 37 (.faddr 0 (.t 36)),o 38 (.faddr 2 (.t 37)),o 39 (.load none (.t 38)),o 40 (.mv (.t 1)),o 41 (.callF 70 [.t 40]),o 42 (.bin .neq (.t 39) (.t 41))])
 (.cond (.t 42) (.seq (.reg [o 4 (.mv (.c (.int .i64 (-1))))])
 .ret) .skip))
 (.seq (.reg [o 43 (.mv (.t 1)),o 44 (.bin .add (.t 43) (.c (.int .i64 1))),o 1 (.mv (.t 44))])
 (.seq (.seq (.reg [o 45 (.mv (.t 0)),o 46 (.mv (.t 5)),o 47 (.iaddr 8 (.t 45) (.t 46)),o 48 (.faddr 3 (.t 47)),o 49 (.faddr 0 (.t 48)),o 50 (.load none (.t 49)),o 51 (.mv (.t 1)),o 52 (.bin .neq (.t 50) (.t 51))])
 (.cond (.t 52) (.seq (.reg [o 4 (.mv (.c (.int .i64 (-1))))])
 .ret) .skip))
 (.seq (.reg [o 53 (.mv (.t 1)),o 54 (.bin .add (.t 53) (.c (.int .i64 1))),o 1 (.mv (.t 54))])
 (.seq (.seq (.reg [o 55 (.mv (.t 0)),o 56 (.mv (.t 5)),o 57 (.iaddr 8 (.t 55) (.t 56)),o 58 (.faddr 3 (.t 57)),o 59 (.faddr 1 (.t 58)),o 60 (.load none (.t 59)),o 61 (.mv (.t 1)),o 62 (.bin .neq (.t 60) (.t 61))])
 (.cond (.t 62) (.seq (.reg [o 4 (.mv (.c (.int .i64 (-1))))])
 .ret) .skip))
 (.seq (.reg [o 63 (.mv (.t 1)),o 64 (.bin .add (.t 63) (.c (.int .i64 1))),o 1 (.mv (.t 64))])
 (.seq (.seq (.reg [o 65 (.mv (.t 0)),o 66 (.mv (.t 5)),o 67 (.iaddr 8 (.t 65) (.t 66)),o 68 (.faddr 3 (.t 67)),o 69 (.faddr 2 (.t 68)),o 70 (.load none (.t 69)),o 71 (.mv (.t 1)),o 72 (.callF 70 [.t 71]),o 73 (.bin .neq (.t 70) (.t 72))])
 (.cond (.t 73) (.seq (.reg [o 4 (.mv (.c (.int .i64 (-1))))])
 .ret) .skip))
 (.seq (.reg [o 74 (.mv (.t 1)),o 75 (.bin .add (.t 74) (.c (.int .i64 1))),o 1 (.mv (.t 75))])
 (.seq (.seq (.reg [o 76 (.mv (.t 0)),o 77 (.mv (.t 5)),o 78 (.iaddr 8 (.t 76) (.t 77)),o 79 (.faddr 3 (.t 78)),o 80 (.faddr 3 (.t 79)),o 81 (.load none (.t 80)),o 82 (.mv (.t 1)),o 83 (.bin .neq (.t 81) (.t 82))])
 (.cond (.t 83) (.seq (.reg [o 4 (.mv (.c (.int .i64 (-1))))])
 .ret) .skip))
 (.seq (.reg [o 84 (.mv (.t 1)),o 85 (.bin .add (.t 84) (.c (.int .i64 1))),o 1 (.mv (.t 85))])
 (.seq (.reg [o 86 (.mv (.t 0)),o 87 (.mv (.t 5)),o 88 (.iaddr 8 (.t 86) (.t 87)),o 89 (.faddr 3 (.t 88)),o 90 (.faddr 4 (.t 89)),o 91 (.load none (.t 90)),o 92 (.mv (.t 1)),o 93 (.call 130 [.t 91,.t 92]),o 1 (.mv (.t 93))])
 (.seq (.reg [o 94 (.mv (.t 1)),o 95 (.bin .lss (.t 94) (.c (.int .i64 0)))])
 (.cond (.t 95) (.seq (.reg [o 4 (.mv (.c (.int .i64 (-1))))])
 .ret) .skip))))))))))))))))))
 (.reg [o 10 (.mv (.t 5)),o 11 (.bin .add (.t 10) (.c (.int .i64 1))),o 5 (.mv (.t 11))]))))))
 (.seq (.reg [o 96 (.mv (.t 1)),o 4 (.mv (.t 96))])
 .ret)),
 [.tmp 4]⟩
def F135 : Fun := (⟨_,by cbv⟩ : Cbv 135).1
def F136 : Fun := ⟨120,
 .seq (.reg [o 1 (.box 6 (.t 0)),o 2 (.mv (.c .nsl)),o 3 (.mv (.c (.bool false)))])
 (.seq (.reg [o 13 (.bslice 1 [.int .i64 0] 0 []),o 4 (.mv (.t 13))])
 (.seq (.seq (.reg [o 5 (.mv (.c (.int .i64 0)))])
 (.block 0 (.loop (.seq (.seq (.reg [o 14 (.mv (.t 5)),o 15 (.faddr 5 (.t 1)),o 16 (.load none (.t 15)),o 17 (.lenL (.t 16)),o 18 (.bin .lss (.t 14) (.t 17))])
 (.cond (.t 18) .skip (.exit 0)))
 (.seq (.block 1 (.seq (.seq (.reg [o 21 (.faddr 5 (.t 1)),o 22 (.load none (.t 21)),o 23 (.mv (.t 5)),o 24 (.iaddr 5 (.t 22) (.t 23)),o 25 (.load (some 5) (.t 24)),o 26 (.faddr 3 (.t 1)),o 27 (.load none (.t 26)),o 28 (.lenL (.t 27)),o 29 (.faddr 5 (.t 1)),o 30 (.load none (.t 29)),o 31 (.lenL (.t 30)),o 32 (.callF 169 [.t 25,.t 28,.t 31]),o 33 (.un .not (.t 32))])
 (.cond (.t 33) (.seq (.reg [o 34 (.bslice 1 [.int .i64 0] 0 []),o 2 (.mv (.t 34)),o 3 (.mv (.c (.bool false)))])
 .ret) .skip))
 (.reg [o 35 (.mv (.t 4)),o 36 (.bslice 1 [.int .i64 0] 1 [(0,(.c (.int .i64 (-1))))]),o 37 (.append 1 8 (.t 35) (.t 36)),o 4 (.mv (.t 37))])))
 (.reg [o 19 (.mv (.t 5)),o 20 (.bin .add (.t 19) (.c (.int .i64 1))),o 5 (.mv (.t 20))]))))))
 (.seq (.seq (.reg [o 38 (.mv (.t 4)),o 39 (.lenL (.t 38)),o 40 (.bin .eql (.t 39) (.c (.int .i64 0)))])
 (.cond (.t 40) (.seq (.reg [o 41 (.bslice 1 [.int .i64 0] 0 []),o 2 (.mv (.t 41)),o 3 (.mv (.c (.bool false)))])
 .ret) .skip))
 (.seq (.reg [o 42 (.mv (.t 4)),o 43 (.iaddr 1 (.t 42) (.c (.int .i64 0))),st (.store 1 (.t 43) (.c (.int .i64 0)))])
 (.seq (.reg [o 6 (.mv (.c (.bool true)))])
 (.seq (.block 2 (.loop (.seq (.seq (.reg [o 44 (.mv (.t 6))])
 (.cond (.t 44) .skip (.exit 2)))
 (.block 3 (.seq (.reg [o 6 (.mv (.c (.bool false)))])
 (.seq (.reg [o 7 (.mv (.c (.int .i64 0)))])
 (.block 4 (.loop (.seq (.seq (.reg [o 45 (.mv (.t 7)),o 46 (.mv (.t 4)),o 47 (.lenL (.t 46)),o 48 (.bin .lss (.t 45) (.t 47))])
 (.cond (.t 48) .skip (.exit 4)))
 (.seq (.block 5 (.seq (.reg [o 51 (.faddr 5 (.t 1)),o 52 (.load none (.t 51)),o 53 (.mv (.t 7)),o 54 (.iaddr 5 (.t 52) (.t 53)),o 55 (.load (some 5) (.t 54)),o 8 (.new 5 [.int .i64 0,.int .i64 0,.int .i64 0,.str [],.str []]),st (.store 5 (.t 8) (.t 55))])
 (.seq (.seq (.reg [o 56 (.mv (.t 4)),o 57 (.mv (.t 7)),o 58 (.iaddr 1 (.t 56) (.t 57)),o 59 (.load none (.t 58)),o 60 (.bin .lss (.t 59) (.c (.int .i64 0)))])
 (.cond (.t 60) (.exit 5) .skip))
 (.seq (.seq (.reg [o 61 (.load (some 5) (.t 8)),o 62 (.callF 170 [.t 61]),o 63 (.mv (.t 4)),o 64 (.mv (.t 7)),o 65 (.iaddr 1 (.t 63) (.t 64)),o 66 (.load none (.t 65)),o 67 (.bin .gtr (.t 62) (.t 66))])
 (.cond (.t 67) (.seq (.reg [o 68 (.bslice 1 [.int .i64 0] 0 []),o 2 (.mv (.t 68)),o 3 (.mv (.c (.bool false)))])
 .ret) .skip))
 (.seq (.reg [o 9 (.mv (.c (.bool false))),o 10 (.mv (.c (.bool true)))])
 (.seq (.seq (.reg [o 69 (.faddr 0 (.t 8)),o 70 (.load none (.t 69)),o 71 (.call 171 [.t 70]),o 72 (.un .not (.t 71))])
 (.cond (.t 72) (.seq (.reg [o 74 (.mv (.t 4))])
 (.seq (.reg [o 75 (.mv (.t 7))])
 (.seq (.reg [o 77 (.mv (.t 4))])
 (.seq (.reg [o 78 (.mv (.t 7))])
 (.seq (.reg [o 79 (.iaddr 1 (.t 77) (.t 78))])
 (.seq (.alt (.seq (.reg [o 76 (.bin .add (.t 75) (.c (.int .i64 1)))])
 (.alt (.seq (.reg [o 80 (.load none (.t 79))])
 (.seq (.reg [o 81 (.load (some 5) (.t 8))])
 (.seq (.reg [o 82 (.call 173 [.t 81])])
 (.seq (.reg [o 83 (.bin .add (.t 80) (.t 82))])
 .skip))))
 (.seq (.reg [o 81 (.load (some 5) (.t 8))])
 (.alt (.seq (.reg [o 80 (.load none (.t 79))])
 (.seq (.reg [o 82 (.call 173 [.t 81])])
 (.seq (.reg [o 83 (.bin .add (.t 80) (.t 82))])
 .skip)))
 (.seq (.reg [o 82 (.call 173 [.t 81])])
 (.seq (.reg [o 80 (.load none (.t 79))])
 (.seq (.reg [o 83 (.bin .add (.t 80) (.t 82))])
 .skip)))))))
 (.alt (.seq (.reg [o 80 (.load none (.t 79))])
 (.alt (.seq (.reg [o 76 (.bin .add (.t 75) (.c (.int .i64 1)))])
 (.seq (.reg [o 81 (.load (some 5) (.t 8))])
 (.seq (.reg [o 82 (.call 173 [.t 81])])
 (.seq (.reg [o 83 (.bin .add (.t 80) (.t 82))])
 .skip))))
 (.seq (.reg [o 81 (.load (some 5) (.t 8))])
 (.alt (.seq (.reg [o 76 (.bin .add (.t 75) (.c (.int .i64 1)))])
 (.seq (.reg [o 82 (.call 173 [.t 81])])
 (.seq (.reg [o 83 (.bin .add (.t 80) (.t 82))])
 .skip)))
 (.seq (.reg [o 82 (.call 173 [.t 81])])
 (.alt (.seq (.reg [o 76 (.bin .add (.t 75) (.c (.int .i64 1)))])
 (.seq (.reg [o 83 (.bin .add (.t 80) (.t 82))])
 .skip))
 (.seq (.reg [o 83 (.bin .add (.t 80) (.t 82))])
 (.seq (.reg [o 76 (.bin .add (.t 75) (.c (.int .i64 1)))])
 .skip))))))))
 (.seq (.reg [o 81 (.load (some 5) (.t 8))])
 (.alt (.seq (.reg [o 76 (.bin .add (.t 75) (.c (.int .i64 1)))])
 (.alt (.seq (.reg [o 80 (.load none (.t 79))])
 (.seq (.reg [o 82 (.call 173 [.t 81])])
 (.seq (.reg [o 83 (.bin .add (.t 80) (.t 82))])
 .skip)))
 (.seq (.reg [o 82 (.call 173 [.t 81])])
 (.seq (.reg [o 80 (.load none (.t 79))])
 (.seq (.reg [o 83 (.bin .add (.t 80) (.t 82))])
 .skip)))))
 (.alt (.seq (.reg [o 80 (.load none (.t 79))])
 (.alt (.seq (.reg [o 76 (.bin .add (.t 75) (.c (.int .i64 1)))])
 (.seq (.reg [o 82 (.call 173 [.t 81])])
 (.seq (.reg [o 83 (.bin .add (.t 80) (.t 82))])
 .skip)))
 (.seq (.reg [o 82 (.call 173 [.t 81])])
 (.alt (.seq (.reg [o 76 (.bin .add (.t 75) (.c (.int .i64 1)))])
 (.seq (.reg [o 83 (.bin .add (.t 80) (.t 82))])
 .skip))
 (.seq (.reg [o 83 (.bin .add (.t 80) (.t 82))])
 (.seq (.reg [o 76 (.bin .add (.t 75) (.c (.int .i64 1)))])
 .skip))))))
 (.seq (.reg [o 82 (.call 173 [.t 81])])
 (.alt (.seq (.reg [o 76 (.bin .add (.t 75) (.c (.int .i64 1)))])
 (.seq (.reg [o 80 (.load none (.t 79))])
 (.seq (.reg [o 83 (.bin .add (.t 80) (.t 82))])
 .skip)))
 (.seq (.reg [o 80 (.load none (.t 79))])
 (.alt (.seq (.reg [o 76 (.bin .add (.t 75) (.c (.int .i64 1)))])
 (.seq (.reg [o 83 (.bin .add (.t 80) (.t 82))])
 .skip))
 (.seq (.reg [o 83 (.bin .add (.t 80) (.t 82))])
 (.seq (.reg [o 76 (.bin .add (.t 75) (.c (.int .i64 1)))])
 .skip)))))))))))
 (.seq (.reg [o 84 (.call 172 [.t 74,.t 76,.t 83])])
 (.seq (.reg [o 73 (.mv (.t 84))])
 (.seq (.reg [o 85 (.extract (.t 73) 0)])
 (.seq (.reg [o 86 (.extract (.t 73) 1)])
 (.seq (.reg [o 9 (.mv (.t 85))])
 (.seq (.reg [o 10 (.mv (.t 86))])
 .skip)))))))))))) .skip))
 (.seq (.reg [o 11 (.mv (.c (.bool false))),o 12 (.mv (.c (.bool true)))])
 (.seq (.seq (.reg [o 87 (.faddr 0 (.t 8)),o 88 (.load none (.t 87)),o 89 (.call 174 [.t 88])])
 (.cond (.t 89) (.seq (.reg [o 91 (.mv (.t 4))])
 (.seq (.reg [o 92 (.faddr 1 (.t 8))])
 (.seq (.reg [o 94 (.mv (.t 4))])
 (.seq (.reg [o 95 (.mv (.t 7))])
 (.seq (.reg [o 96 (.iaddr 1 (.t 94) (.t 95))])
 (.seq (.reg [o 98 (.faddr 0 (.t 8))])
 (.seq (.alt (.seq (.reg [o 93 (.load none (.t 92))])
 (.alt (.seq (.reg [o 97 (.load none (.t 96))])
 (.seq (.reg [o 99 (.load none (.t 98))])
 (.seq (.reg [o 100 (.call 175 [.t 99])])
 (.seq (.reg [o 101 (.bin .add (.t 97) (.t 100))])
 .skip))))
 (.seq (.reg [o 99 (.load none (.t 98))])
 (.alt (.seq (.reg [o 97 (.load none (.t 96))])
 (.seq (.reg [o 100 (.call 175 [.t 99])])
 (.seq (.reg [o 101 (.bin .add (.t 97) (.t 100))])
 .skip)))
 (.seq (.reg [o 100 (.call 175 [.t 99])])
 (.seq (.reg [o 97 (.load none (.t 96))])
 (.seq (.reg [o 101 (.bin .add (.t 97) (.t 100))])
 .skip)))))))
 (.alt (.seq (.reg [o 97 (.load none (.t 96))])
 (.alt (.seq (.reg [o 93 (.load none (.t 92))])
 (.seq (.reg [o 99 (.load none (.t 98))])
 (.seq (.reg [o 100 (.call 175 [.t 99])])
 (.seq (.reg [o 101 (.bin .add (.t 97) (.t 100))])
 .skip))))
 (.seq (.reg [o 99 (.load none (.t 98))])
 (.alt (.seq (.reg [o 93 (.load none (.t 92))])
 (.seq (.reg [o 100 (.call 175 [.t 99])])
 (.seq (.reg [o 101 (.bin .add (.t 97) (.t 100))])
 .skip)))
 (.seq (.reg [o 100 (.call 175 [.t 99])])
 (.alt (.seq (.reg [o 93 (.load none (.t 92))])
 (.seq (.reg [o 101 (.bin .add (.t 97) (.t 100))])
 .skip))
 (.seq (.reg [o 101 (.bin .add (.t 97) (.t 100))])
 (.seq (.reg [o 93 (.load none (.t 92))])
 .skip))))))))
 (.seq (.reg [o 99 (.load none (.t 98))])
 (.alt (.seq (.reg [o 93 (.load none (.t 92))])
 (.alt (.seq (.reg [o 97 (.load none (.t 96))])
 (.seq (.reg [o 100 (.call 175 [.t 99])])
 (.seq (.reg [o 101 (.bin .add (.t 97) (.t 100))])
 .skip)))
 (.seq (.reg [o 100 (.call 175 [.t 99])])
 (.seq (.reg [o 97 (.load none (.t 96))])
 (.seq (.reg [o 101 (.bin .add (.t 97) (.t 100))])
 .skip)))))
 (.alt (.seq (.reg [o 97 (.load none (.t 96))])
 (.alt (.seq (.reg [o 93 (.load none (.t 92))])
 (.seq (.reg [o 100 (.call 175 [.t 99])])
 (.seq (.reg [o 101 (.bin .add (.t 97) (.t 100))])
 .skip)))
 (.seq (.reg [o 100 (.call 175 [.t 99])])
 (.alt (.seq (.reg [o 93 (.load none (.t 92))])
 (.seq (.reg [o 101 (.bin .add (.t 97) (.t 100))])
 .skip))
 (.seq (.reg [o 101 (.bin .add (.t 97) (.t 100))])
 (.seq (.reg [o 93 (.load none (.t 92))])
 .skip))))))
 (.seq (.reg [o 100 (.call 175 [.t 99])])
 (.alt (.seq (.reg [o 93 (.load none (.t 92))])
 (.seq (.reg [o 97 (.load none (.t 96))])
 (.seq (.reg [o 101 (.bin .add (.t 97) (.t 100))])
 .skip)))
 (.seq (.reg [o 97 (.load none (.t 96))])
 (.alt (.seq (.reg [o 93 (.load none (.t 92))])
 (.seq (.reg [o 101 (.bin .add (.t 97) (.t 100))])
 .skip))
 (.seq (.reg [o 101 (.bin .add (.t 97) (.t 100))])
 (.seq (.reg [o 93 (.load none (.t 92))])
 .skip)))))))))))
 (.seq (.reg [o 102 (.call 172 [.t 91,.t 93,.t 101])])
 (.seq (.reg [o 90 (.mv (.t 102))])
 (.seq (.reg [o 103 (.extract (.t 90) 0)])
 (.seq (.reg [o 104 (.extract (.t 90) 1)])
 (.seq (.reg [o 11 (.mv (.t 103))])
 (.seq (.reg [o 12 (.mv (.t 104))])
 .skip))))))))))))) .skip))
 (.seq (.seq (.reg [o 105 (.mv (.t 10)),o 106 (.un .not (.t 105)),o 107 (.mv (.t 106)),og 108 (.mv (.t 12)) 107 false,og 109 (.un .not (.t 108)) 107 false,o 110 (.pick (.t 107) (.c (.bool true)) (.t 109))])
 (.cond (.t 110) (.seq (.reg [o 111 (.bslice 1 [.int .i64 0] 0 []),o 2 (.mv (.t 111)),o 3 (.mv (.c (.bool false)))])
 .ret) .skip))
 (.reg [o 112 (.mv (.t 6)),o 113 (.mv (.t 112)),og 114 (.mv (.t 9)) 113 false,o 115 (.pick (.t 113) (.c (.bool true)) (.t 114)),o 116 (.mv (.t 115)),og 117 (.mv (.t 11)) 116 false,o 118 (.pick (.t 116) (.c (.bool true)) (.t 117)),o 6 (.mv (.t 118))]))))))))))
 (.reg [o 49 (.mv (.t 7)),o 50 (.bin .add (.t 49) (.c (.int .i64 1))),o 7 (.mv (.t 50))])))))))))))
 (.seq (.reg [o 119 (.mv (.t 4)),o 2 (.mv (.t 119)),o 3 (.mv (.c (.bool true)))])
 .ret))))))),
 [.tmp 2,.tmp 3]⟩
def F137 : Fun := (⟨_,by cbv⟩ : Cbv 137).1
def F138 : Fun := (⟨_,by cbv⟩ : Cbv 138).1
def F139 : Fun := (⟨_,by cbv⟩ : Cbv 139).1
def F140 : Fun := (⟨_,by cbv⟩ : Cbv 140).1
def F155 : Fun := (⟨_,by cbv⟩ : Cbv 155).1
def F158 : Fun := (⟨_,by cbv⟩ : Cbv 158).1
def F159 : Fun := (⟨_,by cbv⟩ : Cbv 159).1
def F160 : Fun := (⟨_,by cbv⟩ : Cbv 160).1
def F161 : Fun := (⟨_,by cbv⟩ : Cbv 161).1
def F162 : Fun := (⟨_,by cbv⟩ : Cbv 162).1
def F163 : Fun := (⟨_,by cbv⟩ : Cbv 163).1
def F168 : Fun := (⟨_,by cbv⟩ : Cbv 168).1
def F169 : Fun := (⟨_,by cbv⟩ : Cbv 169).1
def F170 : Fun := (⟨_,by cbv⟩ : Cbv 170).1
def F171 : Fun := (⟨_,by cbv⟩ : Cbv 171).1
def F172 : Fun := (⟨_,by cbv⟩ : Cbv 172).1
def F173 : Fun := (⟨_,by cbv⟩ : Cbv 173).1
def F174 : Fun := (⟨_,by cbv⟩ : Cbv 174).1
def F175 : Fun := (⟨_,by cbv⟩ : Cbv 175).1
def F176 : Fun := (⟨_,by cbv⟩ : Cbv 176).1
def F177 : Fun := (⟨_,by cbv⟩ : Cbv 177).1
def F178 : Fun := (⟨_,by cbv⟩ : Cbv 178).1
def F179 : Fun := (⟨_,by cbv⟩ : Cbv 179).1
def F191 : Fun := (⟨_,by cbv⟩ : Cbv 191).1
def F194 : Fun := (⟨_,by cbv⟩ : Cbv 194).1
def F195 : Fun := (⟨_,by cbv⟩ : Cbv 195).1
def F196 : Fun := (⟨_,by cbv⟩ : Cbv 196).1
def F197 : Fun := (⟨_,by cbv⟩ : Cbv 197).1
def F198 : Fun := (⟨_,by cbv⟩ : Cbv 198).1
def F207 : Fun := (⟨_,by cbv⟩ : Cbv 207).1
def F208 : Fun := (⟨_,by cbv⟩ : Cbv 208).1
def F209 : Fun := (⟨_,by cbv⟩ : Cbv 209).1
def F210 : Fun := (⟨_,by cbv⟩ : Cbv 210).1
def F211 : Fun := (⟨_,by cbv⟩ : Cbv 211).1
def F219 : Fun := (⟨_,by cbv⟩ : Cbv 219).1
def F224 : Fun := (⟨_,by cbv⟩ : Cbv 224).1
def F228 : Fun := (⟨_,by cbv⟩ : Cbv 228).1
def F235 : Fun := (⟨_,by cbv⟩ : Cbv 235).1
theorem c3 : compF Tryz.prog 3 = some F3 := by kernel_rfl
theorem c4 : compF Tryz.prog 4 = some F4 := by kernel_rfl
theorem c5 : compF Tryz.prog 5 = some F5 := by kernel_rfl
theorem c6 : compF Tryz.prog 6 = some F6 := by kernel_rfl
theorem c7 : compF Tryz.prog 7 = some F7 := by kernel_rfl
theorem c8 : compF Tryz.prog 8 = some F8 := by kernel_rfl
theorem c9 : compF Tryz.prog 9 = some F9 := by kernel_rfl
theorem c11 : compF Tryz.prog 11 = some F11 := by kernel_rfl
theorem c12 : compF Tryz.prog 12 = some F12 := by kernel_rfl
theorem c13 : compF Tryz.prog 13 = some F13 := by kernel_rfl
theorem c14 : compF Tryz.prog 14 = some F14 := by kernel_rfl
theorem c16 : compF Tryz.prog 16 = some F16 := by kernel_rfl
theorem c18 : compF Tryz.prog 18 = some F18 := by kernel_rfl
theorem c19 : compF Tryz.prog 19 = some F19 := by kernel_rfl
theorem c26 : compF Tryz.prog 26 = some F26 := by kernel_rfl
theorem c33 : compF Tryz.prog 33 = some F33 := by kernel_rfl
theorem c34 : compF Tryz.prog 34 = some F34 := by kernel_rfl
theorem c35 : compF Tryz.prog 35 = some F35 := by kernel_rfl
theorem c36 : compF Tryz.prog 36 = some F36 := by kernel_rfl
theorem c37 : compF Tryz.prog 37 = some F37 := by kernel_rfl
theorem c38 : compF Tryz.prog 38 = some F38 := by kernel_rfl
theorem c40 : compF Tryz.prog 40 = some F40 := by kernel_rfl
theorem c41 : compF Tryz.prog 41 = some F41 := by kernel_rfl
theorem c42 : compF Tryz.prog 42 = some F42 := by kernel_rfl
theorem c46 : compF Tryz.prog 46 = some F46 := by kernel_rfl
theorem c47 : compF Tryz.prog 47 = some F47 := by kernel_rfl
theorem c48 : compF Tryz.prog 48 = some F48 := by kernel_rfl
theorem c51 : compF Tryz.prog 51 = some F51 := by kernel_rfl
theorem c53 : compF Tryz.prog 53 = some F53 := by kernel_rfl
theorem c54 : compF Tryz.prog 54 = some F54 := by kernel_rfl
theorem c55 : compF Tryz.prog 55 = some F55 := by kernel_rfl
theorem c64 : compF Tryz.prog 64 = some F64 := by kernel_rfl
theorem c67 : compF Tryz.prog 67 = some F67 := by kernel_rfl
theorem c68 : compF Tryz.prog 68 = some F68 := by kernel_rfl
theorem c69 : compF Tryz.prog 69 = some F69 := by kernel_rfl
theorem c70 : compF Tryz.prog 70 = some F70 := by kernel_rfl
theorem c71 : compF Tryz.prog 71 = some F71 := by kernel_rfl
theorem c72 : compF Tryz.prog 72 = some F72 := by kernel_rfl
theorem c73 : compF Tryz.prog 73 = some F73 := by kernel_rfl
theorem c74 : compF Tryz.prog 74 = some F74 := by kernel_rfl
theorem c75 : compF Tryz.prog 75 = some F75 := by kernel_rfl
theorem c76 : compF Tryz.prog 76 = some F76 := by kernel_rfl
theorem c77 : compF Tryz.prog 77 = some F77 := by kernel_rfl
theorem c78 : compF Tryz.prog 78 = some F78 := by kernel_rfl
theorem c82 : compF Tryz.prog 82 = some F82 := by kernel_rfl
theorem c83 : compF Tryz.prog 83 = some F83 := by kernel_rfl
theorem c84 : compF Tryz.prog 84 = some F84 := by kernel_rfl
theorem c85 : compF Tryz.prog 85 = some F85 := by kernel_rfl
theorem c86 : compF Tryz.prog 86 = some F86 := by kernel_rfl
theorem c92 : compF Tryz.prog 92 = some F92 := by kernel_rfl
theorem c93 : compF Tryz.prog 93 = some F93 := by kernel_rfl
theorem c94 : compF Tryz.prog 94 = some F94 := by kernel_rfl
theorem c95 : compF Tryz.prog 95 = some F95 := by kernel_rfl
theorem c96 : compF Tryz.prog 96 = some F96 := by kernel_rfl
theorem c97 : compF Tryz.prog 97 = some F97 := by kernel_rfl
theorem c114 : compF Tryz.prog 114 = some F114 := by kernel_rfl
theorem c115 : compF Tryz.prog 115 = some F115 := by kernel_rfl
theorem c116 : compF Tryz.prog 116 = some F116 := by kernel_rfl
theorem c117 : compF Tryz.prog 117 = some F117 := by kernel_rfl
theorem c118 : compF Tryz.prog 118 = some F118 := by kernel_rfl
theorem c119 : compF Tryz.prog 119 = some F119 := by kernel_rfl
theorem c120 : compF Tryz.prog 120 = some F120 := by kernel_rfl
theorem c121 : compF Tryz.prog 121 = some F121 := by kernel_rfl
theorem c122 : compF Tryz.prog 122 = some F122 := by kernel_rfl
theorem c123 : compF Tryz.prog 123 = some F123 := by kernel_rfl
theorem c124 : compF Tryz.prog 124 = some F124 := by kernel_rfl
theorem c130 : compF Tryz.prog 130 = some F130 := by kernel_rfl
theorem c135 : compF Tryz.prog 135 = some F135 := by kernel_rfl
theorem c136 : compF Tryz.prog 136 = some F136 := by kernel_rfl
theorem c137 : compF Tryz.prog 137 = some F137 := by kernel_rfl
theorem c138 : compF Tryz.prog 138 = some F138 := by kernel_rfl
theorem c139 : compF Tryz.prog 139 = some F139 := by kernel_rfl
theorem c140 : compF Tryz.prog 140 = some F140 := by kernel_rfl
theorem c155 : compF Tryz.prog 155 = some F155 := by kernel_rfl
theorem c158 : compF Tryz.prog 158 = some F158 := by kernel_rfl
theorem c159 : compF Tryz.prog 159 = some F159 := by kernel_rfl
theorem c160 : compF Tryz.prog 160 = some F160 := by kernel_rfl
theorem c161 : compF Tryz.prog 161 = some F161 := by kernel_rfl
theorem c162 : compF Tryz.prog 162 = some F162 := by kernel_rfl
theorem c163 : compF Tryz.prog 163 = some F163 := by kernel_rfl
theorem c168 : compF Tryz.prog 168 = some F168 := by kernel_rfl
theorem c169 : compF Tryz.prog 169 = some F169 := by kernel_rfl
theorem c170 : compF Tryz.prog 170 = some F170 := by kernel_rfl
theorem c171 : compF Tryz.prog 171 = some F171 := by kernel_rfl
theorem c172 : compF Tryz.prog 172 = some F172 := by kernel_rfl
theorem c173 : compF Tryz.prog 173 = some F173 := by kernel_rfl
theorem c174 : compF Tryz.prog 174 = some F174 := by kernel_rfl
theorem c175 : compF Tryz.prog 175 = some F175 := by kernel_rfl
theorem c176 : compF Tryz.prog 176 = some F176 := by kernel_rfl
theorem c177 : compF Tryz.prog 177 = some F177 := by kernel_rfl
theorem c178 : compF Tryz.prog 178 = some F178 := by kernel_rfl
theorem c179 : compF Tryz.prog 179 = some F179 := by kernel_rfl
theorem c191 : compF Tryz.prog 191 = some F191 := by kernel_rfl
theorem c194 : compF Tryz.prog 194 = some F194 := by kernel_rfl
theorem c195 : compF Tryz.prog 195 = some F195 := by kernel_rfl
theorem c196 : compF Tryz.prog 196 = some F196 := by kernel_rfl
theorem c197 : compF Tryz.prog 197 = some F197 := by kernel_rfl
theorem c198 : compF Tryz.prog 198 = some F198 := by kernel_rfl
theorem c207 : compF Tryz.prog 207 = some F207 := by kernel_rfl
theorem c208 : compF Tryz.prog 208 = some F208 := by kernel_rfl
theorem c209 : compF Tryz.prog 209 = some F209 := by kernel_rfl
theorem c210 : compF Tryz.prog 210 = some F210 := by kernel_rfl
theorem c211 : compF Tryz.prog 211 = some F211 := by kernel_rfl
theorem c219 : compF Tryz.prog 219 = some F219 := by kernel_rfl
theorem c224 : compF Tryz.prog 224 = some F224 := by kernel_rfl
theorem c228 : compF Tryz.prog 228 = some F228 := by kernel_rfl
theorem c235 : compF Tryz.prog 235 = some F235 := by kernel_rfl
set_option maxRecDepth 1000000
def F10 : Fun := (⟨_,by cbv⟩ : Cbv 10).1
def F17 : Fun := (⟨_,by cbv⟩ : Cbv 17).1
def F43 : Fun := (⟨_,by cbv⟩ : Cbv 43).1
def F44 : Fun := ⟨78,
 .seq (.reg [o 2 (.mv (.c .nsl)),o 3 (.mv (.c (.bool false)))])
 (.seq (.seq (.reg [o 10 (.mv (.t 0)),o 11 (.lenL (.t 10)),o 12 (.bin .eql (.t 11) (.c (.int .i64 0))),o 13 (.mv (.t 12)),og 14 (.mv (.t 0)) 13 false,og 15 (.iaddr 1 (.t 14) (.c (.int .i64 0))) 13 false,og 16 (.load none (.t 15)) 13 false,og 17 (.call 66 [.t 16,.c (.int .i64 0),.c (.int .i64 24000)]) 13 false,og 18 (.un .not (.t 17)) 13 false,o 19 (.pick (.t 13) (.c (.bool true)) (.t 18)),o 20 (.mv (.t 19)),og 21 (.mv (.t 0)) 20 false,og 22 (.lenL (.t 21)) 20 false,og 23 (.mv (.t 0)) 20 false,og 24 (.iaddr 1 (.t 23) (.c (.int .i64 0))) 20 false,og 25 (.load none (.t 24)) 20 false,og 26 (.bin .add (.t 25) (.c (.int .i64 5))) 20 false,og 27 (.bin .quo (.t 26) (.c (.int .i64 6))) 20 false,og 28 (.bin .add (.c (.int .i64 1)) (.t 27)) 20 false,og 29 (.bin .neq (.t 22) (.t 28)) 20 false,o 30 (.pick (.t 20) (.c (.bool true)) (.t 29))])
 (.cond (.t 30) (.seq (.reg [o 2 (.mv (.c .nsl)),o 3 (.mv (.c (.bool false)))])
 .ret) .skip))
 (.seq (.reg [o 31 (.bslice 1 [.int .u8 0] 0 []),o 4 (.mv (.t 31))])
 (.seq (.seq (.reg [o 32 (.mv (.t 0)),o 33 (.slice 1 (.t 32) (some (.c (.int .i64 1))) none),o 34 (.lenL (.t 33)),o 35 (.mv (.c (.int .i64 0)))])
 (.block 0 (.loop (.seq (.reg [o 36 (.bin .lss (.t 35) (.t 34))])
 (.seq (.cond (.t 36) .skip (.exit 0))
 (.seq (.block 1 (.seq (.reg [o 37 (.iaddr 1 (.t 33) (.t 35)),o 38 (.load none (.t 37)),o 6 (.mv (.t 38))])
 (.seq (.seq (.reg [o 39 (.mv (.t 6)),o 40 (.bin .lss (.t 39) (.c (.int .i64 0))),o 41 (.mv (.t 40)),og 42 (.mv (.t 6)) 41 false,og 43 (.bin .geq (.t 42) (.c (.int .i64 281474976710656))) 41 false,o 44 (.pick (.t 41) (.c (.bool true)) (.t 43))])
 (.cond (.t 44) (.seq (.reg [o 2 (.mv (.c .nsl)),o 3 (.mv (.c (.bool false)))])
 .ret) .skip))
 (.seq (.reg [o 7 (.mv (.c (.int .i64 40)))])
 (.block 2 (.loop (.seq (.seq (.reg [o 45 (.mv (.t 7)),o 46 (.bin .geq (.t 45) (.c (.int .i64 0)))])
 (.cond (.t 46) .skip (.exit 2)))
 (.seq (.block 3 (.reg [o 49 (.mv (.t 4)),o 50 (.mv (.t 6)),o 51 (.mv (.t 7)),o 52 (.bin .shr (.t 50) (.t 51)),o 53 (.toInt .u8 (.t 52)),o 54 (.bslice 1 [.int .u8 0] 1 [(0,(.t 53))]),o 55 (.append 1 1 (.t 49) (.t 54)),o 4 (.mv (.t 55))]))
 (.reg [o 47 (.mv (.t 7)),o 48 (.bin .sub (.t 47) (.c (.int .i64 8))),o 7 (.mv (.t 48))])))))))))
 (.reg [o 56 (.bin .add (.t 35) (.c (.int .i64 1))),o 35 (.mv (.t 56))])))))))
 (.seq (.seq (.reg [o 57 (.mv (.t 4)),o 58 (.mv (.t 0)),o 59 (.iaddr 1 (.t 58) (.c (.int .i64 0))),o 60 (.load none (.t 59)),o 61 (.slice 1 (.t 57) (some (.t 60)) none),o 62 (.lenL (.t 61)),o 63 (.mv (.c (.int .i64 0)))])
 (.block 4 (.loop (.seq (.reg [o 64 (.bin .lss (.t 63) (.t 62))])
 (.seq (.cond (.t 64) .skip (.exit 4))
 (.seq (.block 5 (.seq (.reg [o 65 (.iaddr 1 (.t 61) (.t 63)),o 66 (.load none (.t 65)),o 9 (.mv (.t 66))])
 (.seq (.reg [o 67 (.mv (.t 9)),o 68 (.bin .neq (.t 67) (.c (.int .u8 0)))])
 (.cond (.t 68) (.seq (.reg [o 2 (.mv (.c .nsl)),o 3 (.mv (.c (.bool false)))])
 .ret) .skip))))
 (.reg [o 69 (.bin .add (.t 63) (.c (.int .i64 1))),o 63 (.mv (.t 69))])))))))
 (.seq (.reg [o 70 (.mv (.t 4)),o 71 (.mv (.t 0)),o 72 (.iaddr 1 (.t 71) (.c (.int .i64 0))),o 73 (.load none (.t 72)),o 74 (.mv (.t 0)),o 75 (.iaddr 1 (.t 74) (.c (.int .i64 0))),o 76 (.load none (.t 75)),o 77 (.slice3 1 (.t 70) (.t 73) (.t 76)),o 2 (.mv (.t 77)),o 3 (.mv (.c (.bool true)))])
 .ret))))),
 [.tmp 2,.tmp 3]⟩
def F45 : Fun := ⟨59,
 .seq (.reg [o 2 (.new 2 [.nsl,.nsl]),o 3 (.mv (.c (.bool false)))])
 (.seq (.reg [o 8 (.mv (.t 0)),o 9 (.build [.nsl,.int .i64 0,.bool false] [(0,1,(.t 8))]),o 4 (.new 3 [.nsl,.int .i64 0,.bool false]),st (.store 3 (.t 4) (.t 9))])
 (.seq (.reg [o 10 (.build [.nsl,.nsl] []),o 5 (.new 2 [.nsl,.nsl]),st (.store 2 (.t 5) (.t 10))])
 (.seq (.seq (.reg [o 11 (.call 79 [.t 4]),o 6 (.mv (.t 11))])
 (.block 0 (.loop (.seq (.seq (.reg [o 12 (.mv (.t 6)),o 13 (.bin .gtr (.t 12) (.c (.int .i64 0))),o 14 (.mv (.t 13)),og 15 (.faddr 2 (.t 4)) 14 true,og 16 (.load none (.t 15)) 14 true,og 17 (.un .not (.t 16)) 14 true,o 18 (.pick (.t 14) (.t 17) (.c (.bool false)))])
 (.cond (.t 18) .skip (.exit 0)))
 (.seq (.block 1 (.reg [o 21 (.faddr 0 (.t 5)),o 22 (.load none (.t 21)),o 23 (.call 80 [.t 4]),st (.chk none (.t 21) (.t 22)),o 24 (.bslice 6 [.str [],.nsl,.nsl,.nsl,.bool false,.nsl] 1 [(0,(.t 23))]),st (.chk none (.t 21) (.t 22)),o 25 (.append 6 120 (.t 22) (.t 24)),o 26 (.faddr 0 (.t 5)),st (.store 1 (.t 26) (.t 25))]))
 (.reg [o 19 (.mv (.t 6)),o 20 (.bin .sub (.t 19) (.c (.int .i64 1))),o 6 (.mv (.t 20))]))))))
 (.seq (.seq (.reg [o 27 (.call 79 [.t 4]),o 7 (.mv (.t 27))])
 (.block 2 (.loop (.seq (.seq (.reg [o 28 (.mv (.t 7)),o 29 (.bin .gtr (.t 28) (.c (.int .i64 0))),o 30 (.mv (.t 29)),og 31 (.faddr 2 (.t 4)) 30 true,og 32 (.load none (.t 31)) 30 true,og 33 (.un .not (.t 32)) 30 true,o 34 (.pick (.t 30) (.t 33) (.c (.bool false)))])
 (.cond (.t 34) .skip (.exit 2)))
 (.seq (.block 3 (.reg [o 37 (.faddr 1 (.t 5)),o 38 (.load none (.t 37)),o 39 (.call 81 [.t 4]),st (.chk none (.t 37) (.t 38)),o 40 (.bslice 4 [.str [],.str [],.nsl,.nsl] 1 [(0,(.t 39))]),st (.chk none (.t 37) (.t 38)),o 41 (.append 4 80 (.t 38) (.t 40)),o 42 (.faddr 1 (.t 5)),st (.store 1 (.t 42) (.t 41))]))
 (.reg [o 35 (.mv (.t 7)),o 36 (.bin .sub (.t 35) (.c (.int .i64 1))),o 7 (.mv (.t 36))]))))))
 (.seq (.seq (.reg [o 43 (.faddr 2 (.t 4)),o 44 (.load none (.t 43)),o 45 (.mv (.t 44)),og 46 (.faddr 1 (.t 4)) 45 false,og 47 (.load none (.t 46)) 45 false,og 48 (.mv (.t 0)) 45 false,og 49 (.lenL (.t 48)) 45 false,og 50 (.bin .neq (.t 47) (.t 49)) 45 false,o 51 (.pick (.t 45) (.c (.bool true)) (.t 50)),o 52 (.mv (.t 51)),og 53 (.load (some 2) (.t 5)) 52 false,og 54 (.call 58 [.t 53]) 52 false,og 55 (.un .not (.t 54)) 52 false,o 56 (.pick (.t 52) (.c (.bool true)) (.t 55))])
 (.cond (.t 56) (.seq (.reg [o 57 (.build [.nsl,.nsl] []),st (.store 2 (.t 2) (.t 57)),o 3 (.mv (.c (.bool false)))])
 .ret) .skip))
 (.seq (.reg [o 58 (.load (some 2) (.t 5)),st (.store 2 (.t 2) (.t 58)),o 3 (.mv (.c (.bool true)))])
 .ret)))))),
 [.cell 2 (some 2),.tmp 3]⟩
def F58 : Fun := (⟨_,by cbv⟩ : Cbv 58).1
def F65 : Fun := (⟨_,by cbv⟩ : Cbv 65).1
def F66 : Fun := (⟨_,by cbv⟩ : Cbv 66).1
def F79 : Fun := ⟨35,
 .seq (.reg [o 2 (.mv (.c (.int .i64 0)))])
 (.seq (.draw [o 7 (.mv (.t 0)),o 8 (.nilck (.t 7)),o 9 (.faddr 0 (.t 8)),o 10 (.load none (.t 9)),o 11 (.mv (.t 0)),o 12 (.nilck (.t 11)),o 13 (.faddr 1 (.t 12)),o 14 (.load none (.t 13)),o 15 (.callF 125 [.t 10,.t 14]),o 6 (.mv (.t 15)),o 16 (.extract (.t 6) 0),o 17 (.extract (.t 6) 1),o 18 (.extract (.t 6) 2),o 3 (.mv (.t 16)),o 4 (.mv (.t 17)),o 5 (.mv (.t 18))])
 (.seq (.seq (.reg [o 19 (.mv (.t 5)),o 20 (.un .not (.t 19)),o 21 (.mv (.t 20)),og 22 (.mv (.t 0)) 21 false,og 23 (.nilck (.t 22)) 21 false,og 24 (.faddr 2 (.t 23)) 21 false,og 25 (.load none (.t 24)) 21 false,o 26 (.pick (.t 21) (.c (.bool true)) (.t 25))])
 (.cond (.t 26) (.seq (.reg [o 27 (.mv (.t 0)),o 28 (.nilck (.t 27)),o 29 (.faddr 2 (.t 28)),st (.store 1 (.t 29) (.c (.bool true)))])
 (.seq (.reg [o 2 (.mv (.c (.int .i64 0)))])
 .ret)) .skip))
 (.seq (.reg [o 30 (.mv (.t 0)),o 31 (.mv (.t 4)),o 32 (.nilck (.t 30)),o 33 (.faddr 1 (.t 32)),st (.store 1 (.t 33) (.t 31))])
 (.seq (.reg [o 34 (.mv (.t 3)),o 2 (.mv (.t 34))])
 .ret)))),
 [.tmp 2]⟩
def F80 : Fun := ⟨74,
 .seq (.reg [o 2 (.new 6 [.str [],.nsl,.nsl,.nsl,.bool false,.nsl])])
 (.seq (.reg [o 7 (.mv (.t 0)),o 8 (.call 126 [.t 7]),o 9 (.build [.str [],.nsl,.nsl,.nsl,.bool false,.nsl] [(0,1,(.t 8))]),o 3 (.new 6 [.str [],.nsl,.nsl,.nsl,.bool false,.nsl]),st (.store 6 (.t 3) (.t 9))])
 (.seq (.reg [o 10 (.mv (.t 0)),o 11 (.call 127 [.t 10]),o 12 (.faddr 1 (.t 3)),st (.store 1 (.t 12) (.t 11))])
 (.seq (.reg [o 13 (.mv (.t 0)),o 14 (.call 127 [.t 13]),o 15 (.faddr 2 (.t 3)),st (.store 1 (.t 15) (.t 14))])
 (.seq (.seq (.reg [o 16 (.mv (.t 0)),o 17 (.call 79 [.t 16]),o 4 (.mv (.t 17))])
 (.block 0 (.loop (.seq (.seq (.reg [o 18 (.mv (.t 4)),o 19 (.bin .gtr (.t 18) (.c (.int .i64 0))),o 20 (.mv (.t 19)),og 21 (.mv (.t 0)) 20 true,og 22 (.nilck (.t 21)) 20 true,og 23 (.faddr 2 (.t 22)) 20 true,og 24 (.load none (.t 23)) 20 true,og 25 (.un .not (.t 24)) 20 true,o 26 (.pick (.t 20) (.t 25) (.c (.bool false)))])
 (.cond (.t 26) .skip (.exit 0)))
 (.seq (.block 1 (.reg [o 29 (.faddr 3 (.t 3)),o 30 (.load none (.t 29)),o 31 (.mv (.t 0)),o 32 (.call 126 [.t 31]),st (.chk none (.t 29) (.t 30)),o 33 (.bslice 1 [.str []] 1 [(0,(.t 32))]),st (.chk none (.t 29) (.t 30)),o 34 (.append 1 16 (.t 30) (.t 33)),o 35 (.faddr 3 (.t 3)),st (.store 1 (.t 35) (.t 34))]))
 (.reg [o 27 (.mv (.t 4)),o 28 (.bin .sub (.t 27) (.c (.int .i64 1))),o 4 (.mv (.t 28))]))))))
 (.seq (.reg [o 36 (.mv (.t 0)),o 37 (.call 128 [.t 36]),o 38 (.faddr 4 (.t 3)),st (.store 1 (.t 38) (.t 37))])
 (.seq (.seq (.reg [o 39 (.mv (.t 0)),o 40 (.call 79 [.t 39]),o 5 (.mv (.t 40))])
 (.block 2 (.loop (.seq (.seq (.reg [o 41 (.mv (.t 5)),o 42 (.bin .gtr (.t 41) (.c (.int .i64 0))),o 43 (.mv (.t 42)),og 44 (.mv (.t 0)) 43 true,og 45 (.nilck (.t 44)) 43 true,og 46 (.faddr 2 (.t 45)) 43 true,og 47 (.load none (.t 46)) 43 true,og 48 (.un .not (.t 47)) 43 true,o 49 (.pick (.t 43) (.t 48) (.c (.bool false)))])
 (.cond (.t 49) .skip (.exit 2)))
 (.seq (.block 3 (.seq (.reg [o 52 (.mv (.t 0)),o 53 (.call 79 [.t 52]),o 54 (.build [.int .i64 0,.int .i64 0,.int .i64 0,.str [],.str []] [(0,1,(.t 53))]),o 6 (.new 5 [.int .i64 0,.int .i64 0,.int .i64 0,.str [],.str []]),st (.store 5 (.t 6) (.t 54))])
 (.seq (.reg [o 55 (.mv (.t 0)),o 56 (.call 79 [.t 55]),o 57 (.faddr 1 (.t 6)),st (.store 1 (.t 57) (.t 56))])
 (.seq (.reg [o 58 (.mv (.t 0)),o 59 (.call 79 [.t 58]),o 60 (.faddr 2 (.t 6)),st (.store 1 (.t 60) (.t 59))])
 (.seq (.reg [o 61 (.mv (.t 0)),o 62 (.call 126 [.t 61]),o 63 (.faddr 3 (.t 6)),st (.store 1 (.t 63) (.t 62))])
 (.seq (.reg [o 64 (.mv (.t 0)),o 65 (.call 126 [.t 64]),o 66 (.faddr 4 (.t 6)),st (.store 1 (.t 66) (.t 65))])
 (.reg [o 67 (.faddr 5 (.t 3)),o 68 (.load none (.t 67)),o 69 (.load (some 5) (.t 6)),o 70 (.bslice 5 [.int .i64 0,.int .i64 0,.int .i64 0,.str [],.str []] 1 [(0,(.t 69))]),o 71 (.append 5 56 (.t 68) (.t 70)),o 72 (.faddr 5 (.t 3)),st (.store 1 (.t 72) (.t 71))])))))))
 (.reg [o 50 (.mv (.t 5)),o 51 (.bin .sub (.t 50) (.c (.int .i64 1))),o 5 (.mv (.t 51))]))))))
 (.seq (.reg [o 73 (.load (some 6) (.t 3)),st (.store 6 (.t 2) (.t 73))])
 .ret))))))),
 [.cell 2 (some 6)]⟩
def F81 : Fun := (⟨_,by cbv⟩ : Cbv 81).1
def F106 : Fun := ⟨120,
 .seq (.reg [o 1 (.box 6 (.t 0)),o 2 (.mv (.c (.bool false)))])
 (.seq (.seq (.reg [o 12 (.faddr 0 (.t 1)),o 13 (.load none (.t 12)),o 14 (.lenS (.t 13)),o 15 (.call 66 [.t 14,.c (.int .i64 1),.c (.int .i64 100)]),o 16 (.un .not (.t 15)),o 17 (.mv (.t 16)),og 18 (.faddr 3 (.t 1)) 17 false,og 19 (.load none (.t 18)) 17 false,og 20 (.lenL (.t 19)) 17 false,og 21 (.bin .gtr (.t 20) (.c (.int .i64 600))) 17 false,o 22 (.pick (.t 17) (.c (.bool true)) (.t 21)),o 23 (.mv (.t 22)),og 24 (.faddr 5 (.t 1)) 23 false,og 25 (.load none (.t 24)) 23 false,og 26 (.lenL (.t 25)) 23 false,og 27 (.bin .gtr (.t 26) (.c (.int .i64 8000))) 23 false,o 28 (.pick (.t 23) (.c (.bool true)) (.t 27)),o 29 (.mv (.t 28)),og 30 (.faddr 1 (.t 1)) 29 false,og 31 (.load none (.t 30)) 29 false,og 32 (.lenL (.t 31)) 29 false,og 33 (.faddr 2 (.t 1)) 29 false,og 34 (.load none (.t 33)) 29 false,og 35 (.lenL (.t 34)) 29 false,og 36 (.bin .add (.t 32) (.t 35)) 29 false,og 37 (.faddr 3 (.t 1)) 29 false,og 38 (.load none (.t 37)) 29 false,og 39 (.lenL (.t 38)) 29 false,og 40 (.bin .gtr (.t 36) (.t 39)) 29 false,o 41 (.pick (.t 29) (.c (.bool true)) (.t 40))])
 (.cond (.t 41) (.seq (.reg [o 2 (.mv (.c (.bool false)))])
 .ret) .skip))
 (.seq (.reg [o 42 .mkmap,o 3 (.mv (.t 42))])
 (.seq (.seq (.reg [o 43 (.faddr 3 (.t 1)),o 44 (.load none (.t 43)),o 45 (.lenL (.t 44)),o 46 (.mv (.c (.int .i64 0)))])
 (.block 0 (.loop (.seq (.reg [o 47 (.bin .lss (.t 46) (.t 45))])
 (.seq (.cond (.t 47) .skip (.exit 0))
 (.seq (.block 1 (.seq (.reg [o 48 (.iaddr 1 (.t 44) (.t 46)),o 49 (.load none (.t 48)),o 5 (.mv (.t 49))])
 (.seq (.seq (.reg [o 50 (.mv (.t 3)),o 51 (.mv (.t 5)),o 52 (.lookup 1 (.bool false) false (.t 50) (.t 51)),o 53 (.mv (.t 52)),og 54 (.mv (.t 5)) 53 false,og 55 (.call 107 [.t 54]) 53 false,og 56 (.un .not (.t 55)) 53 false,o 57 (.pick (.t 53) (.c (.bool true)) (.t 56)),o 58 (.mv (.t 57)),og 59 (.mv (.t 5)) 58 false,og 60 (.bin .eql (.t 59) (.c (.str [116,104,105,115]))) 58 false,o 61 (.pick (.t 58) (.c (.bool true)) (.t 60))])
 (.cond (.t 61) (.seq (.reg [o 2 (.mv (.c (.bool false)))])
 .ret) .skip))
 (.reg [o 62 (.mv (.t 3)),o 63 (.mv (.t 5)),st (.mupd 1 (.t 62) (.t 63) (.c (.bool true)))]))))
 (.reg [o 64 (.bin .add (.t 46) (.c (.int .i64 1))),o 46 (.mv (.t 64))])))))))
 (.seq (.seq (.reg [o 65 (.faddr 1 (.t 1)),o 66 (.load none (.t 65)),o 68 (.faddr 2 (.t 1)),o 69 (.load none (.t 68)),o 72 (.mv (.c (.int .i64 0))),o 67 (.call 149 [.t 66]),st (.chk none (.t 68) (.t 69)),o 70 (.append 2 24 (.t 67) (.t 69)),o 71 (.lenL (.t 70))])
 (.block 2 (.loop (.seq (.reg [o 73 (.bin .lss (.t 72) (.t 71))])
 (.seq (.cond (.t 73) .skip (.exit 2))
 (.seq (.block 3 (.seq (.reg [o 74 (.mv (.t 72)),o 75 (.iaddr 2 (.t 70) (.t 72)),o 76 (.load (some 2) (.t 75)),o 7 (.new 2 [.str [],.bool false]),o 6 (.mv (.t 74)),st (.store 2 (.t 7) (.t 76))])
 (.seq (.reg [o 77 (.faddr 3 (.t 1)),o 78 (.load none (.t 77)),o 79 (.mv (.t 6)),o 80 (.iaddr 1 (.t 78) (.t 79)),o 81 (.load none (.t 80)),o 82 (.faddr 0 (.t 7)),o 83 (.load none (.t 82)),o 84 (.bin .neq (.t 81) (.t 83))])
 (.cond (.t 84) (.seq (.reg [o 2 (.mv (.c (.bool false)))])
 .ret) .skip))))
 (.reg [o 85 (.bin .add (.t 72) (.c (.int .i64 1))),o 72 (.mv (.t 85))])))))))
 (.seq (.seq (.reg [o 86 (.faddr 5 (.t 1)),o 87 (.load none (.t 86)),o 88 (.lenL (.t 87)),o 89 (.mv (.c (.int .i64 0)))])
 (.block 4 (.loop (.seq (.reg [o 90 (.bin .lss (.t 89) (.t 88))])
 (.seq (.cond (.t 90) .skip (.exit 4))
 (.seq (.block 5 (.seq (.reg [o 91 (.iaddr 5 (.t 87) (.t 89)),o 92 (.load (some 5) (.t 91)),o 9 (.new 5 [.int .i64 0,.int .i64 0,.int .i64 0,.str [],.str []]),st (.store 5 (.t 9) (.t 92))])
 (.seq (.reg [o 93 (.faddr 0 (.t 9)),o 94 (.load none (.t 93)),o 95 (.bin .eql (.t 94) (.c (.int .i64 54))),o 96 (.mv (.t 95)),og 97 (.faddr 4 (.t 1)) 96 true,og 98 (.load none (.t 97)) 96 true,og 99 (.un .not (.t 98)) 96 true,o 100 (.pick (.t 96) (.t 99) (.c (.bool false)))])
 (.cond (.t 100) (.seq (.reg [o 2 (.mv (.c (.bool false)))])
 .ret) .skip))))
 (.reg [o 101 (.bin .add (.t 89) (.c (.int .i64 1))),o 89 (.mv (.t 101))])))))))
 (.seq (.seq (.reg [o 102 (.load (some 6) (.t 1)),o 103 (.call 109 [.t 102]),o 104 (.mv (.t 103)),og 105 (.faddr 3 (.t 1)) 104 true,og 106 (.load none (.t 105)) 104 true,og 107 (.lenL (.t 106)) 104 true,og 108 (.bin .gtr (.t 107) (.c (.int .i64 0))) 104 true,og 109 (.mv (.t 108)) 104 true,og 110 (.faddr 4 (.t 1)) 109 false,og 111 (.load none (.t 110)) 109 false,og 112 (.pick (.t 109) (.c (.bool true)) (.t 111)) 104 true,o 113 (.pick (.t 104) (.t 112) (.c (.bool false)))])
 (.cond (.t 113) (.seq (.reg [o 2 (.mv (.c (.bool false)))])
 .ret) .skip))
 (.seq (.reg [o 115 (.load (some 6) (.t 1)),o 116 (.call 150 [.t 115]),o 114 (.mv (.t 116)),o 117 (.extract (.t 114) 0),o 118 (.extract (.t 114) 1),o 10 (.mv (.t 117)),o 11 (.mv (.t 118))])
 (.seq (.reg [o 119 (.mv (.t 11)),o 2 (.mv (.t 119))])
 .ret)))))))),
 [.tmp 2]⟩
def F107 : Fun := (⟨_,by cbv⟩ : Cbv 107).1
def F108 : Fun := (⟨_,by cbv⟩ : Cbv 108).1
def F109 : Fun := (⟨_,by cbv⟩ : Cbv 109).1
def F113 : Fun := (⟨_,by cbv⟩ : Cbv 113).1
def F125 : Fun := (⟨_,by cbv⟩ : Cbv 125).1
def F126 : Fun := ⟨35,
 .seq (.reg [o 2 (.mv (.c (.str [])))])
 (.seq (.draw [o 7 (.mv (.t 0)),o 8 (.nilck (.t 7)),o 9 (.faddr 0 (.t 8)),o 10 (.load none (.t 9)),o 11 (.mv (.t 0)),o 12 (.nilck (.t 11)),o 13 (.faddr 1 (.t 12)),o 14 (.load none (.t 13)),o 15 (.callF 164 [.t 10,.t 14,.c (.int .i64 1000000000000)]),o 6 (.mv (.t 15)),o 16 (.extract (.t 6) 0),o 17 (.extract (.t 6) 1),o 18 (.extract (.t 6) 2),o 3 (.mv (.t 16)),o 4 (.mv (.t 17)),o 5 (.mv (.t 18))])
 (.seq (.seq (.reg [o 19 (.mv (.t 5)),o 20 (.un .not (.t 19)),o 21 (.mv (.t 20)),og 22 (.mv (.t 0)) 21 false,og 23 (.nilck (.t 22)) 21 false,og 24 (.faddr 2 (.t 23)) 21 false,og 25 (.load none (.t 24)) 21 false,o 26 (.pick (.t 21) (.c (.bool true)) (.t 25))])
 (.cond (.t 26) (.seq (.reg [o 27 (.mv (.t 0)),o 28 (.nilck (.t 27)),o 29 (.faddr 2 (.t 28)),st (.store 1 (.t 29) (.c (.bool true)))])
 (.seq (.reg [o 2 (.mv (.c (.str [])))])
 .ret)) .skip))
 (.seq (.reg [o 30 (.mv (.t 0)),o 31 (.mv (.t 4)),o 32 (.nilck (.t 30)),o 33 (.faddr 1 (.t 32)),st (.store 1 (.t 33) (.t 31))])
 (.seq (.reg [o 34 (.mv (.t 3)),o 2 (.mv (.t 34))])
 .ret)))),
 [.tmp 2]⟩
def F127 : Fun := (⟨_,by cbv⟩ : Cbv 127).1
def F128 : Fun := (⟨_,by cbv⟩ : Cbv 128).1
def F129 : Fun := (⟨_,by cbv⟩ : Cbv 129).1
def F149 : Fun := (⟨_,by cbv⟩ : Cbv 149).1
def F150 : Fun := ⟨107,
 .seq (.reg [o 1 (.box 6 (.t 0)),o 2 (.mv (.c .nsl)),o 3 (.mv (.c (.bool false)))])
 (.seq (.seq (.reg [o 12 (.faddr 5 (.t 1)),o 13 (.load none (.t 12)),o 14 (.lenL (.t 13)),o 15 (.bin .eql (.t 14) (.c (.int .i64 0)))])
 (.cond (.t 15) (.seq (.reg [o 2 (.mv (.c .nsl)),o 3 (.mv (.c (.bool false)))])
 .ret) .skip))
 (.seq (.reg [o 16 (.faddr 5 (.t 1)),o 17 (.load none (.t 16)),o 18 (.lenL (.t 17)),o 19 (.mkslice 1 [.int .i64 0] 8 (.t 18) (.t 18)),o 4 (.new 1 [.nsl]),st (.store 1 (.t 4) (.t 19))])
 (.seq (.seq (.reg [o 20 (.faddr 5 (.t 1)),o 21 (.load none (.t 20)),o 22 (.lenL (.t 21)),o 23 (.mv (.c (.int .i64 0)))])
 (.block 0 (.loop (.seq (.reg [o 24 (.bin .lss (.t 23) (.t 22))])
 (.seq (.cond (.t 24) .skip (.exit 0))
 (.seq (.block 1 (.seq (.reg [o 25 (.mv (.t 23)),o 26 (.iaddr 5 (.t 21) (.t 23)),o 27 (.load (some 5) (.t 26)),o 6 (.new 5 [.int .i64 0,.int .i64 0,.int .i64 0,.str [],.str []]),o 5 (.mv (.t 25)),st (.store 5 (.t 6) (.t 27))])
 (.seq (.seq (.reg [o 28 (.load (some 5) (.t 6)),o 29 (.faddr 3 (.t 1)),o 30 (.load none (.t 29)),o 31 (.lenL (.t 30)),o 32 (.faddr 5 (.t 1)),o 33 (.load none (.t 32)),o 34 (.lenL (.t 33)),o 35 (.call 182 [.t 28,.t 31,.t 34]),o 36 (.un .not (.t 35))])
 (.cond (.t 36) (.seq (.reg [o 2 (.mv (.c .nsl)),o 3 (.mv (.c (.bool false)))])
 .ret) .skip))
 (.reg [o 37 (.load none (.t 4)),o 38 (.mv (.t 5)),o 39 (.iaddr 1 (.t 37) (.t 38)),st (.store 1 (.t 39) (.c (.int .i64 (-1))))]))))
 (.reg [o 40 (.bin .add (.t 23) (.c (.int .i64 1))),o 23 (.mv (.t 40))])))))))
 (.seq (.reg [o 41 (.load none (.t 4)),o 42 (.iaddr 1 (.t 41) (.c (.int .i64 0))),st (.store 1 (.t 42) (.c (.int .i64 0)))])
 (.seq (.reg [o 43 (.bslice 1 [.int .i64 0] 1 [(0,(.c (.int .i64 0)))]),o 7 (.new 1 [.nsl]),st (.store 1 (.t 7) (.t 43))])
 (.seq (.reg [o 44 (.mkfn 183 [.t 4,.t 7]),o 8 (.mv (.t 44))])
 (.seq (.block 2 (.loop (.seq (.seq (.reg [o 45 (.load none (.t 7)),o 46 (.lenL (.t 45)),o 47 (.bin .gtr (.t 46) (.c (.int .i64 0)))])
 (.cond (.t 47) .skip (.exit 2)))
 (.block 3 (.seq (.reg [o 48 (.load none (.t 7)),o 49 (.load none (.t 7)),o 50 (.lenL (.t 49)),o 51 (.bin .sub (.t 50) (.c (.int .i64 1))),o 52 (.iaddr 1 (.t 48) (.t 51)),o 53 (.load none (.t 52)),o 9 (.mv (.t 53))])
 (.seq (.reg [o 54 (.load none (.t 7)),o 55 (.load none (.t 7)),o 56 (.lenL (.t 55)),o 57 (.bin .sub (.t 56) (.c (.int .i64 1))),o 58 (.slice 1 (.t 54) none (some (.t 57))),st (.store 1 (.t 7) (.t 58))])
 (.seq (.reg [o 59 (.faddr 5 (.t 1)),o 60 (.load none (.t 59)),o 61 (.mv (.t 9)),o 62 (.iaddr 5 (.t 60) (.t 61)),o 63 (.load (some 5) (.t 62)),o 10 (.new 5 [.int .i64 0,.int .i64 0,.int .i64 0,.str [],.str []]),st (.store 5 (.t 10) (.t 63))])
 (.seq (.reg [o 64 (.load none (.t 4)),o 65 (.mv (.t 9)),o 66 (.iaddr 1 (.t 64) (.t 65)),o 67 (.load none (.t 66)),o 11 (.mv (.t 67))])
 (.seq (.seq (.reg [o 70 (.mv (.t 11))])
 (.seq (.reg [o 68 (.load (some 5) (.t 10))])
 (.seq (.reg [o 69 (.call 184 [.t 68])])
 (.seq (.reg [o 71 (.bin .gtr (.t 69) (.t 70))])
 (.seq (.reg [o 72 (.mv (.t 71))])
 (.seq (.reg [og 73 (.faddr 0 (.t 10)) 72 false])
 (.seq (.reg [og 74 (.load none (.t 73)) 72 false])
 (.seq (.reg [og 75 (.call 185 [.t 74]) 72 false])
 (.seq (.reg [og 76 (.un .not (.t 75)) 72 false])
 (.seq (.reg [og 77 (.mv (.t 76)) 72 false])
 (.seq (.reg [og 78 (.mv (.t 8)) 77 true])
 (.seq (.reg [og 79 (.mv (.t 9)) 77 true])
 (.seq (.reg [og 81 (.mv (.t 11)) 77 true])
 (.seq (.alt (.seq (.reg [og 80 (.bin .add (.t 79) (.c (.int .i64 1))) 77 true])
 (.seq (.reg [og 82 (.load (some 5) (.t 10)) 77 true])
 (.seq (.reg [og 83 (.call 186 [.t 82]) 77 true])
 (.seq (.reg [og 84 (.bin .add (.t 81) (.t 83)) 77 true])
 .skip))))
 (.seq (.reg [og 82 (.load (some 5) (.t 10)) 77 true])
 (.alt (.seq (.reg [og 80 (.bin .add (.t 79) (.c (.int .i64 1))) 77 true])
 (.seq (.reg [og 83 (.call 186 [.t 82]) 77 true])
 (.seq (.reg [og 84 (.bin .add (.t 81) (.t 83)) 77 true])
 .skip)))
 (.seq (.reg [og 83 (.call 186 [.t 82]) 77 true])
 (.alt (.seq (.reg [og 80 (.bin .add (.t 79) (.c (.int .i64 1))) 77 true])
 (.seq (.reg [og 84 (.bin .add (.t 81) (.t 83)) 77 true])
 .skip))
 (.seq (.reg [og 84 (.bin .add (.t 81) (.t 83)) 77 true])
 (.seq (.reg [og 80 (.bin .add (.t 79) (.c (.int .i64 1))) 77 true])
 .skip)))))))
 (.seq (.reg [og 85 (.callv (.t 78) [.t 80,.t 84]) 77 true])
 (.seq (.reg [og 86 (.un .not (.t 85)) 77 true])
 (.seq (.reg [og 87 (.pick (.t 77) (.t 86) (.c (.bool false))) 72 false])
 (.seq (.reg [o 88 (.pick (.t 72) (.c (.bool true)) (.t 87))])
 (.seq (.reg [o 89 (.mv (.t 88))])
 (.seq (.reg [og 90 (.faddr 0 (.t 10)) 89 false])
 (.seq (.reg [og 91 (.load none (.t 90)) 89 false])
 (.seq (.reg [og 92 (.call 187 [.t 91]) 89 false])
 (.seq (.reg [og 93 (.mv (.t 92)) 89 false])
 (.seq (.reg [og 94 (.mv (.t 8)) 93 true])
 (.seq (.reg [og 95 (.faddr 1 (.t 10)) 93 true])
 (.seq (.reg [og 97 (.mv (.t 11)) 93 true])
 (.seq (.reg [og 98 (.faddr 0 (.t 10)) 93 true])
 (.seq (.alt (.seq (.reg [og 96 (.load none (.t 95)) 93 true])
 (.seq (.reg [og 99 (.load none (.t 98)) 93 true])
 (.seq (.reg [og 100 (.call 188 [.t 99]) 93 true])
 (.seq (.reg [og 101 (.bin .add (.t 97) (.t 100)) 93 true])
 .skip))))
 (.seq (.reg [og 99 (.load none (.t 98)) 93 true])
 (.alt (.seq (.reg [og 96 (.load none (.t 95)) 93 true])
 (.seq (.reg [og 100 (.call 188 [.t 99]) 93 true])
 (.seq (.reg [og 101 (.bin .add (.t 97) (.t 100)) 93 true])
 .skip)))
 (.seq (.reg [og 100 (.call 188 [.t 99]) 93 true])
 (.alt (.seq (.reg [og 96 (.load none (.t 95)) 93 true])
 (.seq (.reg [og 101 (.bin .add (.t 97) (.t 100)) 93 true])
 .skip))
 (.seq (.reg [og 101 (.bin .add (.t 97) (.t 100)) 93 true])
 (.seq (.reg [og 96 (.load none (.t 95)) 93 true])
 .skip)))))))
 (.seq (.reg [og 102 (.callv (.t 94) [.t 96,.t 101]) 93 true])
 (.seq (.reg [og 103 (.un .not (.t 102)) 93 true])
 (.seq (.reg [og 104 (.pick (.t 93) (.t 103) (.c (.bool false))) 89 false])
 (.seq (.reg [o 105 (.pick (.t 89) (.c (.bool true)) (.t 104))])
 .skip))))))))))))))))))))))))))))))))
 (.cond (.t 105) (.seq (.reg [o 2 (.mv (.c .nsl)),o 3 (.mv (.c (.bool false)))])
 .ret) .skip))))))))))
 (.seq (.reg [o 106 (.load none (.t 4)),o 2 (.mv (.t 106)),o 3 (.mv (.c (.bool true)))])
 .ret)))))))),
 [.tmp 2,.tmp 3]⟩
def F151 : Fun := (⟨_,by cbv⟩ : Cbv 151).1
def F152 : Fun := (⟨_,by cbv⟩ : Cbv 152).1
def F153 : Fun := (⟨_,by cbv⟩ : Cbv 153).1
def F154 : Fun := (⟨_,by cbv⟩ : Cbv 154).1
def F156 : Fun := (⟨_,by cbv⟩ : Cbv 156).1
def F157 : Fun := ⟨78,
 .seq (.reg [o 3 (.box 5 (.t 1)),o 4 (.mv (.c .nsl))])
 (.seq (.seq (.reg [o 7 (.faddr 0 (.t 3)),o 8 (.load none (.t 7))])
 (.block 0 (.seq (.reg [o 10 (.bin .eql (.t 8) (.c (.int .i64 0))),o 9 (.mv (.t 10))])
 (.cond (.t 9) (.seq (.reg [o 11 (.mv (.t 0)),o 12 (.append 1 1 (.t 11) (.c (.str [78,59]))),o 4 (.mv (.t 12))])
 .ret) (.seq (.reg [o 14 (.bin .eql (.t 8) (.c (.int .i64 1))),o 13 (.mv (.t 14))])
 (.cond (.t 13) (.seq (.reg [o 15 (.mv (.t 0)),o 16 (.faddr 1 (.t 3)),o 17 (.load none (.t 16)),o 18 (.call 192 [.t 17]),o 19 (.bin .add (.c (.str [98,58])) (.t 18)),o 20 (.bin .add (.t 19) (.c (.str [59]))),o 21 (.append 1 1 (.t 15) (.t 20)),o 4 (.mv (.t 21))])
 .ret) (.seq (.reg [o 23 (.bin .eql (.t 8) (.c (.int .i64 2))),o 22 (.mv (.t 23))])
 (.cond (.t 22) (.seq (.reg [o 24 (.mv (.t 0)),o 25 (.faddr 1 (.t 3)),o 26 (.load none (.t 25)),o 27 (.call 192 [.t 26]),o 28 (.bin .add (.c (.str [105,58])) (.t 27)),o 29 (.bin .add (.t 28) (.c (.str [59]))),o 30 (.append 1 1 (.t 24) (.t 29)),o 4 (.mv (.t 30))])
 .ret) (.seq (.reg [o 32 (.bin .eql (.t 8) (.c (.int .i64 3))),o 31 (.mv (.t 32))])
 (.cond (.t 31) (.seq (.reg [o 33 (.mv (.t 0)),o 34 (.faddr 2 (.t 3)),o 35 (.load none (.t 34)),o 36 (.lenS (.t 35)),o 37 (.callF 192 [.t 36]),o 38 (.bin .add (.c (.str [115,58])) (.t 37)),o 39 (.bin .add (.t 38) (.c (.str [58]))),o 40 (.faddr 2 (.t 3)),o 41 (.load none (.t 40)),o 42 (.bin .add (.t 39) (.t 41)),o 43 (.bin .add (.t 42) (.c (.str [59]))),o 44 (.append 1 1 (.t 33) (.t 43)),o 4 (.mv (.t 44))])
 .ret) .skip))))))))))
 (.seq (.reg [o 45 (.mv (.t 0)),o 46 (.faddr 4 (.t 3)),o 47 (.load none (.t 46)),o 48 (.lenL (.t 47)),o 49 (.callF 192 [.t 48]),o 50 (.bin .add (.c (.str [97,58])) (.t 49)),o 51 (.bin .add (.t 50) (.c (.str [58]))),o 52 (.faddr 3 (.t 3)),o 53 (.load none (.t 52)),o 54 (.callF 192 [.t 53]),o 55 (.bin .add (.t 51) (.t 54)),o 56 (.bin .add (.t 55) (.c (.str [123]))),o 57 (.append 1 1 (.t 45) (.t 56)),o 0 (.mv (.t 57))])
 (.seq (.seq (.reg [o 58 (.faddr 4 (.t 3)),o 59 (.load none (.t 58)),o 60 (.lenL (.t 59)),o 61 (.mv (.c (.int .i64 0)))])
 (.block 1 (.loop (.seq (.reg [o 62 (.bin .lss (.t 61) (.t 60))])
 (.seq (.cond (.t 62) .skip (.exit 1))
 (.seq (.block 2 (.seq (.reg [o 63 (.iaddr 8 (.t 59) (.t 61)),o 64 (.load (some 8) (.t 63)),o 6 (.new 8 [.bool false,.int .i64 0,.str [],.int .i64 0,.int .i64 0,.str [],.int .i64 0,.nsl]),st (.store 8 (.t 6) (.t 64))])
 (.seq (.reg [o 65 (.mv (.t 0)),o 66 (.faddr 0 (.t 6)),o 67 (.load (some 3) (.t 66)),o 68 (.call 193 [.t 67]),o 69 (.call 157 [.t 65,.t 68]),o 0 (.mv (.t 69))])
 (.reg [o 70 (.mv (.t 0)),o 71 (.faddr 3 (.t 6)),o 72 (.load (some 5) (.t 71)),o 73 (.call 157 [.t 70,.t 72]),o 0 (.mv (.t 73))]))))
 (.reg [o 74 (.bin .add (.t 61) (.c (.int .i64 1))),o 61 (.mv (.t 74))])))))))
 (.seq (.reg [o 75 (.mv (.t 0)),o 76 (.bslice 1 [.int .u8 0] 1 [(0,(.c (.int .u8 125)))]),o 77 (.append 1 1 (.t 75) (.t 76)),o 4 (.mv (.t 77))])
 .ret)))),
 [.tmp 4]⟩
def F164 : Fun := (⟨_,by cbv⟩ : Cbv 164).1
def F165 : Fun := ⟨142,
 .seq (.reg [o 4 (.new 5 [.int .i64 0,.int .i64 0,.str [],.int .i64 0,.nsl])])
 (.seq (.seq (.reg [o 10 (.mv (.t 0)),o 11 (.nilck (.t 10)),o 12 (.faddr 1 (.t 11)),o 13 (.load none (.t 12)),o 14 (.mv (.t 0)),o 15 (.nilck (.t 14)),o 16 (.faddr 0 (.t 15)),o 17 (.load none (.t 16)),o 18 (.lenS (.t 17)),o 19 (.bin .geq (.t 13) (.t 18)),o 20 (.mv (.t 19)),og 21 (.mv (.t 1)) 20 false,og 22 (.bin .gtr (.t 21) (.c (.int .i64 200))) 20 false,o 23 (.pick (.t 20) (.c (.bool true)) (.t 22))])
 (.cond (.t 23) (.seq (.reg [o 24 (.mv (.t 0)),o 25 (.nilck (.t 24)),o 26 (.faddr 2 (.t 25)),st (.store 1 (.t 26) (.c (.bool true)))])
 (.seq (.reg [o 27 (.build [.int .i64 0,.int .i64 0,.str [],.int .i64 0,.nsl] []),st (.store 5 (.t 4) (.t 27))])
 .ret)) .skip))
 (.seq (.reg [o 28 (.mv (.t 0)),o 29 (.nilck (.t 28)),o 30 (.faddr 0 (.t 29)),o 31 (.load none (.t 30)),o 32 (.mv (.t 0)),o 33 (.nilck (.t 32)),o 34 (.faddr 1 (.t 33)),o 35 (.load none (.t 34)),o 36 (.index (.t 31) (.t 35)),o 5 (.mv (.t 36))])
 (.seq (.seq (.reg [o 37 (.mv (.t 5)),o 38 (.bin .eql (.t 37) (.c (.int .u8 78)))])
 (.cond (.t 38) (.seq (.reg [o 39 (.mv (.t 0)),o 40 (.call 199 [.t 39,.c (.str [78,59])])])
 (.seq (.reg [o 41 (.call 166 []),st (.store 5 (.t 4) (.t 41))])
 .ret)) .skip))
 (.seq (.reg [o 42 (.mv (.t 0)),o 43 (.mv (.t 5)),o 44 (.bslice 1 [.int .u8 0] 2 [(0,(.t 43)),(1,(.c (.int .u8 58)))]),o 45 (.toStr (.t 44)),o 46 (.call 199 [.t 42,.t 45])])
 (.seq (.seq (.reg [o 47 (.mv (.t 0)),o 48 (.nilck (.t 47)),o 49 (.faddr 2 (.t 48)),o 50 (.load none (.t 49))])
 (.cond (.t 50) (.seq (.reg [o 51 (.build [.int .i64 0,.int .i64 0,.str [],.int .i64 0,.nsl] []),st (.store 5 (.t 4) (.t 51))])
 .ret) .skip))
 (.seq (.seq (.reg [o 52 (.mv (.t 5))])
 (.block 0 (.seq (.seq (.reg [o 54 (.bin .eql (.t 52) (.c (.int .u8 98))),o 53 (.mv (.t 54))])
 (.cond (.t 53) .skip (.reg [o 55 (.bin .eql (.t 52) (.c (.int .u8 105))),o 53 (.mv (.t 55))])))
 (.cond (.t 53) (.seq (.reg [o 57 (.mv (.t 0)),o 58 (.call 201 [.t 57,.c (.int .u8 59)]),o 59 (.call 200 [.t 58]),o 56 (.mv (.t 59)),o 60 (.extract (.t 56) 0),o 61 (.extract (.t 56) 1),o 6 (.mv (.t 60)),o 7 (.mv (.t 61))])
 (.seq (.reg [o 62 (.mv (.t 0)),o 63 (.mv (.t 0)),o 64 (.nilck (.t 63)),o 65 (.faddr 2 (.t 64)),o 66 (.load none (.t 65)),o 67 (.mv (.t 66)),og 68 (.mv (.t 7)) 67 false,og 69 (.un .not (.t 68)) 67 false,o 70 (.pick (.t 67) (.c (.bool true)) (.t 69)),o 71 (.nilck (.t 62)),o 72 (.faddr 2 (.t 71)),st (.store 1 (.t 72) (.t 70))])
 (.seq (.seq (.reg [o 73 (.mv (.t 5)),o 74 (.bin .eql (.t 73) (.c (.int .u8 98)))])
 (.cond (.t 74) (.seq (.reg [o 75 (.mv (.t 6)),o 76 (.build [.int .i64 0,.int .i64 0,.str [],.int .i64 0,.nsl] [(0,1,(.c (.int .i64 1))),(1,1,(.t 75))]),st (.store 5 (.t 4) (.t 76))])
 .ret) .skip))
 (.seq (.reg [o 77 (.mv (.t 6)),o 78 (.call 202 [.t 77]),st (.store 5 (.t 4) (.t 78))])
 .ret)))) (.seq (.reg [o 80 (.bin .eql (.t 52) (.c (.int .u8 115))),o 79 (.mv (.t 80))])
 (.cond (.t 79) (.seq (.reg [o 81 (.mv (.t 0)),o 82 (.call 203 [.t 81]),o 8 (.mv (.t 82))])
 (.seq (.seq (.reg [o 83 (.mv (.t 0)),o 84 (.nilck (.t 83)),o 85 (.faddr 2 (.t 84)),o 86 (.load none (.t 85)),o 87 (.mv (.t 86)),og 88 (.mv (.t 8)) 87 false,og 89 (.mv (.t 0)) 87 false,og 90 (.nilck (.t 89)) 87 false,og 91 (.faddr 0 (.t 90)) 87 false,og 92 (.load none (.t 91)) 87 false,og 93 (.lenS (.t 92)) 87 false,og 94 (.mv (.t 0)) 87 false,og 95 (.nilck (.t 94)) 87 false,og 96 (.faddr 1 (.t 95)) 87 false,og 97 (.load none (.t 96)) 87 false,og 98 (.bin .sub (.t 93) (.t 97)) 87 false,og 99 (.bin .gtr (.t 88) (.t 98)) 87 false,o 100 (.pick (.t 87) (.c (.bool true)) (.t 99))])
 (.cond (.t 100) (.seq (.reg [o 101 (.mv (.t 0)),o 102 (.nilck (.t 101)),o 103 (.faddr 2 (.t 102)),st (.store 1 (.t 103) (.c (.bool true)))])
 (.seq (.reg [o 104 (.build [.int .i64 0,.int .i64 0,.str [],.int .i64 0,.nsl] []),st (.store 5 (.t 4) (.t 104))])
 .ret)) .skip))
 (.seq (.seq (.reg [o 105 (.mv (.t 0))])
 (.seq (.reg [o 106 (.nilck (.t 105))])
 (.seq (.reg [o 107 (.faddr 0 (.t 106))])
 (.seq (.reg [o 109 (.mv (.t 0))])
 (.seq (.reg [o 110 (.nilck (.t 109))])
 (.seq (.reg [o 111 (.faddr 1 (.t 110))])
 (.seq (.reg [o 113 (.mv (.t 0))])
 (.seq (.reg [o 114 (.nilck (.t 113))])
 (.seq (.reg [o 115 (.faddr 1 (.t 114))])
 (.seq (.reg [o 117 (.mv (.t 8))])
 (.seq (.alt (.seq (.reg [o 108 (.load none (.t 107))])
 (.alt (.seq (.reg [o 112 (.load none (.t 111))])
 (.alt (.seq (.reg [o 116 (.load none (.t 115))])
 (.alt (.seq (.reg [o 118 (.bin .add (.t 116) (.t 117))])
 (.alt (.seq (.reg [o 119 (.sliceS (.t 108) (some (.t 112)) (some (.t 118)))])
 (.alt (.seq (.reg [o 120 (.call 204 [.t 119])])
 (.seq (.reg [o 9 (.new 5 [.int .i64 0,.int .i64 0,.str [],.int .i64 0,.nsl])])
 .skip))
 (.seq (.reg [o 9 (.new 5 [.int .i64 0,.int .i64 0,.str [],.int .i64 0,.nsl])])
 (.seq (.reg [o 120 (.call 204 [.t 119])])
 .skip))))
 (.seq (.reg [o 9 (.new 5 [.int .i64 0,.int .i64 0,.str [],.int .i64 0,.nsl])])
 (.seq (.reg [o 119 (.sliceS (.t 108) (some (.t 112)) (some (.t 118)))])
 (.seq (.reg [o 120 (.call 204 [.t 119])])
 .skip)))))
 (.seq (.reg [o 9 (.new 5 [.int .i64 0,.int .i64 0,.str [],.int .i64 0,.nsl])])
 (.seq (.reg [o 118 (.bin .add (.t 116) (.t 117))])
 (.seq (.reg [o 119 (.sliceS (.t 108) (some (.t 112)) (some (.t 118)))])
 (.seq (.reg [o 120 (.call 204 [.t 119])])
 .skip))))))
 (.seq (.reg [o 9 (.new 5 [.int .i64 0,.int .i64 0,.str [],.int .i64 0,.nsl])])
 (.seq (.reg [o 116 (.load none (.t 115))])
 (.seq (.reg [o 118 (.bin .add (.t 116) (.t 117))])
 (.seq (.reg [o 119 (.sliceS (.t 108) (some (.t 112)) (some (.t 118)))])
 (.seq (.reg [o 120 (.call 204 [.t 119])])
 .skip)))))))
 (.alt (.seq (.reg [o 116 (.load none (.t 115))])
 (.alt (.seq (.reg [o 112 (.load none (.t 111))])
 (.alt (.seq (.reg [o 118 (.bin .add (.t 116) (.t 117))])
 (.alt (.seq (.reg [o 119 (.sliceS (.t 108) (some (.t 112)) (some (.t 118)))])
 (.alt (.seq (.reg [o 120 (.call 204 [.t 119])])
 (.seq (.reg [o 9 (.new 5 [.int .i64 0,.int .i64 0,.str [],.int .i64 0,.nsl])])
 .skip))
 (.seq (.reg [o 9 (.new 5 [.int .i64 0,.int .i64 0,.str [],.int .i64 0,.nsl])])
 (.seq (.reg [o 120 (.call 204 [.t 119])])
 .skip))))
 (.seq (.reg [o 9 (.new 5 [.int .i64 0,.int .i64 0,.str [],.int .i64 0,.nsl])])
 (.seq (.reg [o 119 (.sliceS (.t 108) (some (.t 112)) (some (.t 118)))])
 (.seq (.reg [o 120 (.call 204 [.t 119])])
 .skip)))))
 (.seq (.reg [o 9 (.new 5 [.int .i64 0,.int .i64 0,.str [],.int .i64 0,.nsl])])
 (.seq (.reg [o 118 (.bin .add (.t 116) (.t 117))])
 (.seq (.reg [o 119 (.sliceS (.t 108) (some (.t 112)) (some (.t 118)))])
 (.seq (.reg [o 120 (.call 204 [.t 119])])
 .skip))))))
 (.alt (.seq (.reg [o 118 (.bin .add (.t 116) (.t 117))])
 (.alt (.seq (.reg [o 112 (.load none (.t 111))])
 (.alt (.seq (.reg [o 119 (.sliceS (.t 108) (some (.t 112)) (some (.t 118)))])
 (.alt (.seq (.reg [o 120 (.call 204 [.t 119])])
 (.seq (.reg [o 9 (.new 5 [.int .i64 0,.int .i64 0,.str [],.int .i64 0,.nsl])])
 .skip))
 (.seq (.reg [o 9 (.new 5 [.int .i64 0,.int .i64 0,.str [],.int .i64 0,.nsl])])
 (.seq (.reg [o 120 (.call 204 [.t 119])])
 .skip))))
 (.seq (.reg [o 9 (.new 5 [.int .i64 0,.int .i64 0,.str [],.int .i64 0,.nsl])])
 (.seq (.reg [o 119 (.sliceS (.t 108) (some (.t 112)) (some (.t 118)))])
 (.seq (.reg [o 120 (.call 204 [.t 119])])
 .skip)))))
 (.seq (.reg [o 9 (.new 5 [.int .i64 0,.int .i64 0,.str [],.int .i64 0,.nsl])])
 (.seq (.reg [o 112 (.load none (.t 111))])
 (.seq (.reg [o 119 (.sliceS (.t 108) (some (.t 112)) (some (.t 118)))])
 (.seq (.reg [o 120 (.call 204 [.t 119])])
 .skip))))))
 (.seq (.reg [o 9 (.new 5 [.int .i64 0,.int .i64 0,.str [],.int .i64 0,.nsl])])
 (.alt (.seq (.reg [o 112 (.load none (.t 111))])
 (.seq (.reg [o 118 (.bin .add (.t 116) (.t 117))])
 (.seq (.reg [o 119 (.sliceS (.t 108) (some (.t 112)) (some (.t 118)))])
 (.seq (.reg [o 120 (.call 204 [.t 119])])
 .skip))))
 (.seq (.reg [o 118 (.bin .add (.t 116) (.t 117))])
 (.seq (.reg [o 112 (.load none (.t 111))])
 (.seq (.reg [o 119 (.sliceS (.t 108) (some (.t 112)) (some (.t 118)))])
 (.seq (.reg [o 120 (.call 204 [.t 119])])
 .skip)))))))))
 (.seq (.reg [o 9 (.new 5 [.int .i64 0,.int .i64 0,.str [],.int .i64 0,.nsl])])
 (.alt (.seq (.reg [o 112 (.load none (.t 111))])
 (.seq (.reg [o 116 (.load none (.t 115))])
 (.seq (.reg [o 118 (.bin .add (.t 116) (.t 117))])
 (.seq (.reg [o 119 (.sliceS (.t 108) (some (.t 112)) (some (.t 118)))])
 (.seq (.reg [o 120 (.call 204 [.t 119])])
 .skip)))))
 (.seq (.reg [o 116 (.load none (.t 115))])
 (.alt (.seq (.reg [o 112 (.load none (.t 111))])
 (.seq (.reg [o 118 (.bin .add (.t 116) (.t 117))])
 (.seq (.reg [o 119 (.sliceS (.t 108) (some (.t 112)) (some (.t 118)))])
 (.seq (.reg [o 120 (.call 204 [.t 119])])
 .skip))))
 (.seq (.reg [o 118 (.bin .add (.t 116) (.t 117))])
 (.seq (.reg [o 112 (.load none (.t 111))])
 (.seq (.reg [o 119 (.sliceS (.t 108) (some (.t 112)) (some (.t 118)))])
 (.seq (.reg [o 120 (.call 204 [.t 119])])
 .skip)))))))))))
 (.alt (.seq (.reg [o 112 (.load none (.t 111))])
 (.alt (.seq (.reg [o 108 (.load none (.t 107))])
 (.alt (.seq (.reg [o 116 (.load none (.t 115))])
 (.alt (.seq (.reg [o 118 (.bin .add (.t 116) (.t 117))])
 (.alt (.seq (.reg [o 119 (.sliceS (.t 108) (some (.t 112)) (some (.t 118)))])
 (.alt (.seq (.reg [o 120 (.call 204 [.t 119])])
 (.seq (.reg [o 9 (.new 5 [.int .i64 0,.int .i64 0,.str [],.int .i64 0,.nsl])])
 .skip))
 (.seq (.reg [o 9 (.new 5 [.int .i64 0,.int .i64 0,.str [],.int .i64 0,.nsl])])
 (.seq (.reg [o 120 (.call 204 [.t 119])])
 .skip))))
 (.seq (.reg [o 9 (.new 5 [.int .i64 0,.int .i64 0,.str [],.int .i64 0,.nsl])])
 (.seq (.reg [o 119 (.sliceS (.t 108) (some (.t 112)) (some (.t 118)))])
 (.seq (.reg [o 120 (.call 204 [.t 119])])
 .skip)))))
 (.seq (.reg [o 9 (.new 5 [.int .i64 0,.int .i64 0,.str [],.int .i64 0,.nsl])])
 (.seq (.reg [o 118 (.bin .add (.t 116) (.t 117))])
 (.seq (.reg [o 119 (.sliceS (.t 108) (some (.t 112)) (some (.t 118)))])
 (.seq (.reg [o 120 (.call 204 [.t 119])])
 .skip))))))
 (.seq (.reg [o 9 (.new 5 [.int .i64 0,.int .i64 0,.str [],.int .i64 0,.nsl])])
 (.seq (.reg [o 116 (.load none (.t 115))])
 (.seq (.reg [o 118 (.bin .add (.t 116) (.t 117))])
 (.seq (.reg [o 119 (.sliceS (.t 108) (some (.t 112)) (some (.t 118)))])
 (.seq (.reg [o 120 (.call 204 [.t 119])])
 .skip)))))))
 (.alt (.seq (.reg [o 116 (.load none (.t 115))])
 (.alt (.seq (.reg [o 108 (.load none (.t 107))])
 (.alt (.seq (.reg [o 118 (.bin .add (.t 116) (.t 117))])
 (.alt (.seq (.reg [o 119 (.sliceS (.t 108) (some (.t 112)) (some (.t 118)))])
 (.alt (.seq (.reg [o 120 (.call 204 [.t 119])])
 (.seq (.reg [o 9 (.new 5 [.int .i64 0,.int .i64 0,.str [],.int .i64 0,.nsl])])
 .skip))
 (.seq (.reg [o 9 (.new 5 [.int .i64 0,.int .i64 0,.str [],.int .i64 0,.nsl])])
 (.seq (.reg [o 120 (.call 204 [.t 119])])
 .skip))))
 (.seq (.reg [o 9 (.new 5 [.int .i64 0,.int .i64 0,.str [],.int .i64 0,.nsl])])
 (.seq (.reg [o 119 (.sliceS (.t 108) (some (.t 112)) (some (.t 118)))])
 (.seq (.reg [o 120 (.call 204 [.t 119])])
 .skip)))))
 (.seq (.reg [o 9 (.new 5 [.int .i64 0,.int .i64 0,.str [],.int .i64 0,.nsl])])
 (.seq (.reg [o 118 (.bin .add (.t 116) (.t 117))])
 (.seq (.reg [o 119 (.sliceS (.t 108) (some (.t 112)) (some (.t 118)))])
 (.seq (.reg [o 120 (.call 204 [.t 119])])
 .skip))))))
 (.alt (.seq (.reg [o 118 (.bin .add (.t 116) (.t 117))])
 (.alt (.seq (.reg [o 108 (.load none (.t 107))])
 (.alt (.seq (.reg [o 119 (.sliceS (.t 108) (some (.t 112)) (some (.t 118)))])
 (.alt (.seq (.reg [o 120 (.call 204 [.t 119])])
 (.seq (.reg [o 9 (.new 5 [.int .i64 0,.int .i64 0,.str [],.int .i64 0,.nsl])])
 .skip))
 (.seq (.reg [o 9 (.new 5 [.int .i64 0,.int .i64 0,.str [],.int .i64 0,.nsl])])
 (.seq (.reg [o 120 (.call 204 [.t 119])])
 .skip))))
 (.seq (.reg [o 9 (.new 5 [.int .i64 0,.int .i64 0,.str [],.int .i64 0,.nsl])])
 (.seq (.reg [o 119 (.sliceS (.t 108) (some (.t 112)) (some (.t 118)))])
 (.seq (.reg [o 120 (.call 204 [.t 119])])
 .skip)))))
 (.seq (.reg [o 9 (.new 5 [.int .i64 0,.int .i64 0,.str [],.int .i64 0,.nsl])])
 (.seq (.reg [o 108 (.load none (.t 107))])
 (.seq (.reg [o 119 (.sliceS (.t 108) (some (.t 112)) (some (.t 118)))])
 (.seq (.reg [o 120 (.call 204 [.t 119])])
 .skip))))))
 (.seq (.reg [o 9 (.new 5 [.int .i64 0,.int .i64 0,.str [],.int .i64 0,.nsl])])
 (.alt (.seq (.reg [o 108 (.load none (.t 107))])
 (.seq (.reg [o 118 (.bin .add (.t 116) (.t 117))])
 (.seq (.reg [o 119 (.sliceS (.t 108) (some (.t 112)) (some (.t 118)))])
 (.seq (.reg [o 120 (.call 204 [.t 119])])
 .skip))))
 (.seq (.reg [o 118 (.bin .add (.t 116) (.t 117))])
 (.seq (.reg [o 108 (.load none (.t 107))])
 (.seq (.reg [o 119 (.sliceS (.t 108) (some (.t 112)) (some (.t 118)))])
 (.seq (.reg [o 120 (.call 204 [.t 119])])
 .skip)))))))))
 (.seq (.reg [o 9 (.new 5 [.int .i64 0,.int .i64 0,.str [],.int .i64 0,.nsl])])
 (.alt (.seq (.reg [o 108 (.load none (.t 107))])
 (.seq (.reg [o 116 (.load none (.t 115))])
 (.seq (.reg [o 118 (.bin .add (.t 116) (.t 117))])
 (.seq (.reg [o 119 (.sliceS (.t 108) (some (.t 112)) (some (.t 118)))])
 (.seq (.reg [o 120 (.call 204 [.t 119])])
 .skip)))))
 (.seq (.reg [o 116 (.load none (.t 115))])
 (.alt (.seq (.reg [o 108 (.load none (.t 107))])
 (.seq (.reg [o 118 (.bin .add (.t 116) (.t 117))])
 (.seq (.reg [o 119 (.sliceS (.t 108) (some (.t 112)) (some (.t 118)))])
 (.seq (.reg [o 120 (.call 204 [.t 119])])
 .skip))))
 (.seq (.reg [o 118 (.bin .add (.t 116) (.t 117))])
 (.seq (.reg [o 108 (.load none (.t 107))])
 (.seq (.reg [o 119 (.sliceS (.t 108) (some (.t 112)) (some (.t 118)))])
 (.seq (.reg [o 120 (.call 204 [.t 119])])
 .skip)))))))))))
 (.alt (.seq (.reg [o 116 (.load none (.t 115))])
 (.alt (.seq (.reg [o 108 (.load none (.t 107))])
 (.alt (.seq (.reg [o 112 (.load none (.t 111))])
 (.alt (.seq (.reg [o 118 (.bin .add (.t 116) (.t 117))])
 (.alt (.seq (.reg [o 119 (.sliceS (.t 108) (some (.t 112)) (some (.t 118)))])
 (.alt (.seq (.reg [o 120 (.call 204 [.t 119])])
 (.seq (.reg [o 9 (.new 5 [.int .i64 0,.int .i64 0,.str [],.int .i64 0,.nsl])])
 .skip))
 (.seq (.reg [o 9 (.new 5 [.int .i64 0,.int .i64 0,.str [],.int .i64 0,.nsl])])
 (.seq (.reg [o 120 (.call 204 [.t 119])])
 .skip))))
 (.seq (.reg [o 9 (.new 5 [.int .i64 0,.int .i64 0,.str [],.int .i64 0,.nsl])])
 (.seq (.reg [o 119 (.sliceS (.t 108) (some (.t 112)) (some (.t 118)))])
 (.seq (.reg [o 120 (.call 204 [.t 119])])
 .skip)))))
 (.seq (.reg [o 9 (.new 5 [.int .i64 0,.int .i64 0,.str [],.int .i64 0,.nsl])])
 (.seq (.reg [o 118 (.bin .add (.t 116) (.t 117))])
 (.seq (.reg [o 119 (.sliceS (.t 108) (some (.t 112)) (some (.t 118)))])
 (.seq (.reg [o 120 (.call 204 [.t 119])])
 .skip))))))
 (.alt (.seq (.reg [o 118 (.bin .add (.t 116) (.t 117))])
 (.alt (.seq (.reg [o 112 (.load none (.t 111))])
 (.alt (.seq (.reg [o 119 (.sliceS (.t 108) (some (.t 112)) (some (.t 118)))])
 (.alt (.seq (.reg [o 120 (.call 204 [.t 119])])
 (.seq (.reg [o 9 (.new 5 [.int .i64 0,.int .i64 0,.str [],.int .i64 0,.nsl])])
 .skip))
 (.seq (.reg [o 9 (.new 5 [.int .i64 0,.int .i64 0,.str [],.int .i64 0,.nsl])])
 (.seq (.reg [o 120 (.call 204 [.t 119])])
 .skip))))
 (.seq (.reg [o 9 (.new 5 [.int .i64 0,.int .i64 0,.str [],.int .i64 0,.nsl])])
 (.seq (.reg [o 119 (.sliceS (.t 108) (some (.t 112)) (some (.t 118)))])
 (.seq (.reg [o 120 (.call 204 [.t 119])])
 .skip)))))
 (.seq (.reg [o 9 (.new 5 [.int .i64 0,.int .i64 0,.str [],.int .i64 0,.nsl])])
 (.seq (.reg [o 112 (.load none (.t 111))])
 (.seq (.reg [o 119 (.sliceS (.t 108) (some (.t 112)) (some (.t 118)))])
 (.seq (.reg [o 120 (.call 204 [.t 119])])
 .skip))))))
 (.seq (.reg [o 9 (.new 5 [.int .i64 0,.int .i64 0,.str [],.int .i64 0,.nsl])])
 (.alt (.seq (.reg [o 112 (.load none (.t 111))])
 (.seq (.reg [o 118 (.bin .add (.t 116) (.t 117))])
 (.seq (.reg [o 119 (.sliceS (.t 108) (some (.t 112)) (some (.t 118)))])
 (.seq (.reg [o 120 (.call 204 [.t 119])])
 .skip))))
 (.seq (.reg [o 118 (.bin .add (.t 116) (.t 117))])
 (.seq (.reg [o 112 (.load none (.t 111))])
 (.seq (.reg [o 119 (.sliceS (.t 108) (some (.t 112)) (some (.t 118)))])
 (.seq (.reg [o 120 (.call 204 [.t 119])])
 .skip)))))))))
 (.alt (.seq (.reg [o 112 (.load none (.t 111))])
 (.alt (.seq (.reg [o 108 (.load none (.t 107))])
 (.alt (.seq (.reg [o 118 (.bin .add (.t 116) (.t 117))])
 (.alt (.seq (.reg [o 119 (.sliceS (.t 108) (some (.t 112)) (some (.t 118)))])
 (.alt (.seq (.reg [o 120 (.call 204 [.t 119])])
 (.seq (.reg [o 9 (.new 5 [.int .i64 0,.int .i64 0,.str [],.int .i64 0,.nsl])])
 .skip))
 (.seq (.reg [o 9 (.new 5 [.int .i64 0,.int .i64 0,.str [],.int .i64 0,.nsl])])
 (.seq (.reg [o 120 (.call 204 [.t 119])])
 .skip))))
 (.seq (.reg [o 9 (.new 5 [.int .i64 0,.int .i64 0,.str [],.int .i64 0,.nsl])])
 (.seq (.reg [o 119 (.sliceS (.t 108) (some (.t 112)) (some (.t 118)))])
 (.seq (.reg [o 120 (.call 204 [.t 119])])
 .skip)))))
 (.seq (.reg [o 9 (.new 5 [.int .i64 0,.int .i64 0,.str [],.int .i64 0,.nsl])])
 (.seq (.reg [o 118 (.bin .add (.t 116) (.t 117))])
 (.seq (.reg [o 119 (.sliceS (.t 108) (some (.t 112)) (some (.t 118)))])
 (.seq (.reg [o 120 (.call 204 [.t 119])])
 .skip))))))
 (.alt (.seq (.reg [o 118 (.bin .add (.t 116) (.t 117))])
 (.alt (.seq (.reg [o 108 (.load none (.t 107))])
 (.alt (.seq (.reg [o 119 (.sliceS (.t 108) (some (.t 112)) (some (.t 118)))])
 (.alt (.seq (.reg [o 120 (.call 204 [.t 119])])
 (.seq (.reg [o 9 (.new 5 [.int .i64 0,.int .i64 0,.str [],.int .i64 0,.nsl])])
 .skip))
 (.seq (.reg [o 9 (.new 5 [.int .i64 0,.int .i64 0,.str [],.int .i64 0,.nsl])])
 (.seq (.reg [o 120 (.call 204 [.t 119])])
 .skip))))
 (.seq (.reg [o 9 (.new 5 [.int .i64 0,.int .i64 0,.str [],.int .i64 0,.nsl])])
 (.seq (.reg [o 119 (.sliceS (.t 108) (some (.t 112)) (some (.t 118)))])
 (.seq (.reg [o 120 (.call 204 [.t 119])])
 .skip)))))
 (.seq (.reg [o 9 (.new 5 [.int .i64 0,.int .i64 0,.str [],.int .i64 0,.nsl])])
 (.seq (.reg [o 108 (.load none (.t 107))])
 (.seq (.reg [o 119 (.sliceS (.t 108) (some (.t 112)) (some (.t 118)))])
 (.seq (.reg [o 120 (.call 204 [.t 119])])
 .skip))))))
 (.seq (.reg [o 9 (.new 5 [.int .i64 0,.int .i64 0,.str [],.int .i64 0,.nsl])])
 (.alt (.seq (.reg [o 108 (.load none (.t 107))])
 (.seq (.reg [o 118 (.bin .add (.t 116) (.t 117))])
 (.seq (.reg [o 119 (.sliceS (.t 108) (some (.t 112)) (some (.t 118)))])
 (.seq (.reg [o 120 (.call 204 [.t 119])])
 .skip))))
 (.seq (.reg [o 118 (.bin .add (.t 116) (.t 117))])
 (.seq (.reg [o 108 (.load none (.t 107))])
 (.seq (.reg [o 119 (.sliceS (.t 108) (some (.t 112)) (some (.t 118)))])
 (.seq (.reg [o 120 (.call 204 [.t 119])])
 .skip)))))))))
 (.alt (.seq (.reg [o 118 (.bin .add (.t 116) (.t 117))])
 (.alt (.seq (.reg [o 108 (.load none (.t 107))])
 (.alt (.seq (.reg [o 112 (.load none (.t 111))])
 (.alt (.seq (.reg [o 119 (.sliceS (.t 108) (some (.t 112)) (some (.t 118)))])
 (.alt (.seq (.reg [o 120 (.call 204 [.t 119])])
 (.seq (.reg [o 9 (.new 5 [.int .i64 0,.int .i64 0,.str [],.int .i64 0,.nsl])])
 .skip))
 (.seq (.reg [o 9 (.new 5 [.int .i64 0,.int .i64 0,.str [],.int .i64 0,.nsl])])
 (.seq (.reg [o 120 (.call 204 [.t 119])])
 .skip))))
 (.seq (.reg [o 9 (.new 5 [.int .i64 0,.int .i64 0,.str [],.int .i64 0,.nsl])])
 (.seq (.reg [o 119 (.sliceS (.t 108) (some (.t 112)) (some (.t 118)))])
 (.seq (.reg [o 120 (.call 204 [.t 119])])
 .skip)))))
 (.seq (.reg [o 9 (.new 5 [.int .i64 0,.int .i64 0,.str [],.int .i64 0,.nsl])])
 (.seq (.reg [o 112 (.load none (.t 111))])
 (.seq (.reg [o 119 (.sliceS (.t 108) (some (.t 112)) (some (.t 118)))])
 (.seq (.reg [o 120 (.call 204 [.t 119])])
 .skip))))))
 (.alt (.seq (.reg [o 112 (.load none (.t 111))])
 (.alt (.seq (.reg [o 108 (.load none (.t 107))])
 (.alt (.seq (.reg [o 119 (.sliceS (.t 108) (some (.t 112)) (some (.t 118)))])
 (.alt (.seq (.reg [o 120 (.call 204 [.t 119])])
 (.seq (.reg [o 9 (.new 5 [.int .i64 0,.int .i64 0,.str [],.int .i64 0,.nsl])])
 .skip))
 (.seq (.reg [o 9 (.new 5 [.int .i64 0,.int .i64 0,.str [],.int .i64 0,.nsl])])
 (.seq (.reg [o 120 (.call 204 [.t 119])])
 .skip))))
 (.seq (.reg [o 9 (.new 5 [.int .i64 0,.int .i64 0,.str [],.int .i64 0,.nsl])])
 (.seq (.reg [o 119 (.sliceS (.t 108) (some (.t 112)) (some (.t 118)))])
 (.seq (.reg [o 120 (.call 204 [.t 119])])
 .skip)))))
 (.seq (.reg [o 9 (.new 5 [.int .i64 0,.int .i64 0,.str [],.int .i64 0,.nsl])])
 (.seq (.reg [o 108 (.load none (.t 107))])
 (.seq (.reg [o 119 (.sliceS (.t 108) (some (.t 112)) (some (.t 118)))])
 (.seq (.reg [o 120 (.call 204 [.t 119])])
 .skip))))))
 (.seq (.reg [o 9 (.new 5 [.int .i64 0,.int .i64 0,.str [],.int .i64 0,.nsl])])
 (.alt (.seq (.reg [o 108 (.load none (.t 107))])
 (.seq (.reg [o 112 (.load none (.t 111))])
 (.seq (.reg [o 119 (.sliceS (.t 108) (some (.t 112)) (some (.t 118)))])
 (.seq (.reg [o 120 (.call 204 [.t 119])])
 .skip))))
 (.seq (.reg [o 112 (.load none (.t 111))])
 (.seq (.reg [o 108 (.load none (.t 107))])
 (.seq (.reg [o 119 (.sliceS (.t 108) (some (.t 112)) (some (.t 118)))])
 (.seq (.reg [o 120 (.call 204 [.t 119])])
 .skip)))))))))
 (.seq (.reg [o 9 (.new 5 [.int .i64 0,.int .i64 0,.str [],.int .i64 0,.nsl])])
 (.alt (.seq (.reg [o 108 (.load none (.t 107))])
 (.alt (.seq (.reg [o 112 (.load none (.t 111))])
 (.seq (.reg [o 118 (.bin .add (.t 116) (.t 117))])
 (.seq (.reg [o 119 (.sliceS (.t 108) (some (.t 112)) (some (.t 118)))])
 (.seq (.reg [o 120 (.call 204 [.t 119])])
 .skip))))
 (.seq (.reg [o 118 (.bin .add (.t 116) (.t 117))])
 (.seq (.reg [o 112 (.load none (.t 111))])
 (.seq (.reg [o 119 (.sliceS (.t 108) (some (.t 112)) (some (.t 118)))])
 (.seq (.reg [o 120 (.call 204 [.t 119])])
 .skip))))))
 (.alt (.seq (.reg [o 112 (.load none (.t 111))])
 (.alt (.seq (.reg [o 108 (.load none (.t 107))])
 (.seq (.reg [o 118 (.bin .add (.t 116) (.t 117))])
 (.seq (.reg [o 119 (.sliceS (.t 108) (some (.t 112)) (some (.t 118)))])
 (.seq (.reg [o 120 (.call 204 [.t 119])])
 .skip))))
 (.seq (.reg [o 118 (.bin .add (.t 116) (.t 117))])
 (.seq (.reg [o 108 (.load none (.t 107))])
 (.seq (.reg [o 119 (.sliceS (.t 108) (some (.t 112)) (some (.t 118)))])
 (.seq (.reg [o 120 (.call 204 [.t 119])])
 .skip))))))
 (.seq (.reg [o 118 (.bin .add (.t 116) (.t 117))])
 (.alt (.seq (.reg [o 108 (.load none (.t 107))])
 (.seq (.reg [o 112 (.load none (.t 111))])
 (.seq (.reg [o 119 (.sliceS (.t 108) (some (.t 112)) (some (.t 118)))])
 (.seq (.reg [o 120 (.call 204 [.t 119])])
 .skip))))
 (.seq (.reg [o 112 (.load none (.t 111))])
 (.seq (.reg [o 108 (.load none (.t 107))])
 (.seq (.reg [o 119 (.sliceS (.t 108) (some (.t 112)) (some (.t 118)))])
 (.seq (.reg [o 120 (.call 204 [.t 119])])
 .skip)))))))))))))
 (.seq (.reg [o 9 (.new 5 [.int .i64 0,.int .i64 0,.str [],.int .i64 0,.nsl])])
 (.alt (.seq (.reg [o 108 (.load none (.t 107))])
 (.alt (.seq (.reg [o 112 (.load none (.t 111))])
 (.seq (.reg [o 116 (.load none (.t 115))])
 (.seq (.reg [o 118 (.bin .add (.t 116) (.t 117))])
 (.seq (.reg [o 119 (.sliceS (.t 108) (some (.t 112)) (some (.t 118)))])
 (.seq (.reg [o 120 (.call 204 [.t 119])])
 .skip)))))
 (.seq (.reg [o 116 (.load none (.t 115))])
 (.alt (.seq (.reg [o 112 (.load none (.t 111))])
 (.seq (.reg [o 118 (.bin .add (.t 116) (.t 117))])
 (.seq (.reg [o 119 (.sliceS (.t 108) (some (.t 112)) (some (.t 118)))])
 (.seq (.reg [o 120 (.call 204 [.t 119])])
 .skip))))
 (.seq (.reg [o 118 (.bin .add (.t 116) (.t 117))])
 (.seq (.reg [o 112 (.load none (.t 111))])
 (.seq (.reg [o 119 (.sliceS (.t 108) (some (.t 112)) (some (.t 118)))])
 (.seq (.reg [o 120 (.call 204 [.t 119])])
 .skip))))))))
 (.alt (.seq (.reg [o 112 (.load none (.t 111))])
 (.alt (.seq (.reg [o 108 (.load none (.t 107))])
 (.seq (.reg [o 116 (.load none (.t 115))])
 (.seq (.reg [o 118 (.bin .add (.t 116) (.t 117))])
 (.seq (.reg [o 119 (.sliceS (.t 108) (some (.t 112)) (some (.t 118)))])
 (.seq (.reg [o 120 (.call 204 [.t 119])])
 .skip)))))
 (.seq (.reg [o 116 (.load none (.t 115))])
 (.alt (.seq (.reg [o 108 (.load none (.t 107))])
 (.seq (.reg [o 118 (.bin .add (.t 116) (.t 117))])
 (.seq (.reg [o 119 (.sliceS (.t 108) (some (.t 112)) (some (.t 118)))])
 (.seq (.reg [o 120 (.call 204 [.t 119])])
 .skip))))
 (.seq (.reg [o 118 (.bin .add (.t 116) (.t 117))])
 (.seq (.reg [o 108 (.load none (.t 107))])
 (.seq (.reg [o 119 (.sliceS (.t 108) (some (.t 112)) (some (.t 118)))])
 (.seq (.reg [o 120 (.call 204 [.t 119])])
 .skip))))))))
 (.seq (.reg [o 116 (.load none (.t 115))])
 (.alt (.seq (.reg [o 108 (.load none (.t 107))])
 (.alt (.seq (.reg [o 112 (.load none (.t 111))])
 (.seq (.reg [o 118 (.bin .add (.t 116) (.t 117))])
 (.seq (.reg [o 119 (.sliceS (.t 108) (some (.t 112)) (some (.t 118)))])
 (.seq (.reg [o 120 (.call 204 [.t 119])])
 .skip))))
 (.seq (.reg [o 118 (.bin .add (.t 116) (.t 117))])
 (.seq (.reg [o 112 (.load none (.t 111))])
 (.seq (.reg [o 119 (.sliceS (.t 108) (some (.t 112)) (some (.t 118)))])
 (.seq (.reg [o 120 (.call 204 [.t 119])])
 .skip))))))
 (.alt (.seq (.reg [o 112 (.load none (.t 111))])
 (.alt (.seq (.reg [o 108 (.load none (.t 107))])
 (.seq (.reg [o 118 (.bin .add (.t 116) (.t 117))])
 (.seq (.reg [o 119 (.sliceS (.t 108) (some (.t 112)) (some (.t 118)))])
 (.seq (.reg [o 120 (.call 204 [.t 119])])
 .skip))))
 (.seq (.reg [o 118 (.bin .add (.t 116) (.t 117))])
 (.seq (.reg [o 108 (.load none (.t 107))])
 (.seq (.reg [o 119 (.sliceS (.t 108) (some (.t 112)) (some (.t 118)))])
 (.seq (.reg [o 120 (.call 204 [.t 119])])
 .skip))))))
 (.seq (.reg [o 118 (.bin .add (.t 116) (.t 117))])
 (.alt (.seq (.reg [o 108 (.load none (.t 107))])
 (.seq (.reg [o 112 (.load none (.t 111))])
 (.seq (.reg [o 119 (.sliceS (.t 108) (some (.t 112)) (some (.t 118)))])
 (.seq (.reg [o 120 (.call 204 [.t 119])])
 .skip))))
 (.seq (.reg [o 112 (.load none (.t 111))])
 (.seq (.reg [o 108 (.load none (.t 107))])
 (.seq (.reg [o 119 (.sliceS (.t 108) (some (.t 112)) (some (.t 118)))])
 (.seq (.reg [o 120 (.call 204 [.t 119])])
 .skip)))))))))))))))
 (.seq (.reg [st (.store 5 (.t 9) (.t 120))])
 .skip))))))))))))
 (.seq (.reg [o 121 (.mv (.t 0)),o 122 (.mv (.t 0)),o 123 (.nilck (.t 122)),o 124 (.faddr 1 (.t 123)),o 125 (.load none (.t 124)),o 126 (.mv (.t 8)),o 127 (.bin .add (.t 125) (.t 126)),o 128 (.nilck (.t 121)),o 129 (.faddr 1 (.t 128)),st (.store 1 (.t 129) (.t 127))])
 (.seq (.reg [o 130 (.mv (.t 0)),o 131 (.call 199 [.t 130,.c (.str [59])])])
 (.seq (.reg [o 132 (.load (some 5) (.t 9)),st (.store 5 (.t 4) (.t 132))])
 .ret)))))) (.seq (.reg [o 134 (.bin .eql (.t 52) (.c (.int .u8 97))),o 133 (.mv (.t 134))])
 (.cond (.t 133) (.seq (.reg [o 135 (.mv (.t 0)),o 136 (.mv (.t 1)),o 137 (.call 205 [.t 135,.t 136]),st (.store 5 (.t 4) (.t 137))])
 .ret) .skip))))))))
 (.seq (.reg [o 138 (.mv (.t 0)),o 139 (.nilck (.t 138)),o 140 (.faddr 2 (.t 139)),st (.store 1 (.t 140) (.c (.bool true)))])
 (.seq (.reg [o 141 (.build [.int .i64 0,.int .i64 0,.str [],.int .i64 0,.nsl] []),st (.store 5 (.t 4) (.t 141))])
 .ret)))))))),
 [.cell 4 (some 5)]⟩
def F166 : Fun := (⟨_,by cbv⟩ : Cbv 166).1
def F182 : Fun := (⟨_,by cbv⟩ : Cbv 182).1
def F183 : Fun := (⟨_,by cbv⟩ : Cbv 183).1
def F184 : Fun := (⟨_,by cbv⟩ : Cbv 184).1
def F185 : Fun := (⟨_,by cbv⟩ : Cbv 185).1
def F186 : Fun := (⟨_,by cbv⟩ : Cbv 186).1
def F187 : Fun := (⟨_,by cbv⟩ : Cbv 187).1
def F188 : Fun := (⟨_,by cbv⟩ : Cbv 188).1
def F189 : Fun := (⟨_,by cbv⟩ : Cbv 189).1
def F190 : Fun := (⟨_,by cbv⟩ : Cbv 190).1
def F192 : Fun := (⟨_,by cbv⟩ : Cbv 192).1
def F193 : Fun := (⟨_,by cbv⟩ : Cbv 193).1
def F199 : Fun := ⟨29,
 .seq (.seq (.reg [o 4 (.mv (.t 0)),o 5 (.nilck (.t 4)),o 6 (.faddr 0 (.t 5)),o 7 (.load none (.t 6)),o 8 (.mv (.t 0)),o 9 (.nilck (.t 8)),o 10 (.faddr 1 (.t 9)),o 11 (.load none (.t 10)),o 12 (.sliceS (.t 7) (some (.t 11)) none),o 13 (.mv (.t 1)),o 14 (.callF 155 [.t 12,.t 13]),o 15 (.un .not (.t 14))])
 (.cond (.t 15) (.seq (.reg [o 16 (.mv (.t 0)),o 17 (.nilck (.t 16)),o 18 (.faddr 2 (.t 17)),st (.store 1 (.t 18) (.c (.bool true)))])
 .ret) .skip))
 (.reg [o 19 (.mv (.t 0)),o 20 (.mv (.t 0)),o 21 (.nilck (.t 20)),o 22 (.faddr 1 (.t 21)),o 23 (.load none (.t 22)),o 24 (.mv (.t 1)),o 25 (.lenS (.t 24)),o 26 (.bin .add (.t 23) (.t 25)),o 27 (.nilck (.t 19)),o 28 (.faddr 1 (.t 27)),st (.store 1 (.t 28) (.t 26))]),
 []⟩
def F200 : Fun := (⟨_,by cbv⟩ : Cbv 200).1
def F201 : Fun := (⟨_,by cbv⟩ : Cbv 201).1
def F202 : Fun := (⟨_,by cbv⟩ : Cbv 202).1
def F203 : Fun := (⟨_,by cbv⟩ : Cbv 203).1
def F204 : Fun := (⟨_,by cbv⟩ : Cbv 204).1
def F205 : Fun := (⟨_,by cbv⟩ : Cbv 205).1
def F213 : Fun := (⟨_,by cbv⟩ : Cbv 213).1
def F214 : Fun := (⟨_,by cbv⟩ : Cbv 214).1
def F215 : Fun := (⟨_,by cbv⟩ : Cbv 215).1
def F216 : Fun := (⟨_,by cbv⟩ : Cbv 216).1
def F217 : Fun := (⟨_,by cbv⟩ : Cbv 217).1
def F220 : Fun := (⟨_,by cbv⟩ : Cbv 220).1
def F221 : Fun := (⟨_,by cbv⟩ : Cbv 221).1
def F222 : Fun := (⟨_,by cbv⟩ : Cbv 222).1
def F226 : Fun := (⟨_,by cbv⟩ : Cbv 226).1
def F230 : Fun := (⟨_,by cbv⟩ : Cbv 230).1
def F231 : Fun := (⟨_,by cbv⟩ : Cbv 231).1
theorem c10 : compF Tryz.prog 10 = some F10 := by kernel_rfl
theorem c17 : compF Tryz.prog 17 = some F17 := by kernel_rfl
theorem c43 : compF Tryz.prog 43 = some F43 := by kernel_rfl
theorem c44 : compF Tryz.prog 44 = some F44 := by kernel_rfl
theorem c45 : compF Tryz.prog 45 = some F45 := by kernel_rfl
theorem c58 : compF Tryz.prog 58 = some F58 := by kernel_rfl
theorem c65 : compF Tryz.prog 65 = some F65 := by kernel_rfl
theorem c66 : compF Tryz.prog 66 = some F66 := by kernel_rfl
theorem c79 : compF Tryz.prog 79 = some F79 := by kernel_rfl
theorem c80 : compF Tryz.prog 80 = some F80 := by kernel_rfl
theorem c81 : compF Tryz.prog 81 = some F81 := by kernel_rfl
theorem c106 : compF Tryz.prog 106 = some F106 := by kernel_rfl
theorem c107 : compF Tryz.prog 107 = some F107 := by kernel_rfl
theorem c108 : compF Tryz.prog 108 = some F108 := by kernel_rfl
theorem c109 : compF Tryz.prog 109 = some F109 := by kernel_rfl
theorem c113 : compF Tryz.prog 113 = some F113 := by kernel_rfl
theorem c125 : compF Tryz.prog 125 = some F125 := by kernel_rfl
theorem c126 : compF Tryz.prog 126 = some F126 := by kernel_rfl
theorem c127 : compF Tryz.prog 127 = some F127 := by kernel_rfl
theorem c128 : compF Tryz.prog 128 = some F128 := by kernel_rfl
theorem c129 : compF Tryz.prog 129 = some F129 := by kernel_rfl
theorem c149 : compF Tryz.prog 149 = some F149 := by kernel_rfl
theorem c150 : compF Tryz.prog 150 = some F150 := by kernel_rfl
theorem c151 : compF Tryz.prog 151 = some F151 := by kernel_rfl
theorem c152 : compF Tryz.prog 152 = some F152 := by kernel_rfl
theorem c153 : compF Tryz.prog 153 = some F153 := by kernel_rfl
theorem c154 : compF Tryz.prog 154 = some F154 := by kernel_rfl
theorem c156 : compF Tryz.prog 156 = some F156 := by kernel_rfl
theorem c157 : compF Tryz.prog 157 = some F157 := by kernel_rfl
theorem c164 : compF Tryz.prog 164 = some F164 := by kernel_rfl
theorem c165 : compF Tryz.prog 165 = some F165 := by kernel_rfl
theorem c166 : compF Tryz.prog 166 = some F166 := by kernel_rfl
theorem c182 : compF Tryz.prog 182 = some F182 := by kernel_rfl
theorem c183 : compF Tryz.prog 183 = some F183 := by kernel_rfl
theorem c184 : compF Tryz.prog 184 = some F184 := by kernel_rfl
theorem c185 : compF Tryz.prog 185 = some F185 := by kernel_rfl
theorem c186 : compF Tryz.prog 186 = some F186 := by kernel_rfl
theorem c187 : compF Tryz.prog 187 = some F187 := by kernel_rfl
theorem c188 : compF Tryz.prog 188 = some F188 := by kernel_rfl
theorem c189 : compF Tryz.prog 189 = some F189 := by kernel_rfl
theorem c190 : compF Tryz.prog 190 = some F190 := by kernel_rfl
theorem c192 : compF Tryz.prog 192 = some F192 := by kernel_rfl
theorem c193 : compF Tryz.prog 193 = some F193 := by kernel_rfl
theorem c199 : compF Tryz.prog 199 = some F199 := by kernel_rfl
theorem c200 : compF Tryz.prog 200 = some F200 := by kernel_rfl
theorem c201 : compF Tryz.prog 201 = some F201 := by kernel_rfl
theorem c202 : compF Tryz.prog 202 = some F202 := by kernel_rfl
theorem c203 : compF Tryz.prog 203 = some F203 := by kernel_rfl
theorem c204 : compF Tryz.prog 204 = some F204 := by kernel_rfl
theorem c205 : compF Tryz.prog 205 = some F205 := by kernel_rfl
theorem c213 : compF Tryz.prog 213 = some F213 := by kernel_rfl
theorem c214 : compF Tryz.prog 214 = some F214 := by kernel_rfl
theorem c215 : compF Tryz.prog 215 = some F215 := by kernel_rfl
theorem c216 : compF Tryz.prog 216 = some F216 := by kernel_rfl
theorem c217 : compF Tryz.prog 217 = some F217 := by kernel_rfl
theorem c220 : compF Tryz.prog 220 = some F220 := by kernel_rfl
theorem c221 : compF Tryz.prog 221 = some F221 := by kernel_rfl
theorem c222 : compF Tryz.prog 222 = some F222 := by kernel_rfl
theorem c226 : compF Tryz.prog 226 = some F226 := by kernel_rfl
theorem c230 : compF Tryz.prog 230 = some F230 := by kernel_rfl
theorem c231 : compF Tryz.prog 231 = some F231 := by kernel_rfl
end A
end Go.Proofs.YtgalkppgeoknaaaGreatDoor


