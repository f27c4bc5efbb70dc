import GoSem.ClaimChange
import Derived.DataReads
import Derived.DataShut
import Derived.Test.YtgalkppgeoknaaaGreatDoorB03

/-
  Statements whose order is open, some of them with an effect: those with an effect stand in one order, the others only compute. No condition.
-/
set_option linter.unusedVariables false
set_option linter.unusedSimpArgs false
namespace Go.Proofs.YtgalkppgeoknaaaGreatDoor
namespace A
set_option linter.unusedVariables false
section
variable {P : Program} {H : List AObj} {c : Nat} {e e' : Env}
def IOp.all : IOp → List Opd
  | .box _ x | .toBytes x | .isnl _ x => [x]
  | .build _ ps => ps.map (·.2.2)
  | .bslice _ _ _ ps => ps.map (·.2)
  | .store _ a x => [a,x]
  | .mkslice _ _ _ l x => [l,x]
  | .slice3 _ x h m => [x,h,m]
  | .mupd _ m k v => [m,k,v]
  | .append _ _ x y => [x,y]
  | .call _ l => l
  | .callv x l => x :: l
  | .chk _ x y => [x,y]
  | op => op.uses
theorem opW_all (op : IOp) (h : ∀ x,x ∈ op.all → ev e x = ev e' x) (K : AV → List AObj → Nat → Prop) : opW P op e H c K = opW P op e' H c K := by
  cases op
  case build z ps =>
    have : (ps.map fun ((o,n,x) : Nat × Nat × Opd) => (o,n,ev e x)) = ps.map fun (o,n,x) => (o,n,ev e' x) := List.map_congr_left fun p hp => by
      have := h p.2.2 (List.mem_map_of_mem (f := (·.2.2)) hp)
      show (p.1,p.2.1,ev e p.2.2) = (p.1,p.2.1,ev e' p.2.2)
      rw [this]
    show fillW z (ps.map fun ((o,n,x) : Nat × Nat × Opd) => (o,n,ev e x)) _ = fillW z (ps.map fun ((o,n,x) : Nat × Nat × Opd) => (o,n,ev e' x)) _
    rw [this]
  case bslice w z n ps =>
    have : (ps.map fun ((i,x) : Nat × Opd) => (i,ev e x)) = ps.map fun (i,x) => (i,ev e' x) := List.map_congr_left fun p hp => by
      have := h p.2 (List.mem_map_of_mem (f := (·.2)) hp)
      show (p.1,ev e p.2) = (p.1,ev e' p.2)
      rw [this]
    show bsliceW w z n (ps.map fun ((i,x) : Nat × Opd) => (i,ev e x)) H c K = bsliceW w z n (ps.map fun ((i,x) : Nat × Opd) => (i,ev e' x)) H c K
    rw [this]
  case call f l => simp only [opW]; rw [map_ev (l := l) h]
  case callv x l => simp only [opW]; rw [h x (List.mem_cons_self ..),map_ev (l := l) fun y hy => h y (List.mem_cons_of_mem _ hy)]
  case callF f l => simp only [opW]; rw [map_ev (l := l) h]
  case mkfn f l => simp only [opW]; rw [map_ev (l := l) h]
  all_goals simp only [IOp.all,IOp.uses,List.mem_cons,List.not_mem_nil,or_false,List.mem_append,forall_eq_or_imp,forall_eq] at h
  all_goals simp only [opW]
  all_goals first
    | rw [h]
    | (obtain ⟨h1,h2⟩ := h; rw [h1,h2]; done)
    | (obtain ⟨h1,h2,h3⟩ := h; rw [h1,h2,h3]; done)
    | (obtain ⟨h1,h2⟩ := h; rw [h1,opt_ev fun x hx => h2 x (.inl hx),opt_ev fun x hx => h2 x (.inr hx)])
theorem build_tmp {P : Program} {t : Nat} {ty : TypeId} : ∀ (l : List (Nat × Operand)) (ps : List (Nat × Nat × Opd)),l.mapM (fun (p : Nat × Operand) => do let (o,n) ← placeOf P ty p.1; some (o,n,← opd p.2)) = some ps →
    Opd.t t ∈ ps.map (·.2.2) → Operand.tmp t ∈ l.map (·.2) := by
  intro l
  induction l with
  | nil => intro ps h ht; simp at h; subst h; simp at ht
  | cons p l ih =>
    intro ps h ht
    simp only [List.mapM_cons,Option.bind_eq_bind,Option.bind_eq_some_iff,Option.pure_def,Option.some.injEq] at h
    obtain ⟨q,⟨⟨o,n⟩,hp,y,hy,rfl⟩,qs,hqs,rfl⟩ := h
    simp only [List.map_cons,List.mem_cons] at ht ⊢
    rcases ht with ht | ht
    · subst ht; exact .inl (opd_tmp hy).symm
    · exact .inr (ih qs hqs ht)
theorem bslice_tmp {t : Nat} : ∀ (l : List (Nat × Operand)) (ps : List (Nat × Opd)),l.mapM (fun (p : Nat × Operand) => do some (p.1,← opd p.2)) = some ps → Opd.t t ∈ ps.map (·.2) → Operand.tmp t ∈ l.map (·.2) := by
  intro l
  induction l with
  | nil => intro ps h ht; simp at h; subst h; simp at ht
  | cons p l ih =>
    intro ps h ht
    simp only [List.mapM_cons,Option.bind_eq_bind,Option.bind_eq_some_iff,Option.pure_def,Option.some.injEq] at h
    obtain ⟨q,⟨y,hy,rfl⟩,qs,hqs,rfl⟩ := h
    simp only [List.map_cons,List.mem_cons] at ht ⊢
    rcases ht with ht | ht
    · subst ht; exact .inl (opd_tmp hy).symm
    · exact .inr (ih qs hqs ht)
theorem compOp_all {op : Op} {ty : TypeId} {io : IOp} (hc : compOp P op ty = some io) {t : Nat} (ht : Opd.t t ∈ io.all) : Operand.tmp t ∈ op.operands.toList := by
  cases hp : pureOp io with
  | some io' =>
    have : Opd.t t ∈ io'.uses := by
      cases io <;> simp only [pureOp] at hp <;> first
        | (cases hp; done)
        | (cases hp; exact ht)
    exact compOp_uses hc hp this
  | none =>
    cases op <;> simp only [compOp,Option.bind_eq_bind,Option.bind_eq_some_iff,Option.some.injEq] at hc
    case box t' x => obtain ⟨_,_,u,hu,rfl⟩ := hc; simp [IOp.all] at ht; subst ht; simp [Op.operands,opd_tmp hu]
    case alloc => obtain ⟨_,_,rfl⟩ := hc; simp [IOp.all,IOp.uses] at ht
    case build ty' ps =>
      obtain ⟨z,hz,hc⟩ := hc
      split at hc
      · simp only [Option.bind_eq_some_iff,Option.some.injEq] at hc
        obtain ⟨qs,hqs,rfl⟩ := hc
        have := build_tmp ps.toList qs hqs ht
        simpa [Op.operands] using this
      · cases hc
    case buildSlice ty' n ps =>
      obtain ⟨⟨el,i⟩,hs,z,hz,hc⟩ := hc
      split at hc
      · simp only [Option.bind_eq_some_iff,Option.some.injEq] at hc
        obtain ⟨qs,hqs,rfl⟩ := hc
        have := bslice_tmp ps.toList qs hqs ht
        simpa [Op.operands] using this
      · cases hc
    case store ty' a x =>
      obtain ⟨_,_,u,hu,v,hv,rfl⟩ := hc
      simp [IOp.all] at ht
      rcases ht with rfl | rfl
      · simp [Op.operands,opd_tmp hu]
      · simp [Op.operands,opd_tmp hv]
    case makeMap t' r => cases r <;> cases hc; simp [IOp.all,IOp.uses] at ht
    case makeSlice ty' l x =>
      obtain ⟨⟨el,i⟩,hs,z,hz,u,hu,v,hv,rfl⟩ := hc
      simp [IOp.all] at ht
      rcases ht with rfl | rfl
      · simp [Op.operands,opd_tmp hu]
      · simp [Op.operands,opd_tmp hv]
    case mapUpdate ty' m k x =>
      split at hc
      · simp only [Option.bind_eq_some_iff,Option.some.injEq] at hc
        obtain ⟨d,hd,u,hu,v,hv,z,hz,rfl⟩ := hc
        simp [IOp.all] at ht
        rcases ht with rfl | rfl | rfl
        · simp [Op.operands,opd_tmp hu]
        · simp [Op.operands,opd_tmp hv]
        · simp [Op.operands,opd_tmp hz]
      · cases hc
    case binOp op' t' x y yt =>
      obtain ⟨u,hu,v,hv,hc⟩ := hc
      have : Opd.t t = u := by
        unfold compBin at hc
        split at hc
        · cases hc; cases hp
        · split at hc
          · cases hc; cases hp
          · split at hc
            · split at hc <;> cases hc <;> cases hp
            · split at hc
              · split at hc <;> cases hc <;> simpa [IOp.all] using ht
              · split at hc
                · split at hc <;> cases hc <;> cases hp
                · cases hc
      subst this
      simp [Op.operands,opd_tmp hu]
    case convert s d x =>
      obtain ⟨u,hu,hc⟩ := hc
      have : Opd.t t = u := by
        unfold compConv at hc
        split at hc
        · cases hc; cases hp
        · split at hc <;> cases hc; cases hp
        · split at hc <;> cases hc; simpa [IOp.all] using ht
        · cases hc
      subst this
      simp [Op.operands,opd_tmp hu]
    case call cl =>
      obtain ⟨callee,args,argTypes⟩ := cl
      unfold compCall at hc
      dsimp only at hc
      split at hc
      · split at hc
        · rename_i x t' hx ht'
          simp only [Option.bind_eq_bind,Option.bind_eq_some_iff] at hc
          obtain ⟨u,hu,hc⟩ := hc
          unfold compLen at hc
          split at hc
          · cases hc; cases hp
          · split at hc
            · cases hc; cases hp
            · split at hc <;> cases hc; cases hp
        · cases hc
      · split at hc
        · rename_i x y t' u' hx ht'
          simp only [Option.bind_eq_bind,Option.bind_eq_some_iff] at hc
          obtain ⟨⟨el,i⟩,hs,z,hz,hc⟩ := hc
          split at hc
          · simp only [Option.bind_eq_some_iff,Option.some.injEq] at hc
            obtain ⟨u1,hu1,u2,hu2,rfl⟩ := hc
            have e1 : args = #[x,y] := by rw [← Array.toList_inj,hx]
            subst e1
            simp [IOp.all] at ht
            rcases ht with rfl | rfl
            · simp [Op.operands,Call.operands,opd_tmp hu1]
            · simp [Op.operands,Call.operands,opd_tmp hu2]
          · cases hc
        · cases hc
      · rename_i f
        simp only [Option.bind_eq_bind,Option.bind_eq_some_iff] at hc
        obtain ⟨as0,has,hc⟩ := hc
        split at hc <;> cases hc
        cases hp
      · rename_i t'
        simp only [Option.bind_eq_bind,Option.bind_eq_some_iff,Option.some.injEq] at hc
        obtain ⟨as0,has,rfl⟩ := hc
        simp only [IOp.all,List.mem_cons,Opd.t.injEq] at ht
        rcases ht with rfl | ht
        · simp [Op.operands,Call.operands]
        · have := opds_tmp args.toList as0 has ht
          simp [Op.operands,Call.operands] at this ⊢; exact .inr this
      · cases hc
    case move => obtain ⟨u,hu,rfl⟩ := hc; cases hp
    case assign => obtain ⟨u,hu,rfl⟩ := hc; cases hp
    case pick => obtain ⟨u,hu,v,hv,z,hz,rfl⟩ := hc; cases hp
    case load => obtain ⟨_,_,u,hu,rfl⟩ := hc; cases hp
    case nilCheck => obtain ⟨u,hu,rfl⟩ := hc; cases hp
    case unOp => obtain ⟨u,hu,rfl⟩ := hc; cases hp
    case extract => obtain ⟨u,hu,rfl⟩ := hc; cases hp
    case fieldAddr => obtain ⟨_,_,u,hu,rfl⟩ := hc; cases hp
    case field => obtain ⟨_,_,_,_,u,hu,rfl⟩ := hc; cases hp
    case indexAddr => obtain ⟨_,_,u,hu,v,hv,rfl⟩ := hc; cases hp
    case makeFunc fn first caps =>
      cases fn <;> simp only at hc <;> first
        | (cases hc; done)
        | skip
      split at hc
      · simp only [Option.bind_eq_some_iff,Option.some.injEq] at hc
        obtain ⟨us,hus,rfl⟩ := hc
        cases hp
      · cases hc
    case slice t' x lo hi m =>
      cases m with
      | some m =>
        cases lo with
        | some lo => cases hi <;> cases hc
        | none =>
          cases hi with
          | none => cases hc
          | some hi =>
            simp only [Option.bind_eq_bind,Option.bind_eq_some_iff,Option.some.injEq] at hc
            obtain ⟨_,_,u,hu,l,hl,h,hh,rfl⟩ := hc
            simp [IOp.all] at ht
            rcases ht with rfl | rfl | rfl
            · simp [Op.operands,opd_tmp hu]
            · simp [Op.operands,opd_tmp hl]
            · simp [Op.operands,opd_tmp hh]
      | none =>
        simp only at hc
        split at hc
        · simp only [Option.bind_eq_some_iff,Option.some.injEq] at hc
          obtain ⟨u,hu,l,hl,h,hh,rfl⟩ := hc
          cases hp
        · simp only [Option.bind_eq_some_iff,Option.some.injEq] at hc
          obtain ⟨_,_,u,hu,l,hl,h,hh,rfl⟩ := hc
          cases hp
    case index t' x i =>
      split at hc
      · simp only [Option.bind_eq_some_iff,Option.some.injEq] at hc
        obtain ⟨u,hu,v,hv,rfl⟩ := hc
        cases hp
      · cases hc
    case lookup t' m k ok =>
      split at hc
      · simp only [Option.bind_eq_some_iff,Option.some.injEq] at hc
        obtain ⟨_,_,_,_,u,hu,v,hv,rfl⟩ := hc
        cases hp
      · cases hc
    all_goals cases hc
theorem getW_app {α : Type} {l M : List α} {i : Nat} {K : α → Prop} (h : getW l i K) : getW (l ++ M) i K := by
  obtain ⟨x,hx,k⟩ := h
  exact ⟨x,by rw [List.getElem?_append_left (List.getElem?_eq_some_iff.1 hx).1]; exact hx,k⟩
theorem load_app {ag : Option Nat} {x : AV} {M : List AObj} {K : AV → Prop} (h : loadW ag x H K) : loadW ag x (H ++ M) K := by
  cases x <;> simp only [loadW] at h ⊢ <;> first
    | exact h
    | exact getW_app h
theorem lenM_app {x : AV} {M : List AObj} {K : AV → Prop} (h : lenMapW x H K) : lenMapW x (H ++ M) K := by
  cases x <;> simp only [lenMapW] at h ⊢ <;> first
    | exact h
    | exact getW_app h
theorem lookup_app {d : TypeDesc} {z : AV} {ok : Bool} {m k : AV} {M : List AObj} {K : AV → Prop} (h : lookupW d z ok m k H K) : lookupW d z ok m k (H ++ M) K := by
  cases m <;> simp only [lookupW] at h ⊢ <;> first
    | exact h
    | exact ⟨h.1,getW_app h.2⟩
theorem src_app {w : Nat} {y : AV} {M : List AObj} {K : List (List AV) → Prop} (h : srcW w y H K) : srcW w y (H ++ M) K := by
  cases y <;> simp only [srcW] at h ⊢ <;> first
    | exact h
    | exact ⟨h.1,getW_app h.2⟩
theorem toStr_app {x : AV} {M : List AObj} {K : AV → Prop} (h : toStrW x H K) : toStrW x (H ++ M) K := by
  cases x <;> simp only [toStrW] at h ⊢ <;> first
    | exact h
    | exact src_app h
theorem gives_rel {op op' : IOp} (hp : pureOp op = some op') (hc : isCall op' = false) {v : AV} (g : Gives P op' e H v) {H' : List AObj} (hn : needsH op' = true → ∃ M,H' = H ++ M) : Gives P op' e H' v := by
  intro c'
  have g := g c'
  cases op <;> simp only [pureOp] at hp <;> first
    | (cases hp; done)
    | skip
  all_goals cases hp
  all_goals first
    | (cases hc; done)
    | skip
  case load =>
    obtain ⟨M,rfl⟩ := hn rfl
    simp only [opW] at g ⊢
    exact load_app g
  case lookup =>
    obtain ⟨M,rfl⟩ := hn rfl
    simp only [opW] at g ⊢
    exact lookup_app g
  case lenM =>
    obtain ⟨M,rfl⟩ := hn rfl
    simp only [opW] at g ⊢
    exact lenM_app g
  case toStr =>
    obtain ⟨M,rfl⟩ := hn rfl
    simp only [opW] at g ⊢
    exact toStr_app g
  all_goals first
    | (simp only [opW] at g ⊢; exact g)
    | (simp only [opW] at g ⊢; exact ⟨g.1,rfl,g.2.2⟩)
theorem iff_of {op : IOp} {W : (AV → Prop) → Prop} (d : Det W) (hw : ∀ c (K : AV → List AObj → Nat → Prop),opW P op e H c K = W fun v => K v H c) {K : AV → List AObj → Nat → Prop} (hk : opW P op e H c K) :
    opW P op e H c fun v H' c' => K v H' c' ∧ ∃ M,H' = H ++ M := by
  rw [hw] at hk ⊢
  obtain ⟨v,h⟩ := d _ hk
  exact (h _).2 ⟨(h _).1 hk,[],by simp⟩
theorem cells_mono {x : AV} {K K' : List AV → Prop} (h : cellsW x K) (k : ∀ l,K l → K' l) : cellsW x K' := by
  cases x <;> simp only [cellsW] at h ⊢ <;> first
    | exact k _ h
    | exact h
theorem getW_mono {α : Type} {l : List α} {i : Nat} {K K' : α → Prop} (h : getW l i K) (k : ∀ x,K x → K' x) : getW l i K' := let ⟨x,hx,h⟩ := h; ⟨x,hx,k x h⟩
theorem fill_mono : ∀ (ps : List (Nat × Nat × AV)) (z : List AV) {K K' : List AV → Prop},fillW z ps K → (∀ l,K l → K' l) → fillW z ps K' := by
  intro ps
  induction ps with
  | nil => intro z K K' h k; exact k _ h
  | cons p ps ih =>
    intro z K K' h k
    obtain ⟨o,n,v⟩ := p
    exact cells_mono h fun l ⟨h1,h2,h3⟩ => ⟨h1,h2,ih _ h3 k⟩
theorem rowsFill_mono : ∀ (ps : List (Nat × AV)) (z : List (List AV)) {K K' : List (List AV) → Prop},rowsFillW z ps K → (∀ l,K l → K' l) → rowsFillW z ps K' := by
  intro ps
  induction ps with
  | nil => intro z K K' h k; exact k _ h
  | cons p ps ih =>
    intro z K K' h k
    obtain ⟨i,v⟩ := p
    exact cells_mono h fun l h => getW_mono h fun row ⟨h1,h2⟩ => ⟨h1,ih _ h2 k⟩
theorem opW_grow {op : IOp} (hg : growOp op = true) {K : AV → List AObj → Nat → Prop} (hk : opW P op e H c K) : opW P op e H c fun v H' c' => K v H' c' ∧ ∃ M,H' = H ++ M := by
  cases op <;> simp only [growOp,pureOp,Option.isSome_none,Option.isSome_some,Bool.false_eq_true] at hg
  case new w z => exact ⟨hk,_,rfl⟩
  case box w x => exact cells_mono hk fun l h => ⟨h,_,rfl⟩
  case build z ps => exact fill_mono _ _ hk fun l h => ⟨h,[],by simp⟩
  case bslice w z n ps => exact rowsFill_mono _ _ hk fun l h => ⟨h,_,rfl⟩
  case mkslice w z b l x =>
    simp only [opW] at hk ⊢
    generalize ev e l = u at hk ⊢
    generalize ev e x = y at hk ⊢
    cases u <;> cases y <;> simp only [mksliceW] at hk ⊢
    obtain ⟨h1,h2,h3,h4,h5⟩ := hk
    exact ⟨h1,h2,h3,h4,h5,_,rfl⟩
  case mkmap => exact ⟨hk,_,rfl⟩
  case toBytes x =>
    simp only [opW] at hk ⊢
    generalize ev e x = y at hk ⊢
    cases y <;> simp only [toBytesW] at hk ⊢
    exact ⟨hk,_,rfl⟩
  case isnl neg x =>
    simp only [opW] at hk ⊢
    generalize ev e x = y at hk ⊢
    cases y <;> simp only [isnlW] at hk ⊢
    case slc t w rows =>
      cases rows with
      | nil => exact ⟨⟨hk.1,[],by simp⟩,hk.2,[],by simp⟩
      | cons r rows => exact ⟨hk,[],by simp⟩
    all_goals exact ⟨hk,[],by simp⟩
  case mv => exact iff_of (det_id _) (fun _ _ => rfl) hk
  case pick => exact iff_of (det_pick _ _ _) (fun _ _ => rfl) hk
  case load => exact iff_of (det_load _ _) (fun _ _ => rfl) hk
  case loadC => exact iff_of (det_loadC _ _) (fun _ _ => rfl) hk
  case nilck => exact iff_of (det_nilck _) (fun _ _ => rfl) hk
  case isni => exact iff_of (det_isni _ _) (fun _ _ => rfl) hk
  case bin => exact iff_of (det_bin _ _ _) (fun _ _ => rfl) hk
  case binb => exact iff_of (det_binb _ _ _) (fun _ _ => rfl) hk
  case beq => exact iff_of (det_beq _ _ _ _) (fun _ _ => rfl) hk
  case un => exact iff_of (det_un _ _) (fun _ _ => rfl) hk
  case toInt => exact iff_of (det_toInt _ _) (fun _ _ => rfl) hk
  case toStr => exact iff_of (det_toStr _) (fun _ _ => rfl) hk
  case mkfn => exact iff_of (det_id _) (fun _ _ => rfl) hk
  case sliceS => exact iff_of (det_sliceS _ _ _) (fun _ _ => rfl) hk
  case slice => exact iff_of (det_slice _ _ _ _) (fun _ _ => rfl) hk
  case faddr => exact iff_of (det_faddr _ _) (fun _ _ => rfl) hk
  case field => exact iff_of (det_field _ _ _) (fun _ _ => rfl) hk
  case iaddr => exact iff_of (det_iaddr _ _ _) (fun _ _ => rfl) hk
  case index => exact iff_of (det_index _ _) (fun _ _ => rfl) hk
  case lookup => exact iff_of (det_lookup _ _ _ _ _) (fun _ _ => rfl) hk
  case lenS => exact iff_of (det_lenS _) (fun _ _ => rfl) hk
  case lenL => exact iff_of (det_lenL _) (fun _ _ => rfl) hk
  case lenM => exact iff_of (det_lenM _) (fun _ _ => rfl) hk
  case extract => exact iff_of (det_extract _ _) (fun _ _ => rfl) hk
theorem isNop_eq {o : IOper} (h : isNop o = true) : o = nopO := by
  unfold isNop at h
  split at h
  · rfl
  · cases h
theorem opsW_nop (l : List IOper) (e : Env) (H : List AObj) (c : Nat) (K : Env → List AObj → Nat → Prop) : opsW P (nopO :: l) e H c K = opsW P l e H c K := rfl
theorem opsW_filter : ∀ (l : List IOper),opsW P (l.filter fun o => !isNop o) = opsW P l := by
  intro l
  induction l with
  | nil => rfl
  | cons o l ih =>
    cases hn : isNop o with
    | true =>
      have : ((o :: l).filter fun o => !isNop o) = l.filter fun o => !isNop o := by simp [hn]
      rw [this,ih,isNop_eq hn]
      funext e H c K
      exact (opsW_nop l e H c K).symm
    | false =>
      have : ((o :: l).filter fun o => !isNop o) = o :: l.filter fun o => !isNop o := by simp [hn]
      rw [this]
      funext e H c K
      simp only [opsW,ih]
theorem opsW_append : ∀ (l l' : List IOper) (e : Env) (H : List AObj) (c : Nat) (K : Env → List AObj → Nat → Prop),opsW P (l ++ l') e H c K = opsW P l e H c fun e H c => opsW P l' e H c K := by
  intro l
  induction l with
  | nil => intro l' e H c K; rfl
  | cons o l ih =>
    intro l' e H c K
    simp only [List.cons_append,opsW,ih]
theorem clos_length (ops : Array Oper) : ∀ n,(clos ops n).length = n := by
  intro n
  induction n with
  | zero => rfl
  | succ n ih => simp [clos,ih]
theorem clos_spec {ops : Array Oper} {L : Nat → Prop} (hL : ∀ (j : Nat) (o : Oper),ops[j]? = some o → L j → ∀ k,k ∈ afterAny o → L k) : ∀ n i j,j ∈ (clos ops n).getD i [] → L i → L j := by
  intro n
  induction n with
  | zero => intro i j h; simp [clos] at h
  | succ n ih =>
    intro i j h hi
    unfold clos at h
    rw [List.getD_eq_getElem?_getD,List.getElem?_append] at h
    split at h
    · exact ih i j (by rw [List.getD_eq_getElem?_getD]; exact h) hi
    · rename_i hl
      rw [clos_length] at hl h
      by_cases hin : i = n
      · subst hin
        simp only [Nat.sub_self,List.getElem?_cons_zero,Option.getD_some] at h
        cases ho : ops[i]? with
        | none => rw [ho] at h; simp at h
        | some o =>
          rw [ho] at h
          simp only [List.mem_eraseDups,List.mem_flatMap,List.mem_cons] at h
          obtain ⟨q,hq,h⟩ := h
          have lq := hL i o ho hi q hq
          rcases h with rfl | h
          · exact lq
          · exact ih q j h lq
      · have : i - n ≠ 0 := by omega
        rw [List.getElem?_eq_none (by simp; omega)] at h
        simp at h
theorem mixOk_spec {ops : Array Oper} {m : List IOper} {cl : List (List Nat)} {bl : List Bool} (h : mixOk ops m cl bl = true) {i k : Nat} {o : Oper} {io : IOper} (ho : ops[i]? = some o) (hio : m[i]? = some io) (hk : k < ops.size) :
    (bl.getD i false = false → (pureOp io.op).isSome = true ∧ ∀ j,j ∈ afterAny o → bl.getD j false = false) ∧
    (i ≠ k → bl.getD k false = true → (bl.getD i false = true → i < k → i ∈ cl.getD k []) ∧
      (bl.getD i false = false → (isCall (aOp (ckq ops m cl bl) m cl bl i io.op) = true → i ∈ cl.getD k []) ∧ (needsH (aOp (ckq ops m cl bl) m cl bl i io.op) = true → i ∈ cl.getD k [] ∨ growAt m k = true ∨ ckq ops m cl bl i = true))) := by
  have hi := (Array.getElem?_eq_some_iff.1 ho).1
  unfold mixOk at h
  have h1 := List.all_eq_true.1 h i (List.mem_range.2 hi)
  rw [ho,hio] at h1
  simp only [Bool.and_eq_true] at h1
  obtain ⟨h1,h2⟩ := h1
  have h2 := List.all_eq_true.1 h2 k (List.mem_range.2 hk)
  refine ⟨fun hb => ?_,fun hne hbk => ⟨fun hb hlt => ?_,fun hb => ⟨fun hc => ?_,fun hn => ?_⟩⟩⟩
  · rw [hb] at h1
    simp only [Bool.false_or,Bool.and_eq_true,List.all_eq_true,Bool.not_eq_true'] at h1
    exact h1
  all_goals
    have hik : (i == k) = false := by simpa using hne
    rw [hik,hbk,hb] at h2
    simp only [Bool.not_true,Bool.or_false,Bool.false_or,if_true,Bool.false_eq_true,if_false,Bool.or_eq_true,Bool.and_eq_true,Bool.not_eq_true',decide_eq_true_eq,List.contains_eq_mem] at h2
  · exact h2.resolve_left (by omega)
  · exact h2.1.resolve_left (by rw [hc]; simp)
  · rcases h2.2 with ((h3 | h3) | h3) | h3
    · rw [hn] at h3; cases h3
    · exact .inl h3
    · exact .inr (.inl h3)
    · exact .inr (.inr h3)
theorem aOp_cases {q : Nat → Bool} {m : List IOper} {cl : List (List Nat)} {bl : List Bool} {i : Nat} {op : IOp} (h : (pureOp op).isSome = true) :
    (pureOp op = some (aOp q m cl bl i op)) ∨ ∃ ag x,op = .load ag x ∧ aOp q m cl bl i op = .loadC ag x := by
  cases op <;> simp only [pureOp,Option.isSome_none,Option.isSome_some,Bool.false_eq_true] at h
  case load ag x =>
    by_cases hq : (safeAt m cl bl i || q i) = true
    · exact .inl (by show some (IOp.load ag x) = some (if _ then _ else _); rw [if_pos hq])
    · exact .inr ⟨ag,x,rfl,by show (if _ then _ else _) = _; rw [if_neg hq]⟩
  all_goals exact .inl rfl
theorem loadC_load {ag : Option Nat} {x : AV} {K : AV → Prop} (h : loadCW ag x K) : loadW ag x H K := by
  cases x <;> simp only [loadCW,loadW] at h ⊢ <;> first
    | exact h
    | exact h.elim
theorem aOp_opW {op p : IOp} (h : (pureOp op = some p) ∨ ∃ ag x,op = .load ag x ∧ p = .loadC ag x) {K : AV → List AObj → Nat → Prop} (hk : opW P p e H c K) : opW P op e H c K := by
  rcases h with h | ⟨ag,x,rfl,rfl⟩
  · exact pure_opW h hk
  · exact loadC_load hk
theorem aOp_pure {op p : IOp} (h : (pureOp op = some p) ∨ ∃ ag x,op = .load ag x ∧ p = .loadC ag x) : ∃ q,pureOp q = some p := by
  rcases h with h | ⟨ag,x,rfl,rfl⟩
  · exact ⟨op,h⟩
  · exact ⟨.loadC ag x,rfl⟩
theorem aOp_uses {op p : IOp} (h : (pureOp op = some p) ∨ ∃ ag x,op = .load ag x ∧ p = .loadC ag x) {u : Opd} (hu : u ∈ p.uses) : u ∈ op.all := by
  rcases h with h | ⟨ag,x,rfl,rfl⟩
  · cases op <;> simp only [pureOp] at h <;> first
      | (cases h; done)
      | (cases h; exact hu)
  · exact hu
section
variable {G0 : Gh} {H0 : List AObj} {w0 : World} {n : Nat}
def restB (C : Nat → List IOper) (n k : Nat) : List IOper := (List.range' k (n - k)).flatMap C
theorem restB_cons {C : Nat → List IOper} {n k : Nat} (h : k < n) : restB C n k = C k ++ restB C n (k + 1) := by
  unfold restB
  rw [show n - k = (n - (k + 1)) + 1 by omega,List.range'_succ,List.flatMap_cons]
theorem restB_end {C : Nat → List IOper} {n k : Nat} (h : n ≤ k) : restB C n k = [] := by
  unfold restB
  rw [show n - k = 0 by omega]; rfl
def Stab (l : List IOper) (e : Env) (H : List AObj) : Prop := ∀ (ag : Option Nat) (t d : Nat),(⟨none,.chk ag (.t t) (.t d),none⟩ : IOper) ∈ l → loadW ag (e t) H fun v => v = e d
theorem chk_run : ∀ (l : List IOper),(∀ o,o ∈ l → ∃ ag t d,o = ⟨none,.chk ag (.t t) (.t d),none⟩) → ∀ (e : Env) (H : List AObj) (c : Nat) (K : Env → List AObj → Nat → Prop),opsW P l e H c K → Stab l e H ∧ K e H c := by
  intro l
  induction l with
  | nil => intro _ e H c K h; exact ⟨fun ag t d h => (by cases h),h⟩
  | cons o l ih =>
    intro hf e H c K h
    obtain ⟨ag,t,d,rfl⟩ := hf o (List.mem_cons_self ..)
    have h' : loadW ag (e t) H fun v => v = e d ∧ opsW P l e H c K := h
    obtain ⟨v,hv⟩ := det_load ag (e t) _ h'
    obtain ⟨h1,h2⟩ := (hv _).1 h'
    obtain ⟨q1,q2⟩ := ih (fun o ho => hf o (List.mem_cons_of_mem _ ho)) e H c K h2
    refine ⟨fun ag' t' d' hm => ?_,q2⟩
    rcases List.mem_cons.1 hm with hm | hm
    · cases hm; exact (hv _).2 h1
    · exact q1 ag' t' d' hm
theorem ckList_form {ops : Array Oper} {m : List IOper} {cl : List (List Nat)} {bl : List Bool} {k : Nat} : ∀ o,o ∈ ckList ops m cl bl k → ∃ ag t d,o = ⟨none,.chk ag (.t t) (.t d),none⟩ := fun o ho => by
  unfold ckList at ho
  obtain ⟨i,_,hi⟩ := List.mem_filterMap.1 ho
  split at hi
  · cases hi
  · obtain ⟨⟨ag,t,d⟩,_,rfl⟩ := Option.map_eq_some_iff.1 hi
    exact ⟨ag,t,d,rfl⟩
theorem ckd_spec {ops : Array Oper} {m : List IOper} {cl : List (List Nat)} {bl : List Bool} {i : Nat} {o : Oper} {io : IOper} (ho : ops[i]? = some o) (hio : m[i]? = some io) (h : ckq ops m cl bl i = true) :
    ∃ ag t d,ckd ops m cl bl i = some (ag,t,d) ∧ io = ⟨some d,.load ag (.t t),none⟩ ∧ ((∃ j io',j ∈ afterAny o ∧ m[j]? = some io' ∧ io'.dst = some t) ∨ ∀ (j : Nat) (io' : IOper),m[j]? = some io' → io'.dst ≠ some t) := by
  unfold ckq at h
  obtain ⟨⟨ag,t,d⟩,hc⟩ := Option.isSome_iff_exists.1 h
  refine ⟨ag,t,d,hc,?_⟩
  unfold ckd at hc
  rw [ho,hio] at hc
  split at hc
  · cases hc
  · split at hc
    · rename_i o' d' ag' t' e1 e2
      cases e1; cases e2
      split at hc
      · rename_i hany
        cases hc
        refine ⟨rfl,?_⟩
        rw [Bool.or_eq_true] at hany
        rcases hany with hany | hany
        · obtain ⟨j,hj,hm⟩ := List.any_eq_true.1 hany
          split at hm
          · rename_i y e3
            exact .inl ⟨j,_,hj,e3,by simpa using hm⟩
          · cases hm
        · refine .inr fun j io' hj hd => ?_
          have : (m.any fun y => y.dst == some t) = true := List.any_eq_true.2 ⟨io',List.mem_of_getElem? hj,by rw [hd]; simp⟩
          rw [this] at hany
          cases hany
      · cases hc
    · cases hc
theorem ckList_mem {ops : Array Oper} {m : List IOper} {cl : List (List Nat)} {bl : List Bool} {i k : Nat} {ag : Option Nat} {t d : Nat} (hi : i < m.length) (h : ckd ops m cl bl i = some (ag,t,d)) (hk : i ∉ cl.getD k []) : (⟨none,.chk ag (.t t) (.t d),none⟩ : IOper) ∈ ckList ops m cl bl k := by
  unfold ckList
  refine List.mem_filterMap.2 ⟨i,List.mem_range.2 hi,?_⟩
  rw [if_neg (by simpa using hk),h]
  rfl
structure MidE (P : Program) (ops : Array Oper) (mA : List IOper) (C ck : Nat → List IOper) (b : Nat → Bool) (m : List IOper) (e eA : Env) (V : Nat → AV) (H : List AObj) (c : Nat) (Q : Env → List AObj → Nat → Prop) (listed : Array Bool) (e' : Env) (H' : List AObj) (c' k : Nat) (eB : Env) : Prop where
  size : listed.size = ops.size
  closed : ∀ (j : Nat) (o : Oper),ops[j]? = some o → listed.getD j false = true → ∀ k,k ∈ afterAny o → listed.getD k false = true
  pre : ∀ j,j < ops.size → b j = true → (listed.getD j false = true ↔ j < k)
  somB : k ≠ 0 → ∃ i,k = i + 1 ∧ i < ops.size ∧ b i = true
  yes : ∀ (j : Nat) (io : IOper) (t : Nat),mA[j]? = some io → listed.getD j false = true → io.dst = some t → e' t = V j
  agree : ∀ t,(∀ (j : Nat) (io : IOper),mA[j]? = some io → io.dst ≠ some t) → e' t = eB t
  aB : ∀ (j : Nat) (io : IOper) (t : Nat),mA[j]? = some io → io.dst = some t → eB t = V j
  no : ∀ t,(∀ (j : Nat) (o : Oper),ops[j]? = some o → listed.getD j false = true → o.dst ≠ some t) → e' t = e t
  nonB : k = 0 → H' = H ∧ eB = eA ∧ c ≤ c' ∧ (c' = c ∨ Calling mA e V)
  grown : (∀ j,j < ops.size → b j = true → listed.getD j false = true → growAt m j = true) → ∃ M,H' = H ++ M
  obl : opsW P (restB C ops.size k) eB H' c' Q
  st : ∀ i0,k = i0 + 1 → Stab (ck i0) eB H'
theorem any_soundE (hH0 : ∀ t,t ∈ tags H0 → t < G0.c) {ops : Array Oper} {m : List IOper} (hlen : m.length = ops.size)
    (hm : ∀ (i : Nat) (x : Oper),ops[i]? = some x → ∃ io,m[i]? = some io ∧ compOper P n ops x = some io) (hd : drawOk ops = true) {bl : List Bool}
    (hok : mixOk ops m (clos ops m.length) bl = true) {mA : List IOper} {C : Nat → List IOper} (hmA : mA = (List.range m.length).map (mixA ops m (clos ops m.length) bl)) (hC : C = mixC ops m (clos ops m.length) bl) {V : Nat → AV} {Q : Post}
    (hV : ∀ i io,mA[i]? = some io → YV P H io (envN e mA V i) (V i)) (hK : ∀ c',(c' = c ∨ (Calling mA e V ∧ c ≤ c')) → opsW P (restB C ops.size 0) (envN e mA V mA.length) H c' (Q .normal)) :
    ∀ (fuel : Nat) (listed : Array Bool) (e' : Env) (H' : List AObj) (c' k : Nat) (eB : Env) (a : Act) (w : World),MidE P ops mA C (ckList ops m (clos ops m.length) bl) (fun i => bl.getD i false) m e (envN e mA V mA.length) V H c (Q .normal) listed e' H' c' k eB →
      (List.range ops.size).countP (fun j => !listed.getD j false) ≤ fuel → St G0 H0 w0 n e' H' c' a w → wpAny P .any ops (Lift G0 H0 w0 n Q) fuel listed a w := by
  have hAi : ∀ i,i < ops.size → mA[i]? = some (mixA ops m (clos ops m.length) bl i) := fun i hi => by
    rw [hmA,List.getElem?_map,List.getElem?_range (by omega)]; rfl
  have hAlen : mA.length = ops.size := by rw [hmA]; simp [hlen]
  have dstA : ∀ (j : Nat) (y : IOper) (t : Nat),mA[j]? = some y → y.dst = some t → ∃ o,ops[j]? = some o ∧ o.dst = some t ∧ bl.getD j false = false := fun j y t hy ht => by
    have hj : j < ops.size := by have := (List.getElem?_eq_some_iff.1 hy).1; omega
    rw [hAi j hj] at hy; cases hy
    obtain ⟨io,h1,h2⟩ := hm j ops[j] (Array.getElem?_eq_getElem hj)
    unfold mixA at ht
    split at ht
    · cases ht
    · rename_i hb
      rw [h1] at ht
      exact ⟨ops[j],Array.getElem?_eq_getElem hj,(compOper_spec h2).2.2.1 ▸ ht,by simpa using hb⟩
  have dstA' : ∀ (j : Nat) (o : Oper) (t : Nat),ops[j]? = some o → o.dst = some t → bl.getD j false = false → ∃ y,mA[j]? = some y ∧ y.dst = some t := fun j o t ho ht hb => by
    have hj := (Array.getElem?_eq_some_iff.1 ho).1
    obtain ⟨io,h1,h2⟩ := hm j o ho
    refine ⟨_,hAi j hj,?_⟩
    unfold mixA
    rw [hb,h1]
    simp only [Bool.false_eq_true,if_false]
    rw [(compOper_spec h2).2.2.1]; exact ht
  have uniqO : ∀ (i j : Nat) (x y : Oper) (d : Nat),ops[i]? = some x → ops[j]? = some y → x.dst = some d → y.dst = some d → i = j := fun i j x y d h1 h2 h3 h4 => (drawOk_spec hd h1 h2).2.1 d h3 h4
  have uniq : ∀ (i j : Nat) (x y : IOper) (d : Nat),mA[i]? = some x → mA[j]? = some y → x.dst = some d → y.dst = some d → i = j := fun i j x y d h1 h2 h3 h4 => by
    obtain ⟨p,q1,q2,_⟩ := dstA i x d h1 h3
    obtain ⟨r,s1,s2,_⟩ := dstA j y d h2 h4
    exact uniqO i j p r d q1 s1 q2 s2
  have skipB : ∀ (d k : Nat) (eB : Env) (H' : List AObj) (c' : Nat),k + d ≤ ops.size → (∀ j,k ≤ j → j < k + d → bl.getD j false = false) → opsW P (restB C ops.size k) eB H' c' (Q .normal) → opsW P (restB C ops.size (k + d)) eB H' c' (Q .normal) := fun d => by
    induction d with
    | zero => intro k eB H' c' _ _ h; exact h
    | succ d ih =>
      intro k eB H' c' hle hb h
      have e2 : C k = [nopO] := by rw [hC]; unfold mixC; rw [hb k (Nat.le_refl _) (by omega)]; rfl
      rw [restB_cons (by omega),e2,List.singleton_append,opsW_nop] at h
      have := ih (k + 1) eB H' c' (by omega) (fun j h1 h2 => hb j (by omega) (by omega)) h
      rwa [show k + (d + 1) = k + 1 + d by omega]
  have last : ∀ (listed : Array Bool) (e' : Env) (H' : List AObj) (c' k : Nat) (eB : Env) (a : Act) (w : World),MidE P ops mA C (ckList ops m (clos ops m.length) bl) (fun i => bl.getD i false) m e (envN e mA V mA.length) V H c (Q .normal) listed e' H' c' k eB →
      St G0 H0 w0 n e' H' c' a w → Region.ready .any ops listed = [] → Lift G0 H0 w0 n Q .normal a w := fun listed e' H' c' k eB a w M hs hr => by
    have all : ∀ j,j < ops.size → listed.getD j false = true := fun j => by
      induction j using Nat.strongRecOn with
      | _ j ih =>
        intro hj
        cases hl : listed.getD j false with
        | true => rfl
        | false =>
          have hjs : j < listed.size := M.size ▸ hj
          have : j ∈ Region.ready .any ops listed := by
            rw [mem_ready]
            refine ⟨by simpa [hjs] using hl,ops[j],Array.getElem?_eq_getElem hj,fun ed hed hb => ?_⟩
            have hmem : ed.on ∈ afterAny ops[j] := by
              unfold afterAny
              exact List.mem_map.2 ⟨ed,List.mem_filter.2 ⟨by simpa using hed,hb⟩,rfl⟩
            have hlt := (drawOk_spec hd (Array.getElem?_eq_getElem hj) (Array.getElem?_eq_getElem hj)).1 _ hmem
            exact ih _ hlt (by omega)
          rw [hr] at this
          cases this
    have he : e' = eB := funext fun t => by
      by_cases hx : ∃ (j : Nat) (io : IOper),mA[j]? = some io ∧ io.dst = some t
      · obtain ⟨j,io,hj,hio⟩ := hx
        have hl := (List.getElem?_eq_some_iff.1 hj).1
        rw [M.yes j io t hj (all j (by omega)) hio,M.aB j io t hj hio]
      · exact M.agree t fun j io hj hio => hx ⟨j,io,hj,hio⟩
    have hks : k ≤ ops.size := by
      by_cases hk : k = 0
      · omega
      · obtain ⟨i,h1,h2,_⟩ := M.somB hk; omega
    have := skipB (ops.size - k) k eB H' c' (by omega) (fun j h1 h2 => by
      cases hb : bl.getD j false with
      | false => rfl
      | true =>
        have := (M.pre j (by omega) hb).1 (all j (by omega))
        omega) M.obl
    rw [restB_end (by omega)] at this
    subst he
    exact ⟨_,H',c',this,hs⟩
  intro fuel
  induction fuel with
  | zero =>
    intro listed e' H' c' k eB a w M hc hs
    have hr : Region.ready .any ops listed = [] := by
      refine List.eq_nil_iff_forall_not_mem.2 fun j hj => ?_
      rw [mem_ready] at hj
      obtain ⟨h0,o,ho,_⟩ := hj
      have hjs := (Array.getElem?_eq_some_iff.1 ho).1
      have hjs' : j < listed.size := M.size ▸ hjs
      have := List.countP_eq_zero.1 (Nat.le_zero.1 hc) j (List.mem_range.2 hjs)
      simp [hjs'] at h0 this
      rw [h0] at this; cases this
    exact ⟨hr,last listed e' H' c' k eB a w M hs hr⟩
  | succ fuel ih =>
    intro listed e' H' c' k eB a w M hc hs
    refine ⟨last listed e' H' c' k eB a w M hs,fun i hi => ?_⟩
    rw [mem_ready] at hi
    obtain ⟨h0,o,ho,hready⟩ := hi
    have his := (Array.getElem?_eq_some_iff.1 ho).1
    have hils : i < listed.size := M.size ▸ his
    have hnl : listed.getD i false = false := by simpa [hils] using h0
    have hafter : ∀ k,k ∈ afterAny o → listed.getD k false = true := fun k hk => by
      unfold afterAny at hk
      obtain ⟨ed,hed,rfl⟩ := List.mem_map.1 hk
      obtain ⟨hed1,hed2⟩ := List.mem_filter.1 hed
      exact hready ed (by simpa using hed1) hed2
    obtain ⟨io,hio,hco⟩ := hm i o ho
    obtain ⟨c1,c2,c3,c4⟩ := compOper_spec hco
    have guardIn : ∀ g want,io.guard = some (g,want) → g ∈ o.looksAt ops := fun g want hgw => by
      have c2' := c2
      unfold compGuard at c2'
      unfold Oper.looksAt
      cases hog : o.guard with
      | none => rw [hog] at c2'; simp only [Option.some.injEq] at c2'; rw [← c2'] at hgw; cases hgw
      | some p =>
        obtain ⟨j,wt⟩ := p
        rw [hog] at c2'
        simp only at c2'
        split at c2'
        · rename_i d hdj
          simp only [Option.some.injEq] at c2'
          rw [← c2'] at hgw
          cases hgw
          refine List.mem_append_right _ ?_
          simp [hdj]
        · cases c2'
    have count : (List.range ops.size).countP (fun j => !(listed.setIfInBounds i true).getD j false) ≤ fuel := by
      have hlt : (List.range ops.size).countP (fun j => !(listed.setIfInBounds i true).getD j false) < (List.range ops.size).countP (fun j => !listed.getD j false) := by
        have key : ∀ (l : List Nat),i ∈ l → l.countP (fun j => !(listed.setIfInBounds i true).getD j false) < l.countP (fun j => !listed.getD j false) := by
          have mono : ∀ (l : List Nat),l.countP (fun j => !(listed.setIfInBounds i true).getD j false) ≤ l.countP (fun j => !listed.getD j false) := fun l =>
            List.countP_mono_left fun j _ h => by
              cases hl : listed.getD j false with
              | false => rfl
              | true => rw [getD_set_true hl] at h; cases h
          intro l hl
          induction l with
          | nil => cases hl
          | cons x l ihl =>
            simp only [List.countP_cons]
            by_cases hx : x = i
            · subst hx
              have := mono l
              have e1 : (listed.setIfInBounds x true).getD x false = true := by simp [hils]
              rw [e1,hnl]
              simp only [Bool.not_true,Bool.false_eq_true,if_false,Bool.not_false,if_true]
              omega
            · have h1 := ihl ((List.mem_cons.1 hl).resolve_left (Ne.symm hx))
              rw [getD_set_ne false (Ne.symm hx)]
              omega
        exact key _ (List.mem_range.2 his)
      omega
    have other : ∀ j,j ≠ i → (listed.setIfInBounds i true).getD j false = listed.getD j false := fun j hne => getD_set_ne false (Ne.symm hne)
    have closed' : ∀ (j : Nat) (y : Oper),ops[j]? = some y → (listed.setIfInBounds i true).getD j false = true → ∀ k,k ∈ afterAny y → (listed.setIfInBounds i true).getD k false = true := fun j y hj hl k hk => by
      refine getD_set_true ?_
      by_cases hji : j = i
      · subst hji; rw [ho] at hj; cases hj; exact hafter k hk
      · exact M.closed j y hj (by rw [other j hji] at hl; exact hl) k hk
    have iin : (listed.setIfInBounds i true).getD i false = true := by simp [hils]
    obtain ⟨G,rfl,h1,h2,h3,I,x⟩ := hs
    have hw := wanted_of c2 h3
    cases hb : bl.getD i false with
    | false =>
      obtain ⟨hb1,hnb⟩ := (mixOk_spec hok ho hio his).1 hb
      have hcs := aOp_cases (q := ckq ops m (clos ops m.length) bl) (m := m) (cl := clos ops m.length) (bl := bl) (i := i) hb1
      generalize hp : aOp (ckq ops m (clos ops m.length) bl) m (clos ops m.length) bl i io.op = p at hcs
      have hAio : mA[i]? = some { io with op := p } := by
        rw [hAi i his]; unfold mixA; rw [hb,hio,← hp]; simp
      have agree : ∀ t,t ∈ o.looksAt ops → e' t = envN e mA V i t := fun t ht => by
        obtain ⟨g1,g2⟩ := envN_dst mA e V uniq i (by omega) t
        by_cases hx : ∃ (j : Nat) (x : Oper),ops[j]? = some x ∧ x.dst = some t
        · obtain ⟨j,x,hj,hxt⟩ := hx
          have nol : listed.getD j false = false → e' t = e t := fun hlj => M.no t fun k z hz hlk hd => by rw [uniqO k j z x t hz hj hd hxt,hlj] at hlk; cases hlk
          have ne : ¬ j < i → envN e mA V i t = e t := fun hn => g2 fun k y hk hy hd => by
            obtain ⟨z,q1,q2,q3⟩ := dstA k y t hy hd
            have := uniqO k j z x t q1 hj q2 hxt
            omega
          rcases (drawOk_spec hd ho hj).2.2 t hxt ht with ⟨k1,k2⟩ | k1 | ⟨k1,k2⟩
          · obtain ⟨y,hy,hyd⟩ := dstA' j x t hj hxt (hnb j k2)
            rw [g1 j y k1 hy hyd,M.yes j y t hy (hafter j k2) hyd]
          · rw [ne (by omega),nol (k1 ▸ hnl)]
          · rw [ne (by omega),nol ?_]
            cases hlj : listed.getD j false with
            | false => rfl
            | true => rw [M.closed j x hj hlj i k2] at hnl; cases hnl
        · rw [g2 fun k y _ hy hd => by
            obtain ⟨z,q1,q2,_⟩ := dstA k y t hy hd
            exact hx ⟨k,z,q1,q2⟩]
          exact M.no t fun k z hz _ hd => hx ⟨k,z,hz,hd⟩
      have bne : ∀ j,bl.getD j false = true → j ≠ i := fun j hj h => by rw [h,hb] at hj; cases hj
      have mid : ∀ c'',G.c ≤ c'' → (c'' = G.c ∨ (k = 0 ∧ Calling mA e V)) → MidE P ops mA C (ckList ops m (clos ops m.length) bl) (fun i => bl.getD i false) m e (envN e mA V mA.length) V H c (Q .normal) (listed.setIfInBounds i true) (put e' o.dst (V i)) H' c'' k eB := fun c'' hle hsame => by
        refine ⟨by simp [M.size],closed',fun j hj hbj => ?_,M.somB,fun j y t hj hl hy => ?_,fun t hn => ?_,M.aB,fun t hn => ?_,fun hk => ?_,fun hg => M.grown fun j hj hbj hl => hg j hj hbj (getD_set_true hl),?_,M.st⟩
        · rw [other j (bne j hbj)]; exact M.pre j hj hbj
        · by_cases hji : j = i
          · subst hji
            rw [hAio] at hj; cases hj
            rw [← c3,show io.dst = some t from hy]; show upd e' t (V j) t = V j; rw [upd_same]
          · rw [other j hji] at hl
            cases hdd : o.dst with
            | none => exact M.yes j y t hj hl hy
            | some t' =>
              obtain ⟨z,q1,q2,_⟩ := dstA j y t hj hy
              show upd e' t' (V i) t = V j
              rw [upd_ne _ _ _ fun h => hji (uniqO j i z o t q1 ho q2 (by rw [hdd,h]))]
              exact M.yes j y t hj hl hy
        · cases hdd : o.dst with
          | none => exact M.agree t hn
          | some t' =>
            show upd e' t' (V i) t = eB t
            rw [upd_ne _ _ _ fun h => hn i _ hAio (by rw [h,← hdd]; exact c3)]
            exact M.agree t hn
        · have hno : e' t = e t := M.no t fun j y hj hl => hn j y hj (getD_set_true hl)
          cases hdd : o.dst with
          | none => exact hno
          | some t' =>
            show upd e' t' (V i) t = e t
            rw [upd_ne _ _ _ fun h => hn i o ho iin (by rw [h]; exact hdd)]
            exact hno
        · obtain ⟨q1,q2,q3,q4⟩ := M.nonB hk
          refine ⟨q1,q2,Nat.le_trans q3 hle,?_⟩
          rcases hsame with h | ⟨_,h⟩
          · rw [h]; exact q4
          · exact .inr h
        · rcases hsame with h | ⟨hk,h⟩
          · rw [h]; exact M.obl
          · obtain ⟨q1,q2,q3,q4⟩ := M.nonB hk
            rw [hk,q1,q2]
            exact hK c'' (.inr ⟨h,Nat.le_trans q3 hle⟩)
      have notIn : ∀ j,j < ops.size → bl.getD j false = true → listed.getD j false = true → i ∉ (clos ops m.length).getD j [] := fun j hj hbj hlj hm => by
        have := clos_spec (L := fun j => listed.getD j false = true) (fun j o ho hl k hk => M.closed j o ho hl k hk) _ _ _ hm hlj
        rw [hnl] at this; cases this
      have run : Gives P p (envN e mA V i) H (V i) → (isCall p = true → Calling mA e V) → o.wp P a w (wpAny P .any ops (Lift G0 H0 w0 n Q) fuel (listed.setIfInBounds i true)) (Lift G0 H0 w0 n Q) := fun hg hcall => by
        have hk0 : isCall p = true → k = 0 := fun hc => by
          by_cases hk : k = 0
          · exact hk
          · obtain ⟨i0,r1,r2,r3⟩ := M.somB hk
            have hl0 : listed.getD i0 false = true := (M.pre i0 r2 r3).2 (by omega)
            exact absurd (((mixOk_spec hok ho hio r2).2 (Ne.symm (bne i0 r3)) r3).2 hb |>.1 (by rw [hp]; exact hc)) (notIn i0 r2 r3 hl0)
        obtain ⟨q,hq⟩ := aOp_pure hcs
        have hgiv : Gives P p (envN e mA V i) H' (V i) := by
          cases hc : isCall p with
          | true => rw [(M.nonB (hk0 hc)).1]; exact hg
          | false =>
            cases hck : ckq ops m (clos ops m.length) bl i with
            | false => exact gives_rel hq hc hg fun hn => M.grown fun j hj hbj hlj => ((((mixOk_spec hok ho hio hj).2 (Ne.symm (bne j hbj)) hbj).2 hb |>.2 (by rw [hp]; exact hn)).resolve_left (notIn j hj hbj hlj)).resolve_right (by rw [hck]; simp)
            | true =>
              by_cases hk : k = 0
              · rw [(M.nonB hk).1]; exact hg
              obtain ⟨ag,t,d,hcd,hioe,hsp⟩ := ckd_spec ho hio hck
              obtain ⟨i0,r1,r2,r3⟩ := M.somB hk
              have hl0 : listed.getD i0 false = true := (M.pre i0 r2 r3).2 (by omega)
              have hst := M.st i0 r1 ag t d (ckList_mem (by omega) hcd (notIn i0 r2 r3 hl0))
              have hpl : p = .load ag (.t t) := by
                rw [← hp,hioe]; unfold aOp; simp only; rw [hck,Bool.or_true,if_pos rfl]
              have hdd : eB d = V i := M.aB i _ d hAio (by rw [hioe])
              have hagr : e' t = envN e mA V i t := by
                refine agree t ?_
                have := compOp_all c1 (t := t) (by rw [hioe]; simp [IOp.all,IOp.uses])
                unfold Oper.looksAt
                exact List.mem_append_left _ (List.mem_filterMap.2 ⟨.tmp t,this,rfl⟩)
              have ht : eB t = envN e mA V i t := by
                rcases hsp with ⟨j0,io0,hj0,hm0,hd0⟩ | hfree
                · have hj0s : j0 < ops.size := by
                    have := (List.getElem?_eq_some_iff.1 hm0).1; omega
                  have hod0 : (ops[j0]).dst = some t := by
                    obtain ⟨io1,s1,s2⟩ := hm j0 ops[j0] (Array.getElem?_eq_getElem hj0s)
                    rw [hm0] at s1; cases s1
                    rw [← (compOper_spec s2).2.2.1]; exact hd0
                  obtain ⟨y,hy,hyd⟩ := dstA' j0 _ t (Array.getElem?_eq_getElem hj0s) hod0 (hnb j0 hj0)
                  rw [M.aB j0 y t hy hyd,← M.yes j0 y t hy (hafter j0 hj0) hyd]
                  exact hagr
                · rw [← M.agree t fun j y hy hd => ?_]
                  · exact hagr
                  · obtain ⟨z,q1,q2,q3⟩ := dstA j y t hy hd
                    obtain ⟨io1,s1,s2⟩ := hm j z q1
                    exact hfree j io1 s1 (by rw [(compOper_spec s2).2.2.1]; exact q2)
              rw [hpl]
              intro c0
              obtain ⟨v,hv⟩ := det_load ag (eB t) _ hst
              have hvv := (hv _).1 hst
              show loadW ag (envN e mA V i t) H' _
              rw [← ht]
              exact (hv _).2 ⟨hvv.trans hdd,rfl,Nat.le_refl _,fun _ => rfl⟩
        have k1 := hgiv G.c
        rw [← opW_congr (e := e') hq fun u hu => ?_] at k1
        · refine op_sound rfl c1 I h3 (aOp_opW hcs k1) fun v w' ⟨av,H'',G',⟨k2,k3,k4,k5⟩,x',I',r⟩ => ?_
          subst k2; subst k3
          refine ih _ (put e' o.dst (V i)) _ G'.c k eB _ _ (mid G'.c k4 ?_) count ?_
          · cases hcl : isCall p with
            | false => exact .inl (k5 hcl)
            | true => exact .inr ⟨hk0 hcl,hcall hcl⟩
          · exact St.step h1 h2 h3 I x hH0 c4 x' I' r
        · cases u with
          | c v => rfl
          | t t =>
            refine agree t ?_
            have := compOp_all c1 (aOp_uses hcs hu)
            unfold Oper.looksAt
            exact List.mem_append_left _ (List.mem_filterMap.2 ⟨.tmp t,this,rfl⟩)
      have skip : V i = .und → wpAny P .any ops (Lift G0 H0 w0 n Q) fuel (listed.setIfInBounds i true) (a.put o.dst undef) w := fun hv => by
        refine ih _ (put e' o.dst (V i)) _ G.c k eB _ _ (mid G.c (Nat.le_refl _) (.inl rfl)) count ?_
        rw [hv]
        exact St.step h1 h2 h3 I x hH0 c4 (Ext.refl _ _ _) I .und
      have hy := hV i _ hAio
      unfold YV at hy
      dsimp only at hy
      unfold wpOp
      rw [ho]
      simp only
      cases hg : io.guard with
      | none =>
        rw [hg] at hw hy
        simp only [WantSpec] at hw
        rw [hw,if_pos rfl]
        exact .inl (run hy fun hcl => ⟨i,_,hAio,hcl,by unfold Runs; dsimp only; rw [hg]; trivial⟩)
      | some gw =>
        obtain ⟨g,want⟩ := gw
        rw [hg] at hw hy
        simp only [WantSpec] at hw
        simp only at hy
        rw [← agree g (guardIn g want hg)] at hy
        rcases hy with ⟨hy1,hy2⟩ | ⟨hy1,hy2⟩
        · rw [hw.1 want hy1,beq_self_eq_true,if_pos rfl]
          refine .inl (run hy2 fun hcl => ⟨i,_,hAio,hcl,?_⟩)
          unfold Runs
          dsimp only
          rw [hg]
          dsimp only
          rw [← agree g (guardIn g want hg)]
          exact hy1
        · have : Region.wanted o (yielded ops a.tmps) = false := by
            rcases hy1 with hy1 | ⟨b,hy1,hb⟩
            · exact hw.2 hy1
            · rw [hw.1 b hy1]; simpa using hb
          rw [this,if_neg (by simp)]
          exact skip hy2
    | true =>
      have hki : k ≤ i := by
        rcases Nat.lt_or_ge i k with h | h
        · rw [(M.pre i his hb).2 h] at hnl; cases hnl
        · exact h
      have allB : ∀ j,j < i → bl.getD j false = true → listed.getD j false = true := fun j hj hbj => by
        obtain ⟨ioj,q1,q2⟩ := hm j ops[j] (Array.getElem?_eq_getElem (by omega))
        have hin := ((mixOk_spec hok (Array.getElem?_eq_getElem (by omega : j < ops.size)) q1 his).2 (by omega) hb).1 hbj hj
        have := clos_spec (L := fun x => listed.getD x false = true ∨ x = i) (fun j' o' ho' hl k' hk' => by
          rcases hl with hl | rfl
          · exact .inl (M.closed j' o' ho' hl k' hk')
          · rw [ho] at ho'; cases ho'; exact .inl (hafter k' hk')) _ _ _ hin (.inr rfl)
        exact this.resolve_right (by omega)
      have hobl := skipB (i - k) k eB H' G.c (by omega) (fun j g1 g2 => by
        cases hbj : bl.getD j false with
        | false => rfl
        | true =>
          have := (M.pre j (by omega) hbj).1 (allB j (by omega) hbj)
          omega) M.obl
      rw [show k + (i - k) = i by omega] at hobl
      have e2 : C i = io :: ckList ops m (clos ops m.length) bl i := by
        rw [hC]; unfold mixC; rw [hb]
        simp [List.getD_eq_getElem?_getD,hio]
      rw [restB_cons his,e2,List.cons_append] at hobl
      have agree : ∀ t,t ∈ o.looksAt ops → e' t = eB t := fun t ht => by
        by_cases hx : ∃ (j : Nat) (y : IOper),mA[j]? = some y ∧ y.dst = some t
        · obtain ⟨j,y,hj,hy⟩ := hx
          obtain ⟨z,q1,q2,q3⟩ := dstA j y t hj hy
          rcases (drawOk_spec hd ho q1).2.2 t q2 ht with ⟨k1,k2⟩ | k1 | ⟨k1,k2⟩
          · rw [M.yes j y t hj (hafter j k2) hy,M.aB j y t hj hy]
          · rw [k1,hb] at q3; cases q3
          · obtain ⟨ioj,r1,r2⟩ := hm j z q1
            rw [((mixOk_spec hok q1 r1 his).1 q3).2 i k2] at hb; cases hb
        · exact M.agree t fun j y hj hy => hx ⟨j,y,hj,hy⟩
      have adst : ∀ (j : Nat) (y : IOper) (t : Nat),mA[j]? = some y → y.dst = some t → o.dst ≠ some t := fun j y t hj hy hd' => by
        obtain ⟨z,q1,q2,q3⟩ := dstA j y t hj hy
        rw [uniqO j i z o t q1 ho q2 hd',hb] at q3; cases q3
      have keep : ∀ (f : Env) (v : AV) (t : Nat),o.dst ≠ some t → put f o.dst v t = f t := fun f v t hn => by
        cases hdd : o.dst with
        | none => rfl
        | some d => show upd f d v t = f t; exact upd_ne _ _ _ fun h => hn (by rw [hdd,h])
      have mid : ∀ v H'' c'',opsW P (ckList ops m (clos ops m.length) bl i ++ restB C ops.size (i + 1)) (put eB o.dst v) H'' c'' (Q .normal) → (growAt m i = true → ∃ M,H'' = H' ++ M) →
          MidE P ops mA C (ckList ops m (clos ops m.length) bl) (fun i => bl.getD i false) m e (envN e mA V mA.length) V H c (Q .normal) (listed.setIfInBounds i true) (put e' o.dst v) H'' c'' (i + 1) (put eB o.dst v) := fun v H'' c'' hob hgr => by
        rw [opsW_append] at hob
        obtain ⟨hst,hob⟩ := chk_run _ ckList_form _ _ _ _ hob
        refine ⟨by simp [M.size],closed',fun j hj hbj => ?_,fun _ => ⟨i,rfl,his,hb⟩,fun j y t hj hl hy => ?_,fun t hn => ?_,fun j y t hj hy => ?_,fun t hn => ?_,fun h => absurd h (by omega),fun hg => ?_,hob,fun i0 h => by (have : i0 = i := by omega); subst this; exact hst⟩
        · rcases Nat.lt_trichotomy j i with h | h | h
          · rw [other j (by omega)]; exact ⟨fun _ => by omega,fun _ => allB j h hbj⟩
          · subst h; exact ⟨fun _ => by omega,fun _ => iin⟩
          · rw [other j (by omega)]
            exact ⟨fun hl => by have := (M.pre j hj hbj).1 hl; omega,fun hl => by omega⟩
        · rw [keep _ _ _ (adst j y t hj hy)]
          have hji : j ≠ i := fun h => by
            obtain ⟨z,q1,q2,q3⟩ := dstA j y t hj hy
            rw [h,hb] at q3; cases q3
          rw [other j hji] at hl
          exact M.yes j y t hj hl hy
        · cases hdd : o.dst with
          | none => exact M.agree t hn
          | some d =>
            show upd e' d v t = upd eB d v t
            by_cases htd : t = d
            · subst htd; rw [upd_same,upd_same]
            · rw [upd_ne _ _ _ htd,upd_ne _ _ _ htd]; exact M.agree t hn
        · rw [keep _ _ _ (adst j y t hj hy)]; exact M.aB j y t hj hy
        · rw [keep _ _ _ (hn i o ho iin)]
          exact M.no t fun j y hj hl => hn j y hj (getD_set_true hl)
        · obtain ⟨M1,hM1⟩ := M.grown fun j hj hbj hl => hg j hj hbj (getD_set_true hl)
          obtain ⟨M2,hM2⟩ := hgr (hg i his hb iin)
          exact ⟨M1 ++ M2,by rw [hM2,hM1,List.append_assoc]⟩
      have fin : ∀ Kp : AV → List AObj → Nat → Prop,opW P io.op eB H' G.c Kp → (∀ av H'' c'',Kp av H'' c'' → opsW P (ckList ops m (clos ops m.length) bl i ++ restB C ops.size (i + 1)) (put eB o.dst av) H'' c'' (Q .normal) ∧ (growAt m i = true → ∃ M,H'' = H' ++ M)) →
          o.wp P a w (wpAny P .any ops (Lift G0 H0 w0 n Q) fuel (listed.setIfInBounds i true)) (Lift G0 H0 w0 n Q) := fun Kp k1 k2 => by
        rw [← opW_all (e := e') io.op fun u hu => ?_] at k1
        · refine op_sound rfl c1 I h3 k1 fun v w' ⟨av,H'',G',kp,x',I',r⟩ => ?_
          obtain ⟨q1,q2⟩ := k2 _ _ _ kp
          exact ih _ _ _ G'.c (i + 1) _ _ _ (mid av H'' G'.c q1 q2) count (St.step h1 h2 h3 I x hH0 c4 x' I' r)
        · cases u with
          | c v => rfl
          | t t =>
            refine agree t ?_
            have := compOp_all c1 hu
            unfold Oper.looksAt
            exact List.mem_append_left _ (List.mem_filterMap.2 ⟨.tmp t,this,rfl⟩)
      have run : opW P io.op eB H' G.c (fun v H'' c'' => opsW P (ckList ops m (clos ops m.length) bl i ++ restB C ops.size (i + 1)) (put eB io.dst v) H'' c'' (Q .normal)) → o.wp P a w (wpAny P .any ops (Lift G0 H0 w0 n Q) fuel (listed.setIfInBounds i true)) (Lift G0 H0 w0 n Q) := fun k1 => by
        rw [c3] at k1
        cases hgr : growAt m i with
        | true =>
          have hgo : growOp io.op = true := by unfold growAt at hgr; rw [hio] at hgr; exact hgr
          exact fin _ (opW_grow hgo k1) fun av H'' c'' h => ⟨h.1,fun _ => h.2⟩
        | false => exact fin _ k1 fun av H'' c'' h => ⟨h,fun hx => by rw [hgr] at hx; cases hx⟩
      have skip : opsW P (ckList ops m (clos ops m.length) bl i ++ restB C ops.size (i + 1)) (put eB io.dst .und) H' G.c (Q .normal) → wpAny P .any ops (Lift G0 H0 w0 n Q) fuel (listed.setIfInBounds i true) (a.put o.dst undef) w := fun hk => by
        rw [c3] at hk
        exact ih _ _ _ G.c (i + 1) _ _ _ (mid .und H' G.c hk fun _ => ⟨[],by simp⟩) count (St.step h1 h2 h3 I x hH0 c4 (Ext.refl _ _ _) I .und)
      simp only [opsW] at hobl
      unfold wpOp
      rw [ho]
      simp only
      cases hg : io.guard with
      | none =>
        rw [hg] at hw hobl
        simp only [WantSpec] at hw
        rw [hw,if_pos rfl]
        exact .inl (run hobl)
      | some gw =>
        obtain ⟨g,want⟩ := gw
        rw [hg] at hw hobl
        simp only [WantSpec] at hw
        dsimp only at hobl
        rw [← agree g (guardIn g want hg)] at hobl
        cases hed : e' g <;> rw [hed] at hobl <;> simp only [guardW] at hobl <;> first
          | exact hobl.elim
          | skip
        · rename_i b
          rw [hw.1 b hed]
          by_cases hbw : b = want
          · subst hbw
            rw [beq_self_eq_true,if_pos rfl]
            exact .inl (run (hobl.1 rfl))
          · rw [if_neg (by simpa using hbw)]
            exact skip (hobl.2 hbw)
        · rw [hw.2 hed,if_neg (by simp)]
          exact skip hobl
theorem draw_soundE (hH0 : ∀ t,t ∈ tags H0 → t < G0.c) {ops : Array Oper} {m : List IOper} (hm : ops.toList.mapM (compOper P n ops) = some m) (hd : drawOk ops = true) (hf : P.follows .mixedOrders = true)
    {bl : List Bool} (hok : mixOk ops m (clos ops m.length) bl = true) {Q : Post} {id : Nat} {a : Act} {w : World} (hs : St G0 H0 w0 n e H c a w) (hk : opsW P (mixList ops m (clos ops m.length) bl) e H c (Q .normal)) :
    (Code.region id ops true).wp P (Lift G0 H0 w0 n Q) a w := by
  obtain ⟨hl,hg⟩ := mapM_get _ _ hm
  have hlen : m.length = ops.size := by simpa using hl
  have hm' : ∀ (i : Nat) (x : Oper),ops[i]? = some x → ∃ io,m[i]? = some io ∧ compOper P n ops x = some io := fun i x hx => hg i x (by simpa using hx)
  have hp : ∀ io,io ∈ (List.range m.length).map (mixA ops m (clos ops m.length) bl) → ∃ op,pureOp op = some io.op := fun io hio => by
    obtain ⟨i,hi,rfl⟩ := List.mem_map.1 hio
    have hi := List.mem_range.1 hi
    unfold mixA
    cases hb : bl.getD i false with
    | true => exact ⟨.mv (.c .und),rfl⟩
    | false =>
      have hmi : m[i]? = some m[i] := List.getElem?_eq_getElem hi
      rw [hmi]
      have his : i < ops.size := by omega
      exact aOp_pure (aOp_cases ((mixOk_spec (k := i) hok (Array.getElem?_eq_getElem his) hmi his).1 hb).1)
  unfold mixList at hk
  rw [opsW_filter,opsW_append] at hk
  obtain ⟨V,q1,q2⟩ := chain_of _ hp e (· = c) c _ rfl (fun c' h => Nat.le_of_eq h.symm) fun c' h => by rw [h]; exact hk
  have hR : restB (mixC ops m (clos ops m.length) bl) ops.size 0 = (List.range m.length).flatMap (mixC ops m (clos ops m.length) bl) := by
    unfold restB; rw [hlen,Nat.sub_zero,List.range_eq_range']
  refine wp_region_any hf (any_soundE hH0 hlen hm' hd hok rfl rfl q1 (fun c' h => by rw [hR]; exact q2 c' h) ops.size _ e H c 0 (envN e ((List.range m.length).map (mixA ops m (clos ops m.length) bl)) V ((List.range m.length).map (mixA ops m (clos ops m.length) bl)).length) a _ ?_ ?_ ?_)
  · have hno : ∀ j,(Array.replicate ops.size false).getD j false = false := fun j => by
      by_cases hj : j < ops.size <;> simp [hj]
    have uniq : ∀ (i j : Nat) (x y : IOper) (d : Nat),((List.range m.length).map (mixA ops m (clos ops m.length) bl))[i]? = some x → ((List.range m.length).map (mixA ops m (clos ops m.length) bl))[j]? = some y → x.dst = some d → y.dst = some d → i = j := fun i j x y d h1 h2 h3 h4 => by
      have key : ∀ (i : Nat) (x : IOper),((List.range m.length).map (mixA ops m (clos ops m.length) bl))[i]? = some x → x.dst = some d → ∃ o,ops[i]? = some o ∧ o.dst = some d := fun i x hx hxd => by
        have hi : i < m.length := by have := (List.getElem?_eq_some_iff.1 hx).1; simpa using this
        rw [List.getElem?_map,List.getElem?_range hi] at hx
        cases hx
        unfold mixA at hxd
        split at hxd
        · cases hxd
        · obtain ⟨io,r1,r2⟩ := hm' i ops[i] (Array.getElem?_eq_getElem (by omega))
          rw [r1] at hxd
          exact ⟨ops[i],Array.getElem?_eq_getElem (by omega),(compOper_spec r2).2.2.1 ▸ hxd⟩
      obtain ⟨p,r1,r2⟩ := key i x h1 h3
      obtain ⟨q,s1,s2⟩ := key j y h2 h4
      exact (drawOk_spec hd r1 s1).2.1 d r2 s2
    have hdst := fun t => envN_dst _ e V uniq _ (Nat.le_refl _) t
    exact ⟨by simp,fun j o _ h => by (rw [hno] at h; cases h),fun j _ _ => by rw [hno]; exact ⟨fun h => (by cases h),fun h => (by omega)⟩,fun h => absurd rfl h,fun j io t _ h => by (rw [hno] at h; cases h),
      fun t hn => ((hdst t).2 fun j io _ hj => hn j io hj).symm,fun j io t hj ht => (hdst t).1 j io (List.getElem?_eq_some_iff.1 hj).1 hj ht,fun t _ => rfl,fun _ => ⟨rfl,rfl,Nat.le_refl _,.inl rfl⟩,fun _ => ⟨[],by simp⟩,by rw [hR]; exact q2 c (.inl rfl),fun i0 h => by omega⟩
  · exact Nat.le_trans (List.countP_le_length) (by simp)
  · obtain ⟨G,h0,h1,h2,h3,I,x⟩ := hs
    exact ⟨G,h0,h1,h2,h3,I,x.x,x.os,x.tape,x.output,x.size,x.frame,x.newm,x.oldH,x.oldF⟩
theorem draw_comp0 (hH0 : ∀ t,t ∈ tags H0 → t < G0.c) {ops : Array Oper} {ir : IR} (h : compDraw0 P n ops = some ir) (hd : drawOk ops = true) (hf : P.follows .mixedOrders = true)
    {Q : Post} {id : Nat} {a : Act} {w : World} (hs : St G0 H0 w0 n e H c a w) (hk : irW P ir Q e H c) : (Code.region id ops true).wp P (Lift G0 H0 w0 n Q) a w := by
  have pure : compPure P n ops = some ir → (Code.region id ops true).wp P (Lift G0 H0 w0 n Q) a w := fun h => by
    unfold compPure at h
    simp only [Option.map_eq_some_iff] at h
    obtain ⟨m,hm,hir⟩ := h
    split at hir
    · subst hir
      obtain ⟨R,hk⟩ := hk
      exact draw_soundD hH0 hm hd hf hs hk
    · subst hir
      exact draw_sound hH0 hm hd hf hs hk
  have mix : ∀ deep,compMix P n ops deep = some ir → (Code.region id ops true).wp P (Lift G0 H0 w0 n Q) a w := fun deep h => by
    unfold compMix at h
    simp only [Option.bind_eq_some_iff] at h
    obtain ⟨m,hm,h⟩ := h
    unfold mixIR at h
    split at h
    · rename_i hok
      cases h
      exact draw_soundE hH0 hm hd hf hok hs hk
    · cases h
  unfold compDraw0 at h
  split at h
  · simp only [Option.or_eq_some_iff] at h
    rcases h with h | ⟨_,h | ⟨_,h⟩⟩
    · exact mix _ h
    · exact pure h
    · exact mix _ h
  · split at h <;> simp only [Option.or_eq_some_iff] at h
    all_goals
      rcases h with h | ⟨_,h | ⟨_,h⟩⟩
      · exact pure h
      · exact mix _ h
      · exact mix _ h
theorem alts_mem {g : Nat → IR} {Q : Post} : ∀ {L : List Nat},irW P (alts (L.map g)) Q e H c → ∀ i,i ∈ L → irW P (g i) Q e H c
  | [],_,i,hi => by cases hi
  | [x],h,i,hi => by
    have : i = x := by simpa using hi
    subst this; exact h
  | x :: y :: L,h,i,hi => by
    have h : irW P (g x) Q e H c ∧ irW P (alts ((y :: L).map g)) Q e H c := h
    rcases List.mem_cons.1 hi with rfl | hi
    · exact h.1
    · exact alts_mem h.2 i hi
theorem count_drop {listed : Array Bool} {n i fuel : Nat} (hsz : listed.size = n) (his : i < n) (hnl : listed.getD i false = false) (hc : (List.range n).countP (fun j => !listed.getD j false) ≤ fuel + 1) :
    (List.range n).countP (fun j => !(listed.setIfInBounds i true).getD j false) ≤ fuel := by
  have hils : i < listed.size := by omega
  have key : ∀ (l : List Nat),i ∈ l → l.countP (fun j => !(listed.setIfInBounds i true).getD j false) < l.countP (fun j => !listed.getD j false) := by
    have mono : ∀ (l : List Nat),l.countP (fun j => !(listed.setIfInBounds i true).getD j false) ≤ l.countP (fun j => !listed.getD j false) := fun l =>
      List.countP_mono_left fun j _ h => by
        cases hl : listed.getD j false with
        | false => rfl
        | true => rw [getD_set_true hl] at h; cases h
    intro l hl
    induction l with
    | nil => cases hl
    | cons x l ihl =>
      simp only [List.countP_cons]
      by_cases hx : x = i
      · subst hx
        have := mono l
        have e1 : (listed.setIfInBounds x true).getD x false = true := by simp [hils]
        rw [e1,hnl]
        simp only [Bool.not_true,Bool.false_eq_true,if_false,Bool.not_false,if_true]
        omega
      · have h1 := ihl ((List.mem_cons.1 hl).resolve_left (Ne.symm hx))
        rw [getD_set_ne false (Ne.symm hx)]
        omega
  have := key _ (List.mem_range.2 his)
  omega
theorem any_all (hH0 : ∀ t,t ∈ tags H0 → t < G0.c) {ops : Array Oper} {m : List IOper} (hdr : drawOk ops = true) (hlen : m.length = ops.size) (hm : ∀ (i : Nat) (x : Oper),ops[i]? = some x → ∃ io,m[i]? = some io ∧ compOper P n ops x = some io) (hsel : Region.noSelect ops = true) {Q : Post} (hP : ∀ x e H c,¬ Q (.panic x) e H c) :
    ∀ (f : Nat) (d : List Nat) (listed : Array Bool) (e : Env) (H : List AObj) (c : Nat) (a : Act) (w : World),listed.size = ops.size → (∀ i,i < ops.size → listed.getD i false = d.contains i) → (List.range ops.size).countP (fun j => !listed.getD j false) ≤ f →
      St G0 H0 w0 n e H c a w → irW P (anyIR ops m f d) Q e H c → wpAny P .any ops (Lift G0 H0 w0 n Q) f listed a w := by
  have rdy : ∀ (d : List Nat) (listed : Array Bool),listed.size = ops.size → (∀ i,i < ops.size → listed.getD i false = d.contains i) → ∀ i,i ∈ Region.ready .any ops listed → i ∈ (List.range m.length).filter (anyRdy ops d) ∧ i < ops.size ∧ listed.getD i false = false := fun d listed hsz hd i hi => by
    rw [mem_ready] at hi
    obtain ⟨h0,o,ho,hready⟩ := hi
    have his := (Array.getElem?_eq_some_iff.1 ho).1
    have hils : i < listed.size := hsz ▸ his
    have hnl : listed.getD i false = false := by simpa [hils] using h0
    refine ⟨List.mem_filter.2 ⟨List.mem_range.2 (by omega),?_⟩,his,hnl⟩
    unfold anyRdy
    rw [← hd i his,hnl,ho]
    simp only [Bool.not_false,Bool.true_and]
    rw [List.all_eq_true]
    intro k hk
    unfold afterAny at hk
    obtain ⟨ed,hed,rfl⟩ := List.mem_map.1 hk
    obtain ⟨hed1,hed2⟩ := List.mem_filter.1 hed
    have hl := hready ed (by simpa using hed1) hed2
    have hon : ed.on < ops.size := by
      rcases Nat.lt_or_ge ed.on ops.size with h | h
      · exact h
      · have : listed.getD ed.on false = false := by simp [hsz,Nat.not_lt.2 h]
        rw [this] at hl; cases hl
    rw [← hd _ hon]; exact hl
  have rdy' : ∀ (d : List Nat) (listed : Array Bool),listed.size = ops.size → (∀ i,i < ops.size → listed.getD i false = d.contains i) → ∀ j,j ∈ List.range m.length → anyRdy ops d j = true → j ∈ Region.ready .any ops listed := fun d listed hsz hd j h1 h2 => by
    have hjs : j < ops.size := by have := List.mem_range.1 h1; omega
    rw [mem_ready]
    have ho := Array.getElem?_eq_getElem hjs
    unfold anyRdy at h2
    rw [ho] at h2
    simp only [Bool.and_eq_true,Bool.not_eq_true'] at h2
    refine ⟨?_,ops[j],ho,fun ed hed hb => ?_⟩
    · have hjl : j < listed.size := hsz ▸ hjs
      have h3 : listed.getD j false = false := by rw [hd j hjs]; exact h2.1
      simpa [hjl] using h3
    · have hmem : ed.on ∈ afterAny ops[j] := by
        unfold afterAny
        exact List.mem_map.2 ⟨ed,List.mem_filter.2 ⟨by simpa using hed,hb⟩,rfl⟩
      have h3 := List.all_eq_true.1 h2.2 _ hmem
      have hlt := (drawOk_spec hdr ho ho).1 _ hmem
      rw [hd _ (by omega)]; exact h3
  have step : ∀ (d : List Nat) (listed : Array Bool) (i : Nat),listed.size = ops.size → (∀ i,i < ops.size → listed.getD i false = d.contains i) → ∀ j,j < ops.size → (listed.setIfInBounds i true).getD j false = (i :: d).contains j := fun d listed i hsz hd j hj => by
    by_cases hij : j = i
    · subst hij; simp [hsz,hj]
    · have h1 : (listed.setIfInBounds i true).getD j false = listed.getD j false := by simp [Array.getElem?_setIfInBounds_ne (Ne.symm hij)]
      rw [h1,hd j hj]
      have : (j == i) = false := by simpa using hij
      rw [List.contains_cons,this,Bool.false_or]
  intro f
  induction f with
  | zero =>
    intro d listed e H c a w hsz hd hc hs hk
    have hr : Region.ready .any ops listed = [] := by
      refine List.eq_nil_iff_forall_not_mem.2 fun j hj => ?_
      obtain ⟨_,hjs,hnl⟩ := rdy d listed hsz hd j hj
      have := List.countP_eq_zero.1 (Nat.le_zero.1 hc) j (List.mem_range.2 hjs)
      rw [hnl] at this; exact this rfl
    exact ⟨hr,e,H,c,hk,hs⟩
  | succ f ih =>
    intro d listed e H c a w hsz hd hc hs hk
    unfold anyIR at hk
    split at hk
    · -- a copy runs first
      rename_i i hfi
      have hi0 := List.mem_of_find?_eq_some hfi
      have hi1 := List.find?_some hfi
      unfold eagAt at hi1
      simp only [Bool.and_eq_true] at hi1
      obtain ⟨⟨hr1,hf1⟩,he1⟩ := hi1
      have hri := rdy' d listed hsz hd i hi0 hr1
      obtain ⟨_,his,hnl⟩ := rdy d listed hsz hd i hri
      obtain ⟨io,hio,hco⟩ := hm i ops[i] (Array.getElem?_eq_getElem his)
      have hgd : m.getD i nopO = io := by simp [List.getD_eq_getElem?_getD,hio]
      rw [Array.getElem?_eq_getElem his,hio] at he1
      simp only [Bool.and_eq_true] at he1
      obtain ⟨he2,he3⟩ := he1
      obtain ⟨c1,c2,c3,c4⟩ := compOper_spec hco
      have hcount : (List.range ops.size).countP (fun j => !(listed.setIfInBounds i true).getD j false) ≤ f := count_drop hsz his hnl hc
      obtain ⟨G,rfl,h1,h2,h3,I,x⟩ := hs
      have hw := wanted_of c2 h3
      have hfree : Region.free .any ops listed i = true := by
        unfold freeAny at hf1
        unfold Region.free
        rw [Array.getElem?_eq_getElem his] at hf1 ⊢
        simp only at hf1 ⊢
        rw [List.all_eq_true] at hf1 ⊢
        intro j hj
        have hjs := List.mem_range.1 hj
        have hjl : j < listed.size := hsz ▸ hjs
        have h5 := hf1 j hj
        rw [← hd j hjs,Array.getElem?_eq_getElem hjs] at h5
        rw [Array.getElem?_eq_getElem hjs]
        simpa [hjl] using h5
      simp only [irW,hgd] at hk
      have go : Region.wanted (ops[i]) (yielded ops a.tmps) = true → ∀ (v : Value) (av : AV),Rep G w.heap v av → (∀ w,(execOp a.eval ops[i]).run P w = .ok (.value v) w) → irW P (anyIR ops m f (i :: d)) Q (put e io.dst av) H G.c → wpAny P .any ops (Lift G0 H0 w0 n Q) (f + 1) listed a w := fun hw v av hrep hrun k => by
        refine wpAny_take (Array.getElem?_eq_getElem his) hsel hfree (by simpa using hri) (fun x a w ⟨e,H,c,q,_⟩ => (hP x e H c q).elim) (.inl ⟨hw,hrun⟩) ?_
        rw [c3] at k
        exact ih (i :: d) _ _ _ _ _ _ (by simp [hsz]) (step d listed i hsz hd) hcount (St.step h1 h2 h3 I x hH0 c4 (Ext.refl _ _ _) I hrep) k
      have run : Region.wanted (ops[i]) (yielded ops a.tmps) = true → opW P io.op e H G.c (fun v H' c' => irW P (anyIR ops m f (i :: d)) Q (put e io.dst v) H' c') → wpAny P .any ops (Lift G0 H0 w0 n Q) (f + 1) listed a w := fun hw hk => by
        obtain ⟨v,av,y1,y2,y3⟩ := op_yld (K := fun v H' c' => irW P (anyIR ops m f (i :: d)) Q (put e io.dst v) H' c') rfl he2 he3 c1 h3 hk
        exact go hw v av y1 y3 y2
      have skip : Region.wanted (ops[i]) (yielded ops a.tmps) = false → irW P (anyIR ops m f (i :: d)) Q (put e io.dst .und) H G.c → wpAny P .any ops (Lift G0 H0 w0 n Q) (f + 1) listed a w := fun hw k => by
        refine wpAny_take (v := undef) (Array.getElem?_eq_getElem his) hsel hfree (by simpa using hri) (fun x a w ⟨e,H,c,q,_⟩ => (hP x e H c q).elim) (.inr ⟨hw,rfl⟩) ?_
        rw [c3] at k
        exact ih (i :: d) _ _ _ _ _ _ (by simp [hsz]) (step d listed i hsz hd) hcount (St.step h1 h2 h3 I x hH0 c4 (Ext.refl _ _ _) I .und) k
      simp only [opsW] at hk
      cases hg : io.guard with
      | none =>
        rw [hg] at hk hw
        simp only [WantSpec] at hk hw
        exact run hw hk
      | some p =>
        obtain ⟨g,want⟩ := p
        rw [hg] at hk hw
        simp only [WantSpec] at hk hw
        cases hed : e g <;> rw [hed] at hk <;> simp only [guardW] at hk <;> first
          | exact hk.elim
          | skip
        · rename_i b
          by_cases hb : b = want
          · subst hb
            exact run (by rw [hw.1 b hed,beq_self_eq_true]) (hk.1 rfl)
          · exact skip (by rw [hw.1 b hed]; simpa using hb) (hk.2 hb)
        · exact skip (hw.2 hed) hk
    refine ⟨fun hr => ?_,fun i hi => ?_⟩
    · -- nothing is ready: by the count,or all is listed
      by_cases hne : (List.range m.length).filter (anyRdy ops d) = []
      · refine ⟨e,H,c,?_,hs⟩
        rw [hne] at hk
        exact hk
      · exfalso
        obtain ⟨j,hj⟩ := List.exists_mem_of_ne_nil _ hne
        obtain ⟨h1,h2⟩ := List.mem_filter.1 hj
        have hjs : j < ops.size := by have := List.mem_range.1 h1; omega
        have : j ∈ Region.ready .any ops listed := by
          rw [mem_ready]
          have ho := Array.getElem?_eq_getElem hjs
          unfold anyRdy at h2
          rw [ho] at h2
          simp only [Bool.and_eq_true,Bool.not_eq_true'] at h2
          refine ⟨?_,ops[j],ho,fun ed hed hb => ?_⟩
          · have hjl : j < listed.size := hsz ▸ hjs
            have h3 : listed.getD j false = false := by rw [hd j hjs]; exact h2.1
            simpa [hjl] using h3
          · have hmem : ed.on ∈ afterAny ops[j] := by
              unfold afterAny
              exact List.mem_map.2 ⟨ed,List.mem_filter.2 ⟨by simpa using hed,hb⟩,rfl⟩
            have h3 := List.all_eq_true.1 h2.2 _ hmem
            have hlt := (drawOk_spec hdr ho ho).1 _ hmem
            rw [hd _ (by omega)]; exact h3
        rw [hr] at this; cases this
    · obtain ⟨hmem,his,hnl⟩ := rdy d listed hsz hd i hi
      have hk := alts_mem (g := fun i => .seq (.reg [m.getD i nopO]) (anyIR ops m f (i :: d))) hk i hmem
      obtain ⟨io,hio,hco⟩ := hm i ops[i] (Array.getElem?_eq_getElem his)
      have hgd : m.getD i nopO = io := by simp [List.getD_eq_getElem?_getD,hio]
      simp only [irW,hgd] at hk
      obtain ⟨c1,c2,c3,c4⟩ := compOper_spec hco
      have hd' : ∀ j,j < ops.size → (listed.setIfInBounds i true).getD j false = (i :: d).contains j := fun j hj => by
        by_cases hij : j = i
        · subst hij; simp [hsz,hj]
        · have h1 : (listed.setIfInBounds i true).getD j false = listed.getD j false := by simp [Array.getElem?_setIfInBounds_ne (Ne.symm hij)]
          rw [h1,hd j hj]
          have : (j == i) = false := by simpa using hij
          rw [List.contains_cons,this,Bool.false_or]
      have hcount : (List.range ops.size).countP (fun j => !(listed.setIfInBounds i true).getD j false) ≤ f := count_drop hsz his hnl hc
      obtain ⟨G,rfl,h1,h2,h3,I,x⟩ := hs
      have hw := wanted_of c2 h3
      have run : opW P io.op e H G.c (fun v H' c' => irW P (anyIR ops m f (i :: d)) Q (put e io.dst v) H' c') → (ops[i]).wp P a w (wpAny P .any ops (Lift G0 H0 w0 n Q) f (listed.setIfInBounds i true)) (Lift G0 H0 w0 n Q) := fun k =>
        op_sound rfl c1 I h3 k fun v w' ⟨av,H',G',k',x',I',r⟩ => by
          rw [c3] at k'
          exact ih (i :: d) _ _ _ _ _ _ (by simp [hsz]) hd' hcount (St.step h1 h2 h3 I x hH0 c4 x' I' r) k'
      have skip : irW P (anyIR ops m f (i :: d)) Q (put e io.dst .und) H G.c → wpAny P .any ops (Lift G0 H0 w0 n Q) f (listed.setIfInBounds i true) (a.put (ops[i]).dst undef) w := fun k => by
        rw [c3] at k
        exact ih (i :: d) _ _ _ _ _ _ (by simp [hsz]) hd' hcount (St.step h1 h2 h3 I x hH0 c4 (Ext.refl _ _ _) I .und) k
      unfold wpOp
      rw [Array.getElem?_eq_getElem his]
      simp only
      simp only [opsW] at hk
      cases hg : io.guard with
      | none =>
        rw [hg] at hk hw
        simp only [WantSpec] at hk hw
        rw [hw,if_pos rfl]
        exact .inl (run hk)
      | some p =>
        obtain ⟨g,want⟩ := p
        rw [hg] at hk hw
        simp only [WantSpec] at hk hw
        cases hed : e g <;> rw [hed] at hk <;> simp only [guardW] at hk <;> first
          | exact hk.elim
          | skip
        · rename_i b
          rw [hw.1 b hed]
          by_cases hb : b = want
          · subst hb
            rw [beq_self_eq_true,if_pos rfl]
            exact .inl (run (hk.1 rfl))
          · rw [if_neg (by simpa using hb)]
            exact skip (hk.2 hb)
        · rw [hw.2 hed,if_neg (by simp)]
          exact skip hk
theorem sameD_iff {d ds : List Nat} (h : sameD d ds = true) : d.length = ds.length ∧ ∀ x,d.contains x = ds.contains x := by
  unfold sameD at h
  simp only [Bool.and_eq_true,beq_iff_eq,List.all_eq_true] at h
  refine ⟨h.1.1,fun x => ?_⟩
  have h1 := h.1.2 x
  have h2 := h.2 x
  rw [Bool.eq_iff_iff]
  simp only [List.contains_iff_mem] at h1 h2 ⊢
  exact ⟨h1,h2⟩
theorem anyRdy_congr {ops : Array Oper} {d ds : List Nat} (h : ∀ x,d.contains x = ds.contains x) : anyRdy ops d = anyRdy ops ds := by
  funext i
  unfold anyRdy
  simp only [h]
theorem eagAt_congr {ops : Array Oper} {m : List IOper} {d ds : List Nat} (h : ∀ x,d.contains x = ds.contains x) : eagAt ops m d = eagAt ops m ds := by
  funext i
  unfold eagAt freeAny
  rw [anyRdy_congr h]
  simp only [h]
theorem anyIR_congr {ops : Array Oper} {m : List IOper} : ∀ (f : Nat) {d ds : List Nat} (h : ∀ x,d.contains x = ds.contains x),anyIR ops m f d = anyIR ops m f ds
  | 0,_,_,_ => rfl
  | f + 1,d,ds,h => by
    have hc : ∀ i x,(i :: d).contains x = (i :: ds).contains x := fun i x => by simp only [List.contains_cons,h]
    unfold anyIR
    rw [eagAt_congr h,anyRdy_congr h]
    have e : ∀ i,anyIR ops m f (i :: d) = anyIR ops m f (i :: ds) := fun i => anyIR_congr f (hc i)
    simp only [e]
theorem seq_skip {R : IR} {Q : Post} : irW P (.seq .skip R) Q = irW P R Q := by funext e H c; rfl
theorem seq_assoc {A B C : IR} {Q : Post} : irW P (.seq (.seq A B) C) Q = irW P (.seq A (.seq B C)) Q := by
  funext e H c
  show irW P A (thenQ (irW P B (thenQ (irW P C Q) Q)) (thenQ (irW P C Q) Q)) e H c = irW P A (thenQ (irW P B (thenQ (irW P C Q) Q)) Q) e H c
  have : ∀ X K : Env → List AObj → Nat → Prop,thenQ X (thenQ K Q) = thenQ X Q := fun X K => by funext x; cases x <;> rfl
  rw [this]
theorem seq_congr {A B C : IR} {Q : Post} (h : irW P B Q = irW P C Q) : irW P (.seq A B) Q = irW P (.seq A C) Q := by
  funext e H c
  show irW P A (thenQ (irW P B Q) Q) e H c = irW P A (thenQ (irW P C Q) Q) e H c
  rw [h]
theorem alts_seq {R : IR} {Q : Post} {g : Nat → Option IR} {k : Nat → IR} : ∀ {L : List Nat} {l : List IR},L.mapM g = some l → L ≠ [] → (∀ i x,i ∈ L → g i = some x → irW P (.seq x R) Q = irW P (k i) Q) → irW P (.seq (alts l) R) Q = irW P (alts (L.map k)) Q
  | [],_,_,hn,_ => absurd rfl hn
  | [i],l,h,_,hk => by
    simp only [List.mapM_cons,List.mapM_nil,Option.bind_eq_bind,Option.bind_eq_some_iff] at h
    obtain ⟨x,hx,y,hy,h⟩ := h
    cases hy; cases h
    exact hk i x (List.mem_singleton.2 rfl) hx
  | i :: j :: L,l,h,_,hk => by
    rw [List.mapM_cons] at h
    simp only [Option.bind_eq_bind,Option.bind_eq_some_iff] at h
    obtain ⟨x,hx,y,hy,h⟩ := h
    cases h
    have ih := alts_seq (R := R) (Q := Q) (k := k) hy (by simp) fun i x hi => hk i x (List.mem_cons_of_mem _ hi)
    have hyl : ∃ z zs,y = z :: zs := by
      cases y with
      | nil =>
        rw [List.mapM_cons] at hy
        simp only [Option.bind_eq_bind,Option.bind_eq_some_iff] at hy
        obtain ⟨_,_,_,_,hy⟩ := hy
        cases hy
      | cons z zs => exact ⟨z,zs,rfl⟩
    obtain ⟨z,zs,rfl⟩ := hyl
    have h1 := hk i x (List.mem_cons_self ..) hx
    funext e H c
    show (irW P (.seq x R) Q e H c ∧ irW P (.seq (alts (z :: zs)) R) Q e H c) = (irW P (k i) Q e H c ∧ irW P (alts ((j :: L).map k)) Q e H c)
    rw [h1,ih]
theorem win_eq {ops : Array Oper} {m : List IOper} {R : IR} {Q : Post} {ds : List Nat} {fz : Nat} (hR : irW P R Q = irW P (anyIR ops m fz ds) Q) : ∀ (f : Nat) (d : List Nat) (W : IR),f + d.length = fz + ds.length → winIR ops m f d ds = some W →
    irW P (.seq W R) Q = irW P (anyIR ops m f d) Q
  | 0,d,W,hf,h => by
    unfold winIR at h
    split at h
    next hs =>
      cases h
      obtain ⟨h1,h2⟩ := sameD_iff hs
      have : fz = 0 := by omega
      subst this
      rw [seq_skip,hR,anyIR_congr 0 h2]
    next hs => cases h
  | f + 1,d,W,hf,h => by
    unfold winIR at h
    split at h
    next hs =>
      cases h
      obtain ⟨h1,h2⟩ := sameD_iff hs
      have : fz = f + 1 := by omega
      subst this
      rw [seq_skip,hR,anyIR_congr _ h2]
    next hs =>
      unfold anyIR
      split at h
      next i hi =>
        simp only [Option.map_eq_some_iff] at h
        obtain ⟨x,hx,rfl⟩ := h
        rw [seq_assoc]
        exact seq_congr (win_eq hR f (i :: d) x (by simp; omega) hx)
      next hi =>
        split at h
        next he => cases h
        next he =>
          simp only [Option.map_eq_some_iff] at h
          obtain ⟨l,hl,rfl⟩ := h
          refine alts_seq hl (fun h0 => he (by simp [h0])) fun i x hi hx => ?_
          simp only [Option.map_eq_some_iff] at hx
          obtain ⟨y,hy,rfl⟩ := hx
          rw [seq_assoc]
          exact seq_congr (win_eq hR f (i :: d) y (by simp; omega) hy)
theorem anyF_eq {ops : Array Oper} {m : List IOper} {cl : List (List Nat)} {Q : Post} : ∀ (g f : Nat) (d : List Nat) {ir : IR},anyF ops m cl g f d = some ir → irW P ir Q = irW P (anyIR ops m f d) Q
  | 0,_,_,_,h => by cases h
  | g + 1,0,d,ir,h => by unfold anyF at h; cases h; rfl
  | g + 1,f + 1,d,ir,h => by
    unfold anyF at h
    split at h
    next i hi =>
      simp only [Option.map_eq_some_iff] at h
      obtain ⟨x,hx,rfl⟩ := h
      unfold anyIR
      rw [hi]
      exact seq_congr (anyF_eq g f (i :: d) hx)
    next hi =>
      split at h
      next i hr =>
        simp only [Option.map_eq_some_iff] at h
        obtain ⟨x,hx,rfl⟩ := h
        unfold anyIR
        rw [hi,hr]
        exact seq_congr (anyF_eq g f (i :: d) hx)
      next hr =>
        split at h
        next ds hds =>
          split at h
          next hc =>
            simp only [Bool.and_eq_true,decide_eq_true_eq] at hc
            simp only [Option.bind_eq_some_iff,Option.map_eq_some_iff] at h
            obtain ⟨w,hw,x,hx,rfl⟩ := h
            exact win_eq (anyF_eq g _ ds hx) (f + 1) d w (by omega) hw
          next hc => cases h
        next hds =>
          split at h
          next hc => cases h; rfl
          next hc => cases h
theorem draw_comp (hH0 : ∀ t,t ∈ tags H0 → t < G0.c) {ops : Array Oper} {ir : IR} (h : compDraw P n ops = some ir) (hd : drawOk ops = true) (hf : P.follows .mixedOrders = true) (hsel : Region.noSelect ops = true)
    {Q : Post} (hP : ∀ x e H c,¬ Q (.panic x) e H c) {id : Nat} {a : Act} {w : World} (hs : St G0 H0 w0 n e H c a w) (hk : irW P ir Q e H c) : (Code.region id ops true).wp P (Lift G0 H0 w0 n Q) a w := by
  have h2 : compDraw0 P n ops = some ir ∨ compAll P n ops = some ir := by
    unfold compDraw at h
    split at h <;> (simp only [Option.or_eq_some_iff] at h; rcases h with h | ⟨_,h⟩)
    · exact .inr h
    · exact .inl h
    · exact .inl h
    · exact .inr h
  clear h
  rcases h2 with h | h
  · exact draw_comp0 hH0 h hd hf hs hk
  · have h' : ∃ m,ops.toList.mapM (compOper P n ops) = some m ∧ irW P ir Q = irW P (anyIR ops m m.length []) Q := by
      unfold compAll at h
      split at h
      · simp only [Option.map_eq_some_iff] at h
        obtain ⟨m,hm,h⟩ := h
        refine ⟨m,hm,?_⟩
        subst h
        cases hF : anyF ops m (clos ops m.length) (m.length + 1) m.length [] with
        | none => rfl
        | some x => exact anyF_eq _ _ _ hF
      · split at h
        · simp only [Option.bind_eq_some_iff] at h
          obtain ⟨m,hm,h⟩ := h
          exact ⟨m,hm,anyF_eq _ _ _ h⟩
        · cases h
    obtain ⟨m,hm,hir⟩ := h'
    rw [hir] at hk
    clear hir
    obtain ⟨hl,hg⟩ := mapM_get _ _ hm
    have hlen : m.length = ops.size := by simpa using hl
    have hm' : ∀ (i : Nat) (x : Oper),ops[i]? = some x → ∃ io,m[i]? = some io ∧ compOper P n ops x = some io := fun i x hx => hg i x (by simpa using hx)
    rw [hlen] at hk
    refine wp_region_any hf (any_all hH0 hd hlen hm' hsel hP ops.size [] _ e H c a _ (by simp) (fun i hi => by simp [hi]) ?_ ?_ hk)
    · exact Nat.le_trans (List.countP_le_length) (by simp)
    · obtain ⟨G,h0,h1,h2,h3,I,x⟩ := hs
      exact ⟨G,h0,h1,h2,h3,I,x.x,x.os,x.tape,x.output,x.size,x.frame,x.newm,x.oldH,x.oldF⟩
end
end
section
variable {P : Program} {G0 : Gh} {H0 : List AObj} {w0 : World} {n : Nat}
theorem ops_sound (hH0 : ∀ t,t ∈ tags H0 → t < G0.c) {ops : Array Oper} {Q : Post} : ∀ (l : List Oper) (m : List IOper),l.mapM (compOper P n ops) = some m → ∀ (e : Env) (H : List AObj) (c : Nat) (a : Act) (w : World),
    St G0 H0 w0 n e H c a w → opsW P m e H c (Q .normal) → wpList P ops (Lift G0 H0 w0 n Q) l a w := by
  intro l
  induction l with
  | nil =>
    intro m hm e H c a w hs hk
    simp at hm; subst hm
    exact wpList_nil ⟨e,H,c,hk,hs⟩
  | cons o l ih =>
    intro m hm e H c a w hs hk
    simp only [List.mapM_cons,Option.bind_eq_bind,Option.bind_eq_some_iff,Option.pure_def,Option.some.injEq] at hm
    obtain ⟨io,hio,m',hm',rfl⟩ := hm
    obtain ⟨c1,c2,c3,c4⟩ := compOper_spec hio
    obtain ⟨G,rfl,h1,h2,h3,I,x⟩ := hs
    have hw := wanted_of c2 h3
    have run : opW P io.op e H G.c (fun v H' c' => opsW P m' (put e io.dst v) H' c' (Q .normal)) → o.wp P a w (wpList P ops (Lift G0 H0 w0 n Q) l) (Lift G0 H0 w0 n Q) := fun k =>
      op_sound rfl c1 I h3 k fun v w' ⟨av,H',G',k',x',I',r⟩ => by
        rw [c3] at k'
        exact ih m' hm' _ _ _ _ _ (St.step h1 h2 h3 I x hH0 c4 x' I' r) k'
    have skip : opsW P m' (put e io.dst .und) H G.c (Q .normal) → wpList P ops (Lift G0 H0 w0 n Q) l (a.put o.dst undef) w := fun k => by
      rw [c3] at k
      exact ih m' hm' _ _ _ _ _ (St.step h1 h2 h3 I x hH0 c4 (Ext.refl _ _ _) I .und) k
    refine wpList_step fun K hK => ?_
    simp only [opsW] at hk
    cases hg : io.guard with
    | none =>
      rw [hg] at hk hw
      simp only [WantSpec] at hk hw
      rw [hw,if_pos rfl]
      exact Oper.wp_mono (fun a w h => hK a w h) (run hk)
    | some p =>
      obtain ⟨d,want⟩ := p
      rw [hg] at hk hw
      simp only [WantSpec] at hk hw
      cases hed : e d <;> rw [hed] at hk <;> simp only [guardW] at hk <;> first
        | exact hk.elim
        | skip
      · rename_i b
        rw [hw.1 b hed]
        by_cases hb : b = want
        · subst hb
          rw [beq_self_eq_true,if_pos rfl]
          exact Oper.wp_mono (fun a w h => hK a w h) (run (hk.1 rfl))
        · rw [if_neg (by simpa using hb)]
          exact hK _ _ (skip (hk.2 hb))
      · rw [hw.2 hed,if_neg (by simp)]
        exact hK _ _ (skip hk)
theorem min_exists (p : Nat → Prop) (h : ∃ n,p n) : ∃ n,p n ∧ ∀ m,p m → n ≤ m := by
  obtain ⟨n,hn⟩ := h
  induction n using Nat.strongRecOn with
  | _ n ih =>
    by_cases hlt : ∃ m,m < n ∧ p m
    · obtain ⟨m,hm,hp⟩ := hlt; exact ih m hm hp
    · exact ⟨n,hn,fun m hm => by
        rcases Nat.lt_or_ge m n with h | h
        · exact absurd ⟨m,h,hm⟩ hlt
        · exact h⟩
open Classical in
noncomputable def least (p : Nat → Prop) : Nat := if h : ∃ n,p n then Classical.choose (min_exists p h) else 0
theorem least_spec {p : Nat → Prop} (h : ∃ n,p n) : p (least p) := by unfold least; rw [dif_pos h]; exact (Classical.choose_spec (min_exists p h)).1
theorem least_le {p : Nat → Prop} {n : Nat} (h : p n) : least p ≤ n := by unfold least; rw [dif_pos ⟨n,h⟩]; exact (Classical.choose_spec (min_exists p ⟨n,h⟩)).2 n h
theorem St.drop {e : Env} {H H' : List AObj} {c : Nat} {a : Act} {w : World} (h : St G0 H0 w0 n e H c a w) (hs : H'.Sublist H) : St G0 H0 w0 n e H' c a w := by
  obtain ⟨G,h0,h1,h2,h3,I,x⟩ := h
  exact ⟨G,h0,h1,h2,h3,I.drop hs,x.drop hs⟩
theorem ir_sound (hH0 : ∀ t,t ∈ tags H0 → t < G0.c) : ∀ (code : Code) (ir : IR),comp P n code = some ir → ∀ (Q : Post),(∀ x e H c,¬ Q (.panic x) e H c) → ∀ (e : Env) (H : List AObj) (c : Nat) (a : Act) (w : World),
    St G0 H0 w0 n e H c a w → irW P ir Q e H c → code.wp P (Lift G0 H0 w0 n Q) a w := by
  intro code
  induction code with
  | skip => intro ir h Q hP e H c a w hs hk; simp only [comp] at h; cases h; exact wp_skip ⟨e,H,c,hk,hs⟩
  | ret => intro ir h Q hP e H c a w hs hk; simp only [comp] at h; cases h; exact wp_ret ⟨e,H,c,hk,hs⟩
  | exit id => intro ir h Q hP e H c a w hs hk; simp only [comp] at h; cases h; exact wp_exit ⟨e,H,c,hk,hs⟩
  | region id ops draw =>
    intro ir h Q hP e H c a w hs hk
    cases draw with
    | true =>
      simp only [comp] at h
      split at h
      · rename_i hc
        simp only [Bool.and_eq_true] at hc
        exact draw_comp hH0 h hc.1.2 hc.1.1 hc.2 hP hs hk
      · cases h
    | false =>
      simp only [comp,Option.bind_eq_bind,Option.bind_eq_some_iff,Option.some.injEq] at h
      obtain ⟨m,hm,rfl⟩ := h
      exact wp_region_list (ops_sound hH0 ops.toList m hm e H c a w hs hk)
  | seq x y ihx ihy =>
    intro ir h Q hP e H c a w hs hk
    simp only [comp,Option.bind_eq_bind,Option.bind_eq_some_iff,Option.some.injEq] at h
    obtain ⟨ix,hx,iy,hy,rfl⟩ := h
    refine wp_seq (Code.wp_mono (fun ex a' w' hq => ?_) (ihx ix hx (thenQ (irW P iy Q) Q) (fun x e H c q => hP x e H c q) e H c a w hs hk))
    obtain ⟨e',H',c',q,hs'⟩ := hq
    cases ex <;> first
      | exact ihy iy hy Q hP e' H' c' a' w' hs' q
      | exact ⟨e',H',c',q,hs'⟩
  | cond x a b iha ihb =>
    intro ir h Q hP e H c ac w hs hk
    simp only [comp,Option.bind_eq_bind,Option.bind_eq_some_iff,Option.some.injEq] at h
    obtain ⟨u,hu,ia,ha,ib,hb,rfl⟩ := h
    simp only [irW] at hk
    obtain ⟨G,rfl,h1,h2,h3,I,x'⟩ := hs
    have r := opd_rep h3 hu
    generalize ev e u = au at hk r
    generalize hv : ac.eval x = v at r
    cases r <;> simp only [condW] at hk <;> first
      | exact hk.elim
      | skip
    exact wp_cond_split hv (fun ht => iha ia ha Q hP e H G.c ac w ⟨G,rfl,h1,h2,h3,I,x'⟩ (hk.1 ht)) (fun ht => ihb ib hb Q hP e H G.c ac w ⟨G,rfl,h1,h2,h3,I,x'⟩ (hk.2 ht))
  | block id b ihb =>
    intro ir h Q hP e H c a w hs hk
    simp only [comp,Option.bind_eq_bind,Option.bind_eq_some_iff,Option.some.injEq] at h
    obtain ⟨ib,hb,rfl⟩ := h
    refine wp_block (Code.wp_mono (fun ex a' w' hq => ?_) (ihb ib hb (blockQ id Q) (fun x e H c q => hP x e H c q) e H c a w hs hk))
    obtain ⟨e',H',c',q,hs'⟩ := hq
    cases ex <;> first
      | exact ⟨e',H',c',q,hs'⟩
      | (simp only [blockQ] at q
         simp only [Exit.inBlock]
         split
         · rename_i hid; rw [if_pos hid] at q; exact ⟨e',H',c',q,hs'⟩
         · rename_i hid; rw [if_neg hid] at q; exact ⟨e',H',c',q,hs'⟩)
  | loop b ihb =>
    intro ir h Q hP e H c a w hs hk
    simp only [comp,Option.bind_eq_bind,Option.bind_eq_some_iff,Option.some.injEq] at h
    obtain ⟨ib,hb,rfl⟩ := h
    obtain ⟨I,μ,⟨Hs,hsub,hI⟩,hround⟩ := hk
    refine wp_loop (fun a w => ∃ e H c,I e H c ∧ St G0 H0 w0 n e H c a w) (fun a w => least fun k => ∃ e H c,I e H c ∧ St G0 H0 w0 n e H c a w ∧ μ e H c = k) ⟨e,Hs,c,hI,hs.drop hsub⟩ fun a w hIa => ?_
    obtain ⟨e1,H1,c1,hi1,hs1⟩ := hIa
    obtain ⟨e2,H2,c2,hi2,hs2,hμ⟩ := least_spec (p := fun k => ∃ e H c,I e H c ∧ St G0 H0 w0 n e H c a w ∧ μ e H c = k) ⟨_,e1,H1,c1,hi1,hs1,rfl⟩
    refine Code.wp_mono (fun ex a' w' hq => ?_) (ihb ib hb (thenQ _ Q) (fun x e H c q => hP x e H c q) e2 H2 c2 a w hs2 (hround e2 H2 c2 hi2))
    obtain ⟨e',H',c',q,hs'⟩ := hq
    cases ex <;> first
      | exact ⟨e',H',c',q,hs'⟩
      | (obtain ⟨H'',hsub',hi',hlt⟩ := q
         refine ⟨⟨e',H'',c',hi',hs'.drop hsub'⟩,?_⟩
         refine Nat.lt_of_le_of_lt (least_le (p := fun k => ∃ e H c,I e H c ∧ St G0 H0 w0 n e H c a' w' ∧ μ e H c = k) ⟨e',H'',c',hi',hs'.drop hsub',rfl⟩) ?_
         rw [← hμ]; exact hlt)
  | rangeFunc f ps as0 b iha ihb => intro ir h; simp [comp] at h
  | scope b ihb => intro ir h; simp [comp] at h
  | label l => intro ir h; simp [comp] at h
  | goto l => intro ir h; simp [comp] at h
  | refuse why => intro ir h; simp [comp] at h
end
abbrev o (d : Nat) (op : IOp) : IOper := ⟨some d,op,none⟩
abbrev st (op : IOp) : IOper := ⟨none,op,none⟩
abbrev og (d : Nat) (op : IOp) (g : Nat) (b : Bool) : IOper := ⟨some d,op,some (g,b)⟩
inductive RV where
  | tmp (t : Nat)
  | cell (a : Nat) (ag : Option Nat)
def resW : List RV → Env → List AObj → (List AV → Prop) → Prop
  | [],_,_,K => K []
  | .tmp t :: rs,e,H,K => resW rs e H fun l => K (e t :: l)
  | .cell a ag :: rs,e,H,K => loadW ag (e a) H fun v => resW rs e H fun l => K (v :: l)
def oneOf : List AV → AV
  | [v] => v
  | l => .tup l
structure RenO (S : List AObj) (o o' : AObj) : Prop where
  mp : o'.mp = o.mp
  tag : o'.tag = o.tag
  w : o'.w = o.w
  len : o'.rows.length = o.rows.length
  maps : o.mp = true → o'.rows = o.rows
  row : ∀ (r : Nat) (x x' : List AV),o.rows[r]? = some x → o'.rows[r]? = some x' → x'.length = x.length ∧ ∀ (j : Nat) (a a' : AV),x[j]? = some a → x'[j]? = some a' → a' = a ∨ (a'.cell = true ∧ View S a a')
theorem RenO.refl (S : List AObj) (o : AObj) : RenO S o o :=
  ⟨rfl,rfl,rfl,rfl,fun _ => rfl,fun r x x' h1 h2 => by rw [h1] at h2; cases h2; exact ⟨rfl,fun j a a' h3 h4 => by rw [h3] at h4; cases h4; exact .inl rfl⟩⟩
inductive Rens (S : List AObj) : List AObj → List AObj → Prop
  | nil : Rens S [] []
  | cons {o o' : AObj} {l l' : List AObj} (h : RenO S o o') (t : Rens S l l') : Rens S (o :: l) (o' :: l')
theorem Rens.refl (S : List AObj) : ∀ l,Rens S l l
  | [] => .nil
  | o :: l => .cons (.refl S o) (Rens.refl S l)
theorem Rens.tags_eq {S l l' : List AObj} (h : Rens S l l') : tags l' = tags l := by
  induction h with
  | nil => rfl
  | cons h t ih => simp only [tags,List.map_cons] at ih ⊢; rw [h.tag,ih]
theorem Rens.of_mem {S l l' : List AObj} (h : Rens S l l') {o' : AObj} (ho : o' ∈ l') : ∃ o,o ∈ l ∧ RenO S o o' := by
  induction h with
  | nil => cases ho
  | cons h t ih =>
    rcases List.mem_cons.1 ho with rfl | ho
    · exact ⟨_,List.mem_cons_self ..,h⟩
    · obtain ⟨o,h1,h2⟩ := ih ho; exact ⟨o,List.mem_cons_of_mem _ h1,h2⟩
theorem ObjOk.ren {G : Gh} {H S : List AObj} {h : Array Obj} {o o' : AObj} (I : Inv G H h) (hS : ∀ o,o ∈ S → o ∈ H) (k : ObjOk G h o) (r : RenO S o o') : ObjOk (G.freeze S) h o' where
  c := by rw [r.tag]; exact k.c
  lies hm := by
    obtain ⟨c,e,fr,h1,h2,h3,h4,h5,h6⟩ := k.lies (r.mp ▸ hm)
    refine ⟨c,e,fr,by rw [r.tag]; exact h1,by rw [r.w]; exact h2,by rw [r.len,r.w]; exact h3,by rw [r.len]; exact h4,fun i row' hr' => ?_,fun i j row' a' hr' ha' => ?_⟩
    · obtain ⟨row,hr⟩ := get_of_len r.len.symm hr'
      rw [(r.row i row row' hr hr').1,h5 i row hr,r.w]
    · obtain ⟨row,hr⟩ := get_of_len r.len.symm hr'
      obtain ⟨e1,e2⟩ := r.row i row row' hr hr'
      obtain ⟨a,ha⟩ := get_of_len e1.symm ha'
      obtain ⟨v,hv,hc,rv⟩ := h6 i j row a hr ha
      rw [r.w]
      rcases e2 j a a' ha ha' with rfl | ⟨hc',vw⟩
      · exact ⟨v,hv,hc,rv.ext (Ext1.freeze G S h)⟩
      · exact ⟨v,hv,hc',vw.rep I hS rv⟩
  mlies hm := by
    have hm' : o.mp = true := r.mp ▸ hm
    obtain ⟨es,clock,h1,h2,h3,h4⟩ := k.mlies hm'
    rw [r.tag,r.maps hm']
    refine ⟨es,clock,h1,h2,h3,fun i row hr => ?_⟩
    obtain ⟨k',v,en,e1,e2,r1,r2⟩ := h4 i row hr
    exact ⟨k',v,en,e1,e2,r1.ext (Ext1.freeze G S h),r2.ext (Ext1.freeze G S h)⟩
theorem Inv.ren {G : Gh} {H S Hk Hk' : List AObj} {h : Array Obj} (I : Inv G H h) (hsub : ∀ o,o ∈ Hk → o ∈ H) (hS : ∀ o,o ∈ S → o ∈ H) (I2 : Inv (G.freeze S) Hk h) (r : Rens S Hk Hk') : Inv (G.freeze S) Hk' h where
  fz := I2.fz
  obj o' ho' := by
    obtain ⟨o,ho,hr⟩ := r.of_mem ho'
    exact (I.obj o (hsub o ho)).ren I hS hr
  nfz := by rw [r.tags_eq]; exact I2.nfz
  nodup := by rw [r.tags_eq]; exact I2.nodup
  inj := by rw [r.tags_eq]; exact I2.inj
  gl := I2.gl
def finW (Q : AV → List AObj → Nat → Prop) (v : AV) (H : List AObj) (c : Nat) : Prop :=
  ∃ (S Hk Hk' : List AObj) (v' : AV),Hk.Sublist H ∧ Rens S Hk Hk' ∧ (∀ o,o ∈ S → o ∈ H) ∧ (∀ t,t ∈ tags Hk → t ∉ tags S) ∧ View S v v' ∧ Q v' Hk' c
def retQ (rs : List RV) (Q : AV → List AObj → Nat → Prop) : Post
  | .normal,e,H,c => resW rs e H fun l => finW Q (oneOf l) H c
  | .ret,e,H,c => resW rs e H fun l => finW Q (oneOf l) H c
  | _,_,_,_ => False
def compRes (P : Program) : List ResultVar → Option (List RV)
  | [] => some []
  | .tmp t :: l => do some (.tmp t :: (← compRes P l))
  | .cell a t :: l => do let ag ← agOf P t; some (.cell a ag :: (← compRes P l))
structure Fun where
  n : Nat
  ir : IR
  rs : List RV
def compF (P : Program) (f : Nat) : Option Fun := do
  let fn ← P.funcs[f]?
  let code ← fn.body
  let ir ← comp P fn.ntmps code
  let rs ← compRes P fn.results.toList
  some ⟨fn.ntmps,ir,rs⟩
def env0 (args : List AV) : Env := fun t => args.getD t .und
section
variable {P : Program} {G : Gh} {H : List AObj} {w : World} {a : Act} {e : Env}
def resOne (tmps : Array Value) : ResultVar → Sem Value
  | .tmp t => pure (tmps.getD t undef)
  | .cell x t => do loadVar t (← asAddr (tmps.getD x undef))
theorem results_eq (fn : Func) (tmps : Array Value) : results fn tmps = (do let vs ← fn.results.mapM (resOne tmps); pure (if h : vs.size = 1 then vs[0] else .tuple vs)) := by
  unfold results
  congr 1
theorem res_sound (I : Inv G H w.heap) (hE : Tmps G w.heap a e) : ∀ (l : List ResultVar) (rs : List RV) (K : List AV → Prop),compRes P l = some rs → resW rs e H K →
    ∃ (vs : List Value) (as0 : List AV),(l.mapM (resOne a.tmps)).run P w = .ok vs w ∧ vs.length = as0.length ∧ (∀ (j : Nat) (v : Value) (b : AV),vs[j]? = some v → as0[j]? = some b → Rep G w.heap v b) ∧ K as0 := by
  intro l
  induction l with
  | nil => intro rs K h k; simp only [compRes] at h; cases h; exact ⟨[],[],by simp,rfl,by simp,k⟩
  | cons r l ih =>
    intro rs K h k
    cases r with
    | tmp t =>
      simp only [compRes,Option.bind_eq_bind,Option.bind_eq_some_iff,Option.some.injEq] at h
      obtain ⟨rs',h',rfl⟩ := h
      obtain ⟨vs,as0,h1,h2,h3,h4⟩ := ih rs' _ h' k
      refine ⟨a.tmps.getD t undef :: vs,e t :: as0,?_,by simp [h2],fun j v b hv hb => ?_,h4⟩
      · simp only [List.mapM_cons,resOne,Sem.run_bind,Sem.run_pure,Result.andThen_ok,h1]
      · cases j with
        | zero => simp only [List.getElem?_cons_zero,Option.some.injEq] at hv hb; subst hv; subst hb; exact hE t
        | succ j => exact h3 j v b (by simpa using hv) (by simpa using hb)
    | cell x t =>
      simp only [compRes,Option.bind_eq_bind,Option.bind_eq_some_iff,Option.some.injEq] at h
      obtain ⟨ag,hag,rs',h',rfl⟩ := h
      simp only [resW] at k
      obtain ⟨u,av,hu,k',r⟩ := load_pure (P := P) I hag (hE x) k
      obtain ⟨vs,as0,h1,h2,h3,h4⟩ := ih rs' _ h' k'
      have hrun : (do loadVar t (← asAddr (a.tmps.getD x undef)) : Sem Value).run P w = .ok u w := by
        generalize hv : a.tmps.getD x undef = xv at hu
        cases xv <;> first
          | (rename_i p; cases p <;> first
              | exact hu
              | (simp [Instr.loadAt,Instr.sureAddr] at hu))
          | (simp [Instr.loadAt,Instr.sureAddr] at hu)
      refine ⟨u :: vs,av :: as0,?_,by simp [h2],fun j v b hv hb => ?_,h4⟩
      · have hrun' : (resOne a.tmps (.cell x t)).run P w = .ok u w := hrun
        simp only [List.mapM_cons,Sem.run_bind,hrun',Sem.run_pure,Result.andThen_ok,h1]
      · cases j with
        | zero => simp at hv hb; subst hv; subst hb; exact r
        | succ j => exact h3 j v b (by simpa using hv) (by simpa using hb)
theorem con_of {f : Nat} {F : Fun} {args : List AV} {c : Nat} {Q : AV → List AObj → Nat → Prop} (hf : compF P f = some F) (hl : args.length ≤ F.n) (hk : irW P F.ir (retQ F.rs Q) (env0 args) H c) : Con P f args H c Q := by
  unfold compF at hf
  simp only [Option.bind_eq_bind,Option.bind_eq_some_iff,Option.some.injEq] at hf
  obtain ⟨fn,hfn,code,hcode,ir,hir,rs,hrs,rfl⟩ := hf
  intro G w vs hc I hs hr
  subst hc
  have hE : Tmps G w.heap { tmps := vs ++ Array.replicate (fn.ntmps - vs.size) undef,defers := [] } (env0 args) := fun t => by
    by_cases ht : t < args.length
    · have h1 := hr t args[t] (List.getElem?_eq_getElem ht)
      have h2 : (vs ++ Array.replicate (fn.ntmps - vs.size) undef).getD t undef = vs.getD t undef := getD_of (by rw [Array.getElem?_append_left (by omega)]; exact of_getD (by omega))
      have h3 : env0 args t = args[t] := by simp [env0,ht]
      rw [h2,h3]; exact h1
    · have h2 : (vs ++ Array.replicate (fn.ntmps - vs.size) undef).getD t undef = undef := by
        by_cases h : t < (vs ++ Array.replicate (fn.ntmps - vs.size) undef).size
        · refine getD_of ?_
          rw [Array.getElem?_append_right (by omega),Array.getElem?_replicate,if_pos (by simp at h; omega)]
        · unfold Array.getD; rw [dif_neg h]
      have h3 : env0 args t = .und := by simp [env0,List.getD,List.getElem?_eq_none (Nat.le_of_not_lt ht)]
      rw [h2,h3]; exact .und
  have hl' : args.length ≤ fn.ntmps := hl
  have hst : St G H w fn.ntmps (env0 args) H G.c { tmps := vs ++ Array.replicate (fn.ntmps - vs.size) undef,defers := [] } w :=
    ⟨G,rfl,rfl,by simp; omega,hE,I,Ext.refl _ _ _⟩
  refine calls_of_wp hfn hcode (Code.wp_mono (fun ex a w' hq => ?_) (ir_sound (tags_lt I) code ir hir _ (fun _ _ _ _ q => q) _ _ _ _ _ hst hk))
  have fin : ∀ (e : Env) (H' : List AObj) (c : Nat),resW rs e H' (fun l => finW Q (oneOf l) H' c) → St G H w fn.ntmps e H' c a w' →
      a.defers = [] ∧ ∃ v,(results fn a.tmps).run P w' = .ok v w' ∧ ∃ v' res H'' G',Ending.returned v = .returned v' ∧ Q res H'' G'.c ∧ Ext G H w G' H'' w' ∧ Inv G' H'' w'.heap ∧ Rep G' w'.heap v' res := fun e H' c q ⟨G1,hc1,hd,hsz,hE1,I1,x1⟩ => by
    subst hc1
    obtain ⟨us,as0,h1,h2,h3,S,Hk,Hk',v',q1,qr,q2,q3,q4,q5⟩ := res_sound (P := P) I1 hE1 fn.results.toList rs _ hrs q
    refine ⟨hd,?_⟩
    have hres : (results fn a.tmps).run P w' = .ok (if h : us.toArray.size = 1 then us.toArray[0] else .tuple us.toArray) w' := by
      rw [results_eq,Array.mapM_eq_mapM_toList]
      simp only [Sem.run_bind,Sem.run_map,h1,Result.andThen_ok,Sem.run_pure]
    have hrep : Rep G1 w'.heap (if h : us.toArray.size = 1 then us.toArray[0] else .tuple us.toArray) (oneOf as0) := by
      match us,as0,h2,h3 with
      | [],[],_,_ => exact .tup rfl (by simp)
      | [u],[b],_,h3 => exact h3 0 u b rfl rfl
      | u :: u' :: us,b :: b' :: as0,h2,h3 =>
        have : ¬ (u :: u' :: us).toArray.size = 1 := by simp
        rw [dif_neg this]
        refine .tup (by simpa using h2) fun j x hj => ?_
        have hjl : j < (u :: u' :: us).length := by rw [h2]; exact (List.getElem?_eq_some_iff.1 hj).1
        have := h3 j _ x (List.getElem?_eq_getElem hjl) hj
        rw [getD_of (v := (u :: u' :: us)[j]) (by rw [List.getElem?_toArray]; exact List.getElem?_eq_getElem hjl)]
        exact this
    refine ⟨_,hres,_,v',Hk',G1.freeze S,rfl,q5,?_,I1.ren q1.subset q2 (I1.freeze q1 q2 q3) qr,q4.rep I1 q2 hrep⟩
    have hS : ∀ t,t ∈ tags S → t ∈ tags H' := fun t ht => by obtain ⟨o,ho,rfl⟩ := of_mem_tags ht; exact mem_tags (q2 o ho)
    exact ⟨x1.x.trans (Ext1.freeze _ _ _),x1.os,x1.tape,x1.output,x1.size,x1.frame,x1.newm,fun t h1 h2 => x1.oldH t h1 ((q1.map _).subset (by rw [qr.tags_eq] at h2; exact h2)),fun t h1 h2 => by
      rcases h2 with h2 | h2
      · exact x1.oldF t h1 h2
      · exact .inr (x1.oldH t h1 (hS t h2))⟩
  obtain ⟨e,H',c,q,hs'⟩ := hq
  cases ex <;> simp only [retQ] at q <;> first
    | exact q.elim
    | exact fin e H' c q hs'
end
structure Tok {α : Sort _} (a : α) : Type where
def Lz {α : Sort _} (K : α → Prop) (_ : Tok K) : α → Prop := K
def Lz3 {α β γ : Sort _} (K : α → β → γ → Prop) (_ : Tok K) : α → β → γ → Prop := K
def LzP (p : Prop) (_ : Tok p) : Prop := p
@[simp] theorem Lz_app {α : Sort _} (K : α → Prop) (u : Tok K) (v : α) : Lz K u v = K v := (rfl)
@[simp] theorem Lz3_app {α β γ : Sort _} (K : α → β → γ → Prop) (u : Tok K) (v : α) (x : β) (y : γ) : Lz3 K u v x y = K v x y := (rfl)
section
variable {P : Program} {e : Env} {H : List AObj} {c : Nat} {K : AV → List AObj → Nat → Prop} {Q : Post}
@[simp] theorem ev_t (n : Nat) : ev e (.t n) = e n := (rfl)
@[simp] theorem ev_c (v : AV) : ev e (.c v) = v := (rfl)
theorem upd_at {α : Type} (f : Nat → α) (i j : Nat) (v : α) : upd f i v j = if j = i then v else f j := (rfl)
@[simp] theorem upd_other {α : Type} (f : Nat → α) (i j : Nat) (v : α) (h : (j == i) = false) : upd f i v j = f j := by
  rw [upd_at,if_neg (by simpa using h)]
@[simp] theorem env0_0 (a : AV) (l : List AV) : env0 (a :: l) 0 = a := (rfl)
@[simp] theorem env0_1 (a b : AV) (l : List AV) : env0 (a :: b :: l) 1 = b := (rfl)
@[simp] theorem env0_2 (a b d : AV) (l : List AV) : env0 (a :: b :: d :: l) 2 = d := (rfl)
@[simp] theorem env0_3 (a b d f : AV) (l : List AV) : env0 (a :: b :: d :: f :: l) 3 = f := (rfl)
@[simp ↓] theorem opsW_nil (K : Env → List AObj → Nat → Prop) : opsW P [] e H c K = K e H c := (rfl)
@[simp ↓] theorem opsW_o (d : Nat) (op : IOp) (l : List IOper) (K : Env → List AObj → Nat → Prop) : opsW P (o d op :: l) e H c K = opW P op e H c (Lz3 (fun v H' c' => opsW P l (upd e d v) H' c' K) ⟨⟩) := (rfl)
@[simp ↓] theorem opsW_st (op : IOp) (l : List IOper) (K : Env → List AObj → Nat → Prop) : opsW P (st op :: l) e H c K = opW P op e H c (Lz3 (fun _ H' c' => opsW P l e H' c' K) ⟨⟩) := (rfl)
@[simp ↓] theorem opsW_og (d : Nat) (op : IOp) (g : Nat) (b : Bool) (l : List IOper) (K : Env → List AObj → Nat → Prop) :
    opsW P (og d op g b :: l) e H c K = guardW (e g) b (LzP (opW P op e H c (Lz3 (fun v H' c' => opsW P l (upd e d v) H' c' K) ⟨⟩)) ⟨⟩) (LzP (opsW P l (upd e d .und) H c K) ⟨⟩) := (rfl)
@[simp ↓] theorem opsD_nil (R : Nat → AV → Prop) (K : Env → Prop) : opsD P R [] e H c K = K e := (rfl)
@[simp ↓] theorem opsD_o (R : Nat → AV → Prop) (d : Nat) (op : IOp) (l : List IOper) (K : Env → Prop) : opsD P R (o d op :: l) e H c K = opD P (R d) op e H c (Lz (fun v => opsD P R l (upd e d v) H c K) ⟨⟩) := (rfl)
@[simp ↓] theorem opD_callF (R : AV → Prop) (f : Nat) (as0 : List Opd) (K : AV → Prop) : opD P R (.callF f as0) e H c K = callD P R f (as0.map (ev e)) H c K := (rfl)
@[simp ↓] theorem opD_mv (R : AV → Prop) (x : Opd) (K : AV → Prop) : opD P R (.mv x) e H c K = opW P (.mv x) e H c (Lz3 (fun v _ _ => K v) ⟨⟩) := (rfl)
@[simp ↓] theorem opD_load (R : AV → Prop) (ag : Option Nat) (x : Opd) (K : AV → Prop) : opD P R (.load ag x) e H c K = opW P (.load ag x) e H c (Lz3 (fun v _ _ => K v) ⟨⟩) := (rfl)
@[simp ↓] theorem opD_nilck (R : AV → Prop) (x : Opd) (K : AV → Prop) : opD P R (.nilck x) e H c K = opW P (.nilck x) e H c (Lz3 (fun v _ _ => K v) ⟨⟩) := (rfl)
@[simp ↓] theorem opD_faddr (R : AV → Prop) (k : Nat) (x : Opd) (K : AV → Prop) : opD P R (.faddr k x) e H c K = opW P (.faddr k x) e H c (Lz3 (fun v _ _ => K v) ⟨⟩) := (rfl)
@[simp ↓] theorem opD_lenL (R : AV → Prop) (x : Opd) (K : AV → Prop) : opD P R (.lenL x) e H c K = opW P (.lenL x) e H c (Lz3 (fun v _ _ => K v) ⟨⟩) := (rfl)
@[simp ↓] theorem opD_extract (R : AV → Prop) (x : Opd) (i : Nat) (K : AV → Prop) : opD P R (.extract x i) e H c K = opW P (.extract x i) e H c (Lz3 (fun v _ _ => K v) ⟨⟩) := (rfl)
@[simp ↓] theorem irW_draw (ops : List IOper) : irW P (.draw ops) Q e H c = ∃ R,opsD P R ops e H c fun e' => ∀ c',c ≤ c' → Q .normal e' H c' := (rfl)
@[simp ↓] theorem irW_skip : irW P .skip Q e H c = Q .normal e H c := (rfl)
@[simp ↓] theorem irW_reg (ops : List IOper) : irW P (.reg ops) Q e H c = opsW P ops e H c (Q .normal) := (rfl)
@[simp ↓] theorem irW_seq (a b : IR) : irW P (.seq a b) Q e H c = irW P a (thenQ (irW P b Q) Q) e H c := (rfl)
@[simp ↓] theorem irW_cond (x : Opd) (a b : IR) : irW P (.cond x a b) Q e H c = condW (ev e x) (LzP (irW P a Q e H c) ⟨⟩) (LzP (irW P b Q e H c) ⟨⟩) := (rfl)
@[simp ↓] theorem irW_block (id : Nat) (b : IR) : irW P (.block id b) Q e H c = irW P b (blockQ id Q) e H c := (rfl)
@[simp ↓] theorem irW_exit (id : Nat) : irW P (.exit id) Q e H c = Q (.exit id) e H c := (rfl)
@[simp ↓] theorem irW_ret : irW P .ret Q e H c = Q .ret e H c := (rfl)
@[simp ↓] theorem irW_alt (a b : IR) : irW P (.alt a b) Q e H c = (irW P a Q e H c ∧ irW P b Q e H c) := (rfl)
@[simp high] theorem condW_true (a b : Prop) (u v) : condW (.bool true) (LzP a u) (LzP b v) = a := by simp [condW,LzP]
@[simp high] theorem condW_false (a b : Prop) (u v) : condW (.bool false) (LzP a u) (LzP b v) = b := by simp [condW,LzP]
@[simp] theorem condW_bool (t : Bool) (a b : Prop) (u v) : condW (.bool t) (LzP a u) (LzP b v) = ((t = true → a) ∧ (t = false → b)) := (rfl)
@[simp] theorem thenQ_normal (N : Env → List AObj → Nat → Prop) : thenQ N Q .normal e H c = N e H c := (rfl)
@[simp] theorem thenQ_ret (N : Env → List AObj → Nat → Prop) : thenQ N Q .ret = Q .ret := (rfl)
@[simp] theorem thenQ_exit (N : Env → List AObj → Nat → Prop) (i : Nat) : thenQ N Q (.exit i) = Q (.exit i) := (rfl)
@[simp] theorem blockQ_normal (id : Nat) : blockQ id Q .normal = Q .normal := (rfl)
@[simp] theorem blockQ_ret (id : Nat) : blockQ id Q .ret = Q .ret := (rfl)
@[simp] theorem blockQ_exit (id i : Nat) : blockQ id Q (.exit i) e H c = (if i = id then Q .normal e H c else Q (.exit i) e H c) := (rfl)
@[simp] theorem retQ_ret (rs : List RV) (R : AV → List AObj → Nat → Prop) : retQ rs R .ret e H c = resW rs e H fun l => finW R (oneOf l) H c := (rfl)
@[simp] theorem retQ_normal (rs : List RV) (R : AV → List AObj → Nat → Prop) : retQ rs R .normal e H c = resW rs e H fun l => finW R (oneOf l) H c := (rfl)
@[simp] theorem resW_nil (R : List AV → Prop) : resW [] e H R = R [] := (rfl)
@[simp] theorem resW_tmp (t : Nat) (rs : List RV) (R : List AV → Prop) : resW (.tmp t :: rs) e H R = resW rs e H fun l => R (e t :: l) := (rfl)
@[simp] theorem resW_cell (a : Nat) (ag : Option Nat) (rs : List RV) (R : List AV → Prop) : resW (.cell a ag :: rs) e H R = loadW ag (e a) H fun v => resW rs e H fun l => R (v :: l) := (rfl)
@[simp] theorem oneOf_one (v : AV) : oneOf [v] = v := (rfl)
@[simp] theorem oneOf_two (v u : AV) (l : List AV) : oneOf (v :: u :: l) = .tup (v :: u :: l) := (rfl)
@[simp ↓] theorem opW_mv (x : Opd) : opW P (.mv x) e H c K = K (ev e x) H c := (rfl)
@[simp ↓] theorem opW_pick (x a b : Opd) : opW P (.pick x a b) e H c K = pickW (ev e x) (ev e a) (ev e b) (Lz (fun v => K v H c) ⟨⟩) := (rfl)
@[simp ↓] theorem opW_new (w : Nat) (z : List AV) : opW P (.new w z) e H c K = K (.ptr H.length c w 0 0) (H ++ [⟨false,c,w,[z]⟩]) (c + 1) := (rfl)
@[simp ↓] theorem opW_box (w : Nat) (x : Opd) : opW P (.box w x) e H c K = boxW (ev e x) H c K := (rfl)
@[simp ↓] theorem opW_build (z : List AV) (ps : List (Nat × Nat × Opd)) : opW P (.build z ps) e H c K = fillW z (ps.map fun (o,n,x) => (o,n,ev e x)) fun l => K (.agg l) H c := (rfl)
@[simp ↓] theorem opW_bslice (w : Nat) (z : List AV) (n : Nat) (ps : List (Nat × Opd)) : opW P (.bslice w z n ps) e H c K = bsliceW w z n (ps.map fun (i,x) => (i,ev e x)) H c K := (rfl)
@[simp ↓] theorem opW_load (ag : Option Nat) (x : Opd) : opW P (.load ag x) e H c K = loadW ag (ev e x) H (Lz (fun v => K v H c) ⟨⟩) := (rfl)
@[simp ↓] theorem opW_chk (ag : Option Nat) (x y : Opd) : opW P (.chk ag x y) e H c K = loadW ag (ev e x) H (Lz (fun v => v = ev e y ∧ K .und H c) ⟨⟩) := (rfl)
@[simp ↓] theorem opW_store (n : Nat) (a x : Opd) : opW P (.store n a x) e H c K = storeW n (ev e a) (ev e x) H c K := (rfl)
@[simp ↓] theorem opW_nilck (x : Opd) : opW P (.nilck x) e H c K = nilckW (ev e x) (Lz (fun v => K v H c) ⟨⟩) := (rfl)
@[simp ↓] theorem opW_bin (op : BinOp) (x y : Opd) : opW P (.bin op x y) e H c K = binW op (ev e x) (ev e y) (Lz (fun v => K v H c) ⟨⟩) := (rfl)
@[simp ↓] theorem opW_binb (op : BinOp) (x y : Opd) : opW P (.binb op x y) e H c K = binbW op (ev e x) (ev e y) (Lz (fun v => K v H c) ⟨⟩) := (rfl)
@[simp ↓] theorem opW_beq (n : Bool) (ks : List Nat) (x y : Opd) : opW P (.beq n ks x y) e H c K = beqW' n ks (ev e x) (ev e y) (Lz (fun v => K v H c) ⟨⟩) := (rfl)
@[simp ↓] theorem opW_un (op : UnOp) (x : Opd) : opW P (.un op x) e H c K = unW op (ev e x) (Lz (fun v => K v H c) ⟨⟩) := (rfl)
@[simp ↓] theorem opW_toInt (k : IntKind) (x : Opd) : opW P (.toInt k x) e H c K = toIntW k (ev e x) (Lz (fun v => K v H c) ⟨⟩) := (rfl)
@[simp ↓] theorem opW_toStr (x : Opd) : opW P (.toStr x) e H c K = toStrW (ev e x) H (Lz (fun v => K v H c) ⟨⟩) := (rfl)
@[simp ↓] theorem opW_mkfn (f : Nat) (l : List Opd) : opW P (.mkfn f l) e H c K = K (.fn f (l.map (ev e))) H c := (rfl)
@[simp ↓] theorem opW_mkmap : opW P .mkmap e H c K = K (.mref H.length c) (H ++ [⟨true,c,0,[]⟩]) (c + 1) := (rfl)
@[simp ↓] theorem opW_mkslice (w : Nat) (z : List AV) (b : Nat) (l x : Opd) : opW P (.mkslice w z b l x) e H c K = mksliceW w z b (ev e l) (ev e x) H c K := (rfl)
@[simp ↓] theorem opW_sliceS (x : Opd) (l h : Option Opd) : opW P (.sliceS x l h) e H c K = strSliceW (ev e x) (l.map (ev e)) (h.map (ev e)) (Lz (fun v => K v H c) ⟨⟩) := (rfl)
@[simp ↓] theorem opW_slice (w : Nat) (x : Opd) (l h : Option Opd) : opW P (.slice w x l h) e H c K = slcSliceW w (ev e x) (l.map (ev e)) (h.map (ev e)) (Lz (fun v => K v H c) ⟨⟩) := (rfl)
@[simp ↓] theorem opW_slice3 (w : Nat) (x h m : Opd) : opW P (.slice3 w x h m) e H c K = slice3W w (ev e x) (ev e h) (ev e m) (Lz (fun v => K v H c) ⟨⟩) := (rfl)
@[simp] theorem slice3W_ref (w i t w' l : Nat) (k k' : IntKind) (a b : Int) (K : AV → Prop) : slice3W w (.ref i t w' l) (.int k a) (.int k' b) K = (w' = w ∧ 0 ≤ a ∧ a ≤ b ∧ b ≤ l ∧ K (.ref i t w a.toNat)) := (rfl)
@[simp ↓] theorem opW_faddr (o : Nat) (x : Opd) : opW P (.faddr o x) e H c K = faddrW o (ev e x) (Lz (fun v => K v H c) ⟨⟩) := (rfl)
@[simp ↓] theorem opW_iaddr (w : Nat) (x i : Opd) : opW P (.iaddr w x i) e H c K = iaddrW w (ev e x) (ev e i) (Lz (fun v => K v H c) ⟨⟩) := (rfl)
@[simp ↓] theorem opW_index (x i : Opd) : opW P (.index x i) e H c K = indexW (ev e x) (ev e i) (Lz (fun v => K v H c) ⟨⟩) := (rfl)
@[simp ↓] theorem opW_lookup (d : Nat) (z : AV) (k : Bool) (m x : Opd) : opW P (.lookup d z k m x) e H c K = lookupW (keyD d) z k (ev e m) (ev e x) H (Lz (fun v => K v H c) ⟨⟩) := (rfl)
@[simp ↓] theorem opW_mupd (d : Nat) (m k v : Opd) : opW P (.mupd d m k v) e H c K = mupdW (keyD d) (ev e m) (ev e k) (ev e v) H c K := (rfl)
@[simp ↓] theorem opW_lenS (x : Opd) : opW P (.lenS x) e H c K = lenStrW (ev e x) (Lz (fun v => K v H c) ⟨⟩) := (rfl)
@[simp ↓] theorem opW_lenL (x : Opd) : opW P (.lenL x) e H c K = lenSlcW (ev e x) (Lz (fun v => K v H c) ⟨⟩) := (rfl)
@[simp ↓] theorem opW_append (w b : Nat) (x y : Opd) : opW P (.append w b x y) e H c K = appendW w b (ev e x) (ev e y) H c K := (rfl)
@[simp ↓] theorem opW_extract (x : Opd) (i : Nat) : opW P (.extract x i) e H c K = extractW (ev e x) i (Lz (fun v => K v H c) ⟨⟩) := (rfl)
@[simp ↓] theorem opW_call (f : Nat) (as0 : List Opd) : opW P (.call f as0) e H c K = CallW P f (as0.map (ev e)) H c K := (rfl)
@[simp ↓] theorem opW_isnl (neg : Bool) (x : Opd) : opW P (.isnl neg x) e H c K = isnlW neg (ev e x) (Lz (fun v => K v H c) ⟨⟩) := (rfl)
@[simp ↓] theorem opW_callF (f : Nat) (as0 : List Opd) : opW P (.callF f as0) e H c K = callFW P f (as0.map (ev e)) H c K := (rfl)
@[simp ↓] theorem opW_callv (x : Opd) (as0 : List Opd) : opW P (.callv x as0) e H c K = callvW P (ev e x) (as0.map (ev e)) H c K := (rfl)
@[simp] theorem guardW_tt (r s : Prop) (u v) : guardW (.bool true) true (LzP r u) (LzP s v) = r := by simp [guardW,LzP]
@[simp] theorem guardW_ff (r s : Prop) (u v) : guardW (.bool false) false (LzP r u) (LzP s v) = r := by simp [guardW,LzP]
@[simp] theorem guardW_tf (r s : Prop) (u v) : guardW (.bool true) false (LzP r u) (LzP s v) = s := by simp [guardW,LzP]
@[simp] theorem guardW_ft (r s : Prop) (u v) : guardW (.bool false) true (LzP r u) (LzP s v) = s := by simp [guardW,LzP]
@[simp] theorem guardW_und (b : Bool) (r s : Prop) (u v) : guardW .und b (LzP r u) (LzP s v) = s := (rfl)
@[simp ↓] theorem getW_zero {α : Type} (x : α) (l : List α) (K : α → Prop) : getW (x :: l) 0 K = K x := by simp [getW]
@[simp ↓] theorem getW_succ {α : Type} (x : α) (l : List α) (n : Nat) (K : α → Prop) : getW (x :: l) (n + 1) K = getW l n K := by simp [getW]
theorem getW_of {α : Type} {l : List α} {i : Nat} {x : α} (h : l[i]? = some x) (K : α → Prop) : getW l i K = K x := by simp [getW,h]
@[simp] theorem getW_map {α β : Type} (f : α → β) (l : List α) (i : Nat) (K : β → Prop) : getW (l.map f) i K = getW l i (Lz (fun x => K (f x)) ⟨⟩) := by
  show getW (l.map f) i K = getW l i fun x => K (f x)
  simp only [getW,List.getElem?_map,eq_iff_iff]
  constructor
  · rintro ⟨x,hx,k⟩; simp at hx; obtain ⟨a,ha,rfl⟩ := hx; exact ⟨a,ha,k⟩
  · rintro ⟨a,ha,k⟩; exact ⟨f a,by simp [ha],k⟩
@[simp] theorem pickW_bool (b : Bool) (x y : AV) (K : AV → Prop) : pickW (.bool b) x y K = ((b = true → K x) ∧ (b = false → K y)) := (rfl)
@[simp] theorem boxW_agg (l : List AV) : boxW (.agg l) H c K = K (.ptr H.length c l.length 0 0) (H ++ [⟨false,c,l.length,[l]⟩]) (c + 1) := (rfl)
@[simp] theorem cellsW_agg (l : List AV) (K : List AV → Prop) : cellsW (.agg l) K = K l := (rfl)
@[simp] theorem cellsW_int (k : IntKind) (n : Int) (K : List AV → Prop) : cellsW (.int k n) K = K [.int k n] := (rfl)
@[simp] theorem cellsW_bool (b : Bool) (K : List AV → Prop) : cellsW (.bool b) K = K [.bool b] := (rfl)
@[simp] theorem cellsW_str (l : List UInt8) (K : List AV → Prop) : cellsW (.str l) K = K [.str l] := (rfl)
@[simp] theorem cellsW_ref (i t w l : Nat) (K : List AV → Prop) : cellsW (.ref i t w l) K = K [.ref i t w l] := (rfl)
@[simp] theorem cellsW_nsl (K : List AV → Prop) : cellsW .nsl K = K [.nsl] := (rfl)
@[simp] theorem rowW_none (row : List AV) (o : Nat) (K : AV → Prop) : rowW none row o K = getW row o K := (rfl)
@[simp] theorem rowW_some (n : Nat) (row : List AV) (o : Nat) (K : AV → Prop) : rowW (some n) row o K = (o + n ≤ row.length ∧ K (.agg ((row.drop o).take n))) := (rfl)
@[simp] theorem loadW_cpt (ag : Option Nat) (cells : List AV) (o : Nat) (K : AV → Prop) : loadW ag (.cpt cells o) H K = rowW ag cells o K := (rfl)
@[simp] theorem loadW_ptr (ag : Option Nat) (i tag w r o : Nat) (K : AV → Prop) : loadW ag (.ptr i tag w r o) H K = getW H i fun ob => ob.tag = tag ∧ ob.mp = false ∧ ob.w = w ∧ getW ob.rows r fun row => rowW ag row o K := (rfl)
@[simp] theorem storeW_ptr (n i tag w r o : Nat) (x : AV) : storeW n (.ptr i tag w r o) x H c K = cellsW x fun l => l.length = n ∧ getW H i fun ob => ob.tag = tag ∧ ob.mp = false ∧ ob.w = w ∧ getW ob.rows r fun row =>
      o + n ≤ w ∧ K .und (H.set i { ob with rows := ob.rows.set r (putA row o l) }) c := (rfl)
@[simp] theorem nilckW_ptr (i tag w r o : Nat) (K : AV → Prop) : nilckW (.ptr i tag w r o) K = K (.ptr i tag w r o) := (rfl)
@[simp] theorem faddrW_cpt (off : Nat) (l : List AV) (o : Nat) (K : AV → Prop) : faddrW off (.cpt l o) K = K (.cpt l (o + off)) := (rfl)
@[simp] theorem faddrW_ptr (off i tag w r o : Nat) (K : AV → Prop) : faddrW off (.ptr i tag w r o) K = K (.ptr i tag w r (o + off)) := (rfl)
@[simp] theorem iaddrW_slc (w : Nat) (k : IntKind) (n : Int) (t w' : Nat) (rows : List (List AV)) (K : AV → Prop) : iaddrW w (.slc t w' rows) (.int k n) K = (w' = w ∧ 0 ≤ n ∧ getW rows n.toNat fun row => K (.cpt row 0)) := (rfl)
@[simp] theorem iaddrW_ref (w : Nat) (k : IntKind) (n : Int) (i t w' l : Nat) (K : AV → Prop) : iaddrW w (.ref i t w' l) (.int k n) K = (w' = w ∧ 0 ≤ n ∧ n < l ∧ K (.ptr i t w n.toNat 0)) := (rfl)
@[simp] theorem indexW_str (k : IntKind) (n : Int) (l : List UInt8) (K : AV → Prop) : indexW (.str l) (.int k n) K = (0 ≤ n ∧ getW l n.toNat fun b => K (.int .u8 b.toNat)) := (rfl)
@[simp] theorem strSliceW_str (l : List UInt8) (lo hi : Option AV) (K : AV → Prop) : strSliceW (.str l) lo hi K = bndW lo 0 fun a => bndW hi l.length fun b => a ≤ b ∧ b ≤ l.length ∧ K (.str ((l.take b).drop a)) := (rfl)
@[simp] theorem slcSliceW_slc (w t w' : Nat) (rows : List (List AV)) (lo hi : Option AV) (K : AV → Prop) :
    slcSliceW w (.slc t w' rows) lo hi K = (w' = w ∧ bndW lo 0 fun a => bndW hi rows.length fun b => a ≤ b ∧ b ≤ rows.length ∧ K (.slc t w' ((rows.take b).drop a))) := (rfl)
@[simp] theorem slcSliceW_ref (w i t w' l : Nat) (lo hi : Option AV) (K : AV → Prop) :
    slcSliceW w (.ref i t w' l) lo hi K = (w' = w ∧ bndW lo 0 fun a => bndW hi l fun b => if a = 0 then b ≤ l ∧ K (.ref i t w' b) else a ≤ b ∧ b ≤ l ∧ K (.sub i t w' a (b - a))) := (rfl)
@[simp] theorem bndW_none (d : Nat) (K : Nat → Prop) : bndW none d K = K d := (rfl)
@[simp] theorem bndW_some (d : Nat) (k : IntKind) (n : Int) (K : Nat → Prop) : bndW (some (.int k n)) d K = (0 ≤ n ∧ K n.toNat) := (rfl)
@[simp] theorem lenStrW_str (l : List UInt8) (K : AV → Prop) : lenStrW (.str l) K = K (.int .i64 l.length) := (rfl)
@[simp] theorem lenSlcW_slc (t w : Nat) (rows : List (List AV)) (K : AV → Prop) : lenSlcW (.slc t w rows) K = K (.int .i64 rows.length) := (rfl)
@[simp] theorem lenSlcW_ref (i t w l : Nat) (K : AV → Prop) : lenSlcW (.ref i t w l) K = K (.int .i64 l) := (rfl)
@[simp ↓] theorem opW_isni (neg : Bool) (x : Opd) : opW P (.isni neg x) e H c K = isniW neg (ev e x) (Lz (fun v => K v H c) ⟨⟩) := (rfl)
@[simp] theorem isniW_ifc (neg b : Bool) (K : AV → Prop) : isniW neg (.ifc b) K = K (.bool (b != neg)) := (rfl)
@[simp] theorem lenSlcW_sub (i t w o l : Nat) (K : AV → Prop) : lenSlcW (.sub i t w o l) K = K (.int .i64 l) := (rfl)
@[simp] theorem iaddrW_sub (w : Nat) (k : IntKind) (n : Int) (i t w' o l : Nat) (K : AV → Prop) : iaddrW w (.sub i t w' o l) (.int k n) K = (w' = w ∧ 0 ≤ n ∧ n < l ∧ K (.ptr i t w (o + n.toNat) 0)) := (rfl)
@[simp] theorem lenSlcW_nsl (K : AV → Prop) : lenSlcW .nsl K = K (.int .i64 0) := (rfl)
@[simp] theorem extractW_tup (vs : List AV) (i : Nat) (K : AV → Prop) : extractW (.tup vs) i K = getW vs i K := (rfl)
@[simp] theorem unW_not (b : Bool) (K : AV → Prop) : unW .not (.bool b) K = K (.bool (!b)) := (rfl)
@[simp] theorem unW_neg (k : IntKind) (n : Int) (K : AV → Prop) : unW .neg (.int k n) K = K (.int k (k.wrap (0 - n))) := (rfl)
@[simp] theorem toIntW_int (k k' : IntKind) (n : Int) (K : AV → Prop) : toIntW k (.int k' n) K = K (.int k (k.wrap n)) := (rfl)
@[simp] theorem fillW_nil (l : List AV) (K : List AV → Prop) : fillW l [] K = K l := (rfl)
@[simp] theorem fillW_cons (l : List AV) (off n : Nat) (v : AV) (r : List (Nat × Nat × AV)) (K : List AV → Prop) : fillW l ((off,n,v) :: r) K = cellsW v fun m => m.length = n ∧ off + n ≤ l.length ∧ fillW (putA l off m) r K := (rfl)
@[simp] theorem bsliceW_eq (w : Nat) (z : List AV) (n : Nat) (ps : List (Nat × AV)) : bsliceW w z n ps H c K = rowsFillW (List.replicate n z) ps fun rows => K (.ref H.length c w n) (H ++ [⟨false,c,w,rows⟩]) (c + 1) := (rfl)
@[simp] theorem rowsFillW_nil (l : List (List AV)) (K : List (List AV) → Prop) : rowsFillW l [] K = K l := (rfl)
@[simp] theorem rowsFillW_cons (l : List (List AV)) (i : Nat) (v : AV) (r : List (Nat × AV)) (K : List (List AV) → Prop) : rowsFillW l ((i,v) :: r) K = cellsW v fun m => getW l i fun row => m.length = row.length ∧ rowsFillW (l.set i m) r K := (rfl)
@[simp] theorem mksliceW_int (w : Nat) (z : List AV) (b : Nat) (k k' : IntKind) (n m : Int) : mksliceW w z b (.int k n) (.int k' m) H c K =
    (0 ≤ n ∧ n ≤ m ∧ m ≤ 281474976710656 ∧ m.toNat * b ≤ 281474976710656 ∧ K (.ref H.length c w n.toNat) (H ++ [⟨false,c,w,List.replicate n.toNat z⟩]) (c + 1)) := (rfl)
@[simp] theorem binW_int (op : BinOp) (k : IntKind) (a b : Int) (h : (op != .shl && op != .shr) = true) (K : AV → Prop) : binW op (.int k a) (.int k b) K = intW op k a b K := by
  cases op <;> first | (simp at h; done) | simp [binW]
@[simp] theorem binW_str (op : BinOp) (a b : List UInt8) (K : AV → Prop) : binW op (.str a) (.str b) K = strW op a b K := (rfl)
@[simp] theorem binbW_bool (op : BinOp) (a b : Bool) (K : AV → Prop) : binbW op (.bool a) (.bool b) K = boolW op a b K := (rfl)
theorem dec_beq {α : Type} [DecidableEq α] [BEq α] [LawfulBEq α] (a b : α) : (a == b) = decide (a = b) := by
  by_cases h : a = b <;> simp [h]
@[simp] theorem intW_add (k : IntKind) (a b : Int) (K : AV → Prop) : intW .add k a b K = K (.int k (k.wrap (a + b))) := (rfl)
@[simp] theorem intW_sub (k : IntKind) (a b : Int) (K : AV → Prop) : intW .sub k a b K = K (.int k (k.wrap (a - b))) := (rfl)
@[simp] theorem intW_mul (k : IntKind) (a b : Int) (K : AV → Prop) : intW .mul k a b K = K (.int k (k.wrap (a * b))) := (rfl)
@[simp] theorem intW_quo (k : IntKind) (a b : Int) (K : AV → Prop) : intW .quo k a b K = (b ≠ 0 ∧ K (.int k (k.wrap (a.tdiv b)))) := (rfl)
@[simp] theorem intW_rem (k : IntKind) (a b : Int) (K : AV → Prop) : intW .rem k a b K = (b ≠ 0 ∧ K (.int k (a.tmod b))) := (rfl)
@[simp] theorem intW_eql (k : IntKind) (a b : Int) (K : AV → Prop) : intW .eql k a b K = K (.bool (decide (a = b))) := by rw [← dec_beq]; rfl
@[simp] theorem intW_neq (k : IntKind) (a b : Int) (K : AV → Prop) : intW .neq k a b K = K (.bool (!decide (a = b))) := by rw [← dec_beq]; rfl
@[simp] theorem intW_lss (k : IntKind) (a b : Int) (K : AV → Prop) : intW .lss k a b K = K (.bool (decide (a < b))) := (rfl)
@[simp] theorem intW_leq (k : IntKind) (a b : Int) (K : AV → Prop) : intW .leq k a b K = K (.bool (decide (a ≤ b))) := (rfl)
@[simp] theorem intW_gtr (k : IntKind) (a b : Int) (K : AV → Prop) : intW .gtr k a b K = K (.bool (decide (a > b))) := (rfl)
@[simp] theorem intW_geq (k : IntKind) (a b : Int) (K : AV → Prop) : intW .geq k a b K = K (.bool (decide (a ≥ b))) := (rfl)
@[simp] theorem strW_add (a b : List UInt8) (K : AV → Prop) : strW .add a b K = (a.length + b.length ≤ mx ∧ K (.str (a ++ b))) := (rfl)
@[simp] theorem strW_eql (a b : List UInt8) (K : AV → Prop) : strW .eql a b K = K (.bool (decide (a = b))) := by rw [← dec_beq]; rfl
@[simp] theorem strW_neq (a b : List UInt8) (K : AV → Prop) : strW .neq a b K = K (.bool (!decide (a = b))) := by rw [← dec_beq]; rfl
@[simp] theorem boolW_neq (a b : Bool) (K : AV → Prop) : boolW .neq a b K = K (.bool (!(a == b))) := (rfl)
@[simp] theorem beqW'_agg (neg : Bool) (ks : List Nat) (x y : List AV) (K : AV → Prop) : beqW' neg ks (.agg x) (.agg y) K = (fitsK ks x = true ∧ (match eqCells x y with | some b => K (.bool (b != neg)) | none => False)) := (rfl)
theorem fin_plain {Q : AV → List AObj → Nat → Prop} {v : AV} (h : Q v [] c) : finW Q v H c :=
  ⟨[],[],[],v,List.nil_sublist H,.nil,by simp,by simp [tags],.refl v,h⟩
theorem fn_of {f : Nat} {F : Fun} {args : List AV} {res : AV} (hf : compF P f = some F) (hl : args.length ≤ F.n) (h : ∀ c,irW P F.ir (retQ F.rs fun r H' _ => r = res ∧ H' = []) (env0 args) [] c) : Fnc P f args res :=
  fun c => con_of hf hl (h c)
end
def tile (P : Program) (N : Nat) : Nat → List Field → Bool
  | o,[] => o == N
  | o,f :: fs => f.offset == o && tile P N (o + P.cellsOf f.type) fs
def okRow (P : Program) (ts : List TypeId) (t : TypeId) : Bool :=
  match P.underlying t with
  | some .bool | some (.int _) | some .string => P.cellsOf t == 1
  | some (.slice e) | some (.pointer e) => P.cellsOf t == 1 && (ts.contains e && decide (0 < P.cellsOf e))
  | some (.struct fs) => (fs.toList.all fun f => ts.contains f.type) && tile P (P.cellsOf t) 0 fs.toList
  | _ => false
def okRows (P : Program) (ts : List TypeId) : Bool := ts.all (okRow P ts)
def ShC (P : Program) : Nat → TypeId → List AV → Prop
  | 0,_,_ => False
  | n + 1,t,as0 =>
    match P.underlying t with
    | some .bool => ∃ b,as0 = [.bool b]
    | some (.int k) => ∃ i,as0 = [.int k i] ∧ IOk k i
    | some .string => ∃ l,as0 = [.str l] ∧ l.length ≤ mx
    | some (.slice e) => as0 = [.nsl] ∨ ∃ tag rows,as0 = [.slc tag (P.cellsOf e) rows] ∧ rows.length ≤ mx ∧ ∀ row,row ∈ rows → ShC P n e row
    | some (.pointer e) => as0 = [.nptr] ∨ ∃ cells,as0 = [.cpt cells 0] ∧ ShC P n e cells
    | some (.struct fs) => as0.length = P.cellsOf t ∧ ∀ f,f ∈ fs.toList → ShC P n f.type ((as0.drop f.offset).take (P.cellsOf f.type))
    | _ => False
def G0 (w : World) : Gh := ⟨id,w.heap.size,fun t => t < w.heap.size⟩
theorem inv0 (w : World) (hg : ∀ b,b < NB → b < w.heap.size ∧ GL b w.heap[b]?) : Inv (G0 w) [] w.heap :=
  ⟨fun t h => ⟨h,h⟩,by simp,by simp [tags],by simp [tags],fun t t' _ _ h => h,fun b hb => ⟨(hg b hb).1,(hg b hb).1,rfl,(hg b hb).2⟩⟩
section
variable {H : Type} {enc : TypeId × Value → H} {P : Program} {w : World} {base : Nat} {sp : Nat → Bool} {held : Bool}
def Rd (w : World) (cs : List Value) (as0 : List AV) : Prop := as0.length = cs.length ∧ ∀ (j : Nat) (v : Value) (a : AV),cs[j]? = some v → as0[j]? = some a → a.cell = true ∧ Rep (G0 w) w.heap v a
theorem Rd.one {v : Value} {a : AV} (hc : a.cell = true) (r : Rep (G0 w) w.heap v a) : Rd w [v] [a] :=
  ⟨rfl,fun j v' a' h1 h2 => by
    cases j with
    | zero => simp at h1 h2; subst h1; subst h2; exact ⟨hc,r⟩
    | succ j => simp at h1⟩
theorem cells_at {a : Addr} {n : Nat} {cs : List Value} (h : w.cells? base a n = some cs) (hn : 0 < n) : a.spot = none ∧ a.block < w.heap.size ∧ cs.length = n ∧ ∀ j : Nat,j < n → ∃ v,cs[j]? = some v ∧ hcell w.heap a.block (a.off + j) = some v := by
  unfold World.cells? at h
  split at h
  · obtain ⟨hl,hg⟩ := mapM_get _ _ h
    have key : ∀ j : Nat,j < n → ∃ v,cs[j]? = some v ∧ w.cell? (a.add j) = some v := fun j hj => hg j j (by simp [hj])
    have hcell_of : ∀ (x : Addr) (v : Value),w.cell? x = some v → x.spot = none ∧ hcell w.heap x.block x.off = some v := fun x v hx => by
      unfold World.cell? at hx
      unfold hcell
      split at hx
      · split at hx
        · cases hx
        · rename_i hs; rw [‹w.heap[x.block]? = _›]; exact ⟨by simpa using hs,hx⟩
      · cases hx
    obtain ⟨v0,h0,h0'⟩ := key 0 hn
    have hs0 : a.spot = none := (hcell_of _ _ h0').1
    refine ⟨hs0,?_,by simpa using hl,fun j hj => ?_⟩
    · have := (hcell_of _ _ h0').2
      unfold hcell at this
      rcases Nat.lt_or_ge a.block w.heap.size with h | h
      · exact h
      · have e : (a.add 0).block = a.block := rfl
        rw [e,Array.getElem?_eq_none h] at this; cases this
    · obtain ⟨v,h1,h2⟩ := key j hj
      refine ⟨v,h1,?_⟩
      have := (hcell_of _ _ h2).2
      have e1 : (a.add j).block = a.block := by unfold Addr.add; split <;> rfl
      have e2 : (a.add j).off = a.off + j := by unfold Addr.add; split <;> simp_all
      rw [e1,e2] at this
      exact this
  · cases h
theorem drop_take_append {α : Type} (x y : List α) (o n : Nat) (h : x.length = o) : ((x ++ y).drop o).take n = y.take n := by
  subst h; simp
theorem read_fields {n : Nat} {ts : List TypeId} {N : Nat} {cs : List Value} (hcs : cs.length = N)
    (ih : ∀ t cs d ps,t ∈ ts → cs.length = P.cellsOf t → DataW.trod enc P w base sp held n t cs = some (d,ps) → ∃ as0,Rd w cs as0 ∧ ShC P n t as0) :
    ∀ (fs : List Field) (o : Nat) (xs : List (DataW H × List MemPlace)),tile P N o fs = true → (∀ f,f ∈ fs → f.type ∈ ts) → o ≤ N →
      fs.mapM (fun f => DataW.trod enc P w base sp held n f.type ((cs.drop f.offset).take (P.cellsOf f.type))) = some xs →
      ∀ pre : List AV,pre.length = o → ∃ as0,Rd w (cs.drop o) as0 ∧ ∀ f,f ∈ fs → ShC P n f.type (((pre ++ as0).drop f.offset).take (P.cellsOf f.type)) := by
  intro fs
  induction fs with
  | nil =>
    intro o xs ht _ ho _ pre hp
    simp [tile] at ht
    exact ⟨[],⟨by simp; omega,by simp⟩,by simp⟩
  | cons f fs ihf =>
    intro o xs ht hm ho hx pre hp
    simp only [tile,Bool.and_eq_true,beq_iff_eq] at ht
    obtain ⟨h1,h2⟩ := ht
    simp only [List.mapM_cons,Option.bind_eq_bind,Option.bind_eq_some_iff,Option.pure_def,Option.some.injEq] at hx
    obtain ⟨⟨d,ps⟩,hd,ys,hys,rfl⟩ := hx
    have hle : o + P.cellsOf f.type ≤ N := by
      have : ∀ (fs : List Field) (k : Nat),tile P N k fs = true → k ≤ N := fun fs => by
        induction fs with
        | nil => intro k h; simp [tile] at h; omega
        | cons f fs ih => intro k h; simp only [tile,Bool.and_eq_true,beq_iff_eq] at h; have := ih _ h.2; omega
      exact this fs _ h2
    have hlen : ((cs.drop f.offset).take (P.cellsOf f.type)).length = P.cellsOf f.type := by simp; omega
    obtain ⟨a1,r1,s1⟩ := ih f.type _ d ps (hm f (List.mem_cons_self ..)) hlen hd
    have la1 : a1.length = P.cellsOf f.type := r1.1.trans hlen
    obtain ⟨a2,r2,s2⟩ := ihf (o + P.cellsOf f.type) ys h2 (fun g hg => hm g (List.mem_cons_of_mem _ hg)) hle hys (pre ++ a1) (by simp [hp,la1])
    refine ⟨a1 ++ a2,⟨by have := r2.1; simp at this ⊢; omega,fun j v a hj ha => ?_⟩,fun g hg => ?_⟩
    · rw [List.getElem?_append] at ha
      split at ha
      · rename_i hlt
        refine r1.2 j v a ?_ ha
        rw [List.getElem?_take,if_pos (by omega),h1]
        exact hj
      · rename_i hge
        refine r2.2 (j - a1.length) v a ?_ ha
        rw [← hj,List.getElem?_drop,List.getElem?_drop]
        congr 1
        omega
    · rcases List.mem_cons.1 hg with rfl | hg
      · rw [h1]
        rw [drop_take_append _ _ _ _ hp,List.take_append_of_le_length (by omega),List.take_of_length_le (by omega)]
        exact s1
      · have := s2 g hg
        rwa [List.append_assoc] at this
theorem trod_read {ts : List TypeId} (hok : okRows P ts = true) : ∀ (n : Nat) (t : TypeId) (cs : List Value) (d : DataW H) (ps : List MemPlace),t ∈ ts → cs.length = P.cellsOf t → DataW.trod enc P w base sp held n t cs = some (d,ps) →
    ∃ as0,Rd w cs as0 ∧ ShC P n t as0 := by
  intro n
  induction n with
  | zero => intro t cs d ps _ _ h; simp [DataW.trod] at h
  | succ n ih =>
    intro t cs d ps ht hl h
    have hrow : okRow P ts t = true := List.all_eq_true.1 hok t ht
    unfold okRow at hrow
    unfold DataW.trod at h
    simp only [ShC]
    cases hu : P.underlying t with
    | none => rw [hu] at hrow; cases hrow
    | some desc =>
      rw [hu] at hrow h
      cases desc <;> simp only [Bool.false_eq_true] at hrow
      case bool =>
        split at h <;> first
          | (cases h; done)
          | skip
        all_goals (rename_i heq; first | (cases heq; done) | skip)
        rename_i b
        exact ⟨[.bool b],Rd.one rfl .bool,b,rfl⟩
      case int =>
        split at h <;> first
          | (cases h; done)
          | skip
        all_goals (rename_i heq; first | (cases heq; done) | skip)
        rename_i k' i
        cases heq
        split at h
        · rename_i hk
          obtain ⟨rfl,hw⟩ := hk
          have hi := (Lit.wf_int_iff _ _).1 hw
          exact ⟨[.int _ i],Rd.one rfl (.int hi),i,rfl,hi⟩
        · cases h
      case string =>
        split at h <;> first
          | (cases h; done)
          | skip
        all_goals (rename_i heq; first | (cases heq; done) | skip)
        rename_i s
        split at h
        · rename_i hk
          have hk' : s.data.toList.length ≤ mx := by
            have : s.data.toList.length = s.size := Array.length_toList
            unfold maxLen at hk; unfold mx; omega
          exact ⟨[.str s.data.toList],Rd.one rfl (.str rfl hk'),_,rfl,hk'⟩
        · cases h
      case slice e =>
        simp only [Bool.and_eq_true,List.contains_eq_mem,decide_eq_true_eq] at hrow
        replace hrow := hrow.2
        split at h <;> first
          | (cases h; done)
          | skip
        all_goals (rename_i heq; first | (cases heq; done) | skip)
        · exact ⟨[.nsl],Rd.one rfl .nsl,.inl rfl⟩
        · rename_i e' a len cap
          cases heq
          split at h
          · rename_i hk
            obtain ⟨hb,hlc,hcm⟩ := hk
            simp only [Option.bind_eq_some_iff,Option.map_eq_some_iff] at h
            obtain ⟨elems,hel,rest,_,_⟩ := h
            obtain ⟨hel1,hel2⟩ := mapM_get _ _ hel
            simp only [List.length_range] at hel1
            have hmx : len ≤ mx := by unfold maxLen at hcm; unfold mx; omega
            have hz : 0 < P.cellsOf e := hrow.2
            cases len with
            | zero => exact ⟨[.slc 0 (P.cellsOf e) []],Rd.one rfl .slc0,.inr ⟨0,[],rfl,by simp,by simp⟩⟩
            | succ len' =>
              have key : ∀ i : Nat,i < len' + 1 → ∃ (ecs : List Value) (as0 : List AV),w.cells? base (a.add (i * P.cellsOf e)) (P.cellsOf e) = some ecs ∧ Rd w ecs as0 ∧ ShC P n e as0 := fun i hi => by
                obtain ⟨⟨ed,eps⟩,_,he⟩ := hel2 i i (by simp [hi])
                simp only [Option.bind_eq_some_iff] at he
                obtain ⟨ecs,h1,h2⟩ := he
                obtain ⟨as0,r,s⟩ := ih e ecs ed eps hrow.1 (cells_at h1 hz).2.2.1 h2
                exact ⟨ecs,as0,h1,r,s⟩
              let row : Nat → List AV := fun i => if h : i < len' + 1 then Classical.choose (Classical.choose_spec (key i h)) else []
              let val : Nat → List Value := fun i => if h : i < len' + 1 then Classical.choose (key i h) else []
              have hrowv : ∀ i,i < len' + 1 → w.cells? base (a.add (i * P.cellsOf e)) (P.cellsOf e) = some (val i) ∧ Rd w (val i) (row i) ∧ ShC P n e (row i) := fun i hi => by
                simp only [row,val,dif_pos hi]
                exact Classical.choose_spec (Classical.choose_spec (key i hi))
              have h00 := cells_at (hrowv 0 (by omega)).1 hz
              have hspot : a.spot = none := by simpa [Addr.add] using h00.1
              have hblk : a.block < w.heap.size := by simpa [Addr.add] using h00.2.1
              have hget : ∀ (r : Nat) (x : List AV),((List.range (len' + 1)).map row)[r]? = some x → r < len' + 1 ∧ x = row r := fun r x h => by
                simp only [List.getElem?_map,Option.map_eq_some_iff] at h
                obtain ⟨k,hk,rfl⟩ := h
                obtain ⟨h1,h2⟩ := List.getElem?_eq_some_iff.1 hk
                simp at h1 h2
                subst h2
                exact ⟨h1,rfl⟩
              have hcellv : ∀ (r o : Nat) (x : List AV) (b : AV),((List.range (len' + 1)).map row)[r]? = some x → x[o]? = some b → ∃ v,(val r)[o]? = some v ∧ hcell w.heap a.block (a.off + r * P.cellsOf e + o) = some v ∧ b.cell = true ∧ Rep (G0 w) w.heap v b := fun r o x b hx hb => by
                obtain ⟨hr,rfl⟩ := hget r x hx
                obtain ⟨c1,r1,s1⟩ := hrowv r hr
                obtain ⟨_,_,q3,q4⟩ := cells_at c1 hz
                have ho : o < P.cellsOf e := by have := (List.getElem?_eq_some_iff.1 hb).1; have := r1.1; omega
                obtain ⟨v,v1,v2⟩ := q4 o ho
                have e1 : (a.add (r * P.cellsOf e)).block = a.block := by unfold Addr.add; split <;> rfl
                have e2 : (a.add (r * P.cellsOf e)).off = a.off + r * P.cellsOf e := by unfold Addr.add; split <;> simp_all
                rw [e1,e2] at v2
                obtain ⟨p1,p2⟩ := r1.2 o v b v1 hb
                exact ⟨v,v1,v2,p1,p2⟩
              refine ⟨[.slc a.block (P.cellsOf e) ((List.range (len' + 1)).map row)],Rd.one rfl ?_,.inr ⟨_,_,rfl,by simpa using hmx,fun x hx => ?_⟩⟩
              · have ha : a = ⟨(G0 w).m a.block,a.off,none⟩ := by cases a; simp at hspot; subst hspot; rfl
                have R : Rep (G0 w) w.heap (.slice (some ⟨(G0 w).m a.block,a.off,none⟩) ((List.range (len' + 1)).map row).length cap) (.slc a.block (P.cellsOf e) ((List.range (len' + 1)).map row)) := by
                 refine .slc (fun r o => ((val r)[o]?).getD undef) (show a.block < w.heap.size from hblk) (show a.block < w.heap.size from hblk) (by simpa using hmx) (by simpa using hlc) (fun r x hx => ?_) (fun r o x b hx hb => ?_) (fun r o x b hx hb => ?_) (fun r o x b hx hb => ?_)
                 · obtain ⟨hr,rfl⟩ := hget r x hx
                   obtain ⟨c1,r1,_⟩ := hrowv r hr
                   rw [r1.1,(cells_at c1 hz).2.2.1]
                 · obtain ⟨v,v1,v2,_,_⟩ := hcellv r o x b hx hb
                   rw [v1]; exact v2
                 · obtain ⟨v,v1,v2,v3,_⟩ := hcellv r o x b hx hb
                   exact v3
                 · obtain ⟨v,v1,v2,_,v4⟩ := hcellv r o x b hx hb
                   rw [v1]; exact v4
                have hl' : ((List.range (len' + 1)).map row).length = len' + 1 := by simp
                rw [hl',← ha] at R
                exact R
              · obtain ⟨r,hr,rfl⟩ := List.mem_iff_getElem.1 hx
                obtain ⟨hr',e⟩ := hget r _ (List.getElem?_eq_getElem hr)
                rw [e]
                exact (hrowv r hr').2.2
          · cases h
      case pointer e =>
        simp only [Bool.and_eq_true,List.contains_eq_mem,decide_eq_true_eq] at hrow
        replace hrow := hrow.2
        split at h <;> first
          | (cases h; done)
          | skip
        all_goals (rename_i heq; first | (cases heq; done) | skip)
        · exact ⟨[.nptr],Rd.one rfl .nptr,.inl rfl⟩
        · rename_i e' a
          cases heq
          simp only [Option.map_eq_some_iff,Option.bind_eq_some_iff] at h
          obtain ⟨⟨d1,p1⟩,⟨ecs,h1,h2⟩,_⟩ := h
          obtain ⟨q1,q2,q3,q4⟩ := cells_at h1 hrow.2
          obtain ⟨as0,r,s⟩ := ih e ecs d1 p1 hrow.1 q3 h2
          refine ⟨[.cpt as0 0],Rd.one rfl ?_,.inr ⟨as0,rfl,s⟩⟩
          have ha : a = ⟨(G0 w).m a.block,a.off + 0,none⟩ := by cases a; simp at q1; subst q1; rfl
          rw [ha]
          have hv : ∀ (j : Nat) (b : AV),as0[j]? = some b → ∃ v,ecs[j]? = some v ∧ hcell w.heap a.block (a.off + j) = some v ∧ b.cell = true ∧ Rep (G0 w) w.heap v b := fun j b hb => by
            obtain ⟨v,v1,v2⟩ := q4 j (by have := (List.getElem?_eq_some_iff.1 hb).1; have := r.1; omega)
            obtain ⟨p1,p2⟩ := r.2 j v b v1 hb
            exact ⟨v,v1,v2,p1,p2⟩
          refine .cpt (fun j => (ecs[j]?).getD undef) q2 q2 (fun j b hb => ?_) (fun j b hb => ?_) (fun j b hb => ?_)
          · obtain ⟨v,v1,v2,_⟩ := hv j b hb; rw [v1]; exact v2
          · obtain ⟨v,v1,v2,v3,_⟩ := hv j b hb; exact v3
          · obtain ⟨v,v1,v2,_,v4⟩ := hv j b hb; rw [v1]; exact v4
      case struct fs =>
        simp only [Bool.and_eq_true,List.all_eq_true,List.contains_eq_mem,decide_eq_true_eq] at hrow
        split at h <;> first
          | (cases h; done)
          | skip
        all_goals (rename_i heq; first | (cases heq; done) | skip)
        · cases heq
          rw [if_pos hl] at h
          simp only [Option.map_eq_some_iff] at h
          obtain ⟨xs,hxs,_⟩ := h
          obtain ⟨as0,r,s⟩ := read_fields hl ih fs.toList 0 xs hrow.2 hrow.1 (Nat.zero_le _) hxs [] rfl
          exact ⟨as0,by simpa using r,by have := r.1; simp at this; omega,fun f hf => by simpa using s f hf⟩
        · exact (‹∀ fs_1 : Array Field,some (TypeDesc.struct fs) = some (TypeDesc.struct fs_1) → False› fs rfl).elim
end
end A
end Go.Proofs.YtgalkppgeoknaaaGreatDoor
