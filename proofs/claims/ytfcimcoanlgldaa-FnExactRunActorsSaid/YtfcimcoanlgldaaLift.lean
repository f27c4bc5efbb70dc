/-
  From a contract over every shape of the arguments to the row's words. No condition.
-/
import Derived.Test.YtfcimcoanlgldaaRead
import Derived.Below
import Derived.Carry
import Derived.ChangeSame
import Derived.ProofKit
import Derived.OpenShut
namespace Go.Proofs.Ytfcimcoanlgldaa
namespace A
open Go.RowKit Go.WideShapes Go.ChangeShapes Go.ChangeAt
set_option linter.unusedVariables false
section
variable {H : Type} {enc : TypeId × Value → H} {P : Program} {w : World}

def isSt (P : Program) (t : TypeId) : Bool := match P.underlying t with | some (.struct _) => true | _ => false

/-- The shape of an argument of a type. -/
def ArgSh (P : Program) (t : TypeId) (a : AV) : Prop := ∃ n, if isSt P t then ∃ as, a = .agg as ∧ ShC P n t as else ShC P n t [a]

theorem rd_agg {cs : Array Value} {as : List AV} (r : Rd w cs.toList as) : Rep (G0 w) w.heap (.agg cs) (.agg as) := by
  have hl : cs.size = as.length := by have := r.1; simp at this; exact this.symm
  have key : ∀ (j : Nat) (a : AV), as[j]? = some a → ∃ v, cs[j]? = some v ∧ a.cell = true ∧ Rep (G0 w) w.heap v a := fun j a ha => by
    have hj := (List.getElem?_eq_some_iff.1 ha).1
    have hv : cs.toList[j]? = some (cs[j]'(by omega)) := by simp
    obtain ⟨h1, h2⟩ := r.2 j _ a hv ha
    exact ⟨_, Array.getElem?_eq_getElem (by omega), h1, h2⟩
  exact .agg hl (fun j a ha => let ⟨v, _, h, _⟩ := key j a ha; h) fun j a ha => by
    obtain ⟨v, h1, _, h2⟩ := key j a ha
    rw [getD_of h1]; exact h2

theorem arg_read {ts : List TypeId} (hok : okRows P ts = true) {t : TypeId} (ht : t ∈ ts) {base : Nat} {r : Reach} {b : Nat} {sp : Nat → Bool} {held : Bool} {v : Value} {d : DataW H} {ps : List MemPlace} (hv : Value.okWide P w r b t v) (h : DataW.Trod enc P w base sp held t v d ps) :
    ∃ a, ArgSh P t a ∧ Rep (G0 w) w.heap v a := by
  obtain ⟨n, h⟩ := h
  have hrow : okRow P ts t = true := List.all_eq_true.1 hok t ht
  have one : isSt P t = false → P.cellsOf t = 1 → v.cells = #[v] → ∃ a, ArgSh P t a ∧ Rep (G0 w) w.heap v a := fun h1 h2 h3 => by
    rw [h3] at h
    obtain ⟨as, r, s⟩ := trod_read hok n t _ d ps ht (by simp [h2]) h
    have hl := r.1
    match as, hl with
    | [a], _ => exact ⟨a, ⟨n, by rw [h1]; exact s⟩, (r.2 0 v a (by simp) (by simp)).2⟩
  unfold okRow at hrow
  unfold Value.okWide at hv
  have hcell : ∀ v, Cell.okWide P w r b t v → isSt P t = false → (match P.underlying t with | some .bool | some (.int _) | some .string | some (.slice _) | some (.pointer _) => true | _ => false) = true → v.cells = #[v] := fun v hv _ hm => by
    cases v <;> first
      | rfl
      | skip
    all_goals
      unfold Cell.okWide Cell.ok at hv
      cases hu : P.underlying t with
      | none => rw [hu] at hm; cases hm
      | some desc => rw [hu] at hm hv; cases desc <;> first | (cases hm; done) | exact hv.elim
  cases hu : P.underlying t with
  | none => rw [hu] at hrow; cases hrow
  | some desc =>
    rw [hu] at hrow hv
    cases desc <;> simp only [Bool.false_eq_true] at hrow
    case struct fs =>
      obtain ⟨cs, rfl, hsz, _⟩ := hv
      obtain ⟨as, r, s⟩ := trod_read hok n t _ d ps ht (by simpa [Value.cells] using hsz) h
      exact ⟨.agg as, ⟨n, by rw [if_pos (by simp [isSt, hu])]; exact ⟨as, rfl, s⟩⟩, rd_agg r⟩
    all_goals
      have h1 : isSt P t = false := by simp [isSt, hu]
      refine one h1 ?_ (hcell v hv h1 (by rw [hu]))
      simp only [Bool.and_eq_true, beq_iff_eq] at hrow
      first | exact hrow | exact hrow.1

/-- Arguments and their shapes. -/
inductive ArgsSh (P : Program) : List TypeId → List AV → Prop
  | nil : ArgsSh P [] []
  | cons {t : TypeId} {ts : List TypeId} {a : AV} {as : List AV} (h : ArgSh P t a) (r : ArgsSh P ts as) : ArgsSh P (t :: ts) (a :: as)

theorem args_read {rs : List TypeId} (hok : okRows P rs = true) {base : Nat} {r : Reach} {b : Nat} {sp : Nat → Bool} {held : Bool} : ∀ (ts : List TypeId) (vs : List Value) (ds : List (DataW H)) (ps : List MemPlace), (∀ t, t ∈ ts → t ∈ rs) →
    (∀ (j : Nat) t v, ts[j]? = some t → vs[j]? = some v → Value.okWide P w r b t v) → DataW.TrodAll enc P w base sp held ts vs ds ps → vs.length = ts.length ∧ ∃ as, as.length = ts.length ∧ ArgsSh P ts as ∧ ∀ (j : Nat) (v : Value) (a : AV), vs[j]? = some v → as[j]? = some a → Rep (G0 w) w.heap v a := by
  intro ts
  induction ts with
  | nil =>
    intro vs ds ps _ _ h
    obtain ⟨rfl, rfl, rfl⟩ := trodAll_nil h
    exact ⟨rfl, [], rfl, .nil, by simp⟩
  | cons t ts ih =>
    intro vs ds ps hm hv h
    obtain ⟨v, vs', d, ds', p, q, rfl, rfl, rfl, h1, h2⟩ := trodAll_cons h
    obtain ⟨a, s, ra⟩ := arg_read hok (hm t (List.mem_cons_self ..)) (hv 0 t v (by simp) (by simp)) h1
    obtain ⟨hl, as, hla, ss, rs'⟩ := ih vs' ds' q (fun t h => hm t (List.mem_cons_of_mem _ h)) (fun j t v h1 h2 => hv (j + 1) t v (by simpa using h1) (by simpa using h2)) h2
    refine ⟨by simp [hl], a :: as, by simp [hla], .cons s ss, fun j v' a' h1 h2 => ?_⟩
    cases j with
    | zero => simp at h1 h2; subst h1; subst h2; exact ra
    | succ j => exact rs' j v' a' (by simpa using h1) (by simpa using h2)

/-- A call that answers true and leaves all as it was. -/
theorem law_calls {f : Nat} {vs : Array Value} {as : List AV} (hc : Con P f as [] w.heap.size fun r H' _ => r = .bool true ∧ H' = []) (hl : vs.toList.length = as.length) (hr : ∀ (j : Nat) (v : Value) (a : AV), vs.toList[j]? = some v → as[j]? = some a → Rep (G0 w) w.heap v a) :
    Calls P f vs w fun e w' => e = .returned (.bool true) ∧ Below w.heap.size w w' := by
  refine (hc (G0 w) w vs rfl (inv0 w) (by simpa using hl) fun j a ha => ?_).mono fun e w' ⟨v, res, H', G', he, ⟨h1, h2⟩, x, I, r⟩ => ?_
  · have hj := (List.getElem?_eq_some_iff.1 ha).1
    have hv : vs.toList[j]? = some (vs[j]'(by simp at hl; omega)) := by simp
    have h1 := hr j _ a hv ha
    rw [getD_of (Array.getElem?_eq_getElem (by simp at hl; omega))]
    exact h1
  · subst h1
    cases r
    exact ⟨he, x.os, x.tape, x.output, x.size, fun k hk => x.frame k hk (by simp [tags])⟩

theorem trodAll_stays (hl : laidOutB P = true) {W W' : World} (hb : Below W.heap.size W W') {sp : Nat → Bool} : ∀ (ts : List TypeId) (vs : List Value) (ds : List (DataW H)) (ps : List MemPlace), (∀ t, t ∈ ts → P.readableRec t = true ∧ t < P.types.size) →
    (∀ p, p ∈ ps → p.block < W.heap.size) → (∀ p, p ∈ ps → sp p.block = true) → DataW.TrodAll enc P W 0 (fun _ => true) true ts vs ds ps → DataW.TrodAll enc P W' 0 sp true ts vs ds ps := by
  intro ts
  induction ts with
  | nil => intro vs ds ps _ _ _ h; obtain ⟨rfl, rfl, rfl⟩ := trodAll_nil h; exact h
  | cons t ts ih =>
    intro vs ds ps ht hlt hs h
    obtain ⟨v, vs', d, ds', p, q, rfl, rfl, rfl, h1, h2⟩ := trodAll_cons h
    obtain ⟨t1, t2⟩ := ht t (List.mem_cons_self ..)
    exact ⟨p, q, WideElems.Trod_stays hl t1 t2 h1 (fun x hx => hb.same (hlt x (List.mem_append_left _ hx))) (fun x hx => hs x (List.mem_append_left _ hx)),
      ih vs' ds' q (fun t h => ht t (List.mem_cons_of_mem _ h)) (fun x hx => hlt x (List.mem_append_right _ hx)) (fun x hx => hs x (List.mem_append_right _ hx)) h2, rfl⟩

theorem post_of_below {f : Func} {s : ChangeSpec} {apart fresh handsOn again : Bool} {W W' : World} {args : Array Value} {v : Value} {ds gs : List (DataW H)} {before pa pv : List MemPlace}
    (hW : DataW.Whole enc P f.params.toList s.vars apart W args.toList ds gs before)
    (hres : ∀ (b : Nat) (sp : Nat → Bool) (hd : Bool), DataW.TrodAll enc P W' b sp hd f.resultTypes.toList (v.resultList f.resultTypes.size) (s.fn H (ds ++ gs)).results [])
    (hargs : ∀ sp : Nat → Bool, (∀ p ∈ before, sp p.block = true) → DataW.TrodAll enc P W' 0 sp true f.params.toList args.toList (s.fn H (ds ++ gs)).args pa)
    (hvars : ∀ sp : Nat → Bool, (∀ p ∈ before, sp p.block = true) → DataW.TrodVars enc P W' sp s.vars (s.fn H (ds ++ gs)).vars pv)
    (hps : before = pa ++ pv) (hb : Below W.heap.size W W')
    (hok : ∀ (j : Nat) (t : TypeId) (r : Value), f.resultTypes[j]? = some t → (v.resultList f.resultTypes.size)[j]? = some r → Value.okWide P W' .any 0 t r) :
    s.post enc P f apart fresh handsOn again W args v W' := by
  have hlt : ∀ p ∈ before, p.block < W.heap.size := fun p hp => hW.lt p hp
  have hold : ∀ p ∈ before, (fun b => decide (b < W.heap.size)) p.block = true := fun p hp => by simpa using hlt p hp
  refine ⟨ds, gs, before, [], pa, pv, hW, hres _ _ _, hargs _ hold, hvars _ hold, World.keptBut_mono (fun p hp => ⟨hp, ?_⟩) (hb.frame (· ∈ before)), fun _ => ?_⟩
  · rw [hps, List.mem_append] at hp
    exact Or.inr hp
  · obtain ⟨_, _, _, _, _, hz, hn⟩ := hW
    refine ⟨hok, _, _, ([] ++ pa) ++ pv, ⟨[] ++ pa, pv, trodAll_append (hargs _ (fun _ _ => rfl)) (hres _ _ _), hvars _ (fun _ _ => rfl), rfl, ?_, ?_⟩, ?_⟩
    · intro b off hp
      have hin : MemPlace.cell b off ∈ before := by rw [hps]; simpa using hp
      rw [hb.frozen (hlt _ hin)]
      exact hz b off hin
    · intro ha
      have := hn ha
      rw [hps] at this
      simpa using this
    · intro p hp _
      rw [hps]
      simpa using hp

/-- The whole: what the row asks behind the call. -/
theorem law_post {f : Nat} {fn : Func} {s : ChangeSpec} {W : World} {args : Array Value} {ds gs : List (DataW H)} {before : List MemPlace} {bt : TypeId} {rs : List TypeId} {base : Nat} {fresh handsOn again : Bool}
    (hok : okRows P rs = true) (hl : laidOutB P = true) (hts : ∀ t, t ∈ fn.params.toList → t ∈ rs ∧ P.readableRec t = true ∧ t < P.types.size) (hbt : P.underlying bt = some .bool) (hres : fn.resultTypes = #[bt]) (hvars : s.vars = [])
    (hs : ∀ ds : List (DataW H), ds.length = fn.params.size → (s.fn H ds).results = [.lit (.bool true)] ∧ (s.fn H ds).args = ds ∧ (s.fn H ds).vars = [])
    (hW : DataW.Whole enc P fn.params.toList s.vars false W args.toList ds gs before)
    (hval : ∀ (j : Nat) t v, fn.params[j]? = some t → args[j]? = some v → Value.okWide P W .any base t v)
    (hcon : ∀ as, ArgsSh P fn.params.toList as → Con P f as [] W.heap.size fun r H' _ => r = .bool true ∧ H' = []) :
    Calls P f args W fun e W' => ∃ v, e = .returned v ∧ s.post enc P fn false fresh handsOn again W args v W' := by
  have hW' := hW
  obtain ⟨p, q, hA, hV, rfl, hfz, hnd⟩ := hW
  rw [hvars] at hV
  obtain ⟨rfl, rfl⟩ := trodVars_none hV
  obtain ⟨hlen, as, hla, hsh, hrep⟩ := args_read (w := W) hok fn.params.toList args.toList ds p (fun t h => (hts t h).1) (fun j t v h1 h2 => hval j t v (by simpa using h1) (by simpa using h2)) hA
  refine (law_calls (hcon as hsh) (hlen.trans hla.symm) hrep).mono fun e W' ⟨he, hb⟩ => ?_
  have hds : ds.length = fn.params.size := by
    have : ∀ (ts : List TypeId) (vs : List Value) (ds : List (DataW H)) (ps : List MemPlace), DataW.TrodAll enc P W 0 (fun _ => true) true ts vs ds ps → ds.length = ts.length := fun ts => by
      induction ts with
      | nil => intro vs ds ps h; obtain ⟨rfl, rfl, rfl⟩ := trodAll_nil h; rfl
      | cons t ts ih => intro vs ds ps h; obtain ⟨v, vs', d, ds', p, q, rfl, rfl, rfl, h1, h2⟩ := trodAll_cons h; simp [ih _ _ _ h2]
    simpa using this _ _ _ _ hA
  obtain ⟨s1, s2, s3⟩ := hs (ds ++ []) (by simpa using hds)
  refine ⟨_, he, post_of_below (pa := p) (pv := []) hW' (fun b sp hd => ?_) (fun sp hsp => ?_) (fun sp _ => ?_) (by simp) hb ?_⟩
  · rw [s1, hres]
    exact trodAll_cons_mk (shut_bool hbt _) trodAll_mk0
  · rw [s2, List.append_nil]
    exact trodAll_stays hl hb _ _ _ _ (fun t h => (hts t h).2) (fun x hx => hW'.lt x (by simpa using hx)) (fun x hx => hsp x (by simpa using hx)) hA
  · rw [s3, hvars]; rfl
  · exact ok_one hres rfl (okWide_bool_mk hbt _)
end
end A
end Go.Proofs.Ytfcimcoanlgldaa
