/-
  A function's contract out of its text. No condition.
-/
import Derived.Test.YtfcimcoanlgldaaSound
namespace Go.Proofs.Ytfcimcoanlgldaa
namespace A
set_option linter.unusedVariables false

/-- Short words for the texts. -/
def o (d : Nat) (op : IOp) : IOper := ⟨some d, op, none⟩
def st (op : IOp) : IOper := ⟨none, op, none⟩
def og (d : Nat) (op : IOp) (g : Nat) (b : Bool) : IOper := ⟨some d, op, some (g, b)⟩

inductive RV where
  | tmp (t : Nat)
  | cell (a : Nat) (ag : Option Nat)

def resW : List RV → Env → List AObj → (List AV → Prop) → Prop
  | [], _, _, K => K []
  | .tmp t :: rs, e, H, K => resW rs e H fun l => K (e t :: l)
  | .cell a ag :: rs, e, H, K => loadW ag (e a) H fun v => resW rs e H fun l => K (v :: l)

def oneOf : List AV → AV
  | [v] => v
  | l => .tup l

/-- An object, its cells seen otherwise. -/
structure RenO (S : List AObj) (o o' : AObj) : Prop where
  mp : o'.mp = o.mp
  tag : o'.tag = o.tag
  w : o'.w = o.w
  len : o'.rows.length = o.rows.length
  maps : o.mp = true → o'.rows = o.rows
  row : ∀ (r : Nat) (x x' : List AV), o.rows[r]? = some x → o'.rows[r]? = some x' → x'.length = x.length ∧ ∀ (j : Nat) (a a' : AV), x[j]? = some a → x'[j]? = some a' → a' = a ∨ (a'.cell = true ∧ View S a a')
theorem RenO.refl (S : List AObj) (o : AObj) : RenO S o o :=
  ⟨rfl, rfl, rfl, rfl, fun _ => rfl, fun r x x' h1 h2 => by rw [h1] at h2; cases h2; exact ⟨rfl, fun j a a' h3 h4 => by rw [h3] at h4; cases h4; exact .inl rfl⟩⟩
inductive Rens (S : List AObj) : List AObj → List AObj → Prop
  | nil : Rens S [] []
  | cons {o o' : AObj} {l l' : List AObj} (h : RenO S o o') (t : Rens S l l') : Rens S (o :: l) (o' :: l')
theorem Rens.refl (S : List AObj) : ∀ l, Rens S l l
  | [] => .nil
  | o :: l => .cons (.refl S o) (Rens.refl S l)
theorem Rens.tags_eq {S l l' : List AObj} (h : Rens S l l') : tags l' = tags l := by
  induction h with
  | nil => rfl
  | cons h t ih => simp only [tags, List.map_cons] at ih ⊢; rw [h.tag, ih]
theorem Rens.of_mem {S l l' : List AObj} (h : Rens S l l') {o' : AObj} (ho : o' ∈ l') : ∃ o, o ∈ l ∧ RenO S o o' := by
  induction h with
  | nil => cases ho
  | cons h t ih =>
    rcases List.mem_cons.1 ho with rfl | ho
    · exact ⟨_, List.mem_cons_self .., h⟩
    · obtain ⟨o, h1, h2⟩ := ih ho; exact ⟨o, List.mem_cons_of_mem _ h1, h2⟩

theorem ObjOk.ren {G : Gh} {H S : List AObj} {h : Array Obj} {o o' : AObj} (I : Inv G H h) (hS : ∀ o, o ∈ S → o ∈ H) (k : ObjOk G h o) (r : RenO S o o') : ObjOk (G.freeze S) h o' where
  c := by rw [r.tag]; exact k.c
  lies hm := by
    obtain ⟨c, e, fr, h1, h2, h3, h4, h5, h6⟩ := k.lies (r.mp ▸ hm)
    refine ⟨c, e, fr, by rw [r.tag]; exact h1, h2, by rw [r.len, r.w]; exact h3, by rw [r.len]; exact h4, fun i row' hr' => ?_, fun i j row' a' hr' ha' => ?_⟩
    · obtain ⟨row, hr⟩ := get_of_len r.len.symm hr'
      rw [(r.row i row row' hr hr').1, h5 i row hr, r.w]
    · obtain ⟨row, hr⟩ := get_of_len r.len.symm hr'
      obtain ⟨e1, e2⟩ := r.row i row row' hr hr'
      obtain ⟨a, ha⟩ := get_of_len e1.symm ha'
      obtain ⟨v, hv, hc, rv⟩ := h6 i j row a hr ha
      rw [r.w]
      rcases e2 j a a' ha ha' with rfl | ⟨hc', vw⟩
      · exact ⟨v, hv, hc, rv.ext (Ext1.freeze G S h)⟩
      · exact ⟨v, hv, hc', vw.rep I hS rv⟩
  mlies hm := by
    have hm' : o.mp = true := r.mp ▸ hm
    obtain ⟨es, clock, h1, h2, h3, h4⟩ := k.mlies hm'
    rw [r.tag, r.maps hm']
    refine ⟨es, clock, h1, h2, h3, fun i row hr => ?_⟩
    obtain ⟨k', v, en, e1, e2, r1, r2⟩ := h4 i row hr
    exact ⟨k', v, en, e1, e2, r1.ext (Ext1.freeze G S h), r2.ext (Ext1.freeze G S h)⟩
theorem Inv.ren {G : Gh} {H S Hk Hk' : List AObj} {h : Array Obj} (I : Inv G H h) (hsub : ∀ o, o ∈ Hk → o ∈ H) (hS : ∀ o, o ∈ S → o ∈ H) (I2 : Inv (G.freeze S) Hk h) (r : Rens S Hk Hk') : Inv (G.freeze S) Hk' h where
  fz := I2.fz
  obj o' ho' := by
    obtain ⟨o, ho, hr⟩ := r.of_mem ho'
    exact (I.obj o (hsub o ho)).ren I hS hr
  nfz := by rw [r.tags_eq]; exact I2.nfz
  nodup := by rw [r.tags_eq]; exact I2.nodup
  inj := by rw [r.tags_eq]; exact I2.inj

/-- What a function hands back, and what it leaves: Hk stays an object, S is only read from now on. -/
def finW (Q : AV → List AObj → Nat → Prop) (v : AV) (H : List AObj) (c : Nat) : Prop :=
  ∃ (S Hk Hk' : List AObj) (v' : AV), Hk.Sublist H ∧ Rens S Hk Hk' ∧ (∀ o, o ∈ S → o ∈ H) ∧ (∀ t, t ∈ tags Hk → t ∉ tags S) ∧ View S v v' ∧ Q v' Hk' c

def retQ (rs : List RV) (Q : AV → List AObj → Nat → Prop) : Post
  | .normal, e, H, c => resW rs e H fun l => finW Q (oneOf l) H c
  | .ret, e, H, c => resW rs e H fun l => finW Q (oneOf l) H c
  | _, _, _, _ => False

def compRes (P : Program) : List ResultVar → Option (List RV)
  | [] => some []
  | .tmp t :: l => do some (.tmp t :: (← compRes P l))
  | .cell a t :: l => do let ag ← agOf P t; some (.cell a ag :: (← compRes P l))

structure Fun where
  n : Nat
  ir : IR
  rs : List RV

def compF (P : Program) (f : Nat) : Option Fun := do
  let fn ← P.funcs[f]?
  let code ← fn.body
  let ir ← comp P fn.ntmps code
  let rs ← compRes P fn.results.toList
  some ⟨fn.ntmps, ir, rs⟩

def env0 (args : List AV) : Env := fun t => args.getD t .und

section
variable {P : Program} {G : Gh} {H : List AObj} {w : World} {a : Act} {e : Env}

def resOne (tmps : Array Value) : ResultVar → Sem Value
  | .tmp t => pure (tmps.getD t undef)
  | .cell x t => do loadVar t (← asAddr (tmps.getD x undef))

theorem results_eq (fn : Func) (tmps : Array Value) : results fn tmps = (do let vs ← fn.results.mapM (resOne tmps); pure (if h : vs.size = 1 then vs[0] else .tuple vs)) := by
  unfold results
  congr 1

theorem res_sound (I : Inv G H w.heap) (hE : Tmps G w.heap a e) : ∀ (l : List ResultVar) (rs : List RV) (K : List AV → Prop), compRes P l = some rs → resW rs e H K →
    ∃ (vs : List Value) (as : List AV), (l.mapM (resOne a.tmps)).run P w = .ok vs w ∧ vs.length = as.length ∧ (∀ (j : Nat) (v : Value) (b : AV), vs[j]? = some v → as[j]? = some b → Rep G w.heap v b) ∧ K as := by
  intro l
  induction l with
  | nil => intro rs K h k; simp only [compRes] at h; cases h; exact ⟨[], [], by simp, rfl, by simp, k⟩
  | cons r l ih =>
    intro rs K h k
    cases r with
    | tmp t =>
      simp only [compRes, Option.bind_eq_bind, Option.bind_eq_some_iff, Option.some.injEq] at h
      obtain ⟨rs', h', rfl⟩ := h
      obtain ⟨vs, as, h1, h2, h3, h4⟩ := ih rs' _ h' k
      refine ⟨a.tmps.getD t undef :: vs, e t :: as, ?_, by simp [h2], fun j v b hv hb => ?_, h4⟩
      · simp only [List.mapM_cons, resOne, Sem.run_bind, Sem.run_pure, Result.andThen_ok, h1]
      · cases j with
        | zero => simp only [List.getElem?_cons_zero, Option.some.injEq] at hv hb; subst hv; subst hb; exact hE t
        | succ j => exact h3 j v b (by simpa using hv) (by simpa using hb)
    | cell x t =>
      simp only [compRes, Option.bind_eq_bind, Option.bind_eq_some_iff, Option.some.injEq] at h
      obtain ⟨ag, hag, rs', h', rfl⟩ := h
      simp only [resW] at k
      obtain ⟨u, av, hu, k', r⟩ := load_pure (P := P) I hag (hE x) k
      obtain ⟨vs, as, h1, h2, h3, h4⟩ := ih rs' _ h' k'
      have hrun : (do loadVar t (← asAddr (a.tmps.getD x undef)) : Sem Value).run P w = .ok u w := by
        generalize hv : a.tmps.getD x undef = xv at hu
        cases xv <;> first
          | (rename_i p; cases p <;> first
              | exact hu
              | (simp [Instr.loadAt, Instr.sureAddr] at hu))
          | (simp [Instr.loadAt, Instr.sureAddr] at hu)
      refine ⟨u :: vs, av :: as, ?_, by simp [h2], fun j v b hv hb => ?_, h4⟩
      · have hrun' : (resOne a.tmps (.cell x t)).run P w = .ok u w := hrun
        simp only [List.mapM_cons, Sem.run_bind, hrun', Sem.run_pure, Result.andThen_ok, h1]
      · cases j with
        | zero => simp at hv hb; subst hv; subst hb; exact r
        | succ j => exact h3 j v b (by simpa using hv) (by simpa using hb)

theorem con_of {f : Nat} {F : Fun} {args : List AV} {c : Nat} {Q : AV → List AObj → Nat → Prop} (hf : compF P f = some F) (hl : args.length ≤ F.n) (hk : irW P F.ir (retQ F.rs Q) (env0 args) H c) : Con P f args H c Q := by
  unfold compF at hf
  simp only [Option.bind_eq_bind, Option.bind_eq_some_iff, Option.some.injEq] at hf
  obtain ⟨fn, hfn, code, hcode, ir, hir, rs, hrs, rfl⟩ := hf
  intro G w vs hc I hs hr
  subst hc
  have hE : Tmps G w.heap { tmps := vs ++ Array.replicate (fn.ntmps - vs.size) undef, defers := [] } (env0 args) := fun t => by
    by_cases ht : t < args.length
    · have h1 := hr t args[t] (List.getElem?_eq_getElem ht)
      have h2 : (vs ++ Array.replicate (fn.ntmps - vs.size) undef).getD t undef = vs.getD t undef := getD_of (by rw [Array.getElem?_append_left (by omega)]; exact of_getD (by omega))
      have h3 : env0 args t = args[t] := by simp [env0, ht]
      rw [h2, h3]; exact h1
    · have h2 : (vs ++ Array.replicate (fn.ntmps - vs.size) undef).getD t undef = undef := by
        by_cases h : t < (vs ++ Array.replicate (fn.ntmps - vs.size) undef).size
        · refine getD_of ?_
          rw [Array.getElem?_append_right (by omega), Array.getElem?_replicate, if_pos (by simp at h; omega)]
        · unfold Array.getD; rw [dif_neg h]
      have h3 : env0 args t = .und := by simp [env0, List.getD, List.getElem?_eq_none (Nat.le_of_not_lt ht)]
      rw [h2, h3]; exact .und
  have hl' : args.length ≤ fn.ntmps := hl
  have hst : St G H w fn.ntmps (env0 args) H G.c { tmps := vs ++ Array.replicate (fn.ntmps - vs.size) undef, defers := [] } w :=
    ⟨G, rfl, rfl, by simp; omega, hE, I, Ext.refl _ _ _⟩
  refine calls_of_wp hfn hcode (Code.wp_mono (fun ex a w' hq => ?_) (ir_sound (tags_lt I) code ir hir _ _ _ _ _ _ hst hk))
  have fin : ∀ (e : Env) (H' : List AObj) (c : Nat), resW rs e H' (fun l => finW Q (oneOf l) H' c) → St G H w fn.ntmps e H' c a w' →
      a.defers = [] ∧ ∃ v, (results fn a.tmps).run P w' = .ok v w' ∧ ∃ v' res H'' G', Ending.returned v = .returned v' ∧ Q res H'' G'.c ∧ Ext G H w G' H'' w' ∧ Inv G' H'' w'.heap ∧ Rep G' w'.heap v' res := fun e H' c q ⟨G1, hc1, hd, hsz, hE1, I1, x1⟩ => by
    subst hc1
    obtain ⟨us, as, h1, h2, h3, S, Hk, Hk', v', q1, qr, q2, q3, q4, q5⟩ := res_sound (P := P) I1 hE1 fn.results.toList rs _ hrs q
    refine ⟨hd, ?_⟩
    have hres : (results fn a.tmps).run P w' = .ok (if h : us.toArray.size = 1 then us.toArray[0] else .tuple us.toArray) w' := by
      rw [results_eq, Array.mapM_eq_mapM_toList]
      simp only [Sem.run_bind, Sem.run_map, h1, Result.andThen_ok, Sem.run_pure]
    have hrep : Rep G1 w'.heap (if h : us.toArray.size = 1 then us.toArray[0] else .tuple us.toArray) (oneOf as) := by
      match us, as, h2, h3 with
      | [], [], _, _ => exact .tup rfl (by simp)
      | [u], [b], _, h3 => exact h3 0 u b rfl rfl
      | u :: u' :: us, b :: b' :: as, h2, h3 =>
        have : ¬ (u :: u' :: us).toArray.size = 1 := by simp
        rw [dif_neg this]
        refine .tup (by simpa using h2) fun j x hj => ?_
        have hjl : j < (u :: u' :: us).length := by rw [h2]; exact (List.getElem?_eq_some_iff.1 hj).1
        have := h3 j _ x (List.getElem?_eq_getElem hjl) hj
        rw [getD_of (v := (u :: u' :: us)[j]) (by rw [List.getElem?_toArray]; exact List.getElem?_eq_getElem hjl)]
        exact this
    refine ⟨_, hres, _, v', Hk', G1.freeze S, rfl, q5, ?_, I1.ren q1.subset q2 (I1.freeze q1 q2 q3) qr, q4.rep I1 q2 hrep⟩
    have hS : ∀ t, t ∈ tags S → t ∈ tags H' := fun t ht => by obtain ⟨o, ho, rfl⟩ := of_mem_tags ht; exact mem_tags (q2 o ho)
    exact ⟨x1.x.trans (Ext1.freeze _ _ _), x1.os, x1.tape, x1.output, x1.size, x1.frame, x1.newm, fun t h1 h2 => x1.oldH t h1 ((q1.map _).subset (by rw [qr.tags_eq] at h2; exact h2)), fun t h1 h2 => by
      rcases h2 with h2 | h2
      · exact x1.oldF t h1 h2
      · exact .inr (x1.oldH t h1 (hS t h2))⟩
  obtain ⟨e, H', c, q, hs'⟩ := hq
  cases ex <;> simp only [retQ] at q <;> first
    | exact q.elim
    | exact fin e H' c q hs'
end
end A
end Go.Proofs.Ytfcimcoanlgldaa
