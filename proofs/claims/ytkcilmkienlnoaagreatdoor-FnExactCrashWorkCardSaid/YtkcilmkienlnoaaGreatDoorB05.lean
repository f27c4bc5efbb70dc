import Derived.Test.YtkcilmkienlnoaaGreatDoorB04

/-
  A function's contract out of its text. No condition.
-/

namespace Go.Proofs.YtkcilmkienlnoaaGreatDoor
namespace A
set_option linter.unusedVariables false

/-- Short words for the texts. -/
def o (d : Nat) (op : IOp) : IOper := ⟨some d, op, none⟩
def st (op : IOp) : IOper := ⟨none, op, none⟩
def og (d : Nat) (op : IOp) (g : Nat) (b : Bool) : IOper := ⟨some d, op, some (g, b)⟩

inductive RV where
  | tmp (t : Nat)
  | cell (a : Nat) (ag : Option Nat)

def resW : List RV → Env → List AObj → (List AV → Prop) → Prop
  | [], _, _, K => K []
  | .tmp t :: rs, e, H, K => resW rs e H fun l => K (e t :: l)
  | .cell a ag :: rs, e, H, K => loadW ag (e a) H fun v => resW rs e H fun l => K (v :: l)

def oneOf : List AV → AV
  | [v] => v
  | l => .tup l

/-- An object, its cells seen otherwise. -/
structure RenO (S : List AObj) (o o' : AObj) : Prop where
  mp : o'.mp = o.mp
  tag : o'.tag = o.tag
  w : o'.w = o.w
  len : o'.rows.length = o.rows.length
  maps : o.mp = true → o'.rows = o.rows
  row : ∀ (r : Nat) (x x' : List AV), o.rows[r]? = some x → o'.rows[r]? = some x' → x'.length = x.length ∧ ∀ (j : Nat) (a a' : AV), x[j]? = some a → x'[j]? = some a' → a' = a ∨ (a'.cell = true ∧ View S a a')
theorem RenO.refl (S : List AObj) (o : AObj) : RenO S o o :=
  ⟨rfl, rfl, rfl, rfl, fun _ => rfl, fun r x x' h1 h2 => by rw [h1] at h2; cases h2; exact ⟨rfl, fun j a a' h3 h4 => by rw [h3] at h4; cases h4; exact .inl rfl⟩⟩
inductive Rens (S : List AObj) : List AObj → List AObj → Prop
  | nil : Rens S [] []
  | cons {o o' : AObj} {l l' : List AObj} (h : RenO S o o') (t : Rens S l l') : Rens S (o :: l) (o' :: l')
theorem Rens.refl (S : List AObj) : ∀ l, Rens S l l
  | [] => .nil
  | o :: l => .cons (.refl S o) (Rens.refl S l)
theorem Rens.tags_eq {S l l' : List AObj} (h : Rens S l l') : tags l' = tags l := by
  induction h with
  | nil => rfl
  | cons h t ih => simp only [tags, List.map_cons] at ih ⊢; rw [h.tag, ih]
theorem Rens.of_mem {S l l' : List AObj} (h : Rens S l l') {o' : AObj} (ho : o' ∈ l') : ∃ o, o ∈ l ∧ RenO S o o' := by
  induction h with
  | nil => cases ho
  | cons h t ih =>
    rcases List.mem_cons.1 ho with rfl | ho
    · exact ⟨_, List.mem_cons_self .., h⟩
    · obtain ⟨o, h1, h2⟩ := ih ho; exact ⟨o, List.mem_cons_of_mem _ h1, h2⟩

theorem ObjOk.ren {G : Gh} {H S : List AObj} {h : Array Obj} {o o' : AObj} (I : Inv G H h) (hS : ∀ o, o ∈ S → o ∈ H) (k : ObjOk G h o) (r : RenO S o o') : ObjOk (G.freeze S) h o' where
  c := by rw [r.tag]; exact k.c
  lies hm := by
    obtain ⟨c, e, fr, h1, h2, h3, h4, h5, h6⟩ := k.lies (r.mp ▸ hm)
    refine ⟨c, e, fr, by rw [r.tag]; exact h1, by rw [r.w]; exact h2, by rw [r.len, r.w]; exact h3, by rw [r.len]; exact h4, fun i row' hr' => ?_, fun i j row' a' hr' ha' => ?_⟩
    · obtain ⟨row, hr⟩ := get_of_len r.len.symm hr'
      rw [(r.row i row row' hr hr').1, h5 i row hr, r.w]
    · obtain ⟨row, hr⟩ := get_of_len r.len.symm hr'
      obtain ⟨e1, e2⟩ := r.row i row row' hr hr'
      obtain ⟨a, ha⟩ := get_of_len e1.symm ha'
      obtain ⟨v, hv, hc, rv⟩ := h6 i j row a hr ha
      rw [r.w]
      rcases e2 j a a' ha ha' with rfl | ⟨hc', vw⟩
      · exact ⟨v, hv, hc, rv.ext (Ext1.freeze G S h)⟩
      · exact ⟨v, hv, hc', vw.rep I hS rv⟩
  mlies hm := by
    have hm' : o.mp = true := r.mp ▸ hm
    obtain ⟨es, clock, h1, h2, h3, h4⟩ := k.mlies hm'
    rw [r.tag, r.maps hm']
    refine ⟨es, clock, h1, h2, h3, fun i row hr => ?_⟩
    obtain ⟨k', v, en, e1, e2, r1, r2⟩ := h4 i row hr
    exact ⟨k', v, en, e1, e2, r1.ext (Ext1.freeze G S h), r2.ext (Ext1.freeze G S h)⟩
theorem Inv.ren {G : Gh} {H S Hk Hk' : List AObj} {h : Array Obj} (I : Inv G H h) (hsub : ∀ o, o ∈ Hk → o ∈ H) (hS : ∀ o, o ∈ S → o ∈ H) (I2 : Inv (G.freeze S) Hk h) (r : Rens S Hk Hk') : Inv (G.freeze S) Hk' h where
  fz := I2.fz
  obj o' ho' := by
    obtain ⟨o, ho, hr⟩ := r.of_mem ho'
    exact (I.obj o (hsub o ho)).ren I hS hr
  nfz := by rw [r.tags_eq]; exact I2.nfz
  nodup := by rw [r.tags_eq]; exact I2.nodup
  inj := by rw [r.tags_eq]; exact I2.inj
  gl := I2.gl

/-- What a function hands back, and what it leaves: Hk stays an object, S is only read from now on. -/
def finW (Q : AV → List AObj → Nat → Prop) (v : AV) (H : List AObj) (c : Nat) : Prop :=
  ∃ (S Hk Hk' : List AObj) (v' : AV), Hk.Sublist H ∧ Rens S Hk Hk' ∧ (∀ o, o ∈ S → o ∈ H) ∧ (∀ t, t ∈ tags Hk → t ∉ tags S) ∧ View S v v' ∧ Q v' Hk' c

def retQ (rs : List RV) (Q : AV → List AObj → Nat → Prop) : Post
  | .normal, e, H, c => resW rs e H fun l => finW Q (oneOf l) H c
  | .ret, e, H, c => resW rs e H fun l => finW Q (oneOf l) H c
  | _, _, _, _ => False

def compRes (P : Program) : List ResultVar → Option (List RV)
  | [] => some []
  | .tmp t :: l => do some (.tmp t :: (← compRes P l))
  | .cell a t :: l => do let ag ← agOf P t; some (.cell a ag :: (← compRes P l))

structure Fun where
  n : Nat
  ir : IR
  rs : List RV

def compF (P : Program) (f : Nat) : Option Fun := do
  let fn ← P.funcs[f]?
  let code ← fn.body
  let ir ← comp P fn.ntmps code
  let rs ← compRes P fn.results.toList
  some ⟨fn.ntmps, ir, rs⟩

def env0 (args : List AV) : Env := fun t => args.getD t .und

section
variable {P : Program} {G : Gh} {H : List AObj} {w : World} {a : Act} {e : Env}

def resOne (tmps : Array Value) : ResultVar → Sem Value
  | .tmp t => pure (tmps.getD t undef)
  | .cell x t => do loadVar t (← asAddr (tmps.getD x undef))

theorem results_eq (fn : Func) (tmps : Array Value) : results fn tmps = (do let vs ← fn.results.mapM (resOne tmps); pure (if h : vs.size = 1 then vs[0] else .tuple vs)) := by
  unfold results
  congr 1

theorem res_sound (I : Inv G H w.heap) (hE : Tmps G w.heap a e) : ∀ (l : List ResultVar) (rs : List RV) (K : List AV → Prop), compRes P l = some rs → resW rs e H K →
    ∃ (vs : List Value) (as0 : List AV), (l.mapM (resOne a.tmps)).run P w = .ok vs w ∧ vs.length = as0.length ∧ (∀ (j : Nat) (v : Value) (b : AV), vs[j]? = some v → as0[j]? = some b → Rep G w.heap v b) ∧ K as0 := by
  intro l
  induction l with
  | nil => intro rs K h k; simp only [compRes] at h; cases h; exact ⟨[], [], by simp, rfl, by simp, k⟩
  | cons r l ih =>
    intro rs K h k
    cases r with
    | tmp t =>
      simp only [compRes, Option.bind_eq_bind, Option.bind_eq_some_iff, Option.some.injEq] at h
      obtain ⟨rs', h', rfl⟩ := h
      obtain ⟨vs, as0, h1, h2, h3, h4⟩ := ih rs' _ h' k
      refine ⟨a.tmps.getD t undef :: vs, e t :: as0, ?_, by simp [h2], fun j v b hv hb => ?_, h4⟩
      · simp only [List.mapM_cons, resOne, Sem.run_bind, Sem.run_pure, Result.andThen_ok, h1]
      · cases j with
        | zero => simp only [List.getElem?_cons_zero, Option.some.injEq] at hv hb; subst hv; subst hb; exact hE t
        | succ j => exact h3 j v b (by simpa using hv) (by simpa using hb)
    | cell x t =>
      simp only [compRes, Option.bind_eq_bind, Option.bind_eq_some_iff, Option.some.injEq] at h
      obtain ⟨ag, hag, rs', h', rfl⟩ := h
      simp only [resW] at k
      obtain ⟨u, av, hu, k', r⟩ := load_pure (P := P) I hag (hE x) k
      obtain ⟨vs, as0, h1, h2, h3, h4⟩ := ih rs' _ h' k'
      have hrun : (do loadVar t (← asAddr (a.tmps.getD x undef)) : Sem Value).run P w = .ok u w := by
        generalize hv : a.tmps.getD x undef = xv at hu
        cases xv <;> first
          | (rename_i p; cases p <;> first
              | exact hu
              | (simp [Instr.loadAt, Instr.sureAddr] at hu))
          | (simp [Instr.loadAt, Instr.sureAddr] at hu)
      refine ⟨u :: vs, av :: as0, ?_, by simp [h2], fun j v b hv hb => ?_, h4⟩
      · have hrun' : (resOne a.tmps (.cell x t)).run P w = .ok u w := hrun
        simp only [List.mapM_cons, Sem.run_bind, hrun', Sem.run_pure, Result.andThen_ok, h1]
      · cases j with
        | zero => simp at hv hb; subst hv; subst hb; exact r
        | succ j => exact h3 j v b (by simpa using hv) (by simpa using hb)

theorem con_of {f : Nat} {F : Fun} {args : List AV} {c : Nat} {Q : AV → List AObj → Nat → Prop} (hf : compF P f = some F) (hl : args.length ≤ F.n) (hk : irW P F.ir (retQ F.rs Q) (env0 args) H c) : Con P f args H c Q := by
  unfold compF at hf
  simp only [Option.bind_eq_bind, Option.bind_eq_some_iff, Option.some.injEq] at hf
  obtain ⟨fn, hfn, code, hcode, ir, hir, rs, hrs, rfl⟩ := hf
  intro G w vs hc I hs hr
  subst hc
  have hE : Tmps G w.heap { tmps := vs ++ Array.replicate (fn.ntmps - vs.size) undef, defers := [] } (env0 args) := fun t => by
    by_cases ht : t < args.length
    · have h1 := hr t args[t] (List.getElem?_eq_getElem ht)
      have h2 : (vs ++ Array.replicate (fn.ntmps - vs.size) undef).getD t undef = vs.getD t undef := getD_of (by rw [Array.getElem?_append_left (by omega)]; exact of_getD (by omega))
      have h3 : env0 args t = args[t] := by simp [env0, ht]
      rw [h2, h3]; exact h1
    · have h2 : (vs ++ Array.replicate (fn.ntmps - vs.size) undef).getD t undef = undef := by
        by_cases h : t < (vs ++ Array.replicate (fn.ntmps - vs.size) undef).size
        · refine getD_of ?_
          rw [Array.getElem?_append_right (by omega), Array.getElem?_replicate, if_pos (by simp at h; omega)]
        · unfold Array.getD; rw [dif_neg h]
      have h3 : env0 args t = .und := by simp [env0, List.getD, List.getElem?_eq_none (Nat.le_of_not_lt ht)]
      rw [h2, h3]; exact .und
  have hl' : args.length ≤ fn.ntmps := hl
  have hst : St G H w fn.ntmps (env0 args) H G.c { tmps := vs ++ Array.replicate (fn.ntmps - vs.size) undef, defers := [] } w :=
    ⟨G, rfl, rfl, by simp; omega, hE, I, Ext.refl _ _ _⟩
  refine calls_of_wp hfn hcode (Code.wp_mono (fun ex a w' hq => ?_) (ir_sound (tags_lt I) code ir hir _ (fun _ _ _ _ q => q) _ _ _ _ _ hst hk))
  have fin : ∀ (e : Env) (H' : List AObj) (c : Nat), resW rs e H' (fun l => finW Q (oneOf l) H' c) → St G H w fn.ntmps e H' c a w' →
      a.defers = [] ∧ ∃ v, (results fn a.tmps).run P w' = .ok v w' ∧ ∃ v' res H'' G', Ending.returned v = .returned v' ∧ Q res H'' G'.c ∧ Ext G H w G' H'' w' ∧ Inv G' H'' w'.heap ∧ Rep G' w'.heap v' res := fun e H' c q ⟨G1, hc1, hd, hsz, hE1, I1, x1⟩ => by
    subst hc1
    obtain ⟨us, as0, h1, h2, h3, S, Hk, Hk', v', q1, qr, q2, q3, q4, q5⟩ := res_sound (P := P) I1 hE1 fn.results.toList rs _ hrs q
    refine ⟨hd, ?_⟩
    have hres : (results fn a.tmps).run P w' = .ok (if h : us.toArray.size = 1 then us.toArray[0] else .tuple us.toArray) w' := by
      rw [results_eq, Array.mapM_eq_mapM_toList]
      simp only [Sem.run_bind, Sem.run_map, h1, Result.andThen_ok, Sem.run_pure]
    have hrep : Rep G1 w'.heap (if h : us.toArray.size = 1 then us.toArray[0] else .tuple us.toArray) (oneOf as0) := by
      match us, as0, h2, h3 with
      | [], [], _, _ => exact .tup rfl (by simp)
      | [u], [b], _, h3 => exact h3 0 u b rfl rfl
      | u :: u' :: us, b :: b' :: as0, h2, h3 =>
        have : ¬ (u :: u' :: us).toArray.size = 1 := by simp
        rw [dif_neg this]
        refine .tup (by simpa using h2) fun j x hj => ?_
        have hjl : j < (u :: u' :: us).length := by rw [h2]; exact (List.getElem?_eq_some_iff.1 hj).1
        have := h3 j _ x (List.getElem?_eq_getElem hjl) hj
        rw [getD_of (v := (u :: u' :: us)[j]) (by rw [List.getElem?_toArray]; exact List.getElem?_eq_getElem hjl)]
        exact this
    refine ⟨_, hres, _, v', Hk', G1.freeze S, rfl, q5, ?_, I1.ren q1.subset q2 (I1.freeze q1 q2 q3) qr, q4.rep I1 q2 hrep⟩
    have hS : ∀ t, t ∈ tags S → t ∈ tags H' := fun t ht => by obtain ⟨o, ho, rfl⟩ := of_mem_tags ht; exact mem_tags (q2 o ho)
    exact ⟨x1.x.trans (Ext1.freeze _ _ _), x1.os, x1.tape, x1.output, x1.size, x1.frame, x1.newm, fun t h1 h2 => x1.oldH t h1 ((q1.map _).subset (by rw [qr.tags_eq] at h2; exact h2)), fun t h1 h2 => by
      rcases h2 with h2 | h2
      · exact x1.oldF t h1 h2
      · exact .inr (x1.oldH t h1 (hS t h2))⟩
  obtain ⟨e, H', c, q, hs'⟩ := hq
  cases ex <;> simp only [retQ] at q <;> first
    | exact q.elim
    | exact fin e H' c q hs'
end
end A
end Go.Proofs.YtkcilmkienlnoaaGreatDoor

/-
  How what is said of the small language is worked out: equations for simp. No condition.
-/

namespace Go.Proofs.YtkcilmkienlnoaaGreatDoor
namespace A
set_option linter.unusedVariables false
/-- What comes behind is left alone until it is asked for: simp does not look into what a later argument's type hangs on. -/
structure Tok {α : Sort _} (a : α) : Type where
def Lz {α : Sort _} (K : α → Prop) (_ : Tok K) : α → Prop := K
def Lz3 {α β γ : Sort _} (K : α → β → γ → Prop) (_ : Tok K) : α → β → γ → Prop := K
def LzP (p : Prop) (_ : Tok p) : Prop := p
@[simp] theorem Lz_app {α : Sort _} (K : α → Prop) (u : Tok K) (v : α) : Lz K u v = K v := (rfl)
@[simp] theorem Lz3_app {α β γ : Sort _} (K : α → β → γ → Prop) (u : Tok K) (v : α) (x : β) (y : γ) : Lz3 K u v x y = K v x y := (rfl)

section
variable {P : Program} {e : Env} {H : List AObj} {c : Nat} {K : AV → List AObj → Nat → Prop} {Q : Post}

@[simp] theorem ev_t (n : Nat) : ev e (.t n) = e n := (rfl)
@[simp] theorem ev_c (v : AV) : ev e (.c v) = v := (rfl)
theorem upd_at {α : Type} (f : Nat → α) (i j : Nat) (v : α) : upd f i v j = if j = i then v else f j := (rfl)
@[simp] theorem upd_other {α : Type} (f : Nat → α) (i j : Nat) (v : α) (h : (j == i) = false) : upd f i v j = f j := by
  rw [upd_at, if_neg (by simpa using h)]

@[simp] theorem env0_0 (a : AV) (l : List AV) : env0 (a :: l) 0 = a := (rfl)
@[simp] theorem env0_1 (a b : AV) (l : List AV) : env0 (a :: b :: l) 1 = b := (rfl)
@[simp] theorem env0_2 (a b d : AV) (l : List AV) : env0 (a :: b :: d :: l) 2 = d := (rfl)
@[simp] theorem env0_3 (a b d f : AV) (l : List AV) : env0 (a :: b :: d :: f :: l) 3 = f := (rfl)
@[simp] theorem env0_4 (a b d f g : AV) (l : List AV) : env0 (a :: b :: d :: f :: g :: l) 4 = g := (rfl)

@[simp ↓] theorem opsW_nil (K : Env → List AObj → Nat → Prop) : opsW P [] e H c K = K e H c := (rfl)
@[simp ↓] theorem opsW_o (d : Nat) (op : IOp) (l : List IOper) (K : Env → List AObj → Nat → Prop) : opsW P (o d op :: l) e H c K = opW P op e H c (Lz3 (fun v H' c' => opsW P l (upd e d v) H' c' K) ⟨⟩) := (rfl)
@[simp ↓] theorem opsW_st (op : IOp) (l : List IOper) (K : Env → List AObj → Nat → Prop) : opsW P (st op :: l) e H c K = opW P op e H c (Lz3 (fun _ H' c' => opsW P l e H' c' K) ⟨⟩) := (rfl)
@[simp ↓] theorem opsW_og (d : Nat) (op : IOp) (g : Nat) (b : Bool) (l : List IOper) (K : Env → List AObj → Nat → Prop) :
    opsW P (og d op g b :: l) e H c K = guardW (e g) b (LzP (opW P op e H c (Lz3 (fun v H' c' => opsW P l (upd e d v) H' c' K) ⟨⟩)) ⟨⟩) (LzP (opsW P l (upd e d .und) H c K) ⟨⟩) := (rfl)

@[simp ↓] theorem opsD_nil (R : Nat → AV → Prop) (K : Env → Prop) : opsD P R [] e H c K = K e := (rfl)
@[simp ↓] theorem opsD_o (R : Nat → AV → Prop) (d : Nat) (op : IOp) (l : List IOper) (K : Env → Prop) : opsD P R (o d op :: l) e H c K = opD P (R d) op e H c (Lz (fun v => opsD P R l (upd e d v) H c K) ⟨⟩) := (rfl)
@[simp ↓] theorem opsD_st (R : Nat → AV → Prop) (op : IOp) (l : List IOper) (K : Env → Prop) : opsD P R (st op :: l) e H c K = opD P (R 0) op e H c (Lz (fun _ => opsD P R l e H c K) ⟨⟩) := (rfl)
@[simp ↓] theorem opsD_og (R : Nat → AV → Prop) (d : Nat) (op : IOp) (g : Nat) (b : Bool) (l : List IOper) (K : Env → Prop) :
    opsD P R (og d op g b :: l) e H c K = guardW (e g) b (LzP (opD P (R d) op e H c (Lz (fun v => opsD P R l (upd e d v) H c K) ⟨⟩)) ⟨⟩) (LzP (opsD P R l (upd e d .und) H c K) ⟨⟩) := (rfl)
@[simp ↓] theorem opD_callF (R : AV → Prop) (f : Nat) (as0 : List Opd) (K : AV → Prop) : opD P R (.callF f as0) e H c K = callD P R f (as0.map (ev e)) H c K := (rfl)
@[simp ↓] theorem opD_mv (R : AV → Prop) (x : Opd) (K : AV → Prop) : opD P R (.mv x) e H c K = opW P (.mv x) e H c (Lz3 (fun v _ _ => K v) ⟨⟩) := (rfl)
@[simp ↓] theorem opD_pick (R : AV → Prop) (x a b : Opd) (K : AV → Prop) : opD P R (.pick x a b) e H c K = opW P (.pick x a b) e H c (Lz3 (fun v _ _ => K v) ⟨⟩) := (rfl)
@[simp ↓] theorem opD_load (R : AV → Prop) (ag : Option Nat) (x : Opd) (K : AV → Prop) : opD P R (.load ag x) e H c K = opW P (.load ag x) e H c (Lz3 (fun v _ _ => K v) ⟨⟩) := (rfl)
@[simp ↓] theorem opD_nilck (R : AV → Prop) (x : Opd) (K : AV → Prop) : opD P R (.nilck x) e H c K = opW P (.nilck x) e H c (Lz3 (fun v _ _ => K v) ⟨⟩) := (rfl)
@[simp ↓] theorem opD_bin (R : AV → Prop) (b : BinOp) (x y : Opd) (K : AV → Prop) : opD P R (.bin b x y) e H c K = opW P (.bin b x y) e H c (Lz3 (fun v _ _ => K v) ⟨⟩) := (rfl)
@[simp ↓] theorem opD_binb (R : AV → Prop) (b : BinOp) (x y : Opd) (K : AV → Prop) : opD P R (.binb b x y) e H c K = opW P (.binb b x y) e H c (Lz3 (fun v _ _ => K v) ⟨⟩) := (rfl)
@[simp ↓] theorem opD_beq (R : AV → Prop) (n : Bool) (ks : List Nat) (x y : Opd) (K : AV → Prop) : opD P R (.beq n ks x y) e H c K = opW P (.beq n ks x y) e H c (Lz3 (fun v _ _ => K v) ⟨⟩) := (rfl)
@[simp ↓] theorem opD_un (R : AV → Prop) (b : UnOp) (x : Opd) (K : AV → Prop) : opD P R (.un b x) e H c K = opW P (.un b x) e H c (Lz3 (fun v _ _ => K v) ⟨⟩) := (rfl)
@[simp ↓] theorem opD_toInt (R : AV → Prop) (k : IntKind) (x : Opd) (K : AV → Prop) : opD P R (.toInt k x) e H c K = opW P (.toInt k x) e H c (Lz3 (fun v _ _ => K v) ⟨⟩) := (rfl)
@[simp ↓] theorem opD_toStr (R : AV → Prop) (x : Opd) (K : AV → Prop) : opD P R (.toStr x) e H c K = opW P (.toStr x) e H c (Lz3 (fun v _ _ => K v) ⟨⟩) := (rfl)
@[simp ↓] theorem opD_mkfn (R : AV → Prop) (f : Nat) (l : List Opd) (K : AV → Prop) : opD P R (.mkfn f l) e H c K = opW P (.mkfn f l) e H c (Lz3 (fun v _ _ => K v) ⟨⟩) := (rfl)
@[simp ↓] theorem opD_sliceS (R : AV → Prop) (x : Opd) (l h : Option Opd) (K : AV → Prop) : opD P R (.sliceS x l h) e H c K = opW P (.sliceS x l h) e H c (Lz3 (fun v _ _ => K v) ⟨⟩) := (rfl)
@[simp ↓] theorem opD_slice (R : AV → Prop) (w : Nat) (x : Opd) (l h : Option Opd) (K : AV → Prop) : opD P R (.slice w x l h) e H c K = opW P (.slice w x l h) e H c (Lz3 (fun v _ _ => K v) ⟨⟩) := (rfl)
@[simp ↓] theorem opD_faddr (R : AV → Prop) (k : Nat) (x : Opd) (K : AV → Prop) : opD P R (.faddr k x) e H c K = opW P (.faddr k x) e H c (Lz3 (fun v _ _ => K v) ⟨⟩) := (rfl)
@[simp ↓] theorem opD_field (R : AV → Prop) (k : Nat) (ag : Option Nat) (x : Opd) (K : AV → Prop) : opD P R (.field k ag x) e H c K = opW P (.field k ag x) e H c (Lz3 (fun v _ _ => K v) ⟨⟩) := (rfl)
@[simp ↓] theorem opD_iaddr (R : AV → Prop) (w : Nat) (x i : Opd) (K : AV → Prop) : opD P R (.iaddr w x i) e H c K = opW P (.iaddr w x i) e H c (Lz3 (fun v _ _ => K v) ⟨⟩) := (rfl)
@[simp ↓] theorem opD_index (R : AV → Prop) (x i : Opd) (K : AV → Prop) : opD P R (.index x i) e H c K = opW P (.index x i) e H c (Lz3 (fun v _ _ => K v) ⟨⟩) := (rfl)
@[simp ↓] theorem opD_lookup (R : AV → Prop) (d : Nat) (z : AV) (k : Bool) (m x : Opd) (K : AV → Prop) : opD P R (.lookup d z k m x) e H c K = opW P (.lookup d z k m x) e H c (Lz3 (fun v _ _ => K v) ⟨⟩) := (rfl)
@[simp ↓] theorem opD_lenS (R : AV → Prop) (x : Opd) (K : AV → Prop) : opD P R (.lenS x) e H c K = opW P (.lenS x) e H c (Lz3 (fun v _ _ => K v) ⟨⟩) := (rfl)
@[simp ↓] theorem opD_lenL (R : AV → Prop) (x : Opd) (K : AV → Prop) : opD P R (.lenL x) e H c K = opW P (.lenL x) e H c (Lz3 (fun v _ _ => K v) ⟨⟩) := (rfl)
@[simp ↓] theorem opD_lenM (R : AV → Prop) (x : Opd) (K : AV → Prop) : opD P R (.lenM x) e H c K = opW P (.lenM x) e H c (Lz3 (fun v _ _ => K v) ⟨⟩) := (rfl)
@[simp ↓] theorem opD_extract (R : AV → Prop) (x : Opd) (i : Nat) (K : AV → Prop) : opD P R (.extract x i) e H c K = opW P (.extract x i) e H c (Lz3 (fun v _ _ => K v) ⟨⟩) := (rfl)
@[simp ↓] theorem irW_draw (ops : List IOper) : irW P (.draw ops) Q e H c = ∃ R, opsD P R ops e H c fun e' => ∀ c', c ≤ c' → Q .normal e' H c' := (rfl)
@[simp ↓] theorem irW_skip : irW P .skip Q e H c = Q .normal e H c := (rfl)
@[simp ↓] theorem irW_reg (ops : List IOper) : irW P (.reg ops) Q e H c = opsW P ops e H c (Q .normal) := (rfl)
@[simp ↓] theorem irW_seq (a b : IR) : irW P (.seq a b) Q e H c = irW P a (thenQ (irW P b Q) Q) e H c := (rfl)
@[simp ↓] theorem irW_cond (x : Opd) (a b : IR) : irW P (.cond x a b) Q e H c = condW (ev e x) (LzP (irW P a Q e H c) ⟨⟩) (LzP (irW P b Q e H c) ⟨⟩) := (rfl)
@[simp ↓] theorem irW_block (id : Nat) (b : IR) : irW P (.block id b) Q e H c = irW P b (blockQ id Q) e H c := (rfl)
@[simp ↓] theorem irW_exit (id : Nat) : irW P (.exit id) Q e H c = Q (.exit id) e H c := (rfl)
@[simp ↓] theorem irW_ret : irW P .ret Q e H c = Q .ret e H c := (rfl)
@[simp ↓] theorem irW_alt (a b : IR) : irW P (.alt a b) Q e H c = (irW P a Q e H c ∧ irW P b Q e H c) := (rfl)
@[simp] theorem condW_bool (t : Bool) (a b : Prop) (u v) : condW (.bool t) (LzP a u) (LzP b v) = ((t = true → a) ∧ (t = false → b)) := (rfl)

@[simp] theorem thenQ_normal (N : Env → List AObj → Nat → Prop) : thenQ N Q .normal e H c = N e H c := (rfl)
@[simp] theorem thenQ_normal' (N : Env → List AObj → Nat → Prop) : thenQ N Q .normal = N := (rfl)
@[simp] theorem thenQ_ret (N : Env → List AObj → Nat → Prop) : thenQ N Q .ret = Q .ret := (rfl)
@[simp] theorem thenQ_exit (N : Env → List AObj → Nat → Prop) (i : Nat) : thenQ N Q (.exit i) = Q (.exit i) := (rfl)
@[simp] theorem blockQ_normal (id : Nat) : blockQ id Q .normal = Q .normal := (rfl)
@[simp] theorem blockQ_ret (id : Nat) : blockQ id Q .ret = Q .ret := (rfl)
@[simp] theorem blockQ_exit (id i : Nat) : blockQ id Q (.exit i) e H c = (if i = id then Q .normal e H c else Q (.exit i) e H c) := (rfl)
@[simp] theorem retQ_ret (rs : List RV) (R : AV → List AObj → Nat → Prop) : retQ rs R .ret e H c = resW rs e H fun l => finW R (oneOf l) H c := (rfl)
@[simp] theorem retQ_normal (rs : List RV) (R : AV → List AObj → Nat → Prop) : retQ rs R .normal e H c = resW rs e H fun l => finW R (oneOf l) H c := (rfl)
@[simp] theorem resW_nil (R : List AV → Prop) : resW [] e H R = R [] := (rfl)
@[simp] theorem resW_tmp (t : Nat) (rs : List RV) (R : List AV → Prop) : resW (.tmp t :: rs) e H R = resW rs e H fun l => R (e t :: l) := (rfl)
@[simp] theorem resW_cell (a : Nat) (ag : Option Nat) (rs : List RV) (R : List AV → Prop) : resW (.cell a ag :: rs) e H R = loadW ag (e a) H fun v => resW rs e H fun l => R (v :: l) := (rfl)
@[simp] theorem oneOf_one (v : AV) : oneOf [v] = v := (rfl)
@[simp] theorem oneOf_two (v u : AV) (l : List AV) : oneOf (v :: u :: l) = .tup (v :: u :: l) := (rfl)

@[simp ↓] theorem opW_mv (x : Opd) : opW P (.mv x) e H c K = K (ev e x) H c := (rfl)
@[simp ↓] theorem opW_pick (x a b : Opd) : opW P (.pick x a b) e H c K = pickW (ev e x) (ev e a) (ev e b) (Lz (fun v => K v H c) ⟨⟩) := (rfl)
@[simp ↓] theorem opW_new (w : Nat) (z : List AV) : opW P (.new w z) e H c K = K (.ptr H.length c w 0 0) (H ++ [⟨false, c, w, [z]⟩]) (c + 1) := (rfl)
@[simp ↓] theorem opW_box (w : Nat) (x : Opd) : opW P (.box w x) e H c K = boxW (ev e x) H c K := (rfl)
@[simp ↓] theorem opW_build (z : List AV) (ps : List (Nat × Nat × Opd)) : opW P (.build z ps) e H c K = fillW z (ps.map fun (o, n, x) => (o, n, ev e x)) fun l => K (.agg l) H c := (rfl)
@[simp ↓] theorem opW_bslice (w : Nat) (z : List AV) (n : Nat) (ps : List (Nat × Opd)) : opW P (.bslice w z n ps) e H c K = bsliceW w z n (ps.map fun (i, x) => (i, ev e x)) H c K := (rfl)
@[simp ↓] theorem opW_load (ag : Option Nat) (x : Opd) : opW P (.load ag x) e H c K = loadW ag (ev e x) H (Lz (fun v => K v H c) ⟨⟩) := (rfl)
@[simp ↓] theorem opW_loadC (ag : Option Nat) (x : Opd) : opW P (.loadC ag x) e H c K = loadCW ag (ev e x) (Lz (fun v => K v H c) ⟨⟩) := (rfl)
@[simp ↓] theorem opW_chk (ag : Option Nat) (x y : Opd) : opW P (.chk ag x y) e H c K = loadW ag (ev e x) H (Lz (fun v => v = ev e y ∧ K .und H c) ⟨⟩) := (rfl)
@[simp] theorem loadCW_cpt (ag : Option Nat) (cells : List AV) (o : Nat) (K : AV → Prop) : loadCW ag (.cpt cells o) K = rowW ag cells o K := (rfl)
@[simp ↓] theorem opW_store (n : Nat) (a x : Opd) : opW P (.store n a x) e H c K = storeW n (ev e a) (ev e x) H c K := (rfl)
@[simp ↓] theorem opW_nilck (x : Opd) : opW P (.nilck x) e H c K = nilckW (ev e x) (Lz (fun v => K v H c) ⟨⟩) := (rfl)
@[simp ↓] theorem opW_bin (op : BinOp) (x y : Opd) : opW P (.bin op x y) e H c K = binW op (ev e x) (ev e y) (Lz (fun v => K v H c) ⟨⟩) := (rfl)
@[simp ↓] theorem opW_binb (op : BinOp) (x y : Opd) : opW P (.binb op x y) e H c K = binbW op (ev e x) (ev e y) (Lz (fun v => K v H c) ⟨⟩) := (rfl)
@[simp ↓] theorem opW_beq (n : Bool) (ks : List Nat) (x y : Opd) : opW P (.beq n ks x y) e H c K = beqW' n ks (ev e x) (ev e y) (Lz (fun v => K v H c) ⟨⟩) := (rfl)
@[simp ↓] theorem opW_un (op : UnOp) (x : Opd) : opW P (.un op x) e H c K = unW op (ev e x) (Lz (fun v => K v H c) ⟨⟩) := (rfl)
@[simp ↓] theorem opW_toInt (k : IntKind) (x : Opd) : opW P (.toInt k x) e H c K = toIntW k (ev e x) (Lz (fun v => K v H c) ⟨⟩) := (rfl)
@[simp ↓] theorem opW_toStr (x : Opd) : opW P (.toStr x) e H c K = toStrW (ev e x) H (Lz (fun v => K v H c) ⟨⟩) := (rfl)
@[simp ↓] theorem opW_toBytes (x : Opd) : opW P (.toBytes x) e H c K = toBytesW (ev e x) H c K := (rfl)
@[simp ↓] theorem opW_mkfn (f : Nat) (l : List Opd) : opW P (.mkfn f l) e H c K = K (.fn f (l.map (ev e))) H c := (rfl)
@[simp ↓] theorem opW_mkmap : opW P .mkmap e H c K = K (.mref H.length c) (H ++ [⟨true, c, 0, []⟩]) (c + 1) := (rfl)
@[simp ↓] theorem opW_mkslice (w : Nat) (z : List AV) (b : Nat) (l x : Opd) : opW P (.mkslice w z b l x) e H c K = mksliceW w z b (ev e l) (ev e x) H c K := (rfl)
@[simp ↓] theorem opW_sliceS (x : Opd) (l h : Option Opd) : opW P (.sliceS x l h) e H c K = strSliceW (ev e x) (l.map (ev e)) (h.map (ev e)) (Lz (fun v => K v H c) ⟨⟩) := (rfl)
@[simp ↓] theorem opW_slice (w : Nat) (x : Opd) (l h : Option Opd) : opW P (.slice w x l h) e H c K = slcSliceW w (ev e x) (l.map (ev e)) (h.map (ev e)) (Lz (fun v => K v H c) ⟨⟩) := (rfl)
@[simp ↓] theorem opW_faddr (o : Nat) (x : Opd) : opW P (.faddr o x) e H c K = faddrW o (ev e x) (Lz (fun v => K v H c) ⟨⟩) := (rfl)
@[simp ↓] theorem opW_field (o : Nat) (ag : Option Nat) (x : Opd) : opW P (.field o ag x) e H c K = fieldW o ag (ev e x) (Lz (fun v => K v H c) ⟨⟩) := (rfl)
@[simp ↓] theorem opW_iaddr (w : Nat) (x i : Opd) : opW P (.iaddr w x i) e H c K = iaddrW w (ev e x) (ev e i) (Lz (fun v => K v H c) ⟨⟩) := (rfl)
@[simp ↓] theorem opW_index (x i : Opd) : opW P (.index x i) e H c K = indexW (ev e x) (ev e i) (Lz (fun v => K v H c) ⟨⟩) := (rfl)
@[simp ↓] theorem opW_lookup (d : Nat) (z : AV) (k : Bool) (m x : Opd) : opW P (.lookup d z k m x) e H c K = lookupW (keyD d) z k (ev e m) (ev e x) H (Lz (fun v => K v H c) ⟨⟩) := (rfl)
@[simp ↓] theorem opW_mupd (d : Nat) (m k v : Opd) : opW P (.mupd d m k v) e H c K = mupdW (keyD d) (ev e m) (ev e k) (ev e v) H c K := (rfl)
@[simp ↓] theorem opW_lenS (x : Opd) : opW P (.lenS x) e H c K = lenStrW (ev e x) (Lz (fun v => K v H c) ⟨⟩) := (rfl)
@[simp ↓] theorem opW_lenL (x : Opd) : opW P (.lenL x) e H c K = lenSlcW (ev e x) (Lz (fun v => K v H c) ⟨⟩) := (rfl)
@[simp ↓] theorem opW_lenM (x : Opd) : opW P (.lenM x) e H c K = lenMapW (ev e x) H (Lz (fun v => K v H c) ⟨⟩) := (rfl)
@[simp ↓] theorem opW_append (w b : Nat) (x y : Opd) : opW P (.append w b x y) e H c K = appendW w b (ev e x) (ev e y) H c K := (rfl)
@[simp ↓] theorem opW_extract (x : Opd) (i : Nat) : opW P (.extract x i) e H c K = extractW (ev e x) i (Lz (fun v => K v H c) ⟨⟩) := (rfl)
@[simp ↓] theorem opW_call (f : Nat) (as0 : List Opd) : opW P (.call f as0) e H c K = CallW P f (as0.map (ev e)) H c K := (rfl)
@[simp ↓] theorem opW_isnl (neg : Bool) (x : Opd) : opW P (.isnl neg x) e H c K = isnlW neg (ev e x) (Lz (fun v => K v H c) ⟨⟩) := (rfl)
@[simp ↓] theorem opW_callF (f : Nat) (as0 : List Opd) : opW P (.callF f as0) e H c K = callFW P f (as0.map (ev e)) H c K := (rfl)
@[simp ↓] theorem opW_callv (x : Opd) (as0 : List Opd) : opW P (.callv x as0) e H c K = callvW P (ev e x) (as0.map (ev e)) H c K := (rfl)

@[simp] theorem guardW_tt (r s : Prop) (u v) : guardW (.bool true) true (LzP r u) (LzP s v) = r := by simp [guardW, LzP]
@[simp] theorem guardW_ff (r s : Prop) (u v) : guardW (.bool false) false (LzP r u) (LzP s v) = r := by simp [guardW, LzP]
@[simp] theorem guardW_tf (r s : Prop) (u v) : guardW (.bool true) false (LzP r u) (LzP s v) = s := by simp [guardW, LzP]
@[simp] theorem guardW_ft (r s : Prop) (u v) : guardW (.bool false) true (LzP r u) (LzP s v) = s := by simp [guardW, LzP]
@[simp] theorem guardW_und (b : Bool) (r s : Prop) (u v) : guardW .und b (LzP r u) (LzP s v) = s := (rfl)

@[simp ↓] theorem getW_zero {α : Type} (x : α) (l : List α) (K : α → Prop) : getW (x :: l) 0 K = K x := by simp [getW]
@[simp ↓] theorem getW_succ {α : Type} (x : α) (l : List α) (n : Nat) (K : α → Prop) : getW (x :: l) (n + 1) K = getW l n K := by simp [getW]
theorem getW_of {α : Type} {l : List α} {i : Nat} {x : α} (h : l[i]? = some x) (K : α → Prop) : getW l i K = K x := by simp [getW, h]
@[simp] theorem getW_map {α β : Type} (f : α → β) (l : List α) (i : Nat) (K : β → Prop) : getW (l.map f) i K = getW l i (Lz (fun x => K (f x)) ⟨⟩) := by
  show getW (l.map f) i K = getW l i fun x => K (f x)
  simp only [getW, List.getElem?_map, eq_iff_iff]
  constructor
  · rintro ⟨x, hx, k⟩; simp at hx; obtain ⟨a, ha, rfl⟩ := hx; exact ⟨a, ha, k⟩
  · rintro ⟨a, ha, k⟩; exact ⟨f a, by simp [ha], k⟩

@[simp] theorem pickW_bool (b : Bool) (x y : AV) (K : AV → Prop) : pickW (.bool b) x y K = ((b = true → K x) ∧ (b = false → K y)) := (rfl)
@[simp] theorem boxW_agg (l : List AV) : boxW (.agg l) H c K = K (.ptr H.length c l.length 0 0) (H ++ [⟨false, c, l.length, [l]⟩]) (c + 1) := (rfl)
@[simp] theorem boxW_int (k : IntKind) (n : Int) : boxW (.int k n) H c K = K (.ptr H.length c 1 0 0) (H ++ [⟨false, c, 1, [[.int k n]]⟩]) (c + 1) := (rfl)
@[simp] theorem boxW_bool (b : Bool) : boxW (.bool b) H c K = K (.ptr H.length c 1 0 0) (H ++ [⟨false, c, 1, [[.bool b]]⟩]) (c + 1) := (rfl)
@[simp] theorem boxW_str (l : List UInt8) : boxW (.str l) H c K = K (.ptr H.length c 1 0 0) (H ++ [⟨false, c, 1, [[.str l]]⟩]) (c + 1) := (rfl)
@[simp] theorem boxW_slc (t w : Nat) (r : List (List AV)) : boxW (.slc t w r) H c K = K (.ptr H.length c 1 0 0) (H ++ [⟨false, c, 1, [[.slc t w r]]⟩]) (c + 1) := (rfl)
@[simp] theorem cellsW_agg (l : List AV) (K : List AV → Prop) : cellsW (.agg l) K = K l := (rfl)
@[simp] theorem cellsW_int (k : IntKind) (n : Int) (K : List AV → Prop) : cellsW (.int k n) K = K [.int k n] := (rfl)
@[simp] theorem cellsW_bool (b : Bool) (K : List AV → Prop) : cellsW (.bool b) K = K [.bool b] := (rfl)
@[simp] theorem cellsW_str (l : List UInt8) (K : List AV → Prop) : cellsW (.str l) K = K [.str l] := (rfl)
@[simp] theorem cellsW_slc (t w : Nat) (r : List (List AV)) (K : List AV → Prop) : cellsW (.slc t w r) K = K [.slc t w r] := (rfl)
@[simp] theorem cellsW_ref (i t w l : Nat) (K : List AV → Prop) : cellsW (.ref i t w l) K = K [.ref i t w l] := (rfl)
@[simp] theorem cellsW_nsl (K : List AV → Prop) : cellsW .nsl K = K [.nsl] := (rfl)
@[simp] theorem cellsW_ptr (i t w r o : Nat) (K : List AV → Prop) : cellsW (.ptr i t w r o) K = K [.ptr i t w r o] := (rfl)
@[simp] theorem rowW_none (row : List AV) (o : Nat) (K : AV → Prop) : rowW none row o K = getW row o K := (rfl)
@[simp] theorem rowW_some (n : Nat) (row : List AV) (o : Nat) (K : AV → Prop) : rowW (some n) row o K = (o + n ≤ row.length ∧ K (.agg ((row.drop o).take n))) := (rfl)
@[simp] theorem loadW_cpt (ag : Option Nat) (cells : List AV) (o : Nat) (K : AV → Prop) : loadW ag (.cpt cells o) H K = rowW ag cells o K := (rfl)
@[simp] theorem loadW_ptr (ag : Option Nat) (i tag w r o : Nat) (K : AV → Prop) : loadW ag (.ptr i tag w r o) H K = getW H i fun ob => ob.tag = tag ∧ ob.mp = false ∧ ob.w = w ∧ getW ob.rows r fun row => rowW ag row o K := (rfl)
@[simp] theorem storeW_ptr (n i tag w r o : Nat) (x : AV) : storeW n (.ptr i tag w r o) x H c K = cellsW x fun l => l.length = n ∧ getW H i fun ob => ob.tag = tag ∧ ob.mp = false ∧ ob.w = w ∧ getW ob.rows r fun row =>
      o + n ≤ w ∧ K .und (H.set i { ob with rows := ob.rows.set r (putA row o l) }) c := (rfl)
@[simp] theorem nilckW_ptr (i tag w r o : Nat) (K : AV → Prop) : nilckW (.ptr i tag w r o) K = K (.ptr i tag w r o) := (rfl)
@[simp] theorem nilckW_cpt (l : List AV) (o : Nat) (K : AV → Prop) : nilckW (.cpt l o) K = K (.cpt l o) := (rfl)
@[simp] theorem nilckW_fn (f : Nat) (l : List AV) (K : AV → Prop) : nilckW (.fn f l) K = K (.fn f l) := (rfl)
@[simp] theorem faddrW_cpt (off : Nat) (l : List AV) (o : Nat) (K : AV → Prop) : faddrW off (.cpt l o) K = K (.cpt l (o + off)) := (rfl)
@[simp] theorem faddrW_ptr (off i tag w r o : Nat) (K : AV → Prop) : faddrW off (.ptr i tag w r o) K = K (.ptr i tag w r (o + off)) := (rfl)
@[simp] theorem fieldW_agg (off : Nat) (ag : Option Nat) (l : List AV) (K : AV → Prop) : fieldW off ag (.agg l) K = rowW ag l off K := (rfl)
@[simp] theorem iaddrW_slc (w : Nat) (k : IntKind) (n : Int) (t w' : Nat) (rows : List (List AV)) (K : AV → Prop) : iaddrW w (.slc t w' rows) (.int k n) K = (w' = w ∧ 0 ≤ n ∧ getW rows n.toNat fun row => K (.cpt row 0)) := (rfl)
@[simp] theorem iaddrW_ref (w : Nat) (k : IntKind) (n : Int) (i t w' l : Nat) (K : AV → Prop) : iaddrW w (.ref i t w' l) (.int k n) K = (w' = w ∧ 0 ≤ n ∧ n < l ∧ K (.ptr i t w n.toNat 0)) := (rfl)
@[simp] theorem indexW_str (k : IntKind) (n : Int) (l : List UInt8) (K : AV → Prop) : indexW (.str l) (.int k n) K = (0 ≤ n ∧ getW l n.toNat fun b => K (.int .u8 b.toNat)) := (rfl)
@[simp] theorem strSliceW_str (l : List UInt8) (lo hi : Option AV) (K : AV → Prop) : strSliceW (.str l) lo hi K = bndW lo 0 fun a => bndW hi l.length fun b => a ≤ b ∧ b ≤ l.length ∧ K (.str ((l.take b).drop a)) := (rfl)
@[simp] theorem slcSliceW_slc (w t w' : Nat) (rows : List (List AV)) (lo hi : Option AV) (K : AV → Prop) :
    slcSliceW w (.slc t w' rows) lo hi K = (w' = w ∧ bndW lo 0 fun a => bndW hi rows.length fun b => a ≤ b ∧ b ≤ rows.length ∧ K (.slc t w' ((rows.take b).drop a))) := (rfl)
@[simp] theorem slcSliceW_ref (w i t w' l : Nat) (lo hi : Option AV) (K : AV → Prop) :
    slcSliceW w (.ref i t w' l) lo hi K = (w' = w ∧ bndW lo 0 fun a => bndW hi l fun b => if a = 0 then b ≤ l ∧ K (.ref i t w' b) else a ≤ b ∧ b ≤ l ∧ K (.sub i t w' a (b - a))) := (rfl)
@[simp] theorem bndW_none (d : Nat) (K : Nat → Prop) : bndW none d K = K d := (rfl)
@[simp] theorem bndW_some (d : Nat) (k : IntKind) (n : Int) (K : Nat → Prop) : bndW (some (.int k n)) d K = (0 ≤ n ∧ K n.toNat) := (rfl)
@[simp] theorem lenStrW_str (l : List UInt8) (K : AV → Prop) : lenStrW (.str l) K = K (.int .i64 l.length) := (rfl)
@[simp] theorem lenSlcW_slc (t w : Nat) (rows : List (List AV)) (K : AV → Prop) : lenSlcW (.slc t w rows) K = K (.int .i64 rows.length) := (rfl)
@[simp] theorem lenSlcW_ref (i t w l : Nat) (K : AV → Prop) : lenSlcW (.ref i t w l) K = K (.int .i64 l) := (rfl)
@[simp ↓] theorem opW_isni (neg : Bool) (x : Opd) : opW P (.isni neg x) e H c K = isniW neg (ev e x) (Lz (fun v => K v H c) ⟨⟩) := (rfl)
@[simp] theorem isniW_ifc (neg b : Bool) (K : AV → Prop) : isniW neg (.ifc b) K = K (.bool (b != neg)) := (rfl)
@[simp] theorem isnlW_nsl (neg : Bool) (K : AV → Prop) : isnlW neg .nsl K = K (.bool (true != neg)) := (rfl)
@[simp] theorem isnlW_ref (neg : Bool) (i t w n : Nat) (K : AV → Prop) : isnlW neg (.ref i t w n) K = K (.bool (false != neg)) := (rfl)
@[simp] theorem lenSlcW_nsl (K : AV → Prop) : lenSlcW .nsl K = K (.int .i64 0) := (rfl)
@[simp] theorem lenMapW_mref (i t : Nat) (K : AV → Prop) : lenMapW (.mref i t) H K = getW H i fun ob => ob.tag = t ∧ ob.mp = true ∧ K (.int .i64 ob.rows.length) := (rfl)
@[simp] theorem extractW_tup (vs : List AV) (i : Nat) (K : AV → Prop) : extractW (.tup vs) i K = getW vs i K := (rfl)
@[simp] theorem unW_not (b : Bool) (K : AV → Prop) : unW .not (.bool b) K = K (.bool (!b)) := (rfl)
@[simp] theorem unW_neg (k : IntKind) (n : Int) (K : AV → Prop) : unW .neg (.int k n) K = K (.int k (k.wrap (0 - n))) := (rfl)
@[simp] theorem toIntW_int (k k' : IntKind) (n : Int) (K : AV → Prop) : toIntW k (.int k' n) K = K (.int k (k.wrap n)) := (rfl)
@[simp] theorem fillW_nil (l : List AV) (K : List AV → Prop) : fillW l [] K = K l := (rfl)
@[simp] theorem fillW_cons (l : List AV) (off n : Nat) (v : AV) (r : List (Nat × Nat × AV)) (K : List AV → Prop) : fillW l ((off, n, v) :: r) K = cellsW v fun m => m.length = n ∧ off + n ≤ l.length ∧ fillW (putA l off m) r K := (rfl)
@[simp] theorem bsliceW_eq (w : Nat) (z : List AV) (n : Nat) (ps : List (Nat × AV)) : bsliceW w z n ps H c K = rowsFillW (List.replicate n z) ps fun rows => K (.ref H.length c w n) (H ++ [⟨false, c, w, rows⟩]) (c + 1) := (rfl)
@[simp] theorem rowsFillW_nil (l : List (List AV)) (K : List (List AV) → Prop) : rowsFillW l [] K = K l := (rfl)
@[simp] theorem rowsFillW_cons (l : List (List AV)) (i : Nat) (v : AV) (r : List (Nat × AV)) (K : List (List AV) → Prop) : rowsFillW l ((i, v) :: r) K = cellsW v fun m => getW l i fun row => m.length = row.length ∧ rowsFillW (l.set i m) r K := (rfl)
@[simp] theorem mksliceW_int (w : Nat) (z : List AV) (b : Nat) (k k' : IntKind) (n m : Int) : mksliceW w z b (.int k n) (.int k' m) H c K =
    (0 ≤ n ∧ n ≤ m ∧ m ≤ 281474976710656 ∧ m.toNat * b ≤ 281474976710656 ∧ K (.ref H.length c w n.toNat) (H ++ [⟨false, c, w, List.replicate n.toNat z⟩]) (c + 1)) := (rfl)

@[simp] theorem binW_int (op : BinOp) (k : IntKind) (a b : Int) (h : (op != .shl && op != .shr) = true) (K : AV → Prop) : binW op (.int k a) (.int k b) K = intW op k a b K := by
  cases op <;> first | (simp at h; done) | simp [binW]
@[simp] theorem binW_str (op : BinOp) (a b : List UInt8) (K : AV → Prop) : binW op (.str a) (.str b) K = strW op a b K := (rfl)
@[simp] theorem binbW_bool (op : BinOp) (a b : Bool) (K : AV → Prop) : binbW op (.bool a) (.bool b) K = boolW op a b K := (rfl)
theorem dec_beq {α : Type} [DecidableEq α] [BEq α] [LawfulBEq α] (a b : α) : (a == b) = decide (a = b) := by
  by_cases h : a = b <;> simp [h]
@[simp] theorem intW_add (k : IntKind) (a b : Int) (K : AV → Prop) : intW .add k a b K = K (.int k (k.wrap (a + b))) := (rfl)
@[simp] theorem intW_sub (k : IntKind) (a b : Int) (K : AV → Prop) : intW .sub k a b K = K (.int k (k.wrap (a - b))) := (rfl)
@[simp] theorem intW_mul (k : IntKind) (a b : Int) (K : AV → Prop) : intW .mul k a b K = K (.int k (k.wrap (a * b))) := (rfl)
@[simp] theorem intW_quo (k : IntKind) (a b : Int) (K : AV → Prop) : intW .quo k a b K = (b ≠ 0 ∧ K (.int k (k.wrap (a.tdiv b)))) := (rfl)
@[simp] theorem intW_rem (k : IntKind) (a b : Int) (K : AV → Prop) : intW .rem k a b K = (b ≠ 0 ∧ K (.int k (a.tmod b))) := (rfl)
@[simp] theorem intW_eql (k : IntKind) (a b : Int) (K : AV → Prop) : intW .eql k a b K = K (.bool (decide (a = b))) := by rw [← dec_beq]; rfl
@[simp] theorem intW_neq (k : IntKind) (a b : Int) (K : AV → Prop) : intW .neq k a b K = K (.bool (!decide (a = b))) := by rw [← dec_beq]; rfl
@[simp] theorem intW_lss (k : IntKind) (a b : Int) (K : AV → Prop) : intW .lss k a b K = K (.bool (decide (a < b))) := (rfl)
@[simp] theorem intW_leq (k : IntKind) (a b : Int) (K : AV → Prop) : intW .leq k a b K = K (.bool (decide (a ≤ b))) := (rfl)
@[simp] theorem intW_gtr (k : IntKind) (a b : Int) (K : AV → Prop) : intW .gtr k a b K = K (.bool (decide (a > b))) := (rfl)
@[simp] theorem intW_geq (k : IntKind) (a b : Int) (K : AV → Prop) : intW .geq k a b K = K (.bool (decide (a ≥ b))) := (rfl)
@[simp] theorem strW_add (a b : List UInt8) (K : AV → Prop) : strW .add a b K = (a.length + b.length ≤ mx ∧ K (.str (a ++ b))) := (rfl)
@[simp] theorem strW_eql (a b : List UInt8) (K : AV → Prop) : strW .eql a b K = K (.bool (decide (a = b))) := by rw [← dec_beq]; rfl
@[simp] theorem strW_neq (a b : List UInt8) (K : AV → Prop) : strW .neq a b K = K (.bool (!decide (a = b))) := by rw [← dec_beq]; rfl
@[simp] theorem strW_lss (a b : List UInt8) (K : AV → Prop) : strW .lss a b K = K (.bool (Op.bytesLess a b)) := (rfl)
@[simp] theorem boolW_eql (a b : Bool) (K : AV → Prop) : boolW .eql a b K = K (.bool (a == b)) := (rfl)
@[simp] theorem boolW_neq (a b : Bool) (K : AV → Prop) : boolW .neq a b K = K (.bool (!(a == b))) := (rfl)
@[simp] theorem beqW'_agg (neg : Bool) (ks : List Nat) (x y : List AV) (K : AV → Prop) : beqW' neg ks (.agg x) (.agg y) K = (fitsK ks x = true ∧ (match eqCells x y with | some b => K (.bool (b != neg)) | none => False)) := (rfl)

/-- the simplest end: a value without anything to be seen otherwise -/
theorem fin_plain {Q : AV → List AObj → Nat → Prop} {v : AV} (h : Q v [] c) : finW Q v H c :=
  ⟨[], [], [], v, List.nil_sublist H, .nil, by simp, by simp [tags], .refl v, h⟩

theorem fn_of {f : Nat} {F : Fun} {args : List AV} {res : AV} (hf : compF P f = some F) (hl : args.length ≤ F.n) (h : ∀ c, irW P F.ir (retQ F.rs fun r H' _ => r = res ∧ H' = []) (env0 args) [] c) : Fnc P f args res :=
  fun c => con_of hf hl (h c)

end
end A
end Go.Proofs.YtkcilmkienlnoaaGreatDoor
