import GoSem.ClaimChange
import Derived.DataReads
import Derived.DataShut
import Derived.Below
import Derived.Carry
import Derived.ChangeSame
import Derived.ProofKit
import Derived.OpenShut
import Derived.Test.YtmhmaokbicgmbaaGreatDoorB04

/-
  A function's contract out of its text. No condition.
-/

namespace Go.Proofs.YtmhmaokbicgmbaaGreatDoor
namespace A
set_option linter.unusedVariables false

/-- Short words for the texts. -/
def o (d : Nat) (op : IOp) : IOper := ⟨some d, op, none⟩
def st (op : IOp) : IOper := ⟨none, op, none⟩
def og (d : Nat) (op : IOp) (g : Nat) (b : Bool) : IOper := ⟨some d, op, some (g, b)⟩

inductive RV where
  | tmp (t : Nat)
  | cell (a : Nat) (ag : Option Nat)

def resW : List RV → Env → List AObj → (List AV → Prop) → Prop
  | [], _, _, K => K []
  | .tmp t :: rs, e, H, K => resW rs e H fun l => K (e t :: l)
  | .cell a ag :: rs, e, H, K => loadW ag (e a) H fun v => resW rs e H fun l => K (v :: l)

def oneOf : List AV → AV
  | [v] => v
  | l => .tup l

/-- An object, its cells seen otherwise. -/
structure RenO (S : List AObj) (o o' : AObj) : Prop where
  mp : o'.mp = o.mp
  tag : o'.tag = o.tag
  w : o'.w = o.w
  len : o'.rows.length = o.rows.length
  maps : o.mp = true → o'.rows = o.rows
  row : ∀ (r : Nat) (x x' : List AV), o.rows[r]? = some x → o'.rows[r]? = some x' → x'.length = x.length ∧ ∀ (j : Nat) (a a' : AV), x[j]? = some a → x'[j]? = some a' → a' = a ∨ (a'.cell = true ∧ View S a a')
theorem RenO.refl (S : List AObj) (o : AObj) : RenO S o o :=
  ⟨rfl, rfl, rfl, rfl, fun _ => rfl, fun r x x' h1 h2 => by rw [h1] at h2; cases h2; exact ⟨rfl, fun j a a' h3 h4 => by rw [h3] at h4; cases h4; exact .inl rfl⟩⟩
inductive Rens (S : List AObj) : List AObj → List AObj → Prop
  | nil : Rens S [] []
  | cons {o o' : AObj} {l l' : List AObj} (h : RenO S o o') (t : Rens S l l') : Rens S (o :: l) (o' :: l')
theorem Rens.refl (S : List AObj) : ∀ l, Rens S l l
  | [] => .nil
  | o :: l => .cons (.refl S o) (Rens.refl S l)
theorem Rens.tags_eq {S l l' : List AObj} (h : Rens S l l') : tags l' = tags l := by
  induction h with
  | nil => rfl
  | cons h t ih => simp only [tags, List.map_cons] at ih ⊢; rw [h.tag, ih]
theorem Rens.of_mem {S l l' : List AObj} (h : Rens S l l') {o' : AObj} (ho : o' ∈ l') : ∃ o, o ∈ l ∧ RenO S o o' := by
  induction h with
  | nil => cases ho
  | cons h t ih =>
    rcases List.mem_cons.1 ho with rfl | ho
    · exact ⟨_, List.mem_cons_self .., h⟩
    · obtain ⟨o, h1, h2⟩ := ih ho; exact ⟨o, List.mem_cons_of_mem _ h1, h2⟩

theorem ObjOk.ren {G : Gh} {H S : List AObj} {h : Array Obj} {o o' : AObj} (I : Inv G H h) (hS : ∀ o, o ∈ S → o ∈ H) (k : ObjOk G h o) (r : RenO S o o') : ObjOk (G.freeze S) h o' where
  c := by rw [r.tag]; exact k.c
  lies hm := by
    obtain ⟨c, e, fr, h1, h2, h3, h4, h5, h6⟩ := k.lies (r.mp ▸ hm)
    refine ⟨c, e, fr, by rw [r.tag]; exact h1, h2, by rw [r.len, r.w]; exact h3, by rw [r.len]; exact h4, fun i row' hr' => ?_, fun i j row' a' hr' ha' => ?_⟩
    · obtain ⟨row, hr⟩ := get_of_len r.len.symm hr'
      rw [(r.row i row row' hr hr').1, h5 i row hr, r.w]
    · obtain ⟨row, hr⟩ := get_of_len r.len.symm hr'
      obtain ⟨e1, e2⟩ := r.row i row row' hr hr'
      obtain ⟨a, ha⟩ := get_of_len e1.symm ha'
      obtain ⟨v, hv, hc, rv⟩ := h6 i j row a hr ha
      rw [r.w]
      rcases e2 j a a' ha ha' with rfl | ⟨hc', vw⟩
      · exact ⟨v, hv, hc, rv.ext (Ext1.freeze G S h)⟩
      · exact ⟨v, hv, hc', vw.rep I hS rv⟩
  mlies hm := by
    have hm' : o.mp = true := r.mp ▸ hm
    obtain ⟨es, clock, h1, h2, h3, h4⟩ := k.mlies hm'
    rw [r.tag, r.maps hm']
    refine ⟨es, clock, h1, h2, h3, fun i row hr => ?_⟩
    obtain ⟨k', v, en, e1, e2, r1, r2⟩ := h4 i row hr
    exact ⟨k', v, en, e1, e2, r1.ext (Ext1.freeze G S h), r2.ext (Ext1.freeze G S h)⟩
theorem Inv.ren {G : Gh} {H S Hk Hk' : List AObj} {h : Array Obj} (I : Inv G H h) (hsub : ∀ o, o ∈ Hk → o ∈ H) (hS : ∀ o, o ∈ S → o ∈ H) (I2 : Inv (G.freeze S) Hk h) (r : Rens S Hk Hk') : Inv (G.freeze S) Hk' h where
  fz := I2.fz
  obj o' ho' := by
    obtain ⟨o, ho, hr⟩ := r.of_mem ho'
    exact (I.obj o (hsub o ho)).ren I hS hr
  nfz := by rw [r.tags_eq]; exact I2.nfz
  nodup := by rw [r.tags_eq]; exact I2.nodup
  inj := by rw [r.tags_eq]; exact I2.inj
  gl := I2.gl

/-- What a function hands back, and what it leaves: Hk stays an object, S is only read from now on. -/
def finW (Q : AV → List AObj → Nat → Prop) (v : AV) (H : List AObj) (c : Nat) : Prop :=
  ∃ (S Hk Hk' : List AObj) (v' : AV), Hk.Sublist H ∧ Rens S Hk Hk' ∧ (∀ o, o ∈ S → o ∈ H) ∧ (∀ t, t ∈ tags Hk → t ∉ tags S) ∧ View S v v' ∧ Q v' Hk' c

def retQ (rs : List RV) (Q : AV → List AObj → Nat → Prop) : Post
  | .normal, e, H, c => resW rs e H fun l => finW Q (oneOf l) H c
  | .ret, e, H, c => resW rs e H fun l => finW Q (oneOf l) H c
  | _, _, _, _ => False

def compRes (P : Program) : List ResultVar → Option (List RV)
  | [] => some []
  | .tmp t :: l => do some (.tmp t :: (← compRes P l))
  | .cell a t :: l => do let ag ← agOf P t; some (.cell a ag :: (← compRes P l))

structure Fun where
  n : Nat
  ir : IR
  rs : List RV

def compF (P : Program) (f : Nat) : Option Fun := do
  let fn ← P.funcs[f]?
  let code ← fn.body
  let ir ← comp P fn.ntmps code
  let rs ← compRes P fn.results.toList
  some ⟨fn.ntmps, ir, rs⟩

def env0 (args : List AV) : Env := fun t => args.getD t .und

section
variable {P : Program} {G : Gh} {H : List AObj} {w : World} {a : Act} {e : Env}

def resOne (tmps : Array Value) : ResultVar → Sem Value
  | .tmp t => pure (tmps.getD t undef)
  | .cell x t => do loadVar t (← asAddr (tmps.getD x undef))

theorem results_eq (fn : Func) (tmps : Array Value) : results fn tmps = (do let vs ← fn.results.mapM (resOne tmps); pure (if h : vs.size = 1 then vs[0] else .tuple vs)) := by
  unfold results
  congr 1

theorem res_sound (I : Inv G H w.heap) (hE : Tmps G w.heap a e) : ∀ (l : List ResultVar) (rs : List RV) (K : List AV → Prop), compRes P l = some rs → resW rs e H K →
    ∃ (vs : List Value) (as0 : List AV), (l.mapM (resOne a.tmps)).run P w = .ok vs w ∧ vs.length = as0.length ∧ (∀ (j : Nat) (v : Value) (b : AV), vs[j]? = some v → as0[j]? = some b → Rep G w.heap v b) ∧ K as0 := by
  intro l
  induction l with
  | nil => intro rs K h k; simp only [compRes] at h; cases h; exact ⟨[], [], by simp, rfl, by simp, k⟩
  | cons r l ih =>
    intro rs K h k
    cases r with
    | tmp t =>
      simp only [compRes, Option.bind_eq_bind, Option.bind_eq_some_iff, Option.some.injEq] at h
      obtain ⟨rs', h', rfl⟩ := h
      obtain ⟨vs, as0, h1, h2, h3, h4⟩ := ih rs' _ h' k
      refine ⟨a.tmps.getD t undef :: vs, e t :: as0, ?_, by simp [h2], fun j v b hv hb => ?_, h4⟩
      · simp only [List.mapM_cons, resOne, Sem.run_bind, Sem.run_pure, Result.andThen_ok, h1]
      · cases j with
        | zero => simp only [List.getElem?_cons_zero, Option.some.injEq] at hv hb; subst hv; subst hb; exact hE t
        | succ j => exact h3 j v b (by simpa using hv) (by simpa using hb)
    | cell x t =>
      simp only [compRes, Option.bind_eq_bind, Option.bind_eq_some_iff, Option.some.injEq] at h
      obtain ⟨ag, hag, rs', h', rfl⟩ := h
      simp only [resW] at k
      obtain ⟨u, av, hu, k', r⟩ := load_pure (P := P) I hag (hE x) k
      obtain ⟨vs, as0, h1, h2, h3, h4⟩ := ih rs' _ h' k'
      have hrun : (do loadVar t (← asAddr (a.tmps.getD x undef)) : Sem Value).run P w = .ok u w := by
        generalize hv : a.tmps.getD x undef = xv at hu
        cases xv <;> first
          | (rename_i p; cases p <;> first
              | exact hu
              | (simp [Instr.loadAt, Instr.sureAddr] at hu))
          | (simp [Instr.loadAt, Instr.sureAddr] at hu)
      refine ⟨u :: vs, av :: as0, ?_, by simp [h2], fun j v b hv hb => ?_, h4⟩
      · have hrun' : (resOne a.tmps (.cell x t)).run P w = .ok u w := hrun
        simp only [List.mapM_cons, Sem.run_bind, hrun', Sem.run_pure, Result.andThen_ok, h1]
      · cases j with
        | zero => simp at hv hb; subst hv; subst hb; exact r
        | succ j => exact h3 j v b (by simpa using hv) (by simpa using hb)

theorem con_of {f : Nat} {F : Fun} {args : List AV} {c : Nat} {Q : AV → List AObj → Nat → Prop} (hf : compF P f = some F) (hl : args.length ≤ F.n) (hk : irW P F.ir (retQ F.rs Q) (env0 args) H c) : Con P f args H c Q := by
  unfold compF at hf
  simp only [Option.bind_eq_bind, Option.bind_eq_some_iff, Option.some.injEq] at hf
  obtain ⟨fn, hfn, code, hcode, ir, hir, rs, hrs, rfl⟩ := hf
  intro G w vs hc I hs hr
  subst hc
  have hE : Tmps G w.heap { tmps := vs ++ Array.replicate (fn.ntmps - vs.size) undef, defers := [] } (env0 args) := fun t => by
    by_cases ht : t < args.length
    · have h1 := hr t args[t] (List.getElem?_eq_getElem ht)
      have h2 : (vs ++ Array.replicate (fn.ntmps - vs.size) undef).getD t undef = vs.getD t undef := getD_of (by rw [Array.getElem?_append_left (by omega)]; exact of_getD (by omega))
      have h3 : env0 args t = args[t] := by simp [env0, ht]
      rw [h2, h3]; exact h1
    · have h2 : (vs ++ Array.replicate (fn.ntmps - vs.size) undef).getD t undef = undef := by
        by_cases h : t < (vs ++ Array.replicate (fn.ntmps - vs.size) undef).size
        · refine getD_of ?_
          rw [Array.getElem?_append_right (by omega), Array.getElem?_replicate, if_pos (by simp at h; omega)]
        · unfold Array.getD; rw [dif_neg h]
      have h3 : env0 args t = .und := by simp [env0, List.getD, List.getElem?_eq_none (Nat.le_of_not_lt ht)]
      rw [h2, h3]; exact .und
  have hl' : args.length ≤ fn.ntmps := hl
  have hst : St G H w fn.ntmps (env0 args) H G.c { tmps := vs ++ Array.replicate (fn.ntmps - vs.size) undef, defers := [] } w :=
    ⟨G, rfl, rfl, by simp; omega, hE, I, Ext.refl _ _ _⟩
  refine calls_of_wp hfn hcode (Code.wp_mono (fun ex a w' hq => ?_) (ir_sound (tags_lt I) code ir hir _ (fun _ _ _ _ q => q) _ _ _ _ _ hst hk))
  have fin : ∀ (e : Env) (H' : List AObj) (c : Nat), resW rs e H' (fun l => finW Q (oneOf l) H' c) → St G H w fn.ntmps e H' c a w' →
      a.defers = [] ∧ ∃ v, (results fn a.tmps).run P w' = .ok v w' ∧ ∃ v' res H'' G', Ending.returned v = .returned v' ∧ Q res H'' G'.c ∧ Ext G H w G' H'' w' ∧ Inv G' H'' w'.heap ∧ Rep G' w'.heap v' res := fun e H' c q ⟨G1, hc1, hd, hsz, hE1, I1, x1⟩ => by
    subst hc1
    obtain ⟨us, as0, h1, h2, h3, S, Hk, Hk', v', q1, qr, q2, q3, q4, q5⟩ := res_sound (P := P) I1 hE1 fn.results.toList rs _ hrs q
    refine ⟨hd, ?_⟩
    have hres : (results fn a.tmps).run P w' = .ok (if h : us.toArray.size = 1 then us.toArray[0] else .tuple us.toArray) w' := by
      rw [results_eq, Array.mapM_eq_mapM_toList]
      simp only [Sem.run_bind, Sem.run_map, h1, Result.andThen_ok, Sem.run_pure]
    have hrep : Rep G1 w'.heap (if h : us.toArray.size = 1 then us.toArray[0] else .tuple us.toArray) (oneOf as0) := by
      match us, as0, h2, h3 with
      | [], [], _, _ => exact .tup rfl (by simp)
      | [u], [b], _, h3 => exact h3 0 u b rfl rfl
      | u :: u' :: us, b :: b' :: as0, h2, h3 =>
        have : ¬ (u :: u' :: us).toArray.size = 1 := by simp
        rw [dif_neg this]
        refine .tup (by simpa using h2) fun j x hj => ?_
        have hjl : j < (u :: u' :: us).length := by rw [h2]; exact (List.getElem?_eq_some_iff.1 hj).1
        have := h3 j _ x (List.getElem?_eq_getElem hjl) hj
        rw [getD_of (v := (u :: u' :: us)[j]) (by rw [List.getElem?_toArray]; exact List.getElem?_eq_getElem hjl)]
        exact this
    refine ⟨_, hres, _, v', Hk', G1.freeze S, rfl, q5, ?_, I1.ren q1.subset q2 (I1.freeze q1 q2 q3) qr, q4.rep I1 q2 hrep⟩
    have hS : ∀ t, t ∈ tags S → t ∈ tags H' := fun t ht => by obtain ⟨o, ho, rfl⟩ := of_mem_tags ht; exact mem_tags (q2 o ho)
    exact ⟨x1.x.trans (Ext1.freeze _ _ _), x1.os, x1.tape, x1.output, x1.size, x1.frame, x1.newm, fun t h1 h2 => x1.oldH t h1 ((q1.map _).subset (by rw [qr.tags_eq] at h2; exact h2)), fun t h1 h2 => by
      rcases h2 with h2 | h2
      · exact x1.oldF t h1 h2
      · exact .inr (x1.oldH t h1 (hS t h2))⟩
  obtain ⟨e, H', c, q, hs'⟩ := hq
  cases ex <;> simp only [retQ] at q <;> first
    | exact q.elim
    | exact fin e H' c q hs'
end
end A
end Go.Proofs.YtmhmaokbicgmbaaGreatDoor

/-
  How what is said of the small language is worked out: equations for simp. No condition.
-/

namespace Go.Proofs.YtmhmaokbicgmbaaGreatDoor
namespace A
set_option linter.unusedVariables false
/-- What comes behind is left alone until it is asked for: simp does not look into what a later argument's type hangs on. -/
structure Tok {α : Sort _} (a : α) : Type where
def Lz {α : Sort _} (K : α → Prop) (_ : Tok K) : α → Prop := K
def Lz3 {α β γ : Sort _} (K : α → β → γ → Prop) (_ : Tok K) : α → β → γ → Prop := K
def LzP (p : Prop) (_ : Tok p) : Prop := p
@[simp] theorem Lz_app {α : Sort _} (K : α → Prop) (u : Tok K) (v : α) : Lz K u v = K v := (rfl)
@[simp] theorem Lz3_app {α β γ : Sort _} (K : α → β → γ → Prop) (u : Tok K) (v : α) (x : β) (y : γ) : Lz3 K u v x y = K v x y := (rfl)

section
variable {P : Program} {e : Env} {H : List AObj} {c : Nat} {K : AV → List AObj → Nat → Prop} {Q : Post}

@[simp] theorem ev_t (n : Nat) : ev e (.t n) = e n := (rfl)
@[simp] theorem ev_c (v : AV) : ev e (.c v) = v := (rfl)
theorem upd_at {α : Type} (f : Nat → α) (i j : Nat) (v : α) : upd f i v j = if j = i then v else f j := (rfl)
@[simp] theorem upd_other {α : Type} (f : Nat → α) (i j : Nat) (v : α) (h : (j == i) = false) : upd f i v j = f j := by
  rw [upd_at, if_neg (by simpa using h)]

@[simp] theorem env0_0 (a : AV) (l : List AV) : env0 (a :: l) 0 = a := (rfl)
@[simp] theorem env0_1 (a b : AV) (l : List AV) : env0 (a :: b :: l) 1 = b := (rfl)
@[simp] theorem env0_2 (a b d : AV) (l : List AV) : env0 (a :: b :: d :: l) 2 = d := (rfl)
@[simp] theorem env0_3 (a b d f : AV) (l : List AV) : env0 (a :: b :: d :: f :: l) 3 = f := (rfl)
@[simp] theorem env0_4 (a b d f g : AV) (l : List AV) : env0 (a :: b :: d :: f :: g :: l) 4 = g := (rfl)

@[simp ↓] theorem opsW_nil (K : Env → List AObj → Nat → Prop) : opsW P [] e H c K = K e H c := (rfl)
@[simp ↓] theorem opsW_o (d : Nat) (op : IOp) (l : List IOper) (K : Env → List AObj → Nat → Prop) : opsW P (o d op :: l) e H c K = opW P op e H c (Lz3 (fun v H' c' => opsW P l (upd e d v) H' c' K) ⟨⟩) := (rfl)
@[simp ↓] theorem opsW_st (op : IOp) (l : List IOper) (K : Env → List AObj → Nat → Prop) : opsW P (st op :: l) e H c K = opW P op e H c (Lz3 (fun _ H' c' => opsW P l e H' c' K) ⟨⟩) := (rfl)
@[simp ↓] theorem opsW_og (d : Nat) (op : IOp) (g : Nat) (b : Bool) (l : List IOper) (K : Env → List AObj → Nat → Prop) :
    opsW P (og d op g b :: l) e H c K = guardW (e g) b (LzP (opW P op e H c (Lz3 (fun v H' c' => opsW P l (upd e d v) H' c' K) ⟨⟩)) ⟨⟩) (LzP (opsW P l (upd e d .und) H c K) ⟨⟩) := (rfl)

@[simp ↓] theorem opsD_nil (R : Nat → AV → Prop) (K : Env → Prop) : opsD P R [] e H c K = K e := (rfl)
@[simp ↓] theorem opsD_o (R : Nat → AV → Prop) (d : Nat) (op : IOp) (l : List IOper) (K : Env → Prop) : opsD P R (o d op :: l) e H c K = opD P (R d) op e H c (Lz (fun v => opsD P R l (upd e d v) H c K) ⟨⟩) := (rfl)
@[simp ↓] theorem opsD_st (R : Nat → AV → Prop) (op : IOp) (l : List IOper) (K : Env → Prop) : opsD P R (st op :: l) e H c K = opD P (R 0) op e H c (Lz (fun _ => opsD P R l e H c K) ⟨⟩) := (rfl)
@[simp ↓] theorem opsD_og (R : Nat → AV → Prop) (d : Nat) (op : IOp) (g : Nat) (b : Bool) (l : List IOper) (K : Env → Prop) :
    opsD P R (og d op g b :: l) e H c K = guardW (e g) b (LzP (opD P (R d) op e H c (Lz (fun v => opsD P R l (upd e d v) H c K) ⟨⟩)) ⟨⟩) (LzP (opsD P R l (upd e d .und) H c K) ⟨⟩) := (rfl)
@[simp ↓] theorem opD_callF (R : AV → Prop) (f : Nat) (as0 : List Opd) (K : AV → Prop) : opD P R (.callF f as0) e H c K = callD P R f (as0.map (ev e)) H c K := (rfl)
@[simp ↓] theorem opD_mv (R : AV → Prop) (x : Opd) (K : AV → Prop) : opD P R (.mv x) e H c K = opW P (.mv x) e H c (Lz3 (fun v _ _ => K v) ⟨⟩) := (rfl)
@[simp ↓] theorem opD_pick (R : AV → Prop) (x a b : Opd) (K : AV → Prop) : opD P R (.pick x a b) e H c K = opW P (.pick x a b) e H c (Lz3 (fun v _ _ => K v) ⟨⟩) := (rfl)
@[simp ↓] theorem opD_load (R : AV → Prop) (ag : Option Nat) (x : Opd) (K : AV → Prop) : opD P R (.load ag x) e H c K = opW P (.load ag x) e H c (Lz3 (fun v _ _ => K v) ⟨⟩) := (rfl)
@[simp ↓] theorem opD_nilck (R : AV → Prop) (x : Opd) (K : AV → Prop) : opD P R (.nilck x) e H c K = opW P (.nilck x) e H c (Lz3 (fun v _ _ => K v) ⟨⟩) := (rfl)
@[simp ↓] theorem opD_bin (R : AV → Prop) (b : BinOp) (x y : Opd) (K : AV → Prop) : opD P R (.bin b x y) e H c K = opW P (.bin b x y) e H c (Lz3 (fun v _ _ => K v) ⟨⟩) := (rfl)
@[simp ↓] theorem opD_binb (R : AV → Prop) (b : BinOp) (x y : Opd) (K : AV → Prop) : opD P R (.binb b x y) e H c K = opW P (.binb b x y) e H c (Lz3 (fun v _ _ => K v) ⟨⟩) := (rfl)
@[simp ↓] theorem opD_beq (R : AV → Prop) (n : Bool) (ks : List Nat) (x y : Opd) (K : AV → Prop) : opD P R (.beq n ks x y) e H c K = opW P (.beq n ks x y) e H c (Lz3 (fun v _ _ => K v) ⟨⟩) := (rfl)
@[simp ↓] theorem opD_un (R : AV → Prop) (b : UnOp) (x : Opd) (K : AV → Prop) : opD P R (.un b x) e H c K = opW P (.un b x) e H c (Lz3 (fun v _ _ => K v) ⟨⟩) := (rfl)
@[simp ↓] theorem opD_toInt (R : AV → Prop) (k : IntKind) (x : Opd) (K : AV → Prop) : opD P R (.toInt k x) e H c K = opW P (.toInt k x) e H c (Lz3 (fun v _ _ => K v) ⟨⟩) := (rfl)
@[simp ↓] theorem opD_toStr (R : AV → Prop) (x : Opd) (K : AV → Prop) : opD P R (.toStr x) e H c K = opW P (.toStr x) e H c (Lz3 (fun v _ _ => K v) ⟨⟩) := (rfl)
@[simp ↓] theorem opD_mkfn (R : AV → Prop) (f : Nat) (l : List Opd) (K : AV → Prop) : opD P R (.mkfn f l) e H c K = opW P (.mkfn f l) e H c (Lz3 (fun v _ _ => K v) ⟨⟩) := (rfl)
@[simp ↓] theorem opD_sliceS (R : AV → Prop) (x : Opd) (l h : Option Opd) (K : AV → Prop) : opD P R (.sliceS x l h) e H c K = opW P (.sliceS x l h) e H c (Lz3 (fun v _ _ => K v) ⟨⟩) := (rfl)
@[simp ↓] theorem opD_slice (R : AV → Prop) (w : Nat) (x : Opd) (l h : Option Opd) (K : AV → Prop) : opD P R (.slice w x l h) e H c K = opW P (.slice w x l h) e H c (Lz3 (fun v _ _ => K v) ⟨⟩) := (rfl)
@[simp ↓] theorem opD_faddr (R : AV → Prop) (k : Nat) (x : Opd) (K : AV → Prop) : opD P R (.faddr k x) e H c K = opW P (.faddr k x) e H c (Lz3 (fun v _ _ => K v) ⟨⟩) := (rfl)
@[simp ↓] theorem opD_field (R : AV → Prop) (k : Nat) (ag : Option Nat) (x : Opd) (K : AV → Prop) : opD P R (.field k ag x) e H c K = opW P (.field k ag x) e H c (Lz3 (fun v _ _ => K v) ⟨⟩) := (rfl)
@[simp ↓] theorem opD_iaddr (R : AV → Prop) (w : Nat) (x i : Opd) (K : AV → Prop) : opD P R (.iaddr w x i) e H c K = opW P (.iaddr w x i) e H c (Lz3 (fun v _ _ => K v) ⟨⟩) := (rfl)
@[simp ↓] theorem opD_index (R : AV → Prop) (x i : Opd) (K : AV → Prop) : opD P R (.index x i) e H c K = opW P (.index x i) e H c (Lz3 (fun v _ _ => K v) ⟨⟩) := (rfl)
@[simp ↓] theorem opD_lookup (R : AV → Prop) (d : Nat) (z : AV) (k : Bool) (m x : Opd) (K : AV → Prop) : opD P R (.lookup d z k m x) e H c K = opW P (.lookup d z k m x) e H c (Lz3 (fun v _ _ => K v) ⟨⟩) := (rfl)
@[simp ↓] theorem opD_lenS (R : AV → Prop) (x : Opd) (K : AV → Prop) : opD P R (.lenS x) e H c K = opW P (.lenS x) e H c (Lz3 (fun v _ _ => K v) ⟨⟩) := (rfl)
@[simp ↓] theorem opD_lenL (R : AV → Prop) (x : Opd) (K : AV → Prop) : opD P R (.lenL x) e H c K = opW P (.lenL x) e H c (Lz3 (fun v _ _ => K v) ⟨⟩) := (rfl)
@[simp ↓] theorem opD_lenM (R : AV → Prop) (x : Opd) (K : AV → Prop) : opD P R (.lenM x) e H c K = opW P (.lenM x) e H c (Lz3 (fun v _ _ => K v) ⟨⟩) := (rfl)
@[simp ↓] theorem opD_extract (R : AV → Prop) (x : Opd) (i : Nat) (K : AV → Prop) : opD P R (.extract x i) e H c K = opW P (.extract x i) e H c (Lz3 (fun v _ _ => K v) ⟨⟩) := (rfl)
@[simp ↓] theorem irW_draw (ops : List IOper) : irW P (.draw ops) Q e H c = ∃ R, opsD P R ops e H c fun e' => ∀ c', c ≤ c' → Q .normal e' H c' := (rfl)
@[simp ↓] theorem irW_skip : irW P .skip Q e H c = Q .normal e H c := (rfl)
@[simp ↓] theorem irW_reg (ops : List IOper) : irW P (.reg ops) Q e H c = opsW P ops e H c (Q .normal) := (rfl)
@[simp ↓] theorem irW_seq (a b : IR) : irW P (.seq a b) Q e H c = irW P a (thenQ (irW P b Q) Q) e H c := (rfl)
@[simp ↓] theorem irW_cond (x : Opd) (a b : IR) : irW P (.cond x a b) Q e H c = condW (ev e x) (LzP (irW P a Q e H c) ⟨⟩) (LzP (irW P b Q e H c) ⟨⟩) := (rfl)
@[simp ↓] theorem irW_block (id : Nat) (b : IR) : irW P (.block id b) Q e H c = irW P b (blockQ id Q) e H c := (rfl)
@[simp ↓] theorem irW_exit (id : Nat) : irW P (.exit id) Q e H c = Q (.exit id) e H c := (rfl)
@[simp ↓] theorem irW_ret : irW P .ret Q e H c = Q .ret e H c := (rfl)
@[simp ↓] theorem irW_alt (a b : IR) : irW P (.alt a b) Q e H c = (irW P a Q e H c ∧ irW P b Q e H c) := (rfl)
@[simp] theorem condW_bool (t : Bool) (a b : Prop) (u v) : condW (.bool t) (LzP a u) (LzP b v) = ((t = true → a) ∧ (t = false → b)) := (rfl)

@[simp] theorem thenQ_normal (N : Env → List AObj → Nat → Prop) : thenQ N Q .normal e H c = N e H c := (rfl)
@[simp] theorem thenQ_normal' (N : Env → List AObj → Nat → Prop) : thenQ N Q .normal = N := (rfl)
@[simp] theorem thenQ_ret (N : Env → List AObj → Nat → Prop) : thenQ N Q .ret = Q .ret := (rfl)
@[simp] theorem thenQ_exit (N : Env → List AObj → Nat → Prop) (i : Nat) : thenQ N Q (.exit i) = Q (.exit i) := (rfl)
@[simp] theorem blockQ_normal (id : Nat) : blockQ id Q .normal = Q .normal := (rfl)
@[simp] theorem blockQ_ret (id : Nat) : blockQ id Q .ret = Q .ret := (rfl)
@[simp] theorem blockQ_exit (id i : Nat) : blockQ id Q (.exit i) e H c = (if i = id then Q .normal e H c else Q (.exit i) e H c) := (rfl)
@[simp] theorem retQ_ret (rs : List RV) (R : AV → List AObj → Nat → Prop) : retQ rs R .ret e H c = resW rs e H fun l => finW R (oneOf l) H c := (rfl)
@[simp] theorem retQ_normal (rs : List RV) (R : AV → List AObj → Nat → Prop) : retQ rs R .normal e H c = resW rs e H fun l => finW R (oneOf l) H c := (rfl)
@[simp] theorem resW_nil (R : List AV → Prop) : resW [] e H R = R [] := (rfl)
@[simp] theorem resW_tmp (t : Nat) (rs : List RV) (R : List AV → Prop) : resW (.tmp t :: rs) e H R = resW rs e H fun l => R (e t :: l) := (rfl)
@[simp] theorem resW_cell (a : Nat) (ag : Option Nat) (rs : List RV) (R : List AV → Prop) : resW (.cell a ag :: rs) e H R = loadW ag (e a) H fun v => resW rs e H fun l => R (v :: l) := (rfl)
@[simp] theorem oneOf_one (v : AV) : oneOf [v] = v := (rfl)
@[simp] theorem oneOf_two (v u : AV) (l : List AV) : oneOf (v :: u :: l) = .tup (v :: u :: l) := (rfl)

@[simp ↓] theorem opW_mv (x : Opd) : opW P (.mv x) e H c K = K (ev e x) H c := (rfl)
@[simp ↓] theorem opW_pick (x a b : Opd) : opW P (.pick x a b) e H c K = pickW (ev e x) (ev e a) (ev e b) (Lz (fun v => K v H c) ⟨⟩) := (rfl)
@[simp ↓] theorem opW_new (w : Nat) (z : List AV) : opW P (.new w z) e H c K = K (.ptr H.length c w 0 0) (H ++ [⟨false, c, w, [z]⟩]) (c + 1) := (rfl)
@[simp ↓] theorem opW_box (w : Nat) (x : Opd) : opW P (.box w x) e H c K = boxW (ev e x) H c K := (rfl)
@[simp ↓] theorem opW_build (z : List AV) (ps : List (Nat × Nat × Opd)) : opW P (.build z ps) e H c K = fillW z (ps.map fun (o, n, x) => (o, n, ev e x)) fun l => K (.agg l) H c := (rfl)
@[simp ↓] theorem opW_bslice (w : Nat) (z : List AV) (n : Nat) (ps : List (Nat × Opd)) : opW P (.bslice w z n ps) e H c K = bsliceW w z n (ps.map fun (i, x) => (i, ev e x)) H c K := (rfl)
@[simp ↓] theorem opW_load (ag : Option Nat) (x : Opd) : opW P (.load ag x) e H c K = loadW ag (ev e x) H (Lz (fun v => K v H c) ⟨⟩) := (rfl)
@[simp ↓] theorem opW_loadC (ag : Option Nat) (x : Opd) : opW P (.loadC ag x) e H c K = loadCW ag (ev e x) (Lz (fun v => K v H c) ⟨⟩) := (rfl)
@[simp ↓] theorem opW_chk (ag : Option Nat) (x y : Opd) : opW P (.chk ag x y) e H c K = loadW ag (ev e x) H (Lz (fun v => v = ev e y ∧ K .und H c) ⟨⟩) := (rfl)
@[simp] theorem loadCW_cpt (ag : Option Nat) (cells : List AV) (o : Nat) (K : AV → Prop) : loadCW ag (.cpt cells o) K = rowW ag cells o K := (rfl)
@[simp ↓] theorem opW_store (n : Nat) (a x : Opd) : opW P (.store n a x) e H c K = storeW n (ev e a) (ev e x) H c K := (rfl)
@[simp ↓] theorem opW_nilck (x : Opd) : opW P (.nilck x) e H c K = nilckW (ev e x) (Lz (fun v => K v H c) ⟨⟩) := (rfl)
@[simp ↓] theorem opW_bin (op : BinOp) (x y : Opd) : opW P (.bin op x y) e H c K = binW op (ev e x) (ev e y) (Lz (fun v => K v H c) ⟨⟩) := (rfl)
@[simp ↓] theorem opW_binb (op : BinOp) (x y : Opd) : opW P (.binb op x y) e H c K = binbW op (ev e x) (ev e y) (Lz (fun v => K v H c) ⟨⟩) := (rfl)
@[simp ↓] theorem opW_beq (n : Bool) (ks : List Nat) (x y : Opd) : opW P (.beq n ks x y) e H c K = beqW' n ks (ev e x) (ev e y) (Lz (fun v => K v H c) ⟨⟩) := (rfl)
@[simp ↓] theorem opW_un (op : UnOp) (x : Opd) : opW P (.un op x) e H c K = unW op (ev e x) (Lz (fun v => K v H c) ⟨⟩) := (rfl)
@[simp ↓] theorem opW_toInt (k : IntKind) (x : Opd) : opW P (.toInt k x) e H c K = toIntW k (ev e x) (Lz (fun v => K v H c) ⟨⟩) := (rfl)
@[simp ↓] theorem opW_toStr (x : Opd) : opW P (.toStr x) e H c K = toStrW (ev e x) H (Lz (fun v => K v H c) ⟨⟩) := (rfl)
@[simp ↓] theorem opW_toBytes (x : Opd) : opW P (.toBytes x) e H c K = toBytesW (ev e x) H c K := (rfl)
@[simp ↓] theorem opW_mkfn (f : Nat) (l : List Opd) : opW P (.mkfn f l) e H c K = K (.fn f (l.map (ev e))) H c := (rfl)
@[simp ↓] theorem opW_mkmap : opW P .mkmap e H c K = K (.mref H.length c) (H ++ [⟨true, c, 0, []⟩]) (c + 1) := (rfl)
@[simp ↓] theorem opW_mkslice (w : Nat) (z : List AV) (b : Nat) (l x : Opd) : opW P (.mkslice w z b l x) e H c K = mksliceW w z b (ev e l) (ev e x) H c K := (rfl)
@[simp ↓] theorem opW_sliceS (x : Opd) (l h : Option Opd) : opW P (.sliceS x l h) e H c K = strSliceW (ev e x) (l.map (ev e)) (h.map (ev e)) (Lz (fun v => K v H c) ⟨⟩) := (rfl)
@[simp ↓] theorem opW_slice (w : Nat) (x : Opd) (l h : Option Opd) : opW P (.slice w x l h) e H c K = slcSliceW w (ev e x) (l.map (ev e)) (h.map (ev e)) (Lz (fun v => K v H c) ⟨⟩) := (rfl)
@[simp ↓] theorem opW_faddr (o : Nat) (x : Opd) : opW P (.faddr o x) e H c K = faddrW o (ev e x) (Lz (fun v => K v H c) ⟨⟩) := (rfl)
@[simp ↓] theorem opW_field (o : Nat) (ag : Option Nat) (x : Opd) : opW P (.field o ag x) e H c K = fieldW o ag (ev e x) (Lz (fun v => K v H c) ⟨⟩) := (rfl)
@[simp ↓] theorem opW_iaddr (w : Nat) (x i : Opd) : opW P (.iaddr w x i) e H c K = iaddrW w (ev e x) (ev e i) (Lz (fun v => K v H c) ⟨⟩) := (rfl)
@[simp ↓] theorem opW_index (x i : Opd) : opW P (.index x i) e H c K = indexW (ev e x) (ev e i) (Lz (fun v => K v H c) ⟨⟩) := (rfl)
@[simp ↓] theorem opW_lookup (d : Nat) (z : AV) (k : Bool) (m x : Opd) : opW P (.lookup d z k m x) e H c K = lookupW (keyD d) z k (ev e m) (ev e x) H (Lz (fun v => K v H c) ⟨⟩) := (rfl)
@[simp ↓] theorem opW_mupd (d : Nat) (m k v : Opd) : opW P (.mupd d m k v) e H c K = mupdW (keyD d) (ev e m) (ev e k) (ev e v) H c K := (rfl)
@[simp ↓] theorem opW_lenS (x : Opd) : opW P (.lenS x) e H c K = lenStrW (ev e x) (Lz (fun v => K v H c) ⟨⟩) := (rfl)
@[simp ↓] theorem opW_lenL (x : Opd) : opW P (.lenL x) e H c K = lenSlcW (ev e x) (Lz (fun v => K v H c) ⟨⟩) := (rfl)
@[simp ↓] theorem opW_lenM (x : Opd) : opW P (.lenM x) e H c K = lenMapW (ev e x) H (Lz (fun v => K v H c) ⟨⟩) := (rfl)
@[simp ↓] theorem opW_append (w b : Nat) (x y : Opd) : opW P (.append w b x y) e H c K = appendW w b (ev e x) (ev e y) H c K := (rfl)
@[simp ↓] theorem opW_extract (x : Opd) (i : Nat) : opW P (.extract x i) e H c K = extractW (ev e x) i (Lz (fun v => K v H c) ⟨⟩) := (rfl)
@[simp ↓] theorem opW_call (f : Nat) (as0 : List Opd) : opW P (.call f as0) e H c K = CallW P f (as0.map (ev e)) H c K := (rfl)
@[simp ↓] theorem opW_isnl (neg : Bool) (x : Opd) : opW P (.isnl neg x) e H c K = isnlW neg (ev e x) (Lz (fun v => K v H c) ⟨⟩) := (rfl)
@[simp ↓] theorem opW_callF (f : Nat) (as0 : List Opd) : opW P (.callF f as0) e H c K = callFW P f (as0.map (ev e)) H c K := (rfl)
@[simp ↓] theorem opW_callv (x : Opd) (as0 : List Opd) : opW P (.callv x as0) e H c K = callvW P (ev e x) (as0.map (ev e)) H c K := (rfl)

@[simp] theorem guardW_tt (r s : Prop) (u v) : guardW (.bool true) true (LzP r u) (LzP s v) = r := by simp [guardW, LzP]
@[simp] theorem guardW_ff (r s : Prop) (u v) : guardW (.bool false) false (LzP r u) (LzP s v) = r := by simp [guardW, LzP]
@[simp] theorem guardW_tf (r s : Prop) (u v) : guardW (.bool true) false (LzP r u) (LzP s v) = s := by simp [guardW, LzP]
@[simp] theorem guardW_ft (r s : Prop) (u v) : guardW (.bool false) true (LzP r u) (LzP s v) = s := by simp [guardW, LzP]
@[simp] theorem guardW_und (b : Bool) (r s : Prop) (u v) : guardW .und b (LzP r u) (LzP s v) = s := (rfl)

@[simp ↓] theorem getW_zero {α : Type} (x : α) (l : List α) (K : α → Prop) : getW (x :: l) 0 K = K x := by simp [getW]
@[simp ↓] theorem getW_succ {α : Type} (x : α) (l : List α) (n : Nat) (K : α → Prop) : getW (x :: l) (n + 1) K = getW l n K := by simp [getW]
theorem getW_of {α : Type} {l : List α} {i : Nat} {x : α} (h : l[i]? = some x) (K : α → Prop) : getW l i K = K x := by simp [getW, h]
@[simp] theorem getW_map {α β : Type} (f : α → β) (l : List α) (i : Nat) (K : β → Prop) : getW (l.map f) i K = getW l i (Lz (fun x => K (f x)) ⟨⟩) := by
  show getW (l.map f) i K = getW l i fun x => K (f x)
  simp only [getW, List.getElem?_map, eq_iff_iff]
  constructor
  · rintro ⟨x, hx, k⟩; simp at hx; obtain ⟨a, ha, rfl⟩ := hx; exact ⟨a, ha, k⟩
  · rintro ⟨a, ha, k⟩; exact ⟨f a, by simp [ha], k⟩

@[simp] theorem pickW_bool (b : Bool) (x y : AV) (K : AV → Prop) : pickW (.bool b) x y K = ((b = true → K x) ∧ (b = false → K y)) := (rfl)
@[simp] theorem boxW_agg (l : List AV) : boxW (.agg l) H c K = K (.ptr H.length c l.length 0 0) (H ++ [⟨false, c, l.length, [l]⟩]) (c + 1) := (rfl)
@[simp] theorem boxW_int (k : IntKind) (n : Int) : boxW (.int k n) H c K = K (.ptr H.length c 1 0 0) (H ++ [⟨false, c, 1, [[.int k n]]⟩]) (c + 1) := (rfl)
@[simp] theorem boxW_bool (b : Bool) : boxW (.bool b) H c K = K (.ptr H.length c 1 0 0) (H ++ [⟨false, c, 1, [[.bool b]]⟩]) (c + 1) := (rfl)
@[simp] theorem boxW_str (l : List UInt8) : boxW (.str l) H c K = K (.ptr H.length c 1 0 0) (H ++ [⟨false, c, 1, [[.str l]]⟩]) (c + 1) := (rfl)
@[simp] theorem boxW_slc (t w : Nat) (r : List (List AV)) : boxW (.slc t w r) H c K = K (.ptr H.length c 1 0 0) (H ++ [⟨false, c, 1, [[.slc t w r]]⟩]) (c + 1) := (rfl)
@[simp] theorem cellsW_agg (l : List AV) (K : List AV → Prop) : cellsW (.agg l) K = K l := (rfl)
@[simp] theorem cellsW_int (k : IntKind) (n : Int) (K : List AV → Prop) : cellsW (.int k n) K = K [.int k n] := (rfl)
@[simp] theorem cellsW_bool (b : Bool) (K : List AV → Prop) : cellsW (.bool b) K = K [.bool b] := (rfl)
@[simp] theorem cellsW_str (l : List UInt8) (K : List AV → Prop) : cellsW (.str l) K = K [.str l] := (rfl)
@[simp] theorem cellsW_slc (t w : Nat) (r : List (List AV)) (K : List AV → Prop) : cellsW (.slc t w r) K = K [.slc t w r] := (rfl)
@[simp] theorem cellsW_ref (i t w l : Nat) (K : List AV → Prop) : cellsW (.ref i t w l) K = K [.ref i t w l] := (rfl)
@[simp] theorem cellsW_nsl (K : List AV → Prop) : cellsW .nsl K = K [.nsl] := (rfl)
@[simp] theorem cellsW_ptr (i t w r o : Nat) (K : List AV → Prop) : cellsW (.ptr i t w r o) K = K [.ptr i t w r o] := (rfl)
@[simp] theorem rowW_none (row : List AV) (o : Nat) (K : AV → Prop) : rowW none row o K = getW row o K := (rfl)
@[simp] theorem rowW_some (n : Nat) (row : List AV) (o : Nat) (K : AV → Prop) : rowW (some n) row o K = (o + n ≤ row.length ∧ K (.agg ((row.drop o).take n))) := (rfl)
@[simp] theorem loadW_cpt (ag : Option Nat) (cells : List AV) (o : Nat) (K : AV → Prop) : loadW ag (.cpt cells o) H K = rowW ag cells o K := (rfl)
@[simp] theorem loadW_ptr (ag : Option Nat) (i tag w r o : Nat) (K : AV → Prop) : loadW ag (.ptr i tag w r o) H K = getW H i fun ob => ob.tag = tag ∧ ob.mp = false ∧ ob.w = w ∧ getW ob.rows r fun row => rowW ag row o K := (rfl)
@[simp] theorem storeW_ptr (n i tag w r o : Nat) (x : AV) : storeW n (.ptr i tag w r o) x H c K = cellsW x fun l => l.length = n ∧ getW H i fun ob => ob.tag = tag ∧ ob.mp = false ∧ ob.w = w ∧ getW ob.rows r fun row =>
      o + n ≤ w ∧ K .und (H.set i { ob with rows := ob.rows.set r (putA row o l) }) c := (rfl)
@[simp] theorem nilckW_ptr (i tag w r o : Nat) (K : AV → Prop) : nilckW (.ptr i tag w r o) K = K (.ptr i tag w r o) := (rfl)
@[simp] theorem nilckW_cpt (l : List AV) (o : Nat) (K : AV → Prop) : nilckW (.cpt l o) K = K (.cpt l o) := (rfl)
@[simp] theorem nilckW_fn (f : Nat) (l : List AV) (K : AV → Prop) : nilckW (.fn f l) K = K (.fn f l) := (rfl)
@[simp] theorem faddrW_cpt (off : Nat) (l : List AV) (o : Nat) (K : AV → Prop) : faddrW off (.cpt l o) K = K (.cpt l (o + off)) := (rfl)
@[simp] theorem faddrW_ptr (off i tag w r o : Nat) (K : AV → Prop) : faddrW off (.ptr i tag w r o) K = K (.ptr i tag w r (o + off)) := (rfl)
@[simp] theorem fieldW_agg (off : Nat) (ag : Option Nat) (l : List AV) (K : AV → Prop) : fieldW off ag (.agg l) K = rowW ag l off K := (rfl)
@[simp] theorem iaddrW_slc (w : Nat) (k : IntKind) (n : Int) (t w' : Nat) (rows : List (List AV)) (K : AV → Prop) : iaddrW w (.slc t w' rows) (.int k n) K = (w' = w ∧ 0 ≤ n ∧ getW rows n.toNat fun row => K (.cpt row 0)) := (rfl)
@[simp] theorem iaddrW_ref (w : Nat) (k : IntKind) (n : Int) (i t w' l : Nat) (K : AV → Prop) : iaddrW w (.ref i t w' l) (.int k n) K = (w' = w ∧ 0 ≤ n ∧ n < l ∧ K (.ptr i t w n.toNat 0)) := (rfl)
@[simp] theorem indexW_str (k : IntKind) (n : Int) (l : List UInt8) (K : AV → Prop) : indexW (.str l) (.int k n) K = (0 ≤ n ∧ getW l n.toNat fun b => K (.int .u8 b.toNat)) := (rfl)
@[simp] theorem strSliceW_str (l : List UInt8) (lo hi : Option AV) (K : AV → Prop) : strSliceW (.str l) lo hi K = bndW lo 0 fun a => bndW hi l.length fun b => a ≤ b ∧ b ≤ l.length ∧ K (.str ((l.take b).drop a)) := (rfl)
@[simp] theorem slcSliceW_slc (w t w' : Nat) (rows : List (List AV)) (lo hi : Option AV) (K : AV → Prop) :
    slcSliceW w (.slc t w' rows) lo hi K = (w' = w ∧ bndW lo 0 fun a => bndW hi rows.length fun b => a ≤ b ∧ b ≤ rows.length ∧ K (.slc t w' ((rows.take b).drop a))) := (rfl)
@[simp] theorem slcSliceW_ref (w i t w' l : Nat) (lo hi : Option AV) (K : AV → Prop) :
    slcSliceW w (.ref i t w' l) lo hi K = (w' = w ∧ bndW lo 0 fun a => bndW hi l fun b => if a = 0 then b ≤ l ∧ K (.ref i t w' b) else a ≤ b ∧ b ≤ l ∧ K (.sub i t w' a (b - a))) := (rfl)
@[simp] theorem bndW_none (d : Nat) (K : Nat → Prop) : bndW none d K = K d := (rfl)
@[simp] theorem bndW_some (d : Nat) (k : IntKind) (n : Int) (K : Nat → Prop) : bndW (some (.int k n)) d K = (0 ≤ n ∧ K n.toNat) := (rfl)
@[simp] theorem lenStrW_str (l : List UInt8) (K : AV → Prop) : lenStrW (.str l) K = K (.int .i64 l.length) := (rfl)
@[simp] theorem lenSlcW_slc (t w : Nat) (rows : List (List AV)) (K : AV → Prop) : lenSlcW (.slc t w rows) K = K (.int .i64 rows.length) := (rfl)
@[simp] theorem lenSlcW_ref (i t w l : Nat) (K : AV → Prop) : lenSlcW (.ref i t w l) K = K (.int .i64 l) := (rfl)
@[simp ↓] theorem opW_isni (neg : Bool) (x : Opd) : opW P (.isni neg x) e H c K = isniW neg (ev e x) (Lz (fun v => K v H c) ⟨⟩) := (rfl)
@[simp] theorem isniW_ifc (neg b : Bool) (K : AV → Prop) : isniW neg (.ifc b) K = K (.bool (b != neg)) := (rfl)
@[simp] theorem isnlW_nsl (neg : Bool) (K : AV → Prop) : isnlW neg .nsl K = K (.bool (true != neg)) := (rfl)
@[simp] theorem isnlW_ref (neg : Bool) (i t w n : Nat) (K : AV → Prop) : isnlW neg (.ref i t w n) K = K (.bool (false != neg)) := (rfl)
@[simp] theorem lenSlcW_nsl (K : AV → Prop) : lenSlcW .nsl K = K (.int .i64 0) := (rfl)
@[simp] theorem lenMapW_mref (i t : Nat) (K : AV → Prop) : lenMapW (.mref i t) H K = getW H i fun ob => ob.tag = t ∧ ob.mp = true ∧ K (.int .i64 ob.rows.length) := (rfl)
@[simp] theorem extractW_tup (vs : List AV) (i : Nat) (K : AV → Prop) : extractW (.tup vs) i K = getW vs i K := (rfl)
@[simp] theorem unW_not (b : Bool) (K : AV → Prop) : unW .not (.bool b) K = K (.bool (!b)) := (rfl)
@[simp] theorem unW_neg (k : IntKind) (n : Int) (K : AV → Prop) : unW .neg (.int k n) K = K (.int k (k.wrap (0 - n))) := (rfl)
@[simp] theorem toIntW_int (k k' : IntKind) (n : Int) (K : AV → Prop) : toIntW k (.int k' n) K = K (.int k (k.wrap n)) := (rfl)
@[simp] theorem fillW_nil (l : List AV) (K : List AV → Prop) : fillW l [] K = K l := (rfl)
@[simp] theorem fillW_cons (l : List AV) (off n : Nat) (v : AV) (r : List (Nat × Nat × AV)) (K : List AV → Prop) : fillW l ((off, n, v) :: r) K = cellsW v fun m => m.length = n ∧ off + n ≤ l.length ∧ fillW (putA l off m) r K := (rfl)
@[simp] theorem bsliceW_eq (w : Nat) (z : List AV) (n : Nat) (ps : List (Nat × AV)) : bsliceW w z n ps H c K = rowsFillW (List.replicate n z) ps fun rows => K (.ref H.length c w n) (H ++ [⟨false, c, w, rows⟩]) (c + 1) := (rfl)
@[simp] theorem rowsFillW_nil (l : List (List AV)) (K : List (List AV) → Prop) : rowsFillW l [] K = K l := (rfl)
@[simp] theorem rowsFillW_cons (l : List (List AV)) (i : Nat) (v : AV) (r : List (Nat × AV)) (K : List (List AV) → Prop) : rowsFillW l ((i, v) :: r) K = cellsW v fun m => getW l i fun row => m.length = row.length ∧ rowsFillW (l.set i m) r K := (rfl)
@[simp] theorem mksliceW_int (w : Nat) (z : List AV) (b : Nat) (k k' : IntKind) (n m : Int) : mksliceW w z b (.int k n) (.int k' m) H c K =
    (0 ≤ n ∧ n ≤ m ∧ m ≤ 281474976710656 ∧ m.toNat * b ≤ 281474976710656 ∧ K (.ref H.length c w n.toNat) (H ++ [⟨false, c, w, List.replicate n.toNat z⟩]) (c + 1)) := (rfl)

@[simp] theorem binW_int (op : BinOp) (k : IntKind) (a b : Int) (h : (op != .shl && op != .shr) = true) (K : AV → Prop) : binW op (.int k a) (.int k b) K = intW op k a b K := by
  cases op <;> first | (simp at h; done) | simp [binW]
@[simp] theorem binW_str (op : BinOp) (a b : List UInt8) (K : AV → Prop) : binW op (.str a) (.str b) K = strW op a b K := (rfl)
@[simp] theorem binbW_bool (op : BinOp) (a b : Bool) (K : AV → Prop) : binbW op (.bool a) (.bool b) K = boolW op a b K := (rfl)
theorem dec_beq {α : Type} [DecidableEq α] [BEq α] [LawfulBEq α] (a b : α) : (a == b) = decide (a = b) := by
  by_cases h : a = b <;> simp [h]
@[simp] theorem intW_add (k : IntKind) (a b : Int) (K : AV → Prop) : intW .add k a b K = K (.int k (k.wrap (a + b))) := (rfl)
@[simp] theorem intW_sub (k : IntKind) (a b : Int) (K : AV → Prop) : intW .sub k a b K = K (.int k (k.wrap (a - b))) := (rfl)
@[simp] theorem intW_mul (k : IntKind) (a b : Int) (K : AV → Prop) : intW .mul k a b K = K (.int k (k.wrap (a * b))) := (rfl)
@[simp] theorem intW_quo (k : IntKind) (a b : Int) (K : AV → Prop) : intW .quo k a b K = (b ≠ 0 ∧ K (.int k (k.wrap (a.tdiv b)))) := (rfl)
@[simp] theorem intW_rem (k : IntKind) (a b : Int) (K : AV → Prop) : intW .rem k a b K = (b ≠ 0 ∧ K (.int k (a.tmod b))) := (rfl)
@[simp] theorem intW_eql (k : IntKind) (a b : Int) (K : AV → Prop) : intW .eql k a b K = K (.bool (decide (a = b))) := by rw [← dec_beq]; rfl
@[simp] theorem intW_neq (k : IntKind) (a b : Int) (K : AV → Prop) : intW .neq k a b K = K (.bool (!decide (a = b))) := by rw [← dec_beq]; rfl
@[simp] theorem intW_lss (k : IntKind) (a b : Int) (K : AV → Prop) : intW .lss k a b K = K (.bool (decide (a < b))) := (rfl)
@[simp] theorem intW_leq (k : IntKind) (a b : Int) (K : AV → Prop) : intW .leq k a b K = K (.bool (decide (a ≤ b))) := (rfl)
@[simp] theorem intW_gtr (k : IntKind) (a b : Int) (K : AV → Prop) : intW .gtr k a b K = K (.bool (decide (a > b))) := (rfl)
@[simp] theorem intW_geq (k : IntKind) (a b : Int) (K : AV → Prop) : intW .geq k a b K = K (.bool (decide (a ≥ b))) := (rfl)
@[simp] theorem strW_add (a b : List UInt8) (K : AV → Prop) : strW .add a b K = (a.length + b.length ≤ mx ∧ K (.str (a ++ b))) := (rfl)
@[simp] theorem strW_eql (a b : List UInt8) (K : AV → Prop) : strW .eql a b K = K (.bool (decide (a = b))) := by rw [← dec_beq]; rfl
@[simp] theorem strW_neq (a b : List UInt8) (K : AV → Prop) : strW .neq a b K = K (.bool (!decide (a = b))) := by rw [← dec_beq]; rfl
@[simp] theorem strW_lss (a b : List UInt8) (K : AV → Prop) : strW .lss a b K = K (.bool (Op.bytesLess a b)) := (rfl)
@[simp] theorem boolW_eql (a b : Bool) (K : AV → Prop) : boolW .eql a b K = K (.bool (a == b)) := (rfl)
@[simp] theorem boolW_neq (a b : Bool) (K : AV → Prop) : boolW .neq a b K = K (.bool (!(a == b))) := (rfl)
@[simp] theorem beqW'_agg (neg : Bool) (ks : List Nat) (x y : List AV) (K : AV → Prop) : beqW' neg ks (.agg x) (.agg y) K = (fitsK ks x = true ∧ (match eqCells x y with | some b => K (.bool (b != neg)) | none => False)) := (rfl)

/-- the simplest end: a value without anything to be seen otherwise -/
theorem fin_plain {Q : AV → List AObj → Nat → Prop} {v : AV} (h : Q v [] c) : finW Q v H c :=
  ⟨[], [], [], v, List.nil_sublist H, .nil, by simp, by simp [tags], .refl v, h⟩

theorem fn_of {f : Nat} {F : Fun} {args : List AV} {res : AV} (hf : compF P f = some F) (hl : args.length ≤ F.n) (h : ∀ c, irW P F.ir (retQ F.rs fun r H' _ => r = res ∧ H' = []) (env0 args) [] c) : Fnc P f args res :=
  fun c => con_of hf hl (h c)

end
end A
end Go.Proofs.YtmhmaokbicgmbaaGreatDoor

/-
  The arguments as0 the row reads them, as0 abstract values. No condition.
-/




namespace Go.Proofs.YtmhmaokbicgmbaaGreatDoor
namespace A
set_option linter.unusedVariables false

def tile (P : Program) (N : Nat) : Nat → List Field → Bool
  | o, [] => o == N
  | o, f :: fs => f.offset == o && tile P N (o + P.cellsOf f.type) fs

def okRow (P : Program) (ts : List TypeId) (t : TypeId) : Bool :=
  match P.underlying t with
  | some .bool | some (.int _) | some .string => P.cellsOf t == 1
  | some (.slice e) | some (.pointer e) => P.cellsOf t == 1 && (ts.contains e && decide (0 < P.cellsOf e))
  | some (.struct fs) => (fs.toList.all fun f => ts.contains f.type) && tile P (P.cellsOf t) 0 fs.toList
  | _ => false
/-- A closed set of types that these proofs read. -/
def okRows (P : Program) (ts : List TypeId) : Bool := ts.all (okRow P ts)

/-- The shape of a type's cells. -/
def ShC (P : Program) : Nat → TypeId → List AV → Prop
  | 0, _, _ => False
  | n + 1, t, as0 =>
    match P.underlying t with
    | some .bool => ∃ b, as0 = [.bool b]
    | some (.int k) => ∃ i, as0 = [.int k i] ∧ IOk k i
    | some .string => ∃ l, as0 = [.str l] ∧ l.length ≤ mx
    | some (.slice e) => as0 = [.nsl] ∨ ∃ tag rows, as0 = [.slc tag (P.cellsOf e) rows] ∧ rows.length ≤ mx ∧ ∀ row, row ∈ rows → ShC P n e row
    | some (.pointer e) => as0 = [.nptr] ∨ ∃ cells, as0 = [.cpt cells 0] ∧ ShC P n e cells
    | some (.struct fs) => as0.length = P.cellsOf t ∧ ∀ f, f ∈ fs.toList → ShC P n f.type ((as0.drop f.offset).take (P.cellsOf f.type))
    | _ => False

/-- The state when the law is called: all that lies in memory is only read. -/
def G0 (w : World) : Gh := ⟨id, w.heap.size, fun t => t < w.heap.size⟩
theorem inv0 (w : World) (hg : ∀ b, b < NB → b < w.heap.size ∧ GL b w.heap[b]?) : Inv (G0 w) [] w.heap :=
  ⟨fun t h => ⟨h, h⟩, by simp, by simp [tags], by simp [tags], fun t t' _ _ h => h, fun b hb => ⟨(hg b hb).1, (hg b hb).1, rfl, (hg b hb).2⟩⟩

section
variable {H : Type} {enc : TypeId × Value → H} {P : Program} {w : World} {base : Nat} {sp : Nat → Bool} {held : Bool}

def Rd (w : World) (cs : List Value) (as0 : List AV) : Prop := as0.length = cs.length ∧ ∀ (j : Nat) (v : Value) (a : AV), cs[j]? = some v → as0[j]? = some a → a.cell = true ∧ Rep (G0 w) w.heap v a

theorem Rd.one {v : Value} {a : AV} (hc : a.cell = true) (r : Rep (G0 w) w.heap v a) : Rd w [v] [a] :=
  ⟨rfl, fun j v' a' h1 h2 => by
    cases j with
    | zero => simp at h1 h2; subst h1; subst h2; exact ⟨hc, r⟩
    | succ j => simp at h1⟩

theorem cells_at {a : Addr} {n : Nat} {cs : List Value} (h : w.cells? base a n = some cs) (hn : 0 < n) : a.spot = none ∧ a.block < w.heap.size ∧ cs.length = n ∧ ∀ j : Nat, j < n → ∃ v, cs[j]? = some v ∧ hcell w.heap a.block (a.off + j) = some v := by
  unfold World.cells? at h
  split at h
  · obtain ⟨hl, hg⟩ := mapM_get _ _ h
    have key : ∀ j : Nat, j < n → ∃ v, cs[j]? = some v ∧ w.cell? (a.add j) = some v := fun j hj => hg j j (by simp [hj])
    have hcell_of : ∀ (x : Addr) (v : Value), w.cell? x = some v → x.spot = none ∧ hcell w.heap x.block x.off = some v := fun x v hx => by
      unfold World.cell? at hx
      unfold hcell
      split at hx
      · split at hx
        · cases hx
        · rename_i hs; rw [‹w.heap[x.block]? = _›]; exact ⟨by simpa using hs, hx⟩
      · cases hx
    obtain ⟨v0, h0, h0'⟩ := key 0 hn
    have hs0 : a.spot = none := (hcell_of _ _ h0').1
    refine ⟨hs0, ?_, by simpa using hl, fun j hj => ?_⟩
    · have := (hcell_of _ _ h0').2
      unfold hcell at this
      rcases Nat.lt_or_ge a.block w.heap.size with h | h
      · exact h
      · have e : (a.add 0).block = a.block := rfl
        rw [e, Array.getElem?_eq_none h] at this; cases this
    · obtain ⟨v, h1, h2⟩ := key j hj
      refine ⟨v, h1, ?_⟩
      have := (hcell_of _ _ h2).2
      have e1 : (a.add j).block = a.block := by unfold Addr.add; split <;> rfl
      have e2 : (a.add j).off = a.off + j := by unfold Addr.add; split <;> simp_all
      rw [e1, e2] at this
      exact this
  · cases h

theorem drop_take_append {α : Type} (x y : List α) (o n : Nat) (h : x.length = o) : ((x ++ y).drop o).take n = y.take n := by
  subst h; simp

/-- Fields, laid end to end. -/
theorem read_fields {n : Nat} {ts : List TypeId} {N : Nat} {cs : List Value} (hcs : cs.length = N)
    (ih : ∀ t cs d ps, t ∈ ts → cs.length = P.cellsOf t → DataW.trod enc P w base sp held n t cs = some (d, ps) → ∃ as0, Rd w cs as0 ∧ ShC P n t as0) :
    ∀ (fs : List Field) (o : Nat) (xs : List (DataW H × List MemPlace)), tile P N o fs = true → (∀ f, f ∈ fs → f.type ∈ ts) → o ≤ N →
      fs.mapM (fun f => DataW.trod enc P w base sp held n f.type ((cs.drop f.offset).take (P.cellsOf f.type))) = some xs →
      ∀ pre : List AV, pre.length = o → ∃ as0, Rd w (cs.drop o) as0 ∧ ∀ f, f ∈ fs → ShC P n f.type (((pre ++ as0).drop f.offset).take (P.cellsOf f.type)) := by
  intro fs
  induction fs with
  | nil =>
    intro o xs ht _ ho _ pre hp
    simp [tile] at ht
    exact ⟨[], ⟨by simp; omega, by simp⟩, by simp⟩
  | cons f fs ihf =>
    intro o xs ht hm ho hx pre hp
    simp only [tile, Bool.and_eq_true, beq_iff_eq] at ht
    obtain ⟨h1, h2⟩ := ht
    simp only [List.mapM_cons, Option.bind_eq_bind, Option.bind_eq_some_iff, Option.pure_def, Option.some.injEq] at hx
    obtain ⟨⟨d, ps⟩, hd, ys, hys, rfl⟩ := hx
    have hle : o + P.cellsOf f.type ≤ N := by
      have : ∀ (fs : List Field) (k : Nat), tile P N k fs = true → k ≤ N := fun fs => by
        induction fs with
        | nil => intro k h; simp [tile] at h; omega
        | cons f fs ih => intro k h; simp only [tile, Bool.and_eq_true, beq_iff_eq] at h; have := ih _ h.2; omega
      exact this fs _ h2
    have hlen : ((cs.drop f.offset).take (P.cellsOf f.type)).length = P.cellsOf f.type := by simp; omega
    obtain ⟨a1, r1, s1⟩ := ih f.type _ d ps (hm f (List.mem_cons_self ..)) hlen hd
    have la1 : a1.length = P.cellsOf f.type := r1.1.trans hlen
    obtain ⟨a2, r2, s2⟩ := ihf (o + P.cellsOf f.type) ys h2 (fun g hg => hm g (List.mem_cons_of_mem _ hg)) hle hys (pre ++ a1) (by simp [hp, la1])
    refine ⟨a1 ++ a2, ⟨by have := r2.1; simp at this ⊢; omega, fun j v a hj ha => ?_⟩, fun g hg => ?_⟩
    · rw [List.getElem?_append] at ha
      split at ha
      · rename_i hlt
        refine r1.2 j v a ?_ ha
        rw [List.getElem?_take, if_pos (by omega), h1]
        exact hj
      · rename_i hge
        refine r2.2 (j - a1.length) v a ?_ ha
        rw [← hj, List.getElem?_drop, List.getElem?_drop]
        congr 1
        omega
    · rcases List.mem_cons.1 hg with rfl | hg
      · rw [h1]
        rw [drop_take_append _ _ _ _ hp, List.take_append_of_le_length (by omega), List.take_of_length_le (by omega)]
        exact s1
      · have := s2 g hg
        rwa [List.append_assoc] at this

theorem trod_read {ts : List TypeId} (hok : okRows P ts = true) : ∀ (n : Nat) (t : TypeId) (cs : List Value) (d : DataW H) (ps : List MemPlace), t ∈ ts → cs.length = P.cellsOf t → DataW.trod enc P w base sp held n t cs = some (d, ps) →
    ∃ as0, Rd w cs as0 ∧ ShC P n t as0 := by
  intro n
  induction n with
  | zero => intro t cs d ps _ _ h; simp [DataW.trod] at h
  | succ n ih =>
    intro t cs d ps ht hl h
    have hrow : okRow P ts t = true := List.all_eq_true.1 hok t ht
    unfold okRow at hrow
    unfold DataW.trod at h
    simp only [ShC]
    cases hu : P.underlying t with
    | none => rw [hu] at hrow; cases hrow
    | some desc =>
      rw [hu] at hrow h
      cases desc <;> simp only [Bool.false_eq_true] at hrow
      case bool =>
        split at h <;> first
          | (cases h; done)
          | skip
        all_goals (rename_i heq; first | (cases heq; done) | skip)
        rename_i b
        exact ⟨[.bool b], Rd.one rfl .bool, b, rfl⟩
      case int =>
        split at h <;> first
          | (cases h; done)
          | skip
        all_goals (rename_i heq; first | (cases heq; done) | skip)
        rename_i k' i
        cases heq
        split at h
        · rename_i hk
          obtain ⟨rfl, hw⟩ := hk
          have hi := (Lit.wf_int_iff _ _).1 hw
          exact ⟨[.int _ i], Rd.one rfl (.int hi), i, rfl, hi⟩
        · cases h
      case string =>
        split at h <;> first
          | (cases h; done)
          | skip
        all_goals (rename_i heq; first | (cases heq; done) | skip)
        rename_i s
        split at h
        · rename_i hk
          have hk' : s.data.toList.length ≤ mx := by
            have : s.data.toList.length = s.size := Array.length_toList
            unfold maxLen at hk; unfold mx; omega
          exact ⟨[.str s.data.toList], Rd.one rfl (.str rfl hk'), _, rfl, hk'⟩
        · cases h
      case slice e =>
        simp only [Bool.and_eq_true, List.contains_eq_mem, decide_eq_true_eq] at hrow
        replace hrow := hrow.2
        split at h <;> first
          | (cases h; done)
          | skip
        all_goals (rename_i heq; first | (cases heq; done) | skip)
        · exact ⟨[.nsl], Rd.one rfl .nsl, .inl rfl⟩
        · rename_i e' a len cap
          cases heq
          split at h
          · rename_i hk
            obtain ⟨hb, hlc, hcm⟩ := hk
            simp only [Option.bind_eq_some_iff, Option.map_eq_some_iff] at h
            obtain ⟨elems, hel, rest, _, _⟩ := h
            obtain ⟨hel1, hel2⟩ := mapM_get _ _ hel
            simp only [List.length_range] at hel1
            have hmx : len ≤ mx := by unfold maxLen at hcm; unfold mx; omega
            have hz : 0 < P.cellsOf e := hrow.2
            cases len with
            | zero => exact ⟨[.slc 0 (P.cellsOf e) []], Rd.one rfl .slc0, .inr ⟨0, [], rfl, by simp, by simp⟩⟩
            | succ len' =>
              have key : ∀ i : Nat, i < len' + 1 → ∃ (ecs : List Value) (as0 : List AV), w.cells? base (a.add (i * P.cellsOf e)) (P.cellsOf e) = some ecs ∧ Rd w ecs as0 ∧ ShC P n e as0 := fun i hi => by
                obtain ⟨⟨ed, eps⟩, _, he⟩ := hel2 i i (by simp [hi])
                simp only [Option.bind_eq_some_iff] at he
                obtain ⟨ecs, h1, h2⟩ := he
                obtain ⟨as0, r, s⟩ := ih e ecs ed eps hrow.1 (cells_at h1 hz).2.2.1 h2
                exact ⟨ecs, as0, h1, r, s⟩
              let row : Nat → List AV := fun i => if h : i < len' + 1 then Classical.choose (Classical.choose_spec (key i h)) else []
              let val : Nat → List Value := fun i => if h : i < len' + 1 then Classical.choose (key i h) else []
              have hrowv : ∀ i, i < len' + 1 → w.cells? base (a.add (i * P.cellsOf e)) (P.cellsOf e) = some (val i) ∧ Rd w (val i) (row i) ∧ ShC P n e (row i) := fun i hi => by
                simp only [row, val, dif_pos hi]
                exact Classical.choose_spec (Classical.choose_spec (key i hi))
              have h00 := cells_at (hrowv 0 (by omega)).1 hz
              have hspot : a.spot = none := by simpa [Addr.add] using h00.1
              have hblk : a.block < w.heap.size := by simpa [Addr.add] using h00.2.1
              have hget : ∀ (r : Nat) (x : List AV), ((List.range (len' + 1)).map row)[r]? = some x → r < len' + 1 ∧ x = row r := fun r x h => by
                simp only [List.getElem?_map, Option.map_eq_some_iff] at h
                obtain ⟨k, hk, rfl⟩ := h
                obtain ⟨h1, h2⟩ := List.getElem?_eq_some_iff.1 hk
                simp at h1 h2
                subst h2
                exact ⟨h1, rfl⟩
              have hcellv : ∀ (r o : Nat) (x : List AV) (b : AV), ((List.range (len' + 1)).map row)[r]? = some x → x[o]? = some b → ∃ v, (val r)[o]? = some v ∧ hcell w.heap a.block (a.off + r * P.cellsOf e + o) = some v ∧ b.cell = true ∧ Rep (G0 w) w.heap v b := fun r o x b hx hb => by
                obtain ⟨hr, rfl⟩ := hget r x hx
                obtain ⟨c1, r1, s1⟩ := hrowv r hr
                obtain ⟨_, _, q3, q4⟩ := cells_at c1 hz
                have ho : o < P.cellsOf e := by have := (List.getElem?_eq_some_iff.1 hb).1; have := r1.1; omega
                obtain ⟨v, v1, v2⟩ := q4 o ho
                have e1 : (a.add (r * P.cellsOf e)).block = a.block := by unfold Addr.add; split <;> rfl
                have e2 : (a.add (r * P.cellsOf e)).off = a.off + r * P.cellsOf e := by unfold Addr.add; split <;> simp_all
                rw [e1, e2] at v2
                obtain ⟨p1, p2⟩ := r1.2 o v b v1 hb
                exact ⟨v, v1, v2, p1, p2⟩
              refine ⟨[.slc a.block (P.cellsOf e) ((List.range (len' + 1)).map row)], Rd.one rfl ?_, .inr ⟨_, _, rfl, by simpa using hmx, fun x hx => ?_⟩⟩
              · have ha : a = ⟨(G0 w).m a.block, a.off, none⟩ := by cases a; simp at hspot; subst hspot; rfl
                have R : Rep (G0 w) w.heap (.slice (some ⟨(G0 w).m a.block, a.off, none⟩) ((List.range (len' + 1)).map row).length cap) (.slc a.block (P.cellsOf e) ((List.range (len' + 1)).map row)) := by
                 refine .slc (fun r o => ((val r)[o]?).getD undef) (show a.block < w.heap.size from hblk) (show a.block < w.heap.size from hblk) (by simpa using hmx) (by simpa using hlc) (fun r x hx => ?_) (fun r o x b hx hb => ?_) (fun r o x b hx hb => ?_) (fun r o x b hx hb => ?_)
                 · obtain ⟨hr, rfl⟩ := hget r x hx
                   obtain ⟨c1, r1, _⟩ := hrowv r hr
                   rw [r1.1, (cells_at c1 hz).2.2.1]
                 · obtain ⟨v, v1, v2, _, _⟩ := hcellv r o x b hx hb
                   rw [v1]; exact v2
                 · obtain ⟨v, v1, v2, v3, _⟩ := hcellv r o x b hx hb
                   exact v3
                 · obtain ⟨v, v1, v2, _, v4⟩ := hcellv r o x b hx hb
                   rw [v1]; exact v4
                have hl' : ((List.range (len' + 1)).map row).length = len' + 1 := by simp
                rw [hl', ← ha] at R
                exact R
              · obtain ⟨r, hr, rfl⟩ := List.mem_iff_getElem.1 hx
                obtain ⟨hr', e⟩ := hget r _ (List.getElem?_eq_getElem hr)
                rw [e]
                exact (hrowv r hr').2.2
          · cases h
      case pointer e =>
        simp only [Bool.and_eq_true, List.contains_eq_mem, decide_eq_true_eq] at hrow
        replace hrow := hrow.2
        split at h <;> first
          | (cases h; done)
          | skip
        all_goals (rename_i heq; first | (cases heq; done) | skip)
        · exact ⟨[.nptr], Rd.one rfl .nptr, .inl rfl⟩
        · rename_i e' a
          cases heq
          simp only [Option.map_eq_some_iff, Option.bind_eq_some_iff] at h
          obtain ⟨⟨d1, p1⟩, ⟨ecs, h1, h2⟩, _⟩ := h
          obtain ⟨q1, q2, q3, q4⟩ := cells_at h1 hrow.2
          obtain ⟨as0, r, s⟩ := ih e ecs d1 p1 hrow.1 q3 h2
          refine ⟨[.cpt as0 0], Rd.one rfl ?_, .inr ⟨as0, rfl, s⟩⟩
          have ha : a = ⟨(G0 w).m a.block, a.off + 0, none⟩ := by cases a; simp at q1; subst q1; rfl
          rw [ha]
          have hv : ∀ (j : Nat) (b : AV), as0[j]? = some b → ∃ v, ecs[j]? = some v ∧ hcell w.heap a.block (a.off + j) = some v ∧ b.cell = true ∧ Rep (G0 w) w.heap v b := fun j b hb => by
            obtain ⟨v, v1, v2⟩ := q4 j (by have := (List.getElem?_eq_some_iff.1 hb).1; have := r.1; omega)
            obtain ⟨p1, p2⟩ := r.2 j v b v1 hb
            exact ⟨v, v1, v2, p1, p2⟩
          refine .cpt (fun j => (ecs[j]?).getD undef) q2 q2 (fun j b hb => ?_) (fun j b hb => ?_) (fun j b hb => ?_)
          · obtain ⟨v, v1, v2, _⟩ := hv j b hb; rw [v1]; exact v2
          · obtain ⟨v, v1, v2, v3, _⟩ := hv j b hb; exact v3
          · obtain ⟨v, v1, v2, _, v4⟩ := hv j b hb; rw [v1]; exact v4
      case struct fs =>
        simp only [Bool.and_eq_true, List.all_eq_true, List.contains_eq_mem, decide_eq_true_eq] at hrow
        split at h <;> first
          | (cases h; done)
          | skip
        all_goals (rename_i heq; first | (cases heq; done) | skip)
        · cases heq
          rw [if_pos hl] at h
          simp only [Option.map_eq_some_iff] at h
          obtain ⟨xs, hxs, _⟩ := h
          obtain ⟨as0, r, s⟩ := read_fields hl ih fs.toList 0 xs hrow.2 hrow.1 (Nat.zero_le _) hxs [] rfl
          exact ⟨as0, by simpa using r, by have := r.1; simp at this; omega, fun f hf => by simpa using s f hf⟩
        · exact (‹∀ fs_1 : Array Field, some (TypeDesc.struct fs) = some (TypeDesc.struct fs_1) → False› fs rfl).elim
end
end A
end Go.Proofs.YtmhmaokbicgmbaaGreatDoor

/-
  From a contract over every shape of the arguments to the row's words. No condition.
-/






namespace Go.Proofs.YtmhmaokbicgmbaaGreatDoor
namespace A
open Go.RowKit Go.WideShapes Go.ChangeShapes Go.ChangeAt
set_option linter.unusedVariables false
section
variable {H : Type} {enc : TypeId × Value → H} {P : Program} {w : World}

def isSt (P : Program) (t : TypeId) : Bool := match P.underlying t with | some (.struct _) => true | _ => false

/-- The shape of an argument of a type. -/
def ArgSh (P : Program) (t : TypeId) (a : AV) : Prop := ∃ n, if isSt P t then ∃ as0, a = .agg as0 ∧ ShC P n t as0 else ShC P n t [a]

theorem rd_agg {cs : Array Value} {as0 : List AV} (r : Rd w cs.toList as0) : Rep (G0 w) w.heap (.agg cs) (.agg as0) := by
  have hl : cs.size = as0.length := by have := r.1; simp at this; exact this.symm
  have key : ∀ (j : Nat) (a : AV), as0[j]? = some a → ∃ v, cs[j]? = some v ∧ a.cell = true ∧ Rep (G0 w) w.heap v a := fun j a ha => by
    have hj := (List.getElem?_eq_some_iff.1 ha).1
    have hv : cs.toList[j]? = some (cs[j]'(by omega)) := by simp
    obtain ⟨h1, h2⟩ := r.2 j _ a hv ha
    exact ⟨_, Array.getElem?_eq_getElem (by omega), h1, h2⟩
  exact .agg hl (fun j a ha => let ⟨v, _, h, _⟩ := key j a ha; h) fun j a ha => by
    obtain ⟨v, h1, _, h2⟩ := key j a ha
    rw [getD_of h1]; exact h2

theorem arg_read {ts : List TypeId} (hok : okRows P ts = true) {t : TypeId} (ht : t ∈ ts) {base : Nat} {r : Reach} {b : Nat} {sp : Nat → Bool} {held : Bool} {v : Value} {d : DataW H} {ps : List MemPlace} (hv : Value.okWide P w r b t v) (h : DataW.Trod enc P w base sp held t v d ps) :
    ∃ a, ArgSh P t a ∧ Rep (G0 w) w.heap v a := by
  obtain ⟨n, h⟩ := h
  have hrow : okRow P ts t = true := List.all_eq_true.1 hok t ht
  have one : isSt P t = false → P.cellsOf t = 1 → v.cells = #[v] → ∃ a, ArgSh P t a ∧ Rep (G0 w) w.heap v a := fun h1 h2 h3 => by
    rw [h3] at h
    obtain ⟨as0, r, s⟩ := trod_read hok n t _ d ps ht (by simp [h2]) h
    have hl := r.1
    match as0, hl with
    | [a], _ => exact ⟨a, ⟨n, by rw [h1]; exact s⟩, (r.2 0 v a (by simp) (by simp)).2⟩
  unfold okRow at hrow
  unfold Value.okWide at hv
  have hcell : ∀ v, Cell.okWide P w r b t v → isSt P t = false → (match P.underlying t with | some .bool | some (.int _) | some .string | some (.slice _) | some (.pointer _) => true | _ => false) = true → v.cells = #[v] := fun v hv _ hm => by
    cases v <;> first
      | rfl
      | skip
    all_goals
      unfold Cell.okWide Cell.ok at hv
      cases hu : P.underlying t with
      | none => rw [hu] at hm; cases hm
      | some desc => rw [hu] at hm hv; cases desc <;> first | (cases hm; done) | exact hv.elim
  cases hu : P.underlying t with
  | none => rw [hu] at hrow; cases hrow
  | some desc =>
    rw [hu] at hrow hv
    cases desc <;> simp only [Bool.false_eq_true] at hrow
    case struct fs =>
      obtain ⟨cs, rfl, hsz, _⟩ := hv
      obtain ⟨as0, r, s⟩ := trod_read hok n t _ d ps ht (by simpa [Value.cells] using hsz) h
      exact ⟨.agg as0, ⟨n, by rw [if_pos (by simp [isSt, hu])]; exact ⟨as0, rfl, s⟩⟩, rd_agg r⟩
    all_goals
      have h1 : isSt P t = false := by simp [isSt, hu]
      refine one h1 ?_ (hcell v hv h1 (by rw [hu]))
      simp only [Bool.and_eq_true, beq_iff_eq] at hrow
      first | exact hrow | exact hrow.1

/-- Arguments and their shapes. -/
inductive ArgsSh (P : Program) : List TypeId → List AV → Prop
  | nil : ArgsSh P [] []
  | cons {t : TypeId} {ts : List TypeId} {a : AV} {as0 : List AV} (h : ArgSh P t a) (r : ArgsSh P ts as0) : ArgsSh P (t :: ts) (a :: as0)

theorem args_read {rs : List TypeId} (hok : okRows P rs = true) {base : Nat} {r : Reach} {b : Nat} {sp : Nat → Bool} {held : Bool} : ∀ (ts : List TypeId) (vs : List Value) (ds : List (DataW H)) (ps : List MemPlace), (∀ t, t ∈ ts → t ∈ rs) →
    (∀ (j : Nat) t v, ts[j]? = some t → vs[j]? = some v → Value.okWide P w r b t v) → DataW.TrodAll enc P w base sp held ts vs ds ps → vs.length = ts.length ∧ ∃ as0, as0.length = ts.length ∧ ArgsSh P ts as0 ∧ ∀ (j : Nat) (v : Value) (a : AV), vs[j]? = some v → as0[j]? = some a → Rep (G0 w) w.heap v a := by
  intro ts
  induction ts with
  | nil =>
    intro vs ds ps _ _ h
    obtain ⟨rfl, rfl, rfl⟩ := trodAll_nil h
    exact ⟨rfl, [], rfl, .nil, by simp⟩
  | cons t ts ih =>
    intro vs ds ps hm hv h
    obtain ⟨v, vs', d, ds', p, q, rfl, rfl, rfl, h1, h2⟩ := trodAll_cons h
    obtain ⟨a, s, ra⟩ := arg_read hok (hm t (List.mem_cons_self ..)) (hv 0 t v (by simp) (by simp)) h1
    obtain ⟨hl, as0, hla, ss, rs'⟩ := ih vs' ds' q (fun t h => hm t (List.mem_cons_of_mem _ h)) (fun j t v h1 h2 => hv (j + 1) t v (by simpa using h1) (by simpa using h2)) h2
    refine ⟨by simp [hl], a :: as0, by simp [hla], .cons s ss, fun j v' a' h1 h2 => ?_⟩
    cases j with
    | zero => simp at h1 h2; subst h1; subst h2; exact ra
    | succ j => exact rs' j v' a' (by simpa using h1) (by simpa using h2)

/-- A call that answers true and leaves all as0 it was. -/
theorem law_calls {f : Nat} {vs : Array Value} {as0 : List AV} (hg : ∀ b, b < NB → b < w.heap.size ∧ GL b w.heap[b]?) (hc : Con P f as0 [] w.heap.size fun r H' _ => r = .bool true ∧ H' = []) (hl : vs.toList.length = as0.length) (hr : ∀ (j : Nat) (v : Value) (a : AV), vs.toList[j]? = some v → as0[j]? = some a → Rep (G0 w) w.heap v a) :
    Calls P f vs w fun e w' => e = .returned (.bool true) ∧ Below w.heap.size w w' := by
  refine (hc (G0 w) w vs rfl (inv0 w hg) (by simpa using hl) fun j a ha => ?_).mono fun e w' ⟨v, res, H', G', he, ⟨h1, h2⟩, x, I, r⟩ => ?_
  · have hj := (List.getElem?_eq_some_iff.1 ha).1
    have hv : vs.toList[j]? = some (vs[j]'(by simp at hl; omega)) := by simp
    have h1 := hr j _ a hv ha
    rw [getD_of (Array.getElem?_eq_getElem (by simp at hl; omega))]
    exact h1
  · subst h1
    cases r
    exact ⟨he, x.os, x.tape, x.output, x.size, fun k hk => x.frame k hk (by simp [tags])⟩

theorem trodAll_stays (hl : laidOutB P = true) {W W' : World} (hb : Below W.heap.size W W') {sp : Nat → Bool} : ∀ (ts : List TypeId) (vs : List Value) (ds : List (DataW H)) (ps : List MemPlace), (∀ t, t ∈ ts → P.readableRec t = true ∧ t < P.types.size) →
    (∀ p, p ∈ ps → p.block < W.heap.size) → (∀ p, p ∈ ps → sp p.block = true) → DataW.TrodAll enc P W 0 (fun _ => true) true ts vs ds ps → DataW.TrodAll enc P W' 0 sp true ts vs ds ps := by
  intro ts
  induction ts with
  | nil => intro vs ds ps _ _ _ h; obtain ⟨rfl, rfl, rfl⟩ := trodAll_nil h; exact h
  | cons t ts ih =>
    intro vs ds ps ht hlt hs h
    obtain ⟨v, vs', d, ds', p, q, rfl, rfl, rfl, h1, h2⟩ := trodAll_cons h
    obtain ⟨t1, t2⟩ := ht t (List.mem_cons_self ..)
    exact ⟨p, q, WideElems.Trod_stays hl t1 t2 h1 (fun x hx => hb.same (hlt x (List.mem_append_left _ hx))) (fun x hx => hs x (List.mem_append_left _ hx)),
      ih vs' ds' q (fun t h => ht t (List.mem_cons_of_mem _ h)) (fun x hx => hlt x (List.mem_append_right _ hx)) (fun x hx => hs x (List.mem_append_right _ hx)) h2, rfl⟩

theorem post_of_below {f : Func} {s : ChangeSpec} {apart fresh handsOn again : Bool} {W W' : World} {args : Array Value} {v : Value} {ds gs : List (DataW H)} {before pa pv : List MemPlace}
    (hW : DataW.Whole enc P f.params.toList s.vars apart W args.toList ds gs before)
    (hres : ∀ (b : Nat) (sp : Nat → Bool) (hd : Bool), DataW.TrodAll enc P W' b sp hd f.resultTypes.toList (v.resultList f.resultTypes.size) (s.fn H (ds ++ gs)).results [])
    (hargs : ∀ sp : Nat → Bool, (∀ p ∈ before, sp p.block = true) → DataW.TrodAll enc P W' 0 sp true f.params.toList args.toList (s.fn H (ds ++ gs)).args pa)
    (hvars : ∀ sp : Nat → Bool, (∀ p ∈ before, sp p.block = true) → DataW.TrodVars enc P W' sp s.vars (s.fn H (ds ++ gs)).vars pv)
    (hps : before = pa ++ pv) (hb : Below W.heap.size W W')
    (hok : ∀ (j : Nat) (t : TypeId) (r : Value), f.resultTypes[j]? = some t → (v.resultList f.resultTypes.size)[j]? = some r → Value.okWide P W' .any 0 t r) :
    s.post enc P f apart fresh handsOn again W args v W' := by
  have hlt : ∀ p ∈ before, p.block < W.heap.size := fun p hp => hW.lt p hp
  have hold : ∀ p ∈ before, (fun b => decide (b < W.heap.size)) p.block = true := fun p hp => by simpa using hlt p hp
  refine ⟨ds, gs, before, [], pa, pv, hW, hres _ _ _, hargs _ hold, hvars _ hold, World.keptBut_mono (fun p hp => ⟨hp, ?_⟩) (hb.frame (· ∈ before)), fun _ => ?_⟩
  · rw [hps, List.mem_append] at hp
    exact Or.inr hp
  · obtain ⟨_, _, _, _, _, hz, hn⟩ := hW
    refine ⟨hok, _, _, ([] ++ pa) ++ pv, ⟨[] ++ pa, pv, trodAll_append (hargs _ (fun _ _ => rfl)) (hres _ _ _), hvars _ (fun _ _ => rfl), rfl, ?_, ?_⟩, ?_⟩
    · intro b off hp
      have hin : MemPlace.cell b off ∈ before := by rw [hps]; simpa using hp
      rw [hb.frozen (hlt _ hin)]
      exact hz b off hin
    · intro ha
      have := hn ha
      rw [hps] at this
      simpa using this
    · intro p hp _
      rw [hps]
      simpa using hp

/-- The whole: what the row asks behind the call. -/
theorem law_post {f : Nat} {fn : Func} {s : ChangeSpec} {W : World} {args : Array Value} {ds gs : List (DataW H)} {before : List MemPlace} {bt : TypeId} {rs : List TypeId} {base : Nat} {fresh handsOn again : Bool}
    (hok : okRows P rs = true) (hl : laidOutB P = true) (hts : ∀ t, t ∈ fn.params.toList → t ∈ rs ∧ P.readableRec t = true ∧ t < P.types.size) (hbt : P.underlying bt = some .bool) (hres : fn.resultTypes = #[bt]) (hvars : s.vars = [])
    (hs : ∀ ds : List (DataW H), ds.length = fn.params.size → (s.fn H ds).results = [.lit (.bool true)] ∧ (s.fn H ds).args = ds ∧ (s.fn H ds).vars = [])
    (hW : DataW.Whole enc P fn.params.toList s.vars false W args.toList ds gs before)
    (hval : ∀ (j : Nat) t v, fn.params[j]? = some t → args[j]? = some v → Value.okWide P W .any base t v)
    (hcon : ∀ as0, ArgsSh P fn.params.toList as0 → Con P f as0 [] W.heap.size fun r H' _ => r = .bool true ∧ H' = [])
    (hg : ∀ b, b < NB → b < W.heap.size ∧ GL b W.heap[b]? := by intro b hb; exact absurd hb (Nat.not_lt_zero b)) :
    Calls P f args W fun e W' => ∃ v, e = .returned v ∧ s.post enc P fn false fresh handsOn again W args v W' := by
  have hW' := hW
  obtain ⟨p, q, hA, hV, rfl, hfz, hnd⟩ := hW
  rw [hvars] at hV
  obtain ⟨rfl, rfl⟩ := trodVars_none hV
  obtain ⟨hlen, as0, hla, hsh, hrep⟩ := args_read (w := W) hok fn.params.toList args.toList ds p (fun t h => (hts t h).1) (fun j t v h1 h2 => hval j t v (by simpa using h1) (by simpa using h2)) hA
  refine (law_calls hg (hcon as0 hsh) (hlen.trans hla.symm) hrep).mono fun e W' ⟨he, hb⟩ => ?_
  have hds : ds.length = fn.params.size := by
    have : ∀ (ts : List TypeId) (vs : List Value) (ds : List (DataW H)) (ps : List MemPlace), DataW.TrodAll enc P W 0 (fun _ => true) true ts vs ds ps → ds.length = ts.length := fun ts => by
      induction ts with
      | nil => intro vs ds ps h; obtain ⟨rfl, rfl, rfl⟩ := trodAll_nil h; rfl
      | cons t ts ih => intro vs ds ps h; obtain ⟨v, vs', d, ds', p, q, rfl, rfl, rfl, h1, h2⟩ := trodAll_cons h; simp [ih _ _ _ h2]
    simpa using this _ _ _ _ hA
  obtain ⟨s1, s2, s3⟩ := hs (ds ++ []) (by simpa using hds)
  refine ⟨_, he, post_of_below (pa := p) (pv := []) hW' (fun b sp hd => ?_) (fun sp hsp => ?_) (fun sp _ => ?_) (by simp) hb ?_⟩
  · rw [s1, hres]
    exact trodAll_cons_mk (shut_bool hbt _) trodAll_mk0
  · rw [s2, List.append_nil]
    exact trodAll_stays hl hb _ _ _ _ (fun t h => (hts t h).2) (fun x hx => hW'.lt x (by simpa using hx)) (fun x hx => hsp x (by simpa using hx)) hA
  · rw [s3, hvars]; rfl
  · exact ok_one hres rfl (okWide_bool_mk hbt _)
end
end A
end Go.Proofs.YtmhmaokbicgmbaaGreatDoor

/-
  Typed readings of trees. No condition.
-/

namespace Go.Proofs.YtmhmaokbicgmbaaGreatDoor
namespace A
set_option linter.unusedVariables false

/-- A slice that is only read. -/
inductive SL (α : Type) where
  | nil
  | mk (tag : Nat) (xs : List α)
namespace SL
variable {α : Type}
def list : SL α → List α
  | nil => []
  | mk _ xs => xs
def av (w : Nat) (f : α → List AV) : SL α → AV
  | nil => .nsl
  | mk t xs => .slc t w (xs.map f)
@[simp] theorem list_nil : (SL.nil : SL α).list = [] := (rfl)
@[simp] theorem list_mk (t : Nat) (xs : List α) : (SL.mk t xs).list = xs := (rfl)
end SL
section
variable {α : Type} {w : Nat} {f : α → List AV} {s : SL α}
@[simp] theorem SL.len (K : AV → Prop) : lenSlcW (s.av w f) K = K (.int .i64 s.list.length) := by cases s <;> simp [SL.av, SL.list]
@[simp] theorem SL.at (k : IntKind) (n : Int) (K : AV → Prop) : iaddrW w (s.av w f) (.int k n) K = (0 ≤ n ∧ getW s.list n.toNat (Lz (fun x => K (.cpt (f x) 0)) ⟨⟩)) := by
  show _ = (0 ≤ n ∧ getW s.list n.toNat fun x => K (.cpt (f x) 0))
  cases s with
  | nil => simp [SL.av, SL.list, iaddrW, getW]
  | mk t xs => simp only [SL.av, SL.list, iaddrW_slc, getW_map, true_and]; rfl
@[simp] theorem SL.cells (K : List AV → Prop) : cellsW (s.av w f) K = K [s.av w f] := by cases s <;> rfl
end

section
variable {α : Type}
def SL.con (f : α → α) (s : SL α) : SL α := .mk 0 (s.list.map f)
def SL.pcon (s : SL α) : SL α := .mk 0 s.list
@[simp] theorem SL.con_list (f : α → α) (s : SL α) : (s.con f).list = s.list.map f := (rfl)
@[simp] theorem SL.pcon_list (s : SL α) : s.pcon.list = s.list := (rfl)

end

@[simp] theorem putA_all {row l : List AV} (h : l.length = row.length) : putA row 0 l = l := by
  unfold putA; simp [h]

section
variable {P : Program} {H : List AObj} {c : Nat} {K : AV → List AObj → Nat → Prop}
theorem call_fn0 {f : Nat} {as0 : List AV} {res : AV} (hf : Fnc P f as0 res) (hres : Av (tags H) res) (k : ∀ c', c ≤ c' → K res H c') : CallW P f as0 H c K := call_fn hf (Views.refl _ _) hres k
theorem callF_fn0 {f : Nat} {as0 : List AV} {res : AV} (hf : Fnc P f as0 res) (hres : Av (tags H) res) (k : ∀ c', c ≤ c' → K res H c') : callFW P f as0 H c K := ⟨as0, res, Views.refl _ _, hf, hres, k⟩
theorem call_tree0 {f : Nat} {as0 : List AV} {Q : Nat → AV → Prop} (hf : Tr P f as0 Q) (k : ∀ r c', c ≤ c' → Q c r → From c r → K r H c') : CallW P f as0 H c K := call_tree hf (Views.refl _ _) k

/-- A slice of the function's own, handed back as0 a tree. -/
theorem fin_slc {Q : AV → List AObj → Nat → Prop} {i t w len : Nat} {rows : List (List AV)} (ho : H[i]? = some ⟨false, t, w, rows⟩) (hl : rows.length = len) (hc : ∀ row, row ∈ rows → ∀ a, a ∈ row → a.cell = true) (h : Q (.slc t w rows) [] c) : finW Q (.ref i t w len) H c :=
  ⟨H, [], [], .slc t w rows, List.nil_sublist _, .nil, fun o h => h, by simp [tags], .ref (List.mem_of_getElem? ho) (by omega) hl (fun r x x' h1 h2 => by rw [h1] at h2; cases h2; rfl)
    (fun r j x a hx ha => hc x (List.mem_of_getElem? hx) a (List.mem_of_getElem? ha)) (fun r j x x' a a' h1 h2 h3 h4 => by rw [h1] at h2; cases h2; rw [h3] at h4; cases h4; exact .refl _), h⟩
end

/-- the sizes -/
def szOf (n : Nat) (left : Int) : Int := if (n : Int) ≤ left then left - n else -1
def Room (left : Int) : Prop := -1 ≤ left ∧ left ≤ 1048576

theorem wrap64 {n : Int} (h1 : -9223372036854775808 ≤ n) (h2 : n ≤ 9223372036854775807) : IntKind.i64.wrap n = n := by
  simp only [IntKind.wrap_i64]; omega
section
variable {P : Program} {H : List AObj} {c : Nat} {e : Env} {Q : Post}
/-- A loop that counts. -/
theorem loop_nat {B : IR} (n : Nat) (I : Nat → Env → List AObj → Nat → Prop) (h0 : I 0 e H c)
    (hs : ∀ i e H c, i ≤ n → I i e H c → ∀ N : Env → List AObj → Nat → Prop, (∀ e' H' c', i < n → I (i + 1) e' H' c' → N e' H' c') → irW P B (thenQ N Q) e H c) : irW P (.loop B) Q e H c := by
  refine ⟨fun e H c => ∃ i, i ≤ n ∧ I i e H c, fun e H c => least fun k => ∃ i, i ≤ n ∧ I i e H c ∧ k = n - i, ⟨H, List.Sublist.refl _, 0, Nat.zero_le _, h0⟩, fun e H c ⟨i0, hi0, hI0⟩ => ?_⟩
  obtain ⟨i, hi, hI, hk⟩ := least_spec (p := fun k => ∃ i, i ≤ n ∧ I i e H c ∧ k = n - i) ⟨_, i0, hi0, hI0, rfl⟩
  refine hs i e H c hi hI _ fun e' H' c' hlt hI' => ⟨H', List.Sublist.refl _, ⟨i + 1, hlt, hI'⟩, Nat.lt_of_le_of_lt (least_le (p := fun k => ∃ i, i ≤ n ∧ I i e' H' c' ∧ k = n - i) ⟨i + 1, hlt, hI', rfl⟩) ?_⟩
  show n - (i + 1) < least fun k => ∃ i, i ≤ n ∧ I i e H c ∧ k = n - i
  rw [hk]; omega
/-- The same, where what a round made is let go. -/
theorem loop_drop {B : IR} (n : Nat) (I : Nat → Env → List AObj → Nat → Prop) (h0 : I 0 e H c)
    (hs : ∀ i e H c, i ≤ n → I i e H c → ∀ N : Env → List AObj → Nat → Prop, (∀ e' H' H'' c', i < n → H''.Sublist H' → I (i + 1) e' H'' c' → N e' H' c') → irW P B (thenQ N Q) e H c) : irW P (.loop B) Q e H c := by
  refine ⟨fun e H c => ∃ i, i ≤ n ∧ I i e H c, fun e H c => least fun k => ∃ i, i ≤ n ∧ I i e H c ∧ k = n - i, ⟨H, List.Sublist.refl _, 0, Nat.zero_le _, h0⟩, fun e H c ⟨i0, hi0, hI0⟩ => ?_⟩
  obtain ⟨i, hi, hI, hk⟩ := least_spec (p := fun k => ∃ i, i ≤ n ∧ I i e H c ∧ k = n - i) ⟨_, i0, hi0, hI0, rfl⟩
  refine hs i e H c hi hI _ fun e' H' H'' c' hlt hsub hI' => ⟨H'', hsub, ⟨i + 1, hlt, hI'⟩, Nat.lt_of_le_of_lt (least_le (p := fun k => ∃ i, i ≤ n ∧ I i e' H'' c' ∧ k = n - i) ⟨i + 1, hlt, hI', rfl⟩) ?_⟩
  show n - (i + 1) < least fun k => ∃ i, i ≤ n ∧ I i e H c ∧ k = n - i
  rw [hk]; omega
end
theorem szOf_wrap {n : Nat} {left : Int} (hn : n ≤ mx) (hl : Room left) : IntKind.i64.wrap (left - n) = left - n := wrap64 (by have := hl.1; unfold mx at hn; omega) (by have := hl.2; omega)

theorem szOf_room {n : Nat} {left : Int} (h : Room left) : Room (szOf n left) := by
  unfold szOf Room at *; split <;> omega

def szL {α : Type} (sz : α → Nat) (l : List α) : Nat := (l.map sz).sum

theorem szL_step {α : Type} (sz : α → Nat) (l : List α) {i : Nat} (h : i < l.length) : szL sz (l.take (i + 1)) = szL sz (l.take i) + sz l[i] := by
  unfold szL; rw [List.take_succ_eq_append_getElem h, List.map_append, List.sum_append]; rfl
theorem szL_le {α : Type} (sz : α → Nat) (l : List α) (i : Nat) : szL sz (l.take i) ≤ szL sz l := by
  have : szL sz l = szL sz (l.take i) + szL sz (l.drop i) := by
    unfold szL; rw [← List.sum_append, ← List.map_append, List.take_append_drop]
  omega
theorem step64 {i n : Nat} (hn : n ≤ mx) (h : i < n) : IntKind.i64.wrap ((i : Int) + 1) = i + 1 := by
  rw [wrap64 (by omega) (by unfold mx at hn; omega)]


/-- A new slice, filled up to i. -/
def fill {α : Type} (f : α → List AV) (z : List AV) (l : List α) (i : Nat) : List (List AV) := (l.take i).map f ++ List.replicate (l.length - i) z
theorem fill_zero {α : Type} (f : α → List AV) (z : List AV) (l : List α) : fill f z l 0 = List.replicate l.length z := by simp [fill]
theorem fill_all {α : Type} (f : α → List AV) (z : List AV) (l : List α) : fill f z l l.length = l.map f := by simp [fill]
theorem fill_len {α : Type} (f : α → List AV) (z : List AV) (l : List α) {i : Nat} (h : i ≤ l.length) : (fill f z l i).length = l.length := by simp [fill]; omega
theorem fill_get {α : Type} (f : α → List AV) (z : List AV) (l : List α) {i : Nat} (h : i < l.length) : (fill f z l i)[i]? = some z := by
  have hl : ((l.take i).map f).length = i := by simp; omega
  unfold fill
  rw [List.getElem?_append_right (by omega), hl, Nat.sub_self, List.getElem?_replicate, if_pos (by omega)]
theorem fill_set {α : Type} (f : α → List AV) (z : List AV) (l : List α) {i : Nat} (h : i < l.length) : (fill f z l i).set i (f l[i]) = fill f z l (i + 1) := by
  unfold fill
  have e : l.length - i = (l.length - (i + 1)) + 1 := by omega
  have hl : ((l.take i).map f).length = i := by simp; omega
  rw [e, List.replicate_succ, List.set_append_right _ _ (by omega), hl, Nat.sub_self, List.set_cons_zero, List.take_succ_eq_append_getElem h, List.map_append]
  simp

def encI (n : Int) : List AV := [.int .i64 n]
@[simp] theorem encI_g (n : Int) (K : AV → Prop) : getW (encI n) 0 K = K (.int .i64 n) := by simp [encI]
@[simp] theorem encI_l (n : Int) : (encI n).length = 1 := (rfl)


def encS (l : List UInt8) : List AV := [.str l]
@[simp] theorem encS_g (l : List UInt8) (K : AV → Prop) : getW (encS l) 0 K = K (.str l) := by simp [encS]
@[simp] theorem encS_l (l : List UInt8) : (encS l).length = 1 := (rfl)
def encB (b : Bool) : List AV := [.bool b]
@[simp] theorem encB_g (b : Bool) (K : AV → Prop) : getW (encB b) 0 K = K (.bool b) := by simp [encB]
@[simp] theorem encB_l (b : Bool) : (encB b).length = 1 := (rfl)
@[simp] theorem cell_int (k : IntKind) (n : Int) : (AV.int k n).cell = true := (rfl)
@[simp] theorem cell_bool (b : Bool) : (AV.bool b).cell = true := (rfl)
@[simp] theorem cell_str (l : List UInt8) : (AV.str l).cell = true := (rfl)
@[simp] theorem cell_nsl : AV.nsl.cell = true := (rfl)
@[simp] theorem cell_slc (t w : Nat) (r : List (List AV)) : (AV.slc t w r).cell = true := (rfl)
@[simp] theorem cell_sl {α : Type} (w : Nat) (f : α → List AV) (s : SL α) : (s.av w f).cell = true := by cases s <;> rfl
end A
end Go.Proofs.YtmhmaokbicgmbaaGreatDoor
