/-
  The state of a run, against the abstract one. No condition.
-/
import Derived.Test.YtfcimcoanlgldaaAwp
namespace Go.Proofs.Ytfcimcoanlgldaa
namespace A
set_option linter.unusedVariables false
section
variable {P : Program} {G0 : Gh} {H0 : List AObj} {w0 : World} {n : Nat}

/-- The state of a run: what began at (G0, H0, w0) has come to here. -/
def St (G0 : Gh) (H0 : List AObj) (w0 : World) (n : Nat) (e : Env) (H : List AObj) (c : Nat) (a : Act) (w : World) : Prop :=
  ∃ G, G.c = c ∧ a.defers = [] ∧ a.tmps.size = n ∧ Tmps G w.heap a e ∧ Inv G H w.heap ∧ Ext G0 H0 w0 G H w

theorem tags_lt {G : Gh} {H : List AObj} {h : Array Obj} (I : Inv G H h) : ∀ t, t ∈ tags H → t < G.c := fun t ht => I.lt ht

theorem Tmps.put {G : Gh} {h : Array Obj} {a : Act} {e : Env} (hE : Tmps G h a e) {d : Option Nat} (hd : ∀ i, d = some i → i < a.tmps.size) {v : Value} {av : AV} (r : Rep G h v av) : Tmps G h (a.put d v) (put e d av) := by
  cases d with
  | none => exact hE
  | some d =>
    intro t
    have hl := hd d rfl
    by_cases ht : t = d
    · subst ht
      have : ((a.put (some t) v).tmps).getD t undef = v := getD_of (by simp [Act.put, hl])
      rw [this]; show Rep G h v (upd e t av t); rw [upd_same]; exact r
    · have : ((a.put (some d) v).tmps).getD t undef = a.tmps.getD t undef := by
        simp [Act.put, Array.getElem?_setIfInBounds_ne (Ne.symm ht)]
      rw [this]; show Rep G h _ (upd e d av t); rw [upd_ne _ _ _ ht]; exact hE t

theorem put_size (a : Act) (d : Option Nat) (v : Value) : (a.put d v).tmps.size = a.tmps.size := by cases d <;> simp [Act.put]
theorem put_defers (a : Act) (d : Option Nat) (v : Value) : (a.put d v).defers = a.defers := by cases d <;> rfl

theorem St.step {e : Env} {H : List AObj} {a : Act} {w : World} {G : Gh} (h1 : a.defers = []) (h2 : a.tmps.size = n) (h3 : Tmps G w.heap a e) (I : Inv G H w.heap) (x : Ext G0 H0 w0 G H w) (hH0 : ∀ t, t ∈ tags H0 → t < G0.c)
    {d : Option Nat} (hd : ∀ i, d = some i → i < n) {v : Value} {av : AV} {H' : List AObj} {G' : Gh} {w' : World} (x' : Ext G H w G' H' w') (I' : Inv G' H' w'.heap) (r : Rep G' w'.heap v av) :
    St G0 H0 w0 n (put e d av) H' G'.c (a.put d v) w' :=
  ⟨G', rfl, by rw [put_defers, h1], by rw [put_size, h2], Tmps.put (fun t => (h3 t).ext x'.x) (h2 ▸ hd) r, I', x.trans hH0 (tags_lt I) x'⟩

/-- What a way out of the code must meet, for the model's. -/
def Lift (G0 : Gh) (H0 : List AObj) (w0 : World) (n : Nat) (Q : Post) : Exit → Act → World → Prop := fun ex a w => ∃ e H c, Q ex e H c ∧ St G0 H0 w0 n e H c a w

theorem compOper_spec {ops : Array Oper} {o : Oper} {io : IOper} (h : compOper P n ops o = some io) : compOp P o.op o.type = some io.op ∧ compGuard ops o.guard = some io.guard ∧ io.dst = o.dst ∧ ∀ i, o.dst = some i → i < n := by
  unfold compOper at h
  simp only [Option.bind_eq_bind, Option.bind_eq_some_iff] at h
  obtain ⟨op, h1, g, h2, h⟩ := h
  split at h
  · cases h
    rename_i hd
    refine ⟨h1, h2, rfl, fun i hi => ?_⟩
    rw [hi] at hd; simpa [dstOk] using hd
  · cases h

theorem tmp_bool {a : Act} {d : Nat} {b : Bool} (h : a.tmps.getD d undef = .bool b) : a.tmps[d]? = some (.bool b) := by
  cases hq : a.tmps[d]? with
  | none =>
    have hn := Array.getElem?_eq_none_iff.1 hq
    unfold Array.getD at h
    rw [dif_neg (by omega)] at h
    cases h
  | some v => rw [getD_of hq] at h; rw [h]

def WantSpec (o : Oper) (ops : Array Oper) (a : Act) (e : Env) : Option (Nat × Bool) → Prop
  | none => Region.wanted o (yielded ops a.tmps) = true
  | some (d, want) => (∀ b, e d = .bool b → Region.wanted o (yielded ops a.tmps) = (b == want)) ∧ (e d = .und → Region.wanted o (yielded ops a.tmps) = false)

/-- The guard, decided. -/
theorem wanted_of {G : Gh} {w : World} {ops : Array Oper} {o : Oper} {g : Option (Nat × Bool)} (hg : compGuard ops o.guard = some g) {a : Act} {e : Env} (hE : Tmps G w.heap a e) :
    WantSpec o ops a e g := by
  cases ho : o.guard with
  | none =>
    rw [ho] at hg; simp only [compGuard] at hg; cases hg
    simp [WantSpec, Region.wanted, ho]
  | some p =>
    obtain ⟨j, want⟩ := p
    rw [ho] at hg
    simp only [compGuard] at hg
    split at hg
    · rename_i d hd
      cases hg
      refine ⟨fun b hb => ?_, fun hu => ?_⟩
      · have r := hE d
        rw [hb] at r
        generalize hv : a.tmps.getD d undef = v at r
        cases r
        have := tmp_bool hv
        simp only [Region.wanted, ho, yielded, hd, Option.bind_some, this]
        cases b <;> cases want <;> rfl
      · have r := hE d
        rw [hu] at r
        generalize hv : a.tmps.getD d undef = v at r
        cases r
        simp only [Region.wanted, ho, yielded, hd, Option.bind_some]
        cases hq : a.tmps[d]? with
        | none => rfl
        | some v =>
          have := getD_of hq
          rw [hv] at this
          rw [← this]; rfl
    · cases hg

end
end A
end Go.Proofs.Ytfcimcoanlgldaa
