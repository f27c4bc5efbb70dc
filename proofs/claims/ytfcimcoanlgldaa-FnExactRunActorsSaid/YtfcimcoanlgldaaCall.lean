/-
  A call out of an abstract state, by what is known of the callee. No condition.
-/
import Derived.Test.YtfcimcoanlgldaaOps9
namespace Go.Proofs.Ytfcimcoanlgldaa
namespace A
set_option linter.unusedVariables false
section
variable {P : Program} {G : Gh} {H : List AObj} {w : World} {K : AV → List AObj → Nat → Prop}

def AvRows (T : List Nat) (o : AObj) : Prop := ∀ (r j : Nat) (x : List AV) (a : AV), o.rows[r]? = some x → x[j]? = some a → Av T a

theorem ObjOk.thaw {h : Array Obj} {o : AObj} {T : List Nat} (k : ObjOk G h o) (v : AvRows T o) : ObjOk (G.thaw T) h o where
  c := k.c
  lies hm := by
    obtain ⟨c, e, fr, h1, h2, h3, h4, h5, h6⟩ := k.lies hm
    exact ⟨c, e, fr, h1, h2, h3, h4, h5, fun r j row a hr ha => let ⟨x, hx, hc, rx⟩ := h6 r j row a hr ha; ⟨x, hx, hc, (v r j row a hr ha).rep rx⟩⟩
  mlies hm := by
    obtain ⟨es, cl, h1, h2, h3, h4⟩ := k.mlies hm
    refine ⟨es, cl, h1, h2, h3, fun r row hr => ?_⟩
    obtain ⟨k', x, en, rfl, he, r1, r2⟩ := h4 r row hr
    exact ⟨k', x, en, rfl, he, (v r 0 _ k' hr rfl).rep r1, (v r 1 _ x hr rfl).rep r2⟩

/-- What must be known for a call of f. H1: the objects that the callee may write; S: those that it only reads. -/
def CallW (P : Program) (f : FuncId) (as : List AV) (H : List AObj) (c : Nat) (K : AV → List AObj → Nat → Prop) : Prop :=
  (tags H).Nodup → (∀ t, t ∈ tags H → t < c) → ∃ (H1 S : List AObj) (as' : List AV) (Q : AV → List AObj → Nat → Prop), H1.Sublist H ∧ (∀ o, o ∈ S → o ∈ H) ∧ (∀ t, t ∈ tags H1 → t ∉ tags S) ∧ as.length = as'.length ∧
    (∀ (j : Nat) (a a' : AV), as[j]? = some a → as'[j]? = some a' → View S a a') ∧ Con P f as' H1 c Q ∧
    ∀ res H1' c', c ≤ c' → Q res H1' c' → (∀ t, t < c → t ∈ tags H1' → t ∈ tags H1) → (tags H1').Nodup → ∃ H' res', (∀ o, o ∈ H' → o ∈ H1' ∨ (o ∈ H ∧ o.tag ∉ tags H1)) ∧ (tags H').Nodup ∧ View [] res res' ∧ Av (tags S) res' ∧
      (∀ o, o ∈ H' → o ∈ H1' → AvRows (tags S) o) ∧ K res' H' c'

theorem call_good (I : Inv G H w.heap) {H1 S : List AObj} (hsub : H1.Sublist H) (hS : ∀ o, o ∈ S → o ∈ H) (hd : ∀ t, t ∈ tags H1 → t ∉ tags S) {G2 : Gh} {H1' : List AObj} {w' : World}
    (x : Ext (G.freeze S) H1 w G2 H1' w') (I2 : Inv G2 H1' w'.heap) {H' : List AObj} (hH' : ∀ o, o ∈ H' → o ∈ H1' ∨ (o ∈ H ∧ o.tag ∉ tags H1)) (hnd : (tags H').Nodup) (hav : ∀ o, o ∈ H' → o ∈ H1' → AvRows (tags S) o) :
    Ext G H w (G2.thaw (tags S)) H' w' ∧ Inv (G2.thaw (tags S)) H' w'.heap := by
  have hsubt : ∀ t, t ∈ tags H1 → t ∈ tags H := fun t ht => (hsub.map _).subset ht
  have hSt : ∀ t, t ∈ tags S → t ∈ tags H := fun t ht => by obtain ⟨o, ho, rfl⟩ := of_mem_tags ht; exact mem_tags (hS o ho)
  have hc : G.c ≤ G2.c := x.x.c
  have hm : ∀ t, t < G.c → G2.m t = G.m t := fun t ht => x.x.m t ht
  have hold : ∀ t, t < G.c → G2.Fz t → G.Fz t ∨ t ∈ tags H := fun t ht hF => by
    rcases x.oldF t ht hF with (h1 | h1) | h1
    · exact .inl h1
    · exact .inr (hSt t h1)
    · exact .inr (hsubt t h1)
  have hH'' : ∀ t, t ∈ tags H' → t ∈ tags H1' ∨ (t ∈ tags H ∧ t ∉ tags H1) := fun t ht => by
    obtain ⟨o, ho, rfl⟩ := of_mem_tags ht
    rcases hH' o ho with h1 | ⟨h1, h2⟩
    · exact .inl (mem_tags h1)
    · exact .inr ⟨mem_tags h1, h2⟩
  have x1 : Ext1 G w.heap (G2.thaw (tags S)) w'.heap :=
    ⟨hc, hm, fun t ht hF => ⟨x.x.F t ht (.inl hF), fun hs => I.nfz t (hSt t hs) hF⟩, fun t ht hF => x.x.keep t ht (.inl hF), x.x.shape⟩
  have hblk : ∀ o, o ∈ H → o.tag ∉ tags H1 → w'.heap[G.m o.tag]? = w.heap[G.m o.tag]? := fun o ho hn => by
    refine x.frame _ (I.obj o ho).block fun t ht e => hn ?_
    have : t = o.tag := I.inj t o.tag (.inr (hsubt t ht)) (.inr (mem_tags ho)) e
    exact this ▸ ht
  refine ⟨⟨x1, x.os, x.tape, x.output, x.size, fun b hb hn => x.frame b hb fun t ht => hn t (hsubt t ht), fun t h1 h2 => ?_, fun t h1 h2 => ?_, fun t h1 h2 => hold t h1 h2.1⟩, ⟨fun t hF => I2.fz t hF.1, fun o ho => ?_, fun t ht hF => ?_, hnd, ?_⟩⟩
  · rcases x.newm t h1 h2 with h3 | ⟨u, hu, h3⟩
    · exact .inl h3
    · exact .inr ⟨u, hsubt u hu, h3⟩
  · rcases hH'' t h2 with h3 | ⟨h3, _⟩
    · exact hsubt t (x.oldH t h1 h3)
    · exact h3
  · by_cases h1 : o ∈ H1'
    · exact (I2.obj o h1).thaw (hav o ho h1)
    · rcases hH' o ho with h2 | ⟨h2, h3⟩
      · exact absurd h2 h1
      · exact (I.obj o h2).ext x1 (hblk o h2 h3)
  · rcases hH'' t ht with h1 | ⟨h1, h2⟩
    · exact I2.nfz t h1 hF.1
    · have htc := I.lt h1
      rcases x.oldF t htc hF.1 with (h3 | h3) | h3
      · exact I.nfz t h1 h3
      · exact hF.2 h3
      · exact h2 h3
  · have key : ∀ t, ((G2.thaw (tags S)).Fz t ∨ t ∈ tags H') → (G2.Fz t ∨ t ∈ tags H1') ∨ (t ∈ tags H ∧ t ∉ tags H1) := fun t hl => by
      rcases hl with h1 | h1
      · exact .inl (.inl h1.1)
      · rcases hH'' t h1 with h2 | h2
        · exact .inl (.inr h2)
        · exact .inr h2
    have cross : ∀ t u, (G2.Fz t ∨ t ∈ tags H1') → (u ∈ tags H ∧ u ∉ tags H1) → G2.m t = G2.m u → t = u := fun t u hl ⟨hu, hn⟩ he => by
      have huc := I.lt hu
      rw [hm u huc] at he
      rcases Nat.lt_or_ge t G.c with htc | htc
      · rw [hm t htc] at he
        refine I.inj t u ?_ (.inr hu) he
        rcases hl with h1 | h1
        · exact hold t htc h1
        · exact .inr (hsubt t (x.oldH t htc h1))
      · have htl : t < G2.c := by
          rcases hl with h1 | h1
          · exact (I2.fz t h1).1
          · exact I2.lt h1
        rcases x.newm t htc htl with h3 | ⟨y, hy, h3⟩
        · obtain ⟨o, ho, rfl⟩ := of_mem_tags hu
          have := (I.obj o ho).block
          omega
        · have h3' : G2.m t = G.m y := h3
          have : y = u := I.inj y u (.inr (hsubt y hy)) (.inr hu) (h3'.symm.trans he)
          exact absurd (this ▸ hy) hn
    intro t t' h1 h2 he
    have he' : G2.m t = G2.m t' := he
    rcases key t h1 with k1 | k1 <;> rcases key t' h2 with k2 | k2
    · exact I2.inj t t' k1 k2 he'
    · exact cross t t' k1 k2 he'
    · exact (cross t' t k2 k1 he'.symm).symm
    · rw [hm t (I.lt k1.1), hm t' (I.lt k2.1)] at he'
      exact I.inj t t' (.inr k1.1) (.inr k2.1) he'

theorem Rep.unfreeze_nil {h : Array Obj} {u : Value} {a : AV} (r : Rep (G.freeze []) h u a) : Rep G h u a :=
  r.ext ⟨Nat.le_refl _, fun _ _ => rfl, fun t _ hF => hF.elim id (fun hm => by simp [tags] at hm), fun _ _ _ => rfl, fun _ c _ fr hb => ⟨c, fr, hb, rfl⟩⟩

/-- Arguments that stand for a list of abstract values. -/
def Args (G : Gh) (h : Array Obj) (vs : Array Value) (as : List AV) : Prop := vs.size = as.length ∧ ∀ (j : Nat) (a : AV), as[j]? = some a → Rep G h (vs.getD j undef) a

theorem call_sound (I : Inv G H w.heap) {f : FuncId} {vs : Array Value} {as : List AV} (ha : Args G w.heap vs as) (hk : CallW P f as H G.c K) :
    Calls P f vs w fun e w' => ∃ v, e = .returned v ∧ Good G H w K v w' := by
  obtain ⟨H1, S, as', Q, h1, h2, h3, h4, h5, h6, h7⟩ := hk I.nodup (fun t ht => I.lt ht)
  have I1 := I.freeze h1 h2 h3
  refine (h6 (G.freeze S) w vs rfl I1 (ha.1.trans h4) fun j a' hj => ?_).mono fun e w' ⟨v, res, H1', G2, he, hq, x, I2, r⟩ => ?_
  · obtain ⟨a, haj⟩ := get_of_len h4 hj
    exact (h5 j a a' haj hj).rep I h2 (ha.2 j a haj)
  · obtain ⟨H', res', q1, q2, q3, q4, q5, q6⟩ := h7 res H1' G2.c x.x.c hq x.oldH I2.nodup
    obtain ⟨x', I'⟩ := call_good I h1 h2 h3 x I2 q1 q2 q5
    exact ⟨v, he, res', H', G2.thaw (tags S), q6, x', I', q4.rep ((q3.rep I2 (by simp) r).unfreeze_nil)⟩
/-- A function that only computes: from these arguments this result, whatever the tags. -/
def Fnc (P : Program) (f : Nat) (args : List AV) (res : AV) : Prop := ∀ c, Con P f args [] c fun r H' _ => r = res ∧ H' = []

/-- The arguments, seen as the callee wants them. -/
inductive Views (S : List AObj) : List AV → List AV → Prop
  | nil : Views S [] []
  | cons {a a' : AV} {l l' : List AV} (h : View S a a') (t : Views S l l') : Views S (a :: l) (a' :: l')
theorem Views.refl (S : List AObj) : ∀ l, Views S l l
  | [] => .nil
  | a :: l => .cons (.refl a) (Views.refl S l)
theorem Views.spec {S : List AObj} {l l' : List AV} (h : Views S l l') : l.length = l'.length ∧ ∀ (j : Nat) (a a' : AV), l[j]? = some a → l'[j]? = some a' → View S a a' := by
  induction h with
  | nil => exact ⟨rfl, by simp⟩
  | cons h t ih =>
    refine ⟨by simp [ih.1], fun j a a' h1 h2 => ?_⟩
    cases j with
    | zero => simp at h1 h2; subst h1; subst h2; exact h
    | succ j => exact ih.2 j a a' (by simpa using h1) (by simpa using h2)

/-- A call of a function that only computes; its result hangs on no tag. -/
theorem call_fn {c : Nat} {f : Nat} {as as' : List AV} {res : AV} (hf : Fnc P f as' res) (hv : Views H as as') (hres : Av (tags H) res) (k : ∀ c', c ≤ c' → K res H c') : CallW P f as H c K := by
  intro hn _
  obtain ⟨h1, h2⟩ := hv.spec
  refine ⟨[], H, as', _, List.nil_sublist _, fun o h => h, by simp [tags], h1, h2, hf c, fun r H1' c' hc ⟨hr, hH⟩ _ _ => ?_⟩
  subst hr; subst hH
  exact ⟨H, r, fun o ho => .inr ⟨ho, by simp [tags]⟩, hn, .refl r, hres, by simp, k c' hc⟩

/-- The same, as an operation of a statement whose order is open: one result, whatever the tags. -/
def callFW (P : Program) (f : Nat) (as : List AV) (H : List AObj) (c : Nat) (K : AV → List AObj → Nat → Prop) : Prop :=
  ∃ as' res, Views H as as' ∧ Fnc P f as' res ∧ Av (tags H) res ∧ ∀ c', c ≤ c' → K res H c'

theorem callFW_call {f : Nat} {as : List AV} {c : Nat} (h : callFW P f as H c K) : CallW P f as H c K := by
  obtain ⟨as', res, h1, h2, h3, h4⟩ := h
  exact call_fn h2 h1 h3 h4
end

/-- All tags in it are new. -/
def From (c : Nat) (a : AV) : Prop := ∀ T : List Nat, (∀ t, t ∈ T → t < c) → Av T a
theorem From.mono {c c' : Nat} {a : AV} (h : From c' a) (hc : c ≤ c') : From c a := fun T hT => h T fun t ht => Nat.lt_of_lt_of_le (hT t ht) hc
@[simp] theorem from_int (c : Nat) (k : IntKind) (n : Int) : From c (.int k n) := fun _ _ => .int
@[simp] theorem from_bool (c : Nat) (b : Bool) : From c (.bool b) := fun _ _ => .bool
@[simp] theorem from_str (c : Nat) (l : List UInt8) : From c (.str l) := fun _ _ => .str
@[simp] theorem from_nsl (c : Nat) : From c .nsl := fun _ _ => .nsl
@[simp] theorem from_nptr (c : Nat) : From c .nptr := fun _ _ => .nptr
theorem from_agg {c : Nat} {l : List AV} (h : ∀ a, a ∈ l → From c a) : From c (.agg l) := fun T hT => .agg fun j a ha => h a (List.mem_of_getElem? ha) T hT
theorem from_slc {c t w : Nat} {rows : List (List AV)} (ht : c ≤ t) (h : ∀ row, row ∈ rows → ∀ a, a ∈ row → From c a) : From c (.slc t w rows) := fun T hT =>
  .slc (fun hm => absurd (hT t hm) (by omega)) fun r j x a hx ha => h x (List.mem_of_getElem? hx) a (List.mem_of_getElem? ha) T hT

/-- A function that hands back a tree of its own. -/
def Tr (P : Program) (f : Nat) (args : List AV) (Q : Nat → AV → Prop) : Prop := ∀ c, Con P f args [] c fun r H' _ => H' = [] ∧ Q c r ∧ From c r

section
variable {P : Program} {H : List AObj} {c : Nat} {K : AV → List AObj → Nat → Prop}
theorem call_tree {f : Nat} {as as' : List AV} {Q : Nat → AV → Prop} (hf : Tr P f as' Q) (hv : Views H as as') (k : ∀ r c', c ≤ c' → Q c r → From c r → K r H c') : CallW P f as H c K := by
  intro hn hlt
  obtain ⟨h1, h2⟩ := hv.spec
  refine ⟨[], H, as', _, List.nil_sublist _, fun o h => h, by simp [tags], h1, h2, hf c, fun r H1' c' hc ⟨hH, hq, hfr⟩ _ _ => ?_⟩
  subst hH
  exact ⟨H, r, fun o ho => .inr ⟨ho, by simp [tags]⟩, hn, .refl r, hfr _ hlt, by simp, k r c' hc hq hfr⟩


/-- A call among statements whose order is open, of a function that hands back a tree of its own: what is asked of the result is said beforehand. -/
def callD (P : Program) (R : AV → Prop) (f : Nat) (as : List AV) (H : List AObj) (c : Nat) (K : AV → Prop) : Prop :=
  ∃ as', Views H as as' ∧ Tr P f as' (fun _ r => R r) ∧ (∃ r, R r ∧ From c r) ∧ ∀ r, R r → From c r → K r
end
end A
end Go.Proofs.Ytfcimcoanlgldaa
