/-
  Statements whose order is open, with calls that hand back trees of their own. No condition.
-/
import Derived.Test.YtfcimcoanlgldaaDraw2
namespace Go.Proofs.Ytfcimcoanlgldaa
namespace A
set_option linter.unusedVariables false
section
variable {P : Program} {R : Nat → AV → Prop} {H : List AObj} {c0 : Nat} {e e' : Env}

/-- What an operation may leave in its place. -/
def GD (P : Program) (R : Nat → AV → Prop) (H : List AObj) (c0 : Nat) (io : IOper) (e : Env) (v : AV) : Prop :=
  if isCall io.op = true then R (io.dst.getD 0) v ∧ From c0 v else Gives P io.op e H v
/-- What makes it run. -/
def CD (P : Program) (R : Nat → AV → Prop) (H : List AObj) (io : IOper) (e : Env) : Prop :=
  match io.op with
  | .callF f as => ∃ as', Views H (as.map (ev e)) as' ∧ Tr P f as' (fun _ r => R (io.dst.getD 0) r)
  | _ => True
def YD (P : Program) (R : Nat → AV → Prop) (H : List AObj) (c0 : Nat) (io : IOper) (e : Env) (v : AV) : Prop :=
  match io.guard with
  | none => GD P R H c0 io e v
  | some (g, want) => (e g = .bool want ∧ GD P R H c0 io e v) ∨ ((e g = .und ∨ ∃ b, e g = .bool b ∧ b ≠ want) ∧ v = .und)
def XD (P : Program) (R : Nat → AV → Prop) (H : List AObj) (io : IOper) (e : Env) : Prop :=
  match io.guard with
  | none => CD P R H io e
  | some (g, want) => (e g = .und ∨ ∃ b, e g = .bool b) ∧ (e g = .bool want → CD P R H io e)

theorem opD_step {io : IOper} (hp : ∃ op, pureOp op = some io.op) {K : AV → Prop} (h : opD P (R (io.dst.getD 0)) io.op e H c0 K) :
    CD P R H io e ∧ (∃ v, GD P R H c0 io e v) ∧ ∀ v, GD P R H c0 io e v → K v := by
  obtain ⟨op, hop⟩ := hp
  cases hc : isCall io.op with
  | true =>
    cases hio : io.op <;> rw [hio] at hc <;> first
      | (cases hc; done)
      | skip
    rw [hio] at h
    obtain ⟨as', h1, h2, h3, h4⟩ := h
    have hg : ∀ v, GD P R H c0 io e v ↔ (R (io.dst.getD 0) v ∧ From c0 v) := fun v => by unfold GD; rw [hio]; simp [isCall]
    refine ⟨by unfold CD; rw [hio]; exact ⟨as', h1, h2⟩, ?_, fun v hv => ?_⟩
    · obtain ⟨r, hr⟩ := h3; exact ⟨r, (hg r).2 hr⟩
    · exact h4 v ((hg v).1 hv).1 ((hg v).1 hv).2
  | false =>
    have h' : opW P io.op e H c0 fun v _ _ => K v := by
      cases hio : io.op <;> rw [hio] at h hc <;> first | exact h | (cases hc)
    obtain ⟨v, g, hv⟩ := opW_det hop h'
    have hv := hv.resolve_right fun hx => by rw [hc] at hx; cases hx.1
    have hg : ∀ v, GD P R H c0 io e v ↔ Gives P io.op e H v := fun v => by unfold GD; rw [hc, if_neg (by simp)]
    refine ⟨?_, ⟨v, (hg v).2 g⟩, fun u hu => ?_⟩
    · unfold CD
      cases hio : io.op <;> first | trivial | (rw [hio] at hc; cases hc)
    · have := (hv.2 c0 _ ((hg u).1 hu c0)).1
      rw [← this]
      exact hv.2 c0 _ h'

theorem stepD {io : IOper} (hp : ∃ op, pureOp op = some io.op) {m : List IOper} {K : Env → Prop} (h : opsD P R (io :: m) e H c0 K) :
    XD P R H io e ∧ (∃ v, YD P R H c0 io e v) ∧ ∀ v, YD P R H c0 io e v → opsD P R m (put e io.dst v) H c0 K := by
  simp only [opsD] at h
  unfold XD YD
  cases hg : io.guard with
  | none =>
    rw [hg] at h
    exact opD_step hp h
  | some p =>
    obtain ⟨g, want⟩ := p
    rw [hg] at h
    dsimp only at h ⊢
    cases he : e g <;> rw [he] at h <;> simp only [guardW] at h <;> first
      | exact h.elim
      | skip
    · rename_i b
      by_cases hb : b = want
      · subst hb
        obtain ⟨h1, ⟨v, h2⟩, h3⟩ := opD_step hp (h.1 rfl)
        refine ⟨⟨.inr ⟨b, rfl⟩, fun _ => h1⟩, ⟨v, .inl ⟨rfl, h2⟩⟩, fun u hu => ?_⟩
        rcases hu with ⟨_, hu⟩ | ⟨hu | ⟨b', hu, hn⟩, _⟩
        · exact h3 u hu
        · cases hu
        · cases hu; exact absurd rfl hn
      · refine ⟨⟨.inr ⟨b, rfl⟩, fun hx => by cases hx; exact absurd rfl hb⟩, ⟨.und, .inr ⟨.inr ⟨b, rfl, hb⟩, rfl⟩⟩, fun u hu => ?_⟩
        rcases hu with ⟨hx, _⟩ | ⟨_, rfl⟩
        · cases hx; exact absurd rfl hb
        · exact h.2 hb
    · refine ⟨⟨.inl rfl, fun hx => by cases hx⟩, ⟨.und, .inr ⟨.inl rfl, rfl⟩⟩, fun u hu => ?_⟩
      rcases hu with ⟨hx, _⟩ | ⟨_, rfl⟩
      · cases hx
      · exact h

theorem chainD : ∀ (m : List IOper), (∀ io, io ∈ m → ∃ op, pureOp op = some io.op) → ∀ (e : Env) (K : Env → Prop), opsD P R m e H c0 K → ∀ V : Nat → AV,
    (∀ i io, m[i]? = some io → (∀ j y, j < i → m[j]? = some y → YD P R H c0 y (envN e m V j) (V j)) → XD P R H io (envN e m V i) ∧ ∃ v, YD P R H c0 io (envN e m V i) v) ∧
    ((∀ j y, m[j]? = some y → YD P R H c0 y (envN e m V j) (V j)) → K (envN e m V m.length)) := by
  intro m
  induction m with
  | nil => intro _ e K h V; exact ⟨fun i io hi => by simp at hi, fun _ => h⟩
  | cons io m ih =>
    intro hp e K h V
    obtain ⟨h1, h2, h3⟩ := stepD (hp io (List.mem_cons_self ..)) h
    have ih' := fun hy => ih (fun io h => hp io (List.mem_cons_of_mem _ h)) (put e io.dst (V 0)) K (h3 (V 0) hy) (fun j => V (j + 1))
    refine ⟨fun i io' hi hb => ?_, fun hb => ?_⟩
    · cases i with
      | zero => simp at hi; subst hi; exact ⟨h1, h2⟩
      | succ i =>
        have h0 : YD P R H c0 io e (V 0) := hb 0 io (by omega) rfl
        exact (ih' h0).1 i io' (by simpa using hi) fun j y hj hy => hb (j + 1) y (by omega) (by simpa using hy)
    · have h0 : YD P R H c0 io e (V 0) := hb 0 io rfl
      exact (ih' h0).2 fun j y hy => hb (j + 1) y (by simpa using hy)

theorem envN_congr : ∀ (m : List IOper) (e : Env) (V V' : Nat → AV) (i : Nat), (∀ j, j < i → V j = V' j) → envN e m V i = envN e m V' i := by
  intro m
  induction m with
  | nil => intro e V V' i h; cases i <;> rfl
  | cons io m ih =>
    intro e V V' i h
    cases i with
    | zero => rfl
    | succ i =>
      show envN (put e io.dst (V 0)) m (fun j => V (j + 1)) i = envN (put e io.dst (V' 0)) m (fun j => V' (j + 1)) i
      rw [h 0 (by omega)]
      exact ih _ _ _ i fun j hj => h (j + 1) (by omega)

theorem YD_congr {io : IOper} {op : IOp} (hp : pureOp op = some io.op) (hu : ∀ x, x ∈ io.op.uses → ev e x = ev e' x) (hg : ∀ g want, io.guard = some (g, want) → e g = e' g) (v : AV) : YD P R H c0 io e v → YD P R H c0 io e' v := by
  have key : GD P R H c0 io e v → GD P R H c0 io e' v := fun h => by
    unfold GD at h ⊢
    split
    · rename_i hc; rw [if_pos hc] at h; exact h
    · rename_i hc; rw [if_neg hc] at h
      intro c'
      have := h c'
      rw [opW_congr hp hu] at this
      exact this
  unfold YD
  cases h : io.guard with
  | none => exact key
  | some p =>
    obtain ⟨g, want⟩ := p
    dsimp only
    rw [hg g want h]
    rintro (⟨a, b⟩ | b)
    · exact .inl ⟨a, key b⟩
    · exact .inr b

/-- What is not worked out yet can be thought of. -/
theorem complete {m : List IOper} (hp : ∀ io, io ∈ m → ∃ op, pureOp op = some io.op) {K : Env → Prop} (hk : opsD P R m e H c0 K) {L : Nat → Bool} {A : Nat → AV}
    (hA : ∀ i io, m[i]? = some io → L i = true → ∀ V : Nat → AV, (∀ j, L j = true → V j = A j) → YD P R H c0 io (envN e m V i) (A i)) :
    ∀ n, n ≤ m.length → ∃ V : Nat → AV, (∀ j, L j = true → V j = A j) ∧ ∀ j y, j < n → m[j]? = some y → YD P R H c0 y (envN e m V j) (V j) := by
  intro n
  induction n with
  | zero => intro _; exact ⟨A, fun _ _ => rfl, fun j y hj => by omega⟩
  | succ n ih =>
    intro hn
    obtain ⟨V, h1, h2⟩ := ih (by omega)
    have hy : m[n]? = some m[n] := List.getElem?_eq_getElem (by omega)
    cases hl : L n with
    | true =>
      refine ⟨V, h1, fun j y hj hjy => ?_⟩
      by_cases hjn : j = n
      · subst hjn
        rw [h1 j hl]
        exact hA j y hjy hl V h1
      · exact h2 j y (by omega) hjy
    | false =>
      obtain ⟨v, hv⟩ := ((chainD m hp e K hk V).1 n _ hy h2).2
      have hne : ∀ j, j ≠ n → upd V n v j = V j := fun j hj => upd_ne _ _ _ hj
      have henv : ∀ j, j ≤ n → envN e m (upd V n v) j = envN e m V j := fun j hj => envN_congr m e _ _ j fun k hk => hne k (by omega)
      refine ⟨upd V n v, fun j hj => ?_, fun j y hj hjy => ?_⟩
      · rw [hne j fun h => by rw [h, hl] at hj; cases hj]; exact h1 j hj
      · rw [henv j (by omega)]
        by_cases hjn : j = n
        · subst hjn
          rw [hy] at hjy; cases hjy
          rw [upd_same]; exact hv
        · rw [hne j hjn]; exact h2 j y (by omega) hjy

section
variable {G0 : Gh} {H0 : List AObj} {w0 : World} {n : Nat}

structure MidD (P : Program) (R : Nat → AV → Prop) (H : List AObj) (ops : Array Oper) (m : List IOper) (e : Env) (A : Nat → AV) (c : Nat) (listed : Array Bool) (e' : Env) (c' : Nat) : Prop where
  size : listed.size = ops.size
  closed : ∀ (j : Nat) (o : Oper), ops[j]? = some o → listed.getD j false = true → ∀ k, k ∈ afterAny o → listed.getD k false = true
  yes : ∀ (j : Nat) (io : IOper) (t : Nat), m[j]? = some io → listed.getD j false = true → io.dst = some t → e' t = A j
  no : ∀ t, (∀ (j : Nat) (io : IOper), m[j]? = some io → listed.getD j false = true → io.dst ≠ some t) → e' t = e t
  le : c ≤ c'
  good : ∀ (i : Nat) (io : IOper), m[i]? = some io → listed.getD i false = true → ∀ V : Nat → AV, (∀ j, listed.getD j false = true → V j = A j) → YD P R H c io (envN e m V i) (A i)

theorem any_soundD (hH0 : ∀ t, t ∈ tags H0 → t < G0.c) {ops : Array Oper} {m : List IOper} (hlen : m.length = ops.size)
    (hm : ∀ (i : Nat) (x : Oper), ops[i]? = some x → ∃ io0 io, m[i]? = some io ∧ compOper P n ops x = some io0 ∧ io0.pure = some io) (hd : drawOk ops = true) {Q : Post}
    (hp : ∀ io, io ∈ m → ∃ op, pureOp op = some io.op) (hk : opsD P R m e H c0 fun e' => ∀ c', c0 ≤ c' → Q .normal e' H c') :
    ∀ (fuel : Nat) (listed : Array Bool) (A : Nat → AV) (e' : Env) (c' : Nat) (a : Act) (w : World), MidD P R H ops m e A c0 listed e' c' → (List.range ops.size).countP (fun j => !listed.getD j false) ≤ fuel → St G0 H0 w0 n e' H c' a w →
      wpAny P .any ops (Lift G0 H0 w0 n Q) fuel listed a w := by
  have uniq : ∀ (i j : Nat) (x y : IOper) (d : Nat), m[i]? = some x → m[j]? = some y → x.dst = some d → y.dst = some d → i = j := fun i j x y d h1 h2 h3 h4 => by
    have l1 := (List.getElem?_eq_some_iff.1 h1).1
    have l2 := (List.getElem?_eq_some_iff.1 h2).1
    obtain ⟨p0, p, q1, q2, q3⟩ := hm i ops[i] (Array.getElem?_eq_getElem (by omega))
    obtain ⟨r0, r, s1, s2, s3⟩ := hm j ops[j] (Array.getElem?_eq_getElem (by omega))
    rw [h1] at q1; cases q1
    rw [h2] at s1; cases s1
    have e1 := (compOper_spec q2).2.2.1
    have e2 := (compOper_spec s2).2.2.1
    have f1 : x.dst = p0.dst := by simp only [IOper.pure, Option.map_eq_some_iff] at q3; obtain ⟨_, _, rfl⟩ := q3; rfl
    have f2 : y.dst = r0.dst := by simp only [IOper.pure, Option.map_eq_some_iff] at s3; obtain ⟨_, _, rfl⟩ := s3; rfl
    exact (drawOk_spec hd (Array.getElem?_eq_getElem (by omega)) (Array.getElem?_eq_getElem (by omega))).2.1 d (by rw [← e1, ← f1, h3]) (by rw [← e2, ← f2, h4])
  have last : ∀ (listed : Array Bool) (A : Nat → AV) (e' : Env) (c' : Nat) (a : Act) (w : World), MidD P R H ops m e A c0 listed e' c' → St G0 H0 w0 n e' H c' a w → Region.ready .any ops listed = [] → Lift G0 H0 w0 n Q .normal a w := fun listed A e' c' a w M hs hr => by
    have all : ∀ j, j < ops.size → listed.getD j false = true := fun j => by
      induction j using Nat.strongRecOn with
      | _ j ih =>
        intro hj
        cases hl : listed.getD j false with
        | true => rfl
        | false =>
          have hjs : j < listed.size := M.size ▸ hj
          have : j ∈ Region.ready .any ops listed := by
            rw [mem_ready]
            refine ⟨by simpa [hjs] using hl, ops[j], Array.getElem?_eq_getElem hj, fun ed hed hb => ?_⟩
            have hmem : ed.on ∈ afterAny ops[j] := by
              unfold afterAny
              exact List.mem_map.2 ⟨ed, List.mem_filter.2 ⟨by simpa using hed, hb⟩, rfl⟩
            have hlt := (drawOk_spec hd (Array.getElem?_eq_getElem hj) (Array.getElem?_eq_getElem hj)).1 _ hmem
            exact ih _ hlt (by omega)
          rw [hr] at this
          cases this
    have he : e' = envN e m A m.length := funext fun t => by
      obtain ⟨h1, h2⟩ := envN_dst m e A uniq m.length (Nat.le_refl _) t
      by_cases hx : ∃ (j : Nat) (io : IOper), m[j]? = some io ∧ io.dst = some t
      · obtain ⟨j, io, hj, hio⟩ := hx
        have hl := (List.getElem?_eq_some_iff.1 hj).1
        rw [h1 j io hl hj hio, M.yes j io t hj (all j (by omega)) hio]
      · rw [h2 fun j io _ hj hio => hx ⟨j, io, hj, hio⟩, M.no t fun j io hj _ hio => hx ⟨j, io, hj, hio⟩]
    subst he
    refine ⟨_, H, c', (chainD m hp e _ hk A).2 (fun j y hy => ?_) c' M.le, hs⟩
    have hl := (List.getElem?_eq_some_iff.1 hy).1
    exact M.good j y hy (all j (by omega)) A fun _ _ => rfl
  intro fuel
  induction fuel with
  | zero =>
    intro listed A e' c' a w M hc hs
    have hr : Region.ready .any ops listed = [] := by
      refine List.eq_nil_iff_forall_not_mem.2 fun j hj => ?_
      rw [mem_ready] at hj
      obtain ⟨h0, o, ho, _⟩ := hj
      have hjs := (Array.getElem?_eq_some_iff.1 ho).1
      have hjs' : j < listed.size := M.size ▸ hjs
      have := List.countP_eq_zero.1 (Nat.le_zero.1 hc) j (List.mem_range.2 hjs)
      simp [hjs'] at h0 this
      rw [h0] at this; cases this
    exact ⟨hr, last listed A e' c' a w M hs hr⟩
  | succ fuel ih =>
    intro listed A e' c' a w M hc hs
    refine ⟨last listed A e' c' a w M hs, fun i hi => ?_⟩
    rw [mem_ready] at hi
    obtain ⟨h0, o, ho, hready⟩ := hi
    have his := (Array.getElem?_eq_some_iff.1 ho).1
    have hils : i < listed.size := M.size ▸ his
    have hnl : listed.getD i false = false := by simpa [hils] using h0
    have hafter : ∀ k, k ∈ afterAny o → listed.getD k false = true := fun k hk => by
      unfold afterAny at hk
      obtain ⟨ed, hed, rfl⟩ := List.mem_map.1 hk
      obtain ⟨hed1, hed2⟩ := List.mem_filter.1 hed
      exact hready ed (by simpa using hed1) hed2
    obtain ⟨io0, io, hio, hco, hpu⟩ := hm i o ho
    obtain ⟨c1, c2, c3, c4⟩ := compOper_spec hco
    obtain ⟨pop, hpop, hioe⟩ : ∃ p, pureOp io0.op = some p ∧ { io0 with op := p } = io := by simpa [IOper.pure, Option.map_eq_some_iff] using hpu
    have hop : io.op = pop := by rw [← hioe]
    have hgd : io.guard = io0.guard := by rw [← hioe]
    have hdst : io.dst = o.dst := by rw [← c3, ← hioe]
    have hil := (List.getElem?_eq_some_iff.1 hio).1
    -- what it looks at
    have agree : ∀ V : Nat → AV, (∀ j, listed.getD j false = true → V j = A j) → ∀ t, t ∈ o.looksAt ops → e' t = envN e m V i t := fun V hVA t ht => by
      obtain ⟨h1, h2⟩ := envN_dst m e V uniq i (Nat.le_of_lt hil) t
      by_cases hx : ∃ (j : Nat) (y : IOper), m[j]? = some y ∧ y.dst = some t
      · obtain ⟨j, y, hj, hy⟩ := hx
        have hl := (List.getElem?_eq_some_iff.1 hj).1
        obtain ⟨r0, r, s1, s2, s3⟩ := hm j ops[j] (Array.getElem?_eq_getElem (by omega))
        rw [hj] at s1; cases s1
        have e2 := (compOper_spec s2).2.2.1
        have f2 : y.dst = r0.dst := by simp only [IOper.pure, Option.map_eq_some_iff] at s3; obtain ⟨_, _, rfl⟩ := s3; rfl
        have no : ¬ j < i → listed.getD j false = false → e' t = envN e m V i t := fun hji hlj => by
          rw [h2 fun k x hk hx hd => hji (uniq k j x y t hx hj hd hy ▸ hk)]
          exact M.no t fun k x hx hlk hd => by rw [uniq k j x y t hx hj hd hy, hlj] at hlk; cases hlk
        rcases (drawOk_spec hd ho (Array.getElem?_eq_getElem (by omega : j < ops.size))).2.2 t (by rw [← e2, ← f2, hy]) ht with ⟨k1, k2⟩ | k1 | ⟨k1, k2⟩
        · rw [h1 j y k1 hj hy, M.yes j y t hj (hafter j k2) hy, hVA j (hafter j k2)]
        · exact no (by omega) (k1 ▸ hnl)
        · refine no (by omega) ?_
          cases hlj : listed.getD j false with
          | false => rfl
          | true => rw [M.closed j ops[j] (Array.getElem?_eq_getElem (by omega)) hlj i k2] at hnl; cases hnl
      · rw [h2 fun j y _ hj hy => hx ⟨j, y, hj, hy⟩, M.no t fun j y hj _ hy => hx ⟨j, y, hj, hy⟩]
    have guardIn : ∀ g want, io.guard = some (g, want) → g ∈ o.looksAt ops := fun g want hgw => by
      rw [hgd] at hgw
      have c2' := c2
      unfold compGuard at c2'
      unfold Oper.looksAt
      cases hog : o.guard with
      | none => rw [hog] at c2'; simp only [Option.some.injEq] at c2'; rw [← c2'] at hgw; cases hgw
      | some p =>
        obtain ⟨j, wt⟩ := p
        rw [hog] at c2'
        simp only at c2'
        split at c2'
        · rename_i d hdj
          simp only [Option.some.injEq] at c2'
          rw [← c2'] at hgw
          cases hgw
          refine List.mem_append_right _ ?_
          simp [hdj]
        · cases c2'
    have evs : ∀ V : Nat → AV, (∀ j, listed.getD j false = true → V j = A j) → ∀ u, u ∈ io.op.uses → ev e' u = ev (envN e m V i) u := fun V hVA u hu => by
      cases u with
      | c v => rfl
      | t t =>
        refine agree V hVA t ?_
        have := compOp_uses c1 hpop (by rw [← hop]; exact hu)
        unfold Oper.looksAt
        exact List.mem_append_left _ (List.mem_filterMap.2 ⟨.tmp t, this, rfl⟩)
    obtain ⟨V0, hV0, hg0⟩ := complete (L := fun j => listed.getD j false) hp hk M.good i (Nat.le_of_lt hil)
    obtain ⟨hx0, hy0⟩ := (chainD m hp e _ hk V0).1 i io hio fun j y hj hjy => hg0 j y hj hjy
    -- listing it
    have mid : ∀ c'' v, c' ≤ c'' → YD P R H c0 io (envN e m V0 i) v → MidD P R H ops m e (upd A i v) c0 (listed.setIfInBounds i true) (put e' io.dst v) c'' := fun c'' v hle hyv => by
      have other : ∀ j, j ≠ i → (listed.setIfInBounds i true).getD j false = true → listed.getD j false = true := fun j hne h => by rwa [getD_set_ne false (Ne.symm hne)] at h
      have hsub : ∀ V : Nat → AV, (∀ j, (listed.setIfInBounds i true).getD j false = true → V j = upd A i v j) → ∀ j, listed.getD j false = true → V j = A j := fun V hV j hj => by
        have hne : j ≠ i := fun h => by rw [h, hnl] at hj; cases hj
        rw [hV j (getD_set_true hj), upd_ne _ _ _ hne]
      refine ⟨by simp [M.size], fun j y hj hl k hk => ?_, fun j y t hj hl hy => ?_, fun t hn => ?_, Nat.le_trans M.le hle, fun j y hj hl V hV => ?_⟩
      · refine getD_set_true ?_
        by_cases hji : j = i
        · subst hji; rw [ho] at hj; cases hj; exact hafter k hk
        · exact M.closed j y hj (other j hji hl) k hk
      · by_cases hji : j = i
        · subst hji
          rw [hio] at hj; cases hj
          rw [hy]; show upd e' t v t = upd A j v j; rw [upd_same, upd_same]
        · have hne : ∀ t', io.dst = some t' → t ≠ t' := fun t' h ht => hji (uniq j i y io t hj hio hy (ht ▸ h))
          rw [upd_ne _ _ _ hji]
          cases hdd : io.dst with
          | none => exact M.yes j y t hj (other j hji hl) hy
          | some t' => show upd e' t' v t = A j; rw [upd_ne _ _ _ (hne t' hdd)]; exact M.yes j y t hj (other j hji hl) hy
      · have hne : ∀ t', io.dst = some t' → t ≠ t' := fun t' h ht => hn i io hio (by simp [hils]) (ht ▸ h)
        have hno : e' t = e t := M.no t fun j y hj hl => hn j y hj (getD_set_true hl)
        cases hdd : io.dst with
        | none => exact hno
        | some t' => show upd e' t' v t = e t; rw [upd_ne _ _ _ (hne t' hdd)]; exact hno
      · have hVA := hsub V hV
        by_cases hji : j = i
        · subst hji
          rw [hio] at hj; cases hj
          rw [upd_same]
          have hpo : pureOp io0.op = some io.op := hpop.trans (congrArg some hop.symm)
          refine YD_congr hpo (fun u hu => ?_) (fun g want hgw => ?_) v hyv
          · rw [← evs V0 hV0 u hu, evs V hVA u hu]
          · rw [← agree V0 hV0 g (guardIn g want hgw), agree V hVA g (guardIn g want hgw)]
        · rw [upd_ne _ _ _ hji]
          exact M.good j y hj (other j hji hl) V hVA
    have count : (List.range ops.size).countP (fun j => !(listed.setIfInBounds i true).getD j false) ≤ fuel := by
      have hlt : (List.range ops.size).countP (fun j => !(listed.setIfInBounds i true).getD j false) < (List.range ops.size).countP (fun j => !listed.getD j false) := by
        have key : ∀ (l : List Nat), i ∈ l → l.countP (fun j => !(listed.setIfInBounds i true).getD j false) < l.countP (fun j => !listed.getD j false) := by
          have mono : ∀ (l : List Nat), l.countP (fun j => !(listed.setIfInBounds i true).getD j false) ≤ l.countP (fun j => !listed.getD j false) := fun l =>
            List.countP_mono_left fun j _ h => by
              cases hl : listed.getD j false with
              | false => rfl
              | true => rw [getD_set_true hl] at h; cases h
          intro l hl
          induction l with
          | nil => cases hl
          | cons x l ihl =>
            simp only [List.countP_cons]
            by_cases hx : x = i
            · subst hx
              have := mono l
              have e1 : (listed.setIfInBounds x true).getD x false = true := by simp [hils]
              rw [e1, hnl]
              simp only [Bool.not_true, Bool.false_eq_true, if_false, Bool.not_false, if_true]
              omega
            · have h1 := ihl ((List.mem_cons.1 hl).resolve_left (Ne.symm hx))
              rw [getD_set_ne false (Ne.symm hx)]
              omega
        exact key _ (List.mem_range.2 his)
      omega
    obtain ⟨G, rfl, h1, h2, h3, I, x⟩ := hs
    have hw := wanted_of c2 h3
    have run : CD P R H io (envN e m V0 i) → (∃ v, GD P R H c0 io (envN e m V0 i) v) → (∀ v, GD P R H c0 io (envN e m V0 i) v → YD P R H c0 io (envN e m V0 i) v) →
        o.wp P a w (wpAny P .any ops (Lift G0 H0 w0 n Q) fuel (listed.setIfInBounds i true)) (Lift G0 H0 w0 n Q) := fun hcd hgd' hyd => by
      have fin : ∀ Kp : AV → List AObj → Nat → Prop, opW P io0.op e' H G.c Kp → (∀ av H' c'', Kp av H' c'' → H' = H ∧ G.c ≤ c'' ∧ GD P R H c0 io (envN e m V0 i) av) →
          o.wp P a w (wpAny P .any ops (Lift G0 H0 w0 n Q) fuel (listed.setIfInBounds i true)) (Lift G0 H0 w0 n Q) := fun Kp k1 k2 => by
        refine op_sound rfl c1 I h3 k1 fun v w' ⟨av, H', G', kp, x', I', r⟩ => ?_
        obtain ⟨q1, q2, q3⟩ := k2 _ _ _ kp
        subst q1
        refine ih _ _ (put e' io.dst av) G'.c _ _ (mid G'.c av q2 (hyd av q3)) count ?_
        rw [hdst]
        exact St.step h1 h2 h3 I x hH0 (by rw [← c3] at c4 ⊢; exact c4) x' I' r
      cases hcl : isCall io.op with
      | true =>
        cases hiop : io.op <;> rw [hiop] at hcl <;> first
          | (cases hcl; done)
          | skip
        rename_i f as
        have hi0 : io0.op = .call f as := by
          have hq := hpop
          rw [← hop, hiop] at hq
          cases h00 : io0.op <;> rw [h00] at hq <;> simp only [pureOp] at hq <;> cases hq
          rfl
        unfold CD at hcd
        rw [hiop] at hcd
        obtain ⟨as', hv, ht⟩ := hcd
        have hmap : as.map (ev e') = as.map (ev (envN e m V0 i)) := map_ev fun u hu => evs V0 hV0 u (by rw [hiop]; exact hu)
        refine fin (fun r H' c'' => H' = H ∧ G.c ≤ c'' ∧ R (io.dst.getD 0) r ∧ From G.c r) ?_ fun av H' c'' ⟨q1, q2, q3, q4⟩ => ⟨q1, q2, ?_⟩
        · rw [hi0]
          show CallW P f (as.map (ev e')) H G.c _
          rw [hmap]
          exact call_tree ht hv fun r c'' hle hq hfr => ⟨rfl, hle, hq, hfr⟩
        · unfold GD
          rw [hiop]
          simp only [isCall, if_true]
          exact ⟨q3, q4.mono M.le⟩
      | false =>
        obtain ⟨v, hv⟩ := hgd'
        have hv' := hv
        unfold GD at hv'
        rw [hcl, if_neg (by simp)] at hv'
        have k1 := hv' G.c
        rw [hop] at k1
        rw [← opW_congr (e := e') hpop fun u hu => evs V0 hV0 u (by rw [hop]; exact hu)] at k1
        exact fin _ (pure_opW hpop k1) fun av H' c'' ⟨q1, q2, q3, _⟩ => ⟨q2, q3, q1 ▸ hv⟩
    have skip : YD P R H c0 io (envN e m V0 i) .und → wpAny P .any ops (Lift G0 H0 w0 n Q) fuel (listed.setIfInBounds i true) (a.put o.dst undef) w := fun hv => by
      refine ih _ _ (put e' io.dst .und) G.c _ _ (mid G.c .und (Nat.le_refl _) hv) count ?_
      rw [hdst]
      exact St.step h1 h2 h3 I x hH0 c4 (Ext.refl _ _ _) I .und
    unfold XD at hx0
    unfold wpOp
    rw [ho]
    simp only
    cases hg : io.guard with
    | none =>
      rw [← hgd, hg] at hw
      simp only [WantSpec] at hw
      have hyi : ∀ v, YD P R H c0 io (envN e m V0 i) v ↔ GD P R H c0 io (envN e m V0 i) v := fun v => by unfold YD; rw [hg]
      rw [hg] at hx0
      rw [hw, if_pos rfl]
      exact .inl (run hx0 (hy0.imp fun v h => (hyi v).1 h) fun v h => (hyi v).2 h)
    | some gw =>
      obtain ⟨g, want⟩ := gw
      rw [← hgd, hg] at hw
      simp only [WantSpec] at hw
      have hyi : ∀ v, YD P R H c0 io (envN e m V0 i) v ↔ ((envN e m V0 i g = .bool want ∧ GD P R H c0 io (envN e m V0 i) v) ∨ ((envN e m V0 i g = .und ∨ ∃ b, envN e m V0 i g = .bool b ∧ b ≠ want) ∧ v = .und)) := fun v => by unfold YD; rw [hg]
      rw [hg] at hx0
      dsimp only at hx0
      have hge := agree V0 hV0 g (guardIn g want hg)
      obtain ⟨v, hv⟩ := hy0
      rcases (hyi v).1 hv with ⟨hy1, hy2⟩ | ⟨hy1, rfl⟩
      · rw [hw.1 want (hge.trans hy1), beq_self_eq_true, if_pos rfl]
        exact .inl (run (hx0.2 hy1) ⟨v, hy2⟩ fun u hu => (hyi u).2 (.inl ⟨hy1, hu⟩))
      · have : Region.wanted o (yielded ops a.tmps) = false := by
          rcases hy1 with hy1 | ⟨b, hy1, hb⟩
          · exact hw.2 (hge.trans hy1)
          · rw [hw.1 b (hge.trans hy1)]; simpa using hb
        rw [this, if_neg (by simp)]
        exact skip hv

theorem draw_soundD (hH0 : ∀ t, t ∈ tags H0 → t < G0.c) {ops : Array Oper} {m : List IOper} (hm : ops.toList.mapM (fun o => (compOper P n ops o).bind IOper.pure) = some m) (hd : drawOk ops = true) (hf : P.follows .mixedOrders = true)
    {Q : Post} {id : Nat} {a : Act} {w : World} (hs : St G0 H0 w0 n e H c0 a w) (hk : opsD P R m e H c0 fun e' => ∀ c', c0 ≤ c' → Q .normal e' H c') : (Code.region id ops true).wp P (Lift G0 H0 w0 n Q) a w := by
  obtain ⟨hl, hg⟩ := mapM_get _ _ hm
  have hm' : ∀ (i : Nat) (x : Oper), ops[i]? = some x → ∃ io0 io, m[i]? = some io ∧ compOper P n ops x = some io0 ∧ io0.pure = some io := fun i x hx => by
    obtain ⟨io, h1, h2⟩ := hg i x (by simpa using hx)
    obtain ⟨io0, h3, h4⟩ := Option.bind_eq_some_iff.1 h2
    exact ⟨io0, io, h1, h3, h4⟩
  have hp : ∀ io, io ∈ m → ∃ op, pureOp op = some io.op := fun io hio => by
    obtain ⟨i, hi, hie⟩ := List.mem_iff_getElem.1 hio
    obtain ⟨io0, io', h1, h2, h3⟩ := hm' i ops[i] (Array.getElem?_eq_getElem (by simp at hl; omega))
    rw [List.getElem?_eq_getElem hi, hie] at h1
    cases h1
    simp only [IOper.pure, Option.map_eq_some_iff] at h3
    obtain ⟨p, hp, rfl⟩ := h3
    exact ⟨io0.op, hp⟩
  refine wp_region_any hf (any_soundD hH0 (by simpa using hl) hm' hd hp hk ops.size _ (fun _ => .und) e c0 a _ ?_ ?_ ?_)
  · have hno : ∀ j, (Array.replicate ops.size false).getD j false = false := fun j => by
      by_cases hj : j < ops.size <;> simp [hj]
    exact ⟨by simp, fun j o _ h => by (rw [hno] at h; cases h), fun j io t _ h => by (rw [hno] at h; cases h), fun t _ => rfl, Nat.le_refl _, fun i io _ h => by (rw [hno] at h; cases h)⟩
  · exact Nat.le_trans (List.countP_le_length) (by simp)
  · obtain ⟨G, h0, h1, h2, h3, I, x⟩ := hs
    exact ⟨G, h0, h1, h2, h3, I, x.x, x.os, x.tape, x.output, x.size, x.frame, x.newm, x.oldH, x.oldF⟩
end
end
end A
end Go.Proofs.Ytfcimcoanlgldaa
