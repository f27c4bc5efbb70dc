import Derived.Test.YtkcilmkienlnoaaGreatDoorB03

/-
  Statements whose order is open, with calls that hand back trees of their own. No condition.
-/

namespace Go.Proofs.YtkcilmkienlnoaaGreatDoor
namespace A
set_option linter.unusedVariables false
section
variable {P : Program} {R : Nat → AV → Prop} {H : List AObj} {c0 : Nat} {e e' : Env}

/-- What an operation may leave in its place. -/
def GD (P : Program) (R : Nat → AV → Prop) (H : List AObj) (c0 : Nat) (io : IOper) (e : Env) (v : AV) : Prop :=
  if isCall io.op = true then R (io.dst.getD 0) v ∧ From c0 v else Gives P io.op e H v
/-- What makes it run. -/
def CD (P : Program) (R : Nat → AV → Prop) (H : List AObj) (io : IOper) (e : Env) : Prop :=
  match io.op with
  | .callF f as0 => ∃ as', Views H (as0.map (ev e)) as' ∧ Tr P f as' (fun _ r => R (io.dst.getD 0) r)
  | _ => True
def YD (P : Program) (R : Nat → AV → Prop) (H : List AObj) (c0 : Nat) (io : IOper) (e : Env) (v : AV) : Prop :=
  match io.guard with
  | none => GD P R H c0 io e v
  | some (g, want) => (e g = .bool want ∧ GD P R H c0 io e v) ∨ ((e g = .und ∨ ∃ b, e g = .bool b ∧ b ≠ want) ∧ v = .und)
def XD (P : Program) (R : Nat → AV → Prop) (H : List AObj) (io : IOper) (e : Env) : Prop :=
  match io.guard with
  | none => CD P R H io e
  | some (g, want) => (e g = .und ∨ ∃ b, e g = .bool b) ∧ (e g = .bool want → CD P R H io e)

theorem opD_step {io : IOper} (hp : ∃ op, pureOp op = some io.op) {K : AV → Prop} (h : opD P (R (io.dst.getD 0)) io.op e H c0 K) :
    CD P R H io e ∧ (∃ v, GD P R H c0 io e v) ∧ ∀ v, GD P R H c0 io e v → K v := by
  obtain ⟨op, hop⟩ := hp
  cases hc : isCall io.op with
  | true =>
    cases hio : io.op <;> rw [hio] at hc <;> first
      | (cases hc; done)
      | skip
    rw [hio] at h
    obtain ⟨as', h1, h2, h3, h4⟩ := h
    have hg : ∀ v, GD P R H c0 io e v ↔ (R (io.dst.getD 0) v ∧ From c0 v) := fun v => by unfold GD; rw [hio]; simp [isCall]
    refine ⟨by unfold CD; rw [hio]; exact ⟨as', h1, h2⟩, ?_, fun v hv => ?_⟩
    · obtain ⟨r, hr⟩ := h3; exact ⟨r, (hg r).2 hr⟩
    · exact h4 v ((hg v).1 hv).1 ((hg v).1 hv).2
  | false =>
    have h' : opW P io.op e H c0 fun v _ _ => K v := by
      cases hio : io.op <;> rw [hio] at h hc <;> first | exact h | (cases hc)
    obtain ⟨v, g, hv⟩ := opW_det hop h'
    have hv := hv.resolve_right fun hx => by rw [hc] at hx; cases hx.1
    have hg : ∀ v, GD P R H c0 io e v ↔ Gives P io.op e H v := fun v => by unfold GD; rw [hc, if_neg (by simp)]
    refine ⟨?_, ⟨v, (hg v).2 g⟩, fun u hu => ?_⟩
    · unfold CD
      cases hio : io.op <;> first | trivial | (rw [hio] at hc; cases hc)
    · have := (hv.2 c0 _ ((hg u).1 hu c0)).1
      rw [← this]
      exact hv.2 c0 _ h'

theorem stepD {io : IOper} (hp : ∃ op, pureOp op = some io.op) {m : List IOper} {K : Env → Prop} (h : opsD P R (io :: m) e H c0 K) :
    XD P R H io e ∧ (∃ v, YD P R H c0 io e v) ∧ ∀ v, YD P R H c0 io e v → opsD P R m (put e io.dst v) H c0 K := by
  simp only [opsD] at h
  unfold XD YD
  cases hg : io.guard with
  | none =>
    rw [hg] at h
    exact opD_step hp h
  | some p =>
    obtain ⟨g, want⟩ := p
    rw [hg] at h
    dsimp only at h ⊢
    cases he : e g <;> rw [he] at h <;> simp only [guardW] at h <;> first
      | exact h.elim
      | skip
    · rename_i b
      by_cases hb : b = want
      · subst hb
        obtain ⟨h1, ⟨v, h2⟩, h3⟩ := opD_step hp (h.1 rfl)
        refine ⟨⟨.inr ⟨b, rfl⟩, fun _ => h1⟩, ⟨v, .inl ⟨rfl, h2⟩⟩, fun u hu => ?_⟩
        rcases hu with ⟨_, hu⟩ | ⟨hu | ⟨b', hu, hn⟩, _⟩
        · exact h3 u hu
        · cases hu
        · cases hu; exact absurd rfl hn
      · refine ⟨⟨.inr ⟨b, rfl⟩, fun hx => by cases hx; exact absurd rfl hb⟩, ⟨.und, .inr ⟨.inr ⟨b, rfl, hb⟩, rfl⟩⟩, fun u hu => ?_⟩
        rcases hu with ⟨hx, _⟩ | ⟨_, rfl⟩
        · cases hx; exact absurd rfl hb
        · exact h.2 hb
    · refine ⟨⟨.inl rfl, fun hx => by cases hx⟩, ⟨.und, .inr ⟨.inl rfl, rfl⟩⟩, fun u hu => ?_⟩
      rcases hu with ⟨hx, _⟩ | ⟨_, rfl⟩
      · cases hx
      · exact h

theorem chainD : ∀ (m : List IOper), (∀ io, io ∈ m → ∃ op, pureOp op = some io.op) → ∀ (e : Env) (K : Env → Prop), opsD P R m e H c0 K → ∀ V : Nat → AV,
    (∀ i io, m[i]? = some io → (∀ j y, j < i → m[j]? = some y → YD P R H c0 y (envN e m V j) (V j)) → XD P R H io (envN e m V i) ∧ ∃ v, YD P R H c0 io (envN e m V i) v) ∧
    ((∀ j y, m[j]? = some y → YD P R H c0 y (envN e m V j) (V j)) → K (envN e m V m.length)) := by
  intro m
  induction m with
  | nil => intro _ e K h V; exact ⟨fun i io hi => by simp at hi, fun _ => h⟩
  | cons io m ih =>
    intro hp e K h V
    obtain ⟨h1, h2, h3⟩ := stepD (hp io (List.mem_cons_self ..)) h
    have ih' := fun hy => ih (fun io h => hp io (List.mem_cons_of_mem _ h)) (put e io.dst (V 0)) K (h3 (V 0) hy) (fun j => V (j + 1))
    refine ⟨fun i io' hi hb => ?_, fun hb => ?_⟩
    · cases i with
      | zero => simp at hi; subst hi; exact ⟨h1, h2⟩
      | succ i =>
        have h0 : YD P R H c0 io e (V 0) := hb 0 io (by omega) rfl
        exact (ih' h0).1 i io' (by simpa using hi) fun j y hj hy => hb (j + 1) y (by omega) (by simpa using hy)
    · have h0 : YD P R H c0 io e (V 0) := hb 0 io rfl
      exact (ih' h0).2 fun j y hy => hb (j + 1) y (by simpa using hy)

theorem envN_congr : ∀ (m : List IOper) (e : Env) (V V' : Nat → AV) (i : Nat), (∀ j, j < i → V j = V' j) → envN e m V i = envN e m V' i := by
  intro m
  induction m with
  | nil => intro e V V' i h; cases i <;> rfl
  | cons io m ih =>
    intro e V V' i h
    cases i with
    | zero => rfl
    | succ i =>
      show envN (put e io.dst (V 0)) m (fun j => V (j + 1)) i = envN (put e io.dst (V' 0)) m (fun j => V' (j + 1)) i
      rw [h 0 (by omega)]
      exact ih _ _ _ i fun j hj => h (j + 1) (by omega)

theorem YD_congr {io : IOper} {op : IOp} (hp : pureOp op = some io.op) (hu : ∀ x, x ∈ io.op.uses → ev e x = ev e' x) (hg : ∀ g want, io.guard = some (g, want) → e g = e' g) (v : AV) : YD P R H c0 io e v → YD P R H c0 io e' v := by
  have key : GD P R H c0 io e v → GD P R H c0 io e' v := fun h => by
    unfold GD at h ⊢
    split
    · rename_i hc; rw [if_pos hc] at h; exact h
    · rename_i hc; rw [if_neg hc] at h
      intro c'
      have := h c'
      rw [opW_congr hp hu] at this
      exact this
  unfold YD
  cases h : io.guard with
  | none => exact key
  | some p =>
    obtain ⟨g, want⟩ := p
    dsimp only
    rw [hg g want h]
    rintro (⟨a, b⟩ | b)
    · exact .inl ⟨a, key b⟩
    · exact .inr b

/-- What is not worked out yet can be thought of. -/
theorem complete {m : List IOper} (hp : ∀ io, io ∈ m → ∃ op, pureOp op = some io.op) {K : Env → Prop} (hk : opsD P R m e H c0 K) {L : Nat → Bool} {A : Nat → AV}
    (hA : ∀ i io, m[i]? = some io → L i = true → ∀ V : Nat → AV, (∀ j, L j = true → V j = A j) → YD P R H c0 io (envN e m V i) (A i)) :
    ∀ n, n ≤ m.length → ∃ V : Nat → AV, (∀ j, L j = true → V j = A j) ∧ ∀ j y, j < n → m[j]? = some y → YD P R H c0 y (envN e m V j) (V j) := by
  intro n
  induction n with
  | zero => intro _; exact ⟨A, fun _ _ => rfl, fun j y hj => by omega⟩
  | succ n ih =>
    intro hn
    obtain ⟨V, h1, h2⟩ := ih (by omega)
    have hy : m[n]? = some m[n] := List.getElem?_eq_getElem (by omega)
    cases hl : L n with
    | true =>
      refine ⟨V, h1, fun j y hj hjy => ?_⟩
      by_cases hjn : j = n
      · subst hjn
        rw [h1 j hl]
        exact hA j y hjy hl V h1
      · exact h2 j y (by omega) hjy
    | false =>
      obtain ⟨v, hv⟩ := ((chainD m hp e K hk V).1 n _ hy h2).2
      have hne : ∀ j, j ≠ n → upd V n v j = V j := fun j hj => upd_ne _ _ _ hj
      have henv : ∀ j, j ≤ n → envN e m (upd V n v) j = envN e m V j := fun j hj => envN_congr m e _ _ j fun k hk => hne k (by omega)
      refine ⟨upd V n v, fun j hj => ?_, fun j y hj hjy => ?_⟩
      · rw [hne j fun h => by rw [h, hl] at hj; cases hj]; exact h1 j hj
      · rw [henv j (by omega)]
        by_cases hjn : j = n
        · subst hjn
          rw [hy] at hjy; cases hjy
          rw [upd_same]; exact hv
        · rw [hne j hjn]; exact h2 j y (by omega) hjy

section
variable {G0 : Gh} {H0 : List AObj} {w0 : World} {n : Nat}

structure MidD (P : Program) (R : Nat → AV → Prop) (H : List AObj) (ops : Array Oper) (m : List IOper) (e : Env) (A : Nat → AV) (c : Nat) (listed : Array Bool) (e' : Env) (c' : Nat) : Prop where
  size : listed.size = ops.size
  closed : ∀ (j : Nat) (o : Oper), ops[j]? = some o → listed.getD j false = true → ∀ k, k ∈ afterAny o → listed.getD k false = true
  yes : ∀ (j : Nat) (io : IOper) (t : Nat), m[j]? = some io → listed.getD j false = true → io.dst = some t → e' t = A j
  no : ∀ t, (∀ (j : Nat) (io : IOper), m[j]? = some io → listed.getD j false = true → io.dst ≠ some t) → e' t = e t
  le : c ≤ c'
  good : ∀ (i : Nat) (io : IOper), m[i]? = some io → listed.getD i false = true → ∀ V : Nat → AV, (∀ j, listed.getD j false = true → V j = A j) → YD P R H c io (envN e m V i) (A i)

theorem any_soundD (hH0 : ∀ t, t ∈ tags H0 → t < G0.c) {ops : Array Oper} {m : List IOper} (hlen : m.length = ops.size)
    (hm : ∀ (i : Nat) (x : Oper), ops[i]? = some x → ∃ io0 io, m[i]? = some io ∧ compOper P n ops x = some io0 ∧ io0.pure = some io) (hd : drawOk ops = true) {Q : Post}
    (hp : ∀ io, io ∈ m → ∃ op, pureOp op = some io.op) (hk : opsD P R m e H c0 fun e' => ∀ c', c0 ≤ c' → Q .normal e' H c') :
    ∀ (fuel : Nat) (listed : Array Bool) (A : Nat → AV) (e' : Env) (c' : Nat) (a : Act) (w : World), MidD P R H ops m e A c0 listed e' c' → (List.range ops.size).countP (fun j => !listed.getD j false) ≤ fuel → St G0 H0 w0 n e' H c' a w →
      wpAny P .any ops (Lift G0 H0 w0 n Q) fuel listed a w := by
  have uniq : ∀ (i j : Nat) (x y : IOper) (d : Nat), m[i]? = some x → m[j]? = some y → x.dst = some d → y.dst = some d → i = j := fun i j x y d h1 h2 h3 h4 => by
    have l1 := (List.getElem?_eq_some_iff.1 h1).1
    have l2 := (List.getElem?_eq_some_iff.1 h2).1
    obtain ⟨p0, p, q1, q2, q3⟩ := hm i ops[i] (Array.getElem?_eq_getElem (by omega))
    obtain ⟨r0, r, s1, s2, s3⟩ := hm j ops[j] (Array.getElem?_eq_getElem (by omega))
    rw [h1] at q1; cases q1
    rw [h2] at s1; cases s1
    have e1 := (compOper_spec q2).2.2.1
    have e2 := (compOper_spec s2).2.2.1
    have f1 : x.dst = p0.dst := by simp only [IOper.pure, Option.map_eq_some_iff] at q3; obtain ⟨_, _, rfl⟩ := q3; rfl
    have f2 : y.dst = r0.dst := by simp only [IOper.pure, Option.map_eq_some_iff] at s3; obtain ⟨_, _, rfl⟩ := s3; rfl
    exact (drawOk_spec hd (Array.getElem?_eq_getElem (by omega)) (Array.getElem?_eq_getElem (by omega))).2.1 d (by rw [← e1, ← f1, h3]) (by rw [← e2, ← f2, h4])
  have last : ∀ (listed : Array Bool) (A : Nat → AV) (e' : Env) (c' : Nat) (a : Act) (w : World), MidD P R H ops m e A c0 listed e' c' → St G0 H0 w0 n e' H c' a w → Region.ready .any ops listed = [] → Lift G0 H0 w0 n Q .normal a w := fun listed A e' c' a w M hs hr => by
    have all : ∀ j, j < ops.size → listed.getD j false = true := fun j => by
      induction j using Nat.strongRecOn with
      | _ j ih =>
        intro hj
        cases hl : listed.getD j false with
        | true => rfl
        | false =>
          have hjs : j < listed.size := M.size ▸ hj
          have : j ∈ Region.ready .any ops listed := by
            rw [mem_ready]
            refine ⟨by simpa [hjs] using hl, ops[j], Array.getElem?_eq_getElem hj, fun ed hed hb => ?_⟩
            have hmem : ed.on ∈ afterAny ops[j] := by
              unfold afterAny
              exact List.mem_map.2 ⟨ed, List.mem_filter.2 ⟨by simpa using hed, hb⟩, rfl⟩
            have hlt := (drawOk_spec hd (Array.getElem?_eq_getElem hj) (Array.getElem?_eq_getElem hj)).1 _ hmem
            exact ih _ hlt (by omega)
          rw [hr] at this
          cases this
    have he : e' = envN e m A m.length := funext fun t => by
      obtain ⟨h1, h2⟩ := envN_dst m e A uniq m.length (Nat.le_refl _) t
      by_cases hx : ∃ (j : Nat) (io : IOper), m[j]? = some io ∧ io.dst = some t
      · obtain ⟨j, io, hj, hio⟩ := hx
        have hl := (List.getElem?_eq_some_iff.1 hj).1
        rw [h1 j io hl hj hio, M.yes j io t hj (all j (by omega)) hio]
      · rw [h2 fun j io _ hj hio => hx ⟨j, io, hj, hio⟩, M.no t fun j io hj _ hio => hx ⟨j, io, hj, hio⟩]
    subst he
    refine ⟨_, H, c', (chainD m hp e _ hk A).2 (fun j y hy => ?_) c' M.le, hs⟩
    have hl := (List.getElem?_eq_some_iff.1 hy).1
    exact M.good j y hy (all j (by omega)) A fun _ _ => rfl
  intro fuel
  induction fuel with
  | zero =>
    intro listed A e' c' a w M hc hs
    have hr : Region.ready .any ops listed = [] := by
      refine List.eq_nil_iff_forall_not_mem.2 fun j hj => ?_
      rw [mem_ready] at hj
      obtain ⟨h0, o, ho, _⟩ := hj
      have hjs := (Array.getElem?_eq_some_iff.1 ho).1
      have hjs' : j < listed.size := M.size ▸ hjs
      have := List.countP_eq_zero.1 (Nat.le_zero.1 hc) j (List.mem_range.2 hjs)
      simp [hjs'] at h0 this
      rw [h0] at this; cases this
    exact ⟨hr, last listed A e' c' a w M hs hr⟩
  | succ fuel ih =>
    intro listed A e' c' a w M hc hs
    refine ⟨last listed A e' c' a w M hs, fun i hi => ?_⟩
    rw [mem_ready] at hi
    obtain ⟨h0, o, ho, hready⟩ := hi
    have his := (Array.getElem?_eq_some_iff.1 ho).1
    have hils : i < listed.size := M.size ▸ his
    have hnl : listed.getD i false = false := by simpa [hils] using h0
    have hafter : ∀ k, k ∈ afterAny o → listed.getD k false = true := fun k hk => by
      unfold afterAny at hk
      obtain ⟨ed, hed, rfl⟩ := List.mem_map.1 hk
      obtain ⟨hed1, hed2⟩ := List.mem_filter.1 hed
      exact hready ed (by simpa using hed1) hed2
    obtain ⟨io0, io, hio, hco, hpu⟩ := hm i o ho
    obtain ⟨c1, c2, c3, c4⟩ := compOper_spec hco
    obtain ⟨pop, hpop, hioe⟩ : ∃ p, pureOp io0.op = some p ∧ { io0 with op := p } = io := by simpa [IOper.pure, Option.map_eq_some_iff] using hpu
    have hop : io.op = pop := by rw [← hioe]
    have hgd : io.guard = io0.guard := by rw [← hioe]
    have hdst : io.dst = o.dst := by rw [← c3, ← hioe]
    have hil := (List.getElem?_eq_some_iff.1 hio).1
    -- what it looks at
    have agree : ∀ V : Nat → AV, (∀ j, listed.getD j false = true → V j = A j) → ∀ t, t ∈ o.looksAt ops → e' t = envN e m V i t := fun V hVA t ht => by
      obtain ⟨h1, h2⟩ := envN_dst m e V uniq i (Nat.le_of_lt hil) t
      by_cases hx : ∃ (j : Nat) (y : IOper), m[j]? = some y ∧ y.dst = some t
      · obtain ⟨j, y, hj, hy⟩ := hx
        have hl := (List.getElem?_eq_some_iff.1 hj).1
        obtain ⟨r0, r, s1, s2, s3⟩ := hm j ops[j] (Array.getElem?_eq_getElem (by omega))
        rw [hj] at s1; cases s1
        have e2 := (compOper_spec s2).2.2.1
        have f2 : y.dst = r0.dst := by simp only [IOper.pure, Option.map_eq_some_iff] at s3; obtain ⟨_, _, rfl⟩ := s3; rfl
        have no : ¬ j < i → listed.getD j false = false → e' t = envN e m V i t := fun hji hlj => by
          rw [h2 fun k x hk hx hd => hji (uniq k j x y t hx hj hd hy ▸ hk)]
          exact M.no t fun k x hx hlk hd => by rw [uniq k j x y t hx hj hd hy, hlj] at hlk; cases hlk
        rcases (drawOk_spec hd ho (Array.getElem?_eq_getElem (by omega : j < ops.size))).2.2 t (by rw [← e2, ← f2, hy]) ht with ⟨k1, k2⟩ | k1 | ⟨k1, k2⟩
        · rw [h1 j y k1 hj hy, M.yes j y t hj (hafter j k2) hy, hVA j (hafter j k2)]
        · exact no (by omega) (k1 ▸ hnl)
        · refine no (by omega) ?_
          cases hlj : listed.getD j false with
          | false => rfl
          | true => rw [M.closed j ops[j] (Array.getElem?_eq_getElem (by omega)) hlj i k2] at hnl; cases hnl
      · rw [h2 fun j y _ hj hy => hx ⟨j, y, hj, hy⟩, M.no t fun j y hj _ hy => hx ⟨j, y, hj, hy⟩]
    have guardIn : ∀ g want, io.guard = some (g, want) → g ∈ o.looksAt ops := fun g want hgw => by
      rw [hgd] at hgw
      have c2' := c2
      unfold compGuard at c2'
      unfold Oper.looksAt
      cases hog : o.guard with
      | none => rw [hog] at c2'; simp only [Option.some.injEq] at c2'; rw [← c2'] at hgw; cases hgw
      | some p =>
        obtain ⟨j, wt⟩ := p
        rw [hog] at c2'
        simp only at c2'
        split at c2'
        · rename_i d hdj
          simp only [Option.some.injEq] at c2'
          rw [← c2'] at hgw
          cases hgw
          refine List.mem_append_right _ ?_
          simp [hdj]
        · cases c2'
    have evs : ∀ V : Nat → AV, (∀ j, listed.getD j false = true → V j = A j) → ∀ u, u ∈ io.op.uses → ev e' u = ev (envN e m V i) u := fun V hVA u hu => by
      cases u with
      | c v => rfl
      | t t =>
        refine agree V hVA t ?_
        have := compOp_uses c1 hpop (by rw [← hop]; exact hu)
        unfold Oper.looksAt
        exact List.mem_append_left _ (List.mem_filterMap.2 ⟨.tmp t, this, rfl⟩)
    obtain ⟨V0, hV0, hg0⟩ := complete (L := fun j => listed.getD j false) hp hk M.good i (Nat.le_of_lt hil)
    obtain ⟨hx0, hy0⟩ := (chainD m hp e _ hk V0).1 i io hio fun j y hj hjy => hg0 j y hj hjy
    -- listing it
    have mid : ∀ c'' v, c' ≤ c'' → YD P R H c0 io (envN e m V0 i) v → MidD P R H ops m e (upd A i v) c0 (listed.setIfInBounds i true) (put e' io.dst v) c'' := fun c'' v hle hyv => by
      have other : ∀ j, j ≠ i → (listed.setIfInBounds i true).getD j false = true → listed.getD j false = true := fun j hne h => by rwa [getD_set_ne false (Ne.symm hne)] at h
      have hsub : ∀ V : Nat → AV, (∀ j, (listed.setIfInBounds i true).getD j false = true → V j = upd A i v j) → ∀ j, listed.getD j false = true → V j = A j := fun V hV j hj => by
        have hne : j ≠ i := fun h => by rw [h, hnl] at hj; cases hj
        rw [hV j (getD_set_true hj), upd_ne _ _ _ hne]
      refine ⟨by simp [M.size], fun j y hj hl k hk => ?_, fun j y t hj hl hy => ?_, fun t hn => ?_, Nat.le_trans M.le hle, fun j y hj hl V hV => ?_⟩
      · refine getD_set_true ?_
        by_cases hji : j = i
        · subst hji; rw [ho] at hj; cases hj; exact hafter k hk
        · exact M.closed j y hj (other j hji hl) k hk
      · by_cases hji : j = i
        · subst hji
          rw [hio] at hj; cases hj
          rw [hy]; show upd e' t v t = upd A j v j; rw [upd_same, upd_same]
        · have hne : ∀ t', io.dst = some t' → t ≠ t' := fun t' h ht => hji (uniq j i y io t hj hio hy (ht ▸ h))
          rw [upd_ne _ _ _ hji]
          cases hdd : io.dst with
          | none => exact M.yes j y t hj (other j hji hl) hy
          | some t' => show upd e' t' v t = A j; rw [upd_ne _ _ _ (hne t' hdd)]; exact M.yes j y t hj (other j hji hl) hy
      · have hne : ∀ t', io.dst = some t' → t ≠ t' := fun t' h ht => hn i io hio (by simp [hils]) (ht ▸ h)
        have hno : e' t = e t := M.no t fun j y hj hl => hn j y hj (getD_set_true hl)
        cases hdd : io.dst with
        | none => exact hno
        | some t' => show upd e' t' v t = e t; rw [upd_ne _ _ _ (hne t' hdd)]; exact hno
      · have hVA := hsub V hV
        by_cases hji : j = i
        · subst hji
          rw [hio] at hj; cases hj
          rw [upd_same]
          have hpo : pureOp io0.op = some io.op := hpop.trans (congrArg some hop.symm)
          refine YD_congr hpo (fun u hu => ?_) (fun g want hgw => ?_) v hyv
          · rw [← evs V0 hV0 u hu, evs V hVA u hu]
          · rw [← agree V0 hV0 g (guardIn g want hgw), agree V hVA g (guardIn g want hgw)]
        · rw [upd_ne _ _ _ hji]
          exact M.good j y hj (other j hji hl) V hVA
    have count : (List.range ops.size).countP (fun j => !(listed.setIfInBounds i true).getD j false) ≤ fuel := by
      have hlt : (List.range ops.size).countP (fun j => !(listed.setIfInBounds i true).getD j false) < (List.range ops.size).countP (fun j => !listed.getD j false) := by
        have key : ∀ (l : List Nat), i ∈ l → l.countP (fun j => !(listed.setIfInBounds i true).getD j false) < l.countP (fun j => !listed.getD j false) := by
          have mono : ∀ (l : List Nat), l.countP (fun j => !(listed.setIfInBounds i true).getD j false) ≤ l.countP (fun j => !listed.getD j false) := fun l =>
            List.countP_mono_left fun j _ h => by
              cases hl : listed.getD j false with
              | false => rfl
              | true => rw [getD_set_true hl] at h; cases h
          intro l hl
          induction l with
          | nil => cases hl
          | cons x l ihl =>
            simp only [List.countP_cons]
            by_cases hx : x = i
            · subst hx
              have := mono l
              have e1 : (listed.setIfInBounds x true).getD x false = true := by simp [hils]
              rw [e1, hnl]
              simp only [Bool.not_true, Bool.false_eq_true, if_false, Bool.not_false, if_true]
              omega
            · have h1 := ihl ((List.mem_cons.1 hl).resolve_left (Ne.symm hx))
              rw [getD_set_ne false (Ne.symm hx)]
              omega
        exact key _ (List.mem_range.2 his)
      omega
    obtain ⟨G, rfl, h1, h2, h3, I, x⟩ := hs
    have hw := wanted_of c2 h3
    have run : CD P R H io (envN e m V0 i) → (∃ v, GD P R H c0 io (envN e m V0 i) v) → (∀ v, GD P R H c0 io (envN e m V0 i) v → YD P R H c0 io (envN e m V0 i) v) →
        o.wp P a w (wpAny P .any ops (Lift G0 H0 w0 n Q) fuel (listed.setIfInBounds i true)) (Lift G0 H0 w0 n Q) := fun hcd hgd' hyd => by
      have fin : ∀ Kp : AV → List AObj → Nat → Prop, opW P io0.op e' H G.c Kp → (∀ av H' c'', Kp av H' c'' → H' = H ∧ G.c ≤ c'' ∧ GD P R H c0 io (envN e m V0 i) av) →
          o.wp P a w (wpAny P .any ops (Lift G0 H0 w0 n Q) fuel (listed.setIfInBounds i true)) (Lift G0 H0 w0 n Q) := fun Kp k1 k2 => by
        refine op_sound rfl c1 I h3 k1 fun v w' ⟨av, H', G', kp, x', I', r⟩ => ?_
        obtain ⟨q1, q2, q3⟩ := k2 _ _ _ kp
        subst q1
        refine ih _ _ (put e' io.dst av) G'.c _ _ (mid G'.c av q2 (hyd av q3)) count ?_
        rw [hdst]
        exact St.step h1 h2 h3 I x hH0 (by rw [← c3] at c4 ⊢; exact c4) x' I' r
      cases hcl : isCall io.op with
      | true =>
        cases hiop : io.op <;> rw [hiop] at hcl <;> first
          | (cases hcl; done)
          | skip
        rename_i f as0
        have hi0 : io0.op = .call f as0 := by
          have hq := hpop
          rw [← hop, hiop] at hq
          cases h00 : io0.op <;> rw [h00] at hq <;> simp only [pureOp] at hq <;> cases hq
          rfl
        unfold CD at hcd
        rw [hiop] at hcd
        obtain ⟨as', hv, ht⟩ := hcd
        have hmap : as0.map (ev e') = as0.map (ev (envN e m V0 i)) := map_ev fun u hu => evs V0 hV0 u (by rw [hiop]; exact hu)
        refine fin (fun r H' c'' => H' = H ∧ G.c ≤ c'' ∧ R (io.dst.getD 0) r ∧ From G.c r) ?_ fun av H' c'' ⟨q1, q2, q3, q4⟩ => ⟨q1, q2, ?_⟩
        · rw [hi0]
          show CallW P f (as0.map (ev e')) H G.c _
          rw [hmap]
          exact call_tree ht hv fun r c'' hle hq hfr => ⟨rfl, hle, hq, hfr⟩
        · unfold GD
          rw [hiop]
          simp only [isCall, if_true]
          exact ⟨q3, q4.mono M.le⟩
      | false =>
        obtain ⟨v, hv⟩ := hgd'
        have hv' := hv
        unfold GD at hv'
        rw [hcl, if_neg (by simp)] at hv'
        have k1 := hv' G.c
        rw [hop] at k1
        rw [← opW_congr (e := e') hpop fun u hu => evs V0 hV0 u (by rw [hop]; exact hu)] at k1
        exact fin _ (pure_opW hpop k1) fun av H' c'' ⟨q1, q2, q3, _⟩ => ⟨q2, q3, q1 ▸ hv⟩
    have skip : YD P R H c0 io (envN e m V0 i) .und → wpAny P .any ops (Lift G0 H0 w0 n Q) fuel (listed.setIfInBounds i true) (a.put o.dst undef) w := fun hv => by
      refine ih _ _ (put e' io.dst .und) G.c _ _ (mid G.c .und (Nat.le_refl _) hv) count ?_
      rw [hdst]
      exact St.step h1 h2 h3 I x hH0 c4 (Ext.refl _ _ _) I .und
    unfold XD at hx0
    unfold wpOp
    rw [ho]
    simp only
    cases hg : io.guard with
    | none =>
      rw [← hgd, hg] at hw
      simp only [WantSpec] at hw
      have hyi : ∀ v, YD P R H c0 io (envN e m V0 i) v ↔ GD P R H c0 io (envN e m V0 i) v := fun v => by unfold YD; rw [hg]
      rw [hg] at hx0
      rw [hw, if_pos rfl]
      exact .inl (run hx0 (hy0.imp fun v h => (hyi v).1 h) fun v h => (hyi v).2 h)
    | some gw =>
      obtain ⟨g, want⟩ := gw
      rw [← hgd, hg] at hw
      simp only [WantSpec] at hw
      have hyi : ∀ v, YD P R H c0 io (envN e m V0 i) v ↔ ((envN e m V0 i g = .bool want ∧ GD P R H c0 io (envN e m V0 i) v) ∨ ((envN e m V0 i g = .und ∨ ∃ b, envN e m V0 i g = .bool b ∧ b ≠ want) ∧ v = .und)) := fun v => by unfold YD; rw [hg]
      rw [hg] at hx0
      dsimp only at hx0
      have hge := agree V0 hV0 g (guardIn g want hg)
      obtain ⟨v, hv⟩ := hy0
      rcases (hyi v).1 hv with ⟨hy1, hy2⟩ | ⟨hy1, rfl⟩
      · rw [hw.1 want (hge.trans hy1), beq_self_eq_true, if_pos rfl]
        exact .inl (run (hx0.2 hy1) ⟨v, hy2⟩ fun u hu => (hyi u).2 (.inl ⟨hy1, hu⟩))
      · have : Region.wanted o (yielded ops a.tmps) = false := by
          rcases hy1 with hy1 | ⟨b, hy1, hb⟩
          · exact hw.2 (hge.trans hy1)
          · rw [hw.1 b (hge.trans hy1)]; simpa using hb
        rw [this, if_neg (by simp)]
        exact skip hv

theorem draw_soundD (hH0 : ∀ t, t ∈ tags H0 → t < G0.c) {ops : Array Oper} {m : List IOper} (hm : ops.toList.mapM (fun o => (compOper P n ops o).bind IOper.pure) = some m) (hd : drawOk ops = true) (hf : P.follows .mixedOrders = true)
    {Q : Post} {id : Nat} {a : Act} {w : World} (hs : St G0 H0 w0 n e H c0 a w) (hk : opsD P R m e H c0 fun e' => ∀ c', c0 ≤ c' → Q .normal e' H c') : (Code.region id ops true).wp P (Lift G0 H0 w0 n Q) a w := by
  obtain ⟨hl, hg⟩ := mapM_get _ _ hm
  have hm' : ∀ (i : Nat) (x : Oper), ops[i]? = some x → ∃ io0 io, m[i]? = some io ∧ compOper P n ops x = some io0 ∧ io0.pure = some io := fun i x hx => by
    obtain ⟨io, h1, h2⟩ := hg i x (by simpa using hx)
    obtain ⟨io0, h3, h4⟩ := Option.bind_eq_some_iff.1 h2
    exact ⟨io0, io, h1, h3, h4⟩
  have hp : ∀ io, io ∈ m → ∃ op, pureOp op = some io.op := fun io hio => by
    obtain ⟨i, hi, hie⟩ := List.mem_iff_getElem.1 hio
    obtain ⟨io0, io', h1, h2, h3⟩ := hm' i ops[i] (Array.getElem?_eq_getElem (by simp at hl; omega))
    rw [List.getElem?_eq_getElem hi, hie] at h1
    cases h1
    simp only [IOper.pure, Option.map_eq_some_iff] at h3
    obtain ⟨p, hp, rfl⟩ := h3
    exact ⟨io0.op, hp⟩
  refine wp_region_any hf (any_soundD hH0 (by simpa using hl) hm' hd hp hk ops.size _ (fun _ => .und) e c0 a _ ?_ ?_ ?_)
  · have hno : ∀ j, (Array.replicate ops.size false).getD j false = false := fun j => by
      by_cases hj : j < ops.size <;> simp [hj]
    exact ⟨by simp, fun j o _ h => by (rw [hno] at h; cases h), fun j io t _ h => by (rw [hno] at h; cases h), fun t _ => rfl, Nat.le_refl _, fun i io _ h => by (rw [hno] at h; cases h)⟩
  · exact Nat.le_trans (List.countP_le_length) (by simp)
  · obtain ⟨G, h0, h1, h2, h3, I, x⟩ := hs
    exact ⟨G, h0, h1, h2, h3, I, x.x, x.os, x.tape, x.output, x.size, x.frame, x.newm, x.oldH, x.oldF⟩
end
end
end A
end Go.Proofs.YtkcilmkienlnoaaGreatDoor

/-
  Operations that only look at their operands: what they give, whatever the memory. No condition.
-/

namespace Go.Proofs.YtkcilmkienlnoaaGreatDoor
namespace A
set_option linter.unusedVariables false
set_option linter.unusedSimpArgs false
section
variable {P : Program} {G : Gh} {H : List AObj} {w : World} {K : AV → List AObj → Nat → Prop} {a : Act} {e : Env} {o : Oper}

/-- A value that the statement gives in every world. -/
def Yld (P : Program) (s : Sem Value) (G : Gh) (h : Array Obj) (K : AV → Prop) : Prop := ∃ v av, Rep G h v av ∧ K av ∧ ∀ w, s.run P w = .ok v w

theorem faddr_yld {t : TypeId} {f off : Nat} {ft : TypeId} (ht : fieldOff P t f = some (off, ft)) {v : Value} {x : AV} {h : Array Obj} {K : AV → Prop} (r : Rep G h v x) (hk : faddrW off x K) : Yld P (Instr.fieldAt t v f) G h K := by
  obtain ⟨fs, fd, i, h1, h2, rfl, rfl, h3, h4⟩ := fieldOff_some ht
  have run : ∀ b p w, (Instr.fieldAt t (.pointer (some ⟨b, p, none⟩)) f).run P w = .ok (.pointer (some ⟨b, p + fd.offset, none⟩)) w := fun b p w => by
    unfold Instr.fieldAt
    simp only [Sem.run_bind, run_underlying h1, Result.andThen_ok, h2, Instr.sureAddr, Sem.run_pure, fieldPlace, r_sizeOf h3, h4, if_false, addr_add]
  cases r <;> simp only [faddrW] at hk
  case cpt tag p o cells f' hF hc hcell hcl hrep => exact ⟨_, _, .cpt f' hF hc hcell hcl hrep, hk, fun w => by rw [run, Nat.add_assoc]⟩
  case ptr i' tag wd r o hc => exact ⟨_, _, .ptr hc, hk, fun w => by rw [run, Nat.add_assoc]⟩
  all_goals exact hk.elim

theorem iaddr_yld {t e : TypeId} {i : TypeInfo} (ht : sliceElem P t = some (e, i)) {u v : Value} {x y : AV} {h : Array Obj} {K : AV → Prop} (r : Rep G h u x) (ry : Rep G h v y)
    (hk : iaddrW i.size x y K) : Yld P (Instr.indexAt t u v) G h K := by
  cases ry <;> simp only [iaddrW] at hk
  case int k n hn =>
    cases r <;> simp only at hk
    case slc0 => obtain ⟨_, _, _, h, _⟩ := hk; simp at h
    case slc tag wd off cap rows f hF hc hlen hcap hw hcell hcl hrep =>
      obtain ⟨rfl, h0, row, hrow, hk⟩ := hk
      have hl : n.toNat < rows.length := (List.getElem?_eq_some_iff.1 hrow).1
      refine ⟨_, _, ?_, hk, fun w => run_iaddr ht h0 (by omega) w⟩
      exact .cpt (o := 0) (off := off + n.toNat * i.size) (tag := tag) (fun j => f n.toNat j) hF hc (fun j a ha => hcell _ _ _ _ hrow ha) (fun j a ha => hcl _ _ _ _ hrow ha) (fun j a ha => hrep _ _ _ _ hrow ha)
    case ref j tag wd len cap c e' fr hc hb h1 h2 h3 =>
      obtain ⟨rfl, h0, hl, hk⟩ := hk
      refine ⟨_, _, ?_, hk, fun w => run_iaddr ht h0 hl w⟩
      rw [Nat.zero_add]
      exact .ptr (o := 0) hc
    all_goals exact hk.elim
  all_goals exact hk.elim

theorem lenStr_yld {t ty : TypeId} (ht : isStrT P t = true) {v : Value} {x : AV} {h : Array Obj} {K : AV → Prop} (r : Rep G h v x) (hk : lenStrW x K) : Yld P (Builtin.len_ #[t] ty #[v]) G h K := by
  cases r <;> simp only [lenStrW] at hk
  case str s l e hl =>
    subst e
    exact ⟨.int .i64 s.data.toList.length, _, .int (iok_len hl), hk, fun w => by simp [Builtin.len_, run_underlying (isStrT_spec ht), goInt]⟩
  all_goals exact hk.elim

theorem lenSlc_yld {t ty : TypeId} (ht : isSlcT P t = true) {v : Value} {x : AV} {h : Array Obj} {K : AV → Prop} (r : Rep G h v x) (hk : lenSlcW x K) : Yld P (Builtin.len_ #[t] ty #[v]) G h K := by
  obtain ⟨e, he⟩ := isSlcT_spec ht
  cases r <;> simp only [lenSlcW] at hk
  case nsl => exact ⟨.int .i64 0, _, .int (iok_len (n := 0) (Nat.zero_le _)), hk, fun w => by simp [Builtin.len_, run_underlying he, goInt]⟩
  case slc0 => exact ⟨.int .i64 0, _, .int (iok_len (n := 0) (Nat.zero_le _)), hk, fun w => by simp [Builtin.len_, run_underlying he, goInt]⟩
  case slc tag wd off cap rows f hF hc hlen hcap hw hcell hcl hrep =>
    exact ⟨.int .i64 rows.length, _, .int (iok_len hlen), hk, fun w => by simp [Builtin.len_, run_underlying he, goInt]⟩
  case ref j tag wd len cap c e' fr hc hb h1 h2 h3 =>
    exact ⟨.int .i64 len, _, .int (iok_len (Nat.le_trans h2 h3)), hk, fun w => by simp [Builtin.len_, run_underlying he, goInt]⟩
  all_goals exact hk.elim

theorem build_yld {t : TypeId} {zero : List AV} (hz : zeroOf? P t = some zero) (hok : placesOk P t = true) {parts : Array (Nat × Value)} {ps : List (Nat × Nat × AV)} {h : Array Obj} {K : AV → Prop}
    (f : F2 (fun p q => placeOf P t p.1 = some (q.1, q.2.1) ∧ Rep G h p.2 q.2.2) parts.toList ps) (hk : fillW zero ps fun l => K (.agg l)) : Yld P (Instr.build t parts) G h K := by
  obtain ⟨it, z, h1, h2, h3, h4, h5⟩ := zeroOf_some hz
  have r0 : RowRep G h z.cells zero := ⟨h4, fun j b hj => h5 _ _ j b hj⟩
  have fin : ∀ (place : Nat → Option (Nat × Nat)), (∀ i p, placeOf P t i = some p → place i = some p) → ((∃ cs, Instr.fill place z.cells parts.toList = some cs) → P.built t parts.toList = Instr.fill place z.cells parts.toList) →
      Yld P (Instr.build t parts) G h K := fun place hp hb => by
    obtain ⟨cs, l, e, r, k⟩ := fill_sound parts.toList ps z.cells zero r0 (forall2_place hp f) hk
    exact ⟨_, _, .agg r.1 (fun j b hj => (r.2 j b hj).1) fun j b hj => (r.2 j b hj).2, k, fun w => run_build w t parts cs ((hb ⟨_, e⟩).trans e)⟩
  cases hu : P.underlying t with
  | none => simp [placesOk, hu] at hok
  | some d =>
    cases d <;> try (simp [placesOk, hu] at hok; done)
    case array n e =>
      obtain ⟨ie, hie⟩ := Option.isSome_iff_exists.1 (by simpa [placesOk, hu] using hok)
      refine fin (fun i => some (i * ie.size, ie.size)) (fun i p hp => ?_) fun _ => ?_
      · simpa [placeOf, hu, hie] using hp
      · simp [Program.built, h1, hu, h2, hie]
    case struct fs =>
      obtain ⟨places, hp, hq⟩ := mapM_places (P := P) fs.toList (by simpa [placesOk, hu] using hok)
      refine fin (places.toArray[·]?) (fun i p hpi => ?_) fun _ => ?_
      · simp only [List.getElem?_toArray]
        rw [hq i]
        simp only [placeOf, hu] at hpi
        rw [Array.getElem?_toList]
        cases hf : fs[i]? with
        | none => simp [hf] at hpi
        | some x => simpa [hf] using hpi
      · simp [Program.built, h1, hu, h2, hp]

/-- Copies, parts of a tuple, addresses, lengths, structs out of their parts: they may run as0 soon as0 they can, whatever stands beside them. -/
theorem op_yld {op : Op} {io : IOp} (ho : o.op = op) (he : eagOp op = true) (hl : eagI io = true) (hc : compOp P op o.type = some io) (hE : Tmps G w.heap a e) (hk : opW P io e H G.c K) :
    ∃ v av, Rep G w.heap v av ∧ K av H G.c ∧ ∀ w', (execOp a.eval o).run P w' = .ok (.value v) w' := by
  have val : ∀ {s : Sem Value}, (∀ w', (execOp a.eval o).run P w' = (s.run P w').andThen fun v w'' => .ok (.value v) w'') → Yld P s G w.heap (fun av => K av H G.c) →
      ∃ v av, Rep G w.heap v av ∧ K av H G.c ∧ ∀ w', (execOp a.eval o).run P w' = .ok (.value v) w' := fun hs ⟨v, av, h1, h2, h3⟩ => ⟨v, av, h1, h2, fun w' => by rw [hs, h3]; rfl⟩
  cases op <;> simp only [eagOp, Bool.false_eq_true] at he <;> simp only [compOp, Option.bind_eq_bind, Option.bind_eq_some_iff, Option.some.injEq] at hc
  case move x =>
    obtain ⟨u, hu, rfl⟩ := hc
    exact ⟨_, _, opd_rep hE hu, hk, fun w' => by unfold execOp; simp only [ho]; rfl⟩
  case assign x =>
    obtain ⟨u, hu, rfl⟩ := hc
    exact ⟨_, _, opd_rep hE hu, hk, fun w' => by unfold execOp; simp only [ho]; rfl⟩
  case build t ps =>
    obtain ⟨z, hz, hc⟩ := hc
    split at hc
    · simp only [Option.bind_eq_some_iff, Option.some.injEq] at hc
      obtain ⟨qs, hqs, rfl⟩ := hc
      have hk' : fillW z (qs.map fun ((o, n, x) : Nat × Nat × Opd) => (o, n, ev e x)) (fun l => K (.agg l) H G.c) := hk
      refine val (s := Instr.build t (ps.map fun (i, x) => (i, a.eval x))) (fun w' => by unfold execOp; simp only [ho, Sem.run_bind, Sem.run_pure]) (build_yld (K := fun av => K av H G.c) hz (by assumption) ?_ hk')
      rw [Array.toList_map]
      exact build_parts hE ps.toList qs hqs
    · cases hc
  case nilCheck x =>
    obtain ⟨u, hu, rfl⟩ := hc
    simp only [opW] at hk
    have rx := opd_rep hE hu
    generalize ev e u = au at hk rx
    generalize hv : a.eval x = v at rx
    have key : ∀ w', (execOp a.eval o).run P w' = .ok (.value v) w' := fun w' => by
      unfold execOp
      simp only [ho, hv]
      cases rx <;> simp only [nilckW] at hk <;> first
        | exact hk.elim
        | rfl
    have hk' : K au H G.c := by cases rx <;> simp only [nilckW] at hk <;> first | exact hk.elim | exact hk
    exact ⟨_, _, rx, hk', key⟩
  case fieldAddr t x f =>
    obtain ⟨⟨off, ft⟩, hf, u, hu, rfl⟩ := hc
    exact val (s := Instr.fieldAt t (a.eval x) f) (fun w' => by unfold execOp; simp only [ho, Sem.run_bind, Sem.run_pure]) (faddr_yld hf (opd_rep hE hu) hk)
  case indexAddr t x i =>
    obtain ⟨⟨el, j⟩, hs, u, hu, v, hv, rfl⟩ := hc
    exact val (s := Instr.indexAt t (a.eval x) (a.eval i)) (fun w' => by unfold execOp; simp only [ho, Sem.run_bind, Sem.run_pure]) (iaddr_yld hs (opd_rep hE hu) (opd_rep hE hv) hk)
  case extract x k =>
    obtain ⟨u, hu, rfl⟩ := hc
    simp only [opW] at hk
    have r := opd_rep hE hu
    generalize hev : ev e u = au at hk r
    generalize hav : a.eval x = vx at r
    cases r <;> simp only [extractW] at hk
    case tup cs vs hs' hr' =>
      obtain ⟨b, hb, k'⟩ := hk
      have hl : k < cs.size := by rw [hs']; exact (List.getElem?_eq_some_iff.1 hb).1
      exact ⟨cs.getD k undef, b, hr' _ _ hb, k', fun w => by unfold execOp; simp only [ho, hav, Sem.run_bind, Sem.run_pure]; unfold Instr.extract; simp only [of_getD hl, Sem.run_pure, Result.andThen_ok]⟩
    all_goals exact hk.elim
  case call c =>
    obtain ⟨callee, args, argTypes⟩ := c
    dsimp only at he
    split at he
    · unfold compCall at hc
      dsimp only at hc
      split at hc
      · rename_i x t hx ht
        simp only [Option.bind_eq_bind, Option.bind_eq_some_iff] at hc
        obtain ⟨u, hu, hc⟩ := hc
        have e1 : args = #[x] := by rw [← Array.toList_inj, hx]
        have e2 : argTypes = #[t] := by rw [← Array.toList_inj, ht]
        subst e1; subst e2
        refine val (s := Builtin.len_ #[t] o.type #[a.eval x]) (fun w' => ?_) ?_
        · unfold execOp
          simp only [ho, resolve, Sem.run_bind, Sem.run_pure, Result.andThen_ok, invoke, builtin, List.map_toArray, List.map_cons, List.map_nil]
        · unfold compLen at hc
          split at hc
          · cases hc; exact lenStr_yld (by assumption) (opd_rep hE hu) hk
          · split at hc
            · cases hc; exact lenSlc_yld (by assumption) (opd_rep hE hu) hk
            · split at hc <;> cases hc
              cases hl
      · cases hc
    · cases he
end
end A
end Go.Proofs.YtkcilmkienlnoaaGreatDoor

/-
  Statements whose order is open, some of them with an effect: those with an effect stand in one order, the others only compute. No condition.
-/


namespace Go.Proofs.YtkcilmkienlnoaaGreatDoor
namespace A
set_option linter.unusedVariables false
section
variable {P : Program} {H : List AObj} {c : Nat} {e e' : Env}

/-- All operands of an operation. -/
def IOp.all : IOp → List Opd
  | .box _ x | .toBytes x | .isnl _ x => [x]
  | .build _ ps => ps.map (·.2.2)
  | .bslice _ _ _ ps => ps.map (·.2)
  | .store _ a x => [a, x]
  | .mkslice _ _ _ l x => [l, x]
  | .mupd _ m k v => [m, k, v]
  | .append _ _ x y => [x, y]
  | .call _ l => l
  | .callv x l => x :: l
  | .chk _ x y => [x, y]
  | op => op.uses

theorem opW_all (op : IOp) (h : ∀ x, x ∈ op.all → ev e x = ev e' x) (K : AV → List AObj → Nat → Prop) : opW P op e H c K = opW P op e' H c K := by
  cases op
  case build z ps =>
    have : (ps.map fun ((o, n, x) : Nat × Nat × Opd) => (o, n, ev e x)) = ps.map fun (o, n, x) => (o, n, ev e' x) := List.map_congr_left fun p hp => by
      have := h p.2.2 (List.mem_map_of_mem (f := (·.2.2)) hp)
      show (p.1, p.2.1, ev e p.2.2) = (p.1, p.2.1, ev e' p.2.2)
      rw [this]
    show fillW z (ps.map fun ((o, n, x) : Nat × Nat × Opd) => (o, n, ev e x)) _ = fillW z (ps.map fun ((o, n, x) : Nat × Nat × Opd) => (o, n, ev e' x)) _
    rw [this]
  case bslice w z n ps =>
    have : (ps.map fun ((i, x) : Nat × Opd) => (i, ev e x)) = ps.map fun (i, x) => (i, ev e' x) := List.map_congr_left fun p hp => by
      have := h p.2 (List.mem_map_of_mem (f := (·.2)) hp)
      show (p.1, ev e p.2) = (p.1, ev e' p.2)
      rw [this]
    show bsliceW w z n (ps.map fun ((i, x) : Nat × Opd) => (i, ev e x)) H c K = bsliceW w z n (ps.map fun ((i, x) : Nat × Opd) => (i, ev e' x)) H c K
    rw [this]
  case call f l => simp only [opW]; rw [map_ev (l := l) h]
  case callv x l => simp only [opW]; rw [h x (List.mem_cons_self ..), map_ev (l := l) fun y hy => h y (List.mem_cons_of_mem _ hy)]
  case callF f l => simp only [opW]; rw [map_ev (l := l) h]
  case mkfn f l => simp only [opW]; rw [map_ev (l := l) h]
  all_goals simp only [IOp.all, IOp.uses, List.mem_cons, List.not_mem_nil, or_false, List.mem_append, forall_eq_or_imp, forall_eq] at h
  all_goals simp only [opW]
  all_goals first
    | rw [h]
    | (obtain ⟨h1, h2⟩ := h; rw [h1, h2]; done)
    | (obtain ⟨h1, h2, h3⟩ := h; rw [h1, h2, h3]; done)
    | (obtain ⟨h1, h2⟩ := h; rw [h1, opt_ev fun x hx => h2 x (.inl hx), opt_ev fun x hx => h2 x (.inr hx)])

theorem build_tmp {P : Program} {t : Nat} {ty : TypeId} : ∀ (l : List (Nat × Operand)) (ps : List (Nat × Nat × Opd)), l.mapM (fun (p : Nat × Operand) => do let (o, n) ← placeOf P ty p.1; some (o, n, ← opd p.2)) = some ps →
    Opd.t t ∈ ps.map (·.2.2) → Operand.tmp t ∈ l.map (·.2) := by
  intro l
  induction l with
  | nil => intro ps h ht; simp at h; subst h; simp at ht
  | cons p l ih =>
    intro ps h ht
    simp only [List.mapM_cons, Option.bind_eq_bind, Option.bind_eq_some_iff, Option.pure_def, Option.some.injEq] at h
    obtain ⟨q, ⟨⟨o, n⟩, hp, y, hy, rfl⟩, qs, hqs, rfl⟩ := h
    simp only [List.map_cons, List.mem_cons] at ht ⊢
    rcases ht with ht | ht
    · subst ht; exact .inl (opd_tmp hy).symm
    · exact .inr (ih qs hqs ht)

theorem bslice_tmp {t : Nat} : ∀ (l : List (Nat × Operand)) (ps : List (Nat × Opd)), l.mapM (fun (p : Nat × Operand) => do some (p.1, ← opd p.2)) = some ps → Opd.t t ∈ ps.map (·.2) → Operand.tmp t ∈ l.map (·.2) := by
  intro l
  induction l with
  | nil => intro ps h ht; simp at h; subst h; simp at ht
  | cons p l ih =>
    intro ps h ht
    simp only [List.mapM_cons, Option.bind_eq_bind, Option.bind_eq_some_iff, Option.pure_def, Option.some.injEq] at h
    obtain ⟨q, ⟨y, hy, rfl⟩, qs, hqs, rfl⟩ := h
    simp only [List.map_cons, List.mem_cons] at ht ⊢
    rcases ht with ht | ht
    · subst ht; exact .inl (opd_tmp hy).symm
    · exact .inr (ih qs hqs ht)

theorem compOp_all {op : Op} {ty : TypeId} {io : IOp} (hc : compOp P op ty = some io) {t : Nat} (ht : Opd.t t ∈ io.all) : Operand.tmp t ∈ op.operands.toList := by
  cases hp : pureOp io with
  | some io' =>
    have : Opd.t t ∈ io'.uses := by
      cases io <;> simp only [pureOp] at hp <;> first
        | (cases hp; done)
        | (cases hp; exact ht)
    exact compOp_uses hc hp this
  | none =>
    cases op <;> simp only [compOp, Option.bind_eq_bind, Option.bind_eq_some_iff, Option.some.injEq] at hc
    case box t' x => obtain ⟨_, _, u, hu, rfl⟩ := hc; simp [IOp.all] at ht; subst ht; simp [Op.operands, opd_tmp hu]
    case alloc => obtain ⟨_, _, rfl⟩ := hc; simp [IOp.all, IOp.uses] at ht
    case build ty' ps =>
      obtain ⟨z, hz, hc⟩ := hc
      split at hc
      · simp only [Option.bind_eq_some_iff, Option.some.injEq] at hc
        obtain ⟨qs, hqs, rfl⟩ := hc
        have := build_tmp ps.toList qs hqs ht
        simpa [Op.operands] using this
      · cases hc
    case buildSlice ty' n ps =>
      obtain ⟨⟨el, i⟩, hs, z, hz, hc⟩ := hc
      split at hc
      · simp only [Option.bind_eq_some_iff, Option.some.injEq] at hc
        obtain ⟨qs, hqs, rfl⟩ := hc
        have := bslice_tmp ps.toList qs hqs ht
        simpa [Op.operands] using this
      · cases hc
    case store ty' a x =>
      obtain ⟨_, _, u, hu, v, hv, rfl⟩ := hc
      simp [IOp.all] at ht
      rcases ht with rfl | rfl
      · simp [Op.operands, opd_tmp hu]
      · simp [Op.operands, opd_tmp hv]
    case makeMap t' r => cases r <;> cases hc; simp [IOp.all, IOp.uses] at ht
    case makeSlice ty' l x =>
      obtain ⟨⟨el, i⟩, hs, z, hz, u, hu, v, hv, rfl⟩ := hc
      simp [IOp.all] at ht
      rcases ht with rfl | rfl
      · simp [Op.operands, opd_tmp hu]
      · simp [Op.operands, opd_tmp hv]
    case mapUpdate ty' m k x =>
      split at hc
      · simp only [Option.bind_eq_some_iff, Option.some.injEq] at hc
        obtain ⟨d, hd, u, hu, v, hv, z, hz, rfl⟩ := hc
        simp [IOp.all] at ht
        rcases ht with rfl | rfl | rfl
        · simp [Op.operands, opd_tmp hu]
        · simp [Op.operands, opd_tmp hv]
        · simp [Op.operands, opd_tmp hz]
      · cases hc
    case binOp op' t' x y yt =>
      obtain ⟨u, hu, v, hv, hc⟩ := hc
      have : Opd.t t = u := by
        unfold compBin at hc
        split at hc
        · cases hc; cases hp
        · split at hc
          · cases hc; cases hp
          · split at hc
            · split at hc <;> cases hc <;> cases hp
            · split at hc
              · split at hc <;> cases hc <;> simpa [IOp.all] using ht
              · split at hc
                · split at hc <;> cases hc <;> cases hp
                · cases hc
      subst this
      simp [Op.operands, opd_tmp hu]
    case convert s d x =>
      obtain ⟨u, hu, hc⟩ := hc
      have : Opd.t t = u := by
        unfold compConv at hc
        split at hc
        · cases hc; cases hp
        · split at hc <;> cases hc; cases hp
        · split at hc <;> cases hc; simpa [IOp.all] using ht
        · cases hc
      subst this
      simp [Op.operands, opd_tmp hu]
    case call cl =>
      obtain ⟨callee, args, argTypes⟩ := cl
      unfold compCall at hc
      dsimp only at hc
      split at hc
      · split at hc
        · rename_i x t' hx ht'
          simp only [Option.bind_eq_bind, Option.bind_eq_some_iff] at hc
          obtain ⟨u, hu, hc⟩ := hc
          unfold compLen at hc
          split at hc
          · cases hc; cases hp
          · split at hc
            · cases hc; cases hp
            · split at hc <;> cases hc; cases hp
        · cases hc
      · split at hc
        · rename_i x y t' u' hx ht'
          simp only [Option.bind_eq_bind, Option.bind_eq_some_iff] at hc
          obtain ⟨⟨el, i⟩, hs, z, hz, hc⟩ := hc
          split at hc
          · simp only [Option.bind_eq_some_iff, Option.some.injEq] at hc
            obtain ⟨u1, hu1, u2, hu2, rfl⟩ := hc
            have e1 : args = #[x, y] := by rw [← Array.toList_inj, hx]
            subst e1
            simp [IOp.all] at ht
            rcases ht with rfl | rfl
            · simp [Op.operands, Call.operands, opd_tmp hu1]
            · simp [Op.operands, Call.operands, opd_tmp hu2]
          · cases hc
        · cases hc
      · rename_i f
        simp only [Option.bind_eq_bind, Option.bind_eq_some_iff] at hc
        obtain ⟨as0, has, hc⟩ := hc
        split at hc <;> cases hc
        cases hp
      · rename_i t'
        simp only [Option.bind_eq_bind, Option.bind_eq_some_iff, Option.some.injEq] at hc
        obtain ⟨as0, has, rfl⟩ := hc
        simp only [IOp.all, List.mem_cons, Opd.t.injEq] at ht
        rcases ht with rfl | ht
        · simp [Op.operands, Call.operands]
        · have := opds_tmp args.toList as0 has ht
          simp [Op.operands, Call.operands] at this ⊢; exact .inr this
      · cases hc
    case move => obtain ⟨u, hu, rfl⟩ := hc; cases hp
    case assign => obtain ⟨u, hu, rfl⟩ := hc; cases hp
    case pick => obtain ⟨u, hu, v, hv, z, hz, rfl⟩ := hc; cases hp
    case load => obtain ⟨_, _, u, hu, rfl⟩ := hc; cases hp
    case nilCheck => obtain ⟨u, hu, rfl⟩ := hc; cases hp
    case unOp => obtain ⟨u, hu, rfl⟩ := hc; cases hp
    case extract => obtain ⟨u, hu, rfl⟩ := hc; cases hp
    case fieldAddr => obtain ⟨_, _, u, hu, rfl⟩ := hc; cases hp
    case field => obtain ⟨_, _, _, _, u, hu, rfl⟩ := hc; cases hp
    case indexAddr => obtain ⟨_, _, u, hu, v, hv, rfl⟩ := hc; cases hp
    case makeFunc fn first caps =>
      cases fn <;> simp only at hc <;> first
        | (cases hc; done)
        | skip
      split at hc
      · simp only [Option.bind_eq_some_iff, Option.some.injEq] at hc
        obtain ⟨us, hus, rfl⟩ := hc
        cases hp
      · cases hc
    case slice t' x lo hi m =>
      cases m with
      | some m => cases hc
      | none =>
        simp only at hc
        split at hc
        · simp only [Option.bind_eq_some_iff, Option.some.injEq] at hc
          obtain ⟨u, hu, l, hl, h, hh, rfl⟩ := hc
          cases hp
        · simp only [Option.bind_eq_some_iff, Option.some.injEq] at hc
          obtain ⟨_, _, u, hu, l, hl, h, hh, rfl⟩ := hc
          cases hp
    case index t' x i =>
      split at hc
      · simp only [Option.bind_eq_some_iff, Option.some.injEq] at hc
        obtain ⟨u, hu, v, hv, rfl⟩ := hc
        cases hp
      · cases hc
    case lookup t' m k ok =>
      split at hc
      · simp only [Option.bind_eq_some_iff, Option.some.injEq] at hc
        obtain ⟨_, _, _, _, u, hu, v, hv, rfl⟩ := hc
        cases hp
      · cases hc
    all_goals cases hc

/-! ### what only computes gives the same where there are more objects -/
theorem getW_app {α : Type} {l M : List α} {i : Nat} {K : α → Prop} (h : getW l i K) : getW (l ++ M) i K := by
  obtain ⟨x, hx, k⟩ := h
  exact ⟨x, by rw [List.getElem?_append_left (List.getElem?_eq_some_iff.1 hx).1]; exact hx, k⟩

theorem load_app {ag : Option Nat} {x : AV} {M : List AObj} {K : AV → Prop} (h : loadW ag x H K) : loadW ag x (H ++ M) K := by
  cases x <;> simp only [loadW] at h ⊢ <;> first
    | exact h
    | exact getW_app h
theorem lenM_app {x : AV} {M : List AObj} {K : AV → Prop} (h : lenMapW x H K) : lenMapW x (H ++ M) K := by
  cases x <;> simp only [lenMapW] at h ⊢ <;> first
    | exact h
    | exact getW_app h
theorem lookup_app {d : TypeDesc} {z : AV} {ok : Bool} {m k : AV} {M : List AObj} {K : AV → Prop} (h : lookupW d z ok m k H K) : lookupW d z ok m k (H ++ M) K := by
  cases m <;> simp only [lookupW] at h ⊢ <;> first
    | exact h
    | exact ⟨h.1, getW_app h.2⟩
theorem src_app {w : Nat} {y : AV} {M : List AObj} {K : List (List AV) → Prop} (h : srcW w y H K) : srcW w y (H ++ M) K := by
  cases y <;> simp only [srcW] at h ⊢ <;> first
    | exact h
    | exact ⟨h.1, getW_app h.2⟩
theorem toStr_app {x : AV} {M : List AObj} {K : AV → Prop} (h : toStrW x H K) : toStrW x (H ++ M) K := by
  cases x <;> simp only [toStrW] at h ⊢ <;> first
    | exact h
    | exact src_app h

theorem gives_rel {op op' : IOp} (hp : pureOp op = some op') (hc : isCall op' = false) {v : AV} (g : Gives P op' e H v) {H' : List AObj} (hn : needsH op' = true → ∃ M, H' = H ++ M) : Gives P op' e H' v := by
  intro c'
  have g := g c'
  cases op <;> simp only [pureOp] at hp <;> first
    | (cases hp; done)
    | skip
  all_goals cases hp
  all_goals first
    | (cases hc; done)
    | skip
  case load =>
    obtain ⟨M, rfl⟩ := hn rfl
    simp only [opW] at g ⊢
    exact load_app g
  case lookup =>
    obtain ⟨M, rfl⟩ := hn rfl
    simp only [opW] at g ⊢
    exact lookup_app g
  case lenM =>
    obtain ⟨M, rfl⟩ := hn rfl
    simp only [opW] at g ⊢
    exact lenM_app g
  case toStr =>
    obtain ⟨M, rfl⟩ := hn rfl
    simp only [opW] at g ⊢
    exact toStr_app g
  all_goals first
    | (simp only [opW] at g ⊢; exact g)
    | (simp only [opW] at g ⊢; exact ⟨g.1, rfl, g.2.2⟩)

/-! ### what adds objects -/
theorem iff_of {op : IOp} {W : (AV → Prop) → Prop} (d : Det W) (hw : ∀ c (K : AV → List AObj → Nat → Prop), opW P op e H c K = W fun v => K v H c) {K : AV → List AObj → Nat → Prop} (hk : opW P op e H c K) :
    opW P op e H c fun v H' c' => K v H' c' ∧ ∃ M, H' = H ++ M := by
  rw [hw] at hk ⊢
  obtain ⟨v, h⟩ := d _ hk
  exact (h _).2 ⟨(h _).1 hk, [], by simp⟩

theorem cells_mono {x : AV} {K K' : List AV → Prop} (h : cellsW x K) (k : ∀ l, K l → K' l) : cellsW x K' := by
  cases x <;> simp only [cellsW] at h ⊢ <;> first
    | exact k _ h
    | exact h
theorem getW_mono {α : Type} {l : List α} {i : Nat} {K K' : α → Prop} (h : getW l i K) (k : ∀ x, K x → K' x) : getW l i K' := let ⟨x, hx, h⟩ := h; ⟨x, hx, k x h⟩
theorem fill_mono : ∀ (ps : List (Nat × Nat × AV)) (z : List AV) {K K' : List AV → Prop}, fillW z ps K → (∀ l, K l → K' l) → fillW z ps K' := by
  intro ps
  induction ps with
  | nil => intro z K K' h k; exact k _ h
  | cons p ps ih =>
    intro z K K' h k
    obtain ⟨o, n, v⟩ := p
    exact cells_mono h fun l ⟨h1, h2, h3⟩ => ⟨h1, h2, ih _ h3 k⟩
theorem rowsFill_mono : ∀ (ps : List (Nat × AV)) (z : List (List AV)) {K K' : List (List AV) → Prop}, rowsFillW z ps K → (∀ l, K l → K' l) → rowsFillW z ps K' := by
  intro ps
  induction ps with
  | nil => intro z K K' h k; exact k _ h
  | cons p ps ih =>
    intro z K K' h k
    obtain ⟨i, v⟩ := p
    exact cells_mono h fun l h => getW_mono h fun row ⟨h1, h2⟩ => ⟨h1, ih _ h2 k⟩

theorem opW_grow {op : IOp} (hg : growOp op = true) {K : AV → List AObj → Nat → Prop} (hk : opW P op e H c K) : opW P op e H c fun v H' c' => K v H' c' ∧ ∃ M, H' = H ++ M := by
  cases op <;> simp only [growOp, pureOp, Option.isSome_none, Option.isSome_some, Bool.false_eq_true] at hg
  case new w z => exact ⟨hk, _, rfl⟩
  case box w x => exact cells_mono hk fun l h => ⟨h, _, rfl⟩
  case build z ps => exact fill_mono _ _ hk fun l h => ⟨h, [], by simp⟩
  case bslice w z n ps => exact rowsFill_mono _ _ hk fun l h => ⟨h, _, rfl⟩
  case mkslice w z b l x =>
    simp only [opW] at hk ⊢
    generalize ev e l = u at hk ⊢
    generalize ev e x = y at hk ⊢
    cases u <;> cases y <;> simp only [mksliceW] at hk ⊢
    obtain ⟨h1, h2, h3, h4, h5⟩ := hk
    exact ⟨h1, h2, h3, h4, h5, _, rfl⟩
  case mkmap => exact ⟨hk, _, rfl⟩
  case toBytes x =>
    simp only [opW] at hk ⊢
    generalize ev e x = y at hk ⊢
    cases y <;> simp only [toBytesW] at hk ⊢
    exact ⟨hk, _, rfl⟩
  case isnl neg x =>
    simp only [opW] at hk ⊢
    generalize ev e x = y at hk ⊢
    cases y <;> simp only [isnlW] at hk ⊢
    case slc t w rows =>
      cases rows with
      | nil => exact ⟨⟨hk.1, [], by simp⟩, hk.2, [], by simp⟩
      | cons r rows => exact ⟨hk, [], by simp⟩
    all_goals exact ⟨hk, [], by simp⟩
  case mv => exact iff_of (det_id _) (fun _ _ => rfl) hk
  case pick => exact iff_of (det_pick _ _ _) (fun _ _ => rfl) hk
  case load => exact iff_of (det_load _ _) (fun _ _ => rfl) hk
  case loadC => exact iff_of (det_loadC _ _) (fun _ _ => rfl) hk
  case nilck => exact iff_of (det_nilck _) (fun _ _ => rfl) hk
  case isni => exact iff_of (det_isni _ _) (fun _ _ => rfl) hk
  case bin => exact iff_of (det_bin _ _ _) (fun _ _ => rfl) hk
  case binb => exact iff_of (det_binb _ _ _) (fun _ _ => rfl) hk
  case beq => exact iff_of (det_beq _ _ _ _) (fun _ _ => rfl) hk
  case un => exact iff_of (det_un _ _) (fun _ _ => rfl) hk
  case toInt => exact iff_of (det_toInt _ _) (fun _ _ => rfl) hk
  case toStr => exact iff_of (det_toStr _) (fun _ _ => rfl) hk
  case mkfn => exact iff_of (det_id _) (fun _ _ => rfl) hk
  case sliceS => exact iff_of (det_sliceS _ _ _) (fun _ _ => rfl) hk
  case slice => exact iff_of (det_slice _ _ _ _) (fun _ _ => rfl) hk
  case faddr => exact iff_of (det_faddr _ _) (fun _ _ => rfl) hk
  case field => exact iff_of (det_field _ _ _) (fun _ _ => rfl) hk
  case iaddr => exact iff_of (det_iaddr _ _ _) (fun _ _ => rfl) hk
  case index => exact iff_of (det_index _ _) (fun _ _ => rfl) hk
  case lookup => exact iff_of (det_lookup _ _ _ _ _) (fun _ _ => rfl) hk
  case lenS => exact iff_of (det_lenS _) (fun _ _ => rfl) hk
  case lenL => exact iff_of (det_lenL _) (fun _ _ => rfl) hk
  case lenM => exact iff_of (det_lenM _) (fun _ _ => rfl) hk
  case extract => exact iff_of (det_extract _ _) (fun _ _ => rfl) hk

/-! ### the lists -/
theorem isNop_eq {o : IOper} (h : isNop o = true) : o = nopO := by
  unfold isNop at h
  split at h
  · rfl
  · cases h

theorem opsW_nop (l : List IOper) (e : Env) (H : List AObj) (c : Nat) (K : Env → List AObj → Nat → Prop) : opsW P (nopO :: l) e H c K = opsW P l e H c K := rfl

theorem opsW_filter : ∀ (l : List IOper), opsW P (l.filter fun o => !isNop o) = opsW P l := by
  intro l
  induction l with
  | nil => rfl
  | cons o l ih =>
    cases hn : isNop o with
    | true =>
      have : ((o :: l).filter fun o => !isNop o) = l.filter fun o => !isNop o := by simp [hn]
      rw [this, ih, isNop_eq hn]
      funext e H c K
      exact (opsW_nop l e H c K).symm
    | false =>
      have : ((o :: l).filter fun o => !isNop o) = o :: l.filter fun o => !isNop o := by simp [hn]
      rw [this]
      funext e H c K
      simp only [opsW, ih]

theorem opsW_append : ∀ (l l' : List IOper) (e : Env) (H : List AObj) (c : Nat) (K : Env → List AObj → Nat → Prop), opsW P (l ++ l') e H c K = opsW P l e H c fun e H c => opsW P l' e H c K := by
  intro l
  induction l with
  | nil => intro l' e H c K; rfl
  | cons o l ih =>
    intro l' e H c K
    simp only [List.cons_append, opsW, ih]

theorem clos_length (ops : Array Oper) : ∀ n, (clos ops n).length = n := by
  intro n
  induction n with
  | zero => rfl
  | succ n ih => simp [clos, ih]

/-- What must have run before has run. -/
theorem clos_spec {ops : Array Oper} {L : Nat → Prop} (hL : ∀ (j : Nat) (o : Oper), ops[j]? = some o → L j → ∀ k, k ∈ afterAny o → L k) : ∀ n i j, j ∈ (clos ops n).getD i [] → L i → L j := by
  intro n
  induction n with
  | zero => intro i j h; simp [clos] at h
  | succ n ih =>
    intro i j h hi
    unfold clos at h
    rw [List.getD_eq_getElem?_getD, List.getElem?_append] at h
    split at h
    · exact ih i j (by rw [List.getD_eq_getElem?_getD]; exact h) hi
    · rename_i hl
      rw [clos_length] at hl h
      by_cases hin : i = n
      · subst hin
        simp only [Nat.sub_self, List.getElem?_cons_zero, Option.getD_some] at h
        cases ho : ops[i]? with
        | none => rw [ho] at h; simp at h
        | some o =>
          rw [ho] at h
          simp only [List.mem_eraseDups, List.mem_flatMap, List.mem_cons] at h
          obtain ⟨q, hq, h⟩ := h
          have lq := hL i o ho hi q hq
          rcases h with rfl | h
          · exact lq
          · exact ih q j h lq
      · have : i - n ≠ 0 := by omega
        rw [List.getElem?_eq_none (by simp; omega)] at h
        simp at h

theorem mixOk_spec {ops : Array Oper} {m : List IOper} {cl : List (List Nat)} {bl : List Bool} (h : mixOk ops m cl bl = true) {i k : Nat} {o : Oper} {io : IOper} (ho : ops[i]? = some o) (hio : m[i]? = some io) (hk : k < ops.size) :
    (bl.getD i false = false → (pureOp io.op).isSome = true ∧ ∀ j, j ∈ afterAny o → bl.getD j false = false) ∧
    (i ≠ k → bl.getD k false = true → (bl.getD i false = true → i < k → i ∈ cl.getD k []) ∧
      (bl.getD i false = false → (isCall (aOp (ckq ops m cl bl) m cl bl i io.op) = true → i ∈ cl.getD k []) ∧ (needsH (aOp (ckq ops m cl bl) m cl bl i io.op) = true → i ∈ cl.getD k [] ∨ growAt m k = true ∨ ckq ops m cl bl i = true))) := by
  have hi := (Array.getElem?_eq_some_iff.1 ho).1
  unfold mixOk at h
  have h1 := List.all_eq_true.1 h i (List.mem_range.2 hi)
  rw [ho, hio] at h1
  simp only [Bool.and_eq_true] at h1
  obtain ⟨h1, h2⟩ := h1
  have h2 := List.all_eq_true.1 h2 k (List.mem_range.2 hk)
  refine ⟨fun hb => ?_, fun hne hbk => ⟨fun hb hlt => ?_, fun hb => ⟨fun hc => ?_, fun hn => ?_⟩⟩⟩
  · rw [hb] at h1
    simp only [Bool.false_or, Bool.and_eq_true, List.all_eq_true, Bool.not_eq_true'] at h1
    exact h1
  all_goals
    have hik : (i == k) = false := by simpa using hne
    rw [hik, hbk, hb] at h2
    simp only [Bool.not_true, Bool.or_false, Bool.false_or, if_true, Bool.false_eq_true, if_false, Bool.or_eq_true, Bool.and_eq_true, Bool.not_eq_true', decide_eq_true_eq, List.contains_eq_mem] at h2
  · exact h2.resolve_left (by omega)
  · exact h2.1.resolve_left (by rw [hc]; simp)
  · rcases h2.2 with ((h3 | h3) | h3) | h3
    · rw [hn] at h3; cases h3
    · exact .inl h3
    · exact .inr (.inl h3)
    · exact .inr (.inr h3)

theorem aOp_cases {q : Nat → Bool} {m : List IOper} {cl : List (List Nat)} {bl : List Bool} {i : Nat} {op : IOp} (h : (pureOp op).isSome = true) :
    (pureOp op = some (aOp q m cl bl i op)) ∨ ∃ ag x, op = .load ag x ∧ aOp q m cl bl i op = .loadC ag x := by
  cases op <;> simp only [pureOp, Option.isSome_none, Option.isSome_some, Bool.false_eq_true] at h
  case load ag x =>
    by_cases hq : (safeAt m cl bl i || q i) = true
    · exact .inl (by show some (IOp.load ag x) = some (if _ then _ else _); rw [if_pos hq])
    · exact .inr ⟨ag, x, rfl, by show (if _ then _ else _) = _; rw [if_neg hq]⟩
  all_goals exact .inl rfl

theorem loadC_load {ag : Option Nat} {x : AV} {K : AV → Prop} (h : loadCW ag x K) : loadW ag x H K := by
  cases x <;> simp only [loadCW, loadW] at h ⊢ <;> first
    | exact h
    | exact h.elim

theorem aOp_opW {op p : IOp} (h : (pureOp op = some p) ∨ ∃ ag x, op = .load ag x ∧ p = .loadC ag x) {K : AV → List AObj → Nat → Prop} (hk : opW P p e H c K) : opW P op e H c K := by
  rcases h with h | ⟨ag, x, rfl, rfl⟩
  · exact pure_opW h hk
  · exact loadC_load hk
theorem aOp_pure {op p : IOp} (h : (pureOp op = some p) ∨ ∃ ag x, op = .load ag x ∧ p = .loadC ag x) : ∃ q, pureOp q = some p := by
  rcases h with h | ⟨ag, x, rfl, rfl⟩
  · exact ⟨op, h⟩
  · exact ⟨.loadC ag x, rfl⟩
theorem aOp_uses {op p : IOp} (h : (pureOp op = some p) ∨ ∃ ag x, op = .load ag x ∧ p = .loadC ag x) {u : Opd} (hu : u ∈ p.uses) : u ∈ op.all := by
  rcases h with h | ⟨ag, x, rfl, rfl⟩
  · cases op <;> simp only [pureOp] at h <;> first
      | (cases h; done)
      | (cases h; exact hu)
  · exact hu

section
variable {G0 : Gh} {H0 : List AObj} {w0 : World} {n : Nat}

/-- What of the effects is still to come. -/
def restB (C : Nat → List IOper) (n k : Nat) : List IOper := (List.range' k (n - k)).flatMap C
theorem restB_cons {C : Nat → List IOper} {n k : Nat} (h : k < n) : restB C n k = C k ++ restB C n (k + 1) := by
  unfold restB
  rw [show n - k = (n - (k + 1)) + 1 by omega, List.range'_succ, List.flatMap_cons]
theorem restB_end {C : Nat → List IOper} {n k : Nat} (h : n ≤ k) : restB C n k = [] := by
  unfold restB
  rw [show n - k = 0 by omega]; rfl
/-- What was loaded is there still. -/
def Stab (l : List IOper) (e : Env) (H : List AObj) : Prop := ∀ (ag : Option Nat) (t d : Nat), (⟨none, .chk ag (.t t) (.t d), none⟩ : IOper) ∈ l → loadW ag (e t) H fun v => v = e d
theorem chk_run : ∀ (l : List IOper), (∀ o, o ∈ l → ∃ ag t d, o = ⟨none, .chk ag (.t t) (.t d), none⟩) → ∀ (e : Env) (H : List AObj) (c : Nat) (K : Env → List AObj → Nat → Prop), opsW P l e H c K → Stab l e H ∧ K e H c := by
  intro l
  induction l with
  | nil => intro _ e H c K h; exact ⟨fun ag t d h => (by cases h), h⟩
  | cons o l ih =>
    intro hf e H c K h
    obtain ⟨ag, t, d, rfl⟩ := hf o (List.mem_cons_self ..)
    have h' : loadW ag (e t) H fun v => v = e d ∧ opsW P l e H c K := h
    obtain ⟨v, hv⟩ := det_load ag (e t) _ h'
    obtain ⟨h1, h2⟩ := (hv _).1 h'
    obtain ⟨q1, q2⟩ := ih (fun o ho => hf o (List.mem_cons_of_mem _ ho)) e H c K h2
    refine ⟨fun ag' t' d' hm => ?_, q2⟩
    rcases List.mem_cons.1 hm with hm | hm
    · cases hm; exact (hv _).2 h1
    · exact q1 ag' t' d' hm
theorem ckList_form {ops : Array Oper} {m : List IOper} {cl : List (List Nat)} {bl : List Bool} {k : Nat} : ∀ o, o ∈ ckList ops m cl bl k → ∃ ag t d, o = ⟨none, .chk ag (.t t) (.t d), none⟩ := fun o ho => by
  unfold ckList at ho
  obtain ⟨i, _, hi⟩ := List.mem_filterMap.1 ho
  split at hi
  · cases hi
  · obtain ⟨⟨ag, t, d⟩, _, rfl⟩ := Option.map_eq_some_iff.1 hi
    exact ⟨ag, t, d, rfl⟩
theorem ckd_spec {ops : Array Oper} {m : List IOper} {cl : List (List Nat)} {bl : List Bool} {i : Nat} {o : Oper} {io : IOper} (ho : ops[i]? = some o) (hio : m[i]? = some io) (h : ckq ops m cl bl i = true) :
    ∃ ag t d, ckd ops m cl bl i = some (ag, t, d) ∧ io = ⟨some d, .load ag (.t t), none⟩ ∧ ((∃ j io', j ∈ afterAny o ∧ m[j]? = some io' ∧ io'.dst = some t) ∨ ∀ (j : Nat) (io' : IOper), m[j]? = some io' → io'.dst ≠ some t) := by
  unfold ckq at h
  obtain ⟨⟨ag, t, d⟩, hc⟩ := Option.isSome_iff_exists.1 h
  refine ⟨ag, t, d, hc, ?_⟩
  unfold ckd at hc
  rw [ho, hio] at hc
  split at hc
  · cases hc
  · split at hc
    · rename_i o' d' ag' t' e1 e2
      cases e1; cases e2
      split at hc
      · rename_i hany
        cases hc
        refine ⟨rfl, ?_⟩
        rw [Bool.or_eq_true] at hany
        rcases hany with hany | hany
        · obtain ⟨j, hj, hm⟩ := List.any_eq_true.1 hany
          split at hm
          · rename_i y e3
            exact .inl ⟨j, _, hj, e3, by simpa using hm⟩
          · cases hm
        · refine .inr fun j io' hj hd => ?_
          have : (m.any fun y => y.dst == some t) = true := List.any_eq_true.2 ⟨io', List.mem_of_getElem? hj, by rw [hd]; simp⟩
          rw [this] at hany
          cases hany
      · cases hc
    · cases hc
theorem ckList_mem {ops : Array Oper} {m : List IOper} {cl : List (List Nat)} {bl : List Bool} {i k : Nat} {ag : Option Nat} {t d : Nat} (hi : i < m.length) (h : ckd ops m cl bl i = some (ag, t, d)) (hk : i ∉ cl.getD k []) : (⟨none, .chk ag (.t t) (.t d), none⟩ : IOper) ∈ ckList ops m cl bl k := by
  unfold ckList
  refine List.mem_filterMap.2 ⟨i, List.mem_range.2 hi, ?_⟩
  rw [if_neg (by simpa using hk), h]
  rfl

/-- Where a run has come to. mA: those that only compute, mB: those with an effect, each in its place. -/
structure MidE (P : Program) (ops : Array Oper) (mA : List IOper) (C ck : Nat → List IOper) (b : Nat → Bool) (m : List IOper) (e eA : Env) (V : Nat → AV) (H : List AObj) (c : Nat) (Q : Env → List AObj → Nat → Prop) (listed : Array Bool) (e' : Env) (H' : List AObj) (c' k : Nat) (eB : Env) : Prop where
  size : listed.size = ops.size
  closed : ∀ (j : Nat) (o : Oper), ops[j]? = some o → listed.getD j false = true → ∀ k, k ∈ afterAny o → listed.getD k false = true
  pre : ∀ j, j < ops.size → b j = true → (listed.getD j false = true ↔ j < k)
  somB : k ≠ 0 → ∃ i, k = i + 1 ∧ i < ops.size ∧ b i = true
  yes : ∀ (j : Nat) (io : IOper) (t : Nat), mA[j]? = some io → listed.getD j false = true → io.dst = some t → e' t = V j
  agree : ∀ t, (∀ (j : Nat) (io : IOper), mA[j]? = some io → io.dst ≠ some t) → e' t = eB t
  aB : ∀ (j : Nat) (io : IOper) (t : Nat), mA[j]? = some io → io.dst = some t → eB t = V j
  no : ∀ t, (∀ (j : Nat) (o : Oper), ops[j]? = some o → listed.getD j false = true → o.dst ≠ some t) → e' t = e t
  nonB : k = 0 → H' = H ∧ eB = eA ∧ c ≤ c' ∧ (c' = c ∨ Calling mA e V)
  grown : (∀ j, j < ops.size → b j = true → listed.getD j false = true → growAt m j = true) → ∃ M, H' = H ++ M
  obl : opsW P (restB C ops.size k) eB H' c' Q
  st : ∀ i0, k = i0 + 1 → Stab (ck i0) eB H'

theorem any_soundE (hH0 : ∀ t, t ∈ tags H0 → t < G0.c) {ops : Array Oper} {m : List IOper} (hlen : m.length = ops.size)
    (hm : ∀ (i : Nat) (x : Oper), ops[i]? = some x → ∃ io, m[i]? = some io ∧ compOper P n ops x = some io) (hd : drawOk ops = true) {bl : List Bool}
    (hok : mixOk ops m (clos ops m.length) bl = true) {mA : List IOper} {C : Nat → List IOper} (hmA : mA = (List.range m.length).map (mixA ops m (clos ops m.length) bl)) (hC : C = mixC ops m (clos ops m.length) bl) {V : Nat → AV} {Q : Post}
    (hV : ∀ i io, mA[i]? = some io → YV P H io (envN e mA V i) (V i)) (hK : ∀ c', (c' = c ∨ (Calling mA e V ∧ c ≤ c')) → opsW P (restB C ops.size 0) (envN e mA V mA.length) H c' (Q .normal)) :
    ∀ (fuel : Nat) (listed : Array Bool) (e' : Env) (H' : List AObj) (c' k : Nat) (eB : Env) (a : Act) (w : World), MidE P ops mA C (ckList ops m (clos ops m.length) bl) (fun i => bl.getD i false) m e (envN e mA V mA.length) V H c (Q .normal) listed e' H' c' k eB →
      (List.range ops.size).countP (fun j => !listed.getD j false) ≤ fuel → St G0 H0 w0 n e' H' c' a w → wpAny P .any ops (Lift G0 H0 w0 n Q) fuel listed a w := by
  have hAi : ∀ i, i < ops.size → mA[i]? = some (mixA ops m (clos ops m.length) bl i) := fun i hi => by
    rw [hmA, List.getElem?_map, List.getElem?_range (by omega)]; rfl
  have hAlen : mA.length = ops.size := by rw [hmA]; simp [hlen]
  have dstA : ∀ (j : Nat) (y : IOper) (t : Nat), mA[j]? = some y → y.dst = some t → ∃ o, ops[j]? = some o ∧ o.dst = some t ∧ bl.getD j false = false := fun j y t hy ht => by
    have hj : j < ops.size := by have := (List.getElem?_eq_some_iff.1 hy).1; omega
    rw [hAi j hj] at hy; cases hy
    obtain ⟨io, h1, h2⟩ := hm j ops[j] (Array.getElem?_eq_getElem hj)
    unfold mixA at ht
    split at ht
    · cases ht
    · rename_i hb
      rw [h1] at ht
      exact ⟨ops[j], Array.getElem?_eq_getElem hj, (compOper_spec h2).2.2.1 ▸ ht, by simpa using hb⟩
  have dstA' : ∀ (j : Nat) (o : Oper) (t : Nat), ops[j]? = some o → o.dst = some t → bl.getD j false = false → ∃ y, mA[j]? = some y ∧ y.dst = some t := fun j o t ho ht hb => by
    have hj := (Array.getElem?_eq_some_iff.1 ho).1
    obtain ⟨io, h1, h2⟩ := hm j o ho
    refine ⟨_, hAi j hj, ?_⟩
    unfold mixA
    rw [hb, h1]
    simp only [Bool.false_eq_true, if_false]
    rw [(compOper_spec h2).2.2.1]; exact ht
  have uniqO : ∀ (i j : Nat) (x y : Oper) (d : Nat), ops[i]? = some x → ops[j]? = some y → x.dst = some d → y.dst = some d → i = j := fun i j x y d h1 h2 h3 h4 => (drawOk_spec hd h1 h2).2.1 d h3 h4
  have uniq : ∀ (i j : Nat) (x y : IOper) (d : Nat), mA[i]? = some x → mA[j]? = some y → x.dst = some d → y.dst = some d → i = j := fun i j x y d h1 h2 h3 h4 => by
    obtain ⟨p, q1, q2, _⟩ := dstA i x d h1 h3
    obtain ⟨r, s1, s2, _⟩ := dstA j y d h2 h4
    exact uniqO i j p r d q1 s1 q2 s2
  have skipB : ∀ (d k : Nat) (eB : Env) (H' : List AObj) (c' : Nat), k + d ≤ ops.size → (∀ j, k ≤ j → j < k + d → bl.getD j false = false) → opsW P (restB C ops.size k) eB H' c' (Q .normal) → opsW P (restB C ops.size (k + d)) eB H' c' (Q .normal) := fun d => by
    induction d with
    | zero => intro k eB H' c' _ _ h; exact h
    | succ d ih =>
      intro k eB H' c' hle hb h
      have e2 : C k = [nopO] := by rw [hC]; unfold mixC; rw [hb k (Nat.le_refl _) (by omega)]; rfl
      rw [restB_cons (by omega), e2, List.singleton_append, opsW_nop] at h
      have := ih (k + 1) eB H' c' (by omega) (fun j h1 h2 => hb j (by omega) (by omega)) h
      rwa [show k + (d + 1) = k + 1 + d by omega]
  have last : ∀ (listed : Array Bool) (e' : Env) (H' : List AObj) (c' k : Nat) (eB : Env) (a : Act) (w : World), MidE P ops mA C (ckList ops m (clos ops m.length) bl) (fun i => bl.getD i false) m e (envN e mA V mA.length) V H c (Q .normal) listed e' H' c' k eB →
      St G0 H0 w0 n e' H' c' a w → Region.ready .any ops listed = [] → Lift G0 H0 w0 n Q .normal a w := fun listed e' H' c' k eB a w M hs hr => by
    have all : ∀ j, j < ops.size → listed.getD j false = true := fun j => by
      induction j using Nat.strongRecOn with
      | _ j ih =>
        intro hj
        cases hl : listed.getD j false with
        | true => rfl
        | false =>
          have hjs : j < listed.size := M.size ▸ hj
          have : j ∈ Region.ready .any ops listed := by
            rw [mem_ready]
            refine ⟨by simpa [hjs] using hl, ops[j], Array.getElem?_eq_getElem hj, fun ed hed hb => ?_⟩
            have hmem : ed.on ∈ afterAny ops[j] := by
              unfold afterAny
              exact List.mem_map.2 ⟨ed, List.mem_filter.2 ⟨by simpa using hed, hb⟩, rfl⟩
            have hlt := (drawOk_spec hd (Array.getElem?_eq_getElem hj) (Array.getElem?_eq_getElem hj)).1 _ hmem
            exact ih _ hlt (by omega)
          rw [hr] at this
          cases this
    have he : e' = eB := funext fun t => by
      by_cases hx : ∃ (j : Nat) (io : IOper), mA[j]? = some io ∧ io.dst = some t
      · obtain ⟨j, io, hj, hio⟩ := hx
        have hl := (List.getElem?_eq_some_iff.1 hj).1
        rw [M.yes j io t hj (all j (by omega)) hio, M.aB j io t hj hio]
      · exact M.agree t fun j io hj hio => hx ⟨j, io, hj, hio⟩
    have hks : k ≤ ops.size := by
      by_cases hk : k = 0
      · omega
      · obtain ⟨i, h1, h2, _⟩ := M.somB hk; omega
    have := skipB (ops.size - k) k eB H' c' (by omega) (fun j h1 h2 => by
      cases hb : bl.getD j false with
      | false => rfl
      | true =>
        have := (M.pre j (by omega) hb).1 (all j (by omega))
        omega) M.obl
    rw [restB_end (by omega)] at this
    subst he
    exact ⟨_, H', c', this, hs⟩
  intro fuel
  induction fuel with
  | zero =>
    intro listed e' H' c' k eB a w M hc hs
    have hr : Region.ready .any ops listed = [] := by
      refine List.eq_nil_iff_forall_not_mem.2 fun j hj => ?_
      rw [mem_ready] at hj
      obtain ⟨h0, o, ho, _⟩ := hj
      have hjs := (Array.getElem?_eq_some_iff.1 ho).1
      have hjs' : j < listed.size := M.size ▸ hjs
      have := List.countP_eq_zero.1 (Nat.le_zero.1 hc) j (List.mem_range.2 hjs)
      simp [hjs'] at h0 this
      rw [h0] at this; cases this
    exact ⟨hr, last listed e' H' c' k eB a w M hs hr⟩
  | succ fuel ih =>
    intro listed e' H' c' k eB a w M hc hs
    refine ⟨last listed e' H' c' k eB a w M hs, fun i hi => ?_⟩
    rw [mem_ready] at hi
    obtain ⟨h0, o, ho, hready⟩ := hi
    have his := (Array.getElem?_eq_some_iff.1 ho).1
    have hils : i < listed.size := M.size ▸ his
    have hnl : listed.getD i false = false := by simpa [hils] using h0
    have hafter : ∀ k, k ∈ afterAny o → listed.getD k false = true := fun k hk => by
      unfold afterAny at hk
      obtain ⟨ed, hed, rfl⟩ := List.mem_map.1 hk
      obtain ⟨hed1, hed2⟩ := List.mem_filter.1 hed
      exact hready ed (by simpa using hed1) hed2
    obtain ⟨io, hio, hco⟩ := hm i o ho
    obtain ⟨c1, c2, c3, c4⟩ := compOper_spec hco
    have guardIn : ∀ g want, io.guard = some (g, want) → g ∈ o.looksAt ops := fun g want hgw => by
      have c2' := c2
      unfold compGuard at c2'
      unfold Oper.looksAt
      cases hog : o.guard with
      | none => rw [hog] at c2'; simp only [Option.some.injEq] at c2'; rw [← c2'] at hgw; cases hgw
      | some p =>
        obtain ⟨j, wt⟩ := p
        rw [hog] at c2'
        simp only at c2'
        split at c2'
        · rename_i d hdj
          simp only [Option.some.injEq] at c2'
          rw [← c2'] at hgw
          cases hgw
          refine List.mem_append_right _ ?_
          simp [hdj]
        · cases c2'
    have count : (List.range ops.size).countP (fun j => !(listed.setIfInBounds i true).getD j false) ≤ fuel := by
      have hlt : (List.range ops.size).countP (fun j => !(listed.setIfInBounds i true).getD j false) < (List.range ops.size).countP (fun j => !listed.getD j false) := by
        have key : ∀ (l : List Nat), i ∈ l → l.countP (fun j => !(listed.setIfInBounds i true).getD j false) < l.countP (fun j => !listed.getD j false) := by
          have mono : ∀ (l : List Nat), l.countP (fun j => !(listed.setIfInBounds i true).getD j false) ≤ l.countP (fun j => !listed.getD j false) := fun l =>
            List.countP_mono_left fun j _ h => by
              cases hl : listed.getD j false with
              | false => rfl
              | true => rw [getD_set_true hl] at h; cases h
          intro l hl
          induction l with
          | nil => cases hl
          | cons x l ihl =>
            simp only [List.countP_cons]
            by_cases hx : x = i
            · subst hx
              have := mono l
              have e1 : (listed.setIfInBounds x true).getD x false = true := by simp [hils]
              rw [e1, hnl]
              simp only [Bool.not_true, Bool.false_eq_true, if_false, Bool.not_false, if_true]
              omega
            · have h1 := ihl ((List.mem_cons.1 hl).resolve_left (Ne.symm hx))
              rw [getD_set_ne false (Ne.symm hx)]
              omega
        exact key _ (List.mem_range.2 his)
      omega
    have other : ∀ j, j ≠ i → (listed.setIfInBounds i true).getD j false = listed.getD j false := fun j hne => getD_set_ne false (Ne.symm hne)
    have closed' : ∀ (j : Nat) (y : Oper), ops[j]? = some y → (listed.setIfInBounds i true).getD j false = true → ∀ k, k ∈ afterAny y → (listed.setIfInBounds i true).getD k false = true := fun j y hj hl k hk => by
      refine getD_set_true ?_
      by_cases hji : j = i
      · subst hji; rw [ho] at hj; cases hj; exact hafter k hk
      · exact M.closed j y hj (by rw [other j hji] at hl; exact hl) k hk
    have iin : (listed.setIfInBounds i true).getD i false = true := by simp [hils]
    obtain ⟨G, rfl, h1, h2, h3, I, x⟩ := hs
    have hw := wanted_of c2 h3
    cases hb : bl.getD i false with
    | false =>
      obtain ⟨hb1, hnb⟩ := (mixOk_spec hok ho hio his).1 hb
      have hcs := aOp_cases (q := ckq ops m (clos ops m.length) bl) (m := m) (cl := clos ops m.length) (bl := bl) (i := i) hb1
      generalize hp : aOp (ckq ops m (clos ops m.length) bl) m (clos ops m.length) bl i io.op = p at hcs
      have hAio : mA[i]? = some { io with op := p } := by
        rw [hAi i his]; unfold mixA; rw [hb, hio, ← hp]; simp
      have agree : ∀ t, t ∈ o.looksAt ops → e' t = envN e mA V i t := fun t ht => by
        obtain ⟨g1, g2⟩ := envN_dst mA e V uniq i (by omega) t
        by_cases hx : ∃ (j : Nat) (x : Oper), ops[j]? = some x ∧ x.dst = some t
        · obtain ⟨j, x, hj, hxt⟩ := hx
          have nol : listed.getD j false = false → e' t = e t := fun hlj => M.no t fun k z hz hlk hd => by rw [uniqO k j z x t hz hj hd hxt, hlj] at hlk; cases hlk
          have ne : ¬ j < i → envN e mA V i t = e t := fun hn => g2 fun k y hk hy hd => by
            obtain ⟨z, q1, q2, q3⟩ := dstA k y t hy hd
            have := uniqO k j z x t q1 hj q2 hxt
            omega
          rcases (drawOk_spec hd ho hj).2.2 t hxt ht with ⟨k1, k2⟩ | k1 | ⟨k1, k2⟩
          · obtain ⟨y, hy, hyd⟩ := dstA' j x t hj hxt (hnb j k2)
            rw [g1 j y k1 hy hyd, M.yes j y t hy (hafter j k2) hyd]
          · rw [ne (by omega), nol (k1 ▸ hnl)]
          · rw [ne (by omega), nol ?_]
            cases hlj : listed.getD j false with
            | false => rfl
            | true => rw [M.closed j x hj hlj i k2] at hnl; cases hnl
        · rw [g2 fun k y _ hy hd => by
            obtain ⟨z, q1, q2, _⟩ := dstA k y t hy hd
            exact hx ⟨k, z, q1, q2⟩]
          exact M.no t fun k z hz _ hd => hx ⟨k, z, hz, hd⟩
      have bne : ∀ j, bl.getD j false = true → j ≠ i := fun j hj h => by rw [h, hb] at hj; cases hj
      have mid : ∀ c'', G.c ≤ c'' → (c'' = G.c ∨ (k = 0 ∧ Calling mA e V)) → MidE P ops mA C (ckList ops m (clos ops m.length) bl) (fun i => bl.getD i false) m e (envN e mA V mA.length) V H c (Q .normal) (listed.setIfInBounds i true) (put e' o.dst (V i)) H' c'' k eB := fun c'' hle hsame => by
        refine ⟨by simp [M.size], closed', fun j hj hbj => ?_, M.somB, fun j y t hj hl hy => ?_, fun t hn => ?_, M.aB, fun t hn => ?_, fun hk => ?_, fun hg => M.grown fun j hj hbj hl => hg j hj hbj (getD_set_true hl), ?_, M.st⟩
        · rw [other j (bne j hbj)]; exact M.pre j hj hbj
        · by_cases hji : j = i
          · subst hji
            rw [hAio] at hj; cases hj
            rw [← c3, show io.dst = some t from hy]; show upd e' t (V j) t = V j; rw [upd_same]
          · rw [other j hji] at hl
            cases hdd : o.dst with
            | none => exact M.yes j y t hj hl hy
            | some t' =>
              obtain ⟨z, q1, q2, _⟩ := dstA j y t hj hy
              show upd e' t' (V i) t = V j
              rw [upd_ne _ _ _ fun h => hji (uniqO j i z o t q1 ho q2 (by rw [hdd, h]))]
              exact M.yes j y t hj hl hy
        · cases hdd : o.dst with
          | none => exact M.agree t hn
          | some t' =>
            show upd e' t' (V i) t = eB t
            rw [upd_ne _ _ _ fun h => hn i _ hAio (by rw [h, ← hdd]; exact c3)]
            exact M.agree t hn
        · have hno : e' t = e t := M.no t fun j y hj hl => hn j y hj (getD_set_true hl)
          cases hdd : o.dst with
          | none => exact hno
          | some t' =>
            show upd e' t' (V i) t = e t
            rw [upd_ne _ _ _ fun h => hn i o ho iin (by rw [h]; exact hdd)]
            exact hno
        · obtain ⟨q1, q2, q3, q4⟩ := M.nonB hk
          refine ⟨q1, q2, Nat.le_trans q3 hle, ?_⟩
          rcases hsame with h | ⟨_, h⟩
          · rw [h]; exact q4
          · exact .inr h
        · rcases hsame with h | ⟨hk, h⟩
          · rw [h]; exact M.obl
          · obtain ⟨q1, q2, q3, q4⟩ := M.nonB hk
            rw [hk, q1, q2]
            exact hK c'' (.inr ⟨h, Nat.le_trans q3 hle⟩)
      have notIn : ∀ j, j < ops.size → bl.getD j false = true → listed.getD j false = true → i ∉ (clos ops m.length).getD j [] := fun j hj hbj hlj hm => by
        have := clos_spec (L := fun j => listed.getD j false = true) (fun j o ho hl k hk => M.closed j o ho hl k hk) _ _ _ hm hlj
        rw [hnl] at this; cases this
      have run : Gives P p (envN e mA V i) H (V i) → (isCall p = true → Calling mA e V) → o.wp P a w (wpAny P .any ops (Lift G0 H0 w0 n Q) fuel (listed.setIfInBounds i true)) (Lift G0 H0 w0 n Q) := fun hg hcall => by
        have hk0 : isCall p = true → k = 0 := fun hc => by
          by_cases hk : k = 0
          · exact hk
          · obtain ⟨i0, r1, r2, r3⟩ := M.somB hk
            have hl0 : listed.getD i0 false = true := (M.pre i0 r2 r3).2 (by omega)
            exact absurd (((mixOk_spec hok ho hio r2).2 (Ne.symm (bne i0 r3)) r3).2 hb |>.1 (by rw [hp]; exact hc)) (notIn i0 r2 r3 hl0)
        obtain ⟨q, hq⟩ := aOp_pure hcs
        have hgiv : Gives P p (envN e mA V i) H' (V i) := by
          cases hc : isCall p with
          | true => rw [(M.nonB (hk0 hc)).1]; exact hg
          | false =>
            cases hck : ckq ops m (clos ops m.length) bl i with
            | false => exact gives_rel hq hc hg fun hn => M.grown fun j hj hbj hlj => ((((mixOk_spec hok ho hio hj).2 (Ne.symm (bne j hbj)) hbj).2 hb |>.2 (by rw [hp]; exact hn)).resolve_left (notIn j hj hbj hlj)).resolve_right (by rw [hck]; simp)
            | true =>
              by_cases hk : k = 0
              · rw [(M.nonB hk).1]; exact hg
              obtain ⟨ag, t, d, hcd, hioe, hsp⟩ := ckd_spec ho hio hck
              obtain ⟨i0, r1, r2, r3⟩ := M.somB hk
              have hl0 : listed.getD i0 false = true := (M.pre i0 r2 r3).2 (by omega)
              have hst := M.st i0 r1 ag t d (ckList_mem (by omega) hcd (notIn i0 r2 r3 hl0))
              have hpl : p = .load ag (.t t) := by
                rw [← hp, hioe]; unfold aOp; simp only; rw [hck, Bool.or_true, if_pos rfl]
              have hdd : eB d = V i := M.aB i _ d hAio (by rw [hioe])
              have hagr : e' t = envN e mA V i t := by
                refine agree t ?_
                have := compOp_all c1 (t := t) (by rw [hioe]; simp [IOp.all, IOp.uses])
                unfold Oper.looksAt
                exact List.mem_append_left _ (List.mem_filterMap.2 ⟨.tmp t, this, rfl⟩)
              have ht : eB t = envN e mA V i t := by
                rcases hsp with ⟨j0, io0, hj0, hm0, hd0⟩ | hfree
                · have hj0s : j0 < ops.size := by
                    have := (List.getElem?_eq_some_iff.1 hm0).1; omega
                  have hod0 : (ops[j0]).dst = some t := by
                    obtain ⟨io1, s1, s2⟩ := hm j0 ops[j0] (Array.getElem?_eq_getElem hj0s)
                    rw [hm0] at s1; cases s1
                    rw [← (compOper_spec s2).2.2.1]; exact hd0
                  obtain ⟨y, hy, hyd⟩ := dstA' j0 _ t (Array.getElem?_eq_getElem hj0s) hod0 (hnb j0 hj0)
                  rw [M.aB j0 y t hy hyd, ← M.yes j0 y t hy (hafter j0 hj0) hyd]
                  exact hagr
                · rw [← M.agree t fun j y hy hd => ?_]
                  · exact hagr
                  · obtain ⟨z, q1, q2, q3⟩ := dstA j y t hy hd
                    obtain ⟨io1, s1, s2⟩ := hm j z q1
                    exact hfree j io1 s1 (by rw [(compOper_spec s2).2.2.1]; exact q2)
              rw [hpl]
              intro c0
              obtain ⟨v, hv⟩ := det_load ag (eB t) _ hst
              have hvv := (hv _).1 hst
              show loadW ag (envN e mA V i t) H' _
              rw [← ht]
              exact (hv _).2 ⟨hvv.trans hdd, rfl, Nat.le_refl _, fun _ => rfl⟩
        have k1 := hgiv G.c
        rw [← opW_congr (e := e') hq fun u hu => ?_] at k1
        · refine op_sound rfl c1 I h3 (aOp_opW hcs k1) fun v w' ⟨av, H'', G', ⟨k2, k3, k4, k5⟩, x', I', r⟩ => ?_
          subst k2; subst k3
          refine ih _ (put e' o.dst (V i)) _ G'.c k eB _ _ (mid G'.c k4 ?_) count ?_
          · cases hcl : isCall p with
            | false => exact .inl (k5 hcl)
            | true => exact .inr ⟨hk0 hcl, hcall hcl⟩
          · exact St.step h1 h2 h3 I x hH0 c4 x' I' r
        · cases u with
          | c v => rfl
          | t t =>
            refine agree t ?_
            have := compOp_all c1 (aOp_uses hcs hu)
            unfold Oper.looksAt
            exact List.mem_append_left _ (List.mem_filterMap.2 ⟨.tmp t, this, rfl⟩)
      have skip : V i = .und → wpAny P .any ops (Lift G0 H0 w0 n Q) fuel (listed.setIfInBounds i true) (a.put o.dst undef) w := fun hv => by
        refine ih _ (put e' o.dst (V i)) _ G.c k eB _ _ (mid G.c (Nat.le_refl _) (.inl rfl)) count ?_
        rw [hv]
        exact St.step h1 h2 h3 I x hH0 c4 (Ext.refl _ _ _) I .und
      have hy := hV i _ hAio
      unfold YV at hy
      dsimp only at hy
      unfold wpOp
      rw [ho]
      simp only
      cases hg : io.guard with
      | none =>
        rw [hg] at hw hy
        simp only [WantSpec] at hw
        rw [hw, if_pos rfl]
        exact .inl (run hy fun hcl => ⟨i, _, hAio, hcl, by unfold Runs; dsimp only; rw [hg]; trivial⟩)
      | some gw =>
        obtain ⟨g, want⟩ := gw
        rw [hg] at hw hy
        simp only [WantSpec] at hw
        simp only at hy
        rw [← agree g (guardIn g want hg)] at hy
        rcases hy with ⟨hy1, hy2⟩ | ⟨hy1, hy2⟩
        · rw [hw.1 want hy1, beq_self_eq_true, if_pos rfl]
          refine .inl (run hy2 fun hcl => ⟨i, _, hAio, hcl, ?_⟩)
          unfold Runs
          dsimp only
          rw [hg]
          dsimp only
          rw [← agree g (guardIn g want hg)]
          exact hy1
        · have : Region.wanted o (yielded ops a.tmps) = false := by
            rcases hy1 with hy1 | ⟨b, hy1, hb⟩
            · exact hw.2 hy1
            · rw [hw.1 b hy1]; simpa using hb
          rw [this, if_neg (by simp)]
          exact skip hy2
    | true =>
      have hki : k ≤ i := by
        rcases Nat.lt_or_ge i k with h | h
        · rw [(M.pre i his hb).2 h] at hnl; cases hnl
        · exact h
      have allB : ∀ j, j < i → bl.getD j false = true → listed.getD j false = true := fun j hj hbj => by
        obtain ⟨ioj, q1, q2⟩ := hm j ops[j] (Array.getElem?_eq_getElem (by omega))
        have hin := ((mixOk_spec hok (Array.getElem?_eq_getElem (by omega : j < ops.size)) q1 his).2 (by omega) hb).1 hbj hj
        have := clos_spec (L := fun x => listed.getD x false = true ∨ x = i) (fun j' o' ho' hl k' hk' => by
          rcases hl with hl | rfl
          · exact .inl (M.closed j' o' ho' hl k' hk')
          · rw [ho] at ho'; cases ho'; exact .inl (hafter k' hk')) _ _ _ hin (.inr rfl)
        exact this.resolve_right (by omega)
      have hobl := skipB (i - k) k eB H' G.c (by omega) (fun j g1 g2 => by
        cases hbj : bl.getD j false with
        | false => rfl
        | true =>
          have := (M.pre j (by omega) hbj).1 (allB j (by omega) hbj)
          omega) M.obl
      rw [show k + (i - k) = i by omega] at hobl
      have e2 : C i = io :: ckList ops m (clos ops m.length) bl i := by
        rw [hC]; unfold mixC; rw [hb]
        simp [List.getD_eq_getElem?_getD, hio]
      rw [restB_cons his, e2, List.cons_append] at hobl
      have agree : ∀ t, t ∈ o.looksAt ops → e' t = eB t := fun t ht => by
        by_cases hx : ∃ (j : Nat) (y : IOper), mA[j]? = some y ∧ y.dst = some t
        · obtain ⟨j, y, hj, hy⟩ := hx
          obtain ⟨z, q1, q2, q3⟩ := dstA j y t hj hy
          rcases (drawOk_spec hd ho q1).2.2 t q2 ht with ⟨k1, k2⟩ | k1 | ⟨k1, k2⟩
          · rw [M.yes j y t hj (hafter j k2) hy, M.aB j y t hj hy]
          · rw [k1, hb] at q3; cases q3
          · obtain ⟨ioj, r1, r2⟩ := hm j z q1
            rw [((mixOk_spec hok q1 r1 his).1 q3).2 i k2] at hb; cases hb
        · exact M.agree t fun j y hj hy => hx ⟨j, y, hj, hy⟩
      have adst : ∀ (j : Nat) (y : IOper) (t : Nat), mA[j]? = some y → y.dst = some t → o.dst ≠ some t := fun j y t hj hy hd' => by
        obtain ⟨z, q1, q2, q3⟩ := dstA j y t hj hy
        rw [uniqO j i z o t q1 ho q2 hd', hb] at q3; cases q3
      have keep : ∀ (f : Env) (v : AV) (t : Nat), o.dst ≠ some t → put f o.dst v t = f t := fun f v t hn => by
        cases hdd : o.dst with
        | none => rfl
        | some d => show upd f d v t = f t; exact upd_ne _ _ _ fun h => hn (by rw [hdd, h])
      have mid : ∀ v H'' c'', opsW P (ckList ops m (clos ops m.length) bl i ++ restB C ops.size (i + 1)) (put eB o.dst v) H'' c'' (Q .normal) → (growAt m i = true → ∃ M, H'' = H' ++ M) →
          MidE P ops mA C (ckList ops m (clos ops m.length) bl) (fun i => bl.getD i false) m e (envN e mA V mA.length) V H c (Q .normal) (listed.setIfInBounds i true) (put e' o.dst v) H'' c'' (i + 1) (put eB o.dst v) := fun v H'' c'' hob hgr => by
        rw [opsW_append] at hob
        obtain ⟨hst, hob⟩ := chk_run _ ckList_form _ _ _ _ hob
        refine ⟨by simp [M.size], closed', fun j hj hbj => ?_, fun _ => ⟨i, rfl, his, hb⟩, fun j y t hj hl hy => ?_, fun t hn => ?_, fun j y t hj hy => ?_, fun t hn => ?_, fun h => absurd h (by omega), fun hg => ?_, hob, fun i0 h => by (have : i0 = i := by omega); subst this; exact hst⟩
        · rcases Nat.lt_trichotomy j i with h | h | h
          · rw [other j (by omega)]; exact ⟨fun _ => by omega, fun _ => allB j h hbj⟩
          · subst h; exact ⟨fun _ => by omega, fun _ => iin⟩
          · rw [other j (by omega)]
            exact ⟨fun hl => by have := (M.pre j hj hbj).1 hl; omega, fun hl => by omega⟩
        · rw [keep _ _ _ (adst j y t hj hy)]
          have hji : j ≠ i := fun h => by
            obtain ⟨z, q1, q2, q3⟩ := dstA j y t hj hy
            rw [h, hb] at q3; cases q3
          rw [other j hji] at hl
          exact M.yes j y t hj hl hy
        · cases hdd : o.dst with
          | none => exact M.agree t hn
          | some d =>
            show upd e' d v t = upd eB d v t
            by_cases htd : t = d
            · subst htd; rw [upd_same, upd_same]
            · rw [upd_ne _ _ _ htd, upd_ne _ _ _ htd]; exact M.agree t hn
        · rw [keep _ _ _ (adst j y t hj hy)]; exact M.aB j y t hj hy
        · rw [keep _ _ _ (hn i o ho iin)]
          exact M.no t fun j y hj hl => hn j y hj (getD_set_true hl)
        · obtain ⟨M1, hM1⟩ := M.grown fun j hj hbj hl => hg j hj hbj (getD_set_true hl)
          obtain ⟨M2, hM2⟩ := hgr (hg i his hb iin)
          exact ⟨M1 ++ M2, by rw [hM2, hM1, List.append_assoc]⟩
      have fin : ∀ Kp : AV → List AObj → Nat → Prop, opW P io.op eB H' G.c Kp → (∀ av H'' c'', Kp av H'' c'' → opsW P (ckList ops m (clos ops m.length) bl i ++ restB C ops.size (i + 1)) (put eB o.dst av) H'' c'' (Q .normal) ∧ (growAt m i = true → ∃ M, H'' = H' ++ M)) →
          o.wp P a w (wpAny P .any ops (Lift G0 H0 w0 n Q) fuel (listed.setIfInBounds i true)) (Lift G0 H0 w0 n Q) := fun Kp k1 k2 => by
        rw [← opW_all (e := e') io.op fun u hu => ?_] at k1
        · refine op_sound rfl c1 I h3 k1 fun v w' ⟨av, H'', G', kp, x', I', r⟩ => ?_
          obtain ⟨q1, q2⟩ := k2 _ _ _ kp
          exact ih _ _ _ G'.c (i + 1) _ _ _ (mid av H'' G'.c q1 q2) count (St.step h1 h2 h3 I x hH0 c4 x' I' r)
        · cases u with
          | c v => rfl
          | t t =>
            refine agree t ?_
            have := compOp_all c1 hu
            unfold Oper.looksAt
            exact List.mem_append_left _ (List.mem_filterMap.2 ⟨.tmp t, this, rfl⟩)
      have run : opW P io.op eB H' G.c (fun v H'' c'' => opsW P (ckList ops m (clos ops m.length) bl i ++ restB C ops.size (i + 1)) (put eB io.dst v) H'' c'' (Q .normal)) → o.wp P a w (wpAny P .any ops (Lift G0 H0 w0 n Q) fuel (listed.setIfInBounds i true)) (Lift G0 H0 w0 n Q) := fun k1 => by
        rw [c3] at k1
        cases hgr : growAt m i with
        | true =>
          have hgo : growOp io.op = true := by unfold growAt at hgr; rw [hio] at hgr; exact hgr
          exact fin _ (opW_grow hgo k1) fun av H'' c'' h => ⟨h.1, fun _ => h.2⟩
        | false => exact fin _ k1 fun av H'' c'' h => ⟨h, fun hx => by rw [hgr] at hx; cases hx⟩
      have skip : opsW P (ckList ops m (clos ops m.length) bl i ++ restB C ops.size (i + 1)) (put eB io.dst .und) H' G.c (Q .normal) → wpAny P .any ops (Lift G0 H0 w0 n Q) fuel (listed.setIfInBounds i true) (a.put o.dst undef) w := fun hk => by
        rw [c3] at hk
        exact ih _ _ _ G.c (i + 1) _ _ _ (mid .und H' G.c hk fun _ => ⟨[], by simp⟩) count (St.step h1 h2 h3 I x hH0 c4 (Ext.refl _ _ _) I .und)
      simp only [opsW] at hobl
      unfold wpOp
      rw [ho]
      simp only
      cases hg : io.guard with
      | none =>
        rw [hg] at hw hobl
        simp only [WantSpec] at hw
        rw [hw, if_pos rfl]
        exact .inl (run hobl)
      | some gw =>
        obtain ⟨g, want⟩ := gw
        rw [hg] at hw hobl
        simp only [WantSpec] at hw
        dsimp only at hobl
        rw [← agree g (guardIn g want hg)] at hobl
        cases hed : e' g <;> rw [hed] at hobl <;> simp only [guardW] at hobl <;> first
          | exact hobl.elim
          | skip
        · rename_i b
          rw [hw.1 b hed]
          by_cases hbw : b = want
          · subst hbw
            rw [beq_self_eq_true, if_pos rfl]
            exact .inl (run (hobl.1 rfl))
          · rw [if_neg (by simpa using hbw)]
            exact skip (hobl.2 hbw)
        · rw [hw.2 hed, if_neg (by simp)]
          exact skip hobl

theorem draw_soundE (hH0 : ∀ t, t ∈ tags H0 → t < G0.c) {ops : Array Oper} {m : List IOper} (hm : ops.toList.mapM (compOper P n ops) = some m) (hd : drawOk ops = true) (hf : P.follows .mixedOrders = true)
    {bl : List Bool} (hok : mixOk ops m (clos ops m.length) bl = true) {Q : Post} {id : Nat} {a : Act} {w : World} (hs : St G0 H0 w0 n e H c a w) (hk : opsW P (mixList ops m (clos ops m.length) bl) e H c (Q .normal)) :
    (Code.region id ops true).wp P (Lift G0 H0 w0 n Q) a w := by
  obtain ⟨hl, hg⟩ := mapM_get _ _ hm
  have hlen : m.length = ops.size := by simpa using hl
  have hm' : ∀ (i : Nat) (x : Oper), ops[i]? = some x → ∃ io, m[i]? = some io ∧ compOper P n ops x = some io := fun i x hx => hg i x (by simpa using hx)
  have hp : ∀ io, io ∈ (List.range m.length).map (mixA ops m (clos ops m.length) bl) → ∃ op, pureOp op = some io.op := fun io hio => by
    obtain ⟨i, hi, rfl⟩ := List.mem_map.1 hio
    have hi := List.mem_range.1 hi
    unfold mixA
    cases hb : bl.getD i false with
    | true => exact ⟨.mv (.c .und), rfl⟩
    | false =>
      have hmi : m[i]? = some m[i] := List.getElem?_eq_getElem hi
      rw [hmi]
      have his : i < ops.size := by omega
      exact aOp_pure (aOp_cases ((mixOk_spec (k := i) hok (Array.getElem?_eq_getElem his) hmi his).1 hb).1)
  unfold mixList at hk
  rw [opsW_filter, opsW_append] at hk
  obtain ⟨V, q1, q2⟩ := chain_of _ hp e (· = c) c _ rfl (fun c' h => Nat.le_of_eq h.symm) fun c' h => by rw [h]; exact hk
  have hR : restB (mixC ops m (clos ops m.length) bl) ops.size 0 = (List.range m.length).flatMap (mixC ops m (clos ops m.length) bl) := by
    unfold restB; rw [hlen, Nat.sub_zero, List.range_eq_range']
  refine wp_region_any hf (any_soundE hH0 hlen hm' hd hok rfl rfl q1 (fun c' h => by rw [hR]; exact q2 c' h) ops.size _ e H c 0 (envN e ((List.range m.length).map (mixA ops m (clos ops m.length) bl)) V ((List.range m.length).map (mixA ops m (clos ops m.length) bl)).length) a _ ?_ ?_ ?_)
  · have hno : ∀ j, (Array.replicate ops.size false).getD j false = false := fun j => by
      by_cases hj : j < ops.size <;> simp [hj]
    have uniq : ∀ (i j : Nat) (x y : IOper) (d : Nat), ((List.range m.length).map (mixA ops m (clos ops m.length) bl))[i]? = some x → ((List.range m.length).map (mixA ops m (clos ops m.length) bl))[j]? = some y → x.dst = some d → y.dst = some d → i = j := fun i j x y d h1 h2 h3 h4 => by
      have key : ∀ (i : Nat) (x : IOper), ((List.range m.length).map (mixA ops m (clos ops m.length) bl))[i]? = some x → x.dst = some d → ∃ o, ops[i]? = some o ∧ o.dst = some d := fun i x hx hxd => by
        have hi : i < m.length := by have := (List.getElem?_eq_some_iff.1 hx).1; simpa using this
        rw [List.getElem?_map, List.getElem?_range hi] at hx
        cases hx
        unfold mixA at hxd
        split at hxd
        · cases hxd
        · obtain ⟨io, r1, r2⟩ := hm' i ops[i] (Array.getElem?_eq_getElem (by omega))
          rw [r1] at hxd
          exact ⟨ops[i], Array.getElem?_eq_getElem (by omega), (compOper_spec r2).2.2.1 ▸ hxd⟩
      obtain ⟨p, r1, r2⟩ := key i x h1 h3
      obtain ⟨q, s1, s2⟩ := key j y h2 h4
      exact (drawOk_spec hd r1 s1).2.1 d r2 s2
    have hdst := fun t => envN_dst _ e V uniq _ (Nat.le_refl _) t
    exact ⟨by simp, fun j o _ h => by (rw [hno] at h; cases h), fun j _ _ => by rw [hno]; exact ⟨fun h => (by cases h), fun h => (by omega)⟩, fun h => absurd rfl h, fun j io t _ h => by (rw [hno] at h; cases h),
      fun t hn => ((hdst t).2 fun j io _ hj => hn j io hj).symm, fun j io t hj ht => (hdst t).1 j io (List.getElem?_eq_some_iff.1 hj).1 hj ht, fun t _ => rfl, fun _ => ⟨rfl, rfl, Nat.le_refl _, .inl rfl⟩, fun _ => ⟨[], by simp⟩, by rw [hR]; exact q2 c (.inl rfl), fun i0 h => by omega⟩
  · exact Nat.le_trans (List.countP_le_length) (by simp)
  · obtain ⟨G, h0, h1, h2, h3, I, x⟩ := hs
    exact ⟨G, h0, h1, h2, h3, I, x.x, x.os, x.tape, x.output, x.size, x.frame, x.newm, x.oldH, x.oldF⟩

theorem draw_comp0 (hH0 : ∀ t, t ∈ tags H0 → t < G0.c) {ops : Array Oper} {ir : IR} (h : compDraw0 P n ops = some ir) (hd : drawOk ops = true) (hf : P.follows .mixedOrders = true)
    {Q : Post} {id : Nat} {a : Act} {w : World} (hs : St G0 H0 w0 n e H c a w) (hk : irW P ir Q e H c) : (Code.region id ops true).wp P (Lift G0 H0 w0 n Q) a w := by
  have pure : compPure P n ops = some ir → (Code.region id ops true).wp P (Lift G0 H0 w0 n Q) a w := fun h => by
    unfold compPure at h
    simp only [Option.map_eq_some_iff] at h
    obtain ⟨m, hm, hir⟩ := h
    split at hir
    · subst hir
      obtain ⟨R, hk⟩ := hk
      exact draw_soundD hH0 hm hd hf hs hk
    · subst hir
      exact draw_sound hH0 hm hd hf hs hk
  have mix : ∀ deep, compMix P n ops deep = some ir → (Code.region id ops true).wp P (Lift G0 H0 w0 n Q) a w := fun deep h => by
    unfold compMix at h
    simp only [Option.bind_eq_some_iff] at h
    obtain ⟨m, hm, h⟩ := h
    unfold mixIR at h
    split at h
    · rename_i hok
      cases h
      exact draw_soundE hH0 hm hd hf hok hs hk
    · cases h
  unfold compDraw0 at h
  split at h
  · simp only [Option.or_eq_some_iff] at h
    rcases h with h | ⟨_, h | ⟨_, h⟩⟩
    · exact mix _ h
    · exact pure h
    · exact mix _ h
  · split at h <;> simp only [Option.or_eq_some_iff] at h
    all_goals
      rcases h with h | ⟨_, h | ⟨_, h⟩⟩
      · exact pure h
      · exact mix _ h
      · exact mix _ h
theorem alts_mem {g : Nat → IR} {Q : Post} : ∀ {L : List Nat}, irW P (alts (L.map g)) Q e H c → ∀ i, i ∈ L → irW P (g i) Q e H c
  | [], _, i, hi => by cases hi
  | [x], h, i, hi => by
    have : i = x := by simpa using hi
    subst this; exact h
  | x :: y :: L, h, i, hi => by
    have h : irW P (g x) Q e H c ∧ irW P (alts ((y :: L).map g)) Q e H c := h
    rcases List.mem_cons.1 hi with rfl | hi
    · exact h.1
    · exact alts_mem h.2 i hi
theorem count_drop {listed : Array Bool} {n i fuel : Nat} (hsz : listed.size = n) (his : i < n) (hnl : listed.getD i false = false) (hc : (List.range n).countP (fun j => !listed.getD j false) ≤ fuel + 1) :
    (List.range n).countP (fun j => !(listed.setIfInBounds i true).getD j false) ≤ fuel := by
  have hils : i < listed.size := by omega
  have key : ∀ (l : List Nat), i ∈ l → l.countP (fun j => !(listed.setIfInBounds i true).getD j false) < l.countP (fun j => !listed.getD j false) := by
    have mono : ∀ (l : List Nat), l.countP (fun j => !(listed.setIfInBounds i true).getD j false) ≤ l.countP (fun j => !listed.getD j false) := fun l =>
      List.countP_mono_left fun j _ h => by
        cases hl : listed.getD j false with
        | false => rfl
        | true => rw [getD_set_true hl] at h; cases h
    intro l hl
    induction l with
    | nil => cases hl
    | cons x l ihl =>
      simp only [List.countP_cons]
      by_cases hx : x = i
      · subst hx
        have := mono l
        have e1 : (listed.setIfInBounds x true).getD x false = true := by simp [hils]
        rw [e1, hnl]
        simp only [Bool.not_true, Bool.false_eq_true, if_false, Bool.not_false, if_true]
        omega
      · have h1 := ihl ((List.mem_cons.1 hl).resolve_left (Ne.symm hx))
        rw [getD_set_ne false (Ne.symm hx)]
        omega
  have := key _ (List.mem_range.2 his)
  omega
theorem any_all (hH0 : ∀ t, t ∈ tags H0 → t < G0.c) {ops : Array Oper} {m : List IOper} (hdr : drawOk ops = true) (hlen : m.length = ops.size) (hm : ∀ (i : Nat) (x : Oper), ops[i]? = some x → ∃ io, m[i]? = some io ∧ compOper P n ops x = some io) (hsel : Region.noSelect ops = true) {Q : Post} (hP : ∀ x e H c, ¬ Q (.panic x) e H c) :
    ∀ (f : Nat) (d : List Nat) (listed : Array Bool) (e : Env) (H : List AObj) (c : Nat) (a : Act) (w : World), listed.size = ops.size → (∀ i, i < ops.size → listed.getD i false = d.contains i) → (List.range ops.size).countP (fun j => !listed.getD j false) ≤ f →
      St G0 H0 w0 n e H c a w → irW P (anyIR ops m f d) Q e H c → wpAny P .any ops (Lift G0 H0 w0 n Q) f listed a w := by
  have rdy : ∀ (d : List Nat) (listed : Array Bool), listed.size = ops.size → (∀ i, i < ops.size → listed.getD i false = d.contains i) → ∀ i, i ∈ Region.ready .any ops listed → i ∈ (List.range m.length).filter (anyRdy ops d) ∧ i < ops.size ∧ listed.getD i false = false := fun d listed hsz hd i hi => by
    rw [mem_ready] at hi
    obtain ⟨h0, o, ho, hready⟩ := hi
    have his := (Array.getElem?_eq_some_iff.1 ho).1
    have hils : i < listed.size := hsz ▸ his
    have hnl : listed.getD i false = false := by simpa [hils] using h0
    refine ⟨List.mem_filter.2 ⟨List.mem_range.2 (by omega), ?_⟩, his, hnl⟩
    unfold anyRdy
    rw [← hd i his, hnl, ho]
    simp only [Bool.not_false, Bool.true_and]
    rw [List.all_eq_true]
    intro k hk
    unfold afterAny at hk
    obtain ⟨ed, hed, rfl⟩ := List.mem_map.1 hk
    obtain ⟨hed1, hed2⟩ := List.mem_filter.1 hed
    have hl := hready ed (by simpa using hed1) hed2
    have hon : ed.on < ops.size := by
      rcases Nat.lt_or_ge ed.on ops.size with h | h
      · exact h
      · have : listed.getD ed.on false = false := by simp [hsz, Nat.not_lt.2 h]
        rw [this] at hl; cases hl
    rw [← hd _ hon]; exact hl
  have rdy' : ∀ (d : List Nat) (listed : Array Bool), listed.size = ops.size → (∀ i, i < ops.size → listed.getD i false = d.contains i) → ∀ j, j ∈ List.range m.length → anyRdy ops d j = true → j ∈ Region.ready .any ops listed := fun d listed hsz hd j h1 h2 => by
    have hjs : j < ops.size := by have := List.mem_range.1 h1; omega
    rw [mem_ready]
    have ho := Array.getElem?_eq_getElem hjs
    unfold anyRdy at h2
    rw [ho] at h2
    simp only [Bool.and_eq_true, Bool.not_eq_true'] at h2
    refine ⟨?_, ops[j], ho, fun ed hed hb => ?_⟩
    · have hjl : j < listed.size := hsz ▸ hjs
      have h3 : listed.getD j false = false := by rw [hd j hjs]; exact h2.1
      simpa [hjl] using h3
    · have hmem : ed.on ∈ afterAny ops[j] := by
        unfold afterAny
        exact List.mem_map.2 ⟨ed, List.mem_filter.2 ⟨by simpa using hed, hb⟩, rfl⟩
      have h3 := List.all_eq_true.1 h2.2 _ hmem
      have hlt := (drawOk_spec hdr ho ho).1 _ hmem
      rw [hd _ (by omega)]; exact h3
  have step : ∀ (d : List Nat) (listed : Array Bool) (i : Nat), listed.size = ops.size → (∀ i, i < ops.size → listed.getD i false = d.contains i) → ∀ j, j < ops.size → (listed.setIfInBounds i true).getD j false = (i :: d).contains j := fun d listed i hsz hd j hj => by
    by_cases hij : j = i
    · subst hij; simp [hsz, hj]
    · have h1 : (listed.setIfInBounds i true).getD j false = listed.getD j false := by simp [Array.getElem?_setIfInBounds_ne (Ne.symm hij)]
      rw [h1, hd j hj]
      have : (j == i) = false := by simpa using hij
      rw [List.contains_cons, this, Bool.false_or]
  intro f
  induction f with
  | zero =>
    intro d listed e H c a w hsz hd hc hs hk
    have hr : Region.ready .any ops listed = [] := by
      refine List.eq_nil_iff_forall_not_mem.2 fun j hj => ?_
      obtain ⟨_, hjs, hnl⟩ := rdy d listed hsz hd j hj
      have := List.countP_eq_zero.1 (Nat.le_zero.1 hc) j (List.mem_range.2 hjs)
      rw [hnl] at this; exact this rfl
    exact ⟨hr, e, H, c, hk, hs⟩
  | succ f ih =>
    intro d listed e H c a w hsz hd hc hs hk
    unfold anyIR at hk
    split at hk
    · -- a copy runs first
      rename_i i hfi
      have hi0 := List.mem_of_find?_eq_some hfi
      have hi1 := List.find?_some hfi
      unfold eagAt at hi1
      simp only [Bool.and_eq_true] at hi1
      obtain ⟨⟨hr1, hf1⟩, he1⟩ := hi1
      have hri := rdy' d listed hsz hd i hi0 hr1
      obtain ⟨_, his, hnl⟩ := rdy d listed hsz hd i hri
      obtain ⟨io, hio, hco⟩ := hm i ops[i] (Array.getElem?_eq_getElem his)
      have hgd : m.getD i nopO = io := by simp [List.getD_eq_getElem?_getD, hio]
      rw [Array.getElem?_eq_getElem his, hio] at he1
      simp only [Bool.and_eq_true, Option.isNone_iff_eq_none] at he1
      obtain ⟨⟨he2, he3⟩, hg⟩ := he1
      obtain ⟨c1, c2, c3, c4⟩ := compOper_spec hco
      have hcount : (List.range ops.size).countP (fun j => !(listed.setIfInBounds i true).getD j false) ≤ f := count_drop hsz his hnl hc
      obtain ⟨G, rfl, h1, h2, h3, I, x⟩ := hs
      have hw := wanted_of c2 h3
      rw [hg] at hw
      simp only [WantSpec] at hw
      have hfree : Region.free .any ops listed i = true := by
        unfold freeAny at hf1
        unfold Region.free
        rw [Array.getElem?_eq_getElem his] at hf1 ⊢
        simp only at hf1 ⊢
        rw [List.all_eq_true] at hf1 ⊢
        intro j hj
        have hjs := List.mem_range.1 hj
        have hjl : j < listed.size := hsz ▸ hjs
        have h5 := hf1 j hj
        rw [← hd j hjs, Array.getElem?_eq_getElem hjs] at h5
        rw [Array.getElem?_eq_getElem hjs]
        simpa [hjl] using h5
      simp only [irW, hgd, opsW, hg, thenQ] at hk
      have go : ∀ (v : Value) (av : AV), Rep G w.heap v av → (∀ w, (execOp a.eval ops[i]).run P w = .ok (.value v) w) → irW P (anyIR ops m f (i :: d)) Q (put e io.dst av) H G.c → wpAny P .any ops (Lift G0 H0 w0 n Q) (f + 1) listed a w := fun v av hrep hrun k => by
        refine wpAny_take (Array.getElem?_eq_getElem his) hsel hfree (by simpa using hri) (fun x a w ⟨e, H, c, q, _⟩ => (hP x e H c q).elim) (.inl ⟨hw, hrun⟩) ?_
        rw [c3] at k
        exact ih (i :: d) _ _ _ _ _ _ (by simp [hsz]) (step d listed i hsz hd) hcount (St.step h1 h2 h3 I x hH0 c4 (Ext.refl _ _ _) I hrep) k
      obtain ⟨v, av, y1, y2, y3⟩ := op_yld (K := fun v H' c' => irW P (anyIR ops m f (i :: d)) Q (put e io.dst v) H' c') rfl he2 he3 c1 h3 hk
      exact go v av y1 y3 y2
    refine ⟨fun hr => ?_, fun i hi => ?_⟩
    · -- nothing is ready: by the count, or all is listed
      by_cases hne : (List.range m.length).filter (anyRdy ops d) = []
      · refine ⟨e, H, c, ?_, hs⟩
        rw [hne] at hk
        exact hk
      · exfalso
        obtain ⟨j, hj⟩ := List.exists_mem_of_ne_nil _ hne
        obtain ⟨h1, h2⟩ := List.mem_filter.1 hj
        have hjs : j < ops.size := by have := List.mem_range.1 h1; omega
        have : j ∈ Region.ready .any ops listed := by
          rw [mem_ready]
          have ho := Array.getElem?_eq_getElem hjs
          unfold anyRdy at h2
          rw [ho] at h2
          simp only [Bool.and_eq_true, Bool.not_eq_true'] at h2
          refine ⟨?_, ops[j], ho, fun ed hed hb => ?_⟩
          · have hjl : j < listed.size := hsz ▸ hjs
            have h3 : listed.getD j false = false := by rw [hd j hjs]; exact h2.1
            simpa [hjl] using h3
          · have hmem : ed.on ∈ afterAny ops[j] := by
              unfold afterAny
              exact List.mem_map.2 ⟨ed, List.mem_filter.2 ⟨by simpa using hed, hb⟩, rfl⟩
            have h3 := List.all_eq_true.1 h2.2 _ hmem
            have hlt := (drawOk_spec hdr ho ho).1 _ hmem
            rw [hd _ (by omega)]; exact h3
        rw [hr] at this; cases this
    · obtain ⟨hmem, his, hnl⟩ := rdy d listed hsz hd i hi
      have hk := alts_mem (g := fun i => .seq (.reg [m.getD i nopO]) (anyIR ops m f (i :: d))) hk i hmem
      obtain ⟨io, hio, hco⟩ := hm i ops[i] (Array.getElem?_eq_getElem his)
      have hgd : m.getD i nopO = io := by simp [List.getD_eq_getElem?_getD, hio]
      simp only [irW, hgd] at hk
      obtain ⟨c1, c2, c3, c4⟩ := compOper_spec hco
      have hd' : ∀ j, j < ops.size → (listed.setIfInBounds i true).getD j false = (i :: d).contains j := fun j hj => by
        by_cases hij : j = i
        · subst hij; simp [hsz, hj]
        · have h1 : (listed.setIfInBounds i true).getD j false = listed.getD j false := by simp [Array.getElem?_setIfInBounds_ne (Ne.symm hij)]
          rw [h1, hd j hj]
          have : (j == i) = false := by simpa using hij
          rw [List.contains_cons, this, Bool.false_or]
      have hcount : (List.range ops.size).countP (fun j => !(listed.setIfInBounds i true).getD j false) ≤ f := count_drop hsz his hnl hc
      obtain ⟨G, rfl, h1, h2, h3, I, x⟩ := hs
      have hw := wanted_of c2 h3
      have run : opW P io.op e H G.c (fun v H' c' => irW P (anyIR ops m f (i :: d)) Q (put e io.dst v) H' c') → (ops[i]).wp P a w (wpAny P .any ops (Lift G0 H0 w0 n Q) f (listed.setIfInBounds i true)) (Lift G0 H0 w0 n Q) := fun k =>
        op_sound rfl c1 I h3 k fun v w' ⟨av, H', G', k', x', I', r⟩ => by
          rw [c3] at k'
          exact ih (i :: d) _ _ _ _ _ _ (by simp [hsz]) hd' hcount (St.step h1 h2 h3 I x hH0 c4 x' I' r) k'
      have skip : irW P (anyIR ops m f (i :: d)) Q (put e io.dst .und) H G.c → wpAny P .any ops (Lift G0 H0 w0 n Q) f (listed.setIfInBounds i true) (a.put (ops[i]).dst undef) w := fun k => by
        rw [c3] at k
        exact ih (i :: d) _ _ _ _ _ _ (by simp [hsz]) hd' hcount (St.step h1 h2 h3 I x hH0 c4 (Ext.refl _ _ _) I .und) k
      unfold wpOp
      rw [Array.getElem?_eq_getElem his]
      simp only
      simp only [opsW] at hk
      cases hg : io.guard with
      | none =>
        rw [hg] at hk hw
        simp only [WantSpec] at hk hw
        rw [hw, if_pos rfl]
        exact .inl (run hk)
      | some p =>
        obtain ⟨g, want⟩ := p
        rw [hg] at hk hw
        simp only [WantSpec] at hk hw
        cases hed : e g <;> rw [hed] at hk <;> simp only [guardW] at hk <;> first
          | exact hk.elim
          | skip
        · rename_i b
          rw [hw.1 b hed]
          by_cases hb : b = want
          · subst hb
            rw [beq_self_eq_true, if_pos rfl]
            exact .inl (run (hk.1 rfl))
          · rw [if_neg (by simpa using hb)]
            exact skip (hk.2 hb)
        · rw [hw.2 hed, if_neg (by simp)]
          exact skip hk
theorem draw_comp (hH0 : ∀ t, t ∈ tags H0 → t < G0.c) {ops : Array Oper} {ir : IR} (h : compDraw P n ops = some ir) (hd : drawOk ops = true) (hf : P.follows .mixedOrders = true) (hsel : Region.noSelect ops = true)
    {Q : Post} (hP : ∀ x e H c, ¬ Q (.panic x) e H c) {id : Nat} {a : Act} {w : World} (hs : St G0 H0 w0 n e H c a w) (hk : irW P ir Q e H c) : (Code.region id ops true).wp P (Lift G0 H0 w0 n Q) a w := by
  unfold compDraw at h
  simp only [Option.or_eq_some_iff] at h
  rcases h with h | ⟨_, h⟩
  · exact draw_comp0 hH0 h hd hf hs hk
  · unfold compAll at h
    split at h
    · simp only [Option.map_eq_some_iff] at h
      obtain ⟨m, hm, rfl⟩ := h
      obtain ⟨hl, hg⟩ := mapM_get _ _ hm
      have hlen : m.length = ops.size := by simpa using hl
      have hm' : ∀ (i : Nat) (x : Oper), ops[i]? = some x → ∃ io, m[i]? = some io ∧ compOper P n ops x = some io := fun i x hx => hg i x (by simpa using hx)
      rw [hlen] at hk
      refine wp_region_any hf (any_all hH0 hd hlen hm' hsel hP ops.size [] _ e H c a _ (by simp) (fun i hi => by simp [hi]) ?_ ?_ hk)
      · exact Nat.le_trans (List.countP_le_length) (by simp)
      · obtain ⟨G, h0, h1, h2, h3, I, x⟩ := hs
        exact ⟨G, h0, h1, h2, h3, I, x.x, x.os, x.tape, x.output, x.size, x.frame, x.newm, x.oldH, x.oldF⟩
    · cases h
end
end
end A
end Go.Proofs.YtkcilmkienlnoaaGreatDoor

/-
  What is said of the small language's statements holds of the model's code; a function's contract out of its text. No condition.
-/

namespace Go.Proofs.YtkcilmkienlnoaaGreatDoor
namespace A
set_option linter.unusedVariables false
section
variable {P : Program} {G0 : Gh} {H0 : List AObj} {w0 : World} {n : Nat}

theorem ops_sound (hH0 : ∀ t, t ∈ tags H0 → t < G0.c) {ops : Array Oper} {Q : Post} : ∀ (l : List Oper) (m : List IOper), l.mapM (compOper P n ops) = some m → ∀ (e : Env) (H : List AObj) (c : Nat) (a : Act) (w : World),
    St G0 H0 w0 n e H c a w → opsW P m e H c (Q .normal) → wpList P ops (Lift G0 H0 w0 n Q) l a w := by
  intro l
  induction l with
  | nil =>
    intro m hm e H c a w hs hk
    simp at hm; subst hm
    exact wpList_nil ⟨e, H, c, hk, hs⟩
  | cons o l ih =>
    intro m hm e H c a w hs hk
    simp only [List.mapM_cons, Option.bind_eq_bind, Option.bind_eq_some_iff, Option.pure_def, Option.some.injEq] at hm
    obtain ⟨io, hio, m', hm', rfl⟩ := hm
    obtain ⟨c1, c2, c3, c4⟩ := compOper_spec hio
    obtain ⟨G, rfl, h1, h2, h3, I, x⟩ := hs
    have hw := wanted_of c2 h3
    have run : opW P io.op e H G.c (fun v H' c' => opsW P m' (put e io.dst v) H' c' (Q .normal)) → o.wp P a w (wpList P ops (Lift G0 H0 w0 n Q) l) (Lift G0 H0 w0 n Q) := fun k =>
      op_sound rfl c1 I h3 k fun v w' ⟨av, H', G', k', x', I', r⟩ => by
        rw [c3] at k'
        exact ih m' hm' _ _ _ _ _ (St.step h1 h2 h3 I x hH0 c4 x' I' r) k'
    have skip : opsW P m' (put e io.dst .und) H G.c (Q .normal) → wpList P ops (Lift G0 H0 w0 n Q) l (a.put o.dst undef) w := fun k => by
      rw [c3] at k
      exact ih m' hm' _ _ _ _ _ (St.step h1 h2 h3 I x hH0 c4 (Ext.refl _ _ _) I .und) k
    refine wpList_step fun K hK => ?_
    simp only [opsW] at hk
    cases hg : io.guard with
    | none =>
      rw [hg] at hk hw
      simp only [WantSpec] at hk hw
      rw [hw, if_pos rfl]
      exact Oper.wp_mono (fun a w h => hK a w h) (run hk)
    | some p =>
      obtain ⟨d, want⟩ := p
      rw [hg] at hk hw
      simp only [WantSpec] at hk hw
      cases hed : e d <;> rw [hed] at hk <;> simp only [guardW] at hk <;> first
        | exact hk.elim
        | skip
      · rename_i b
        rw [hw.1 b hed]
        by_cases hb : b = want
        · subst hb
          rw [beq_self_eq_true, if_pos rfl]
          exact Oper.wp_mono (fun a w h => hK a w h) (run (hk.1 rfl))
        · rw [if_neg (by simpa using hb)]
          exact hK _ _ (skip (hk.2 hb))
      · rw [hw.2 hed, if_neg (by simp)]
        exact hK _ _ (skip hk)

theorem min_exists (p : Nat → Prop) (h : ∃ n, p n) : ∃ n, p n ∧ ∀ m, p m → n ≤ m := by
  obtain ⟨n, hn⟩ := h
  induction n using Nat.strongRecOn with
  | _ n ih =>
    by_cases hlt : ∃ m, m < n ∧ p m
    · obtain ⟨m, hm, hp⟩ := hlt; exact ih m hm hp
    · exact ⟨n, hn, fun m hm => by
        rcases Nat.lt_or_ge m n with h | h
        · exact absurd ⟨m, h, hm⟩ hlt
        · exact h⟩

open Classical in
noncomputable def least (p : Nat → Prop) : Nat := if h : ∃ n, p n then Classical.choose (min_exists p h) else 0
theorem least_spec {p : Nat → Prop} (h : ∃ n, p n) : p (least p) := by unfold least; rw [dif_pos h]; exact (Classical.choose_spec (min_exists p h)).1
theorem least_le {p : Nat → Prop} {n : Nat} (h : p n) : least p ≤ n := by unfold least; rw [dif_pos ⟨n, h⟩]; exact (Classical.choose_spec (min_exists p ⟨n, h⟩)).2 n h

theorem St.drop {e : Env} {H H' : List AObj} {c : Nat} {a : Act} {w : World} (h : St G0 H0 w0 n e H c a w) (hs : H'.Sublist H) : St G0 H0 w0 n e H' c a w := by
  obtain ⟨G, h0, h1, h2, h3, I, x⟩ := h
  exact ⟨G, h0, h1, h2, h3, I.drop hs, x.drop hs⟩

theorem ir_sound (hH0 : ∀ t, t ∈ tags H0 → t < G0.c) : ∀ (code : Code) (ir : IR), comp P n code = some ir → ∀ (Q : Post), (∀ x e H c, ¬ Q (.panic x) e H c) → ∀ (e : Env) (H : List AObj) (c : Nat) (a : Act) (w : World),
    St G0 H0 w0 n e H c a w → irW P ir Q e H c → code.wp P (Lift G0 H0 w0 n Q) a w := by
  intro code
  induction code with
  | skip => intro ir h Q hP e H c a w hs hk; simp only [comp] at h; cases h; exact wp_skip ⟨e, H, c, hk, hs⟩
  | ret => intro ir h Q hP e H c a w hs hk; simp only [comp] at h; cases h; exact wp_ret ⟨e, H, c, hk, hs⟩
  | exit id => intro ir h Q hP e H c a w hs hk; simp only [comp] at h; cases h; exact wp_exit ⟨e, H, c, hk, hs⟩
  | region id ops draw =>
    intro ir h Q hP e H c a w hs hk
    cases draw with
    | true =>
      simp only [comp] at h
      split at h
      · rename_i hc
        simp only [Bool.and_eq_true] at hc
        exact draw_comp hH0 h hc.1.2 hc.1.1 hc.2 hP hs hk
      · cases h
    | false =>
      simp only [comp, Option.bind_eq_bind, Option.bind_eq_some_iff, Option.some.injEq] at h
      obtain ⟨m, hm, rfl⟩ := h
      exact wp_region_list (ops_sound hH0 ops.toList m hm e H c a w hs hk)
  | seq x y ihx ihy =>
    intro ir h Q hP e H c a w hs hk
    simp only [comp, Option.bind_eq_bind, Option.bind_eq_some_iff, Option.some.injEq] at h
    obtain ⟨ix, hx, iy, hy, rfl⟩ := h
    refine wp_seq (Code.wp_mono (fun ex a' w' hq => ?_) (ihx ix hx (thenQ (irW P iy Q) Q) (fun x e H c q => hP x e H c q) e H c a w hs hk))
    obtain ⟨e', H', c', q, hs'⟩ := hq
    cases ex <;> first
      | exact ihy iy hy Q hP e' H' c' a' w' hs' q
      | exact ⟨e', H', c', q, hs'⟩
  | cond x a b iha ihb =>
    intro ir h Q hP e H c ac w hs hk
    simp only [comp, Option.bind_eq_bind, Option.bind_eq_some_iff, Option.some.injEq] at h
    obtain ⟨u, hu, ia, ha, ib, hb, rfl⟩ := h
    simp only [irW] at hk
    obtain ⟨G, rfl, h1, h2, h3, I, x'⟩ := hs
    have r := opd_rep h3 hu
    generalize ev e u = au at hk r
    generalize hv : ac.eval x = v at r
    cases r <;> simp only [condW] at hk <;> first
      | exact hk.elim
      | skip
    exact wp_cond_split hv (fun ht => iha ia ha Q hP e H G.c ac w ⟨G, rfl, h1, h2, h3, I, x'⟩ (hk.1 ht)) (fun ht => ihb ib hb Q hP e H G.c ac w ⟨G, rfl, h1, h2, h3, I, x'⟩ (hk.2 ht))
  | block id b ihb =>
    intro ir h Q hP e H c a w hs hk
    simp only [comp, Option.bind_eq_bind, Option.bind_eq_some_iff, Option.some.injEq] at h
    obtain ⟨ib, hb, rfl⟩ := h
    refine wp_block (Code.wp_mono (fun ex a' w' hq => ?_) (ihb ib hb (blockQ id Q) (fun x e H c q => hP x e H c q) e H c a w hs hk))
    obtain ⟨e', H', c', q, hs'⟩ := hq
    cases ex <;> first
      | exact ⟨e', H', c', q, hs'⟩
      | (simp only [blockQ] at q
         simp only [Exit.inBlock]
         split
         · rename_i hid; rw [if_pos hid] at q; exact ⟨e', H', c', q, hs'⟩
         · rename_i hid; rw [if_neg hid] at q; exact ⟨e', H', c', q, hs'⟩)
  | loop b ihb =>
    intro ir h Q hP e H c a w hs hk
    simp only [comp, Option.bind_eq_bind, Option.bind_eq_some_iff, Option.some.injEq] at h
    obtain ⟨ib, hb, rfl⟩ := h
    obtain ⟨I, μ, ⟨Hs, hsub, hI⟩, hround⟩ := hk
    refine wp_loop (fun a w => ∃ e H c, I e H c ∧ St G0 H0 w0 n e H c a w) (fun a w => least fun k => ∃ e H c, I e H c ∧ St G0 H0 w0 n e H c a w ∧ μ e H c = k) ⟨e, Hs, c, hI, hs.drop hsub⟩ fun a w hIa => ?_
    obtain ⟨e1, H1, c1, hi1, hs1⟩ := hIa
    obtain ⟨e2, H2, c2, hi2, hs2, hμ⟩ := least_spec (p := fun k => ∃ e H c, I e H c ∧ St G0 H0 w0 n e H c a w ∧ μ e H c = k) ⟨_, e1, H1, c1, hi1, hs1, rfl⟩
    refine Code.wp_mono (fun ex a' w' hq => ?_) (ihb ib hb (thenQ _ Q) (fun x e H c q => hP x e H c q) e2 H2 c2 a w hs2 (hround e2 H2 c2 hi2))
    obtain ⟨e', H', c', q, hs'⟩ := hq
    cases ex <;> first
      | exact ⟨e', H', c', q, hs'⟩
      | (obtain ⟨H'', hsub', hi', hlt⟩ := q
         refine ⟨⟨e', H'', c', hi', hs'.drop hsub'⟩, ?_⟩
         refine Nat.lt_of_le_of_lt (least_le (p := fun k => ∃ e H c, I e H c ∧ St G0 H0 w0 n e H c a' w' ∧ μ e H c = k) ⟨e', H'', c', hi', hs'.drop hsub', rfl⟩) ?_
         rw [← hμ]; exact hlt)
  | rangeFunc f ps as0 b iha ihb => intro ir h; simp [comp] at h
  | scope b ihb => intro ir h; simp [comp] at h
  | label l => intro ir h; simp [comp] at h
  | goto l => intro ir h; simp [comp] at h
  | refuse why => intro ir h; simp [comp] at h
end
end A
end Go.Proofs.YtkcilmkienlnoaaGreatDoor
