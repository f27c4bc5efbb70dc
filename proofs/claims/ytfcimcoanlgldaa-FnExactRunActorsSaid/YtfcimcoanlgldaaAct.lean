/-
  Actors that stay objects; the accesses of a writer and of a reader, of the reference and of the program. No condition.
-/
import Derived.Test.YtfcimcoanlgldaaRecA
import Derived.Test.YtfcimcoanlgldaaTActor
import Derived.Test.YtfcimcoanlgldaaActN
namespace Go.Proofs.Ytfcimcoanlgldaa
namespace A
set_option linter.unusedVariables false
set_option linter.unusedSimpArgs false
set_option maxRecDepth 100000

theorem freeze_nil (G : Gh) : G.freeze [] = G := by
  cases G; simp [Gh.freeze, tags]
/-- A contract's objects may stand in another order, and their cells may be named otherwise. -/
theorem con_in {P : Program} {f : Nat} {args args' : List AV} {H Hm H' : List AObj} {c : Nat} {Q : AV → List AObj → Nat → Prop} (h : Con P f args' H' c Q) (hv : Views [] args args') (hp : Hm.Perm H) (hr : Rens [] Hm H') : Con P f args H c Q := by
  intro G w vs e I hs hrep
  have ht : ∀ t, t ∈ tags H' ↔ t ∈ tags H := fun t => by rw [hr.tags_eq]; exact (hp.map _).mem_iff
  have I1 : Inv G Hm w.heap := ⟨I.fz, fun o ho => I.obj o (hp.mem_iff.1 ho), fun t a => I.nfz t ((hp.map _).mem_iff.1 a), (hp.map _).nodup_iff.2 I.nodup, fun t t' a b => I.inj t t' (a.imp id (hp.map _).mem_iff.1) (b.imp id (hp.map _).mem_iff.1)⟩
  have I2 := Inv.ren (S := []) I1 (fun o ho => ho) (by simp) (by rw [freeze_nil]; exact I1) hr
  rw [freeze_nil] at I2
  obtain ⟨v1, v2⟩ := hv.spec
  refine (h G w vs e I2 (hs.trans v1) fun j a' hj => ?_).mono fun en w' ⟨v, res, H2, G', q1, q2, q3, q4, q5⟩ => ⟨v, res, H2, G', q1, q2, ⟨q3.x, q3.os, q3.tape, q3.output, q3.size, fun b hb hn => q3.frame b hb fun t hm => hn t ((ht t).1 hm), fun t a b => (q3.newm t a b).imp id fun ⟨u, hu, he⟩ => ⟨u, (ht u).1 hu, he⟩, fun t a b => (ht t).1 (q3.oldH t a b), fun t a b => (q3.oldF t a b).imp id (ht t).1⟩, q4, q5⟩
  obtain ⟨a, haj⟩ := get_of_len v1 hj
  have := (v2 j a a' haj hj).rep I1 (by simp) (hrep j a haj)
  rwa [freeze_nil] at this
/-- What is not handed in stays cs it was. -/
theorem con_frame {P : Program} {f : Nat} {args : List AV} {H R : List AObj} {c : Nat} {Q : AV → List AObj → Nat → Prop} (h : Con P f args H c Q) : Con P f args (H ++ R) c fun r O c' => ∃ O1, Q r O1 c' ∧ O = O1 ++ R := by
  intro G w vs e I hs hr
  have eT : ∀ X Y : List AObj, tags (X ++ Y) = tags X ++ tags Y := fun X Y => by simp [tags]
  have hnd := I.nodup
  rw [eT] at hnd
  have hN := List.nodup_append.1 hnd
  have inH : ∀ t, t ∈ tags H → t ∈ tags (H ++ R) := fun t ht => by rw [eT]; exact List.mem_append_left _ ht
  have inR : ∀ t, t ∈ tags R → t ∈ tags (H ++ R) := fun t ht => by rw [eT]; exact List.mem_append_right _ ht
  have ltR : ∀ t, t ∈ tags R → t < G.c := fun t ht => I.lt (inR t ht)
  have I1 : Inv G H w.heap := I.drop (List.sublist_append_left _ _)
  refine (h G w vs e I1 hs hr).mono fun en w' ⟨v, res, O1, G2, q1, q2, q3, q4, q5⟩ => ?_
  have notO : ∀ t, t ∈ tags R → t ∉ tags O1 := fun t ht ho => hN.2.2 t (q3.oldH t (ltR t ht) ho) t ht rfl
  have hO : ∀ t, t ∈ tags (O1 ++ R) → t ∈ tags O1 ∨ t ∈ tags R := fun t ht => by rw [eT] at ht; exact List.mem_append.1 ht
  refine ⟨v, res, O1 ++ R, G2, q1, ⟨O1, q2, rfl⟩, ⟨q3.x, q3.os, q3.tape, q3.output, q3.size, fun b hb hn => q3.frame b hb fun t ht => hn t (inH t ht), fun t a b => (q3.newm t a b).imp id fun ⟨u, hu, he⟩ => ⟨u, inH u hu, he⟩, fun t a b => ?_, fun t a b => (q3.oldF t a b).imp id (inH t)⟩, ⟨q4.fz, fun o ho => ?_, fun t ht hF => ?_, ?_, ?_⟩, q5⟩
  · rcases hO t b with b | b
    · exact inH t (q3.oldH t a b)
    · exact inR t b
  · rcases List.mem_append.1 ho with ho | ho
    · exact q4.obj o ho
    · have hob := I.obj o (List.mem_append_right _ ho)
      refine hob.ext q3.x (q3.frame _ hob.block fun t ht he => ?_)
      have : t = o.tag := I.inj t o.tag (.inr (inH t ht)) (.inr (inR _ (mem_tags ho))) he
      exact hN.2.2 t ht _ (mem_tags ho) this
  · rcases hO t ht with b | b
    · exact q4.nfz t b hF
    · rcases q3.oldF t (ltR t b) hF with h1 | h1
      · exact I.nfz t (inR t b) h1
      · exact hN.2.2 t h1 t b rfl
  · rw [eT]
    exact List.nodup_append.2 ⟨q4.nodup, hN.2.1, fun a ha b hb hab => by subst hab; exact notO a hb ha⟩
  · have key : ∀ t, (G2.Fz t ∨ t ∈ tags (O1 ++ R)) → (G2.Fz t ∨ t ∈ tags O1) ∨ t ∈ tags R := fun t ht => by
      rcases ht with h1 | h1
      · exact .inl (.inl h1)
      · rcases hO t h1 with h2 | h2
        · exact .inl (.inr h2)
        · exact .inr h2
    have cross : ∀ t u, (G2.Fz t ∨ t ∈ tags O1) → u ∈ tags R → G2.m t = G2.m u → t = u := fun t u hl hu he => by
      have huc := ltR u hu
      rw [q3.x.m u huc] at he
      rcases Nat.lt_or_ge t G.c with htc | htc
      · rw [q3.x.m t htc] at he
        refine I.inj t u ?_ (.inr (inR u hu)) he
        rcases hl with h1 | h1
        · exact (q3.oldF t htc h1).imp id (inH t)
        · exact .inr (inH t (q3.oldH t htc h1))
      · have htl : t < G2.c := by
          rcases hl with h1 | h1
          · exact (q4.fz t h1).1
          · exact q4.lt h1
        obtain ⟨o, ho, rfl⟩ := of_mem_tags hu
        rcases q3.newm t htc htl with h3 | ⟨y, hy, h3⟩
        · have := (I.obj o (List.mem_append_right _ ho)).block
          omega
        · have : y = o.tag := I.inj y o.tag (.inr (inH y hy)) (.inr (inR _ hu)) (h3.symm.trans he)
          exact absurd rfl (hN.2.2 y hy _ (this ▸ hu))
    intro t t' h1 h2 he
    rcases key t h1 with k1 | k1 <;> rcases key t' h2 with k2 | k2
    · exact q4.inj t t' k1 k2 he
    · exact cross t t' k1 k2 he
    · exact (cross t' t k2 k1 he.symm).symm
    · rw [q3.x.m t (ltR t k1), q3.x.m t' (ltR t' k2)] at he
      exact I.inj t t' (.inr (inR t k1)) (.inr (inR t' k2)) he

def TActor.encO (s : TActor) : List AV := [.bool s.Writer, .int .i64 s.Line, .int .i64 s.Version, s.Words.ref 1, .int .i64 s.State, .int .i64 s.At, .int .i64 s.Seq]
def TActor.inn (s : TActor) : List AObj := s.Words.wood 1 encI noInn
def encY (k : Nat) (s : TActor) : List AV := [.bool s.Writer, .int .i64 s.Line, .int .i64 s.Version, s.Words.at_ k 1, .int .i64 s.State, .int .i64 s.At, .int .i64 s.Seq]
def innA (l : List TActor) : List AObj := l.flatMap TActor.inn
@[simp] theorem TActor.o0 (s : TActor) (K : AV → Prop) : getW s.encO 0 K = K (.bool s.Writer) := by simp [TActor.encO]
@[simp] theorem TActor.o1 (s : TActor) (K : AV → Prop) : getW s.encO 1 K = K (.int .i64 s.Line) := by simp [TActor.encO]
@[simp] theorem TActor.o2 (s : TActor) (K : AV → Prop) : getW s.encO 2 K = K (.int .i64 s.Version) := by simp [TActor.encO]
@[simp] theorem TActor.o3 (s : TActor) (K : AV → Prop) : getW s.encO 3 K = K (s.Words.ref 1) := by simp [TActor.encO]
@[simp] theorem TActor.o4 (s : TActor) (K : AV → Prop) : getW s.encO 4 K = K (.int .i64 s.State) := by simp [TActor.encO]
@[simp] theorem TActor.o5 (s : TActor) (K : AV → Prop) : getW s.encO 5 K = K (.int .i64 s.At) := by simp [TActor.encO]
@[simp] theorem TActor.o6 (s : TActor) (K : AV → Prop) : getW s.encO 6 K = K (.int .i64 s.Seq) := by simp [TActor.encO]
theorem TActor.lenO (s : TActor) : s.encO.length = 7 := (rfl)
def TLine.pl (x : TLine) : PL := ⟨x.Seq, x.Owner, x.Version, x.Words.list⟩
def TActor.pa (a : TActor) : PA := ⟨a.Writer, a.Line, a.Version, a.Words.list, a.State, a.At, a.Seq⟩

theorem set_same {α : Type} {l : List α} {i : Nat} {x : α} (h : l[i]? = some x) : l.set i x = l := by
  refine List.ext_getElem? fun j => ?_
  rw [List.getElem?_set]
  split
  · rename_i e; subst e; rw [if_pos (List.getElem?_eq_some_iff.1 h).1, h]
  · rfl
/-- Naming: the words of one line, of one actor, by their places. -/
theorem ren_line (t i k : Nat) {l : List TLine} {x : TLine} (h : l[i]? = some x) : RenO [] ⟨false, t, 4, l.map TLine.encO⟩ ⟨false, t, 4, (l.map TLine.encO).set i (encX k x)⟩ := by
  have e : (l.map TLine.encO).set i x.encO = l.map TLine.encO := set_same (by simp [h])
  have := renSet (t := t) (w := 4) (i := i) (rows := l.map TLine.encO) (row := x.encO) (row' := encX k x) rfl fun j a a' h1 h2 => by
    match j, h1, h2 with
    | 0, h1, h2 => simp [TLine.encO] at h1; simp [encX] at h2; exact .inl (by rw [← h1, ← h2])
    | 1, h1, h2 => simp [TLine.encO] at h1; simp [encX] at h2; exact .inl (by rw [← h1, ← h2])
    | 2, h1, h2 => simp [TLine.encO] at h1; simp [encX] at h2; exact .inl (by rw [← h1, ← h2])
    | 3, h1, h2 =>
      simp [TLine.encO] at h1; simp [encX] at h2
      subst h1; subst h2
      exact .inr ⟨cell_at _ _ _, view_at _ _ _ _⟩
    | j + 4, h1, h2 => simp [TLine.encO] at h1
  rwa [e] at this
theorem ren_actor (t j k : Nat) {l : List TActor} {a : TActor} (h : l[j]? = some a) : RenO [] ⟨false, t, 7, l.map TActor.encO⟩ ⟨false, t, 7, (l.map TActor.encO).set j (encY k a)⟩ := by
  have e : (l.map TActor.encO).set j a.encO = l.map TActor.encO := set_same (by simp [h])
  have := renSet (t := t) (w := 7) (i := j) (rows := l.map TActor.encO) (row := a.encO) (row' := encY k a) rfl fun j a a' h1 h2 => by
    match j, h1, h2 with
    | 0, h1, h2 => simp [TActor.encO] at h1; simp [encY] at h2; exact .inl (by rw [← h1, ← h2])
    | 1, h1, h2 => simp [TActor.encO] at h1; simp [encY] at h2; exact .inl (by rw [← h1, ← h2])
    | 2, h1, h2 => simp [TActor.encO] at h1; simp [encY] at h2; exact .inl (by rw [← h1, ← h2])
    | 3, h1, h2 =>
      simp [TActor.encO] at h1; simp [encY] at h2
      subst h1; subst h2
      exact .inr ⟨cell_at _ _ _, view_at _ _ _ _⟩
    | 4, h1, h2 => simp [TActor.encO] at h1; simp [encY] at h2; exact .inl (by rw [← h1, ← h2])
    | 5, h1, h2 => simp [TActor.encO] at h1; simp [encY] at h2; exact .inl (by rw [← h1, ← h2])
    | 6, h1, h2 => simp [TActor.encO] at h1; simp [encY] at h2; exact .inl (by rw [← h1, ← h2])
    | j + 7, h1, h2 => simp [TActor.encO] at h1
  rwa [e] at this
/-- Back: a line's row whose words are named by any place. -/
theorem ren_lineB (t i k : Nat) (l : List TLine) (x : TLine) : RenO [] ⟨false, t, 4, (l.map TLine.encO).set i (encX k x)⟩ ⟨false, t, 4, (l.set i x).map TLine.encO⟩ := by
  rw [List.map_set]
  refine renSet rfl fun j a a' h1 h2 => ?_
  match j, h1, h2 with
  | 0, h1, h2 => simp [encX] at h1; simp [TLine.encO] at h2; exact .inl (by rw [← h1, ← h2])
  | 1, h1, h2 => simp [encX] at h1; simp [TLine.encO] at h2; exact .inl (by rw [← h1, ← h2])
  | 2, h1, h2 => simp [encX] at h1; simp [TLine.encO] at h2; exact .inl (by rw [← h1, ← h2])
  | 3, h1, h2 =>
    simp [encX] at h1; simp [TLine.encO] at h2
    subst h1; subst h2
    exact .inr ⟨cell_ref _ _, view_at' _ _ _ _⟩
  | j + 4, h1, h2 => simp [encX] at h1
theorem ren_actorB (t i k : Nat) (l : List TActor) (x : TActor) : RenO [] ⟨false, t, 7, (l.map TActor.encO).set i (encY k x)⟩ ⟨false, t, 7, (l.set i x).map TActor.encO⟩ := by
  rw [List.map_set]
  refine renSet rfl fun j a a' h1 h2 => ?_
  match j, h1, h2 with
  | 0, h1, h2 => simp [encY] at h1; simp [TActor.encO] at h2; exact .inl (by rw [← h1, ← h2])
  | 1, h1, h2 => simp [encY] at h1; simp [TActor.encO] at h2; exact .inl (by rw [← h1, ← h2])
  | 2, h1, h2 => simp [encY] at h1; simp [TActor.encO] at h2; exact .inl (by rw [← h1, ← h2])
  | 3, h1, h2 =>
    simp [encY] at h1; simp [TActor.encO] at h2
    subst h1; subst h2
    exact .inr ⟨cell_ref _ _, view_at' _ _ _ _⟩
  | 4, h1, h2 => simp [encY] at h1; simp [TActor.encO] at h2; exact .inl (by rw [← h1, ← h2])
  | 5, h1, h2 => simp [encY] at h1; simp [TActor.encO] at h2; exact .inl (by rw [← h1, ← h2])
  | 6, h1, h2 => simp [encY] at h1; simp [TActor.encO] at h2; exact .inl (by rw [← h1, ← h2])
  | j + 7, h1, h2 => simp [encY] at h1

@[simp] theorem wood_nilI : (SL.nil : SL Int).wood 1 encI noInn = [] := rfl
/-- One line and one actor have been turned; what else there was is there, and perhaps more. -/
def Turned (tl ta i j : Nat) (l : List TLine) (cs : List TActor) (x : TLine) (a : TActor) (me : Int) (R : List AObj) (r : AV) (O : List AObj) : Prop :=
  r = .tup [] ∧ ∃ (x' : TLine) (a' : TActor) (T J : List AObj), (x'.pl, a'.pa) = acc me x.pl a.pa ∧ O = ⟨false, tl, 4, (l.set i x').map TLine.encO⟩ :: ⟨false, ta, 7, (cs.set j a').map TActor.encO⟩ :: T ∧
    T.Perm (a'.inn ++ (x'.inn ++ (J ++ R))) ∧ (a.inn ++ (x.inn ++ R)).length ≤ T.length ∧ ∀ o, o ∈ J → ∀ T, AvRows T o
theorem tidy0 : ∀ o, o ∈ ([] : List AObj) → ∀ T, AvRows T o := fun o h => by cases h
theorem tidy1 {X : AObj} (h : ∀ T, AvRows T X) : ∀ o, o ∈ [X] → ∀ T, AvRows T o := fun o ho => by cases List.mem_singleton.1 ho; exact h
theorem tidyC {X : AObj} {l : List AObj} (h : ∀ T, AvRows T X) (hl : ∀ o, o ∈ l → ∀ T, AvRows T o) : ∀ o, o ∈ X :: l → ∀ T, AvRows T o := fun o ho => by
  rcases List.mem_cons.1 ho with rfl | ho
  · exact h
  · exact hl o ho
theorem tidyA {k l : List AObj} (hk : ∀ o, o ∈ k → ∀ T, AvRows T o) (hl : ∀ o, o ∈ l → ∀ T, AvRows T o) : ∀ o, o ∈ k ++ l → ∀ T, AvRows T o := fun o ho => (List.mem_append.1 ho).elim (hk o) (hl o)
theorem tidyB (t : Nat) (v : Int) : ∀ T, AvRows T ⟨false, t, 1, [[.int .i64 v]]⟩ := fun T => avRows_of fun row hr a ha => by
  simp at hr; subst hr; simp at ha; subst ha; exact .int
theorem tidyX (t : Nat) (a b d : Int) {w : AV} (hw : Free w) : ∀ T, AvRows T ⟨false, t, 4, [[.int .i64 a, .int .i64 b, .int .i64 d, w]]⟩ := fun T => avRows_of fun row hr x hx => by
  simp at hr; subst hr; simp at hx
  rcases hx with rfl | rfl | rfl | rfl
  · exact .int
  · exact .int
  · exact .int
  · exact hw T
theorem free_atI (i w : Nat) (s : SL Int) : Free (s.at_ i w) := fun T => by cases s <;> constructor
theorem free_r (i t w n : Nat) : Free (.ref i t w n) := fun _ => .ref
theorem tidyI (s : SL Int) : ∀ o, o ∈ s.wood 1 encI noInn → ∀ T, AvRows T o := flat_free encI_flat 1 s

theorem fin_turned {tl ta i j k1 k2 c : Nat} {l : List TLine} {cs : List TActor} {x x' : TLine} {a a' : TActor} {me : Int} {R T J : List AObj} {v : AV} (hv : v = .tup []) (he : (x'.pl, a'.pa) = acc me x.pl a.pa)
    (hp : T.Perm (a'.inn ++ (x'.inn ++ (J ++ R)))) (hl : (a.inn ++ (x.inn ++ R)).length ≤ T.length) (hJ : ∀ o, o ∈ J → ∀ T, AvRows T o) :
    finW (fun r O _ => Turned tl ta i j l cs x a me R r O) v (⟨false, tl, 4, (l.map TLine.encO).set i (encX k1 x')⟩ :: ⟨false, ta, 7, (cs.map TActor.encO).set j (encY k2 a')⟩ :: T) c :=
  fin_ren (List.Sublist.refl _) (.cons (ren_lineB tl i k1 l x') (.cons (ren_actorB ta j k2 cs a') (.refl _ _))) (.refl _) ⟨hv, x', a', T, J, he, rfl, hp, hl, hJ⟩

theorem iaddr_at {k : Nat} {s : SL Int} {n : Nat} {K : AV → Prop} (h : n < s.list.length) (hk : ∀ t l, s = .mk t l → K (.ptr k t 1 n 0)) : iaddrW 1 (s.at_ k 1) (.int .i64 n) K := by
  cases s with
  | nil => simp at h
  | mk t l => exact ⟨rfl, by omega, by simp at h ⊢; omega, by simpa using hk t l rfl⟩

theorem impl_write {tl ta i j c : Nat} {l : List TLine} {cs : List TActor} {x : TLine} {a : TActor} {R : List AObj} {n : Nat} (hn : n ≤ 2097152) (hx : l[i]? = some x) (ha : cs[j]? = some a) (gx : GdL n x.pl) (ga : GdA n a.pa) (hs : a.State = 1) (hw : a.Writer = true) (me : Int) :
    Con Try.prog 78 [.ptr 0 tl 4 i 0, .ptr 1 ta 7 j 0] (⟨false, tl, 4, l.map TLine.encO⟩ :: ⟨false, ta, 7, cs.map TActor.encO⟩ :: (a.inn ++ (x.inn ++ R))) c fun r O _ => Turned tl ta i j l cs x a me R r O := by
  have hi : i < l.length := (List.getElem?_eq_some_iff.1 hx).1
  have hj : j < cs.length := (List.getElem?_eq_some_iff.1 ha).1
  obtain ⟨x1, x2, x3⟩ := gx
  obtain ⟨a1, a2, a3, a4, a5, a6⟩ := ga
  simp only [TLine.pl, TActor.pa] at x1 x2 x3 a1 a2 a3 a4 a5 a6
  have w1 : IntKind.i64.wrap (a.At + 1) = a.At + 1 := wrap64 (by omega) (by omega)
  have w2 : IntKind.i64.wrap (a.At - 1) = a.At - 1 := wrap64 (by omega) (by omega)
  have w3 : IntKind.i64.wrap (x.Seq + 1) = x.Seq + 1 := wrap64 (by omega) (by omega)
  refine con_in (args' := [.ptr 0 tl 4 i 0, .ptr 1 ta 7 j 0]) (H' := ⟨false, tl, 4, (l.map TLine.encO).set i (encX 3 x)⟩ :: ⟨false, ta, 7, (cs.map TActor.encO).set j (encY 2 a)⟩ :: (a.inn ++ (x.inn ++ R))) ?_ (Views.refl _ _) (List.Perm.refl _) (.cons (ren_line tl i 3 hx) (.cons (ren_actor ta j 2 ha) (.refl _ _)))
  refine con_of c78 (by simp [F78]) ?_
  unfold F78
  have w4 : IntKind.i64.wrap 1 = 1 := by decide
  by_cases h0 : a.At = 0
  · simp [encX, encY, hi, hj, h0, putA, w4]
    exact fin_turned (k1 := 3) (k2 := 2) (x' := ⟨x.Seq, x.Owner, a.Version, .nil⟩) (a' := ⟨a.Writer, a.Line, a.Version, a.Words, a.State, 1, a.Seq⟩) (J := x.inn) rfl (by simp [acc, TLine.pl, TActor.pa, hs, hw, h0]) (List.Perm.refl _) (Nat.le_refl _) (tidyI x.Words)
  by_cases h1 : a.At ≤ a.Words.list.length
  · obtain ⟨m, hm⟩ : ∃ m : Nat, a.At = (m : Int) + 1 := ⟨(a.At - 1).toNat, by omega⟩
    cases hA : a.Words with
    | nil => rw [hA] at h1; simp at h1; omega
    | mk tw wa =>
      rw [hA] at h1 a6
      simp only [SL.list_mk] at h1 a6
      have hmm : m < wa.length := by omega
      have hv : wa[m]? = some wa[m] := List.getElem?_eq_getElem hmm
      have hg : ((m : Int) + 1 - 1) = m := by omega
      have h1' : (m : Int) + 1 ≤ wa.length := by omega
      have h0' : ¬ (m : Int) + 1 = 0 := by omega
      have w5 : IntKind.i64.wrap (m : Int) = m := wrap64 (by omega) (by omega)
      have w6 : IntKind.i64.wrap ((m : Int) + 1) = m + 1 := wrap64 (by omega) (by omega)
      have w7 : IntKind.i64.wrap ((m : Int) + 1 + 1) = m + 1 + 1 := wrap64 (by omega) (by omega)
      have m1 : (x.Words.list.length + 1) * 8 ≤ 140737488355328 := by omega
      have m2 : x.Words.list.length + 1 ≤ mx := by unfold mx; omega
      have hgd : a.Words.list.getD m 0 = wa[m] := by rw [hA]; simp [List.getD, hv]
      have hacc : ∀ t, (TLine.pl ⟨x.Seq, x.Owner, x.Version, .mk t (x.Words.list ++ [wa[m]])⟩, TActor.pa ⟨a.Writer, a.Line, a.Version, a.Words, a.State, m + 1 + 1, a.Seq⟩) = acc me x.pl a.pa := fun t => by
        simp [acc, TLine.pl, TActor.pa, hs, hw, hm, hA, h0', h1', hv]
      generalize wa[m] = v at hv hacc
      cases hX : x.Words with
      | nil =>
        simp [encX, encY, hi, hj, hm, h0', h1', putA, w5, w6, w7, hg, hA, hX, SL.at_, TActor.inn, TLine.inn, flat_wood]
        rw [hX] at m1 m2 hacc
        simp only [SL.list_nil, SL.list_mk, List.nil_append] at m1 m2 hacc
        refine ⟨hmm, v, hv, ?_⟩
        simp [encX, encY, hi, hj, hm, putA, w7, m1, m2]
        refine ⟨by unfold mx; omega, ?_⟩
        have hp : (⟨false, tw, 1, wa.map encI⟩ :: (R ++ [⟨false, c, 1, [[AV.int IntKind.i64 v]]⟩, ⟨false, c + 1, 1, [[AV.int IntKind.i64 v]]⟩]) : List AObj).Perm ((TActor.mk a.Writer a.Line a.Version (.mk tw wa) a.State (m + 1 + 1) a.Seq).inn ++ ((TLine.mk x.Seq x.Owner x.Version (.mk (c + 1) [v])).inn ++ ([⟨false, c, 1, [[AV.int IntKind.i64 v]]⟩] ++ R))) := by
          simp only [TActor.inn, TLine.inn, flat_wood, List.singleton_append]
          refine List.Perm.cons _ ?_
          refine List.perm_append_comm.trans ?_
          exact List.Perm.swap _ _ _
        have := fin_turned (tl := tl) (ta := ta) (i := i) (j := j) (l := l) (cs := cs) (c := c + 1 + 1) (k1 := R.length + 1 + 1 + 1 + 1) (k2 := 2) (v := oneOf []) rfl (hA ▸ hacc (c + 1)) hp (by simp [TActor.inn, TLine.inn, hA, hX, flat_wood]) (tidy1 (tidyB _ _))
        simpa [encX, encY, SL.at_] using this

      | mk tx wx =>
        simp [encX, encY, hi, hj, hm, h0', h1', putA, w5, w6, w7, hg, hA, hX, SL.at_, TActor.inn, TLine.inn, flat_wood]
        rw [hX] at m1 m2 hacc
        simp only [SL.list_nil, SL.list_mk, List.nil_append] at m1 m2 hacc
        refine ⟨hmm, v, hv, ?_⟩
        simp [encX, encY, hi, hj, hm, putA, w7, m1, m2]
        have hp : (⟨false, tw, 1, wa.map encI⟩ :: ⟨false, c + 1, 1, wx.map encI ++ [[AV.int IntKind.i64 v]]⟩ :: (R ++ [⟨false, c, 1, [[AV.int IntKind.i64 v]]⟩]) : List AObj).Perm ((TActor.mk a.Writer a.Line a.Version (.mk tw wa) a.State (m + 1 + 1) a.Seq).inn ++ ((TLine.mk x.Seq x.Owner x.Version (.mk (c + 1) (wx ++ [v]))).inn ++ ([⟨false, c, 1, [[AV.int IntKind.i64 v]]⟩] ++ R))) := by
          simp only [TActor.inn, TLine.inn, flat_wood, List.singleton_append, List.map_append]
          refine List.Perm.cons _ (List.Perm.cons _ ?_)
          exact List.perm_append_comm
        have := fin_turned (tl := tl) (ta := ta) (i := i) (j := j) (l := l) (cs := cs) (c := c + 1 + 1) (k1 := 3) (k2 := 2) (v := oneOf []) rfl (hA ▸ hacc (c + 1)) hp (by simp [TActor.inn, TLine.inn, hA, hX, flat_wood]) (tidy1 (tidyB _ _))
        simpa [encX, encY, SL.at_] using this

  · simp [encX, encY, hi, hj, h0, h1, putA, w1, w2, w3]
    exact fin_turned (k1 := 3) (k2 := 2) (x' := ⟨x.Seq + 1, 0, x.Version, x.Words⟩) (a' := ⟨a.Writer, a.Line, a.Version, a.Words, 2, a.At, a.Seq⟩) (J := []) rfl (by simp [acc, TLine.pl, TActor.pa, hs, hw, h0, h1]) (List.Perm.refl _) (Nat.le_refl _) tidy0
end A
end Go.Proofs.Ytfcimcoanlgldaa
