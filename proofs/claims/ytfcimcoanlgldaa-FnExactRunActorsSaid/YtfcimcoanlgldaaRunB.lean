/-
  What RunActors hands back: contents and sizes; as trees. No condition.
-/
import Derived.Test.YtfcimcoanlgldaaMActor
import Derived.Test.YtfcimcoanlgldaaAct8
namespace Go.Proofs.Ytfcimcoanlgldaa
namespace A
set_option linter.unusedVariables false
set_option linter.unusedSimpArgs false
set_option maxRecDepth 100000

theorem areLines_conR {l m : List TLine} (h : l.map TLine.con = m.map TLine.con) : areLines l = areLines m := by
  have e : ∀ l : List TLine, areLines l = areLines (l.map TLine.con) := fun l => by
    unfold areLines
    rw [List.all_map, List.length_map]
    rfl
  rw [e, e m, h]
theorem con_of_pl {l m : List TLine} (h : l.map TLine.pl = m.map TLine.pl) : l.map TLine.con = m.map TLine.con := by
  have e : ∀ l : List TLine, l.map TLine.con = (l.map TLine.pl).map fun p => (⟨p.Seq, p.Owner, p.Version, .mk 0 p.Words⟩ : TLine) := fun l => by rw [List.map_map]; rfl
  rw [e l, e m, h]
theorem con_of_pa {l m : List TActor} (h : l.map TActor.pa = m.map TActor.pa) : l.map TActor.con = m.map TActor.con := by
  have e : ∀ l : List TActor, l.map TActor.con = (l.map TActor.pa).map fun p => (⟨p.Writer, p.Line, p.Version, .mk 0 p.Words, p.State, p.At, p.Seq⟩ : TActor) := fun l => by rw [List.map_map]; rfl
  rw [e l, e m, h]
theorem pa_of_con {l m : List TActor} (h : l.map TActor.con = m.map TActor.con) : l.map TActor.pa = m.map TActor.pa := by
  have e : ∀ l : List TActor, l.map TActor.pa = (l.map TActor.con).map TActor.pa := fun l => by rw [List.map_map]; rfl
  rw [e l, e m, h]
theorem runAll_con {l l' : List TLine} {d d' : List TActor} (h : l.map TLine.con = l'.map TLine.con) (hd : d.map TActor.con = d'.map TActor.con) (sch : List Int) : runAll l d sch = runAll l' d' sch := by
  have h1 : areLines l = areLines l' := areLines_conR h
  have h2 : areActors d = areActors d' := areActors_con (s := .mk 0 d) (t := .mk 0 d') hd
  have h3 : d.length = d'.length := by simpa using congrArg List.length hd
  unfold runAll
  rw [h1, h2, h3, pl_of_con h, pa_of_con hd]
theorem nt_begin {l : List TLine} {d : List TActor} (h1 : areLines l = true) (h2 : areActors d = true) : NT 1000000000000 (l.map TLine.pl) 0 (l.map TLine.pl, d.map TActor.pa) := by
  unfold areLines at h1
  unfold areActors at h2
  simp only [Bool.and_eq_true, List.all_eq_true, decide_eq_true_eq] at h1 h2
  have st : ∀ a, a ∈ d.map TActor.pa → a.State = 0 := fun a ha => by
    obtain ⟨y, hy, rfl⟩ := List.mem_map.1 ha
    have := h2.1 y hy
    unfold actorOk at this
    simp only [Bool.and_eq_true, decide_eq_true_eq] at this
    exact this.1.1.1.2
  refine ⟨by simpa using h2.2, fun x hx => ?_, fun a ha => ?_, fun i a hia hw hs => ?_, fun i a hia hw hs => ?_, fun k x hk hp => .inr (.inl ⟨x, hk, rfl, rfl⟩), fun a ha hw hs => ?_⟩
  · obtain ⟨y, hy, rfl⟩ := List.mem_map.1 hx
    have := h1.1 y hy
    unfold lineOk inR at this
    simp only [Bool.and_eq_true, decide_eq_true_eq, beq_iff_eq, decide_eq_decide] at this
    obtain ⟨⟨⟨⟨⟨q1, q2⟩, q3, q4⟩, q5, q6⟩, q7⟩, q8⟩ := this
    exact ⟨q1, by simp only [TLine.pl]; omega, q3, q4, q5, q6, q7, q8⟩
  · obtain ⟨y, hy, rfl⟩ := List.mem_map.1 ha
    have := h2.1 y hy
    unfold actorOk inR at this
    simp only [Bool.and_eq_true, decide_eq_true_eq, Bool.or_eq_true] at this
    obtain ⟨⟨⟨⟨⟨⟨⟨q1, q2⟩, q3, q4⟩, q5⟩, q6⟩, q7⟩, q8⟩, q9⟩ := this
    exact ⟨q3, q4, q5, fun _ => ⟨q7, fun hw => by
      rcases q9 with q9 | q9
      · rw [show y.Writer = false from hw] at q9; cases q9
      · exact List.eq_nil_of_length_eq_zero q9⟩⟩
  · have := st a (List.mem_of_getElem? hia); omega
  · have := st a (List.mem_of_getElem? hia); omega
  · have := st a ha; omega

theorem szL_bound {α : Type} (f : α → Nat) (m : Nat) : ∀ (l : List α), (∀ x, x ∈ l → f x ≤ m) → szL f l ≤ m * l.length := by
  intro l
  induction l with
  | nil => intro _; simp [szL]
  | cons x l ih =>
    intro h
    have h1 := h x (List.mem_cons_self ..)
    have h2 := ih fun y hy => h y (List.mem_cons_of_mem _ hy)
    simp only [szL, List.map_cons, List.sum_cons, List.length_cons, Nat.mul_add] at h2 ⊢
    omega
structure SzOk (b : SL TLine) (e : SL TActor) : Prop where
  l1 : szL cLine b.list ≤ 8388608
  l2 : ∀ x, x ∈ b.list → x.Words.list.length ≤ 1048576
  l3 : szLineS b ≤ 1099511627776
  a1 : szL cActor e.list ≤ 16777216
  a2 : ∀ x, x ∈ e.list → x.Words.list.length ≤ 1048576
  a3 : szActorS e ≤ 1099511627776
theorem run_sz {l : List TLine} {d : List TActor} {sch : List Int} (hl : l.length + szL TLine.sz l ≤ 1048576) (hd : d.length + szL TActor.sz d ≤ 1048576) {b : SL TLine} {e : SL TActor} (h : (b.list.map TLine.pl, e.list.map TActor.pa) = runAll l d sch) : SzOk b e := by
  have kl : ∀ l : List TLine, szL cLine l ≤ 3 * l.length + szL TLine.sz l := fun l => by
    induction l with
    | nil => simp [szL]
    | cons x l ih =>
      have e : x.sz = x.Words.list.length := rfl
      simp only [szL, List.map_cons, List.sum_cons, List.length_cons, cLine, e] at ih ⊢; omega
  have ka : ∀ l : List TActor, szL cActor l ≤ 6 * l.length + szL TActor.sz l := fun l => by
    induction l with
    | nil => simp [szL]
    | cons x l ih =>
      have e : x.sz = x.Words.list.length := rfl
      simp only [szL, List.map_cons, List.sum_cons, List.length_cons, cActor, e] at ih ⊢; omega
  have e1 : ∀ x : TLine, x.sz = x.Words.list.length := fun _ => rfl
  have e2 : ∀ x : TActor, x.sz = x.Words.list.length := fun _ => rfl
  have fin : b.list.length + szL TLine.sz b.list ≤ 1048576 → e.list.length + szL TActor.sz e.list ≤ 1048576 → SzOk b e := fun q1 q2 => by
    have b1 := szLine_bounds q1
    have b2 := szActor_bounds q2
    exact ⟨b1.1, b1.2.1, by unfold szLineS; omega, b2.1, b2.2.1, by unfold szActorS; omega⟩
  unfold runAll at h
  split at h
  · rename_i hc
    simp only [Bool.and_eq_true, decide_eq_true_eq] at hc
    have nt := NT.run sch sch.length (Nat.le_refl _) (nt_begin hc.1.1 hc.1.2)
    rw [List.take_length, ← h] at nt
    have hlen := run_len (l.map TLine.pl, d.map TActor.pa) sch
    rw [← h] at hlen
    have hll : l.length ≤ 8 := by have := hc.1.1; unfold areLines at this; simp only [Bool.and_eq_true, decide_eq_true_eq] at this; exact this.2
    have hdl : d.length ≤ 8 := by have := hc.1.2; unfold areActors at this; simp only [Bool.and_eq_true, decide_eq_true_eq] at this; exact this.2
    simp at hlen
    have w1 : ∀ x, x ∈ b.list → x.Words.list.length ≤ 4100 := fun x hx => (nt.ok x.pl (List.mem_map.2 ⟨x, hx, rfl⟩)).w
    have w2 : ∀ x, x ∈ e.list → x.Words.list.length ≤ 4100 := fun x hx => (nt.ao x.pa (List.mem_map.2 ⟨x, hx, rfl⟩)).w
    have s1 := szL_bound TLine.sz 4100 b.list w1
    have s2 := szL_bound TActor.sz 4100 e.list w2
    exact fin (by omega) (by omega)
  · have h1 : b.list.map TLine.pl = l.map TLine.pl := congrArg Prod.fst h
    have h2 : e.list.map TActor.pa = d.map TActor.pa := congrArg Prod.snd h
    have q1 := szLineS_con (s := b) (t := .mk 0 l) (con_of_pl h1)
    have q2 := szActorS_con (s := e) (t := .mk 0 d) (con_of_pa h2)
    unfold szLineS at q1
    unfold szActorS at q2
    simp only [SL.list_mk] at q1 q2
    exact fin (by omega) (by omega)

/-- What is handed back, seen as trees. -/
theorem run_tr {f : Nat} {args : List AV} {p : List PL × List PA} (h : ∀ c, Con Try.prog f args [] c fun r O _ => RunQ p r O) :
    Tr Try.prog f args fun _ r => ∃ (b : SL TLine) (e : SL TActor), r = .tup [b.av 4 TLine.enc, e.av 7 TActor.enc] ∧ (b.list.map TLine.pl, e.list.map TActor.pa) = p :=
  tr_of h fun c r O c' _ ⟨b, e, h1, h2, h3⟩ ht => ⟨.tup [b.av 4 TLine.enc, e.av 7 TActor.enc], by
    rw [h1]
    exact view_tup (.cons (view_line (by rw [h2]; exact fun _ h => List.mem_append_left _ h)) (.cons (view_actor (by rw [h2]; exact fun _ h => List.mem_append_right _ h)) .nil)), ⟨b, e, rfl, h3⟩, from_tup fun a ha => by
    have eT : ∀ X Y : List AObj, tags (X ++ Y) = tags X ++ tags Y := fun X Y => by simp [tags]
    rw [h2, eT] at ht
    simp at ha
    rcases ha with rfl | rfl
    · exact line_from fun t h => ht t (List.mem_append_left _ h)
    · exact actor_from fun t h => ht t (List.mem_append_right _ h)⟩
end A
end Go.Proofs.Ytfcimcoanlgldaa
