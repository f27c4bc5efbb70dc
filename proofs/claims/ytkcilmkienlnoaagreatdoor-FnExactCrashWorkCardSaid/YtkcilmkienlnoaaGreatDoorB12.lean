import Derived.Handed
import Derived.Test.YtkcilmkienlnoaaGreatDoorRows
import Derived.OpenShut
import Derived.ProofKit
import Derived.LaidMore
import Derived.Lay
import Derived.LaidLaws
import Derived.LaidSub
import Derived.SevenTiedAt
import Derived.Stop.Joined
import Derived.Lib.LaidTab
import Derived.Test.YtkcilmkienlnoaaGreatDoorTie
import Derived.Test.YtkcilmkienlnoaaGreatDoorCards
import Derived.Test.YtkcilmkienlnoaaGreatDoorB11

/-
  CrashWork of the program is the plain function. No condition.
-/




namespace Go.Proofs.YtkcilmkienlnoaaGreatDoor
namespace A
set_option linter.unusedVariables false
set_option linter.unusedSimpArgs false
set_option maxRecDepth 100000

/-- A server and a word, the parts named by places, the objects among others. -/
def SrvK (ok : Bool) (s : TServer) (r : AV) (O : List AObj) : Prop := ∃ (b : TServer) (l : List AV) (U T G : List AObj), r = .tup [.agg l, .bool ok] ∧ Views [] l b.encO ∧ O = U ++ T ∧ T.Perm (b.inn ++ G) ∧ b.con = s.con
theorem con_srvK {f : Nat} {args : List AV} {ok : Bool} {s : TServer} {c : Nat} (h : Con Tryz.prog f args [] c fun r O _ => SrvK ok s r O) : Con Tryz.prog f args [] c fun r O _ => SrvQ ok s r O :=
  Con.fin (con_perm (Q' := fun r O _ => ∃ (b : TServer) (l : List AV), r = .tup [.agg l, .bool ok] ∧ Views [] l b.encO ∧ O = b.inn ∧ b.con = s.con) h fun r O c' ⟨b, l, U, T, G, h1, h2, h3, h4, h5⟩ => by
    obtain ⟨Ts, hTp, hTs⟩ := List.exists_perm_sublist (List.sublist_append_left b.inn G) h4.symm
    exact ⟨Ts, b.inn, by rw [h3]; exact hTs.trans (List.sublist_append_right _ _), hTp.symm, b, l, h1, h2, rfl, h5⟩) fun r O c' _ ⟨b, l, h1, h2, h3, h4⟩ _ _ => by
      subst h1; subst h3
      exact fin_sub (List.Sublist.refl _) (view_tup (.cons (view_agg h2 b.cellsO) (.cons (.refl _) .nil))) ⟨b, rfl, rfl, h4⟩
theorem cnt_set {H : List AObj} {i : Nat} {a : AObj} (h : H[i]? = some a) (x : AObj) (p : AObj → Bool) : (H.set i x).countP p + [a].countP p = H.countP p + [x].countP p := by
  obtain ⟨hi, hy⟩ := List.getElem?_eq_some_iff.1 h
  have e : H = H.take i ++ a :: H.drop (i + 1) := by rw [← hy, ← List.drop_eq_getElem_cons hi, List.take_append_drop]
  have e2 : H.set i x = H.take i ++ x :: H.drop (i + 1) := by rw [List.set_eq_take_append_cons_drop, if_pos hi]
  rw [e2]
  conv => rhs; rw [e]
  simp only [List.countP_append, List.countP_cons, List.countP_nil]
  omega
theorem setW_cnt {α : Type} {inn : α → List AObj} {l : List α} {k : Nat} {x : α} (h : l[k]? = some x) (z : α) (p : AObj → Bool) : ((l.set k z).flatMap inn).countP p + (inn x).countP p = (l.flatMap inn).countP p + (inn z).countP p := by
  obtain ⟨hi, hy⟩ := List.getElem?_eq_some_iff.1 h
  have e : l = l.take k ++ x :: l.drop (k + 1) := by rw [← hy, ← List.drop_eq_getElem_cons hi, List.take_append_drop]
  have e1 : l.flatMap inn = (l.take k ++ x :: l.drop (k + 1)).flatMap inn := congrArg (fun m => List.flatMap inn m) e
  have e2 : l.set k z = l.take k ++ z :: l.drop (k + 1) := by rw [List.set_eq_take_append_cons_drop, if_pos hi]
  rw [e1, e2]
  simp only [List.flatMap_append, List.flatMap_cons, List.countP_append]
  omega
theorem seq_cutS {P : Program} {A B : IR} {Q : Post} {e : Env} {H : List AObj} {c : Nat} (R : Env → List AObj → Nat → Prop) (hB : ∀ e H c, R e H c → irW P B Q e H c)
    (hA : ∀ K : Env → List AObj → Nat → Prop, (∀ e H c, R e H c → K e H c) → irW P A (thenQ K Q) e H c) : irW P (A.seq B) Q e H c := hA _ hB
theorem thenQ_then (X K : Env → List AObj → Nat → Prop) (Q : Post) : thenQ X (thenQ K Q) = thenQ X Q := by
  funext x
  cases x <;> rfl
theorem irW_assoc {P : Program} {A B C : IR} {Q : Post} {e : Env} {H : List AObj} {c : Nat} : irW P (A.seq (B.seq C)) Q e H c = irW P ((A.seq B).seq C) Q e H c := by
  show irW P A (thenQ (irW P B (thenQ (irW P C Q) Q)) Q) e H c = irW P A (thenQ (irW P B (thenQ (irW P C Q) Q)) (thenQ (irW P C Q) Q)) e H c
  rw [thenQ_then]
theorem seq_cut5 {P : Program} {A1 A2 A3 A4 A5 B : IR} {Q : Post} {e : Env} {H : List AObj} {c : Nat} (R : Env → List AObj → Nat → Prop) (hB : ∀ e H c, R e H c → irW P B Q e H c)
    (hA : ∀ K : Env → List AObj → Nat → Prop, (∀ e H c, R e H c → K e H c) → irW P (A1.seq (A2.seq (A3.seq (A4.seq A5)))) (thenQ K Q) e H c) : irW P (A1.seq (A2.seq (A3.seq (A4.seq (A5.seq B))))) Q e H c := by
  have h := hA _ hB
  rw [irW_assoc, irW_assoc, irW_assoc] at h
  rw [irW_assoc, irW_assoc, irW_assoc, irW_assoc]
  exact h
/-- A call that is handed an object and the last one; the first may be named anew. -/
theorem call_pairS {P : Program} {K : AV → List AObj → Nat → Prop} {f : Nat} {l l' : List AV} {a b : AObj} {H : List AObj} {i c : Nat} {Q : AV → List AObj → Nat → Prop} (hi : H[i]? = some a) (hf : Con P f l' [a, b] c Q) (hv : Views [] l l')
    (k : ∀ r O c', c ≤ c' → Q r O c' → ∃ a' r', O = [a', b] ∧ (a'.tag = a.tag ∨ c ≤ a'.tag) ∧ View [] r r' ∧ Av [] r' ∧ AvRows [] a' ∧ AvRows [] b ∧ K r' (H.set i a' ++ [b]) c') : CallW P f l (H ++ [b]) c K := by
  intro hn hlt
  obtain ⟨h1, h2⟩ := hv.spec
  obtain ⟨hil, hy⟩ := List.getElem?_eq_some_iff.1 hi
  have e : H = H.take i ++ a :: H.drop (i + 1) := by rw [← hy, ← List.drop_eq_getElem_cons hil, List.take_append_drop]
  have e2 : ∀ x, H.set i x = H.take i ++ x :: H.drop (i + 1) := fun x => by rw [List.set_eq_take_append_cons_drop, if_pos hil]
  have hsub : [a, b].Sublist (H ++ [b]) := by
    have : [a].Sublist H := by rw [List.singleton_sublist]; exact List.mem_of_getElem? hi
    exact this.append (List.Sublist.refl [b])
  refine ⟨[a, b], [], l', Q, hsub, by simp, by simp [tags], h1, h2, hf, fun r O c' hc hq ho hd => ?_⟩
  obtain ⟨a', r', rfl, ht, k1, k2, k3, k3b, k4⟩ := k r O c' hc hq
  have hn2 : (tags (H.take i) ++ a.tag :: (tags (H.drop (i + 1)) ++ [b.tag])).Nodup := by
    have e3 : tags (H ++ [b]) = tags (H.take i) ++ a.tag :: (tags (H.drop (i + 1)) ++ [b.tag]) := by
      conv => lhs; rw [e]
      simp [tags]
    rw [← e3]; exact hn
  have hlt2 : ∀ t, t ∈ tags (H.take i) ++ a.tag :: (tags (H.drop (i + 1)) ++ [b.tag]) → t < c := fun t ht' => hlt t (by
    have e3 : tags (H ++ [b]) = tags (H.take i) ++ a.tag :: (tags (H.drop (i + 1)) ++ [b.tag]) := by
      conv => lhs; rw [e]
      simp [tags]
    rw [e3]; exact ht')
  have et : tags (H.set i a' ++ [b]) = tags (H.take i) ++ a'.tag :: (tags (H.drop (i + 1)) ++ [b.tag]) := by rw [e2]; simp [tags]
  refine ⟨H.set i a' ++ [b], r', fun o h => ?_, ?_, k1, k2, fun o _ h => ?_, k4⟩
  · obtain ⟨n1, n2, n3⟩ := List.nodup_append.1 hn2
    obtain ⟨n4, n5⟩ := List.nodup_cons.1 n2
    obtain ⟨n6, n7, n8⟩ := List.nodup_append.1 n5
    rw [e2] at h
    simp only [List.append_assoc, List.cons_append, List.mem_append, List.mem_cons, List.not_mem_nil, or_false] at h
    rcases h with h | rfl | h | rfl
    · refine .inr ⟨by rw [e]; simp [h], ?_⟩
      simp only [tags, List.map_cons, List.map_nil, List.mem_cons, List.not_mem_nil, or_false, not_or]
      exact ⟨fun e4 => n3 _ (mem_tags h) _ List.mem_cons_self e4, fun e4 => n3 _ (mem_tags h) _ (List.mem_cons_of_mem _ (List.mem_append_right _ List.mem_cons_self)) e4⟩
    · exact .inl List.mem_cons_self
    · refine .inr ⟨by rw [e]; simp [h], ?_⟩
      simp only [tags, List.map_cons, List.map_nil, List.mem_cons, List.not_mem_nil, or_false, not_or]
      exact ⟨fun e4 => n4 (List.mem_append_left _ (e4 ▸ mem_tags h)), fun e4 => n8 _ (mem_tags h) _ List.mem_cons_self e4⟩
    · exact .inl (List.mem_cons_of_mem _ List.mem_cons_self)
  · rw [et]
    rcases ht with ht | ht
    · rw [ht]; exact hn2
    · obtain ⟨n1, n2, n3⟩ := List.nodup_append.1 hn2
      obtain ⟨n4, n5⟩ := List.nodup_cons.1 n2
      refine List.nodup_append.2 ⟨n1, List.nodup_cons.2 ⟨fun h => ?_, n5⟩, fun x hx y hy => ?_⟩
      · have := hlt2 _ (List.mem_append_right _ (List.mem_cons_of_mem _ h)); omega
      · rcases List.mem_cons.1 hy with rfl | hy
        · have := hlt2 _ (List.mem_append_left _ hx); omega
        · exact n3 _ hx _ (List.mem_cons_of_mem _ hy)
  · simp only [List.mem_cons, List.not_mem_nil, or_false] at h
    rcases h with rfl | rfl
    · exact k3
    · exact k3b
/-- A call that is handed the last object and hands back one more. -/
theorem call_lastS {P : Program} {K : AV → List AObj → Nat → Prop} {f : Nat} {l l' : List AV} {b : AObj} {H : List AObj} {c : Nat} {Q : AV → List AObj → Nat → Prop} (hf : Con P f l' [b] c Q) (hv : Views [] l l')
    (k : ∀ r O c', c ≤ c' → Q r O c' → ∃ n r', O = [b, n] ∧ c ≤ n.tag ∧ View [] r r' ∧ Av [] r' ∧ AvRows [] b ∧ AvRows [] n ∧ K r' (H ++ [b, n]) c') : CallW P f l (H ++ [b]) c K := by
  intro hn hlt
  obtain ⟨h1, h2⟩ := hv.spec
  refine ⟨[b], [], l', Q, List.sublist_append_right _ _, by simp, by simp [tags], h1, h2, hf, fun r O c' hc hq ho hd => ?_⟩
  obtain ⟨n, r', rfl, ht, k1, k2, k3, k3b, k4⟩ := k r O c' hc hq
  have e3 : tags (H ++ [b]) = tags H ++ [b.tag] := by simp [tags]
  rw [e3] at hn hlt
  obtain ⟨n1, n2, n3⟩ := List.nodup_append.1 hn
  have et : tags (H ++ [b, n]) = tags H ++ [b.tag, n.tag] := by simp [tags]
  have hbn : b.tag ≠ n.tag := fun e => by have := hlt b.tag (by simp); omega
  refine ⟨H ++ [b, n], r', fun o h => ?_, ?_, k1, k2, fun o _ h => ?_, k4⟩
  · simp only [List.mem_append, List.mem_cons, List.not_mem_nil, or_false] at h
    rcases h with h | rfl | rfl
    · refine .inr ⟨by simp [h], ?_⟩
      simp only [tags, List.map_cons, List.map_nil, List.mem_cons, List.not_mem_nil, or_false]
      exact fun e4 => n3 _ (mem_tags h) _ List.mem_cons_self e4
    · exact .inl List.mem_cons_self
    · exact .inl (List.mem_cons_of_mem _ List.mem_cons_self)
  · rw [et]
    refine List.nodup_append.2 ⟨n1, by simp [hbn], fun x hx y hy => ?_⟩
    simp only [List.mem_cons, List.not_mem_nil, or_false] at hy
    rcases hy with rfl | rfl
    · exact n3 _ hx _ List.mem_cons_self
    · have := hlt x (List.mem_append_left _ hx); omega
  · simp only [List.mem_cons, List.not_mem_nil, or_false] at h
    rcases h with rfl | rfl
    · exact k3
    · exact k3b

/-- The state behind the chosen worker: the server's parts, where they lie, and what else is there. -/
structure CSt (s : TServer) (k c c1 tb io iL iQ iW t : Nat) (x : TWorker) (Y : List AObj) (b : TServer) (ws : List TWorker) (e : Env) (H : List AObj) : Prop where
  e1 : e 1 = .int .i64 k
  e2 : e 2 = .ptr 0 c 8 0 0
  e4 : e 4 = .ptr 1 (c + 1) 8 0 0
  e6 : e 6 = .ptr io c1 8 0 0
  e7 : e 7 = .ptr (io + 1) tb 9 0 0
  h0 : H[0]? = some ⟨false, c, 8, [s.enc]⟩
  h1 : H[1]? = some ⟨false, c + 1, 8, [[.nsl, .nsl, .nsl, .nsl, .nsl, .nsl, .int .i64 0, .int .i64 0]]⟩
  ho : H[io]? = some ⟨false, c1, 8, [[b.Files.ref 3, b.Lines.at_ iL 4, b.Sessions.ref 4, b.Queue.at_ iQ 5, .ref iW t 9 ws.length, b.Done.ref 11, .int .i64 b.Next, .int .i64 b.Now]]⟩
  hx : H[io + 1]? = some ⟨false, tb, 9, [x.encO]⟩
  hw : b.Workers = .mk t ws
  hW : H[iW]? = some ⟨false, t, 9, ws.map TWorker.encO⟩
  hL : ∀ tl ls, b.Lines = .mk tl ls → H[iL]? = some ⟨false, tl, 4, ls.map TLine.encO⟩
  hQ : ∀ tq l, b.Queue = .mk tq l → H[iQ]? = some ⟨false, tq, 5, l.map TJob.encO⟩
  hF : ∀ o, o ∈ x.Files.wood 3 TFile.enc noInn → o ∈ H
  ne : iW < io ∧ 2 ≤ io ∧ 2 ≤ iW
  cnt : ∃ G, ∀ p, H.countP p = b.inn.countP p + (Y.countP p + (List.countP p G + (List.countP p [⟨false, c + 1, 8, [[.nsl, .nsl, .nsl, .nsl, .nsl, .nsl, .int .i64 0, .int .i64 0]]⟩] + List.countP p [⟨false, c1, 8, [[b.Files.ref 3, b.Lines.at_ iL 4, b.Sessions.ref 4, b.Queue.at_ iQ 5, .ref iW t 9 ws.length, b.Done.ref 11, .int .i64 b.Next, .int .i64 b.Now]]⟩])))

/-- Where a part of the copy lies. -/
theorem mem_setN {H : List AObj} {i : Nat} {x a o : AObj} (hi : H[i]? = some a) (ho : o ∈ H) (hne : o ≠ a) : o ∈ H.set i x := by
  obtain ⟨j, hj⟩ := List.mem_iff_getElem?.1 ho
  have : i ≠ j := fun e => by rw [e] at hi; rw [hi] at hj; cases hj; exact hne rfl
  exact List.mem_iff_getElem?.2 ⟨j, by rw [List.getElem?_set_ne this]; exact hj⟩
theorem file_w {s : SL TFile} {o : AObj} (h : o ∈ s.wood 3 TFile.enc noInn) : o.w = 3 := by
  cases s with
  | nil => simp [SL.wood] at h
  | mk t l => rw [flat_wood] at h; simp at h; rw [h]
theorem at_inn {b : TServer} (Z : List AObj) (hZ : 0 < Z.length) : ∃ iL iQ, iL < (Z ++ b.inn).length ∧ iQ < (Z ++ b.inn).length ∧ (∀ tl ls, b.Lines = .mk tl ls → iL < (Z ++ b.inn).length ∧ (Z ++ b.inn)[iL]? = some ⟨false, tl, 4, ls.map TLine.encO⟩) ∧ (∀ tq l, b.Queue = .mk tq l → iQ < (Z ++ b.inn).length ∧ (Z ++ b.inn)[iQ]? = some ⟨false, tq, 5, l.map TJob.encO⟩) := by
  obtain ⟨iL, q1, q2⟩ : ∃ iL, iL < (Z ++ b.inn).length ∧ (∀ tl ls, b.Lines = .mk tl ls → iL < (Z ++ b.inn).length ∧ (Z ++ b.inn)[iL]? = some ⟨false, tl, 4, ls.map TLine.encO⟩) := by
    cases h : b.Lines with
    | nil => exact ⟨0, by simp; omega, fun _ _ h => by cases h⟩
    | mk tl ls =>
      have hm : (⟨false, tl, 4, ls.map TLine.encO⟩ : AObj) ∈ Z ++ b.inn := by simp [TServer.inn, h, SL.wood, wood]
      obtain ⟨i, hi⟩ := List.mem_iff_getElem?.1 hm
      have := (List.getElem?_eq_some_iff.1 hi).1
      exact ⟨i, by omega, fun _ _ h => by cases h; exact ⟨this, hi⟩⟩
  obtain ⟨iQ, q3, q4⟩ : ∃ iQ, iQ < (Z ++ b.inn).length ∧ (∀ tq l, b.Queue = .mk tq l → iQ < (Z ++ b.inn).length ∧ (Z ++ b.inn)[iQ]? = some ⟨false, tq, 5, l.map TJob.encO⟩) := by
    cases h : b.Queue with
    | nil => exact ⟨0, by simp; omega, fun _ _ h => by cases h⟩
    | mk tl ls =>
      have hm : (⟨false, tl, 5, ls.map TJob.encO⟩ : AObj) ∈ Z ++ b.inn := by simp [TServer.inn, h, SL.wood, wood]
      obtain ⟨i, hi⟩ := List.mem_iff_getElem?.1 hm
      have := (List.getElem?_eq_some_iff.1 hi).1
      exact ⟨i, by omega, fun _ _ h => by cases h; exact ⟨this, hi⟩⟩
  exact ⟨iL, iQ, q1, q3, q2, q4⟩
theorem at_worker {b : TServer} (Z : List AObj) {t : Nat} {ws : List TWorker} (h : b.Workers = .mk t ws) : ∃ iW, iW < b.inn.length ∧ (Z ++ b.inn)[Z.length + iW]? = some ⟨false, t, 9, ws.map TWorker.encO⟩ := by
  have hm : (⟨false, t, 9, ws.map TWorker.encO⟩ : AObj) ∈ b.inn := by simp [TServer.inn, h, SL.wood, wood]
  obtain ⟨i, hi⟩ := List.mem_iff_getElem?.1 hm
  exact ⟨i, (List.getElem?_eq_some_iff.1 hi).1, by rw [List.getElem?_append_right (by omega), Nat.add_sub_cancel_left]; exact hi⟩
theorem free_at {α : Type} (i w : Nat) (s : SL α) : Free (s.at_ i w) := fun T => by cases s <;> constructor

theorem mem_of_cnt {H X : List AObj} {n : (AObj → Bool) → Nat} (h : ∀ p : AObj → Bool, H.countP p = X.countP p + n p) {o : AObj} (ho : o ∈ X) : o ∈ H := by
  haveI : DecidableEq AObj := fun a b => Classical.propDecidable (a = b)
  have h1 := h fun x => decide (x = o)
  have h2 : 0 < X.countP fun x => decide (x = o) := List.countP_pos_iff.2 ⟨o, ho, by simp⟩
  obtain ⟨y, hy, hyo⟩ := List.countP_pos_iff.1 (show 0 < H.countP fun x => decide (x = o) by omega)
  simp at hyo
  exact hyo ▸ hy
theorem callF_fnv {P : Program} {H : List AObj} {c : Nat} {K : AV → List AObj → Nat → Prop} {f : Nat} {l l' : List AV} {res : AV} (hf : Fnc P f l' res) (hv : Views H l l') (hres : Av (tags H) res) (k : ∀ c', c ≤ c' → K res H c') : callFW P f l H c K := ⟨l', res, hv, hf, hres, k⟩
theorem w_ne {H : List AObj} {i j : Nat} {a b : AObj} (h1 : H[i]? = some a) (h2 : H[j]? = some b) (h : a.w ≠ b.w) : i ≠ j := fun e => by
  subst e; rw [h1] at h2; cases h2; exact h rfl
theorem inn_queue (b : TServer) (q : SL TJob) (p : AObj → Bool) : ({ b with Queue := q } : TServer).inn.countP p + (b.Queue.wood 5 TJob.encO TJob.inn).countP p = b.inn.countP p + (q.wood 5 TJob.encO TJob.inn).countP p := by
  simp only [TServer.inn, List.countP_append]; omega
theorem inn_sess (b : TServer) (q : SL TSession) (p : AObj → Bool) : ({ b with Sessions := q } : TServer).inn.countP p + (b.Sessions.wood 4 TSession.enc noInn).countP p = b.inn.countP p + (q.wood 4 TSession.enc noInn).countP p := by
  simp only [TServer.inn, List.countP_append]; omega
theorem inn_lines (b : TServer) (q : SL TLine) (p : AObj → Bool) : ({ b with Lines := q } : TServer).inn.countP p + (b.Lines.wood 4 TLine.encO TLine.inn).countP p = b.inn.countP p + (q.wood 4 TLine.encO TLine.inn).countP p := by
  simp only [TServer.inn, List.countP_append]; omega
theorem inn_worker (x : TWorker) (p : AObj → Bool) : x.inn.countP p = x.Job.inn.countP p + (x.Files.wood 3 TFile.enc noInn).countP p := by
  simp only [TWorker.inn, TJob.inn, List.countP_append]; omega
theorem impl_craK {s : TServer} {w : Int} (hs : SmSrv s) (hz : s.sz ≤ 1048576) (hw : -9223372036854775808 ≤ w ∧ w ≤ 9223372036854775807) (c : Nat) : Con Tryz.prog 7 [.agg s.enc, .int .i64 w] [] c fun r O _ => SrvK (craOk s w) (crash s w) r O := by
  have z7 := hs.2.2.2.2.2.2.1
  have hw1 : IntKind.i64.wrap ((s.Workers.list.length : Int) - 1) = (s.Workers.list.length : Int) - 1 := wrap64 (by omega) (by omega)
  refine con_of c7 (by simp [F7]) ?_
  unfold F7
  cases hok : craOk s w
  · have hrv : crash s w = s := crash_no hok
    simp [putA]
    refine call_new (impl_cpSrvO hs _) (Views.refl _ _) fun r1 O1 c1 hc1 ⟨b0, hr, hO, q0⟩ _ _ => ?_
    subst hr; subst hO
    refine ⟨_, .refl _, free_agg (TServer.freeO b0) _, fun o ho => TServer.freeI b0 o ho _, ?_⟩
    simp [putA, hw1]
    refine call_fn0 (inRange_fn _ _ _) .bool fun _ _ => ?_
    have fin : ∀ (U : List AObj) (x : AObj), SrvK false (crash s w) (.tup [.agg b0.encO, .bool false]) (U ++ (b0.inn ++ [x])) := fun U x => ⟨b0, b0.encO, U, b0.inn ++ [x], [x], rfl, Views.refl _ _, rfl, List.Perm.refl _, by rw [hrv]; exact q0⟩
    cases hin : inR w 0 ((s.Workers.list.length : Int) - 1)
    · simp [putA]
      exact fin_all (fin [_, _] _)
    · have hin0 := hin
      unfold inR at hin
      simp only [Bool.and_eq_true, decide_eq_true_eq] at hin
      obtain ⟨k, rfl⟩ := Int.eq_ofNat_of_zero_le hin.1
      have hk : k < s.Workers.list.length := by omega
      have hg : s.Workers.list[k]? = some s.Workers.list[k] := List.getElem?_eq_getElem hk
      unfold craOk at hok
      rw [hin0, Int.toNat_natCast, hg] at hok
      simp only [Bool.true_and, Bool.not_eq_false', decide_eq_true_eq] at hok
      generalize s.Workers.list[k] = x at hg hok
      simp [putA, hk]
      refine ⟨x, hg, ?_⟩
      simp [putA, hk, hok]
      exact fin_all (fin [_, _] _)
  · have hok0 := hok
    unfold craOk at hok
    rw [Bool.and_eq_true] at hok
    obtain ⟨hin0, hst⟩ := hok
    have hin := hin0
    unfold inR at hin
    simp only [Bool.and_eq_true, decide_eq_true_eq] at hin
    obtain ⟨k, rfl⟩ := Int.eq_ofNat_of_zero_le hin.1
    have hk : k < s.Workers.list.length := by omega
    have hg : s.Workers.list[k]? = some s.Workers.list[k] := List.getElem?_eq_getElem hk
    rw [Int.toNat_natCast, hg] at hst
    simp only [Bool.not_eq_true', decide_eq_false_iff_not] at hst
    have hw2 : IntKind.i64.wrap ((k : Int) + 1) = (k : Int) + 1 := wrap64 (by omega) (by omega)
    refine seq_cut5 (fun e H c' => ∃ c1 tb io iL iQ iW t x b ws, CSt s k c c1 tb io iL iQ iW t x x.inn b ws e H ∧ x.con = (s.Workers.list[k]).con ∧ b.con = ({ s with Workers := .mk 0 (s.Workers.list.set k (deadW s.Workers.list[k])) } : TServer).con ∧ k < ws.length) ?_ ?_
    rotate_left
    · intro K hK
      simp [putA]
      refine call_new (impl_cpSrvO hs _) (Views.refl _ _) fun r1 O1 c1 hc1 ⟨b0, hr, hO, q0⟩ _ _ => ?_
      subst hr; subst hO
      have qW : b0.Workers.list.map TWorker.con = s.Workers.list.map TWorker.con := congrArg (fun t : TServer => t.Workers.list) q0
      have qWl : b0.Workers.list.length = s.Workers.list.length := by simpa using congrArg List.length qW
      cases hbW : b0.Workers with
      | nil => rw [hbW] at qWl; simp at qWl; omega
      | mk t ws =>
      rw [hbW] at qW qWl
      simp only [SL.list_mk] at qW qWl
      obtain ⟨iL, iQ, n1, n2, fL, fQ⟩ := at_inn (b := b0) [⟨false, c, 8, [s.enc]⟩, ⟨false, c + 1, 8, [[.nsl, .nsl, .nsl, .nsl, .nsl, .nsl, .int .i64 0, .int .i64 0]]⟩] (by simp)
      obtain ⟨iW, n3, fW⟩ := at_worker [⟨false, c, 8, [s.enc]⟩, ⟨false, c + 1, 8, [[.nsl, .nsl, .nsl, .nsl, .nsl, .nsl, .int .i64 0, .int .i64 0]]⟩] hbW
      refine ⟨.agg [b0.Files.ref 3, b0.Lines.at_ iL 4, b0.Sessions.ref 4, b0.Queue.at_ iQ 5, .ref (2 + iW) t 9 ws.length, b0.Done.ref 11, .int .i64 b0.Next, .int .i64 b0.Now], view_agg (.cons (.refl _) (.cons (view_at _ _ _ _) (.cons (.refl _) (.cons (view_at _ _ _ _) (.cons ?_ (.cons (.refl _) (.cons (.refl _) (.cons (.refl _) .nil)))))))) ?_, ?_, ?_, ?_⟩
      · show View [] (b0.Workers.ref 9) _
        rw [hbW]; exact .name
      · intro a ha
        simp only [List.mem_cons, List.not_mem_nil, or_false] at ha
        rcases ha with rfl | rfl | rfl | rfl | rfl | rfl | rfl | rfl <;> first | rfl | exact cell_rf _ _ | exact cell_at _ _ _
      · refine free_agg (fun a ha => ?_) _
        simp only [List.mem_cons, List.not_mem_nil, or_false] at ha
        rcases ha with rfl | rfl | rfl | rfl | rfl | rfl | rfl | rfl
        · exact free_ref _ _
        · exact free_at _ _ _
        · exact free_ref _ _
        · exact free_at _ _ _
        · exact fun _ => .ref
        · exact free_ref _ _
        · exact free_int _ _
        · exact free_int _ _
      · exact fun o ho => TServer.freeI _ o ho _
      simp [putA, hw1]
      refine call_fn0 (inRange_fn _ _ _) .bool fun c2 hc2 => ?_
      simp [putA, hin0, hk]
      refine ⟨_, hg, ?_⟩
      have hkw : k < ws.length := by omega
      have gw : ws[k]? = some ws[k] := List.getElem?_eq_getElem hkw
      have qx : ws[k].con = (s.Workers.list[k]).con := by
        have := congrArg (fun m : List TWorker => m[k]?) qW
        simp only [List.getElem?_map, gw, hg, Option.map_some, Option.some.injEq] at this
        exact this
      generalize hx : ws[k] = x at gw qx
      have hl : ∀ o, ([⟨false, c, 8, [s.enc]⟩, ⟨false, c + 1, 8, [[.nsl, .nsl, .nsl, .nsl, .nsl, .nsl, .int .i64 0, .int .i64 0]]⟩] ++ b0.inn ++ o : List AObj) = ⟨false, c, 8, [s.enc]⟩ :: ⟨false, c + 1, 8, [[.nsl, .nsl, .nsl, .nsl, .nsl, .nsl, .int .i64 0, .int .i64 0]]⟩ :: (b0.inn ++ o) := fun o => by simp
      have gW : ∀ o, (⟨false, c, 8, [s.enc]⟩ :: ⟨false, c + 1, 8, [[.nsl, .nsl, .nsl, .nsl, .nsl, .nsl, .int .i64 0, .int .i64 0]]⟩ :: (b0.inn ++ o) : List AObj)[2 + iW]? = some ⟨false, t, 9, ws.map TWorker.encO⟩ := fun o => by
        rw [← hl, List.getElem?_append_left (by simp; omega)]; exact fW
      have hxl : x.encO.length = 9 := rfl
      have hdr : List.drop 9 x.encO = [] := rfl
      have gwx : (ws.map TWorker.encO)[k]? = some x.encO := by rw [List.getElem?_map, gw]; rfl
      simp [putA, hin0, hk, hst, hw2, qWl, getW_of (gW _), getW_of gwx, hdr]
      have hwl2 : ∀ y : TWorker, y.encO.length = 9 := fun _ => rfl
      have gLen : (ws.map TWorker.encO).length = ws.length := by simp
      refine hK _ _ _ ⟨c1, c2, b0.inn.length + 1 + 1, iL, iQ, 2 + iW, t, x, { b0 with Workers := .mk t (ws.set k (deadW x)) }, ws.set k (deadW x), ⟨by simp [upd], by simp [upd], by simp [upd], by simp [upd], by simp [upd], ?_, ?_, ?_, ?_, rfl, ?_, fun tl ls h => ?_, fun tq l h => ?_, fun o ho => ?_, ?_, ?_⟩, qx, ?_, by simpa using hkw⟩
      · rw [List.getElem?_set_ne (by omega)]; rfl
      · rw [List.getElem?_set_ne (by omega)]; rfl
      · rw [List.getElem?_set_ne (by omega), ← hl, List.getElem?_append_right (by simp)]
        simp [qWl]
      · rw [List.getElem?_set_ne (by omega), ← hl, List.getElem?_append_right (by simp)]
        simp
      · rw [List.getElem?_set_self (by simp; omega), List.map_set]
        rfl
      · obtain ⟨l1, l2⟩ := fL tl ls h
        have hne : 2 + iW ≠ iL := fun e => by rw [← e] at l2; have := fW.symm.trans l2; simp at this
        rw [List.getElem?_set_ne hne, ← hl, List.getElem?_append_left (by simpa using l1)]
        exact l2
      · obtain ⟨l1, l2⟩ := fQ tq l h
        have hne : 2 + iW ≠ iQ := fun e => by rw [← e] at l2; have := fW.symm.trans l2; simp at this
        rw [List.getElem?_set_ne hne, ← hl, List.getElem?_append_left (by simpa using l1)]
        exact l2
      · refine mem_setN (gW _) ?_ fun e => by have := file_w ho; rw [e] at this; simp at this
        have h1 : o ∈ x.inn := by simp [TWorker.inn, ho]
        have h2 : o ∈ b0.inn := by
          simp only [TServer.inn, hbW, SL.wood, wood, List.mem_append, List.mem_cons, List.mem_flatMap]
          exact .inr (.inr (.inr (.inr (.inl (.inr ⟨x, List.mem_of_getElem? gw, h1⟩)))))
        simp [h2]
      · simp at n1 n2; omega
      · refine ⟨[⟨false, c, 8, [s.enc]⟩, ⟨false, c2, 9, [x.encO]⟩], fun p => ?_⟩
        have k1 := cnt_set (gW [⟨false, c1, 8, [[b0.Files.ref 3, b0.Lines.at_ iL 4, b0.Sessions.ref 4, b0.Queue.at_ iQ 5, .ref (2 + iW) t 9 s.Workers.list.length, b0.Done.ref 11, .int .i64 b0.Next, .int .i64 b0.Now]]⟩, ⟨false, c2, 9, [x.encO]⟩]) ⟨false, t, 9, (ws.map TWorker.encO).set k (deadW x).encO⟩ p
        have k2 := setW_cnt (inn := TWorker.inn) gw (deadW x) p
        have k3 : (deadW x).inn.countP p = 0 := rfl
        have k4 : b0.inn = b0.Files.wood 3 TFile.enc noInn ++ (b0.Lines.wood 4 TLine.encO TLine.inn ++ (b0.Sessions.wood 4 TSession.enc noInn ++ (b0.Queue.wood 5 TJob.encO TJob.inn ++ ((⟨false, t, 9, ws.map TWorker.encO⟩ :: ws.flatMap TWorker.inn) ++ b0.Done.wood 11 TAnswer.encO TAnswer.inn)))) := by simp [TServer.inn, hbW, SL.wood, wood]
        have k5 : b0.inn.countP p = _ := congrArg (List.countP p) k4
        have k6 : ({ b0 with Workers := .mk t (ws.set k (deadW x)) } : TServer).inn = b0.Files.wood 3 TFile.enc noInn ++ (b0.Lines.wood 4 TLine.encO TLine.inn ++ (b0.Sessions.wood 4 TSession.enc noInn ++ (b0.Queue.wood 5 TJob.encO TJob.inn ++ ((⟨false, t, 9, (ws.map TWorker.encO).set k (deadW x).encO⟩ :: (ws.set k (deadW x)).flatMap TWorker.inn) ++ b0.Done.wood 11 TAnswer.encO TAnswer.inn)))) := by simp [TServer.inn, SL.wood, wood, List.map_set]
        rw [k6]
        have k7 : (deadW x).encO = [.int .i64 2, .int .i64 0, .str [], .nsl, .nsl, .str [], .str [], .nsl, .int .i64 x.Served] := rfl
        rw [k7] at k1 ⊢
        have k8 : (ws.set k (deadW x)).length = s.Workers.list.length := by simp [qWl]
        rw [k8]
        simp only [List.countP_append, List.countP_cons, List.countP_nil] at k1 k2 k3 k5 ⊢
        omega
      · have cF : b0.Files.con TFile.con = s.Files.con TFile.con := congrArg TServer.Files q0
        have cL : b0.Lines.con TLine.con = s.Lines.con TLine.con := congrArg TServer.Lines q0
        have cS : b0.Sessions.con TSession.con = s.Sessions.con TSession.con := congrArg TServer.Sessions q0
        have cQ : b0.Queue.con TJob.con = s.Queue.con TJob.con := congrArg TServer.Queue q0
        have cD : b0.Done.con TAnswer.con = s.Done.con TAnswer.con := congrArg TServer.Done q0
        have cN : b0.Next = s.Next := by have := congrArg (fun t : TServer => t.Next) q0; exact this
        have cT : b0.Now = s.Now := by have := congrArg (fun t : TServer => t.Now) q0; exact this
        have e5 := deadW_con qx
        simp only [TServer.con, SL.con, SL.list_mk, List.map_set, e5, qW, cN, cT] at cF cL cS cQ cD ⊢
        rw [cF, cL, cS, cQ, cD]
    · intro e H c' ⟨c1, tb, io, iL, iQ, iW, t, x, b, ws, ⟨e1, e2, e4, e6, e7, h0, h1, ho, hx, hbw, hW, hL, hQ, hF, hne, G, hG⟩, qx, qb, hkw⟩
      have hxe : ∀ i K, getW x.encO i K = getW x.encO i K := fun _ _ => rfl
      have x0 : ∀ K : AV → Prop, getW x.encO 0 K = K (.int .i64 x.State) := fun K => by simp [TWorker.encO]
      have hxl : x.encO.length = 9 := rfl
      have hqs : x.State = (s.Workers.list[k]).State := by have := congrArg (fun t : TWorker => t.State) qx; exact this
      have qbS : b.Sessions.list = s.Sessions.list := sessCon (congrArg (fun t : TServer => t.Sessions.list) qb)
      have qbQ : b.Queue.list.length = s.Queue.list.length := by
        have : b.Queue.list.map TJob.con = s.Queue.list.map TJob.con := congrArg (fun t : TServer => t.Queue.list) qb
        simpa using congrArg List.length this
      have qbL : b.Lines.list.map TLine.con = s.Lines.list.map TLine.con := congrArg (fun t : TServer => t.Lines.list) qb
      have qbLl : b.Lines.list.length = s.Lines.list.length := by simpa using congrArg List.length qbL
      have hxs : s.Workers.list[k] ∈ s.Workers.list := List.getElem_mem hk
      have qxF : x.Files.list = (s.Workers.list[k]).Files.list := fileCon (by have := congrArg (fun t : TWorker => t.Files.list) qx; exact this)
      have qxP : x.Job.Request.Path = (s.Workers.list[k]).Job.Request.Path := by have := congrArg (fun t : TWorker => t.Job.Request.Path) qx; exact this
      have szx : (s.Workers.list[k]).sz ≤ 1048576 := by
        have h1 := szL_mem (sz := TWorker.sz) hxs
        simp only [TServer.sz, szWorkerS] at hz
        omega
      have hfl : okFileS x.Files := by
        unfold okFileS
        rw [qxF]
        simp only [TWorker.sz, szFileS] at szx
        refine ⟨by unfold mx; omega, fun f hf => ?_⟩
        have h1 := szL_mem (sz := TFile.sz) hf
        have h2 : f.sz = f.Path.length + f.Source.length := rfl
        unfold TFile.ok mx
        omega
      have hpl : x.Job.Request.Path.length ≤ mx := by
        rw [qxP]
        have h1 : (s.Workers.list[k]).sz = (s.Workers.list[k]).Job.sz + (s.Workers.list[k]).Data.length + szFileS (s.Workers.list[k]).Files := rfl
        have h2 : (s.Workers.list[k]).Job.sz = (s.Workers.list[k]).Job.Request.sz + (s.Workers.list[k]).Job.Session.length := rfl
        have h3 : (s.Workers.list[k]).Job.Request.Path.length ≤ (s.Workers.list[k]).Job.Request.sz := by simp only [TRequest.sz]; omega
        unfold mx
        omega
      by_cases h1s : x.State = 1
      · refine seq_cutS (fun e' H' c' => CSt s k c c1 tb io iL iQ iW t x x.inn b ws e' H') ?_ ?_
        rotate_left
        · intro K hK
          simp [e1, e2, e4, e6, e7, getW_of hx, x0, h1s]
          exact hK _ _ _ ⟨by simp [upd, e1], by simp [upd, e2], by simp [upd, e4], by simp [upd, e6], by simp [upd, e7], h0, h1, ho, hx, hbw, hW, hL, hQ, hF, hne, G, hG⟩
        clear e1 e2 e4 e6 e7 h0 h1 ho hx hW hL hQ hF hG
        intro e H c' ⟨e1, e2, e4, e6, e7, h0, h1, ho, hx, _, hW, hL, hQ, hF, _, G, hG⟩
        refine seq_cutS (fun e' H' c' => ∃ iQ' tq, CSt s k c c1 tb io iL iQ' iW t x [] { b with Queue := .mk tq (x.Job :: b.Queue.list) } ws e' H') ?_ ?_
        rotate_left
        · intro K hK
          have xj : ∀ K : List AV → Prop, K ((x.encO.drop 1).take 5) = K x.Job.encO := fun K => rfl
          cases hbQ : b.Queue with
          | nil =>
            rw [hbQ] at ho hG
            rw [show (SL.nil : SL TJob).at_ iQ 5 = .nsl from rfl] at ho hG
            simp [e1, e2, e4, e6, e7, getW_of hx, getW_of ho, x0, h1s, hxl, putA]
            rw [show List.take 5 x.encO.tail = x.Job.encO from rfl]
            refine call_lastS (insJob_nil (u := c') (row := x.Job.encO)) (.cons (.refl _) (.cons (.refl _) (.cons .name .nil))) fun r O c3 hc3 ⟨hr, hO⟩ => ?_
            subst hr; subst hO
            refine ⟨_, .ref (H.length + 1) (c' + 1) 5 1, rfl, Nat.le_refl _, .name, .ref, ?_, ?_, ?_⟩
            · exact avRows_free fun row hr a ha => by simp at hr; subst hr; exact TJob.freeO x.Job a ha
            · exact avRows_free fun row hr a ha => by simp at hr; subst hr; exact TJob.freeO x.Job a ha
            obtain ⟨H2, hH2⟩ : ∃ H2, H2 = H ++ [⟨false, c', 5, [x.Job.encO]⟩, ⟨false, c' + 1, 5, [x.Job.encO]⟩] := ⟨_, rfl⟩
            have up : ∀ {i : Nat} {o : AObj}, H[i]? = some o → H2[i]? = some o := fun {i o} h => by
              rw [hH2, List.getElem?_append_left (List.getElem?_eq_some_iff.1 h).1]; exact h
            rw [← hH2]
            simp [e1, e2, e4, e6, e7, getW_of (up hx), getW_of (up ho), x0, h1s, hxl, putA]
            have hiol := (List.getElem?_eq_some_iff.1 ho).1
            have h2l : H2.length = H.length + 2 := by rw [hH2]; simp
            obtain ⟨hne1, hne2, hne3⟩ := hne
            refine hK _ _ _ ⟨H.length + 1, c' + 1, by simp [upd, e1], by simp [upd, e2], by simp [upd, e4], by simp [upd, e6], by simp [upd, e7], ?_, ?_, ?_, ?_, hbw, ?_, fun tl ls h => ?_, fun tq l h => ?_, fun o ho' => ?_, ⟨hne1, hne2, hne3⟩, G ++ ([⟨false, c', 5, [x.Job.encO]⟩] ++ x.Files.wood 3 TFile.enc noInn), fun p => ?_⟩
            · rw [List.getElem?_set_ne (by omega)]; exact up h0
            · rw [List.getElem?_set_ne (by omega)]; exact up h1
            · rw [List.getElem?_set_self (by omega)]
              simp only [hbQ]; rfl
            · rw [List.getElem?_set_ne (by omega)]; exact up hx
            · rw [List.getElem?_set_ne (by omega)]; exact up hW
            · have := hL tl ls h
              rw [List.getElem?_set_ne (w_ne ho this (by simp))]; exact up this
            · simp only [hbQ, SL.mk.injEq] at h
              obtain ⟨rfl, rfl⟩ := h
              rw [List.getElem?_set_ne (by omega), hH2, List.getElem?_append_right (by omega)]
              simp
            · refine mem_setN (up ho) ?_ fun e => by have := file_w ho'; rw [e] at this; simp at this
              rw [hH2]; exact List.mem_append_left _ (hF o ho')
            · have k1 := cnt_set (up ho) ⟨false, c1, 8, [[b.Files.ref 3, b.Lines.at_ iL 4, b.Sessions.ref 4, .ref (H.length + 1) (c' + 1) 5 1, .ref iW t 9 ws.length, b.Done.ref 11, .int .i64 b.Next, .int .i64 b.Now]]⟩ p
              have k2 := hG p
              have k3 := inn_queue b (.mk (c' + 1) (x.Job :: b.Queue.list)) p
              have k4 := inn_worker x p
              have k5 : H2.countP p = _ := congrArg (List.countP p) hH2
              have k6 : (SL.mk (c' + 1) (x.Job :: b.Queue.list)).wood 5 TJob.encO TJob.inn = ⟨false, c' + 1, 5, [x.Job.encO]⟩ :: x.Job.inn := by rw [hbQ]; simp [SL.wood, wood]
              have k7 : ({ b with Queue := .mk (c' + 1) (x.Job :: b.Queue.list) } : TServer).Queue.at_ (H.length + 1) 5 = .ref (H.length + 1) (c' + 1) 5 1 := by rw [hbQ]; rfl
              rw [k6] at k3
              rw [k7]
              have k8 : (b.Queue.wood 5 TJob.encO TJob.inn).countP p = 0 := by rw [hbQ]; rfl
              simp only [List.countP_append, List.countP_cons, List.countP_nil] at k1 k2 k3 k4 k5 k8 ⊢
              omega
          | mk tq l =>
            rw [hbQ] at ho hG
            rw [show (SL.mk tq l : SL TJob).at_ iQ 5 = .ref iQ tq 5 l.length from rfl] at ho hG
            have hQl := hQ tq l hbQ
            have hll : l.length ≤ 1048576 := by have := qbQ; rw [hbQ] at this; simp only [SL.list_mk] at this; rw [this]; exact hs.2.2.2.2.1
            simp [e1, e2, e4, e6, e7, getW_of hx, getW_of ho, x0, h1s, hxl, putA]
            rw [show List.take 5 x.encO.tail = x.Job.encO from rfl]
            refine call_pairS hQl (insJob_con (u := c') (t := tq) (n := l.length) (rows := l.map TJob.encO) (row := x.Job.encO) (by simp) hll) (.cons .name (.cons (.refl _) (.cons .name .nil))) fun r O c3 hc3 ⟨hr, hO⟩ => ?_
            subst hr; subst hO
            refine ⟨_, .ref iQ (c' + 1) 5 (l.length + 1), rfl, .inr (Nat.le_refl _), .name, .ref, ?_, ?_, ?_⟩
            · exact avRows_free fun row hr a ha => by
                rcases List.mem_cons.1 hr with rfl | hr
                · exact TJob.freeO x.Job a ha
                · obtain ⟨z, hz, rfl⟩ := List.mem_map.1 hr
                  exact TJob.freeO z a ha
            · exact avRows_free fun row hr a ha => by simp at hr; subst hr; exact TJob.freeO x.Job a ha
            obtain ⟨H2, hH2⟩ : ∃ H2, H2 = H.set iQ ⟨false, c' + 1, 5, x.Job.encO :: l.map TJob.encO⟩ ++ [⟨false, c', 5, [x.Job.encO]⟩] := ⟨_, rfl⟩
            have up : ∀ {i : Nat} {o : AObj}, i ≠ iQ → H[i]? = some o → H2[i]? = some o := fun {i o} hi h => by
              rw [hH2, List.getElem?_append_left (by simpa using (List.getElem?_eq_some_iff.1 h).1), List.getElem?_set_ne (Ne.symm hi)]; exact h
            rw [← hH2]
            have io2 : io ≠ iQ := w_ne ho hQl (by simp)
            have io3 : io + 1 ≠ iQ := w_ne hx hQl (by simp)
            simp [e1, e2, e4, e6, e7, getW_of (up io3 hx), getW_of (up io2 ho), x0, h1s, hxl, putA]
            have hiol := (List.getElem?_eq_some_iff.1 ho).1
            have h2l : H2.length = H.length + 1 := by rw [hH2]; simp
            have hiq := (List.getElem?_eq_some_iff.1 hQl).1
            obtain ⟨hne1, hne2, hne3⟩ := hne
            refine hK _ _ _ ⟨iQ, c' + 1, by simp [upd, e1], by simp [upd, e2], by simp [upd, e4], by simp [upd, e6], by simp [upd, e7], ?_, ?_, ?_, ?_, hbw, ?_, fun tl ls h => ?_, fun tq l h => ?_, fun o ho' => ?_, ⟨hne1, hne2, hne3⟩, G ++ ([⟨false, c', 5, [x.Job.encO]⟩] ++ x.Files.wood 3 TFile.enc noInn), fun p => ?_⟩
            · rw [List.getElem?_set_ne (by omega)]; exact up (w_ne h0 hQl (by simp)) h0
            · rw [List.getElem?_set_ne (by omega)]; exact up (w_ne h1 hQl (by simp)) h1
            · rw [List.getElem?_set_self (by omega)]
              simp only [hbQ]; rfl
            · rw [List.getElem?_set_ne (by omega)]; exact up io3 hx
            · rw [List.getElem?_set_ne (by omega)]; exact up (w_ne hW hQl (by simp)) hW
            · have := hL tl ls h
              rw [List.getElem?_set_ne (w_ne ho this (by simp))]; exact up (w_ne this hQl (by simp)) this
            · simp only [hbQ, SL.list_mk, SL.mk.injEq] at h
              obtain ⟨rfl, rfl⟩ := h
              rw [List.getElem?_set_ne io2, hH2, List.getElem?_append_left (by simpa using hiq), List.getElem?_set_self hiq]
              rfl
            · refine mem_setN (up io2 ho) ?_ fun e => by have := file_w ho'; rw [e] at this; simp at this
              rw [hH2]; exact List.mem_append_left _ (mem_setN hQl (hF o ho') fun e => by have := file_w ho'; rw [e] at this; simp at this)
            · have k1 := cnt_set (up io2 ho) ⟨false, c1, 8, [[b.Files.ref 3, b.Lines.at_ iL 4, b.Sessions.ref 4, .ref iQ (c' + 1) 5 (l.length + 1), .ref iW t 9 ws.length, b.Done.ref 11, .int .i64 b.Next, .int .i64 b.Now]]⟩ p
              have k2 := hG p
              have k3 := inn_queue b (.mk (c' + 1) (x.Job :: b.Queue.list)) p
              have k4 := inn_worker x p
              have k5 : H2.countP p = _ := congrArg (List.countP p) hH2
              have k5' := cnt_set hQl ⟨false, c' + 1, 5, x.Job.encO :: l.map TJob.encO⟩ p
              have k6 : (SL.mk (c' + 1) (x.Job :: b.Queue.list)).wood 5 TJob.encO TJob.inn = ⟨false, c' + 1, 5, x.Job.encO :: l.map TJob.encO⟩ :: (x.Job.inn ++ l.flatMap TJob.inn) := by rw [hbQ]; simp [SL.wood, wood]
              have k7 : ({ b with Queue := .mk (c' + 1) (x.Job :: b.Queue.list) } : TServer).Queue.at_ iQ 5 = .ref iQ (c' + 1) 5 (l.length + 1) := by rw [hbQ]; rfl
              rw [k6] at k3
              rw [k7]
              have k8 : b.Queue.wood 5 TJob.encO TJob.inn = ⟨false, tq, 5, l.map TJob.encO⟩ :: l.flatMap TJob.inn := by rw [hbQ]; rfl
              rw [k8] at k3
              simp only [List.countP_append, List.countP_cons, List.countP_nil] at k1 k2 k3 k4 k5 k5' ⊢
              omega
        clear e1 e2 e4 e6 e7 h0 h1 ho hx hW hL hQ hF hG
        intro e H c' ⟨iQ', tq, e1, e2, e4, e6, e7, h0, h1, ho, hx, _, hW, hL, hQ, hF, _, G, hG⟩
        obtain ⟨b1, hb1⟩ : ∃ b1 : TServer, b1 = { b with Queue := .mk tq (x.Job :: b.Queue.list) } := ⟨_, rfl⟩
        rw [← hb1] at ho hG hL hQ
        have hbw1 : b1.Workers = .mk t ws := by rw [hb1]; exact hbw
        have hbl1 : b1.Lines = b.Lines := by rw [hb1]
        refine seq_cutS (fun e' H' c' => ∃ bS : SL TSession, bS.list = b1.Sessions.list.map (dropH ((k : Int) + 1)) ∧ CSt s k c c1 tb io iL iQ' iW t x [] { b1 with Sessions := bS } ws e' H') ?_ ?_
        rotate_left
        · intro K hK
          simp [e1, e2, e4, e6, e7, getW_of hx, getW_of ho, hxl, putA, hw2]
          have hsl : b1.Sessions.list.length ≤ 1048576 := by
            have e9 : b1.Sessions = b.Sessions := by rw [hb1]
            rw [e9, qbS]; exact hs.2.2.2.1
          have hSm : ∀ o, o ∈ b1.Sessions.wood 4 TSession.enc noInn → o ∈ H := fun o ho => mem_of_cnt hG (by simp [TServer.inn, ho])
          refine call_new (impl_dropO (s := b1.Sessions) (who := (k : Int) + 1) hsl _) (.cons (view_flat hSm TSession.flat.cells) (.cons (.refl _) .nil)) fun r O c3 hc3 ⟨bS, hr, hO, hbS⟩ _ _ => ?_
          subst hr; subst hO
          refine ⟨_, .refl _, free_ref _ _ _, fun o ho => flat_free TSession.flat _ _ o ho _, ?_⟩
          obtain ⟨H2, hH2⟩ : ∃ H2, H2 = H ++ bS.wood 4 TSession.enc noInn := ⟨_, rfl⟩
          have up : ∀ {i : Nat} {o : AObj}, H[i]? = some o → H2[i]? = some o := fun {i o} h => by
            rw [hH2, List.getElem?_append_left (List.getElem?_eq_some_iff.1 h).1]; exact h
          rw [← hH2]
          simp [e1, e2, e4, e6, e7, getW_of (up hx), getW_of (up ho), hxl, putA]
          have hiol := (List.getElem?_eq_some_iff.1 (up ho)).1
          have hne0 := hne
          obtain ⟨hne1, hne2, hne3⟩ := hne
          refine hK _ _ _ ⟨bS, hbS, by simp [upd, e1], by simp [upd, e2], by simp [upd, e4], by simp [upd, e6], by simp [upd, e7], ?_, ?_, ?_, ?_, hbw1, ?_, fun tl ls h => ?_, fun tq l h => ?_, fun o ho' => ?_, ⟨hne1, hne2, hne3⟩, G ++ b1.Sessions.wood 4 TSession.enc noInn, fun p => ?_⟩
          · rw [List.getElem?_set_ne (by omega)]; exact up h0
          · rw [List.getElem?_set_ne (by omega)]; exact up h1
          · rw [List.getElem?_set_self (by omega)]
          · rw [List.getElem?_set_ne (by omega)]; exact up hx
          · rw [List.getElem?_set_ne (by omega)]; exact up hW
          · have := hL tl ls h
            rw [List.getElem?_set_ne (w_ne ho this (by simp))]; exact up this
          · have := hQ tq l h
            rw [List.getElem?_set_ne (w_ne ho this (by simp))]; exact up this
          · refine mem_setN (up ho) ?_ fun e => by have := file_w ho'; rw [e] at this; simp at this
            rw [hH2]; exact List.mem_append_left _ (hF o ho')
          · have k1 := cnt_set (up ho) ⟨false, c1, 8, [[b1.Files.ref 3, b1.Lines.at_ iL 4, bS.ref 4, b1.Queue.at_ iQ' 5, .ref iW t 9 ws.length, b1.Done.ref 11, .int .i64 b1.Next, .int .i64 b1.Now]]⟩ p
            have k2 := hG p
            have k3 := inn_sess b1 bS p
            have k5 : H2.countP p = _ := congrArg (List.countP p) hH2
            simp only [List.countP_append, List.countP_cons, List.countP_nil] at k1 k2 k3 k5 ⊢
            omega
        clear e1 e2 e4 e6 e7 h0 h1 ho hx hW hL hQ hF hG
        intro e H c' ⟨bS, hbS, e1, e2, e4, e6, e7, h0, h1, ho, hx, _, hW, hL, hQ, hF, _, G, hG⟩
        obtain ⟨b2, hb2⟩ : ∃ b2 : TServer, b2 = { b1 with Sessions := bS } := ⟨_, rfl⟩
        rw [← hb2] at ho hG hL hQ
        have hbw2 : b2.Workers = .mk t ws := by rw [hb2]; exact hbw1
        refine seq_cutS (fun e' H' c' => e' 8 = .int .i64 (findP x.Job.Request.Path x.Files.list) ∧ CSt s k c c1 tb io iL iQ' iW t x [] b2 ws e' H') ?_ ?_
        rotate_left
        · intro K hK
          have x7 : ∀ K : AV → Prop, getW x.encO 7 K = K (x.Files.ref 3) := fun K => by simp [TWorker.encO]
          have x2 : ∀ K : AV → Prop, getW x.encO 2 K = K (.str x.Job.Request.Path) := fun K => by simp [TWorker.encO]
          simp [e1, e2, e4, e6, e7, getW_of hx, getW_of ho, hxl, putA, hw2, x7, x2]
          refine call_fn (impl_findP hfl.1 hpl) (.cons (view_flat hF TFile.flat.cells) (.cons (.refl _) .nil)) .int fun c3 hc3 => ?_
          simp
          exact hK _ _ _ ⟨by simp [upd], by simp [upd, e1], by simp [upd, e2], by simp [upd, e4], by simp [upd, e6], by simp [upd, e7], h0, h1, ho, hx, hbw2, hW, hL, hQ, hF, hne, G, hG⟩
        clear e1 e2 e4 e6 e7 h0 h1 ho hx hW hL hQ hF hG
        intro e H c' ⟨e8, e1, e2, e4, e6, e7, h0, h1, ho, hx, _, hW, hL, hQ, hF, _, G, hG⟩
        have hL2 : b2.Lines = b.Lines := by rw [hb2]; exact hbl1
        refine seq_cutS (fun e' H' c' => ∃ L' : SL TLine, L'.list = lockL k x.Files.list x.Job.Request.Path b2.Lines.list ∧ CSt s k c c1 tb io iL iQ' iW t x [] { b2 with Lines := L' } ws e' H') ?_ ?_
        rotate_left
        · intro K hK
          have x7 : ∀ K : AV → Prop, getW x.encO 7 K = K (x.Files.ref 3) := fun K => by simp [TWorker.encO]
          have hll : b2.Lines.list.length ≤ 1048576 := by rw [hL2, qbLl]; exact hs.2.1
          have hw4 : IntKind.i64.wrap ((b2.Lines.list.length : Int) - 1) = (b2.Lines.list.length : Int) - 1 := wrap64 (by omega) (by omega)
          simp [e1, e2, e4, e6, e7, e8, getW_of hx, getW_of ho, hxl, putA, hw2, hw4]
          refine call_fn0 (inRange_fn _ _ _) .bool fun c3 hc3 => ?_
          cases hin : inR (findP x.Job.Request.Path x.Files.list) 0 ((b2.Lines.list.length : Int) - 1)
          · simp [e1, e2, e4, e6, e7, e8, getW_of hx, getW_of ho, hxl, putA, hw2, hw4]
            exact hK _ _ _ ⟨b2.Lines, by unfold lockL; rw [hin]; rfl, by simp [upd, e1], by simp [upd, e2], by simp [upd, e4], by simp [upd, e6], by simp [upd, e7], h0, h1, ho, hx, hbw2, hW, hL, hQ, hF, hne, G, hG⟩
          · have hin0 := hin
            unfold inR at hin
            simp only [Bool.and_eq_true, decide_eq_true_eq] at hin
            obtain ⟨j, hj⟩ := Int.eq_ofNat_of_zero_le hin.1
            have hjl : j < b2.Lines.list.length := by omega
            cases hbL : b2.Lines with
            | nil => rw [hbL] at hjl; simp at hjl
            | mk tl ls =>
            have hLl := hL tl ls hbL
            have ho0 := ho
            have hjl0 := hjl
            rw [hbL] at hjl ho
            simp only [SL.list_mk] at hjl
            rw [show (SL.mk tl ls : SL TLine).at_ iL 4 = .ref iL tl 4 ls.length from rfl] at ho
            have gy : ls[j]? = some ls[j] := List.getElem?_eq_getElem hjl
            generalize hy : ls[j] = y at gy
            have gyx : (ls.map TLine.encO)[j]? = some y.encO := by rw [List.getElem?_map, gy]; rfl
            rw [hj] at e8
            simp [e1, e2, e4, e6, e7, e8, getW_of hx, getW_of ho, getW_of hLl, getW_of gyx, hxl, putA, hw2, hw4, hjl]
            have hlk : lockL k x.Files.list x.Job.Request.Path ls = if y.Seq.tmod 2 = 0 then ls.set j ⟨IntKind.i64.wrap (y.Seq + 1), (k : Int) + 1, stamp x.Files.list, .nil⟩ else ls := by
              have hin1 := hin0
              rw [hbL, SL.list_mk, hj] at hin1
              unfold lockL
              rw [hj, if_pos hin1, Int.toNat_natCast, gy]
            refine ⟨fun hs0 => ?_, fun hs0 => ?_⟩
            · refine callF_fnv (impl_stamp hfl) (.cons (view_flat hF TFile.flat.cells) .nil) .int fun c4 hc4 => ?_
              have hyl : ∀ y : TLine, y.encO.length = 4 := fun _ => rfl
              have hydr : List.drop 4 y.encO = [] := rfl
              simp [e1, e2, e4, e6, e7, e8, getW_of hx, getW_of ho, getW_of hLl, getW_of gyx, hxl, putA, hw2, hw4, hjl, hyl, hydr]
              have hil := (List.getElem?_eq_some_iff.1 hLl).1
              refine hK _ _ _ ⟨.mk tl (ls.set j ⟨IntKind.i64.wrap (y.Seq + 1), (k : Int) + 1, stamp x.Files.list, .nil⟩), ?_, by simp [upd, e1], by simp [upd, e2], by simp [upd, e4], by simp [upd, e6], by simp [upd, e7], ?_, ?_, ?_, ?_, hbw2, ?_, fun tl' ls' h => ?_, fun tq l h => ?_, fun o ho' => ?_, hne, G ++ y.inn, fun p => ?_⟩
              · rw [hbL, SL.list_mk, SL.list_mk, hlk, if_pos hs0]
              · rw [List.getElem?_set_ne (w_ne hLl h0 (by simp))]; exact h0
              · rw [List.getElem?_set_ne (w_ne hLl h1 (by simp))]; exact h1
              · rw [List.getElem?_set_ne (w_ne hLl ho (by simp)), ho]
                simp [SL.at_]
              · rw [List.getElem?_set_ne (w_ne hLl hx (by simp))]; exact hx
              · rw [List.getElem?_set_ne (w_ne hLl hW (by simp))]; exact hW
              · simp only [SL.mk.injEq] at h
                obtain ⟨rfl, rfl⟩ := h
                rw [List.getElem?_set_self hil, List.map_set]
                rfl
              · have := hQ tq l h
                rw [List.getElem?_set_ne (w_ne hLl this (by simp))]; exact this
              · exact mem_setN hLl (hF o ho') fun e => by have := file_w ho'; rw [e] at this; simp at this
              · have k1 := cnt_set hLl ⟨false, tl, 4, (ls.map TLine.encO).set j (TLine.mk (IntKind.i64.wrap (y.Seq + 1)) ((k : Int) + 1) (stamp x.Files.list) .nil).encO⟩ p
                have k2 := hG p
                have k3 := inn_lines b2 (.mk tl (ls.set j ⟨IntKind.i64.wrap (y.Seq + 1), (k : Int) + 1, stamp x.Files.list, .nil⟩)) p
                have k4 := setW_cnt (inn := TLine.inn) gy ⟨IntKind.i64.wrap (y.Seq + 1), (k : Int) + 1, stamp x.Files.list, .nil⟩ p
                have k5 : (TLine.inn ⟨IntKind.i64.wrap (y.Seq + 1), (k : Int) + 1, stamp x.Files.list, .nil⟩).countP p = 0 := rfl
                have k6 : (SL.mk tl (ls.set j ⟨IntKind.i64.wrap (y.Seq + 1), (k : Int) + 1, stamp x.Files.list, .nil⟩)).wood 4 TLine.encO TLine.inn = ⟨false, tl, 4, (ls.map TLine.encO).set j (TLine.mk (IntKind.i64.wrap (y.Seq + 1)) ((k : Int) + 1) (stamp x.Files.list) .nil).encO⟩ :: (ls.set j ⟨IntKind.i64.wrap (y.Seq + 1), (k : Int) + 1, stamp x.Files.list, .nil⟩).flatMap TLine.inn := by simp [SL.wood, wood, List.map_set]
                have k8 : b2.Lines.wood 4 TLine.encO TLine.inn = ⟨false, tl, 4, ls.map TLine.encO⟩ :: ls.flatMap TLine.inn := by rw [hbL]; rfl
                have k9 : ({ b2 with Lines := .mk tl (ls.set j ⟨IntKind.i64.wrap (y.Seq + 1), (k : Int) + 1, stamp x.Files.list, .nil⟩) } : TServer).Lines.at_ iL 4 = b2.Lines.at_ iL 4 := by rw [hbL]; simp [SL.at_]
                rw [k6, k8] at k3
                rw [k9]
                simp only [List.countP_append, List.countP_cons, List.countP_nil] at k1 k2 k3 k4 k5 ⊢
                simp only [TLine.encO, ref_nil] at k1 k3 ⊢
                omega
            · exact hK _ _ _ ⟨b2.Lines, by rw [hbL, SL.list_mk, hlk, if_neg hs0], by simp [upd, e1], by simp [upd, e2], by simp [upd, e4], by simp [upd, e6], by simp [upd, e7], h0, h1, ho0, hx, hbw2, hW, hL, hQ, hF, hne, G, hG⟩
        clear e1 e2 e4 e6 e7 h0 h1 ho hx hW hL hQ hF hG
        intro e H c' ⟨L', hL', e1, e2, e4, e6, e7, h0, h1, ho, hx, _, hW, hL, hQ, hF, _, G, hG⟩
        obtain ⟨b3, hb3⟩ : ∃ b3 : TServer, b3 = { b2 with Lines := L' } := ⟨_, rfl⟩
        rw [← hb3] at ho hG
        simp [e1, e2, e4, e6, e7, getW_of hx, getW_of ho, getW_of h1, putA, hxl]
        refine ⟨(List.getElem?_eq_some_iff.1 h1).1, fin_all ⟨b3, _, [], _, G ++ [⟨false, c1, 8, [[b3.Files.ref 3, b3.Lines.at_ iL 4, b3.Sessions.ref 4, b3.Queue.at_ iQ' 5, .ref iW t 9 ws.length, b3.Done.ref 11, .int .i64 b3.Next, .int .i64 b3.Now]]⟩, ⟨false, c + 1, 8, [[b3.Files.ref 3, b3.Lines.at_ iL 4, b3.Sessions.ref 4, b3.Queue.at_ iQ' 5, .ref iW t 9 ws.length, b3.Done.ref 11, .int .i64 b3.Next, .int .i64 b3.Now]]⟩], rfl, .cons (.refl _) (.cons (view_at' _ _ _ _) (.cons (.refl _) (.cons (view_at' _ _ _ _) (.cons ?_ (.cons (.refl _) (.cons (.refl _) (.cons (.refl _) .nil))))))), rfl, perm_cnt fun p => ?_, ?_⟩⟩
        · show View [] _ (b3.Workers.ref 9)
          rw [hb3]
          show View [] _ (b2.Workers.ref 9)
          rw [hbw2]; exact .name
        · have k1 := cnt_set h1 ⟨false, c + 1, 8, [[b3.Files.ref 3, b3.Lines.at_ iL 4, b3.Sessions.ref 4, b3.Queue.at_ iQ' 5, .ref iW t 9 ws.length, b3.Done.ref 11, .int .i64 b3.Next, .int .i64 b3.Now]]⟩ p
          have k2 := hG p
          simp only [List.countP_append, List.countP_cons, List.countP_nil] at k1 k2 ⊢
          omega
        · have hcr : crash s k = { s with Workers := .mk 0 (s.Workers.list.set k (deadW s.Workers.list[k])), Queue := .mk 0 ((s.Workers.list[k]).Job :: s.Queue.list), Sessions := .mk 0 (s.Sessions.list.map (dropH ((k : Int) + 1))), Lines := .mk 0 (lockL k (s.Workers.list[k]).Files.list (s.Workers.list[k]).Job.Request.Path s.Lines.list) } := by
            unfold crash
            rw [hok0, Int.toNat_natCast, hg]
            simp only
            rw [if_pos (by rw [← hqs]; exact h1s)]
          have cF : b.Files.con TFile.con = s.Files.con TFile.con := congrArg TServer.Files qb
          have cQ : b.Queue.list.map TJob.con = s.Queue.list.map TJob.con := congrArg (fun t : TServer => t.Queue.list) qb
          have cW : b.Workers.list.map TWorker.con = (s.Workers.list.set k (deadW s.Workers.list[k])).map TWorker.con := congrArg (fun t : TServer => t.Workers.list) qb
          have cD : b.Done.con TAnswer.con = s.Done.con TAnswer.con := congrArg TServer.Done qb
          have cN : b.Next = s.Next := by have := congrArg (fun t : TServer => t.Next) qb; exact this
          have cT : b.Now = s.Now := by have := congrArg (fun t : TServer => t.Now) qb; exact this
          have cJ : x.Job.con = (s.Workers.list[k]).Job.con := by have := congrArg (fun t : TWorker => t.Job) qx; exact this
          have e10 : bS.list = s.Sessions.list.map (dropH ((k : Int) + 1)) := by rw [hbS, hb1, qbS]
          have e11 : L'.list.map TLine.con = (lockL k (s.Workers.list[k]).Files.list (s.Workers.list[k]).Job.Request.Path s.Lines.list).map TLine.con := by
            rw [hL', qxF, qxP, hL2]; exact lockL_con _ _ _ qbL
          rw [hcr, hb3, hb2, hb1]
          simp only [TServer.con, SL.con, SL.list_mk, List.map_cons, cQ, cW, cN, cT, cJ, e10, e11] at cF cD ⊢
          rw [cF, cD]
      · simp [e1, e2, e4, e6, e7, getW_of hx, getW_of ho, getW_of h1, x0, h1s, putA, hxl]
        have hcr : crash s k = { s with Workers := .mk 0 (s.Workers.list.set k (deadW s.Workers.list[k])) } := by
          unfold crash
          rw [hok0, Int.toNat_natCast, hg]
          simp only
          rw [if_neg (by rw [← hqs]; exact h1s)]
        refine ⟨by have := hne; have := (List.getElem?_eq_some_iff.1 h1).1; exact this, fin_all ⟨b, _, [], _, x.inn ++ (G ++ [⟨false, c1, 8, [[b.Files.ref 3, b.Lines.at_ iL 4, b.Sessions.ref 4, b.Queue.at_ iQ 5, .ref iW t 9 ws.length, b.Done.ref 11, .int .i64 b.Next, .int .i64 b.Now]]⟩, ⟨false, c + 1, 8, [[b.Files.ref 3, b.Lines.at_ iL 4, b.Sessions.ref 4, b.Queue.at_ iQ 5, .ref iW t 9 ws.length, b.Done.ref 11, .int .i64 b.Next, .int .i64 b.Now]]⟩]), rfl, .cons (.refl _) (.cons (view_at' _ _ _ _) (.cons (.refl _) (.cons (view_at' _ _ _ _) (.cons ?_ (.cons (.refl _) (.cons (.refl _) (.cons (.refl _) .nil))))))), rfl, perm_cnt fun p => ?_, ?_⟩⟩
        · show View [] _ (b.Workers.ref 9)
          rw [hbw]; exact .name
        · have k1 := cnt_set h1 ⟨false, c + 1, 8, [[b.Files.ref 3, b.Lines.at_ iL 4, b.Sessions.ref 4, b.Queue.at_ iQ 5, .ref iW t 9 ws.length, b.Done.ref 11, .int .i64 b.Next, .int .i64 b.Now]]⟩ p
          have k2 := hG p
          simp only [List.countP_append, List.countP_cons, List.countP_nil] at k1 k2 ⊢
          omega
        · rw [hcr]; exact qb
theorem impl_craO {s : TServer} {w : Int} (hs : SmSrv s) (hz : s.sz ≤ 1048576) (hw : -9223372036854775808 ≤ w ∧ w ≤ 9223372036854775807) (c : Nat) : Con Tryz.prog 7 [.agg s.enc, .int .i64 w] [] c fun r O _ => SrvQ (craOk s w) (crash s w) r O := con_srvK (impl_craK hs hz hw c)
end A
end Go.Proofs.YtkcilmkienlnoaaGreatDoor

/-
  CrashWork of the reference is the plain function. No condition.
-/

namespace Go.Proofs.YtkcilmkienlnoaaGreatDoor
namespace A
set_option linter.unusedVariables false
set_option linter.unusedSimpArgs false
set_option maxRecDepth 100000

theorem wood_split {α : Type} (w : Nat) (encO : α → List AV) (inn : α → List AObj) (s : SL α) (p : AObj → Bool) : (s.wood w encO inn).countP p = (s.wood w encO noInn).countP p + (s.list.flatMap inn).countP p := by
  cases s with
  | nil => rfl
  | mk t l =>
    rw [flat_wood]
    show List.countP p (_ :: l.flatMap inn) = List.countP p [_] + _
    simp only [List.countP_cons, List.countP_nil, SL.list_mk]
    omega
theorem spec_craK {s : TServer} {w : Int} (hs : SmSrv s) (hz : s.sz ≤ 1048576) (hw : -9223372036854775808 ≤ w ∧ w ≤ 9223372036854775807) (c : Nat) : Con Tryz.prog 5 [.agg s.enc, .int .i64 w] [] c fun r O _ => SrvK (craOk s w) (crash s w) r O := by
  have z7 := hs.2.2.2.2.2.2.1
  have hw1 : IntKind.i64.wrap ((s.Workers.list.length : Int) - 1) = (s.Workers.list.length : Int) - 1 := wrap64 (by omega) (by omega)
  refine con_of c5 (by simp [F5]) ?_
  unfold F5
  cases hok : craOk s w
  · have hrv : crash s w = s := crash_no hok
    simp [putA]
    refine call_new (spec_cpSrvO hs _) (Views.refl _ _) fun r1 O1 c1 hc1 ⟨b0, hr, hO, q0⟩ _ _ => ?_
    subst hr; subst hO
    refine ⟨_, .refl _, free_agg (TServer.freeO b0) _, fun o ho => TServer.freeI b0 o ho _, ?_⟩
    simp [putA, hw1]
    refine call_fn0 (l1In_fn _ _ _) .bool fun _ _ => ?_
    have fin : ∀ (U : List AObj) (x : AObj), SrvK false (crash s w) (.tup [.agg b0.encO, .bool false]) (U ++ (b0.inn ++ [x])) := fun U x => ⟨b0, b0.encO, U, b0.inn ++ [x], [x], rfl, Views.refl _ _, rfl, List.Perm.refl _, by rw [hrv]; exact q0⟩
    cases hin : inR w 0 ((s.Workers.list.length : Int) - 1)
    · simp [putA]
      exact fin_all (fin [_, _] _)
    · have hin0 := hin
      unfold inR at hin
      simp only [Bool.and_eq_true, decide_eq_true_eq] at hin
      obtain ⟨k, rfl⟩ := Int.eq_ofNat_of_zero_le hin.1
      have hk : k < s.Workers.list.length := by omega
      have hg : s.Workers.list[k]? = some s.Workers.list[k] := List.getElem?_eq_getElem hk
      unfold craOk at hok
      rw [hin0, Int.toNat_natCast, hg] at hok
      simp only [Bool.true_and, Bool.not_eq_false', decide_eq_true_eq] at hok
      generalize s.Workers.list[k] = x at hg hok
      simp [putA, hk]
      refine ⟨x, hg, ?_⟩
      simp [putA, hk, hok]
      exact fin_all (fin [_, _] _)
  · have hok0 := hok
    unfold craOk at hok
    rw [Bool.and_eq_true] at hok
    obtain ⟨hin0, hst⟩ := hok
    have hin := hin0
    unfold inR at hin
    simp only [Bool.and_eq_true, decide_eq_true_eq] at hin
    obtain ⟨k, rfl⟩ := Int.eq_ofNat_of_zero_le hin.1
    have hk : k < s.Workers.list.length := by omega
    have hg : s.Workers.list[k]? = some s.Workers.list[k] := List.getElem?_eq_getElem hk
    rw [Int.toNat_natCast, hg] at hst
    simp only [Bool.not_eq_true', decide_eq_false_iff_not] at hst
    have hw2 : IntKind.i64.wrap ((k : Int) + 1) = (k : Int) + 1 := wrap64 (by omega) (by omega)
    refine seq_cut5 (fun e H c' => ∃ c1 tb io iL iQ iW t x b ws, CSt s k c c1 tb io iL iQ iW t x x.inn b ws e H ∧ x.con = (s.Workers.list[k]).con ∧ b.con = ({ s with Workers := .mk 0 (s.Workers.list.set k (deadW s.Workers.list[k])) } : TServer).con ∧ k < ws.length) ?_ ?_
    rotate_left
    · intro K hK
      simp [putA]
      refine call_new (spec_cpSrvO hs _) (Views.refl _ _) fun r1 O1 c1 hc1 ⟨b0, hr, hO, q0⟩ _ _ => ?_
      subst hr; subst hO
      have qW : b0.Workers.list.map TWorker.con = s.Workers.list.map TWorker.con := congrArg (fun t : TServer => t.Workers.list) q0
      have qWl : b0.Workers.list.length = s.Workers.list.length := by simpa using congrArg List.length qW
      cases hbW : b0.Workers with
      | nil => rw [hbW] at qWl; simp at qWl; omega
      | mk t ws =>
      rw [hbW] at qW qWl
      simp only [SL.list_mk] at qW qWl
      obtain ⟨iL, iQ, n1, n2, fL, fQ⟩ := at_inn (b := b0) [⟨false, c, 8, [s.enc]⟩, ⟨false, c + 1, 8, [[.nsl, .nsl, .nsl, .nsl, .nsl, .nsl, .int .i64 0, .int .i64 0]]⟩] (by simp)
      obtain ⟨iW, n3, fW⟩ := at_worker [⟨false, c, 8, [s.enc]⟩, ⟨false, c + 1, 8, [[.nsl, .nsl, .nsl, .nsl, .nsl, .nsl, .int .i64 0, .int .i64 0]]⟩] hbW
      refine ⟨.agg [b0.Files.ref 3, b0.Lines.at_ iL 4, b0.Sessions.ref 4, b0.Queue.at_ iQ 5, .ref (2 + iW) t 9 ws.length, b0.Done.ref 11, .int .i64 b0.Next, .int .i64 b0.Now], view_agg (.cons (.refl _) (.cons (view_at _ _ _ _) (.cons (.refl _) (.cons (view_at _ _ _ _) (.cons ?_ (.cons (.refl _) (.cons (.refl _) (.cons (.refl _) .nil)))))))) ?_, ?_, ?_, ?_⟩
      · show View [] (b0.Workers.ref 9) _
        rw [hbW]; exact .name
      · intro a ha
        simp only [List.mem_cons, List.not_mem_nil, or_false] at ha
        rcases ha with rfl | rfl | rfl | rfl | rfl | rfl | rfl | rfl <;> first | rfl | exact cell_rf _ _ | exact cell_at _ _ _
      · refine free_agg (fun a ha => ?_) _
        simp only [List.mem_cons, List.not_mem_nil, or_false] at ha
        rcases ha with rfl | rfl | rfl | rfl | rfl | rfl | rfl | rfl
        · exact free_ref _ _
        · exact free_at _ _ _
        · exact free_ref _ _
        · exact free_at _ _ _
        · exact fun _ => .ref
        · exact free_ref _ _
        · exact free_int _ _
        · exact free_int _ _
      · exact fun o ho => TServer.freeI _ o ho _
      simp [putA, hw1]
      refine call_fn0 (l1In_fn _ _ _) .bool fun c2 hc2 => ?_
      simp [putA, hin0, hk]
      refine ⟨_, hg, ?_⟩
      have hkw : k < ws.length := by omega
      have gw : ws[k]? = some ws[k] := List.getElem?_eq_getElem hkw
      have qx : ws[k].con = (s.Workers.list[k]).con := by
        have := congrArg (fun m : List TWorker => m[k]?) qW
        simp only [List.getElem?_map, gw, hg, Option.map_some, Option.some.injEq] at this
        exact this
      generalize hx : ws[k] = x at gw qx
      have hl : ∀ o, ([⟨false, c, 8, [s.enc]⟩, ⟨false, c + 1, 8, [[.nsl, .nsl, .nsl, .nsl, .nsl, .nsl, .int .i64 0, .int .i64 0]]⟩] ++ b0.inn ++ o : List AObj) = ⟨false, c, 8, [s.enc]⟩ :: ⟨false, c + 1, 8, [[.nsl, .nsl, .nsl, .nsl, .nsl, .nsl, .int .i64 0, .int .i64 0]]⟩ :: (b0.inn ++ o) := fun o => by simp
      have gW : ∀ o, (⟨false, c, 8, [s.enc]⟩ :: ⟨false, c + 1, 8, [[.nsl, .nsl, .nsl, .nsl, .nsl, .nsl, .int .i64 0, .int .i64 0]]⟩ :: (b0.inn ++ o) : List AObj)[2 + iW]? = some ⟨false, t, 9, ws.map TWorker.encO⟩ := fun o => by
        rw [← hl, List.getElem?_append_left (by simp; omega)]; exact fW
      have hxl : x.encO.length = 9 := rfl
      have hdr : List.drop 9 x.encO = [] := rfl
      have gwx : (ws.map TWorker.encO)[k]? = some x.encO := by rw [List.getElem?_map, gw]; rfl
      simp [putA, hin0, hk, hst, hw2, qWl, getW_of (gW _), getW_of gwx, hdr]
      have hwl2 : ∀ y : TWorker, y.encO.length = 9 := fun _ => rfl
      have gLen : (ws.map TWorker.encO).length = ws.length := by simp
      refine hK _ _ _ ⟨c1, c2, b0.inn.length + 1 + 1, iL, iQ, 2 + iW, t, x, { b0 with Workers := .mk t (ws.set k (deadW x)) }, ws.set k (deadW x), ⟨by simp [upd], by simp [upd], by simp [upd], by simp [upd], by simp [upd], ?_, ?_, ?_, ?_, rfl, ?_, fun tl ls h => ?_, fun tq l h => ?_, fun o ho => ?_, ?_, ?_⟩, qx, ?_, by simpa using hkw⟩
      · rw [List.getElem?_set_ne (by omega)]; rfl
      · rw [List.getElem?_set_ne (by omega)]; rfl
      · rw [List.getElem?_set_ne (by omega), ← hl, List.getElem?_append_right (by simp)]
        simp [qWl]
      · rw [List.getElem?_set_ne (by omega), ← hl, List.getElem?_append_right (by simp)]
        simp
      · rw [List.getElem?_set_self (by simp; omega), List.map_set]
        rfl
      · obtain ⟨l1, l2⟩ := fL tl ls h
        have hne : 2 + iW ≠ iL := fun e => by rw [← e] at l2; have := fW.symm.trans l2; simp at this
        rw [List.getElem?_set_ne hne, ← hl, List.getElem?_append_left (by simpa using l1)]
        exact l2
      · obtain ⟨l1, l2⟩ := fQ tq l h
        have hne : 2 + iW ≠ iQ := fun e => by rw [← e] at l2; have := fW.symm.trans l2; simp at this
        rw [List.getElem?_set_ne hne, ← hl, List.getElem?_append_left (by simpa using l1)]
        exact l2
      · refine mem_setN (gW _) ?_ fun e => by have := file_w ho; rw [e] at this; simp at this
        have h1 : o ∈ x.inn := by simp [TWorker.inn, ho]
        have h2 : o ∈ b0.inn := by
          simp only [TServer.inn, hbW, SL.wood, wood, List.mem_append, List.mem_cons, List.mem_flatMap]
          exact .inr (.inr (.inr (.inr (.inl (.inr ⟨x, List.mem_of_getElem? gw, h1⟩)))))
        simp [h2]
      · simp at n1 n2; omega
      · refine ⟨[⟨false, c, 8, [s.enc]⟩, ⟨false, c2, 9, [x.encO]⟩], fun p => ?_⟩
        have k1 := cnt_set (gW [⟨false, c1, 8, [[b0.Files.ref 3, b0.Lines.at_ iL 4, b0.Sessions.ref 4, b0.Queue.at_ iQ 5, .ref (2 + iW) t 9 s.Workers.list.length, b0.Done.ref 11, .int .i64 b0.Next, .int .i64 b0.Now]]⟩, ⟨false, c2, 9, [x.encO]⟩]) ⟨false, t, 9, (ws.map TWorker.encO).set k (deadW x).encO⟩ p
        have k2 := setW_cnt (inn := TWorker.inn) gw (deadW x) p
        have k3 : (deadW x).inn.countP p = 0 := rfl
        have k4 : b0.inn = b0.Files.wood 3 TFile.enc noInn ++ (b0.Lines.wood 4 TLine.encO TLine.inn ++ (b0.Sessions.wood 4 TSession.enc noInn ++ (b0.Queue.wood 5 TJob.encO TJob.inn ++ ((⟨false, t, 9, ws.map TWorker.encO⟩ :: ws.flatMap TWorker.inn) ++ b0.Done.wood 11 TAnswer.encO TAnswer.inn)))) := by simp [TServer.inn, hbW, SL.wood, wood]
        have k5 : b0.inn.countP p = _ := congrArg (List.countP p) k4
        have k6 : ({ b0 with Workers := .mk t (ws.set k (deadW x)) } : TServer).inn = b0.Files.wood 3 TFile.enc noInn ++ (b0.Lines.wood 4 TLine.encO TLine.inn ++ (b0.Sessions.wood 4 TSession.enc noInn ++ (b0.Queue.wood 5 TJob.encO TJob.inn ++ ((⟨false, t, 9, (ws.map TWorker.encO).set k (deadW x).encO⟩ :: (ws.set k (deadW x)).flatMap TWorker.inn) ++ b0.Done.wood 11 TAnswer.encO TAnswer.inn)))) := by simp [TServer.inn, SL.wood, wood, List.map_set]
        rw [k6]
        have k7 : (deadW x).encO = [.int .i64 2, .int .i64 0, .str [], .nsl, .nsl, .str [], .str [], .nsl, .int .i64 x.Served] := rfl
        rw [k7] at k1 ⊢
        have k8 : (ws.set k (deadW x)).length = s.Workers.list.length := by simp [qWl]
        rw [k8]
        simp only [List.countP_append, List.countP_cons, List.countP_nil] at k1 k2 k3 k5 ⊢
        omega
      · have cF : b0.Files.con TFile.con = s.Files.con TFile.con := congrArg TServer.Files q0
        have cL : b0.Lines.con TLine.con = s.Lines.con TLine.con := congrArg TServer.Lines q0
        have cS : b0.Sessions.con TSession.con = s.Sessions.con TSession.con := congrArg TServer.Sessions q0
        have cQ : b0.Queue.con TJob.con = s.Queue.con TJob.con := congrArg TServer.Queue q0
        have cD : b0.Done.con TAnswer.con = s.Done.con TAnswer.con := congrArg TServer.Done q0
        have cN : b0.Next = s.Next := by have := congrArg (fun t : TServer => t.Next) q0; exact this
        have cT : b0.Now = s.Now := by have := congrArg (fun t : TServer => t.Now) q0; exact this
        have e5 := deadW_con qx
        simp only [TServer.con, SL.con, SL.list_mk, List.map_set, e5, qW, cN, cT] at cF cL cS cQ cD ⊢
        rw [cF, cL, cS, cQ, cD]
    · intro e H c' ⟨c1, tb, io, iL, iQ, iW, t, x, b, ws, ⟨e1, e2, e4, e6, e7, h0, h1, ho, hx, hbw, hW, hL, hQ, hF, hne, G, hG⟩, qx, qb, hkw⟩
      have hxe : ∀ i K, getW x.encO i K = getW x.encO i K := fun _ _ => rfl
      have x0 : ∀ K : AV → Prop, getW x.encO 0 K = K (.int .i64 x.State) := fun K => by simp [TWorker.encO]
      have hxl : x.encO.length = 9 := rfl
      have hqs : x.State = (s.Workers.list[k]).State := by have := congrArg (fun t : TWorker => t.State) qx; exact this
      have qbS : b.Sessions.list = s.Sessions.list := sessCon (congrArg (fun t : TServer => t.Sessions.list) qb)
      have qbQ : b.Queue.list.length = s.Queue.list.length := by
        have : b.Queue.list.map TJob.con = s.Queue.list.map TJob.con := congrArg (fun t : TServer => t.Queue.list) qb
        simpa using congrArg List.length this
      have qbL : b.Lines.list.map TLine.con = s.Lines.list.map TLine.con := congrArg (fun t : TServer => t.Lines.list) qb
      have qbLl : b.Lines.list.length = s.Lines.list.length := by simpa using congrArg List.length qbL
      have hxs : s.Workers.list[k] ∈ s.Workers.list := List.getElem_mem hk
      have qxF : x.Files.list = (s.Workers.list[k]).Files.list := fileCon (by have := congrArg (fun t : TWorker => t.Files.list) qx; exact this)
      have qxP : x.Job.Request.Path = (s.Workers.list[k]).Job.Request.Path := by have := congrArg (fun t : TWorker => t.Job.Request.Path) qx; exact this
      have szx : (s.Workers.list[k]).sz ≤ 1048576 := by
        have h1 := szL_mem (sz := TWorker.sz) hxs
        simp only [TServer.sz, szWorkerS] at hz
        omega
      have hfl : okFileS x.Files := by
        unfold okFileS
        rw [qxF]
        simp only [TWorker.sz, szFileS] at szx
        refine ⟨by unfold mx; omega, fun f hf => ?_⟩
        have h1 := szL_mem (sz := TFile.sz) hf
        have h2 : f.sz = f.Path.length + f.Source.length := rfl
        unfold TFile.ok mx
        omega
      have hpl : x.Job.Request.Path.length ≤ mx := by
        rw [qxP]
        have h1 : (s.Workers.list[k]).sz = (s.Workers.list[k]).Job.sz + (s.Workers.list[k]).Data.length + szFileS (s.Workers.list[k]).Files := rfl
        have h2 : (s.Workers.list[k]).Job.sz = (s.Workers.list[k]).Job.Request.sz + (s.Workers.list[k]).Job.Session.length := rfl
        have h3 : (s.Workers.list[k]).Job.Request.Path.length ≤ (s.Workers.list[k]).Job.Request.sz := by simp only [TRequest.sz]; omega
        unfold mx
        omega
      by_cases h1s : x.State = 1
      · refine seq_cutS (fun e' H' c' => CSt s k c c1 tb io iL iQ iW t x x.inn b ws e' H') ?_ ?_
        rotate_left
        · intro K hK
          simp [e1, e2, e4, e6, e7, getW_of hx, x0, h1s]
          exact hK _ _ _ ⟨by simp [upd, e1], by simp [upd, e2], by simp [upd, e4], by simp [upd, e6], by simp [upd, e7], h0, h1, ho, hx, hbw, hW, hL, hQ, hF, hne, G, hG⟩
        clear e1 e2 e4 e6 e7 h0 h1 ho hx hW hL hQ hF hG
        intro e H c' ⟨e1, e2, e4, e6, e7, h0, h1, ho, hx, _, hW, hL, hQ, hF, _, G, hG⟩
        refine seq_cutS (fun e' H' c' => ∃ iQ' tq, CSt s k c c1 tb io iL iQ' iW t x [] { b with Queue := .mk tq (x.Job :: b.Queue.list) } ws e' H') ?_ ?_
        rotate_left
        · intro K hK
          have up : ∀ {i : Nat} {o : AObj} (X : AObj), H[i]? = some o → (H ++ [X])[i]? = some o := fun {i o} X h => by
            rw [List.getElem?_append_left (List.getElem?_eq_some_iff.1 h).1]; exact h
          have gO : ∀ (X : AObj) (K : AObj → Prop), getW (H ++ [X]) io K = K ⟨false, c1, 8, [[b.Files.ref 3, b.Lines.at_ iL 4, b.Sessions.ref 4, b.Queue.at_ iQ 5, .ref iW t 9 ws.length, b.Done.ref 11, .int .i64 b.Next, .int .i64 b.Now]]⟩ := fun X K => getW_of (up X ho) K
          have gX : ∀ (X : AObj) (K : AObj → Prop), getW (H ++ [X]) (io + 1) K = K ⟨false, tb, 9, [x.encO]⟩ := fun X K => getW_of (up X hx) K
          have hnio : H.length ≠ io := fun e => by have := (List.getElem?_eq_some_iff.1 ho).1; omega
          obtain ⟨l, hl5, hbq⟩ : ∃ l, b.Queue.list = l ∧ l.length ≤ 1048576 := ⟨_, rfl, by rw [qbQ]; exact hs.2.2.2.2.1⟩
          have m1 : (1 + l.length) * 88 ≤ 140737488355328 := by omega
          have m2 : 1 + l.length ≤ mx := by unfold mx; omega
          have fin : ∀ (e' : Env) (c'' : Nat), e' 1 = .int .i64 k → e' 2 = .ptr 0 c 8 0 0 → e' 4 = .ptr 1 (c + 1) 8 0 0 → e' 6 = .ptr io c1 8 0 0 → e' 7 = .ptr (io + 1) tb 9 0 0 → K e' ((H ++ [(⟨false, c' + 1, 5, x.Job.encO :: l.map TJob.encO⟩ : AObj)]).set io ⟨false, c1, 8, [[b.Files.ref 3, b.Lines.at_ iL 4, b.Sessions.ref 4, .ref H.length (c' + 1) 5 (1 + l.length), .ref iW t 9 ws.length, b.Done.ref 11, .int .i64 b.Next, .int .i64 b.Now]]⟩) c'' := by
            intro e' c'' e1 e2 e4 e6 e7
            have hiol := (List.getElem?_eq_some_iff.1 ho).1
            obtain ⟨hne1, hne2, hne3⟩ := hne
            refine hK _ _ _ ⟨H.length, c' + 1, e1, e2, e4, e6, e7, ?_, ?_, ?_, ?_, hbw, ?_, fun tl ls h => ?_, fun tq l' h => ?_, fun o ho' => ?_, ⟨hne1, hne2, hne3⟩, G ++ (b.Queue.wood 5 TJob.encO noInn ++ x.Files.wood 3 TFile.enc noInn), fun p => ?_⟩
            · rw [List.getElem?_set_ne (by omega)]; exact up _ h0
            · rw [List.getElem?_set_ne (by omega)]; exact up _ h1
            · rw [List.getElem?_set_self (by simp; omega)]
              simp only [hl5, SL.at_, List.length_cons, Nat.add_comm]
            · rw [List.getElem?_set_ne (by omega)]; exact up _ hx
            · rw [List.getElem?_set_ne (by omega)]; exact up _ hW
            · have := hL tl ls h
              rw [List.getElem?_set_ne (w_ne ho this (by simp))]; exact up _ this
            · simp only [SL.mk.injEq] at h
              obtain ⟨rfl, rfl⟩ := h
              rw [List.getElem?_set_ne (Ne.symm hnio), List.getElem?_append_right (Nat.le_refl _)]
              simp [hl5]
            · refine mem_setN (up _ ho) ?_ fun e => by have := file_w ho'; rw [e] at this; simp at this
              exact List.mem_append_left _ (hF o ho')
            · have k1 := cnt_set (up ⟨false, c' + 1, 5, x.Job.encO :: l.map TJob.encO⟩ ho) ⟨false, c1, 8, [[b.Files.ref 3, b.Lines.at_ iL 4, b.Sessions.ref 4, .ref H.length (c' + 1) 5 (1 + l.length), .ref iW t 9 ws.length, b.Done.ref 11, .int .i64 b.Next, .int .i64 b.Now]]⟩ p
              have k2 := hG p
              have k3 := inn_queue b (.mk (c' + 1) (x.Job :: b.Queue.list)) p
              have k4 := inn_worker x p
              have k6 : (SL.mk (c' + 1) (x.Job :: b.Queue.list)).wood 5 TJob.encO TJob.inn = ⟨false, c' + 1, 5, x.Job.encO :: l.map TJob.encO⟩ :: (x.Job.inn ++ l.flatMap TJob.inn) := by rw [hl5]; simp [SL.wood, wood]
              have k7 : ({ b with Queue := .mk (c' + 1) (x.Job :: b.Queue.list) } : TServer).Queue.at_ H.length 5 = .ref H.length (c' + 1) 5 (1 + l.length) := by simp only [hl5, SL.at_, List.length_cons, Nat.add_comm]
              have k8 := wood_split 5 TJob.encO TJob.inn b.Queue p
              rw [hl5] at k8
              rw [k6] at k3
              rw [k7]
              simp only [List.countP_append, List.countP_cons, List.countP_nil] at k1 k2 k3 k4 ⊢
              omega
          cases hbQ : b.Queue with
          | nil =>
            have hl0 : l = [] := by rw [← hl5, hbQ]; rfl
            rw [hbQ] at gO
            rw [show (SL.nil : SL TJob).at_ iQ 5 = .nsl from rfl] at gO
            simp [e1, e2, e4, e6, e7, getW_of hx, x0, h1s, hxl, putA]
            rw [show List.take 5 x.encO.tail = x.Job.encO from rfl]
            subst hl0
            simp [e1, e2, e4, e6, e7, gO, gX, x0, h1s, hxl, putA] at fin ⊢
            exact ⟨by unfold mx; omega, fin _ _ (by simp [upd, e1]) (by simp [upd, e2]) (by simp [upd, e4]) (by simp [upd, e6]) (by simp [upd, e7])⟩
          | mk tq l' =>
            have hl0 : l' = l := by rw [← hl5, hbQ]; rfl
            subst hl0
            have hQl := hQ tq l' hbQ
            have gQ : ∀ (X : AObj) (K : AObj → Prop), getW (H ++ [X]) iQ K = K ⟨false, tq, 5, l'.map TJob.encO⟩ := fun X K => getW_of (up X hQl) K
            rw [hbQ] at gO
            rw [show (SL.mk tq l' : SL TJob).at_ iQ 5 = .ref iQ tq 5 l'.length from rfl] at gO
            simp [e1, e2, e4, e6, e7, getW_of hx, x0, h1s, hxl, putA]
            rw [show List.take 5 x.encO.tail = x.Job.encO from rfl]
            simp [e1, e2, e4, e6, e7, gO, gX, gQ, x0, h1s, hxl, putA, m1, m2]
            rw [show List.take l'.length (l'.map TJob.encO) = l'.map TJob.encO from List.take_of_length_le (by simp)]
            exact fin _ _ (by simp [upd, e1]) (by simp [upd, e2]) (by simp [upd, e4]) (by simp [upd, e6]) (by simp [upd, e7])
        clear e1 e2 e4 e6 e7 h0 h1 ho hx hW hL hQ hF hG
        intro e H c' ⟨iQ', tq, e1, e2, e4, e6, e7, h0, h1, ho, hx, _, hW, hL, hQ, hF, _, G, hG⟩
        obtain ⟨b1, hb1⟩ : ∃ b1 : TServer, b1 = { b with Queue := .mk tq (x.Job :: b.Queue.list) } := ⟨_, rfl⟩
        rw [← hb1] at ho hG hL hQ
        have hbw1 : b1.Workers = .mk t ws := by rw [hb1]; exact hbw
        have hbl1 : b1.Lines = b.Lines := by rw [hb1]
        refine seq_cutS (fun e' H' c' => ∃ bS : SL TSession, bS.list = s.Sessions.list.map (dropH ((k : Int) + 1)) ∧ CSt s k c c1 tb io iL iQ' iW t x [] { b1 with Sessions := bS } ws e' H') ?_ ?_
        rotate_left
        · intro K hK
          simp [e1, e2, e4, e6, e7, getW_of h0, getW_of hx, getW_of ho, hxl, putA, hw2]
          refine call_new (spec_dropO (s := s.Sessions) (who := (k : Int) + 1) hs.2.2.2.1 _) (Views.refl _ _) fun r O c3 hc3 ⟨bS, hr, hO, hbS⟩ _ _ => ?_
          subst hr; subst hO
          refine ⟨_, .refl _, free_ref _ _ _, fun o ho => flat_free TSession.flat _ _ o ho _, ?_⟩
          obtain ⟨H2, hH2⟩ : ∃ H2, H2 = H ++ bS.wood 4 TSession.enc noInn := ⟨_, rfl⟩
          have up : ∀ {i : Nat} {o : AObj}, H[i]? = some o → H2[i]? = some o := fun {i o} h => by
            rw [hH2, List.getElem?_append_left (List.getElem?_eq_some_iff.1 h).1]; exact h
          rw [← hH2]
          simp [e1, e2, e4, e6, e7, getW_of (up hx), getW_of (up ho), hxl, putA]
          have hiol := (List.getElem?_eq_some_iff.1 (up ho)).1
          have hne0 := hne
          obtain ⟨hne1, hne2, hne3⟩ := hne
          refine hK _ _ _ ⟨bS, hbS, by simp [upd, e1], by simp [upd, e2], by simp [upd, e4], by simp [upd, e6], by simp [upd, e7], ?_, ?_, ?_, ?_, hbw1, ?_, fun tl ls h => ?_, fun tq l h => ?_, fun o ho' => ?_, ⟨hne1, hne2, hne3⟩, G ++ b1.Sessions.wood 4 TSession.enc noInn, fun p => ?_⟩
          · rw [List.getElem?_set_ne (by omega)]; exact up h0
          · rw [List.getElem?_set_ne (by omega)]; exact up h1
          · rw [List.getElem?_set_self (by omega)]
          · rw [List.getElem?_set_ne (by omega)]; exact up hx
          · rw [List.getElem?_set_ne (by omega)]; exact up hW
          · have := hL tl ls h
            rw [List.getElem?_set_ne (w_ne ho this (by simp))]; exact up this
          · have := hQ tq l h
            rw [List.getElem?_set_ne (w_ne ho this (by simp))]; exact up this
          · refine mem_setN (up ho) ?_ fun e => by have := file_w ho'; rw [e] at this; simp at this
            rw [hH2]; exact List.mem_append_left _ (hF o ho')
          · have k1 := cnt_set (up ho) ⟨false, c1, 8, [[b1.Files.ref 3, b1.Lines.at_ iL 4, bS.ref 4, b1.Queue.at_ iQ' 5, .ref iW t 9 ws.length, b1.Done.ref 11, .int .i64 b1.Next, .int .i64 b1.Now]]⟩ p
            have k2 := hG p
            have k3 := inn_sess b1 bS p
            have k5 : H2.countP p = _ := congrArg (List.countP p) hH2
            simp only [List.countP_append, List.countP_cons, List.countP_nil] at k1 k2 k3 k5 ⊢
            omega
        clear e1 e2 e4 e6 e7 h0 h1 ho hx hW hL hQ hF hG
        intro e H c' ⟨bS, hbS, e1, e2, e4, e6, e7, h0, h1, ho, hx, _, hW, hL, hQ, hF, _, G, hG⟩
        obtain ⟨b2, hb2⟩ : ∃ b2 : TServer, b2 = { b1 with Sessions := bS } := ⟨_, rfl⟩
        rw [← hb2] at ho hG hL hQ
        have hbw2 : b2.Workers = .mk t ws := by rw [hb2]; exact hbw1
        refine seq_cutS (fun e' H' c' => e' 8 = .int .i64 (findP x.Job.Request.Path x.Files.list) ∧ CSt s k c c1 tb io iL iQ' iW t x [] b2 ws e' H') ?_ ?_
        rotate_left
        · intro K hK
          have x7 : ∀ K : AV → Prop, getW x.encO 7 K = K (x.Files.ref 3) := fun K => by simp [TWorker.encO]
          have x2 : ∀ K : AV → Prop, getW x.encO 2 K = K (.str x.Job.Request.Path) := fun K => by simp [TWorker.encO]
          simp [e1, e2, e4, e6, e7, getW_of hx, getW_of ho, hxl, putA, hw2, x7, x2]
          refine call_fn (spec_findP hfl.1 hpl) (.cons (view_flat hF TFile.flat.cells) (.cons (.refl _) .nil)) .int fun c3 hc3 => ?_
          simp
          exact hK _ _ _ ⟨by simp [upd], by simp [upd, e1], by simp [upd, e2], by simp [upd, e4], by simp [upd, e6], by simp [upd, e7], h0, h1, ho, hx, hbw2, hW, hL, hQ, hF, hne, G, hG⟩
        clear e1 e2 e4 e6 e7 h0 h1 ho hx hW hL hQ hF hG
        intro e H c' ⟨e8, e1, e2, e4, e6, e7, h0, h1, ho, hx, _, hW, hL, hQ, hF, _, G, hG⟩
        have hL2 : b2.Lines = b.Lines := by rw [hb2]; exact hbl1
        refine seq_cutS (fun e' H' c' => ∃ L' : SL TLine, L'.list = lockL k x.Files.list x.Job.Request.Path b2.Lines.list ∧ CSt s k c c1 tb io iL iQ' iW t x [] { b2 with Lines := L' } ws e' H') ?_ ?_
        rotate_left
        · intro K hK
          have x7 : ∀ K : AV → Prop, getW x.encO 7 K = K (x.Files.ref 3) := fun K => by simp [TWorker.encO]
          have hll : b2.Lines.list.length ≤ 1048576 := by rw [hL2, qbLl]; exact hs.2.1
          have hw4 : IntKind.i64.wrap ((b2.Lines.list.length : Int) - 1) = (b2.Lines.list.length : Int) - 1 := wrap64 (by omega) (by omega)
          simp [e1, e2, e4, e6, e7, e8, getW_of hx, getW_of ho, hxl, putA, hw2, hw4]
          refine call_fn0 (l1In_fn _ _ _) .bool fun c3 hc3 => ?_
          cases hin : inR (findP x.Job.Request.Path x.Files.list) 0 ((b2.Lines.list.length : Int) - 1)
          · simp [e1, e2, e4, e6, e7, e8, getW_of hx, getW_of ho, hxl, putA, hw2, hw4]
            exact hK _ _ _ ⟨b2.Lines, by unfold lockL; rw [hin]; rfl, by simp [upd, e1], by simp [upd, e2], by simp [upd, e4], by simp [upd, e6], by simp [upd, e7], h0, h1, ho, hx, hbw2, hW, hL, hQ, hF, hne, G, hG⟩
          · have hin0 := hin
            unfold inR at hin
            simp only [Bool.and_eq_true, decide_eq_true_eq] at hin
            obtain ⟨j, hj⟩ := Int.eq_ofNat_of_zero_le hin.1
            have hjl : j < b2.Lines.list.length := by omega
            cases hbL : b2.Lines with
            | nil => rw [hbL] at hjl; simp at hjl
            | mk tl ls =>
            have hLl := hL tl ls hbL
            have ho0 := ho
            have hjl0 := hjl
            rw [hbL] at hjl ho
            simp only [SL.list_mk] at hjl
            rw [show (SL.mk tl ls : SL TLine).at_ iL 4 = .ref iL tl 4 ls.length from rfl] at ho
            have gy : ls[j]? = some ls[j] := List.getElem?_eq_getElem hjl
            generalize hy : ls[j] = y at gy
            have gyx : (ls.map TLine.encO)[j]? = some y.encO := by rw [List.getElem?_map, gy]; rfl
            rw [hj] at e8
            simp [e1, e2, e4, e6, e7, e8, getW_of hx, getW_of ho, getW_of hLl, getW_of gyx, hxl, putA, hw2, hw4, hjl]
            have hlk : lockL k x.Files.list x.Job.Request.Path ls = if y.Seq.tmod 2 = 0 then ls.set j ⟨IntKind.i64.wrap (y.Seq + 1), (k : Int) + 1, stamp x.Files.list, .nil⟩ else ls := by
              have hin1 := hin0
              rw [hbL, SL.list_mk, hj] at hin1
              unfold lockL
              rw [hj, if_pos hin1, Int.toNat_natCast, gy]
            refine ⟨fun hs0 => ?_, fun hs0 => ?_⟩
            · refine callF_fnv (spec_stamp hfl) (.cons (view_flat hF TFile.flat.cells) .nil) .int fun c4 hc4 => ?_
              have hyl : ∀ y : TLine, y.encO.length = 4 := fun _ => rfl
              have hydr : List.drop 4 y.encO = [] := rfl
              simp [e1, e2, e4, e6, e7, e8, getW_of hx, getW_of ho, getW_of hLl, getW_of gyx, hxl, putA, hw2, hw4, hjl, hyl, hydr]
              have hil := (List.getElem?_eq_some_iff.1 hLl).1
              refine hK _ _ _ ⟨.mk tl (ls.set j ⟨IntKind.i64.wrap (y.Seq + 1), (k : Int) + 1, stamp x.Files.list, .nil⟩), ?_, by simp [upd, e1], by simp [upd, e2], by simp [upd, e4], by simp [upd, e6], by simp [upd, e7], ?_, ?_, ?_, ?_, hbw2, ?_, fun tl' ls' h => ?_, fun tq l h => ?_, fun o ho' => ?_, hne, G ++ y.inn, fun p => ?_⟩
              · rw [hbL, SL.list_mk, SL.list_mk, hlk, if_pos hs0]
              · rw [List.getElem?_set_ne (w_ne hLl h0 (by simp))]; exact h0
              · rw [List.getElem?_set_ne (w_ne hLl h1 (by simp))]; exact h1
              · rw [List.getElem?_set_ne (w_ne hLl ho (by simp)), ho]
                simp [SL.at_]
              · rw [List.getElem?_set_ne (w_ne hLl hx (by simp))]; exact hx
              · rw [List.getElem?_set_ne (w_ne hLl hW (by simp))]; exact hW
              · simp only [SL.mk.injEq] at h
                obtain ⟨rfl, rfl⟩ := h
                rw [List.getElem?_set_self hil, List.map_set]
                rfl
              · have := hQ tq l h
                rw [List.getElem?_set_ne (w_ne hLl this (by simp))]; exact this
              · exact mem_setN hLl (hF o ho') fun e => by have := file_w ho'; rw [e] at this; simp at this
              · have k1 := cnt_set hLl ⟨false, tl, 4, (ls.map TLine.encO).set j (TLine.mk (IntKind.i64.wrap (y.Seq + 1)) ((k : Int) + 1) (stamp x.Files.list) .nil).encO⟩ p
                have k2 := hG p
                have k3 := inn_lines b2 (.mk tl (ls.set j ⟨IntKind.i64.wrap (y.Seq + 1), (k : Int) + 1, stamp x.Files.list, .nil⟩)) p
                have k4 := setW_cnt (inn := TLine.inn) gy ⟨IntKind.i64.wrap (y.Seq + 1), (k : Int) + 1, stamp x.Files.list, .nil⟩ p
                have k5 : (TLine.inn ⟨IntKind.i64.wrap (y.Seq + 1), (k : Int) + 1, stamp x.Files.list, .nil⟩).countP p = 0 := rfl
                have k6 : (SL.mk tl (ls.set j ⟨IntKind.i64.wrap (y.Seq + 1), (k : Int) + 1, stamp x.Files.list, .nil⟩)).wood 4 TLine.encO TLine.inn = ⟨false, tl, 4, (ls.map TLine.encO).set j (TLine.mk (IntKind.i64.wrap (y.Seq + 1)) ((k : Int) + 1) (stamp x.Files.list) .nil).encO⟩ :: (ls.set j ⟨IntKind.i64.wrap (y.Seq + 1), (k : Int) + 1, stamp x.Files.list, .nil⟩).flatMap TLine.inn := by simp [SL.wood, wood, List.map_set]
                have k8 : b2.Lines.wood 4 TLine.encO TLine.inn = ⟨false, tl, 4, ls.map TLine.encO⟩ :: ls.flatMap TLine.inn := by rw [hbL]; rfl
                have k9 : ({ b2 with Lines := .mk tl (ls.set j ⟨IntKind.i64.wrap (y.Seq + 1), (k : Int) + 1, stamp x.Files.list, .nil⟩) } : TServer).Lines.at_ iL 4 = b2.Lines.at_ iL 4 := by rw [hbL]; simp [SL.at_]
                rw [k6, k8] at k3
                rw [k9]
                simp only [List.countP_append, List.countP_cons, List.countP_nil] at k1 k2 k3 k4 k5 ⊢
                simp only [TLine.encO, ref_nil] at k1 k3 ⊢
                omega
            · exact hK _ _ _ ⟨b2.Lines, by rw [hbL, SL.list_mk, hlk, if_neg hs0], by simp [upd, e1], by simp [upd, e2], by simp [upd, e4], by simp [upd, e6], by simp [upd, e7], h0, h1, ho0, hx, hbw2, hW, hL, hQ, hF, hne, G, hG⟩
        clear e1 e2 e4 e6 e7 h0 h1 ho hx hW hL hQ hF hG
        intro e H c' ⟨L', hL', e1, e2, e4, e6, e7, h0, h1, ho, hx, _, hW, hL, hQ, hF, _, G, hG⟩
        obtain ⟨b3, hb3⟩ : ∃ b3 : TServer, b3 = { b2 with Lines := L' } := ⟨_, rfl⟩
        rw [← hb3] at ho hG
        simp [e1, e2, e4, e6, e7, getW_of hx, getW_of ho, getW_of h1, putA, hxl]
        refine ⟨(List.getElem?_eq_some_iff.1 h1).1, fin_all ⟨b3, _, [], _, G ++ [⟨false, c1, 8, [[b3.Files.ref 3, b3.Lines.at_ iL 4, b3.Sessions.ref 4, b3.Queue.at_ iQ' 5, .ref iW t 9 ws.length, b3.Done.ref 11, .int .i64 b3.Next, .int .i64 b3.Now]]⟩, ⟨false, c + 1, 8, [[b3.Files.ref 3, b3.Lines.at_ iL 4, b3.Sessions.ref 4, b3.Queue.at_ iQ' 5, .ref iW t 9 ws.length, b3.Done.ref 11, .int .i64 b3.Next, .int .i64 b3.Now]]⟩], rfl, .cons (.refl _) (.cons (view_at' _ _ _ _) (.cons (.refl _) (.cons (view_at' _ _ _ _) (.cons ?_ (.cons (.refl _) (.cons (.refl _) (.cons (.refl _) .nil))))))), rfl, perm_cnt fun p => ?_, ?_⟩⟩
        · show View [] _ (b3.Workers.ref 9)
          rw [hb3]
          show View [] _ (b2.Workers.ref 9)
          rw [hbw2]; exact .name
        · have k1 := cnt_set h1 ⟨false, c + 1, 8, [[b3.Files.ref 3, b3.Lines.at_ iL 4, b3.Sessions.ref 4, b3.Queue.at_ iQ' 5, .ref iW t 9 ws.length, b3.Done.ref 11, .int .i64 b3.Next, .int .i64 b3.Now]]⟩ p
          have k2 := hG p
          simp only [List.countP_append, List.countP_cons, List.countP_nil] at k1 k2 ⊢
          omega
        · have hcr : crash s k = { s with Workers := .mk 0 (s.Workers.list.set k (deadW s.Workers.list[k])), Queue := .mk 0 ((s.Workers.list[k]).Job :: s.Queue.list), Sessions := .mk 0 (s.Sessions.list.map (dropH ((k : Int) + 1))), Lines := .mk 0 (lockL k (s.Workers.list[k]).Files.list (s.Workers.list[k]).Job.Request.Path s.Lines.list) } := by
            unfold crash
            rw [hok0, Int.toNat_natCast, hg]
            simp only
            rw [if_pos (by rw [← hqs]; exact h1s)]
          have cF : b.Files.con TFile.con = s.Files.con TFile.con := congrArg TServer.Files qb
          have cQ : b.Queue.list.map TJob.con = s.Queue.list.map TJob.con := congrArg (fun t : TServer => t.Queue.list) qb
          have cW : b.Workers.list.map TWorker.con = (s.Workers.list.set k (deadW s.Workers.list[k])).map TWorker.con := congrArg (fun t : TServer => t.Workers.list) qb
          have cD : b.Done.con TAnswer.con = s.Done.con TAnswer.con := congrArg TServer.Done qb
          have cN : b.Next = s.Next := by have := congrArg (fun t : TServer => t.Next) qb; exact this
          have cT : b.Now = s.Now := by have := congrArg (fun t : TServer => t.Now) qb; exact this
          have cJ : x.Job.con = (s.Workers.list[k]).Job.con := by have := congrArg (fun t : TWorker => t.Job) qx; exact this
          have e10 : bS.list = s.Sessions.list.map (dropH ((k : Int) + 1)) := hbS
          have e11 : L'.list.map TLine.con = (lockL k (s.Workers.list[k]).Files.list (s.Workers.list[k]).Job.Request.Path s.Lines.list).map TLine.con := by
            rw [hL', qxF, qxP, hL2]; exact lockL_con _ _ _ qbL
          rw [hcr, hb3, hb2, hb1]
          simp only [TServer.con, SL.con, SL.list_mk, List.map_cons, cQ, cW, cN, cT, cJ, e10, e11] at cF cD ⊢
          rw [cF, cD]
      · simp [e1, e2, e4, e6, e7, getW_of hx, getW_of ho, getW_of h1, x0, h1s, putA, hxl]
        have hcr : crash s k = { s with Workers := .mk 0 (s.Workers.list.set k (deadW s.Workers.list[k])) } := by
          unfold crash
          rw [hok0, Int.toNat_natCast, hg]
          simp only
          rw [if_neg (by rw [← hqs]; exact h1s)]
        refine ⟨by have := hne; have := (List.getElem?_eq_some_iff.1 h1).1; exact this, fin_all ⟨b, _, [], _, x.inn ++ (G ++ [⟨false, c1, 8, [[b.Files.ref 3, b.Lines.at_ iL 4, b.Sessions.ref 4, b.Queue.at_ iQ 5, .ref iW t 9 ws.length, b.Done.ref 11, .int .i64 b.Next, .int .i64 b.Now]]⟩, ⟨false, c + 1, 8, [[b.Files.ref 3, b.Lines.at_ iL 4, b.Sessions.ref 4, b.Queue.at_ iQ 5, .ref iW t 9 ws.length, b.Done.ref 11, .int .i64 b.Next, .int .i64 b.Now]]⟩]), rfl, .cons (.refl _) (.cons (view_at' _ _ _ _) (.cons (.refl _) (.cons (view_at' _ _ _ _) (.cons ?_ (.cons (.refl _) (.cons (.refl _) (.cons (.refl _) .nil))))))), rfl, perm_cnt fun p => ?_, ?_⟩⟩
        · show View [] _ (b.Workers.ref 9)
          rw [hbw]; exact .name
        · have k1 := cnt_set h1 ⟨false, c + 1, 8, [[b.Files.ref 3, b.Lines.at_ iL 4, b.Sessions.ref 4, b.Queue.at_ iQ 5, .ref iW t 9 ws.length, b.Done.ref 11, .int .i64 b.Next, .int .i64 b.Now]]⟩ p
          have k2 := hG p
          simp only [List.countP_append, List.countP_cons, List.countP_nil] at k1 k2 ⊢
          omega
        · rw [hcr]; exact qb
theorem spec_craO {s : TServer} {w : Int} (hs : SmSrv s) (hz : s.sz ≤ 1048576) (hw : -9223372036854775808 ≤ w ∧ w ≤ 9223372036854775807) (c : Nat) : Con Tryz.prog 5 [.agg s.enc, .int .i64 w] [] c fun r O _ => SrvQ (craOk s w) (crash s w) r O := con_srvK (spec_craK hs hz hw c)
end A
end Go.Proofs.YtkcilmkienlnoaaGreatDoor

/-
  A name for the typed texts of this seat. No condition.
-/

/-
  The pairs' bounds, of the reference and of the program. No condition.
-/


namespace Go.Proofs.YtkcilmkienlnoaaGreatDoor
namespace A
set_option linter.unusedVariables false
set_option linter.unusedSimpArgs false
set_option maxRecDepth 100000

def okPair (p : TPair) : Bool := decide (p.Name.length ≤ 60) && decide (p.Value.length ≤ 60)
def okP (l : List TPair) : Bool := l.all okPair && decide (l.length ≤ 12)
theorem okP_sz {l : List TPair} (h : okP l = true) : l.length ≤ 12 ∧ szL TPair.sz l ≤ 120 * l.length := by
  simp only [okP, Bool.and_eq_true, decide_eq_true_eq] at h
  refine ⟨h.2, ?_⟩
  have h1 := h.1
  clear h
  induction l with
  | nil => simp [szL]
  | cons p l ih =>
    simp only [List.all_cons, Bool.and_eq_true, okPair, decide_eq_true_eq] at h1
    have := ih h1.2
    simp [szL, TPair.sz] at this ⊢; omega
/-! ### the pairs' bounds -/
theorem TPair.flat' : Flat TPair.enc := fun x a ha => by
  simp [TPair.enc] at ha
  rcases ha with rfl | rfl <;> exact ⟨rfl, free_str _⟩
theorem TPair.free (x : TPair) : ∀ a, a ∈ x.enc → Free a := fun a ha => (TPair.flat' x a ha).2
end A
end Go.Proofs.YtkcilmkienlnoaaGreatDoor

/-
  IsRequest of the reference and of the program are the same plain function, and the law answers true. No condition.
-/


namespace Go.Proofs.YtkcilmkienlnoaaGreatDoor
namespace A
set_option linter.unusedVariables false
set_option linter.unusedSimpArgs false
set_option maxRecDepth 100000

def isReq (x : TRequest) : Bool := isN x.Path && okP x.Query.list && okP x.Cookies.list
theorem req_same {a b : TRequest} (h : a.con = b.con) : a.Path = b.Path ∧ a.Query.list = b.Query.list ∧ a.Cookies.list = b.Cookies.list := by
  have e : ∀ l : List TPair, l.map TPair.con = l := fun l => List.map_id' l
  have h1 : (a.con.Query).list = (b.con.Query).list := congrArg (fun z => z.Query.list) h
  have h2 : (a.con.Cookies).list = (b.con.Cookies).list := congrArg (fun z => z.Cookies.list) h
  exact ⟨(congrArg TRequest.Path h : a.con.Path = b.con.Path), by simpa [TRequest.con, e] using h1, by simpa [TRequest.con, e] using h2⟩
theorem isReq_con {a b : TRequest} (h : a.con = b.con) : isReq a = isReq b := by
  obtain ⟨h1, h2, h3⟩ := req_same h
  unfold isReq; rw [h1, h2, h3]
theorem reqOk_con {a b : TRequest} (h : a.con = b.con) (ha : b.ok) : a.ok := by
  obtain ⟨h1, h2, h3⟩ := req_same h
  unfold TRequest.ok okPairS at ha ⊢; rw [h1, h2, h3]; exact ha
def TRequest.at (c : Nat) (a : TRequest) : TRequest := { a with Query := .mk c a.Query.list, Cookies := .mk c a.Cookies.list }
theorem TRequest.at_con (c : Nat) (a : TRequest) : (a.at c).con = a.con := rfl
theorem pairs_from (c : Nat) (l : List TPair) : From c ((SL.mk c l).av 2 TPair.enc) := by
  refine from_slc (Nat.le_refl _) fun row hr y hy => ?_
  obtain ⟨h, _, rfl⟩ := List.mem_map.1 hr
  exact (TPair.free h y hy).from c
theorem TRequest.at_from (c : Nat) (a : TRequest) : From c (.agg (a.at c).enc) := from_agg fun x hx => by
  simp [TRequest.enc, TRequest.at] at hx
  rcases hx with rfl | rfl | rfl
  · simp
  · exact pairs_from c _
  · exact pairs_from c _
def IsQ (a : TRequest) (v : AV) : Prop := ∃ b : TRequest, v = .agg b.enc ∧ b.con = a.con
theorem IsQ_some (a : TRequest) (c : Nat) : ∃ r, IsQ a r ∧ From c r := ⟨_, ⟨a.at c, rfl, a.at_con c⟩, a.at_from c⟩
end A
end Go.Proofs.YtkcilmkienlnoaaGreatDoor

/-
  Servers whose trees bear one tag: what a statement of open order may be given. No condition.
-/


namespace Go.Proofs.YtkcilmkienlnoaaGreatDoor
namespace A
set_option linter.unusedVariables false
set_option linter.unusedSimpArgs false
set_option maxRecDepth 100000

theorem sl_from {α : Type} (c w : Nat) (enc : α → List AV) (l : List α) (h : ∀ x a, a ∈ enc x → From c a) : From c ((SL.mk c l).av w enc) := by
  refine from_slc (Nat.le_refl _) fun row hr y hy => ?_
  obtain ⟨x, _, rfl⟩ := List.mem_map.1 hr
  exact h x y hy
theorem sl_at {α : Type} (c w : Nat) (enc : α → List AV) (f : α → α) (l : List α) (h : ∀ x a, a ∈ enc (f x) → From c a) : From c ((SL.mk c (l.map f)).av w enc) := by
  refine from_slc (Nat.le_refl _) fun row hr y hy => ?_
  obtain ⟨x, hx, rfl⟩ := List.mem_map.1 hr
  obtain ⟨z, _, rfl⟩ := List.mem_map.1 hx
  exact h z y hy
def TLine.at (c : Nat) (x : TLine) : TLine := { x with Words := .mk c x.Words.list }
def TJob.at (c : Nat) (x : TJob) : TJob := { x with Request := x.Request.at c }
def TWorker.at (c : Nat) (x : TWorker) : TWorker := { x with Job := x.Job.at c, Files := .mk c x.Files.list }
def TAnswer.at (c : Nat) (x : TAnswer) : TAnswer := { x with Files := .mk c x.Files.list, Request := x.Request.at c, Response := { x.Response with Headers := .mk c x.Response.Headers.list } }
def TServer.at (c : Nat) (s : TServer) : TServer := ⟨.mk c s.Files.list, .mk c (s.Lines.list.map (TLine.at c)), .mk c s.Sessions.list, .mk c (s.Queue.list.map (TJob.at c)), .mk c (s.Workers.list.map (TWorker.at c)), .mk c (s.Done.list.map (TAnswer.at c)), s.Next, s.Now⟩
theorem TServer.at_con (c : Nat) (s : TServer) : (s.at c).con = s.con := by
  have e1 : (TLine.con ∘ TLine.at c) = TLine.con := rfl
  have e2 : (TJob.con ∘ TJob.at c) = TJob.con := rfl
  have e3 : (TWorker.con ∘ TWorker.at c) = TWorker.con := rfl
  have e4 : (TAnswer.con ∘ TAnswer.at c) = TAnswer.con := rfl
  unfold TServer.con TServer.at SL.con
  simp only [SL.list_mk, List.map_map, e1, e2, e3, e4]
theorem file_from (c : Nat) (l : List TFile) : From c ((SL.mk c l).av 3 TFile.enc) := sl_from c 3 _ l fun x a ha => by
  simp [TFile.enc] at ha
  rcases ha with rfl | rfl | rfl <;> simp
theorem job_at_from (c : Nat) (x : TJob) : ∀ a, a ∈ (x.at c).enc → From c a := fun a ha => by
  simp [TJob.enc, TJob.at, TRequest.at] at ha
  rcases ha with rfl | rfl | rfl | rfl | rfl
  · simp
  · simp
  · exact pairs_from c _
  · exact pairs_from c _
  · simp
theorem worker_at_from (c : Nat) (x : TWorker) : ∀ a, a ∈ (x.at c).enc → From c a := fun a ha => by
  simp [TWorker.enc, TWorker.at, TJob.at, TRequest.at] at ha
  rcases ha with rfl | rfl | rfl | rfl | rfl | rfl | rfl | rfl | rfl
  · simp
  · simp
  · simp
  · exact pairs_from c _
  · exact pairs_from c _
  · simp
  · simp
  · exact file_from c _
  · simp
theorem answer_at_from (c : Nat) (x : TAnswer) : ∀ a, a ∈ (x.at c).enc → From c a := fun a ha => by
  simp [TAnswer.enc, TAnswer.at, TRequest.at] at ha
  rcases ha with rfl | rfl | rfl | rfl | rfl | rfl | rfl | rfl | rfl | rfl | rfl
  · simp
  · simp
  · exact file_from c _
  · simp
  · exact pairs_from c _
  · exact pairs_from c _
  · simp
  · simp
  · exact sl_from c 2 _ _ fun x a ha => by
      simp [THeader.enc] at ha
      rcases ha with rfl | rfl <;> simp
  · simp
  · simp
theorem TServer.at_from (c : Nat) (s : TServer) : From c (.agg (s.at c).enc) := from_agg fun x hx => by
  simp [TServer.enc, TServer.at] at hx
  rcases hx with rfl | rfl | rfl | rfl | rfl | rfl | rfl | rfl
  · exact file_from c _
  · exact sl_at c 4 _ _ _ fun x a ha => by
      simp [TLine.enc, TLine.at] at ha
      rcases ha with rfl | rfl | rfl | rfl
      · simp
      · simp
      · simp
      · exact sl_from c 1 _ _ fun x a ha => by
          simp [encI] at ha
          subst ha; simp
  · exact sl_from c 4 _ _ fun x a ha => by
      simp [TSession.enc] at ha
      rcases ha with rfl | rfl | rfl | rfl <;> simp
  · exact sl_at c 5 _ _ _ (job_at_from c)
  · exact sl_at c 9 _ _ _ (worker_at_from c)
  · exact sl_at c 11 _ _ _ (answer_at_from c)
  · simp
  · simp
def SrvV (a : TServer) (v : AV) : Prop := ∃ b : TServer, v = .agg b.enc ∧ b.con = a.con
theorem SrvV_some (a : TServer) (c : Nat) : ∃ r, SrvV a r ∧ From c r := ⟨_, ⟨a.at c, rfl, a.at_con c⟩, a.at_from c⟩
end A
end Go.Proofs.YtkcilmkienlnoaaGreatDoor

/-
  The law of CrashWork answers true. No condition.
-/



namespace Go.Proofs.YtkcilmkienlnoaaGreatDoor
namespace A
set_option linter.unusedVariables false
set_option linter.unusedSimpArgs false
set_option maxRecDepth 100000

@[simp] theorem getW_midZ {α : Type} (A T M : List α) (X W B : α) (K : α → Prop) : getW (A ++ X :: (T ++ W :: B :: M)) (A.length + (T.length + 1 + 1)) K = K B :=
  getW_of (by rw [List.getElem?_append_right (by omega), Nat.add_sub_cancel_left, List.getElem?_cons_succ, List.getElem?_append_right (by omega)]; simp) K
def BdS (s : TServer) : Prop := szFileS s.Files + szLineS s.Lines + szJobS s.Queue + szAnswerS s.Done ≤ 1048576 ∧ s.Sessions.list.length ≤ 1048577 ∧ szWorkerS s.Workers ≤ 1048576
theorem bdS_con (s : TServer) : BdS s.con ↔ BdS s := by
  simp [BdS, TServer.con, szFileS, szLineS, szSessionS, szJobS, szWorkerS, szAnswerS, szL_map TFile.sz_con, szL_map TLine.sz_con, szL_map TSession.sz_con, szL_map TJob.sz_con, szL_map TWorker.sz_con, szL_map TAnswer.sz_con]
theorem bdS_bounds {s : TServer} (h : BdS s) : (szL cFile s.Files.list ≤ 8388608 ∧ szL cLine s.Lines.list ≤ 8388608 ∧ szL cSession s.Sessions.list ≤ 8388608 ∧ szL cJob s.Queue.list ≤ 8388608 ∧ szL cWorker s.Workers.list ≤ 8388608 ∧ szL cAnswer s.Done.list ≤ 8388608) ∧ ∀ x, x ∈ s.Lines.list → x.Words.list.length ≤ 1048576 := by
  simp only [BdS, szFileS, szLineS, szSessionS, szJobS, szWorkerS, szAnswerS] at h
  have hl := szLine_bounds (l := s.Lines.list) (by omega)
  have hj := szL_lin cJob TJob.sz 3 2 (fun x => by simp only [cJob, TJob.sz, TRequest.sz, szPairS, szL_ePair]; omega) s.Queue.list
  have hw := szL_lin cWorker TWorker.sz 6 3 (fun x => by simp only [cWorker, TWorker.sz, TJob.sz, TRequest.sz, szPairS, szFileS, szL_ePair, szL_eFile]; omega) s.Workers.list
  have ha := szL_lin cAnswer TAnswer.sz 7 3 (fun x => by simp only [cAnswer, TAnswer.sz, TRequest.sz, TResponse.sz, szPairS, szFileS, szHeaderS, szL_ePair, szL_eFile, szL_eHeader]; omega) s.Done.list
  refine ⟨⟨?_, hl.1, ?_, ?_, ?_, ?_⟩, hl.2.1⟩
  · rw [szL_eFile]; omega
  · rw [szL_eSession]; omega
  · omega
  · omega
  · omega
theorem crash_bd {s : TServer} {w : Int} (h : s.sz ≤ 1048576) : BdS (crash s w) := by
  simp only [TServer.sz] at h
  unfold crash
  split
  · rename_i x h1 h2
    have hx := szL_mem (sz := TWorker.sz) (List.mem_of_getElem? h2)
    have hl : 0 < s.Workers.list.length := by have := (List.getElem?_eq_some_iff.1 h2).1; omega
    have c1 := szL_setX TWorker.sz s.Workers.list w.toNat (deadW x)
    have c2 : (deadW x).sz = 0 := rfl
    have c3 := lockL_sz w x.Files.list x.Job.Request.Path s.Lines.list
    have c4 := lockL_len w x.Files.list x.Job.Request.Path s.Lines.list
    have c5 : x.sz = x.Job.sz + x.Data.length + szFileS x.Files := rfl
    split
    · simp only [BdS, szFileS, szLineS, szSessionS, szJobS, szWorkerS, szAnswerS, SL.list_mk, List.length_set, List.length_map, List.length_cons, szL_consX, c4] at h c5 ⊢
      omega
    · simp only [BdS, szFileS, szLineS, szSessionS, szJobS, szWorkerS, szAnswerS, SL.list_mk, List.length_set] at h c5 ⊢
      omega
  · simp only [BdS, szFileS, szLineS, szSessionS, szJobS, szWorkerS, szAnswerS] at h ⊢
    omega
theorem law_crash {a : TServer} (ha : a.ok) {w : Int} (hw : IOk .i64 w) (c : Nat) : Con Tryz.prog 3 [.agg a.enc, .int .i64 w] [] c fun r H' _ => r = .bool true ∧ H' = [] := by
  have hwb : -9223372036854775808 ≤ w ∧ w ≤ 9223372036854775807 := by
    have e1 : IntKind.i64.min = -9223372036854775808 := by decide
    have e2 : IntKind.i64.max = 9223372036854775807 := by decide
    exact ⟨by have := hw.1; omega, by have := hw.2; omega⟩
  refine con_of c3 (by simp [F3]) ?_
  unfold F3
  simp
  refine call_fn0 (TServer.sz_fn ha ⟨by omega, by omega⟩) .int fun _ _ => ?_
  simp
  refine ⟨fun _ => fin_plain ⟨rfl, rfl⟩, fun h1 => ?_⟩
  obtain ⟨h1', h1''⟩ := szOf_ge h1
  have hz : ∀ x : TServer, x.con = a.con → x.sz ≤ 1048576 := fun x hx => by rw [← x.sz_con, hx, a.sz_con]; omega
  have hzr : ∀ x : TServer, x.con = (crash a w).con → x.sz ≤ 16777216 := fun x hx => by rw [← x.sz_con, hx, TServer.sz_con]; exact crash_sz (hz a rfl)
  have hR := fun (b : TServer) (h : b.con = a.con) => And.intro (craOk_con h w) (crash_con h w)
  refine call_tree0 (TServer.to_fn (hz a rfl)) fun r1 _ _ ⟨a1, e1, q1⟩ _ => ?_
  subst e1
  simp
  refine call_tree0 (srv_tr (spec_craO (smSrv_of (hz _ q1)) (hz _ q1) hwb)) fun r2 c2 _ ⟨v, e2, q2⟩ _ => ?_
  subst e2
  rw [(hR _ q1).2] at q2
  simp [(hR _ q1).1, putA]
  refine call_new (toServerO (hz a rfl) _) (Views.refl _ _) fun r3 O c3 hc3 ⟨b, e3, hO, q3⟩ _ _ => ?_
  subst e3; subst hO
  refine ⟨_, .refl _, free_agg (TServer.freeO b) _, fun o ho => TServer.freeI b o ho _, ?_⟩
  simp [putA]
  refine call_new (impl_craO (s := b) (smSrv_of (hz _ q3)) (hz _ q3) hwb _) (.cons (view_AServer (fun o ho => by simp [ho])) (.cons (.refl _) .nil)) fun r4 O c4 hc4 ⟨g, e4, hO, q4⟩ _ _ => ?_
  subst e4; subst hO
  refine ⟨_, .refl _, free_tup (by simp; exact ⟨free_agg (TServer.freeO g), free_bool _⟩) _, fun o ho => TServer.freeI g o ho _, ?_⟩
  rw [(hR _ q3).2] at q4
  simp [(hR _ q3).1, putA]
  have hgz := hzr _ q4
  have hgb : BdS g := (bdS_con g).1 (by rw [q4]; exact (bdS_con _).2 (crash_bd (hz a rfl)))
  have qgv : g.con = v.con := q4.trans q2.symm
  refine call_fn (TServer.eq_fn (by omega) qgv) (.cons (view_AServer (fun o ho => by simp [ho])) (.cons (.refl _) .nil)) .bool fun _ _ => ?_
  simp
  refine ⟨fun d v => if d = 47 then SrvV a v else v = .bool true, ?_⟩
  simp
  refine callD_tree0 (TServer.to_fn (hz a rfl)) (SrvV_some a _) fun r3 ⟨a3, e3, q3'⟩ _ => ?_
  subst e3
  simp
  refine callD_fnV (TServer.eq_fn (by have := hz _ q3; omega) (q3.trans q3'.symm)) (.cons (view_AServer (fun o ho => by simp [ho])) (.cons (.refl _) .nil)) (fun v => Iff.rfl) (by simp) ?_
  simp
  intro c5 _
  obtain ⟨sb, sw⟩ := server_bounds (hz _ q3)
  obtain ⟨gb, gw⟩ := bdS_bounds hgb
  have hlb := mkServer_len 1 b
  have hlg := mkServer_len 1 g
  refine markServer_at sb sw (A := [_, _]) (C := _ :: (g.inn ++ [_])) rfl rfl fun c6 _ => ?_
  generalize (mkServer 1 b).inn = B' at hlb ⊢
  have hk1 : ¬ ((1 : Int) + (cServer b : Int) < 0) := by omega
  have hk2 : ¬ ((1 : Int) + (cServer g : Int) < 0) := by omega
  simp [hk1, ← hlb]
  refine call_fn (TServer.eq_fn (by omega) qgv) (.cons (view_AServer (fun o ho => by simp [ho])) (.cons (.refl _) .nil)) .bool fun _ _ => ?_
  simp [hk1, ← hlb]
  refine markServer_at gb gw (A := ⟨false, c, 8, [a.enc]⟩ :: ⟨false, c2, 8, [v.enc]⟩ :: (B' ++ [⟨false, c3, 8, [b.encO]⟩])) (C := [⟨false, c4, 8, [g.encO]⟩]) (by simp) rfl fun c7 _ => ?_
  simp [hk1, hk2, ← hlb, ← hlg]
  refine call_fn (heldServer_fn (s := g) gb gw (k := 1) ⟨by omega, by omega⟩) (.cons (by rw [← mkServer_encO 1 g]; exact view_AServer (fun o ho => by simp [ho])) (.cons (.refl _) .nil)) .int fun _ _ => ?_
  simp [hk1, hk2, ← hlb, ← hlg]
  refine call_tree0 (TServer.to_fn (hz a rfl)) fun r6 _ _ ⟨a6, e6, q6⟩ _ => ?_
  subst e6
  simp
  refine call_tree0 (srv_tr (impl_craO (smSrv_of (hz _ q6)) (hz _ q6) hwb)) fun r7 c8 _ ⟨y, e7, q7⟩ _ => ?_
  subst e7
  rw [(hR _ q6).2] at q7
  simp [(hR _ q6).1, putA, hk1, hk2, ← hlb, ← hlg]
  have qyv : y.con = v.con := q7.trans q2.symm
  have hyz := hzr _ q7
  refine call_fn0 (TServer.eq_fn (by omega) qyv) .bool fun _ _ => ?_
  simp [hk1, hk2, ← hlb, ← hlg]
  refine call_fn (heldServer_fn (s := g) gb gw (k := 1) ⟨by omega, by omega⟩) (.cons (by rw [← mkServer_encO 1 g]; exact view_AServer (fun o ho => by simp [ho])) (.cons (.refl _) .nil)) .int fun _ _ => ?_
  simp [hk1, hk2]
  exact fin_plain ⟨rfl, rfl⟩
end A
end Go.Proofs.YtkcilmkienlnoaaGreatDoor

/-
  The wrap of a row that lists package variables, the world's shape kept. No condition.
-/


namespace Go.Proofs.YtkcilmkienlnoaaGreatDoor
namespace A
open Go.RowKit
set_option linter.unusedVariables false
section
variable {H : Type} {enc : TypeId × Value → H}
theorem returns_shaped {a : Assume} {C : Checked} {os : Os} {f : FuncId} {fn : Func} {s : ChangeSpec} {conds : List PathCond} {apart fresh handsOn again : Bool} {X : World → Array Value → Prop}
    (hX : ∀ (w w' : World) (args : Array Value), w.heap = w'.heap → X w args → X w' args)
    (own : ownKnob C.prog.godebug = none) (started : os.Started) (noInit : C.prog.inits.idxOf? f = none) (hfn : C.prog.funcs[f]? = some fn)
    (witness : ∃ (w : World) (tape : Tape) (i : Input), w.os = os ∧ (w.forCall tape i).Shaped C.prog ∧ i.vars = [] ∧ Input.okWide C.prog (w.forCall tape i) .any w.heap.size f i ∧
      ((s.pre enc C.prog fn conds apart (w.forCall tape i).memory i.args ∧ X (w.forCall tape i).memory i.args) ∧ sizedMet enc C.prog fn (OpenSpec.ofChange s) apart (w.forCall tape i).memory i.args) ∧ a.holds C.prog (lone (Frame.enter C.prog f i.args .normal) [] (w.forCall tape i)))
    (contract : ∀ (W : World) (base : Nat) (args : Array Value) (ds gs : List (DataW H)) (before : List MemPlace),
      (∀ (j : Nat) t v, fn.params[j]? = some t → args[j]? = some v → Value.okWide C.prog W .any base t v) →
      DataW.Whole enc C.prog fn.params.toList s.vars apart W args.toList ds gs before →
      conds.all (PathCond.test C.prog ⟨fn.params.toList, ds, s.plain.varTypes C.prog, gs⟩) = true → X W args → W.ShapedOpen C.prog →
      Calls C.prog f args W fun e W' => ∃ v, e = .returned v ∧ s.post enc C.prog fn apart fresh handsOn again W args v W') :
    ReturnsInHanded a C os f .any (fun w args => (s.pre enc C.prog fn conds apart w args ∧ X w args) ∧ sizedMet enc C.prog fn (OpenSpec.ofChange s) apart w args) (s.post enc C.prog fn apart fresh handsOn again) := by
  refine returnsInHanded_of_calls own started noInit witness ?_
  intro w tape i _ hsh _ hok hpre _
  obtain ⟨_, _, _, fn', hfn', _, _, _, _, hval⟩ := hok
  have e : fn' = fn := Option.some.inj (hfn'.symm.trans hfn)
  subst e
  obtain ⟨⟨⟨ds, gs, before, hw, hc⟩, hx⟩, _⟩ := hpre
  refine (contract (w.forCall tape i) w.heap.size i.args ds gs before hval (DataW.Whole.of_heap (w' := w.forCall tape i) (by rfl) hw) hc (hX _ _ _ (by rfl) hx) hsh).mono fun e W' ⟨v, he, hp⟩ => ?_
  subst he
  exact ChangeSpec.post_blind hp
end
theorem cell_block {w : World} {m : Int} (hm : w.cell? ⟨0, 0, none⟩ = some (.int .i64 m)) : 0 < w.heap.size ∧ ∃ c t fr, w.heap[0]? = some (.cells c t fr) ∧ c[0]? = some (Value.int .i64 m) := by
  rw [cell?_eq] at hm
  unfold hcell at hm
  split at hm
  · rename_i c t fr hc
    exact ⟨(Array.getElem?_eq_some_iff.1 hc).1, c, t, fr, hc, hm⟩
  · cases hm
end A
end Go.Proofs.YtkcilmkienlnoaaGreatDoor

/-
  Facts of the whole program that every row of the seat asks, each worked out once. No condition.
-/


namespace Go.Proofs.YtkcilmkienlnoaaGreatDoor.Closed
open Go.ChangeShapes Go.WideShapes Go.RowKit
theorem heard : Tryz.pinned.checked.prog.stopsHeard = true := by kernel_rfl
theorem enter : Tryz.pinned.checked.prog.mayEnter = true := by kernel_rfl
theorem make : Tryz.pinned.checked.prog.make = some Rows.fnExactCrashWorkRow.make := by kernel_rfl
theorem lifts : Tryz.pinned.checked.prog.liftsFinal = Rows.fnExactCrashWorkRow.lifted := by kernel_rfl
end Go.Proofs.YtkcilmkienlnoaaGreatDoor.Closed

/-
  FnExactCrashWork: the program's and the reference's give the same, for all arguments. No condition.
-/














namespace Go.Proofs.YtkcilmkienlnoaaGreatDoor.fnExactCrashWork
open Go.ChangeShapes Go.WideShapes Go.ChangeAt Go.RowKit
open Go.Proofs.YtkcilmkienlnoaaGreatDoor.A
set_option linter.unusedVariables false

theorem own : ownKnob Tryz.prog.godebug = none := by kernel_rfl

def types : List TypeId := [29, 22, 87, 9, 3, 23, 89, 62, 24, 92, 25, 98, 96, 94, 180, 26, 101, 27, 107, 105, 103, 182, 4]

set_option maxRecDepth 100000 in
theorem lifted (os : Os) (started : os.Started) (H : Type) (enc : TypeId × Value → H) :
    ReturnsInHanded {} Tryz.checked os 3 .any (fun w args => (Rows.fnExactCrashWorkSpec.pre enc Tryz.prog Tryz.f3 Rows.fnExactCrashWorkRow.domain false w args ∧ laidMetH Tryz.prog Rows.fnExactCrashWorkRow.laid w) ∧ sizedMet enc Tryz.prog Tryz.f3 (OpenSpec.ofChange Rows.fnExactCrashWorkSpec) false w args) (Rows.fnExactCrashWorkSpec.post enc Tryz.prog Tryz.f3 false true false false) := by
  refine A.returns_shaped (C := Tryz.checked) (X := fun w _ => laidMetH Tryz.prog Rows.fnExactCrashWorkRow.laid w) (fun _ _ _ hh h => h.of_heap hh) own started (by kernel_rfl) Tryz.func3
    (ChangeSpec.witness_shaped (enc := enc) (C := Tryz.checked) (os := os) (X := fun w _ => laidMetH Tryz.prog Rows.fnExactCrashWorkRow.laid w) false (World.laidAll Tryz.prog os Rows.fnExactCrashWorkRow.laid) #[.agg #[.slice none 0 0, .slice none 0 0, .slice none 0 0, .slice none 0 0, .slice none 0 0, .slice none 0 0, .int .i64 0, .int .i64 0], .int .i64 0] 8 (World.laidAll_os _ _ _)
      (World.shaped_of_ZipB (by kernel_rfl) (by kernel_rfl)) (by kernel_rfl) (by kernel_rfl) (by kernel_rfl)
      (by rw [MakeChecks.laidMetH_plain _ _ _ (by kernel_rfl)]; exact laidMet_laidAll _ (by kernel_rfl) (by kernel_rfl))) ?_
  intro W base args ds gs before hval0 hW hcnd hL hsh
  obtain ⟨m, hm⟩ := Tryz.laysM146.s1_3 W hsh
  have hg : ∀ b, b < NB → b < W.heap.size ∧ GL b W.heap[b]? := by
    obtain ⟨h0, c, t, fr, hc, hcm⟩ := cell_block hm
    intro b hb
    have hb0 : b = 0 := Nat.lt_one_iff.1 hb
    subst hb0
    exact ⟨h0, c, t, fr, m, hc, hcm⟩
  have hval : ∀ (j : Nat) t v, Tryz.f3.params[j]? = some t → args[j]? = some v → Value.okWide Tryz.prog W .any base t v := hval0
  refine law_post (rs := types) (bt := 4) (by kernel_rfl) (by kernel_rfl) (fun t ht => ?_) Tryz.underlying4 (by kernel_rfl) rfl (fun ds hds => ?_) hW hval (fun l has => ?_) hg
  · rw [Tryz.params3] at ht
    simp at ht
    first
      | (subst ht; exact ⟨by simp [types], by kernel_rfl, of_decide_eq_true (by kernel_rfl)⟩)
      | (rcases ht with rfl | rfl <;> exact ⟨by simp [types], by kernel_rfl, of_decide_eq_true (by kernel_rfl)⟩)
      | (rcases ht with rfl | rfl | rfl <;> exact ⟨by simp [types], by kernel_rfl, of_decide_eq_true (by kernel_rfl)⟩)
      | (rcases ht with rfl | rfl | rfl | rfl <;> exact ⟨by simp [types], by kernel_rfl, of_decide_eq_true (by kernel_rfl)⟩)
      | (rcases ht with rfl | rfl | rfl | rfl | rfl <;> exact ⟨by simp [types], by kernel_rfl, of_decide_eq_true (by kernel_rfl)⟩)
      | (rcases ht with rfl | rfl | rfl | rfl | rfl | rfl <;> exact ⟨by simp [types], by kernel_rfl, of_decide_eq_true (by kernel_rfl)⟩)
  · rw [← Array.length_toList, Tryz.params3] at hds
    match ds, hds with
    | [d0, d1], _ => exact ⟨rfl, rfl, rfl⟩
  · rw [Tryz.params3] at has
    cases has with
    | cons h0 has =>
      cases has with
      | cons h1 has =>
        cases has
        obtain ⟨n0, h0⟩ := h0
        rw [if_pos (by decide)] at h0
        obtain ⟨as0, rfl, h0⟩ := h0
        obtain ⟨s0, rfl, k0⟩ := TServer.sh _ _ h0
        obtain ⟨n1, h1⟩ := h1
        rw [if_neg (by decide)] at h1
        obtain ⟨s1, rfl, k1⟩ := sh_int (k := .i64) (t := 3) (by kernel_rfl) h1
        exact A.law_crash k0 k1 _

set_option maxHeartbeats 4000000 in
theorem facts : joinedFacts Tryz.pinned.checked.prog 3 Tryz.f3 Rows.fnExactCrashWorkSpec Rows.fnExactCrashWorkRow = true := by
  unfold joinedFacts
  rw [Closed.heard, Closed.enter, Closed.lifts, Closed.make]
  simp only [Bool.and_eq_true]
  iterate 6 (refine ⟨?_, by as_aux_lemma => kernel_rfl⟩)
  refine ⟨⟨?_, trivial⟩, trivial⟩
  iterate 23 (refine ⟨?_, by as_aux_lemma => kernel_rfl⟩)
  kernel_rfl
theorem named : Tryz.pinned.checked.prog.funcNamed Rows.fnExactCrashWorkRow.func = some 3 := by kernel_rfl
theorem inst : Tryz.f3.isInstance Tryz.pinned.checked.prog Rows.fnExactCrashWorkRow.origin Rows.fnExactCrashWorkRow.targs := of_decide_eq_true (by kernel_rfl)
theorem wrap : Tryz.f3.isWrapper Tryz.pinned.checked.prog Rows.fnExactCrashWorkRow.wrapper Rows.fnExactCrashWorkRow.mainSum := by
  unfold Func.isWrapper
  first
    | (rw [if_pos (by decide +kernel)]; kernel_rfl)
    | (rw [if_neg (by decide +kernel)]; exact ⟨rfl, rfl⟩)

theorem over : Rows.fnExactCrashWorkRow.holds Tryz.pinned (OpenSpec.ofChange Rows.fnExactCrashWorkSpec) :=
  OpenClaim.holds_of_wide 3 Tryz.f3 rfl rfl rfl rfl rfl rfl rfl ⟨rfl, rfl, rfl, rfl, rfl⟩ rfl rfl rfl rfl rfl named Tryz.func3 facts inst wrap
    (fun os started H enc _ => lifted os started H enc)

theorem row : Rows.FnExactCrashWorkSaid := over
/-- THE STATEMENT -/
theorem proved : Rows.FnExactCrashWorkCardSaid :=
  Claim7.holds_tied_plain_at .later [] [.data, .pinned] true Rows.fnExactCrashWorkCard.stood.harness false row (fun _ h => by cases h) (by kernel_rfl) (fun _ h => by cases h) fnExactCrashWork_row_tie rfl ⟨rfl, rfl⟩ (by kernel_rfl) rfl
    (fun f fn hf hfn => by
      obtain rfl : f = 3 := Option.some.inj (named.symm.trans hf) |>.symm
      obtain rfl : fn = Tryz.f3 := (Option.some.inj (Tryz.func3.symm.trans hfn)).symm
      exact ⟨by kernel_rfl, fun j t ht => by
        rw [Tryz.params3] at ht
        have hm : t ∈ [29, 3] := by simpa using Array.mem_of_getElem? ht
        have hall : ([29, 3].all fun u => !Tryz.prog.wantsStandIn u) = true := by kernel_rfl
        exact (show Tryz.prog.wantsStandIn t = false by simpa using List.all_eq_true.1 hall t hm)⟩)
    (by kernel_rfl)
#print axioms proved
end Go.Proofs.YtkcilmkienlnoaaGreatDoor.fnExactCrashWork
