import Derived.Handed
import Derived.Test.YtfcimcoanlgldaaDoorRows
import Derived.OpenShut
import Derived.ProofKit
import Derived.LaidMore
import Derived.Lay
import Derived.LaidLaws
import Derived.LaidSub
import Derived.SevenTiedAt
import Derived.Stop.Joined
import Derived.Lib.LaidTab
import Derived.Test.YtfcimcoanlgldaaDoorTie
import Derived.Test.YtfcimcoanlgldaaDoorCards
import Derived.Test.YtfcimcoanlgldaaDoorB09

/-
  NewServer of the reference and of the program give the same server; the law answers true. No condition.
-/


namespace Go.Proofs.YtfcimcoanlgldaaDoor
namespace A
set_option linter.unusedVariables false
set_option linter.unusedSimpArgs false
set_option maxRecDepth 100000

def zLine : TLine := ⟨0, 0, 0, .nil⟩
def zWork : TWorker := ⟨0, ⟨0, ⟨[], .nil, .nil⟩, []⟩, [], .nil, 0⟩
def nsOk (l : List TFile) (n : Int) : Bool := isSite l && inR n 1 4
def nsrv (l : List TFile) (n : Int) : TServer := if nsOk l n then ⟨.mk 0 l, .mk 0 (List.replicate 8 zLine), .nil, .nil, .mk 0 (List.replicate n.toNat zWork), .nil, 0, 0⟩ else ⟨.nil, .nil, .nil, .nil, .nil, .nil, 0, 0⟩
theorem zLine_encO : zLine.encO = [.int .i64 0, .int .i64 0, .int .i64 0, .nsl] := rfl
theorem zWork_encO : zWork.encO = [.int .i64 0, .int .i64 0, .str [], .nsl, .nsl, .str [], .str [], .nsl, .int .i64 0] := rfl
theorem rep_inn {α : Type} (inn : α → List AObj) (z : α) (h : inn z = []) (n : Nat) : (List.replicate n z).flatMap inn = [] := by
  rw [List.flatMap_eq_nil_iff]
  intro x hx
  rw [List.eq_of_mem_replicate hx]; exact h
theorem lines_wood (t : Nat) : (SL.mk t (List.replicate 8 zLine)).wood 4 TLine.encO TLine.inn = [⟨false, t, 4, List.replicate 8 zLine.encO⟩] := by
  show ⟨false, t, 4, (List.replicate 8 zLine).map TLine.encO⟩ :: (List.replicate 8 zLine).flatMap TLine.inn = _
  rw [rep_inn TLine.inn zLine rfl, List.map_replicate]
theorem works_wood (t n : Nat) : (SL.mk t (List.replicate n zWork)).wood 9 TWorker.encO TWorker.inn = [⟨false, t, 9, List.replicate n zWork.encO⟩] := by
  show ⟨false, t, 9, (List.replicate n zWork).map TWorker.encO⟩ :: (List.replicate n zWork).flatMap TWorker.inn = _
  rw [rep_inn TWorker.inn zWork rfl, List.map_replicate]
def NlQ (r : AV) (O : List AObj) : Prop := ∃ t, r = .ref 0 t 4 8 ∧ O = [⟨false, t, 4, List.replicate 8 zLine.encO⟩]
theorem spec_newL (c : Nat) : Con Tryd.prog 92 [] [] c fun r O _ => NlQ r O := by
  refine con_of c92 (by simp [F92]) ?_
  unfold F92
  simp
  exact fin_all ⟨c, rfl, rfl⟩
theorem impl_newL (c : Nat) : Con Tryd.prog 95 [] [] c fun r O _ => NlQ r O := by
  refine con_of c95 (by simp [F95]) ?_
  unfold F95
  simp
  exact fin_all ⟨c, rfl, rfl⟩

/-- What is handed back, in whatever order the objects were made. -/
def FilQ (l : List TFile) (v : AV) (O : List AObj) : Prop := (v = .nsl ∧ l = []) ∨ ∃ i tf, v = .ref i tf 3 l.length ∧ (⟨false, tf, 3, l.map TFile.enc⟩ : AObj) ∈ O
def NewQ (l : List TFile) (n : Int) (r : AV) (O : List AObj) : Prop :=
  (nsOk l n = false ∧ r = .tup [.agg [.nsl, .nsl, .nsl, .nsl, .nsl, .nsl, .int .i64 0, .int .i64 0], .bool false]) ∨
  (nsOk l n = true ∧ ∃ (v : AV) (j k tl tw : Nat), r = .tup [.agg [v, .ref j tl 4 8, .nsl, .nsl, .ref k tw 9 n.toNat, .nsl, .int .i64 0, .int .i64 0], .bool true] ∧
    FilQ l v O ∧ (⟨false, tl, 4, List.replicate 8 zLine.encO⟩ : AObj) ∈ O ∧ (⟨false, tw, 9, List.replicate n.toNat zWork.encO⟩ : AObj) ∈ O)
def NSm (s : TServer) : Prop := (szL cFile s.Files.list ≤ 8388608 ∧ szL cLine s.Lines.list ≤ 8388608 ∧ szL cSession s.Sessions.list ≤ 8388608 ∧ szL cJob s.Queue.list ≤ 8388608 ∧ szL cWorker s.Workers.list ≤ 8388608 ∧ szL cAnswer s.Done.list ≤ 8388608) ∧ ∀ x, x ∈ s.Lines.list → x.Words.list.length ≤ 1048576
def NewSQ (l : List TFile) (n : Int) (r : AV) (O : List AObj) : Prop := ∃ b : TServer, r = .tup [.agg b.encO, .bool (nsOk l n)] ∧ O = b.inn ∧ b.con = (nsrv l n).con ∧ NSm b
theorem ns_len {l : List TFile} {n : Int} (h : nsOk l n = true) : l.length ≤ 8 ∧ 1 ≤ n ∧ n ≤ 4 := by
  simp only [nsOk, Bool.and_eq_true] at h
  exact ⟨site_len h.1, inR_true h.2⟩
theorem small_of {l : List TFile} {n : Int} {x : SL TFile} {a b : Nat} (h : nsOk l n = true) (hx : szL cFile x.list ≤ 24) : NSm ⟨x, .mk a (List.replicate 8 zLine), .nil, .nil, .mk b (List.replicate n.toNat zWork), .nil, 0, 0⟩ := by
  obtain ⟨h1, h2, h3⟩ := ns_len h
  have e1 := szL_mul cLine 100 (List.replicate 8 zLine) fun x hx => by rw [List.eq_of_mem_replicate hx]; decide
  have e2 := szL_mul cWorker 100 (List.replicate n.toNat zWork) fun x hx => by rw [List.eq_of_mem_replicate hx]; decide
  rw [List.length_replicate] at e1 e2
  refine ⟨⟨?_, ?_, by simp [szL], by simp [szL], ?_, by simp [szL]⟩, fun x hx => ?_⟩
  · show szL cFile x.list ≤ _; omega
  · rw [SL.list_mk]; omega
  · rw [SL.list_mk]; omega
  · rw [SL.list_mk] at hx; rw [List.eq_of_mem_replicate hx]; decide
theorem mem_perm {a : AObj} {O : List AObj} (h : a ∈ O) : ∃ G, O.Perm (a :: G) ∧ ∀ b, b ∈ O → b ≠ a → b ∈ G := by
  obtain ⟨s, t, rfl⟩ := List.append_of_mem h
  refine ⟨s ++ t, List.perm_middle, fun b hb hn => ?_⟩
  simp at hb ⊢
  rcases hb with hb | hb | hb
  · exact .inl hb
  · exact absurd hb hn
  · exact .inr hb
theorem keep_of {K O : List AObj} (h : ∃ G, O.Perm (K ++ G)) : ∃ Hs, Hs.Sublist O ∧ K.Perm Hs := by
  obtain ⟨G, e⟩ := h
  obtain ⟨Hs, hp, hs⟩ := List.exists_perm_sublist (List.sublist_append_left K G) e.symm
  exact ⟨Hs, hs, hp.symm⟩
theorem new_fin {P : Program} {f : Nat} {args : List AV} {l : List TFile} {n : Int} {c : Nat} (h : Con P f args [] c fun r O _ => NewQ l n r O) : Con P f args [] c fun r O _ => NewSQ l n r O := by
  refine Con.fin (con_perm (Q' := fun r O _ => ∃ (b : TServer) (x : List AV), r = .tup [.agg x, .bool (nsOk l n)] ∧ Views [] x b.encO ∧ O = b.inn ∧ b.con = (nsrv l n).con ∧ NSm b) h fun r O c' hq => ?_) fun r O c' _ ⟨b, x, h1, h2, h3, h4, h5⟩ _ _ => ?_
  · rcases hq with ⟨h1, h2⟩ | ⟨h1, v, j, k, tl, tw, h2, hF, hL, hW⟩
    · refine ⟨[], [], List.nil_sublist _, List.Perm.refl _, ⟨.nil, .nil, .nil, .nil, .nil, .nil, 0, 0⟩, _, by rw [h2, h1]; rfl, Views.refl _ _, rfl, ?_, ?_⟩
      · unfold nsrv; rw [h1]; rfl
      · exact ⟨⟨by simp [szL], by simp [szL], by simp [szL], by simp [szL], by simp [szL], by simp [szL]⟩, by simp⟩
    · obtain ⟨G1, p1, m1⟩ := mem_perm hL
      obtain ⟨G2, p2, m2⟩ := mem_perm (m1 _ hW (by simp))
      have p12 := p1.trans (p2.cons _)
      rcases hF with ⟨hv, hl⟩ | ⟨i, tf, hv, hF⟩
      · obtain ⟨Hs, hsub, hp⟩ := keep_of (K := [_, _]) ⟨G2, p12⟩
        refine ⟨Hs, _, hsub, hp, ⟨.nil, .mk tl (List.replicate 8 zLine), .nil, .nil, .mk tw (List.replicate n.toNat zWork), .nil, 0, 0⟩, _, by rw [h2, h1], ?_, ?_, ?_, ?_⟩
        · have e1 : (TServer.mk .nil (.mk tl (List.replicate 8 zLine)) .nil .nil (.mk tw (List.replicate n.toNat zWork)) .nil 0 0).encO = [.nsl, .ref 0 tl 4 8, .nsl, .nsl, .ref 0 tw 9 n.toNat, .nsl, .int .i64 0, .int .i64 0] := by
            simp [TServer.encO, SL.ref]
          rw [e1, hv]
          exact .cons (.refl _) (.cons .name (.cons (.refl _) (.cons (.refl _) (.cons .name (Views.refl _ _)))))
        · simp only [TServer.inn, lines_wood, works_wood]; rfl
        · unfold nsrv; rw [h1, hl]; rfl
        · exact small_of h1 (by simp [szL])
      · obtain ⟨G3, p3, m3⟩ := mem_perm (m2 _ (m1 _ hF (by simp)) (by simp))
        have p123 := (p12.trans ((p3.cons _).cons _)).trans (perm_cnt (m := [_, _, _] ++ G3) fun p => by simp only [List.countP_cons, List.countP_append, List.countP_nil]; omega : List.Perm _ ([⟨false, tf, 3, l.map TFile.enc⟩, ⟨false, tl, 4, List.replicate 8 zLine.encO⟩, ⟨false, tw, 9, List.replicate n.toNat zWork.encO⟩] ++ G3))
        obtain ⟨Hs, hsub, hp⟩ := keep_of ⟨G3, p123⟩
        refine ⟨Hs, _, hsub, hp, ⟨.mk tf l, .mk tl (List.replicate 8 zLine), .nil, .nil, .mk tw (List.replicate n.toNat zWork), .nil, 0, 0⟩, _, by rw [h2, h1], ?_, ?_, ?_, ?_⟩
        · have e1 : (TServer.mk (.mk tf l) (.mk tl (List.replicate 8 zLine)) .nil .nil (.mk tw (List.replicate n.toNat zWork)) .nil 0 0).encO = [.ref 0 tf 3 l.length, .ref 0 tl 4 8, .nsl, .nsl, .ref 0 tw 9 n.toNat, .nsl, .int .i64 0, .int .i64 0] := by
            simp [TServer.encO, SL.ref]
          rw [e1, hv]
          exact .cons .name (.cons .name (.cons (.refl _) (.cons (.refl _) (.cons .name (Views.refl _ _)))))
        · simp only [TServer.inn, flat_wood, lines_wood, works_wood]; rfl
        · unfold nsrv; rw [h1]; rfl
        · exact small_of h1 (by rw [SL.list_mk, szL_eFile]; have := (ns_len h1).1; omega)
  · subst h1
    exact fin_sub (List.Sublist.refl _) (view_tup (.cons (view_agg h2 b.cellsO) (Views.refl _ _))) ⟨b, rfl, h3, h4, h5⟩
theorem zl_rows (T : List Nat) (t : Nat) : AvRows T ⟨false, t, 4, List.replicate 8 zLine.encO⟩ := avRows_of fun row hr a ha => by
  rw [List.eq_of_mem_replicate hr] at ha
  exact TLine.freeO zLine a ha T
theorem spec_newS {s : SL TFile} {n : Int} (hs : okFileS s) (c : Nat) : Con Tryd.prog 44 [s.av 3 TFile.enc, .int .i64 n] [] c fun r O _ => NewQ s.list n r O := by
  refine con_of c44 (by simp [F44]) ?_
  unfold F44
  simp
  refine call_fn0 (spec_site hs) .bool fun _ _ => ?_
  cases hS : isSite s.list
  · simp [putA]
    exact fin_all (.inl ⟨by simp [nsOk, hS], rfl⟩)
  simp
  refine call_fn0 (l1In_fn n 1 4) .bool fun _ _ => ?_
  cases hR : inR n 1 4
  · simp [putA]
    exact fin_all (.inl ⟨by simp [nsOk, hR], rfl⟩)
  have hok : nsOk s.list n = true := by simp [nsOk, hS, hR]
  obtain ⟨n1, n4⟩ := inR_true hR
  have hl8 := site_len hS
  have f1 : 0 ≤ n := by omega
  have f2 : n ≤ 281474976710656 := by omega
  have f3 : n.toNat * 144 ≤ 281474976710656 := by omega
  have f4 : s.list.length * 40 ≤ 140737488355328 := by omega
  have f5 : s.list.length ≤ mx := hs.1
  simp [f1, f2, f3, f4, f5, putA]
  repeat' refine And.intro ?_ ?_
  all_goals
    refine call_new (spec_newL _) (Views.refl _ _) fun r O c' hc ⟨t, e1, e2⟩ _ _ => ?_
    subst e1; subst e2
    refine ⟨_, .refl _, .ref, fun o ho => by simp at ho; subst ho; exact zl_rows _ _, ?_⟩
    simp [f1, f2, f3, f4, f5, putA]
    exact fin_all (.inr ⟨hok, _, _, _, _, _, rfl, .inr ⟨_, _, rfl, by simp⟩, by simp, by simp [zWork_encO]⟩)
theorem fil_of {l : List TFile} {x : SL TFile} {O : List AObj} (h : x.list = l) (hO : ∀ o, o ∈ x.wood 3 TFile.enc noInn → o ∈ O) : FilQ l (x.ref 3) O := by
  cases x with
  | nil => exact .inl ⟨rfl, h.symm⟩
  | mk t xs =>
    have h : xs = l := h
    subst h
    exact .inr ⟨0, t, rfl, hO _ (by rw [flat_wood]; simp)⟩
theorem impl_newS {s : SL TFile} {n : Int} (hs : okFileS s) (c : Nat) : Con Tryd.prog 45 [s.av 3 TFile.enc, .int .i64 n] [] c fun r O _ => NewQ s.list n r O := by
  refine con_of c45 (by simp [F45]) ?_
  unfold F45
  simp
  refine call_fn0 (impl_site hs) .bool fun _ _ => ?_
  cases hS : isSite s.list
  · simp [putA]
    exact fin_all (.inl ⟨by simp [nsOk, hS], rfl⟩)
  simp
  refine call_fn0 (inRange_fn n 1 4) .bool fun _ _ => ?_
  cases hR : inR n 1 4
  · simp [putA]
    exact fin_all (.inl ⟨by simp [nsOk, hR], rfl⟩)
  have hok : nsOk s.list n = true := by simp [nsOk, hS, hR]
  obtain ⟨n1, n4⟩ := inR_true hR
  have hl8 := site_len hS
  have f1 : 0 ≤ n := by omega
  have f2 : n ≤ 281474976710656 := by omega
  have f3 : n.toNat * 144 ≤ 281474976710656 := by omega
  simp [f1, f2, f3, putA]
  repeat' refine And.intro ?_ ?_
  all_goals
    refine call_new (clone_con (s := s) (b := 40) (z := [.str [], .str [], .int .i64 0]) c94 (by omega) hs.1 _) (Views.refl _ _) fun r O c' hc ⟨x, e1, e2, e3⟩ _ _ => ?_
    subst e1; subst e2
    refine ⟨_, .refl _, free_ref _ _ _, fun o ho => flat_free TFile.flat _ _ o ho _, ?_⟩
    simp [f1, f2, f3, putA]
    repeat' refine And.intro ?_ ?_
  all_goals
    refine call_new (impl_newL _) (Views.refl _ _) fun r O c' hc ⟨t, e1, e2⟩ _ _ => ?_
    subst e1; subst e2
    refine ⟨_, .refl _, .ref, fun o ho => by simp at ho; subst ho; exact zl_rows _ _, ?_⟩
    simp [f1, f2, f3, putA]
    repeat' refine And.intro ?_ ?_
  all_goals
    exact fin_all (.inr ⟨hok, _, _, _, _, _, rfl, fil_of e3 (fun o ho => by simp [ho]), by simp, by simp [zWork_encO]⟩)
theorem newS_tr {P : Program} {f : Nat} {args : List AV} {l : List TFile} {n : Int} (h : ∀ c, Con P f args [] c fun r O _ => NewQ l n r O) : Tr P f args fun _ r => ∃ b : TServer, r = .tup [.agg b.enc, .bool (nsOk l n)] ∧ b.con = (nsrv l n).con :=
  srv_tr fun c => (new_fin (h c)).mono fun r O c' _ ⟨b, h1, h2, h3, _⟩ => ⟨b, h1, h2, h3⟩
end A
end Go.Proofs.YtfcimcoanlgldaaDoor

/-
  NewServer: the law answers true. No condition.
-/

namespace Go.Proofs.YtfcimcoanlgldaaDoor
namespace A
set_option linter.unusedVariables false
set_option linter.unusedSimpArgs false
set_option maxRecDepth 100000

@[simp] theorem getW_two {α : Type} (X Y M : List α) (B : α) (K : α → Prop) : getW (X ++ (Y ++ B :: M)) (X.length + Y.length) K = K B := by
  rw [← List.append_assoc]; exact getW_of (by rw [List.getElem?_append_right (by simp)]; simp) K
@[simp] theorem set_two {α : Type} (X Y M : List α) (B C : α) : (X ++ (Y ++ B :: M)).set (X.length + Y.length) C = X ++ (Y ++ C :: M) := by
  rw [← List.append_assoc, List.set_append_right _ _ (by simp)]; simp
@[simp] theorem getW_two1 {α : Type} (X Y M : List α) (A B : α) (K : α → Prop) : getW (X ++ (Y ++ A :: B :: M)) (X.length + (Y.length + 1)) K = K B := by
  have e : X.length + (Y.length + 1) - (X ++ Y).length = 1 := by rw [List.length_append]; omega
  rw [← List.append_assoc]; exact getW_of (by rw [List.getElem?_append_right (by rw [List.length_append]; omega), e]; rfl) K
@[simp] theorem set_two1 {α : Type} (X Y M : List α) (A B C : α) : (X ++ (Y ++ A :: B :: M)).set (X.length + (Y.length + 1)) C = X ++ (Y ++ A :: C :: M) := by
  have e : X.length + (Y.length + 1) - (X ++ Y).length = 1 := by rw [List.length_append]; omega
  rw [← List.append_assoc, List.set_append_right _ _ (by rw [List.length_append]; omega), e]; simp
theorem mark_midB {α : Type} {P : Program} {f w : Nat} {encO : α → List AV} {inn : α → List AObj} {mk : Int → α → α} {cnt : α → Nat} {K : AV → List AObj → Nat → Prop} {A C : List AObj} {s : SL α} {k n : Int} {c : Nat}
    (hf : Con P f [s.ref w, .int .i64 k] (s.wood w encO inn) c fun r H' _ => r = .int .i64 n ∧ H' = (s.marks mk cnt k).wood w encO inn)
    (hi : ∀ k x, tags (inn (mk k x)) = tags (inn x)) (hO : ∀ x a, a ∈ encO x → Free a) (hI : ∀ x o, o ∈ inn x → ∀ T, AvRows T o) {H : List AObj} (hH : H = A ++ (s.wood w encO inn ++ C)) (kk : ∀ c', c ≤ c' → K (.int .i64 n) (A ++ ((s.marks mk cnt k).wood w encO inn ++ C)) c') :
    CallW P f [s.ref w, .int .i64 k] H c K := by
  rw [hH, ← List.append_assoc]
  exact mark_mid hf hi hO hI fun c' h => by rw [List.append_assoc]; exact kk c' h
theorem nsrv_sz {l : List TFile} {n : Int} (h : szL TFile.sz l + l.length ≤ 1048576) : (nsrv l n).sz ≤ 1099511627776 := by
  unfold nsrv
  split
  · rename_i hok
    obtain ⟨h1, h2, h3⟩ := ns_len hok
    have e1 := szL_mul TLine.sz 100 (List.replicate 8 zLine) fun x hx => by rw [List.eq_of_mem_replicate hx]; decide
    have e2 := szL_mul TWorker.sz 100 (List.replicate n.toNat zWork) fun x hx => by rw [List.eq_of_mem_replicate hx]; decide
    rw [List.length_replicate] at e1 e2
    simp only [TServer.sz, szFileS, szLineS, szSessionS, szJobS, szWorkerS, szAnswerS, SL.list_mk, SL.list_nil, List.length_replicate, List.length_nil]
    have e3 : ∀ {α : Type} (f : α → Nat), szL f [] = 0 := fun f => rfl
    rw [e3, e3, e3]
    omega
  · simp [TServer.sz, szFileS, szLineS, szSessionS, szJobS, szWorkerS, szAnswerS, szL]
theorem law_newS {s : SL TFile} {n : Int} (hs : okFileS s) (hn : IOk .i64 n) (c : Nat) : Con Tryd.prog 11 [s.av 3 TFile.enc, .int .i64 n] [] c fun r H' _ => r = .bool true ∧ H' = [] := by
  refine con_of c11 (by simp [F11]) ?_
  unfold F11
  simp
  refine call_fn0 (szFileS_fn hs ⟨by omega, by omega⟩) .int fun _ _ => ?_
  simp
  refine ⟨fun _ => fin_plain ⟨rfl, rfl⟩, fun h => ?_⟩
  have hz : szFileS s ≤ 1048576 := by have := (szOf_ge h).2; omega
  have hz0 : s.list.length + szL TFile.sz s.list ≤ 1048576 := hz
  have hok : ∀ b : SL TFile, b.list = s.list → okFileS b := fun b hb => by unfold okFileS at hs ⊢; rw [hb]; exact hs
  have hsz : ∀ b : TServer, b.con = (nsrv s.list n).con → b.sz ≤ 1099511627776 := fun b hb => by
    rw [← b.sz_con, hb, TServer.sz_con]; exact nsrv_sz (by omega)
  have hfz : ∀ b : SL TFile, b.list = s.list → szFileS b ≤ 1099511627776 := fun b hb => by unfold szFileS; rw [hb]; omega
  refine call_tree0 (toFileS_fn hz) fun r1 _ _ ⟨b1, e1, q1⟩ _ => ?_
  subst e1
  have q1 := fileCon q1
  simp
  refine call_tree0 (newS_tr fun c => spec_newS (n := n) (hok _ q1) c) fun r2 c2 hc2 ⟨w, e2, q2⟩ _ => ?_
  subst e2
  rw [q1] at q2
  simp [q1, putA]
  refine call_new (toFileSO hz _) (Views.refl _ _) fun r3 O c3 hc3 ⟨x, e3, hO, q3⟩ _ _ => ?_
  subst e3; subst hO
  have q3 := fileCon q3
  refine ⟨_, .refl _, free_ref _ _ _, fun o ho => flat_free TFile.flat _ _ o ho _, ?_⟩
  simp [putA]
  refine call_new (new_fin (impl_newS (s := x) (n := n) (hok _ q3) _)) (.cons (view_flat (fun o ho => by simp [ho]) TFile.flat.cells) (.cons (.refl _) .nil)) fun r4 O c4 hc4 ⟨g, e4, hO, q4, gm⟩ _ _ => ?_
  subst e4; subst hO
  rw [q3] at q4
  refine ⟨_, .refl _, free_tup (by simp; exact ⟨free_agg (TServer.freeO g), free_bool _⟩) _, fun o ho => TServer.freeI g o ho _, ?_⟩
  obtain ⟨gb, gw⟩ := gm
  have qgw : g.con = w.con := q4.trans q2.symm
  simp [q3, putA]
  refine call_fn (TServer.eq_fn (a := g) (b := w) (hsz _ q4) qgw) (.cons (view_AServer (fun o ho => by simp [ho])) (.cons (.refl _) .nil)) .bool fun _ _ => ?_
  simp
  refine call_tree0 (toFileS_fn hz) fun r5 _ _ ⟨b5, e5, q5⟩ _ => ?_
  subst e5
  have q5 := fileCon q5
  simp
  refine call_fn (eqFileS_fn (s := x) (t := b5) (hfz _ q3) (by rw [q3, q5])) (.cons (view_flat (fun o ho => by simp [ho]) TFile.flat.cells) (.cons (.refl _) .nil)) .bool fun _ _ => ?_
  simp
  have hxc : szL cFile x.list ≤ 16777216 := by rw [szL_eFile, q3]; omega
  have hk1 : ¬ ((1 : Int) + (szL cFile x.list : Int) < 0) := by omega
  have hk2 : ¬ ((1 : Int) + (cServer g : Int) < 0) := by omega
  have hlx := marks_wood_len (w := 3) (encO := TFile.enc) (inn := noInn) (mk := mkFile) (cnt := cFile) (fun _ _ => rfl) 1 x
  have hlg := mkServer_len 1 g
  refine mark_midB (A := [⟨false, c2, 8, [w.enc]⟩]) (C := g.inn ++ [⟨false, c4, 8, [g.encO]⟩]) (markFile_con hxc (k := 1) ⟨by omega, by omega⟩ _) (fun _ _ => rfl) (fun x a ha => (TFile.flat x a ha).2) (fun x o ho => by cases ho) (by simp) fun c6 _ => ?_
  generalize (x.marks mkFile cFile 1).wood 3 TFile.enc noInn = X at hlx ⊢
  simp [hk1, ← hlx]
  refine call_fn (TServer.eq_fn (a := g) (b := w) (hsz _ q4) qgw) (.cons (view_AServer (fun o ho => by simp [ho])) (.cons (.refl _) .nil)) .bool fun _ _ => ?_
  simp [hk1, ← hlx]
  refine markServer_at gb gw (A := ⟨false, c2, 8, [w.enc]⟩ :: X) (C := [⟨false, c4, 8, [g.encO]⟩]) (by simp) rfl fun c7 _ => ?_
  generalize hG : (mkServer 1 g).inn = G at hlg ⊢
  simp [hk1, hk2, ← hlx, ← hlg]
  have hv : ∀ S : List AObj, (∀ o, o ∈ G → o ∈ S) → View S (.agg g.encO) (.agg (mkServer 1 g).enc) := fun S h => by rw [← mkServer_encO 1 g]; exact view_AServer (by rw [hG]; exact h)
  refine call_fn (heldServer_fn (s := g) gb gw (k := 1) ⟨by omega, by omega⟩) (.cons (hv _ fun o ho => by simp [ho]) (.cons (.refl _) .nil)) .int fun _ _ => ?_
  simp [hk1, hk2, ← hlx, ← hlg]
  refine call_tree0 (toFileS_fn hz) fun r6 _ _ ⟨b6, e6, q6⟩ _ => ?_
  subst e6
  have q6 := fileCon q6
  simp
  refine call_tree0 (newS_tr fun c => impl_newS (n := n) (hok _ q6) c) fun r7 c8 hc8 ⟨y, e7, q7⟩ _ => ?_
  subst e7
  rw [q6] at q7
  simp [q6, putA, hk1, hk2, ← hlx, ← hlg]
  have qyw : y.con = w.con := q7.trans q2.symm
  refine call_fn0 (TServer.eq_fn (a := y) (b := w) (hsz _ q7) qyw) .bool fun _ _ => ?_
  simp [hk1, hk2, ← hlx, ← hlg]
  refine call_fn (heldServer_fn (s := g) gb gw (k := 1) ⟨by omega, by omega⟩) (.cons (hv _ fun o ho => by simp [ho]) (.cons (.refl _) .nil)) .int fun _ _ => ?_
  simp [hk1, hk2]
  exact fin_plain ⟨rfl, rfl⟩
end A
end Go.Proofs.YtfcimcoanlgldaaDoor

/-
  The wrap of a row that lists package variables, the world's shape kept. No condition.
-/


namespace Go.Proofs.YtfcimcoanlgldaaDoor
namespace A
open Go.RowKit
set_option linter.unusedVariables false
section
variable {H : Type} {enc : TypeId × Value → H}
theorem returns_shaped {a : Assume} {C : Checked} {os : Os} {f : FuncId} {fn : Func} {s : ChangeSpec} {conds : List PathCond} {apart fresh handsOn again : Bool} {X : World → Array Value → Prop}
    (hX : ∀ (w w' : World) (args : Array Value), w.heap = w'.heap → X w args → X w' args)
    (own : ownKnob C.prog.godebug = none) (started : os.Started) (noInit : C.prog.inits.idxOf? f = none) (hfn : C.prog.funcs[f]? = some fn)
    (witness : ∃ (w : World) (tape : Tape) (i : Input), w.os = os ∧ (w.forCall tape i).Shaped C.prog ∧ i.vars = [] ∧ Input.okWide C.prog (w.forCall tape i) .any w.heap.size f i ∧
      ((s.pre enc C.prog fn conds apart (w.forCall tape i).memory i.args ∧ X (w.forCall tape i).memory i.args) ∧ sizedMet enc C.prog fn (OpenSpec.ofChange s) apart (w.forCall tape i).memory i.args) ∧ a.holds C.prog (lone (Frame.enter C.prog f i.args .normal) [] (w.forCall tape i)))
    (contract : ∀ (W : World) (base : Nat) (args : Array Value) (ds gs : List (DataW H)) (before : List MemPlace),
      (∀ (j : Nat) t v, fn.params[j]? = some t → args[j]? = some v → Value.okWide C.prog W .any base t v) →
      DataW.Whole enc C.prog fn.params.toList s.vars apart W args.toList ds gs before →
      conds.all (PathCond.test C.prog ⟨fn.params.toList, ds, s.plain.varTypes C.prog, gs⟩) = true → X W args → W.ShapedOpen C.prog →
      Calls C.prog f args W fun e W' => ∃ v, e = .returned v ∧ s.post enc C.prog fn apart fresh handsOn again W args v W') :
    ReturnsInHanded a C os f .any (fun w args => (s.pre enc C.prog fn conds apart w args ∧ X w args) ∧ sizedMet enc C.prog fn (OpenSpec.ofChange s) apart w args) (s.post enc C.prog fn apart fresh handsOn again) := by
  refine returnsInHanded_of_calls own started noInit witness ?_
  intro w tape i _ hsh _ hok hpre _
  obtain ⟨_, _, _, fn', hfn', _, _, _, _, hval⟩ := hok
  have e : fn' = fn := Option.some.inj (hfn'.symm.trans hfn)
  subst e
  obtain ⟨⟨⟨ds, gs, before, hw, hc⟩, hx⟩, _⟩ := hpre
  refine (contract (w.forCall tape i) w.heap.size i.args ds gs before hval (DataW.Whole.of_heap (w' := w.forCall tape i) (by rfl) hw) hc (hX _ _ _ (by rfl) hx) hsh).mono fun e W' ⟨v, he, hp⟩ => ?_
  subst he
  exact ChangeSpec.post_blind hp
end
theorem cell_block {w : World} {m : Int} (hm : w.cell? ⟨0, 0, none⟩ = some (.int .i64 m)) : 0 < w.heap.size ∧ ∃ c t fr, w.heap[0]? = some (.cells c t fr) ∧ c[0]? = some (Value.int .i64 m) := by
  rw [cell?_eq] at hm
  unfold hcell at hm
  split at hm
  · rename_i c t fr hc
    exact ⟨(Array.getElem?_eq_some_iff.1 hc).1, c, t, fr, hc, hm⟩
  · cases hm
end A
end Go.Proofs.YtfcimcoanlgldaaDoor

/-
  Facts of the whole program that every row of the seat asks, each worked out once. No condition.
-/


namespace Go.Proofs.YtfcimcoanlgldaaDoor.Closed
open Go.ChangeShapes Go.WideShapes Go.RowKit
theorem heard : Tryd.pinned.checked.prog.stopsHeard = true := by kernel_rfl
theorem enter : Tryd.pinned.checked.prog.mayEnter = true := by kernel_rfl
theorem make : Tryd.pinned.checked.prog.make = some Rows.fnExactFormatResponseRow.make := by kernel_rfl
theorem lifts : Tryd.pinned.checked.prog.liftsFinal = Rows.fnExactFormatResponseRow.lifted := by kernel_rfl
end Go.Proofs.YtfcimcoanlgldaaDoor.Closed

/-
  FnExactNewServer: the program's and the reference's give the same, for all arguments. No condition.
-/














namespace Go.Proofs.YtfcimcoanlgldaaDoor.fnExactNewServer
open Go.ChangeShapes Go.WideShapes Go.ChangeAt Go.RowKit
open Go.Proofs.YtfcimcoanlgldaaDoor.A
set_option linter.unusedVariables false

theorem own : ownKnob Tryd.prog.godebug = none := by kernel_rfl

def types : List TypeId := [39, 88, 9, 3, 4]

set_option maxRecDepth 100000 in
theorem lifted (os : Os) (started : os.Started) (H : Type) (enc : TypeId × Value → H) :
    ReturnsInHanded {} Tryd.checked os 11 .any (fun w args => (Rows.fnExactNewServerSpec.pre enc Tryd.prog Tryd.f11 Rows.fnExactNewServerRow.domain false w args ∧ laidMetH Tryd.prog Rows.fnExactNewServerRow.laid w) ∧ sizedMet enc Tryd.prog Tryd.f11 (OpenSpec.ofChange Rows.fnExactNewServerSpec) false w args) (Rows.fnExactNewServerSpec.post enc Tryd.prog Tryd.f11 false true false false) := by
  refine A.returns_shaped (C := Tryd.checked) (X := fun w _ => laidMetH Tryd.prog Rows.fnExactNewServerRow.laid w) (fun _ _ _ hh h => h.of_heap hh) own started (by kernel_rfl) Tryd.func11
    (ChangeSpec.witness_shaped (enc := enc) (C := Tryd.checked) (os := os) (X := fun w _ => laidMetH Tryd.prog Rows.fnExactNewServerRow.laid w) false (World.laidAll Tryd.prog os Rows.fnExactNewServerRow.laid) #[.slice none 0 0, .int .i64 0] 8 (World.laidAll_os _ _ _)
      (World.shaped_of_ZipB (by kernel_rfl) (by kernel_rfl)) (by kernel_rfl) (by kernel_rfl) (by kernel_rfl)
      (by rw [MakeChecks.laidMetH_plain _ _ _ (by kernel_rfl)]; exact laidMet_laidAll _ (by kernel_rfl) (by kernel_rfl))) ?_
  intro W base args ds gs before hval0 hW hcnd hL hsh
  obtain ⟨m, hm⟩ := Tryd.laysM146.s1_3 W hsh
  have hg : ∀ b, b < NB → b < W.heap.size ∧ GL b W.heap[b]? := by
    obtain ⟨h0, c, t, fr, hc, hcm⟩ := cell_block hm
    intro b hb
    have hb0 : b = 0 := Nat.lt_one_iff.1 hb
    subst hb0
    exact ⟨h0, c, t, fr, m, hc, hcm⟩
  have hval : ∀ (j : Nat) t v, Tryd.f11.params[j]? = some t → args[j]? = some v → Value.okWide Tryd.prog W .any base t v := hval0
  refine law_post (rs := types) (bt := 4) (by kernel_rfl) (by kernel_rfl) (fun t ht => ?_) Tryd.underlying4 (by kernel_rfl) rfl (fun ds hds => ?_) hW hval (fun l has => ?_) hg
  · rw [Tryd.params11] at ht
    simp at ht
    first
      | (subst ht; exact ⟨by simp [types], by kernel_rfl, of_decide_eq_true (by kernel_rfl)⟩)
      | (rcases ht with rfl | rfl <;> exact ⟨by simp [types], by kernel_rfl, of_decide_eq_true (by kernel_rfl)⟩)
      | (rcases ht with rfl | rfl | rfl <;> exact ⟨by simp [types], by kernel_rfl, of_decide_eq_true (by kernel_rfl)⟩)
      | (rcases ht with rfl | rfl | rfl | rfl <;> exact ⟨by simp [types], by kernel_rfl, of_decide_eq_true (by kernel_rfl)⟩)
      | (rcases ht with rfl | rfl | rfl | rfl | rfl <;> exact ⟨by simp [types], by kernel_rfl, of_decide_eq_true (by kernel_rfl)⟩)
      | (rcases ht with rfl | rfl | rfl | rfl | rfl | rfl <;> exact ⟨by simp [types], by kernel_rfl, of_decide_eq_true (by kernel_rfl)⟩)
  · rw [← Array.length_toList, Tryd.params11] at hds
    match ds, hds with
    | [d0, d1], _ => exact ⟨rfl, rfl, rfl⟩
  · rw [Tryd.params11] at has
    cases has with
    | cons h0 has =>
      cases has with
      | cons h1 has =>
        cases has
        obtain ⟨n0, h0⟩ := h0
        rw [if_neg (by decide)] at h0
        obtain ⟨s0, rfl, k0⟩ := shFileS h0
        obtain ⟨n1, h1⟩ := h1
        rw [if_neg (by decide)] at h1
        obtain ⟨s1, rfl, k1⟩ := sh_int (k := .i64) (t := 3) (by kernel_rfl) h1
        exact A.law_newS k0 k1 _

set_option maxHeartbeats 4000000 in
theorem facts : joinedFacts Tryd.pinned.checked.prog 11 Tryd.f11 Rows.fnExactNewServerSpec Rows.fnExactNewServerRow = true := by
  unfold joinedFacts
  rw [Closed.heard, Closed.enter, Closed.lifts, Closed.make]
  simp only [Bool.and_eq_true]
  iterate 6 (refine ⟨?_, by as_aux_lemma => kernel_rfl⟩)
  refine ⟨⟨?_, trivial⟩, trivial⟩
  iterate 23 (refine ⟨?_, by as_aux_lemma => kernel_rfl⟩)
  kernel_rfl
theorem named : Tryd.pinned.checked.prog.funcNamed Rows.fnExactNewServerRow.func = some 11 := by kernel_rfl
theorem inst : Tryd.f11.isInstance Tryd.pinned.checked.prog Rows.fnExactNewServerRow.origin Rows.fnExactNewServerRow.targs := of_decide_eq_true (by kernel_rfl)
theorem wrap : Tryd.f11.isWrapper Tryd.pinned.checked.prog Rows.fnExactNewServerRow.wrapper Rows.fnExactNewServerRow.mainSum := by
  unfold Func.isWrapper
  first
    | (rw [if_pos (by decide +kernel)]; kernel_rfl)
    | (rw [if_neg (by decide +kernel)]; exact ⟨rfl, rfl⟩)

theorem over : Rows.fnExactNewServerRow.holds Tryd.pinned (OpenSpec.ofChange Rows.fnExactNewServerSpec) :=
  OpenClaim.holds_of_wide 11 Tryd.f11 rfl rfl rfl rfl rfl rfl rfl ⟨rfl, rfl, rfl, rfl, rfl⟩ rfl rfl rfl rfl rfl named Tryd.func11 facts inst wrap
    (fun os started H enc _ => lifted os started H enc)

theorem row : Rows.FnExactNewServerSaid := over
/-- THE STATEMENT -/
theorem proved : Rows.FnExactNewServerCardSaid :=
  Claim7.holds_tied_plain_at .later [] [.data, .pinned] true Rows.fnExactNewServerCard.stood.harness true row (fun _ h => by cases h) (by kernel_rfl) (fun _ h => by cases h) fnExactNewServer_row_tie rfl ⟨rfl, rfl⟩ (by kernel_rfl) rfl
    (fun f fn hf hfn => by
      obtain rfl : f = 11 := Option.some.inj (named.symm.trans hf) |>.symm
      obtain rfl : fn = Tryd.f11 := (Option.some.inj (Tryd.func11.symm.trans hfn)).symm
      exact ⟨by kernel_rfl, fun j t ht => by
        rw [Tryd.params11] at ht
        have hm : t ∈ [39, 3] := by simpa using Array.mem_of_getElem? ht
        have hall : ([39, 3].all fun u => !Tryd.prog.wantsStandIn u) = true := by kernel_rfl
        exact (show Tryd.prog.wantsStandIn t = false by simpa using List.all_eq_true.1 hall t hm)⟩)
    (by kernel_rfl)
#print axioms proved
end Go.Proofs.YtfcimcoanlgldaaDoor.fnExactNewServer
