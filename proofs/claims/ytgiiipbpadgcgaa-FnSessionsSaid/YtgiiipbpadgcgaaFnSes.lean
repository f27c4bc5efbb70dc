/-
  FnSessions answers true. No condition.
-/
import Derived.Test.YtgiiipbpadgcgaaCur5
import Derived.Test.YtgiiipbpadgcgaaSesP
import Derived.Test.YtgiiipbpadgcgaaFnSw
namespace Go.Proofs.Ytgiiipbpadgcgaa
namespace A
set_option linter.unusedVariables false
set_option linter.unusedSimpArgs false
set_option maxRecDepth 100000

theorem open_bad {id : List UInt8} {who now : Int} {l : List TSession} (h : (openS id who now l).2.2 ≠ 0) : (openS id who now l).1 = l ∧ (openS id who now l).2.1 = [] := by
  cases hc : (isName id && areSessions l && inR who 1 1000000000000 && inR now 0 1000000000000) with
  | false => rw [openS_bad hc]; exact ⟨rfl, rfl⟩
  | true =>
    by_cases hf : findS id l 0 < 0
    · rw [openS_no hc hf] at h ⊢
      split
      · exact ⟨rfl, rfl⟩
      · rename_i h8; rw [if_neg h8] at h; exact absurd rfl h
    · obtain ⟨k, hk⟩ := Int.eq_ofNat_of_zero_le (Int.not_lt.1 hf)
      obtain ⟨_, z, hz, hzi⟩ := findS_some l 0 k hk
      simp only [Nat.sub_zero] at hz
      obtain ⟨hkl, hzk⟩ := List.getElem?_eq_some_iff.1 hz
      rw [openS_at hc hk hkl] at h ⊢
      split
      · rename_i hh; rw [if_pos hh] at h; exact absurd rfl h
      · exact ⟨rfl, rfl⟩

theorem law_sessions {s : SL Int} (hs : s.list.length ≤ mx) (c : Nat) : Con Try.prog 13 [s.av 1 encU] [] c fun r H' _ => r = .bool true ∧ H' = [] := by
  refine con_of c13 (by simp [F13]) ?_
  unfold F13
  simp
  refine call_fn0 (big_fn s) .bool fun _ _ => ?_
  by_cases hbig : (1048576 : Int) < s.list.length
  · simp [hbig]
    exact fin_plain ⟨rfl, rfl⟩
  simp [hbig]
  refine call_tree0 (drawOpen (by omega)) fun r c1 _ ⟨b, l, hr, hsm, id, who, now, hl, hidl, w0, w3, hnow⟩ _ => ?_
  subst hr; subst hl
  simp
  have hbl : b.list.length ≤ 16 := hsm.1
  refine call_tree0 (impl_open (s := b) (id := id) (who := who) (now := now) (small_ok hsm (by omega)) (by unfold mx; omega) (by omega)) fun r c2 _ ⟨a, l, hr, hal, hl⟩ _ => ?_
  subst hr; subst hl
  have hbad := open_bad (id := id) (who := who) (now := now) (l := b.list)
  have hcase := fun (a : List TSession) (data : List UInt8) => open_case (id := id) (who := who) (now := now) (l := b.list) (a := a) (data := data)
  have hsm' := open_small (id := id) (who := who) (now := now) hsm hidl
  generalize openS id who now b.list = o at hal hbad hcase hsm'
  obtain ⟨a1, data, code⟩ := o
  dsimp only at hal hbad hsm'
  subst hal
  by_cases hc : code = 0
  · subst hc
    obtain ⟨k, z, hz, hf, hzi, hzh, hzd, hga, hname, hwho, hnow'⟩ := hcase _ _ rfl
    obtain ⟨hkl, hzk⟩ := List.getElem?_eq_some_iff.1 hz
    have hwho1 : 1 ≤ who := (inR_true hwho).1
    have hw1 : IntKind.i64.wrap (who + 1) = who + 1 := wrap64 (by omega) (by omega)
    have hin : inR (who + 1) 1 1000000000000 = true := by simp [inR]; omega
    have hal16 : a.list.length ≤ 17 := hsm'.1
    have aok : okSessionS a := small_ok hsm' (by omega)
    have hid : id.length ≤ mx := by unfold mx; omega
    have ho1 := open_held hz hf hzh (by omega) hga hname hin hnow'
    have hs1 : savesS id who [110, 101, 119] now a.list = true := by rw [savesS_at hf hkl, hzk]; simp [hzh, hnow', hwho1]
    have hne : ¬ who = who + 1 := by omega
    have hs2 : savesS id (who + 1) [98, 97, 100] now a.list = false := by rw [savesS_at hf hkl, hzk]; simp [hzh, hne]
    simp [hw1]
    refine call_tree0 (impl_open (s := a) (id := id) (who := who + 1) (now := now) aok hid (by omega)) fun r c3 _ ⟨a2, l, hr, h2, hl⟩ _ => ?_
    subst hr; subst hl
    simp [ho1, hw1]
    refine call_tree0 (impl_save (s := a) (id := id) (who := who) (data := [110, 101, 119]) (now := now) (by omega)) fun r c4 _ ⟨bb, l, hr, hb2, hl⟩ _ => ?_
    subst hr; subst hl
    simp [ho1, hw1, hs1]
    refine call_tree0 (impl_save (s := a) (id := id) (who := who + 1) (data := [98, 97, 100]) (now := now) (by omega)) fun r c5 _ ⟨b3, l, hr, hb3, hl⟩ _ => ?_
    subst hr; subst hl
    simp [ho1, hw1, hs1, hs2]
    have hbb : bb.list = a.list.set k ⟨id, [110, 101, 119], 0, now⟩ := by rw [hb2]; unfold saveS; rw [if_pos hs1, hf]; simp
    have hzid : ({ Id := id, Data := [110, 101, 119], Holder := 0, At := now } : TSession).Id = a.list[k].Id := by rw [hzk, hzi]
    have hbg : areSessions bb.list = true := by rw [hbb]; exact set_good hga hkl hzid (by have := inR_true hnow'; simp [sessOk, hname, inR]; omega)
    have hbf : findS id bb.list 0 = (k : Int) := by rw [hbb, findS_ids 0 (set_ids hkl hzid)]; exact hf
    have hbz : bb.list[k]? = some ⟨id, [110, 101, 119], 0, now⟩ := by rw [hbb]; simp [hkl]
    have hbl' : bb.list.length ≤ 17 := by rw [hbb]; simpa using hal16
    have hbs : smallS 17 bb.list := by rw [hb2]; exact save_small hsm' hidl (by simp)
    have ho2 := open_free hbz hbf rfl hbg hname hin hnow'
    refine call_tree0 (impl_open (s := bb) (id := id) (who := who + 1) (now := now) (small_ok hbs (by omega)) hid (by omega)) fun r c6 _ ⟨cc, l, hr, hcl, hl⟩ _ => ?_
    subst hr; subst hl
    simp [ho1, hw1, hs1, hs2, ho2]
    refine call_tree0 (impl_drop (s := a) (who := who) (by omega)) fun r c7 _ ⟨dd, hr, hdl⟩ _ => ?_
    subst hr
    simp [ho1, hw1, hs1, hs2, ho2]
    have hdg : areSessions dd.list = true := by rw [hdl]; exact drop_good hga
    have hdf : findS id dd.list 0 = (k : Int) := by rw [hdl, findS_ids 0 (drop_ids who a.list)]; exact hf
    have hdz : dd.list[k]? = some (dropH who z) := by rw [hdl, List.getElem?_map, hz]; rfl
    have hdh : (dropH who z).Holder = 0 := by unfold dropH; rw [if_pos hzh]
    have hdd : (dropH who z).Data = data := by unfold dropH; split <;> exact hzd
    have hdsm : smallS 17 dd.list := by
      rw [hdl]
      refine ⟨by simpa using hal16, fun x hx => ?_⟩
      obtain ⟨y, hy, rfl⟩ := List.mem_map.1 hx
      have := hsm'.2 y hy
      unfold dropH; split <;> exact this
    have ho3 := open_free hdz hdf hdh hdg hname hin hnow'
    refine call_tree0 (impl_open (s := dd) (id := id) (who := who + 1) (now := now) (small_ok hdsm (by omega)) hid (by have := hdsm.1; omega)) fun r c8 _ ⟨ee, l, hr, hel, hl⟩ _ => ?_
    subst hr; subst hl
    simp [ho1, hw1, hs1, hs2, ho2, ho3, hdd]
    refine call_fn0 (impl_find (s := a) (id := id) (by unfold mx; omega)) .int fun _ _ => ?_
    simp [ho1, hw1, hs1, hs2, ho2, ho3, hdd, hf]
    refine call_fn0 (spec_areS aok) .bool fun _ _ => ?_
    simp [hga, hf, hkl]
    refine ⟨z, hz, ?_⟩
    simp [hzh, hzd]
    have hbkl : k < bb.list.length := (List.getElem?_eq_some_iff.1 hbz).1
    have hdkl : k < dd.list.length := (List.getElem?_eq_some_iff.1 hdz).1
    have hbk := (List.getElem?_eq_some_iff.1 hbz).2
    have hdk := (List.getElem?_eq_some_iff.1 hdz).2
    have hin0 : inR (who + 1) 0 1000000000000 = true := by simp [inR]; omega
    have hso1 := sess_of hbg (List.mem_of_getElem? hbz)
    have hso2 := sess_of hdg (List.mem_of_getElem? hdz)
    have hcg : areSessions cc.list = true := by
      rw [hcl, ho2]
      refine set_good hbg hbkl (by rw [hbk]) ?_
      simp only [sessOk, Bool.and_eq_true] at hso1 ⊢
      exact ⟨⟨hso1.1.1, hin0⟩, hso1.2⟩
    have heg : areSessions ee.list = true := by
      rw [hel, ho3]
      refine set_good hdg hdkl (by rw [hdk]) ?_
      simp only [sessOk, Bool.and_eq_true] at hso2 ⊢
      exact ⟨⟨hso2.1.1, hin0⟩, hso2.2⟩
    have hcs : smallS 18 cc.list := by rw [hcl]; exact open_small hbs hidl
    have hes : smallS 18 ee.list := by rw [hel]; exact open_small hdsm hidl
    refine call_fn0 (spec_areS (small_ok hbs (by omega))) .bool fun _ _ => ?_
    simp [hbg]
    refine call_fn0 (spec_areS (small_ok hcs (by omega))) .bool fun _ _ => ?_
    simp [hcg]
    refine call_fn0 (spec_areS (small_ok hes (by omega))) .bool fun _ _ => ?_
    simp [heg]
    exact fin_plain ⟨rfl, rfl⟩
  · obtain ⟨q1, q2⟩ := hbad hc
    simp [hc, q1, q2]
    exact fin_plain ⟨rfl, rfl⟩
end A
end Go.Proofs.Ytgiiipbpadgcgaa
