import Derived.Test.YtgalkppgeoknaaaGreatDoorB10

/-
  Images written: numbers, texts, truths, of the program. No condition.
-/
set_option linter.unusedVariables false
set_option linter.unusedSimpArgs false
namespace Go.Proofs.YtgalkppgeoknaaaGreatDoor
namespace A
set_option linter.unusedVariables false
set_option linter.unusedSimpArgs false
set_option maxRecDepth 100000
theorem byteRow_cell (b : UInt8) : ∀ a,a ∈ byteRow b → a.cell = true := by simp [byteRow]
theorem av_bytes (s : SL UInt8) : Av [] (s.av 1 byteRow) := by
  cases s with
  | nil => exact .nsl
  | mk t l =>
    refine .slc (by simp) fun r j x a hx ha => ?_
    obtain ⟨b,_,rfl⟩ : ∃ b,b ∈ l ∧ byteRow b = x := by simpa using List.mem_of_getElem? hx
    have := List.mem_of_getElem? ha
    simp [byteRow] at this
    subst this
    exact .int
theorem tr_buf {P : Program} {f : Nat} {args : List AV} {m : List UInt8} (h : ∀ c,Con P f args [] c fun r O _ => BufQ m r O) : Tr P f args fun _ r => ∃ s : SL UInt8,r = s.av 1 byteRow ∧ s.list = m := by
  refine tr_of (Q := fun r O _ => BufQ m r O) h fun c r O c' hc hq ht => ?_
  obtain ⟨t,rfl,rfl⟩ := hq
  refine ⟨(SL.mk t m).av 1 byteRow,view_ref (by simp) rfl (fun x _ => byteRow_cell x),⟨SL.mk t m,rfl,rfl⟩,from_slc (ht t (by simp [tags])) fun row hr a ha => ?_⟩
  simp only [List.mem_map] at hr
  obtain ⟨b,_,rfl⟩ := hr
  simp [byteRow] at ha
  subst ha
  simp
set_option maxHeartbeats 1000000 in
theorem impl_uv {s : SL UInt8} {n : Int} (h0 : 0 ≤ n) (hn : n ≤ 1000000000000) (hl : s.list.length + (eN n).length ≤ BIG) (c : Nat) : Con Tryz.prog 110 [s.av 1 byteRow,.int .i64 n] [] c fun r O _ => BufQ (s.list ++ eN n) r O := by
  obtain ⟨n,rfl⟩ : ∃ m : Nat,n = (m : Int) := ⟨n.toNat,by omega⟩
  rw [show eN (n : Int) = uv n from rfl] at hl ⊢
  refine con_of c110 (by simp [F110]) ?_
  unfold F110
  unfold BIG at hl
  have hu := uv_pos n
  have hb1 : s.list.length ≤ 140737488355328 := by omega
  have hb2 : s.list.length ≤ mx := by unfold mx; omega
  have hneg : ¬ (n : Int) < 0 := by omega
  have hbig : ¬ (1000000000000 : Int) < (n : Int) := by omega
  simp [hb1,hb2,hneg,hbig]
  refine loop_drop 10 (fun i e H c' => ∃ (t' m : Nat) (pre : List UInt8),e 5 = .ref 0 t' 1 pre.length ∧ e 1 = .int .i64 m ∧ pre ++ uv m = s.list ++ uv n ∧ m * 128 ^ i ≤ n ∧ H = [⟨false,t',1,pre.map byteRow⟩]) ⟨_,n,s.list,by simp [upd]; rfl,by simp [upd],rfl,by simp,by simp⟩ ?_
  intro i e H c' hi ⟨t',m,pre,e5,e1,hp,hm,hH⟩ N hN
  subst hH
  have hmn : m ≤ n := Nat.le_trans (Nat.le_mul_of_pos_right m (Nat.pos_of_ne_zero (by simp))) hm
  have hpl := congrArg List.length hp
  simp only [List.length_append] at hpl
  have hu2 := uv_pos m
  by_cases h : 128 ≤ m
  · have h' : (128 : Int) ≤ (m : Int) := by omega
    have hi10 : i < 10 := by
      rcases Nat.lt_or_ge i 10 with h1 | h1
      · exact h1
      · have : i = 10 := by omega
        subst this
        omega
    have hb := uv_big (n := m) (by omega)
    have hq : ((m : Int)).tdiv 128 = ((m / 128 : Nat) : Int) := by rw [Int.tdiv_eq_ediv_of_nonneg (by omega)]; omega
    have hr : ((m : Int)).tmod 128 = ((m % 128 : Nat) : Int) := by rw [Int.tmod_eq_emod_of_nonneg (by omega)]; omega
    have hqw : IntKind.i64.wrap ((m / 128 : Nat) : Int) = ((m / 128 : Nat) : Int) := wrap64 (by omega) (by omega)
    have hw : IntKind.u8.wrap (IntKind.u8.wrap ((m % 128 : Nat) : Int) + 128) = ((UInt8.ofNat (m % 128 + 128)).toNat : Int) := by
      rw [IntKind.wrap_u8,IntKind.wrap_u8]
      simp [UInt8.toNat_ofNat']
      try omega
    have hb1 : pre.length + 1 ≤ 140737488355328 := by omega
    have hb2 : pre.length + 1 ≤ mx := by unfold mx; omega
    simp [e5,e1,h',h,hq,hr,hqw,hw,hb1,hb2,-Int.natCast_ediv,-Int.natCast_emod,-Int.natCast_add]
    refine hN _ _ [⟨false,c' + 1,1,(pre ++ [UInt8.ofNat (m % 128 + 128)]).map byteRow⟩] _ hi10 (by simp [byteRow]) ⟨_,m / 128,pre ++ [UInt8.ofNat (m % 128 + 128)],by simp [upd],by simp [upd,-Int.natCast_ediv],?_,?_,rfl⟩
    · rw [← hp,hb]; simp
    · refine Nat.le_trans ?_ hm
      rw [Nat.pow_succ,Nat.mul_comm (128 ^ i) 128,← Nat.mul_assoc]
      exact Nat.mul_le_mul_right _ (Nat.div_mul_le_self m 128)
  · have h' : ¬ (128 : Int) ≤ (m : Int) := by omega
    have hs := uv_small (n := m) (by omega)
    have hw := wrap_u8' (n := m) (by omega)
    have hb1 : pre.length + 1 ≤ 140737488355328 := by omega
    have hb2 : pre.length + 1 ≤ mx := by unfold mx; omega
    simp [e5,e1,h',h,hw,hb1,hb2]
    refine fin_buf (m := s.list ++ uv n) ?_ ?_ fun _ _ h => h
    · rw [← hp,hs]; simp
    · rw [← hp,hs]; simp [byteRow]
theorem call_newB {P : Program} {K : AV → List AObj → Nat → Prop} {f c : Nat} {l : List AV} {m : List UInt8} (hf : Con P f l [] c fun r O _ => BufQ m r O) (k : ∀ t c' m',m' = m → K (.ref 0 t 1 m'.length) [⟨false,t,1,m'.map byteRow⟩] c') : CallW P f l [] c K :=
  call_con hf fun r H' c' _ ⟨t,h1,h2⟩ _ _ => by
    subst h1 h2
    exact ⟨.ref,fun o ho => by rw [List.mem_singleton.1 ho]; exact av_rows _ _ _,k t c' m rfl⟩
theorem impl_text {s : SL UInt8} {x : List UInt8} (hx : x.length ≤ 1000000000000) (hl : s.list.length + (eT x).length ≤ BIG) (c : Nat) : Con Tryz.prog 111 [s.av 1 byteRow,.str x] [] c fun r O _ => BufQ (s.list ++ eT x) r O := by
  refine con_of c111 (by simp [F111]) ?_
  unfold F111
  simp only [eT,List.length_append] at hl
  simp
  refine call_newB (impl_uv (n := (x.length : Int)) (by omega) (by omega) (by show _ + (uv x.length).length ≤ _; omega) c) fun t c' m hm => ?_
  have hq := congrArg List.length hm
  rw [List.length_append,show eN (x.length : Int) = uv x.length from rfl] at hq
  unfold BIG at hl
  have hb1 : m.length + x.length ≤ 140737488355328 := by omega
  have hb2 : m.length + x.length ≤ mx := by unfold mx; omega
  simp [hb1,hb2]
  refine fin_buf (m := s.list ++ eT x) ?_ ?_ fun _ _ h => h
  · rw [← List.length_append,hm]; simp [eT]; rfl
  · rw [← List.map_append,hm]; simp [eT]; rfl
def WrQ (t : Nat) (m : List UInt8) (c : Nat) (r : AV) (O : List AObj) : Prop := r = .tup [] ∧ ∃ s : SL UInt8,s.list = m ∧ From c (s.av 1 byteRow) ∧ O = [⟨false,t,1,[[s.av 1 byteRow]]⟩]
theorem call_wr {P : Program} {K : AV → List AObj → Nat → Prop} {f : Nat} {args : List AV} {t i : Nat} {rows : List (List AV)} {A C : List AObj} {m : List UInt8} {c : Nat} (hf : Con P f (.ptr 0 t 1 0 0 :: args) [⟨false,t,1,rows⟩] c fun r O _ => WrQ t m c r O)
    (k : ∀ (s : SL UInt8) c',s.list = m → c ≤ c' → From c (s.av 1 byteRow) → K (.tup []) (A ++ ⟨false,t,1,[[s.av 1 byteRow]]⟩ :: C) c') : CallW P f (.ptr i t 1 0 0 :: args) (A ++ ⟨false,t,1,rows⟩ :: C) c K := by
  have e : ∀ X : AObj,A ++ X :: C = A ++ [X] ++ C := fun X => by simp
  rw [e]
  refine call_mid hf (.cons .namep (Views.refl [] args)) fun r B' c' hc hq => ?_
  obtain ⟨rfl,s,hs,hf2,rfl⟩ := hq
  refine ⟨rfl,.tup (by simp),fun o ho => ?_,by rw [← e]; exact k s c' hs hc hf2⟩
  rw [List.mem_singleton.1 ho]
  intro r j x a hx ha
  have h1 := List.mem_of_getElem? hx
  simp at h1
  subst h1
  have h2 := List.mem_of_getElem? ha
  simp at h2
  subst h2
  exact av_bytes s
theorem call_wr0 {P : Program} {K : AV → List AObj → Nat → Prop} {f : Nat} {args : List AV} {t : Nat} {rows : List (List AV)} {C : List AObj} {m : List UInt8} {c : Nat} (hf : Con P f (.ptr 0 t 1 0 0 :: args) [⟨false,t,1,rows⟩] c fun r O _ => WrQ t m c r O)
    (k : ∀ (s : SL UInt8) c',s.list = m → c ≤ c' → From c (s.av 1 byteRow) → K (.tup []) (⟨false,t,1,[[s.av 1 byteRow]]⟩ :: C) c') : CallW P f (.ptr 0 t 1 0 0 :: args) (⟨false,t,1,rows⟩ :: C) c K := call_wr (A := []) hf k
theorem call_wr1 {P : Program} {K : AV → List AObj → Nat → Prop} {f : Nat} {args : List AV} {t : Nat} {rows : List (List AV)} {a : AObj} {C : List AObj} {m : List UInt8} {c : Nat} (hf : Con P f (.ptr 0 t 1 0 0 :: args) [⟨false,t,1,rows⟩] c fun r O _ => WrQ t m c r O)
    (k : ∀ (s : SL UInt8) c',s.list = m → c ≤ c' → From c (s.av 1 byteRow) → K (.tup []) (a :: ⟨false,t,1,[[s.av 1 byteRow]]⟩ :: C) c') : CallW P f (.ptr 1 t 1 0 0 :: args) (a :: ⟨false,t,1,rows⟩ :: C) c K := call_wr (A := [a]) hf k
theorem wr_num {s : SL UInt8} {n : Int} {t : Nat} (h0 : 0 ≤ n) (hn : n ≤ 1000000000000) (hl : s.list.length + (eN n).length ≤ BIG) (c : Nat) : Con Tryz.prog 59 [.ptr 0 t 1 0 0,.int .i64 n] [⟨false,t,1,[[s.av 1 byteRow]]⟩] c fun r O _ => WrQ t (s.list ++ eN n) c r O := by
  refine con_of c59 (by simp [F59]) ?_
  unfold F59
  simp
  refine call_tree0 (tr_buf (impl_uv h0 hn hl)) fun r c' _ ⟨s',hr,hs⟩ hf => ?_
  subst hr
  simp [putA]
  exact fin_all ⟨rfl,s',hs,hf,rfl⟩
theorem wr_text {s : SL UInt8} {x : List UInt8} {t : Nat} (hx : x.length ≤ 1000000000000) (hl : s.list.length + (eT x).length ≤ BIG) (c : Nat) : Con Tryz.prog 60 [.ptr 0 t 1 0 0,.str x] [⟨false,t,1,[[s.av 1 byteRow]]⟩] c fun r O _ => WrQ t (s.list ++ eT x) c r O := by
  refine con_of c60 (by simp [F60]) ?_
  unfold F60
  simp
  refine call_tree0 (tr_buf (impl_text hx hl)) fun r c' _ ⟨s',hr,hs⟩ hf => ?_
  subst hr
  simp [putA]
  exact fin_all ⟨rfl,s',hs,hf,rfl⟩
theorem boolNum_fn (b : Bool) : Fnc Tryz.prog 112 [.bool b] (.int .i64 (if b then 1 else 0)) := by
  refine fn_of c112 (by simp [F112]) fun c => ?_
  unfold F112
  cases b
  · simp
    exact fin_plain ⟨rfl,rfl⟩
  · simp
    exact fin_plain ⟨rfl,rfl⟩
theorem eB_eN (b : Bool) : eB b = eN (if b then 1 else 0) := by cases b <;> rfl
theorem wr_flag {s : SL UInt8} {b : Bool} {t : Nat} (hl : s.list.length + (eB b).length ≤ BIG) (c : Nat) : Con Tryz.prog 61 [.ptr 0 t 1 0 0,.bool b] [⟨false,t,1,[[s.av 1 byteRow]]⟩] c fun r O _ => WrQ t (s.list ++ eB b) c r O := by
  refine con_of c61 (by simp [F61]) ?_
  unfold F61
  simp
  refine call_fn0 (boolNum_fn b) .int fun c1 hc1 => ?_
  simp
  rw [eB_eN] at hl ⊢
  refine call_wr0 (wr_num (n := if b then 1 else 0) (by split <;> omega) (by split <;> omega) hl _) fun s' c' hs _ hf => ?_
  simp
  exact fin_all ⟨rfl,s',hs,hf.mono hc1,rfl⟩
set_option maxRecDepth 100000
theorem plain_arr {v : TValue} (h4 : v.Kind = 4) : v.plain ↔ ∀ e,e ∈ v.Items.list → e.2.plain := by
  rw [plain_iff]
  exact ⟨fun h => h.1 h4,fun h => ⟨fun _ => h,fun k => absurd h4 k⟩⟩
theorem plain_one {v : TValue} (h4 : v.Kind ≠ 4) : v.plain ↔ inR v.Kind 0 3 = true := by
  rw [plain_iff]
  simp only [inR,Bool.and_eq_true,decide_eq_true_eq]
  exact ⟨fun h => h.2 h4,fun h => ⟨fun k => absurd k h4,fun _ => h⟩⟩
theorem impl_isPlain : ∀ v : TValue,v.sz ≤ 1099511627776 → Fnc Tryz.prog 156 [.agg v.enc] (.bool (pdec v.plain)) := by
  refine TValue.ind2 (p := fun v => v.sz ≤ 1099511627776 → Fnc Tryz.prog 156 [.agg v.enc] (.bool (pdec v.plain))) fun v ih hz => ?_
  refine fn_of c156 (by simp [F156]) fun c => ?_
  unfold F156
  by_cases h4 : v.Kind = 4
  rotate_left
  · simp [h4]
    refine call_fn0 (inRange_fn _ _ _) .bool fun _ _ => ?_
    simp
    exact fin_plain ⟨by rw [pdec_of (plain_one h4).symm],rfl⟩
  have hil := items_len v
  simp [h4]
  refine loop_drop v.Items.list.length (fun i e H c' => e 9 = v.Items.av 8 encE ∧ e 10 = .int .i64 v.Items.list.length ∧ e 11 = .int .i64 i ∧ (∀ x,x ∈ v.Items.list.take i → x.2.plain) ∧ H = [⟨false,c,5,[v.enc]⟩]) ⟨by simp [upd],by simp [upd],by simp [upd],by simp,rfl⟩ ?_
  intro i e H c' hi ⟨e9,e10,e11,hall,hH⟩ N hN
  subst hH
  by_cases h : i < v.Items.list.length
  · have hx : v.Items.list[i]? = some v.Items.list[i] := List.getElem?_eq_getElem h
    have htk : v.Items.list.take (i + 1) = v.Items.list.take i ++ [v.Items.list[i]] := List.take_succ_eq_append_getElem h
    have hxm : v.Items.list[i] ∈ v.Items.list := List.getElem_mem h
    generalize v.Items.list[i] = x at hx htk hxm
    simp [e9,e10,e11,h,getW_of hx]
    refine call_fn0 (ih x hxm (by have := items_sz hxm; omega)) .bool fun _ _ => ?_
    by_cases hg : x.2.plain
    · rw [pdec_true hg]
      simp [e9,e10,e11]
      refine hN _ _ [_] _ h (by simp) ⟨by simp [upd,e9],by simp [upd,e10],by simp [upd]; exact step64 (by unfold mx; omega) h,?_,rfl⟩
      intro y hy
      rw [htk,List.mem_append,List.mem_singleton] at hy
      rcases hy with hy | rfl
      · exact hall y hy
      · exact hg
    · rw [pdec_false hg]
      simp
      exact fin_plain ⟨by rw [pdec_false fun hh => hg ((plain_arr h4).1 hh x hxm)],rfl⟩
  · have hie : i = v.Items.list.length := by omega
    subst hie
    rw [List.take_length] at hall
    simp [e9,e10,e11]
    exact fin_plain ⟨by rw [pdec_true ((plain_arr h4).2 hall)],rfl⟩
theorem impl_ser {v : TValue} (h0 : 0 ≤ v.Kind) (h3 : v.Kind ≤ 3) (n0 : -1000000000 ≤ v.Num) (n1 : v.Num ≤ 1000000000) (hs : v.Str.length ≤ 1048576) (c : Nat) : Con Tryz.prog 157 [.nsl,.agg v.enc] [] c fun r O _ => BufQ (ser v) r O := by
  refine con_of c157 (by simp [F157]) ?_
  unfold F157
  have i1 := itoa_le (n := v.Num) (by omega) (by omega)
  have i2 := itoa_le (n := (v.Str.length : Int)) (by omega) (by omega)
  have fin : ∀ {t c' : Nat} (m : List UInt8) {n : Nat} {ob : AObj} {rows : List (List AV)},n = m.length → rows = m.map byteRow → m = ser v → finW (fun r O _ => BufQ (ser v) r O) (.ref 1 t 1 n) [ob,⟨false,t,1,rows⟩] c' := fun {t c'} m {n ob rows} hn hr hm => by
    subst hn hr hm
    exact ⟨[],[⟨false,t,1,(ser v).map byteRow⟩],[⟨false,t,1,(ser v).map byteRow⟩],.ref 0 t 1 (ser v).length,by simp,.refl _ _,by simp,by simp [tags],.name,t,rfl,rfl⟩
  have a1 : (Lib.itoa v.Num).length + 1 + 1 ≤ mx := by unfold mx; omega
  have a2 : (Lib.itoa v.Num).length + 1 + 1 + 1 ≤ mx := by unfold mx; omega
  have a3 : (Lib.itoa v.Num).length + 1 + 1 + 1 ≤ 140737488355328 := by omega
  have a4 : 2 + (Lib.itoa v.Num).length ≤ mx := by unfold mx; omega
  have a5 : 2 + (Lib.itoa v.Num).length + 1 ≤ mx := by unfold mx; omega
  have a6 : 2 ≤ mx := by unfold mx; omega
  by_cases k0 : v.Kind = 0
  · simp [k0,a6]
    exact fin [78,59] rfl rfl (by simp [ser,k0])
  by_cases k1 : v.Kind = 1
  · simp [k1]
    refine call_fn0 (implFmtI_fn (by omega) (by omega)) .str fun _ _ => ?_
    simp [a1,a2,a3,a4,a5]
    refine fin (98 :: 58 :: (Lib.itoa v.Num ++ [59])) ?_ ?_ ?_
    · simp
    · simp
    · simp [ser,k1]
  by_cases k2 : v.Kind = 2
  · simp [k2]
    refine call_fn0 (implFmtI_fn (by omega) (by omega)) .str fun _ _ => ?_
    simp [a1,a2,a3,a4,a5]
    refine fin (105 :: 58 :: (Lib.itoa v.Num ++ [59])) ?_ ?_ ?_
    · simp
    · simp
    · simp [ser,k2]
  have k3 : v.Kind = 3 := by omega
  simp [k3]
  refine callF_fn0 (implFmtI_fn (by omega) (by omega)) .str fun _ _ => ?_
  generalize hI : Lib.itoa (v.Str.length : Int) = I at i2
  have b1 : I.length + 1 + 1 ≤ mx := by unfold mx; omega
  have b2 : I.length + 1 + 1 + 1 ≤ mx := by unfold mx; omega
  have b3 : I.length + 1 + 1 + 1 + v.Str.length ≤ mx := by unfold mx; omega
  have b4 : I.length + (v.Str.length + 1) + 1 + 1 ≤ mx := by unfold mx; omega
  have b5 : I.length + (v.Str.length + 1) + 1 + 1 + 1 ≤ mx := by unfold mx; omega
  have b6 : 2 + I.length ≤ mx := by unfold mx; omega
  have b7 : I.length + (v.Str.length + 1 + 1) + 1 + 1 ≤ mx := by unfold mx; omega
  have b8 : I.length + (v.Str.length + 1 + 1) + 1 + 1 ≤ 140737488355328 := by omega
  simp [b1,b2,b3,b4,b5,b6,b7,b8]
  refine fin (115 :: 58 :: (I ++ 58 :: (v.Str ++ [59]))) ?_ ?_ ?_
  · simp
  · simp
  · simp [ser,k3,hI]
theorem toStrW_sl {s : SL UInt8} {H : List AObj} {K : AV → Prop} (hl : s.list.length ≤ mx) (k : K (.str s.list)) : toStrW (s.av 1 byteRow) H K := by
  have : toStrW (s.av 1 byteRow) H K = srcW 1 (s.av 1 byteRow) H fun rows => ∃ l : List UInt8,rows = l.map byteRow ∧ l.length ≤ mx ∧ K (.str l) := by cases s <;> rfl
  rw [this,srcW_sl]
  exact ⟨s.list,rfl,hl,k⟩
theorem impl_serialize {v : TValue} (hv : isVal v = true) (hk : inR v.Kind 0 3 = true) (n0 : -1000000000 ≤ v.Num) (n1 : v.Num ≤ 1000000000) (hz : v.sz ≤ 1048576) : Fnc Tryz.prog 113 [.agg v.enc] (.tup [.str (ser v),.bool true]) := by
  have hk2 := inR_iff2 hk
  have hsl : v.Str.length ≤ v.sz := by rw [TValue.sz_eq]; omega
  have hpl : v.plain := (plain_one (by omega)).2 hk
  have hl : (ser v).length ≤ mx := by
    have i1 := itoa_le (n := v.Num) (by omega) (by omega)
    have i2 := itoa_le (n := (v.Str.length : Int)) (by omega) (by omega)
    unfold ser mx
    split
    · simp
    split
    · simp; omega
    split
    · simp; omega
    · simp; omega
  refine fn_of c113 (by simp [F113]) fun c => ?_
  unfold F113
  simp
  refine call_fn0 (impl_isVal hz) .bool fun _ _ => ?_
  rw [hv]
  simp
  refine call_fn0 (impl_isPlain v (by omega)) .bool fun _ _ => ?_
  rw [pdec_true hpl]
  simp
  refine call_tree0 (tr_buf (impl_ser hk2.1 hk2.2 n0 n1 (by omega))) fun r c' _ ⟨s',hr,hs⟩ _ => ?_
  subst hr
  simp
  rw [← hs] at hl ⊢
  refine toStrW_sl hl ?_
  simp
  exact fin_plain ⟨rfl,rfl⟩
set_option maxHeartbeats 4000000 in
theorem wr_class {s : SL UInt8} {f : TClass} {t : Nat} (hF : ∀ x,x ∈ f.Fields.list → FieldOk x) (hl : s.list.length + (eClass f).length ≤ BIG) (hz : f.sz ≤ 1048576) (c : Nat) : Con Tryz.prog 62 [.ptr 0 t 1 0 0,.agg f.enc] [⟨false,t,1,[[s.av 1 byteRow]]⟩] c fun r O _ => WrQ t (s.list ++ eClass f) c r O := by
  refine con_of c62 (by simp [F62]) ?_
  unfold F62
  have hB : BIG = 1099511627776 := rfl
  have hlen : (eClass f).length = (eT f.Name).length + ((eT f.Parent).length + ((eL eField f.Fields.list).length + (eL eMet f.Methods.list).length)) := by simp [eClass]
  have hz2 : f.sz = f.Name.length + f.Parent.length + (f.Fields.list.length + szL TField.sz f.Fields.list) + (f.Methods.list.length + szL TMethod.sz f.Methods.list) := rfl
  have s4 := eL_eq eField f.Fields.list
  have s5 := eL_eq eMet f.Methods.list
  simp
  refine call_wr0 (wr_text (x := f.Name) (by omega) (by omega) _) fun s1 c1 hm1 hc1 hf1 => ?_
  have hq1 := congrArg List.length hm1; simp only [List.length_append] at hq1
  simp
  refine call_wr0 (wr_text (x := f.Parent) (by omega) (by omega) _) fun s2 c2 hm2 hc2 hf2 => ?_
  have hq2 := congrArg List.length hm2; simp only [List.length_append] at hq2
  simp
  refine call_wr0 (wr_num (n := (f.Fields.list.length : Int)) (by omega) (by omega) (by show _ + (uv f.Fields.list.length).length ≤ _; omega) _) fun s4 c4 hm4 hc4 hf4 => ?_
  have hq4 := congrArg List.length hm4; rw [List.length_append,show eN (f.Fields.list.length : Int) = uv f.Fields.list.length from rfl] at hq4
  simp
  refine loop_drop f.Fields.list.length (fun i e H c' => ∃ s' : SL UInt8,s'.list = s4.list ++ (f.Fields.list.take i).flatMap eField ∧ c ≤ c' ∧ From c (s'.av 1 byteRow) ∧ e 0 = .ptr 0 t 1 0 0 ∧ e 24 = f.Fields.av 8 TField.enc ∧ e 25 = .int .i64 f.Fields.list.length ∧ e 26 = .int .i64 i ∧ e 3 = .ptr 1 c 4 0 0 ∧ H = [⟨false,t,1,[[s'.av 1 byteRow]]⟩,⟨false,c,4,[f.enc]⟩]) ⟨s4,by simp,by omega,hf4.mono (by omega),by simp [upd],by simp [upd],by simp [upd],by simp [upd],by simp [upd],rfl⟩ ?_
  intro i e H c5 hi ⟨s5',hm5,hc5,hf5,e0,e24,e25,e26,e3,hH⟩ N hN2
  subst hH
  have hq5 := congrArg List.length hm5; simp only [List.length_append] at hq5
  by_cases h : i < f.Fields.list.length
  · obtain ⟨x,hx⟩ : ∃ x,f.Fields.list[i]? = some x := ⟨_,List.getElem?_eq_getElem h⟩
    have hxm := List.mem_of_getElem? hx
    have hst := step_le eField hx
    have hfo := hF x hxm
    obtain ⟨fn0,fn1,fk0,fk3⟩ := fld_num hfo
    have hxz := fdsz hz hxm
    have hxz2 : x.sz = x.Name.length + x.Owner.length + x.Init.sz := rfl
    have hln : (eField x).length = (eT x.Name).length + ((eT x.Owner).length + ((eB x.Private).length + (eT (ser x.Init)).length)) := by simp [eField]
    have g3 := ser_len hfo hxz
    simp [e0,e24,e25,e26,h,getW_of hx]
    refine call_wr0 (wr_text (x := x.Name) (by omega) (by omega) _) fun s9 c9 hm9 hc9 hf9 => ?_
    have hq9 := congrArg List.length hm9; simp only [List.length_append] at hq9
    simp [e0]
    refine call_wr0 (wr_text (x := x.Owner) (by omega) (by omega) _) fun s10 c10 hm10 hc10 hf10 => ?_
    have hq10 := congrArg List.length hm10; simp only [List.length_append] at hq10
    simp [e0]
    refine call_wr0 (wr_flag (b := x.Private) (by omega) _) fun s11 c11 hm11 hc11 hf11 => ?_
    have hq11 := congrArg List.length hm11; simp only [List.length_append] at hq11
    simp [e0]
    refine call_fn0 (impl_serialize hfo.vl hfo.kd fn0 fn1 (by omega)) (.tup (by intro j a hj; match j,hj with | 0,hj => cases hj; exact .str | 1,hj => cases hj; exact .bool)) fun c12 hc12 => ?_
    simp [e0]
    refine call_wr0 (wr_text (x := ser x.Init) (by omega) (by omega) _) fun s13 c13 hm13 hc13 hf13 => ?_
    simp [e26]
    exact hN2 _ _ [⟨false,t,1,[[s13.av 1 byteRow]]⟩,⟨false,c,4,[f.enc]⟩] _ h (by simp) ⟨s13,by rw [hm13,hm11,hm10,hm9,hm5,flat_step eField hx]; simp [eField],by omega,hf13.mono (by omega),by simp [upd,e0],by simp [upd,e24],by simp [upd,e25],by simp [upd]; exact step64 (by unfold mx; omega) h,by simp [upd,e3],rfl⟩
  have hie : i = f.Fields.list.length := by omega
  subst hie
  rw [List.take_length] at hm5 hq5
  simp [e0,e3,e24,e25,e26]
  refine call_wr0 (wr_num (n := (f.Methods.list.length : Int)) (by omega) (by omega) (by show _ + (uv f.Methods.list.length).length ≤ _; omega) _) fun s7 c7 hm7 hc7 hf7 => ?_
  have hq7 := congrArg List.length hm7; rw [List.length_append,show eN (f.Methods.list.length : Int) = uv f.Methods.list.length from rfl] at hq7
  simp [e3]
  refine loop_drop f.Methods.list.length (fun i e H c' => ∃ s' : SL UInt8,s'.list = s7.list ++ (f.Methods.list.take i).flatMap eMet ∧ c ≤ c' ∧ From c (s'.av 1 byteRow) ∧ e 0 = .ptr 0 t 1 0 0 ∧ e 58 = f.Methods.av 5 TMethod.enc ∧ e 59 = .int .i64 f.Methods.list.length ∧ e 60 = .int .i64 i ∧ H = [⟨false,t,1,[[s'.av 1 byteRow]]⟩,⟨false,c,4,[f.enc]⟩]) ⟨s7,by simp,by omega,hf7.mono (by omega),by simp [upd,e0],by simp [upd],by simp [upd],by simp [upd],rfl⟩ ?_
  clear e0 e3 e24 e25 e26 e
  intro i e H c8 hi ⟨s8,hm8,hc8,hf8,e0,e58,e59,e60,hH⟩ N hN2
  subst hH
  have hq8 := congrArg List.length hm8; simp only [List.length_append] at hq8
  by_cases h : i < f.Methods.list.length
  · obtain ⟨x,hx⟩ : ∃ x,f.Methods.list[i]? = some x := ⟨_,List.getElem?_eq_getElem h⟩
    have hxm := List.mem_of_getElem? hx
    have hst := step_le eMet hx
    have hxz := mtsz hz hxm
    have hxz2 : x.sz = x.Name.length + x.Owner.length + x.From.length := rfl
    have hln : (eMet x).length = (eT x.Name).length + ((eT x.Owner).length + ((eT x.From).length + ((eB x.Private).length + (eB x.Static).length))) := by simp [eMet]
    simp [e0,e58,e59,e60,h,getW_of hx]
    refine call_wr0 (wr_text (x := x.Name) (by omega) (by omega) _) fun s9 c9 hm9 hc9 hf9 => ?_
    have hq9 := congrArg List.length hm9; simp only [List.length_append] at hq9
    simp [e0]
    refine call_wr0 (wr_text (x := x.Owner) (by omega) (by omega) _) fun s10 c10 hm10 hc10 hf10 => ?_
    have hq10 := congrArg List.length hm10; simp only [List.length_append] at hq10
    simp [e0]
    refine call_wr0 (wr_text (x := x.From) (by omega) (by omega) _) fun s11 c11 hm11 hc11 hf11 => ?_
    have hq11 := congrArg List.length hm11; simp only [List.length_append] at hq11
    simp [e0]
    refine call_wr0 (wr_flag (b := x.Private) (by omega) _) fun s12 c12 hm12 hc12 hf12 => ?_
    have hq12 := congrArg List.length hm12; simp only [List.length_append] at hq12
    simp [e0]
    refine call_wr0 (wr_flag (b := x.Static) (by omega) _) fun s13 c13 hm13 hc13 hf13 => ?_
    simp [e60]
    exact hN2 _ _ [⟨false,t,1,[[s13.av 1 byteRow]]⟩,⟨false,c,4,[f.enc]⟩] _ h (by simp) ⟨s13,by rw [hm13,hm12,hm11,hm10,hm9,hm8,flat_step eMet hx]; simp [eMet],by omega,hf13.mono (by omega),by simp [upd,e0],by simp [upd,e58],by simp [upd,e59],by simp [upd]; exact step64 (by unfold mx; omega) h,rfl⟩
  have hie : i = f.Methods.list.length := by omega
  subst hie
  rw [List.take_length] at hm8 hq8
  simp [e0,e58,e59,e60]
  have hfin : s8.list = s.list ++ eClass f := by rw [hm8,hm7,hm5,hm4,hm2,hm1]; simp [eClass,eL]; rfl
  exact ⟨[],[⟨false,t,1,[[s8.av 1 byteRow]]⟩],[⟨false,t,1,[[s8.av 1 byteRow]]⟩],.tup [],by simp,.refl _ _,by simp,by simp [tags],.refl _,rfl,s8,hfin,hf8,rfl⟩
set_option maxRecDepth 100000
def EncQ (p : TProgram) (r : AV) : Prop := ∃ s : SL UInt8,r = .tup [s.av 1 byteRow,.bool (pdec (ProgOk p))] ∧ (ProgOk p → s.list = eProg p) ∧ (¬ ProgOk p → s.list = [])
theorem spec_encodeP {p : TProgram} (hp : p.ok) (hz : p.sz ≤ 1048576) : Tr Tryz.prog 22 [.agg p.enc] fun _ r => EncQ p r := by
  intro c
  refine con_of c22 (by simp [F22]) ?_
  unfold F22
  simp
  refine call_fn0 (spec_isProgram hp hz) .bool fun c1 hc1 => ?_
  by_cases hok : ProgOk p
  · rw [pdec_true hok]
    simp
    refine call_tree0 (tr_buf (spec_encode hok hz)) fun r c2 hc2 ⟨s,hr,hs⟩ hf => ?_
    subst hr
    simp
    exact fin_plain ⟨rfl,⟨s,by rw [pdec_true hok],fun _ => hs,fun h => absurd hok h⟩,from_tup fun a ha => by
      simp at ha
      rcases ha with rfl | rfl
      · exact hf.mono (by omega)
      · simp⟩
  · rw [pdec_false hok]
    simp
    refine ⟨[⟨false,c,2,[p.enc]⟩,⟨false,c1,1,[]⟩],[],[],.tup [(SL.mk c1 []).av 1 byteRow,.bool false],by simp,.refl _ _,by simp,by simp [tags],?_,rfl,⟨SL.mk c1 [],by rw [pdec_false hok],fun h => absurd h hok,fun _ => rfl⟩,from_tup fun a ha => ?_⟩
    · exact view_tup (.cons (view_ref (l := ([] : List UInt8)) (enc := byteRow) (by simp) rfl (by simp)) (.cons (.refl _) .nil))
    · simp at ha
      rcases ha with rfl | rfl
      · exact from_slc (by omega) (by simp)
      · simp
set_option maxHeartbeats 8000000 in
theorem impl_encodeP {p : TProgram} (hp : p.ok) (hz : p.sz ≤ 1048576) : Tr Tryz.prog 29 [.agg p.enc] fun _ r => EncQ p r := by
  intro c
  refine con_of c29 (by simp [F29]) ?_
  unfold F29
  simp
  refine call_fn0 (impl_isProgram hp hz) .bool fun c1 hc1 => ?_
  by_cases hok : ProgOk p
  rotate_left
  · rw [pdec_false hok]
    simp
    exact fin_plain ⟨rfl,⟨.nil,by rw [pdec_false hok]; rfl,fun h => absurd h hok,fun _ => rfl⟩,from_tup fun a ha => by
      simp at ha
      rcases ha with rfl | rfl <;> simp⟩
  rw [pdec_true hok]
  have hB : BIG = 1099511627776 := rfl
  have hpl := eProg_len hok hz
  have hlen : (eProg p).length = (eL eFunc p.Funcs.list).length + (eL eClass p.Classes.list).length := by simp [eProg]
  have s4 := eL_eq eFunc p.Funcs.list
  have s5 := eL_eq eClass p.Classes.list
  have hz2 : p.sz = (p.Funcs.list.length + szL TFunc.sz p.Funcs.list) + (p.Classes.list.length + szL TClass.sz p.Classes.list) := rfl
  simp [putA]
  refine call_wr1 (m := [] ++ eN p.Funcs.list.length) (wr_num (s := .nil) (n := (p.Funcs.list.length : Int)) (by omega) (by omega) (by show 0 + (uv p.Funcs.list.length).length ≤ _; omega) _) fun w1 c2 hm1 hc2 hf1 => ?_
  have hq1 := congrArg List.length hm1; rw [List.length_append,show eN (p.Funcs.list.length : Int) = uv p.Funcs.list.length from rfl,List.length_nil] at hq1
  simp
  refine loop_drop p.Funcs.list.length (fun i e H c' => ∃ w : SL UInt8,w.list = w1.list ++ (p.Funcs.list.take i).flatMap eFunc ∧ c ≤ c' ∧ From c (w.av 1 byteRow) ∧ e 1 = .ptr 0 c 2 0 0 ∧ e 4 = .ptr 1 c1 1 0 0 ∧ e 26 = p.Funcs.av 6 TFunc.enc ∧ e 27 = .int .i64 p.Funcs.list.length ∧ e 28 = .int .i64 i ∧ H = [⟨false,c,2,[p.enc]⟩,⟨false,c1,1,[[w.av 1 byteRow]]⟩]) ⟨w1,by simp,by omega,hf1.mono (by omega),by simp [upd],by simp [upd],by simp [upd],by simp [upd],by simp [upd],rfl⟩ ?_
  intro i e H c3 hi ⟨w3,hm3,hc3,hf3,e1,e4,e26,e27,e28,hH⟩ N hN2
  subst hH
  have hq3 := congrArg List.length hm3; simp only [List.length_append] at hq3
  by_cases h : i < p.Funcs.list.length
  · obtain ⟨f,hx⟩ : ∃ f,p.Funcs.list[i]? = some f := ⟨_,List.getElem?_eq_getElem h⟩
    have hxm := List.mem_of_getElem? hx
    have hst := step_le eFunc hx
    have hfz := fsz hz hxm
    have hInsN := funcN (hok.fok f hxm)
    have hln : (eFunc f).length = (eT f.Name).length + ((eL eP f.Params.list).length + ((eL eP f.Uses.list).length + ((eL eT f.Slots.list).length + ((eB f.Gen).length + (eL eIns f.Code.list).length)))) := by simp [eFunc]
    have hfz2 : f.sz = f.Name.length + (f.Params.list.length + szL TParam.sz f.Params.list) + (f.Uses.list.length + szL TParam.sz f.Uses.list) + (f.Slots.list.length + szL List.length f.Slots.list) + (f.Code.list.length + szL TIns.sz f.Code.list) := rfl
    have l1 := eL_eq eP f.Params.list
    have l2 := eL_eq eP f.Uses.list
    have l3 := eL_eq eT f.Slots.list
    have l4 := eL_eq eIns f.Code.list
    simp [e1,e4,e26,e27,e28,h,getW_of hx]
    refine call_wr1 (wr_text (x := f.Name) (by omega) (by omega) _) fun w4 c4 hm4 hc4 hf4 => ?_
    have hq4 := congrArg List.length hm4; simp only [List.length_append] at hq4
    simp
    let dn : Nat → List UInt8 := fun k => if k = 0 then [] else if k = 1 then eL eP f.Params.list else eL eP f.Params.list ++ eL eP f.Uses.list
    have dn0 : dn 0 = [] := rfl
    have dn1 : dn 1 = eL eP f.Params.list := rfl
    have dn2 : dn 2 = eL eP f.Params.list ++ eL eP f.Uses.list := rfl
    generalize dn = dn at dn0 dn1 dn2
    generalize hPO : (⟨false,c4,1,[[f.Params.av 2 TParam.enc],[f.Uses.av 2 TParam.enc]]⟩ : AObj) = PO
    refine loop_drop 2 (fun k e H c' => ∃ w : SL UInt8,w.list = w4.list ++ dn k ∧ c ≤ c' ∧ From c (w.av 1 byteRow) ∧ e 1 = .ptr 0 c 2 0 0 ∧ e 4 = .ptr 1 c1 1 0 0 ∧ e 26 = p.Funcs.av 6 TFunc.enc ∧ e 27 = .int .i64 p.Funcs.list.length ∧ e 28 = .int .i64 i ∧ e 6 = .ptr 2 c3 6 0 0 ∧ e 39 = .ref 3 c4 1 2 ∧ e 40 = .int .i64 2 ∧ e 41 = .int .i64 k ∧ H = [⟨false,c,2,[p.enc]⟩,⟨false,c1,1,[[w.av 1 byteRow]]⟩,⟨false,c3,6,[f.enc]⟩,PO]) ⟨w4,by rw [dn0]; simp,by omega,hf4.mono (by omega),by simp [upd,e1],by simp [upd,e4],by simp [upd,e26],by simp [upd,e27],by simp [upd,e28],by simp [upd],by simp [upd],by simp [upd],by simp [upd],by simp [hPO]⟩ ?_
    clear e1 e4 e26 e27 e28 e
    intro k e H c5 hk ⟨w5,hm5,hc5,hf5,e1,e4,e26,e27,e28,e6,e39,e40,e41,hH⟩ M hM
    subst hH
    have hq5 := congrArg List.length hm5; simp only [List.length_append] at hq5
    by_cases hk2 : k < 2
    · obtain ⟨ps,hps1,hps2,hps3,hps4⟩ : ∃ ps : SL TParam,([[f.Params.av 2 TParam.enc],[f.Uses.av 2 TParam.enc]] : List (List AV))[k]? = some [ps.av 2 TParam.enc] ∧ dn (k + 1) = dn k ++ eL eP ps.list ∧ ps.list.length ≤ 1048576 ∧ (dn k).length + (eL eP ps.list).length ≤ (eL eP f.Params.list).length + (eL eP f.Uses.list).length := by
        rcases (by omega : k = 0 ∨ k = 1) with rfl | rfl
        · exact ⟨f.Params,rfl,by rw [dn1,dn0]; rfl,by omega,by rw [dn0]; simp⟩
        · exact ⟨f.Uses,rfl,by rw [dn2,dn1],by omega,by rw [dn1]; omega⟩
      have l5 := eL_eq eP ps.list
      have hkk : (k : Int) < 2 := by omega
      subst hPO
      simp [e1,e4,e6,e39,e40,e41,hk2,hkk,getW_of hps1]
      generalize hPO : (⟨false,c4,1,[[f.Params.av 2 TParam.enc],[f.Uses.av 2 TParam.enc]]⟩ : AObj) = PO
      refine call_wr1 (wr_num (n := (ps.list.length : Int)) (by omega) (by omega) (by show _ + (uv ps.list.length).length ≤ _; omega) _) fun w6 c6 hm6 hc6 hf6 => ?_
      have hq6 := congrArg List.length hm6; rw [List.length_append,show eN (ps.list.length : Int) = uv ps.list.length from rfl] at hq6
      simp
      refine loop_drop ps.list.length (fun j e H c' => ∃ w : SL UInt8,w.list = w6.list ++ (ps.list.take j).flatMap eP ∧ c ≤ c' ∧ From c (w.av 1 byteRow) ∧ e 1 = .ptr 0 c 2 0 0 ∧ e 4 = .ptr 1 c1 1 0 0 ∧ e 26 = p.Funcs.av 6 TFunc.enc ∧ e 27 = .int .i64 p.Funcs.list.length ∧ e 28 = .int .i64 i ∧ e 6 = .ptr 2 c3 6 0 0 ∧ e 39 = .ref 3 c4 1 2 ∧ e 40 = .int .i64 2 ∧ e 41 = .int .i64 k ∧ e 48 = ps.av 2 TParam.enc ∧ e 49 = .int .i64 ps.list.length ∧ e 50 = .int .i64 j ∧ H = [⟨false,c,2,[p.enc]⟩,⟨false,c1,1,[[w.av 1 byteRow]]⟩,⟨false,c3,6,[f.enc]⟩,PO]) ⟨w6,by simp,by omega,hf6.mono (by omega),by simp [upd,e1],by simp [upd,e4],by simp [upd,e26],by simp [upd,e27],by simp [upd,e28],by simp [upd,e6],by simp [upd,e39],by simp [upd,e40],by simp [upd,e41],by simp [upd],by simp [upd],by simp [upd],rfl⟩ ?_
      clear e1 e4 e26 e27 e28 e6 e39 e40 e41 e
      intro j e H c7 hj ⟨w7,hm7,hc7,hf7,e1,e4,e26,e27,e28,e6,e39,e40,e41,e48,e49,e50,hH⟩ L hL
      subst hH
      have hq7 := congrArg List.length hm7; simp only [List.length_append] at hq7
      by_cases hj2 : j < ps.list.length
      · obtain ⟨x,hy⟩ : ∃ x,ps.list[j]? = some x := ⟨_,List.getElem?_eq_getElem hj2⟩
        have hst2 := step_le eP hy
        have hep : (eP x).length = (eT x.Name).length + (eB x.Ref).length := by simp [eP]
        have hge := eT_ge x.Name
        simp [e1,e4,e48,e49,e50,hj2,getW_of hy]
        refine call_wr1 (wr_text (x := x.Name) (by omega) (by omega) _) fun w8 c8 hm8 hc8 hf8 => ?_
        have hq8 := congrArg List.length hm8; simp only [List.length_append] at hq8
        simp [e4]
        refine call_wr1 (wr_flag (b := x.Ref) (by omega) _) fun w9 c9 hm9 hc9 hf9 => ?_
        simp [e50]
        exact hL _ _ [⟨false,c,2,[p.enc]⟩,⟨false,c1,1,[[w9.av 1 byteRow]]⟩,⟨false,c3,6,[f.enc]⟩,PO] _ hj2 (by simp) ⟨w9,by rw [hm9,hm8,hm7,flat_step eP hy]; simp [eP],by omega,hf9.mono (by omega),by simp [upd,e1],by simp [upd,e4],by simp [upd,e26],by simp [upd,e27],by simp [upd,e28],by simp [upd,e6],by simp [upd,e39],by simp [upd,e40],by simp [upd,e41],by simp [upd,e48],by simp [upd,e49],by simp [upd]; exact step64 (by unfold mx; omega) hj2,rfl⟩
      · have hje : j = ps.list.length := by omega
        subst hje
        rw [List.take_length] at hm7 hq7
        simp [e1,e4,e41,e48,e49,e50]
        exact hM _ _ _ _ hk2 (List.Sublist.refl _) ⟨w7,by rw [hm7,hm6,hm5,hps2]; simp [eL]; rfl,by omega,hf7,by simp [upd,e1],by simp [upd,e4],by simp [upd,e26],by simp [upd,e27],by simp [upd,e28],by simp [upd,e6],by simp [upd,e39],by simp [upd,e40],by simp [upd]; exact step64 (by unfold mx; omega) hk2,by rw [hPO]⟩
    have hke : k = 2 := by omega
    subst hke
    rw [dn2] at hm5 hq5
    rw [List.length_append] at hq5
    simp [e1,e4,e6,e39,e40,e41]
    refine call_wr1 (wr_num (n := (f.Slots.list.length : Int)) (by omega) (by omega) (by show _ + (uv f.Slots.list.length).length ≤ _; omega) _) fun w6 c6 hm6 hc6 hf6 => ?_
    have hq6 := congrArg List.length hm6; rw [List.length_append,show eN (f.Slots.list.length : Int) = uv f.Slots.list.length from rfl] at hq6
    simp [e6]
    refine loop_drop f.Slots.list.length (fun j e H c' => ∃ w : SL UInt8,w.list = w6.list ++ (f.Slots.list.take j).flatMap eT ∧ c ≤ c' ∧ From c (w.av 1 byteRow) ∧ e 1 = .ptr 0 c 2 0 0 ∧ e 4 = .ptr 1 c1 1 0 0 ∧ e 26 = p.Funcs.av 6 TFunc.enc ∧ e 27 = .int .i64 p.Funcs.list.length ∧ e 28 = .int .i64 i ∧ e 6 = .ptr 2 c3 6 0 0 ∧ e 67 = f.Slots.av 1 encS ∧ e 68 = .int .i64 f.Slots.list.length ∧ e 69 = .int .i64 j ∧ H = [⟨false,c,2,[p.enc]⟩,⟨false,c1,1,[[w.av 1 byteRow]]⟩,⟨false,c3,6,[f.enc]⟩,PO]) ⟨w6,by simp,by omega,hf6.mono (by omega),by simp [upd,e1],by simp [upd,e4],by simp [upd,e26],by simp [upd,e27],by simp [upd,e28],by simp [upd,e6],by simp [upd],by simp [upd],by simp [upd],rfl⟩ ?_
    clear e1 e4 e26 e27 e28 e6 e39 e40 e41 e
    intro j e H c7 hj ⟨w7,hm7,hc7,hf7,e1,e4,e26,e27,e28,e6,e67,e68,e69,hH⟩ L hL
    subst hH
    have hq7 := congrArg List.length hm7; simp only [List.length_append] at hq7
    by_cases hj2 : j < f.Slots.list.length
    · obtain ⟨x,hy⟩ : ∃ x,f.Slots.list[j]? = some x := ⟨_,List.getElem?_eq_getElem hj2⟩
      have hst2 := step_le eT hy
      have hge := eT_ge x
      simp [e1,e4,e67,e68,e69,hj2,getW_of hy]
      refine call_wr1 (wr_text (x := x) (by omega) (by omega) _) fun w8 c8 hm8 hc8 hf8 => ?_
      simp [e69]
      exact hL _ _ _ _ hj2 (List.Sublist.refl _) ⟨w8,by rw [hm8,hm7,flat_step eT hy,List.append_assoc],by omega,hf8.mono (by omega),by simp [upd,e1],by simp [upd,e4],by simp [upd,e26],by simp [upd,e27],by simp [upd,e28],by simp [upd,e6],by simp [upd,e67],by simp [upd,e68],by simp [upd]; exact step64 (by unfold mx; omega) hj2,rfl⟩
    have hje : j = f.Slots.list.length := by omega
    subst hje
    rw [List.take_length] at hm7 hq7
    simp [e1,e4,e6,e67,e68,e69]
    refine call_wr1 (wr_flag (b := f.Gen) (by omega) _) fun w8 c8 hm8 hc8 hf8 => ?_
    have hq8 := congrArg List.length hm8; simp only [List.length_append] at hq8
    simp [e4,e6]
    refine call_wr1 (wr_num (n := (f.Code.list.length : Int)) (by omega) (by omega) (by show _ + (uv f.Code.list.length).length ≤ _; omega) _) fun w9 c9 hm9 hc9 hf9 => ?_
    have hq9 := congrArg List.length hm9; rw [List.length_append,show eN (f.Code.list.length : Int) = uv f.Code.list.length from rfl] at hq9
    simp [e6]
    refine loop_drop f.Code.list.length (fun j e H c' => ∃ w : SL UInt8,w.list = w9.list ++ (f.Code.list.take j).flatMap eIns ∧ c ≤ c' ∧ From c (w.av 1 byteRow) ∧ e 1 = .ptr 0 c 2 0 0 ∧ e 4 = .ptr 1 c1 1 0 0 ∧ e 26 = p.Funcs.av 6 TFunc.enc ∧ e 27 = .int .i64 p.Funcs.list.length ∧ e 28 = .int .i64 i ∧ e 84 = f.Code.av 5 TIns.enc ∧ e 85 = .int .i64 f.Code.list.length ∧ e 86 = .int .i64 j ∧ H = [⟨false,c,2,[p.enc]⟩,⟨false,c1,1,[[w.av 1 byteRow]]⟩,⟨false,c3,6,[f.enc]⟩,PO]) ⟨w9,by simp,by omega,hf9.mono (by omega),by simp [upd,e1],by simp [upd,e4],by simp [upd,e26],by simp [upd,e27],by simp [upd,e28],by simp [upd],by simp [upd],by simp [upd],rfl⟩ ?_
    clear e1 e4 e26 e27 e28 e6 e67 e68 e69 e
    intro j e H c10 hj ⟨w10,hm10,hc10,hf10,e1,e4,e26,e27,e28,e84,e85,e86,hH⟩ L hL
    subst hH
    have hq10 := congrArg List.length hm10; simp only [List.length_append] at hq10
    by_cases hj2 : j < f.Code.list.length
    · obtain ⟨x,hy⟩ : ∃ x,f.Code.list[j]? = some x := ⟨_,List.getElem?_eq_getElem hj2⟩
      have hst2 := step_le eIns hy
      obtain ⟨o0,o1,a0,a1,b0,b1⟩ := hInsN x (List.mem_of_getElem? hy)
      have hlx : (eIns x).length = (eN x.Op).length + ((eN x.A).length + ((eN x.B).length + ((eT x.S).length + (eT x.T).length))) := by simp [eIns]
      have g1 := eT_ge x.S
      have g2 := eT_ge x.T
      have hxz : x.sz ≤ 1048576 := szm (sz := TIns.sz) (List.mem_of_getElem? hy) (by omega)
      have hxz2 : x.sz = x.S.length + x.T.length := rfl
      simp [e1,e4,e84,e85,e86,hj2,getW_of hy]
      refine call_wr1 (wr_num (n := x.Op) o0 (by omega) (by omega) _) fun v1 d1 hv1 hd1 hg1 => ?_
      have hp1 := congrArg List.length hv1; simp only [List.length_append] at hp1
      simp [e4]
      refine call_wr1 (wr_num (n := x.A) a0 (by omega) (by omega) _) fun v2 d2 hv2 hd2 hg2 => ?_
      have hp2 := congrArg List.length hv2; simp only [List.length_append] at hp2
      simp [e4]
      refine call_wr1 (wr_num (n := x.B) b0 (by omega) (by omega) _) fun v3 d3 hv3 hd3 hg3 => ?_
      have hp3 := congrArg List.length hv3; simp only [List.length_append] at hp3
      simp [e4]
      refine call_wr1 (wr_text (x := x.S) (by omega) (by omega) _) fun v4 d4 hv4 hd4 hg4 => ?_
      have hp4 := congrArg List.length hv4; simp only [List.length_append] at hp4
      simp [e4]
      refine call_wr1 (wr_text (x := x.T) (by omega) (by omega) _) fun v5 d5 hv5 hd5 hg5 => ?_
      simp [e86]
      exact hL _ _ [⟨false,c,2,[p.enc]⟩,⟨false,c1,1,[[v5.av 1 byteRow]]⟩,⟨false,c3,6,[f.enc]⟩,PO] _ hj2 (by simp) ⟨v5,by rw [hv5,hv4,hv3,hv2,hv1,hm10,flat_step eIns hy]; simp [eIns],by omega,hg5.mono (by omega),by simp [upd,e1],by simp [upd,e4],by simp [upd,e26],by simp [upd,e27],by simp [upd,e28],by simp [upd,e84],by simp [upd,e85],by simp [upd]; exact step64 (by unfold mx; omega) hj2,rfl⟩
    have hje : j = f.Code.list.length := by omega
    subst hje
    rw [List.take_length] at hm10 hq10
    simp [e1,e4,e28,e84,e85,e86]
    exact hN2 _ _ [⟨false,c,2,[p.enc]⟩,⟨false,c1,1,[[w10.av 1 byteRow]]⟩] _ h (by simp) ⟨w10,by rw [hm10,hm9,hm8,hm7,hm6,hm5,hm4,hm3,flat_step eFunc hx]; simp [eFunc,eL]; rfl,by omega,hf10,by simp [upd,e1],by simp [upd,e4],by simp [upd,e26],by simp [upd,e27],by simp [upd]; exact step64 (by unfold mx; omega) h,rfl⟩
  have hie : i = p.Funcs.list.length := by omega
  subst hie
  rw [List.take_length] at hm3 hq3
  simp [e1,e4,e26,e27,e28]
  refine call_wr1 (wr_num (n := (p.Classes.list.length : Int)) (by omega) (by omega) (by show _ + (uv p.Classes.list.length).length ≤ _; omega) _) fun w4 c4 hm4 hc4 hf4 => ?_
  have hq4 := congrArg List.length hm4; rw [List.length_append,show eN (p.Classes.list.length : Int) = uv p.Classes.list.length from rfl] at hq4
  simp [e1]
  refine loop_drop p.Classes.list.length (fun i e H c' => ∃ w : SL UInt8,w.list = w4.list ++ (p.Classes.list.take i).flatMap eClass ∧ c ≤ c' ∧ From c (w.av 1 byteRow) ∧ e 4 = .ptr 1 c1 1 0 0 ∧ e 112 = p.Classes.av 4 TClass.enc ∧ e 113 = .int .i64 p.Classes.list.length ∧ e 114 = .int .i64 i ∧ H = [⟨false,c,2,[p.enc]⟩,⟨false,c1,1,[[w.av 1 byteRow]]⟩]) ⟨w4,by simp,by omega,hf4.mono (by omega),by simp [upd,e4],by simp [upd],by simp [upd],by simp [upd],rfl⟩ ?_
  clear e1 e4 e26 e27 e28 e
  intro i e H c5 hi ⟨w5,hm5,hc5,hf5,e4,e112,e113,e114,hH⟩ N hN2
  subst hH
  have hq5 := congrArg List.length hm5; simp only [List.length_append] at hq5
  by_cases h : i < p.Classes.list.length
  · obtain ⟨x,hx⟩ : ∃ f,p.Classes.list[i]? = some f := ⟨_,List.getElem?_eq_getElem h⟩
    have hxm := List.mem_of_getElem? hx
    have hst := step_le eClass hx
    simp [e4,e112,e113,e114,h,getW_of hx]
    refine call_wr1 (wr_class (f := x) (hok.cok x hxm).fs (by omega) (csz hz hxm) _) fun w6 c6 hm6 hc6 hf6 => ?_
    simp [e114]
    exact hN2 _ _ [⟨false,c,2,[p.enc]⟩,⟨false,c1,1,[[w6.av 1 byteRow]]⟩] _ h (by simp) ⟨w6,by rw [hm6,hm5,flat_step eClass hx,List.append_assoc],by omega,hf6.mono (by omega),by simp [upd,e4],by simp [upd,e112],by simp [upd,e113],by simp [upd]; exact step64 (by unfold mx; omega) h,rfl⟩
  have hie : i = p.Classes.list.length := by omega
  subst hie
  rw [List.take_length] at hm5 hq5
  simp [e4,e112,e113,e114]
  refine fin_plain ⟨rfl,⟨w5,by rw [pdec_true hok],fun _ => ?_,fun h => absurd hok h⟩,from_tup fun a ha => ?_⟩
  · rw [hm5,hm4,hm3,hm1]; simp [eProg,eL]; rfl
  · simp at ha
    rcases ha with rfl | rfl
    · exact hf5
    · simp
set_option maxRecDepth 100000
@[simp] theorem bRow0 (b : UInt8) (K : AV → Prop) : getW (byteRow b) 0 K = K (.int .u8 b.toNat) := by simp [byteRow]
def wd (b : List UInt8) (i : Nat) : Nat → Nat
  | 0 => 0
  | k + 1 => wd b i k * 256 + (b.getD (i + k) 0).toNat
theorem wd_lt (b : List UInt8) (i : Nat) : ∀ k,wd b i k < 256 ^ k
  | 0 => by simp [wd]
  | k + 1 => by
    have ih := wd_lt b i k
    have h := (b.getD (i + k) 0).toNat_lt
    rw [wd,Nat.pow_succ]
    omega
def pk (b : List UInt8) (j : Nat) : List Int := (b.length : Int) :: (List.range j).map fun j => (wd b (6 * j) 6 : Int)
def pack (b : List UInt8) : List Int := pk b ((b.length + 5) / 6)
theorem pk_len (b : List UInt8) (j : Nat) : (pk b j).length = j + 1 := by simp [pk]
theorem pk_step (b : List UInt8) (j : Nat) : pk b (j + 1) = pk b j ++ [(wd b (6 * j) 6 : Int)] := by simp [pk,List.range_succ]
theorem getD_in {b : List UInt8} {m : Nat} {x : UInt8} (h : b[m]? = some x) : b.getD m 0 = x := by simp [h]
theorem getD_out {b : List UInt8} {m : Nat} (h : b.length ≤ m) : b.getD m 0 = 0 := by simp [List.getElem?_eq_none h]
def PackQ (b : List UInt8) (r : AV) : Prop := ∃ w : SL Int,r = .tup [w.av 1 encI,.bool (decide (b.length ≤ 24000))] ∧ (b.length ≤ 24000 → w.list = pack b)
theorem encI_cell (n : Int) : ∀ a,a ∈ encI n → a.cell = true := by simp [encI]
theorem fin_ints {b : List UInt8} {t c c' n : Nat} {m : List Int} {H : List AObj} (hc : c ≤ t) (hn : n = m.length) (hH : H.head? = some ⟨false,t,1,m.map encI⟩) (hq : b.length ≤ 24000 → m = pack b) : finW (fun r H' _ => H' = [] ∧ PackQ b r ∧ From c r) (.tup [.ref 0 t 1 n,.bool (decide (b.length ≤ 24000))]) H c' := by
  cases H with
  | nil => simp at hH
  | cons a l =>
    simp at hH
    subst hH
    refine ⟨[⟨false,t,1,m.map encI⟩],[],[],.tup [(SL.mk t m).av 1 encI,.bool (decide (b.length ≤ 24000))],by simp,.refl _ _,by simp,by simp [tags],?_,rfl,⟨SL.mk t m,rfl,hq⟩,from_tup fun a ha => ?_⟩
    · exact view_tup (.cons (view_ref (by simp) hn.symm fun x _ => encI_cell x) (.cons (.refl _) .nil))
    · simp at ha
      rcases ha with rfl | rfl
      · refine from_slc hc fun row hr a ha => ?_
        simp only [List.mem_map] at hr
        obtain ⟨x,_,rfl⟩ := hr
        simp [encI] at ha
        subst ha
        simp
      · simp
set_option maxHeartbeats 1000000 in
theorem impl_pack {s : SL UInt8} (hl : s.list.length ≤ 1099511627776) : Tr Tryz.prog 30 [s.av 1 byteRow] fun _ r => PackQ s.list r := by
  intro c
  refine con_of c30 (by simp [F30]) ?_
  unfold F30
  by_cases h1 : s.list.length ≤ 24000
  rotate_left
  · have h1' : (24000 : Int) < s.list.length := by omega
    simp [h1']
    exact fin_plain ⟨rfl,⟨.nil,by simp [h1,SL.av],fun h => absurd h h1⟩,from_tup fun a ha => by
      simp at ha
      rcases ha with rfl | rfl <;> simp⟩
  have h1' : ¬ (24000 : Int) < s.list.length := by omega
  generalize hb : s.list = b at *
  simp [h1',hb]
  refine loop_drop ((b.length + 5) / 6) (fun j e H c' => ∃ t J : Nat,c ≤ c' ∧ c ≤ t ∧ J = 6 * j ∧ e 0 = s.av 1 byteRow ∧ e 4 = .ref 0 t 1 (j + 1) ∧ e 5 = .int .i64 (J : Int) ∧ H = [⟨false,t,1,(pk b j).map encI⟩]) ⟨c,0,by omega,by omega,by omega,by simp [upd],by simp [upd],by simp [upd],by simp [pk,encI]⟩ ?_
  intro j e H c' hj ⟨t,J,hc',ht,hJ,e0,e4,e5,hH⟩ N hN
  subst hH
  have hpl := pk_len b j
  by_cases h : j < (b.length + 5) / 6
  · have h6 : J < b.length := by omega
    have h6' : (J : Int) < (b.length : Int) := by omega
    have hps : pk b (j + 1) = pk b j ++ [(wd b J 6 : Int)] := by rw [pk_step,hJ]
    simp [e0,e4,e5,hb,h6]
    refine loop_drop 6 (fun k e H c' => e 0 = s.av 1 byteRow ∧ e 4 = .ref 0 t 1 (j + 1) ∧ e 5 = .int .i64 (J : Int) ∧ c ≤ c' ∧ e 6 = .int .i64 (wd b J k : Int) ∧ e 7 = .int .i64 ((J + k : Nat) : Int) ∧ H = [⟨false,t,1,(pk b j).map encI⟩]) ⟨by simp [upd,e0],by simp [upd,e4],by simp [upd,e5],by omega,by simp [upd,wd],by simp [upd],rfl⟩ ?_
    clear e0 e4 e5 e
    intro k e H c2 hk ⟨e0,e4,e5,hc2,e6,e7,hH⟩ M hM
    subst hH
    have hwl := wd_lt b J k
    have hw1 : IntKind.i64.wrap ((J : Int) + 6) = ((J + 6 : Nat) : Int) := by rw [wrap64 (by omega) (by omega)]; omega
    by_cases hk6 : k < 6
    · have hp : 256 ^ k ≤ 256 ^ 5 := Nat.pow_le_pow_right (by omega) (by omega)
      have hlt : ((J + k : Nat) : Int) < ((J + 6 : Nat) : Int) := by omega
      have hw2 : IntKind.i64.wrap ((wd b J k : Int) * 256) = ((wd b J k * 256 : Nat) : Int) := by rw [wrap64 (by omega) (by omega)]; omega
      have hst : IntKind.i64.wrap (((J + k : Nat) : Int) + 1) = ((J + (k + 1) : Nat) : Int) := by rw [wrap64 (by omega) (by omega)]; omega
      have hwd : wd b J (k + 1) = wd b J k * 256 + (b.getD (J + k) 0).toNat := rfl
      generalize hm : J + k = m at *
      by_cases hin : m < b.length
      · obtain ⟨x,hx⟩ : ∃ x,b[m]? = some x := ⟨_,List.getElem?_eq_getElem hin⟩
        have hxs : s.list[m]? = some x := by rw [hb]; exact hx
        have hin' : (m : Int) < (b.length : Int) := by omega
        have hxl := x.toNat_lt
        rw [getD_in hx] at hwd
        have hw3 : IntKind.i64.wrap (((wd b J k * 256 : Nat) : Int) + (x.toNat : Int)) = ((wd b J (k + 1) : Nat) : Int) := by rw [wrap64 (by omega) (by omega)]; omega
        simp [e0,e4,e5,e6,e7,hb,hlt,hw1,hw2,hw3,hst,hin,hin',getW_of hx,wrap_b,-Int.natCast_mul,-Int.natCast_add]
        exact hM _ _ _ _ hk6 (List.Sublist.refl _) ⟨by simp [upd,e0],by simp [upd,e4],by simp [upd,e5],hc2,by simp [upd],by simp [upd,-Int.natCast_mul,-Int.natCast_add],rfl⟩
      · have hin' : ¬ (m : Int) < (b.length : Int) := by omega
        rw [getD_out (by omega)] at hwd
        have hwd2 : wd b J (k + 1) = wd b J k * 256 := hwd
        simp [e0,e4,e5,e6,e7,hb,hlt,hw1,hw2,hst,hin,hin',-Int.natCast_mul,-Int.natCast_add]
        exact hM _ _ _ _ hk6 (List.Sublist.refl _) ⟨by simp [upd,e0],by simp [upd,e4],by simp [upd,e5],hc2,by simp [upd,hwd2,-Int.natCast_mul],by simp [upd,-Int.natCast_mul,-Int.natCast_add],rfl⟩
    · have hke : k = 6 := by omega
      subst hke
      have hg1 : (j + 1 + 1) * 8 ≤ 140737488355328 := by omega
      have hg2 : j + 1 + 1 ≤ mx := by unfold mx; omega
      simp [e0,e4,e5,e6,e7,hw1,hpl,hg1,hg2,-Int.natCast_mul,-Int.natCast_add]
      exact hN _ _ [⟨false,c2 + 1,1,(pk b (j + 1)).map encI⟩] _ h (by simp [hps,encI]) ⟨c2 + 1,J + 6,by omega,by omega,by omega,by simp [upd,e0],by simp [upd],by simp [upd,-Int.natCast_add],rfl⟩
  · have hje : j = (b.length + 5) / 6 := by omega
    subst hje
    have h6 : ¬ J < b.length := by omega
    have h6' : ¬ (J : Int) < (b.length : Int) := by omega
    simp [e0,e4,e5,hb,h6]
    have := fin_ints (b := b) (c := c) (c' := c') (m := pk b ((b.length + 5) / 6)) (H := [⟨false,t,1,(pk b ((b.length + 5) / 6)).map encI⟩]) ht hpl.symm rfl fun _ => rfl
    simpa [h1] using this
set_option maxHeartbeats 1000000 in
theorem spec_pack {s : SL UInt8} (hl : s.list.length ≤ 1099511627776) : Tr Tryz.prog 23 [s.av 1 byteRow] fun _ r => PackQ s.list r := by
  intro c
  refine con_of c23 (by simp [F23]) ?_
  unfold F23
  by_cases h1 : s.list.length ≤ 24000
  rotate_left
  · have h1' : (24000 : Int) < s.list.length := by omega
    simp [h1']
    have := fin_ints (b := s.list) (c := c) (c' := c + 1) (t := c) (m := []) (H := [⟨false,c,1,[]⟩]) (by omega) rfl rfl fun h => absurd h h1
    simpa [h1] using this
  have h1' : ¬ (24000 : Int) < s.list.length := by omega
  generalize hb : s.list = b at *
  simp [h1',hb]
  refine ⟨by unfold mx; omega,?_⟩
  generalize hob : (⟨false,c + 1,1,[[.int .i64 (b.length : Int)]]⟩ : AObj) = ob
  refine loop_drop ((b.length + 5) / 6) (fun j e H c' => ∃ (t J : Nat) (C : List AObj),c ≤ c' ∧ c ≤ t ∧ J = 6 * j ∧ e 0 = s.av 1 byteRow ∧ e 4 = .ref 0 t 1 (j + 1) ∧ e 5 = .int .i64 (J : Int) ∧ H = ⟨false,t,1,(pk b j).map encI⟩ :: C) ⟨c + 1 + 1,0,[ob],by omega,by omega,by omega,by simp [upd],by simp [upd],by simp [upd],by simp [pk,encI]⟩ ?_
  intro j e H c' hj ⟨t,J,C,hc',ht,hJ,e0,e4,e5,hH⟩ N hN
  subst hH
  have hpl := pk_len b j
  by_cases h : j < (b.length + 5) / 6
  · have h6 : J < b.length := by omega
    have h6' : (J : Int) < (b.length : Int) := by omega
    have hps : pk b (j + 1) = pk b j ++ [(wd b J 6 : Int)] := by rw [pk_step,hJ]
    simp [e0,e4,e5,hb,h6]
    refine loop_drop 6 (fun k e H c' => e 0 = s.av 1 byteRow ∧ e 4 = .ref 0 t 1 (j + 1) ∧ e 5 = .int .i64 (J : Int) ∧ c ≤ c' ∧ e 6 = .int .i64 (wd b J k : Int) ∧ e 7 = .int .i64 (k : Int) ∧ H = ⟨false,t,1,(pk b j).map encI⟩ :: C) ⟨by simp [upd,e0],by simp [upd,e4],by simp [upd,e5],by omega,by simp [upd,wd],by simp [upd],rfl⟩ ?_
    clear e0 e4 e5 e
    intro k e H c2 hk ⟨e0,e4,e5,hc2,e6,e7,hH⟩ M hM
    subst hH
    have hwl := wd_lt b J k
    have hw1 : IntKind.i64.wrap ((J : Int) + 6) = ((J + 6 : Nat) : Int) := by rw [wrap64 (by omega) (by omega)]; omega
    have hw0 : IntKind.i64.wrap ((J : Int) + (k : Int)) = ((J + k : Nat) : Int) := by rw [wrap64 (by omega) (by omega)]; omega
    have hst : IntKind.i64.wrap ((k : Int) + 1) = ((k + 1 : Nat) : Int) := by rw [wrap64 (by omega) (by omega)]; omega
    have hk6i : (k : Int) < 6 ↔ k < 6 := by omega
    by_cases hk6 : k < 6
    · have hp : 256 ^ k ≤ 256 ^ 5 := Nat.pow_le_pow_right (by omega) (by omega)
      have hlt : (k : Int) < 6 := by omega
      have hw2 : IntKind.i64.wrap ((wd b J k : Int) * 256) = ((wd b J k * 256 : Nat) : Int) := by rw [wrap64 (by omega) (by omega)]; omega
      have hwd : wd b J (k + 1) = wd b J k * 256 + (b.getD (J + k) 0).toNat := rfl
      generalize hm : J + k = m at hwd hw0
      by_cases hin : m < b.length
      · obtain ⟨x,hx⟩ : ∃ x,b[m]? = some x := ⟨_,List.getElem?_eq_getElem hin⟩
        have hxs : s.list[m]? = some x := by rw [hb]; exact hx
        have hin' : (m : Int) < (b.length : Int) := by omega
        have hxl := x.toNat_lt
        rw [getD_in hx] at hwd
        have hw3 : IntKind.i64.wrap (((wd b J k * 256 : Nat) : Int) + (x.toNat : Int)) = ((wd b J (k + 1) : Nat) : Int) := by rw [wrap64 (by omega) (by omega)]; omega
        simp [e0,e4,e5,e6,e7,hb,hlt,hw0,hw1,hw2,hw3,hst,hin,hin',getW_of hx,wrap_b,-Int.natCast_mul,-Int.natCast_add]
        exact hM _ _ _ _ hk6 (List.Sublist.refl _) ⟨by simp [upd,e0],by simp [upd,e4],by simp [upd,e5],hc2,by simp [upd],by simp [upd,-Int.natCast_mul,-Int.natCast_add],rfl⟩
      · have hin' : ¬ (m : Int) < (b.length : Int) := by omega
        rw [getD_out (by omega)] at hwd
        have hwd2 : wd b J (k + 1) = wd b J k * 256 := hwd
        simp [e0,e4,e5,e6,e7,hb,hlt,hw0,hw1,hw2,hst,hin,hin',-Int.natCast_mul,-Int.natCast_add]
        exact hM _ _ _ _ hk6 (List.Sublist.refl _) ⟨by simp [upd,e0],by simp [upd,e4],by simp [upd,e5],hc2,by simp [upd,hwd2,-Int.natCast_mul],by simp [upd,-Int.natCast_mul,-Int.natCast_add],rfl⟩
    · have hke : k = 6 := by omega
      subst hke
      have hg1 : (j + 1 + 1) * 8 ≤ 140737488355328 := by omega
      have hg2 : j + 1 + 1 ≤ mx := by unfold mx; omega
      simp [e0,e4,e5,e6,e7,hw1,hpl,hg1,hg2,-Int.natCast_mul,-Int.natCast_add]
      exact hN _ _ [⟨false,c2 + 1,1,(pk b (j + 1)).map encI⟩] _ h (by simp [hps,encI]) ⟨c2 + 1,J + 6,[],by omega,by omega,by omega,by simp [upd,e0],by simp [upd],by simp [upd,-Int.natCast_add],rfl⟩
  · have hje : j = (b.length + 5) / 6 := by omega
    subst hje
    have h6 : ¬ J < b.length := by omega
    have h6' : ¬ (J : Int) < (b.length : Int) := by omega
    simp [e0,e4,e5,hb,h6]
    have := fin_ints (b := b) (c := c) (c' := c') (m := pk b ((b.length + 5) / 6)) (H := ⟨false,t,1,(pk b ((b.length + 5) / 6)).map encI⟩ :: C) ht hpl.symm rfl fun _ => rfl
    simpa [h1] using this
set_option maxRecDepth 100000
theorem TValue.wt_con : ∀ v : TValue,v.con.wt = v.wt := TValue.ind fun k n s x I ih => by
  rw [TValue.con_mk,TValue.wt_mk,TValue.wt_mk,SL.list_mk,szL_congr fun e he => ?_]
  show e.2.con.wt = e.2.wt
  exact ih e he
theorem Gd_con {k n : Int} {s : List UInt8} {x : Int} {I : SL (TKey × TValue)} (ih : ∀ e,e ∈ I.list → (e.2.con.gd ↔ e.2.gd)) : Gd (TValue.mk k n s x I).con ↔ Gd (TValue.mk k n s x I) := by
  rw [TValue.con_mk]
  have e1 : (I.list.map conE).map Prod.fst = I.list.map Prod.fst := by rw [List.map_map]; rfl
  constructor
  · intro h
    exact ⟨h.k0,h.k8,h.k5,h.s3,fun k => ⟨(h.x4 k).1,by have h2 : I.list.map conE = [] := (h.x4 k).2; exact List.map_eq_nil_iff.1 h2⟩,h.n0,h.n1,h.n2,h.n3,h.n6,h.a0,h.a1,fun k => by have h2 : ((I.list.map conE).map Prod.fst).Nodup := h.a2 k; rw [e1] at h2; exact h2,fun k e he => h.a3 k (conE e) (List.mem_map_of_mem he),fun k e he => (ih e he).1 (h.a4 k (conE e) (List.mem_map_of_mem he))⟩
  · intro h
    exact ⟨h.k0,h.k8,h.k5,h.s3,fun k => ⟨(h.x4 k).1,by have h2 : I.list = [] := (h.x4 k).2; show I.list.map conE = []; rw [h2]; rfl⟩,h.n0,h.n1,h.n2,h.n3,h.n6,h.a0,h.a1,fun k => by show ((I.list.map conE).map Prod.fst).Nodup; rw [e1]; exact h.a2 k,fun k e he => by
      obtain ⟨d,hd,rfl⟩ := List.mem_map.1 (show e ∈ I.list.map conE from he)
      exact h.a3 k d hd,fun k e he => by
      obtain ⟨d,hd,rfl⟩ := List.mem_map.1 (show e ∈ I.list.map conE from he)
      exact (ih d hd).2 (h.a4 k d hd)⟩
theorem gd_con : ∀ v : TValue,v.con.gd ↔ v.gd := TValue.ind fun k n s x I ih => by
  rw [gd_iff,gd_iff]
  exact Gd_con ih
theorem isVal_con (v : TValue) : isVal v.con = isVal v := by
  unfold isVal
  rw [TValue.wt_con]
  have : pdec v.con.gd = pdec v.gd := by
    by_cases h : v.gd
    · rw [pdec_true h,pdec_true ((gd_con v).2 h)]
    · rw [pdec_false h,pdec_false fun h2 => h ((gd_con v).1 h2)]
  rw [this]
theorem con_kind (v : TValue) : v.con.Kind = v.Kind ∧ v.con.Num = v.Num ∧ v.con.Str = v.Str := by
  cases v; rw [TValue.con_mk]; exact ⟨rfl,rfl,rfl⟩
theorem ser_con (v : TValue) : ser v.con = ser v := by
  obtain ⟨h1,h2,h3⟩ := con_kind v
  unfold ser
  rw [h1,h2,h3]
theorem fieldOk_con (f : TField) : FieldOk f.con ↔ FieldOk f := by
  have e : f.con.Init = f.Init.con := rfl
  have e2 : f.con.Name = f.Name := rfl
  constructor
  · intro h; exact ⟨h.gd,by have := h.vl; rw [e,isVal_con] at this; exact this,by have := h.kd; rw [e,(con_kind _).1] at this; exact this⟩
  · intro h; exact ⟨h.gd,by rw [e,isVal_con]; exact h.vl,by rw [e,(con_kind _).1]; exact h.kd⟩
theorem eField_con (f : TField) : eField f.con = eField f := by
  unfold eField
  rw [show f.con.Init = f.Init.con from rfl,ser_con]; rfl
theorem map_same {α : Type} {f : α → α} (h : ∀ x,f x = x) (l : List α) : l.map f = l := by
  induction l with
  | nil => rfl
  | cons x l ih => rw [List.map_cons,h,ih]
theorem fcon_lists (f : TFunc) : f.con.Name = f.Name ∧ f.con.Params.list = f.Params.list ∧ f.con.Uses.list = f.Uses.list ∧ f.con.Slots.list = f.Slots.list ∧ f.con.Gen = f.Gen ∧ f.con.Code.list = f.Code.list :=
  ⟨rfl,map_same (fun _ => rfl) _,map_same (fun _ => rfl) _,rfl,rfl,map_same (fun _ => rfl) _⟩
theorem funcOk_of {f g : TFunc} (h1 : f.Name = g.Name) (h2 : f.Params.list = g.Params.list) (h3 : f.Uses.list = g.Uses.list) (h4 : f.Slots.list = g.Slots.list) (h5 : f.Gen = g.Gen) (h6 : f.Code.list = g.Code.list) (h : FuncOk f) : FuncOk g := by
  obtain ⟨a1,a2,a3,a4,a5,a6,a7,a8,a9,a10,a11⟩ := h
  rw [h1] at a1 a2 a10
  rw [h2,h3,h4] at a5
  rw [h4] at a3 a6 a7 a11
  rw [h2,h3,h4] at a8
  rw [h6] at a4 a9 a11
  rw [h5] at a9
  rw [h4,h5] at a10
  exact ⟨a1,a2,a3,a4,a5,a6,a7,a8,a9,a10,a11⟩
theorem funcOk_con (f : TFunc) : FuncOk f.con ↔ FuncOk f := by
  obtain ⟨h1,h2,h3,h4,h5,h6⟩ := fcon_lists f
  exact ⟨funcOk_of h1 h2 h3 h4 h5 h6,funcOk_of h1.symm h2.symm h3.symm h4.symm h5.symm h6.symm⟩
theorem eFunc_con (f : TFunc) : eFunc f.con = eFunc f := by
  obtain ⟨h1,h2,h3,h4,h5,h6⟩ := fcon_lists f
  unfold eFunc
  rw [h1,h2,h3,h4,h5,h6]
theorem eL_map {α : Type} {f : α → List UInt8} {g : α → α} (h : ∀ x,f (g x) = f x) (l : List α) : eL f (l.map g) = eL f l := by
  unfold eL
  rw [List.length_map]
  congr 1
  induction l with
  | nil => rfl
  | cons x l ih => simp only [List.map_cons,List.flatMap_cons,h,ih]
theorem ccon_lists (c : TClass) : c.con.Name = c.Name ∧ c.con.Parent = c.Parent ∧ c.con.Fields.list = c.Fields.list.map TField.con ∧ c.con.Methods.list = c.Methods.list := ⟨rfl,rfl,rfl,map_same (fun _ => rfl) _⟩
theorem eClass_con (c : TClass) : eClass c.con = eClass c := by
  obtain ⟨h1,h2,h3,h4⟩ := ccon_lists c
  unfold eClass
  rw [h1,h2,h3,h4,eL_map eField_con]
theorem eProg_con (p : TProgram) : eProg p.con = eProg p := by
  unfold eProg
  rw [show p.con.Funcs.list = p.Funcs.list.map TFunc.con from rfl,show p.con.Classes.list = p.Classes.list.map TClass.con from rfl,eL_map eFunc_con,eL_map eClass_con]
theorem metOk_con (p : TProgram) (m : TMethod) : MetOk p.con m ↔ MetOk p m := by
  constructor
  · rintro ⟨g,h1,h2,h3,h4⟩
    obtain ⟨f,hf,rfl⟩ := List.mem_map.1 (show g ∈ p.Funcs.list.map TFunc.con from h1)
    obtain ⟨e1,_,e3,_⟩ := fcon_lists f
    exact ⟨f,hf,h2,h3,by rw [e3] at h4; exact h4⟩
  · rintro ⟨f,h1,h2,h3,h4⟩
    obtain ⟨e1,_,e3,_⟩ := fcon_lists f
    exact ⟨f.con,List.mem_map_of_mem h1,h2,h3,by rw [e3]; exact h4⟩
theorem classOk_con (p : TProgram) (c : TClass) : ClassOk p.con c.con ↔ ClassOk p c := by
  obtain ⟨_,_,h3,h4⟩ := ccon_lists c
  have e : (c.Fields.list.map TField.con).map TField.Name = c.Fields.list.map TField.Name := by rw [List.map_map]; rfl
  constructor
  · intro h
    refine ⟨by have := h.nd; rw [h3,e] at this; exact this,fun f hf => (fieldOk_con f).1 (h.fs _ (by rw [h3]; exact List.mem_map_of_mem hf)),fun m hm => (metOk_con p m).1 (h.ms m (by rw [h4]; exact hm))⟩
  · intro h
    refine ⟨by rw [h3,e]; exact h.nd,fun f hf => ?_,fun m hm => (metOk_con p m).2 (h.ms m (by rw [h4] at hm; exact hm))⟩
    rw [h3] at hf
    obtain ⟨g,hg,rfl⟩ := List.mem_map.1 hf
    exact (fieldOk_con g).2 (h.fs g hg)
theorem progOk_con (p : TProgram) : ProgOk p.con ↔ ProgOk p := by
  have eF : p.con.Funcs.list = p.Funcs.list.map TFunc.con := rfl
  have eC : p.con.Classes.list = p.Classes.list.map TClass.con := rfl
  have e1 : (p.Funcs.list.map TFunc.con).map TFunc.Name = p.Funcs.list.map TFunc.Name := by rw [List.map_map]; rfl
  have e2 : (p.Classes.list.map TClass.con).map TClass.Name = p.Classes.list.map TClass.Name := by rw [List.map_map]; rfl
  constructor
  · intro h
    refine ⟨by have := h.fl; rw [eF,List.length_map] at this; exact this,?_,by have := h.fnd; rw [eF,e1] at this; exact this,fun f hf => (funcOk_con f).1 (h.fok _ (by rw [eF]; exact List.mem_map_of_mem hf)),by have := h.cnd; rw [eC,e2] at this; exact this,fun c hc => (classOk_con p c).1 (h.cok _ (by rw [eC]; exact List.mem_map_of_mem hc))⟩
    obtain ⟨c,f,h1,h2,h3,h4⟩ := h.c0
    rw [eC,List.getElem?_map] at h1
    obtain ⟨d,hd,rfl⟩ := Option.map_eq_some_iff.1 h1
    rw [(ccon_lists d).2.2.1,List.getElem?_map] at h3
    obtain ⟨g,hg,rfl⟩ := Option.map_eq_some_iff.1 h3
    exact ⟨d,g,hd,h2,hg,h4⟩
  · intro h
    refine ⟨by rw [eF,List.length_map]; exact h.fl,?_,by rw [eF,e1]; exact h.fnd,fun f hf => ?_,by rw [eC,e2]; exact h.cnd,fun c hc => ?_⟩
    · obtain ⟨c,f,h1,h2,h3,h4⟩ := h.c0
      exact ⟨c.con,f.con,by rw [eC,List.getElem?_map,h1]; rfl,h2,by rw [(ccon_lists c).2.2.1,List.getElem?_map,h3]; rfl,h4⟩
    · rw [eF] at hf
      obtain ⟨g,hg,rfl⟩ := List.mem_map.1 hf
      exact (funcOk_con g).2 (h.fok g hg)
    · rw [eC] at hc
      obtain ⟨d,hd,rfl⟩ := List.mem_map.1 hc
      exact (classOk_con p d).2 (h.cok d hd)
theorem prog_same {p q : TProgram} (h : p.con = q.con) : (ProgOk p ↔ ProgOk q) ∧ eProg p = eProg q :=
  ⟨(progOk_con p).symm.trans (h ▸ progOk_con q),by rw [← eProg_con p,h,eProg_con]⟩
set_option maxRecDepth 100000
def lineOk (a : TLine) : Bool :=
  inR a.Seq 0 1000000000000 && inR a.Owner 0 8 && inR a.Version 0 1000000000000 && decide (a.Words.list.length ≤ 4100) && (decide (a.Seq.tmod 2 = 1) == decide (0 < a.Owner))
def areLines (l : List TLine) : Bool := l.all lineOk && decide (l.length ≤ 8)
theorem spec_areLines {s : SL TLine} (hn : s.list.length ≤ mx) : Fnc Tryz.prog 53 [s.av 4 TLine.enc] (.bool (areLines s.list)) := by
  refine fn_of c53 (by simp [F53]) fun c => ?_
  unfold F53
  simp
  refine loop_drop s.list.length (fun i e H c' => e 0 = s.av 4 TLine.enc ∧ e 3 = .int .i64 i ∧ (s.list.take i).all lineOk = true ∧ H = []) ⟨rfl,rfl,by simp,rfl⟩ ?_
  intro i e H c hi ⟨e0,e3,hall,hH⟩ N hN
  subst hH
  simp [e0,e3]
  refine ⟨fun h => ⟨s.list[i],List.getElem?_eq_getElem h,?_⟩,fun h => ?_⟩
  · generalize hx : s.list[i] = x
    have bad : lineOk x = false → areLines s.list = false := fun hb => by
      unfold areLines
      have : s.list.all lineOk = false := by
        rw [List.all_eq_false]; exact ⟨x,hx ▸ List.getElem_mem h,by simp [hb]⟩
      simp [this]
    simp [e0,e3]
    refine call_fn0 (l1In_fn _ _ _) .bool fun _ _ => ?_
    cases h1 : inR x.Seq 0 1000000000000
    · simp [e0,e3]; exact fin_plain ⟨by rw [bad (by simp [lineOk,h1])],rfl⟩
    simp [e0,e3]
    refine call_fn0 (l1In_fn _ _ _) .bool fun _ _ => ?_
    cases h2 : inR x.Owner 0 8
    · simp [e0,e3]; exact fin_plain ⟨by rw [bad (by simp [lineOk,h2])],rfl⟩
    simp [e0,e3]
    refine call_fn0 (l1In_fn _ _ _) .bool fun _ _ => ?_
    cases h3 : inR x.Version 0 1000000000000
    · simp [e0,e3]; exact fin_plain ⟨by rw [bad (by simp [lineOk,h3])],rfl⟩
    simp [e0,e3]
    by_cases h4 : (4100 : Int) < x.Words.list.length
    · simp [e0,e3,h4]; exact fin_plain ⟨by rw [bad (by simp [lineOk]; intros; omega)],rfl⟩
    simp [e0,e3,h4]
    have h4' : x.Words.list.length ≤ 4100 := by omega
    by_cases h5 : x.Seq.tmod 2 = 1 <;> by_cases h6 : 0 < x.Owner <;> simp [e0,e3,h5,h6]
    all_goals first
      | exact fin_plain ⟨by rw [bad (by simp [lineOk,h5,h6])],rfl⟩
      | exact hN _ _ _ _ h (List.nil_sublist _) ⟨by simp [upd,e0],by simp [upd]; exact step64 hn h,all_step hall h (by rw [hx]; simp [lineOk,h1,h2,h3,h4',h5,h6]),rfl⟩
  · have : i = s.list.length := by omega
    subst this
    rw [List.take_length] at hall
    refine fin_plain ⟨?_,rfl⟩
    simp [areLines,hall]
    omega
theorem impl_areLines {s : SL TLine} (hn : s.list.length ≤ mx) : Fnc Tryz.prog 65 [s.av 4 TLine.enc] (.bool (areLines s.list)) := by
  refine fn_of c65 (by simp [F65]) fun c => ?_
  unfold F65
  simp
  refine loop_drop s.list.length (fun i e H c' => e 0 = s.av 4 TLine.enc ∧ e 5 = s.av 4 TLine.enc ∧ e 6 = .int .i64 s.list.length ∧ e 7 = .int .i64 i ∧ (s.list.take i).all lineOk = true ∧ H = []) ⟨rfl,rfl,rfl,rfl,by simp,rfl⟩ ?_
  intro i e H c hi ⟨e0,e5,e6,e7,hall,hH⟩ N hN
  subst hH
  simp [e0,e5,e6,e7]
  refine ⟨fun h => ⟨s.list[i],List.getElem?_eq_getElem h,?_⟩,fun h => ?_⟩
  · generalize hx : s.list[i] = x
    have bad : lineOk x = false → areLines s.list = false := fun hb => by
      unfold areLines
      have : s.list.all lineOk = false := by
        rw [List.all_eq_false]; exact ⟨x,hx ▸ List.getElem_mem h,by simp [hb]⟩
      simp [this]
    simp [e0,e5,e6,e7]
    refine call_fn0 (inRange_fn _ _ _) .bool fun _ _ => ?_
    cases h1 : inR x.Seq 0 1000000000000
    · simp [e0,e5,e6,e7]; exact fin_plain ⟨by rw [bad (by simp [lineOk,h1])],rfl⟩
    simp [e0,e5,e6,e7]
    refine call_fn0 (inRange_fn _ _ _) .bool fun _ _ => ?_
    cases h3 : inR x.Version 0 1000000000000
    · simp [e0,e5,e6,e7]; exact fin_plain ⟨by rw [bad (by simp [lineOk,h3])],rfl⟩
    simp [e0,e5,e6,e7]
    refine call_fn0 (inRange_fn _ _ _) .bool fun _ _ => ?_
    cases h2 : inR x.Owner 0 8
    · simp [e0,e5,e6,e7]; exact fin_plain ⟨by rw [bad (by simp [lineOk,h2])],rfl⟩
    simp [e0,e5,e6,e7]
    by_cases h4 : (4100 : Int) < x.Words.list.length
    · simp [e0,e5,e6,e7,h4]; exact fin_plain ⟨by rw [bad (by simp [lineOk]; intros; omega)],rfl⟩
    simp [e0,e5,e6,e7,h4]
    have h4' : x.Words.list.length ≤ 4100 := by omega
    by_cases h5 : x.Seq.tmod 2 = 1 <;> by_cases h6 : 0 < x.Owner <;> simp [e0,e5,e6,e7,h5,h6]
    all_goals first
      | exact fin_plain ⟨by rw [bad (by simp [lineOk,h5,h6])],rfl⟩
      | exact hN _ _ _ _ h (List.nil_sublist _) ⟨by simp [upd,e0],by simp [upd,e5],by simp [upd,e6],by simp [upd]; exact step64 hn h,all_step hall h (by rw [hx]; simp [lineOk,h1,h2,h3,h4',h5,h6]),rfl⟩
  · have : i = s.list.length := by omega
    subst this
    rw [List.take_length] at hall
    refine fin_plain ⟨?_,rfl⟩
    simp [areLines,hall]
    omega
set_option maxRecDepth 100000
def mtD : Nat → Nat → List UInt8 → List UInt8
  | 0,_,acc => acc
  | f + 1,k,acc => if k = 0 then acc else mtD f (k / 10) (UInt8.ofNat (48 + k % 10) :: acc)
def mtext (k : Int) : List UInt8 := if k ≤ 0 then [109,48] else 109 :: mtD 40 k.toNat []
theorem mtext_fn {k : Int} (hk : k ≤ 1000000000000000000) : Fnc Tryz.prog 70 [.int .i64 k] (.str (mtext k)) := by
  refine fn_of c70 (by simp [F70]) fun c => ?_
  unfold F70
  simp
  refine ⟨fun h => fin_plain ⟨by simp [mtext,h],rfl⟩,fun h => ?_⟩
  have hm : mtext k = 109 :: mtD 40 k.toNat [] := by simp [mtext]; omega
  refine loop_drop 20 (fun i e H c' => ∃ (n : Nat) (acc : List UInt8),e 0 = .int .i64 n ∧ e 3 = .str acc ∧ acc.length = i ∧ n * 10 ^ i ≤ k.toNat ∧ mtD (40 - i) n acc = mtD 40 k.toNat [] ∧ H = []) ⟨k.toNat,[],by simp; omega,rfl,rfl,by simp,rfl,rfl⟩ ?_
  intro i e H c hi ⟨n,acc,e0,e3,hl,hn,hd,hH⟩ N hN
  subst hH
  simp [e0,e3]
  refine ⟨fun h => ?_,fun h => ?_⟩
  · have hi' : i < 20 := by
      rcases Nat.lt_or_ge i 20 with h1 | h1
      · exact h1
      · have : i = 20 := by omega
        subst this
        omega
    have h10 : ((n : Int)).tmod 10 = ((n % 10 : Nat) : Int) := by rw [Int.tmod_eq_emod_of_nonneg (by omega)]; omega
    have hq : ((n : Int)).tdiv 10 = ((n / 10 : Nat) : Int) := by rw [Int.tdiv_eq_ediv_of_nonneg (by omega)]; omega
    have h48 : (48 : Int) + ((n % 10 : Nat) : Int) = ((48 + n % 10 : Nat) : Int) := by omega
    have hw : IntKind.u8.wrap (IntKind.i64.wrap (48 + ((n % 10 : Nat) : Int))) = ((UInt8.ofNat (48 + n % 10)).toNat : Int) := by rw [h48]; exact wrap_u8 (by omega)
    rw [h10]
    refine toStrW_ref (l := [UInt8.ofNat (48 + n % 10)]) (by rw [hw]; rfl) rfl (by simp [mx]) ?_
    have hm1 : 1 + acc.length ≤ mx := by unfold mx; omega
    have hq' : IntKind.i64.wrap ((n / 10 : Nat) : Int) = ((n / 10 : Nat) : Int) := by
      have : n ≤ k.toNat := Nat.le_trans (Nat.le_mul_of_pos_right n (Nat.pos_of_ne_zero (by simp))) hn
      exact wrap64 (by omega) (by omega)
    simp [e0,e3,hm1,hq,hq',-Int.natCast_ediv]
    refine hN _ _ [] _ hi' (by simp) ⟨n / 10,UInt8.ofNat (48 + n % 10) :: acc,?_,?_,by simp [hl],?_,?_,rfl⟩
    · simp [upd]
    · simp [upd]
    · refine Nat.le_trans ?_ hn
      rw [Nat.pow_succ,Nat.mul_comm (10 ^ i) 10,← Nat.mul_assoc]
      exact Nat.mul_le_mul_right _ (Nat.div_mul_le_self n 10)
    · rw [← hd]
      have e40 : 40 - i = (40 - (i + 1)) + 1 := by omega
      rw [e40]
      conv => rhs; unfold mtD
      rw [if_neg (by omega)]
  · have h0 : n = 0 := by omega
    subst h0
    have ha : acc = mtD 40 k.toNat [] := by
      rw [← hd]
      have e40 : 40 - i = (39 - i) + 1 := by omega
      rw [e40]; simp [mtD]
    have hm1 : 1 + acc.length ≤ mx := by unfold mx; omega
    exact ⟨hm1,fin_plain ⟨by rw [hm,← ha],rfl⟩⟩
set_option maxRecDepth 100000
theorem encI_flat : Flat encI := fun x a ha => by simp [encI] at ha; subst ha; exact ⟨rfl,free_int _ _⟩
def TLine.encO (s : TLine) : List AV := [.int .i64 s.Seq,.int .i64 s.Owner,.int .i64 s.Version,s.Words.ref 1]
def TLine.inn (s : TLine) : List AObj := s.Words.wood 1 encI noInn
theorem TLine.lenO (s : TLine) : s.encO.length = 4 := (rfl)
@[simp] theorem TLine.o0 (s : TLine) (K : AV → Prop) : getW s.encO 0 K = K (.int .i64 s.Seq) := by simp [TLine.encO]
@[simp] theorem TLine.o1 (s : TLine) (K : AV → Prop) : getW s.encO 1 K = K (.int .i64 s.Owner) := by simp [TLine.encO]
@[simp] theorem TLine.o2 (s : TLine) (K : AV → Prop) : getW s.encO 2 K = K (.int .i64 s.Version) := by simp [TLine.encO]
@[simp] theorem TLine.o3 (s : TLine) (K : AV → Prop) : getW s.encO 3 K = K (s.Words.ref 1) := by simp [TLine.encO]
theorem TLine.freeO : ∀ (x : TLine) a,a ∈ x.encO → Free a := fun x a ha => by
  simp [TLine.encO] at ha
  rcases ha with rfl | rfl | rfl | rfl
  · exact free_int _ _
  · exact free_int _ _
  · exact free_int _ _
  · exact free_ref _ _
theorem TLine.freeI : ∀ (x : TLine) o,o ∈ x.inn → ∀ T,AvRows T o := fun x o ho => flat_free encI_flat _ _ o ho
theorem TLine.viewO {S : List AObj} (x : TLine) (h : ∀ o,o ∈ x.inn → o ∈ S) : ∀ (j : Nat) (a a' : AV),x.encO[j]? = some a → x.enc[j]? = some a' → View S a a' := fun j a a' h1 h2 => by
  match j,h1,h2 with
  | 0,h1,h2 => simp [TLine.encO] at h1; simp [TLine.enc] at h2; subst h1; subst h2; exact .refl _
  | 1,h1,h2 => simp [TLine.encO] at h1; simp [TLine.enc] at h2; subst h1; subst h2; exact .refl _
  | 2,h1,h2 => simp [TLine.encO] at h1; simp [TLine.enc] at h2; subst h1; subst h2; exact .refl _
  | 3,h1,h2 => simp [TLine.encO] at h1; simp [TLine.enc] at h2; subst h1; subst h2; exact view_flat h encI_flat.cells
  | j + 4,h1,h2 => simp [TLine.encO] at h1
theorem view_line {S : List AObj} {s : SL TLine} (hs : ∀ o,o ∈ s.wood 4 TLine.encO TLine.inn → o ∈ S) : View S (s.ref 4) (s.av 4 TLine.enc) :=
  view_wood hs (fun x => TLine.cells x) (fun _ => rfl) fun x h => TLine.viewO x h
theorem toLineO {x : TLine} (h : x.sz ≤ 1048576) (c : Nat) : Con Tryz.prog 26 [.agg x.enc] [] c fun r O _ => ∃ b : TLine,r = .agg b.encO ∧ O = b.inn ∧ b.con = x.con := by
  simp only [TLine.sz] at h
  refine con_of c26 (by simp [F26]) ?_
  unfold F26
  simp [putA]
  refine call_new (toPO_fn (v := fun n => .int .i64 n) (z := .int .i64 0) (bytes := 8) c55 (fun _ _ => by simp) (by unfold szIntS at h; omega) (by unfold szIntS at h; omega) _) (Views.refl _ _) fun r O c1 hc ⟨w,hr,hO,hw⟩ _ _ => ?_
  subst hr; subst hO
  refine ⟨_,.refl _,free_ref _ _ _,fun o ho => flat_free encI_flat _ _ o ho _,?_⟩
  simp [putA]
  refine fin_sub (Hk := w.wood 1 encI noInn) ?_ (.refl _) ⟨⟨x.Seq,x.Owner,x.Version,w⟩,rfl,rfl,by simp [TLine.con,SL.pcon,hw]⟩
  exact ((List.Sublist.refl _).cons _).cons _ |>.cons _
theorem toLineSO {s : SL TLine} (h : szLineS s ≤ 1048576) (c : Nat) : Con Tryz.prog 8 [s.av 4 TLine.enc] [] c fun r H' _ => ∃ b : SL TLine,r = b.ref 4 ∧ H' = b.wood 4 TLine.encO TLine.inn ∧ b.list.map TLine.con = s.list.map TLine.con := by
  unfold szLineS at h
  exact toSO_fn (g := 26) (z := [.int .i64 0,.int .i64 0,.int .i64 0,.nsl]) (bytes := 48) c8 rfl (fun _ => rfl) TLine.lenO TLine.freeO TLine.freeI (by omega) (by omega)
    (fun x hx c => toLineO (by have := szL_mem (sz := TLine.sz) hx; omega) c) c
def mkLine (k : Int) (x : TLine) : TLine := ⟨k,k + 1,k + 2,x.Words.marks mkI cI (k + 3)⟩
def cLine (x : TLine) : Nat := 3 + x.Words.list.length
theorem mkLine_encO (k : Int) (x : TLine) : (mkLine k x).encO = [.int .i64 k,.int .i64 (k + 1),.int .i64 (k + 2),x.Words.ref 1] := by
  simp [mkLine,TLine.encO,SL.marks_ref]
theorem mkLine_tags (k : Int) (x : TLine) : tags (mkLine k x).inn = tags x.inn := flat_marks (enc := encI) (w := 1) mkI cI (k + 3) x.Words
theorem mixed_flat {α : Type} {mk : Int → α → α} {cnt : α → Nat} {k : Int} {l : List α} {inn : α → List AObj} {i : Nat} (h : i < l.length) :
    (mixed mk cnt k l i).flatMap inn = (mks mk cnt k (l.take i)).flatMap inn ++ inn l[i] ++ (l.drop (i + 1)).flatMap inn := by
  unfold mixed
  rw [List.drop_eq_getElem_cons h,List.flatMap_append,List.flatMap_cons,List.append_assoc]
theorem mixed_flat' {α : Type} {mk : Int → α → α} {cnt : α → Nat} {k : Int} {l : List α} {inn : α → List AObj} {i : Nat} (h : i < l.length) :
    (mixed mk cnt k l (i + 1)).flatMap inn = (mks mk cnt k (l.take i)).flatMap inn ++ inn (mk (k + szL cnt (l.take i)) l[i]) ++ (l.drop (i + 1)).flatMap inn := by
  unfold mixed
  rw [mks_step mk cnt k l h,List.flatMap_append,List.flatMap_append]
  simp
theorem markLine_nil (k : Int) : Fnc Tryz.prog 13 [.nsl,.int .i64 k] (.int .i64 k) := by
  refine fn_of c13 (by simp [F13]) fun c => ?_
  unfold F13
  simp
  refine loop_drop 0 (fun i e H c' => e 0 = .nsl ∧ e 1 = .int .i64 k ∧ e 5 = .int .i64 0 ∧ H = []) ⟨rfl,rfl,rfl,rfl⟩ ?_
  intro i e H c hi ⟨e0,e1,e5,hH⟩ N hN
  subst hH
  simp [e0,e1,e5]
  exact fin_plain ⟨rfl,rfl⟩
theorem heldLine_nil (k : Int) : Fnc Tryz.prog 15 [.nsl,.int .i64 k] (.int .i64 k) := by
  refine fn_of c15 (by simp [F15]) fun c => ?_
  unfold F15
  simp
  refine loop_drop 0 (fun i e H c' => e 0 = .nsl ∧ e 1 = .int .i64 k ∧ e 5 = .int .i64 0 ∧ H = []) ⟨rfl,rfl,rfl,rfl⟩ ?_
  intro i e H c hi ⟨e0,e1,e5,hH⟩ N hN
  subst hH
  simp [e0,e1,e5]
  exact fin_plain ⟨rfl,rfl⟩
theorem markLine_con1 {l : List TLine} (hz : szL cLine l ≤ 8388608) (hw : ∀ x,x ∈ l → x.Words.list.length ≤ 1048576) {k : Int} (hk : 0 ≤ k ∧ k ≤ 549755813888) (t c : Nat) :
    Con Tryz.prog 13 [.ref 0 t 4 l.length,.int .i64 k] (wood t 4 TLine.encO TLine.inn l) c fun r H' _ => r = .int .i64 (k + szL cLine l) ∧ H' = wood t 4 TLine.encO TLine.inn (mks mkLine cLine k l) := by
  have hln : l.length ≤ szL cLine l := by
    have : ∀ l : List TLine,l.length ≤ szL cLine l := fun l => by
      induction l with
      | nil => simp
      | cons x l ih => simp [szL,cLine] at ih ⊢; omega
    exact this l
  refine con_of c13 (by simp [F13]) ?_
  unfold F13
  simp
  refine loop_drop l.length (fun i e H c' => e 0 = .ref 0 t 4 l.length ∧ e 1 = .int .i64 (k + szL cLine (l.take i)) ∧ e 5 = .int .i64 i ∧ H = ⟨false,t,4,(mixed mkLine cLine k l i).map TLine.encO⟩ :: (mixed mkLine cLine k l i).flatMap TLine.inn) ⟨rfl,by simp [szL],rfl,by rw [mixed_zero]; rfl⟩ ?_
  intro i e H c hi ⟨e0,e1,e5,hH⟩ N hN
  subst hH
  have hs := mixed_set mkLine cLine k l (i := i)
  have hst := fun h : i < l.length => szL_step cLine l h
  have hle := szL_le cLine l i
  have hfl := fun h : i < l.length => mixed_flat (mk := mkLine) (cnt := cLine) (k := k) (inn := TLine.inn) h
  have hfl' := fun h : i < l.length => mixed_flat' (mk := mkLine) (cnt := cLine) (k := k) (inn := TLine.inn) h
  generalize hjj : k + (szL cLine (l.take i) : Int) = j at e1 hs hfl'
  have w1 : IntKind.i64.wrap (j + 1) = j + 1 := wrap64 (by omega) (by omega)
  have w2 : IntKind.i64.wrap (j + 1 + 1) = j + 1 + 1 := wrap64 (by omega) (by omega)
  have w3 : IntKind.i64.wrap (j + 1 + 1 + 1) = j + 1 + 1 + 1 := wrap64 (by omega) (by omega)
  simp [e0,e1,e5]
  refine ⟨fun h => ?_,fun h => ?_⟩
  · have hs := hs h
    have hst := hst h
    have hg := mixed_get mkLine cLine k l h
    have hx := hw _ (List.getElem_mem h)
    rw [hfl h]
    have hfl' := hfl' h
    generalize l[i] = x at hs hst hg hx hfl'
    refine ⟨h,x,hg,?_⟩
    simp [e0,e1,e5,h,mixed_len,w1,w2,w3,putA,TLine.encO]
    refine call_midr (f := 36) (B := x.inn) (markI_con c36 (s := x.Words) hx (k := j + 1 + 1 + 1) ⟨by omega,by omega⟩ c) (Views.refl _ _) fun r B' c' hc ⟨q1,q2⟩ => ?_
    subst q1; subst q2
    refine ⟨flat_marks (enc := encI) (w := 1) mkI cI _ x.Words,.int,fun o ho => flat_free encI_flat _ _ o ho _,?_⟩
    simp [e0,e1,e5]
    refine hN _ _ _ _ h (List.Sublist.refl _) ⟨by simp [upd,e0],?_,by simp [upd]; exact step64 (by unfold mx; omega) h,?_⟩
    · simp [upd,hst,cLine]; omega
    · rw [hfl',← hs,List.map_set,mkLine_encO]
      simp [mkLine,TLine.inn,Int.add_assoc]
  · have h1 : i = l.length := by omega
    subst h1
    refine fin_all ⟨?_,?_⟩
    · rw [← hjj]; simp
    · rw [mixed_all]; rfl
theorem heldLine_fn1 {l : List TLine} (hz : szL cLine l ≤ 8388608) (hw : ∀ x,x ∈ l → x.Words.list.length ≤ 1048576) {k : Int} (hk : 0 ≤ k ∧ k ≤ 549755813888) (t : Nat) :
    Fnc Tryz.prog 15 [(SL.mk t (mks mkLine cLine k l)).av 4 TLine.enc,.int .i64 k] (.int .i64 (k + szL cLine l)) := by
  have hln : l.length ≤ szL cLine l := by
    have : ∀ l : List TLine,l.length ≤ szL cLine l := fun l => by
      induction l with
      | nil => simp
      | cons x l ih => simp [szL,cLine] at ih ⊢; omega
    exact this l
  refine fn_of c15 (by simp [F15]) fun c => ?_
  unfold F15
  simp
  have hlen := mks_len mkLine cLine k l
  refine loop_drop l.length (fun i e H c' => e 0 = (SL.mk t (mks mkLine cLine k l)).av 4 TLine.enc ∧ e 1 = .int .i64 (k + szL cLine (l.take i)) ∧ e 5 = .int .i64 i ∧ H = []) ⟨rfl,by simp [szL],rfl,rfl⟩ ?_
  intro i e H c hi ⟨e0,e1,e5,hH⟩ N hN
  subst hH
  have hg := fun h : i < l.length => mks_get mkLine cLine k l h
  have hst := fun h : i < l.length => szL_step cLine l h
  have hle := szL_le cLine l i
  have hle' := szL_le cLine l (i + 1)
  generalize hjj : k + (szL cLine (l.take i) : Int) = j at e1 hg
  have w1 : IntKind.i64.wrap (j + 1) = j + 1 := wrap64 (by omega) (by omega)
  have w2 : IntKind.i64.wrap (j + 1 + 1) = j + 1 + 1 := wrap64 (by omega) (by omega)
  have w3 : IntKind.i64.wrap (j + 1 + 1 + 1) = j + 1 + 1 + 1 := wrap64 (by omega) (by omega)
  simp [e0,e1,e5,hlen]
  refine ⟨fun h => ?_,fun h => ?_⟩
  · have hg := hg h
    have hst := hst h
    have hx := hw _ (List.getElem_mem h)
    generalize l[i] = x at hg hst hx
    have f0 : (mkLine j x).Seq = j := rfl
    have f1 : (mkLine j x).Owner = j + 1 := rfl
    have f2 : (mkLine j x).Version = j + 1 + 1 := by simp [mkLine]; omega
    have f3 : (mkLine j x).Words = x.Words.marks mkI cI (j + 1 + 1 + 1) := by simp [mkLine]; congr 1; omega
    refine ⟨_,hg,?_⟩
    simp [e0,e1,e5,h,w1,w2,w3,f0,f1,f2,f3]
    refine ⟨_,hg,?_⟩
    simp [e0,e1,e5,h,w1,w2,w3,f0,f1,f2,f3]
    refine ⟨_,hg,?_⟩
    simp [e0,e1,e5,h,w1,w2,w3,f0,f1,f2,f3]
    refine ⟨_,hg,?_⟩
    simp [e0,e1,e5,h,w1,w2,w3,f0,f1,f2,f3]
    refine call_fn0 (heldI_fn c39 (s := x.Words) hx ⟨by omega,by omega⟩) .int fun _ _ => ?_
    have hp : ¬ (j + 1 + 1 + 1 + (x.Words.list.length : Int) < 0) := by omega
    simp [e0,e1,e5,h,w1,w2,w3,hp]
    refine hN _ _ _ _ h (List.Sublist.refl _) ⟨by simp [upd,e0],?_,by simp [upd]; exact step64 (by unfold mx; omega) h,rfl⟩
    simp [upd,hst,cLine]; omega
  · have h1 : i = l.length := by omega
    subst h1
    refine fin_plain ⟨?_,rfl⟩
    rw [← hjj]; simp
theorem markLine_con {s : SL TLine} (hz : szL cLine s.list ≤ 8388608) (hw : ∀ x,x ∈ s.list → x.Words.list.length ≤ 1048576) {k : Int} (hk : 0 ≤ k ∧ k ≤ 549755813888) (c : Nat) :
    Con Tryz.prog 13 [s.ref 4,.int .i64 k] (s.wood 4 TLine.encO TLine.inn) c fun r H' _ => r = .int .i64 (k + szL cLine s.list) ∧ H' = (s.marks mkLine cLine k).wood 4 TLine.encO TLine.inn := by
  cases s with
  | nil =>
    have := markLine_nil k c
    simpa [SL.ref,SL.wood,SL.marks,szL] using this
  | mk t l => exact markLine_con1 (l := l) hz hw hk t c
theorem heldLine_fn {s : SL TLine} (hz : szL cLine s.list ≤ 8388608) (hw : ∀ x,x ∈ s.list → x.Words.list.length ≤ 1048576) {k : Int} (hk : 0 ≤ k ∧ k ≤ 549755813888) :
    Fnc Tryz.prog 15 [(s.marks mkLine cLine k).av 4 TLine.enc,.int .i64 k] (.int .i64 (k + szL cLine s.list)) := by
  cases s with
  | nil =>
    have := heldLine_nil k
    simpa [SL.av,SL.marks,szL] using this
  | mk t l => exact heldLine_fn1 (l := l) hz hw hk t
theorem cloneIO {s : SL Int} (hn : s.list.length ≤ 1048576) (c : Nat) : Con Tryz.prog 64 [s.av 1 encI] [] c fun r O _ => ∃ x : SL Int,r = x.ref 1 ∧ O = x.wood 1 encI noInn ∧ x.list = s.list :=
  clone_con (b := 8) (z := [.int .i64 0]) c64 (by omega) (by unfold mx; omega) c
theorem szLine_bounds {l : List TLine} (h : l.length + szL TLine.sz l ≤ 1048576) : szL cLine l ≤ 8388608 ∧ (∀ x,x ∈ l → x.Words.list.length ≤ 1048576) ∧ l.length ≤ 1048576 := by
  have key : ∀ l : List TLine,szL cLine l ≤ 3 * l.length + szL TLine.sz l := fun l => by
    induction l with
    | nil => simp [szL]
    | cons x l ih =>
      have e : x.sz = x.Words.list.length := rfl
      simp only [szL,List.map_cons,List.sum_cons,List.length_cons,cLine,e] at ih ⊢; omega
  refine ⟨by have := key l; omega,fun x hx => ?_,by omega⟩
  have := szL_mem (sz := TLine.sz) hx
  have e : x.sz = x.Words.list.length := rfl
  omega
theorem line_from {c : Nat} {s : SL TLine} (ht : ∀ t,t ∈ tags (s.wood 4 TLine.encO TLine.inn) → c ≤ t) : From c (s.av 4 TLine.enc) := by
  cases s with
  | nil => exact from_nsl c
  | mk t l =>
    have ht' : ∀ u,u ∈ t :: tags (l.flatMap TLine.inn) → c ≤ u := ht
    refine from_slc (ht' t (List.mem_cons_self ..)) fun row hr a ha => ?_
    obtain ⟨x,hx,rfl⟩ := List.mem_map.1 hr
    simp [TLine.enc] at ha
    rcases ha with rfl | rfl | rfl | rfl
    · simp
    · simp
    · simp
    · refine flat_from encI_flat fun u hu => ht' u (List.mem_cons_of_mem _ ?_)
      obtain ⟨o,ho,rfl⟩ := of_mem_tags hu
      exact mem_tags (List.mem_flatMap.2 ⟨x,hx,ho⟩)
theorem line_tr2 {f : Nat} {args : List AV} {Q : SL TLine → List AV → Prop} (hF : ∀ b l,Q b l → ∀ a,a ∈ l → Free a) (h : ∀ c,Con Tryz.prog f args [] c fun r O _ => ∃ (b : SL TLine) (l : List AV),r = .tup (b.ref 4 :: l) ∧ O = b.wood 4 TLine.encO TLine.inn ∧ Q b l) :
    Tr Tryz.prog f args fun _ r => ∃ (b : SL TLine) (l : List AV),r = .tup (b.av 4 TLine.enc :: l) ∧ Q b l :=
  tr_of h fun c r O c' _ ⟨b,l,h1,h2,h3⟩ ht => ⟨.tup (b.av 4 TLine.enc :: l),by rw [h1]; exact view_tup (.cons (view_line (by rw [h2]; exact fun _ h => h)) (Views.refl _ _)),⟨b,l,rfl,h3⟩,
    from_tup fun a ha => by
      rcases List.mem_cons.1 ha with rfl | ha
      · exact line_from (by rw [← h2]; exact ht)
      · exact (hF b l h3 a ha).from c⟩
theorem view_lmarks {S : List AObj} {s : SL TLine} {k : Int} (hs : ∀ o,o ∈ (s.marks mkLine cLine k).wood 4 TLine.encO TLine.inn → o ∈ S) : View S (s.ref 4) ((s.marks mkLine cLine k).av 4 TLine.enc) := by
  rw [← SL.marks_ref (mk := mkLine) (cnt := cLine) k s]
  exact view_line hs
theorem con_perm {P : Program} {f : Nat} {args : List AV} {H : List AObj} {c : Nat} {Q Q' : AV → List AObj → Nat → Prop} (h : Con P f args H c Q) (hq : ∀ r H' c',Q r H' c' → ∃ Hs H2,Hs.Sublist H' ∧ H2.Perm Hs ∧ Q' r H2 c') : Con P f args H c Q' := by
  intro G w vs e I hs hr
  refine (h G w vs e I hs hr).mono fun en w' ⟨v,res,H',G',h1,h2,h3,h4,h5⟩ => ?_
  obtain ⟨Hs,H2,hsub,hp,q⟩ := hq _ _ _ h2
  have h3 := h3.drop hsub
  have h4 := h4.drop hsub
  have ht : ∀ t,t ∈ tags H2 ↔ t ∈ tags Hs := fun t => (hp.map _).mem_iff
  refine ⟨v,res,H2,G',h1,q,⟨h3.x,h3.os,h3.tape,h3.output,h3.size,h3.frame,h3.newm,fun t a b => h3.oldH t a ((ht t).1 b),h3.oldF⟩,⟨h4.fz,fun o ho => h4.obj o (hp.mem_iff.1 ho),fun t a => h4.nfz t ((ht t).1 a),(hp.map _).nodup_iff.2 h4.nodup,fun t t' a b => h4.inj t t' (a.imp id (ht t).1) (b.imp id (ht t').1),h4.gl⟩,h5⟩
set_option maxRecDepth 100000
def inns (l : List TLine) : List AObj := l.flatMap TLine.inn
theorem wood_inns (t : Nat) (l : List TLine) : (SL.mk t l).wood 4 TLine.encO TLine.inn = ⟨false,t,4,l.map TLine.encO⟩ :: inns l := rfl
theorem inns_app (l m : List TLine) : inns (l ++ m) = inns l ++ inns m := List.flatMap_append ..
theorem inns_one (x : TLine) : inns [x] = x.inn := by simp [inns]
theorem inns_cons (x : TLine) (l : List TLine) : inns (x :: l) = x.inn ++ inns l := List.flatMap_cons ..
theorem av_words (s : SL Int) : Av [] (s.av 1 encI) := by
  cases s with
  | nil => exact .nsl
  | mk t l =>
    exact .slc (by simp) fun r j x a hx ha => by
      obtain ⟨n,_,rfl⟩ := List.mem_map.1 (List.mem_of_getElem? hx)
      have := List.mem_of_getElem? ha
      simp [encI] at this; subst this; exact .int
theorem av_line (x : TLine) : ∀ a,a ∈ x.enc → Av [] a := fun a ha => by
  simp [TLine.enc] at ha
  rcases ha with rfl | rfl | rfl | rfl
  · exact .int
  · exact .int
  · exact .int
  · exact av_words _
def cpRows (ys l : List TLine) (i : Nat) : List (List AV) := ys.map TLine.encO ++ (l.drop i).map TLine.enc
theorem cpRows_len {ys l : List TLine} {i : Nat} (h : ys.length = i) (hi : i ≤ l.length) : (cpRows ys l i).length = l.length := by simp [cpRows,h]; omega
theorem cpRows_get {ys l : List TLine} {i : Nat} (h : ys.length = i) (hi : i < l.length) : (cpRows ys l i)[i]? = some l[i].enc := by
  unfold cpRows
  rw [List.getElem?_append_right (by simp; omega),List.length_map,h,Nat.sub_self,List.drop_eq_getElem_cons hi]; rfl
theorem cpRows_set {ys l : List TLine} {i : Nat} (h : ys.length = i) (hi : i < l.length) (y : TLine) : (cpRows ys l i).set i y.encO = cpRows (ys ++ [y]) l (i + 1) := by
  unfold cpRows
  rw [List.set_append_right _ _ (by simp; omega),List.length_map,h,Nat.sub_self,List.drop_eq_getElem_cons hi,List.map_cons,List.set_cons_zero]
  simp
theorem cpRows_zero (l : List TLine) : cpRows [] l 0 = l.map TLine.enc := by simp [cpRows]
theorem cpRows_all {ys l : List TLine} : cpRows ys l l.length = ys.map TLine.encO := by simp [cpRows]
theorem impl_copyO {s : SL TLine} (hn : s.list.length ≤ 1048576) (hz : ∀ x,x ∈ s.list → x.Words.list.length ≤ 1048576) (c : Nat) :
    Con Tryz.prog 31 [s.av 4 TLine.enc] [] c fun r O _ => ∃ b : SL TLine,r = b.ref 4 ∧ O = b.wood 4 TLine.encO TLine.inn ∧ b.list.map TLine.con = s.list.map TLine.con := by
  refine con_of c31 (by simp [F31]) ?_
  unfold F31
  simp
  refine call_new (clone_con (b := 48) (z := [.int .i64 0,.int .i64 0,.int .i64 0,.nsl]) c63 (by omega) (by unfold mx; omega) _) (Views.refl _ _) fun r O c1 hc ⟨x,hr,hO,hx⟩ _ _ => ?_
  subst hr
  refine ⟨_,.refl _,free_ref _ _ _,fun o ho => ?_,?_⟩
  · subst hO
    cases x with
    | nil => cases ho
    | mk t l =>
      rw [flat_wood] at ho
      simp only [List.mem_singleton] at ho
      subst ho
      exact avRows_of fun row hr a ha => by
        obtain ⟨y,_,rfl⟩ := List.mem_map.1 hr
        exact av_line y a ha
  simp
  cases x with
  | nil =>
    have h0 : s.list = [] := hx.symm
    have hO' : O = [] := hO
    subst hO'
    refine loop_drop 0 (fun i e H c' => e 3 = .nsl ∧ e 9 = .int .i64 0 ∧ e 10 = .int .i64 0 ∧ H = []) ⟨rfl,by simp [h0],rfl,rfl⟩ ?_
    intro i e H c' hi ⟨e3,e9,e10,hH⟩ N hN
    subst hH
    simp [e3,e9,e10]
    exact fin_all ⟨.nil,rfl,rfl,by simp [h0]⟩
  | mk t l =>
    simp only [SL.list_mk] at hx
    subst hx
    rw [flat_wood] at hO
    subst hO
    refine loop_drop s.list.length (fun i e H c' => e 3 = .ref 0 t 4 s.list.length ∧ e 8 = s.av 4 TLine.enc ∧ e 9 = .int .i64 s.list.length ∧ e 10 = .int .i64 i ∧ ∃ ys : List TLine,ys.length = i ∧ ys.map TLine.con = (s.list.take i).map TLine.con ∧ H = ⟨false,t,4,cpRows ys s.list i⟩ :: inns ys) ⟨rfl,rfl,rfl,rfl,[],rfl,rfl,by rw [cpRows_zero]; rfl⟩ ?_
    intro i e H c' hi ⟨e3,e8,e9,e10,ys,hy,hcon,hH⟩ N hN
    subst hH
    simp [e3,e8,e9,e10]
    refine ⟨fun h => ⟨s.list[i],List.getElem?_eq_getElem h,?_⟩,fun h => ?_⟩
    · have hlen := cpRows_len hy hi
      have hget := cpRows_get hy h
      have hset := cpRows_set hy h
      have hw := hz _ (List.getElem_mem h)
      have htk : (s.list.take (i + 1)).map TLine.con = (s.list.take i).map TLine.con ++ [s.list[i].con] := by rw [List.take_succ_eq_append_getElem h,List.map_append]; rfl
      generalize s.list[i] = x at hget hset hw htk
      simp [e3,e8,e9,e10,h]
      refine call_new (cloneIO hw _) (Views.refl _ _) fun r O c2 hc2 ⟨w,hr,hO,hwl⟩ _ _ => ?_
      subst hr; subst hO
      refine ⟨_,.refl _,free_ref _ _ _,fun o ho => flat_free encI_flat _ _ o ho _,?_⟩
      simp [e3,e8,e9,e10,h]
      refine ⟨_,hget,?_⟩
      simp [hlen,putA,TLine.enc]
      refine hN _ _ (⟨false,t,4,cpRows (ys ++ [⟨x.Seq,x.Owner,x.Version,w⟩]) s.list (i + 1)⟩ :: inns (ys ++ [⟨x.Seq,x.Owner,x.Version,w⟩])) _ h ?_ ⟨by simp [upd,e3],by simp [upd,e8],by simp [upd,e9],by simp [upd]; exact step64 (by unfold mx; omega) h,ys ++ [⟨x.Seq,x.Owner,x.Version,w⟩],by simp [hy],?_,rfl⟩
      · rw [inns_app,inns_one,← hset]
        exact (List.Sublist.append (List.Sublist.refl _) ((List.Sublist.refl _).cons _)).cons_cons _
      · rw [List.map_append,hcon,htk]
        simp [TLine.con,SL.pcon,hwl]
    · have h1 : i = s.list.length := by omega
      subst h1
      refine fin_all ⟨.mk t ys,by simp [SL.ref,hy],by rw [wood_inns,cpRows_all],?_⟩
      simpa using hcon
def encX (k : Nat) (x : TLine) : List AV := [.int .i64 x.Seq,.int .i64 x.Owner,.int .i64 x.Version,x.Words.at_ k 1]
def rowsX (ks : List (Nat × TLine)) : List (List AV) := ks.map fun p => encX p.1 p.2
theorem renX (t : Nat) (ks : List (Nat × TLine)) : RenO [] ⟨false,t,4,rowsX ks⟩ ⟨false,t,4,(ks.map (·.2)).map TLine.encO⟩ where
  mp := rfl
  tag := rfl
  w := rfl
  len := by simp [rowsX]
  maps h := by cases h
  row r x x' h1 h2 := by
    simp only [rowsX,List.getElem?_map,Option.map_eq_some_iff] at h1 h2
    obtain ⟨p,hp,rfl⟩ := h1
    obtain ⟨y,⟨q,hq,rfl⟩,rfl⟩ := h2
    rw [hp] at hq; cases hq
    refine ⟨rfl,fun j a a' h3 h4 => ?_⟩
    match j,h3,h4 with
    | 0,h3,h4 => simp [encX] at h3; simp [TLine.encO] at h4; exact .inl (by rw [← h3,← h4])
    | 1,h3,h4 => simp [encX] at h3; simp [TLine.encO] at h4; exact .inl (by rw [← h3,← h4])
    | 2,h3,h4 => simp [encX] at h3; simp [TLine.encO] at h4; exact .inl (by rw [← h3,← h4])
    | 3,h3,h4 =>
      simp [encX] at h3; simp [TLine.encO] at h4
      subst h3; subst h4
      exact .inr ⟨cell_ref _ _,view_at' _ _ _ _⟩
    | j + 4,h3,h4 => simp [encX] at h3
theorem spec_copyM {s : SL TLine} (hn : s.list.length ≤ 1048576) (hz : ∀ x,x ∈ s.list → x.Words.list.length ≤ 1048576) (c : Nat) :
    Con Tryz.prog 24 [s.av 4 TLine.enc] [] c fun r O _ => ∃ b : SL TLine,r = b.ref 4 ∧ O = b.wood 4 TLine.encO TLine.inn ∧ b.list.map TLine.con = s.list.map TLine.con ∧ ∃ t,b = .mk t b.list := by
  refine con_of c24 (by simp [F24]) ?_
  unfold F24
  simp
  refine loop_drop s.list.length (fun i e H c' => e 0 = s.av 4 TLine.enc ∧ e 4 = .int .i64 i ∧ ∃ (t : Nat) (ks : List (Nat × TLine)),e 3 = .ref 0 t 4 i ∧ ks.length = i ∧ (ks.map (·.2)).map TLine.con = (s.list.take i).map TLine.con ∧ H = ⟨false,t,4,rowsX ks⟩ :: inns (ks.map (·.2))) ⟨rfl,rfl,_,[],rfl,rfl,rfl,rfl⟩ ?_
  intro i e H c' hi ⟨e0,e4,t,ks,e3,hy,hcon,hH⟩ N hN
  subst hH
  have hrl : (rowsX ks).length = i := by simp [rowsX,hy]
  generalize hys : ks.map (·.2) = ys at hcon
  simp [e0,e3,e4]
  refine ⟨fun h => ⟨s.list[i],List.getElem?_eq_getElem h,?_⟩,fun h => ?_⟩
  · have hw := hz _ (List.getElem_mem h)
    have hget : s.list[i]? = some s.list[i] := List.getElem?_eq_getElem h
    have htk : (s.list.take (i + 1)).map TLine.con = (s.list.take i).map TLine.con ++ [s.list[i].con] := by rw [List.take_succ_eq_append_getElem h,List.map_append]; rfl
    generalize s.list[i] = x at hget hw htk
    simp [e0,e3,e4,h]
    refine ⟨_,hget,?_⟩
    have m1 : x.Words.list.length * 8 ≤ 140737488355328 := by omega
    have m2 : x.Words.list.length ≤ mx := by unfold mx; omega
    have m3 : (i + 1) * 48 ≤ 140737488355328 := by omega
    have m4 : i + 1 ≤ mx := by unfold mx; omega
    simp [e0,e3,e4,h,m1,m2,m3,m4,hrl,putA,TLine.enc]
    refine hN _ _ (⟨false,c' + 1 + 1 + 1 + 1,4,rowsX (ks ++ [((inns ys).length + 1 + 1,TLine.mk x.Seq x.Owner x.Version (.mk (c' + 1 + 1) x.Words.list))])⟩ :: inns ((ks ++ [((inns ys).length + 1 + 1,TLine.mk x.Seq x.Owner x.Version (.mk (c' + 1 + 1) x.Words.list))]).map (·.2))) _ h ?_
      ⟨by simp [upd,e0],by simp [upd]; exact step64 (by unfold mx; omega) h,c' + 1 + 1 + 1 + 1,_,by simp [upd],by simp [hy],?_,rfl⟩
    · rw [List.map_append,inns_app,hys]
      have e1 : rowsX (ks ++ [((inns ys).length + 1 + 1,TLine.mk x.Seq x.Owner x.Version (.mk (c' + 1 + 1) x.Words.list))]) = rowsX ks ++ [[.int .i64 x.Seq,.int .i64 x.Owner,.int .i64 x.Version,.ref ((inns ys).length + 1 + 1) (c' + 1 + 1) 1 x.Words.list.length]] := by
        simp [rowsX,encX,SL.at_]
      rw [e1]
      refine List.Sublist.cons_cons _ (List.Sublist.append (List.Sublist.refl _) ?_)
      simp only [List.map_cons,List.map_nil,inns_one,TLine.inn,flat_wood]
      exact ((List.nil_sublist _).cons_cons _).cons _
    · rw [List.map_append,List.map_append,hys,hcon,htk]
      simp [TLine.con,SL.pcon]
  · have h1 : i = s.list.length := by omega
    subst h1
    refine fin_ren (List.Sublist.refl _) (.cons (renX t ks) (.refl _ _)) (.refl _) ⟨.mk t ys,?_,?_,?_,t,rfl⟩
    · subst hys; simp [SL.ref,hy]
    · rw [wood_inns,hys]
    · simpa using hcon
theorem spec_copyO {s : SL TLine} (hn : s.list.length ≤ 1048576) (hz : ∀ x,x ∈ s.list → x.Words.list.length ≤ 1048576) (c : Nat) :
    Con Tryz.prog 24 [s.av 4 TLine.enc] [] c fun r O _ => ∃ b : SL TLine,r = b.ref 4 ∧ O = b.wood 4 TLine.encO TLine.inn ∧ b.list.map TLine.con = s.list.map TLine.con :=
  (spec_copyM hn hz c).mono fun r H' c' _ ⟨b,h1,h2,h3,_⟩ => ⟨b,h1,h2,h3⟩
theorem areLines_seq {l : List TLine} (h : areLines l = true) : ∀ x,x ∈ l → 0 ≤ x.Seq ∧ x.Seq ≤ 1000000000000 := fun x hx => by
  unfold areLines at h
  simp only [Bool.and_eq_true,List.all_eq_true] at h
  have := h.1 x hx
  unfold lineOk at this
  simp only [Bool.and_eq_true] at this
  exact inR_true this.1.1.1.1
theorem renSet {t w i : Nat} {rows : List (List AV)} {row row' : List AV} (hl : row'.length = row.length) (h : ∀ (j : Nat) (a a' : AV),row[j]? = some a → row'[j]? = some a' → a' = a ∨ (a'.cell = true ∧ View [] a a')) :
    RenO [] ⟨false,t,w,rows.set i row⟩ ⟨false,t,w,rows.set i row'⟩ where
  mp := rfl
  tag := rfl
  w := rfl
  len := by simp
  maps h := by cases h
  row r x x' h1 h2 := by
    by_cases hr : i = r
    · subst hr
      rw [List.getElem?_set_self'] at h1 h2
      simp only [Option.map_eq_map,Option.map_eq_some_iff,Function.const] at h1 h2
      obtain ⟨_,_,rfl⟩ := h1
      obtain ⟨_,_,rfl⟩ := h2
      exact ⟨hl,h⟩
    · rw [List.getElem?_set_ne hr] at h1 h2
      rw [h1] at h2; cases h2
      exact ⟨rfl,fun j a a' h3 h4 => by rw [h3] at h4; cases h4; exact .inl rfl⟩
theorem inns_at {l : List TLine} {i : Nat} (h : i < l.length) : inns l = inns (l.take i) ++ (l[i].inn ++ inns (l.drop (i + 1))) := by
  rw [← inns_cons,← List.drop_eq_getElem_cons h,← inns_app,List.take_append_drop]
theorem inns_set {l : List TLine} {i : Nat} (h : i < l.length) (z : TLine) : inns (l.set i z) = inns (l.take i) ++ (z.inn ++ inns (l.drop (i + 1))) := by
  rw [List.set_eq_take_append_cons_drop,if_pos h,inns_app,inns_cons]
set_option maxRecDepth 100000
theorem areLines_con' {l m : List TLine} (h : l.map TLine.con = m.map TLine.con) : areLines l = areLines m := by
  have e : ∀ l : List TLine,areLines l = areLines (l.map TLine.con) := fun l => by
    unfold areLines
    rw [List.all_map,List.length_map]
    rfl
  rw [e,e m,h]
set_option maxRecDepth 100000
def wrOk (l : List TLine) (at_ v : Int) (n : Nat) : Bool :=
  areLines l && inR at_ 0 ((l.length : Int) - 1) && (match l[at_.toNat]? with | some x => !decide (x.Seq.tmod 2 = 1) && !decide (999999999998 < x.Seq) | none => false) && inR v 1 1000000000000 && decide (n ≤ 4100)
def wrOne (v : Int) (w : SL Int) (x : TLine) : TLine := ⟨x.Seq + 2,0,v,w⟩
def wr (l : List TLine) (at_ v : Int) (ws : SL Int) : List TLine :=
  if wrOk l at_ v ws.list.length then (match l[at_.toNat]? with | some x => l.set at_.toNat (wrOne v ws x) | none => l) else l
def WQ (s : SL TLine) (at_ v : Int) (ws : SL Int) (r : AV) (O : List AObj) : Prop :=
  ∃ b : SL TLine,r = .tup [b.ref 4,.bool (wrOk s.list at_ v ws.list.length)] ∧ b.list.map TLine.con = s.list.map TLine.con ∧
      ((wrOk s.list at_ v ws.list.length = false ∧ O = b.wood 4 TLine.encO TLine.inn) ∨
       (wrOk s.list at_ v ws.list.length = true ∧ ∃ (t i : Nat) (x : TLine) (w : SL Int),at_ = i ∧ b = .mk t b.list ∧ b.list[i]? = some x ∧ w.list = ws.list ∧
        O = ⟨false,t,4,(b.list.set i (wrOne v w x)).map TLine.encO⟩ :: (inns b.list ++ w.wood 1 encI noInn)))
theorem impl_wrO1 {s : SL TLine} {at_ v : Int} {ws : SL Int} (hn : s.list.length ≤ 1048576) (hz : ∀ x,x ∈ s.list → x.Words.list.length ≤ 1048576) (hw : ws.list.length ≤ 1048576) (c : Nat) :
    Con Tryz.prog 32 [s.av 4 TLine.enc,.int .i64 at_,.int .i64 v,ws.av 1 encI] [] c fun r O _ => WQ s at_ v ws r O := by
  refine con_of c32 (by simp [F32]) ?_
  unfold F32
  simp
  refine call_new (impl_copyO hn hz _) (Views.refl _ _) fun r O c1 hc ⟨b,hr,hO,hb⟩ _ _ => ?_
  subst hr; subst hO
  refine ⟨_,.refl _,free_ref _ _ _,fun o ho => free_wood TLine.freeO TLine.freeI _ o ho _,?_⟩
  have hbl : b.list.length = s.list.length := by simpa using congrArg List.length hb
  simp
  refine call_fn (impl_areLines (by unfold mx; omega)) (Views.refl _ _) .bool fun _ _ => ?_
  cases h1 : areLines s.list
  · simp
    exact fin_all ⟨b,by simp [wrOk,h1],hb,.inl ⟨by simp [wrOk,h1],rfl⟩⟩
  have hw1 : IntKind.i64.wrap ((s.list.length : Int) - 1) = (s.list.length : Int) - 1 := wrap64 (by omega) (by omega)
  simp [hw1]
  refine call_fn (inRange_fn _ _ _) (Views.refl _ _) .bool fun _ _ => ?_
  cases h2 : inR at_ 0 ((s.list.length : Int) - 1)
  · simp
    exact fin_all ⟨b,by simp [wrOk,h1,h2],hb,.inl ⟨by simp [wrOk,h1,h2],rfl⟩⟩
  have h2' := inR_true h2
  obtain ⟨i,rfl⟩ := Int.eq_ofNat_of_zero_le h2'.1
  have hi : i < s.list.length := by omega
  have hget : s.list[i]? = some s.list[i] := List.getElem?_eq_getElem hi
  have hseq := areLines_seq h1 _ (List.getElem_mem hi)
  have hbi : b.list[i].con = s.list[i].con := by
    have := congrArg (·[i]?) hb
    simp only [List.getElem?_map,List.getElem?_eq_getElem hi,List.getElem?_eq_getElem (hbl ▸ hi : i < b.list.length),Option.map_some,Option.some.injEq] at this
    exact this
  generalize s.list[i] = x at hget hseq hbi
  have bad : wrOk s.list (i : Int) v ws.list.length = false → ∀ c',finW (fun r O _ => WQ s (i : Int) v ws r O) (.tup [b.ref 4,.bool false]) (b.wood 4 TLine.encO TLine.inn) c' := fun h c' =>
    fin_all ⟨b,by rw [h],hb,.inl ⟨h,rfl⟩⟩
  simp [hi,h1,h2]
  refine ⟨x,hget,?_⟩
  by_cases h3 : x.Seq.tmod 2 = 1
  · simp [hi,h1,h2,h3]
    exact bad (by simp [wrOk,hget,h3]) _
  simp [hi,h1,h2,h3]
  refine ⟨x,hget,?_⟩
  by_cases h4 : 999999999998 < x.Seq
  · simp [hi,h1,h2,h3,h4]
    exact bad (by simp [wrOk,hget,h4]) _
  simp [hi,h1,h2,h3,h4]
  refine call_fn (inRange_fn _ _ _) (Views.refl _ _) .bool fun _ _ => ?_
  cases h5 : inR v 1 1000000000000
  · simp [hi,h1,h2,h3,h4]
    exact bad (by simp [wrOk,h5]) _
  by_cases h6 : (4100 : Int) < ws.list.length
  · simp [hi,h1,h2,h3,h4,h6]
    exact bad (by simp [wrOk]; intros; omega) _
  simp [hi,h1,h2,h3,h4,h6]
  have ok : wrOk s.list (i : Int) v ws.list.length = true := by
    have h4' : x.Seq ≤ 999999999998 := by omega
    have h6' : ws.list.length ≤ 4100 := by omega
    simp [wrOk,h1,h2,hget,h3,h4',h5,h6']
  cases b with
  | nil => simp at hbl; omega
  | mk t l =>
    simp only [SL.list_mk] at hb hbl hbi
    have hil : i < l.length := by omega
    have hgl : l[i]? = some l[i] := List.getElem?_eq_getElem hil
    generalize l[i] = y at hgl hbi
    have hys : y.Seq = x.Seq := by have := congrArg TLine.Seq hbi; exact this
    have hyo : y.Owner = x.Owner := by have := congrArg TLine.Owner hbi; exact this
    have w2 : IntKind.i64.wrap (x.Seq + 2) = x.Seq + 2 := wrap64 (by omega) (by omega)
    have hset : ∀ z : List AV,(l.map TLine.encO).length = l.length := fun _ => by simp
    simp [ref_mk,hil,wood_inns]
    refine ⟨y,hgl,?_⟩
    simp [ref_mk,hil,wood_inns,hys,w2,putA]
    refine ⟨y,hgl,?_⟩
    simp only [Lz_app]
    refine call_new (cloneIO hw _) (Views.refl _ _) fun r O c2 hc2 ⟨w,hr,hO,hwl⟩ _ _ => ?_
    subst hr; subst hO
    refine ⟨_,.refl _,free_ref _ _ _,fun o ho => flat_free encI_flat _ _ o ho _,?_⟩
    simp [ref_mk,hil,putA]
    have hown : y.Owner = 0 := by
      have hl : lineOk x = true := by
        unfold areLines at h1
        simp only [Bool.and_eq_true,List.all_eq_true] at h1
        exact h1.1 x (List.mem_of_getElem? hget)
      unfold lineOk at hl
      simp only [Bool.and_eq_true,beq_iff_eq,decide_eq_decide] at hl
      have ho := inR_true hl.1.1.1.2
      have := mt hl.2.2 h3
      omega
    refine fin_all ⟨.mk t l,by rw [ok]; simp [ref_mk],hb,.inr ⟨ok,t,i,y,w,rfl,rfl,hgl,hwl,?_⟩⟩
    simp [wrOne,TLine.encO,List.map_set,hys,hown]
theorem spec_wrO1 {s : SL TLine} {at_ v : Int} {ws : SL Int} (hn : s.list.length ≤ 1048576) (hz : ∀ x,x ∈ s.list → x.Words.list.length ≤ 1048576) (hw : ws.list.length ≤ 1048576) (c : Nat) :
    Con Tryz.prog 25 [s.av 4 TLine.enc,.int .i64 at_,.int .i64 v,ws.av 1 encI] [] c fun r O _ => WQ s at_ v ws r O := by
  refine con_of c25 (by simp [F25]) ?_
  unfold F25
  simp
  refine call_new (spec_copyO hn hz _) (Views.refl _ _) fun r O c1 hc ⟨b,hr,hO,hb⟩ _ _ => ?_
  subst hr; subst hO
  refine ⟨_,.refl _,free_ref _ _ _,fun o ho => free_wood TLine.freeO TLine.freeI _ o ho _,?_⟩
  have hbl : b.list.length = s.list.length := by simpa using congrArg List.length hb
  simp
  refine call_fn (spec_areLines (by unfold mx; omega)) (Views.refl _ _) .bool fun _ _ => ?_
  cases h1 : areLines s.list
  · simp
    exact fin_all ⟨b,by simp [wrOk,h1],hb,.inl ⟨by simp [wrOk,h1],rfl⟩⟩
  have hw1 : IntKind.i64.wrap ((s.list.length : Int) - 1) = (s.list.length : Int) - 1 := wrap64 (by omega) (by omega)
  simp [hw1]
  refine call_fn (l1In_fn _ _ _) (Views.refl _ _) .bool fun _ _ => ?_
  cases h2 : inR at_ 0 ((s.list.length : Int) - 1)
  · simp
    exact fin_all ⟨b,by simp [wrOk,h1,h2],hb,.inl ⟨by simp [wrOk,h1,h2],rfl⟩⟩
  have h2' := inR_true h2
  obtain ⟨i,rfl⟩ := Int.eq_ofNat_of_zero_le h2'.1
  have hi : i < s.list.length := by omega
  have hget : s.list[i]? = some s.list[i] := List.getElem?_eq_getElem hi
  have hseq := areLines_seq h1 _ (List.getElem_mem hi)
  have hbi : b.list[i].con = s.list[i].con := by
    have := congrArg (·[i]?) hb
    simp only [List.getElem?_map,List.getElem?_eq_getElem hi,List.getElem?_eq_getElem (hbl ▸ hi : i < b.list.length),Option.map_some,Option.some.injEq] at this
    exact this
  generalize s.list[i] = x at hget hseq hbi
  have bad : wrOk s.list (i : Int) v ws.list.length = false → ∀ c',finW (fun r O _ => WQ s (i : Int) v ws r O) (.tup [b.ref 4,.bool false]) (b.wood 4 TLine.encO TLine.inn) c' := fun h c' =>
    fin_all ⟨b,by rw [h],hb,.inl ⟨h,rfl⟩⟩
  simp [hi,h1,h2]
  refine ⟨x,hget,?_⟩
  by_cases h3 : x.Seq.tmod 2 = 1
  · simp [hi,h1,h2,h3]
    exact bad (by simp [wrOk,hget,h3]) _
  simp [hi,h1,h2,h3]
  refine ⟨x,hget,?_⟩
  by_cases h4 : 999999999998 < x.Seq
  · simp [hi,h1,h2,h3,h4]
    exact bad (by simp [wrOk,hget,h4]) _
  simp [hi,h1,h2,h3,h4]
  refine call_fn (l1In_fn _ _ _) (Views.refl _ _) .bool fun cc _ => ?_
  cases h5 : inR v 1 1000000000000
  · simp [hi,h1,h2,h3,h4]
    exact bad (by simp [wrOk,h5]) _
  by_cases h6 : (4100 : Int) < ws.list.length
  · simp [hi,h1,h2,h3,h4,h6]
    exact bad (by simp [wrOk]; intros; omega) _
  simp [hi,h1,h2,h3,h4,h6]
  have ok : wrOk s.list (i : Int) v ws.list.length = true := by
    have h4' : x.Seq ≤ 999999999998 := by omega
    have h6' : ws.list.length ≤ 4100 := by omega
    simp [wrOk,h1,h2,hget,h3,h4',h5,h6']
  cases b with
  | nil => simp at hbl; omega
  | mk t l =>
    simp only [SL.list_mk] at hb hbl hbi
    have hil : i < l.length := by omega
    have hgl : l[i]? = some l[i] := List.getElem?_eq_getElem hil
    generalize l[i] = y at hgl hbi
    have hys : y.Seq = x.Seq := by have := congrArg TLine.Seq hbi; exact this
    have hyo : y.Owner = x.Owner := by have := congrArg TLine.Owner hbi; exact this
    have w2 : IntKind.i64.wrap (x.Seq + 2) = x.Seq + 2 := wrap64 (by omega) (by omega)
    simp [ref_mk,hil,wood_inns]
    refine ⟨x,hget,?_⟩
    have m1 : ws.list.length * 8 ≤ 140737488355328 := by omega
    have m2 : ws.list.length ≤ mx := by unfold mx; omega
    simp [ref_mk,hil,wood_inns,w2,putA,m1,m2]
    have hd4 : List.drop 4 y.encO = [] := rfl
    refine ⟨y,hgl,?_⟩
    simp [hd4]
    refine fin_ren (List.Sublist.refl _) (.cons (renSet (row' := (wrOne v (.mk (cc + 1) ws.list) y).encO) ?_ ?_) (.refl _ _)) (.refl _) ⟨.mk t l,by rw [ok]; simp [ref_mk],hb,.inr ⟨ok,t,i,y,.mk (cc + 1) ws.list,rfl,rfl,hgl,rfl,?_⟩⟩
    · rfl
    · intro j a a' h7 h8
      match j,h7,h8 with
      | 0,h7,h8 => simp at h7; simp [TLine.encO,wrOne] at h8; exact .inl (by rw [← h7,← h8,hys])
      | 1,h7,h8 => simp at h7; simp [TLine.encO,wrOne] at h8; exact .inl (by rw [← h7,← h8])
      | 2,h7,h8 => simp at h7; simp [TLine.encO,wrOne] at h8; exact .inl (by rw [← h7,← h8])
      | 3,h7,h8 =>
        simp at h7; simp [TLine.encO,wrOne] at h8
        subst h7; subst h8
        exact .inr ⟨rfl,view_at' ((inns l).length + 1) 1 (SL.mk (cc + 1) ws.list) []⟩
      | j + 4,h7,h8 => simp at h7
    · simp [List.map_set,flat_wood]
def WR (s : SL TLine) (at_ v : Int) (ws : SL Int) (b : SL TLine) (l : List AV) : Prop := l = [.bool (wrOk s.list at_ v ws.list.length)] ∧ b.list.map TLine.con = (wr s.list at_ v ws).map TLine.con
theorem wq_wr {s : SL TLine} {at_ v : Int} {ws : SL Int} {r : AV} {O : List AObj} (h : WQ s at_ v ws r O) :
    ∃ Hs H2 : List AObj,Hs.Sublist O ∧ H2.Perm Hs ∧ ∃ (b : SL TLine) (l : List AV),r = .tup (b.ref 4 :: l) ∧ H2 = b.wood 4 TLine.encO TLine.inn ∧ WR s at_ v ws b l := by
  obtain ⟨b,hr,hb,⟨hk,hO⟩ | ⟨hk,t,i,x,w,ha,hbt,hg,hw,hO⟩⟩ := h
  · exact ⟨O,O,List.Sublist.refl _,List.Perm.refl _,b,_,hr,hO,rfl,by rw [hb]; unfold wr; rw [if_neg (by simp [hk])]⟩
  · obtain ⟨hi,hgx⟩ := List.getElem?_eq_some_iff.1 hg
    generalize b.list = bl at hb hbt hg hO hi hgx
    subst hbt; subst ha; subst hO
    have hsl : bl.length = s.list.length := by simpa using congrArg List.length hb
    obtain ⟨y,hy⟩ : ∃ y,s.list[i]? = some y := ⟨_,List.getElem?_eq_getElem (hsl ▸ hi)⟩
    have hxy : x.con = y.con := by
      have := congrArg (·[i]?) hb
      simp only [List.getElem?_map,hg,hy,Option.map_some,Option.some.injEq] at this
      exact this
    refine ⟨⟨false,t,4,(bl.set i (wrOne v w x)).map TLine.encO⟩ :: ((inns (bl.take i) ++ inns (bl.drop (i + 1))) ++ w.wood 1 encI noInn),⟨false,t,4,(bl.set i (wrOne v w x)).map TLine.encO⟩ :: inns (bl.set i (wrOne v w x)),?_,?_,.mk t (bl.set i (wrOne v w x)),_,?_,(wood_inns _ _).symm,rfl,?_⟩
    · rw [inns_at hi]
      refine List.Sublist.cons_cons _ (List.Sublist.append (List.Sublist.append (List.Sublist.refl _) (List.sublist_append_right _ _)) (List.Sublist.refl _))
    · rw [inns_set hi]
      refine List.Perm.cons _ ?_
      rw [List.append_assoc]
      exact List.Perm.append_left _ List.perm_append_comm
    · rw [hr]; simp [ref_mk]
    · unfold wr
      rw [if_pos hk]
      simp only [Int.toNat_natCast,hy,SL.list_mk,List.map_set,hb]
      congr 1
      have h1 : x.Seq = y.Seq := (congrArg TLine.Seq hxy : x.con.Seq = y.con.Seq)
      simp [TLine.con,wrOne,SL.pcon,h1,hw]
theorem spec_wrO {s : SL TLine} {at_ v : Int} {ws : SL Int} (hn : s.list.length ≤ 1048576) (hz : ∀ x,x ∈ s.list → x.Words.list.length ≤ 1048576) (hw : ws.list.length ≤ 1048576) (c : Nat) :
    Con Tryz.prog 25 [s.av 4 TLine.enc,.int .i64 at_,.int .i64 v,ws.av 1 encI] [] c fun r O _ => ∃ (b : SL TLine) (l : List AV),r = .tup (b.ref 4 :: l) ∧ O = b.wood 4 TLine.encO TLine.inn ∧ WR s at_ v ws b l :=
  con_perm (spec_wrO1 hn hz hw c) fun r H' c' h => wq_wr h
theorem impl_wrO {s : SL TLine} {at_ v : Int} {ws : SL Int} (hn : s.list.length ≤ 1048576) (hz : ∀ x,x ∈ s.list → x.Words.list.length ≤ 1048576) (hw : ws.list.length ≤ 1048576) (c : Nat) :
    Con Tryz.prog 32 [s.av 4 TLine.enc,.int .i64 at_,.int .i64 v,ws.av 1 encI] [] c fun r O _ => ∃ (b : SL TLine) (l : List AV),r = .tup (b.ref 4 :: l) ∧ O = b.wood 4 TLine.encO TLine.inn ∧ WR s at_ v ws b l :=
  con_perm (impl_wrO1 hn hz hw c) fun r H' c' h => wq_wr h
theorem wr_con {l m : List TLine} {at_ v : Int} {ws us : SL Int} (h : l.map TLine.con = m.map TLine.con) (hw : ws.list = us.list) : wrOk l at_ v ws.list.length = wrOk m at_ v us.list.length ∧ (wr l at_ v ws).map TLine.con = (wr m at_ v us).map TLine.con := by
  have hlen : l.length = m.length := by simpa using congrArg List.length h
  have hg : (l[at_.toNat]?).map TLine.con = (m[at_.toNat]?).map TLine.con := by
    have := congrArg (·[at_.toNat]?) h
    simpa only [List.getElem?_map] using this
  have hok : wrOk l at_ v ws.list.length = wrOk m at_ v us.list.length := by
    unfold wrOk
    rw [areLines_con' h,hlen,hw]
    congr 3
    cases h1 : l[at_.toNat]? with
    | none =>
      cases h2 : m[at_.toNat]? with
      | none => rfl
      | some y => rw [h1,h2] at hg; cases hg
    | some x =>
      cases h2 : m[at_.toNat]? with
      | none => rw [h1,h2] at hg; cases hg
      | some y =>
        rw [h1,h2] at hg
        have : x.con = y.con := by simpa using hg
        have : x.Seq = y.Seq := (congrArg TLine.Seq this : x.con.Seq = y.con.Seq)
        dsimp only; rw [this]
  refine ⟨hok,?_⟩
  unfold wr
  rw [hok]
  split
  · cases h1 : l[at_.toNat]? with
    | none =>
      cases h2 : m[at_.toNat]? with
      | none => exact h
      | some y => rw [h1,h2] at hg; cases hg
    | some x =>
      cases h2 : m[at_.toNat]? with
      | none => rw [h1,h2] at hg; cases hg
      | some y =>
        rw [h1,h2] at hg
        have hxy : x.con = y.con := by simpa using hg
        have hs : x.Seq = y.Seq := (congrArg TLine.Seq hxy : x.con.Seq = y.con.Seq)
        simp only [List.map_set,h]
        congr 1
        simp [TLine.con,wrOne,SL.pcon,hs,hw]
  · exact h
set_option maxRecDepth 100000
theorem szL_set {α : Type} (f : α → Nat) : ∀ (l : List α) (i : Nat) (z : α),szL f (l.set i z) ≤ szL f l + f z := by
  intro l
  induction l with
  | nil => intro i z; simp [szL]
  | cons x l ih =>
    intro i z
    cases i with
    | zero => simp [szL]; omega
    | succ i => have := ih i z; simp [szL] at this ⊢; omega
theorem wr_bounds {l : List TLine} {at_ v : Int} {ws : SL Int} (h : l.length + szL TLine.sz l ≤ 1048576) (hw : ws.list.length ≤ 1048576) :
    ∀ b : SL TLine,b.list.map TLine.con = (wr l at_ v ws).map TLine.con → szL cLine b.list ≤ 8388608 ∧ (∀ x,x ∈ b.list → x.Words.list.length ≤ 1048576) ∧ szLineS b ≤ 1099511627776 := fun b hb => by
  have key : ∀ l : List TLine,szL cLine l ≤ 3 * l.length + szL TLine.sz l := fun l => by
    induction l with
    | nil => simp [szL]
    | cons x l ih =>
      have e : x.sz = x.Words.list.length := rfl
      simp only [szL,List.map_cons,List.sum_cons,List.length_cons,cLine,e] at ih ⊢; omega
  have hz : szLineS b = szLineS (.mk 0 (wr l at_ v ws)) := szLineS_con hb
  have hr : (wr l at_ v ws).length + szL TLine.sz (wr l at_ v ws) ≤ 2097152 ∧ ∀ x,x ∈ wr l at_ v ws → x.Words.list.length ≤ 1048576 := by
    have h0 : ∀ x,x ∈ l → x.Words.list.length ≤ 1048576 := (szLine_bounds h).2.1
    unfold wr
    split
    · split
      · rename_i y hy
        refine ⟨?_,fun x hx => ?_⟩
        · have := szL_set TLine.sz l at_.toNat (wrOne v ws y)
          have e : (wrOne v ws y).sz = ws.list.length := rfl
          simp only [List.length_set]; omega
        · rcases List.mem_or_eq_of_mem_set hx with hx | rfl
          · exact h0 x hx
          · exact hw
      · exact ⟨by omega,h0⟩
    · exact ⟨by omega,h0⟩
  unfold szLineS at hz
  simp only [SL.list_mk] at hz
  refine ⟨by have := key b.list; omega,fun x hx => ?_,by unfold szLineS; omega⟩
  have : x.con ∈ (wr l at_ v ws).map TLine.con := hb ▸ List.mem_map_of_mem hx
  obtain ⟨y,hy,hyx⟩ := List.mem_map.1 this
  have e : y.con.Words.list = x.con.Words.list := by rw [hyx]
  have e' : y.Words.list = x.Words.list := e
  rw [← e']; exact hr.2 y hy
set_option maxRecDepth 100000
theorem okL_of {α : Type} {sz : α → Nat} {ok : α → Prop} {l : List α} {n : Nat} (hn : n ≤ mx) (h : l.length + szL sz l ≤ n) (ho : ∀ x,x ∈ l → sz x ≤ n → ok x) : l.length ≤ mx ∧ ∀ x,x ∈ l → ok x :=
  ⟨by omega,fun x hx => ho x hx (by have := szL_mem (sz := sz) hx; omega)⟩
theorem func_okz {f : TFunc} (h : f.sz ≤ 1048576) : f.ok := by
  have hm : (1048576 : Nat) ≤ mx := by unfold mx; omega
  have hz2 : f.sz = f.Name.length + (f.Params.list.length + szL TParam.sz f.Params.list) + (f.Uses.list.length + szL TParam.sz f.Uses.list) + (f.Slots.list.length + szL List.length f.Slots.list) + (f.Code.list.length + szL TIns.sz f.Code.list) := rfl
  refine ⟨by omega,okL_of (sz := TParam.sz) hm (by omega) fun x _ hx => ?_,okL_of (sz := TParam.sz) hm (by omega) fun x _ hx => ?_,okL_of (sz := List.length) hm (by omega) fun x _ hx => ?_,okL_of (sz := TIns.sz) hm (by omega) fun x _ hx => ?_⟩
  · have : x.sz = x.Name.length := rfl
    show x.Name.length ≤ mx; omega
  · have : x.sz = x.Name.length := rfl
    show x.Name.length ≤ mx; omega
  · show x.length ≤ mx; omega
  · have : x.sz = x.S.length + x.T.length := rfl
    exact ⟨by omega,by omega⟩
theorem class_okz {c : TClass} (h : c.sz ≤ 1048576) : c.ok := by
  have hm : (1048576 : Nat) ≤ mx := by unfold mx; omega
  have hz2 : c.sz = c.Name.length + c.Parent.length + (c.Fields.list.length + szL TField.sz c.Fields.list) + (c.Methods.list.length + szL TMethod.sz c.Methods.list) := rfl
  refine ⟨by omega,by omega,okL_of (sz := TField.sz) hm (by omega) fun x _ hx => ?_,okL_of (sz := TMethod.sz) hm (by omega) fun x _ hx => ?_⟩
  · have : x.sz = x.Name.length + x.Owner.length + x.Init.sz := rfl
    exact ⟨by omega,by omega,ok_of_sz _ (by omega)⟩
  · have : x.sz = x.Name.length + x.Owner.length + x.From.length := rfl
    exact ⟨by omega,by omega,by omega⟩
theorem prog_okz {p : TProgram} (h : p.sz ≤ 1048576) : p.ok := by
  have hm : (1048576 : Nat) ≤ mx := by unfold mx; omega
  have hz2 : p.sz = (p.Funcs.list.length + szL TFunc.sz p.Funcs.list) + (p.Classes.list.length + szL TClass.sz p.Classes.list) := rfl
  exact ⟨okL_of (sz := TFunc.sz) hm (by omega) fun x _ hx => func_okz hx,okL_of (sz := TClass.sz) hm (by omega) fun x _ hx => class_okz hx⟩
def imgOk (p : TProgram) : Prop := ProgOk p ∧ (eProg p).length ≤ 24000
open Classical in
noncomputable def imgW (p : TProgram) : SL Int := if imgOk p then .mk 0 (pack (eProg p)) else .nil
noncomputable def pubOk (l : List TLine) (at_ v : Int) (p : TProgram) : Bool := pdec (imgOk p) && wrOk l at_ v (imgW p).list.length
open Classical in
noncomputable def pubL (l : List TLine) (at_ v : Int) (p : TProgram) : List TLine := if imgOk p then wr l at_ v (imgW p) else l
def PubR (s : SL TLine) (at_ v : Int) (p : TProgram) (b : SL TLine) (l : List AV) : Prop := l = [.bool (pubOk s.list at_ v p)] ∧ b.list.map TLine.con = (pubL s.list at_ v p).map TLine.con
theorem pack_len (b : List UInt8) (h : b.length ≤ 24000) : (pack b).length ≤ 4001 := by unfold pack; rw [pk_len]; omega
theorem imgW_yes {p : TProgram} (h : imgOk p) : imgW p = .mk 0 (pack (eProg p)) := if_pos h
theorem pubL_yes {l : List TLine} {at_ v : Int} {p : TProgram} (h : imgOk p) : pubL l at_ v p = wr l at_ v (imgW p) := if_pos h
theorem pubL_no {l : List TLine} {at_ v : Int} {p : TProgram} (h : ¬ imgOk p) : pubL l at_ v p = l := if_neg h
theorem pub_of_wr {s : SL TLine} {at_ v : Int} {p : TProgram} {w : SL Int} {b : SL TLine} {l : List AV} (h : imgOk p) (hw : w.list = pack (eProg p)) (hr : WR s at_ v w b l) : PubR s at_ v p b l := by
  have hwi : w.list = (imgW p).list := by rw [imgW_yes h]; exact hw
  have := wr_con (at_ := at_) (v := v) (l := s.list) (m := s.list) rfl hwi
  refine ⟨?_,?_⟩
  · rw [hr.1,this.1,pubOk,pdec_true h,Bool.true_and]
  · rw [hr.2,this.2,pubL_yes h]
theorem pub_no {s : SL TLine} {at_ v : Int} {p : TProgram} {b : SL TLine} (h : ¬ imgOk p) (hb : b.list.map TLine.con = s.list.map TLine.con) : PubR s at_ v p b [.bool false] :=
  ⟨by rw [pubOk,pdec_false h]; rfl,by rw [pubL_no h,hb]⟩
theorem impl_pubO {s : SL TLine} {at_ v : Int} {p : TProgram} (hn : s.list.length ≤ 1048576) (hz : ∀ x,x ∈ s.list → x.Words.list.length ≤ 1048576) (hpz : p.sz ≤ 1048576) (c : Nat) :
    Con Tryz.prog 10 [s.av 4 TLine.enc,.int .i64 at_,.int .i64 v,.agg p.enc] [] c fun r O _ => ∃ (b : SL TLine) (l : List AV),r = .tup (b.ref 4 :: l) ∧ O = b.wood 4 TLine.encO TLine.inn ∧ PubR s at_ v p b l := by
  refine con_of c10 (by simp [F10]) ?_
  unfold F10
  simp
  refine call_tree0 (impl_encodeP (prog_okz hpz) hpz) fun r c1 hc1 ⟨b,hr,hb1,hb2⟩ _ => ?_
  subst hr
  simp
  have hbl : b.list.length ≤ 104857720 := by
    by_cases hok : ProgOk p
    · rw [hb1 hok]; exact eProg_len hok hpz
    · rw [hb2 hok]; simp
  refine call_tree0 (impl_pack (s := b) (by omega)) fun r c2 hc2 ⟨w,hr,hw⟩ _ => ?_
  subst hr
  have no : ¬ imgOk p → CallW Tryz.prog 31 [s.av 4 TLine.enc] [⟨false,c,2,[p.enc]⟩] c2 fun r H c' => finW (fun r O _ => ∃ (b : SL TLine) (l : List AV),r = .tup (b.ref 4 :: l) ∧ O = b.wood 4 TLine.encO TLine.inn ∧ PubR s at_ v p b l) (.tup [r,.bool false]) H c' := fun h => by
    refine call_new (impl_copyO hn hz _) (Views.refl _ _) fun r O c3 _ ⟨b,hr,hO,hb⟩ _ _ => ?_
    subst hr; subst hO
    refine ⟨_,.refl _,free_ref _ _ _,fun o ho => free_wood TLine.freeO TLine.freeI _ o ho _,?_⟩
    exact fin_sub (Hk := b.wood 4 TLine.encO TLine.inn) (List.sublist_append_right _ _) (.refl _) ⟨b,_,rfl,rfl,pub_no h hb⟩
  by_cases hok : ProgOk p
  rotate_left
  · rw [pdec_false hok]
    simp
    exact no fun h => hok h.1
  rw [pdec_true hok]
  by_cases hl : b.list.length ≤ 24000
  rotate_left
  · simp [hl]
    exact no fun h => hl (by rw [hb1 hok]; exact h.2)
  have himg : imgOk p := ⟨hok,by rw [← hb1 hok]; exact hl⟩
  have hwe : w.list = pack (eProg p) := by rw [hw hl,hb1 hok]
  simp [hl]
  refine call_new (impl_wrO (s := s) (ws := w) (at_ := at_) (v := v) hn hz (by rw [hwe]; have := pack_len _ himg.2; omega) _) (Views.refl _ _) fun r O c3 _ ⟨b2,l,hr,hO,hq⟩ _ _ => ?_
  subst hr; subst hO
  have hl1 := hq.1
  subst hl1
  refine ⟨_,.refl _,free_tup (by simp [free_ref,free_bool]) _,fun o ho => free_wood TLine.freeO TLine.freeI _ o ho _,?_⟩
  simp
  exact fin_sub (Hk := b2.wood 4 TLine.encO TLine.inn) (List.sublist_cons_self _ _) (.refl _) ⟨b2,_,rfl,rfl,pub_of_wr himg hwe hq⟩
theorem spec_pubO {s : SL TLine} {at_ v : Int} {p : TProgram} (hn : s.list.length ≤ 1048576) (hz : ∀ x,x ∈ s.list → x.Words.list.length ≤ 1048576) (hpz : p.sz ≤ 1048576) (c : Nat) :
    Con Tryz.prog 7 [s.av 4 TLine.enc,.int .i64 at_,.int .i64 v,.agg p.enc] [] c fun r O _ => ∃ (b : SL TLine) (l : List AV),r = .tup (b.ref 4 :: l) ∧ O = b.wood 4 TLine.encO TLine.inn ∧ PubR s at_ v p b l := by
  refine con_of c7 (by simp [F7]) ?_
  unfold F7
  simp
  refine call_tree0 (spec_encodeP (prog_okz hpz) hpz) fun r c1 hc1 ⟨b,hr,hb1,hb2⟩ _ => ?_
  subst hr
  simp
  have hbl : b.list.length ≤ 104857720 := by
    by_cases hok : ProgOk p
    · rw [hb1 hok]; exact eProg_len hok hpz
    · rw [hb2 hok]; simp
  refine call_tree0 (spec_pack (s := b) (by omega)) fun r c2 hc2 ⟨w,hr,hw⟩ _ => ?_
  subst hr
  have no : ¬ imgOk p → CallW Tryz.prog 24 [s.av 4 TLine.enc] [⟨false,c,2,[p.enc]⟩] c2 fun r H c' => finW (fun r O _ => ∃ (b : SL TLine) (l : List AV),r = .tup (b.ref 4 :: l) ∧ O = b.wood 4 TLine.encO TLine.inn ∧ PubR s at_ v p b l) (.tup [r,.bool false]) H c' := fun h => by
    refine call_new (spec_copyO hn hz _) (Views.refl _ _) fun r O c3 _ ⟨b,hr,hO,hb⟩ _ _ => ?_
    subst hr; subst hO
    refine ⟨_,.refl _,free_ref _ _ _,fun o ho => free_wood TLine.freeO TLine.freeI _ o ho _,?_⟩
    exact fin_sub (Hk := b.wood 4 TLine.encO TLine.inn) (List.sublist_append_right _ _) (.refl _) ⟨b,_,rfl,rfl,pub_no h hb⟩
  by_cases hok : ProgOk p
  rotate_left
  · rw [pdec_false hok]
    simp
    exact no fun h => hok h.1
  rw [pdec_true hok]
  by_cases hl : b.list.length ≤ 24000
  rotate_left
  · simp [hl]
    exact no fun h => hl (by rw [hb1 hok]; exact h.2)
  have himg : imgOk p := ⟨hok,by rw [← hb1 hok]; exact hl⟩
  have hwe : w.list = pack (eProg p) := by rw [hw hl,hb1 hok]
  simp [hl]
  refine call_new (spec_wrO (s := s) (ws := w) (at_ := at_) (v := v) hn hz (by rw [hwe]; have := pack_len _ himg.2; omega) _) (Views.refl _ _) fun r O c3 _ ⟨b2,l,hr,hO,hq⟩ _ _ => ?_
  subst hr; subst hO
  have hl1 := hq.1
  subst hl1
  refine ⟨_,.refl _,free_tup (by simp [free_ref,free_bool]) _,fun o ho => free_wood TLine.freeO TLine.freeI _ o ho _,?_⟩
  simp
  exact fin_sub (Hk := b2.wood 4 TLine.encO TLine.inn) (List.sublist_cons_self _ _) (.refl _) ⟨b2,_,rfl,rfl,pub_of_wr himg hwe hq⟩
theorem pub_same {l m : List TLine} {at_ v : Int} {p q : TProgram} (h : l.map TLine.con = m.map TLine.con) (hp : p.con = q.con) : pubOk l at_ v p = pubOk m at_ v q ∧ (pubL l at_ v p).map TLine.con = (pubL m at_ v q).map TLine.con := by
  obtain ⟨h1,h2⟩ := prog_same hp
  have hi : imgOk p ↔ imgOk q := by unfold imgOk; rw [h1,h2]
  by_cases hq : imgOk q
  · have hpi := hi.2 hq
    have hw : (imgW p).list = (imgW q).list := by rw [imgW_yes hq,imgW_yes hpi,h2]
    have := wr_con (at_ := at_) (v := v) h hw
    exact ⟨by rw [pubOk,pubOk,pdec_true hq,pdec_true hpi,this.1],by rw [pubL_yes hq,pubL_yes hpi,this.2]⟩
  · have hpi : ¬ imgOk p := fun h => hq (hi.1 h)
    exact ⟨by rw [pubOk,pubOk,pdec_false hq,pdec_false hpi]; rfl,by rw [pubL_no hq,pubL_no hpi,h]⟩
set_option maxRecDepth 100000
abbrev TEntry := TKey × TValue
@[simp] theorem vKind (k n : Int) (s : List UInt8) (x : Int) (I : SL TEntry) : (TValue.mk k n s x I).Kind = k := rfl
@[simp] theorem vNum (k n : Int) (s : List UInt8) (x : Int) (I : SL TEntry) : (TValue.mk k n s x I).Num = n := rfl
@[simp] theorem vStr (k n : Int) (s : List UInt8) (x : Int) (I : SL TEntry) : (TValue.mk k n s x I).Str = s := rfl
@[simp] theorem vNext (k n : Int) (s : List UInt8) (x : Int) (I : SL TEntry) : (TValue.mk k n s x I).Next = x := rfl
@[simp] theorem vItems (k n : Int) (s : List UInt8) (x : Int) (I : SL TEntry) : (TValue.mk k n s x I).Items = I := rfl
def TValue.encO (v : TValue) : List AV := [.int .i64 v.Kind,.int .i64 v.Num,.str v.Str,.int .i64 v.Next,v.Items.ref 8]
def TEntry.encO (e : TEntry) : List AV := [.bool e.1.Text,.int .i64 e.1.Num,.str e.1.Str,.int .i64 e.2.Kind,.int .i64 e.2.Num,.str e.2.Str,.int .i64 e.2.Next,e.2.Items.ref 8]
def TValue.innR : TValue → List AObj
  | .mk _ _ _ _ I => match I with | .nil => [] | .mk t xs => ⟨false,t,8,xs.map TEntry.encO⟩ :: (xs.attach.map fun e => e.1.2.innR).flatten
termination_by v => SizeOf.sizeOf v
decreasing_by exact items_lt (I := .mk _ xs) e.2
def TEntry.inn (e : TEntry) : List AObj := e.2.innR
def TValue.inn (v : TValue) : List AObj := v.Items.wood 8 TEntry.encO TEntry.inn
theorem innR_eq (v : TValue) : v.innR = v.inn := by
  cases v with
  | mk k n s x I =>
    rw [TValue.innR.eq_def]
    cases I with
    | nil => rfl
    | mk t xs =>
      show (⟨false,t,8,xs.map TEntry.encO⟩ :: (xs.attach.map fun e => e.1.2.innR).flatten : List AObj) = ⟨false,t,8,xs.map TEntry.encO⟩ :: xs.flatMap TEntry.inn
      rw [show (xs.attach.map fun e => e.1.2.innR) = xs.map TEntry.inn from by
        rw [show (fun e : { x // x ∈ xs } => e.1.2.innR) = TEntry.inn ∘ Subtype.val from rfl,← List.map_map,List.attach_map_subtype_val]]
      rfl
theorem TEntry.inn_eq (e : TEntry) : TEntry.inn e = e.2.inn := innR_eq e.2
theorem TValue.freeO : ∀ (x : TValue) a,a ∈ x.encO → Free a := fun x a ha => by
  simp [TValue.encO] at ha
  rcases ha with rfl | rfl | rfl | rfl | rfl
  · exact free_int _ _
  · exact free_int _ _
  · exact free_str _
  · exact free_int _ _
  · exact free_ref _ _
theorem TEntry.freeO : ∀ (x : TEntry) a,a ∈ TEntry.encO x → Free a := fun x a ha => by
  simp [TEntry.encO] at ha
  rcases ha with rfl | rfl | rfl | rfl | rfl | rfl | rfl | rfl
  · exact free_bool _
  · exact free_int _ _
  · exact free_str _
  · exact free_int _ _
  · exact free_int _ _
  · exact free_str _
  · exact free_int _ _
  · exact free_ref _ _
theorem TValue.freeI : ∀ (x : TValue) o,o ∈ x.inn → ∀ T,AvRows T o := by
  refine TValue.ind (p := fun x => ∀ o,o ∈ x.inn → ∀ T,AvRows T o) fun k n s x I ih o ho T => ?_
  cases I with
  | nil => cases ho
  | mk t l =>
    rcases List.mem_cons.1 ho with rfl | ho
    · exact avRows_free fun row hr a ha => by
        obtain ⟨x,_,rfl⟩ := List.mem_map.1 hr
        exact TEntry.freeO x a ha
    · obtain ⟨x,hx,h2⟩ := List.mem_flatMap.1 ho
      rw [TEntry.inn_eq] at h2
      exact ih x hx o h2 T
theorem TEntry.freeI : ∀ (x : TEntry) o,o ∈ TEntry.inn x → ∀ T,AvRows T o := fun x o ho => by
  rw [TEntry.inn_eq] at ho; exact TValue.freeI x.2 o ho
theorem viewItems : ∀ (v : TValue) (S : List AObj),(∀ o,o ∈ v.inn → o ∈ S) → View S (v.Items.ref 8) (v.Items.av 8 encE) := by
  refine TValue.ind (p := fun v => ∀ (S : List AObj),(∀ o,o ∈ v.inn → o ∈ S) → View S (v.Items.ref 8) (v.Items.av 8 encE)) fun k n s x I ih S hs => ?_
  cases I with
  | nil => exact .refl _
  | mk t l =>
    have get : ∀ (r : Nat) (x x' : List AV),(l.map TEntry.encO)[r]? = some x → (l.map encE)[r]? = some x' → ∃ y,y ∈ l ∧ x = TEntry.encO y ∧ x' = encE y := fun r x x' h1 h2 => by
      rw [List.getElem?_map] at h1 h2
      obtain ⟨y,hy,rfl⟩ := Option.map_eq_some_iff.1 h1
      rw [hy] at h2
      simp at h2
      exact ⟨y,List.mem_of_getElem? hy,rfl,h2.symm⟩
    show View S (.ref 0 t 8 l.length) (.slc t 8 (l.map encE))
    refine .ref (rows := l.map TEntry.encO) (hs _ (List.mem_cons_self ..)) (by simp) (by simp) (fun r x x' h1 h2 => ?_) (fun r j x a hx ha => ?_) fun r j x x' a a' h1 h2 h3 h4 => ?_
    · obtain ⟨y,_,rfl,rfl⟩ := get r x x' h1 h2; simp [TEntry.encO]
    · obtain ⟨y,hy,rfl⟩ := List.mem_map.1 (List.mem_of_getElem? hx)
      exact encE_cells y a (List.mem_of_getElem? ha)
    · obtain ⟨y,hy,rfl,rfl⟩ := get r x x' h1 h2
      have hv := ih y hy S fun o ho => hs o (List.mem_cons_of_mem _ (List.mem_flatMap.2 ⟨y,hy,by rw [TEntry.inn_eq]; exact ho⟩))
      have e4 : encE y = [.bool y.1.Text,.int .i64 y.1.Num,.str y.1.Str,.int .i64 y.2.Kind,.int .i64 y.2.Num,.str y.2.Str,.int .i64 y.2.Next,y.2.Items.av 8 encE] := by simp [encE,TKey.enc,TValue.enc_eq]
      rw [e4] at h4
      match j,h3,h4 with
      | 0,h3,h4 => simp [TEntry.encO] at h3; simp at h4; subst h3; subst h4; exact .refl _
      | 1,h3,h4 => simp [TEntry.encO] at h3; simp at h4; subst h3; subst h4; exact .refl _
      | 2,h3,h4 => simp [TEntry.encO] at h3; simp at h4; subst h3; subst h4; exact .refl _
      | 3,h3,h4 => simp [TEntry.encO] at h3; simp at h4; subst h3; subst h4; exact .refl _
      | 4,h3,h4 => simp [TEntry.encO] at h3; simp at h4; subst h3; subst h4; exact .refl _
      | 5,h3,h4 => simp [TEntry.encO] at h3; simp at h4; subst h3; subst h4; exact .refl _
      | 6,h3,h4 => simp [TEntry.encO] at h3; simp at h4; subst h3; subst h4; exact .refl _
      | 7,h3,h4 => simp [TEntry.encO] at h3; simp at h4; subst h3; subst h4; exact hv
      | j + 8,h3,h4 => simp [TEntry.encO] at h3
theorem view_OEntry {S : List AObj} {s : SL TEntry} (hs : ∀ o,o ∈ s.wood 8 TEntry.encO TEntry.inn → o ∈ S) : View S (s.ref 8) (s.av 8 encE) := viewItems (.mk 0 0 [] 0 s) S hs
theorem conE_eq {e d : TEntry} (h1 : e.1 = d.1) (h2 : e.2.con = d.2.con) : conE e = conE d := by unfold conE; rw [h1,h2]
theorem entry_toO {e : TEntry} (hk : e.1.Str.length ≤ 1048576) (hv : ∀ c,Con Tryz.prog 181 [.agg e.2.enc] [] c fun r O _ => ∃ b : TValue,r = .agg b.encO ∧ O = b.inn ∧ b.con = e.2.con) (c : Nat) :
    Con Tryz.prog 225 [.agg (encE e)] [] c fun r O _ => ∃ b : TEntry,r = .agg (TEntry.encO b) ∧ O = TEntry.inn b ∧ conE b = conE e := by
  refine con_of c225 (by simp [F225]) ?_
  unfold F225
  simp [putA]
  refine call_tree0 (TKey.to_fn (s := e.1) hk) fun r1 c1 hc1 ⟨b1,e1,q1⟩ f1 => ?_
  subst e1
  simp [putA,TKey.enc]
  refine call_new (hv _) (Views.refl _ _) fun r2 O c2 hc2 ⟨b2,hr,hO,q2⟩ _ _ => ?_
  subst hr; subst hO
  refine ⟨_,.refl _,free_agg (TValue.freeO b2) _,fun o ho => TValue.freeI b2 o ho _,?_⟩
  simp [putA,TValue.encO]
  refine fin_sub (Hk := b2.inn) (by first | exact List.sublist_append_right _ _ | exact ((List.Sublist.refl _).cons _).cons _ |>.cons _ | simp) (.refl _) ⟨b1,b2,by simp [TEntry.encO],by rw [TEntry.inn_eq],conE_eq (e := (b1,b2)) q1 q2⟩
theorem val_toO : ∀ v : TValue,v.sz ≤ 1048576 → ∀ c,Con Tryz.prog 181 [.agg v.enc] [] c fun r O _ => ∃ b : TValue,r = .agg b.encO ∧ O = b.inn ∧ b.con = v.con := by
  refine TValue.ind (p := fun v => v.sz ≤ 1048576 → ∀ c,Con Tryz.prog 181 [.agg v.enc] [] c fun r O _ => ∃ b : TValue,r = .agg b.encO ∧ O = b.inn ∧ b.con = v.con) fun k n s x I ih hz c => ?_
  rw [TValue.sz_mk] at hz
  refine con_of c181 (by simp [F181]) ?_
  unfold F181
  rw [TValue.enc_mk]
  simp [putA]
  have he : ∀ e,e ∈ I.list → szE e ≤ 1048576 := fun e he => by have := szL_mem (sz := szE) he; omega
  refine call_new (toSO_fn (enc := encE) (encO := TEntry.encO) (inn := TEntry.inn) (con := conE) (g := 225) (z := [.bool false,.int .i64 0,.str [],.int .i64 0,.int .i64 0,.str [],.int .i64 0,.nsl]) (bytes := 96) c212 rfl encE_len (fun _ => rfl) TEntry.freeO TEntry.freeI (s := I) (by omega) (by omega) (fun e h c => entry_toO (by have := he e h; simp only [szE] at this; omega) (ih e h (by have := he e h; simp only [szE] at this; omega)) c) _) (Views.refl _ _) fun r1 O c1 hc1 ⟨b1,hr,hO,q1⟩ _ _ => ?_
  subst hr; subst hO
  refine ⟨_,.refl _,free_ref _ _ _,fun o ho => free_wood TEntry.freeO TEntry.freeI _ o ho _,?_⟩
  simp [putA]
  refine fin_sub (Hk := b1.wood 8 TEntry.encO TEntry.inn) (by first | exact List.sublist_append_right _ _ | exact ((List.Sublist.refl _).cons _).cons _ |>.cons _ | simp) (.refl _) ⟨.mk k n s x b1,rfl,rfl,by rw [TValue.con_mk,TValue.con_mk,q1]⟩
theorem toValueO {x : TValue} (h : x.sz ≤ 1048576) (c : Nat) : Con Tryz.prog 181 [.agg x.enc] [] c fun r O _ => ∃ b : TValue,r = .agg b.encO ∧ O = b.inn ∧ b.con = x.con := val_toO x h c
end A
end Go.Proofs.YtgalkppgeoknaaaGreatDoor
