/-
  Maps: what each operation does to abstract values, and that the model's does so. No condition.
-/
import Derived.Test.YtfcimcoanlgldaaOps7
namespace Go.Proofs.Ytfcimcoanlgldaa
namespace A
set_option linter.unusedVariables false
section
variable {P : Program} {G : Gh} {H : List AObj} {w : World} {K : AV → List AObj → Nat → Prop}

def keyEq : AV → AV → Option Bool
  | .str a, .str b => some (a == b)
  | .int k a, .int k' b => if k = k' then some (a == b) else none
  | .bool a, .bool b => some (a == b)
  | _, _ => none

def mfind (k : AV) : List (List AV) → Nat → Option (Option (Nat × AV))
  | [], _ => some none
  | [k', v] :: rest, i =>
    match keyEq k k' with
    | some true => some (some (i, v))
    | some false => mfind k rest (i + 1)
    | none => none
  | _ :: _, _ => none

def keyDesc : TypeDesc → Bool
  | .string | .int _ | .bool => true
  | _ => false

/-- The key's type: its kind of value tells keys apart. -/
def keyT (P : Program) (t : TypeId) : Bool := match P.underlying t with | some .string | some (.int _) | some .bool => true | _ => false

def keyFits (d : TypeDesc) (k : AV) : Bool :=
  match d, k with
  | .string, .str _ | .int _, .int _ _ | .bool, .bool _ => true
  | _, _ => false

theorem beq_ba (a b : ByteArray) : (a == b) = (a.data.toList == b.data.toList) := by
  rw [beq_toListBytes, ByteArray.toList_eq, ByteArray.toList_eq]

theorem sameNow_eq {h : Array Obj} {d : TypeDesc} {a b : Value} {x y : AV} (ra : Rep G h a x) (rb : Rep G h b y) (hd : keyFits d x = true) {c : Bool} (hq : keyEq x y = some c) : Instr.sameNow d a b = some c := by
  cases ra <;> cases d <;> simp only [keyFits] at hd <;> first
    | (cases hd; done)
    | skip
  all_goals cases rb <;> simp only [keyEq] at hq <;> first
    | exact hq
    | (cases hq; done)
    | (subst_vars; simp only [Instr.sameNow]; rw [beq_ba]; exact hq)

theorem findNow_eq {h : Array Obj} {d : TypeDesc} {kv : Value} {k : AV} (rk : Rep G h kv k) (hd : keyFits d k = true) : ∀ (es : List MapEntry) (rows : List (List AV)) (i : Nat),
    es.length = rows.length → (∀ (r : Nat) (row : List AV), rows[r]? = some row → ∃ (k v : AV) (en : MapEntry), row = [k, v] ∧ es[r]? = some en ∧ Rep G h en.key k ∧ Rep G h en.val v) →
    ∀ res, mfind k rows i = some res → ∃ res', Instr.findNow d kv es i = some res' ∧ (match res, res' with
      | some (j, v), some (j', v') => j = j' ∧ i ≤ j ∧ Rep G h v' v ∧ ∃ k' : AV, rows[j - i]? = some [k', v] ∧ keyEq k k' = some true
      | none, none => True
      | _, _ => False) := by
  intro es
  induction es with
  | nil =>
    intro rows i hl hr res hm
    cases rows with
    | nil => simp only [mfind] at hm; cases hm; exact ⟨none, rfl, trivial⟩
    | cons a l => simp at hl
  | cons e es ih =>
    intro rows i hl hr res hm
    cases rows with
    | nil => simp at hl
    | cons row rows =>
      obtain ⟨k', v, en, rfl, he, r1, r2⟩ := hr 0 row rfl
      simp at he; subst he
      simp only [mfind] at hm
      simp only [Instr.findNow]
      cases hq : keyEq k k' with
      | none => rw [hq] at hm; cases hm
      | some b =>
        rw [hq] at hm
        rw [sameNow_eq rk r1 hd hq]
        cases b with
        | true =>
          simp only at hm; cases hm
          exact ⟨some (i, e.val), rfl, rfl, Nat.le_refl _, r2, k', by simp, hq⟩
        | false =>
          simp only at hm
          obtain ⟨res', h1, h2⟩ := ih rows (i + 1) (by simpa using hl) (fun r row h => hr (r + 1) row h) res hm
          refine ⟨res', h1, ?_⟩
          cases res with
          | none =>
            cases res' with
            | none => trivial
            | some p => exact h2.elim
          | some p =>
            cases res' with
            | none => exact h2.elim
            | some p' =>
              obtain ⟨j, v'⟩ := p
              obtain ⟨j', v''⟩ := p'
              obtain ⟨e1, e2, e3, k'', e4, e5⟩ := h2
              refine ⟨e1, by omega, e3, k'', ?_, e5⟩
              have : j - i = j - (i + 1) + 1 := by omega
              rw [this]; exact e4

theorem run_checkKey {t : TypeId} {d : TypeDesc} (ht : P.underlying t = some d) (hd : keyDesc d = true) (b : Bool) (n : Nat) (v : Value) : (Instr.checkKey b (n + 1) t v).run P w = .ok () w := by
  cases d <;> first
    | (cases hd; done)
    | (simp only [Instr.checkKey, Sem.run_bind, run_underlying ht, Result.andThen_ok, Sem.run_pure])

theorem run_findKey {t : TypeId} {d : TypeDesc} (ht : P.underlying t = some d) {k : Value} {es : List MapEntry} {r : Option (Nat × Value)} (h : Instr.findNow d k es 0 = some r) : (Instr.findKey t k es).run P w = .ok r w := by
  unfold Instr.findKey
  simp only [Sem.run_bind, run_underlying ht, Result.andThen_ok, h, Sem.run_pure]

/-- The zero of a type, as a value. -/
def zeroVal? (P : Program) (t : TypeId) : Option AV := do
  let i ← P.info? t
  let z ← i.zero
  match z with
  | .agg cs => (cs.toList.mapM constAV).map .agg
  | v => constAV v

theorem zeroVal_some {t : TypeId} {a : AV} (h : zeroVal? P t = some a) : ∃ z, (∀ w : World, (zeroValue t).run P w = .ok z w) ∧ ∀ (G : Gh) (hp : Array Obj), Rep G hp z a := by
  unfold zeroVal? at h
  simp only [Option.bind_eq_bind, Option.bind_eq_some_iff] at h
  obtain ⟨i, hi, z, hz, h⟩ := h
  refine ⟨z, fun w => r_zero hi hz w, fun G hp => ?_⟩
  split at h
  · simp only [Option.map_eq_some_iff] at h
    obtain ⟨l, hl, rfl⟩ := h
    obtain ⟨h1, h2⟩ := mapM_constAV _ _ hl
    refine .agg (by simpa using h1) (fun j b hj => ?_) (fun j b hj => ?_)
    · obtain ⟨v, _, hc⟩ := h2 j b hj; exact constAV_cell hc
    · obtain ⟨v, hv, hc⟩ := h2 j b hj
      rw [Array.getElem?_toList] at hv
      rw [getD_of hv]; exact constAV_rep hc G hp
  · exact constAV_rep h G hp

def lookupW (d : TypeDesc) (zero : AV) (ok : Bool) (m k : AV) (H : List AObj) (K : AV → Prop) : Prop :=
  match m with
  | .mref i tag => keyFits d k = true ∧ getW H i fun ob => ob.tag = tag ∧ ob.mp = true ∧
      (match mfind k ob.rows 0 with
       | some (some (_, v)) => K (if ok then .tup [v, .bool true] else v)
       | some none => K (if ok then .tup [zero, .bool false] else zero)
       | none => False)
  | _ => False

theorem rep_pair {G : Gh} {h : Array Obj} {v : Value} {a : AV} (r : Rep G h v a) (b : Bool) : Rep G h (.tuple #[v, .bool b]) (.tup [a, .bool b]) := by
  refine .tup rfl fun j x hj => ?_
  match j, hj with
  | 0, hj => simp at hj; subst hj; exact r
  | 1, hj => simp at hj; subst hj; exact .bool
  | j + 2, hj => simp at hj

theorem lookup_sound (I : Inv G H w.heap) {t kt et : TypeId} {d : TypeDesc} (ht : P.underlying t = some (.map kt et)) (hk : P.underlying kt = some d) (hd : keyDesc d = true)
    {zero : AV} (hz : zeroVal? P et = some zero) {ok : Bool} {u v : Value} {x y : AV} (rx : Rep G w.heap u x) (ry : Rep G w.heap v y) (hk' : lookupW d zero ok x y H (fun v => K v H G.c)) :
    Run P (Instr.lookup t u v ok) G H w K := by
  cases rx <;> simp only [lookupW] at hk'
  case mref i tag hc =>
    obtain ⟨hfit, ob, hob, rfl, hmp, hk'⟩ := hk'
    obtain ⟨es, clock, h1, h2, h3, h4⟩ := (I.obj ob (List.mem_of_getElem? hob)).mlies hmp
    obtain ⟨z, hz1, hz2⟩ := zeroVal_some hz
    have hg : (getObj (G.m ob.tag)).run P w = .ok (.map es clock) w := by simp only [getObj, Sem.run, h1]
    cases hm : mfind y ob.rows 0 with
    | none => rw [hm] at hk'; exact hk'.elim
    | some res =>
      rw [hm] at hk'
      obtain ⟨res', e1, e2⟩ := findNow_eq ry hfit es.toList ob.rows 0 (by simpa using h2) (fun r row h => by
        obtain ⟨k, v, en, a1, a2, a3, a4⟩ := h4 r row h
        exact ⟨k, v, en, a1, by rw [Array.getElem?_toList]; exact a2, a3, a4⟩) res hm
      have run : (Instr.lookup t (.map (some (G.m ob.tag))) v ok).run P w = (match res' with
          | some (_, v) => .ok (if ok then .tuple #[v, .bool true] else v) w
          | none => .ok (if ok then .tuple #[z, .bool false] else z) w) := by
        unfold Instr.lookup
        simp only [Sem.run_bind, run_underlying ht, Result.andThen_ok, hg, Sem.run_pure, run_checkKey hk hd, run_findKey hk e1]
        cases res' with
        | none => simp only [Sem.run_bind, hz1, Result.andThen_ok, Sem.run_pure]
        | some p => rfl
      cases res with
      | none =>
        cases res' with
        | some p => exact e2.elim
        | none =>
          refine Run.here I run hk' ?_
          cases ok
          · exact hz2 _ _
          · exact rep_pair (hz2 _ _) false
      | some p =>
        cases res' with
        | none => exact e2.elim
        | some p' =>
          obtain ⟨j, a⟩ := p
          obtain ⟨j', v'⟩ := p'
          obtain ⟨_, _, r, _⟩ := e2
          refine Run.here I run hk' ?_
          cases ok
          · exact r
          · exact rep_pair r true
  all_goals exact hk'.elim

def mkmapW (H : List AObj) (c : Nat) (K : AV → List AObj → Nat → Prop) : Prop := K (.mref H.length c) (H ++ [⟨true, c, 0, []⟩]) (c + 1)

theorem mkmap_sound (I : Inv G H w.heap) {t : TypeId} (hk : mkmapW H G.c K) : Run P (Instr.makeMap t none) G H w K := by
  have hob : ObjOk (G.new w.heap.size) (w.heap.push (.map #[] 0)) ⟨true, G.c, 0, []⟩ := by
    refine ⟨by simp [Gh.new], fun h => (by cases h), fun _ => ⟨#[], 0, by simp [Gh.new], rfl, by simp, by simp⟩⟩
  refine ⟨.map (some w.heap.size), w.alloc (.map #[] 0), ?_, _, _, G.new w.heap.size, hk, Ext.push I _ _ rfl, Inv.push I _ _ rfl hob, ?_⟩
  · unfold Instr.makeMap
    simp only [Sem.run_bind, run_newObj, Result.andThen_ok, Sem.run_pure]
    rfl
  · have h := Rep.mref (G := G.new w.heap.size) (h := (w.alloc (.map #[] 0)).heap) (i := H.length) (tag := G.c) (by simp [Gh.new])
    simpa [Gh.new] using h

def mupdW (d : TypeDesc) (m k v : AV) (H : List AObj) (c : Nat) (K : AV → List AObj → Nat → Prop) : Prop :=
  match m with
  | .mref i tag => keyFits d k = true ∧ getW H i fun ob => ob.tag = tag ∧ ob.mp = true ∧
      (match mfind k ob.rows 0 with
       | some (some (j, _)) => K .und (H.set i { ob with rows := ob.rows.set j [k, v] }) c
       | some none => ob.rows.length < mx ∧ K .und (H.set i { ob with rows := ob.rows ++ [[k, v]] }) c
       | none => False)
  | _ => False

theorem keyThatStays_run {h : Array Obj} {a b : Value} {x y : AV} (ra : Rep G h a x) (rb : Rep G h b y) (hk : keyEq x y = some true) : (Instr.keyThatStays b a).run P w = .ok a w := by
  have : Instr.sameBits 10000 b a = true := by
    cases ra <;> cases rb <;> simp only [keyEq] at hk <;> first
      | (cases hk; done)
      | skip
    · split at hk
      · subst_vars; simp at hk; subst hk; simp [Instr.sameBits]
      · cases hk
    · simp at hk; subst hk; simp [Instr.sameBits]
    · simp only [Instr.sameBits]
      rw [beq_ba]
      subst_vars
      simp only [Option.some.injEq, beq_iff_eq] at hk ⊢
      exact hk.symm
  unfold Instr.keyThatStays
  rw [this]; rfl

theorem Inv.writeMap {h : Array Obj} (I : Inv G H h) {i : Nat} {ob : AObj} (hob : H[i]? = some ob) {es es' : Array MapEntry} {clock clock' : Nat} (h1 : h[G.m ob.tag]? = some (.map es clock)) {rows : List (List AV)} (hmp : ob.mp = true)
    (hs : es'.size = rows.length) (hm : rows.length ≤ mx) (hr : ∀ (r : Nat) (row : List AV), rows[r]? = some row → ∃ (k v : AV) (en : MapEntry), row = [k, v] ∧ es'[r]? = some en ∧ Rep G h en.key k ∧ Rep G h en.val v) :
    Ext1 G h G (h.setIfInBounds (G.m ob.tag) (.map es' clock')) ∧ Inv G (H.set i { ob with rows := rows }) (h.setIfInBounds (G.m ob.tag) (.map es' clock')) := by
  have hnc : ∀ c e fr, h[G.m ob.tag]? = some (.cells c e fr) → ∃ c' fr', (Obj.map es' clock') = .cells c' e fr' ∧ c'.size = c.size := fun c e fr hb => by rw [h1] at hb; cases hb
  have x : Ext1 G h G (h.setIfInBounds (G.m ob.tag) (.map es' clock')) := Ext1.write (fun u hF => I.nfz_m (mem_tags (List.mem_of_getElem? hob)) hF) hnc
  refine I.write hob (ob' := { ob with rows := rows }) rfl hnc ⟨(I.obj ob (List.mem_of_getElem? hob)).c, fun hm' => by simp [hmp] at hm', fun _ => ⟨es', clock', by simp [lt_of_get h1], hs, hm, fun r row h => ?_⟩⟩
  obtain ⟨k, v, en, a1, a2, a3, a4⟩ := hr r row h
  exact ⟨k, v, en, a1, a2, a3.ext x, a4.ext x⟩

theorem mupd_sound (I : Inv G H w.heap) {t kt et : TypeId} {d : TypeDesc} (ht : P.underlying t = some (.map kt et)) (hk : P.underlying kt = some d) (hd : keyDesc d = true)
    {u v z : Value} {x y q : AV} (rx : Rep G w.heap u x) (ry : Rep G w.heap v y) (rz : Rep G w.heap z q) (hk' : mupdW d x y q H G.c K) :
    ∃ w', (Instr.mapUpdate t u v z).run P w = .ok () w' ∧ Good G H w K undef w' := by
  cases rx <;> simp only [mupdW] at hk'
  case mref i tag hc =>
    obtain ⟨hfit, ob, hob, rfl, hmp, hk'⟩ := hk'
    obtain ⟨es, clock, h1, h2, h3, h4⟩ := (I.obj ob (List.mem_of_getElem? hob)).mlies hmp
    have hg : (getObj (G.m ob.tag)).run P w = .ok (.map es clock) w := by simp only [getObj, Sem.run, h1]
    have hset : ∀ o : Obj, (setObj (G.m ob.tag) o).run P w = .ok () (wset w (G.m ob.tag) o) := fun o => by
      simp only [setObj, Sem.run, h1]; rfl
    cases hm : mfind y ob.rows 0 with
    | none => rw [hm] at hk'; exact hk'.elim
    | some res =>
      rw [hm] at hk'
      obtain ⟨res', e1, e2⟩ := findNow_eq ry hfit es.toList ob.rows 0 (by simpa using h2) (fun r row h => by
        obtain ⟨k, v, en, a1, a2, a3, a4⟩ := h4 r row h
        exact ⟨k, v, en, a1, by rw [Array.getElem?_toList]; exact a2, a3, a4⟩) res hm
      cases res with
      | none =>
        cases res' with
        | some p => exact e2.elim
        | none =>
          obtain ⟨hlt, hk'⟩ := hk'
          obtain ⟨x, I'⟩ := Inv.writeMap I hob h1 (es' := es.push { key := v, val := z, born := clock }) (clock' := clock + 1) (rows := ob.rows ++ [[y, q]]) hmp (by simp [h2]) (by simp; omega) (fun r row h => by
            rw [List.getElem?_append] at h
            split at h
            · obtain ⟨k, v', en, a1, a2, a3⟩ := h4 r row h
              exact ⟨k, v', en, a1, by rw [Array.getElem?_push, if_neg (by omega)]; exact a2, a3⟩
            · rename_i hge
              have hr0 : r - ob.rows.length = 0 := by
                have := (List.getElem?_eq_some_iff.1 h).1; simp at this; omega
              rw [hr0] at h; simp at h; subst h
              exact ⟨y, q, _, rfl, by rw [Array.getElem?_push, if_pos (by omega)], ry, rz⟩)
          refine ⟨_, ?_, .und, _, _, hk', Ext.write I hob (ob' := { ob with rows := ob.rows ++ [[y, q]] }) rfl x, I', .und⟩
          unfold Instr.mapUpdate
          simp only [Sem.run_bind, run_underlying ht, Result.andThen_ok, hg, run_checkKey hk hd, run_findKey hk e1, hset]
      | some p =>
        cases res' with
        | none => exact e2.elim
        | some p' =>
          obtain ⟨j, a⟩ := p
          obtain ⟨j', v'⟩ := p'
          obtain ⟨hj, _, r, k', hrow, hkq⟩ := e2
          subst hj
          rw [Nat.sub_zero] at hrow
          obtain ⟨k0, v0, en, a1, a2, a3, a4⟩ := h4 j _ hrow
          cases a1
          have hjl : j < ob.rows.length := (List.getElem?_eq_some_iff.1 hrow).1
          have hstay : (Instr.keyThatStays (((es[j]?).map (·.key)).getD v) v).run P w = .ok v w := by
            rw [a2]; exact keyThatStays_run ry a3 hkq
          obtain ⟨x, I'⟩ := Inv.writeMap I hob h1 (es' := es.modify j fun e => { e with key := v, val := z }) (clock' := clock) (rows := ob.rows.set j [y, q]) hmp (by simp [h2]) (by simpa using h3) (fun r row h => by
            rw [List.getElem?_set] at h
            split at h
            · rename_i e; subst e; cases h
              exact ⟨y, q, { en with key := v, val := z }, rfl, by rw [Array.getElem?_modify, if_pos rfl, a2]; rfl, ry, rz⟩
            · rename_i hne
              obtain ⟨k, v'', en', b1, b2, b3⟩ := h4 r row h
              exact ⟨k, v'', en', b1, by rw [Array.getElem?_modify, if_neg hne]; exact b2, b3⟩)
          refine ⟨_, ?_, .und, _, _, hk', Ext.write I hob (ob' := { ob with rows := ob.rows.set j [y, q] }) rfl x, I', .und⟩
          unfold Instr.mapUpdate
          simp only [Sem.run_bind, run_underlying ht, Result.andThen_ok, hg, run_checkKey hk hd, run_findKey hk e1, hstay, hset]
  all_goals exact hk'.elim
end
end A
end Go.Proofs.Ytfcimcoanlgldaa
