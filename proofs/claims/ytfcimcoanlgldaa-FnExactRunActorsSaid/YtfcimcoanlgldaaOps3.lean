/-
  Stores, new variables, slices made and grown: what each operation does to abstract values, and that the model's does so. No condition.
-/
import Derived.Test.YtfcimcoanlgldaaOps2
namespace Go.Proofs.Ytfcimcoanlgldaa
namespace A
set_option linter.unusedVariables false
section
variable {P : Program} {G : Gh} {H : List AObj} {w : World} {K : AV → List AObj → Nat → Prop}

/-! ### stores -/
def putA (row : List AV) (o : Nat) (l : List AV) : List AV := row.take o ++ l ++ row.drop (o + l.length)

theorem putA_length (row : List AV) (o : Nat) (l : List AV) (h : o + l.length ≤ row.length) : (putA row o l).length = row.length := by
  simp [putA]; omega

theorem putA_in (row : List AV) (o : Nat) (l : List AV) (h : o + l.length ≤ row.length) (j : Nat) (hj : j < l.length) : (putA row o l)[o + j]? = l[j]? := by
  unfold putA
  rw [List.append_assoc, List.getElem?_append_right (by simp; omega)]
  rw [List.getElem?_append_left (by simp; omega)]
  congr 1; simp; omega

theorem putA_out (row : List AV) (o : Nat) (l : List AV) (h : o + l.length ≤ row.length) (j : Nat) (hj : j < o ∨ o + l.length ≤ j) : (putA row o l)[j]? = row[j]? := by
  unfold putA
  rcases hj with hj | hj
  · rw [List.append_assoc, List.getElem?_append_left (by simp; omega), List.getElem?_take_of_lt hj]
  · rw [List.getElem?_append_right (by simp; omega), List.getElem?_drop]
    congr 1; simp; omega

def storeW (n : Nat) (a x : AV) (H : List AObj) (c : Nat) (K : AV → List AObj → Nat → Prop) : Prop :=
  match a with
  | .ptr i tag w r o => cellsW x fun l => l.length = n ∧ getW H i fun ob => ob.tag = tag ∧ ob.mp = false ∧ ob.w = w ∧ getW ob.rows r fun row =>
      o + n ≤ w ∧ K .und (H.set i { ob with rows := ob.rows.set r (putA row o l) }) c
  | _ => False

theorem mul_lt_of {r r' n w : Nat} (h : r < r') : r * w + w ≤ r' * w := by
  have : (r + 1) * w ≤ r' * w := Nat.mul_le_mul_right w h
  rw [Nat.add_mul] at this
  omega

theorem store_sound (I : Inv G H w.heap) {t : TypeId} {n : Nat} (ht : sizeOf? P t = some n) {u v : Value} {a x : AV} (ra : Rep G w.heap u a) (rx : Rep G w.heap v x)
    (hk : storeW n a x H G.c K) : ∃ w', (Instr.storeAt t u v).run P w = .ok () w' ∧ Good G H w K undef w' := by
  cases ra <;> simp only [storeW] at hk
  case ptr i tag wd r o hc =>
    obtain ⟨l, ⟨hln, ob, hob, rfl, hmp, rfl, row, hrow, hon, hk⟩, hcs, hcr⟩ := cellsW_rep rx hk
    obtain ⟨c, e, fr, h1, h2, h3, h4, h5, h6⟩ := (I.obj ob (List.mem_of_getElem? hob)).lies hmp
    obtain ⟨i', hi', hsz⟩ : ∃ i', P.info? t = some i' ∧ i'.size = n := by simpa [sizeOf?] using ht
    have hrl : row.length = ob.w := h5 r row hrow
    have hr : r < ob.rows.length := (List.getElem?_eq_some_iff.1 hrow).1
    have hmul := mul_lt_of (r := r) (r' := ob.rows.length) (n := 0) (w := ob.w) hr
    have hlen : v.cells.toList.length = n := by simpa [hln] using hcs
    have hin : r * ob.w + o + 0 + v.cells.toList.length ≤ c.size := by omega
    have hget : ∀ j (b : AV), l[j]? = some b → ∃ z, v.cells.toList[j]? = some z ∧ b.cell = true ∧ Rep G w.heap z b := fun j b hj => by
      have hjl : j < l.length := (List.getElem?_eq_some_iff.1 hj).1
      have := hcr j b hj
      refine ⟨v.cells.getD j undef, ?_, this⟩
      have hj' : j < v.cells.size := by omega
      simp only [Array.getD, hj', dite_true]
      rw [Array.getElem?_toList]; simp [hj']
    have hone : ∀ z, z ∈ v.cells.toList → z.oneCell' = true := fun z hz => by
      obtain ⟨j, hj⟩ := List.mem_iff_getElem?.1 hz
      have hjl : j < l.length := by have := (List.getElem?_eq_some_iff.1 hj).1; omega
      obtain ⟨z', hz', hc', r'⟩ := hget j l[j] (List.getElem?_eq_getElem hjl)
      rw [hj] at hz'; cases hz'
      exact r'.oneCell hc'
    have hrun := run_storeCells P (G.m ob.tag) (r * ob.w + o) e fr v.cells.toList 0 w c h1 h2 hin hone
    refine ⟨wset w (G.m ob.tag) (.cells (putCells c (r * ob.w + o + 0) v.cells.toList) e fr), ?_, ?_⟩
    · show (do storeVar t (← Instr.sureAddr _) v : Sem Unit).run P w = _
      simp only [Instr.sureAddr, Sem.run_bind, Sem.run_pure, Result.andThen_ok, storeVar, r_sizeOf hi', hsz, ne_eq]
      rw [if_neg (by simpa [hln] using hcs)]
      exact hrun
    · have hob' : ObjOk G (w.heap.setIfInBounds (G.m ob.tag) (.cells (putCells c (r * ob.w + o + 0) v.cells.toList) e fr)) { ob with rows := ob.rows.set r (putA row o l) } := by
        have x : Ext1 G w.heap G (w.heap.setIfInBounds (G.m ob.tag) (.cells (putCells c (r * ob.w + o + 0) v.cells.toList) e fr)) :=
          Ext1.write (fun u hF => I.nfz_m (mem_tags (List.mem_of_getElem? hob)) hF) fun c' e' fr' hb => by
            rw [h1] at hb; cases hb; exact ⟨_, _, rfl, putCells_size _ _ _⟩
        refine ⟨(I.obj ob (List.mem_of_getElem? hob)).c, fun _ => ?_, fun hm => by simp [hmp] at hm⟩
        refine ⟨putCells c (r * ob.w + o + 0) v.cells.toList, e, fr, by simp [lt_of_get h1], by simpa [putCells_size] using h2, by simpa [putCells_size] using h3, by simpa using h4, fun r' row' hr' => ?_, fun r' j row' a' hr' ha' => ?_⟩
        · simp only [List.getElem?_set] at hr'
          split at hr'
          · rename_i hrr; subst hrr
            cases hr'
            rw [putA_length _ _ _ (by omega)]; exact hrl
          · exact h5 r' row' hr'
        · simp only [List.getElem?_set] at hr'
          split at hr'
          · rename_i hrr; subst hrr
            cases hr'
            by_cases hj : o ≤ j ∧ j < o + l.length
            · obtain ⟨q, rfl⟩ : ∃ q, j = o + q := ⟨j - o, by omega⟩
              rw [putA_in _ _ _ (by omega) q (by omega)] at ha'
              obtain ⟨z, hz, hcz, rz⟩ := hget q a' ha'
              refine ⟨z, ?_, hcz, rz.ext x⟩
              have e1 : r * ob.w + (o + q) = r * ob.w + o + 0 + q := by omega
              rw [e1]
              exact putCells_in _ _ _ _ _ hin hz
            · rw [putA_out _ _ _ (by omega) j (by omega)] at ha'
              have hjw : j < ob.w := by rw [← hrl]; exact (List.getElem?_eq_some_iff.1 ha').1
              obtain ⟨z, hz, hcz, rz⟩ := h6 r j row a' hrow ha'
              exact ⟨z, by dsimp only; rw [putCells_out _ _ _ _ (by omega)]; exact hz, hcz, rz.ext x⟩
          · rename_i hrr
            obtain ⟨z, hz, hcz, rz⟩ := h6 r' j row' a' hr' ha'
            have hjw : j < ob.w := by rw [← h5 r' row' hr']; exact (List.getElem?_eq_some_iff.1 ha').1
            refine ⟨z, ?_, hcz, rz.ext x⟩
            dsimp only
            rw [putCells_out]
            · exact hz
            · rcases Nat.lt_or_ge r' r with hlt | hge
              · left; have := mul_lt_of (r := r') (r' := r) (n := 0) (w := ob.w) hlt; omega
              · right; have := mul_lt_of (r := r) (r' := r') (n := 0) (w := ob.w) (by omega); omega
      obtain ⟨x, I'⟩ := I.write hob (ob' := { ob with rows := ob.rows.set r (putA row o l) }) rfl (fun c' e' fr' hb => by rw [h1] at hb; cases hb; exact ⟨_, _, rfl, putCells_size _ _ _⟩) hob'
      exact ⟨.und, _, G, hk, Ext.write I hob (ob' := { ob with rows := ob.rows.set r (putA row o l) }) rfl x, I', .und⟩
  all_goals exact hk.elim

/-! ### new variables -/
/-- A new block that holds these rows, one behind the other. -/
theorem newObj_good (I : Inv G H w.heap) {cs : Array Value} {e : TypeId} {wd : Nat} {rows : List (List AV)} (hsz : rows.length * wd ≤ cs.size) (hmx : rows.length ≤ mx)
    (hw : ∀ (r : Nat) (row : List AV), rows[r]? = some row → row.length = wd) (hr : ∀ (r j : Nat) (row : List AV) (a : AV), rows[r]? = some row → row[j]? = some a → ∃ v, cs[r * wd + j]? = some v ∧ a.cell = true ∧ Rep G w.heap v a)
    (fr : Nat × Nat) (hfr : ∀ i : Nat, i < cs.size → ¬ (fr.1 ≤ i ∧ i < fr.2)) :
    Ext G H w (G.new w.heap.size) (H ++ [⟨false, G.c, wd, rows⟩]) (w.alloc (.cells cs e fr)) ∧ Inv (G.new w.heap.size) (H ++ [⟨false, G.c, wd, rows⟩]) (w.alloc (.cells cs e fr)).heap := by
  have x : Ext1 G w.heap (G.new w.heap.size) (w.heap.push (.cells cs e fr)) := Ext1.push I _ _
  refine ⟨Ext.push I _ _ rfl, Inv.push I _ _ rfl ⟨by simp [Gh.new], fun _ => ?_, fun h => by cases h⟩⟩
  refine ⟨cs, e, fr, by simp [Gh.new], hfr, hsz, hmx, hw, fun r j row a h1 h2 => ?_⟩
  obtain ⟨v, hv, hc, rv⟩ := hr r j row a h1 h2
  exact ⟨v, hv, hc, rv.ext x⟩

def newW (w : Nat) (zero : List AV) (H : List AObj) (c : Nat) (K : AV → List AObj → Nat → Prop) : Prop :=
  K (.ptr H.length c w 0 0) (H ++ [⟨false, c, w, [zero]⟩]) (c + 1)

theorem one_row {cs : Array Value} {l : List AV} (hs : cs.size = l.length) (hr : ∀ (j : Nat) (b : AV), l[j]? = some b → b.cell = true ∧ Rep G w.heap (cs.getD j undef) b) :
    ∀ (r j : Nat) (row : List AV) (a : AV), ([l] : List (List AV))[r]? = some row → row[j]? = some a → ∃ v, cs[r * l.length + j]? = some v ∧ a.cell = true ∧ Rep G w.heap v a := fun r j row a h1 h2 => by
  cases r with
  | zero =>
    simp at h1; subst h1
    have hj : j < l.length := (List.getElem?_eq_some_iff.1 h2).1
    refine ⟨cs.getD j undef, ?_, hr j a h2⟩
    simp [Array.getD, hs, hj]
  | succ r => simp at h1

theorem newVar_good (I : Inv G H w.heap) {t : TypeId} {v : Value} {l : List AV} (hs : v.cells.size = l.length) (hr : ∀ (j : Nat) (b : AV), l[j]? = some b → b.cell = true ∧ Rep G w.heap (v.cells.getD j undef) b)
    (hk : K (.ptr H.length G.c l.length 0 0) (H ++ [⟨false, G.c, l.length, [l]⟩]) (G.c + 1)) : Run P (do pure (.pointer (some (← newVar t v)))) G H w K := by
  obtain ⟨x, I'⟩ := newObj_good I (cs := v.cells) (e := t) (wd := l.length) (rows := [l]) (by simp [hs]) (by unfold mx; simp)
    (fun r row h => by cases r with | zero => simp at h; subst h; rfl | succ r => simp at h) (one_row hs hr) (0, 0) (fun i _ h => by omega)
  refine ⟨.pointer (some ⟨w.heap.size, 0, none⟩), _, ?_, _, _, _, hk, x, I', ?_⟩
  · simp only [newVar, newRow, Sem.run_bind, run_newObj, Result.andThen_ok, Sem.run_pure]; rfl
  · have h := Rep.ptr (G := G.new w.heap.size) (h := (w.alloc (.cells v.cells t)).heap) (i := H.length) (tag := G.c) (w := l.length) (r := 0) (o := 0) (by simp [Gh.new])
    simpa [Gh.new] using h

theorem mapM_constAV : ∀ (l : List Value) (r : List AV), l.mapM constAV = some r → l.length = r.length ∧ ∀ (j : Nat) (b : AV), r[j]? = some b → ∃ v, l[j]? = some v ∧ constAV v = some b := by
  intro l
  induction l with
  | nil => intro r h; simp at h; subst h; simp
  | cons v l ih =>
    intro r h
    simp only [List.mapM_cons, Option.bind_eq_bind, Option.bind_eq_some_iff, Option.pure_def, Option.some.injEq] at h
    obtain ⟨a, ha, r', hr', rfl⟩ := h
    obtain ⟨h1, h2⟩ := ih r' hr'
    refine ⟨by simp [h1], fun j b hj => ?_⟩
    cases j with
    | zero => simp at hj; subst hj; exact ⟨v, rfl, ha⟩
    | succ j => exact h2 j b (by simpa using hj)

theorem zeroOf_some {t : TypeId} {l : List AV} (h : zeroOf? P t = some l) : ∃ i z, P.info? t = some i ∧ i.zero = some z ∧ l.length = i.size ∧ z.cells.size = l.length ∧
    (∀ (G : Gh) (hp : Array Obj) (j : Nat) (b : AV), l[j]? = some b → b.cell = true ∧ Rep G hp (z.cells.getD j undef) b) := by
  unfold zeroOf? at h
  simp only [Option.bind_eq_bind, Option.bind_eq_some_iff] at h
  obtain ⟨i, hi, z, hz, l', hl', h⟩ := h
  split at h
  · cases h
    obtain ⟨h1, h2⟩ := mapM_constAV _ _ hl'
    refine ⟨i, z, hi, hz, by assumption, by simpa using h1, fun G hp j b hj => ?_⟩
    obtain ⟨v, hv, hc⟩ := h2 j b hj
    have hjl : j < z.cells.size := by have := (List.getElem?_eq_some_iff.1 hv).1; simpa using this
    have : z.cells.getD j undef = v := by
      simp [Array.getD, hjl]
      simpa [hjl] using hv
    rw [this]
    exact ⟨constAV_cell hc, constAV_rep hc G hp⟩
  · cases h

theorem new_sound (I : Inv G H w.heap) {t : TypeId} {l : List AV} (ht : zeroOf? P t = some l) (hk : newW l.length l H G.c K) : Run P (Instr.alloc t true (.tuple #[])) G H w K := by
  obtain ⟨i, z, h1, h2, h3, h4, h5⟩ := zeroOf_some ht
  have : Run P (do pure (.pointer (some (← newVar t z)))) G H w K := newVar_good I h4 (fun j b hj => h5 _ _ j b hj) hk
  obtain ⟨v, w', h, g⟩ := this
  refine ⟨v, w', ?_, g⟩
  unfold Instr.alloc
  simp only [Sem.run_bind, r_zero h1 h2, Result.andThen_ok]
  simpa [Sem.run_bind] using h

def boxW (x : AV) (H : List AObj) (c : Nat) (K : AV → List AObj → Nat → Prop) : Prop :=
  cellsW x fun l => K (.ptr H.length c l.length 0 0) (H ++ [⟨false, c, l.length, [l]⟩]) (c + 1)

theorem box_sound (I : Inv G H w.heap) {t : TypeId} {v : Value} {x : AV} (r : Rep G w.heap v x) (hk : boxW x H G.c K) : Run P (Instr.box t v) G H w K := by
  obtain ⟨l, k, hs, hr⟩ := cellsW_rep r hk
  exact newVar_good I hs hr k
end
end A
end Go.Proofs.Ytfcimcoanlgldaa
