/-
  Fields of values, indexes, parts of strings and slices, lengths, append, make, conversions: what each operation does to abstract values, and that the model's does so. No condition.
-/
import Derived.Test.YtfcimcoanlgldaaOps4
namespace Go.Proofs.Ytfcimcoanlgldaa
namespace A
set_option linter.unusedVariables false
section
variable {P : Program} {G : Gh} {H : List AObj} {w : World} {K : AV → List AObj → Nat → Prop}

/-! ### a field of a struct at hand -/
def fieldW (off : Nat) (ag : Option Nat) (x : AV) (K : AV → Prop) : Prop :=
  match x with
  | .agg cells => rowW ag cells off K
  | _ => False

theorem field_sound (I : Inv G H w.heap) {t : TypeId} {f off : Nat} {ft : TypeId} (ht : fieldOff P t f = some (off, ft)) {ag : Option Nat} (hag : agOf P ft = some ag) {v : Value} {x : AV} (r : Rep G w.heap v x)
    (hk : fieldW off ag x (fun v => K v H G.c)) : Run P (Instr.field t v f) G H w K := by
  obtain ⟨fs, fd, i, h1, h2, rfl, rfl, h3, h4⟩ := fieldOff_some ht
  cases r <;> simp only [fieldW] at hk
  case agg cs cells hs hcl hr =>
    have hrun : (Instr.field t (.agg cs) f).run P w = (part fd.type cs fd.offset).run P w := by
      unfold Instr.field
      simp only [Sem.run_bind, run_underlying h1, Result.andThen_ok, h2, asAgg, Sem.run_pure]
    cases ag with
    | none =>
      obtain ⟨d, i', q1, q2, q3, q4⟩ := agOf_none hag
      obtain ⟨a, ha, k⟩ := hk
      have hl : fd.offset < cs.size := by rw [hs]; exact (List.getElem?_eq_some_iff.1 ha).1
      refine Run.here I (v := cs.getD fd.offset undef) ?_ k (hr _ _ ha)
      rw [hrun]
      unfold part
      simp only [Sem.run_bind, r_isAgg q1, q4, Result.andThen_ok, Bool.false_eq_true, if_false, of_getD hl, Sem.run_pure]
    | some n =>
      obtain ⟨d, i', q1, q2, q3, q4⟩ := agOf_some hag
      obtain ⟨hl, k⟩ := hk
      have hget : ∀ (j : Nat) (b : AV), ((cells.drop fd.offset).take n)[j]? = some b → j < n ∧ cells[fd.offset + j]? = some b := fun j b hj => by
        have hjn : j < n := by have := (List.getElem?_eq_some_iff.1 hj).1; simp at this; omega
        rw [List.getElem?_take_of_lt hjn, List.getElem?_drop] at hj
        exact ⟨hjn, hj⟩
      refine Run.here I (v := .agg (cs.extract fd.offset (fd.offset + n))) ?_ k (.agg (by simp; omega) (fun j b hj => hcl _ _ (hget j b hj).2) fun j b hj => ?_)
      · rw [hrun]
        unfold part
        simp only [Sem.run_bind, r_isAgg q1, q4, Result.andThen_ok, if_true, r_sizeOf q2, q3, Sem.run_pure]
      · obtain ⟨hjn, hj'⟩ := hget j b hj
        have hjl := (List.getElem?_eq_some_iff.1 hj').1
        have := hr _ _ hj'
        have e : (cs.extract fd.offset (fd.offset + n)).getD j undef = cs.getD (fd.offset + j) undef := by
          refine getD_of ?_
          rw [Array.getElem?_extract]
          rw [if_pos (by omega)]
          exact of_getD (by omega)
        rw [e]; exact this
  all_goals exact hk.elim

/-! ### strings: a byte, a part -/
def indexW (x i : AV) (K : AV → Prop) : Prop :=
  match x, i with
  | .str l, .int _ n => 0 ≤ n ∧ getW l n.toNat fun b => K (.int .u8 b.toNat)
  | _, _ => False

theorem ba_get {s : ByteArray} {n : Nat} : s[n]? = s.data.toList[n]? := by
  by_cases h : n < s.size
  · rw [ByteArray.getElem?_lt' s n h]
    have : n < s.data.toList.length := by simpa using h
    rw [List.getElem?_eq_getElem this]; rfl
  · rw [ByteArray.getElem?_ge' s n h]
    rw [List.getElem?_eq_none (by simpa using h)]

theorem iok_u8 (b : UInt8) : IOk .u8 b.toNat := by
  have := b.toNat_lt
  constructor <;> simp [IntKind.min, IntKind.max, IntKind.signed, IntKind.bits]
  omega

theorem index_sound (I : Inv G H w.heap) {t : TypeId} (ht : P.underlying t = some .string) {u v : Value} {x i : AV} (rx : Rep G w.heap u x) (ri : Rep G w.heap v i) (hk : indexW x i (fun v => K v H G.c)) :
    Run P (Instr.index t u v) G H w K := by
  cases rx <;> simp only [indexW] at hk
  case str s l e hl =>
    cases ri <;> simp only at hk
    case int k n hn =>
      obtain ⟨h0, b, hb, k'⟩ := hk
      subst e
      refine Run.here I (v := .int .u8 b.toNat) ?_ k' (.int (iok_u8 b))
      unfold Instr.index
      simp only [asIntOf, Sem.run_bind, Sem.run_pure, run_underlying ht, Result.andThen_ok, h0, if_true, ba_get, hb]
    all_goals exact hk.elim
  all_goals exact hk.elim

def bndW (x : Option AV) (d : Nat) (K : Nat → Prop) : Prop :=
  match x with
  | none => K d
  | some (.int _ n) => 0 ≤ n ∧ K n.toNat
  | _ => False

def strSliceW (x : AV) (lo hi : Option AV) (K : AV → Prop) : Prop :=
  match x with
  | .str l => bndW lo 0 fun a => bndW hi l.length fun b => a ≤ b ∧ b ≤ l.length ∧ K (.str ((l.take b).drop a))
  | _ => False

def slcSliceW (w : Nat) (x : AV) (lo hi : Option AV) (K : AV → Prop) : Prop :=
  match x with
  | .slc tag w' rows => w' = w ∧ bndW lo 0 fun a => bndW hi rows.length fun b => a ≤ b ∧ b ≤ rows.length ∧ K (.slc tag w' ((rows.take b).drop a))
  | .ref i tag w' len => w' = w ∧ bndW lo 0 fun a => bndW hi len fun b => a = 0 ∧ b ≤ len ∧ K (.ref i tag w' b)
  | _ => False

/-- An optional bound of the model's and one of ours. -/
inductive OptRep (G : Gh) (h : Array Obj) : Option Value → Option AV → Prop
  | none : OptRep G h none none
  | some {v : Value} {a : AV} (r : Rep G h v a) : OptRep G h (some v) (some a)

theorem bound_hi {b : Bool} {lo hi : Option Value} {x y : Option AV} {len cap d : Nat} (rx : OptRep G w.heap lo x) (ry : OptRep G w.heap hi y) {K' : Nat → Nat → Prop}
    (k : bndW x 0 fun a => bndW y len fun c => a ≤ c ∧ c ≤ cap ∧ K' a c) : ∃ a c, a ≤ c ∧ c ≤ cap ∧ K' a c ∧ (Instr.sliceBounds b len cap lo hi none).run P w = .ok (a, c, cap) w := by
  cases rx with
  | none =>
    cases ry with
    | none =>
      obtain ⟨h1, h2, k'⟩ : (0 ≤ len ∧ len ≤ cap ∧ K' 0 len) := k
      exact ⟨0, len, h1, h2, k', by simp [Instr.sliceBounds]⟩
    | some r =>
      cases r <;> simp only [bndW] at k
      case int kk n hn =>
        obtain ⟨h0, h1, h2, k'⟩ := k
        refine ⟨0, n.toNat, h1, h2, k', ?_⟩
        have hc : 0 ≤ n ∧ n ≤ cap := by omega
        simp [Instr.sliceBounds, Instr.sliceBound, asIntOf, hc]
      all_goals exact k.elim
  | some r =>
    cases r <;> simp only [bndW] at k
    case int kk n hn =>
      obtain ⟨h0, k⟩ := k
      cases ry with
      | none =>
        obtain ⟨h1, h2, k'⟩ : n.toNat ≤ len ∧ len ≤ cap ∧ K' n.toNat len := k
        refine ⟨n.toNat, len, h1, h2, k', ?_⟩
        have hc : 0 ≤ n ∧ n ≤ len := by omega
        simp [Instr.sliceBounds, Instr.sliceBound, asIntOf, hc]
      | some r' =>
        cases r' <;> simp only at k
        case int kk' m hm =>
          obtain ⟨h3, h1, h2, k'⟩ := k
          refine ⟨n.toNat, m.toNat, h1, h2, k', ?_⟩
          have hc : 0 ≤ m ∧ m ≤ cap := by omega
          have hd : 0 ≤ n ∧ n ≤ (m.toNat : Int) := by omega
          simp only [Instr.sliceBounds, Instr.sliceBound, asIntOf, Sem.run_bind, Sem.run_pure, Result.andThen_ok, hc, and_self, if_true, hd, Option.isSome_none, Bool.false_eq_true, if_false]
        all_goals exact k.elim
    all_goals exact k.elim

theorem bndW_mono {x : Option AV} {d : Nat} {K K' : Nat → Prop} (h : ∀ n, K n → K' n) (k : bndW x d K) : bndW x d K' := by
  unfold bndW at *
  split at k
  · exact h _ k
  · exact ⟨k.1, h _ k.2⟩
  · exact k.elim

theorem ba_extract (s : ByteArray) (a b : Nat) (h : b ≤ s.size) : (s.extract a b).data.toList = (s.data.toList.take b).drop a := by
  rw [ByteArray.data_extract, Array.toList_extract]
  simp [List.drop_take]

theorem strSlice_sound (I : Inv G H w.heap) {t : TypeId} (ht : P.underlying t = some .string) {u : Value} {lo hi : Option Value} {x : AV} {y z : Option AV} (rx : Rep G w.heap u x) (ry : OptRep G w.heap lo y) (rz : OptRep G w.heap hi z)
    (hk : strSliceW x y z (fun v => K v H G.c)) : Run P (Instr.sliceAt t u lo hi none) G H w K := by
  cases rx <;> simp only [strSliceW] at hk
  case str s l e hl =>
    subst e
    have hsz : s.data.toList.length = s.size := by cases s; rfl
    rw [hsz] at hk
    obtain ⟨a, b, h1, h2, k', hrun⟩ := bound_hi (P := P) (b := false) (d := 0) ry rz hk
    refine Run.here I (v := .string (s.extract a b)) ?_ k' (.str (ba_extract s a b h2) (by simp; omega))
    unfold Instr.sliceAt
    simp only [Sem.run_bind, run_underlying ht, Result.andThen_ok, Instr.slice, Option.isSome_none, Bool.false_eq_true, if_false, Sem.run_pure, hrun]
  all_goals exact hk.elim

theorem run_slice {t e : TypeId} {i : TypeInfo} (ht : sliceElem P t = some (e, i)) {a : Option Addr} {len cap : Nat} {lo hi : Option Value} {l h : Nat} (hb : (Instr.sliceBounds true len cap lo hi none).run P w = .ok (l, h, cap) w) :
    (Instr.sliceAt t (.slice a len cap) lo hi none).run P w = .ok (.slice (if cap = l then a else a.map (·.add (l * i.size))) (h - l) (cap - l)) w := by
  obtain ⟨h1, h2⟩ := sliceElem_some ht
  unfold Instr.sliceAt
  simp only [Sem.run_bind, run_underlying h1, Result.andThen_ok, Instr.slice, hb, r_sizeOf h2, Sem.run_pure]

theorem slcSlice_sound (I : Inv G H w.heap) {t e : TypeId} {i : TypeInfo} (ht : sliceElem P t = some (e, i)) {u : Value} {lo hi : Option Value} {x : AV} {y z : Option AV} (rx : Rep G w.heap u x) (ry : OptRep G w.heap lo y)
    (rz : OptRep G w.heap hi z) (hk : slcSliceW i.size x y z (fun v => K v H G.c)) : Run P (Instr.sliceAt t u lo hi none) G H w K := by
  cases rx <;> simp only [slcSliceW] at hk
  case slc0 a cap tag wd =>
    obtain ⟨rfl, hk⟩ := hk
    have hk' : bndW y 0 fun a => bndW z 0 fun b => a ≤ b ∧ b ≤ cap ∧ (b = 0 ∧ K (.slc tag i.size []) H G.c) :=
      bndW_mono (fun _ k => bndW_mono (fun n k => ⟨k.1, by have := k.2.1; simp at this; omega, by simpa using k.2.1, by simpa using k.2.2⟩) k) hk
    obtain ⟨l, h, h1, h2, ⟨rfl, k'⟩, hrun⟩ := bound_hi (P := P) (b := true) (d := 0) ry rz hk'
    have hl : l = 0 := by omega
    subst hl
    exact Run.here I (run_slice ht hrun) k' .slc0
  case slc tag wd off cap rows f hF hc hlen hcap hw hcell hcl hrep =>
    obtain ⟨rfl, hk⟩ := hk
    have hk' : bndW y 0 fun a => bndW z rows.length fun b => a ≤ b ∧ b ≤ cap ∧ (b ≤ rows.length ∧ K (.slc tag i.size ((rows.take b).drop a)) H G.c) :=
      bndW_mono (fun _ k => bndW_mono (fun n k => ⟨k.1, by have := k.2.1; omega, k.2.1, k.2.2⟩) k) hk
    obtain ⟨l, h, h1, h2, ⟨h3, k'⟩, hrun⟩ := bound_hi (P := P) (b := true) (d := 0) ry rz hk'
    refine Run.here I (run_slice ht hrun) k' ?_
    by_cases he : h = l
    · subst he
      have : (rows.take h).drop h = [] := by apply List.drop_eq_nil_of_le; simp; omega
      rw [this, Nat.sub_self]
      exact .slc0
    · rw [if_neg (by omega)]
      simp only [Option.map_some, addr_add]
      have hl' : ((rows.take h).drop l).length = h - l := by simp; omega
      have hg : ∀ (r : Nat) (row : List AV), ((rows.take h).drop l)[r]? = some row → rows[l + r]? = some row := fun r row hr => by
        have := (List.getElem?_eq_some_iff.1 hr).1
        rw [List.getElem?_drop, List.getElem?_take_of_lt (by omega)] at hr
        exact hr
      rw [← hl']
      refine .slc (fun r o => f (l + r) o) hF hc (by omega) (by omega) (fun r row hr => hw _ _ (hg r row hr)) (fun r o row a hr ha => ?_) (fun r o row a hr ha => hcl _ _ _ _ (hg r row hr) ha) (fun r o row a hr ha => hrep _ _ _ _ (hg r row hr) ha)
      have := hcell _ _ _ _ (hg r row hr) ha
      rw [← this]
      congr 1
      rw [Nat.add_mul]; omega
  case ref j tag wd len cap c e' fr hc hb h1 h2 h3 =>
    obtain ⟨rfl, hk⟩ := hk
    have hk' : bndW y 0 fun a => bndW z len fun b => a ≤ b ∧ b ≤ cap ∧ (a = 0 ∧ b ≤ len ∧ K (.ref j tag i.size b) H G.c) :=
      bndW_mono (fun _ k => bndW_mono (fun n k => ⟨by have := k.1; omega, by have := k.2.1; omega, k⟩) k) hk
    obtain ⟨l, h, q1, q2, ⟨rfl, q3, k'⟩, hrun⟩ := bound_hi (P := P) (b := true) (d := 0) ry rz hk'
    refine Run.here I (run_slice ht hrun) k' ?_
    have e1 : (if cap = 0 then some (⟨G.m tag, 0, none⟩ : Addr) else (some (⟨G.m tag, 0, none⟩ : Addr)).map (·.add (0 * i.size))) = some ⟨G.m tag, 0, none⟩ := by
      split
      · rfl
      · simp [addr_add]
    rw [e1, Nat.sub_zero, Nat.sub_zero]
    exact .ref hc hb h1 (by omega) (by omega)
  all_goals exact hk.elim

/-! ### lengths -/
def lenW (x : AV) (H : List AObj) (K : AV → Prop) : Prop :=
  match x with
  | .str l => K (.int .i64 l.length)
  | .slc _ _ rows => K (.int .i64 rows.length)
  | .ref _ _ _ len => K (.int .i64 len)
  | .nsl => K (.int .i64 0)
  | .mref i tag => getW H i fun ob => ob.tag = tag ∧ ob.mp = true ∧ K (.int .i64 ob.rows.length)
  | _ => False

theorem iok_len {n : Nat} (h : n ≤ mx) : IOk .i64 n := by
  unfold mx at h
  constructor <;> simp [IntKind.min, IntKind.max, IntKind.signed, IntKind.bits] <;> omega

/-- len's argument is a string, a slice or a map. -/
def lenOk (P : Program) (t : TypeId) : Bool :=
  match P.underlying t with
  | some .string | some (.slice _) | some (.map ..) => true
  | _ => false
def isStrT (P : Program) (t : TypeId) : Bool := match P.underlying t with | some .string => true | _ => false
def isSlcT (P : Program) (t : TypeId) : Bool := match P.underlying t with | some (.slice _) => true | _ => false
def isMapT (P : Program) (t : TypeId) : Bool := match P.underlying t with | some (.map ..) => true | _ => false

theorem isStrT_spec {t : TypeId} (h : isStrT P t = true) : P.underlying t = some .string := by unfold isStrT at h; split at h <;> first | assumption | cases h
theorem isSlcT_spec {t : TypeId} (h : isSlcT P t = true) : ∃ e, P.underlying t = some (.slice e) := by unfold isSlcT at h; split at h <;> first | exact ⟨_, by assumption⟩ | cases h
theorem isMapT_spec {t : TypeId} (h : isMapT P t = true) : ∃ k e, P.underlying t = some (.map k e) := by unfold isMapT at h; split at h <;> first | exact ⟨_, _, by assumption⟩ | cases h

def lenStrW (x : AV) (K : AV → Prop) : Prop := match x with | .str l => K (.int .i64 l.length) | _ => False
def lenSlcW (x : AV) (K : AV → Prop) : Prop :=
  match x with
  | .slc _ _ rows => K (.int .i64 rows.length)
  | .ref _ _ _ len => K (.int .i64 len)
  | .nsl => K (.int .i64 0)
  | _ => False
def lenMapW (x : AV) (H : List AObj) (K : AV → Prop) : Prop :=
  match x with
  | .mref i tag => getW H i fun ob => ob.tag = tag ∧ ob.mp = true ∧ K (.int .i64 ob.rows.length)
  | _ => False

theorem lenStr_sound (I : Inv G H w.heap) {t ty : TypeId} (ht : isStrT P t = true) {v : Value} {x : AV} (r : Rep G w.heap v x) (hk : lenStrW x (fun v => K v H G.c)) : Run P (Builtin.len_ #[t] ty #[v]) G H w K := by
  cases r <;> simp only [lenStrW] at hk
  case str s l e hl =>
    subst e
    exact Run.here I (v := .int .i64 s.data.toList.length) (by simp [Builtin.len_, run_underlying (isStrT_spec ht), goInt]) hk (.int (iok_len hl))
  all_goals exact hk.elim

theorem lenSlc_sound (I : Inv G H w.heap) {t ty : TypeId} (ht : isSlcT P t = true) {v : Value} {x : AV} (r : Rep G w.heap v x) (hk : lenSlcW x (fun v => K v H G.c)) : Run P (Builtin.len_ #[t] ty #[v]) G H w K := by
  obtain ⟨e, he⟩ := isSlcT_spec ht
  cases r <;> simp only [lenSlcW] at hk
  case nsl => exact Run.here I (v := .int .i64 0) (by simp [Builtin.len_, run_underlying he, goInt]) hk (.int (iok_len (n := 0) (Nat.zero_le _)))
  case slc0 => exact Run.here I (v := .int .i64 0) (by simp [Builtin.len_, run_underlying he, goInt]) hk (.int (iok_len (n := 0) (Nat.zero_le _)))
  case slc tag wd off cap rows f hF hc hlen hcap hw hcell hcl hrep =>
    exact Run.here I (v := .int .i64 rows.length) (by simp [Builtin.len_, run_underlying he, goInt]) hk (.int (iok_len hlen))
  case ref j tag wd len cap c e' fr hc hb h1 h2 h3 =>
    exact Run.here I (v := .int .i64 len) (by simp [Builtin.len_, run_underlying he, goInt]) hk (.int (iok_len h3))
  all_goals exact hk.elim

theorem lenMap_sound (I : Inv G H w.heap) {t ty : TypeId} (ht : isMapT P t = true) {v : Value} {x : AV} (r : Rep G w.heap v x) (hk : lenMapW x H (fun v => K v H G.c)) : Run P (Builtin.len_ #[t] ty #[v]) G H w K := by
  obtain ⟨ke, e, he⟩ := isMapT_spec ht
  cases r <;> simp only [lenMapW] at hk
  case mref i tag hc =>
    obtain ⟨ob, hob, rfl, hmp, hk⟩ := hk
    obtain ⟨es, clock, h1, h2, h3, h4⟩ := (I.obj ob (List.mem_of_getElem? hob)).mlies hmp
    refine Run.here I (v := .int .i64 ob.rows.length) ?_ hk (.int (iok_len h3))
    have hg : (getObj (G.m ob.tag)).run P w = .ok (.map es clock) w := by simp only [getObj, Sem.run, h1]
    simp [Builtin.len_, run_underlying he, goInt, hg, h2]
  all_goals exact hk.elim

def extractW (x : AV) (i : Nat) (K : AV → Prop) : Prop := match x with | .tup vs => getW vs i K | _ => False

theorem extract_sound (I : Inv G H w.heap) {v : Value} {x : AV} {i : Nat} (r : Rep G w.heap v x) (hk : extractW x i (fun v => K v H G.c)) : Run P (Instr.extract v i) G H w K := by
  cases r <;> simp only [extractW] at hk
  case tup cs vs hs hr =>
    obtain ⟨a, ha, k⟩ := hk
    have hl : i < cs.size := by rw [hs]; exact (List.getElem?_eq_some_iff.1 ha).1
    exact Run.here I (v := cs.getD i undef) (by unfold Instr.extract; simp only [of_getD hl, Sem.run_pure]) k (hr _ _ ha)
  all_goals exact hk.elim
end
end A
end Go.Proofs.Ytfcimcoanlgldaa
