/-
  make, unary operators, conversions, maps: what each operation does to abstract values, and that the model's does so. No condition.
-/
import Derived.Test.YtfcimcoanlgldaaOps6
namespace Go.Proofs.Ytfcimcoanlgldaa
namespace A
set_option linter.unusedVariables false
section
variable {P : Program} {G : Gh} {H : List AObj} {w : World} {K : AV → List AObj → Nat → Prop}

def mksliceW (wd : Nat) (zero : List AV) (bytes : Nat) (l c : AV) (H : List AObj) (cl : Nat) (K : AV → List AObj → Nat → Prop) : Prop :=
  match l, c with
  | .int _ n, .int _ m => 0 ≤ n ∧ n ≤ m ∧ m ≤ 281474976710656 ∧ m.toNat * bytes ≤ 281474976710656 ∧ K (.ref H.length cl wd n.toNat) (H ++ [⟨false, cl, wd, List.replicate n.toNat zero⟩]) (cl + 1)
  | _, _ => False

theorem mkslice_sound (I : Inv G H w.heap) {t e : TypeId} {i : TypeInfo} (ht : sliceElem P t = some (e, i)) {zero : List AV} (hz : zeroOf? P e = some zero) {u v : Value} {x y : AV} (rx : Rep G w.heap u x) (ry : Rep G w.heap v y)
    (hk : mksliceW i.size zero i.bytes x y H G.c K) : Run P (Instr.makeSlice t u v) G H w K := by
  obtain ⟨h1, h2⟩ := sliceElem_some ht
  obtain ⟨it, z, q1, q2, q3, q4, q5⟩ := zeroOf_some hz
  rw [h2] at q1; cases q1
  cases rx <;> simp only [mksliceW] at hk
  case int k n hn =>
    cases ry <;> simp only at hk
    case int k' m hm =>
      obtain ⟨h0, hnm, hm8, hby, hk⟩ := hk
      have en : IntKind.i64.wrap n = n := IntWalk.i64_in n (by omega)
      have em : IntKind.i64.wrap m = m := IntWalk.i64_in m (by omega)
      have hb' : (i.bytes : Int) * m ≤ 281474976710656 := by
        have : ((m.toNat * i.bytes : Nat) : Int) ≤ 281474976710656 := by omega
        rw [Int.natCast_mul, Int.toNat_of_nonneg (by omega), Int.mul_comm] at this
        exact this
      have r0 : RowsRep G w.heap i.size ((Array.range (m.toNat * i.size)).map fun j => z.cells[j % z.cells.size]!) (List.replicate m.toNat zero) := by
        rw [← q3]; exact zeros_rep ⟨q4, fun j b hj => q5 _ _ j b hj⟩ m.toNat
      have hle : n.toNat * i.size ≤ m.toNat * i.size := Nat.mul_le_mul_right _ (by omega)
      have hget : ∀ (r : Nat) (row : List AV), (List.replicate n.toNat zero)[r]? = some row → (List.replicate m.toNat zero)[r]? = some row := fun r row h => by
        rw [List.getElem?_replicate] at h ⊢
        split at h
        · rw [if_pos (by omega)]; exact h
        · cases h
      have hsz := r0.size
      simp only [List.length_replicate] at hsz
      obtain ⟨x, I'⟩ := newObj_good I (cs := (Array.range (m.toNat * i.size)).map fun j => z.cells[j % z.cells.size]!) (e := e) (wd := i.size) (rows := List.replicate n.toNat zero) (by rw [hsz]; simpa using hle)
        (by unfold mx; simp; omega) (fun r row h => r0.w r row (hget r row h)) (fun r j row a h ha => r0.rep r j row a (hget r row h) ha) (0, 0) (fun _ _ h => by omega)
      refine ⟨.slice (some ⟨w.heap.size, 0, none⟩) n.toNat m.toNat, _, ?_, _, _, _, hk, x, I', ref_new (by rw [hsz]; exact Nat.le_refl _) (by omega) (by unfold mx; omega)⟩
      have t1 : ((decide (m < 0) || decide ((i.bytes : Int) * m > 2 ^ 48)) || decide (n < 0) || decide (n > m)) = false := by
        simp; omega
      unfold Instr.makeSlice
      simp only [Sem.run_bind, run_underlying h1, Result.andThen_ok, asInt, asIntOf, Sem.run_pure, r_typeInfo h2, en, em, t1, Bool.false_eq_true, if_false, run_askRoom, r_sizeOf h2]
      by_cases hz0 : m.toNat * i.size = 0
      · have ez : (Array.range 0 : Array Nat) = #[] := rfl
        simp only [hz0, if_true, Sem.run_pure, Result.andThen_ok, ez, Array.map_empty, newRow, Sem.run_bind, run_newObj]
        rfl
      · simp only [hz0, if_false, Sem.run_bind, r_zero h2 q2, Result.andThen_ok, Sem.run_pure, newRow, run_newObj]
        rfl
    all_goals exact hk.elim
  all_goals exact hk.elim

/-! ### unary operators, conversions -/
def unW (op : UnOp) (x : AV) (K : AV → Prop) : Prop :=
  match op, x with
  | .not, .bool b => K (.bool (!b))
  | .neg, .int k n => K (.int k (k.wrap (0 - n)))
  | _, _ => False

theorem un_sound (I : Inv G H w.heap) {op : UnOp} {v : Value} {x : AV} (r : Rep G w.heap v x) (hk : unW op x (fun v => K v H G.c)) : Run P (Op.unary op v) G H w K := by
  cases r <;> cases op <;> simp only [unW] at hk <;> first
    | exact hk.elim
    | exact Run.here I (v := .bool (!_)) (by simp only [Op.unary, Sem.run_pure]) hk .bool
    | exact Run.here I (v := .int _ (IntKind.wrap _ (0 - _))) (by simp only [Op.unary, Op.intArith, Sem.run_pure]) hk (.int (iok_wrap _ _))

def toIntW (k : IntKind) (x : AV) (K : AV → Prop) : Prop := match x with | .int _ n => K (.int k (k.wrap n)) | _ => False

theorem toInt_sound (I : Inv G H w.heap) {src dst : TypeId} {d : TypeDesc} {k : IntKind} (hs : P.underlying src = some d) (hd : P.underlying dst = some (.int k)) {v : Value} {x : AV} (r : Rep G w.heap v x)
    (hk : toIntW k x (fun v => K v H G.c)) : Run P (convert src dst v) G H w K := by
  cases r <;> simp only [toIntW] at hk
  case int k' n hn =>
    refine Run.here I (v := .int k (k.wrap n)) ?_ hk (.int (iok_wrap _ _))
    unfold convert
    simp only [Sem.run_bind, run_underlying hs, run_underlying hd, Result.andThen_ok, Conv.intToInt, Sem.run_pure]
  all_goals exact hk.elim

/-- A slice of bytes, as a string. -/
def toStrW (x : AV) (H : List AObj) (K : AV → Prop) : Prop :=
  match x with
  | .slc _ _ _ | .ref _ _ _ _ | .nsl => srcW 1 x H fun rows => ∃ l : List UInt8, rows = l.map byteRow ∧ l.length ≤ mx ∧ K (.str l)
  | _ => False

theorem fold_bytes : ∀ (l : List UInt8) (s : ByteArray), ((l.map fun b => (b.toNat : Int)).foldl (fun r n => r.push (UInt8.ofNat n.toNat)) s).data.toList = s.data.toList ++ l := by
  intro l
  induction l with
  | nil => intro s; simp
  | cons b l ih => intro s; simp only [List.map_cons, List.foldl_cons]; rw [ih]; simp [ByteArray.push]

theorem toStr_sound (I : Inv G H w.heap) {src dst e : TypeId} (hs : P.underlying src = some (.slice e)) (he : P.underlying e = some (.int .u8)) (hd : P.underlying dst = some .string) {v : Value} {x : AV} (r : Rep G w.heap v x)
    (hk : toStrW x H (fun v => K v H G.c)) : Run P (convert src dst v) G H w K := by
  have hk' : srcW 1 x H fun rows => ∃ l : List UInt8, rows = l.map byteRow ∧ l.length ≤ mx ∧ K (.str l) H G.c := by
    cases x <;> simp only [toStrW] at hk <;> first | exact hk.elim | exact hk
  obtain ⟨cs, rows, s1, s2, l, rfl, hl, k⟩ := src_sound (P := P) I r hk'
  have hcs : cs = (l.map fun b => Value.int .u8 (b.toNat : Int)).toArray := by
    apply Array.ext_getElem?
    intro j
    by_cases hj : j < l.length
    · have hrow : (l.map byteRow)[j]? = some (byteRow l[j]) := by simp [hj]
      obtain ⟨z, hz, _, rz⟩ := s2.rep j 0 _ (.int .u8 l[j].toNat) hrow rfl
      cases rz
      simp only [Nat.mul_one, Nat.add_zero] at hz
      rw [hz]; simp [hj]
    · have hsz : cs.size = l.length := by simpa using s2.size
      rw [Array.getElem?_eq_none (by omega), Array.getElem?_eq_none (by simp; omega)]
  have hload := (s1 w rfl).2
  have key : ∀ a len cap, v = .slice a len cap → len = l.length → Run P (convert src dst v) G H w K := fun a len cap hv hlen => by
    subst hv
    cases a with
    | none =>
      have h0 : l = [] := by
        have h1 : (Builtin.firstCells 1 l.length (.slice none len cap)).run P w = .ok #[] w := rfl
        have h2 := hload
        rw [List.length_map] at h2
        rw [h1] at h2
        have : cs = #[] := by cases h2; rfl
        rw [this] at hcs
        cases l with
        | nil => rfl
        | cons b l => simp at hcs
      subst h0
      refine Run.here I (v := .string .empty) ?_ k (.str rfl hl)
      rw [run_convert_bytes_string w src dst e none len cap hs he hd]; rfl
    | some a =>
      have h2 := hload
      rw [List.length_map, ← hlen] at h2
      simp only [Builtin.firstCells, Nat.mul_one] at h2
      rw [hcs] at h2
      have h3 := run_bytesToString (P := P) w a len cap (l.map fun b => (b.toNat : Int)) (by rw [h2]; simp)
      refine Run.here I ?_ k (.str (fold_bytes l ByteArray.empty) hl)
      rw [run_convert_bytes_string w src dst e (some a) len cap hs he hd]
      exact h3
  have hlenv := (s1 w rfl).1
  rw [List.length_map] at hlenv
  have hlenOf : ∀ a len cap, v = .slice a len cap → len = l.length := fun a len cap hv => by
    subst hv
    have h1 : (Builtin.lenOf (.slice a len cap)).run P w = .ok len w := rfl
    rw [h1] at hlenv; cases hlenv; rfl
  cases r <;> first
    | exact key _ _ _ rfl (hlenOf _ _ _ rfl)
    | (simp only [toStrW] at hk)

/-- A string, as a new slice of bytes. -/
def toBytesW (x : AV) (H : List AObj) (c : Nat) (K : AV → List AObj → Nat → Prop) : Prop :=
  match x with
  | .str l => K (.ref H.length c 1 l.length) (H ++ [⟨false, c, 1, l.map byteRow⟩]) (c + 1)
  | _ => False

theorem toBytes_sound (I : Inv G H w.heap) {src dst e : TypeId} {d : TypeDesc} (hs : P.underlying src = some .string) (hd : P.underlying dst = some (.slice e)) (he : P.underlying e = some (.int .u8)) {v : Value} {x : AV} (r : Rep G w.heap v x)
    (hk : toBytesW x H G.c K) : Run P (convert src dst v) G H w K := by
  cases r <;> simp only [toBytesW] at hk
  case str s l hl he' =>
    subst hl
    have hsz : s.data.toList.length = s.size := by cases s; rfl
    generalize hcap : (Question.appendCap s.size 0 e).cut (w.tape w.drawn (.appendCap s.size 0 e)) = cap
    have hle : s.size ≤ cap := by rw [← hcap]; simp only [Question.cut]; omega
    let cs : Array Value := (s.data.map fun b => Value.int .u8 b.toNat) ++ Array.replicate (cap - s.size) (.int .u8 0)
    have hcs : cs.size = cap := by simp [cs]; omega
    obtain ⟨x, I'⟩ := newObj_good (w := w.drew) I (cs := cs) (e := e) (wd := 1) (rows := s.data.toList.map byteRow) (by simp [hcs, hle]) (by simpa using he')
      (fun r row h => by simp at h; obtain ⟨b, _, rfl⟩ := h; rfl)
      (fun r j row a h ha => by
        simp at h; obtain ⟨b, hb, rfl⟩ := h
        cases j with
        | zero =>
          simp [byteRow] at ha; subst ha
          have hr : r < s.size := by have := (Array.getElem?_eq_some_iff.1 hb).1; simpa using this
          refine ⟨.int .u8 b.toNat, ?_, rfl, .int (iok_u8 b)⟩
          simp only [cs, Nat.mul_one, Nat.add_zero]
          rw [Array.getElem?_append_left (by simpa using hr), Array.getElem?_map, hb]; rfl
        | succ j => simp [byteRow] at ha) (cap, cap + 1) (fun i hi h => by omega)
    refine ⟨.slice (some ⟨w.heap.size, 0, none⟩) s.size cap, _, ?_, _, _, _, hk, { x with }, I', ?_⟩
    · unfold convert
      simp only [Sem.run_bind, run_underlying hs, run_underlying hd, Result.andThen_ok, run_underlying he, Conv.stringToBytes, run_choose, Question.forced, Bool.false_eq_true, if_false, hcap, World.drew_eq, newRow, run_newObj, World.alloc_eq,
        Sem.run_pure, markStringish, run_shape]
      have hshape : (w.drew.alloc (.cells cs e)).shape? w.heap.size = some (e, cap) := by
        simp only [World.shape?, World.alloc, World.drew, Array.getElem?_push, if_true, hcs]
      have hfr : (w.drew.alloc (.cells cs e)).freeze ⟨w.heap.size, cap, none⟩ 1 = w.drew.alloc (.cells cs e (cap, cap + 1)) := by
        unfold World.freeze World.alloc World.drew
        simp only [Nat.succ_ne_zero, if_false]
        congr 1
        apply Array.ext_getElem?
        intro j
        rw [Array.getElem?_modify, Array.getElem?_push, Array.getElem?_push]
        by_cases hj : w.heap.size = j
        · subst hj; simp
        · simp [hj, Ne.symm hj]
      show Result.andThen (Sem.run P (match (w.drew.alloc (.cells cs e)).shape? w.heap.size with | some (_, n) => freeze { block := w.heap.size, off := n } 1 | _ => pure ()) (w.drew.alloc (.cells cs e))) _ = _
      rw [hshape]
      simp only [run_freeze, Result.andThen_ok, hfr]
      rfl
    · have := ref_new (G := G) (w := w.drew) (c := cs) (e := e) (fr := (cap, cap + 1)) (i := H.length) (wd := 1) (len := s.size) (cap := cap) (by rw [hcs, Nat.mul_one]; exact Nat.le_refl _) hle (by rw [← hsz]; exact he')
      rw [hsz]
      exact this
  all_goals exact hk.elim
end
end A
end Go.Proofs.Ytfcimcoanlgldaa
