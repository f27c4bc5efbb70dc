/-
  Structs compared; abstract values seen as others; calls. No condition.
-/
import Derived.Test.YtfcimcoanlgldaaOps8
namespace Go.Proofs.Ytfcimcoanlgldaa
namespace A
set_option linter.unusedVariables false
section
variable {P : Program} {G : Gh} {H : List AObj} {w : World} {K : AV → List AObj → Nat → Prop}

/-! ### structs of plain fields, compared -/
def eqCells : List AV → List AV → Option Bool
  | [], [] => some true
  | a :: as, b :: bs =>
    match keyEq a b with
    | some true => eqCells as bs
    | some false => some false
    | none => none
  | _, _ => none

def flatFields (P : Program) : List Field → Nat → Bool
  | [], _ => true
  | f :: fs, k => f.offset == k && f.name != "_" && keyT P f.type && flatFields P fs (k + 1)

def flatT (P : Program) (t : TypeId) : Bool :=
  match P.underlying t with
  | some (.struct fs) => flatFields P fs.toList 0 && !P.stoodInHeld t && !P.eqGuardType P.depth t
  | _ => false

theorem run_equalIn_key {h : Array Obj} {t : TypeId} (ht : keyT P t = true) {a b : Value} {x y : AV} (ra : Rep G h a x) (rb : Rep G h b y) {c : Bool} (hk : keyEq x y = some c) (hfit : ∀ d, P.underlying t = some d → keyFits d x = true) (n : Nat) :
    (Op.equalIn (n + 1) t a b).run P w = .ok c w := by
  unfold keyT at ht
  split at ht
  · rename_i hu
    have hf := hfit _ hu
    cases ra <;> simp only [keyFits] at hf <;> first | (cases hf; done) | skip
    cases rb <;> simp only [keyEq] at hk <;> first | (cases hk; done) | skip
    subst_vars
    rw [run_equalIn_string w n t _ _ hu, ByteArray.toList_eq, ByteArray.toList_eq, Option.some.inj hk]
  · rename_i k hu
    have hf := hfit _ hu
    cases ra <;> simp only [keyFits] at hf <;> first | (cases hf; done) | skip
    cases rb <;> simp only [keyEq] at hk <;> first | (cases hk; done) | skip
    split at hk
    · subst_vars
      rw [run_equalIn_int w n t _ _ _ _ hu, Option.some.inj hk]
    · cases hk
  · rename_i hu
    have hf := hfit _ hu
    cases ra <;> simp only [keyFits] at hf <;> first | (cases hf; done) | skip
    cases rb <;> simp only [keyEq] at hk <;> first | (cases hk; done) | skip
    rw [equalIn_bool n hu, Option.some.inj hk]
  · cases ht

theorem keyT_agg {t : TypeId} (ht : keyT P t = true) : ∃ d, P.underlying t = some d ∧ aggD d = false := by
  unfold keyT at ht
  split at ht <;> first | exact ⟨_, by assumption, rfl⟩ | cases ht

/-- The cells' kinds fit the fields' types (so has the program been checked; here it is asked of the values at hand). -/
def fitsF (P : Program) : List Field → List AV → Bool
  | [], [] => true
  | f :: fs, a :: as => (match P.underlying f.type with | some d => keyFits d a | none => false) && fitsF P fs as
  | _, _ => false

theorem eqFields_sound (n : Nat) {xs ys : Array Value} : ∀ (fs : List Field) (k : Nat) (l m : List AV), flatFields P fs k = true → fitsF P fs l = true →
    (∀ (j : Nat) (a : AV), l[j]? = some a → xs[k + j]? = some (xs.getD (k + j) undef) ∧ Rep G w.heap (xs.getD (k + j) undef) a) →
    (∀ (j : Nat) (a : AV), m[j]? = some a → ys[k + j]? = some (ys.getD (k + j) undef) ∧ Rep G w.heap (ys.getD (k + j) undef) a) →
    ∀ b, eqCells l m = some b → (Op.eqFields (n + 1) xs ys fs).run P w = .ok b w := by
  intro fs
  induction fs with
  | nil =>
    intro k l m _ hfit _ _ b hb
    cases l with
    | nil =>
      cases m with
      | nil => simp only [eqCells] at hb; cases hb; rfl
      | cons _ _ => simp only [eqCells] at hb; cases hb
    | cons _ _ => simp [fitsF] at hfit
  | cons f fs ih =>
    intro k l m hflat hfit hl hm b hb
    simp only [flatFields, Bool.and_eq_true, beq_iff_eq, bne_iff_ne, ne_eq] at hflat
    obtain ⟨⟨⟨ho, hname⟩, hkt⟩, hflat⟩ := hflat
    cases l with
    | nil => simp [fitsF] at hfit
    | cons a as =>
      cases m with
      | nil => simp only [eqCells] at hb; cases hb
      | cons a' as' =>
        simp only [fitsF, Bool.and_eq_true] at hfit
        obtain ⟨d, hd, hagg⟩ := keyT_agg hkt
        obtain ⟨hx, rx⟩ := hl 0 a rfl
        obtain ⟨hy, ry⟩ := hm 0 a' rfl
        rw [Nat.add_zero] at hx rx hy ry
        have part1 : (part f.type xs f.offset).run P w = .ok (xs.getD k undef) w := by
          unfold part
          simp only [Sem.run_bind, r_isAgg hd, hagg, Result.andThen_ok, Bool.false_eq_true, if_false, ho, hx, Sem.run_pure]
        have part2 : (part f.type ys f.offset).run P w = .ok (ys.getD k undef) w := by
          unfold part
          simp only [Sem.run_bind, r_isAgg hd, hagg, Result.andThen_ok, Bool.false_eq_true, if_false, ho, hy, Sem.run_pure]
        have hfit1 : ∀ d', P.underlying f.type = some d' → keyFits d' a = true := fun d' hd' => by
          have := hfit.1; rw [hd'] at this; exact this
        simp only [eqCells] at hb
        cases hq : keyEq a a' with
        | none => rw [hq] at hb; cases hb
        | some c =>
          rw [hq] at hb
          have he := run_equalIn_key (w := w) hkt rx ry hq hfit1 n
          simp only [Op.eqFields]
          rw [if_pos hname]
          simp only [Sem.run_bind, part1, part2, he, Result.andThen_ok]
          cases c with
          | false =>
            simp only at hb; cases hb
            rfl
          | true =>
            simp only at hb
            simp only [Bool.not_true, Bool.false_eq_true, if_false]
            exact ih (k + 1) as as' hflat hfit.2 (fun j x hj => by have := hl (j + 1) x hj; rwa [← Nat.add_assoc, Nat.add_right_comm] at this) (fun j x hj => by have := hm (j + 1) x hj; rwa [← Nat.add_assoc, Nat.add_right_comm] at this) b hb

def kindOf (d : TypeDesc) : Nat := match d with | .int _ => 0 | .string => 1 | .bool => 2 | _ => 3
def kindsF (P : Program) (fs : List Field) : List Nat := fs.map fun f => match P.underlying f.type with | some d => kindOf d | none => 3
def fitsK : List Nat → List AV → Bool
  | [], [] => true
  | 0 :: ks, .int _ _ :: as => fitsK ks as
  | 1 :: ks, .str _ :: as => fitsK ks as
  | 2 :: ks, .bool _ :: as => fitsK ks as
  | _, _ => false

theorem fits_of : ∀ (fs : List Field) (l : List AV), fitsK (kindsF P fs) l = true → fitsF P fs l = true := by
  intro fs
  induction fs with
  | nil => intro l h; cases l <;> first | rfl | (simp [kindsF, fitsK] at h)
  | cons f fs ih =>
    intro l h
    cases l with
    | nil =>
      simp only [kindsF, List.map_cons] at h
      cases P.underlying f.type with
      | none => simp [fitsK] at h
      | some d => cases d <;> simp [kindOf, fitsK] at h
    | cons a as =>
      simp only [kindsF, List.map_cons] at h
      cases hu : P.underlying f.type with
      | none => rw [hu] at h; cases a <;> simp [fitsK] at h
      | some d =>
        rw [hu] at h
        simp only [fitsF, hu, Bool.and_eq_true]
        cases d <;> cases a <;> simp only [kindOf, fitsK] at h <;> first
          | exact ⟨rfl, ih as h⟩
          | (cases h; done)

/-- with the fit asked of the left operand -/
def beqW' (neg : Bool) (ks : List Nat) (x y : AV) (K : AV → Prop) : Prop :=
  match x, y with
  | .agg xs, .agg ys => fitsK ks xs = true ∧ (match eqCells xs ys with | some b => K (.bool (b != neg)) | none => False)
  | _, _ => False

theorem beq_sound (I : Inv G H w.heap) {t : TypeId} (ht : flatT P t = true) {op : BinOp} {neg : Bool} (hop : (op = .eql ∧ neg = false) ∨ (op = .neq ∧ neg = true)) {x y : Operand} {u v : Value} {ax ay : AV}
    (rx : Rep G w.heap u ax) (ry : Rep G w.heap v ay) (hk : beqW' neg (kindsF P (P.fieldsOf t).toList) ax ay (fun r => K r H G.c)) : Run P (do eqGuard op t x y u v; binOp op t u v) G H w K := by
  cases rx <;> simp only [beqW'] at hk
  case agg xs l hs hcl hr =>
    cases ry <;> simp only at hk
    case agg ys m hs' hcl' hr' =>
      obtain ⟨hfit, hk⟩ := hk
      unfold flatT at ht
      split at ht
      · rename_i fs hu
        simp only [Bool.and_eq_true, Bool.not_eq_true'] at ht
        obtain ⟨⟨hflat, hst⟩, hg⟩ := ht
        have hfo : P.fieldsOf t = fs := by simp [Program.fieldsOf, hu]
        cases he : eqCells l m with
        | none => rw [he] at hk; exact hk.elim
        | some b =>
          rw [he] at hk
          have h1 := eqFields_sound (P := P) (G := G) (w := w) 9998 (xs := xs) (ys := ys) fs.toList 0 l m hflat (hfo ▸ fits_of _ _ hfit)
            (fun j a hj => by rw [Nat.zero_add]; exact ⟨of_getD (by have := (List.getElem?_eq_some_iff.1 hj).1; omega), hr j a hj⟩)
            (fun j a hj => by rw [Nat.zero_add]; exact ⟨of_getD (by have := (List.getElem?_eq_some_iff.1 hj).1; omega), hr' j a hj⟩) b he
          have h2 : (Op.equalIn 10000 t (.agg xs) (.agg ys)).run P w = .ok b w := by
            have := run_equalIn_struct (P := P) w 9999 t xs ys (by rw [hfo]; exact hu) hst
            rw [hfo] at this
            exact this.trans h1
          rcases hop with ⟨rfl, rfl⟩ | ⟨rfl, rfl⟩
          · refine Run.here I (v := .bool b) ?_ (by simpa using hk) .bool
            simp only [Sem.run_bind, run_eqGuard_agg w .eql t x y xs ys hg, Result.andThen_ok, run_eql_struct, h2]
          · refine Run.here I (v := .bool (!b)) ?_ (by simpa using hk) .bool
            simp only [Sem.run_bind, run_eqGuard_agg w .neq t x y xs ys hg, Result.andThen_ok, run_neq_struct, h2]
      · cases ht
    all_goals exact hk.elim
  all_goals exact hk.elim

/-! ### an abstract value seen as another -/
/-- Once the objects of S are only read, what stands for the first stands for the second. -/
inductive View (S : List AObj) : AV → AV → Prop
  | refl (a : AV) : View S a a
  | junk (a : AV) : View S a .junk
  | nsl (tag w : Nat) : View S .nsl (.slc tag w [])
  | slc0 (tag w tag' w' : Nat) : View S (.slc tag w []) (.slc tag' w' [])
  | name {i j tag w len : Nat} : View S (.ref i tag w len) (.ref j tag w len)
  | namep {i j tag w r o : Nat} : View S (.ptr i tag w r o) (.ptr j tag w r o)
  | namem {i j tag : Nat} : View S (.mref i tag) (.mref j tag)
  | agg {l l' : List AV} (hl : l.length = l'.length) (hc : ∀ (j : Nat) (a : AV), l'[j]? = some a → a.cell = true) (h : ∀ (j : Nat) (a a' : AV), l[j]? = some a → l'[j]? = some a' → View S a a') : View S (.agg l) (.agg l')
  | tup {l l' : List AV} (hl : l.length = l'.length) (h : ∀ (j : Nat) (a a' : AV), l[j]? = some a → l'[j]? = some a' → View S a a') : View S (.tup l) (.tup l')
  | slc {tag w : Nat} {rows rows' : List (List AV)} (hl : rows.length = rows'.length) (hr : ∀ (r : Nat) (x x' : List AV), rows[r]? = some x → rows'[r]? = some x' → x.length = x'.length)
      (hc : ∀ (r j : Nat) (x : List AV) (a : AV), rows'[r]? = some x → x[j]? = some a → a.cell = true)
      (h : ∀ (r j : Nat) (x x' : List AV) (a a' : AV), rows[r]? = some x → rows'[r]? = some x' → x[j]? = some a → x'[j]? = some a' → View S a a') : View S (.slc tag w rows) (.slc tag w rows')
  | ref {i tag w len : Nat} {rows rows' : List (List AV)} (ho : (⟨false, tag, w, rows⟩ : AObj) ∈ S) (hle : len ≤ rows.length) (hl : rows'.length = len)
      (hr : ∀ (r : Nat) (x x' : List AV), rows[r]? = some x → rows'[r]? = some x' → x.length = x'.length) (hc : ∀ (r j : Nat) (x : List AV) (a : AV), rows'[r]? = some x → x[j]? = some a → a.cell = true)
      (h : ∀ (r j : Nat) (x x' : List AV) (a a' : AV), rows[r]? = some x → rows'[r]? = some x' → x[j]? = some a → x'[j]? = some a' → View S a a') : View S (.ref i tag w len) (.slc tag w rows')
  | ptr {i tag w r o : Nat} {rows : List (List AV)} {row row' : List AV} (ho : (⟨false, tag, w, rows⟩ : AObj) ∈ S) (hrow : rows[r]? = some row) (hl : row.length = row'.length) (hc : ∀ (j : Nat) (a : AV), row'[j]? = some a → a.cell = true)
      (h : ∀ (j : Nat) (a a' : AV), row[j]? = some a → row'[j]? = some a' → View S a a') : View S (.ptr i tag w r o) (.cpt row' o)

theorem get_of_len {α β : Type} {l : List α} {l' : List β} (h : l.length = l'.length) {j : Nat} {b : β} (hb : l'[j]? = some b) : ∃ a, l[j]? = some a := by
  have := (List.getElem?_eq_some_iff.1 hb).1
  exact ⟨l[j], List.getElem?_eq_getElem (by omega)⟩

theorem View.rep {S : List AObj} {h : Array Obj} (I : Inv G H h) (hS : ∀ o, o ∈ S → o ∈ H) {a a' : AV} (v : View S a a') : ∀ {u : Value}, Rep G h u a → Rep (G.freeze S) h u a' := by
  have x := Ext1.freeze G S h
  induction v with
  | refl a => exact fun r => r.ext x
  | junk a => exact fun _ => .junk
  | nsl tag w => intro u r; cases r; exact .slc0
  | slc0 tag w tag' w' => intro u r; cases r <;> exact .slc0
  | name => intro u r; cases r with | ref hc hb h1 h2 h3 => exact .ref (G := G.freeze S) hc hb h1 h2 h3
  | namep => intro u r; cases r with | ptr hc => exact .ptr (G := G.freeze S) hc
  | namem => intro u r; cases r with | mref hc => exact .mref (G := G.freeze S) hc
  | agg hl hc h ih =>
    intro u r
    cases r with
    | agg hs hcl hr =>
      refine .agg (hs.trans hl) hc fun j a' hj => ?_
      obtain ⟨a, ha⟩ := get_of_len hl hj
      exact ih j a a' ha hj (hr j a ha)
  | tup hl h ih =>
    intro u r
    cases r with
    | tup hs hr =>
      refine .tup (hs.trans hl) fun j a' hj => ?_
      obtain ⟨a, ha⟩ := get_of_len hl hj
      exact ih j a a' ha hj (hr j a ha)
  | @slc tag w rows rows' hl hr hc h ih =>
    intro u r
    cases r with
    | slc0 =>
      have : rows' = [] := List.length_eq_zero_iff.1 (by simpa using hl.symm)
      subst this; exact .slc0
    | slc f hF hc' hlen hcap hw hcell hcl hrep =>
      have e := hl
      rw [show rows.length = rows'.length from hl]
      refine .slc (G := G.freeze S) f (.inl hF) hc' (by omega) (by omega) (fun r row' hr' => ?_) (fun r o row' a' hr' ha' => ?_) hc (fun r o row' a' hr' ha' => ?_)
      · obtain ⟨row, hrow⟩ := get_of_len hl hr'
        rw [← hr r row row' hrow hr']; exact hw r row hrow
      · obtain ⟨row, hrow⟩ := get_of_len hl hr'
        obtain ⟨a, ha⟩ := get_of_len (hr r row row' hrow hr') ha'
        exact hcell r o row a hrow ha
      · obtain ⟨row, hrow⟩ := get_of_len hl hr'
        obtain ⟨a, ha⟩ := get_of_len (hr r row row' hrow hr') ha'
        exact ih r o row row' a a' hrow hr' ha ha' (hrep r o row a hrow ha)
  | @ref i tag w len rows rows' ho hle hl hr hc _ ih =>
    intro u r
    cases r with
    | @ref _ _ _ _ cap c e fr hc' hb h1 h2 h3 =>
      obtain ⟨c', e', fr', q1, q2, q3, q4, q5, q6⟩ := (I.obj _ (hS _ ho)).lies rfl
      simp only at q1 q3 q4 q5 q6
      rw [hb] at q1; cases q1
      subst hl
      have hget : ∀ (r : Nat) (x' : List AV), rows'[r]? = some x' → ∃ x, rows[r]? = some x := fun r x' hx => by
        have := (List.getElem?_eq_some_iff.1 hx).1
        exact ⟨rows[r], List.getElem?_eq_getElem (by omega)⟩
      refine .slc (G := G.freeze S) (off := 0) (fun r o => c.getD (r * w + o) undef) (.inr (mem_tags ho)) hc' h3 h2 (fun r row' hr' => ?_) (fun r o row' a' hr' ha' => ?_) hc (fun r o row' a' hr' ha' => ?_)
      · obtain ⟨row, hrow⟩ := hget r row' hr'
        rw [← hr r row row' hrow hr']; exact q5 r row hrow
      · obtain ⟨row, hrow⟩ := hget r row' hr'
        obtain ⟨a, ha⟩ := get_of_len (hr r row row' hrow hr') ha'
        obtain ⟨v, hv, _, _⟩ := q6 r o row a hrow ha
        show hcell h (G.m tag) _ = _
        rw [hcell_of hb, Nat.zero_add, hv, getD_of hv]
      · obtain ⟨row, hrow⟩ := hget r row' hr'
        obtain ⟨a, ha⟩ := get_of_len (hr r row row' hrow hr') ha'
        obtain ⟨v, hv, _, rv⟩ := q6 r o row a hrow ha
        rw [getD_of hv]
        exact ih r o row row' a a' hrow hr' ha ha' rv
  | @ptr i tag w r o rows row row' ho hrow hl hc _ ih =>
    intro u rp
    cases rp with
    | ptr hc' =>
      obtain ⟨c, e, fr, q1, q2, q3, q4, q5, q6⟩ := (I.obj _ (hS _ ho)).lies rfl
      simp only at q1 q3 q4 q5 q6
      refine .cpt (G := G.freeze S) (off := r * w) (fun j => c.getD (r * w + j) undef) (.inr (mem_tags ho)) hc' (fun j a' ha' => ?_) hc (fun j a' ha' => ?_)
      · obtain ⟨a, ha⟩ := get_of_len hl ha'
        obtain ⟨v, hv, _, _⟩ := q6 r j row a hrow ha
        show hcell h (G.m tag) _ = _
        rw [hcell_of q1, hv, getD_of hv]
      · obtain ⟨a, ha⟩ := get_of_len hl ha'
        obtain ⟨v, hv, _, rv⟩ := q6 r j row a hrow ha
        rw [getD_of hv]
        exact ih j a a' ha ha' rv

/-- The value does not hang on what is read only by the tags of T. -/
inductive Av (T : List Nat) : AV → Prop
  | int {k : IntKind} {n : Int} : Av T (.int k n)
  | bool {b : Bool} : Av T (.bool b)
  | str {l : List UInt8} : Av T (.str l)
  | und : Av T .und
  | junk : Av T .junk
  | nsl : Av T .nsl
  | nptr : Av T .nptr
  | slc0 {tag w : Nat} : Av T (.slc tag w [])
  | slc {tag w : Nat} {rows : List (List AV)} (ht : tag ∉ T) (h : ∀ (r j : Nat) (x : List AV) (a : AV), rows[r]? = some x → x[j]? = some a → Av T a) : Av T (.slc tag w rows)
  | ref {i tag w len : Nat} : Av T (.ref i tag w len)
  | ptr {i tag w r o : Nat} : Av T (.ptr i tag w r o)
  | mref {i tag : Nat} : Av T (.mref i tag)
  | agg {l : List AV} (h : ∀ (j : Nat) (a : AV), l[j]? = some a → Av T a) : Av T (.agg l)
  | tup {l : List AV} (h : ∀ (j : Nat) (a : AV), l[j]? = some a → Av T a) : Av T (.tup l)

/-- The ghost in which the tags of T are read-only no more. -/
def Gh.thaw (G : Gh) (T : List Nat) : Gh := { G with Fz := fun t => G.Fz t ∧ t ∉ T }

theorem Av.rep {T : List Nat} {h : Array Obj} {a : AV} (v : Av T a) : ∀ {u : Value}, Rep G h u a → Rep (G.thaw T) h u a := by
  induction v with
  | int => intro u r; cases r with | int hk => exact .int hk
  | bool => intro u r; cases r; exact .bool
  | str => intro u r; cases r with | str e hl => exact .str e hl
  | und => intro u r; cases r; exact .und
  | junk => exact fun _ => .junk
  | nsl => intro u r; cases r; exact .nsl
  | nptr => intro u r; cases r; exact .nptr
  | slc0 => intro u r; cases r <;> exact .slc0
  | slc ht h ih =>
    intro u r
    cases r with
    | slc0 => exact .slc0
    | slc f hF hc hlen hcap hw hcell hcl hrep => exact .slc (G := G.thaw T) f ⟨hF, ht⟩ hc hlen hcap hw hcell hcl (fun r o row a h1 h2 => ih r o row a h1 h2 (hrep r o row a h1 h2))
  | ref => intro u r; cases r with | ref hc hb h1 h2 h3 => exact .ref (G := G.thaw T) hc hb h1 h2 h3
  | ptr => intro u r; cases r with | ptr hc => exact .ptr (G := G.thaw T) hc
  | mref => intro u r; cases r with | mref hc => exact .mref (G := G.thaw T) hc
  | agg h ih => intro u r; cases r with | agg hs hcl hr => exact .agg hs hcl fun j a hj => ih j a hj (hr j a hj)
  | tup h ih => intro u r; cases r with | tup hs hr => exact .tup hs fun j a hj => ih j a hj (hr j a hj)
end
end A
end Go.Proofs.Ytfcimcoanlgldaa
