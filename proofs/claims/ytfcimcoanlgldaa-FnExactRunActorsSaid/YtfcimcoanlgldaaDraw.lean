/-
  Statements whose order is open: whatever order is taken, what is worked out is what the order of the text gives. No condition.
-/
import Derived.Test.YtfcimcoanlgldaaAwp
namespace Go.Proofs.Ytfcimcoanlgldaa
namespace A
set_option linter.unusedVariables false
section
variable {P : Program} {H : List AObj} {c : Nat} {e e' : Env}

/-- The operands of an operation. -/
def IOp.uses : IOp → List Opd
  | .mv x | .load _ x | .loadC _ x | .nilck x | .un _ x | .toInt _ x | .toStr x | .faddr _ x | .field _ _ x | .lenS x | .lenL x | .lenM x | .extract x _ => [x]
  | .pick a b c => [a, b, c]
  | .bin _ x y | .binb _ x y | .beq _ _ x y | .iaddr _ x y | .index x y | .lookup _ _ _ x y => [x, y]
  | .mkfn _ l | .callF _ l => l
  | .sliceS x lo hi | .slice _ x lo hi => x :: (lo.toList ++ hi.toList)
  | _ => []

theorem map_ev {l : List Opd} (h : ∀ x, x ∈ l → ev e x = ev e' x) : l.map (ev e) = l.map (ev e') := List.map_congr_left h
theorem opt_ev {l : Option Opd} (h : ∀ x, x ∈ l.toList → ev e x = ev e' x) : l.map (ev e) = l.map (ev e') := by cases l <;> simp at h ⊢; exact h

/-- It hangs on its operands alone. -/
theorem opW_congr {op op' : IOp} (hp : pureOp op = some op') (h : ∀ x, x ∈ op'.uses → ev e x = ev e' x) (K : AV → List AObj → Nat → Prop) : opW P op' e H c K = opW P op' e' H c K := by
  cases op <;> simp only [pureOp] at hp <;> first
    | (cases hp; done)
    | skip
  all_goals cases hp
  all_goals simp only [IOp.uses, List.mem_cons, List.not_mem_nil, or_false, List.mem_append, forall_eq_or_imp, forall_eq] at h
  all_goals simp only [opW]
  all_goals first
    | rw [h]
    | (obtain ⟨h1, h2⟩ := h; rw [h1, h2]; done)
    | (obtain ⟨h1, h2, h3⟩ := h; rw [h1, h2, h3]; done)
    | (rw [map_ev h]; done)
    | (obtain ⟨h1, h2⟩ := h; rw [h1, opt_ev fun x hx => h2 x (.inl hx), opt_ev fun x hx => h2 x (.inr hx)])

/-- One value, whatever is asked of it. -/
def Det (W : (AV → Prop) → Prop) : Prop := ∀ K, W K → ∃ v, ∀ K', W K' ↔ K' v

theorem det_id (v : AV) : Det fun K => K v := fun K k => ⟨v, fun _ => Iff.rfl⟩
theorem det_get (l : List AV) (i : Nat) : Det fun K => getW l i K := fun K ⟨x, hx, k⟩ => ⟨x, fun K' => ⟨fun ⟨y, hy, k⟩ => by rw [hx] at hy; cases hy; exact k, fun h => ⟨x, hx, h⟩⟩⟩
theorem det_and {p : Prop} {W : (AV → Prop) → Prop} (d : Det W) : Det fun K => p ∧ W K := fun K ⟨hp, k⟩ => let ⟨v, h⟩ := d K k; ⟨v, fun K' => ⟨fun h' => (h K').1 h'.2, fun h' => ⟨hp, (h K').2 h'⟩⟩⟩
theorem det_getW {α : Type} (l : List α) (i : Nat) {W : α → (AV → Prop) → Prop} (d : ∀ x, Det (W x)) : Det fun K => getW l i fun x => W x K := fun K ⟨x, hx, k⟩ =>
  let ⟨v, h⟩ := d x K k; ⟨v, fun K' => ⟨fun ⟨y, hy, k⟩ => by rw [hx] at hy; cases hy; exact (h K').1 k, fun h' => ⟨x, hx, (h K').2 h'⟩⟩⟩
theorem det_false : Det fun _ => False := fun _ h => h.elim

theorem det_row (ag : Option Nat) (row : List AV) (o : Nat) : Det (rowW ag row o) := by
  cases ag with
  | none => exact det_get row o
  | some n => exact det_and (det_id _)
theorem det_load (ag : Option Nat) (x : AV) : Det (loadW ag x H) := by
  cases x <;> first
    | exact det_false
    | exact det_row _ _ _
    | exact det_getW _ _ fun ob => det_and (det_and (det_and (det_getW _ _ fun row => det_row _ _ _)))
theorem det_loadC (ag : Option Nat) (x : AV) : Det (loadCW ag x) := by
  cases x <;> first
    | exact det_false
    | exact det_row _ _ _
theorem det_faddr (off : Nat) (x : AV) : Det (faddrW off x) := by cases x <;> first | exact det_false | exact det_id _
theorem det_iaddr (w : Nat) (x i : AV) : Det (iaddrW w x i) := by
  cases i <;> cases x <;> first
    | exact det_false
    | exact det_and (det_and (det_getW _ _ fun row => det_id _))
    | exact det_and (det_and (det_and (det_id _)))
theorem det_nilck (x : AV) : Det (nilckW x) := by cases x <;> first | exact det_false | exact det_id _
theorem det_pick (c a b : AV) : Det (pickW c a b) := by
  cases c <;> first
    | exact det_false
    | skip
  rename_i t
  cases t with
  | true => exact fun K k => ⟨a, fun K' => ⟨fun h => h.1 rfl, fun h => ⟨fun _ => h, fun h => by cases h⟩⟩⟩
  | false => exact fun K k => ⟨b, fun K' => ⟨fun h => h.2 rfl, fun h => ⟨fun h => (by cases h), fun _ => h⟩⟩⟩
theorem det_int (op : BinOp) (k : IntKind) (a b : Int) : Det (intW op k a b) := by
  cases op <;> first
    | exact det_false
    | exact det_id _
    | exact det_and (det_id _)
theorem det_str (op : BinOp) (a b : List UInt8) : Det (strW op a b) := by
  cases op <;> first
    | exact det_false
    | exact det_id _
    | exact det_and (det_id _)
theorem det_bin (op : BinOp) (x y : AV) : Det (binW op x y) := by
  cases x <;> cases y <;> first
    | exact det_false
    | exact det_str _ _ _
    | (cases op <;> first
        | exact det_and (det_id _)
        | exact det_and (det_int _ _ _ _))
theorem det_binb (op : BinOp) (x y : AV) : Det (binbW op x y) := by
  cases x <;> cases y <;> first
    | exact det_false
    | (cases op <;> first
        | exact det_id _
        | exact det_false)
theorem det_beq (n : Bool) (ks : List Nat) (x y : AV) : Det (beqW' n ks x y) := by
  cases x <;> cases y <;> first
    | exact det_false
    | skip
  rename_i xs ys
  refine det_and ?_
  cases eqCells xs ys with
  | none => exact det_false
  | some b => exact det_id _
theorem det_un (op : UnOp) (x : AV) : Det (unW op x) := by
  cases op <;> cases x <;> first
    | exact det_false
    | exact det_id _
theorem det_toInt (k : IntKind) (x : AV) : Det (toIntW k x) := by cases x <;> first | exact det_false | exact det_id _
theorem det_bnd (x : Option AV) (d : Nat) {W : Nat → (AV → Prop) → Prop} (h : ∀ n, Det (W n)) : Det fun K => bndW x d fun n => W n K := by
  cases x with
  | none => exact h d
  | some a => cases a <;> first
    | exact det_false
    | exact det_and (h _)
theorem det_sliceS (x : AV) (lo hi : Option AV) : Det (strSliceW x lo hi) := by
  cases x <;> first
    | exact det_false
    | skip
  rename_i s
  show Det fun K => bndW lo 0 fun a => bndW hi s.length fun b => a ≤ b ∧ b ≤ s.length ∧ K (.str ((s.take b).drop a))
  exact det_bnd lo 0 fun a => det_bnd hi s.length fun b => det_and (det_and (det_id _))
theorem det_slice (w : Nat) (x : AV) (lo hi : Option AV) : Det (slcSliceW w x lo hi) := by
  cases x <;> first
    | exact det_false
    | skip
  · rename_i t w' rows
    show Det fun K => w' = w ∧ bndW lo 0 fun a => bndW hi rows.length fun b => a ≤ b ∧ b ≤ rows.length ∧ K (.slc t w' ((rows.take b).drop a))
    exact det_and (det_bnd lo 0 fun a => det_bnd hi rows.length fun b => det_and (det_and (det_id _)))
  · rename_i i t w' l
    show Det fun K => w' = w ∧ bndW lo 0 fun a => bndW hi l fun b => a = 0 ∧ b ≤ l ∧ K (.ref i t w' b)
    exact det_and (det_bnd lo 0 fun a => det_bnd hi l fun b => det_and (det_and (det_id _)))
theorem det_field (o : Nat) (ag : Option Nat) (x : AV) : Det (fieldW o ag x) := by cases x <;> first | exact det_false | exact det_row _ _ _
theorem det_index (x i : AV) : Det (indexW x i) := by
  cases x <;> first
    | exact det_false
    | skip
  cases i <;> first
    | exact det_false
    | exact det_and (det_getW _ _ fun b => det_id _)
theorem det_lookup (d : TypeDesc) (z : AV) (ok : Bool) (m k : AV) : Det (lookupW d z ok m k H) := by
  cases m <;> first
    | exact det_false
    | skip
  refine det_and (det_getW _ _ fun ob => det_and (det_and ?_))
  cases mfind k ob.rows 0 with
  | none => exact det_false
  | some r => cases r <;> exact det_id _
theorem det_lenS (x : AV) : Det (lenStrW x) := by cases x <;> first | exact det_false | exact det_id _
theorem det_lenL (x : AV) : Det (lenSlcW x) := by cases x <;> first | exact det_false | exact det_id _
theorem det_lenM (x : AV) : Det (lenMapW x H) := by
  cases x <;> first
    | exact det_false
    | exact det_getW _ _ fun ob => det_and (det_and (det_id _))
theorem det_extract (x : AV) (i : Nat) : Det (extractW x i) := by cases x <;> first | exact det_false | exact det_get _ _
theorem det_src (w : Nat) (y : AV) {W : List (List AV) → (AV → Prop) → Prop} (h : ∀ r, Det (W r)) : Det fun K => srcW w y H fun r => W r K := by
  cases y <;> first
    | exact det_false
    | exact h _
    | exact det_and (h _)
    | exact det_and (det_getW _ _ fun ob => det_and (det_and (det_and (det_and (h _)))))
theorem map_byteRow_inj {l l' : List UInt8} (h : l.map byteRow = l'.map byteRow) : l = l' := by
  refine (List.map_inj_right fun a b h => ?_).1 h
  simp [byteRow] at h
  exact UInt8.toNat_inj.1 (by omega)
theorem det_toStr (x : AV) : Det (toStrW x H) := by
  have key : Det fun K => srcW 1 x H fun rows => ∃ l : List UInt8, rows = l.map byteRow ∧ l.length ≤ mx ∧ K (.str l) :=
    det_src 1 x fun r K ⟨l, h1, h2, k⟩ => ⟨.str l, fun K' => ⟨fun ⟨l', h1', _, k'⟩ => by rw [map_byteRow_inj (h1.symm.trans h1')]; exact k', fun h => ⟨l, h1, h2, h⟩⟩⟩
  cases x <;> first
    | exact det_false
    | exact key

/-- The value of a pure operation. -/
def Gives (P : Program) (op : IOp) (e : Env) (H : List AObj) (v : AV) : Prop := ∀ c', opW P op e H c' fun r H' c'' => r = v ∧ H' = H ∧ c' ≤ c'' ∧ (isCall op = false → c'' = c')

theorem gives_of {op : IOp} {W : (AV → Prop) → Prop} (d : Det W) (hw : ∀ c (K : AV → List AObj → Nat → Prop), opW P op e H c K = W fun v => K v H c) (hc : isCall op = false) {K : AV → List AObj → Nat → Prop} (hk : opW P op e H c K) :
    ∃ v, Gives P op e H v ∧ ((isCall op = false ∧ ∀ c' K', opW P op e H c' K' → K' v H c') ∨ (isCall op = true ∧ ∀ c', c ≤ c' → K v H c')) := by
  rw [hw] at hk
  obtain ⟨v, h⟩ := d _ hk
  refine ⟨v, fun c' => ?_, .inl ⟨hc, fun c' K' h' => ?_⟩⟩
  · rw [hw]
    exact (h _).2 ⟨rfl, rfl, Nat.le_refl _, fun _ => rfl⟩
  · rw [hw] at h'
    exact (h _).1 h'

theorem opW_det {op op' : IOp} (hp : pureOp op = some op') {K : AV → List AObj → Nat → Prop} (hk : opW P op' e H c K) :
    ∃ v, Gives P op' e H v ∧ ((isCall op' = false ∧ ∀ c' K', opW P op' e H c' K' → K' v H c') ∨ (isCall op' = true ∧ ∀ c', c ≤ c' → K v H c')) := by
  cases op <;> simp only [pureOp] at hp <;> first
    | (cases hp; done)
    | skip
  all_goals cases hp
  case call f as =>
    obtain ⟨as', res, h1, h2, h3, h4⟩ := hk
    exact ⟨res, fun c' => ⟨as', res, h1, h2, h3, fun c'' h => ⟨rfl, rfl, h, fun h => by cases h⟩⟩, .inr ⟨rfl, h4⟩⟩
  case mv => exact gives_of (det_id _) (fun _ _ => rfl) rfl hk
  case pick => exact gives_of (det_pick _ _ _) (fun _ _ => rfl) rfl hk
  case load => exact gives_of (det_load _ _) (fun _ _ => rfl) rfl hk
  case loadC => exact gives_of (det_loadC _ _) (fun _ _ => rfl) rfl hk
  case nilck => exact gives_of (det_nilck _) (fun _ _ => rfl) rfl hk
  case bin => exact gives_of (det_bin _ _ _) (fun _ _ => rfl) rfl hk
  case binb => exact gives_of (det_binb _ _ _) (fun _ _ => rfl) rfl hk
  case beq => exact gives_of (det_beq _ _ _ _) (fun _ _ => rfl) rfl hk
  case un => exact gives_of (det_un _ _) (fun _ _ => rfl) rfl hk
  case toInt => exact gives_of (det_toInt _ _) (fun _ _ => rfl) rfl hk
  case toStr => exact gives_of (det_toStr _) (fun _ _ => rfl) rfl hk
  case mkfn => exact gives_of (det_id _) (fun _ _ => rfl) rfl hk
  case sliceS => exact gives_of (det_sliceS _ _ _) (fun _ _ => rfl) rfl hk
  case slice => exact gives_of (det_slice _ _ _ _) (fun _ _ => rfl) rfl hk
  case faddr => exact gives_of (det_faddr _ _) (fun _ _ => rfl) rfl hk
  case field => exact gives_of (det_field _ _ _) (fun _ _ => rfl) rfl hk
  case iaddr => exact gives_of (det_iaddr _ _ _) (fun _ _ => rfl) rfl hk
  case index => exact gives_of (det_index _ _) (fun _ _ => rfl) rfl hk
  case lookup => exact gives_of (det_lookup _ _ _ _ _) (fun _ _ => rfl) rfl hk
  case lenS => exact gives_of (det_lenS _) (fun _ _ => rfl) rfl hk
  case lenL => exact gives_of (det_lenL _) (fun _ _ => rfl) rfl hk
  case lenM => exact gives_of (det_lenM _) (fun _ _ => rfl) rfl hk
  case extract => exact gives_of (det_extract _ _) (fun _ _ => rfl) rfl hk
end
end A
end Go.Proofs.Ytfcimcoanlgldaa
