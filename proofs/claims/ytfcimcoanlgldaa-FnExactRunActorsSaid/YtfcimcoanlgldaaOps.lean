/-
  The operations over abstract values: a small language of its own, made out of the model's code by a function, and for each operation that what is said of it holds of the model's. No condition.
-/
import Derived.Test.YtfcimcoanlgldaaMem
namespace Go.Proofs.Ytfcimcoanlgldaa
namespace A
set_option linter.unusedVariables false

abbrev Env := Nat → AV
inductive Opd where
  | t (n : Nat)
  | c (v : AV)
  deriving Inhabited
def ev (e : Env) : Opd → AV
  | .t n => e n
  | .c v => v

inductive IOp where
  | mv (x : Opd)
  | pick (c a b : Opd)
  | new (w : Nat) (zero : List AV)
  | box (w : Nat) (x : Opd)
  | build (zero : List AV) (parts : List (Nat × Nat × Opd))
  | bslice (w : Nat) (zero : List AV) (len : Nat) (parts : List (Nat × Opd))
  | load (ag : Option Nat) (x : Opd)
  | store (n : Nat) (a x : Opd)
  | nilck (x : Opd)
  | bin (op : BinOp) (x y : Opd)
  | binb (op : BinOp) (x y : Opd)
  | beq (neg : Bool) (ks : List Nat) (x y : Opd)
  | un (op : UnOp) (x : Opd)
  | toInt (k : IntKind) (x : Opd)
  | toStr (x : Opd)
  | toBytes (x : Opd)
  | mkfn (f : Nat) (caps : List Opd)
  | mkmap
  | mkslice (w : Nat) (zero : List AV) (bytes : Nat) (l c : Opd)
  | sliceS (x : Opd) (lo hi : Option Opd)
  | slice (w : Nat) (x : Opd) (lo hi : Option Opd)
  | faddr (off : Nat) (x : Opd)
  | field (off : Nat) (ag : Option Nat) (x : Opd)
  | iaddr (w : Nat) (x i : Opd)
  | index (x i : Opd)
  | lookup (d : Nat) (zero : AV) (ok : Bool) (m k : Opd)
  | mupd (d : Nat) (m k v : Opd)
  | lenS (x : Opd)
  | lenL (x : Opd)
  | lenM (x : Opd)
  | append (w bytes : Nat) (x y : Opd)
  | extract (x : Opd) (i : Nat)
  | call (f : Nat) (args : List Opd)
  | callv (x : Opd) (args : List Opd)
  | callF (f : Nat) (args : List Opd)
  | isnl (neg : Bool) (x : Opd)
  | loadC (ag : Option Nat) (x : Opd)
  | chk (ag : Option Nat) (x y : Opd)
  deriving Inhabited

/-! ### out of the model's operations -/
def constAV : Value → Option AV
  | .int k n => if k.min ≤ n ∧ n ≤ k.max then some (.int k n) else none
  | .bool b => some (.bool b)
  | .string s => if s.data.toList.length ≤ mx then some (.str s.data.toList) else none
  | .slice none 0 0 => some .nsl
  | .pointer none => some .nptr
  | _ => none

theorem constAV_rep {v : Value} {a : AV} (h : constAV v = some a) (G : Gh) (hp : Array Obj) : Rep G hp v a := by
  unfold constAV at h
  split at h
  · split at h
    · cases h; rename_i hk; exact .int hk
    · cases h
  · cases h; exact .bool
  · split at h
    · cases h; rename_i hk; exact .str rfl hk
    · cases h
  · cases h; exact .nsl
  · cases h; exact .nptr
  · cases h

theorem constAV_cell {v : Value} {a : AV} (h : constAV v = some a) : a.cell = true := by
  unfold constAV at h
  split at h <;> (try split at h) <;> cases h <;> rfl

def opd : Operand → Option Opd
  | .tmp t => some (.t t)
  | .const v => (constAV v).map .c
  | .func f => some (.c (.fn f []))
  | .global _ => none

/-- What the frame's temporaries stand for. -/
def Tmps (G : Gh) (h : Array Obj) (a : Act) (e : Env) : Prop := ∀ t, Rep G h (a.tmps.getD t undef) (e t)

theorem opd_rep {G : Gh} {h : Array Obj} {a : Act} {e : Env} (hE : Tmps G h a e) {x : Operand} {y : Opd} (hx : opd x = some y) : Rep G h (a.eval x) (ev e y) := by
  cases x with
  | tmp t => simp [opd] at hx; subst hx; exact hE t
  | const v =>
    simp only [opd, Option.map_eq_some_iff] at hx
    obtain ⟨b, hb, rfl⟩ := hx
    exact constAV_rep hb G h
  | func f => simp [opd] at hx; subst hx; exact .fn rfl (fun j a h => by simp at h)
  | global g => simp [opd] at hx

/-! ### one operation's outcome -/
def Good (G : Gh) (H : List AObj) (w : World) (K : AV → List AObj → Nat → Prop) (v : Value) (w' : World) : Prop :=
  ∃ av H' G', K av H' G'.c ∧ Ext G H w G' H' w' ∧ Inv G' H' w'.heap ∧ Rep G' w'.heap v av

def Run (P : Program) (s : Sem Value) (G : Gh) (H : List AObj) (w : World) (K : AV → List AObj → Nat → Prop) : Prop :=
  ∃ v w', s.run P w = .ok v w' ∧ Good G H w K v w'

theorem Good.here {G : Gh} {H : List AObj} {w : World} {K : AV → List AObj → Nat → Prop} {v : Value} {av : AV} (I : Inv G H w.heap) (k : K av H G.c) (r : Rep G w.heap v av) : Good G H w K v w :=
  ⟨av, H, G, k, Ext.refl _ _ _, I, r⟩

theorem Run.here {P : Program} {s : Sem Value} {G : Gh} {H : List AObj} {w : World} {K : AV → List AObj → Nat → Prop} {v : Value} {av : AV} (I : Inv G H w.heap) (hs : s.run P w = .ok v w) (k : K av H G.c)
    (r : Rep G w.heap v av) : Run P s G H w K := ⟨v, w, hs, Good.here I k r⟩

theorem r_typeInfo {P : Program} {t : TypeId} {i : TypeInfo} (h : P.info? t = some i) (w : World) : (typeInfo t).run P w = .ok i w := by simp [typeInfo, h]
theorem r_sizeOf {P : Program} {t : TypeId} {i : TypeInfo} (h : P.info? t = some i) (w : World) : (sizeOf t).run P w = .ok i.size w := by simp [sizeOf, r_typeInfo h]
def aggD : TypeDesc → Bool
  | .struct _ | .array .. => true
  | _ => false
theorem r_isAgg {P : Program} {t : TypeId} {d : TypeDesc} (h : P.underlying t = some d) (w : World) : (isAgg t).run P w = .ok (aggD d) w := by
  unfold isAgg
  simp only [Sem.run_bind, run_underlying h, Result.andThen_ok]
  cases d <;> rfl
theorem r_zero {P : Program} {t : TypeId} {i : TypeInfo} {z : Value} (h : P.info? t = some i) (hz : i.zero = some z) (w : World) : (zeroValue t).run P w = .ok z w := by
  simp [zeroValue, r_typeInfo h, hz]

/-- How a variable of type t is loaded: whole (so many cells), or as one cell. -/
def agOf (P : Program) (t : TypeId) : Option (Option Nat) :=
  match P.underlying t, P.info? t with
  | some (.struct _), some i | some (.array ..), some i => some (some i.size)
  | some _, some i => if i.size = 1 then some none else none
  | _, _ => none
def sizeOf? (P : Program) (t : TypeId) : Option Nat := (P.info? t).map (·.size)
def bytesOf? (P : Program) (t : TypeId) : Option Nat := (P.info? t).map (·.bytes)
def zeroOf? (P : Program) (t : TypeId) : Option (List AV) := do
  let i ← P.info? t
  let z ← i.zero
  let l ← z.cells.toList.mapM constAV
  if l.length = i.size then some l else none

def getW {α : Type} (l : List α) (i : Nat) (K : α → Prop) : Prop := ∃ x, l[i]? = some x ∧ K x

/-! ### arithmetic and comparisons -/
def cmpI (op : BinOp) (a b : Int) : Option Bool :=
  match op with
  | .eql => some (a == b)
  | .neq => some (a != b)
  | .lss => some (decide (a < b))
  | .leq => some (decide (a ≤ b))
  | .gtr => some (decide (a > b))
  | .geq => some (decide (a ≥ b))
  | _ => none

def intW (op : BinOp) (k : IntKind) (a b : Int) (K : AV → Prop) : Prop :=
  match op with
  | .add => K (.int k (k.wrap (a + b)))
  | .sub => K (.int k (k.wrap (a - b)))
  | .mul => K (.int k (k.wrap (a * b)))
  | .quo => b ≠ 0 ∧ K (.int k (k.wrap (a.tdiv b)))
  | .rem => b ≠ 0 ∧ K (.int k (a.tmod b))
  | .and => K (.int k (k.wrap (BitVec.ofInt k.bits a &&& BitVec.ofInt k.bits b).toNat))
  | .or => K (.int k (k.wrap (BitVec.ofInt k.bits a ||| BitVec.ofInt k.bits b).toNat))
  | .xor => K (.int k (k.wrap (BitVec.ofInt k.bits a ^^^ BitVec.ofInt k.bits b).toNat))
  | .eql => K (.bool (a == b))
  | .neq => K (.bool (a != b))
  | .lss => K (.bool (decide (a < b)))
  | .leq => K (.bool (decide (a ≤ b)))
  | .gtr => K (.bool (decide (a > b)))
  | .geq => K (.bool (decide (a ≥ b)))
  | _ => False

def strW (op : BinOp) (a b : List UInt8) (K : AV → Prop) : Prop :=
  match op with
  | .add => a.length + b.length ≤ mx ∧ K (.str (a ++ b))
  | .eql => K (.bool (a == b))
  | .neq => K (.bool (!(a == b)))
  | .lss => K (.bool (Op.bytesLess a b))
  | .leq => K (.bool (Op.bytesLess a b || a == b))
  | .gtr => K (.bool (!(Op.bytesLess a b || a == b)))
  | .geq => K (.bool (!(Op.bytesLess a b)))
  | _ => False

def boolW (op : BinOp) (a b : Bool) (K : AV → Prop) : Prop :=
  match op with
  | .eql => K (.bool (a == b))
  | .neq => K (.bool (!(a == b)))
  | _ => False

/-- A shift's second operand may be of another kind. -/
def binW (op : BinOp) (x y : AV) (K : AV → Prop) : Prop :=
  match x, y with
  | .int k a, .int k' b =>
    match op with
    | .shl => 0 ≤ b ∧ K (.int k (k.wrap (a * 2 ^ (min b.toNat k.bits))))
    | .shr => 0 ≤ b ∧ K (.int k (a.fdiv (2 ^ (min b.toNat k.bits))))
    | _ => k = k' ∧ intW op k a b K
  | .str a, .str b => strW op a b K
  | _, _ => False

def binbW (op : BinOp) (x y : AV) (K : AV → Prop) : Prop :=
  match x, y with
  | .bool a, .bool b => boolW op a b K
  | _, _ => False

theorem iok_wrap (k : IntKind) (n : Int) : IOk k (k.wrap n) := wrap_within k n

theorem iok_tmod {k : IntKind} {a b : Int} (h : IOk k a) : IOk k (a.tmod b) := by
  have h0 : k.min ≤ 0 ∧ 0 ≤ k.max := by cases k <;> decide
  have h1 := Int.natAbs_tmod a b
  have h2 := Nat.mod_le a.natAbs b.natAbs
  rcases Int.lt_or_le a 0 with ha | ha
  · have h4 : (-a).tmod b = -(a.tmod b) := Int.neg_tmod a b
    have h5 : 0 ≤ (-a).tmod b := Int.tmod_nonneg b (by omega)
    exact ⟨by have := h.1; omega, by omega⟩
  · have h5 : 0 ≤ a.tmod b := Int.tmod_nonneg b ha
    exact ⟨by omega, by have := h.2; omega⟩

theorem iok_shr {k : IntKind} {a : Int} (n : Nat) (h : IOk k a) : IOk k (a.fdiv (2 ^ n)) := by
  have h0 : k.min ≤ 0 ∧ 0 ≤ k.max := by cases k <;> decide
  have hp : (0 : Int) < 2 ^ n := Int.pow_pos (by omega)
  rw [Int.fdiv_eq_ediv_of_nonneg a (by omega)]
  have h1 := Int.natAbs_ediv_le_natAbs a (2 ^ n)
  rcases Int.lt_or_le a 0 with ha | ha
  · have h2 := Int.ediv_neg_of_neg_of_pos ha hp
    exact ⟨by have := h.1; omega, by omega⟩
  · have h2 := Int.ediv_nonneg ha (by omega : (0 : Int) ≤ 2 ^ n)
    exact ⟨by omega, by have := h.2; omega⟩

section
variable {P : Program} {G : Gh} {H : List AObj} {w : World} {K : AV → List AObj → Nat → Prop}

theorem eqGuard_scalar (op : BinOp) (t : TypeId) (x y : Operand) (a b : Value) (h1 : ¬ (∃ u, a = .agg u)) (h2 : a ≠ .nilIface) : (eqGuard op t x y a b).run P w = .ok () w := by
  unfold eqGuard
  cases a <;> first | exact absurd rfl h2 | exact absurd ⟨_, rfl⟩ h1 | (cases op <;> rfl)

theorem run_bits (op : BinOp) (k : IntKind) (a b : Int) (t : TypeId) (r : BitVec k.bits)
    (h : Op.intBits op k a b = pure (.int k (k.wrap r.toNat))) (hb : op = .and ∨ op = .or ∨ op = .xor) : (binOp op t (.int k a) (.int k b)).run P w = .ok (.int k (k.wrap r.toNat)) w := by
  rcases hb with rfl | rfl | rfl <;> (simp only [binOp, ne_eq, not_true_eq_false, if_false, h]; rfl)

theorem int_sound {op : BinOp} {k : IntKind} {a b : Int} (I : Inv G H w.heap) (ha : IOk k a) (hk : intW op k a b (fun v => K v H G.c)) (t : TypeId) (hs : op ≠ .shl) (hr : op ≠ .shr) :
    Run P (binOp op t (.int k a) (.int k b)) G H w K := by
  cases op
  case add => exact Run.here I (by simp [binOp, Op.intArith]) hk (.int (iok_wrap _ _))
  case sub => exact Run.here I (by simp [binOp, Op.intArith]) hk (.int (iok_wrap _ _))
  case mul => exact Run.here I (by simp [binOp, Op.intArith]) hk (.int (iok_wrap _ _))
  case quo => exact Run.here I (v := .int k (k.wrap (a.tdiv b))) (by simp [binOp, Op.intDiv, hk.1]) hk.2 (.int (iok_wrap _ _))
  case rem => exact Run.here I (v := .int k (a.tmod b)) (by simp [binOp, Op.intDiv, hk.1]) hk.2 (.int (iok_tmod ha))
  case and => exact Run.here I (run_bits .and k a b t _ rfl (by simp)) hk (.int (iok_wrap _ _))
  case or => exact Run.here I (run_bits .or k a b t _ rfl (by simp)) hk (.int (iok_wrap _ _))
  case xor => exact Run.here I (run_bits .xor k a b t _ rfl (by simp)) hk (.int (iok_wrap _ _))
  case eql => exact Run.here I (by simp [binOp, Op.intCmp]) hk .bool
  case neq => exact Run.here I (by simp [binOp, Op.intCmp]) hk .bool
  case lss => exact Run.here I (by simp [binOp, Op.intCmp]) hk .bool
  case leq => exact Run.here I (by simp [binOp, Op.intCmp]) hk .bool
  case gtr => exact Run.here I (v := .bool (decide (a > b))) (by simp [binOp, Op.intCmp]) hk .bool
  case geq => exact Run.here I (v := .bool (decide (a ≥ b))) (by simp [binOp, Op.intCmp]) hk .bool
  case shl => exact absurd rfl hs
  case shr => exact absurd rfl hr
  case andNot => exact hk.elim

theorem str_sound {op : BinOp} {a b : ByteArray} (I : Inv G H w.heap) (hk : strW op a.data.toList b.data.toList (fun v => K v H G.c)) (t : TypeId) :
    Run P (binOp op t (.string a) (.string b)) G H w K := by
  have ea : a.size = a.data.toList.length := by cases a; rfl
  have eb : b.size = b.data.toList.length := by cases b; rfl
  cases op <;> simp only [strW] at hk <;> first
    | exact hk.elim
    | exact Run.here I (by simp [binOp, Op.stringOp, ByteArray.toList_eq]) hk .bool
    | (refine Run.here I (v := .string (a ++ b)) ?_ hk.2 (.str (by simp) (by simp at hk ⊢; omega))
       have h1 := hk.1
       have : ¬ (((a.size + b.size : Nat) : Int) > IntKind.i64.max) := by
         rw [ea, eb]; unfold mx at h1; simp [IntKind.max, IntKind.signed, IntKind.bits]; omega
       simp [binOp, Op.stringOp]
       simp at this
       omega)

theorem bin_sound {op : BinOp} {x y : Operand} {a : Act} {e : Env} {u v : Opd} (I : Inv G H w.heap) (hE : Tmps G w.heap a e) (hx : opd x = some u) (hy : opd y = some v) (t : TypeId)
    (hk : binW op (ev e u) (ev e v) (fun r => K r H G.c)) : Run P (do eqGuard op t x y (a.eval x) (a.eval y); binOp op t (a.eval x) (a.eval y)) G H w K := by
  have rx := opd_rep hE hx
  have ry := opd_rep hE hy
  suffices h : (¬ (∃ q, a.eval x = .agg q) ∧ a.eval x ≠ .nilIface) ∧ Run P (binOp op t (a.eval x) (a.eval y)) G H w K by
    obtain ⟨⟨h1, h2⟩, z, w', h3, h4⟩ := h
    exact ⟨z, w', by simp only [Sem.run_bind, eqGuard_scalar op t x y _ _ h1 h2, Result.andThen_ok, h3], h4⟩
  generalize a.eval x = vx at rx
  generalize a.eval y = vy at ry
  generalize ev e u = ax at rx hk
  generalize ev e v = ay at ry hk
  cases rx <;> simp only [binW] at hk
  case int k n hn =>
    refine ⟨⟨by simp, by simp⟩, ?_⟩
    cases ry <;> try exact hk.elim
    rename_i k' n' hn'
    by_cases hs : op = .shl
    · subst hs
      have h0 : ¬ n' < 0 := by have := hk.1; omega
      exact Run.here I (v := .int k (k.wrap (n * 2 ^ (min n'.toNat k.bits)))) (by simp [binOp, Op.shift, h0]) hk.2 (.int (iok_wrap _ _))
    · by_cases hr : op = .shr
      · subst hr
        have h0 : ¬ n' < 0 := by have := hk.1; omega
        exact Run.here I (v := .int k (n.fdiv (2 ^ (min n'.toNat k.bits)))) (by simp [binOp, Op.shift, h0]) hk.2 (.int (iok_shr _ hn))
      · have hk' : k = k' ∧ intW op k n n' (fun r => K r H G.c) := by cases op <;> first | exact hk | exact absurd rfl hs | exact absurd rfl hr
        obtain ⟨rfl, hk'⟩ := hk'
        exact int_sound I hn hk' t hs hr
  case str s l e hl =>
    refine ⟨⟨by simp, by simp⟩, ?_⟩
    cases ry <;> try exact hk.elim
    rename_i s' l' e' hl'
    subst e; subst e'
    exact str_sound I hk t
  all_goals (first | exact hk.elim | skip)

theorem equalIn_bool (d : Nat) {t : TypeId} (ht : P.underlying t = some .bool) (b b' : Bool) : (Op.equalIn (d + 1) t (.bool b) (.bool b')).run P w = .ok (b == b') w := by
  simp only [Op.equalIn, Sem.run_bind, run_underlying ht, Result.andThen_ok, Sem.run_pure]

theorem binb_sound {op : BinOp} {x y : Operand} {a : Act} {e : Env} {u v : Opd} (I : Inv G H w.heap) (hE : Tmps G w.heap a e) (hx : opd x = some u) (hy : opd y = some v) {t : TypeId} (ht : P.underlying t = some .bool)
    (hk : binbW op (ev e u) (ev e v) (fun r => K r H G.c)) : Run P (do eqGuard op t x y (a.eval x) (a.eval y); binOp op t (a.eval x) (a.eval y)) G H w K := by
  have rx := opd_rep hE hx
  have ry := opd_rep hE hy
  generalize a.eval x = vx at rx
  generalize a.eval y = vy at ry
  generalize ev e u = ax at rx hk
  generalize ev e v = ay at ry hk
  cases rx <;> simp only [binbW] at hk
  case bool b =>
    cases ry <;> try exact hk.elim
    rename_i b'
    have e1 : ∀ op', (eqGuard op' t x y (.bool b) (.bool b')).run P w = .ok () w := fun op' => eqGuard_scalar op' t x y _ _ (by simp) (by simp)
    have e2 : (Op.equal t (.bool b) (.bool b')).run P w = .ok (b == b') w := by
      exact equalIn_bool 9999 ht b b'
    cases op <;> simp only [boolW] at hk <;> first
      | exact hk.elim
      | exact Run.here I (v := .bool (b == b')) (by simp only [Sem.run_bind, e1, Result.andThen_ok, binOp, e2, Sem.run_pure]) hk .bool
      | exact Run.here I (v := .bool (!(b == b'))) (by simp only [Sem.run_bind, e1, Result.andThen_ok, binOp, e2, Sem.run_pure]) hk .bool
  all_goals exact hk.elim
end
end A
end Go.Proofs.Ytfcimcoanlgldaa
