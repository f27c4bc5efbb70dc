/-
  The small language's statements; how they are made out of the model's code; that what is said of them holds of it; a function's contract out of its text. No condition.
-/
import Derived.Test.YtfcimcoanlgldaaCall
namespace Go.Proofs.Ytfcimcoanlgldaa
namespace A
set_option linter.unusedVariables false

structure IOper where
  dst : Option Nat
  op : IOp
  guard : Option (Nat × Bool) := none
  deriving Inhabited

inductive IR where
  | skip
  | reg (ops : List IOper)
  | draw (ops : List IOper)
  | seq (a b : IR)
  | cond (c : Opd) (a b : IR)
  | block (id : Nat) (b : IR)
  | loop (b : IR)
  | exit (id : Nat)
  | ret
  deriving Inhabited

/-! ### what must hold for an operation, a list of them, a statement -/
def pickW (c a b : AV) (K : AV → Prop) : Prop :=
  match c with
  | .bool c => (c = true → K a) ∧ (c = false → K b)
  | _ => False

def nilckW (x : AV) (K : AV → Prop) : Prop :=
  match x with
  | .ptr .. | .cpt .. | .fn .. => K x
  | _ => False

/-- Is it the nil slice? An empty tree may be it. -/
def isnlW (neg : Bool) (x : AV) (K : AV → Prop) : Prop :=
  match x with
  | .nsl => K (.bool (true != neg))
  | .slc _ _ [] => K (.bool (true != neg)) ∧ K (.bool (false != neg))
  | .slc .. | .ref .. => K (.bool (false != neg))
  | _ => False

/-- A load that looks at no object of the state. -/
def loadCW (ag : Option Nat) (x : AV) (K : AV → Prop) : Prop :=
  match x with
  | .cpt cells o => rowW ag cells o K
  | _ => False

def bodyOk (P : Program) (f : Nat) : Bool := match P.funcs[f]? with | some fn => fn.body.isSome && fn.name != "runtime.NumGoroutine" | none => false

def callvW (P : Program) (x : AV) (as : List AV) (H : List AObj) (c : Nat) (K : AV → List AObj → Nat → Prop) : Prop :=
  match x with
  | .fn f caps => bodyOk P f = true ∧ CallW P f (as ++ caps) H c K
  | _ => False

/-- The key's type, as the small language has it. -/
def keyD : Nat → TypeDesc
  | 0 => .int .i64
  | 1 => .string
  | _ => .bool

def opW (P : Program) (o : IOp) (e : Env) (H : List AObj) (c : Nat) (K : AV → List AObj → Nat → Prop) : Prop :=
  match o with
  | .mv x => K (ev e x) H c
  | .pick x a b => pickW (ev e x) (ev e a) (ev e b) fun v => K v H c
  | .new w z => newW w z H c K
  | .box _ x => boxW (ev e x) H c K
  | .build z ps => fillW z (ps.map fun (o, n, x) => (o, n, ev e x)) fun l => K (.agg l) H c
  | .bslice w z n ps => bsliceW w z n (ps.map fun (i, x) => (i, ev e x)) H c K
  | .load ag x => loadW ag (ev e x) H fun v => K v H c
  | .store n a x => storeW n (ev e a) (ev e x) H c K
  | .nilck x => nilckW (ev e x) fun v => K v H c
  | .bin op x y => binW op (ev e x) (ev e y) fun v => K v H c
  | .binb op x y => binbW op (ev e x) (ev e y) fun v => K v H c
  | .beq neg ks x y => beqW' neg ks (ev e x) (ev e y) fun v => K v H c
  | .un op x => unW op (ev e x) fun v => K v H c
  | .toInt k x => toIntW k (ev e x) fun v => K v H c
  | .toStr x => toStrW (ev e x) H fun v => K v H c
  | .toBytes x => toBytesW (ev e x) H c K
  | .mkfn f caps => K (.fn f (caps.map (ev e))) H c
  | .mkmap => mkmapW H c K
  | .mkslice w z b l x => mksliceW w z b (ev e l) (ev e x) H c K
  | .sliceS x lo hi => strSliceW (ev e x) (lo.map (ev e)) (hi.map (ev e)) fun v => K v H c
  | .slice w x lo hi => slcSliceW w (ev e x) (lo.map (ev e)) (hi.map (ev e)) fun v => K v H c
  | .faddr o x => faddrW o (ev e x) fun v => K v H c
  | .field o ag x => fieldW o ag (ev e x) fun v => K v H c
  | .iaddr w x i => iaddrW w (ev e x) (ev e i) fun v => K v H c
  | .index x i => indexW (ev e x) (ev e i) fun v => K v H c
  | .lookup d z ok m k => lookupW (keyD d) z ok (ev e m) (ev e k) H fun v => K v H c
  | .mupd d m k v => mupdW (keyD d) (ev e m) (ev e k) (ev e v) H c K
  | .lenS x => lenStrW (ev e x) fun v => K v H c
  | .lenL x => lenSlcW (ev e x) fun v => K v H c
  | .lenM x => lenMapW (ev e x) H fun v => K v H c
  | .append w b x y => appendW w b (ev e x) (ev e y) H c K
  | .extract x i => extractW (ev e x) i fun v => K v H c
  | .call f as => CallW P f (as.map (ev e)) H c K
  | .callv x as => callvW P (ev e x) (as.map (ev e)) H c K
  | .callF f as => callFW P f (as.map (ev e)) H c K
  | .isnl neg x => isnlW neg (ev e x) fun v => K v H c
  | .loadC ag x => loadCW ag (ev e x) fun v => K v H c
  | .chk ag x y => loadW ag (ev e x) H fun v => v = ev e y ∧ K .und H c

def put (e : Env) (d : Option Nat) (v : AV) : Env :=
  match d with
  | some d => upd e d v
  | none => e

def guardW (g : AV) (want : Bool) (run skip : Prop) : Prop :=
  match g with
  | .bool b => (b = want → run) ∧ (b ≠ want → skip)
  | .und => skip
  | _ => False

def opsW (P : Program) : List IOper → Env → List AObj → Nat → (Env → List AObj → Nat → Prop) → Prop
  | [], e, H, c, K => K e H c
  | o :: rest, e, H, c, K =>
    match o.guard with
    | none => opW P o.op e H c fun v H' c' => opsW P rest (put e o.dst v) H' c' K
    | some (g, want) => guardW (e g) want (opW P o.op e H c fun v H' c' => opsW P rest (put e o.dst v) H' c' K) (opsW P rest (put e o.dst .und) H c K)

/-- The same, of statements whose order is open, with calls that hand back trees: R says beforehand what is asked of each call's result. -/
def opD (P : Program) (R : AV → Prop) (o : IOp) (e : Env) (H : List AObj) (c : Nat) (K : AV → Prop) : Prop :=
  match o with
  | .callF f as => callD P R f (as.map (ev e)) H c K
  | o => opW P o e H c fun v _ _ => K v

def opsD (P : Program) (R : Nat → AV → Prop) : List IOper → Env → List AObj → Nat → (Env → Prop) → Prop
  | [], e, _, _, K => K e
  | o :: rest, e, H, c, K =>
    match o.guard with
    | none => opD P (R (o.dst.getD 0)) o.op e H c fun v => opsD P R rest (put e o.dst v) H c K
    | some (g, want) => guardW (e g) want (opD P (R (o.dst.getD 0)) o.op e H c fun v => opsD P R rest (put e o.dst v) H c K) (opsD P R rest (put e o.dst .und) H c K)

def condW (c : AV) (a b : Prop) : Prop :=
  match c with
  | .bool t => (t = true → a) ∧ (t = false → b)
  | _ => False

abbrev Post := Exit → Env → List AObj → Nat → Prop

def thenQ (next : Env → List AObj → Nat → Prop) (Q : Post) : Post
  | .normal, e, H, c => next e H c
  | x, e, H, c => Q x e H c
def blockQ (id : Nat) (Q : Post) : Post
  | .exit id', e, H, c => if id' = id then Q .normal e H c else Q (.exit id') e H c
  | x, e, H, c => Q x e H c

def irW (P : Program) : IR → Post → Env → List AObj → Nat → Prop
  | .skip, Q, e, H, c => Q .normal e H c
  | .reg ops, Q, e, H, c => opsW P ops e H c (Q .normal)
  | .draw ops, Q, e, H, c => ∃ R, opsD P R ops e H c fun e' => ∀ c', c ≤ c' → Q .normal e' H c'
  | .seq a b, Q, e, H, c => irW P a (thenQ (irW P b Q) Q) e H c
  | .cond x a b, Q, e, H, c => condW (ev e x) (irW P a Q e H c) (irW P b Q e H c)
  | .block id b, Q, e, H, c => irW P b (blockQ id Q) e H c
  | .loop b, Q, e, H, c => ∃ (I : Env → List AObj → Nat → Prop) (μ : Env → List AObj → Nat → Nat), (∃ H0, H0.Sublist H ∧ I e H0 c) ∧
      ∀ e H c, I e H c → irW P b (thenQ (fun e' H' c' => ∃ H'', H''.Sublist H' ∧ I e' H'' c' ∧ μ e' H'' c' < μ e H c) Q) e H c
  | .exit id, Q, e, H, c => Q (.exit id) e H c
  | .ret, Q, e, H, c => Q .ret e H c

/-! ### out of the model's code -/
def opds (l : List Operand) : Option (List Opd) := l.mapM opd
def optOpd : Option Operand → Option (Option Opd)
  | none => some none
  | some x => (opd x).map some

def kdT (P : Program) (t : TypeId) : Option Nat :=
  match P.underlying t with
  | some (.int .i64) => some 0
  | some .string => some 1
  | some .bool => some 2
  | _ => none

def isIntStr (P : Program) (t : TypeId) : Bool := match P.underlying t with | some (.int _) | some .string => true | _ => false
def isBoolT (P : Program) (t : TypeId) : Bool := match P.underlying t with | some .bool => true | _ => false

def isNil : Opd → Bool
  | .c .nsl => true
  | _ => false

def compBin (P : Program) (op : BinOp) (t : TypeId) (x y : Opd) : Option IOp :=
  if isIntStr P t then some (.bin op x y)
  else if isBoolT P t then some (.binb op x y)
  else if flatT P t then
    match op with
    | .eql => some (.beq false (kindsF P (P.fieldsOf t).toList) x y)
    | .neq => some (.beq true (kindsF P (P.fieldsOf t).toList) x y)
    | _ => none
  else if isSlcT P t && isNil y then
    match op with
    | .eql => some (.isnl false x)
    | .neq => some (.isnl true x)
    | _ => none
  else none

def compConv (P : Program) (s d : TypeId) (x : Opd) : Option IOp :=
  match P.underlying s, P.underlying d with
  | some _, some (.int k) => some (.toInt k x)
  | some (.slice e), some .string => match P.underlying e with | some (.int .u8) => some (.toStr x) | _ => none
  | some .string, some (.slice e) => match P.underlying e with | some (.int .u8) => some (.toBytes x) | _ => none
  | _, _ => none

def compLen (P : Program) (t : TypeId) (x : Opd) : Option IOp :=
  if isStrT P t then some (.lenS x) else if isSlcT P t then some (.lenL x) else if isMapT P t then some (.lenM x) else none

def plainT (P : Program) (t : TypeId) : Bool := match P.underlying t with | some (.int _) | none => false | _ => true

def compCall (P : Program) (c : Call) (ty : TypeId) : Option IOp :=
  match c.callee with
  | .builtin .len =>
    match c.args.toList, c.argTypes.toList with
    | [x], [t] => do compLen P t (← opd x)
    | _, _ => none
  | .builtin .append =>
    match c.args.toList, c.argTypes.toList with
    | [x, y], [t, u] => do
      let (e, i) ← sliceElem P t
      let _ ← zeroOf? P e
      if plainT P u then some (.append i.size i.bytes (← opd x) (← opd y)) else none
    | _, _ => none
  | .value (.func f) => do
    let as ← opds c.args.toList
    if bodyOk P f then some (.call f as) else none
  | .value (.tmp t) => do some (.callv (.t t) (← opds c.args.toList))
  | _ => none

/-- Every function has a body, unless it is named so (asked for calls of function values). -/
def compOp (P : Program) (o : Op) (ty : TypeId) : Option IOp :=
  match o with
  | .move x | .assign x => do some (.mv (← opd x))
  | .pick c a b => do some (.pick (← opd c) (← opd a) (← opd b))
  | .alloc t => do let z ← zeroOf? P t; some (.new z.length z)
  | .box t x => do some (.box (← sizeOf? P t) (← opd x))
  | .build t ps => do
    let z ← zeroOf? P t
    if placesOk P t then some (.build z (← ps.toList.mapM fun (i, x) => do let (o, n) ← placeOf P t i; some (o, n, ← opd x))) else none
  | .buildSlice t n ps => do
    let (e, i) ← sliceElem P t
    let z ← zeroOf? P e
    if n * i.size ≤ 16777216 ∧ n ≤ 16777216 then some (.bslice i.size z n (← ps.toList.mapM fun (i, x) => do some (i, ← opd x))) else none
  | .load t x => do some (.load (← agOf P t) (← opd x))
  | .store t a x => do some (.store (← sizeOf? P t) (← opd a) (← opd x))
  | .nilCheck x => do some (.nilck (← opd x))
  | .binOp op t x y _ => do compBin P op t (← opd x) (← opd y)
  | .unOp op _ x => do some (.un op (← opd x))
  | .convert s d x => do compConv P s d (← opd x)
  | .makeFunc (.func f) first caps => if first.isEmpty then do some (.mkfn f (← opds caps.toList)) else none
  | .makeMap _ none => some .mkmap
  | .makeSlice t l c => do
    let (e, i) ← sliceElem P t
    let z ← zeroOf? P e
    some (.mkslice i.size z i.bytes (← opd l) (← opd c))
  | .slice t x lo hi none =>
    if isStrT P t then do some (.sliceS (← opd x) (← optOpd lo) (← optOpd hi))
    else do
      let (_, i) ← sliceElem P t
      some (.slice i.size (← opd x) (← optOpd lo) (← optOpd hi))
  | .fieldAddr t x f => do let (o, _) ← fieldOff P t f; some (.faddr o (← opd x))
  | .field t x f => do let (o, u) ← fieldOff P t f; some (.field o (← agOf P u) (← opd x))
  | .indexAddr t x i => do let (_, j) ← sliceElem P t; some (.iaddr j.size (← opd x) (← opd i))
  | .index t x i => if isStrT P t then do some (.index (← opd x) (← opd i)) else none
  | .lookup t m k ok =>
    match P.underlying t with
    | some (.map kt et) => do some (.lookup (← kdT P kt) (← zeroVal? P et) ok (← opd m) (← opd k))
    | _ => none
  | .mapUpdate t m k v =>
    match P.underlying t with
    | some (.map kt _) => do some (.mupd (← kdT P kt) (← opd m) (← opd k) (← opd v))
    | _ => none
  | .extract x i => do some (.extract (← opd x) i)
  | .call c => compCall P c ty
  | _ => none

def compGuard (ops : Array Oper) : Option (Nat × Bool) → Option (Option (Nat × Bool))
  | none => some none
  | some (j, want) =>
    match (ops[j]?).bind (·.dst) with
    | some d => some (some (d, want))
    | none => none

def dstOk (n : Nat) : Option Nat → Bool
  | some d => decide (d < n)
  | none => true

def compOper (P : Program) (n : Nat) (ops : Array Oper) (o : Oper) : Option IOper := do
  let op ← compOp P o.op o.type
  let g ← compGuard ops o.guard
  if dstOk n o.dst then some ⟨o.dst, op, g⟩ else none

/-- An operation that only computes, for statements whose order is open; a call among them is one of a function that only computes. -/
def pureOp : IOp → Option IOp
  | .call f as => some (.callF f as)
  | .mv x => some (.mv x) | .pick a b c => some (.pick a b c) | .load a x => some (.load a x) | .nilck x => some (.nilck x) | .bin a b c => some (.bin a b c) | .binb a b c => some (.binb a b c)
  | .beq a b c d => some (.beq a b c d) | .un a b => some (.un a b) | .toInt a b => some (.toInt a b) | .toStr a => some (.toStr a) | .mkfn a b => some (.mkfn a b) | .sliceS a b c => some (.sliceS a b c)
  | .slice a b c d => some (.slice a b c d) | .faddr a b => some (.faddr a b) | .field a b c => some (.field a b c) | .iaddr a b c => some (.iaddr a b c) | .index a b => some (.index a b)
  | .lookup a b c d e => some (.lookup a b c d e) | .lenS a => some (.lenS a) | .lenL a => some (.lenL a) | .lenM a => some (.lenM a) | .extract a b => some (.extract a b)
  | .loadC a x => some (.loadC a x)
  | _ => none

def IOper.pure (o : IOper) : Option IOper := (pureOp o.op).map fun p => { o with op := p }

def afterAny (o : Oper) : List Nat := (o.after.toList.filter (Region.binds .any)).map (·.on)

/-- No order that Go allows makes a difference: what is read is written before, or behind, by an edge. -/
def drawOk (ops : Array Oper) : Bool :=
  (List.range ops.size).all fun i => (List.range ops.size).all fun k =>
    match ops[i]?, ops[k]? with
    | some x, some y =>
      (afterAny x).all (fun j => decide (j < i)) && (i == k || x.dst.isNone || x.dst != y.dst) &&
      (match y.dst with
       | some d => !(x.looksAt ops).contains d || (if k < i then (afterAny x).contains k else k == i || (afterAny y).contains i)
       | none => true)
    | _, _ => false

/-- A call whose result is no number, bool or string. -/
def treeCall (P : Program) (o : Oper) : Bool :=
  match o.op with
  | .call c => (match c.callee with
    | .value (.func _) => (match P.underlying o.type with | some (.int _) | some .bool | some .string => false | _ => true)
    | _ => false)
  | _ => false

def isCall : IOp → Bool
  | .callF .. => true
  | _ => false

/-! Effects among statements whose order is open: those that only compute (A) beside those with an effect (B), which stand in one order. -/
def nopO : IOper := ⟨none, .mv (.c .und), none⟩
def isNop : IOper → Bool
  | ⟨none, .mv (.c .und), none⟩ => true
  | _ => false

/-- What must have run before: of each of the first n. -/
def clos (ops : Array Oper) : Nat → List (List Nat)
  | 0 => []
  | n + 1 => clos ops n ++ [match ops[n]? with | some o => ((afterAny o).flatMap fun j => j :: (clos ops n).getD j []).eraseDups | none => []]

/-- It leaves the objects as they are, or adds some. -/
def growOp : IOp → Bool
  | .new .. | .box .. | .build .. | .bslice .. | .mkslice .. | .mkmap | .toBytes .. | .isnl .. => true
  | .call .. | .callF .. => false
  | op => (pureOp op).isSome

/-- It looks at the objects. -/
def needsH : IOp → Bool
  | .load .. | .lookup .. | .lenM _ | .toStr _ => true
  | _ => false

/-- A call that is given a pointer. -/
def ptrCall (P : Program) (o : Oper) : Bool :=
  match o.op with
  | .call c => (match c.callee with
    | .value (.func _) => c.argTypes.toList.any fun t => (match P.underlying t with | some (.pointer _) => true | _ => false)
    | _ => false)
  | _ => false

def growAt (m : List IOper) (k : Nat) : Bool := match m[k]? with | some io => growOp io.op | none => false

/-- What waits for nothing that writes: it may stand anywhere. -/
def safeAt (m : List IOper) (cl : List (List Nat)) (bl : List Bool) (i : Nat) : Bool := (List.range m.length).all fun k => !bl.getD k false || (cl.getD k []).contains i || growAt m k

/-- A load out of a variable that stands before: it is looked at again behind every effect that does not wait for it. -/
def ckd (ops : Array Oper) (m : List IOper) (cl : List (List Nat)) (bl : List Bool) (i : Nat) : Option (Option Nat × Nat × Nat) :=
  if bl.getD i false || safeAt m cl bl i then none else
  match ops[i]?, m[i]? with
  | some o, some ⟨some d, .load ag (.t t), none⟩ =>
    if (afterAny o).any (fun j => match m[j]? with | some ⟨some t', .faddr _ (.t u), none⟩ => t' == t && !(m.any fun y => y.dst == some u) | _ => false) then some (ag, t, d) else none
  | _, _ => none
def ckq (ops : Array Oper) (m : List IOper) (cl : List (List Nat)) (bl : List Bool) (i : Nat) : Bool := (ckd ops m cl bl i).isSome

def aOp (q : Nat → Bool) (m : List IOper) (cl : List (List Nat)) (bl : List Bool) (i : Nat) (op : IOp) : IOp :=
  match op with
  | .load ag x => if safeAt m cl bl i || q i then .load ag x else .loadC ag x
  | op => (pureOp op).getD (.mv (.c .und))

def mixA (ops : Array Oper) (m : List IOper) (cl : List (List Nat)) (bl : List Bool) (i : Nat) : IOper :=
  if bl.getD i false then nopO else
  match m[i]? with
  | some io => { io with op := aOp (ckq ops m cl bl) m cl bl i io.op }
  | none => nopO

def ckList (ops : Array Oper) (m : List IOper) (cl : List (List Nat)) (bl : List Bool) (k : Nat) : List IOper :=
  (List.range m.length).filterMap fun i => if (cl.getD k []).contains i then none else (ckd ops m cl bl i).map fun (ag, t, d) => ⟨none, .chk ag (.t t) (.t d), none⟩
def mixC (ops : Array Oper) (m : List IOper) (cl : List (List Nat)) (bl : List Bool) (i : Nat) : List IOper := if bl.getD i false then m.getD i nopO :: ckList ops m cl bl i else [nopO]

def mixOk (ops : Array Oper) (m : List IOper) (cl : List (List Nat)) (bl : List Bool) : Bool :=
  (List.range ops.size).all fun i =>
    match ops[i]?, m[i]? with
    | some o, some io =>
      (bl.getD i false || ((pureOp io.op).isSome && (afterAny o).all fun j => !bl.getD j false)) &&
      (List.range ops.size).all fun k => i == k || !bl.getD k false || (
        if bl.getD i false then decide (k < i) || (cl.getD k []).contains i
        else (!isCall (aOp (ckq ops m cl bl) m cl bl i io.op) || (cl.getD k []).contains i) && (!needsH (aOp (ckq ops m cl bl) m cl bl i io.op) || (cl.getD k []).contains i || growAt m k || ckq ops m cl bl i))
    | _, _ => false

def mixList (ops : Array Oper) (m : List IOper) (cl : List (List Nat)) (bl : List Bool) : List IOper :=
  ((List.range m.length).map (mixA ops m cl bl) ++ (List.range m.length).flatMap (mixC ops m cl bl)).filter fun o => !isNop o

def effAt (P : Program) (ops : Array Oper) (m : List IOper) (deep : Bool) (j : Nat) : Bool :=
  match ops[j]?, m[j]? with
  | some o, some io => (pureOp io.op).isNone || (deep && (ptrCall P o || treeCall P o))
  | _, _ => false

def mixIR (P : Program) (ops : Array Oper) (m : List IOper) (cl : List (List Nat)) (bl : List Bool) : Option IR :=
  if mixOk ops m cl bl then some (.reg (mixList ops m cl bl)) else none

def mixBl (P : Program) (ops : Array Oper) (m : List IOper) (cl : List (List Nat)) (deep : Bool) : List Bool :=
  (List.range m.length).map fun i => effAt P ops m deep i || (cl.getD i []).any (effAt P ops m deep)

def compPure (P : Program) (n : Nat) (ops : Array Oper) : Option IR :=
  (ops.toList.mapM fun o => (compOper P n ops o).bind IOper.pure).map fun m => if ops.any (treeCall P) then .draw m else .reg m

def compMix (P : Program) (n : Nat) (ops : Array Oper) (deep : Bool) : Option IR :=
  (ops.toList.mapM (compOper P n ops)).bind fun m => mixIR P ops m (clos ops m.length) (mixBl P ops m (clos ops m.length) deep)

def compDraw (P : Program) (n : Nat) (ops : Array Oper) : Option IR :=
  if ops.any (ptrCall P) then (compMix P n ops true).or ((compPure P n ops).or (compMix P n ops false))
  else (compPure P n ops).or ((compMix P n ops false).or (compMix P n ops true))

def comp (P : Program) (n : Nat) : Code → Option IR
  | .skip => some .skip
  | .region _ ops true => if P.follows .mixedOrders && drawOk ops && Region.noSelect ops then compDraw P n ops else none
  | .region _ ops false => do some (.reg (← ops.toList.mapM (compOper P n ops)))
  | .seq a b => do some (.seq (← comp P n a) (← comp P n b))
  | .cond c a b => do some (.cond (← opd c) (← comp P n a) (← comp P n b))
  | .block id b => do some (.block id (← comp P n b))
  | .loop b => do some (.loop (← comp P n b))
  | .exit id => some (.exit id)
  | .ret => some .ret
  | _ => none

section
variable {P : Program} {G : Gh} {H : List AObj} {w : World} {K : AV → List AObj → Nat → Prop} {a : Act} {e : Env} {next : Act → World → Prop} {Q : Exit → Act → World → Prop} {o : Oper}

theorem wp_value {s : Sem Value} (hs : (execOp a.eval o).run P w = (s.run P w).andThen fun v w' => .ok (.value v) w') (hr : Run P s G H w K) (hn : ∀ v w', Good G H w K v w' → next (a.put o.dst v) w') : o.wp P a w next Q := by
  obtain ⟨v, w', h1, h2⟩ := hr
  unfold Oper.wp
  rw [hs, h1]
  exact hn v w' h2

theorem wp_unit {s : Sem Unit} (hs : (execOp a.eval o).run P w = (s.run P w).andThen fun _ w' => .ok .skip w') (hr : ∃ w', s.run P w = .ok () w' ∧ Good G H w K undef w') (hn : ∀ v w', Good G H w K v w' → next (a.put o.dst v) w') : o.wp P a w next Q := by
  obtain ⟨w', h1, h2⟩ := hr
  unfold Oper.wp
  rw [hs, h1]
  exact hn undef w' h2

theorem wp_here {v : Value} (hs : (execOp a.eval o).run P w = .ok (.value v) w) (I : Inv G H w.heap) {av : AV} (k : K av H G.c) (r : Rep G w.heap v av) (hn : ∀ v w', Good G H w K v w' → next (a.put o.dst v) w') : o.wp P a w next Q := by
  unfold Oper.wp
  rw [hs]
  exact hn v w (Good.here I k r)

theorem opds_rep (hE : Tmps G w.heap a e) : ∀ (l : List Operand) (m : List Opd), opds l = some m → Args G w.heap (l.map a.eval).toArray (m.map (ev e)) := by
  intro l
  induction l with
  | nil => intro m h; simp [opds] at h; subst h; exact ⟨rfl, by simp⟩
  | cons x l ih =>
    intro m h
    simp only [opds, List.mapM_cons, Option.bind_eq_bind, Option.bind_eq_some_iff, Option.pure_def, Option.some.injEq] at h
    obtain ⟨y, hy, m', hm', rfl⟩ := h
    obtain ⟨h1, h2⟩ := ih m' hm'
    refine ⟨by simpa using h1, fun j b hj => ?_⟩
    cases j with
    | zero => simp at hj; subst hj; simpa using opd_rep hE hy
    | succ j =>
      have := h2 j b (by simpa using hj)
      simpa [Array.getD] using this

theorem optOpd_rep (hE : Tmps G w.heap a e) {x : Option Operand} {y : Option Opd} (h : optOpd x = some y) : OptRep G w.heap (x.map a.eval) (y.map (ev e)) := by
  cases x with
  | none => simp [optOpd] at h; subst h; exact .none
  | some x =>
    simp only [optOpd, Option.map_eq_some_iff] at h
    obtain ⟨z, hz, rfl⟩ := h
    exact .some (opd_rep hE hz)

theorem kdT_spec {t : TypeId} {d : Nat} (h : kdT P t = some d) : P.underlying t = some (keyD d) ∧ keyDesc (keyD d) = true := by
  unfold kdT at h
  split at h <;> cases h <;> exact ⟨by assumption, rfl⟩

theorem equalIn_snil (n : Nat) {t el : TypeId} (hu : P.underlying t = some (.slice el)) (b : Option Addr) (l c : Nat) : (Op.equalIn (n + 1) t (.slice b l c) (.slice none 0 0)).run P w = .ok b.isNone w := by
  unfold Op.equalIn
  cases b <;> simp only [Sem.run_bind, run_underlying hu, Result.andThen_ok, Sem.run_pure, Option.isNone]

theorem isNil_rep {h : Array Obj} {v : Opd} {y : Value} (hv : isNil v = true) (r : Rep G h y (ev e v)) : y = .slice none 0 0 := by
  unfold isNil at hv
  split at hv
  · cases r; rfl
  · cases hv

theorem isnl_sound (I : Inv G H w.heap) {t : TypeId} (ht : isSlcT P t = true) {op : BinOp} {neg : Bool} (hop : (op = .eql ∧ neg = false) ∨ (op = .neq ∧ neg = true)) {x y : Operand} {u v : Value} {ax : AV}
    (rx : Rep G w.heap u ax) (hv : v = .slice none 0 0) (hk : isnlW neg ax (fun r => K r H G.c)) : Run P (do eqGuard op t x y u v; binOp op t u v) G H w K := by
  subst hv
  obtain ⟨el, hu⟩ := isSlcT_spec ht
  have key : ∀ (b : Option Addr) (l c : Nat), K (.bool (b.isNone != neg)) H G.c → Run P (do eqGuard op t x y (.slice b l c) (.slice none 0 0); binOp op t (.slice b l c) (.slice none 0 0)) G H w K := fun b l c hk => by
    have e1 : ∀ op', (eqGuard op' t x y (.slice b l c) (.slice none 0 0)).run P w = .ok () w := fun op' => eqGuard_scalar op' t x y _ _ (by simp) (by simp)
    have e2 : (Op.equal t (.slice b l c) (.slice none 0 0)).run P w = .ok b.isNone w := equalIn_snil 9999 hu b l c
    rcases hop with ⟨rfl, rfl⟩ | ⟨rfl, rfl⟩
    · exact Run.here I (v := .bool b.isNone) (by simp only [Sem.run_bind, e1, Result.andThen_ok, binOp, e2, Sem.run_pure]) (by simpa using hk) .bool
    · exact Run.here I (v := .bool (!b.isNone)) (by simp only [Sem.run_bind, e1, Result.andThen_ok, binOp, e2, Sem.run_pure]) (by simpa using hk) .bool
  cases rx <;> simp only [isnlW] at hk <;> first
    | exact hk.elim
    | skip
  case nsl => exact key _ _ _ hk
  case slc0 a cap tag wd => cases a with
    | none => exact key _ _ _ hk.1
    | some a => exact key _ _ _ hk.2
  case slc tag wd off cap rows f hF hc hlen hcap hw hcell hcl hrep =>
    cases rows with
    | nil => exact key _ _ _ hk.2
    | cons r rows => exact key _ _ _ hk
  case ref => exact key _ _ _ hk

theorem bin_op_sound {op : BinOp} {t : TypeId} {x y : Operand} {u v : Opd} {io : IOp} (I : Inv G H w.heap) (hE : Tmps G w.heap a e) (hx : opd x = some u) (hy : opd y = some v) (hc : compBin P op t u v = some io)
    (hk : opW P io e H G.c K) : Run P (do eqGuard op t x y (a.eval x) (a.eval y); binOp op t (a.eval x) (a.eval y)) G H w K := by
  unfold compBin at hc
  split at hc
  · cases hc; exact bin_sound I hE hx hy t hk
  · split at hc
    · cases hc
      rename_i hb
      have ht : P.underlying t = some .bool := by unfold isBoolT at hb; split at hb <;> first | assumption | cases hb
      exact binb_sound I hE hx hy ht hk
    · split at hc
      · rename_i hf
        split at hc <;> cases hc
        · exact beq_sound I hf (.inl ⟨rfl, rfl⟩) (opd_rep hE hx) (opd_rep hE hy) hk
        · exact beq_sound I hf (.inr ⟨rfl, rfl⟩) (opd_rep hE hx) (opd_rep hE hy) hk
      · split at hc
        · rename_i hf
          simp only [Bool.and_eq_true] at hf
          split at hc <;> cases hc
          · exact isnl_sound I hf.1 (.inl ⟨rfl, rfl⟩) (opd_rep hE hx) (isNil_rep hf.2 (opd_rep hE hy)) hk
          · exact isnl_sound I hf.1 (.inr ⟨rfl, rfl⟩) (opd_rep hE hx) (isNil_rep hf.2 (opd_rep hE hy)) hk
        · cases hc

theorem conv_op_sound {s d : TypeId} {x : Operand} {u : Opd} {io : IOp} (I : Inv G H w.heap) (hE : Tmps G w.heap a e) (hx : opd x = some u) (hc : compConv P s d u = some io) (hk : opW P io e H G.c K) :
    Run P (convert s d (a.eval x)) G H w K := by
  unfold compConv at hc
  split at hc
  · cases hc; exact toInt_sound I (by assumption) (by assumption) (opd_rep hE hx) hk
  · split at hc <;> cases hc
    exact toStr_sound I (by assumption) (by assumption) (by assumption) (opd_rep hE hx) hk
  · split at hc <;> cases hc
    exact toBytes_sound (d := .string) I (by assumption) (by assumption) (by assumption) (opd_rep hE hx) hk
  · cases hc

theorem len_op_sound {t ty : TypeId} {x : Operand} {u : Opd} {io : IOp} (I : Inv G H w.heap) (hE : Tmps G w.heap a e) (hx : opd x = some u) (hc : compLen P t u = some io) (hk : opW P io e H G.c K) :
    Run P (Builtin.len_ #[t] ty #[a.eval x]) G H w K := by
  unfold compLen at hc
  split at hc
  · cases hc; exact lenStr_sound I (by assumption) (opd_rep hE hx) hk
  · split at hc
    · cases hc; exact lenSlc_sound I (by assumption) (opd_rep hE hx) hk
    · split at hc <;> cases hc
      exact lenMap_sound I (by assumption) (opd_rep hE hx) hk

theorem bodyOk_run {f : Nat} (h : bodyOk P f = true) (vs : Array Value) (w : World) : (callFunc f vs).run P w = .ok (.enter f vs) w := by
  unfold bodyOk at h
  split at h
  · rename_i fn hf
    simp only [Bool.and_eq_true, bne_iff_ne, ne_eq] at h
    have h2 : (fn.name == "runtime.NumGoroutine") = false := by simpa using h.2
    have h1 : fn.body.isNone = false := by simpa using h.1
    unfold callFunc
    simp only [Sem.run_bind, run_program, Result.andThen_ok, hf, h2, Bool.false_eq_true, if_false, h1, Sem.run_pure]
  · cases h

theorem wp_enter {f : Nat} {vs : Array Value} {as : List AV} (hs : (execOp a.eval o).run P w = .ok (.enter f vs) w) (I : Inv G H w.heap) (ha : Args G w.heap vs as) (hk : CallW P f as H G.c K)
    (hn : ∀ v w', Good G H w K v w' → next (a.put o.dst v) w') : o.wp P a w next Q := by
  unfold Oper.wp
  rw [hs, Oper.upon_enter]
  refine (call_sound I ha hk).mono fun en w' ⟨v, he, hg⟩ => ?_
  subst he
  exact hn v w' hg

theorem call_op_sound {c : Call} {ty : TypeId} {io : IOp} (ho : o.op = .call c) (I : Inv G H w.heap) (hE : Tmps G w.heap a e) (hc : compCall P c ty = some io) (hk : opW P io e H G.c K)
    (hn : ∀ v w', Good G H w K v w' → next (a.put o.dst v) w') : o.wp P a w next Q := by
  obtain ⟨callee, args, argTypes⟩ := c
  unfold compCall at hc
  dsimp only at hc
  split at hc
  · split at hc
    · rename_i x t hx ht
      simp only [Option.bind_eq_bind, Option.bind_eq_some_iff] at hc
      obtain ⟨u, hu, hc⟩ := hc
      have e1 : args = #[x] := by rw [← Array.toList_inj, hx]
      have e2 : argTypes = #[t] := by rw [← Array.toList_inj, ht]
      subst e1; subst e2
      refine wp_value (s := Builtin.len_ #[t] o.type #[a.eval x]) ?_ (len_op_sound I hE hu hc hk) hn
      unfold execOp
      simp only [ho, resolve, Sem.run_bind, Sem.run_pure, Result.andThen_ok, invoke, builtin, List.map_toArray, List.map_cons, List.map_nil]
    · cases hc
  · split at hc
    · rename_i x y t u hx ht
      simp only [Option.bind_eq_bind, Option.bind_eq_some_iff] at hc
      obtain ⟨⟨el, i⟩, hs, z, hz, hc⟩ := hc
      split at hc
      · simp only [Option.bind_eq_some_iff, Option.some.injEq] at hc
        obtain ⟨u1, hu1, u2, hu2, rfl⟩ := hc
        have e1 : args = #[x, y] := by rw [← Array.toList_inj, hx]
        have e2 : argTypes = #[t, u] := by rw [← Array.toList_inj, ht]
        subst e1; subst e2
        rename_i hp
        obtain ⟨d, hd, hdi⟩ : ∃ d, P.underlying u = some d ∧ ∀ k, d ≠ .int k := by
          unfold plainT at hp
          split at hp
          · cases hp
          · cases hp
          · rename_i h1 h2
            cases hq : P.underlying u with
            | none => exact (h2 hq).elim
            | some d => exact ⟨d, rfl, fun k e => h1 k (e ▸ hq)⟩
        refine wp_value (s := Builtin.append_ #[t, u] o.type #[a.eval x, a.eval y]) ?_ (append_sound I hs hz hd hdi (opd_rep hE hu1) (opd_rep hE hu2) hk) hn
        unfold execOp
        simp only [ho, resolve, Sem.run_bind, Sem.run_pure, Result.andThen_ok, invoke, builtin, List.map_toArray, List.map_cons, List.map_nil]
      · cases hc
    · cases hc
  · rename_i f
    simp only [Option.bind_eq_bind, Option.bind_eq_some_iff] at hc
    obtain ⟨as, has, hc⟩ := hc
    split at hc <;> cases hc
    rename_i hb
    have hrep := opds_rep hE args.toList as has
    have em : (args.toList.map a.eval).toArray = args.map a.eval := by apply Array.ext'; simp
    rw [em] at hrep
    refine wp_enter (vs := args.map a.eval) ?_ I hrep hk hn
    unfold execOp
    simp only [ho, resolve, Act.eval, Deferred.ofValue, Sem.run_bind, Sem.run_pure, Result.andThen_ok, invoke]
    rw [bodyOk_run hb]
    simp
  · rename_i t
    simp only [Option.bind_eq_bind, Option.bind_eq_some_iff, Option.some.injEq] at hc
    obtain ⟨as, has, rfl⟩ := hc
    have hrep := opds_rep hE args.toList as has
    have em : (args.toList.map a.eval).toArray = args.map a.eval := by apply Array.ext'; simp
    rw [em] at hrep
    have hf := hE t
    simp only [opW, ev, callvW] at hk
    generalize hv : a.tmps.getD t undef = fv at hf
    generalize e t = et at hf hk
    cases hf <;> simp only at hk <;> first
      | exact hk.elim
      | skip
    rename_i f cs caps hs hr
    obtain ⟨hb, hk⟩ := hk
    refine wp_enter (vs := args.map a.eval ++ cs) ?_ I (as := as.map (ev e) ++ caps) ?_ hk hn
    · unfold execOp
      have hev : a.eval (.tmp t) = .func (.func f) #[] cs := hv
      simp only [ho, resolve, hev, Deferred.ofValue, Sem.run_bind, Sem.run_pure, Result.andThen_ok, invoke]
      rw [bodyOk_run hb]
      simp
    · have h1 : (args.map a.eval).size = (as.map (ev e)).length := hrep.1
      refine ⟨by simp only [Array.size_append, h1, hs, List.length_append], fun j b hj => ?_⟩
      rw [List.getElem?_append] at hj
      split at hj
      · rename_i hl
        have h2 := hrep.2 j b hj
        have e1 : (args.map a.eval ++ cs).getD j undef = (args.map a.eval).getD j undef := getD_of (by rw [Array.getElem?_append_left (by omega)]; exact of_getD (by omega))
        rw [e1]; exact h2
      · rename_i hl
        have h2 := hr _ b hj
        have hjl := (List.getElem?_eq_some_iff.1 hj).1
        have e1 : (args.map a.eval ++ cs).getD j undef = cs.getD (j - (as.map (ev e)).length) undef := getD_of (by rw [Array.getElem?_append_right (by omega), h1]; exact of_getD (by omega))
        rw [e1]; exact h2
  · cases hc

theorem build_parts {t : TypeId} (hE : Tmps G w.heap a e) : ∀ (l : List (Nat × Operand)) (ps : List (Nat × Nat × Opd)), l.mapM (fun (p : Nat × Operand) => do let (o, n) ← placeOf P t p.1; some (o, n, ← opd p.2)) = some ps →
    F2 (fun p q => placeOf P t p.1 = some (q.1, q.2.1) ∧ Rep G w.heap p.2 q.2.2) (l.map fun (i, x) => (i, a.eval x)) (ps.map fun (o, n, x) => (o, n, ev e x)) := by
  intro l
  induction l with
  | nil => intro ps h; simp at h; subst h; exact .nil
  | cons p l ih =>
    intro ps h
    simp only [List.mapM_cons, Option.bind_eq_bind, Option.bind_eq_some_iff, Option.pure_def, Option.some.injEq] at h
    obtain ⟨q, ⟨⟨o, n⟩, hp, y, hy, rfl⟩, qs, hqs, rfl⟩ := h
    exact .cons ⟨hp, opd_rep hE hy⟩ (ih qs hqs)

theorem bslice_parts (hE : Tmps G w.heap a e) : ∀ (l : List (Nat × Operand)) (ps : List (Nat × Opd)), l.mapM (fun (p : Nat × Operand) => do some (p.1, ← opd p.2)) = some ps →
    F2 (fun p q => p.1 = q.1 ∧ Rep G w.heap p.2 q.2) (l.map fun (i, x) => (i, a.eval x)) (ps.map fun (i, x) => (i, ev e x)) := by
  intro l
  induction l with
  | nil => intro ps h; simp at h; subst h; exact .nil
  | cons p l ih =>
    intro ps h
    simp only [List.mapM_cons, Option.bind_eq_bind, Option.bind_eq_some_iff, Option.pure_def, Option.some.injEq] at h
    obtain ⟨q, ⟨y, hy, rfl⟩, qs, hqs, rfl⟩ := h
    exact .cons ⟨rfl, opd_rep hE hy⟩ (ih qs hqs)

theorem op_sound {op : Op} {io : IOp} (ho : o.op = op) (hc : compOp P op o.type = some io) (I : Inv G H w.heap) (hE : Tmps G w.heap a e) (hk : opW P io e H G.c K)
    (hn : ∀ v w', Good G H w K v w' → next (a.put o.dst v) w') : o.wp P a w next Q := by
  cases op <;> simp only [compOp, Option.bind_eq_bind, Option.bind_eq_some_iff, Option.some.injEq] at hc
  case move x =>
    obtain ⟨u, hu, rfl⟩ := hc
    exact wp_here (by unfold execOp; simp only [ho]; rfl) I hk (opd_rep hE hu) hn
  case assign x =>
    obtain ⟨u, hu, rfl⟩ := hc
    exact wp_here (by unfold execOp; simp only [ho]; rfl) I hk (opd_rep hE hu) hn
  case pick c x y =>
    obtain ⟨u, hu, v, hv, z, hz, rfl⟩ := hc
    simp only [opW] at hk
    have rc := opd_rep hE hu
    generalize ev e u = au at hk rc
    generalize hcv : a.eval c = cv at rc
    cases rc <;> simp only [pickW] at hk <;> first
      | exact hk.elim
      | skip
    rename_i b
    cases b with
    | true => exact wp_here (by unfold execOp; simp only [ho, hcv, asBool, Sem.run_bind, Sem.run_pure, Result.andThen_ok, if_true]) I (hk.1 rfl) (opd_rep hE hv) hn
    | false => exact wp_here (by unfold execOp; simp only [ho, hcv, asBool, Sem.run_bind, Sem.run_pure, Result.andThen_ok, Bool.false_eq_true, if_false]) I (hk.2 rfl) (opd_rep hE hz) hn
  case alloc t =>
    obtain ⟨z, hz, rfl⟩ := hc
    exact wp_value (s := Instr.alloc t true (.tuple #[])) (by unfold execOp; simp only [ho, Sem.run_bind, Sem.run_pure]) (new_sound I hz hk) hn
  case box t x =>
    obtain ⟨n, hn', u, hu, rfl⟩ := hc
    exact wp_value (s := Instr.box t (a.eval x)) (by unfold execOp; simp only [ho, Sem.run_bind, Sem.run_pure]) (box_sound I (opd_rep hE hu) hk) hn
  case build t ps =>
    obtain ⟨z, hz, hc⟩ := hc
    split at hc
    · simp only [Option.bind_eq_some_iff, Option.some.injEq] at hc
      obtain ⟨qs, hqs, rfl⟩ := hc
      have hk' : fillW z (qs.map fun ((o, n, x) : Nat × Nat × Opd) => (o, n, ev e x)) (fun l => K (.agg l) H G.c) := hk
      refine wp_value (s := Instr.build t (ps.map fun (i, x) => (i, a.eval x))) (by unfold execOp; simp only [ho, Sem.run_bind, Sem.run_pure]) (build_sound (K := K) I hz (by assumption) ?_ hk') hn
      rw [Array.toList_map]
      exact build_parts hE ps.toList qs hqs
    · cases hc
  case buildSlice t n ps =>
    obtain ⟨⟨el, i⟩, hs, z, hz, hc⟩ := hc
    split at hc
    · rename_i hlim
      simp only [Option.bind_eq_some_iff, Option.some.injEq] at hc
      obtain ⟨qs, hqs, rfl⟩ := hc
      have hk' : bsliceW i.size z n (qs.map fun ((i, x) : Nat × Opd) => (i, ev e x)) H G.c K := hk
      refine wp_value (s := Instr.buildSlice t n (ps.map fun (i, x) => (i, a.eval x))) (by unfold execOp; simp only [ho, Sem.run_bind, Sem.run_pure]) (bslice_sound (K := K) I hs hz hlim.1 (by have := hlim.2; unfold mx; omega) ?_ hk') hn
      rw [Array.toList_map]
      exact bslice_parts hE ps.toList qs hqs
    · cases hc
  case load t x =>
    obtain ⟨ag, hag, u, hu, rfl⟩ := hc
    exact wp_value (s := Instr.loadAt t (a.eval x)) (by unfold execOp; simp only [ho, Sem.run_bind, Sem.run_pure]) (load_sound I hag (opd_rep hE hu) hk) hn
  case store t x y =>
    obtain ⟨n, hn', u, hu, v, hv, rfl⟩ := hc
    exact wp_unit (s := Instr.storeAt t (a.eval x) (a.eval y)) (by unfold execOp; simp only [ho, Sem.run_bind, Sem.run_pure]) (store_sound I hn' (opd_rep hE hu) (opd_rep hE hv) hk) hn
  case nilCheck x =>
    obtain ⟨u, hu, rfl⟩ := hc
    simp only [opW] at hk
    have rx := opd_rep hE hu
    generalize ev e u = au at hk rx
    generalize hv : a.eval x = v at rx
    have key : (execOp a.eval o).run P w = .ok (.value v) w := by
      unfold execOp
      simp only [ho, hv]
      cases rx <;> simp only [nilckW] at hk <;> first
        | exact hk.elim
        | rfl
    have hk' : K au H G.c := by cases rx <;> simp only [nilckW] at hk <;> first | exact hk.elim | exact hk
    exact wp_here key I hk' rx hn
  case binOp op t x y yt =>
    obtain ⟨u, hu, v, hv, hc⟩ := hc
    exact wp_value (s := do eqGuard op t x y (a.eval x) (a.eval y); binOp op t (a.eval x) (a.eval y)) (by unfold execOp; simp only [ho, Sem.run_bind, Sem.run_pure]) (bin_op_sound I hE hu hv hc hk) hn
  case unOp op t x =>
    obtain ⟨u, hu, rfl⟩ := hc
    exact wp_value (s := Op.unary op (a.eval x)) (by unfold execOp; simp only [ho, Sem.run_bind, Sem.run_pure]) (un_sound I (opd_rep hE hu) hk) hn
  case convert s d x =>
    obtain ⟨u, hu, hc⟩ := hc
    exact wp_value (s := convert s d (a.eval x)) (by unfold execOp; simp only [ho, Sem.run_bind, Sem.run_pure]) (conv_op_sound I hE hu hc hk) hn
  case makeFunc fn first caps =>
    cases fn <;> simp only at hc <;> first
      | (cases hc; done)
      | skip
    split at hc
    · rename_i f hf
      simp only [Option.bind_eq_some_iff, Option.some.injEq] at hc
      obtain ⟨us, hus, rfl⟩ := hc
      have hrep := opds_rep hE caps.toList us hus
      have em : (caps.toList.map a.eval).toArray = caps.map a.eval := by apply Array.ext'; simp
      rw [em] at hrep
      have h0 : first = #[] := by simpa using hf
      subst h0
      exact wp_here (v := .func (.func f) #[] (caps.map a.eval)) (by unfold execOp; simp only [ho, Instr.makeFunc, Sem.run_bind, Sem.run_pure, Result.andThen_ok, Array.map_empty]) I hk (.fn hrep.1 hrep.2) hn
    · cases hc
  case makeMap t r =>
    cases r with
    | some x => cases hc
    | none =>
      cases hc
      exact wp_value (s := Instr.makeMap t none) (by unfold execOp; simp only [ho, Sem.run_bind, Sem.run_pure]; rfl) (mkmap_sound I hk) hn
  case makeSlice t l c =>
    obtain ⟨⟨el, i⟩, hs, z, hz, u, hu, v, hv, rfl⟩ := hc
    exact wp_value (s := Instr.makeSlice t (a.eval l) (a.eval c)) (by unfold execOp; simp only [ho, Sem.run_bind, Sem.run_pure]) (mkslice_sound I hs hz (opd_rep hE hu) (opd_rep hE hv) hk) hn
  case slice t x lo hi m =>
    cases m with
    | some m => cases hc
    | none =>
      simp only at hc
      split at hc
      · rename_i hstr
        simp only [Option.bind_eq_some_iff, Option.some.injEq] at hc
        obtain ⟨u, hu, l, hl, h, hh, rfl⟩ := hc
        exact wp_value (s := Instr.sliceAt t (a.eval x) (lo.map a.eval) (hi.map a.eval) none) (by unfold execOp; simp only [ho, Sem.run_bind, Sem.run_pure]; rfl)
          (strSlice_sound I (isStrT_spec hstr) (opd_rep hE hu) (optOpd_rep hE hl) (optOpd_rep hE hh) hk) hn
      · simp only [Option.bind_eq_some_iff, Option.some.injEq] at hc
        obtain ⟨⟨el, i⟩, hs, u, hu, l, hl, h, hh, rfl⟩ := hc
        exact wp_value (s := Instr.sliceAt t (a.eval x) (lo.map a.eval) (hi.map a.eval) none) (by unfold execOp; simp only [ho, Sem.run_bind, Sem.run_pure]; rfl)
          (slcSlice_sound I hs (opd_rep hE hu) (optOpd_rep hE hl) (optOpd_rep hE hh) hk) hn
  case fieldAddr t x f =>
    obtain ⟨⟨off, ft⟩, hf, u, hu, rfl⟩ := hc
    exact wp_value (s := Instr.fieldAt t (a.eval x) f) (by unfold execOp; simp only [ho, Sem.run_bind, Sem.run_pure]) (faddr_sound I hf (opd_rep hE hu) hk) hn
  case field t x f =>
    obtain ⟨⟨off, ft⟩, hf, ag, hag, u, hu, rfl⟩ := hc
    exact wp_value (s := Instr.field t (a.eval x) f) (by unfold execOp; simp only [ho, Sem.run_bind, Sem.run_pure]) (field_sound I hf hag (opd_rep hE hu) hk) hn
  case indexAddr t x i =>
    obtain ⟨⟨el, j⟩, hs, u, hu, v, hv, rfl⟩ := hc
    exact wp_value (s := Instr.indexAt t (a.eval x) (a.eval i)) (by unfold execOp; simp only [ho, Sem.run_bind, Sem.run_pure]) (iaddr_sound I hs (opd_rep hE hu) (opd_rep hE hv) hk) hn
  case index t x i =>
    split at hc
    · rename_i hs
      simp only [Option.bind_eq_some_iff, Option.some.injEq] at hc
      obtain ⟨u, hu, v, hv, rfl⟩ := hc
      exact wp_value (s := Instr.index t (a.eval x) (a.eval i)) (by unfold execOp; simp only [ho, Sem.run_bind, Sem.run_pure]) (index_sound I (isStrT_spec hs) (opd_rep hE hu) (opd_rep hE hv) hk) hn
    · cases hc
  case lookup t m k ok =>
    split at hc
    · rename_i kt et ht
      simp only [Option.bind_eq_some_iff, Option.some.injEq] at hc
      obtain ⟨d, hd, z, hz, u, hu, v, hv, rfl⟩ := hc
      obtain ⟨hd1, hd2⟩ := kdT_spec hd
      exact wp_value (s := Instr.lookup t (a.eval m) (a.eval k) ok) (by unfold execOp; simp only [ho, Sem.run_bind, Sem.run_pure]) (lookup_sound I ht hd1 hd2 hz (opd_rep hE hu) (opd_rep hE hv) hk) hn
    · cases hc
  case mapUpdate t m k x =>
    split at hc
    · rename_i kt et ht
      simp only [Option.bind_eq_some_iff, Option.some.injEq] at hc
      obtain ⟨d, hd, u, hu, v, hv, z, hz, rfl⟩ := hc
      obtain ⟨hd1, hd2⟩ := kdT_spec hd
      exact wp_unit (s := Instr.mapUpdate t (a.eval m) (a.eval k) (a.eval x)) (by unfold execOp; simp only [ho, Sem.run_bind, Sem.run_pure]) (mupd_sound I ht hd1 hd2 (opd_rep hE hu) (opd_rep hE hv) (opd_rep hE hz) hk) hn
    · cases hc
  case extract x i =>
    obtain ⟨u, hu, rfl⟩ := hc
    exact wp_value (s := Instr.extract (a.eval x) i) (by unfold execOp; simp only [ho, Sem.run_bind, Sem.run_pure]) (extract_sound I (opd_rep hE hu) hk) hn
  case call c => exact call_op_sound ho I hE hc hk hn
  all_goals (first | (cases hc; done) | skip)
end
end A
end Go.Proofs.Ytfcimcoanlgldaa
