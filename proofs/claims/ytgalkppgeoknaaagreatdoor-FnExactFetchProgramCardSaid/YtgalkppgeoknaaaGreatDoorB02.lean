import Derived.Test.YtgalkppgeoknaaaGreatDoorB01

/-
  make, unary operators, conversions, maps: what each operation does to abstract values, and that the model's does so. No condition.
-/
set_option linter.unusedVariables false
set_option linter.unusedSimpArgs false
namespace Go.Proofs.YtgalkppgeoknaaaGreatDoor
namespace A
set_option linter.unusedVariables false
section
variable {P : Program} {G : Gh} {H : List AObj} {w : World} {K : AV → List AObj → Nat → Prop}
def mksliceW (wd : Nat) (zero : List AV) (bytes : Nat) (l c : AV) (H : List AObj) (cl : Nat) (K : AV → List AObj → Nat → Prop) : Prop :=
  match l,c with
  | .int _ n,.int _ m => 0 ≤ n ∧ n ≤ m ∧ m ≤ 281474976710656 ∧ m.toNat * bytes ≤ 281474976710656 ∧ K (.ref H.length cl wd n.toNat) (H ++ [⟨false,cl,wd,List.replicate n.toNat zero⟩]) (cl + 1)
  | _,_ => False
theorem mkslice_sound (I : Inv G H w.heap) {t e : TypeId} {i : TypeInfo} (ht : sliceElem P t = some (e,i)) {zero : List AV} (hz : zeroOf? P e = some zero) {u v : Value} {x y : AV} (rx : Rep G w.heap u x) (ry : Rep G w.heap v y)
    (hk : mksliceW i.size zero i.bytes x y H G.c K) : Run P (Instr.makeSlice t u v) G H w K := by
  obtain ⟨h1,h2⟩ := sliceElem_some ht
  obtain ⟨it,z,q1,q2,q3,q4,q5⟩ := zeroOf_some hz
  rw [h2] at q1; cases q1
  cases rx <;> simp only [mksliceW] at hk
  case int k n hn =>
    cases ry <;> simp only at hk
    case int k' m hm =>
      obtain ⟨h0,hnm,hm8,hby,hk⟩ := hk
      have en : IntKind.i64.wrap n = n := IntWalk.i64_in n (by omega)
      have em : IntKind.i64.wrap m = m := IntWalk.i64_in m (by omega)
      have hb' : (i.bytes : Int) * m ≤ 281474976710656 := by
        have : ((m.toNat * i.bytes : Nat) : Int) ≤ 281474976710656 := by omega
        rw [Int.natCast_mul,Int.toNat_of_nonneg (by omega),Int.mul_comm] at this
        exact this
      have r0 : RowsRep G w.heap i.size ((Array.range (m.toNat * i.size)).map fun j => z.cells[j % z.cells.size]!) (List.replicate m.toNat zero) := by
        rw [← q3]; exact zeros_rep ⟨q4,fun j b hj => q5 _ _ j b hj⟩ m.toNat
      have hle : n.toNat * i.size ≤ m.toNat * i.size := Nat.mul_le_mul_right _ (by omega)
      have hget : ∀ (r : Nat) (row : List AV),(List.replicate n.toNat zero)[r]? = some row → (List.replicate m.toNat zero)[r]? = some row := fun r row h => by
        rw [List.getElem?_replicate] at h ⊢
        split at h
        · rw [if_pos (by omega)]; exact h
        · cases h
      have hsz := r0.size
      simp only [List.length_replicate] at hsz
      obtain ⟨x,I'⟩ := newObj_good I (cs := (Array.range (m.toNat * i.size)).map fun j => z.cells[j % z.cells.size]!) (e := e) (wd := i.size) (rows := List.replicate n.toNat zero) (by rw [hsz]; simpa using hle)
        (by unfold mx; simp; omega) (fun r row h => r0.w r row (hget r row h)) (fun r j row a h ha => r0.rep r j row a (hget r row h) ha) (0,0) (fun _ _ h => by omega)
      refine ⟨.slice (some ⟨w.heap.size,0,none⟩) n.toNat m.toNat,_,?_,_,_,_,hk,x,I',ref_new (by rw [hsz]; exact Nat.le_refl _) (by omega) (by unfold mx; omega)⟩
      have t1 : ((decide (m < 0) || decide ((i.bytes : Int) * m > 2 ^ 48)) || decide (n < 0) || decide (n > m)) = false := by
        simp; omega
      unfold Instr.makeSlice
      simp only [Sem.run_bind,run_underlying h1,Result.andThen_ok,asInt,asIntOf,Sem.run_pure,r_typeInfo h2,en,em,t1,Bool.false_eq_true,if_false,run_askRoom,r_sizeOf h2]
      by_cases hz0 : m.toNat * i.size = 0
      · have ez : (Array.range 0 : Array Nat) = #[] := rfl
        simp only [hz0,if_true,Sem.run_pure,Result.andThen_ok,ez,Array.map_empty,newRow,Sem.run_bind,run_newObj]
        rfl
      · simp only [hz0,if_false,Sem.run_bind,r_zero h2 q2,Result.andThen_ok,Sem.run_pure,newRow,run_newObj]
        rfl
    all_goals exact hk.elim
  all_goals exact hk.elim
def unW (op : UnOp) (x : AV) (K : AV → Prop) : Prop :=
  match op,x with
  | .not,.bool b => K (.bool (!b))
  | .neg,.int k n => K (.int k (k.wrap (0 - n)))
  | _,_ => False
theorem un_sound (I : Inv G H w.heap) {op : UnOp} {v : Value} {x : AV} (r : Rep G w.heap v x) (hk : unW op x (fun v => K v H G.c)) : Run P (Op.unary op v) G H w K := by
  cases r <;> cases op <;> simp only [unW] at hk <;> first
    | exact hk.elim
    | exact Run.here I (v := .bool (!_)) (by simp only [Op.unary,Sem.run_pure]) hk .bool
    | exact Run.here I (v := .int _ (IntKind.wrap _ (0 - _))) (by simp only [Op.unary,Op.intArith,Sem.run_pure]) hk (.int (iok_wrap _ _))
def toIntW (k : IntKind) (x : AV) (K : AV → Prop) : Prop := match x with | .int _ n => K (.int k (k.wrap n)) | _ => False
theorem toInt_sound (I : Inv G H w.heap) {src dst : TypeId} {d : TypeDesc} {k : IntKind} (hs : P.underlying src = some d) (hd : P.underlying dst = some (.int k)) {v : Value} {x : AV} (r : Rep G w.heap v x)
    (hk : toIntW k x (fun v => K v H G.c)) : Run P (convert src dst v) G H w K := by
  cases r <;> simp only [toIntW] at hk
  case int k' n hn =>
    refine Run.here I (v := .int k (k.wrap n)) ?_ hk (.int (iok_wrap _ _))
    unfold convert
    simp only [Sem.run_bind,run_underlying hs,run_underlying hd,Result.andThen_ok,Conv.intToInt,Sem.run_pure]
  all_goals exact hk.elim
def toStrW (x : AV) (H : List AObj) (K : AV → Prop) : Prop :=
  match x with
  | .slc _ _ _ | .ref _ _ _ _ | .nsl => srcW 1 x H fun rows => ∃ l : List UInt8,rows = l.map byteRow ∧ l.length ≤ mx ∧ K (.str l)
  | _ => False
theorem fold_bytes : ∀ (l : List UInt8) (s : ByteArray),((l.map fun b => (b.toNat : Int)).foldl (fun r n => r.push (UInt8.ofNat n.toNat)) s).data.toList = s.data.toList ++ l := by
  intro l
  induction l with
  | nil => intro s; simp
  | cons b l ih => intro s; simp only [List.map_cons,List.foldl_cons]; rw [ih]; simp [ByteArray.push]
theorem toStr_sound (I : Inv G H w.heap) {src dst e : TypeId} (hs : P.underlying src = some (.slice e)) (he : P.underlying e = some (.int .u8)) (hd : P.underlying dst = some .string) {v : Value} {x : AV} (r : Rep G w.heap v x)
    (hk : toStrW x H (fun v => K v H G.c)) : Run P (convert src dst v) G H w K := by
  have hk' : srcW 1 x H fun rows => ∃ l : List UInt8,rows = l.map byteRow ∧ l.length ≤ mx ∧ K (.str l) H G.c := by
    cases x <;> simp only [toStrW] at hk <;> first | exact hk.elim | exact hk
  obtain ⟨cs,rows,s1,s2,l,rfl,hl,k⟩ := src_sound (P := P) I r hk'
  have hcs : cs = (l.map fun b => Value.int .u8 (b.toNat : Int)).toArray := by
    apply Array.ext_getElem?
    intro j
    by_cases hj : j < l.length
    · have hrow : (l.map byteRow)[j]? = some (byteRow l[j]) := by simp [hj]
      obtain ⟨z,hz,_,rz⟩ := s2.rep j 0 _ (.int .u8 l[j].toNat) hrow rfl
      cases rz
      simp only [Nat.mul_one,Nat.add_zero] at hz
      rw [hz]; simp [hj]
    · have hsz : cs.size = l.length := by simpa using s2.size
      rw [Array.getElem?_eq_none (by omega),Array.getElem?_eq_none (by simp; omega)]
  have hload := (s1 w rfl).2
  have key : ∀ a len cap,v = .slice a len cap → len = l.length → Run P (convert src dst v) G H w K := fun a len cap hv hlen => by
    subst hv
    cases a with
    | none =>
      have h0 : l = [] := by
        have h1 : (Builtin.firstCells 1 l.length (.slice none len cap)).run P w = .ok #[] w := rfl
        have h2 := hload
        rw [List.length_map] at h2
        rw [h1] at h2
        have : cs = #[] := by cases h2; rfl
        rw [this] at hcs
        cases l with
        | nil => rfl
        | cons b l => simp at hcs
      subst h0
      refine Run.here I (v := .string .empty) ?_ k (.str rfl hl)
      rw [run_convert_bytes_string w src dst e none len cap hs he hd]; rfl
    | some a =>
      have h2 := hload
      rw [List.length_map,← hlen] at h2
      simp only [Builtin.firstCells,Nat.mul_one] at h2
      rw [hcs] at h2
      have h3 := run_bytesToString (P := P) w a len cap (l.map fun b => (b.toNat : Int)) (by rw [h2]; simp)
      refine Run.here I ?_ k (.str (fold_bytes l ByteArray.empty) hl)
      rw [run_convert_bytes_string w src dst e (some a) len cap hs he hd]
      exact h3
  have hlenv := (s1 w rfl).1
  rw [List.length_map] at hlenv
  have hlenOf : ∀ a len cap,v = .slice a len cap → len = l.length := fun a len cap hv => by
    subst hv
    have h1 : (Builtin.lenOf (.slice a len cap)).run P w = .ok len w := rfl
    rw [h1] at hlenv; cases hlenv; rfl
  cases r <;> first
    | exact key _ _ _ rfl (hlenOf _ _ _ rfl)
    | (simp only [toStrW] at hk)
def toBytesW (x : AV) (H : List AObj) (c : Nat) (K : AV → List AObj → Nat → Prop) : Prop :=
  match x with
  | .str l => K (.ref H.length c 1 l.length) (H ++ [⟨false,c,1,l.map byteRow⟩]) (c + 1)
  | _ => False
theorem toBytes_sound (I : Inv G H w.heap) {src dst e : TypeId} {d : TypeDesc} (hs : P.underlying src = some .string) (hd : P.underlying dst = some (.slice e)) (he : P.underlying e = some (.int .u8)) {v : Value} {x : AV} (r : Rep G w.heap v x)
    (hk : toBytesW x H G.c K) : Run P (convert src dst v) G H w K := by
  cases r <;> simp only [toBytesW] at hk
  case str s l hl he' =>
    subst hl
    have hsz : s.data.toList.length = s.size := by cases s; rfl
    generalize hcap : (Question.appendCap s.size 0 e).cut (w.tape w.drawn (.appendCap s.size 0 e)) = cap
    have hle : s.size ≤ cap := by rw [← hcap]; simp only [Question.cut]; omega
    have hcm : cap ≤ mx := by
      have hlt := Nat.mod_lt (w.tape w.drawn (.appendCap s.size 0 e)) (show 0 < 2 ^ 63 - s.size by unfold mx at he'; omega)
      rw [← hcap]
      simp only [Question.cut]
      unfold mx at he' ⊢
      omega
    let cs : Array Value := (s.data.map fun b => Value.int .u8 b.toNat) ++ Array.replicate (cap - s.size) (.int .u8 0)
    have hcs : cs.size = cap := by simp [cs]; omega
    obtain ⟨x,I'⟩ := newObj_good (w := w.drew) I (cs := cs) (e := e) (wd := 1) (rows := s.data.toList.map byteRow) (by simp [hcs,hle]) (by simpa using he')
      (fun r row h => by simp at h; obtain ⟨b,_,rfl⟩ := h; rfl)
      (fun r j row a h ha => by
        simp at h; obtain ⟨b,hb,rfl⟩ := h
        cases j with
        | zero =>
          simp [byteRow] at ha; subst ha
          have hr : r < s.size := by have := (Array.getElem?_eq_some_iff.1 hb).1; simpa using this
          refine ⟨.int .u8 b.toNat,?_,rfl,.int (iok_u8 b)⟩
          simp only [cs,Nat.mul_one,Nat.add_zero]
          rw [Array.getElem?_append_left (by simpa using hr),Array.getElem?_map,hb]; rfl
        | succ j => simp [byteRow] at ha) (cap,cap + 1) (fun i hi h => by omega)
    refine ⟨.slice (some ⟨w.heap.size,0,none⟩) s.size cap,_,?_,_,_,_,hk,{ x with },I',?_⟩
    · unfold convert
      simp only [Sem.run_bind,run_underlying hs,run_underlying hd,Result.andThen_ok,run_underlying he,Conv.stringToBytes,run_choose,Question.forced,Bool.false_eq_true,if_false,hcap,World.drew_eq,newRow,run_newObj,World.alloc_eq,
        Sem.run_pure,markStringish,run_shape]
      have hshape : (w.drew.alloc (.cells cs e)).shape? w.heap.size = some (e,cap) := by
        simp only [World.shape?,World.alloc,World.drew,Array.getElem?_push,if_true,hcs]
      have hfr : (w.drew.alloc (.cells cs e)).freeze ⟨w.heap.size,cap,none⟩ 1 = w.drew.alloc (.cells cs e (cap,cap + 1)) := by
        unfold World.freeze World.alloc World.drew
        simp only [Nat.succ_ne_zero,if_false]
        congr 1
        apply Array.ext_getElem?
        intro j
        rw [Array.getElem?_modify,Array.getElem?_push,Array.getElem?_push]
        by_cases hj : w.heap.size = j
        · subst hj; simp
        · simp [hj,Ne.symm hj]
      show Result.andThen (Sem.run P (match (w.drew.alloc (.cells cs e)).shape? w.heap.size with | some (_,n) => freeze { block := w.heap.size,off := n } 1 | _ => pure ()) (w.drew.alloc (.cells cs e))) _ = _
      rw [hshape]
      simp only [run_freeze,Result.andThen_ok,hfr]
      rfl
    · have := ref_new (G := G) (w := w.drew) (c := cs) (e := e) (fr := (cap,cap + 1)) (i := H.length) (wd := 1) (len := s.size) (cap := cap) (by rw [hcs,Nat.mul_one]; exact Nat.le_refl _) hle hcm
      rw [hsz]
      exact this
  all_goals exact hk.elim
end
section
variable {P : Program} {G : Gh} {H : List AObj} {w : World} {K : AV → List AObj → Nat → Prop}
def keyEq : AV → AV → Option Bool
  | .str a,.str b => some (a == b)
  | .int k a,.int k' b => if k = k' then some (a == b) else none
  | .bool a,.bool b => some (a == b)
  | .agg [.bool a,.int k n,.str s],.agg [.bool a',.int k' n',.str s'] => if k = k' then some (a == a' && (n == n' && s == s')) else none
  | _,_ => none
def mfind (k : AV) : List (List AV) → Nat → Option (Option (Nat × AV))
  | [],_ => some none
  | [k',v] :: rest,i =>
    match keyEq k k' with
    | some true => some (some (i,v))
    | some false => mfind k rest (i + 1)
    | none => none
  | _ :: _,_ => none
def keyDesc : TypeDesc → Bool
  | .string | .int _ | .bool => true
  | _ => false
def keyT (P : Program) (t : TypeId) : Bool := match P.underlying t with | some .string | some (.int _) | some .bool => true | _ => false
def keyFits (d : TypeDesc) (k : AV) : Bool :=
  match d,k with
  | .string,.str _ | .int _,.int _ _ | .bool,.bool _ => true
  | .struct _,.agg [.bool _,.int _ _,.str _] => true
  | _,_ => false
theorem beq_ba (a b : ByteArray) : (a == b) = (a.data.toList == b.data.toList) := by
  rw [beq_toListBytes,ByteArray.toList_eq,ByteArray.toList_eq]
theorem sameNow_eq {h : Array Obj} {d : TypeDesc} {a b : Value} {x y : AV} (ra : Rep G h a x) (rb : Rep G h b y) (hp : keyDesc d = true) (hd : keyFits d x = true) {c : Bool} (hq : keyEq x y = some c) : Instr.sameNow d a b = some c := by
  cases ra <;> cases d <;> first
    | (cases hp; done)
    | (simp only [keyFits] at hd; cases hd; done)
    | skip
  all_goals cases rb <;> simp only [keyEq] at hq <;> first
    | exact hq
    | (cases hq; done)
    | (subst_vars; simp only [Instr.sameNow]; rw [beq_ba]; exact hq)
theorem findNow_eq {h : Array Obj} {d : TypeDesc} {kv : Value} {k : AV} (rk : Rep G h kv k) (hp : keyDesc d = true) (hd : keyFits d k = true) : ∀ (es : List MapEntry) (rows : List (List AV)) (i : Nat),
    es.length = rows.length → (∀ (r : Nat) (row : List AV),rows[r]? = some row → ∃ (k v : AV) (en : MapEntry),row = [k,v] ∧ es[r]? = some en ∧ Rep G h en.key k ∧ Rep G h en.val v) →
    ∀ res,mfind k rows i = some res → ∃ res',Instr.findNow d kv es i = some res' ∧ (match res,res' with
      | some (j,v),some (j',v') => j = j' ∧ i ≤ j ∧ Rep G h v' v ∧ ∃ k' : AV,rows[j - i]? = some [k',v] ∧ keyEq k k' = some true
      | none,none => True
      | _,_ => False) := by
  intro es
  induction es with
  | nil =>
    intro rows i hl hr res hm
    cases rows with
    | nil => simp only [mfind] at hm; cases hm; exact ⟨none,rfl,trivial⟩
    | cons a l => simp at hl
  | cons e es ih =>
    intro rows i hl hr res hm
    cases rows with
    | nil => simp at hl
    | cons row rows =>
      obtain ⟨k',v,en,rfl,he,r1,r2⟩ := hr 0 row rfl
      simp at he; subst he
      simp only [mfind] at hm
      simp only [Instr.findNow]
      cases hq : keyEq k k' with
      | none => rw [hq] at hm; cases hm
      | some b =>
        rw [hq] at hm
        rw [sameNow_eq rk r1 hp hd hq]
        cases b with
        | true =>
          simp only at hm; cases hm
          exact ⟨some (i,e.val),rfl,rfl,Nat.le_refl _,r2,k',by simp,hq⟩
        | false =>
          simp only at hm
          obtain ⟨res',h1,h2⟩ := ih rows (i + 1) (by simpa using hl) (fun r row h => hr (r + 1) row h) res hm
          refine ⟨res',h1,?_⟩
          cases res with
          | none =>
            cases res' with
            | none => trivial
            | some p => exact h2.elim
          | some p =>
            cases res' with
            | none => exact h2.elim
            | some p' =>
              obtain ⟨j,v'⟩ := p
              obtain ⟨j',v''⟩ := p'
              obtain ⟨e1,e2,e3,k'',e4,e5⟩ := h2
              refine ⟨e1,by omega,e3,k'',?_,e5⟩
              have : j - i = j - (i + 1) + 1 := by omega
              rw [this]; exact e4
theorem run_checkKey {t : TypeId} {d : TypeDesc} (ht : P.underlying t = some d) (hd : keyDesc d = true) (b : Bool) (n : Nat) (v : Value) : (Instr.checkKey b (n + 1) t v).run P w = .ok () w := by
  cases d <;> first
    | (cases hd; done)
    | (simp only [Instr.checkKey,Sem.run_bind,run_underlying ht,Result.andThen_ok,Sem.run_pure])
theorem run_findKey {t : TypeId} {d : TypeDesc} (ht : P.underlying t = some d) {k : Value} {es : List MapEntry} {r : Option (Nat × Value)} (h : Instr.findNow d k es 0 = some r) : (Instr.findKey t k es).run P w = .ok r w := by
  unfold Instr.findKey
  simp only [Sem.run_bind,run_underlying ht,Result.andThen_ok,h,Sem.run_pure]
structure KeyOk (P : Program) (kt : TypeId) (d : TypeDesc) : Prop where
  check : ∀ (w : World) (G : Gh) (h : Array Obj) (b : Bool) (v : Value) (y : AV),Rep G h v y → keyFits d y = true → (Instr.checkKey b 10000 kt v).run P w = .ok () w
  find : ∀ (w : World) (G : Gh) (kv : Value) (k : AV),Rep G w.heap kv k → keyFits d k = true → ∀ (es : List MapEntry) (rows : List (List AV)),es.length = rows.length →
    (∀ (r : Nat) (row : List AV),rows[r]? = some row → ∃ (k v : AV) (en : MapEntry),row = [k,v] ∧ es[r]? = some en ∧ Rep G w.heap en.key k ∧ Rep G w.heap en.val v) →
    ∀ res,mfind k rows 0 = some res → ∃ res',(Instr.findKey kt kv es).run P w = .ok res' w ∧ (match res,res' with
      | some (j,v),some (j',v') => j = j' ∧ 0 ≤ j ∧ Rep G w.heap v' v ∧ ∃ k' : AV,rows[j]? = some [k',v] ∧ keyEq k k' = some true
      | none,none => True
      | _,_ => False)
theorem keyOk_prim {kt : TypeId} {d : TypeDesc} (hk : P.underlying kt = some d) (hd : keyDesc d = true) : KeyOk P kt d :=
  ⟨fun w G h b v y _ _ => run_checkKey hk hd b 9999 v,fun w G kv k rk hf es rows hl hr res hm => by
    obtain ⟨res',e1,e2⟩ := findNow_eq rk hd hf es rows 0 hl hr res hm
    refine ⟨res',run_findKey hk e1,?_⟩
    cases res with
    | none => cases res' <;> exact e2
    | some p =>
      cases res' with
      | none => exact e2
      | some p' => exact e2⟩
def zeroVal? (P : Program) (t : TypeId) : Option AV := do
  let i ← P.info? t
  let z ← i.zero
  match z with
  | .agg cs => (cs.toList.mapM constAV).map .agg
  | v => constAV v
theorem zeroVal_some {t : TypeId} {a : AV} (h : zeroVal? P t = some a) : ∃ z,(∀ w : World,(zeroValue t).run P w = .ok z w) ∧ ∀ (G : Gh) (hp : Array Obj),Rep G hp z a := by
  unfold zeroVal? at h
  simp only [Option.bind_eq_bind,Option.bind_eq_some_iff] at h
  obtain ⟨i,hi,z,hz,h⟩ := h
  refine ⟨z,fun w => r_zero hi hz w,fun G hp => ?_⟩
  split at h
  · simp only [Option.map_eq_some_iff] at h
    obtain ⟨l,hl,rfl⟩ := h
    obtain ⟨h1,h2⟩ := mapM_constAV _ _ hl
    refine .agg (by simpa using h1) (fun j b hj => ?_) (fun j b hj => ?_)
    · obtain ⟨v,_,hc⟩ := h2 j b hj; exact constAV_cell hc
    · obtain ⟨v,hv,hc⟩ := h2 j b hj
      rw [Array.getElem?_toList] at hv
      rw [getD_of hv]; exact constAV_rep hc G hp
  · exact constAV_rep h G hp
def lookupW (d : TypeDesc) (zero : AV) (ok : Bool) (m k : AV) (H : List AObj) (K : AV → Prop) : Prop :=
  match m with
  | .mref i tag => keyFits d k = true ∧ getW H i fun ob => ob.tag = tag ∧ ob.mp = true ∧
      (match mfind k ob.rows 0 with
       | some (some (_,v)) => K (if ok then .tup [v,.bool true] else v)
       | some none => K (if ok then .tup [zero,.bool false] else zero)
       | none => False)
  | _ => False
theorem rep_pair {G : Gh} {h : Array Obj} {v : Value} {a : AV} (r : Rep G h v a) (b : Bool) : Rep G h (.tuple #[v,.bool b]) (.tup [a,.bool b]) := by
  refine .tup rfl fun j x hj => ?_
  match j,hj with
  | 0,hj => simp at hj; subst hj; exact r
  | 1,hj => simp at hj; subst hj; exact .bool
  | j + 2,hj => simp at hj
theorem lookup_sound (I : Inv G H w.heap) {t kt et : TypeId} {d : TypeDesc} (ht : P.underlying t = some (.map kt et)) (hK : KeyOk P kt d)
    {zero : AV} (hz : zeroVal? P et = some zero) {ok : Bool} {u v : Value} {x y : AV} (rx : Rep G w.heap u x) (ry : Rep G w.heap v y) (hk' : lookupW d zero ok x y H (fun v => K v H G.c)) :
    Run P (Instr.lookup t u v ok) G H w K := by
  cases rx <;> simp only [lookupW] at hk'
  case mref i tag hc =>
    obtain ⟨hfit,ob,hob,rfl,hmp,hk'⟩ := hk'
    obtain ⟨es,clock,h1,h2,h3,h4⟩ := (I.obj ob (List.mem_of_getElem? hob)).mlies hmp
    obtain ⟨z,hz1,hz2⟩ := zeroVal_some hz
    have hg : (getObj (G.m ob.tag)).run P w = .ok (.map es clock) w := by simp only [getObj,Sem.run,h1]
    cases hm : mfind y ob.rows 0 with
    | none => rw [hm] at hk'; exact hk'.elim
    | some res =>
      rw [hm] at hk'
      obtain ⟨res',e1,e2⟩ := hK.find w G _ _ ry hfit es.toList ob.rows (by simpa using h2) (fun r row h => by
        obtain ⟨k,v,en,a1,a2,a3,a4⟩ := h4 r row h
        exact ⟨k,v,en,a1,by rw [Array.getElem?_toList]; exact a2,a3,a4⟩) res hm
      have run : (Instr.lookup t (.map (some (G.m ob.tag))) v ok).run P w = (match res' with
          | some (_,v) => .ok (if ok then .tuple #[v,.bool true] else v) w
          | none => .ok (if ok then .tuple #[z,.bool false] else z) w) := by
        unfold Instr.lookup
        simp only [Sem.run_bind,run_underlying ht,Result.andThen_ok,hg,Sem.run_pure,hK.check _ _ _ _ _ _ ry hfit,e1]
        cases res' with
        | none => simp only [Sem.run_bind,hz1,Result.andThen_ok,Sem.run_pure]
        | some p => rfl
      cases res with
      | none =>
        cases res' with
        | some p => exact e2.elim
        | none =>
          refine Run.here I run hk' ?_
          cases ok
          · exact hz2 _ _
          · exact rep_pair (hz2 _ _) false
      | some p =>
        cases res' with
        | none => exact e2.elim
        | some p' =>
          obtain ⟨j,a⟩ := p
          obtain ⟨j',v'⟩ := p'
          obtain ⟨_,_,r,_⟩ := e2
          refine Run.here I run hk' ?_
          cases ok
          · exact r
          · exact rep_pair r true
  all_goals exact hk'.elim
def mkmapW (H : List AObj) (c : Nat) (K : AV → List AObj → Nat → Prop) : Prop := K (.mref H.length c) (H ++ [⟨true,c,0,[]⟩]) (c + 1)
theorem mkmap_sound (I : Inv G H w.heap) {t : TypeId} (hk : mkmapW H G.c K) : Run P (Instr.makeMap t none) G H w K := by
  have hob : ObjOk (G.new w.heap.size) (w.heap.push (.map #[] 0)) ⟨true,G.c,0,[]⟩ := by
    refine ⟨by simp [Gh.new],fun h => (by cases h),fun _ => ⟨#[],0,by simp [Gh.new],rfl,by simp,by simp⟩⟩
  refine ⟨.map (some w.heap.size),w.alloc (.map #[] 0),?_,_,_,G.new w.heap.size,hk,Ext.push I _ _ rfl,Inv.push I _ _ rfl hob,?_⟩
  · unfold Instr.makeMap
    simp only [Sem.run_bind,run_newObj,Result.andThen_ok,Sem.run_pure]
    rfl
  · have h := Rep.mref (G := G.new w.heap.size) (h := (w.alloc (.map #[] 0)).heap) (i := H.length) (tag := G.c) (by simp [Gh.new])
    simpa [Gh.new] using h
def mupdW (d : TypeDesc) (m k v : AV) (H : List AObj) (c : Nat) (K : AV → List AObj → Nat → Prop) : Prop :=
  match m with
  | .mref i tag => keyFits d k = true ∧ getW H i fun ob => ob.tag = tag ∧ ob.mp = true ∧
      (match mfind k ob.rows 0 with
       | some (some (j,_)) => K .und (H.set i { ob with rows := ob.rows.set j [k,v] }) c
       | some none => ob.rows.length < mx ∧ K .und (H.set i { ob with rows := ob.rows ++ [[k,v]] }) c
       | none => False)
  | _ => False
theorem keyEq_agg {l m : List AV} {c : Bool} (h : keyEq (.agg l) (.agg m) = some c) : ∃ p k n s p' n' s',l = [.bool p,.int k n,.str s] ∧ m = [.bool p',.int k n',.str s'] ∧ c = (p == p' && (n == n' && s == s')) := by
  unfold keyEq at h
  split at h
  · rename_i e1 _; cases e1
  · rename_i e1 _; cases e1
  · rename_i e1 _; cases e1
  · rename_i e1 e2
    simp only [AV.agg.injEq] at e1 e2
    subst e1
    subst e2
    split at h
    · subst_vars
      cases h
      exact ⟨_,_,_,_,_,_,_,rfl,rfl,rfl⟩
    · cases h
  · cases h
theorem rep_key {G : Gh} {h : Array Obj} {cs : Array Value} {p : Bool} {k : IntKind} {n : Int} {s : List UInt8} (r : Rep G h (.agg cs) (.agg [.bool p,.int k n,.str s])) : ∃ t : ByteArray,t.data.toList = s ∧ cs = #[.bool p,.int k n,.string t] := by
  cases r with
  | agg hs hcl hr =>
    have r0 := hr 0 _ rfl
    have r1 := hr 1 _ rfl
    have r2 := hr 2 _ rfl
    have h3 : cs.size = 3 := hs
    have e : cs = #[cs.getD 0 undef,cs.getD 1 undef,cs.getD 2 undef] := by
      apply Array.ext
      · simp [h3]
      · intro i h1 h2
        match i,h1 with
        | 0,h1 => simp [Array.getD,h3]
        | 1,h1 => simp [Array.getD,h3]
        | 2,h1 => simp [Array.getD,h3]
        | i + 3,h1 => omega
    generalize cs.getD 0 undef = v0 at r0 e
    generalize cs.getD 1 undef = v1 at r1 e
    generalize cs.getD 2 undef = v2 at r2 e
    cases r0
    cases r1
    cases r2 with
    | str e' hl => exact ⟨_,e',e⟩
theorem keyThatStays_run {h : Array Obj} {a b : Value} {x y : AV} (ra : Rep G h a x) (rb : Rep G h b y) (hk : keyEq x y = some true) : (Instr.keyThatStays b a).run P w = .ok a w := by
  have : Instr.sameBits 10000 b a = true := by
    cases ra <;> cases rb <;> first
      | (simp only [keyEq] at hk; cases hk; done)
      | (simp only [keyEq] at hk; done)
      | skip
    · simp only [keyEq] at hk
      split at hk
      · subst_vars; simp at hk; subst hk; simp [Instr.sameBits]
      · cases hk
    · simp only [keyEq] at hk; simp at hk; subst hk; simp [Instr.sameBits]
    · simp only [keyEq] at hk
      simp only [Instr.sameBits]
      rw [beq_ba]
      subst_vars
      simp only [Option.some.injEq,beq_iff_eq] at hk ⊢
      exact hk.symm
    · rename_i cs l hs hcl hr cs' l' hs' hcl' hr'
      obtain ⟨p,k,n,s,p',n',s',rfl,rfl,hc⟩ := keyEq_agg hk
      obtain ⟨t,ht,rfl⟩ := rep_key (.agg hs hcl hr)
      obtain ⟨t',ht',rfl⟩ := rep_key (.agg hs' hcl' hr')
      have hc' := hc.symm
      simp only [Bool.and_eq_true,beq_iff_eq] at hc'
      obtain ⟨rfl,rfl,h3⟩ := hc'
      have : (t' == t) = true := by rw [beq_ba,ht,ht',h3]; simp
      simp [Instr.sameBits,this]
  unfold Instr.keyThatStays
  rw [this]; rfl
theorem Inv.writeMap {h : Array Obj} (I : Inv G H h) {i : Nat} {ob : AObj} (hob : H[i]? = some ob) {es es' : Array MapEntry} {clock clock' : Nat} (h1 : h[G.m ob.tag]? = some (.map es clock)) {rows : List (List AV)} (hmp : ob.mp = true)
    (hs : es'.size = rows.length) (hm : rows.length ≤ mx) (hr : ∀ (r : Nat) (row : List AV),rows[r]? = some row → ∃ (k v : AV) (en : MapEntry),row = [k,v] ∧ es'[r]? = some en ∧ Rep G h en.key k ∧ Rep G h en.val v) :
    Ext1 G h G (h.setIfInBounds (G.m ob.tag) (.map es' clock')) ∧ Inv G (H.set i { ob with rows := rows }) (h.setIfInBounds (G.m ob.tag) (.map es' clock')) := by
  have hnc : ∀ c e fr,h[G.m ob.tag]? = some (.cells c e fr) → ∃ c' fr',(Obj.map es' clock') = .cells c' e fr' ∧ c'.size = c.size := fun c e fr hb => by rw [h1] at hb; cases hb
  have x : Ext1 G h G (h.setIfInBounds (G.m ob.tag) (.map es' clock')) := Ext1.write (fun u hF => I.nfz_m (mem_tags (List.mem_of_getElem? hob)) hF) hnc
  refine I.write hob (ob' := { ob with rows := rows }) rfl hnc ⟨(I.obj ob (List.mem_of_getElem? hob)).c,fun hm' => by simp [hmp] at hm',fun _ => ⟨es',clock',by simp [lt_of_get h1],hs,hm,fun r row h => ?_⟩⟩
  obtain ⟨k,v,en,a1,a2,a3,a4⟩ := hr r row h
  exact ⟨k,v,en,a1,a2,a3.ext x,a4.ext x⟩
theorem mupd_sound (I : Inv G H w.heap) {t kt et : TypeId} {d : TypeDesc} (ht : P.underlying t = some (.map kt et)) (hK : KeyOk P kt d)
    {u v z : Value} {x y q : AV} (rx : Rep G w.heap u x) (ry : Rep G w.heap v y) (rz : Rep G w.heap z q) (hk' : mupdW d x y q H G.c K) :
    ∃ w',(Instr.mapUpdate t u v z).run P w = .ok () w' ∧ Good G H w K undef w' := by
  cases rx <;> simp only [mupdW] at hk'
  case mref i tag hc =>
    obtain ⟨hfit,ob,hob,rfl,hmp,hk'⟩ := hk'
    obtain ⟨es,clock,h1,h2,h3,h4⟩ := (I.obj ob (List.mem_of_getElem? hob)).mlies hmp
    have hg : (getObj (G.m ob.tag)).run P w = .ok (.map es clock) w := by simp only [getObj,Sem.run,h1]
    have hset : ∀ o : Obj,(setObj (G.m ob.tag) o).run P w = .ok () (wset w (G.m ob.tag) o) := fun o => by
      simp only [setObj,Sem.run,h1]; rfl
    cases hm : mfind y ob.rows 0 with
    | none => rw [hm] at hk'; exact hk'.elim
    | some res =>
      rw [hm] at hk'
      obtain ⟨res',e1,e2⟩ := hK.find w G _ _ ry hfit es.toList ob.rows (by simpa using h2) (fun r row h => by
        obtain ⟨k,v,en,a1,a2,a3,a4⟩ := h4 r row h
        exact ⟨k,v,en,a1,by rw [Array.getElem?_toList]; exact a2,a3,a4⟩) res hm
      cases res with
      | none =>
        cases res' with
        | some p => exact e2.elim
        | none =>
          obtain ⟨hlt,hk'⟩ := hk'
          obtain ⟨x,I'⟩ := Inv.writeMap I hob h1 (es' := es.push { key := v,val := z,born := clock }) (clock' := clock + 1) (rows := ob.rows ++ [[y,q]]) hmp (by simp [h2]) (by simp; omega) (fun r row h => by
            rw [List.getElem?_append] at h
            split at h
            · obtain ⟨k,v',en,a1,a2,a3⟩ := h4 r row h
              exact ⟨k,v',en,a1,by rw [Array.getElem?_push,if_neg (by omega)]; exact a2,a3⟩
            · rename_i hge
              have hr0 : r - ob.rows.length = 0 := by
                have := (List.getElem?_eq_some_iff.1 h).1; simp at this; omega
              rw [hr0] at h; simp at h; subst h
              exact ⟨y,q,_,rfl,by rw [Array.getElem?_push,if_pos (by omega)],ry,rz⟩)
          refine ⟨_,?_,.und,_,_,hk',Ext.write I hob (ob' := { ob with rows := ob.rows ++ [[y,q]] }) rfl x,I',.und⟩
          unfold Instr.mapUpdate
          simp only [Sem.run_bind,run_underlying ht,Result.andThen_ok,hg,hK.check _ _ _ _ _ _ ry hfit,e1,hset]
      | some p =>
        cases res' with
        | none => exact e2.elim
        | some p' =>
          obtain ⟨j,a⟩ := p
          obtain ⟨j',v'⟩ := p'
          obtain ⟨hj,_,r,k',hrow,hkq⟩ := e2
          subst hj
          obtain ⟨k0,v0,en,a1,a2,a3,a4⟩ := h4 j _ hrow
          cases a1
          have hjl : j < ob.rows.length := (List.getElem?_eq_some_iff.1 hrow).1
          have hstay : (Instr.keyThatStays (((es[j]?).map (·.key)).getD v) v).run P w = .ok v w := by
            rw [a2]; exact keyThatStays_run ry a3 hkq
          obtain ⟨x,I'⟩ := Inv.writeMap I hob h1 (es' := es.modify j fun e => { e with key := v,val := z }) (clock' := clock) (rows := ob.rows.set j [y,q]) hmp (by simp [h2]) (by simpa using h3) (fun r row h => by
            rw [List.getElem?_set] at h
            split at h
            · rename_i e; subst e; cases h
              exact ⟨y,q,{ en with key := v,val := z },rfl,by rw [Array.getElem?_modify,if_pos rfl,a2]; rfl,ry,rz⟩
            · rename_i hne
              obtain ⟨k,v'',en',b1,b2,b3⟩ := h4 r row h
              exact ⟨k,v'',en',b1,by rw [Array.getElem?_modify,if_neg hne]; exact b2,b3⟩)
          refine ⟨_,?_,.und,_,_,hk',Ext.write I hob (ob' := { ob with rows := ob.rows.set j [y,q] }) rfl x,I',.und⟩
          unfold Instr.mapUpdate
          simp only [Sem.run_bind,run_underlying ht,Result.andThen_ok,hg,hK.check _ _ _ _ _ _ ry hfit,e1,hstay,hset]
  all_goals exact hk'.elim
end
section
variable {P : Program} {G : Gh} {H : List AObj} {w : World} {K : AV → List AObj → Nat → Prop}
def eqCells : List AV → List AV → Option Bool
  | [],[] => some true
  | a :: as0,b :: bs =>
    match keyEq a b with
    | some true => eqCells as0 bs
    | some false => some false
    | none => none
  | _,_ => none
def flatFields (P : Program) : List Field → Nat → Bool
  | [],_ => true
  | f :: fs,k => f.offset == k && f.name != "_" && keyT P f.type && flatFields P fs (k + 1)
def flatT (P : Program) (t : TypeId) : Bool :=
  match P.underlying t with
  | some (.struct fs) => flatFields P fs.toList 0 && !P.stoodInHeld t && !P.eqGuardType P.depth t
  | _ => false
theorem run_equalIn_key {h : Array Obj} {t : TypeId} (ht : keyT P t = true) {a b : Value} {x y : AV} (ra : Rep G h a x) (rb : Rep G h b y) {c : Bool} (hk : keyEq x y = some c) (hfit : ∀ d,P.underlying t = some d → keyFits d x = true) (n : Nat) :
    (Op.equalIn (n + 1) t a b).run P w = .ok c w := by
  unfold keyT at ht
  split at ht
  · rename_i hu
    have hf := hfit _ hu
    cases ra <;> simp only [keyFits] at hf <;> first | (cases hf; done) | skip
    cases rb <;> simp only [keyEq] at hk <;> first | (cases hk; done) | skip
    subst_vars
    rw [run_equalIn_string w n t _ _ hu,ByteArray.toList_eq,ByteArray.toList_eq,Option.some.inj hk]
  · rename_i k hu
    have hf := hfit _ hu
    cases ra <;> simp only [keyFits] at hf <;> first | (cases hf; done) | skip
    cases rb <;> simp only [keyEq] at hk <;> first | (cases hk; done) | skip
    split at hk
    · subst_vars
      rw [run_equalIn_int w n t _ _ _ _ hu,Option.some.inj hk]
    · cases hk
  · rename_i hu
    have hf := hfit _ hu
    cases ra <;> simp only [keyFits] at hf <;> first | (cases hf; done) | skip
    cases rb <;> simp only [keyEq] at hk <;> first | (cases hk; done) | skip
    rw [equalIn_bool n hu,Option.some.inj hk]
  · cases ht
theorem keyT_agg {t : TypeId} (ht : keyT P t = true) : ∃ d,P.underlying t = some d ∧ aggD d = false := by
  unfold keyT at ht
  split at ht <;> first | exact ⟨_,by assumption,rfl⟩ | cases ht
def fitsF (P : Program) : List Field → List AV → Bool
  | [],[] => true
  | f :: fs,a :: as0 => (match P.underlying f.type with | some d => keyFits d a | none => false) && fitsF P fs as0
  | _,_ => false
theorem eqFields_sound (n : Nat) {xs ys : Array Value} : ∀ (fs : List Field) (k : Nat) (l m : List AV),flatFields P fs k = true → fitsF P fs l = true →
    (∀ (j : Nat) (a : AV),l[j]? = some a → xs[k + j]? = some (xs.getD (k + j) undef) ∧ Rep G w.heap (xs.getD (k + j) undef) a) →
    (∀ (j : Nat) (a : AV),m[j]? = some a → ys[k + j]? = some (ys.getD (k + j) undef) ∧ Rep G w.heap (ys.getD (k + j) undef) a) →
    ∀ b,eqCells l m = some b → (Op.eqFields (n + 1) xs ys fs).run P w = .ok b w := by
  intro fs
  induction fs with
  | nil =>
    intro k l m _ hfit _ _ b hb
    cases l with
    | nil =>
      cases m with
      | nil => simp only [eqCells] at hb; cases hb; rfl
      | cons _ _ => simp only [eqCells] at hb; cases hb
    | cons _ _ => simp [fitsF] at hfit
  | cons f fs ih =>
    intro k l m hflat hfit hl hm b hb
    simp only [flatFields,Bool.and_eq_true,beq_iff_eq,bne_iff_ne,ne_eq] at hflat
    obtain ⟨⟨⟨ho,hname⟩,hkt⟩,hflat⟩ := hflat
    cases l with
    | nil => simp [fitsF] at hfit
    | cons a as0 =>
      cases m with
      | nil => simp only [eqCells] at hb; cases hb
      | cons a' as' =>
        simp only [fitsF,Bool.and_eq_true] at hfit
        obtain ⟨d,hd,hagg⟩ := keyT_agg hkt
        obtain ⟨hx,rx⟩ := hl 0 a rfl
        obtain ⟨hy,ry⟩ := hm 0 a' rfl
        rw [Nat.add_zero] at hx rx hy ry
        have part1 : (part f.type xs f.offset).run P w = .ok (xs.getD k undef) w := by
          unfold part
          simp only [Sem.run_bind,r_isAgg hd,hagg,Result.andThen_ok,Bool.false_eq_true,if_false,ho,hx,Sem.run_pure]
        have part2 : (part f.type ys f.offset).run P w = .ok (ys.getD k undef) w := by
          unfold part
          simp only [Sem.run_bind,r_isAgg hd,hagg,Result.andThen_ok,Bool.false_eq_true,if_false,ho,hy,Sem.run_pure]
        have hfit1 : ∀ d',P.underlying f.type = some d' → keyFits d' a = true := fun d' hd' => by
          have := hfit.1; rw [hd'] at this; exact this
        simp only [eqCells] at hb
        cases hq : keyEq a a' with
        | none => rw [hq] at hb; cases hb
        | some c =>
          rw [hq] at hb
          have he := run_equalIn_key (w := w) hkt rx ry hq hfit1 n
          simp only [Op.eqFields]
          rw [if_pos hname]
          simp only [Sem.run_bind,part1,part2,he,Result.andThen_ok]
          cases c with
          | false =>
            simp only at hb; cases hb
            rfl
          | true =>
            simp only at hb
            simp only [Bool.not_true,Bool.false_eq_true,if_false]
            exact ih (k + 1) as0 as' hflat hfit.2 (fun j x hj => by have := hl (j + 1) x hj; rwa [← Nat.add_assoc,Nat.add_right_comm] at this) (fun j x hj => by have := hm (j + 1) x hj; rwa [← Nat.add_assoc,Nat.add_right_comm] at this) b hb
def kindOf (d : TypeDesc) : Nat := match d with | .int _ => 0 | .string => 1 | .bool => 2 | _ => 3
def kindsF (P : Program) (fs : List Field) : List Nat := fs.map fun f => match P.underlying f.type with | some d => kindOf d | none => 3
def fitsK : List Nat → List AV → Bool
  | [],[] => true
  | 0 :: ks,.int _ _ :: as0 => fitsK ks as0
  | 1 :: ks,.str _ :: as0 => fitsK ks as0
  | 2 :: ks,.bool _ :: as0 => fitsK ks as0
  | _,_ => false
theorem fits_of : ∀ (fs : List Field) (l : List AV),fitsK (kindsF P fs) l = true → fitsF P fs l = true := by
  intro fs
  induction fs with
  | nil => intro l h; cases l <;> first | rfl | (simp [kindsF,fitsK] at h)
  | cons f fs ih =>
    intro l h
    cases l with
    | nil =>
      simp only [kindsF,List.map_cons] at h
      cases P.underlying f.type with
      | none => simp [fitsK] at h
      | some d => cases d <;> simp [kindOf,fitsK] at h
    | cons a as0 =>
      simp only [kindsF,List.map_cons] at h
      cases hu : P.underlying f.type with
      | none => rw [hu] at h; cases a <;> simp [fitsK] at h
      | some d =>
        rw [hu] at h
        simp only [fitsF,hu,Bool.and_eq_true]
        cases d <;> cases a <;> simp only [kindOf,fitsK] at h <;> first
          | exact ⟨rfl,ih as0 h⟩
          | (cases h; done)
def beqW' (neg : Bool) (ks : List Nat) (x y : AV) (K : AV → Prop) : Prop :=
  match x,y with
  | .agg xs,.agg ys => fitsK ks xs = true ∧ (match eqCells xs ys with | some b => K (.bool (b != neg)) | none => False)
  | _,_ => False
theorem beq_sound (I : Inv G H w.heap) {t : TypeId} (ht : flatT P t = true) {op : BinOp} {neg : Bool} (hop : (op = .eql ∧ neg = false) ∨ (op = .neq ∧ neg = true)) {x y : Operand} {u v : Value} {ax ay : AV}
    (rx : Rep G w.heap u ax) (ry : Rep G w.heap v ay) (hk : beqW' neg (kindsF P (P.fieldsOf t).toList) ax ay (fun r => K r H G.c)) : Run P (do eqGuard op t x y u v; binOp op t u v) G H w K := by
  cases rx <;> simp only [beqW'] at hk
  case agg xs l hs hcl hr =>
    cases ry <;> simp only at hk
    case agg ys m hs' hcl' hr' =>
      obtain ⟨hfit,hk⟩ := hk
      unfold flatT at ht
      split at ht
      · rename_i fs hu
        simp only [Bool.and_eq_true,Bool.not_eq_true'] at ht
        obtain ⟨⟨hflat,hst⟩,hg⟩ := ht
        have hfo : P.fieldsOf t = fs := by simp [Program.fieldsOf,hu]
        cases he : eqCells l m with
        | none => rw [he] at hk; exact hk.elim
        | some b =>
          rw [he] at hk
          have h1 := eqFields_sound (P := P) (G := G) (w := w) 9998 (xs := xs) (ys := ys) fs.toList 0 l m hflat (hfo ▸ fits_of _ _ hfit)
            (fun j a hj => by rw [Nat.zero_add]; exact ⟨of_getD (by have := (List.getElem?_eq_some_iff.1 hj).1; omega),hr j a hj⟩)
            (fun j a hj => by rw [Nat.zero_add]; exact ⟨of_getD (by have := (List.getElem?_eq_some_iff.1 hj).1; omega),hr' j a hj⟩) b he
          have h2 : (Op.equalIn 10000 t (.agg xs) (.agg ys)).run P w = .ok b w := by
            have := run_equalIn_struct (P := P) w 9999 t xs ys (by rw [hfo]; exact hu) hst
            rw [hfo] at this
            exact this.trans h1
          rcases hop with ⟨rfl,rfl⟩ | ⟨rfl,rfl⟩
          · refine Run.here I (v := .bool b) ?_ (by simpa using hk) .bool
            simp only [Sem.run_bind,run_eqGuard_agg w .eql t x y xs ys hg,Result.andThen_ok,run_eql_struct,h2]
          · refine Run.here I (v := .bool (!b)) ?_ (by simpa using hk) .bool
            simp only [Sem.run_bind,run_eqGuard_agg w .neq t x y xs ys hg,Result.andThen_ok,run_neq_struct,h2]
      · cases ht
    all_goals exact hk.elim
  all_goals exact hk.elim
def keyS (P : Program) (t : TypeId) : Bool := flatT P t && (kindsF P (P.fieldsOf t).toList == [2,0,1])
theorem keyFits_struct {fs : Array Field} {y : AV} (h : keyFits (.struct fs) y = true) : ∃ p k n s,y = .agg [.bool p,.int k n,.str s] := by
  unfold keyFits at h
  split at h
  all_goals first
    | exact ⟨_,_,_,_,rfl⟩
    | (cases h; done)
    | (rename_i e _; cases e; done)
    | (rename_i e; cases e; done)
theorem eqCells_key {p p' : Bool} {k : IntKind} {n n' : Int} {s s' : List UInt8} : eqCells [.bool p,.int k n,.str s] [.bool p',.int k n',.str s'] = some (p == p' && (n == n' && s == s')) := by
  simp only [eqCells,keyEq]
  cases p == p'
  · rfl
  · simp only [if_true,Bool.true_and]
    cases n == n'
    · rfl
    · cases s == s' <;> rfl
theorem keyOk_struct {t : TypeId} (h : keyS P t = true) : KeyOk P t (.struct #[]) := by
  unfold keyS at h
  rw [Bool.and_eq_true,beq_iff_eq] at h
  obtain ⟨ht,hk⟩ := h
  unfold flatT at ht
  split at ht
  · rename_i fs hu
    simp only [Bool.and_eq_true,Bool.not_eq_true'] at ht
    obtain ⟨⟨hflat,hst⟩,hg⟩ := ht
    have hfo : P.fieldsOf t = fs := by simp [Program.fieldsOf,hu]
    rw [hfo] at hk
    have h3 : fs.size = 3 := by have := congrArg List.length hk; simpa [kindsF] using this
    obtain ⟨f0,f1,f2,rfl⟩ : ∃ f0 f1 f2,fs = #[f0,f1,f2] := by
      refine ⟨fs[0],fs[1],fs[2],?_⟩
      apply Array.ext
      · simp [h3]
      · intro i h1 h2
        match i,h1 with
        | 0,h1 => rfl
        | 1,h1 => rfl
        | 2,h1 => rfl
        | i + 3,h1 => omega
    simp only [flatFields,Bool.and_eq_true,beq_iff_eq,bne_iff_ne,ne_eq] at hflat
    obtain ⟨⟨⟨o0,m0⟩,k0⟩,⟨⟨o1,m1⟩,k1⟩,⟨⟨o2,m2⟩,k2⟩,_⟩ := hflat
    obtain ⟨d0,u0,a0⟩ := keyT_agg k0
    obtain ⟨d1,u1,a1⟩ := keyT_agg k1
    obtain ⟨d2,u2,a2⟩ := keyT_agg k2
    have p0 : keyDesc d0 = true := by unfold keyT at k0; rw [u0] at k0; cases d0 <;> first | rfl | cases k0
    have p1 : keyDesc d1 = true := by unfold keyT at k1; rw [u1] at k1; cases d1 <;> first | rfl | cases k1
    have p2 : keyDesc d2 = true := by unfold keyT at k2; rw [u2] at k2; cases d2 <;> first | rfl | cases k2
    refine ⟨fun w G h b v y r hf => ?_,fun w G kv k rk hf es => ?_⟩
    · obtain ⟨p,kk,n,s,rfl⟩ := keyFits_struct hf
      obtain ⟨cs,rfl⟩ : ∃ cs,v = .agg cs := by cases r with | agg => exact ⟨_,rfl⟩
      obtain ⟨tx,htx,rfl⟩ := rep_key r
      have c0 := fun v => run_checkKey (P := P) (w := w) u0 p0 b 9998 v
      have c1 := fun v => run_checkKey (P := P) (w := w) u1 p1 b 9998 v
      have c2 := fun v => run_checkKey (P := P) (w := w) u2 p2 b 9998 v
      have q0 : (part f0.type #[Value.bool p,Value.int kk n,Value.string tx] 0).run P w = .ok (.bool p) w := by
        unfold part
        simp only [Sem.run_bind,r_isAgg u0,a0,Result.andThen_ok,Bool.false_eq_true,if_false]; rfl
      have q1 : (part f1.type #[Value.bool p,Value.int kk n,Value.string tx] 1).run P w = .ok (.int kk n) w := by
        unfold part
        simp only [Sem.run_bind,r_isAgg u1,a1,Result.andThen_ok,Bool.false_eq_true,if_false]; rfl
      have q2 : (part f2.type #[Value.bool p,Value.int kk n,Value.string tx] 2).run P w = .ok (.string tx) w := by
        unfold part
        simp only [Sem.run_bind,r_isAgg u2,a2,Result.andThen_ok,Bool.false_eq_true,if_false]; rfl
      unfold Instr.checkKey
      simp only [Sem.run_bind,run_underlying hu,Result.andThen_ok]
      simp [o0,o1,o2,m0,m1,m2,q0,q1,q2,c0,c1,c2]
    · have eq : ∀ (b : Value) (y : AV) (c : Bool),Rep G w.heap b y → keyEq k y = some c → (Op.equal t kv b).run P w = .ok c w := by
        intro b y c rb hc
        obtain ⟨p,kk,n,s,rfl⟩ := keyFits_struct hf
        obtain ⟨cs,rfl⟩ : ∃ cs,kv = .agg cs := by cases rk with | agg => exact ⟨_,rfl⟩
        obtain ⟨m,rfl⟩ : ∃ m,y = .agg m := by
          unfold keyEq at hc
          split at hc
          all_goals first
            | exact ⟨_,rfl⟩
            | (cases hc; done)
            | (rename_i e _; cases e; done)
            | (rename_i e; cases e; done)
        obtain ⟨cs',rfl⟩ : ∃ cs,b = .agg cs := by cases rb with | agg => exact ⟨_,rfl⟩
        obtain ⟨p1,k1',n1,s1,p2,n2,s2,e1,rfl,rfl⟩ := keyEq_agg hc
        cases e1
        cases rk with
        | agg hs hcl hr =>
          cases rb with
          | agg hs' hcl' hr' =>
            have h1 := eqFields_sound (P := P) (G := G) (w := w) 9998 (xs := cs) (ys := cs') [f0,f1,f2] 0 _ _ (by simp [flatFields,o0,o1,o2,m0,m1,m2,k0,k1,k2]) (fits_of _ _ (by rw [hk]; rfl))
              (fun j a hj => by rw [Nat.zero_add]; exact ⟨of_getD (by have := (List.getElem?_eq_some_iff.1 hj).1; omega),hr j a hj⟩)
              (fun j a hj => by rw [Nat.zero_add]; exact ⟨of_getD (by have := (List.getElem?_eq_some_iff.1 hj).1; omega),hr' j a hj⟩) _ eqCells_key
            have := run_equalIn_struct (P := P) w 9999 t cs cs' (by rw [hfo]; exact hu) hst
            rw [hfo] at this
            exact this.trans h1
      have ask : ∀ (es : List MapEntry) (rows : List (List AV)) (i : Nat),es.length = rows.length →
          (∀ (r : Nat) (row : List AV),rows[r]? = some row → ∃ (k v : AV) (en : MapEntry),row = [k,v] ∧ es[r]? = some en ∧ Rep G w.heap en.key k ∧ Rep G w.heap en.val v) →
          ∀ res,mfind k rows i = some res → ∃ res',(Instr.findAsking t kv es i).run P w = .ok res' w ∧ (match res,res' with
            | some (j,v),some (j',v') => j = j' ∧ i ≤ j ∧ Rep G w.heap v' v ∧ ∃ k' : AV,rows[j - i]? = some [k',v] ∧ keyEq k k' = some true
            | none,none => True
            | _,_ => False) := by
        intro es
        induction es with
        | nil =>
          intro rows i hl hr res hm
          cases rows with
          | nil => simp only [mfind] at hm; cases hm; exact ⟨none,rfl,trivial⟩
          | cons a l => simp at hl
        | cons e es ih =>
          intro rows i hl hr res hm
          cases rows with
          | nil => simp at hl
          | cons row rows =>
            obtain ⟨k',v,en,rfl,he,r1,r2⟩ := hr 0 row rfl
            simp at he; subst he
            simp only [mfind] at hm
            cases hq : keyEq k k' with
            | none => rw [hq] at hm; cases hm
            | some b =>
              rw [hq] at hm
              have hrun := eq _ _ _ r1 hq
              cases b with
              | true =>
                simp only at hm; cases hm
                refine ⟨some (i,e.val),?_,rfl,Nat.le_refl _,r2,k',by simp,hq⟩
                simp only [Instr.findAsking,Sem.run_bind,hrun,Result.andThen_ok,if_true,Sem.run_pure]
              | false =>
                simp only at hm
                obtain ⟨res',h1,h2⟩ := ih rows (i + 1) (by simpa using hl) (fun r row h => hr (r + 1) row h) res hm
                refine ⟨res',?_,?_⟩
                · simp only [Instr.findAsking,Sem.run_bind,hrun,Result.andThen_ok,Bool.false_eq_true,if_false]
                  exact h1
                cases res with
                | none =>
                  cases res' with
                  | none => trivial
                  | some p => exact h2.elim
                | some p =>
                  cases res' with
                  | none => exact h2.elim
                  | some p' =>
                    obtain ⟨j,v'⟩ := p
                    obtain ⟨j',v''⟩ := p'
                    obtain ⟨e1,e2,e3,k'',e4,e5⟩ := h2
                    refine ⟨e1,by omega,e3,k'',?_,e5⟩
                    have : j - i = j - (i + 1) + 1 := by omega
                    rw [this]; exact e4
      intro rows hl hr res hm
      obtain ⟨res',e1,e2⟩ := ask es rows 0 hl hr res hm
      refine ⟨res',?_,?_⟩
      · unfold Instr.findKey
        simp only [Sem.run_bind,run_underlying hu,Result.andThen_ok]
        cases es with
        | nil => simp only [Instr.findNow]; simpa [Instr.findAsking] using e1
        | cons e es => simp only [Instr.findNow,Instr.sameNow]; exact e1
      · cases res with
        | none => cases res' <;> exact e2
        | some p =>
          cases res' with
          | none => exact e2
          | some p' => exact e2
  · cases ht
inductive View (S : List AObj) : AV → AV → Prop
  | refl (a : AV) : View S a a
  | junk (a : AV) : View S a .junk
  | nsl (tag w : Nat) : View S .nsl (.slc tag w [])
  | slc0 (tag w tag' w' : Nat) : View S (.slc tag w []) (.slc tag' w' [])
  | name {i j tag w len : Nat} : View S (.ref i tag w len) (.ref j tag w len)
  | namep {i j tag w r o : Nat} : View S (.ptr i tag w r o) (.ptr j tag w r o)
  | namem {i j tag : Nat} : View S (.mref i tag) (.mref j tag)
  | agg {l l' : List AV} (hl : l.length = l'.length) (hc : ∀ (j : Nat) (a : AV),l'[j]? = some a → a.cell = true) (h : ∀ (j : Nat) (a a' : AV),l[j]? = some a → l'[j]? = some a' → View S a a') : View S (.agg l) (.agg l')
  | tup {l l' : List AV} (hl : l.length = l'.length) (h : ∀ (j : Nat) (a a' : AV),l[j]? = some a → l'[j]? = some a' → View S a a') : View S (.tup l) (.tup l')
  | slc {tag w : Nat} {rows rows' : List (List AV)} (hl : rows.length = rows'.length) (hr : ∀ (r : Nat) (x x' : List AV),rows[r]? = some x → rows'[r]? = some x' → x.length = x'.length)
      (hc : ∀ (r j : Nat) (x : List AV) (a : AV),rows'[r]? = some x → x[j]? = some a → a.cell = true)
      (h : ∀ (r j : Nat) (x x' : List AV) (a a' : AV),rows[r]? = some x → rows'[r]? = some x' → x[j]? = some a → x'[j]? = some a' → View S a a') : View S (.slc tag w rows) (.slc tag w rows')
  | ref {i tag w len : Nat} {rows rows' : List (List AV)} (ho : (⟨false,tag,w,rows⟩ : AObj) ∈ S) (hle : len ≤ rows.length) (hl : rows'.length = len)
      (hr : ∀ (r : Nat) (x x' : List AV),rows[r]? = some x → rows'[r]? = some x' → x.length = x'.length) (hc : ∀ (r j : Nat) (x : List AV) (a : AV),rows'[r]? = some x → x[j]? = some a → a.cell = true)
      (h : ∀ (r j : Nat) (x x' : List AV) (a a' : AV),rows[r]? = some x → rows'[r]? = some x' → x[j]? = some a → x'[j]? = some a' → View S a a') : View S (.ref i tag w len) (.slc tag w rows')
  | ptr {i tag w r o : Nat} {rows : List (List AV)} {row row' : List AV} (ho : (⟨false,tag,w,rows⟩ : AObj) ∈ S) (hrow : rows[r]? = some row) (hl : row.length = row'.length) (hc : ∀ (j : Nat) (a : AV),row'[j]? = some a → a.cell = true)
      (h : ∀ (j : Nat) (a a' : AV),row[j]? = some a → row'[j]? = some a' → View S a a') : View S (.ptr i tag w r o) (.cpt row' o)
theorem get_of_len {α β : Type} {l : List α} {l' : List β} (h : l.length = l'.length) {j : Nat} {b : β} (hb : l'[j]? = some b) : ∃ a,l[j]? = some a := by
  have := (List.getElem?_eq_some_iff.1 hb).1
  exact ⟨l[j],List.getElem?_eq_getElem (by omega)⟩
theorem View.rep {S : List AObj} {h : Array Obj} (I : Inv G H h) (hS : ∀ o,o ∈ S → o ∈ H) {a a' : AV} (v : View S a a') : ∀ {u : Value},Rep G h u a → Rep (G.freeze S) h u a' := by
  have x := Ext1.freeze G S h
  induction v with
  | refl a => exact fun r => r.ext x
  | junk a => exact fun _ => .junk
  | nsl tag w => intro u r; cases r; exact .slc0
  | slc0 tag w tag' w' => intro u r; cases r <;> exact .slc0
  | name => intro u r; cases r with | ref hc hb h1 h2 h3 => exact .ref (G := G.freeze S) hc hb h1 h2 h3
  | namep => intro u r; cases r with | ptr hc => exact .ptr (G := G.freeze S) hc
  | namem => intro u r; cases r with | mref hc => exact .mref (G := G.freeze S) hc
  | agg hl hc h ih =>
    intro u r
    cases r with
    | agg hs hcl hr =>
      refine .agg (hs.trans hl) hc fun j a' hj => ?_
      obtain ⟨a,ha⟩ := get_of_len hl hj
      exact ih j a a' ha hj (hr j a ha)
  | tup hl h ih =>
    intro u r
    cases r with
    | tup hs hr =>
      refine .tup (hs.trans hl) fun j a' hj => ?_
      obtain ⟨a,ha⟩ := get_of_len hl hj
      exact ih j a a' ha hj (hr j a ha)
  | @slc tag w rows rows' hl hr hc h ih =>
    intro u r
    cases r with
    | slc0 =>
      have : rows' = [] := List.length_eq_zero_iff.1 (by simpa using hl.symm)
      subst this; exact .slc0
    | slc f hF hc' hlen hcap hw hcell hcl hrep =>
      have e := hl
      rw [show rows.length = rows'.length from hl]
      refine .slc (G := G.freeze S) f (.inl hF) hc' (by omega) (by omega) (fun r row' hr' => ?_) (fun r o row' a' hr' ha' => ?_) hc (fun r o row' a' hr' ha' => ?_)
      · obtain ⟨row,hrow⟩ := get_of_len hl hr'
        rw [← hr r row row' hrow hr']; exact hw r row hrow
      · obtain ⟨row,hrow⟩ := get_of_len hl hr'
        obtain ⟨a,ha⟩ := get_of_len (hr r row row' hrow hr') ha'
        exact hcell r o row a hrow ha
      · obtain ⟨row,hrow⟩ := get_of_len hl hr'
        obtain ⟨a,ha⟩ := get_of_len (hr r row row' hrow hr') ha'
        exact ih r o row row' a a' hrow hr' ha ha' (hrep r o row a hrow ha)
  | @ref i tag w len rows rows' ho hle hl hr hc _ ih =>
    intro u r
    cases r with
    | @ref _ _ _ _ cap c e fr hc' hb h1 h2 h3 =>
      obtain ⟨c',e',fr',q1,q2,q3,q4,q5,q6⟩ := (I.obj _ (hS _ ho)).lies rfl
      simp only at q1 q3 q4 q5 q6
      rw [hb] at q1; cases q1
      subst hl
      have hget : ∀ (r : Nat) (x' : List AV),rows'[r]? = some x' → ∃ x,rows[r]? = some x := fun r x' hx => by
        have := (List.getElem?_eq_some_iff.1 hx).1
        exact ⟨rows[r],List.getElem?_eq_getElem (by omega)⟩
      refine .slc (G := G.freeze S) (off := 0) (fun r o => c.getD (r * w + o) undef) (.inr (mem_tags ho)) hc' (Nat.le_trans h2 h3) h2 (fun r row' hr' => ?_) (fun r o row' a' hr' ha' => ?_) hc (fun r o row' a' hr' ha' => ?_)
      · obtain ⟨row,hrow⟩ := hget r row' hr'
        rw [← hr r row row' hrow hr']; exact q5 r row hrow
      · obtain ⟨row,hrow⟩ := hget r row' hr'
        obtain ⟨a,ha⟩ := get_of_len (hr r row row' hrow hr') ha'
        obtain ⟨v,hv,_,_⟩ := q6 r o row a hrow ha
        show hcell h (G.m tag) _ = _
        rw [hcell_of hb,Nat.zero_add,hv,getD_of hv]
      · obtain ⟨row,hrow⟩ := hget r row' hr'
        obtain ⟨a,ha⟩ := get_of_len (hr r row row' hrow hr') ha'
        obtain ⟨v,hv,_,rv⟩ := q6 r o row a hrow ha
        rw [getD_of hv]
        exact ih r o row row' a a' hrow hr' ha ha' rv
  | @ptr i tag w r o rows row row' ho hrow hl hc _ ih =>
    intro u rp
    cases rp with
    | ptr hc' =>
      obtain ⟨c,e,fr,q1,q2,q3,q4,q5,q6⟩ := (I.obj _ (hS _ ho)).lies rfl
      simp only at q1 q3 q4 q5 q6
      refine .cpt (G := G.freeze S) (off := r * w) (fun j => c.getD (r * w + j) undef) (.inr (mem_tags ho)) hc' (fun j a' ha' => ?_) hc (fun j a' ha' => ?_)
      · obtain ⟨a,ha⟩ := get_of_len hl ha'
        obtain ⟨v,hv,_,_⟩ := q6 r j row a hrow ha
        show hcell h (G.m tag) _ = _
        rw [hcell_of q1,hv,getD_of hv]
      · obtain ⟨a,ha⟩ := get_of_len hl ha'
        obtain ⟨v,hv,_,rv⟩ := q6 r j row a hrow ha
        rw [getD_of hv]
        exact ih j a a' ha ha' rv
inductive Av (T : List Nat) : AV → Prop
  | int {k : IntKind} {n : Int} : Av T (.int k n)
  | bool {b : Bool} : Av T (.bool b)
  | str {l : List UInt8} : Av T (.str l)
  | und : Av T .und
  | junk : Av T .junk
  | nsl : Av T .nsl
  | nptr : Av T .nptr
  | slc0 {tag w : Nat} : Av T (.slc tag w [])
  | slc {tag w : Nat} {rows : List (List AV)} (ht : tag ∉ T) (h : ∀ (r j : Nat) (x : List AV) (a : AV),rows[r]? = some x → x[j]? = some a → Av T a) : Av T (.slc tag w rows)
  | ref {i tag w len : Nat} : Av T (.ref i tag w len)
  | ptr {i tag w r o : Nat} : Av T (.ptr i tag w r o)
  | mref {i tag : Nat} : Av T (.mref i tag)
  | ifc {b : Bool} : Av T (.ifc b)
  | agg {l : List AV} (h : ∀ (j : Nat) (a : AV),l[j]? = some a → Av T a) : Av T (.agg l)
  | tup {l : List AV} (h : ∀ (j : Nat) (a : AV),l[j]? = some a → Av T a) : Av T (.tup l)
def Gh.thaw (G : Gh) (T : List Nat) : Gh := { G with Fz := fun t => G.Fz t ∧ t ∉ T }
theorem Av.rep {T : List Nat} {h : Array Obj} {a : AV} (v : Av T a) : ∀ {u : Value},Rep G h u a → Rep (G.thaw T) h u a := by
  induction v with
  | int => intro u r; cases r with | int hk => exact .int hk
  | bool => intro u r; cases r; exact .bool
  | str => intro u r; cases r with | str e hl => exact .str e hl
  | und => intro u r; cases r; exact .und
  | junk => exact fun _ => .junk
  | nsl => intro u r; cases r; exact .nsl
  | nptr => intro u r; cases r; exact .nptr
  | slc0 => intro u r; cases r <;> exact .slc0
  | slc ht h ih =>
    intro u r
    cases r with
    | slc0 => exact .slc0
    | slc f hF hc hlen hcap hw hcell hcl hrep => exact .slc (G := G.thaw T) f ⟨hF,ht⟩ hc hlen hcap hw hcell hcl (fun r o row a h1 h2 => ih r o row a h1 h2 (hrep r o row a h1 h2))
  | ref => intro u r; cases r with | ref hc hb h1 h2 h3 => exact .ref (G := G.thaw T) hc hb h1 h2 h3
  | ptr => intro u r; cases r with | ptr hc => exact .ptr (G := G.thaw T) hc
  | mref => intro u r; cases r with | mref hc => exact .mref (G := G.thaw T) hc
  | ifc => intro u r; cases r <;> first | exact .nilI | exact .ifc
  | agg h ih => intro u r; cases r with | agg hs hcl hr => exact .agg hs hcl fun j a hj => ih j a hj (hr j a hj)
  | tup h ih => intro u r; cases r with | tup hs hr => exact .tup hs fun j a hj => ih j a hj (hr j a hj)
end
section
variable {P : Program} {G : Gh} {H : List AObj} {w : World} {K : AV → List AObj → Nat → Prop}
def AvRows (T : List Nat) (o : AObj) : Prop := ∀ (r j : Nat) (x : List AV) (a : AV),o.rows[r]? = some x → x[j]? = some a → Av T a
theorem ObjOk.thaw {h : Array Obj} {o : AObj} {T : List Nat} (k : ObjOk G h o) (v : AvRows T o) : ObjOk (G.thaw T) h o where
  c := k.c
  lies hm := by
    obtain ⟨c,e,fr,h1,h2,h3,h4,h5,h6⟩ := k.lies hm
    exact ⟨c,e,fr,h1,h2,h3,h4,h5,fun r j row a hr ha => let ⟨x,hx,hc,rx⟩ := h6 r j row a hr ha; ⟨x,hx,hc,(v r j row a hr ha).rep rx⟩⟩
  mlies hm := by
    obtain ⟨es,cl,h1,h2,h3,h4⟩ := k.mlies hm
    refine ⟨es,cl,h1,h2,h3,fun r row hr => ?_⟩
    obtain ⟨k',x,en,rfl,he,r1,r2⟩ := h4 r row hr
    exact ⟨k',x,en,rfl,he,(v r 0 _ k' hr rfl).rep r1,(v r 1 _ x hr rfl).rep r2⟩
def CallW (P : Program) (f : FuncId) (as0 : List AV) (H : List AObj) (c : Nat) (K : AV → List AObj → Nat → Prop) : Prop :=
  (tags H).Nodup → (∀ t,t ∈ tags H → t < c) → ∃ (H1 S : List AObj) (as' : List AV) (Q : AV → List AObj → Nat → Prop),H1.Sublist H ∧ (∀ o,o ∈ S → o ∈ H) ∧ (∀ t,t ∈ tags H1 → t ∉ tags S) ∧ as0.length = as'.length ∧
    (∀ (j : Nat) (a a' : AV),as0[j]? = some a → as'[j]? = some a' → View S a a') ∧ Con P f as' H1 c Q ∧
    ∀ res H1' c',c ≤ c' → Q res H1' c' → (∀ t,t < c → t ∈ tags H1' → t ∈ tags H1) → (tags H1').Nodup → ∃ H' res',(∀ o,o ∈ H' → o ∈ H1' ∨ (o ∈ H ∧ o.tag ∉ tags H1)) ∧ (tags H').Nodup ∧ View [] res res' ∧ Av (tags S) res' ∧
      (∀ o,o ∈ H' → o ∈ H1' → AvRows (tags S) o) ∧ K res' H' c'
theorem call_good (I : Inv G H w.heap) {H1 S : List AObj} (hsub : H1.Sublist H) (hS : ∀ o,o ∈ S → o ∈ H) (hd : ∀ t,t ∈ tags H1 → t ∉ tags S) {G2 : Gh} {H1' : List AObj} {w' : World}
    (x : Ext (G.freeze S) H1 w G2 H1' w') (I2 : Inv G2 H1' w'.heap) {H' : List AObj} (hH' : ∀ o,o ∈ H' → o ∈ H1' ∨ (o ∈ H ∧ o.tag ∉ tags H1)) (hnd : (tags H').Nodup) (hav : ∀ o,o ∈ H' → o ∈ H1' → AvRows (tags S) o) :
    Ext G H w (G2.thaw (tags S)) H' w' ∧ Inv (G2.thaw (tags S)) H' w'.heap := by
  have hsubt : ∀ t,t ∈ tags H1 → t ∈ tags H := fun t ht => (hsub.map _).subset ht
  have hSt : ∀ t,t ∈ tags S → t ∈ tags H := fun t ht => by obtain ⟨o,ho,rfl⟩ := of_mem_tags ht; exact mem_tags (hS o ho)
  have hc : G.c ≤ G2.c := x.x.c
  have hm : ∀ t,t < G.c → G2.m t = G.m t := fun t ht => x.x.m t ht
  have hold : ∀ t,t < G.c → G2.Fz t → G.Fz t ∨ t ∈ tags H := fun t ht hF => by
    rcases x.oldF t ht hF with (h1 | h1) | h1
    · exact .inl h1
    · exact .inr (hSt t h1)
    · exact .inr (hsubt t h1)
  have hH'' : ∀ t,t ∈ tags H' → t ∈ tags H1' ∨ (t ∈ tags H ∧ t ∉ tags H1) := fun t ht => by
    obtain ⟨o,ho,rfl⟩ := of_mem_tags ht
    rcases hH' o ho with h1 | ⟨h1,h2⟩
    · exact .inl (mem_tags h1)
    · exact .inr ⟨mem_tags h1,h2⟩
  have x1 : Ext1 G w.heap (G2.thaw (tags S)) w'.heap :=
    ⟨hc,hm,fun t ht hF => ⟨x.x.F t ht (.inl hF),fun hs => I.nfz t (hSt t hs) hF⟩,fun t ht hF => x.x.keep t ht (.inl hF),x.x.shape⟩
  have hblk : ∀ o,o ∈ H → o.tag ∉ tags H1 → w'.heap[G.m o.tag]? = w.heap[G.m o.tag]? := fun o ho hn => by
    refine x.frame _ (I.obj o ho).block fun t ht e => hn ?_
    have : t = o.tag := I.inj t o.tag (.inr (hsubt t ht)) (.inr (mem_tags ho)) e
    exact this ▸ ht
  refine ⟨⟨x1,x.os,x.tape,x.output,x.size,fun b hb hn => x.frame b hb fun t ht => hn t (hsubt t ht),fun t h1 h2 => ?_,fun t h1 h2 => ?_,fun t h1 h2 => hold t h1 h2.1⟩,⟨fun t hF => I2.fz t hF.1,fun o ho => ?_,fun t ht hF => ?_,hnd,?_,I.gl.ext x1⟩⟩
  · rcases x.newm t h1 h2 with h3 | ⟨u,hu,h3⟩
    · exact .inl h3
    · exact .inr ⟨u,hsubt u hu,h3⟩
  · rcases hH'' t h2 with h3 | ⟨h3,_⟩
    · exact hsubt t (x.oldH t h1 h3)
    · exact h3
  · by_cases h1 : o ∈ H1'
    · exact (I2.obj o h1).thaw (hav o ho h1)
    · rcases hH' o ho with h2 | ⟨h2,h3⟩
      · exact absurd h2 h1
      · exact (I.obj o h2).ext x1 (hblk o h2 h3)
  · rcases hH'' t ht with h1 | ⟨h1,h2⟩
    · exact I2.nfz t h1 hF.1
    · have htc := I.lt h1
      rcases x.oldF t htc hF.1 with (h3 | h3) | h3
      · exact I.nfz t h1 h3
      · exact hF.2 h3
      · exact h2 h3
  · have key : ∀ t,((G2.thaw (tags S)).Fz t ∨ t ∈ tags H') → (G2.Fz t ∨ t ∈ tags H1') ∨ (t ∈ tags H ∧ t ∉ tags H1) := fun t hl => by
      rcases hl with h1 | h1
      · exact .inl (.inl h1.1)
      · rcases hH'' t h1 with h2 | h2
        · exact .inl (.inr h2)
        · exact .inr h2
    have cross : ∀ t u,(G2.Fz t ∨ t ∈ tags H1') → (u ∈ tags H ∧ u ∉ tags H1) → G2.m t = G2.m u → t = u := fun t u hl ⟨hu,hn⟩ he => by
      have huc := I.lt hu
      rw [hm u huc] at he
      rcases Nat.lt_or_ge t G.c with htc | htc
      · rw [hm t htc] at he
        refine I.inj t u ?_ (.inr hu) he
        rcases hl with h1 | h1
        · exact hold t htc h1
        · exact .inr (hsubt t (x.oldH t htc h1))
      · have htl : t < G2.c := by
          rcases hl with h1 | h1
          · exact (I2.fz t h1).1
          · exact I2.lt h1
        rcases x.newm t htc htl with h3 | ⟨y,hy,h3⟩
        · obtain ⟨o,ho,rfl⟩ := of_mem_tags hu
          have := (I.obj o ho).block
          omega
        · have h3' : G2.m t = G.m y := h3
          have : y = u := I.inj y u (.inr (hsubt y hy)) (.inr hu) (h3'.symm.trans he)
          exact absurd (this ▸ hy) hn
    intro t t' h1 h2 he
    have he' : G2.m t = G2.m t' := he
    rcases key t h1 with k1 | k1 <;> rcases key t' h2 with k2 | k2
    · exact I2.inj t t' k1 k2 he'
    · exact cross t t' k1 k2 he'
    · exact (cross t' t k2 k1 he'.symm).symm
    · rw [hm t (I.lt k1.1),hm t' (I.lt k2.1)] at he'
      exact I.inj t t' (.inr k1.1) (.inr k2.1) he'
theorem Rep.unfreeze_nil {h : Array Obj} {u : Value} {a : AV} (r : Rep (G.freeze []) h u a) : Rep G h u a :=
  r.ext ⟨Nat.le_refl _,fun _ _ => rfl,fun t _ hF => hF.elim id (fun hm => by simp [tags] at hm),fun _ _ _ => rfl,fun _ c _ fr hb => ⟨c,fr,hb,rfl⟩⟩
def Args (G : Gh) (h : Array Obj) (vs : Array Value) (as0 : List AV) : Prop := vs.size = as0.length ∧ ∀ (j : Nat) (a : AV),as0[j]? = some a → Rep G h (vs.getD j undef) a
theorem call_sound (I : Inv G H w.heap) {f : FuncId} {vs : Array Value} {as0 : List AV} (ha : Args G w.heap vs as0) (hk : CallW P f as0 H G.c K) :
    Calls P f vs w fun e w' => ∃ v,e = .returned v ∧ Good G H w K v w' := by
  obtain ⟨H1,S,as',Q,h1,h2,h3,h4,h5,h6,h7⟩ := hk I.nodup (fun t ht => I.lt ht)
  have I1 := I.freeze h1 h2 h3
  refine (h6 (G.freeze S) w vs rfl I1 (ha.1.trans h4) fun j a' hj => ?_).mono fun e w' ⟨v,res,H1',G2,he,hq,x,I2,r⟩ => ?_
  · obtain ⟨a,haj⟩ := get_of_len h4 hj
    exact (h5 j a a' haj hj).rep I h2 (ha.2 j a haj)
  · obtain ⟨H',res',q1,q2,q3,q4,q5,q6⟩ := h7 res H1' G2.c x.x.c hq x.oldH I2.nodup
    obtain ⟨x',I'⟩ := call_good I h1 h2 h3 x I2 q1 q2 q5
    exact ⟨v,he,res',H',G2.thaw (tags S),q6,x',I',q4.rep ((q3.rep I2 (by simp) r).unfreeze_nil)⟩
def Fnc (P : Program) (f : Nat) (args : List AV) (res : AV) : Prop := ∀ c,Con P f args [] c fun r H' _ => r = res ∧ H' = []
inductive Views (S : List AObj) : List AV → List AV → Prop
  | nil : Views S [] []
  | cons {a a' : AV} {l l' : List AV} (h : View S a a') (t : Views S l l') : Views S (a :: l) (a' :: l')
theorem Views.refl (S : List AObj) : ∀ l,Views S l l
  | [] => .nil
  | a :: l => .cons (.refl a) (Views.refl S l)
theorem Views.spec {S : List AObj} {l l' : List AV} (h : Views S l l') : l.length = l'.length ∧ ∀ (j : Nat) (a a' : AV),l[j]? = some a → l'[j]? = some a' → View S a a' := by
  induction h with
  | nil => exact ⟨rfl,by simp⟩
  | cons h t ih =>
    refine ⟨by simp [ih.1],fun j a a' h1 h2 => ?_⟩
    cases j with
    | zero => simp at h1 h2; subst h1; subst h2; exact h
    | succ j => exact ih.2 j a a' (by simpa using h1) (by simpa using h2)
theorem call_fn {c : Nat} {f : Nat} {as0 as' : List AV} {res : AV} (hf : Fnc P f as' res) (hv : Views H as0 as') (hres : Av (tags H) res) (k : ∀ c',c ≤ c' → K res H c') : CallW P f as0 H c K := by
  intro hn _
  obtain ⟨h1,h2⟩ := hv.spec
  refine ⟨[],H,as',_,List.nil_sublist _,fun o h => h,by simp [tags],h1,h2,hf c,fun r H1' c' hc ⟨hr,hH⟩ _ _ => ?_⟩
  subst hr; subst hH
  exact ⟨H,r,fun o ho => .inr ⟨ho,by simp [tags]⟩,hn,.refl r,hres,by simp,k c' hc⟩
def callFW (P : Program) (f : Nat) (as0 : List AV) (H : List AObj) (c : Nat) (K : AV → List AObj → Nat → Prop) : Prop :=
  ∃ as' res,Views H as0 as' ∧ Fnc P f as' res ∧ Av (tags H) res ∧ ∀ c',c ≤ c' → K res H c'
theorem callFW_call {f : Nat} {as0 : List AV} {c : Nat} (h : callFW P f as0 H c K) : CallW P f as0 H c K := by
  obtain ⟨as',res,h1,h2,h3,h4⟩ := h
  exact call_fn h2 h1 h3 h4
end
def From (c : Nat) (a : AV) : Prop := ∀ T : List Nat,(∀ t,t ∈ T → t < c) → Av T a
theorem From.mono {c c' : Nat} {a : AV} (h : From c' a) (hc : c ≤ c') : From c a := fun T hT => h T fun t ht => Nat.lt_of_lt_of_le (hT t ht) hc
@[simp] theorem from_int (c : Nat) (k : IntKind) (n : Int) : From c (.int k n) := fun _ _ => .int
@[simp] theorem from_bool (c : Nat) (b : Bool) : From c (.bool b) := fun _ _ => .bool
@[simp] theorem from_str (c : Nat) (l : List UInt8) : From c (.str l) := fun _ _ => .str
@[simp] theorem from_nsl (c : Nat) : From c .nsl := fun _ _ => .nsl
theorem from_agg {c : Nat} {l : List AV} (h : ∀ a,a ∈ l → From c a) : From c (.agg l) := fun T hT => .agg fun j a ha => h a (List.mem_of_getElem? ha) T hT
theorem from_slc {c t w : Nat} {rows : List (List AV)} (ht : c ≤ t) (h : ∀ row,row ∈ rows → ∀ a,a ∈ row → From c a) : From c (.slc t w rows) := fun T hT =>
  .slc (fun hm => absurd (hT t hm) (by omega)) fun r j x a hx ha => h x (List.mem_of_getElem? hx) a (List.mem_of_getElem? ha) T hT
def Tr (P : Program) (f : Nat) (args : List AV) (Q : Nat → AV → Prop) : Prop := ∀ c,Con P f args [] c fun r H' _ => H' = [] ∧ Q c r ∧ From c r
section
variable {P : Program} {H : List AObj} {c : Nat} {K : AV → List AObj → Nat → Prop}
theorem call_tree {f : Nat} {as0 as' : List AV} {Q : Nat → AV → Prop} (hf : Tr P f as' Q) (hv : Views H as0 as') (k : ∀ r c',c ≤ c' → Q c r → From c r → K r H c') : CallW P f as0 H c K := by
  intro hn hlt
  obtain ⟨h1,h2⟩ := hv.spec
  refine ⟨[],H,as',_,List.nil_sublist _,fun o h => h,by simp [tags],h1,h2,hf c,fun r H1' c' hc ⟨hH,hq,hfr⟩ _ _ => ?_⟩
  subst hH
  exact ⟨H,r,fun o ho => .inr ⟨ho,by simp [tags]⟩,hn,.refl r,hfr _ hlt,by simp,k r c' hc hq hfr⟩
def callD (P : Program) (R : AV → Prop) (f : Nat) (as0 : List AV) (H : List AObj) (c : Nat) (K : AV → Prop) : Prop :=
  ∃ as',Views H as0 as' ∧ Tr P f as' (fun _ r => R r) ∧ (∃ r,R r ∧ From c r) ∧ ∀ r,R r → From c r → K r
end
structure IOper where
  dst : Option Nat
  op : IOp
  guard : Option (Nat × Bool) := none
  deriving Inhabited
inductive IR where
  | skip
  | reg (ops : List IOper)
  | draw (ops : List IOper)
  | seq (a b : IR)
  | cond (c : Opd) (a b : IR)
  | block (id : Nat) (b : IR)
  | loop (b : IR)
  | exit (id : Nat)
  | ret
  | alt (a b : IR)
  deriving Inhabited
def pickW (c a b : AV) (K : AV → Prop) : Prop :=
  match c with
  | .bool c => (c = true → K a) ∧ (c = false → K b)
  | _ => False
def nilckW (x : AV) (K : AV → Prop) : Prop :=
  match x with
  | .ptr .. | .cpt .. | .fn .. => K x
  | _ => False
def isnlW (neg : Bool) (x : AV) (K : AV → Prop) : Prop :=
  match x with
  | .nsl => K (.bool (true != neg))
  | .slc _ _ [] => K (.bool (true != neg)) ∧ K (.bool (false != neg))
  | .slc .. | .ref .. => K (.bool (false != neg))
  | _ => False
def isniW (neg : Bool) (x : AV) (K : AV → Prop) : Prop :=
  match x with
  | .ifc b => K (.bool (b != neg))
  | _ => False
def loadCW (ag : Option Nat) (x : AV) (K : AV → Prop) : Prop :=
  match x with
  | .cpt cells o => rowW ag cells o K
  | _ => False
def bodyOk (P : Program) (f : Nat) : Bool := match P.funcs[f]? with | some fn => fn.body.isSome && fn.name != "runtime.NumGoroutine" | none => false
def callvW (P : Program) (x : AV) (as0 : List AV) (H : List AObj) (c : Nat) (K : AV → List AObj → Nat → Prop) : Prop :=
  match x with
  | .fn f caps => bodyOk P f = true ∧ CallW P f (as0 ++ caps) H c K
  | _ => False
def keyD : Nat → TypeDesc
  | 0 => .int .i64
  | 1 => .string
  | 2 => .bool
  | _ => .struct #[]
def opW (P : Program) (o : IOp) (e : Env) (H : List AObj) (c : Nat) (K : AV → List AObj → Nat → Prop) : Prop :=
  match o with
  | .mv x => K (ev e x) H c
  | .pick x a b => pickW (ev e x) (ev e a) (ev e b) fun v => K v H c
  | .new w z => newW w z H c K
  | .box _ x => boxW (ev e x) H c K
  | .build z ps => fillW z (ps.map fun (o,n,x) => (o,n,ev e x)) fun l => K (.agg l) H c
  | .bslice w z n ps => bsliceW w z n (ps.map fun (i,x) => (i,ev e x)) H c K
  | .load ag x => loadW ag (ev e x) H fun v => K v H c
  | .store n a x => storeW n (ev e a) (ev e x) H c K
  | .nilck x => nilckW (ev e x) fun v => K v H c
  | .bin op x y => binW op (ev e x) (ev e y) fun v => K v H c
  | .binb op x y => binbW op (ev e x) (ev e y) fun v => K v H c
  | .beq neg ks x y => beqW' neg ks (ev e x) (ev e y) fun v => K v H c
  | .un op x => unW op (ev e x) fun v => K v H c
  | .toInt k x => toIntW k (ev e x) fun v => K v H c
  | .toStr x => toStrW (ev e x) H fun v => K v H c
  | .toBytes x => toBytesW (ev e x) H c K
  | .mkfn f caps => K (.fn f (caps.map (ev e))) H c
  | .mkmap => mkmapW H c K
  | .mkslice w z b l x => mksliceW w z b (ev e l) (ev e x) H c K
  | .sliceS x lo hi => strSliceW (ev e x) (lo.map (ev e)) (hi.map (ev e)) fun v => K v H c
  | .slice w x lo hi => slcSliceW w (ev e x) (lo.map (ev e)) (hi.map (ev e)) fun v => K v H c
  | .slice3 w x h m => slice3W w (ev e x) (ev e h) (ev e m) fun v => K v H c
  | .faddr o x => faddrW o (ev e x) fun v => K v H c
  | .field o ag x => fieldW o ag (ev e x) fun v => K v H c
  | .iaddr w x i => iaddrW w (ev e x) (ev e i) fun v => K v H c
  | .index x i => indexW (ev e x) (ev e i) fun v => K v H c
  | .lookup d z ok m k => lookupW (keyD d) z ok (ev e m) (ev e k) H fun v => K v H c
  | .mupd d m k v => mupdW (keyD d) (ev e m) (ev e k) (ev e v) H c K
  | .lenS x => lenStrW (ev e x) fun v => K v H c
  | .lenL x => lenSlcW (ev e x) fun v => K v H c
  | .lenM x => lenMapW (ev e x) H fun v => K v H c
  | .append w b x y => appendW w b (ev e x) (ev e y) H c K
  | .extract x i => extractW (ev e x) i fun v => K v H c
  | .call f as0 => CallW P f (as0.map (ev e)) H c K
  | .callv x as0 => callvW P (ev e x) (as0.map (ev e)) H c K
  | .callF f as0 => callFW P f (as0.map (ev e)) H c K
  | .isnl neg x => isnlW neg (ev e x) fun v => K v H c
  | .isni neg x => isniW neg (ev e x) fun v => K v H c
  | .loadC ag x => loadCW ag (ev e x) fun v => K v H c
  | .chk ag x y => loadW ag (ev e x) H fun v => v = ev e y ∧ K .und H c
def put (e : Env) (d : Option Nat) (v : AV) : Env :=
  match d with
  | some d => upd e d v
  | none => e
def guardW (g : AV) (want : Bool) (run skip : Prop) : Prop :=
  match g with
  | .bool b => (b = want → run) ∧ (b ≠ want → skip)
  | .und => skip
  | _ => False
def opsW (P : Program) : List IOper → Env → List AObj → Nat → (Env → List AObj → Nat → Prop) → Prop
  | [],e,H,c,K => K e H c
  | o :: rest,e,H,c,K =>
    match o.guard with
    | none => opW P o.op e H c fun v H' c' => opsW P rest (put e o.dst v) H' c' K
    | some (g,want) => guardW (e g) want (opW P o.op e H c fun v H' c' => opsW P rest (put e o.dst v) H' c' K) (opsW P rest (put e o.dst .und) H c K)
def opD (P : Program) (R : AV → Prop) (o : IOp) (e : Env) (H : List AObj) (c : Nat) (K : AV → Prop) : Prop :=
  match o with
  | .callF f as0 => callD P R f (as0.map (ev e)) H c K
  | o => opW P o e H c fun v _ _ => K v
def opsD (P : Program) (R : Nat → AV → Prop) : List IOper → Env → List AObj → Nat → (Env → Prop) → Prop
  | [],e,_,_,K => K e
  | o :: rest,e,H,c,K =>
    match o.guard with
    | none => opD P (R (o.dst.getD 0)) o.op e H c fun v => opsD P R rest (put e o.dst v) H c K
    | some (g,want) => guardW (e g) want (opD P (R (o.dst.getD 0)) o.op e H c fun v => opsD P R rest (put e o.dst v) H c K) (opsD P R rest (put e o.dst .und) H c K)
def condW (c : AV) (a b : Prop) : Prop :=
  match c with
  | .bool t => (t = true → a) ∧ (t = false → b)
  | _ => False
abbrev Post := Exit → Env → List AObj → Nat → Prop
def thenQ (next : Env → List AObj → Nat → Prop) (Q : Post) : Post
  | .normal,e,H,c => next e H c
  | x,e,H,c => Q x e H c
def blockQ (id : Nat) (Q : Post) : Post
  | .exit id',e,H,c => if id' = id then Q .normal e H c else Q (.exit id') e H c
  | x,e,H,c => Q x e H c
def irW (P : Program) : IR → Post → Env → List AObj → Nat → Prop
  | .skip,Q,e,H,c => Q .normal e H c
  | .reg ops,Q,e,H,c => opsW P ops e H c (Q .normal)
  | .draw ops,Q,e,H,c => ∃ R,opsD P R ops e H c fun e' => ∀ c',c ≤ c' → Q .normal e' H c'
  | .seq a b,Q,e,H,c => irW P a (thenQ (irW P b Q) Q) e H c
  | .cond x a b,Q,e,H,c => condW (ev e x) (irW P a Q e H c) (irW P b Q e H c)
  | .block id b,Q,e,H,c => irW P b (blockQ id Q) e H c
  | .loop b,Q,e,H,c => ∃ (I : Env → List AObj → Nat → Prop) (μ : Env → List AObj → Nat → Nat),(∃ H0,H0.Sublist H ∧ I e H0 c) ∧
      ∀ e H c,I e H c → irW P b (thenQ (fun e' H' c' => ∃ H'',H''.Sublist H' ∧ I e' H'' c' ∧ μ e' H'' c' < μ e H c) Q) e H c
  | .exit id,Q,e,H,c => Q (.exit id) e H c
  | .ret,Q,e,H,c => Q .ret e H c
  | .alt a b,Q,e,H,c => irW P a Q e H c ∧ irW P b Q e H c
def opds (l : List Operand) : Option (List Opd) := l.mapM opd
def optOpd : Option Operand → Option (Option Opd)
  | none => some none
  | some x => (opd x).map some
def kdT (P : Program) (t : TypeId) : Option Nat :=
  match P.underlying t with
  | some (.int .i64) => some 0
  | some .string => some 1
  | some .bool => some 2
  | _ => if keyS P t then some 3 else none
def isIntStr (P : Program) (t : TypeId) : Bool := match P.underlying t with | some (.int _) | some .string => true | _ => false
def isBoolT (P : Program) (t : TypeId) : Bool := match P.underlying t with | some .bool => true | _ => false
def isNil : Opd → Bool
  | .c .nsl => true
  | _ => false
def isNilI : Opd → Bool
  | .c (.ifc true) => true
  | _ => false
def isIfcT (P : Program) (t : TypeId) : Bool := match P.underlying t with | some (.interface _) => true | _ => false
def compBin (P : Program) (op : BinOp) (t : TypeId) (x y : Opd) : Option IOp :=
  if isIntStr P t then some (.bin op x y)
  else if isBoolT P t then some (.binb op x y)
  else if flatT P t then
    match op with
    | .eql => some (.beq false (kindsF P (P.fieldsOf t).toList) x y)
    | .neq => some (.beq true (kindsF P (P.fieldsOf t).toList) x y)
    | _ => none
  else if isSlcT P t && isNil y then
    match op with
    | .eql => some (.isnl false x)
    | .neq => some (.isnl true x)
    | _ => none
  else if isIfcT P t && isNilI y then
    match op with
    | .eql => some (.isni false x)
    | .neq => some (.isni true x)
    | _ => none
  else none
def compConv (P : Program) (s d : TypeId) (x : Opd) : Option IOp :=
  match P.underlying s,P.underlying d with
  | some _,some (.int k) => some (.toInt k x)
  | some (.slice e),some .string => match P.underlying e with | some (.int .u8) => some (.toStr x) | _ => none
  | some .string,some (.slice e) => match P.underlying e with | some (.int .u8) => some (.toBytes x) | _ => none
  | _,_ => none
def compLen (P : Program) (t : TypeId) (x : Opd) : Option IOp :=
  if isStrT P t then some (.lenS x) else if isSlcT P t then some (.lenL x) else if isMapT P t then some (.lenM x) else none
def plainT (P : Program) (t : TypeId) : Bool := match P.underlying t with | some (.int _) | none => false | _ => true
def compCall (P : Program) (c : Call) (ty : TypeId) : Option IOp :=
  match c.callee with
  | .builtin .len =>
    match c.args.toList,c.argTypes.toList with
    | [x],[t] => do compLen P t (← opd x)
    | _,_ => none
  | .builtin .append =>
    match c.args.toList,c.argTypes.toList with
    | [x,y],[t,u] => do
      let (e,i) ← sliceElem P t
      let _ ← zeroOf? P e
      if plainT P u then some (.append i.size i.bytes (← opd x) (← opd y)) else none
    | _,_ => none
  | .value (.func f) => do
    let as0 ← opds c.args.toList
    if bodyOk P f then some (.call f as0) else none
  | .value (.tmp t) => do some (.callv (.t t) (← opds c.args.toList))
  | _ => none
def compOp (P : Program) (o : Op) (ty : TypeId) : Option IOp :=
  match o with
  | .move x | .assign x => do some (.mv (← opd x))
  | .pick c a b => do some (.pick (← opd c) (← opd a) (← opd b))
  | .alloc t => do let z ← zeroOf? P t; some (.new z.length z)
  | .box t x => do some (.box (← sizeOf? P t) (← opd x))
  | .build t ps => do
    let z ← zeroOf? P t
    if placesOk P t then some (.build z (← ps.toList.mapM fun (i,x) => do let (o,n) ← placeOf P t i; some (o,n,← opd x))) else none
  | .buildSlice t n ps => do
    let (e,i) ← sliceElem P t
    let z ← zeroOf? P e
    if n * i.size ≤ 16777216 ∧ n ≤ 16777216 then some (.bslice i.size z n (← ps.toList.mapM fun (i,x) => do some (i,← opd x))) else none
  | .load t x => do some (.load (← agOf P t) (← opd x))
  | .store t a x => do some (.store (← sizeOf? P t) (← opd a) (← opd x))
  | .nilCheck x => do some (.nilck (← opd x))
  | .binOp op t x y _ => do compBin P op t (← opd x) (← opd y)
  | .unOp op _ x => do some (.un op (← opd x))
  | .convert s d x => do compConv P s d (← opd x)
  | .makeFunc (.func f) first caps => if first.isEmpty then do some (.mkfn f (← opds caps.toList)) else none
  | .makeMap _ none => some .mkmap
  | .makeSlice t l c => do
    let (e,i) ← sliceElem P t
    let z ← zeroOf? P e
    some (.mkslice i.size z i.bytes (← opd l) (← opd c))
  | .slice t x lo hi none =>
    if isStrT P t then do some (.sliceS (← opd x) (← optOpd lo) (← optOpd hi))
    else do
      let (_,i) ← sliceElem P t
      some (.slice i.size (← opd x) (← optOpd lo) (← optOpd hi))
  | .slice t x none (some h) (some m) => do
    let (_,i) ← sliceElem P t
    some (.slice3 i.size (← opd x) (← opd h) (← opd m))
  | .fieldAddr t x f => do let (o,_) ← fieldOff P t f; some (.faddr o (← opd x))
  | .field t x f => do let (o,u) ← fieldOff P t f; some (.field o (← agOf P u) (← opd x))
  | .indexAddr t x i => do let (_,j) ← sliceElem P t; some (.iaddr j.size (← opd x) (← opd i))
  | .index t x i => if isStrT P t then do some (.index (← opd x) (← opd i)) else none
  | .lookup t m k ok =>
    match P.underlying t with
    | some (.map kt et) => do some (.lookup (← kdT P kt) (← zeroVal? P et) ok (← opd m) (← opd k))
    | _ => none
  | .mapUpdate t m k v =>
    match P.underlying t with
    | some (.map kt _) => do some (.mupd (← kdT P kt) (← opd m) (← opd k) (← opd v))
    | _ => none
  | .extract x i => do some (.extract (← opd x) i)
  | .call c => compCall P c ty
  | _ => none
def compGuard (ops : Array Oper) : Option (Nat × Bool) → Option (Option (Nat × Bool))
  | none => some none
  | some (j,want) =>
    match (ops[j]?).bind (·.dst) with
    | some d => some (some (d,want))
    | none => none
def dstOk (n : Nat) : Option Nat → Bool
  | some d => decide (d < n)
  | none => true
def compOper (P : Program) (n : Nat) (ops : Array Oper) (o : Oper) : Option IOper := do
  let op ← compOp P o.op o.type
  let g ← compGuard ops o.guard
  if dstOk n o.dst then some ⟨o.dst,op,g⟩ else none
def pureOp : IOp → Option IOp
  | .call f as0 => some (.callF f as0)
  | .mv x => some (.mv x) | .pick a b c => some (.pick a b c) | .load a x => some (.load a x) | .nilck x => some (.nilck x) | .bin a b c => some (.bin a b c) | .binb a b c => some (.binb a b c)
  | .beq a b c d => some (.beq a b c d) | .un a b => some (.un a b) | .toInt a b => some (.toInt a b) | .toStr a => some (.toStr a) | .mkfn a b => some (.mkfn a b) | .sliceS a b c => some (.sliceS a b c)
  | .slice a b c d => some (.slice a b c d) | .faddr a b => some (.faddr a b) | .field a b c => some (.field a b c) | .iaddr a b c => some (.iaddr a b c) | .index a b => some (.index a b)
  | .lookup a b c d e => some (.lookup a b c d e) | .lenS a => some (.lenS a) | .lenL a => some (.lenL a) | .lenM a => some (.lenM a) | .extract a b => some (.extract a b)
  | .loadC a x => some (.loadC a x) | .isni a x => some (.isni a x)
  | _ => none
def IOper.pure (o : IOper) : Option IOper := (pureOp o.op).map fun p => { o with op := p }
def afterAny (o : Oper) : List Nat := (o.after.toList.filter (Region.binds .any)).map (·.on)
def drawOk (ops : Array Oper) : Bool :=
  (List.range ops.size).all fun i => (List.range ops.size).all fun k =>
    match ops[i]?,ops[k]? with
    | some x,some y =>
      (afterAny x).all (fun j => decide (j < i)) && (i == k || x.dst.isNone || x.dst != y.dst) &&
      (match y.dst with
       | some d => !(x.looksAt ops).contains d || (if k < i then (afterAny x).contains k else k == i || (afterAny y).contains i)
       | none => true)
    | _,_ => false
def treeCall (P : Program) (o : Oper) : Bool :=
  match o.op with
  | .call c => (match c.callee with
    | .value (.func _) => (match P.underlying o.type with | some (.int _) | some .bool | some .string => false | _ => true)
    | _ => false)
  | _ => false
def isCall : IOp → Bool
  | .callF .. => true
  | _ => false
def nopO : IOper := ⟨none,.mv (.c .und),none⟩
def isNop : IOper → Bool
  | ⟨none,.mv (.c .und),none⟩ => true
  | _ => false
def clos (ops : Array Oper) : Nat → List (List Nat)
  | 0 => []
  | n + 1 => clos ops n ++ [match ops[n]? with | some o => ((afterAny o).flatMap fun j => j :: (clos ops n).getD j []).eraseDups | none => []]
def growOp : IOp → Bool
  | .new .. | .box .. | .build .. | .bslice .. | .mkslice .. | .mkmap | .toBytes .. | .isnl .. => true
  | .call .. | .callF .. => false
  | op => (pureOp op).isSome
def needsH : IOp → Bool
  | .load .. | .lookup .. | .lenM _ | .toStr _ => true
  | _ => false
def ptrCall (P : Program) (o : Oper) : Bool :=
  match o.op with
  | .call c => (match c.callee with
    | .value (.func _) => c.argTypes.toList.any fun t => (match P.underlying t with | some (.pointer _) => true | _ => false)
    | _ => false)
  | _ => false
def growAt (m : List IOper) (k : Nat) : Bool := match m[k]? with | some io => growOp io.op | none => false
def safeAt (m : List IOper) (cl : List (List Nat)) (bl : List Bool) (i : Nat) : Bool := (List.range m.length).all fun k => !bl.getD k false || (cl.getD k []).contains i || growAt m k
def ckd (ops : Array Oper) (m : List IOper) (cl : List (List Nat)) (bl : List Bool) (i : Nat) : Option (Option Nat × Nat × Nat) :=
  if bl.getD i false || safeAt m cl bl i then none else
  match ops[i]?,m[i]? with
  | some o,some ⟨some d,.load ag (.t t),none⟩ =>
    if (afterAny o).any (fun j => match m[j]? with | some y => y.dst == some t | none => false) || !(m.any fun y => y.dst == some t) then some (ag,t,d) else none
  | _,_ => none
def ckq (ops : Array Oper) (m : List IOper) (cl : List (List Nat)) (bl : List Bool) (i : Nat) : Bool := (ckd ops m cl bl i).isSome
def aOp (q : Nat → Bool) (m : List IOper) (cl : List (List Nat)) (bl : List Bool) (i : Nat) (op : IOp) : IOp :=
  match op with
  | .load ag x => if safeAt m cl bl i || q i then .load ag x else .loadC ag x
  | op => (pureOp op).getD (.mv (.c .und))
def mixA (ops : Array Oper) (m : List IOper) (cl : List (List Nat)) (bl : List Bool) (i : Nat) : IOper :=
  if bl.getD i false then nopO else
  match m[i]? with
  | some io => { io with op := aOp (ckq ops m cl bl) m cl bl i io.op }
  | none => nopO
def ckList (ops : Array Oper) (m : List IOper) (cl : List (List Nat)) (bl : List Bool) (k : Nat) : List IOper :=
  (List.range m.length).filterMap fun i => if (cl.getD k []).contains i then none else (ckd ops m cl bl i).map fun (ag,t,d) => ⟨none,.chk ag (.t t) (.t d),none⟩
def mixC (ops : Array Oper) (m : List IOper) (cl : List (List Nat)) (bl : List Bool) (i : Nat) : List IOper := if bl.getD i false then m.getD i nopO :: ckList ops m cl bl i else [nopO]
def mixOk (ops : Array Oper) (m : List IOper) (cl : List (List Nat)) (bl : List Bool) : Bool :=
  (List.range ops.size).all fun i =>
    match ops[i]?,m[i]? with
    | some o,some io =>
      (bl.getD i false || ((pureOp io.op).isSome && (afterAny o).all fun j => !bl.getD j false)) &&
      (List.range ops.size).all fun k => i == k || !bl.getD k false || (
        if bl.getD i false then decide (k < i) || (cl.getD k []).contains i
        else (!isCall (aOp (ckq ops m cl bl) m cl bl i io.op) || (cl.getD k []).contains i) && (!needsH (aOp (ckq ops m cl bl) m cl bl i io.op) || (cl.getD k []).contains i || growAt m k || ckq ops m cl bl i))
    | _,_ => false
def mixList (ops : Array Oper) (m : List IOper) (cl : List (List Nat)) (bl : List Bool) : List IOper :=
  ((List.range m.length).map (mixA ops m cl bl) ++ (List.range m.length).flatMap (mixC ops m cl bl)).filter fun o => !isNop o
def effAt (P : Program) (ops : Array Oper) (m : List IOper) (deep : Bool) (j : Nat) : Bool :=
  match ops[j]?,m[j]? with
  | some o,some io => (pureOp io.op).isNone || (deep && (ptrCall P o || treeCall P o))
  | _,_ => false
def mixIR (P : Program) (ops : Array Oper) (m : List IOper) (cl : List (List Nat)) (bl : List Bool) : Option IR :=
  if mixOk ops m cl bl then some (.reg (mixList ops m cl bl)) else none
def mixBl (P : Program) (ops : Array Oper) (m : List IOper) (cl : List (List Nat)) (deep : Bool) : List Bool :=
  (List.range m.length).map fun i => effAt P ops m deep i || (cl.getD i []).any (effAt P ops m deep)
def compPure (P : Program) (n : Nat) (ops : Array Oper) : Option IR :=
  (ops.toList.mapM fun o => (compOper P n ops o).bind IOper.pure).map fun m => if ops.any (treeCall P) then .draw m else .reg m
def compMix (P : Program) (n : Nat) (ops : Array Oper) (deep : Bool) : Option IR :=
  (ops.toList.mapM (compOper P n ops)).bind fun m => mixIR P ops m (clos ops m.length) (mixBl P ops m (clos ops m.length) deep)
def slCall (P : Program) (o : Oper) : Bool :=
  match o.op with
  | .call c => (match c.callee with
    | .value (.func _) => (c.argTypes.toList.any fun t => (match P.underlying t with | some (.slice _) => true | _ => false)) &&
      (match P.underlying o.type with
       | some (.tuple l) => l.toList.all (fun t => match P.underlying t with | some .bool => true | _ => false)
       | some (.slice t) => (match P.underlying t with | some (.int .u8) => true | _ => false)
       | _ => false)
    | _ => false)
  | _ => false
def compDraw0 (P : Program) (n : Nat) (ops : Array Oper) : Option IR :=
  if ops.any (fun o => ptrCall P o || slCall P o) then (compMix P n ops true).or ((compPure P n ops).or (compMix P n ops false))
  else if ops.any (treeCall P) then (compPure P n ops).or ((compMix P n ops true).or (compMix P n ops false))
  else (compPure P n ops).or ((compMix P n ops false).or (compMix P n ops true))
def anyRdy (ops : Array Oper) (d : List Nat) (i : Nat) : Bool := !d.contains i && (match ops[i]? with | some o => (afterAny o).all (fun j => d.contains j) | none => false)
def alts : List IR → IR
  | [] => .skip
  | [x] => x
  | x :: l => .alt x (alts l)
def eagOp : Op → Bool
  | .move _ => true
  | .assign _ => true
  | .extract _ _ => true
  | .fieldAddr .. => true
  | .indexAddr .. => true
  | .nilCheck _ => true
  | .build .. => true
  | .call c => match c.callee with | .builtin .len => true | _ => false
  | _ => false
def eagI : IOp → Bool
  | .lenM _ => false
  | _ => true
def freeAny (ops : Array Oper) (d : List Nat) (i : Nat) : Bool :=
  match ops[i]? with
  | none => false
  | some oi => (List.range ops.size).all fun j => j == i || d.contains j || match ops[j]? with
      | some oj => oj.after.any (fun e => Region.binds .any e && e.on == i) || oi.apart ops oj
      | none => true
def eagAt (ops : Array Oper) (m : List IOper) (d : List Nat) (i : Nat) : Bool :=
  anyRdy ops d i && freeAny ops d i && (match ops[i]?,m[i]? with | some o,some io => eagOp o.op && eagI io.op | _,_ => false)
def anyIR (ops : Array Oper) (m : List IOper) : Nat → List Nat → IR
  | 0,_ => .skip
  | f + 1,d => match (List.range m.length).find? (eagAt ops m d) with
    | some i => .seq (.reg [m.getD i nopO]) (anyIR ops m f (i :: d))
    | none => alts (((List.range m.length).filter (anyRdy ops d)).map fun i => .seq (.reg [m.getD i nopO]) (anyIR ops m f (i :: d)))
def orders (ops : Array Oper) (m : List IOper) : Nat → List Nat → Nat → Nat
  | 0,_,b => b - 1
  | f + 1,d,b =>
    if b = 0 then 0 else
    match (List.range m.length).find? (eagAt ops m d) with
    | some i => orders ops m f (i :: d) b
    | none => ((List.range m.length).filter (anyRdy ops d)).foldl (fun b i => orders ops m f (i :: d) b) b
def sameD (d ds : List Nat) : Bool := d.length == ds.length && (d.all fun i => ds.contains i) && ds.all fun i => d.contains i
def winIR (ops : Array Oper) (m : List IOper) : Nat → List Nat → List Nat → Option IR
  | 0,d,ds => if sameD d ds then some .skip else none
  | f + 1,d,ds => if sameD d ds then some .skip else match (List.range m.length).find? (eagAt ops m d) with
    | some i => (winIR ops m f (i :: d) ds).map fun x => .seq (.reg [m.getD i nopO]) x
    | none => if ((List.range m.length).filter (anyRdy ops d)).isEmpty then none else
      (((List.range m.length).filter (anyRdy ops d)).mapM fun i => (winIR ops m f (i :: d) ds).map fun x => .seq (.reg [m.getD i nopO]) x).map alts
def domin (n : Nat) (cl : List (List Nat)) (d : List Nat) : Option (List Nat) :=
  (((List.range n).filter fun i => !d.contains i).find? fun z => (List.range n).all fun j => j == z || d.contains j || (cl.getD z []).contains j || (cl.getD j []).contains z).map fun z =>
    ((List.range n).filter fun j => !d.contains j && (cl.getD z []).contains j) ++ d
def anyF (ops : Array Oper) (m : List IOper) (cl : List (List Nat)) : Nat → Nat → List Nat → Option IR
  | 0,_,_ => none
  | _ + 1,0,_ => some .skip
  | g + 1,f + 1,d => match (List.range m.length).find? (eagAt ops m d) with
    | some i => (anyF ops m cl g f (i :: d)).map fun x => .seq (.reg [m.getD i nopO]) x
    | none => match (List.range m.length).filter (anyRdy ops d) with
      | [i] => (anyF ops m cl g f (i :: d)).map fun x => .seq (.reg [m.getD i nopO]) x
      | _ => match domin m.length cl d with
        | some ds => if d.length < ds.length && decide (ds.length ≤ f + 1 + d.length) && decide (0 < orders ops m (ds.length - d.length) d 101) then
            (winIR ops m (f + 1) d ds).bind fun w => (anyF ops m cl g (f + 1 + d.length - ds.length) ds).map fun x => .seq w x
          else none
        | none => if decide (0 < orders ops m (f + 1) d 101) then some (anyIR ops m (f + 1) d) else none
def compAll (P : Program) (n : Nat) (ops : Array Oper) : Option IR :=
  if decide (ops.size ≤ 9) || (decide (ops.size ≤ 24) && decide (ops.toList.countP (fun o => !eagOp o.op) ≤ 7)) then
    (ops.toList.mapM (compOper P n ops)).map fun m => (anyF ops m (clos ops m.length) (m.length + 1) m.length []).getD (anyIR ops m m.length [])
  else if decide (ops.size ≤ 60) then (ops.toList.mapM (compOper P n ops)).bind fun m => anyF ops m (clos ops m.length) (m.length + 1) m.length []
  else none
def compDraw (P : Program) (n : Nat) (ops : Array Oper) : Option IR :=
  if ops.any (slCall P) && (compMix P n ops true).isNone then (compAll P n ops).or (compDraw0 P n ops) else (compDraw0 P n ops).or (compAll P n ops)
def comp (P : Program) (n : Nat) : Code → Option IR
  | .skip => some .skip
  | .region _ ops true => if P.follows .mixedOrders && drawOk ops && Region.noSelect ops then compDraw P n ops else none
  | .region _ ops false => do some (.reg (← ops.toList.mapM (compOper P n ops)))
  | .seq a b => do some (.seq (← comp P n a) (← comp P n b))
  | .cond c a b => do some (.cond (← opd c) (← comp P n a) (← comp P n b))
  | .block id b => do some (.block id (← comp P n b))
  | .loop b => do some (.loop (← comp P n b))
  | .exit id => some (.exit id)
  | .ret => some .ret
  | _ => none
section
variable {P : Program} {G : Gh} {H : List AObj} {w : World} {K : AV → List AObj → Nat → Prop} {a : Act} {e : Env} {next : Act → World → Prop} {Q : Exit → Act → World → Prop} {o : Oper}
theorem wp_value {s : Sem Value} (hs : (execOp a.eval o).run P w = (s.run P w).andThen fun v w' => .ok (.value v) w') (hr : Run P s G H w K) (hn : ∀ v w',Good G H w K v w' → next (a.put o.dst v) w') : o.wp P a w next Q := by
  obtain ⟨v,w',h1,h2⟩ := hr
  unfold Oper.wp
  rw [hs,h1]
  exact hn v w' h2
theorem wp_unit {s : Sem Unit} (hs : (execOp a.eval o).run P w = (s.run P w).andThen fun _ w' => .ok .skip w') (hr : ∃ w',s.run P w = .ok () w' ∧ Good G H w K undef w') (hn : ∀ v w',Good G H w K v w' → next (a.put o.dst v) w') : o.wp P a w next Q := by
  obtain ⟨w',h1,h2⟩ := hr
  unfold Oper.wp
  rw [hs,h1]
  exact hn undef w' h2
theorem wp_here {v : Value} (hs : (execOp a.eval o).run P w = .ok (.value v) w) (I : Inv G H w.heap) {av : AV} (k : K av H G.c) (r : Rep G w.heap v av) (hn : ∀ v w',Good G H w K v w' → next (a.put o.dst v) w') : o.wp P a w next Q := by
  unfold Oper.wp
  rw [hs]
  exact hn v w (Good.here I k r)
theorem opds_rep (hE : Tmps G w.heap a e) : ∀ (l : List Operand) (m : List Opd),opds l = some m → Args G w.heap (l.map a.eval).toArray (m.map (ev e)) := by
  intro l
  induction l with
  | nil => intro m h; simp [opds] at h; subst h; exact ⟨rfl,by simp⟩
  | cons x l ih =>
    intro m h
    simp only [opds,List.mapM_cons,Option.bind_eq_bind,Option.bind_eq_some_iff,Option.pure_def,Option.some.injEq] at h
    obtain ⟨y,hy,m',hm',rfl⟩ := h
    obtain ⟨h1,h2⟩ := ih m' hm'
    refine ⟨by simpa using h1,fun j b hj => ?_⟩
    cases j with
    | zero => simp at hj; subst hj; simpa using opd_rep hE hy
    | succ j =>
      have := h2 j b (by simpa using hj)
      simpa [Array.getD] using this
theorem optOpd_rep (hE : Tmps G w.heap a e) {x : Option Operand} {y : Option Opd} (h : optOpd x = some y) : OptRep G w.heap (x.map a.eval) (y.map (ev e)) := by
  cases x with
  | none => simp [optOpd] at h; subst h; exact .none
  | some x =>
    simp only [optOpd,Option.map_eq_some_iff] at h
    obtain ⟨z,hz,rfl⟩ := h
    exact .some (opd_rep hE hz)
theorem kdT_spec {t : TypeId} {d : Nat} (h : kdT P t = some d) : KeyOk P t (keyD d) := by
  unfold kdT at h
  split at h
  · cases h; exact keyOk_prim (by assumption) rfl
  · cases h; exact keyOk_prim (by assumption) rfl
  · cases h; exact keyOk_prim (by assumption) rfl
  · split at h
    · rename_i hk
      cases h; exact keyOk_struct hk
    · cases h
theorem equalIn_snil (n : Nat) {t el : TypeId} (hu : P.underlying t = some (.slice el)) (b : Option Addr) (l c : Nat) : (Op.equalIn (n + 1) t (.slice b l c) (.slice none 0 0)).run P w = .ok b.isNone w := by
  unfold Op.equalIn
  cases b <;> simp only [Sem.run_bind,run_underlying hu,Result.andThen_ok,Sem.run_pure,Option.isNone]
theorem isNil_rep {h : Array Obj} {v : Opd} {y : Value} (hv : isNil v = true) (r : Rep G h y (ev e v)) : y = .slice none 0 0 := by
  unfold isNil at hv
  split at hv
  · cases r; rfl
  · cases hv
theorem isnl_sound (I : Inv G H w.heap) {t : TypeId} (ht : isSlcT P t = true) {op : BinOp} {neg : Bool} (hop : (op = .eql ∧ neg = false) ∨ (op = .neq ∧ neg = true)) {x y : Operand} {u v : Value} {ax : AV}
    (rx : Rep G w.heap u ax) (hv : v = .slice none 0 0) (hk : isnlW neg ax (fun r => K r H G.c)) : Run P (do eqGuard op t x y u v; binOp op t u v) G H w K := by
  subst hv
  obtain ⟨el,hu⟩ := isSlcT_spec ht
  have key : ∀ (b : Option Addr) (l c : Nat),K (.bool (b.isNone != neg)) H G.c → Run P (do eqGuard op t x y (.slice b l c) (.slice none 0 0); binOp op t (.slice b l c) (.slice none 0 0)) G H w K := fun b l c hk => by
    have e1 : ∀ op',(eqGuard op' t x y (.slice b l c) (.slice none 0 0)).run P w = .ok () w := fun op' => eqGuard_scalar op' t x y _ _ (by simp) (by simp)
    have e2 : (Op.equal t (.slice b l c) (.slice none 0 0)).run P w = .ok b.isNone w := equalIn_snil 9999 hu b l c
    rcases hop with ⟨rfl,rfl⟩ | ⟨rfl,rfl⟩
    · exact Run.here I (v := .bool b.isNone) (by simp only [Sem.run_bind,e1,Result.andThen_ok,binOp,e2,Sem.run_pure]) (by simpa using hk) .bool
    · exact Run.here I (v := .bool (!b.isNone)) (by simp only [Sem.run_bind,e1,Result.andThen_ok,binOp,e2,Sem.run_pure]) (by simpa using hk) .bool
  cases rx <;> simp only [isnlW] at hk <;> first
    | exact hk.elim
    | skip
  case nsl => exact key _ _ _ hk
  case slc0 a cap tag wd => cases a with
    | none => exact key _ _ _ hk.1
    | some a => exact key _ _ _ hk.2
  case slc tag wd off cap rows f hF hc hlen hcap hw hcell hcl hrep =>
    cases rows with
    | nil => exact key _ _ _ hk.2
    | cons r rows => exact key _ _ _ hk
  case ref => exact key _ _ _ hk
theorem isNilI_opd {y : Operand} {v : Opd} (hy : opd y = some v) (h : isNilI v = true) : y = .const .nilIface := by
  unfold isNilI at h
  split at h
  · cases y with
    | tmp t => simp [opd] at hy
    | func f => simp [opd] at hy
    | global g => simp [opd] at hy
    | const v =>
      simp only [opd,Option.map_eq_some_iff] at hy
      obtain ⟨b,hb,hb'⟩ := hy
      cases hb'
      unfold constOp at hb
      split at hb
      · simp only [Option.map_eq_some_iff] at hb
        obtain ⟨_,_,hb⟩ := hb
        cases hb
      unfold constAV at hb
      split at hb <;> first
        | (split at hb <;> cases hb; done)
        | (cases hb; done)
        | rfl
  · cases h
theorem isni_sound (I : Inv G H w.heap) {t : TypeId} (ht : isIfcT P t = true) {op : BinOp} {neg : Bool} (hop : (op = .eql ∧ neg = false) ∨ (op = .neq ∧ neg = true)) {x : Operand} {u : Value} {ax : AV}
    (rx : Rep G w.heap u ax) (hk : isniW neg ax (fun r => K r H G.c)) : Run P (do eqGuard op t x (.const .nilIface) u .nilIface; binOp op t u .nilIface) G H w K := by
  have hu : ∃ ms,P.underlying t = some (.interface ms) := by unfold isIfcT at ht; split at ht <;> first | exact ⟨_,by assumption⟩ | cases ht
  obtain ⟨ms,hu⟩ := hu
  cases rx <;> simp only [isniW] at hk <;> first
    | exact hk.elim
    | skip
  case nilI =>
    have e1 : ∀ op',(eqGuard op' t x (.const .nilIface) .nilIface .nilIface).run P w = .ok () w := fun op' => by
      unfold eqGuard
      cases op' <;> simp
    have e2 : (Op.equal t .nilIface .nilIface).run P w = .ok true w := by
      show (Op.equalIn 10000 t .nilIface .nilIface).run P w = _
      unfold Op.equalIn
      simp only [Sem.run_bind,run_underlying hu,Result.andThen_ok,Sem.run_pure]
    rcases hop with ⟨rfl,rfl⟩ | ⟨rfl,rfl⟩
    · exact Run.here I (v := .bool true) (by simp only [Sem.run_bind,e1,Result.andThen_ok,binOp,e2,Sem.run_pure]) (by simpa using hk) .bool
    · exact Run.here I (v := .bool (!true)) (by simp only [Sem.run_bind,e1,Result.andThen_ok,binOp,e2,Sem.run_pure]) (by simpa using hk) .bool
  case ifc te pe =>
    have e1 : ∀ op',(eqGuard op' t x (.const .nilIface) (.iface te pe) .nilIface).run P w = .ok () w := fun op' => by
      unfold eqGuard
      cases op' <;> simp
    have e2 : (Op.equal t (.iface te pe) .nilIface).run P w = .ok false w := by
      show (Op.equalIn 10000 t (.iface te pe) .nilIface).run P w = _
      unfold Op.equalIn
      simp only [Sem.run_bind,run_underlying hu,Result.andThen_ok,Sem.run_pure]
    rcases hop with ⟨rfl,rfl⟩ | ⟨rfl,rfl⟩
    · exact Run.here I (v := .bool false) (by simp only [Sem.run_bind,e1,Result.andThen_ok,binOp,e2,Sem.run_pure]) (by simpa using hk) .bool
    · exact Run.here I (v := .bool (!false)) (by simp only [Sem.run_bind,e1,Result.andThen_ok,binOp,e2,Sem.run_pure]) (by simpa using hk) .bool
theorem bin_op_sound {op : BinOp} {t : TypeId} {x y : Operand} {u v : Opd} {io : IOp} (I : Inv G H w.heap) (hE : Tmps G w.heap a e) (hx : opd x = some u) (hy : opd y = some v) (hc : compBin P op t u v = some io)
    (hk : opW P io e H G.c K) : Run P (do eqGuard op t x y (a.eval x) (a.eval y); binOp op t (a.eval x) (a.eval y)) G H w K := by
  unfold compBin at hc
  split at hc
  · cases hc; exact bin_sound I hE hx hy t hk
  · split at hc
    · cases hc
      rename_i hb
      have ht : P.underlying t = some .bool := by unfold isBoolT at hb; split at hb <;> first | assumption | cases hb
      exact binb_sound I hE hx hy ht hk
    · split at hc
      · rename_i hf
        split at hc <;> cases hc
        · exact beq_sound I hf (.inl ⟨rfl,rfl⟩) (opd_rep hE hx) (opd_rep hE hy) hk
        · exact beq_sound I hf (.inr ⟨rfl,rfl⟩) (opd_rep hE hx) (opd_rep hE hy) hk
      · split at hc
        · rename_i hf
          simp only [Bool.and_eq_true] at hf
          split at hc <;> cases hc
          · exact isnl_sound I hf.1 (.inl ⟨rfl,rfl⟩) (opd_rep hE hx) (isNil_rep hf.2 (opd_rep hE hy)) hk
          · exact isnl_sound I hf.1 (.inr ⟨rfl,rfl⟩) (opd_rep hE hx) (isNil_rep hf.2 (opd_rep hE hy)) hk
        · split at hc
          · rename_i hf
            simp only [Bool.and_eq_true] at hf
            have hyc := isNilI_opd hy hf.2
            subst hyc
            split at hc <;> cases hc
            · exact isni_sound I hf.1 (.inl ⟨rfl,rfl⟩) (opd_rep hE hx) hk
            · exact isni_sound I hf.1 (.inr ⟨rfl,rfl⟩) (opd_rep hE hx) hk
          · cases hc
theorem conv_op_sound {s d : TypeId} {x : Operand} {u : Opd} {io : IOp} (I : Inv G H w.heap) (hE : Tmps G w.heap a e) (hx : opd x = some u) (hc : compConv P s d u = some io) (hk : opW P io e H G.c K) :
    Run P (convert s d (a.eval x)) G H w K := by
  unfold compConv at hc
  split at hc
  · cases hc; exact toInt_sound I (by assumption) (by assumption) (opd_rep hE hx) hk
  · split at hc <;> cases hc
    exact toStr_sound I (by assumption) (by assumption) (by assumption) (opd_rep hE hx) hk
  · split at hc <;> cases hc
    exact toBytes_sound (d := .string) I (by assumption) (by assumption) (by assumption) (opd_rep hE hx) hk
  · cases hc
theorem len_op_sound {t ty : TypeId} {x : Operand} {u : Opd} {io : IOp} (I : Inv G H w.heap) (hE : Tmps G w.heap a e) (hx : opd x = some u) (hc : compLen P t u = some io) (hk : opW P io e H G.c K) :
    Run P (Builtin.len_ #[t] ty #[a.eval x]) G H w K := by
  unfold compLen at hc
  split at hc
  · cases hc; exact lenStr_sound I (by assumption) (opd_rep hE hx) hk
  · split at hc
    · cases hc; exact lenSlc_sound I (by assumption) (opd_rep hE hx) hk
    · split at hc <;> cases hc
      exact lenMap_sound I (by assumption) (opd_rep hE hx) hk
theorem bodyOk_run {f : Nat} (h : bodyOk P f = true) (vs : Array Value) (w : World) : (callFunc f vs).run P w = .ok (.enter f vs) w := by
  unfold bodyOk at h
  split at h
  · rename_i fn hf
    simp only [Bool.and_eq_true,bne_iff_ne,ne_eq] at h
    have h2 : (fn.name == "runtime.NumGoroutine") = false := by simpa using h.2
    have h1 : fn.body.isNone = false := by simpa using h.1
    unfold callFunc
    simp only [Sem.run_bind,run_program,Result.andThen_ok,hf,h2,Bool.false_eq_true,if_false,h1,Sem.run_pure]
  · cases h
theorem wp_enter {f : Nat} {vs : Array Value} {as0 : List AV} (hs : (execOp a.eval o).run P w = .ok (.enter f vs) w) (I : Inv G H w.heap) (ha : Args G w.heap vs as0) (hk : CallW P f as0 H G.c K)
    (hn : ∀ v w',Good G H w K v w' → next (a.put o.dst v) w') : o.wp P a w next Q := by
  unfold Oper.wp
  rw [hs,Oper.upon_enter]
  refine (call_sound I ha hk).mono fun en w' ⟨v,he,hg⟩ => ?_
  subst he
  exact hn v w' hg
theorem call_op_sound {c : Call} {ty : TypeId} {io : IOp} (ho : o.op = .call c) (I : Inv G H w.heap) (hE : Tmps G w.heap a e) (hc : compCall P c ty = some io) (hk : opW P io e H G.c K)
    (hn : ∀ v w',Good G H w K v w' → next (a.put o.dst v) w') : o.wp P a w next Q := by
  obtain ⟨callee,args,argTypes⟩ := c
  unfold compCall at hc
  dsimp only at hc
  split at hc
  · split at hc
    · rename_i x t hx ht
      simp only [Option.bind_eq_bind,Option.bind_eq_some_iff] at hc
      obtain ⟨u,hu,hc⟩ := hc
      have e1 : args = #[x] := by rw [← Array.toList_inj,hx]
      have e2 : argTypes = #[t] := by rw [← Array.toList_inj,ht]
      subst e1; subst e2
      refine wp_value (s := Builtin.len_ #[t] o.type #[a.eval x]) ?_ (len_op_sound I hE hu hc hk) hn
      unfold execOp
      simp only [ho,resolve,Sem.run_bind,Sem.run_pure,Result.andThen_ok,invoke,builtin,List.map_toArray,List.map_cons,List.map_nil]
    · cases hc
  · split at hc
    · rename_i x y t u hx ht
      simp only [Option.bind_eq_bind,Option.bind_eq_some_iff] at hc
      obtain ⟨⟨el,i⟩,hs,z,hz,hc⟩ := hc
      split at hc
      · simp only [Option.bind_eq_some_iff,Option.some.injEq] at hc
        obtain ⟨u1,hu1,u2,hu2,rfl⟩ := hc
        have e1 : args = #[x,y] := by rw [← Array.toList_inj,hx]
        have e2 : argTypes = #[t,u] := by rw [← Array.toList_inj,ht]
        subst e1; subst e2
        rename_i hp
        obtain ⟨d,hd,hdi⟩ : ∃ d,P.underlying u = some d ∧ ∀ k,d ≠ .int k := by
          unfold plainT at hp
          split at hp
          · cases hp
          · cases hp
          · rename_i h1 h2
            cases hq : P.underlying u with
            | none => exact (h2 hq).elim
            | some d => exact ⟨d,rfl,fun k e => h1 k (e ▸ hq)⟩
        refine wp_value (s := Builtin.append_ #[t,u] o.type #[a.eval x,a.eval y]) ?_ (append_sound I hs hz hd hdi (opd_rep hE hu1) (opd_rep hE hu2) hk) hn
        unfold execOp
        simp only [ho,resolve,Sem.run_bind,Sem.run_pure,Result.andThen_ok,invoke,builtin,List.map_toArray,List.map_cons,List.map_nil]
      · cases hc
    · cases hc
  · rename_i f
    simp only [Option.bind_eq_bind,Option.bind_eq_some_iff] at hc
    obtain ⟨as0,has,hc⟩ := hc
    split at hc <;> cases hc
    rename_i hb
    have hrep := opds_rep hE args.toList as0 has
    have em : (args.toList.map a.eval).toArray = args.map a.eval := by apply Array.ext'; simp
    rw [em] at hrep
    refine wp_enter (vs := args.map a.eval) ?_ I hrep hk hn
    unfold execOp
    simp only [ho,resolve,Act.eval,Deferred.ofValue,Sem.run_bind,Sem.run_pure,Result.andThen_ok,invoke]
    rw [bodyOk_run hb]
    simp
  · rename_i t
    simp only [Option.bind_eq_bind,Option.bind_eq_some_iff,Option.some.injEq] at hc
    obtain ⟨as0,has,rfl⟩ := hc
    have hrep := opds_rep hE args.toList as0 has
    have em : (args.toList.map a.eval).toArray = args.map a.eval := by apply Array.ext'; simp
    rw [em] at hrep
    have hf := hE t
    simp only [opW,ev,callvW] at hk
    generalize hv : a.tmps.getD t undef = fv at hf
    generalize e t = et at hf hk
    cases hf <;> simp only at hk <;> first
      | exact hk.elim
      | skip
    rename_i f cs caps hs hr
    obtain ⟨hb,hk⟩ := hk
    refine wp_enter (vs := args.map a.eval ++ cs) ?_ I (as0 := as0.map (ev e) ++ caps) ?_ hk hn
    · unfold execOp
      have hev : a.eval (.tmp t) = .func (.func f) #[] cs := hv
      simp only [ho,resolve,hev,Deferred.ofValue,Sem.run_bind,Sem.run_pure,Result.andThen_ok,invoke]
      rw [bodyOk_run hb]
      simp
    · have h1 : (args.map a.eval).size = (as0.map (ev e)).length := hrep.1
      refine ⟨by simp only [Array.size_append,h1,hs,List.length_append],fun j b hj => ?_⟩
      rw [List.getElem?_append] at hj
      split at hj
      · rename_i hl
        have h2 := hrep.2 j b hj
        have e1 : (args.map a.eval ++ cs).getD j undef = (args.map a.eval).getD j undef := getD_of (by rw [Array.getElem?_append_left (by omega)]; exact of_getD (by omega))
        rw [e1]; exact h2
      · rename_i hl
        have h2 := hr _ b hj
        have hjl := (List.getElem?_eq_some_iff.1 hj).1
        have e1 : (args.map a.eval ++ cs).getD j undef = cs.getD (j - (as0.map (ev e)).length) undef := getD_of (by rw [Array.getElem?_append_right (by omega),h1]; exact of_getD (by omega))
        rw [e1]; exact h2
  · cases hc
theorem build_parts {t : TypeId} (hE : Tmps G w.heap a e) : ∀ (l : List (Nat × Operand)) (ps : List (Nat × Nat × Opd)),l.mapM (fun (p : Nat × Operand) => do let (o,n) ← placeOf P t p.1; some (o,n,← opd p.2)) = some ps →
    F2 (fun p q => placeOf P t p.1 = some (q.1,q.2.1) ∧ Rep G w.heap p.2 q.2.2) (l.map fun (i,x) => (i,a.eval x)) (ps.map fun (o,n,x) => (o,n,ev e x)) := by
  intro l
  induction l with
  | nil => intro ps h; simp at h; subst h; exact .nil
  | cons p l ih =>
    intro ps h
    simp only [List.mapM_cons,Option.bind_eq_bind,Option.bind_eq_some_iff,Option.pure_def,Option.some.injEq] at h
    obtain ⟨q,⟨⟨o,n⟩,hp,y,hy,rfl⟩,qs,hqs,rfl⟩ := h
    exact .cons ⟨hp,opd_rep hE hy⟩ (ih qs hqs)
theorem bslice_parts (hE : Tmps G w.heap a e) : ∀ (l : List (Nat × Operand)) (ps : List (Nat × Opd)),l.mapM (fun (p : Nat × Operand) => do some (p.1,← opd p.2)) = some ps →
    F2 (fun p q => p.1 = q.1 ∧ Rep G w.heap p.2 q.2) (l.map fun (i,x) => (i,a.eval x)) (ps.map fun (i,x) => (i,ev e x)) := by
  intro l
  induction l with
  | nil => intro ps h; simp at h; subst h; exact .nil
  | cons p l ih =>
    intro ps h
    simp only [List.mapM_cons,Option.bind_eq_bind,Option.bind_eq_some_iff,Option.pure_def,Option.some.injEq] at h
    obtain ⟨q,⟨y,hy,rfl⟩,qs,hqs,rfl⟩ := h
    exact .cons ⟨rfl,opd_rep hE hy⟩ (ih qs hqs)
theorem op_sound {op : Op} {io : IOp} (ho : o.op = op) (hc : compOp P op o.type = some io) (I : Inv G H w.heap) (hE : Tmps G w.heap a e) (hk : opW P io e H G.c K)
    (hn : ∀ v w',Good G H w K v w' → next (a.put o.dst v) w') : o.wp P a w next Q := by
  cases op <;> simp only [compOp,Option.bind_eq_bind,Option.bind_eq_some_iff,Option.some.injEq] at hc
  case move x =>
    obtain ⟨u,hu,rfl⟩ := hc
    exact wp_here (by unfold execOp; simp only [ho]; rfl) I hk (opd_rep hE hu) hn
  case assign x =>
    obtain ⟨u,hu,rfl⟩ := hc
    exact wp_here (by unfold execOp; simp only [ho]; rfl) I hk (opd_rep hE hu) hn
  case pick c x y =>
    obtain ⟨u,hu,v,hv,z,hz,rfl⟩ := hc
    simp only [opW] at hk
    have rc := opd_rep hE hu
    generalize ev e u = au at hk rc
    generalize hcv : a.eval c = cv at rc
    cases rc <;> simp only [pickW] at hk <;> first
      | exact hk.elim
      | skip
    rename_i b
    cases b with
    | true => exact wp_here (by unfold execOp; simp only [ho,hcv,asBool,Sem.run_bind,Sem.run_pure,Result.andThen_ok,if_true]) I (hk.1 rfl) (opd_rep hE hv) hn
    | false => exact wp_here (by unfold execOp; simp only [ho,hcv,asBool,Sem.run_bind,Sem.run_pure,Result.andThen_ok,Bool.false_eq_true,if_false]) I (hk.2 rfl) (opd_rep hE hz) hn
  case alloc t =>
    obtain ⟨z,hz,rfl⟩ := hc
    exact wp_value (s := Instr.alloc t true (.tuple #[])) (by unfold execOp; simp only [ho,Sem.run_bind,Sem.run_pure]) (new_sound I hz hk) hn
  case box t x =>
    obtain ⟨n,hn',u,hu,rfl⟩ := hc
    exact wp_value (s := Instr.box t (a.eval x)) (by unfold execOp; simp only [ho,Sem.run_bind,Sem.run_pure]) (box_sound I (opd_rep hE hu) hk) hn
  case build t ps =>
    obtain ⟨z,hz,hc⟩ := hc
    split at hc
    · simp only [Option.bind_eq_some_iff,Option.some.injEq] at hc
      obtain ⟨qs,hqs,rfl⟩ := hc
      have hk' : fillW z (qs.map fun ((o,n,x) : Nat × Nat × Opd) => (o,n,ev e x)) (fun l => K (.agg l) H G.c) := hk
      refine wp_value (s := Instr.build t (ps.map fun (i,x) => (i,a.eval x))) (by unfold execOp; simp only [ho,Sem.run_bind,Sem.run_pure]) (build_sound (K := K) I hz (by assumption) ?_ hk') hn
      rw [Array.toList_map]
      exact build_parts hE ps.toList qs hqs
    · cases hc
  case buildSlice t n ps =>
    obtain ⟨⟨el,i⟩,hs,z,hz,hc⟩ := hc
    split at hc
    · rename_i hlim
      simp only [Option.bind_eq_some_iff,Option.some.injEq] at hc
      obtain ⟨qs,hqs,rfl⟩ := hc
      have hk' : bsliceW i.size z n (qs.map fun ((i,x) : Nat × Opd) => (i,ev e x)) H G.c K := hk
      refine wp_value (s := Instr.buildSlice t n (ps.map fun (i,x) => (i,a.eval x))) (by unfold execOp; simp only [ho,Sem.run_bind,Sem.run_pure]) (bslice_sound (K := K) I hs hz hlim.1 (by have := hlim.2; unfold mx; omega) ?_ hk') hn
      rw [Array.toList_map]
      exact bslice_parts hE ps.toList qs hqs
    · cases hc
  case load t x =>
    obtain ⟨ag,hag,u,hu,rfl⟩ := hc
    exact wp_value (s := Instr.loadAt t (a.eval x)) (by unfold execOp; simp only [ho,Sem.run_bind,Sem.run_pure]) (load_sound I hag (opd_rep hE hu) hk) hn
  case store t x y =>
    obtain ⟨n,hn',u,hu,v,hv,rfl⟩ := hc
    exact wp_unit (s := Instr.storeAt t (a.eval x) (a.eval y)) (by unfold execOp; simp only [ho,Sem.run_bind,Sem.run_pure]) (store_sound I hn' (opd_rep hE hu) (opd_rep hE hv) hk) hn
  case nilCheck x =>
    obtain ⟨u,hu,rfl⟩ := hc
    simp only [opW] at hk
    have rx := opd_rep hE hu
    generalize ev e u = au at hk rx
    generalize hv : a.eval x = v at rx
    have key : (execOp a.eval o).run P w = .ok (.value v) w := by
      unfold execOp
      simp only [ho,hv]
      cases rx <;> simp only [nilckW] at hk <;> first
        | exact hk.elim
        | rfl
    have hk' : K au H G.c := by cases rx <;> simp only [nilckW] at hk <;> first | exact hk.elim | exact hk
    exact wp_here key I hk' rx hn
  case binOp op t x y yt =>
    obtain ⟨u,hu,v,hv,hc⟩ := hc
    exact wp_value (s := do eqGuard op t x y (a.eval x) (a.eval y); binOp op t (a.eval x) (a.eval y)) (by unfold execOp; simp only [ho,Sem.run_bind,Sem.run_pure]) (bin_op_sound I hE hu hv hc hk) hn
  case unOp op t x =>
    obtain ⟨u,hu,rfl⟩ := hc
    exact wp_value (s := Op.unary op (a.eval x)) (by unfold execOp; simp only [ho,Sem.run_bind,Sem.run_pure]) (un_sound I (opd_rep hE hu) hk) hn
  case convert s d x =>
    obtain ⟨u,hu,hc⟩ := hc
    exact wp_value (s := convert s d (a.eval x)) (by unfold execOp; simp only [ho,Sem.run_bind,Sem.run_pure]) (conv_op_sound I hE hu hc hk) hn
  case makeFunc fn first caps =>
    cases fn <;> simp only at hc <;> first
      | (cases hc; done)
      | skip
    split at hc
    · rename_i f hf
      simp only [Option.bind_eq_some_iff,Option.some.injEq] at hc
      obtain ⟨us,hus,rfl⟩ := hc
      have hrep := opds_rep hE caps.toList us hus
      have em : (caps.toList.map a.eval).toArray = caps.map a.eval := by apply Array.ext'; simp
      rw [em] at hrep
      have h0 : first = #[] := by simpa using hf
      subst h0
      exact wp_here (v := .func (.func f) #[] (caps.map a.eval)) (by unfold execOp; simp only [ho,Instr.makeFunc,Sem.run_bind,Sem.run_pure,Result.andThen_ok,Array.map_empty]) I hk (.fn hrep.1 hrep.2) hn
    · cases hc
  case makeMap t r =>
    cases r with
    | some x => cases hc
    | none =>
      cases hc
      exact wp_value (s := Instr.makeMap t none) (by unfold execOp; simp only [ho,Sem.run_bind,Sem.run_pure]; rfl) (mkmap_sound I hk) hn
  case makeSlice t l c =>
    obtain ⟨⟨el,i⟩,hs,z,hz,u,hu,v,hv,rfl⟩ := hc
    exact wp_value (s := Instr.makeSlice t (a.eval l) (a.eval c)) (by unfold execOp; simp only [ho,Sem.run_bind,Sem.run_pure]) (mkslice_sound I hs hz (opd_rep hE hu) (opd_rep hE hv) hk) hn
  case slice t x lo hi m =>
    cases m with
    | some m =>
      cases lo with
      | some lo => cases hi <;> cases hc
      | none =>
        cases hi with
        | none => cases hc
        | some hi =>
          simp only [Option.bind_eq_bind,Option.bind_eq_some_iff,Option.some.injEq] at hc
          obtain ⟨⟨el,i⟩,hs,u,hu,l,hl,h,hh,rfl⟩ := hc
          exact wp_value (s := Instr.sliceAt t (a.eval x) none (some (a.eval hi)) (some (a.eval m))) (by unfold execOp; simp only [ho,Sem.run_bind,Sem.run_pure]; rfl)
            (slice3_sound I hs (opd_rep hE hu) (opd_rep hE hl) (opd_rep hE hh) hk) hn
    | none =>
      simp only at hc
      split at hc
      · rename_i hstr
        simp only [Option.bind_eq_some_iff,Option.some.injEq] at hc
        obtain ⟨u,hu,l,hl,h,hh,rfl⟩ := hc
        exact wp_value (s := Instr.sliceAt t (a.eval x) (lo.map a.eval) (hi.map a.eval) none) (by unfold execOp; simp only [ho,Sem.run_bind,Sem.run_pure]; rfl)
          (strSlice_sound I (isStrT_spec hstr) (opd_rep hE hu) (optOpd_rep hE hl) (optOpd_rep hE hh) hk) hn
      · simp only [Option.bind_eq_some_iff,Option.some.injEq] at hc
        obtain ⟨⟨el,i⟩,hs,u,hu,l,hl,h,hh,rfl⟩ := hc
        exact wp_value (s := Instr.sliceAt t (a.eval x) (lo.map a.eval) (hi.map a.eval) none) (by unfold execOp; simp only [ho,Sem.run_bind,Sem.run_pure]; rfl)
          (slcSlice_sound I hs (opd_rep hE hu) (optOpd_rep hE hl) (optOpd_rep hE hh) hk) hn
  case fieldAddr t x f =>
    obtain ⟨⟨off,ft⟩,hf,u,hu,rfl⟩ := hc
    exact wp_value (s := Instr.fieldAt t (a.eval x) f) (by unfold execOp; simp only [ho,Sem.run_bind,Sem.run_pure]) (faddr_sound I hf (opd_rep hE hu) hk) hn
  case field t x f =>
    obtain ⟨⟨off,ft⟩,hf,ag,hag,u,hu,rfl⟩ := hc
    exact wp_value (s := Instr.field t (a.eval x) f) (by unfold execOp; simp only [ho,Sem.run_bind,Sem.run_pure]) (field_sound I hf hag (opd_rep hE hu) hk) hn
  case indexAddr t x i =>
    obtain ⟨⟨el,j⟩,hs,u,hu,v,hv,rfl⟩ := hc
    exact wp_value (s := Instr.indexAt t (a.eval x) (a.eval i)) (by unfold execOp; simp only [ho,Sem.run_bind,Sem.run_pure]) (iaddr_sound I hs (opd_rep hE hu) (opd_rep hE hv) hk) hn
  case index t x i =>
    split at hc
    · rename_i hs
      simp only [Option.bind_eq_some_iff,Option.some.injEq] at hc
      obtain ⟨u,hu,v,hv,rfl⟩ := hc
      exact wp_value (s := Instr.index t (a.eval x) (a.eval i)) (by unfold execOp; simp only [ho,Sem.run_bind,Sem.run_pure]) (index_sound I (isStrT_spec hs) (opd_rep hE hu) (opd_rep hE hv) hk) hn
    · cases hc
  case lookup t m k ok =>
    split at hc
    · rename_i kt et ht
      simp only [Option.bind_eq_some_iff,Option.some.injEq] at hc
      obtain ⟨d,hd,z,hz,u,hu,v,hv,rfl⟩ := hc
      have hd1 := kdT_spec hd
      exact wp_value (s := Instr.lookup t (a.eval m) (a.eval k) ok) (by unfold execOp; simp only [ho,Sem.run_bind,Sem.run_pure]) (lookup_sound I ht hd1 hz (opd_rep hE hu) (opd_rep hE hv) hk) hn
    · cases hc
  case mapUpdate t m k x =>
    split at hc
    · rename_i kt et ht
      simp only [Option.bind_eq_some_iff,Option.some.injEq] at hc
      obtain ⟨d,hd,u,hu,v,hv,z,hz,rfl⟩ := hc
      have hd1 := kdT_spec hd
      exact wp_unit (s := Instr.mapUpdate t (a.eval m) (a.eval k) (a.eval x)) (by unfold execOp; simp only [ho,Sem.run_bind,Sem.run_pure]) (mupd_sound I ht hd1 (opd_rep hE hu) (opd_rep hE hv) (opd_rep hE hz) hk) hn
    · cases hc
  case extract x i =>
    obtain ⟨u,hu,rfl⟩ := hc
    exact wp_value (s := Instr.extract (a.eval x) i) (by unfold execOp; simp only [ho,Sem.run_bind,Sem.run_pure]) (extract_sound I (opd_rep hE hu) hk) hn
  case call c => exact call_op_sound ho I hE hc hk hn
  all_goals (first | (cases hc; done) | skip)
end
section
variable {P : Program} {H : List AObj} {c : Nat} {e e' : Env}
def IOp.uses : IOp → List Opd
  | .mv x | .load _ x | .loadC _ x | .nilck x | .un _ x | .toInt _ x | .toStr x | .faddr _ x | .field _ _ x | .lenS x | .lenL x | .lenM x | .extract x _ | .isni _ x => [x]
  | .pick a b c => [a,b,c]
  | .bin _ x y | .binb _ x y | .beq _ _ x y | .iaddr _ x y | .index x y | .lookup _ _ _ x y => [x,y]
  | .mkfn _ l | .callF _ l => l
  | .sliceS x lo hi | .slice _ x lo hi => x :: (lo.toList ++ hi.toList)
  | _ => []
theorem map_ev {l : List Opd} (h : ∀ x,x ∈ l → ev e x = ev e' x) : l.map (ev e) = l.map (ev e') := List.map_congr_left h
theorem opt_ev {l : Option Opd} (h : ∀ x,x ∈ l.toList → ev e x = ev e' x) : l.map (ev e) = l.map (ev e') := by cases l <;> simp at h ⊢; exact h
theorem opW_congr {op op' : IOp} (hp : pureOp op = some op') (h : ∀ x,x ∈ op'.uses → ev e x = ev e' x) (K : AV → List AObj → Nat → Prop) : opW P op' e H c K = opW P op' e' H c K := by
  cases op <;> simp only [pureOp] at hp <;> first
    | (cases hp; done)
    | skip
  all_goals cases hp
  all_goals simp only [IOp.uses,List.mem_cons,List.not_mem_nil,or_false,List.mem_append,forall_eq_or_imp,forall_eq] at h
  all_goals simp only [opW]
  all_goals first
    | rw [h]
    | (obtain ⟨h1,h2⟩ := h; rw [h1,h2]; done)
    | (obtain ⟨h1,h2,h3⟩ := h; rw [h1,h2,h3]; done)
    | (rw [map_ev h]; done)
    | (obtain ⟨h1,h2⟩ := h; rw [h1,opt_ev fun x hx => h2 x (.inl hx),opt_ev fun x hx => h2 x (.inr hx)])
def Det (W : (AV → Prop) → Prop) : Prop := ∀ K,W K → ∃ v,∀ K',W K' ↔ K' v
theorem det_id (v : AV) : Det fun K => K v := fun K k => ⟨v,fun _ => Iff.rfl⟩
theorem det_get (l : List AV) (i : Nat) : Det fun K => getW l i K := fun K ⟨x,hx,k⟩ => ⟨x,fun K' => ⟨fun ⟨y,hy,k⟩ => by rw [hx] at hy; cases hy; exact k,fun h => ⟨x,hx,h⟩⟩⟩
theorem det_and {p : Prop} {W : (AV → Prop) → Prop} (d : Det W) : Det fun K => p ∧ W K := fun K ⟨hp,k⟩ => let ⟨v,h⟩ := d K k; ⟨v,fun K' => ⟨fun h' => (h K').1 h'.2,fun h' => ⟨hp,(h K').2 h'⟩⟩⟩
theorem det_getW {α : Type} (l : List α) (i : Nat) {W : α → (AV → Prop) → Prop} (d : ∀ x,Det (W x)) : Det fun K => getW l i fun x => W x K := fun K ⟨x,hx,k⟩ =>
  let ⟨v,h⟩ := d x K k; ⟨v,fun K' => ⟨fun ⟨y,hy,k⟩ => by rw [hx] at hy; cases hy; exact (h K').1 k,fun h' => ⟨x,hx,(h K').2 h'⟩⟩⟩
theorem det_false : Det fun _ => False := fun _ h => h.elim
theorem det_row (ag : Option Nat) (row : List AV) (o : Nat) : Det (rowW ag row o) := by
  cases ag with
  | none => exact det_get row o
  | some n => exact det_and (det_id _)
theorem det_load (ag : Option Nat) (x : AV) : Det (loadW ag x H) := by
  cases x <;> first
    | exact det_false
    | exact det_row _ _ _
    | exact det_getW _ _ fun ob => det_and (det_and (det_and (det_getW _ _ fun row => det_row _ _ _)))
theorem det_loadC (ag : Option Nat) (x : AV) : Det (loadCW ag x) := by
  cases x <;> first
    | exact det_false
    | exact det_row _ _ _
theorem det_faddr (off : Nat) (x : AV) : Det (faddrW off x) := by cases x <;> first | exact det_false | exact det_id _
theorem det_iaddr (w : Nat) (x i : AV) : Det (iaddrW w x i) := by
  cases i <;> cases x <;> first
    | exact det_false
    | exact det_and (det_and (det_getW _ _ fun row => det_id _))
    | exact det_and (det_and (det_and (det_id _)))
theorem det_nilck (x : AV) : Det (nilckW x) := by cases x <;> first | exact det_false | exact det_id _
theorem det_pick (c a b : AV) : Det (pickW c a b) := by
  cases c <;> first
    | exact det_false
    | skip
  rename_i t
  cases t with
  | true => exact fun K k => ⟨a,fun K' => ⟨fun h => h.1 rfl,fun h => ⟨fun _ => h,fun h => by cases h⟩⟩⟩
  | false => exact fun K k => ⟨b,fun K' => ⟨fun h => h.2 rfl,fun h => ⟨fun h => (by cases h),fun _ => h⟩⟩⟩
theorem det_int (op : BinOp) (k : IntKind) (a b : Int) : Det (intW op k a b) := by
  cases op <;> first
    | exact det_false
    | exact det_id _
    | exact det_and (det_id _)
theorem det_str (op : BinOp) (a b : List UInt8) : Det (strW op a b) := by
  cases op <;> first
    | exact det_false
    | exact det_id _
    | exact det_and (det_id _)
theorem det_bin (op : BinOp) (x y : AV) : Det (binW op x y) := by
  cases x <;> cases y <;> first
    | exact det_false
    | exact det_str _ _ _
    | (cases op <;> first
        | exact det_and (det_id _)
        | exact det_and (det_int _ _ _ _))
theorem det_binb (op : BinOp) (x y : AV) : Det (binbW op x y) := by
  cases x <;> cases y <;> first
    | exact det_false
    | (cases op <;> first
        | exact det_id _
        | exact det_false)
theorem det_beq (n : Bool) (ks : List Nat) (x y : AV) : Det (beqW' n ks x y) := by
  cases x <;> cases y <;> first
    | exact det_false
    | skip
  rename_i xs ys
  refine det_and ?_
  cases eqCells xs ys with
  | none => exact det_false
  | some b => exact det_id _
theorem det_un (op : UnOp) (x : AV) : Det (unW op x) := by
  cases op <;> cases x <;> first
    | exact det_false
    | exact det_id _
theorem det_toInt (k : IntKind) (x : AV) : Det (toIntW k x) := by cases x <;> first | exact det_false | exact det_id _
theorem det_bnd (x : Option AV) (d : Nat) {W : Nat → (AV → Prop) → Prop} (h : ∀ n,Det (W n)) : Det fun K => bndW x d fun n => W n K := by
  cases x with
  | none => exact h d
  | some a => cases a <;> first
    | exact det_false
    | exact det_and (h _)
theorem det_sliceS (x : AV) (lo hi : Option AV) : Det (strSliceW x lo hi) := by
  cases x <;> first
    | exact det_false
    | skip
  rename_i s
  show Det fun K => bndW lo 0 fun a => bndW hi s.length fun b => a ≤ b ∧ b ≤ s.length ∧ K (.str ((s.take b).drop a))
  exact det_bnd lo 0 fun a => det_bnd hi s.length fun b => det_and (det_and (det_id _))
theorem det_slice (w : Nat) (x : AV) (lo hi : Option AV) : Det (slcSliceW w x lo hi) := by
  cases x <;> first
    | exact det_false
    | skip
  · rename_i t w' rows
    show Det fun K => w' = w ∧ bndW lo 0 fun a => bndW hi rows.length fun b => a ≤ b ∧ b ≤ rows.length ∧ K (.slc t w' ((rows.take b).drop a))
    exact det_and (det_bnd lo 0 fun a => det_bnd hi rows.length fun b => det_and (det_and (det_id _)))
  · rename_i i t w' l
    show Det fun K => w' = w ∧ bndW lo 0 fun a => bndW hi l fun b => if a = 0 then b ≤ l ∧ K (.ref i t w' b) else a ≤ b ∧ b ≤ l ∧ K (.sub i t w' a (b - a))
    refine det_and (det_bnd lo 0 fun a => det_bnd hi l fun b => ?_)
    by_cases ha : a = 0
    · simp only [if_pos ha]; exact det_and (det_id _)
    · simp only [if_neg ha]; exact det_and (det_and (det_id _))
theorem det_field (o : Nat) (ag : Option Nat) (x : AV) : Det (fieldW o ag x) := by cases x <;> first | exact det_false | exact det_row _ _ _
theorem det_index (x i : AV) : Det (indexW x i) := by
  cases x <;> first
    | exact det_false
    | skip
  cases i <;> first
    | exact det_false
    | exact det_and (det_getW _ _ fun b => det_id _)
theorem det_lookup (d : TypeDesc) (z : AV) (ok : Bool) (m k : AV) : Det (lookupW d z ok m k H) := by
  cases m <;> first
    | exact det_false
    | skip
  refine det_and (det_getW _ _ fun ob => det_and (det_and ?_))
  cases mfind k ob.rows 0 with
  | none => exact det_false
  | some r => cases r <;> exact det_id _
theorem det_lenS (x : AV) : Det (lenStrW x) := by cases x <;> first | exact det_false | exact det_id _
theorem det_lenL (x : AV) : Det (lenSlcW x) := by cases x <;> first | exact det_false | exact det_id _
theorem det_lenM (x : AV) : Det (lenMapW x H) := by
  cases x <;> first
    | exact det_false
    | exact det_getW _ _ fun ob => det_and (det_and (det_id _))
theorem det_extract (x : AV) (i : Nat) : Det (extractW x i) := by cases x <;> first | exact det_false | exact det_get _ _
theorem det_isni (n : Bool) (x : AV) : Det (isniW n x) := by cases x <;> first | exact det_false | exact det_id _
theorem det_src (w : Nat) (y : AV) {W : List (List AV) → (AV → Prop) → Prop} (h : ∀ r,Det (W r)) : Det fun K => srcW w y H fun r => W r K := by
  cases y <;> first
    | exact det_false
    | exact h _
    | exact det_and (h _)
    | exact det_and (det_getW _ _ fun ob => det_and (det_and (det_and (det_and (h _)))))
theorem map_byteRow_inj {l l' : List UInt8} (h : l.map byteRow = l'.map byteRow) : l = l' := by
  refine (List.map_inj_right fun a b h => ?_).1 h
  simp [byteRow] at h
  exact UInt8.toNat_inj.1 (by omega)
theorem det_toStr (x : AV) : Det (toStrW x H) := by
  have key : Det fun K => srcW 1 x H fun rows => ∃ l : List UInt8,rows = l.map byteRow ∧ l.length ≤ mx ∧ K (.str l) :=
    det_src 1 x fun r K ⟨l,h1,h2,k⟩ => ⟨.str l,fun K' => ⟨fun ⟨l',h1',_,k'⟩ => by rw [map_byteRow_inj (h1.symm.trans h1')]; exact k',fun h => ⟨l,h1,h2,h⟩⟩⟩
  cases x <;> first
    | exact det_false
    | exact key
def Gives (P : Program) (op : IOp) (e : Env) (H : List AObj) (v : AV) : Prop := ∀ c',opW P op e H c' fun r H' c'' => r = v ∧ H' = H ∧ c' ≤ c'' ∧ (isCall op = false → c'' = c')
theorem gives_of {op : IOp} {W : (AV → Prop) → Prop} (d : Det W) (hw : ∀ c (K : AV → List AObj → Nat → Prop),opW P op e H c K = W fun v => K v H c) (hc : isCall op = false) {K : AV → List AObj → Nat → Prop} (hk : opW P op e H c K) :
    ∃ v,Gives P op e H v ∧ ((isCall op = false ∧ ∀ c' K',opW P op e H c' K' → K' v H c') ∨ (isCall op = true ∧ ∀ c',c ≤ c' → K v H c')) := by
  rw [hw] at hk
  obtain ⟨v,h⟩ := d _ hk
  refine ⟨v,fun c' => ?_,.inl ⟨hc,fun c' K' h' => ?_⟩⟩
  · rw [hw]
    exact (h _).2 ⟨rfl,rfl,Nat.le_refl _,fun _ => rfl⟩
  · rw [hw] at h'
    exact (h _).1 h'
theorem opW_det {op op' : IOp} (hp : pureOp op = some op') {K : AV → List AObj → Nat → Prop} (hk : opW P op' e H c K) :
    ∃ v,Gives P op' e H v ∧ ((isCall op' = false ∧ ∀ c' K',opW P op' e H c' K' → K' v H c') ∨ (isCall op' = true ∧ ∀ c',c ≤ c' → K v H c')) := by
  cases op <;> simp only [pureOp] at hp <;> first
    | (cases hp; done)
    | skip
  all_goals cases hp
  case call f as0 =>
    obtain ⟨as',res,h1,h2,h3,h4⟩ := hk
    exact ⟨res,fun c' => ⟨as',res,h1,h2,h3,fun c'' h => ⟨rfl,rfl,h,fun h => by cases h⟩⟩,.inr ⟨rfl,h4⟩⟩
  case mv => exact gives_of (det_id _) (fun _ _ => rfl) rfl hk
  case pick => exact gives_of (det_pick _ _ _) (fun _ _ => rfl) rfl hk
  case load => exact gives_of (det_load _ _) (fun _ _ => rfl) rfl hk
  case loadC => exact gives_of (det_loadC _ _) (fun _ _ => rfl) rfl hk
  case nilck => exact gives_of (det_nilck _) (fun _ _ => rfl) rfl hk
  case isni => exact gives_of (det_isni _ _) (fun _ _ => rfl) rfl hk
  case bin => exact gives_of (det_bin _ _ _) (fun _ _ => rfl) rfl hk
  case binb => exact gives_of (det_binb _ _ _) (fun _ _ => rfl) rfl hk
  case beq => exact gives_of (det_beq _ _ _ _) (fun _ _ => rfl) rfl hk
  case un => exact gives_of (det_un _ _) (fun _ _ => rfl) rfl hk
  case toInt => exact gives_of (det_toInt _ _) (fun _ _ => rfl) rfl hk
  case toStr => exact gives_of (det_toStr _) (fun _ _ => rfl) rfl hk
  case mkfn => exact gives_of (det_id _) (fun _ _ => rfl) rfl hk
  case sliceS => exact gives_of (det_sliceS _ _ _) (fun _ _ => rfl) rfl hk
  case slice => exact gives_of (det_slice _ _ _ _) (fun _ _ => rfl) rfl hk
  case faddr => exact gives_of (det_faddr _ _) (fun _ _ => rfl) rfl hk
  case field => exact gives_of (det_field _ _ _) (fun _ _ => rfl) rfl hk
  case iaddr => exact gives_of (det_iaddr _ _ _) (fun _ _ => rfl) rfl hk
  case index => exact gives_of (det_index _ _) (fun _ _ => rfl) rfl hk
  case lookup => exact gives_of (det_lookup _ _ _ _ _) (fun _ _ => rfl) rfl hk
  case lenS => exact gives_of (det_lenS _) (fun _ _ => rfl) rfl hk
  case lenL => exact gives_of (det_lenL _) (fun _ _ => rfl) rfl hk
  case lenM => exact gives_of (det_lenM _) (fun _ _ => rfl) rfl hk
  case extract => exact gives_of (det_extract _ _) (fun _ _ => rfl) rfl hk
end
section
variable {P : Program} {G0 : Gh} {H0 : List AObj} {w0 : World} {n : Nat}
def St (G0 : Gh) (H0 : List AObj) (w0 : World) (n : Nat) (e : Env) (H : List AObj) (c : Nat) (a : Act) (w : World) : Prop :=
  ∃ G,G.c = c ∧ a.defers = [] ∧ a.tmps.size = n ∧ Tmps G w.heap a e ∧ Inv G H w.heap ∧ Ext G0 H0 w0 G H w
theorem tags_lt {G : Gh} {H : List AObj} {h : Array Obj} (I : Inv G H h) : ∀ t,t ∈ tags H → t < G.c := fun t ht => I.lt ht
theorem Tmps.put {G : Gh} {h : Array Obj} {a : Act} {e : Env} (hE : Tmps G h a e) {d : Option Nat} (hd : ∀ i,d = some i → i < a.tmps.size) {v : Value} {av : AV} (r : Rep G h v av) : Tmps G h (a.put d v) (put e d av) := by
  cases d with
  | none => exact hE
  | some d =>
    intro t
    have hl := hd d rfl
    by_cases ht : t = d
    · subst ht
      have : ((a.put (some t) v).tmps).getD t undef = v := getD_of (by simp [Act.put,hl])
      rw [this]; show Rep G h v (upd e t av t); rw [upd_same]; exact r
    · have : ((a.put (some d) v).tmps).getD t undef = a.tmps.getD t undef := by
        simp [Act.put,Array.getElem?_setIfInBounds_ne (Ne.symm ht)]
      rw [this]; show Rep G h _ (upd e d av t); rw [upd_ne _ _ _ ht]; exact hE t
theorem put_size (a : Act) (d : Option Nat) (v : Value) : (a.put d v).tmps.size = a.tmps.size := by cases d <;> simp [Act.put]
theorem put_defers (a : Act) (d : Option Nat) (v : Value) : (a.put d v).defers = a.defers := by cases d <;> rfl
theorem St.step {e : Env} {H : List AObj} {a : Act} {w : World} {G : Gh} (h1 : a.defers = []) (h2 : a.tmps.size = n) (h3 : Tmps G w.heap a e) (I : Inv G H w.heap) (x : Ext G0 H0 w0 G H w) (hH0 : ∀ t,t ∈ tags H0 → t < G0.c)
    {d : Option Nat} (hd : ∀ i,d = some i → i < n) {v : Value} {av : AV} {H' : List AObj} {G' : Gh} {w' : World} (x' : Ext G H w G' H' w') (I' : Inv G' H' w'.heap) (r : Rep G' w'.heap v av) :
    St G0 H0 w0 n (put e d av) H' G'.c (a.put d v) w' :=
  ⟨G',rfl,by rw [put_defers,h1],by rw [put_size,h2],Tmps.put (fun t => (h3 t).ext x'.x) (h2 ▸ hd) r,I',x.trans hH0 (tags_lt I) x'⟩
def Lift (G0 : Gh) (H0 : List AObj) (w0 : World) (n : Nat) (Q : Post) : Exit → Act → World → Prop := fun ex a w => ∃ e H c,Q ex e H c ∧ St G0 H0 w0 n e H c a w
theorem compOper_spec {ops : Array Oper} {o : Oper} {io : IOper} (h : compOper P n ops o = some io) : compOp P o.op o.type = some io.op ∧ compGuard ops o.guard = some io.guard ∧ io.dst = o.dst ∧ ∀ i,o.dst = some i → i < n := by
  unfold compOper at h
  simp only [Option.bind_eq_bind,Option.bind_eq_some_iff] at h
  obtain ⟨op,h1,g,h2,h⟩ := h
  split at h
  · cases h
    rename_i hd
    refine ⟨h1,h2,rfl,fun i hi => ?_⟩
    rw [hi] at hd; simpa [dstOk] using hd
  · cases h
theorem tmp_bool {a : Act} {d : Nat} {b : Bool} (h : a.tmps.getD d undef = .bool b) : a.tmps[d]? = some (.bool b) := by
  cases hq : a.tmps[d]? with
  | none =>
    have hn := Array.getElem?_eq_none_iff.1 hq
    unfold Array.getD at h
    rw [dif_neg (by omega)] at h
    cases h
  | some v => rw [getD_of hq] at h; rw [h]
def WantSpec (o : Oper) (ops : Array Oper) (a : Act) (e : Env) : Option (Nat × Bool) → Prop
  | none => Region.wanted o (yielded ops a.tmps) = true
  | some (d,want) => (∀ b,e d = .bool b → Region.wanted o (yielded ops a.tmps) = (b == want)) ∧ (e d = .und → Region.wanted o (yielded ops a.tmps) = false)
theorem wanted_of {G : Gh} {w : World} {ops : Array Oper} {o : Oper} {g : Option (Nat × Bool)} (hg : compGuard ops o.guard = some g) {a : Act} {e : Env} (hE : Tmps G w.heap a e) :
    WantSpec o ops a e g := by
  cases ho : o.guard with
  | none =>
    rw [ho] at hg; simp only [compGuard] at hg; cases hg
    simp [WantSpec,Region.wanted,ho]
  | some p =>
    obtain ⟨j,want⟩ := p
    rw [ho] at hg
    simp only [compGuard] at hg
    split at hg
    · rename_i d hd
      cases hg
      refine ⟨fun b hb => ?_,fun hu => ?_⟩
      · have r := hE d
        rw [hb] at r
        generalize hv : a.tmps.getD d undef = v at r
        cases r
        have := tmp_bool hv
        simp only [Region.wanted,ho,yielded,hd,Option.bind_some,this]
        cases b <;> cases want <;> rfl
      · have r := hE d
        rw [hu] at r
        generalize hv : a.tmps.getD d undef = v at r
        cases r
        simp only [Region.wanted,ho,yielded,hd,Option.bind_some]
        cases hq : a.tmps[d]? with
        | none => rfl
        | some v =>
          have := getD_of hq
          rw [hv] at this
          rw [← this]; rfl
    · cases hg
end
end A
end Go.Proofs.YtgalkppgeoknaaaGreatDoor
