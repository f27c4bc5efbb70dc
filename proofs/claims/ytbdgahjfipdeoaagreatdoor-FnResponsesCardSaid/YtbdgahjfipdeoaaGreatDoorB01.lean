import Derived.WalkKit
import Derived.Lib.LaidTab
import Derived.Lib.ItoaNum
/- FnResponses: a part of its proof. No condition. -/
set_option linter.all false
set_option maxRecDepth 100000
namespace Go.Proofs.YtbdgahjfipdeoaaGreatDoor
namespace A
abbrev aA:=List UInt8
abbrev aF (α:Type):=List α
abbrev LX:=@Array.ext_getElem?
abbrev AA:=@Array.getElem?_append_left
abbrev fQ:=@Array.getElem?_eq_getElem
abbrev z8:=@Array.getElem?_eq_none
abbrev lF:=@Array.getElem?_eq_some_iff
abbrev RM:=@Array.getElem?_modify
abbrev GI:=@Array.getElem?_push
abbrev RL:=@Array.getElem?_setIfInBounds
abbrev uU:=@Array.getElem?_setIfInBounds_ne
abbrev uT:=@Array.getElem?_toList
abbrev RJ:=@Array.map_empty
abbrev RI:=@Array.size_append
abbrev yC:=@Array.toList_inj
abbrev eY:=@Bool.and_eq_true
abbrev jF:=@Bool.false_eq_true
abbrev LW:=@Bool.false_or
abbrev z6:=@Bool.not_eq_true'
abbrev CU:=@Bool.not_false
abbrev GH:=@Bool.not_true
abbrev CT:=@Bool.or_eq_true
abbrev LV:=@ByteArray.toList_eq
abbrev yB:=@Classical.byContradiction
abbrev LU:=@Classical.choose_spec
abbrev RH:=@Code.wp_mono
abbrev iY:=@Int.eq_ofNat_of_zero_le
abbrev lU:=@Int.le_refl
abbrev zZ:=@Int.lt_or_le
abbrev bV:=@Int.natCast_add
abbrev LS:=@Int.natCast_ediv
abbrev RG:=@Int.natCast_emod
abbrev GG:=@Int.not_lt
abbrev RF:=@IntKind.wrap_u8
abbrev bY:=@List.Sublist.refl
abbrev GF:=@List.all_append
abbrev LR:=@List.all_cons
abbrev RE:=@List.all_eq_false
abbrev kM:=@List.all_eq_true
abbrev zY:=@List.append_assoc
abbrev LQ:=@List.attach_map_subtype_val
abbrev zX:=@List.cons_append
abbrev zW:=@List.contains_cons
abbrev LP:=@List.contains_eq_mem
abbrev RD:=@List.countP_cons
abbrev RC:=@List.countP_eq_zero
abbrev RB:=@List.countP_le_length
abbrev RA:=@List.countP_mono_left
abbrev uS:=@List.drop_eq_getElem_cons
abbrev LO:=@List.drop_eq_nil_of_le
abbrev Q9:=@List.eq_nil_iff_forall_not_mem
abbrev Q8:=@List.ext_getElem?
abbrev CS:=@List.flatMap_cons
abbrev GC:=@List.forall_mem_singleton
abbrev LN:=@List.getD_eq_getElem?_getD
abbrev yA:=@List.getElem?_append
abbrev gY:=@List.getElem?_append_left
abbrev qV:=@List.getElem?_append_right
abbrev xZ:=@List.getElem?_drop
abbrev bC:=@List.getElem?_eq_getElem
abbrev CR:=@List.getElem?_eq_none
abbrev bQ:=@List.getElem?_eq_some_iff
abbrev kL:=@List.getElem?_map
abbrev r8:=@List.getElem?_set
abbrev uR:=@List.getElem?_set_ne
abbrev eP:=@List.getElem?_set_self
abbrev GB:=@List.getElem?_take
abbrev wD:=@List.getElem?_take_of_lt
abbrev LM:=@List.getElem?_toArray
abbrev oR:=@List.getElem_mem
abbrev kW:=@List.length_append
abbrev lE:=@List.length_cons
abbrev CQ:=@List.length_eq_zero_iff
abbrev nR:=@List.length_map
abbrev Q7:=@List.length_nil
abbrev r7:=@List.length_pos_iff
abbrev Q6:=@List.length_take
abbrev oQ:=@List.mapM_cons
abbrev qB:=@List.map_append
abbrev gJ:=@List.map_cons
abbrev Q5:=@List.map_drop
abbrev LK:=@List.map_inj_right
abbrev GA:=@List.map_map
abbrev xY:=@List.map_nil
abbrev lT:=@List.map_set
abbrev zV:=@List.map_take
abbrev dI:=@List.mem_append
abbrev kC:=@List.mem_append_left
abbrev wC:=@List.mem_append_right
abbrev fK:=@List.mem_cons
abbrev iI:=@List.mem_cons_of_mem
abbrev kB:=@List.mem_cons_self
abbrev r6:=@List.mem_filter
abbrev zU:=@List.mem_filterMap
abbrev LJ:=@List.mem_flatMap
abbrev LH:=@List.mem_iff_getElem
abbrev lS:=@List.mem_iff_getElem?
abbrev fZ:=@List.mem_map
abbrev bA:=@List.mem_of_getElem?
abbrev zT:=@List.mem_of_mem_take
abbrev rZ:=@List.mem_or_eq_of_mem_set
abbrev mJ:=@List.mem_range
abbrev rY:=@List.mem_singleton
abbrev F0:=@List.nil_append
abbrev eX:=@List.nil_sublist
abbrev mI:=@List.nodup_append
abbrev qA:=@List.nodup_cons
abbrev nQ:=@List.not_mem_nil
abbrev FZ:=@List.pairwise_iff_getElem
abbrev rX:=@List.set_append_left
abbrev CP:=@List.singleton_sublist
abbrev LG:=@List.sublist_append_right
abbrev FY:=@List.sum_append
abbrev nP:=@List.sum_cons
abbrev wB:=@List.take_add_one
abbrev wA:=@List.take_append_drop
abbrev mU:=@List.take_length
abbrev fJ:=@List.take_of_length_le
abbrev fN:=@List.take_sublist
abbrev nO:=@List.take_succ_eq_append_getElem
abbrev v8:=@Nat.add_assoc
abbrev rW:=@Nat.add_mul
abbrev FX:=@Nat.add_sub_cancel_left
abbrev FW:=@Nat.add_zero
abbrev Q4:=@Nat.eq_zero_or_pos
abbrev Q3:=@Nat.le_of_eq
abbrev zS:=@Nat.le_of_lt
abbrev bB:=@Nat.le_refl
abbrev cL:=@Nat.le_trans
abbrev Q2:=@Nat.le_zero
abbrev rV:=@Nat.lt_of_le_of_lt
abbrev fM:=@Nat.lt_of_lt_of_le
abbrev iA:=@Nat.lt_or_ge
abbrev Q1:=@Nat.mul_assoc
abbrev FV:=@Nat.mul_comm
abbrev uQ:=@Nat.mul_le_mul_right
abbrev Q0:=@Nat.mul_one
abbrev zR:=@Nat.ne_of_lt
abbrev zQ:=@Nat.not_lt
abbrev QZ:=@Nat.pos_of_ne_zero
abbrev FU:=@Nat.pow_succ
abbrev QY:=@Nat.sub_self
abbrev LF:=@Nat.sub_zero
abbrev oO:=@Nat.zero_add
abbrev kH:=@Nat.zero_le
abbrev gX:=@Option.bind_eq_bind
abbrev dK:=@Option.bind_eq_some_iff
abbrev uP:=@Option.bind_some
abbrev LD:=@Option.isSome_iff_exists
abbrev QX:=@Option.isSome_none
abbrev iH:=@Option.map_eq_some_iff
abbrev QW:=@Option.map_some
abbrev QV:=@Option.or_eq_some_iff
abbrev uO:=@Option.pure_def
abbrev oN:=@Option.some.inj
abbrev eH:=@Option.some.injEq
abbrev dL:=@Result.andThen_ok
abbrev cP:=@Sem.run_bind
abbrev dC:=@Sem.run_pure
abbrev zP:=@UInt8.toNat_inj
abbrev FT:=@UInt8.toNat_ofNat'
def NB:Nat:=5+1
def GL (b:Nat) (o:Option Obj):Prop:=
 (b=0->∃c t E m,o=some (.cells c t E)/\c[0]?=some (Value.int .i64 m))/\
 (b=1->∃t E,o=some (.cells (Go.Lib.pow10Tab.map λz=>Value.int .u64 z).toArray t E))/\
 (b=4\/b=5->∃c t E ev,o=some (.cells c t E)/\c[0]?=some ev/\(ev=Value.nilIface\/∃E J,ev=Value.iface E J))
def gl_max {o} (h:GL 0 o):∃c t E m,o=some (.cells c t E)/\c[0]?=some (Value.int .i64 m):=h.1 rfl
def gl_pow {o} (h:GL 1 o):∃t E,o=some (.cells (Go.Lib.pow10Tab.map λz=>Value.int .u64 z).toArray t E):=h.2.1 rfl
def gl_err {b} {o} (T:b=4\/b=5) (h:GL b o):∃c t E ev,o=some (.cells c t E)/\c[0]?=some ev/\(ev=Value.nilIface\/∃E J,ev=Value.iface E J):=h.2.2 T
inductive AV where
 |int (k:IntKind) (n:Int)
 |bool (b:Bool)
 |str (s:aA)
 |dS
 |oE
 |aU
 |qG
 |dX (tag w:Nat) (aN:List (List AV))
 |ref (i tag w len:Nat)
 |ptr (i tag w aM off:Nat)
 |iP (cells:List AV) (off:Nat)
 |agg (cells:List AV)
 |aX (vs:List AV)
 |fn (f:Nat) (caps:List AV)
 |jG (i tag:Nat)
 |mC (nil:Bool)
 |sub (i tag w off len:Nat)
 deriving Inhabited
abbrev AV.I (n:Int):AV:=.int .i64 n
structure aH where
 mp:Bool
 tag:Nat
 w:Nat
 aN:List (List AV)
abbrev aC:=List aH
abbrev aD:=AV->aC->Nat->Prop
def mx:Nat:=9223372036854775807
def qQ (k:IntKind) (n:Int):Prop:=k.min<=n/\n<=k.max
def eF (h:Array Obj) (b o:Nat):Option Value:=
 match h[b]? with
 |some (.cells c _ _)=>c[o]?
 |_=>none
def J1 (w:World) b o:w.cell? ⟨b,o,none⟩=eF w.heap b o:=by
 unfold World.cell? eF;cases w.heap[b]? with
 |none=>rfl
 |some o=>cases o<;>rfl
structure Gh where
 m:Nat->Nat
 c:Nat
 Fz:Nat->Prop
def AV.cell:AV->Bool
 |.agg _|.aX _|.dS|.oE=>false
 |_=>true
inductive bJ (G:Gh) (h:Array Obj):Value->AV->Prop
 |int {k:IntKind} {n:Int} (hk:qQ k n):bJ G h (.int k n) (.int k n)
 |bool {b:Bool}:bJ G h (.bool b) (.bool b)
 |str {s:ByteArray} {l:aA} (e:s.data.toList=l) (hl:l.length<=mx):bJ G h (.string s) (.str l)
 |dS:bJ G h undef .dS
 |oE {v:Value}:bJ G h v .oE
 |aU:bJ G h (.slice none 0 0) .aU
 |qG:bJ G h (.pointer none) .qG
 |j5 {a:Option Addr} {cap tag w:Nat}:bJ G h (.slice a 0 cap) (.dX tag w [])
 |dX {tag w off cap:Nat} {aN:List (List AV)} (f:Nat->Nat->Value) (hF:G.Fz tag) (hc:tag<G.c) (hlen:aN.length<=mx) (hcap:aN.length<=cap)
   (hw:∀(r:Nat) (aM:List AV),aN[r]?=some aM->aM.length=w)
   (eF:∀(r o:Nat) (aM:List AV) (a:AV),aN[r]?=some aM->aM[o]?=some a->eF h (G.m tag) (off+r*w+o)=some (f r o))
   (hcl:∀(r o:Nat) (aM:List AV) (a:AV),aN[r]?=some aM->aM[o]?=some a->a.cell=true)
   (hrep:∀(r o:Nat) (aM:List AV) (a:AV),aN[r]?=some aM->aM[o]?=some a->bJ G h (f r o) a):
   bJ G h (.slice (some ⟨G.m tag,off,none⟩) aN.length cap) (.dX tag w aN)
 |ref {i tag w len cap:Nat} {c:Array Value} {e:TypeId} {fr:Nat×Nat} (hc:tag<G.c) (hb:h[G.m tag]?=some (.cells c e fr))
   (h1:cap*w<=c.size) (h2:len<=cap) (h3:cap<=mx):bJ G h (.slice (some ⟨G.m tag,0,none⟩) len cap) (.ref i tag w len)
 |ptr {i tag w r o:Nat} (hc:tag<G.c):bJ G h (.pointer (some ⟨G.m tag,r*w+o,none⟩)) (.ptr i tag w r o)
 |iP {tag off o:Nat} {cells:List AV} (f:Nat->Value) (hF:G.Fz tag) (hc:tag<G.c)
   (eF:∀(j:Nat) (a:AV),cells[j]?=some a->eF h (G.m tag) (off+j)=some (f j))
   (hcl:∀(j:Nat) (a:AV),cells[j]?=some a->a.cell=true)
   (hrep:∀(j:Nat) (a:AV),cells[j]?=some a->bJ G h (f j) a):bJ G h (.pointer (some ⟨G.m tag,off+o,none⟩)) (.iP cells o)
 |agg {cs:Array Value} {cells:List AV} (hs:cs.size=cells.length) (hcl:∀(j:Nat) (a:AV),cells[j]?=some a->a.cell=true) (hr:∀(j:Nat) (a:AV),cells[j]?=some a->bJ G h (cs.getD j undef) a):bJ G h (.agg cs) (.agg cells)
 |aX {cs:Array Value} {vs:List AV} (hs:cs.size=vs.length) (hr:∀(j:Nat) (a:AV),vs[j]?=some a->bJ G h (cs.getD j undef) a):bJ G h (.tuple cs) (.aX vs)
 |fn {f:Nat} {cs:Array Value} {caps:List AV} (hs:cs.size=caps.length) (hr:∀(j:Nat) (a:AV),caps[j]?=some a->bJ G h (cs.getD j undef) a):
   bJ G h (.func (.func f) #[] cs) (.fn f caps)
 |jG {i tag:Nat} (hc:tag<G.c):bJ G h (.map (some (G.m tag))) (.jG i tag)
 |A4:bJ G h .nilIface (.mC true)
 |mC {te:TypeId} {pe:Value}:bJ G h (.iface te pe) (.mC false)
 |wI {a:Option Addr} {i tag w off cap:Nat}:bJ G h (.slice a 0 cap) (.sub i tag w off 0)
 |sub {i tag w off len cap:Nat} {c:Array Value} {e:TypeId} {fr:Nat×Nat} (hc:tag<G.c) (hb:h[G.m tag]?=some (.cells c e fr))
   (h1:(off+cap)*w<=c.size) (h2:len<=cap) (h3:len<=mx):bJ G h (.slice (some ⟨G.m tag,off*w,none⟩) len cap) (.sub i tag w off len)
structure fH (G:Gh) (h:Array Obj) (G':Gh) (h':Array Obj):Prop where
 c:G.c<=G'.c
 m:∀t,t<G.c->G'.m t=G.m t
 F:∀t,t<G.c->G.Fz t->G'.Fz t
 gE:∀t,t<G.c->G.Fz t->h'[G.m t]?=h[G.m t]?
 shape:∀(b:Nat) (c:Array Value) (e:TypeId) (fr:Nat×Nat),h[b]?=some (.cells c e fr)->∃(c':Array Value) (fr':Nat×Nat),h'[b]?=some (.cells c' e fr')/\c'.size=c.size
def fH.refl G (h:Array Obj):fH G h G h:=
 ⟨bB _,λ_ _=>rfl,λ_ _ x=>x,λ_ _ _=>rfl,λ_ c _ J E=>⟨c,J,E,rfl⟩⟩
def fH.trans {G} {h} {G'} {T} {J} {E} (a:fH G h G' T) (b:fH G' T J E):fH G h J E where
 c:=cL a.c b.c
 m t ht:=(b.m t (fM ht a.c)).trans (a.m t ht)
 F t ht hF:=b.F t (fM ht a.c) (a.F t ht hF)
 gE t ht hF:=by
  have:=b.gE t (fM ht a.c) (a.F t ht hF);rw[a.m t ht] at this;exact this.trans (a.gE t ht hF)
 shape x c e fr hb:=by obtain⟨c',J,h1,h2⟩:=a.shape x c e fr hb;obtain⟨T,E,Z,W⟩:=b.shape x c' e J h1;exact⟨T,E,Z,W.trans h2⟩
def W1 {h E:Array Obj} {b:Nat} (e:E[b]?=h[b]?) o:eF E b o=eF h b o:=by simp[eF,e]
def bJ.ext {G} {h} {G'} {E} {v} {a} (r:bJ G h v a) (x:fH G h G' E):bJ G' E v a:=by
 induction r with
 |int E=>exact .int E
 |bool=>exact .bool
 |str e E=>exact .str e E
 |dS=>exact .dS
 |oE=>exact .oE
 |aU=>exact .aU
 |qG=>exact .qG
 |j5=>exact .j5
 |dX f hF E T Z hw eF J hrep W=>
  rw[<-x.m _ E];refine .dX f (x.F _ E hF) (fM E x.c) T Z hw (λr o aM a h1 h2=>?_) J W;rw[x.m _ E,W1 (x.gE _ E hF)];exact eF r o aM a h1 h2
 |ref E hb h1 h2 h3=>
  obtain⟨c',fr',T,Z⟩:=x.shape _ _ _ _ hb;rw[<-x.m _ E] at T ⊢;exact .ref (fM E x.c) T (by omega) h2 h3
 |ptr E=>rw[<-x.m _ E];exact .ptr (fM E x.c)
 |iP f hF E eF J hrep W=>
  rw[<-x.m _ E];refine .iP f (x.F _ E hF) (fM E x.c) (λj a h1=>?_) J W;rw[x.m _ E,W1 (x.gE _ E hF)];exact eF j a h1
 |agg Z J hr W=>exact .agg Z J W
 |aX Z hr W=>exact .aX Z W
 |fn Z hr W=>exact .fn Z W
 |jG E=>rw[<-x.m _ E];exact .jG (fM E x.c)
 |A4=>exact .A4
 |mC=>exact .mC
 |wI=>exact .wI
 |sub E hb h1 h2 h3=>
  obtain⟨c',fr',T,Z⟩:=x.shape _ _ _ _ hb;rw[<-x.m _ E] at T ⊢;exact .sub (fM E x.c) T (by omega) h2 h3
def bJ.UX {G} {h} {v:Value} {a:AV} (r:bJ G h v a) (E:a.cell=true):v.oneCell'=true:=by cases r<;>first|rfl|cases E
def bJ.ZT {G} {h} {v:Value} {a:AV} (r:bJ G h v a) (E:a.cell=true):v.cells=#[v]:=by cases r<;>first|rfl|cases E
structure kA (G:Gh) (h:Array Obj) (o:aH):Prop where
 c:o.tag<G.c
 oC:o.mp=false->∃(c:Array Value) (e:TypeId) (fr:Nat×Nat),h[G.m o.tag]?=some (.cells c e fr)/\(∀i:Nat,i<c.size+(o.w-1)->¬(fr.1<=i/\i<fr.2))/\o.aN.length*o.w<=c.size/\o.aN.length<=mx/\
  (∀(r:Nat) (aM:List AV),o.aN[r]?=some aM->aM.length=o.w)/\∀(r j:Nat) (aM:List AV) (a:AV),o.aN[r]?=some aM->aM[j]?=some a->∃v,c[r*o.w+j]?=some v/\a.cell=true/\bJ G h v a
 sJ:o.mp=true->∃(es:Array MapEntry) (clock:Nat),h[G.m o.tag]?=some (.map es clock)/\es.size=o.aN.length/\o.aN.length<=mx/\
  ∀(r:Nat) (aM:List AV),o.aN[r]?=some aM->∃(k v:AV) (en:MapEntry),aM=[k,v]/\es[r]?=some en/\bJ G h en.key k/\bJ G h en.val v
def kA.ext {G:Gh} {h:Array Obj} {G'} {E:Array Obj} {o:aH} (k:kA G h o) (x:fH G h G' E) (e:E[G.m o.tag]?=h[G.m o.tag]?):kA G' E o where
 c:=fM k.c x.c
 oC hm:=by
  obtain⟨c,t,J,h1,Z,W,T,E,h6⟩:=k.oC hm;refine⟨c,t,J,by rw[x.m _ k.c,e,h1],Z,W,T,E,λr j aM a ha hb=>?_⟩;obtain⟨v,E,hc,J⟩:=h6 r j aM a ha hb;exact⟨v,E,hc,J.ext x⟩
 sJ hm:=by obtain⟨es,E,h1,Z,W,T⟩:=k.sJ hm;refine⟨es,E,by rw[x.m _ k.c,e,h1],Z,W,λr aM J=>?_⟩;obtain⟨Z,v,en,e1,e2,W,E⟩:=T r aM J;exact⟨Z,v,en,e1,e2,W.ext x,E.ext x⟩
def aV (H:aC):aF Nat:=H.map (·.tag)
def Gl (G:Gh) (h:Array Obj):Prop:=∀b,b<NB->G.Fz b/\b<G.c/\G.m b=b/\GL b h[b]?
def Gl.ext {G G'} {h E} (g:Gl G h) (x:fH G h G' E):Gl G' E:=λb J=>by
 obtain⟨W,E,T,Z⟩:=g b J;have J:=x.gE b E W;rw[T] at J;exact⟨x.F b E W,fM E x.c,(x.m b E).trans T,J▸Z⟩
structure Inv (G:Gh) (H:aC) (h:Array Obj):Prop where
 fz:∀t,G.Fz t->t<G.c/\G.m t<h.size
 obj:∀o,o∈H->kA G h o
 nY:∀t,t∈aV H->¬G.Fz t
 nodup:(aV H).Nodup
 inj:∀t t',(G.Fz t\/t∈aV H)->(G.Fz t'\/t'∈aV H)->G.m t=G.m t'->t=t'
 gl:Gl G h
def iJ {H} {o:aH} (h:o∈H):o.tag∈aV H:=List.mem_map_of_mem h
def qF {H} {t} (h:t∈aV H):∃o,o∈H/\o.tag=t:=by simpa[aV] using h
def Inv.lt {G:Gh} {H} {h} (I:Inv G H h) {t} (E:t∈aV H):t<G.c:=by obtain⟨o,J,rfl⟩:=qF E;exact(I.obj o J).c
def kA.block {G:Gh} {h:Array Obj} {o:aH} (k:kA G h o):G.m o.tag<h.size:=by
 rcases iA (G.m o.tag) h.size with J|J
 .exact J
 .cases hm:o.mp with
  |false=>obtain⟨c,t,E,E,_⟩:=k.oC hm;rw[z8 J] at E;cases E
  |true=>obtain⟨T,T,E,_⟩:=k.sJ hm;rw[z8 J] at E;cases E
structure Ext (G:Gh) (H:aC) (w:World) (G':Gh) (H':aC) (w':World):Prop where
 x:fH G w.heap G' w'.heap
 os:w'.os=w.os
 tape:w'.tape=w.tape
 output:w'.output=w.output
 size:w.heap.size<=w'.heap.size
 frame:∀b,b<w.heap.size->(∀t,t∈aV H->G.m t≠b)->w'.heap[b]?=w.heap[b]?
 mL:∀t,G.c<=t->t<G'.c->w.heap.size<=G'.m t\/∃u,u∈aV H/\G'.m t=G.m u
 j6:∀t,t<G.c->t∈aV H'->t∈aV H
 nV:∀t,t<G.c->G'.Fz t->G.Fz t\/t∈aV H
def Ext.refl G H (w:World):Ext G H w G H w:=
 ⟨fH.refl _ _,rfl,rfl,rfl,bB _,λ_ _ _=>rfl,λt E E=>absurd E (by omega),λ_ _ h=>h,λ_ _ h=>.inl h⟩
def Ext.trans {G:Gh} {H} {w} {G':Gh} {Z} {w'} {T} {J} {E}
  (W:∀t,t∈aV H->t<G.c) (W:∀t,t∈aV Z->t<G'.c) (a:Ext G H w G' Z w') (b:Ext G' Z w' T J E):Ext G H w T J E where
 x:=a.x.trans b.x
 os:=b.os.trans a.os
 tape:=b.tape.trans a.tape
 output:=b.output.trans a.output
 size:=cL a.size b.size
 frame k hk hn:=by
  rw[b.frame k (fM hk a.size),a.frame k hk hn];intro t T J;rcases iA t G.c with E|E
  .rw[a.x.m t E] at J;exact hn t (a.j6 t E T) J
  .rcases a.mL t E (W t T) with T|⟨u,Z,T⟩
   .omega
   .exact hn u Z (T▸J)
 mL t E T:=by
  rcases iA t G'.c with J|J
  .rw[b.x.m t J];exact a.mL t E J
  .rcases b.mL t J T with h4|⟨u,Z,h4⟩
   .exact .inl (cL a.size h4)
   .rcases iA u G.c with h5|h5
    .exact .inr ⟨u,a.j6 u h5 Z,by rw[h4,a.x.m u h5]⟩
    .rcases a.mL u h5 (W u Z) with W|⟨y,Z,W⟩
     .exact .inl (by omega)
     .exact .inr ⟨y,Z,h4.trans W⟩
 j6 t E T:=a.j6 t E (b.j6 t (fM E a.x.c) T)
 nV t E T:=by
  rcases b.nV t (fM E a.x.c) T with J|J
  .exact a.nV t E J
  .exact .inr (a.j6 t E J)
def cA (P:Program) (f:FuncId) (E:aF AV) (H:aC) (c:Nat) (Q:aD):Prop:=
 ∀(G:Gh) (w:World) (J:Array Value),G.c=c->Inv G H w.heap->J.size=E.length->(∀(j:Nat) (a:AV),E[j]?=some a->bJ G w.heap (J.getD j undef) a)->
  Calls P f J w λe T=>∃v E W J,e=.returned v/\Q E W J.c/\Ext G H w J W T/\Inv J W T.heap/\bJ J T.heap v E
def cA.mono {P} {f} {E} {H} {c} {Q W:aD} (h:cA P f E H c Q)
  (Z:∀r J T,c<=T->Q r J T->W r J T):cA P f E H c W:=by intro G w E e I T W;refine(h G w E e I T W).mono λE E ⟨v,E,J,G',h1,h2,T,W⟩=>⟨v,E,J,G',h1,Z _ _ _ (e▸T.x.c) h2,T,W⟩
def aK {α:Type} (f:Nat->α) (i:Nat) (v:α):Nat->α:=λj=>if j=i then v else f j
@[simp] theorem sA {α:Type} (f:Nat->α) i (v:α):aK f i v i=v:=by simp[aK]
def kD {α:Type} (f:Nat->α) i (v:α) {j} (h:j≠i):aK f i v j=f j:=by simp[aK,h]
def Gh.new (G:Gh) (b:Nat):Gh:={m:=aK G.m G.c b,c:=G.c+1,Fz:=G.Fz}
def AZ {h:Array Obj} {o} {b:Nat} (E:b<h.size):(h.push o)[b]?=h[b]?:=by rw[GI,if_neg (by omega)]
def fH.push {G:Gh} {H} {h:Array Obj} (I:Inv G H h) (o:Obj) b:fH G h (G.new b) (h.push o) where
 c:=by simp[Gh.new]
 m t ht:=by simp[Gh.new,kD _ _ _ (zR ht)]
 F t _ hF:=hF
 gE t ht hF:=AZ (I.fz t hF).2
 shape b c e fr hb:=by
  refine⟨c,fr,?_,rfl⟩;rw[AZ];exact hb;rcases iA b h.size with E|E
  .exact E
  .rw[z8 E] at hb;cases hb
def U0 {G:Gh} {H} {h} (I:Inv G H h):G.c∉aV H:=λE=>absurd (I.lt E) (by omega)
def Inv.push {G:Gh} {H} {h:Array Obj} (I:Inv G H h) (o:Obj) (ob:aH) (ht:ob.tag=G.c)
  (hob:kA (G.new h.size) (h.push o) ob):Inv (G.new h.size) (H++[ob]) (h.push o):=by
 have J:∀t,(G.Fz t\/t∈aV H)->t<G.c/\G.m t<h.size:=λt hl=>hl.elim (I.fz t) (λhm=>by
  obtain⟨o',T,rfl⟩:=qF hm;exact⟨(I.obj o' T).c,(I.obj o' T).block⟩)
 have W:∀t,t∈aV (H++[ob])↔t∈aV H\/t=G.c:=λt=>by simp[aV,ht]
 refine⟨λt hF=>?_,λo' T=>?_,λt hm hF=>?_,?_,λt t' E Z he=>?_,I.gl.ext (fH.push I o _)⟩
 .have hF':G.Fz t:=hF;have:=I.fz t hF';refine⟨by simp[Gh.new];omega,?_⟩;simp[Gh.new,kD _ _ _ (zR this.1)];omega
 .rcases dI.1 T with E|E
  .exact(I.obj o' E).ext (fH.push I o _) (AZ (I.obj o' E).block)
  .simp at E;subst E;exact hob
 .rcases(W t).1 hm with E|E
  .exact I.nY t E hF
  .subst E;exact absurd (I.fz _ hF).1 (by omega)
 .have e:aV (H++[ob])=aV H++[G.c]:=by simp[aV,ht]
  rw[e,mI];exact⟨I.nodup,by simp,λa ha b T=>by simp at T;subst T;exact λe=>absurd ha (e▸U0 I)⟩
 .have T:∀t,((G.new h.size).Fz t\/t∈aV (H++[ob]))->(G.Fz t\/t∈aV H)\/t=G.c:=λt hl=>by
   rcases hl with E|E
   .exact .inl (.inl E)
   .rcases(W t).1 E with E|E
    .exact .inl (.inr E)
    .exact .inr E
  rcases T t E with E|E<;>rcases T t' Z with Z|Z
  .simp[Gh.new,kD _ _ _ (zR (J t E).1),kD _ _ _ (zR (J t' Z).1)] at he;exact I.inj t t' E Z he
  .subst Z;have:=J t E;simp[Gh.new,kD _ _ _ (zR this.1)] at he;omega
  .subst E;have:=J t' Z;simp[Gh.new,kD _ _ _ (zR this.1)] at he;omega
  .rw[E,Z]
def Ext.push {G:Gh} {H} {w:World} (I:Inv G H w.heap) (o:Obj) (ob:aH) (E:ob.tag=G.c):Ext G H w (G.new w.heap.size) (H++[ob]) (w.alloc o) where
 x:=fH.push I o _
 os:=rfl
 tape:=rfl
 output:=rfl
 size:=by simp
 frame b hb _:=AZ hb
 mL t h1 h2:=.inl (by
  have:t=G.c:=by simp[Gh.new] at h2;omega
  subst this;simp[Gh.new])
 j6 t h1 h2:=by
  have:t∈aV H\/t=G.c:=by simpa[aV,E] using h2
  rcases this with E|E
  .exact E
  .omega
 nV t _ h2:=.inl h2
def putCells (c:Array Value) (p:Nat):aF Value->Array Value
 |[]=>c
 |v::E=>putCells (c.setIfInBounds p v) (p+1) E
def tH (vs:aF Value):∀(c:Array Value) (p:Nat),(putCells c p vs).size=c.size:=by
 induction vs with
 |nil=>intro c p;rfl
 |cons v vs E=>intro c p;simp[putCells,E]
def AY (vs:aF Value):∀(c:Array Value) (p j:Nat),(j<p\/p+vs.length<=j)->(putCells c p vs)[j]?=c[j]?:=by
 induction vs with
 |nil=>intro c p j _;rfl
 |cons v vs E=>
  intro c p j h;simp only[putCells];rw[E _ _ _ (by simp at h;omega),uU (by simp at h;omega)]
def HT (vs:aF Value):∀(c:Array Value) (p j:Nat) (v:Value),p+vs.length<=c.size->vs[j]?=some v->(putCells c p vs)[p+j]?=some v:=by
 induction vs with
 |nil=>intro c p j v _ h;simp at h
 |cons u vs J=>
  intro c p j v h E;simp only[putCells];cases j with
  |zero=>
   simp at E;subst E;rw[AY _ _ _ _ (by omega)];simp at h;rw[RL];simp;omega
  |succ j=>
   have e:p+(j+1)=p+1+j:=by omega
   rw[e];exact J _ _ _ _ (by simp at h ⊢;omega) (by simpa using E)
def lG (w:World) (x:Nat) (o:Obj):World:={w with heap:=w.heap.setIfInBounds x o}
def wset_get (w:World) (x y:Nat) (o:Obj):(lG w x o).heap[y]?=if y=x then (if x<w.heap.size then some o else none) else w.heap[y]?:=by
 simp only[lG];by_cases h:y=x
 .subst h;simp[RL]
 .rw[if_neg h,uU (Ne.symm h)]
def wset_wset (w:World) x (o o':Obj):lG (lG w x o) x o'=lG w x o':=by simp[lG]
def vF {h:Array Obj} {x:Nat} {o} (e:h[x]?=some o):x<h.size:=by
 rcases iA x h.size with E|E
 .exact E
 .rw[z8 E] at e;cases e
def setCell_eq {w:World} {x p:Nat} {c:Array Value} {t:TypeId} {fr} (E:w.heap[x]?=some (.cells c t fr)) (v:Value):
  w.setCell ⟨x,p,none⟩ v=lG w x (.cells (c.setIfInBounds p v) t fr):=by
 have J:=vF E;unfold World.setCell lG;congr 1;apply LX;intro i;rw[RM,RL];by_cases h:x=i
 .subst h;rw[E,if_pos rfl,if_pos rfl,if_pos J];rfl
 .simp[h]
def frozen_false {w:World} {x p:Nat} {c} {t:TypeId} {fr:Nat×Nat} (J:w.heap[x]?=some (.cells c t fr)) (E:¬(fr.1<=p/\p<fr.2)):
  w.frozen? ⟨x,p,none⟩=false:=by obtain⟨T,T⟩:=fr;simp only[World.frozen?,J];simpa using E
def addr_add x p n:(⟨x,p,none⟩:Addr).add n=⟨x,p+n,none⟩:=by
 unfold Addr.add;split
 .rename_i h;subst h;rfl
 .rfl
def TK (P:Program) (x p:Nat) (t:TypeId) (fr:Nat×Nat):∀(E:aF Value) (i:Nat) (w:World) (c:Array Value),
  w.heap[x]?=some (.cells c t fr)->(∀j,j<c.size->¬(fr.1<=j/\j<fr.2))->p+i+E.length<=c.size->(∀v,v∈E->v.oneCell'=true)->
  (storeCells ⟨x,p,none⟩ E i).run P w=.ok () (lG w x (.cells (putCells c (p+i) E) t fr)):=by
 intro E
 induction E with
 |nil=>
  intro i w c J _ _ _;simp only[storeCells,dC,putCells];have T:=vF J;have:w=lG w x (.cells c t fr):=by
   unfold lG;have:w.heap=w.heap.setIfInBounds x (.cells c t fr):=by
    apply LX;intro i;rw[RL];by_cases h:x=i
    .subst h;rw[J,if_pos rfl,if_pos T]
    .simp[h]
   rw[<-this]
  rw[<-this]
 |cons v E ih=>
  intro i w c J E Z W;have T:p+i<c.size:=by simp at Z;omega
  have eF:w.cell? ⟨x,p+i,none⟩=some (c[p+i]):=by
   rw[J1];simp[eF,J,T]
  simp only[storeCells,addr_add,cP,run_store P w _ v .plain (W v (by simp)),eF,frozen_false J (E _ T),jF,if_false,dL];rw[setCell_eq J];have T:(lG w x (.cells (c.setIfInBounds (p+i) v) t fr)).heap[x]?=some (.cells (c.setIfInBounds (p+i) v) t fr):=by
   rw[wset_get];simp[vF J]
  rw[ih (i+1) _ _ T (by simpa using E) (by simp at Z ⊢;omega) (λu E=>W u (by simp[E]))];rw[wset_wset];rfl
def run_loadCellsFrom (P:Program) (w:World) x p (f:Nat->Value):∀(n i:Nat) (E:Array Value),(∀j,i<=j->j<i+n->eF w.heap x (p+j)=some (f j))->
  (loadCellsFrom ⟨x,p,none⟩ i n E).run P w=.ok (E++((List.range' i n).map f).toArray) w:=by
 intro n
 induction n with
 |zero=>intro i E _;simp[loadCellsFrom]
 |succ n J=>
  intro i E h;have E:w.cell? ⟨x,p+i,none⟩=some (f i):=by rw[J1];exact h i (bB _) (by omega)
  simp only[loadCellsFrom,addr_add,cP,run_load,E,dL];rw[J (i+1) _ (λj E E=>h j (by omega) (by omega))];simp[List.range'_succ]
def run_loadCells (P:Program) (w:World) x p n (f:Nat->Value) (h:∀j,j<n->eF w.heap x (p+j)=some (f j)):
  (loadCells ⟨x,p,none⟩ n).run P w=.ok ((List.range n).map f).toArray w:=by unfold loadCells;rw[run_loadCellsFrom P w x p f n 0 #[] (λj _ E=>h j (by omega))];simp[List.range_eq_range']
def run_loadCell (P:Program) (w:World) x p (v:Value) (h:eF w.heap x p=some v):(load ⟨x,p,none⟩).run P w=.ok v w:=by
 have E:w.cell? ⟨x,p,none⟩=some v:=by rw[J1];exact h
 simp only[run_load,E]
def fH.write {G:Gh} {h:Array Obj} {x:Nat} {o} (W:∀t,G.Fz t->G.m t≠x) (hs:∀c e J,h[x]?=some (.cells c e J)->∃T E,o=.cells T e E/\T.size=c.size):
  fH G h G (h.setIfInBounds x o) where
 c:=bB _
 m _ _:=rfl
 F _ _ hF:=hF
 gE t _ hF:=uU (Ne.symm (W t hF))
 shape b c e J hb:=by
  by_cases W:b=x
  .subst W;obtain⟨T,E,rfl,Z⟩:=hs c e J hb;exact⟨T,E,by simp[vF hb],Z⟩
  .exact⟨c,J,by rw[uU (Ne.symm W)];exact hb,rfl⟩
def AQ {H:aC} {i:Nat} {ob ob':aH} (J:H[i]?=some ob) (E:ob'.tag=ob.tag):aV (H.set i ob')=aV H:=by
 unfold aV;rw[lT,E];apply Q8;intro j;rw[r8];by_cases h:i=j
 .subst h;obtain⟨E,T⟩:=bQ.1 J;simp[E,T]
 .simp[h]
def nodup_get {l:aF Nat} (E:l.Nodup) {i j x:Nat} (J:l[i]?=some x) (hj:l[j]?=some x):i=j:=by
 obtain⟨T,Z⟩:=bQ.1 J;obtain⟨J,W⟩:=bQ.1 hj;rcases Nat.lt_trichotomy i j with h|h|h
 .exact absurd (Z.trans W.symm) (FZ.1 E i j T J h)
 .exact h
 .exact absurd (W.trans Z.symm) (FZ.1 E j i J T h)
def mem_set {H:aC} {i:Nat} {ob ob' o:aH} (T:(aV H).Nodup) (W:H[i]?=some ob) (J:o∈H.set i ob'):o=ob'\/(o∈H/\o.tag≠ob.tag):=by
 rw[lS] at J;obtain⟨j,E⟩:=J;rw[r8] at E;by_cases h:i=j
 .subst h;rw[if_pos rfl] at E;split at E
  .exact .inl (oN E).symm
  .cases E
 .rw[if_neg h] at E;refine .inr ⟨bA E,λe=>h ?_⟩;have Z:(aV H)[i]?=some ob.tag:=by simp[aV,W]
  have J:(aV H)[j]?=some ob.tag:=by simp[aV,E,e]
  exact nodup_get T Z J
def Inv.IH {G:Gh} {H} {h} (I:Inv G H h) {t u} (E:t∈aV H) (J:G.Fz u):G.m u≠G.m t:=λe=>
 I.nY t E (I.inj u t (.inl J) (.inr E) e▸J)
def Inv.write {G:Gh} {H:aC} {h:Array Obj} (I:Inv G H h) {i:Nat} {ob ob':aH} (J:H[i]?=some ob) (Z:ob'.tag=ob.tag) {o}
  (hs:∀c e E,h[G.m ob.tag]?=some (.cells c e E)->∃T E,o=.cells T e E/\T.size=c.size) (hob:kA G (h.setIfInBounds (G.m ob.tag) o) ob'):
  fH G h G (h.setIfInBounds (G.m ob.tag) o)/\Inv G (H.set i ob') (h.setIfInBounds (G.m ob.tag) o):=by
 have E:ob∈H:=bA J;have x:fH G h G (h.setIfInBounds (G.m ob.tag) o):=fH.write (λu hF=>I.IH (iJ E) hF) hs;refine⟨x,λt hF=>?_,λo' ho'=>?_,λt hm=>?_,?_,λt t' T W=>?_,I.gl.ext x⟩
 .simpa using I.fz t hF
 .rcases mem_set I.nodup J ho' with rfl|⟨T,W⟩
  .exact hob
  .refine(I.obj o' T).ext x (uU λe=>W ?_);exact(I.inj _ _ (.inr (iJ E)) (.inr (iJ T)) e).symm
 .rw[AQ J Z] at hm;exact I.nY t hm
 .rw[AQ J Z];exact I.nodup
 .rw[AQ J Z] at T W;exact I.inj t t' T W
def Ext.write {G:Gh} {H:aC} {w:World} (I:Inv G H w.heap) {i:Nat} {ob ob':aH} (E:H[i]?=some ob) (J:ob'.tag=ob.tag) {o}
  (x:fH G w.heap G (w.heap.setIfInBounds (G.m ob.tag) o)):Ext G H w G (H.set i ob') (lG w (G.m ob.tag) o) where
 x:=x
 os:=rfl
 tape:=rfl
 output:=rfl
 size:=by simp[lG]
 frame b hb hn:=uU (hn _ (iJ (bA E)))
 mL t h1 h2:=absurd h2 (by omega)
 j6 t _ h2:=by rw[AQ E J] at h2;exact h2
 nV t _ h2:=.inl h2
def NQ {H:aC} {i:Nat} {ob ob':aH} (J:(aV H).Nodup) (T:H[i]?=some ob) {t} (h:t∈aV (H.set i ob')):t=ob'.tag\/(t∈aV H/\t≠ob.tag):=by
 obtain⟨o,E,rfl⟩:=qF h;rcases mem_set J T E with rfl|⟨J,E⟩
 .exact .inl rfl
 .exact .inr ⟨iJ J,E⟩
def nodup_tags_set {H:aC} {i:Nat} {ob ob':aH} (Z:(aV H).Nodup) (E:H[i]?=some ob) (hf:ob'.tag∉aV H):(aV (H.set i ob')).Nodup:=by
 have e:aV (H.set i ob')=(aV H).set i ob'.tag:=by simp[aV,lT]
 rw[e];refine FZ.2 λa b W T J=>?_;have E:∀j (h:j<(aV H).length),(aV H)[j]≠ob'.tag:=λj h e=>hf (e▸oR h);simp only[List.getElem_set];split
 .rename_i h;subst h;rw[if_neg (by omega)];exact λe=>E b (by simpa using T) e.symm
 .split
  .exact E a (by simpa using W)
  .exact FZ.1 Z a b (by simpa using W) (by simpa using T) J
def Inv.grow {G:Gh} {H:aC} {h E:Array Obj} (I:Inv G H h) {i:Nat} {ob ob':aH} (hi:H[i]?=some ob) (ht:ob'.tag=G.c) {b} (J:b<E.size)
  (hb':b=G.m ob.tag\/h.size<=b) (x:fH G h (G.new b) E) (hfr:∀t,t∈aV H->t≠ob.tag->E[G.m t]?=h[G.m t]?) (J:h.size<=E.size)
  (hob:kA (G.new b) E ob'):Inv (G.new b) (H.set i ob') E:=by
 have J:ob∈H:=bA hi;have hc:=U0 I;have hm:∀t,t<G.c->(G.new b).m t=G.m t:=λt h=>by simp[Gh.new,kD _ _ _ (zR h)]
 have hmc:(G.new b).m G.c=b:=by simp[Gh.new]
 refine⟨λt hF=>?_,λo' T=>?_,λt hm' hF=>?_,?_,λt t' E W Z=>?_,I.gl.ext x⟩
 .have:=I.fz t hF;refine⟨by simp[Gh.new];omega,?_⟩;rw[hm t this.1];omega
 .rcases mem_set I.nodup hi T with rfl|⟨E,W⟩
  .exact hob
  .exact(I.obj o' E).ext x (hfr _ (iJ E) W)
 .rcases NQ I.nodup hi hm' with E|⟨E,_⟩
  .rw[ht] at E;subst E;exact absurd (I.fz _ hF).1 (by omega)
  .exact I.nY t E hF
 .exact nodup_tags_set I.nodup hi (ht▸hc)
 .have key:∀t,((G.new b).Fz t\/t∈aV (H.set i ob'))->((G.Fz t\/t∈aV H)/\t<G.c/\t≠ob.tag/\G.m t<h.size)\/t=G.c:=λt hl=>by
   rcases hl with E|E
   .refine .inl ⟨.inl E,(I.fz t E).1,λe=>I.nY _ (iJ J) (e▸E),(I.fz t E).2⟩
   .rcases NQ I.nodup hi E with E|⟨E,W⟩
    .exact .inr (E.trans ht)
    .obtain⟨o',T,rfl⟩:=qF E;exact .inl ⟨.inr E,(I.obj o' T).c,W,(I.obj o' T).block⟩
  rcases key t E with⟨l1,c1,n1,T⟩|E<;>rcases key t' W with⟨T,c2,n2,s2⟩|W
  .rw[hm t c1,hm t' c2] at Z;exact I.inj t t' l1 T Z
  .subst W;rw[hm t c1,hmc] at Z;rcases hb' with e|e
   .exact absurd (I.inj t ob.tag l1 (.inr (iJ J)) (Z.trans e)) n1
   .omega
  .subst E;rw[hm t' c2,hmc] at Z;rcases hb' with e|e
   .exact absurd (I.inj t' ob.tag T (.inr (iJ J)) (Z.symm.trans e)) n2
   .omega
  .rw[E,W]
def Ext.grow {G:Gh} {H:aC} {w w':World} (I:Inv G H w.heap) {i:Nat} {ob ob':aH} (Z:H[i]?=some ob) (E:ob'.tag=G.c) {b}
  (hb':b=G.m ob.tag\/w.heap.size<=b) (x:fH G w.heap (G.new b) w'.heap) (W:w'.os=w.os) (E:w'.tape=w.tape) (J:w'.output=w.output) (T:w.heap.size<=w'.heap.size)
  (hfr:∀k,k<w.heap.size->k≠G.m ob.tag->w'.heap[k]?=w.heap[k]?):Ext G H w (G.new b) (H.set i ob') w' where
 x:=x
 os:=W
 tape:=E
 output:=J
 size:=T
 frame k hk hn:=hfr k hk λe=>hn _ (iJ (bA Z)) e.symm
 mL t h1 h2:=by
  have:t=G.c:=by simp[Gh.new] at h2;omega
  subst this;rcases hb' with e|e
  .exact .inr ⟨ob.tag,iJ (bA Z),by simp[Gh.new,e]⟩
  .exact .inl (by simpa[Gh.new] using e)
 j6 t h1 h2:=by
  rcases NQ I.nodup Z h2 with E|⟨E,_⟩
  .omega
  .exact E
 nV t _ h2:=.inl h2
def Inv.drop {G} {H E:aC} {h} (I:Inv G H h) (hs:E.Sublist H):Inv G E h where
 fz:=I.fz
 obj o ho:=I.obj o (hs.subset ho)
 nY t ht:=I.nY t ((hs.map _).subset ht)
 nodup:=List.Nodup.sublist (hs.map _) I.nodup
 inj t t' h1 h2:=I.inj t t' (h1.imp id ((hs.map _).subset ·)) (h2.imp id ((hs.map _).subset ·))
 gl:=I.gl
def Ext.drop {G G'} {H J E:aC} {w w'} (x:Ext G H w G' J w') (hs:E.Sublist J):Ext G H w G' E w':=
 {x with j6:=λt J E=>x.j6 t J ((hs.map _).subset E)}
def Gh.freeze (G:Gh) (S:aC):Gh:={G with Fz:=λt=>G.Fz t\/t∈aV S}
def fH.freeze (G:Gh) S (h:Array Obj):fH G h (G.freeze S) h:=
 ⟨bB _,λ_ _=>rfl,λ_ _ x=>.inl x,λ_ _ _=>rfl,λ_ c _ J E=>⟨c,J,E,rfl⟩⟩
def kA.freeze {G:Gh} {h} {o} (k:kA G h o) S:kA (G.freeze S) h o:=k.ext (fH.freeze G S h) rfl
def Inv.freeze {G:Gh} {H H1 S:aC} {h} (I:Inv G H h) (W:H1.Sublist H) (Z:∀o,o∈S->o∈H) (T:∀t,t∈aV H1->t∉aV S):Inv (G.freeze S) H1 h where
 fz t E:=by
  rcases E with E|E
  .exact I.fz t E
  .obtain⟨o,J,rfl⟩:=qF E;exact⟨(I.obj o (Z o J)).c,(I.obj o (Z o J)).block⟩
 obj o J:=(I.obj o (W.subset J)).freeze S
 nY t ht E:=by
  rcases E with E|E
  .exact I.nY t ((W.map _).subset ht) E
  .exact T t ht E
 nodup:=List.Nodup.sublist (W.map _) I.nodup
 inj t t' a b:=by
  have T:∀t,((G.freeze S).Fz t\/t∈aV H1)->(G.Fz t\/t∈aV H):=λt E=>by
   rcases E with(E|E)|E
   .exact .inl E
   .obtain⟨o,J,rfl⟩:=qF E;exact .inr (iJ (Z o J))
   .exact .inr ((W.map _).subset E)
  exact I.inj t t' (T t a) (T t' b)
 gl:=I.gl.ext (fH.freeze G S h)
abbrev Env:=Nat->AV
inductive cW where
 |t (n:Nat)
 |c (v:AV)
 deriving Inhabited
def ev (e:Env):cW->AV
 |.t n=>e n
 |.c v=>v
inductive dV where
 |mv (x:cW)
 |pick (c a b:cW)
 |new (w:Nat) (zero:List AV)
 |box (w:Nat) (x:cW)
 |build (zero:List AV) (parts:List (Nat×Nat×cW))
 |zE (w:Nat) (zero:List AV) (len:Nat) (parts:List (Nat×cW))
 |load (ag:Option Nat) (x:cW)
 |store (n:Nat) (a x:cW)
 |tN (x:cW)
 |bin (op:BinOp) (x y:cW)
 |xQ (op:BinOp) (x y:cW)
 |beq (neg:Bool) (ks:List Nat) (x y:cW)
 |un (op:UnOp) (x:cW)
 |toInt (k:IntKind) (x:cW)
 |toStr (x:cW)
 |AL (x:cW)
 |wT (f:Nat) (caps:List cW)
 |DR
 |DQ (w:Nat) (zero:List AV) (bytes:Nat) (l c:cW)
 |wK (x:cW) (lo hi:Option cW)
 |slice (w:Nat) (x:cW) (lo hi:Option cW)
 |slice3 (w:Nat) (x h m:cW)
 |tY (off:Nat) (x:cW)
 |field (off:Nat) (ag:Option Nat) (x:cW)
 |tU (w:Nat) (x i:cW)
 |index (x i:cW)
 |lookup (d:Nat) (zero:AV) (ok:Bool) (m k:cW)
 |IL (d:Nat) (m k v:cW)
 |wY (x:cW)
 |wZ (x:cW)
 |tR (x:cW)
 |append (w bytes:Nat) (x y:cW)
 |extract (x:cW) (i:Nat)
 |call (f:Nat) (args:List cW)
 |J2 (x:cW) (args:List cW)
 |uE (f:Nat) (args:List cW)
 |BF (neg:Bool) (x:cW)
 |vI (neg:Bool) (x:cW)
 |rH (ag:Option Nat) (x:cW)
 |vP (ag:Option Nat) (x y:cW)
 deriving Inhabited
def pW:Value->Option AV
 |.int k n=>if k.min<=n/\n<=k.max then some (.int k n) else none
 |.bool b=>some (.bool b)
 |.string s=>if s.data.toList.length<=mx then some (.str s.data.toList) else none
 |.slice none 0 0=>some .aU
 |.pointer none=>some .qG
 |.nilIface=>some (.mC true)
 |_=>none
def ER {v} {a} (h:pW v=some a) G (hp:Array Obj):bJ G hp v a:=by
 unfold pW at h;split at h
 .split at h
  .cases h;rename_i E;exact .int E
  .cases h
 .cases h;exact .bool
 .split at h
  .cases h;rename_i E;exact .str rfl E
  .cases h
 .cases h;exact .aU
 .cases h;exact .qG
 .cases h;exact .A4
 .cases h
def PJ {v} {a:AV} (h:pW v=some a):a.cell=true:=by unfold pW at h;split at h<;>(try split at h)<;>cases h<;>rfl
def JU:Value->Option AV
 |.agg E=>(E.toList.mapM pW).map .agg
 |v=>pW v
def constOp_rep {v} {a} (h:JU v=some a) G (hp:Array Obj):bJ G hp v a:=by
 unfold JU at h;split at h
 .rename_i T;simp only[iH] at h;obtain⟨l,hl,rfl⟩:=h;have J:∀(E:aF Value) (l:aF AV),E.mapM pW=some l->E.length=l.length/\∀(j:Nat) (a:AV),l[j]?=some a->∃v,E[j]?=some v/\pW v=some a:=by
   intro E
   induction E with
   |nil=>intro l h;simp at h;subst h;simp
   |cons v E Z=>
    intro l h;simp only[oQ,gX,dK,uO,eH] at h;obtain⟨b,hb,W,E,rfl⟩:=h;obtain⟨i1,i2⟩:=Z W E;refine⟨by simp[i1],λj a E=>?_⟩;cases j with
    |zero=>simp at E;subst E;exact⟨v,rfl,hb⟩
    |succ j=>exact i2 j a (by simpa using E)
  obtain⟨Z,W⟩:=J T.toList l hl;refine .agg (by simpa using Z) (λj a E=>?_) λj a E=>?_
  .obtain⟨v,_,J⟩:=W j a E;exact PJ J
  .obtain⟨v,J,Z⟩:=W j a E;have e:T.getD j undef=v:=by
    have:T[j]?=some v:=by simpa using J
    simp[Array.getD_eq_getD_getElem?,this]
   rw[e];exact ER Z G hp
 .exact ER h G hp
def eE:Operand->Option cW
 |.tmp t=>some (.t t)
 |.const v=>(JU v).map .c
 |.func f=>some (.c (.fn f []))
 |.global _=>none
def kT (G:Gh) (h:Array Obj) (a:Act) (e:Env):Prop:=∀t,bJ G h (a.tmps.getD t undef) (e t)
def eJ {G} {h} {a:Act} {e} (J:kT G h a e) {x} {y} (E:eE x=some y):bJ G h (a.eval x) (ev e y):=by
 cases x with
 |tmp t=>simp[eE] at E;subst E;exact J t
 |const v=>
  simp only[eE,iH] at E;obtain⟨b,J,rfl⟩:=E;exact constOp_rep J G h
 |func f=>simp[eE] at E;subst E;exact .fn rfl (λj a h=>by simp at h)
 |global g=>simp[eE] at E
def Good (G:Gh) (H:aC) (w:World) (K:aD) (v:Value) (w':World):Prop:=
 ∃av J E,K av J E.c/\Ext G H w E J w'/\Inv E J w'.heap/\bJ E w'.heap v av
def cG (P:Program) (s:Sem Value) (G:Gh) (H:aC) (w:World) (K:aD):Prop:=
 ∃v E,s.run P w=.ok v E/\Good G H w K v E
def Good.here {G:Gh} {H} {w:World} {K:aD} {v} {av} (I:Inv G H w.heap) (k:K av H G.c) (r:bJ G w.heap v av):Good G H w K v w:=
 ⟨av,H,G,k,Ext.refl _ _ _,I,r⟩
def cG.here {P} {s:Sem Value} {G:Gh} {H} {w:World} {K:aD} {v} {av} (I:Inv G H w.heap) (hs:s.run P w=.ok v w) (k:K av H G.c)
  (r:bJ G w.heap v av):cG P s G H w K:=⟨v,w,hs,Good.here I k r⟩
def HS {P:Program} {t:TypeId} {i:TypeInfo} (h:P.info? t=some i) (w:World):(typeInfo t).run P w=.ok i w:=by simp[typeInfo,h]
def qZ {P:Program} {t:TypeId} {i:TypeInfo} (h:P.info? t=some i) (w:World):(sizeOf t).run P w=.ok i.size w:=by simp[sizeOf,HS h]
def FB:TypeDesc->Bool
 |.struct _|.array ..=>true
 |_=>false
def u9 {P:Program} {t:TypeId} {d:TypeDesc} (h:P.underlying t=some d) (w:World):(isAgg t).run P w=.ok (FB d) w:=by unfold isAgg;simp only[cP,run_underlying h,dL];cases d<;>rfl
def DE {P:Program} {t:TypeId} {i:TypeInfo} {z} (h:P.info? t=some i) (E:i.zero=some z) (w:World):(zeroValue t).run P w=.ok z w:=by simp[zeroValue,HS h,E]
def sW (P:Program) (t:TypeId):Option (Option Nat):=
 match P.underlying t,P.info? t with
 |some (.struct _),some i|some (.array ..),some i=>some (some i.size)
 |some _,some i=>if i.size=1 then some none else none
 |_,_=>none
def HI (P:Program) (t:TypeId):Option Nat:=(P.info? t).map (·.size)
def qC (P:Program) (t:TypeId):Option (aF AV):=do
 let i<-P.info? t
 let z<-i.zero
 let l<-z.cells.toList.mapM pW
 if l.length=i.size then some l else none
def aZ {α:Type} (l:aF α) (i:Nat) (K:α->Prop):Prop:=∃x,l[i]?=some x/\K x
def lJ (op:BinOp) (k:IntKind) (a b:Int) (K:AV->Prop):Prop:=
 match op with
 |.add=>K (.int k (k.wrap (a+b)))
 |.sub=>K (.int k (k.wrap (a-b)))
 |.mul=>K (.int k (k.wrap (a*b)))
 |.quo=>b≠0/\K (.int k (k.wrap (a.tdiv b)))
 |.rem=>b≠0/\K (.int k (a.tmod b))
 |.and=>K (.int k (k.wrap (BitVec.ofInt k.bits a &&& BitVec.ofInt k.bits b).toNat))
 |.or=>K (.int k (k.wrap (BitVec.ofInt k.bits a ||| BitVec.ofInt k.bits b).toNat))
 |.xor=>K (.int k (k.wrap (BitVec.ofInt k.bits a ^^^ BitVec.ofInt k.bits b).toNat))
 |.eql=>K (.bool (a==b))
 |.neq=>K (.bool (a !=b))
 |.lss=>K (.bool (decide (a<b)))
 |.leq=>K (.bool (decide (a<=b)))
 |.gtr=>K (.bool (decide (a>b)))
 |.geq=>K (.bool (decide (a≥b)))
 |_=>False
def tE (op:BinOp) (a b:aA) (K:AV->Prop):Prop:=
 match op with
 |.add=>a.length+b.length<=mx/\K (.str (a++b))
 |.eql=>K (.bool (a==b))
 |.neq=>K (.bool (!(a==b)))
 |.lss=>K (.bool (Op.bytesLess a b))
 |.leq=>K (.bool (Op.bytesLess a b||a==b))
 |.gtr=>K (.bool (!(Op.bytesLess a b||a==b)))
 |.geq=>K (.bool (!(Op.bytesLess a b)))
 |_=>False
def KB (op:BinOp) (a b:Bool) (K:AV->Prop):Prop:=
 match op with
 |.eql=>K (.bool (a==b))
 |.neq=>K (.bool (!(a==b)))
 |_=>False
def sT (op:BinOp) (x y:AV) (K:AV->Prop):Prop:=
 match x,y with
 |.int k a,.int E b=>
  match op with
  |.shl=>0<=b/\K (.int k (k.wrap (a*2^(min b.toNat k.bits))))
  |.shr=>0<=b/\K (.int k (a.fdiv (2^(min b.toNat k.bits))))
  |_=>k=E/\lJ op k a b K
 |.str a,.str b=>tE op a b K
 |_,_=>False
def CC (op:BinOp) (x y:AV) (K:AV->Prop):Prop:=
 match x,y with
 |.bool a,.bool b=>KB op a b K
 |_,_=>False
def tT (k:IntKind) (n:Int):qQ k (k.wrap n):=wrap_within k n
def iok_tmod {k} {a b:Int} (h:qQ k a):qQ k (a.tmod b):=by
 have E:k.min<=0/\0<=k.max:=by cases k<;>decide
 have E:=Int.natAbs_tmod a b;have E:=Nat.mod_le a.natAbs b.natAbs;rcases zZ a 0 with E|E
 .have J:(-a).tmod b = -(a.tmod b):=Int.neg_tmod a b;have J:0<=(-a).tmod b:=Int.tmod_nonneg b (by omega);exact⟨by have:=h.1;omega,by omega⟩
 .have J:0<=a.tmod b:=Int.tmod_nonneg b E;exact⟨by omega,by have:=h.2;omega⟩
def iok_shr {k} {a:Int} n (h:qQ k a):qQ k (a.fdiv (2^n)):=by
 have E:k.min<=0/\0<=k.max:=by cases k<;>decide
 have J:(0:Int)<2^n:=Int.pow_pos (by omega);rw[Int.fdiv_eq_ediv_of_nonneg a (by omega)];have E:=Int.natAbs_ediv_le_natAbs a (2^n);rcases zZ a 0 with E|E
 .have T:=Int.ediv_neg_of_neg_of_pos E J;exact⟨by have:=h.1;omega,by omega⟩
 .have T:=Int.ediv_nonneg E (by omega:(0:Int)<=2^n);exact⟨by omega,by have:=h.2;omega⟩
section
variable {P:Program} {G:Gh} {H:aC} {w:World} {K:aD}
def OZ (op:BinOp) (t:TypeId) (x y:Operand) (a b:Value) (J:¬(∃u,a=.agg u)) (E:a≠.nilIface):(eqGuard op t x y a b).run P w=.ok () w:=by unfold eqGuard;cases a<;>first|exact absurd rfl E|exact absurd ⟨_,rfl⟩ J|(cases op<;>rfl)
def MZ (op:BinOp) (k:IntKind) (a b:Int) (t:TypeId) (r:BitVec k.bits)
  (h:Op.intBits op k a b=pure (.int k (k.wrap r.toNat))) (E:op=.and\/op=.or\/op=.xor):(binOp op t (.int k a) (.int k b)).run P w=.ok (.int k (k.wrap r.toNat)) w:=by rcases E with rfl|rfl|rfl<;>(simp only[binOp,ne_eq,not_true_eq_false,if_false,h];rfl)
def int_sound {op} {k} {a b:Int} (I:Inv G H w.heap) (T:qQ k a) (E:lJ op k a b (λv=>K v H G.c)) (t:TypeId) (hs:op≠.shl) (J:op≠.shr):
  cG P (binOp op t (.int k a) (.int k b)) G H w K:=by
 cases op
 case add=>exact cG.here I (by simp[binOp,Op.intArith]) E (.int (tT _ _))
 case sub=>exact cG.here I (by simp[binOp,Op.intArith]) E (.int (tT _ _))
 case mul=>exact cG.here I (by simp[binOp,Op.intArith]) E (.int (tT _ _))
 case quo=>exact cG.here I (v:=.int k (k.wrap (a.tdiv b))) (by simp[binOp,Op.intDiv,E.1]) E.2 (.int (tT _ _))
 case rem=>exact cG.here I (v:=.int k (a.tmod b)) (by simp[binOp,Op.intDiv,E.1]) E.2 (.int (iok_tmod T))
 case and=>exact cG.here I (MZ .and k a b t _ rfl (by simp)) E (.int (tT _ _))
 case or=>exact cG.here I (MZ .or k a b t _ rfl (by simp)) E (.int (tT _ _))
 case xor=>exact cG.here I (MZ .xor k a b t _ rfl (by simp)) E (.int (tT _ _))
 case eql=>exact cG.here I (by simp[binOp,Op.intCmp]) E .bool
 case neq=>exact cG.here I (by simp[binOp,Op.intCmp]) E .bool
 case lss=>exact cG.here I (by simp[binOp,Op.intCmp]) E .bool
 case leq=>exact cG.here I (by simp[binOp,Op.intCmp]) E .bool
 case gtr=>exact cG.here I (v:=.bool (decide (a>b))) (by simp[binOp,Op.intCmp]) E .bool
 case geq=>exact cG.here I (v:=.bool (decide (a≥b))) (by simp[binOp,Op.intCmp]) E .bool
 case shl=>exact absurd rfl hs
 case shr=>exact absurd rfl J
 case andNot=>exact E.elim
def str_sound {op} {a b:ByteArray} (I:Inv G H w.heap) (E:tE op a.data.toList b.data.toList (λv=>K v H G.c)) (t:TypeId):
  cG P (binOp op t (.string a) (.string b)) G H w K:=by
 have W:a.size=a.data.toList.length:=by cases a;rfl
 have T:b.size=b.data.toList.length:=by cases b;rfl
 cases op<;>simp only[tE] at E<;>first
  |exact E.elim
  |exact cG.here I (by simp[binOp,Op.stringOp,LV]) E .bool
  |(refine cG.here I (v:=.string (a++b)) ?_ E.2 (.str (by simp) (by simp at E ⊢;omega))
    have J:=E.1;have:¬(((a.size+b.size:Nat):Int)>IntKind.i64.max):=by
     rw[W,T];unfold mx at J;simp[IntKind.max,IntKind.signed,IntKind.bits];omega
    simp[binOp,Op.stringOp];simp at this;omega)
def bin_sound {op:BinOp} {x y:Operand} {a:Act} {e:Env} {u v:cW} (I:Inv G H w.heap) (hE:kT G w.heap a e) (hx:eE x=some u) (hy:eE y=some v) (t:TypeId)
  (hk:sT op (ev e u) (ev e v) (λr=>K r H G.c)):cG P (do eqGuard op t x y (a.eval x) (a.eval y);binOp op t (a.eval x) (a.eval y)) G H w K:=by
 have rx:=eJ hE hx;have ry:=eJ hE hy
 suffices h:(¬(∃q,a.eval x=.agg q)/\a.eval x≠.nilIface)/\cG P (binOp op t (a.eval x) (a.eval y)) G H w K by
  obtain⟨⟨h1,h2⟩,z,w',h3,h4⟩:=h;exact⟨z,w',by simp only[cP,OZ op t x y _ _ h1 h2,dL,h3],h4⟩
 generalize a.eval x=vx at rx;generalize a.eval y=vy at ry;generalize ev e u=ax at rx hk;generalize ev e v=ay at ry hk;cases rx<;>simp only[sT] at hk
 case int k n hn=>
  refine⟨⟨by simp,by simp⟩,?_⟩;cases ry<;>try exact hk.elim
  rename_i k' n' hn';by_cases hs:op=.shl
  .subst hs;have h0:¬n'<0:=by have:=hk.1;omega
   exact cG.here I (v:=.int k (k.wrap (n*2^(min n'.toNat k.bits)))) (by simp[binOp,Op.shift,h0]) hk.2 (.int (tT _ _))
  .by_cases hr:op=.shr
   .subst hr;have h0:¬n'<0:=by have:=hk.1;omega
    exact cG.here I (v:=.int k (n.fdiv (2^(min n'.toNat k.bits)))) (by simp[binOp,Op.shift,h0]) hk.2 (.int (iok_shr _ hn))
   .have hk':k=k'/\lJ op k n n' (λr=>K r H G.c):=by cases op<;>first|exact hk|exact absurd rfl hs|exact absurd rfl hr
    obtain⟨rfl,hk'⟩:=hk';exact int_sound I hn hk' t hs hr
 case str s l e hl=>
  refine⟨⟨by simp,by simp⟩,?_⟩;cases ry<;>try exact hk.elim
  rename_i s' l' e' hl';subst e;subst e';exact str_sound I hk t
 all_goals (first|exact hk.elim|skip)
def X9 d {t:TypeId} (ht:P.underlying t=some .bool) b b':(Op.equalIn (d+1) t (.bool b) (.bool b')).run P w=.ok (b==b') w:=by simp only[Op.equalIn,cP,run_underlying ht,dL,dC]
def binb_sound {op} {x y} {a:Act} {e} {u v} (I:Inv G H w.heap) (W:kT G w.heap a e) (J:eE x=some u) (Z:eE y=some v) {t:TypeId} (ht:P.underlying t=some .bool)
  (E:CC op (ev e u) (ev e v) (λr=>K r H G.c)):cG P (do eqGuard op t x y (a.eval x) (a.eval y);binOp op t (a.eval x) (a.eval y)) G H w K:=by
 have T:=eJ W J;have J:=eJ W Z;generalize a.eval x=W at T;generalize a.eval y=W at J;generalize ev e u=W at T E;generalize ev e v=W at J E;cases T<;>simp only[CC] at E
 case bool b=>
  cases J<;>try exact E.elim
  rename_i T;have W:∀J,(eqGuard J t x y (.bool b) (.bool T)).run P w=.ok () w:=λJ=>OZ J t x y _ _ (by simp) (by simp);have J:(Op.equal t (.bool b) (.bool T)).run P w=.ok (b==T) w:=by
   exact X9 9999 ht b T
  cases op<;>simp only[KB] at E<;>first
   |exact E.elim
   |exact cG.here I (v:=.bool (b==T)) (by simp only[cP,W,dL,binOp,J,dC]) E .bool
   |exact cG.here I (v:=.bool (!(b==T))) (by simp only[cP,W,dL,binOp,J,dC]) E .bool
 all_goals exact E.elim
def lL (v:AV) (K:aF AV->Prop):Prop:=
 match v with
 |.agg l=>K l
 |.dS|.oE|.aX _=>False
 |a=>K [a]
def B6 {a:AV} (h:a.cell=true) (K:aF AV->Prop):lL a K=K [a]:=by cases a<;>first|rfl|cases h
def J0 {v:Value} {a} {G} {h} (r:bJ G h v a) {K:aF AV->Prop} (k:lL a K):
  ∃l,K l/\v.cells.size=l.length/\∀(j:Nat) (b:AV),l[j]?=some b->b.cell=true/\bJ G h (v.cells.getD j undef) b:=by
 by_cases J:a.cell=true
 .rw[B6 J] at k;refine⟨_,k,by rw[r.ZT J];rfl,λj b E=>?_⟩;rw[r.ZT J];cases j with
  |zero=>simp at E;subst E;exact⟨J,r⟩
  |succ j=>simp at E
 .cases r with
  |agg W T Z=>exact⟨_,k,W,λj b E=>⟨T j b E,Z j b E⟩⟩
  |_=>first|exact absurd rfl J|exact k.elim
def tG (E:Option Nat) (aM:aF AV) (o:Nat) (K:AV->Prop):Prop:=
 match E with
 |none=>aZ aM o K
 |some n=>o+n<=aM.length/\K (.agg ((aM.drop o).take n))
def lI (T:Option Nat) (x:AV) (H:aC) (K:AV->Prop):Prop:=
 match x with
 |.iP E o=>tG T E o K
 |.ptr i J w r o=>aZ H i λE=>E.tag=J/\E.mp=false/\E.w=w/\aZ E.aN r λaM=>tG T aM o K
 |_=>False
def aaR {t:TypeId} (h:sW P t=some none):∃d i,P.underlying t=some d/\P.info? t=some i/\i.size=1/\FB d=false:=by
 unfold sW at h;split at h
 .cases h
 .cases h
 .rename_i d i W T J E;split at h
  .refine⟨_,_,J,E,by assumption,?_⟩;unfold FB;split
   .rename_i E;exact(W E rfl).elim
   .rename_i n e;exact(T n e rfl).elim
   .rfl
  .cases h
 .cases h
def aaQ {t:TypeId} {n} (h:sW P t=some (some n)):∃d i,P.underlying t=some d/\P.info? t=some i/\i.size=n/\FB d=true:=by
 unfold sW at h;split at h
 .rename_i J E;cases h;exact⟨_,_,J,E,rfl,rfl⟩
 .rename_i J E;cases h;exact⟨_,_,J,E,rfl,rfl⟩
 .split at h<;>cases h
 .cases h
def VQ {E} {t:TypeId} (T:sW P t=some E) {aM:aF AV} {b p o}
  (W:∀(j:Nat) (a:AV),aM[j]?=some a->∃v,eF w.heap b (p+j)=some v/\a.cell=true/\bJ G w.heap v a) {K:AV->Prop} (hk:tG E aM o K):
  ∃u av,(loadVar t ⟨b,p+o,none⟩).run P w=.ok u w/\K av/\bJ G w.heap u av:=by
 cases E with
 |none=>
  obtain⟨d,i,h1,h2,h3,Z⟩:=aaR T;obtain⟨a,E,k⟩:=hk;obtain⟨v,J,_,r⟩:=W o a E;refine⟨v,a,?_,k,r⟩;unfold loadVar;simp only[cP,u9 h1,Z,dL,jF,if_false];exact run_loadCell P w b (p+o) v J
 |some n=>
  obtain⟨d,i,h1,h2,h3,Z⟩:=aaQ T;obtain⟨E,k⟩:=hk;have hf:∀j,j<n->eF w.heap b (p+o+j)=some ((eF w.heap b (p+o+j)).getD undef):=λj T=>by
   have E:o+j<aM.length:=by omega
   obtain⟨v,J,_⟩:=W (o+j) aM[o+j] (bC E);rw[<-v8] at J;rw[J];rfl
  refine⟨.agg ((List.range n).map λj=>(eF w.heap b (p+o+j)).getD undef).toArray,_,?_,k,.agg (by simp;omega) (λj a T=>?_) λj a T=>?_⟩
  .unfold loadVar;simp only[cP,u9 h1,Z,dL,if_true,qZ h2,h3];rw[run_loadCells P w b (p+o) n _ hf];rfl
  .have E:j<n:=by
    have:=(bQ.1 T).1;simp at this;omega
   rw[wD E,xZ] at T;obtain⟨v,J,Z,r⟩:=W (o+j) a T;exact Z
  .have E:j<n:=by
    have:=(bQ.1 T).1;simp at this;omega
   rw[wD E,xZ] at T;obtain⟨v,J,Z,r⟩:=W (o+j) a T;rw[<-v8] at J;simp[E,J,r]
def tV {h:Array Obj} {b:Nat} {c:Array Value} {e:TypeId} {fr} (E:h[b]?=some (.cells c e fr)) (o:Nat):eF h b o=c[o]?:=by simp[eF,E]
def VR (I:Inv G H w.heap) {E} {t:TypeId} (ht:sW P t=some E) {v} {x} (r:bJ G w.heap v x) {K:AV->Prop} (J:lI E x H K):
  ∃u av,(Instr.loadAt t v).run P w=.ok u w/\K av/\bJ G w.heap u av:=by
 have E:∀a,Instr.loadAt t (.pointer (some a))=loadVar t a:=λa=>rfl;cases r<;>simp only[lI] at J
 case iP tag off o cells f hF hc eF hcl hrep=>
  rw[E];exact VQ ht (aM:=cells) (λj a W=>⟨_,eF j a W,hcl j a W,hrep j a W⟩) J
 case ptr i tag wd r o hc=>
  obtain⟨ob,Z,rfl,hmp,rfl,aM,T,J⟩:=J;obtain⟨c,e,fr,h1,h2,h3,h4,h5,h6⟩:=(I.obj ob (bA Z)).oC hmp;rw[E];refine VQ ht (aM:=aM) (λj a W=>?_) J;obtain⟨v,Z,E,r⟩:=h6 r j aM a T W;exact⟨v,by rw[tV h1];exact Z,E,r⟩
 all_goals exact J.elim
def load_sound (I:Inv G H w.heap) {E} {t:TypeId} (J:sW P t=some E) {v} {x} (r:bJ G w.heap v x) (T:lI E x H (λv=>K v H G.c)):
  cG P (Instr.loadAt t v) G H w K:=by obtain⟨u,av,Z,W,E⟩:=VR I J r T;exact cG.here I Z W E
def vN (off:Nat) (x:AV) (K:AV->Prop):Prop:=
 match x with
 |.iP E o=>K (.iP E (o+off))
 |.ptr i E w r o=>K (.ptr i E w r (o+off))
 |_=>False
def y8 (P:Program) (t:TypeId) (f:Nat):Option (Nat×TypeId):=
 match P.underlying t with
 |some (.struct E)=>
  match E[f]? with
  |some x=>match P.info? x.type with
   |some i=>if i.size=0 then none else some (x.offset,x.type)
   |none=>none
  |none=>none
 |_=>none
def OW {t:TypeId} {f off:Nat} {E:TypeId} (h:y8 P t f=some (off,E)):∃J x i,P.underlying t=some (.struct J)/\J[f]?=some x/\x.offset=off/\x.type=E/\P.info? x.type=some i/\i.size≠0:=by
 unfold y8 at h;split at h
 .split at h
  .split at h
   .split at h
    .cases h
    .cases h;exact⟨_,_,_,by assumption,by assumption,rfl,rfl,by assumption,by assumption⟩
   .cases h
  .cases h
 .cases h
def faddr_sound (I:Inv G H w.heap) {t:TypeId} {f off} {J:TypeId} (E:y8 P t f=some (off,J)) {v} {x} (r:bJ G w.heap v x) (J:vN off x (λv=>K v H G.c)):
  cG P (Instr.fieldAt t v f) G H w K:=by
 obtain⟨T,fd,i,h1,Z,rfl,rfl,W,T⟩:=OW E;have E:∀b p,(Instr.fieldAt t (.pointer (some ⟨b,p,none⟩)) f).run P w=.ok (.pointer (some ⟨b,p+fd.offset,none⟩)) w:=λb p=>by
  unfold Instr.fieldAt;simp only[cP,run_underlying h1,dL,Z,Instr.sureAddr,dC,fieldPlace,qZ W,T,if_false,addr_add]
 cases r<;>simp only[vN] at J
 case iP tag p o cells f' hF hc eF hcl hrep=>exact cG.here I (by rw[E,v8]) J (.iP f' hF hc eF hcl hrep)
 case ptr i' tag wd r o hc=>exact cG.here I (by rw[E,v8]) J (.ptr hc)
 all_goals exact J.elim
def sP (w:Nat) (x i:AV) (K:AV->Prop):Prop:=
 match i with
 |.int _ n=>
  match x with
  |.dX _ T E=>T=w/\0<=n/\aZ E n.toNat λaM=>K (.iP aM 0)
  |.ref j E T J=>T=w/\0<=n/\n<J/\K (.ptr j E w n.toNat 0)
  |.sub j E T W J=>T=w/\0<=n/\n<J/\K (.ptr j E w (W+n.toNat) 0)
  |_=>False
 |_=>False
def mX (P:Program) (t:TypeId):Option (TypeId×TypeInfo):=
 match P.underlying t with
 |some (.slice e)=>(P.info? e).map λi=>(e,i)
 |_=>none
def AS {t e:TypeId} {i:TypeInfo} (h:mX P t=some (e,i)):P.underlying t=some (.slice e)/\P.info? e=some i:=by
 unfold mX at h;split at h
 .simp only[iH] at h;obtain⟨j,E,J⟩:=h;cases J;exact⟨by assumption,E⟩
 .cases h
def AW {t e:TypeId} {i:TypeInfo} (E:mX P t=some (e,i)) {b p len cap:Nat} {k:IntKind} {n:Int} (Z:0<=n) (W:n<len) (w:World):
  (Instr.indexAt t (.slice (some ⟨b,p,none⟩) len cap) (.int k n)).run P w=.ok (.pointer (some ⟨b,p+n.toNat*i.size,none⟩)) w:=by obtain⟨T,J⟩:=AS E;unfold Instr.indexAt;simp only[asIntOf,cP,dC,run_underlying T,dL,Bool.and_false,Z,W,and_self,if_true,qZ J,addr_add]
def iaddr_sound (I:Inv G H w.heap) {t e:TypeId} {i:TypeInfo} (ht:mX P t=some (e,i)) {u v:Value} {x y:AV} (r:bJ G w.heap u x) (J:bJ G w.heap v y)
  (E:sP i.size x y (λv=>K v H G.c)):cG P (Instr.indexAt t u v) G H w K:=by
 cases J<;>simp only[sP] at E
 case int k n hn=>
  cases r<;>simp only at E
  case j5=>obtain⟨_,_,_,h,_⟩:=E;simp at h
  case dX tag wd off cap aN f hF hc hlen hcap hw eF hcl hrep=>
   obtain⟨rfl,T,aM,J,E⟩:=E;have Z:n.toNat<aN.length:=(bQ.1 J).1;refine cG.here I (AW ht T (by omega) w) E ?_;refine .iP (o:=0) (off:=off+n.toNat*i.size) (tag:=tag) (λj=>f n.toNat j) hF hc (λj a W=>eF _ _ _ _ J W) (λj a W=>hcl _ _ _ _ J W) (λj a W=>hrep _ _ _ _ J W)
  case ref j tag wd len cap c e' fr hc hb J h2 h3=>
   obtain⟨rfl,T,Z,E⟩:=E;refine cG.here I (AW ht T Z w) E ?_;rw[oO];exact .ptr (o:=0) hc
  case wI=>obtain⟨_,T,J,_⟩:=E;omega
  case sub j tag wd off len cap c e' fr hc hb J h2 h3=>
   obtain⟨rfl,T,Z,E⟩:=E;refine cG.here I (AW ht T Z w) E ?_;rw[<-rW];exact .ptr (o:=0) hc
  all_goals exact E.elim
 all_goals exact E.elim
def aR (aM:aF AV) (o:Nat) (l:aF AV):aF AV:=aM.take o++l++aM.drop (o+l.length)
def T3 (aM:aF AV) o (l:aF AV) (h:o+l.length<=aM.length):(aR aM o l).length=aM.length:=by simp[aR];omega
def T4 (aM:aF AV) (o:Nat) (l:aF AV) (h:o+l.length<=aM.length) (j:Nat) (E:j<l.length):(aR aM o l)[o+j]?=l[j]?:=by unfold aR;rw[zY,qV (by simp;omega)];rw[gY (by simp;omega)];congr 1;simp;omega
def T2 (aM:aF AV) o (l:aF AV) (h:o+l.length<=aM.length) (j:Nat) (E:j<o\/o+l.length<=j):(aR aM o l)[j]?=aM[j]?:=by
 unfold aR;rcases E with E|E
 .rw[zY,gY (by simp;omega),wD E]
 .rw[qV (by simp;omega),xZ];congr 1;simp;omega
def C3 (n:Nat) (a x:AV) (H:aC) (c:Nat) (K:aD):Prop:=
 match a with
 |.ptr i J w r o=>lL x λl=>l.length=n/\aZ H i λE=>E.tag=J/\E.mp=false/\E.w=w/\aZ E.aN r λaM=>
   o+n<=w/\K .dS (H.set i {E with aN:=E.aN.set r (aR aM o l)}) c
 |_=>False
def sI {r r' n w:Nat} (h:r<r'):r*w+w<=r'*w:=by have:(r+1)*w<=r'*w:=uQ w h;rw[rW] at this;omega
def store_sound (I:Inv G H w.heap) {t:TypeId} {n:Nat} (ht:HI P t=some n) {u v:Value} {a x:AV} (T:bJ G w.heap u a) (J:bJ G w.heap v x)
  (hk:C3 n a x H G.c K):∃E,(Instr.storeAt t u v).run P w=.ok () E/\Good G H w K undef E:=by
 cases T<;>simp only[C3] at hk
 case ptr i tag wd r o hc=>
  obtain⟨l,⟨hln,E,hob,rfl,W,rfl,aM,Z,T,hk⟩,hcs,T⟩:=J0 J hk;obtain⟨c,e,fr,h1,h2,h3,h4,h5,h6⟩:=(I.obj E (bA hob)).oC W;obtain⟨J,hi',hsz⟩:∃J,P.info? t=some J/\J.size=n:=by simpa[HI] using ht
  have hrl:aM.length=E.w:=h5 r aM Z;have hr:r<E.aN.length:=(bQ.1 Z).1;have J:=sI (r:=r) (r':=E.aN.length) (n:=0) (w:=E.w) hr;have J:v.cells.toList.length=n:=by simpa[hln] using hcs
  have hin:r*E.w+o+0+v.cells.toList.length<=c.size:=by omega
  have hget:∀j (b:AV),l[j]?=some b->∃z,v.cells.toList[j]?=some z/\b.cell=true/\bJ G w.heap z b:=λj b hj=>by
   have hjl:j<l.length:=(bQ.1 hj).1;have:=T j b hj;refine⟨v.cells.getD j undef,?_,this⟩;have J:j<v.cells.size:=by omega
   simp only[Array.getD,J,dite_true];rw[uT];simp[J]
  have T:∀z,z∈v.cells.toList->z.oneCell'=true:=λz hz=>by
   obtain⟨j,hj⟩:=lS.1 hz;have hjl:j<l.length:=by have:=(bQ.1 hj).1;omega
   obtain⟨J,J,hc',r'⟩:=hget j l[j] (bC hjl);rw[hj] at J;cases J;exact r'.UX hc'
  have J:=TK P (G.m E.tag) (r*E.w+o) e fr v.cells.toList 0 w c h1 (λj hj=>h2 j (by omega)) hin T;refine⟨lG w (G.m E.tag) (.cells (putCells c (r*E.w+o+0) v.cells.toList) e fr),?_,?_⟩
  .show(do storeVar t (<-Instr.sureAddr _) v:Sem Unit).run P w = _;simp only[Instr.sureAddr,cP,dC,dL,storeVar,qZ hi',hsz,ne_eq];rw[if_neg (by simpa[hln] using hcs)];exact J
  .have hob':kA G (w.heap.setIfInBounds (G.m E.tag) (.cells (putCells c (r*E.w+o+0) v.cells.toList) e fr)) {E with aN:=E.aN.set r (aR aM o l)}:=by
    have x:fH G w.heap G (w.heap.setIfInBounds (G.m E.tag) (.cells (putCells c (r*E.w+o+0) v.cells.toList) e fr)):=
     fH.write (λu J=>I.IH (iJ (bA hob)) J) λc' e' fr' hb=>by
      rw[h1] at hb;cases hb;exact⟨_,_,rfl,tH _ _ _⟩
    refine⟨(I.obj E (bA hob)).c,λ_=>?_,λJ=>by simp[W] at J⟩;refine⟨putCells c (r*E.w+o+0) v.cells.toList,e,fr,by simp[vF h1],by simpa[tH] using h2,by simpa[tH] using h3,by simpa using h4,λr' W J=>?_,λr' j W a' J T=>?_⟩
    .simp only[r8] at J;split at J
     .rename_i hrr;subst hrr;cases J;rw[T3 _ _ _ (by omega)];exact hrl
     .exact h5 r' W J
    .simp only[r8] at J;split at J
     .rename_i hrr;subst hrr;cases J;by_cases hj:o<=j/\j<o+l.length
      .obtain⟨q,rfl⟩:∃q,j=o+q:=⟨j-o,by omega⟩
       rw[T4 _ _ _ (by omega) q (by omega)] at T;obtain⟨z,hz,hcz,rz⟩:=hget q a' T;refine⟨z,?_,hcz,rz.ext x⟩;have e1:r*E.w+(o+q)=r*E.w+o+0+q:=by omega
       rw[e1];exact HT _ _ _ _ _ hin hz
      .rw[T2 _ _ _ (by omega) j (by omega)] at T;have hjw:j<E.w:=by rw[<-hrl];exact(bQ.1 T).1
       obtain⟨z,hz,hcz,rz⟩:=h6 r j aM a' Z T;exact⟨z,by dsimp only;rw[AY _ _ _ _ (by omega)];exact hz,hcz,rz.ext x⟩
     .rename_i hrr;obtain⟨z,hz,hcz,rz⟩:=h6 r' j W a' J T;have hjw:j<E.w:=by rw[<-h5 r' W J];exact(bQ.1 T).1
      refine⟨z,?_,hcz,rz.ext x⟩;dsimp only;rw[AY]
      .exact hz
      .rcases iA r' r with J|T
       .left;have:=sI (r:=r') (r':=r) (n:=0) (w:=E.w) J;omega
       .right;have:=sI (r:=r) (r':=r') (n:=0) (w:=E.w) (by omega);omega
   obtain⟨x,J⟩:=I.write hob (ob':={E with aN:=E.aN.set r (aR aM o l)}) rfl (λc' e' fr' hb=>by rw[h1] at hb;cases hb;exact⟨_,_,rfl,tH _ _ _⟩) hob';exact⟨.dS,_,G,hk,Ext.write I hob (ob':={E with aN:=E.aN.set r (aR aM o l)}) rfl x,J,.dS⟩
 all_goals exact hk.elim
def A5 (I:Inv G H w.heap) {cs:Array Value} {e:TypeId} {wd:Nat} {aN:aF (aF AV)} (E:aN.length*wd<=cs.size) (J:aN.length<=mx)
  (W:∀(r:Nat) (aM:aF AV),aN[r]?=some aM->aM.length=wd) (Z:∀(r j:Nat) (aM:aF AV) (a:AV),aN[r]?=some aM->aM[j]?=some a->∃v,cs[r*wd+j]?=some v/\a.cell=true/\bJ G w.heap v a)
  (fr:Nat×Nat) (T:∀i:Nat,i<cs.size+(wd-1)->¬(fr.1<=i/\i<fr.2)):
  Ext G H w (G.new w.heap.size) (H++[⟨false,G.c,wd,aN⟩]) (w.alloc (.cells cs e fr))/\Inv (G.new w.heap.size) (H++[⟨false,G.c,wd,aN⟩]) (w.alloc (.cells cs e fr)).heap:=by have x:fH G w.heap (G.new w.heap.size) (w.heap.push (.cells cs e fr)):=fH.push I _ _;refine⟨Ext.push I _ _ rfl,Inv.push I _ _ rfl ⟨by simp[Gh.new],λ_=>?_,λh=>by cases h⟩⟩;refine⟨cs,e,fr,by simp[Gh.new],T,E,J,W,λr j aM a h1 W=>?_⟩;obtain⟨v,J,T,E⟩:=Z r j aM a h1 W;exact⟨v,J,T,E.ext x⟩
def U8 (w:Nat) (zero:aF AV) (H:aC) (c:Nat) (K:aD):Prop:=
 K (.ptr H.length c w 0 0) (H++[⟨false,c,w,[zero]⟩]) (c+1)
def one_row {cs:Array Value} {l:aF AV} (hs:cs.size=l.length) (T:∀(j:Nat) (b:AV),l[j]?=some b->b.cell=true/\bJ G w.heap (cs.getD j undef) b):
  ∀(r j:Nat) (aM:aF AV) (a:AV),([l]:aF (aF AV))[r]?=some aM->aM[j]?=some a->∃v,cs[r*l.length+j]?=some v/\a.cell=true/\bJ G w.heap v a:=λr j aM a E J=>by
 cases r with
 |zero=>
  simp at E;subst E;have W:j<l.length:=(bQ.1 J).1;refine⟨cs.getD j undef,?_,T j a J⟩;simp[Array.getD,hs,W]
 |succ r=>simp at E
def U9 (I:Inv G H w.heap) {t:TypeId} {v:Value} {l:aF AV} (hs:v.cells.size=l.length) (E:∀(j:Nat) (b:AV),l[j]?=some b->b.cell=true/\bJ G w.heap (v.cells.getD j undef) b)
  (J:K (.ptr H.length G.c l.length 0 0) (H++[⟨false,G.c,l.length,[l]⟩]) (G.c+1)):cG P (do pure (.pointer (some (<-newVar t v)))) G H w K:=by
 obtain⟨x,T⟩:=A5 I (cs:=v.cells) (e:=t) (wd:=l.length) (aN:=[l]) (by simp[hs]) (by unfold mx;simp)
  (λr aM h=>by cases r with|zero=>simp at h;subst h;rfl|succ r=>simp at h) (one_row hs E) (0,0) (λi _ h=>by omega)
 refine⟨.pointer (some ⟨w.heap.size,0,none⟩),_,?_,_,_,_,J,x,T,?_⟩
 .simp only[newVar,newRow,cP,run_newObj,dL,dC];rfl
 .have h:=bJ.ptr (G:=G.new w.heap.size) (h:=(w.alloc (.cells v.cells t)).heap) (i:=H.length) (tag:=G.c) (w:=l.length) (r:=0) (o:=0) (by simp[Gh.new]);simpa[Gh.new] using h
def VK:∀(l:aF Value) (r:aF AV),l.mapM pW=some r->l.length=r.length/\∀(j:Nat) (b:AV),r[j]?=some b->∃v,l[j]?=some v/\pW v=some b:=by
 intro l
 induction l with
 |nil=>intro r h;simp at h;subst h;simp
 |cons v l T=>
  intro r h;simp only[oQ,gX,dK,uO,eH] at h;obtain⟨a,W,J,E,rfl⟩:=h;obtain⟨h1,Z⟩:=T J E;refine⟨by simp[h1],λj b E=>?_⟩;cases j with
  |zero=>simp at E;subst E;exact⟨v,rfl,W⟩
  |succ j=>exact Z j b (by simpa using E)
def AD {t:TypeId} {l:aF AV} (h:qC P t=some l):∃i z,P.info? t=some i/\i.zero=some z/\l.length=i.size/\z.cells.size=l.length/\
  (∀(G:Gh) (J:Array Obj) (j:Nat) (b:AV),l[j]?=some b->b.cell=true/\bJ G J (z.cells.getD j undef) b):=by
 unfold qC at h;simp only[gX,dK] at h;obtain⟨i,W,z,T,E,E,h⟩:=h;split at h
 .cases h;obtain⟨h1,Z⟩:=VK _ _ E;refine⟨i,z,W,T,by assumption,by simpa using h1,λG J j b E=>?_⟩;obtain⟨v,T,W⟩:=Z j b E;have E:j<z.cells.size:=by have:=(bQ.1 T).1;simpa using this
  have:z.cells.getD j undef=v:=by
   simp[Array.getD,E];simpa[E] using T
  rw[this];exact⟨PJ W,ER W G J⟩
 .cases h
def new_sound (I:Inv G H w.heap) {t:TypeId} {l:aF AV} (E:qC P t=some l) (J:U8 l.length l H G.c K):cG P (Instr.alloc t true (.tuple #[])) G H w K:=by obtain⟨i,z,h1,Z,T,W,T⟩:=AD E;have:cG P (do pure (.pointer (some (<-newVar t z)))) G H w K:=U9 I W (λj b E=>T _ _ j b E) J;obtain⟨v,E,h,g⟩:=this;refine⟨v,E,?_,g⟩;unfold Instr.alloc;simp only[cP,DE h1 Z,dL];simpa[cP] using h
def J9 (x:AV) (H:aC) (c:Nat) (K:aD):Prop:=
 lL x λl=>K (.ptr H.length c l.length 0 0) (H++[⟨false,c,l.length,[l]⟩]) (c+1)
def box_sound (I:Inv G H w.heap) {t:TypeId} {v} {x} (r:bJ G w.heap v x) (T:J9 x H G.c K):cG P (Instr.box t v) G H w K:=by obtain⟨l,k,E,J⟩:=J0 r T;exact U9 I E J k
end
inductive F2 {α β:Type} (R:α->β->Prop):List α->List β->Prop
 |nil:F2 R [] []
 |cons {a:α} {b:β} {l:List α} {m:List β} (h:R a b) (t:F2 R l m):F2 R (a::l) (b::m)
section
variable {P:Program} {G:Gh} {H:aC} {w:World} {K:aD}
def rQ (G:Gh) (h:Array Obj) (cs:Array Value) (l:aF AV):Prop:=cs.size=l.length/\∀(j:Nat) (b:AV),l[j]?=some b->b.cell=true/\bJ G h (cs.getD j undef) b
def mO {cs:Array Value} {j:Nat} {v} (h:cs[j]?=some v):cs.getD j undef=v:=by obtain⟨E,J⟩:=lF.1 h;simp[Array.getD,E,J]
def nW {cs:Array Value} {j:Nat} (h:j<cs.size):cs[j]?=some (cs.getD j undef):=by simp[Array.getD,h]
def rQ.put {h} {cs} {l:aF AV} (r:rQ G h cs l) {v:Value} {m:aF AV} {off} (J:rQ G h v.cells m) (T:off+m.length<=l.length):
  rQ G h (putCells cs off v.cells.toList) (aR l off m):=by
 have E:v.cells.toList.length=m.length:=by simpa using J.1
 refine⟨by rw[tH,T3 _ _ _ T];exact r.1,λj b E=>?_⟩;by_cases W:off<=j/\j<off+m.length
 .obtain⟨q,rfl⟩:∃q,j=off+q:=⟨j-off,by omega⟩
  rw[T4 _ _ _ T q (by omega)] at E;have Z:=J.2 q b E;have W:v.cells.toList[q]?=some (v.cells.getD q undef):=by
   rw[uT];exact nW (by have:=J.1;omega)
  rw[mO (HT _ _ _ _ _ (by have:=r.1;omega) W)];exact Z
 .rw[T2 _ _ _ T j (by omega)] at E;have J:=(bQ.1 E).1;rw[mO (cs:=putCells cs off v.cells.toList) (v:=cs.getD j undef) (by rw[AY _ _ _ _ (by omega)];exact nW (by have:=r.1;omega))];exact r.2 j b E
def fold_put off:∀(l:aF Value) (k:Nat) (E:Array Value),(l.zipIdx k).foldl (λJ (x:Value×Nat)=>J.setIfInBounds (off+x.2) x.1) E=putCells E (off+k) l:=by
 intro l
 induction l with
 |nil=>intro k E;rfl
 |cons v l J=>
  intro k E;simp only[List.zipIdx_cons,List.foldl_cons,putCells];rw[J (k+1) _];rfl
def XO off (v cells:Array Value):(v.zipIdx.foldl (λE (x:Value×Nat)=>E.setIfInBounds (off+x.2) x.1) cells)=putCells cells off v.toList:=by rw[<-Array.foldl_toList,Array.toList_zipIdx];exact fold_put off v.toList 0 cells
def pD (cells:aF AV):aF (Nat×Nat×AV)->(aF AV->Prop)->Prop
 |[],K=>K cells
 |(J,n,v)::E,K=>lL v λl=>l.length=n/\J+n<=cells.length/\pD (aR cells J l) E K
def X5 {h} {J:Nat->Option (Nat×Nat)} {K:aF AV->Prop}:∀(E:aF (Nat×Value)) (Z:aF (Nat×Nat×AV)) (W:Array Value) (l:aF AV),rQ G h W l->
  F2 (λp q=>J p.1=some (q.1,q.2.1)/\bJ G h p.2 q.2.2) E Z->pD l Z K->∃T l',Instr.fill J W E=some T/\rQ G h T l'/\K l':=by
 intro E
 induction E with
 |nil=>intro Z W l r f k;cases f;exact⟨W,l,rfl,r,k⟩
 |cons p E ih=>
  intro Z W l r f k;cases f with
  |cons Z hf=>
   rename_i q qs;obtain⟨i,v⟩:=p;obtain⟨off,n,a⟩:=q;obtain⟨m,⟨E,E,k'⟩,h1,W⟩:=J0 Z.2 k;have E:rQ G h v.cells m:=⟨h1,W⟩
   have r':=r.put E (off:=off) (by omega);obtain⟨T,l',e,E,W⟩:=ih qs _ _ r' hf k';refine⟨T,l',?_,E,W⟩;have E:J i=some (off,n):=Z.1;simp only[Instr.fill,E];have E:v.cells.size=m.length:=h1;have E:=r.1;rw[if_neg (by simp;omega),XO];exact e
def placeOf (P:Program) (t:TypeId) (i:Nat):Option (Nat×Nat):=
 match P.underlying t with
 |some (.struct E)=>match E[i]? with
  |some f=>(P.info? f.type).map λx=>(f.offset,x.size)
  |none=>none
 |some (.array _ e)=>(P.info? e).map λx=>(i*x.size,x.size)
 |_=>none
def sG (P:Program) (t:TypeId):Bool:=
 match P.underlying t with
 |some (.struct E)=>E.toList.all λf=>(P.info? f.type).isSome
 |some (.array _ e)=>(P.info? e).isSome
 |_=>false
def VJ:∀(J:aF Field),(J.all λf=>(P.info? f.type).isSome)=true->
  ∃E:aF (Nat×Nat),J.mapM (λ(f:Field)=>(P.info? f.type).map λi=>(f.offset,i.size))=some E/\∀i:Nat,E[i]?=(J[i]?).bind λ(f:Field)=>(P.info? f.type).map λx=>(f.offset,x.size):=by
 intro J
 induction J with
 |nil=>intro _;exact⟨[],rfl,by simp⟩
 |cons f J J=>
  intro h;simp only[LR,eY] at h;obtain⟨E,W,T⟩:=J h.2;obtain⟨x,J⟩:=LD.1 h.1;refine⟨(f.offset,x.size)::E,by simp[oQ,J,W],λi=>?_⟩;cases i with
  |zero=>simp[J]
  |succ i=>simpa using T i
def XN {J E:Nat->Option (Nat×Nat)} {h:Array Obj} (e:∀i p,J i=some p->E i=some p) {T:aF (Nat×Value)} {W:aF (Nat×Nat×AV)}
  (f:F2 (λp q=>J p.1=some (q.1,q.2.1)/\bJ G h p.2 q.2.2) T W):F2 (λp q=>E p.1=some (q.1,q.2.1)/\bJ G h p.2 q.2.2) T W:=by
 induction f with
 |nil=>exact .nil
 |cons E _ J=>exact .cons ⟨e _ _ E.1,E.2⟩ J
def build_sound (I:Inv G H w.heap) {t:TypeId} {zero} (J:qC P t=some zero) (T:sG P t=true) {E:Array (Nat×Value)} {ps}
  (f:F2 (λp q=>placeOf P t p.1=some (q.1,q.2.1)/\bJ G w.heap p.2 q.2.2) E.toList ps) (hk:pD zero ps λl=>K (.agg l) H G.c):
  cG P (Instr.build t E) G H w K:=by
 obtain⟨W,z,h1,h2,W,W,Z⟩:=AD J;have r0:rQ G w.heap z.cells zero:=⟨W,λj b W=>Z _ _ j b W⟩
 have Z:∀(J:Nat->Option (Nat×Nat)),(∀i p,placeOf P t i=some p->J i=some p)->((∃cs,Instr.fill J z.cells E.toList=some cs)->P.built t E.toList=Instr.fill J z.cells E.toList)->
   cG P (Instr.build t E) G H w K:=λJ J hb=>by
  obtain⟨cs,l,e,r,k⟩:=X5 E.toList ps z.cells zero r0 (XN J f) hk;exact cG.here I (run_build w t E cs ((hb ⟨_,e⟩).trans e)) k (.agg r.1 (λj b W=>(r.2 j b W).1) λj b W=>(r.2 j b W).2)
 cases hu:P.underlying t with
 |none=>simp[sG,hu] at T
 |some d=>
  cases d<;>try (simp[sG,hu] at T;done)
  case array n e=>
   obtain⟨W,E⟩:=LD.1 (by simpa[sG,hu] using T);refine Z (λi=>some (i*W.size,W.size)) (λi p J=>?_) λ_=>?_
   .simpa[placeOf,hu,E] using J
   .simp[Program.built,h1,hu,h2,E]
  case struct fs=>
   obtain⟨E,J,W⟩:=VJ (P:=P) fs.toList (by simpa[sG,hu] using T);refine Z (E.toArray[·]?) (λi p E=>?_) λ_=>?_
   .simp only[LM];rw[W i];simp only[placeOf,hu] at E;rw[uT];cases hf:fs[i]? with
    |none=>simp[hf] at E
    |some x=>simpa[hf] using E
   .simp[Program.built,h1,hu,h2,J]
def uZ (aN:aF (aF AV)):aF (Nat×AV)->(aF (aF AV)->Prop)->Prop
 |[],K=>K aN
 |(i,v)::E,K=>lL v λl=>aZ aN i λaM=>l.length=aM.length/\uZ (aN.set i l) E K
structure pY (G:Gh) (h:Array Obj) (wd:Nat) (cs:Array Value) (aN:List (List AV)):Prop where
 size:cs.size=aN.length*wd
 w:∀(r:Nat) (aM:List AV),aN[r]?=some aM->aM.length=wd
 rep:∀(r j:Nat) (aM:List AV) (a:AV),aN[r]?=some aM->aM[j]?=some a->∃v,cs[r*wd+j]?=some v/\a.cell=true/\bJ G h v a
def pY.set {h} {wd} {cs} {aN:aF (aF AV)} (r:pY G h wd cs aN) {v:Value} {l:aF AV} (T:rQ G h v.cells l) (W:l.length=wd) {i} (E:i<aN.length):
  pY G h wd (putCells cs (i*wd) v.cells.toList) (aN.set i l):=by
 have J:=sI (r:=i) (r':=aN.length) (n:=0) (w:=wd) E;have E:v.cells.toList.length=wd:=by simpa[W] using T.1
 refine⟨by rw[tH];simpa using r.size,λr' aM E=>?_,λr' j aM a E J=>?_⟩
 .rw[r8] at E;split at E
  .rename_i e;subst e;cases E;exact W
  .exact r.w r' aM E
 .rw[r8] at E;split at E
  .rename_i e;subst e;cases E;have W:j<l.length:=(bQ.1 J).1;refine⟨v.cells.getD j undef,?_,T.2 j a J⟩;refine HT _ _ _ _ _ (by rw[r.size];omega) ?_;rw[uT];exact nW (by have:=T.1;omega)
  .rename_i e;obtain⟨z,W,T⟩:=r.rep r' j aM a E J;have Z:j<wd:=by rw[<-r.w r' aM E];exact(bQ.1 J).1
   refine⟨z,?_,T⟩;rw[AY]
   .exact W
   .rcases iA r' i with E|J
    .left;have:=sI (r:=r') (r':=i) (n:=0) (w:=wd) E;omega
    .right;have:=sI (r:=i) (r':=r') (n:=0) (w:=wd) (by omega);omega
def rowsFill_sound {h} {wd} {K:aF (aF AV)->Prop}:∀(T:aF (Nat×Value)) (ps:aF (Nat×AV)) (Z:Array Value) (E:aF (aF AV)),pY G h wd Z E->
  F2 (λp q=>p.1=q.1/\bJ G h p.2 q.2) T ps->uZ E ps K->∃W J,Instr.fill (λi=>some (i*wd,wd)) Z T=some W/\pY G h wd W J/\J.length=E.length/\K J:=by
 intro T
 induction T with
 |nil=>intro ps Z E r f k;cases f;exact⟨Z,E,rfl,r,rfl,k⟩
 |cons p T ih=>
  intro ps Z E r f k;cases f with
  |cons Z hf=>
   rename_i q qs;obtain⟨i,v⟩:=p;obtain⟨i',a⟩:=q;obtain⟨m,⟨aM,T,hm,k'⟩,h1,h2⟩:=J0 Z.2 k;have hi:i=i':=Z.1;subst hi;have Z:i<E.length:=(bQ.1 T).1;have hrl:=r.w i aM T;have T:rQ G h v.cells m:=⟨h1,h2⟩
   have r':=r.set T (by omega) Z;obtain⟨W,J,e,T,hl,k''⟩:=ih qs _ _ r' hf k';refine⟨W,J,?_,T,by simpa using hl,k''⟩;have J:=sI (r:=i) (r':=E.length) (n:=0) (w:=wd) Z;have E:v.cells.size=m.length:=h1;have E:=r.size;simp only[Instr.fill];rw[if_neg (by simp;omega),XO];exact e
def RN {h} {z:Array Value} {l:aF AV} (J:rQ G h z l) n:pY G h l.length ((Array.range (n*l.length)).map λi=>z[i%z.size]!) (List.replicate n l):=by
 refine⟨by simp,λr aM E=>?_,λr j aM a E T=>?_⟩
 .rw[List.getElem?_replicate] at E;split at E<;>cases E;rfl
 .rw[List.getElem?_replicate] at E;split at E<;>cases E;have W:j<l.length:=(bQ.1 T).1;rename_i E;have Z:=sI (r:=r) (r':=n) (n:=0) (w:=l.length) E;refine⟨z.getD j undef,?_,J.2 j a T⟩;have E:r*l.length+j<n*l.length:=by omega
  simp only[Array.getElem?_map,Array.getElem?_range,E,if_true,QW];have e:(r*l.length+j)%z.size=j:=by
   rw[J.1,FV,Nat.mul_add_mod,Nat.mod_eq_of_lt W]
  rw[e];have E:j<z.size:=by have:=J.1;omega
  simp[E]
def zD (w:Nat) (zero:aF AV) (len:Nat) (E:aF (Nat×AV)) (H:aC) (c:Nat) (K:aD):Prop:=
 uZ (List.replicate len zero) E λE=>K (.ref H.length c w len) (H++[⟨false,c,w,E⟩]) (c+1)
def DC {c:Array Value} {e:TypeId} {fr} {i wd len cap} (T:cap*wd<=c.size) (J:len<=cap) (E:cap<=mx):
  bJ (G.new w.heap.size) (w.alloc (.cells c e fr)).heap (.slice (some ⟨w.heap.size,0,none⟩) len cap) (.ref i G.c wd len):=by
 have h:=bJ.ref (G:=G.new w.heap.size) (h:=(w.alloc (.cells c e fr)).heap) (i:=i) (tag:=G.c) (w:=wd) (len:=len) (cap:=cap) (c:=c) (e:=e) (fr:=fr) (by simp[Gh.new])
  (by show(w.heap.push _)[(aK G.m G.c w.heap.size) G.c]? = _;rw[sA];simp) T J E
 simpa[Gh.new] using h
def bslice_sound (I:Inv G H w.heap) {t e:TypeId} {i:TypeInfo} (Z:mX P t=some (e,i)) {zero} (hz:qC P e=some zero) {len} (E:len*i.size<=16777216) (T:len<=mx)
  {E:Array (Nat×Value)} {J} (f:F2 (λp q=>p.1=q.1/\bJ G w.heap p.2 q.2) E.toList J) (hk:zD i.size zero len J H G.c K):
  cG P (Instr.buildSlice t len E) G H w K:=by
 obtain⟨h1,W⟩:=AS Z;obtain⟨Z,z,Z,q2,q3,q4,q5⟩:=AD hz;rw[W] at Z;cases Z;have r0:pY G w.heap i.size ((Array.range (len*i.size)).map λj=>z.cells[j%z.cells.size]!) (List.replicate len zero):=by
  rw[<-q3];exact RN ⟨q4,λj b Z=>q5 _ _ j b Z⟩ len
 obtain⟨cs,aN,Z,r,hl,k⟩:=rowsFill_sound E.toList J _ _ r0 f hk;simp at hl;obtain⟨x,E⟩:=A5 I (cs:=cs) (e:=e) (wd:=i.size) (aN:=aN) (by rw[r.size];omega) (by omega) r.w r.rep (0,0) (λ_ _ h=>by omega);refine⟨.slice (some ⟨w.heap.size,0,none⟩) len len,w.alloc (.cells cs e (0,0)),?_,_,_,_,k,x,E,DC (by rw[r.size,hl];omega) (bB _) T⟩;unfold Instr.buildSlice;simp only[cP,run_underlying h1,dL,qZ W];rw[if_neg (by omega)];by_cases E:len*i.size=0
 .have J:(Array.range 0:Array Nat)=#[]:=rfl;rw[E,J,RJ] at Z;simp only[E,if_true,dC,dL,J,RJ,Z,newRow,cP,run_newObj];rfl
 .simp only[E,if_false,cP,DE W q2,dL,dC,Z,newRow,run_newObj];rfl
def JL (off:Nat) (J:Option Nat) (x:AV) (K:AV->Prop):Prop:=
 match x with
 |.agg E=>tG J E off K
 |_=>False
def field_sound (I:Inv G H w.heap) {t:TypeId} {f off} {E:TypeId} (J:y8 P t f=some (off,E)) {W} (T:sW P E=some W) {v} {x} (r:bJ G w.heap v x)
  (hk:JL off W x (λv=>K v H G.c)):cG P (Instr.field t v f) G H w K:=by
 obtain⟨E,E,i,h1,Z,rfl,rfl,h3,h4⟩:=OW J;cases r<;>simp only[JL] at hk
 case agg cs cells hs hcl hr=>
  have J:(Instr.field t (.agg cs) f).run P w=(part E.type cs E.offset).run P w:=by
   unfold Instr.field;simp only[cP,run_underlying h1,dL,Z,asAgg,dC]
  cases W with
  |none=>
   obtain⟨d,i',q1,q2,q3,q4⟩:=aaR T;obtain⟨a,Z,k⟩:=hk;have W:E.offset<cs.size:=by rw[hs];exact(bQ.1 Z).1
   refine cG.here I (v:=cs.getD E.offset undef) ?_ k (hr _ _ Z);rw[J];unfold part;simp only[cP,u9 q1,q4,dL,jF,if_false,nW W,dC]
  |some n=>
   obtain⟨d,i',q1,q2,q3,q4⟩:=aaQ T;obtain⟨W,k⟩:=hk;have T:∀(j:Nat) (b:AV),((cells.drop E.offset).take n)[j]?=some b->j<n/\cells[E.offset+j]?=some b:=λj b Z=>by
    have W:j<n:=by have:=(bQ.1 Z).1;simp at this;omega
    rw[wD W,xZ] at Z;exact⟨W,Z⟩
   refine cG.here I (v:=.agg (cs.extract E.offset (E.offset+n))) ?_ k (.agg (by simp;omega) (λj b Z=>hcl _ _ (T j b Z).2) λj b Z=>?_)
   .rw[J];unfold part;simp only[cP,u9 q1,q4,dL,if_true,qZ q2,q3,dC]
   .obtain⟨W,J⟩:=T j b Z;have T:=(bQ.1 J).1;have:=hr _ _ J;have e:(cs.extract E.offset (E.offset+n)).getD j undef=cs.getD (E.offset+j) undef:=by
     refine mO ?_;rw[Array.getElem?_extract];rw[if_pos (by omega)];exact nW (by omega)
    rw[e];exact this
 all_goals exact hk.elim
def BI (x i:AV) (K:AV->Prop):Prop:=
 match x,i with
 |.str l,.int _ n=>0<=n/\aZ l n.toNat λb=>K (.int .u8 b.toNat)
 |_,_=>False
def ba_get {s:ByteArray} {n:Nat}:s[n]?=s.data.toList[n]?:=by
 by_cases h:n<s.size
 .rw[ByteArray.getElem?_lt' s n h];have:n<s.data.toList.length:=by simpa using h
  rw[bC this];rfl
 .rw[ByteArray.getElem?_ge' s n h];rw[CR (by simpa using h)]
def OA (b:UInt8):qQ .u8 b.toNat:=by have:=b.toNat_lt;constructor<;>simp[IntKind.min,IntKind.max,IntKind.signed,IntKind.bits];omega
def index_sound (I:Inv G H w.heap) {t:TypeId} (W:P.underlying t=some .string) {u v} {x i} (J:bJ G w.heap u x) (T:bJ G w.heap v i) (E:BI x i (λv=>K v H G.c)):
  cG P (Instr.index t u v) G H w K:=by
 cases J<;>simp only[BI] at E
 case str s l e hl=>
  cases T<;>simp only at E
  case int k n hn=>
   obtain⟨Z,b,T,J⟩:=E;subst e;refine cG.here I (v:=.int .u8 b.toNat) ?_ J (.int (OA b));unfold Instr.index;simp only[asIntOf,cP,dC,run_underlying W,dL,Z,if_true,ba_get,T]
  all_goals exact E.elim
 all_goals exact E.elim
def fP (x:Option AV) (d:Nat) (K:Nat->Prop):Prop:=
 match x with
 |none=>K d
 |some (.int _ n)=>0<=n/\K n.toNat
 |_=>False
def yK (x:AV) (E J:Option AV) (K:AV->Prop):Prop:=
 match x with
 |.str l=>fP E 0 λa=>fP J l.length λb=>a<=b/\b<=l.length/\K (.str ((l.take b).drop a))
 |_=>False
def qX (w:Nat) (x:AV) (W Z:Option AV) (K:AV->Prop):Prop:=
 match x with
 |.dX J T E=>T=w/\fP W 0 λa=>fP Z E.length λb=>a<=b/\b<=E.length/\K (.dX J T ((E.take b).drop a))
 |.ref i J T E=>T=w/\fP W 0 λa=>fP Z E λb=>if a=0 then b<=E/\K (.ref i J T b) else a<=b/\b<=E/\K (.sub i J T a (b-a))
 |_=>False
inductive vW (G:Gh) (h:Array Obj):Option Value->Option AV->Prop
 |none:vW G h none none
 |some {v:Value} {a:AV} (r:bJ G h v a):vW G h (some v) (some a)
def KA {b} {E J} {x y} {len cap d:Nat} (T:vW G w.heap E x) (ry:vW G w.heap J y) {Z:Nat->Nat->Prop}
  (k:fP x 0 λa=>fP y len λc=>a<=c/\c<=cap/\Z a c):∃a c,a<=c/\c<=cap/\Z a c/\(Instr.sliceBounds b len cap E J none).run P w=.ok (a,c,cap) w:=by
 cases T with
 |none=>
  cases ry with
  |none=>
   obtain⟨T,J,E⟩:(0<=len/\len<=cap/\Z 0 len):=k;exact⟨0,len,T,J,E,by simp[Instr.sliceBounds]⟩
  |some r=>
   cases r<;>simp only[fP] at k
   case int kk n hn=>
    obtain⟨h0,T,J,E⟩:=k;refine⟨0,n.toNat,T,J,E,?_⟩;have W:0<=n/\n<=cap:=by omega
    simp[Instr.sliceBounds,Instr.sliceBound,asIntOf,W]
   all_goals exact k.elim
 |some r=>
  cases r<;>simp only[fP] at k
  case int kk n hn=>
   obtain⟨h0,k⟩:=k;cases ry with
   |none=>
    obtain⟨T,J,E⟩:n.toNat<=len/\len<=cap/\Z n.toNat len:=k;refine⟨n.toNat,len,T,J,E,?_⟩;have W:0<=n/\n<=len:=by omega
    simp[Instr.sliceBounds,Instr.sliceBound,asIntOf,W]
   |some Z=>
    cases Z<;>simp only at k
    case int kk' m hm=>
     obtain⟨Z,T,J,E⟩:=k;refine⟨n.toNat,m.toNat,T,J,E,?_⟩;have W:0<=m/\m<=cap:=by omega
     have E:0<=n/\n<=(m.toNat:Int):=by omega
     simp only[Instr.sliceBounds,Instr.sliceBound,asIntOf,cP,dC,dL,W,and_self,if_true,E,QX,jF,if_false]
    all_goals exact k.elim
  all_goals exact k.elim
def CB {x} {d} {K E:Nat->Prop} (h:∀n,K n->E n) (k:fP x d K):fP x d E:=by
 unfold fP at *;split at k
 .exact h _ k
 .exact⟨k.1,h _ k.2⟩
 .exact k.elim
def ba_extract (s:ByteArray) a b (h:b<=s.size):(s.extract a b).data.toList=(s.data.toList.take b).drop a:=by rw[ByteArray.data_extract,Array.toList_extract];simp[List.drop_take]
def strSlice_sound (I:Inv G H w.heap) {t:TypeId} (ht:P.underlying t=some .string) {u} {E T} {x} {y z} (rx:bJ G w.heap u x) (Z:vW G w.heap E y) (W:vW G w.heap T z)
  (J:yK x y z (λv=>K v H G.c)):cG P (Instr.sliceAt t u E T none) G H w K:=by
 cases rx<;>simp only[yK] at J
 case str s l e hl=>
  subst e;have E:s.data.toList.length=s.size:=by cases s;rfl
  rw[E] at J;obtain⟨a,b,E,h2,T,E⟩:=KA (P:=P) (b:=false) (d:=0) Z W J;refine cG.here I (v:=.string (s.extract a b)) ?_ T (.str (ba_extract s a b h2) (by simp;omega));unfold Instr.sliceAt;simp only[cP,run_underlying ht,dL,Instr.slice,QX,jF,if_false,dC,E]
 all_goals exact J.elim
def HO {t e:TypeId} {i:TypeInfo} (T:mX P t=some (e,i)) {a:Option Addr} {len cap} {E J} {l h} (W:(Instr.sliceBounds true len cap E J none).run P w=.ok (l,h,cap) w):
  (Instr.sliceAt t (.slice a len cap) E J none).run P w=.ok (.slice (if cap=l then a else a.map (·.add (l*i.size))) (h-l) (cap-l)) w:=by obtain⟨J,E⟩:=AS T;unfold Instr.sliceAt;simp only[cP,run_underlying J,dL,Instr.slice,W,qZ E,dC]
def HG (w:Nat) (x h m:AV) (K:AV->Prop):Prop:=
 match x,h,m with
 |.ref i t J E,.int _ a,.int _ b=>J=w/\0<=a/\a<=b/\b<=E/\K (.ref i t w a.toNat)
 |_,_,_=>False
def slice3W_inv {w:Nat} {x h m:AV} {K:AV->Prop} (J:HG w x h m K):∃i t E k a T b,x=.ref i t w E/\h=.int k a/\m=.int T b/\0<=a/\a<=b/\b<=(E:Int)/\K (.ref i t w a.toNat):=by
 unfold HG at J;split at J
 .obtain⟨rfl,Z,W,T,E⟩:=J;exact⟨_,_,_,_,_,_,_,rfl,rfl,rfl,Z,W,T,E⟩
 .exact J.elim
def slice3_sound (I:Inv G H w.heap) {t e:TypeId} {i:TypeInfo} (ht:mX P t=some (e,i)) {u hv mv} {x y z} (rx:bJ G w.heap u x) (ry:bJ G w.heap hv y)
  (rz:bJ G w.heap mv z) (hk:HG i.size x y z (λv=>K v H G.c)):cG P (Instr.sliceAt t u none (some hv) (some mv)) G H w K:=by
 obtain⟨j,tag,len,k,a,k',b,rfl,rfl,rfl,g0,g1,g2,hk⟩:=slice3W_inv hk;cases ry;cases rz;cases rx with
 |@ref _ _ _ _ cap c e' fr hc hb h1 h2 h3=>
  obtain⟨q1,q2⟩:=AS ht;have hm:0<=b/\b<=cap:=by omega
  have hh:0<=a/\a<=(b.toNat:Int):=by omega
  have hrun:(Instr.sliceBounds true len cap none (some (.int k a)) (some (.int k' b))).run P w=.ok (0,a.toNat,b.toNat) w:=by
   simp only[Instr.sliceBounds,Instr.sliceBound,asIntOf,cP,dC,dL,hm,and_self,if_true,hh]
  refine cG.here I (v:=.slice (some ⟨G.m tag,0,none⟩) a.toNat b.toNat) ?_ hk (.ref hc hb (cL (uQ _ (by omega)) h1) (by omega) (by omega));unfold Instr.sliceAt;simp only[cP,run_underlying q1,dL,Instr.slice,hrun,qZ q2,dC];have e1:(if b.toNat=0 then some (⟨G.m tag,0,none⟩:Addr) else (some (⟨G.m tag,0,none⟩:Addr)).map (·.add (0*i.size)))=some ⟨G.m tag,0,none⟩:=by
   split
   .rfl
   .simp[addr_add]
  rw[e1,LF,LF]
def slcSlice_sound (I:Inv G H w.heap) {t e:TypeId} {i:TypeInfo} (ht:mX P t=some (e,i)) {u} {E J} {x} {y z} (T:bJ G w.heap u x) (ry:vW G w.heap E y)
  (rz:vW G w.heap J z) (W:qX i.size x y z (λv=>K v H G.c)):cG P (Instr.sliceAt t u E J none) G H w K:=by
 cases T<;>simp only[qX] at W
 case j5 a cap tag wd=>
  obtain⟨rfl,W⟩:=W;have T:fP y 0 λa=>fP z 0 λb=>a<=b/\b<=cap/\(b=0/\K (.dX tag i.size []) H G.c):=
   CB (λ_ k=>CB (λn k=>⟨k.1,by have:=k.2.1;simp at this;omega,by simpa using k.2.1,by simpa using k.2.2⟩) k) W
  obtain⟨l,h,h1,h2,⟨rfl,Z⟩,E⟩:=KA (P:=P) (b:=true) (d:=0) ry rz T;have J:l=0:=by omega
  subst J;exact cG.here I (HO ht E) Z .j5
 case dX tag wd off cap aN f hF hc hlen hcap hw eF hcl hrep=>
  obtain⟨rfl,W⟩:=W;have T:fP y 0 λa=>fP z aN.length λb=>a<=b/\b<=cap/\(b<=aN.length/\K (.dX tag i.size ((aN.take b).drop a)) H G.c):=
   CB (λ_ k=>CB (λn k=>⟨k.1,by have:=k.2.1;omega,k.2.1,k.2.2⟩) k) W
  obtain⟨l,h,h1,h2,⟨h3,Z⟩,E⟩:=KA (P:=P) (b:=true) (d:=0) ry rz T;refine cG.here I (HO ht E) Z ?_;by_cases he:h=l
  .subst he;have:(aN.take h).drop h=[]:=by apply LO;simp;omega
   rw[this,QY];exact .j5
  .rw[if_neg (by omega)];simp only[QW,addr_add];have hl':((aN.take h).drop l).length=h-l:=by simp;omega
   have hg:∀(r:Nat) (aM:aF AV),((aN.take h).drop l)[r]?=some aM->aN[l+r]?=some aM:=λr aM J=>by
    have:=(bQ.1 J).1;rw[xZ,wD (by omega)] at J;exact J
   rw[<-hl'];refine .dX (λr o=>f (l+r) o) hF hc (by omega) (by omega) (λr aM J=>hw _ _ (hg r aM J)) (λr o aM a J ha=>?_) (λr o aM a J ha=>hcl _ _ _ _ (hg r aM J) ha) (λr o aM a J ha=>hrep _ _ _ _ (hg r aM J) ha);have:=eF _ _ _ _ (hg r aM J) ha;rw[<-this];congr 1;rw[rW];omega
 case ref j tag wd len cap c e' fr hc hb h1 h2 h3=>
  obtain⟨rfl,W⟩:=W;have T:fP y 0 λa=>fP z len λb=>a<=b/\b<=cap/\(b<=len/\if a=0 then K (.ref j tag i.size b) H G.c else K (.sub j tag i.size a (b-a)) H G.c):=
   CB (λa k=>CB (λb k=>by
    by_cases ha:a=0
    .rw[if_pos ha] at k ⊢;exact⟨by omega,by omega,k.1,k.2⟩
    .rw[if_neg ha] at k ⊢;exact⟨k.1,by omega,k.2.1,k.2.2⟩) k) W
  obtain⟨l,h,J,J,⟨J,Z⟩,E⟩:=KA (P:=P) (b:=true) (d:=0) ry rz T;by_cases J:l=0;rotate_left
  .rw[if_neg J] at Z;refine cG.here I (HO ht E) Z ?_;by_cases he:h=l
   .subst he;rw[QY];exact .wI
   rw[if_neg (by omega)];simp only[QW,addr_add,oO];refine .sub hc hb ?_ (by omega) (by omega);rw[show l+(cap-l)=cap by omega];exact h1
  subst J;rw[if_pos rfl] at Z;refine cG.here I (HO ht E) Z ?_;have E:(if cap=0 then some (⟨G.m tag,0,none⟩:Addr) else (some (⟨G.m tag,0,none⟩:Addr)).map (·.add (0*i.size)))=some ⟨G.m tag,0,none⟩:=by
   split
   .rfl
   .simp[addr_add]
  rw[E,LF,LF];exact .ref hc hb h1 (by omega) (by omega)
 all_goals exact W.elim
def oW {n} (h:n<=mx):qQ .i64 n:=by unfold mx at h;constructor<;>simp[IntKind.min,IntKind.max,IntKind.signed,IntKind.bits]<;>omega
def lenOk (P:Program) (t:TypeId):Bool:=
 match P.underlying t with
 |some .string|some (.slice _)|some (.map ..)=>true
 |_=>false
def yX (P:Program) (t:TypeId):Bool:=match P.underlying t with|some .string=>true|_=>false
def yY (P:Program) (t:TypeId):Bool:=match P.underlying t with|some (.slice _)=>true|_=>false
def I6 (P:Program) (t:TypeId):Bool:=match P.underlying t with|some (.map ..)=>true|_=>false
def I5 {t:TypeId} (h:yX P t=true):P.underlying t=some .string:=by unfold yX at h;split at h<;>first|assumption|cases h
def N5 {t:TypeId} (h:yY P t=true):∃e,P.underlying t=some (.slice e):=by unfold yY at h;split at h<;>first|exact⟨_,by assumption⟩|cases h
def isMapT_spec {t:TypeId} (h:I6 P t=true):∃k e,P.underlying t=some (.map k e):=by unfold I6 at h;split at h<;>first|exact⟨_,_,by assumption⟩|cases h
def wX (x:AV) (K:AV->Prop):Prop:=match x with|.str l=>K (.I l.length)|_=>False
def oV (x:AV) (K:AV->Prop):Prop:=
 match x with
 |.dX _ _ E=>K (.I E.length)
 |.ref _ _ _ E=>K (.I E)
 |.sub _ _ _ _ E=>K (.I E)
 |.aU=>K (.I 0)
 |_=>False
def yU (x:AV) (H:aC) (K:AV->Prop):Prop:=
 match x with
 |.jG i E=>aZ H i λJ=>J.tag=E/\J.mp=true/\K (.I J.aN.length)
 |_=>False
def lenStr_sound (I:Inv G H w.heap) {t ty:TypeId} (ht:yX P t=true) {v:Value} {x:AV} (r:bJ G w.heap v x) (hk:wX x (λv=>K v H G.c)):cG P (Builtin.len_ #[t] ty #[v]) G H w K:=by
 cases r<;>simp only[wX] at hk
 case str s l e hl=>
  subst e;exact cG.here I (v:=.int .i64 s.data.toList.length) (by simp[Builtin.len_,run_underlying (I5 ht),goInt]) hk (.int (oW hl))
 all_goals exact hk.elim
def lenSlc_sound (I:Inv G H w.heap) {t ty:TypeId} (ht:yY P t=true) {v:Value} {x:AV} (r:bJ G w.heap v x) (hk:oV x (λv=>K v H G.c)):cG P (Builtin.len_ #[t] ty #[v]) G H w K:=by
 obtain⟨e,he⟩:=N5 ht;cases r<;>simp only[oV] at hk
 case aU=>exact cG.here I (v:=.int .i64 0) (by simp[Builtin.len_,run_underlying he,goInt]) hk (.int (oW (n:=0) (kH _)))
 case j5=>exact cG.here I (v:=.int .i64 0) (by simp[Builtin.len_,run_underlying he,goInt]) hk (.int (oW (n:=0) (kH _)))
 case dX tag wd off cap aN f hF hc hlen hcap hw eF hcl hrep=>
  exact cG.here I (v:=.int .i64 aN.length) (by simp[Builtin.len_,run_underlying he,goInt]) hk (.int (oW hlen))
 case ref j tag wd len cap c e' fr hc hb h1 h2 h3=>
  exact cG.here I (v:=.int .i64 len) (by simp[Builtin.len_,run_underlying he,goInt]) hk (.int (oW (cL h2 h3)))
 case wI=>exact cG.here I (v:=.int .i64 0) (by simp[Builtin.len_,run_underlying he,goInt]) hk (.int (oW (n:=0) (kH _)))
 case sub j tag wd off len cap c e' fr hc hb h1 h2 h3=>
  exact cG.here I (v:=.int .i64 len) (by simp[Builtin.len_,run_underlying he,goInt]) hk (.int (oW h3))
 all_goals exact hk.elim
def lenMap_sound (I:Inv G H w.heap) {t ty:TypeId} (ht:I6 P t=true) {v:Value} {x:AV} (r:bJ G w.heap v x) (hk:yU x H (λv=>K v H G.c)):cG P (Builtin.len_ #[t] ty #[v]) G H w K:=by
 obtain⟨ke,e,he⟩:=isMapT_spec ht;cases r<;>simp only[yU] at hk
 case jG i tag hc=>
  obtain⟨ob,hob,rfl,hmp,hk⟩:=hk;obtain⟨es,clock,h1,h2,h3,h4⟩:=(I.obj ob (bA hob)).sJ hmp;refine cG.here I (v:=.int .i64 ob.aN.length) ?_ hk (.int (oW h3));have hg:(getObj (G.m ob.tag)).run P w=.ok (.map es clock) w:=by simp only[getObj,Sem.run,h1]
  simp[Builtin.len_,run_underlying he,goInt,hg,h2]
 all_goals exact hk.elim
def y9 (x:AV) (i:Nat) (K:AV->Prop):Prop:=match x with|.aX E=>aZ E i K|_=>False
def extract_sound (I:Inv G H w.heap) {v} {x} {i} (r:bJ G w.heap v x) (E:y9 x i (λv=>K v H G.c)):cG P (Instr.extract v i) G H w K:=by
 cases r<;>simp only[y9] at E
 case aX cs vs hs hr=>
  obtain⟨a,J,k⟩:=E;have T:i<cs.size:=by rw[hs];exact(bQ.1 J).1
  exact cG.here I (v:=cs.getD i undef) (by unfold Instr.extract;simp only[nW T,dC]) k (hr _ _ J)
 all_goals exact E.elim
def iQ (b:UInt8):aF AV:=[.int .u8 b.toNat]
def mW (wd:Nat) (y:AV) (H:aC) (K:aF (aF AV)->Prop):Prop:=
 match y with
 |.dX _ T E=>T=wd/\K E
 |.ref j W T J=>T=wd/\aZ H j λE=>E.tag=W/\E.mp=false/\E.w=T/\J<=E.aN.length/\K (E.aN.take J)
 |.sub j W T Z J=>T=wd/\aZ H j λE=>E.tag=W/\E.mp=false/\E.w=T/\Z+J<=E.aN.length/\K ((E.aN.drop Z).take J)
 |.aU=>K []
 |.str l=>wd=1/\K (l.map iQ)
 |_=>False
def XT {n wd j:Nat} (h:j<n*wd):j/wd<n/\j%wd<wd/\j=j/wd*wd+j%wd:=by
 have J:0<wd:=by
  rcases Q4 wd with E|E
  .subst E;simp at h
  .exact E
 refine⟨(Nat.div_lt_iff_lt_mul J).2 h,Nat.mod_lt _ J,?_⟩;have:=Nat.div_add_mod j wd;rw[FV] at this;omega
def NT {b off wd:Nat} {aN:aF (aF AV)} (hw:∀(r:Nat) (aM:aF AV),aN[r]?=some aM->aM.length=wd)
  (hr:∀(r j:Nat) (aM:aF AV) (a:AV),aN[r]?=some aM->aM[j]?=some a->∃v,eF w.heap b (off+r*wd+j)=some v/\a.cell=true/\bJ G w.heap v a):
  ∃E,(∀J:World,J.heap=w.heap->(loadCells ⟨b,off,none⟩ (aN.length*wd)).run P J=.ok E J)/\pY G w.heap wd E aN:=by
 have hf:∀j,j<aN.length*wd->eF w.heap b (off+j)=some ((eF w.heap b (off+j)).getD undef):=λj Z=>by
  obtain⟨W,h2,h3⟩:=XT Z;have E:aN[j/wd]?=some aN[j/wd]:=bC W;have T:=hw _ _ E;obtain⟨v,T,_⟩:=hr (j/wd) (j%wd) _ _ E (bC (by omega));rw[v8,<-h3] at T;rw[T];rfl
 refine⟨_,λJ e=>run_loadCells P J b off _ _ (λj Z=>by rw[e];exact hf j Z),⟨by simp,hw,λr j aM a W h2=>?_⟩⟩;obtain⟨v,T,J,E⟩:=hr r j aM a W h2;refine⟨v,?_,J,E⟩;have Z:j<wd:=by rw[<-hw r aM W];exact(bQ.1 h2).1
 have E:r<aN.length:=(bQ.1 W).1;have J:=sI (r:=r) (r':=aN.length) (n:=0) (w:=wd) E;have E:r*wd+j<aN.length*wd:=by omega
 rw[v8] at T;simp[E,T]
def SG (I:Inv G H w.heap) {wd} {v} {y} (r:bJ G w.heap v y) {T:aF (aF AV)->Prop} (E:mW wd y H T):
  ∃cs aN,(∀J:World,J.heap=w.heap->(Builtin.lenOf v).run P J=.ok aN.length J/\(Builtin.firstCells wd aN.length v).run P J=.ok cs J)/\pY G w.heap wd cs aN/\T aN:=by
 cases r<;>simp only[mW] at E
 case aU=>exact⟨#[],[],λ_ _=>⟨rfl,rfl⟩,⟨by simp,by simp,by simp⟩,E⟩
 case j5 a cap tag J=>
  obtain⟨rfl,E⟩:=E;refine⟨#[],[],λJ _=>⟨rfl,?_⟩,⟨by simp,by simp,by simp⟩,E⟩;cases a with
  |none=>rfl
  |some a=>simp[Builtin.firstCells,loadCells,loadCellsFrom]
 case dX tag J off cap aN f hF hc W hcap hw eF Z hrep=>
  obtain⟨rfl,E⟩:=E;obtain⟨cs,h1,h2⟩:=NT (P:=P) (w:=w) (G:=G) hw (λr j aM a q1 q2=>⟨_,eF r j aM a q1 q2,Z r j aM a q1 q2,hrep r j aM a q1 q2⟩);exact⟨cs,aN,λJ e=>⟨rfl,h1 J e⟩,h2,E⟩
 case ref j tag J len cap c e fr hc hb h1 h2 h3=>
  obtain⟨rfl,T,hob,rfl,hmp,hw',W,E⟩:=E;subst hw';obtain⟨c',e',fr',q1,q2,q3,q4,q5,q6⟩:=(I.obj T (bA hob)).oC hmp;have hl:(T.aN.take len).length=len:=by simp;omega
  have hg:∀(r:Nat) (aM:aF AV),(T.aN.take len)[r]?=some aM->T.aN[r]?=some aM:=λr aM h=>by
   have:=(bQ.1 h).1
   rwa [wD (by omega)] at h
  obtain⟨cs,p1,p2⟩:=NT (P:=P) (w:=w) (G:=G) (b:=G.m T.tag) (off:=0) (wd:=T.w) (aN:=T.aN.take len) (λr aM h=>q5 r aM (hg r aM h)) (λr j aM a h ha=>by
   obtain⟨v,hv,Z,rv⟩:=q6 r j aM a (hg r aM h) ha;exact⟨v,by rw[tV q1,oO];exact hv,Z,rv⟩)
  rw[hl] at p1;exact⟨cs,T.aN.take len,λJ e=>⟨by rw[hl];rfl,by rw[hl];exact p1 J e⟩,p2,E⟩
 case wI a j tag J off cap=>
  obtain⟨rfl,T,hob,rfl,hmp,hw',W,E⟩:=E;rw[List.take_zero] at E;refine⟨#[],[],λJ _=>⟨rfl,?_⟩,⟨by simp,by simp,by simp⟩,E⟩;cases a with
  |none=>rfl
  |some a=>simp[Builtin.firstCells,loadCells,loadCellsFrom]
 case sub j tag J off len cap c e fr hc hb h1 h2 h3=>
  obtain⟨rfl,T,hob,rfl,hmp,hw',W,E⟩:=E;subst hw';obtain⟨c',e',fr',q1,q2,q3,q4,q5,q6⟩:=(I.obj T (bA hob)).oC hmp;have hl:((T.aN.drop off).take len).length=len:=by simp;omega
  have hg:∀(r:Nat) (aM:aF AV),((T.aN.drop off).take len)[r]?=some aM->T.aN[off+r]?=some aM:=λr aM h=>by
   have:=(bQ.1 h).1
   rwa [wD (by omega),xZ] at h
  obtain⟨cs,p1,p2⟩:=NT (P:=P) (w:=w) (G:=G) (b:=G.m T.tag) (off:=off*T.w) (wd:=T.w) (aN:=(T.aN.drop off).take len) (λr aM h=>q5 _ aM (hg r aM h)) (λr j aM a h ha=>by
   obtain⟨v,hv,Z,rv⟩:=q6 _ j aM a (hg r aM h) ha;exact⟨v,by rw[tV q1,<-rW];exact hv,Z,rv⟩)
  rw[hl] at p1;exact⟨cs,(T.aN.drop off).take len,λJ e=>⟨by rw[hl];rfl,by rw[hl];exact p1 J e⟩,p2,E⟩
 case str s l e hl=>
  obtain⟨rfl,E⟩:=E;subst e;have T:s.data.toList.length=s.size:=by cases s;rfl
  refine⟨s.data.map λb=>.int .u8 b.toNat,s.data.toList.map iQ,λJ _=>⟨by simp[Builtin.lenOf],?_⟩,⟨by simp,λr aM h=>?_,λr j aM a h ha=>?_⟩,E⟩
  .have:s.extract 0 s.size=s:=by
    apply ByteArray.ext;rw[ByteArray.data_extract];exact Array.extract_size
   simp only[Builtin.firstCells,nR,T,this,dC]
  .simp at h;obtain⟨b,_,rfl⟩:=h;rfl
  .simp at h;obtain⟨b,hb,rfl⟩:=h;cases j with
   |zero=>
    simp[iQ] at ha;subst ha;refine⟨.int .u8 b.toNat,?_,rfl,.int (OA b)⟩;simp;exact⟨b,by rw[<-uT];simpa using hb,rfl⟩
   |succ j=>simp[iQ] at ha
 all_goals exact E.elim
def pV (aN:aF (aF AV)) (n:Nat) (K:aF (aF AV)->Prop):Prop:=n<=aN.length/\K (aN.take n)
def uG (wd J:Nat) (x y:AV) (H:aC) (c:Nat) (K:aD):Prop:=
 mW wd y H λE=>
  match x with
  |.aU=>(E=[]->K .aU H c)/\(E≠[]->E.length*J<=140737488355328/\E.length<=mx/\K (.ref H.length c wd E.length) (H++[⟨false,c,wd,E⟩]) (c+1))
  |.ref i Z w' T=>w'=wd/\aZ H i λW=>W.tag=Z/\W.mp=false/\W.w=w'/\pV W.aN T λW=>(T+E.length)*J<=140737488355328/\T+E.length<=mx/\
    K (.ref i c wd (T+E.length)) (H.set i ⟨false,c,wd,W++E⟩) (c+1)
  |_=>False
def rows_append {h} {wd} {cs E} {aN rows'} (r:pY G h wd cs aN) (r':pY G h wd E rows'):pY G h wd (cs++E) (aN++rows'):=by
 refine⟨by simp[r.size,r'.size,rW],λi aM E=>?_,λi j aM a E T=>?_⟩
 .rw[yA] at E;split at E
  .exact r.w i aM E
  .exact r'.w _ aM E
 .rw[yA] at E;have J:=(bQ.1 T).1;split at E
  .rename_i W;obtain⟨v,J,x⟩:=r.rep i j aM a E T;exact⟨v,by rw[AA (lF.1 J).1];exact J,x⟩
  .rename_i W;obtain⟨v,J,x⟩:=r'.rep _ j aM a E T;refine⟨v,?_,x⟩;have e:i*wd+j=cs.size+((i-aN.length)*wd+j):=by
    have:i=aN.length+(i-aN.length):=by omega
    rw[r.size]
    conv=>lhs;rw[this,rW]
    omega
   rw[e,Array.getElem?_append_right (by omega),FX];exact J
def run_append_fits {t J e ty:TypeId} {i:TypeInfo} (h1:P.underlying t=some (.slice e)) (h2:P.info? e=some i) {d:TypeDesc} (Z:P.underlying J=some d) (E:∀k,d≠.int k)
  {v} {n} {cs:Array Value} (s1:(Builtin.lenOf v).run P w=.ok n w) (W:(Builtin.firstCells i.size n v).run P w=.ok cs w) (E:Option Addr) sLen sCap (hf:sLen+n<=sCap):
  (Builtin.append_ #[t,J] ty #[.slice E sLen sCap,v]).run P w=
   (match E with
    |some a=>(storeCells (a.add (sLen*i.size)) cs.toList).run P w
    |none=>.ok () w).andThen λ_ T=>.ok (.slice E (sLen+n) sCap) T:=by
 unfold Builtin.append_;have g0:(#[t,J]:Array TypeId)[0]?=some t:=rfl;have g1:(#[t,J]:Array TypeId)[1]?=some J:=rfl;have T:(#[.slice E sLen sCap,v]:Array Value)[0]?=some (.slice E sLen sCap):=rfl;have J:(#[.slice E sLen sCap,v]:Array Value)[1]?=some v:=rfl;simp only[g0,g1,T,J,cP,run_underlying h1,run_underlying Z,qZ h2,dL];simp only[dC,dL,jF,if_false,cP,s1,hf,if_true,CU,W];cases E with
 |none=>simp only[dC,dL]
 |some a=>simp only[cP,dC]
def TL {t T e ty:TypeId} {i:TypeInfo} (h1:P.underlying t=some (.slice e)) (h2:P.info? e=some i) {z:Value} (hz:i.zero=some z) {d:TypeDesc} (hd:P.underlying T=some d) (E:∀k,d≠.int k)
  {v} {n} {cs old} (s1:(Builtin.lenOf v).run P w=.ok n w) (s2:(Builtin.firstCells i.size n v).run P w.drew=.ok cs w.drew) (E:Option Addr) sLen sCap
  (s3:(Builtin.firstCells i.size sLen (.slice E sLen sCap)).run P w.drew=.ok old w.drew) (hf:¬sLen+n<=sCap) (hb:(sLen+n)*i.bytes<=140737488355328) (hm:sLen+n<=mx):
  ∃J,sLen+n<=J/\J<=mx/\(Builtin.append_ #[t,T] ty #[.slice E sLen sCap,v]).run P w=
   .ok (.slice (some ⟨w.heap.size,0,none⟩) (sLen+n) J) (w.drew.alloc (.cells (old++cs++Builtin.zeroCells z.cells (J-(sLen+n))) e)):=by
 refine⟨(Question.appendCap (sLen+n) sCap e).cut (w.tape w.drawn (.appendCap (sLen+n) sCap e)),by simp only[Question.cut];omega,?_,?_⟩
 .have J:=Nat.mod_lt (w.tape w.drawn (.appendCap (sLen+n) sCap e)) (show 0<2^63-(sLen+n) by unfold mx at hm;omega);simp only[Question.cut];unfold mx at hm ⊢;omega
 have J:=growslice_fits (by omega:sCap<sLen+n) hb;have J:¬(((sLen+n:Nat):Int)>IntKind.i64.max):=by
  unfold mx at hm;simp[IntKind.max,IntKind.signed,IntKind.bits];omega
 have W:¬(Builtin.nextslicecap (sLen+n) sCap*i.bytes>2^48):=by omega
 have Z:(Question.appendCap (sLen+n) sCap e).forced=false:=rfl;unfold Builtin.append_;have g0:(#[t,T]:Array TypeId)[0]?=some t:=rfl;have g1:(#[t,T]:Array TypeId)[1]?=some T:=rfl;have v0:(#[.slice E sLen sCap,v]:Array Value)[0]?=some (.slice E sLen sCap):=rfl;have T:(#[.slice E sLen sCap,v]:Array Value)[1]?=some v:=rfl;simp only[g0,g1,v0,T,cP,run_underlying h1,run_underlying hd,qZ h2,dL];simp only[dC,dL,jF,if_false,cP,s1,hf,HS h2,J,false_and,W,run_choose,Z,World.drew_eq,run_askRoom,s3,CU,if_true,s2,DE h2 hz,newRow,
  run_newObj,World.alloc_eq]
 rfl
def fH.new (G:Gh) (h:Array Obj) b:fH G h (G.new b) h where
 c:=by simp[Gh.new]
 m t ht:=by simp[Gh.new,kD _ _ _ (zR ht)]
 F t _ hF:=hF
 gE t _ _:=rfl
 shape b c e fr hb:=⟨c,fr,hb,rfl⟩
def kA.take {h} {ob:aH} (k:kA G h ob) (J:ob.mp=false) n:kA G h {ob with aN:=ob.aN.take n} where
 c:=k.c
 oC _:=by
  obtain⟨c,e,fr,h1,h2,h3,h4,h5,Z⟩:=k.oC J;have T:(ob.aN.take n).length<=ob.aN.length:=by simp;omega
  have W:∀(r:Nat) (aM:aF AV),(ob.aN.take n)[r]?=some aM->ob.aN[r]?=some aM:=λr aM E=>by
   rw[GB] at E;split at E
   .exact E
   .cases E
  exact⟨c,e,fr,h1,h2,cL (uQ _ T) h3,cL T h4,λr aM E=>h5 r aM (W r aM E),λr j aM a E T=>Z r j aM a (W r aM E) T⟩
 sJ h:=by have E:ob.mp=true:=h;rw[J] at E;cases E
def Inv.take {h} (I:Inv G H h) {i:Nat} {ob:aH} (J:H[i]?=some ob) (W:ob.mp=false) n:Inv G (H.set i {ob with aN:=ob.aN.take n}) h:=by
 have E:aV (H.set i {ob with aN:=ob.aN.take n})=aV H:=AQ J rfl;refine⟨I.fz,λo T=>?_,by rw[E];exact I.nY,by rw[E];exact I.nodup,by rw[E];exact I.inj,I.gl⟩;rcases mem_set I.nodup J T with rfl|⟨E,_⟩
 .exact(I.obj ob (bA J)).take W n
 .exact I.obj o E
def cG.of_tags {E} {s} (h:aV E=aV H) (r:cG P s G E w K):cG P s G H w K:=by obtain⟨v,J,E,av,W,G',k,x,Z,T⟩:=r;refine⟨v,J,E,av,W,G',k,⟨x.x,x.os,x.tape,x.output,x.size,λb W J=>x.frame b W (by rw[h];exact J),λt E J=>?_,λt E J=>h▸x.j6 t E J,λt E J=>h▸x.nV t E J⟩,Z,T⟩;have:=x.mL t E J;rw[h] at this;exact this
def append_sound (I:Inv G H w.heap) {t E e ty:TypeId} {i:TypeInfo} (ht:mX P t=some (e,i)) {zero:aF AV} (hz:qC P e=some zero)
  {d:TypeDesc} (hd:P.underlying E=some d) (hdi:∀k,d≠.int k) {u v:Value} {x y:AV} (T:bJ G w.heap u x) (J:bJ G w.heap v y)
  (hk:uG i.size i.bytes x y H G.c K):cG P (Builtin.append_ #[t,E] ty #[u,v]) G H w K:=by
 obtain⟨h1,h2⟩:=AS ht;obtain⟨E,z,E,q2,Z,W,q5⟩:=AD hz;rw[h2] at E;cases E;obtain⟨cs,E,s1,s3,s4⟩:=SG (P:=P) I J hk;have zrow:∀n,(Builtin.zeroCells z.cells n).size=n*i.size:=λn=>by simp[Builtin.zeroCells,W,Z]
 cases T<;>simp only at s4
 case aU=>
  by_cases T:E=[]
  .refine cG.here I ?_ (s4.1 T) .aU;have:=run_append_fits (ty:=ty) h1 h2 hd hdi (s1 w rfl).1 (s1 w rfl).2 none 0 0 (by simp[T]);rw[this];simp[T]
  .obtain⟨hb,hm,k⟩:=s4.2 T;have J:¬0+E.length<=0:=by
    cases E with
    |nil=>exact absurd rfl T
    |cons a l=>simp
   obtain⟨cap,hcap,hcm,hrun⟩:=TL (ty:=ty) h1 h2 q2 hd hdi (s1 w rfl).1 (s1 w.drew rfl).2 none 0 0 (old:=#[]) rfl J (by simpa using hb) (by simpa using hm);obtain⟨x,T⟩:=A5 (w:=w.drew) I (cs:=#[]++cs++Builtin.zeroCells z.cells (cap-(0+E.length))) (e:=e) (wd:=i.size) (aN:=E) (by simp[s3.size]) hm s3.w (λr j aM a ha hb=>by
    obtain⟨v,J,x⟩:=s3.rep r j aM a ha hb;exact⟨v,by rw[Array.empty_append,AA (lF.1 J).1];exact J,x⟩) (0,0) (λ_ _ h=>by omega)
   refine⟨_,_,hrun,_,_,_,k,{x with},T,?_⟩;rw[oO];refine DC (w:=w.drew) ?_ (by omega) hcm;simp only[Array.empty_append,RI,s3.size,zrow];rw[<-rW];exact Q3 (by congr 1;omega)
 case ref j tag wd len cap c e' fr hc hb h3 h4 h5=>
  obtain⟨rfl,Z,hob1,htag1,hmp1,hw1,hle1,hby,hm,k1⟩:=s4;obtain⟨H0,J,I,hob,htag,hmp,W,T,k,hback⟩:∃(H0:aC) (J:aH),Inv G H0 w.heap/\H0[j]?=some J/\J.tag=tag/\J.mp=false/\J.w=i.size/\J.aN.length=len/\
    K (.ref j G.c i.size (len+E.length)) (H0.set j ⟨false,G.c,i.size,J.aN++E⟩) (G.c+1)/\aV H0=aV H:=by
   have hjl:j<H.length:=(bQ.1 hob1).1;refine⟨H.set j {Z with aN:=Z.aN.take len},{Z with aN:=Z.aN.take len},I.take hob1 hmp1 len,eP hjl,htag1,hmp1,hw1,?_,?_,AQ hob1 rfl⟩
   .show(Z.aN.take len).length=len;rw[Q6];exact Nat.min_eq_left hle1
   .rw[List.set_set];exact k1
  refine cG.of_tags hback ?_;subst htag;obtain⟨Z,Z,Z,Z,p2,p3,p4,p5,p6⟩:=(I.obj J (bA hob)).oC hmp;rw[hb] at Z;cases Z;have hmem:=bA hob;have hold:pY G w.heap J.w (c.extract 0 (len*J.w)) J.aN:=by
   refine⟨by rw[T,Array.size_extract];rw[T] at p3;omega,p5,λr q aM a hr ha=>?_⟩;obtain⟨v',Z,x⟩:=p6 r q aM a hr ha;refine⟨v',?_,x⟩;have hq:q<J.w:=by rw[<-p5 r aM hr];exact(bQ.1 ha).1
   have hrl:r<len:=by rw[<-T];exact(bQ.1 hr).1
   have hm':=sI (r:=r) (r':=len) (n:=0) (w:=J.w) hrl;rw[Array.getElem?_extract,if_pos (by rw[T] at p3;omega),oO];exact Z
  have hall:=rows_append hold (W▸s3);by_cases hf:len+E.length<=cap
  .
   have hone:∀z,z∈cs.toList->z.oneCell'=true:=λz hz=>by
    obtain⟨q,hq⟩:=lS.1 hz;have hql:q<E.length*i.size:=by have:=(bQ.1 hq).1;simpa[s3.size] using this
    obtain⟨a1,a2,a3⟩:=XT hql;have hrow:E[q/i.size]?=some E[q/i.size]:=bC a1;have hl:=s3.w _ _ hrow;obtain⟨v',Z,hcl,rv⟩:=s3.rep _ (q%i.size) _ _ hrow (bC (by omega));rw[<-a3] at Z;rw[uT,Z] at hq;cases hq;exact rv.UX hcl
   have hin:0+len*i.size+0+cs.toList.length<=c.size:=by
    have:(len+E.length)*i.size<=cap*i.size:=uQ _ hf;rw[rW] at this;have h3':cap*i.size<=c.size:=h3;simp[s3.size];omega
   have hstore:=TK P (G.m J.tag) (0+len*i.size) e' fr cs.toList 0 w c hb (λj hj=>p2 j (by omega)) hin hone;have hrun:=run_append_fits (ty:=ty) h1 h2 hd hdi (s1 w rfl).1 (s1 w rfl).2 (some ⟨G.m J.tag,0,none⟩) len cap hf;simp only[addr_add,hstore,dL] at hrun;have x0:fH G w.heap G (w.heap.setIfInBounds (G.m J.tag) (.cells (putCells c (0+len*i.size+0) cs.toList) e' fr)):=
    fH.write (λu hF=>I.IH (iJ hmem) hF) λ_ _ _ hb'=>by rw[hb] at hb';cases hb';exact⟨_,_,rfl,tH _ _ _⟩
   have x1:=x0.trans (fH.new G _ (G.m J.tag));have hob':kA (G.new (G.m J.tag)) (w.heap.setIfInBounds (G.m J.tag) (.cells (putCells c (0+len*i.size+0) cs.toList) e' fr)) ⟨false,G.c,i.size,J.aN++E⟩:=by
    refine⟨by simp[Gh.new],λ_=>?_,λh=>by cases h⟩;refine⟨putCells c (0+len*i.size+0) cs.toList,e',fr,by simp[Gh.new,vF hb],by have p2':=p2;rw[W] at p2';simpa[tH] using p2',?_,by simp;omega,λr aM hr=>?_,λr q aM a hr ha=>?_⟩
    .simp only[tH,kW,T,rW];simp[s3.size] at hin;omega
    .exact W▸hall.w r aM hr
    .have hq:q<i.size:=by rw[<-W,<-hall.w r aM hr];exact(bQ.1 ha).1
     dsimp only at hr ⊢;rw[yA] at hr;split at hr
     .rename_i hl;obtain⟨v',Z,hcl,rv⟩:=p6 r q aM a hr ha;refine⟨v',?_,hcl,rv.ext x1⟩;have hm':=sI (r:=r) (r':=len) (n:=0) (w:=i.size) (by omega);rw[AY _ _ _ _ (by omega),<-W];exact Z
     .rename_i hl;obtain⟨v',Z,hcl,rv⟩:=s3.rep _ q aM a hr ha;refine⟨v',?_,hcl,rv.ext x1⟩;have e1:r*i.size+q=0+len*i.size+0+((r-J.aN.length)*i.size+q):=by
       have:r=len+(r-J.aN.length):=by omega
       conv=>lhs;rw[this,rW]
       omega
      rw[e1];exact HT _ _ _ _ _ hin (by rw[uT];exact Z)
   refine⟨_,_,hrun,_,_,G.new (G.m J.tag),k,?_,?_,?_⟩
   .exact Ext.grow I hob rfl (.inl rfl) x1 rfl rfl rfl (by simp[lG]) (λk hk hne=>uU (Ne.symm hne))
   .refine Inv.grow I hob (ob':=⟨false,G.c,i.size,J.aN++E⟩) rfl (by simp[lG,vF hb]) (.inl rfl) x1 (λt ht hne=>?_) (by simp[lG]) hob';refine uU λe=>hne ?_;exact(I.inj _ _ (.inr (iJ hmem)) (.inr ht) e).symm
   .have h:=bJ.ref (G:=G.new (G.m J.tag)) (h:=w.heap.setIfInBounds (G.m J.tag) (.cells (putCells c (0+len*i.size+0) cs.toList) e' fr)) (i:=j) (tag:=G.c) (w:=i.size) (len:=len+E.length) (cap:=cap)
     (c:=putCells c (0+len*i.size+0) cs.toList) (e:=e') (fr:=fr) (by simp[Gh.new]) (by simp[Gh.new,vF hb]) (by rw[tH];exact h3) hf h5
    simpa[Gh.new,lG] using h
  .
   have hold':(Builtin.firstCells i.size len (.slice (some ⟨G.m J.tag,0,none⟩) len cap)).run P w.drew=.ok (c.extract 0 (len*J.w)) w.drew:=by
    have hfc:∀q,q<len*i.size->eF w.heap (G.m J.tag) (0+q)=some (c.getD q undef):=λq hq=>by
     rw[tV hb,oO];refine nW ?_;rw[T,W] at p3;omega
    have:=run_loadCells P w.drew (G.m J.tag) 0 (len*i.size) (λq=>c.getD q undef) hfc;simp only[Builtin.firstCells];rw[this];congr 1;rw[T,W] at p3;apply LX;intro q;rw[Array.getElem?_extract,W,oO];by_cases hq:q<len*i.size
    .rw[if_pos (by omega)];have:c[q]?=some (c.getD q undef):=nW (by omega);rw[this,LM,kL,List.getElem?_range hq];rfl
    .rw[if_neg (by omega),LM,CR (by simp;omega)]
   obtain⟨cap',hcap,hcm,hrun⟩:=TL (ty:=ty) h1 h2 q2 hd hdi (s1 w rfl).1 (s1 w.drew rfl).2 (some ⟨G.m J.tag,0,none⟩) len cap hold' hf hby hm;have x1:fH G w.heap (G.new w.heap.size) (w.heap.push (.cells (c.extract 0 (len*J.w)++cs++Builtin.zeroCells z.cells (cap'-(len+E.length))) e)):=fH.push I _ _;have hsz:(c.extract 0 (len*J.w)++cs).size=(len+E.length)*i.size:=by
    have:=hall.size;rw[kW,T,W] at this;rw[W];exact this
   have hob':kA (G.new w.heap.size) (w.heap.push (.cells (c.extract 0 (len*J.w)++cs++Builtin.zeroCells z.cells (cap'-(len+E.length))) e)) ⟨false,G.c,i.size,J.aN++E⟩:=by
    refine⟨by simp[Gh.new],λ_=>?_,λh=>by cases h⟩;refine⟨c.extract 0 (len*J.w)++cs++Builtin.zeroCells z.cells (cap'-(len+E.length)),e,(0,0),by simp[Gh.new],λ_ _ h=>by omega,?_,by simp;omega,λr aM hr=>W▸hall.w r aM hr,λr q aM a hr ha=>?_⟩
    .rw[RI,hsz];simp only[kW,T];omega
    .obtain⟨v',Z,hcl,rv⟩:=hall.rep r q aM a hr ha;rw[W] at Z;refine⟨v',?_,hcl,rv.ext x1⟩;rw[W,AA (lF.1 Z).1];exact Z
   refine⟨_,_,hrun,_,_,G.new w.heap.size,k,?_,?_,?_⟩
   .exact Ext.grow I hob rfl (.inr (bB _)) x1 rfl rfl rfl (by simp) (λk hk _=>AZ hk)
   .exact Inv.grow I hob (ob':=⟨false,G.c,i.size,J.aN++E⟩) rfl (by simp) (.inr (bB _)) x1 (λt ht _=>AZ (by obtain⟨J,E,rfl⟩:=qF ht;exact(I.obj J E).block)) (by simp) hob'
   .refine DC (w:=w.drew) ?_ hcap hcm;rw[RI,hsz,zrow,<-rW];exact Q3 (by congr 1;omega)
 all_goals exact s4.elim
def IN (wd:Nat) (zero:aF AV) (E:Nat) (l c:AV) (H:aC) (cl:Nat) (K:aD):Prop:=
 match l,c with
 |.int _ n,.int _ m=>0<=n/\n<=m/\m<=281474976710656/\m.toNat*E<=281474976710656/\K (.ref H.length cl wd n.toNat) (H++[⟨false,cl,wd,List.replicate n.toNat zero⟩]) (cl+1)
 |_,_=>False
def mkslice_sound (I:Inv G H w.heap) {t e:TypeId} {i:TypeInfo} (E:mX P t=some (e,i)) {zero} (hz:qC P e=some zero) {u v} {x y} (Z:bJ G w.heap u x) (J:bJ G w.heap v y)
  (T:IN i.size zero i.bytes x y H G.c K):cG P (Instr.makeSlice t u v) G H w K:=by
 obtain⟨h1,W⟩:=AS E;obtain⟨E,z,E,q2,q3,q4,q5⟩:=AD hz;rw[W] at E;cases E;cases Z<;>simp only[IN] at T
 case int k n hn=>
  cases J<;>simp only at T
  case int k' m hm=>
   obtain⟨E,E,E,E,T⟩:=T;have en:IntKind.i64.wrap n=n:=IntWalk.i64_in n (by omega);have em:IntKind.i64.wrap m=m:=IntWalk.i64_in m (by omega);have E:(i.bytes:Int)*m<=281474976710656:=by
    have:((m.toNat*i.bytes:Nat):Int)<=281474976710656:=by omega
    rw[Int.natCast_mul,Int.toNat_of_nonneg (by omega),Int.mul_comm] at this;exact this
   have Z:pY G w.heap i.size ((Array.range (m.toNat*i.size)).map λj=>z.cells[j%z.cells.size]!) (List.replicate m.toNat zero):=by
    rw[<-q3];exact RN ⟨q4,λj b E=>q5 _ _ j b E⟩ m.toNat
   have hle:n.toNat*i.size<=m.toNat*i.size:=uQ _ (by omega);have E:∀(r:Nat) (aM:aF AV),(List.replicate n.toNat zero)[r]?=some aM->(List.replicate m.toNat zero)[r]?=some aM:=λr aM h=>by
    rw[List.getElem?_replicate] at h ⊢;split at h
    .rw[if_pos (by omega)];exact h
    .cases h
   have J:=Z.size;simp only[List.length_replicate] at J;obtain⟨x,I'⟩:=A5 I (cs:=(Array.range (m.toNat*i.size)).map λj=>z.cells[j%z.cells.size]!) (e:=e) (wd:=i.size) (aN:=List.replicate n.toNat zero) (by rw[J];simpa using hle)
    (by unfold mx;simp;omega) (λr aM h=>Z.w r aM (E r aM h)) (λr j aM a h ha=>Z.rep r j aM a (E r aM h) ha) (0,0) (λ_ _ h=>by omega)
   refine⟨.slice (some ⟨w.heap.size,0,none⟩) n.toNat m.toNat,_,?_,_,_,_,T,x,I',DC (by rw[J];exact bB _) (by omega) (by unfold mx;omega)⟩;have E:((decide (m<0)||decide ((i.bytes:Int)*m>2^48))||decide (n<0)||decide (n>m))=false:=by
    simp;omega
   unfold Instr.makeSlice;simp only[cP,run_underlying h1,dL,asInt,asIntOf,dC,HS W,en,em,E,jF,if_false,run_askRoom,qZ W];by_cases E:m.toNat*i.size=0
   .have J:(Array.range 0:Array Nat)=#[]:=rfl;simp only[E,if_true,dC,dL,J,RJ,newRow,cP,run_newObj];rfl
   .simp only[E,if_false,cP,DE W q2,dL,dC,newRow,run_newObj];rfl
  all_goals exact T.elim
 all_goals exact T.elim
def yE (op:UnOp) (x:AV) (K:AV->Prop):Prop:=
 match op,x with
 |.not,.bool b=>K (.bool (!b))
 |.neg,.int k n=>K (.int k (k.wrap (0-n)))
 |_,_=>False
def un_sound (I:Inv G H w.heap) {op} {v} {x} (r:bJ G w.heap v x) (E:yE op x (λv=>K v H G.c)):cG P (Op.unary op v) G H w K:=by
 cases r<;>cases op<;>simp only[yE] at E<;>first
  |exact E.elim
  |exact cG.here I (v:=.bool (!_)) (by simp only[Op.unary,dC]) E .bool
  |exact cG.here I (v:=.int _ (IntKind.wrap _ (0-_))) (by simp only[Op.unary,Op.intArith,dC]) E (.int (tT _ _))
def AJ (k:IntKind) (x:AV) (K:AV->Prop):Prop:=match x with|.int _ n=>K (.int k (k.wrap n))|_=>False
def toInt_sound (I:Inv G H w.heap) {E J:TypeId} {d:TypeDesc} {k} (hs:P.underlying E=some d) (W:P.underlying J=some (.int k)) {v} {x} (r:bJ G w.heap v x)
  (T:AJ k x (λv=>K v H G.c)):cG P (convert E J v) G H w K:=by
 cases r<;>simp only[AJ] at T
 case int k' n hn=>
  refine cG.here I (v:=.int k (k.wrap n)) ?_ T (.int (tT _ _));unfold convert;simp only[cP,run_underlying hs,run_underlying W,dL,Conv.intToInt,dC]
 all_goals exact T.elim
def sC (x:AV) (H:aC) (K:AV->Prop):Prop:=
 match x with
 |.dX _ _ _|.ref _ _ _ _|.aU=>mW 1 x H λE=>∃l:aA,E=l.map iQ/\l.length<=mx/\K (.str l)
 |_=>False
def fold_bytes:∀(l:aA) (s:ByteArray),((l.map λb=>(b.toNat:Int)).foldl (λr n=>r.push (UInt8.ofNat n.toNat)) s).data.toList=s.data.toList++l:=by
 intro l
 induction l with
 |nil=>intro s;simp
 |cons b l E=>intro s;simp only[gJ,List.foldl_cons];rw[E];simp[ByteArray.push]
def toStr_sound (I:Inv G H w.heap) {src dst e:TypeId} (hs:P.underlying src=some (.slice e)) (he:P.underlying e=some (.int .u8)) (hd:P.underlying dst=some .string) {v:Value} {x:AV} (r:bJ G w.heap v x)
  (hk:sC x H (λv=>K v H G.c)):cG P (convert src dst v) G H w K:=by
 have hk':mW 1 x H λaN=>∃l:aA,aN=l.map iQ/\l.length<=mx/\K (.str l) H G.c:=by
  cases x<;>simp only[sC] at hk<;>first|exact hk.elim|exact hk
 obtain⟨cs,aN,s1,s2,l,rfl,hl,k⟩:=SG (P:=P) I r hk';have hcs:cs=(l.map λb=>Value.int .u8 (b.toNat:Int)).toArray:=by
  apply LX;intro j;by_cases hj:j<l.length
  .have hrow:(l.map iQ)[j]?=some (iQ l[j]):=by simp[hj]
   obtain⟨z,hz,_,rz⟩:=s2.rep j 0 _ (.int .u8 l[j].toNat) hrow rfl;cases rz;simp only[Q0,FW] at hz;rw[hz];simp[hj]
  .have hsz:cs.size=l.length:=by simpa using s2.size
   rw[z8 (by omega),z8 (by simp;omega)]
 have hload:=(s1 w rfl).2;have key:∀a len cap,v=.slice a len cap->len=l.length->cG P (convert src dst v) G H w K:=λa len cap hv hlen=>by
  subst hv;cases a with
  |none=>
   have h0:l=[]:=by
    have h1:(Builtin.firstCells 1 l.length (.slice none len cap)).run P w=.ok #[] w:=rfl;have h2:=hload;rw[nR] at h2;rw[h1] at h2;have:cs=#[]:=by cases h2;rfl
    rw[this] at hcs;cases l with
    |nil=>rfl
    |cons b l=>simp at hcs
   subst h0;refine cG.here I (v:=.string .empty) ?_ k (.str rfl hl);rw[run_convert_bytes_string w src dst e none len cap hs he hd];rfl
  |some a=>
   have h2:=hload;rw[nR,<-hlen] at h2;simp only[Builtin.firstCells,Q0] at h2;rw[hcs] at h2;have h3:=run_bytesToString (P:=P) w a len cap (l.map λb=>(b.toNat:Int)) (by rw[h2];simp);refine cG.here I ?_ k (.str (fold_bytes l ByteArray.empty) hl);rw[run_convert_bytes_string w src dst e (some a) len cap hs he hd];exact h3
 have hlenv:=(s1 w rfl).1;rw[nR] at hlenv;have hlenOf:∀a len cap,v=.slice a len cap->len=l.length:=λa len cap hv=>by
  subst hv;have h1:(Builtin.lenOf (.slice a len cap)).run P w=.ok len w:=rfl;rw[h1] at hlenv;cases hlenv;rfl
 cases r<;>first
  |exact key _ _ _ rfl (hlenOf _ _ _ rfl)
  |(simp only[sC] at hk)
def AK (x:AV) (H:aC) (c:Nat) (K:aD):Prop:=
 match x with
 |.str l=>K (.ref H.length c 1 l.length) (H++[⟨false,c,1,l.map iQ⟩]) (c+1)
 |_=>False
def toBytes_sound (I:Inv G H w.heap) {E J e:TypeId} {d:TypeDesc} (hs:P.underlying E=some .string) (hd:P.underlying J=some (.slice e)) (he:P.underlying e=some (.int .u8)) {v} {x} (r:bJ G w.heap v x)
  (Z:AK x H G.c K):cG P (convert E J v) G H w K:=by
 cases r<;>simp only[AK] at Z
 case str s l hl he'=>
  subst hl;have W:s.data.toList.length=s.size:=by cases s;rfl
  generalize E:(Question.appendCap s.size 0 e).cut (w.tape w.drawn (.appendCap s.size 0 e))=cap;have T:s.size<=cap:=by rw[<-E];simp only[Question.cut];omega
  have hcm:cap<=mx:=by
   have J:=Nat.mod_lt (w.tape w.drawn (.appendCap s.size 0 e)) (show 0<2^63-s.size by unfold mx at he';omega);rw[<-E];simp only[Question.cut];unfold mx at he' ⊢;omega
  let cs:Array Value:=(s.data.map λb=>Value.int .u8 b.toNat)++Array.replicate (cap-s.size) (.int .u8 0)
  have J:cs.size=cap:=by simp[cs];omega
  obtain⟨x,I'⟩:=A5 (w:=w.drew) I (cs:=cs) (e:=e) (wd:=1) (aN:=s.data.toList.map iQ) (by simp[J,T]) (by simpa using he')
   (λr aM h=>by simp at h;obtain⟨b,_,rfl⟩:=h;rfl)
   (λr j aM a h ha=>by
    simp at h;obtain⟨b,hb,rfl⟩:=h;cases j with
    |zero=>
     simp[iQ] at ha;subst ha;have hr:r<s.size:=by have:=(lF.1 hb).1;simpa using this
     refine⟨.int .u8 b.toNat,?_,rfl,.int (OA b)⟩;simp only[cs,Q0,FW];rw[AA (by simpa using hr),Array.getElem?_map,hb];rfl
    |succ j=>simp[iQ] at ha) (cap,cap+1) (λi hi h=>by omega)
  refine⟨.slice (some ⟨w.heap.size,0,none⟩) s.size cap,_,?_,_,_,_,Z,{x with},I',?_⟩
  .unfold convert;simp only[cP,run_underlying hs,run_underlying hd,dL,run_underlying he,Conv.stringToBytes,run_choose,Question.forced,jF,if_false,E,World.drew_eq,newRow,run_newObj,World.alloc_eq,
    dC,markStringish,run_shape]
   have E:(w.drew.alloc (.cells cs e)).shape? w.heap.size=some (e,cap):=by
    simp only[World.shape?,World.alloc,World.drew,GI,if_true,J]
   have hfr:(w.drew.alloc (.cells cs e)).freeze ⟨w.heap.size,cap,none⟩ 1=w.drew.alloc (.cells cs e (cap,cap+1)):=by
    unfold World.freeze World.alloc World.drew;simp only[Nat.succ_ne_zero,if_false];congr 1;apply LX;intro j;rw[RM,GI,GI];by_cases hj:w.heap.size=j
    .subst hj;simp
    .simp[hj,Ne.symm hj]
   show Result.andThen (Sem.run P (match (w.drew.alloc (.cells cs e)).shape? w.heap.size with|some (_,n)=>freeze {block:=w.heap.size,off:=n} 1|_=>pure ()) (w.drew.alloc (.cells cs e))) _ = _;rw[E];simp only[run_freeze,dL,hfr];rfl
  .have:=DC (G:=G) (w:=w.drew) (c:=cs) (e:=e) (fr:=(cap,cap+1)) (i:=H.length) (wd:=1) (len:=s.size) (cap:=cap) (by rw[J,Q0];exact bB _) T hcm;rw[W];exact this
 all_goals exact Z.elim
def iM:AV->AV->Option Bool
 |.str a,.str b=>some (a==b)
 |.int k a,.int E b=>if k=E then some (a==b) else none
 |.bool a,.bool b=>some (a==b)
 |.agg [.bool a,.int k n,.str s],.agg [.bool W,.int E T,.str J]=>if k=E then some (a==W&&(n==T&&s==J)) else none
 |_,_=>none
def jM (k:AV):aF (aF AV)->Nat->Option (Option (Nat×AV))
 |[],_=>some none
 |[J,v]::E,i=>
  match iM k J with
  |some true=>some (some (i,v))
  |some false=>jM k E (i+1)
  |none=>none
 |_::_,_=>none
def yW:TypeDesc->Bool
 |.string|.int _|.bool=>true
 |_=>false
def w9 (P:Program) (t:TypeId):Bool:=match P.underlying t with|some .string|some (.int _)|some .bool=>true|_=>false
def lC (d:TypeDesc) (k:AV):Bool:=
 match d,k with
 |.string,.str _|.int _,.int _ _|.bool,.bool _=>true
 |.struct _,.agg [.bool _,.int _ _,.str _]=>true
 |_,_=>false
def P7 (a b:ByteArray):(a==b)=(a.data.toList==b.data.toList):=by rw[beq_toListBytes,LV,LV]
def sameNow_eq {h} {d:TypeDesc} {a b} {x y} (W:bJ G h a x) (T:bJ G h b y) (Z:yW d=true) (J:lC d x=true) {c} (E:iM x y=some c):Instr.sameNow d a b=some c:=by
 cases W<;>cases d<;>first
  |(cases Z;done)
  |(simp only[lC] at J;cases J;done)
  |skip
 all_goals cases T<;>simp only[iM] at E<;>first
  |exact E
  |(cases E;done)
  |(subst_vars;simp only[Instr.sameNow];rw[P7];exact E)
def findNow_eq {h:Array Obj} {d:TypeDesc} {kv:Value} {k:AV} (rk:bJ G h kv k) (hp:yW d=true) (hd:lC d k=true):∀(es:aF MapEntry) (aN:aF (aF AV)) (i:Nat),
  es.length=aN.length->(∀(r:Nat) (aM:aF AV),aN[r]?=some aM->∃(k v:AV) (en:MapEntry),aM=[k,v]/\es[r]?=some en/\bJ G h en.key k/\bJ G h en.val v)->
  ∀res,jM k aN i=some res->∃res',Instr.findNow d kv es i=some res'/\(match res,res' with
   |some (j,v),some (j',v')=>j=j'/\i<=j/\bJ G h v' v/\∃k':AV,aN[j-i]?=some [k',v]/\iM k k'=some true
   |none,none=>True
   |_,_=>False):=by
 intro es
 induction es with
 |nil=>
  intro aN i hl hr res hm;cases aN with
  |nil=>simp only[jM] at hm;cases hm;exact⟨none,rfl,trivial⟩
  |cons a l=>simp at hl
 |cons e es ih=>
  intro aN i hl hr res hm;cases aN with
  |nil=>simp at hl
  |cons aM aN=>
   obtain⟨k',v,en,rfl,he,r1,r2⟩:=hr 0 aM rfl;simp at he;subst he;simp only[jM] at hm;simp only[Instr.findNow];cases hq:iM k k' with
   |none=>rw[hq] at hm;cases hm
   |some b=>
    rw[hq] at hm;rw[sameNow_eq rk r1 hp hd hq];cases b with
    |true=>
     simp only at hm;cases hm;exact⟨some (i,e.val),rfl,rfl,bB _,r2,k',by simp,hq⟩
    |false=>
     simp only at hm;obtain⟨res',h1,h2⟩:=ih aN (i+1) (by simpa using hl) (λr aM h=>hr (r+1) aM h) res hm;refine⟨res',h1,?_⟩;cases res with
     |none=>
      cases res' with
      |none=>trivial
      |some p=>exact h2.elim
     |some p=>
      cases res' with
      |none=>exact h2.elim
      |some p'=>
       obtain⟨j,v'⟩:=p;obtain⟨j',v''⟩:=p';obtain⟨e1,e2,e3,k'',e4,e5⟩:=h2;refine⟨e1,by omega,e3,k'',?_,e5⟩;have:j-i=j-(i+1)+1:=by omega
       rw[this];exact e4
def run_checkKey {t:TypeId} {d:TypeDesc} (E:P.underlying t=some d) (J:yW d=true) b n (v:Value):(Instr.checkKey b (n+1) t v).run P w=.ok () w:=by
 cases d<;>first
  |(cases J;done)
  |(simp only[Instr.checkKey,cP,run_underlying E,dL,dC])
def run_findKey {t:TypeId} {d:TypeDesc} (J:P.underlying t=some d) {k} {E} {r} (h:Instr.findNow d k E 0=some r):(Instr.findKey t k E).run P w=.ok r w:=by unfold Instr.findKey;simp only[cP,run_underlying J,dL,h,dC]
structure FK (P:Program) (kt:TypeId) (d:TypeDesc):Prop where
 check:∀(w:World) (G:Gh) (h:Array Obj) (b:Bool) (v:Value) (y:AV),bJ G h v y->lC d y=true->(Instr.checkKey b 10000 kt v).run P w=.ok () w
 find:∀(w:World) (G:Gh) (kv:Value) (k:AV),bJ G w.heap kv k->lC d k=true->∀(es:List MapEntry) (aN:List (List AV)),es.length=aN.length->
  (∀(r:Nat) (aM:List AV),aN[r]?=some aM->∃(k v:AV) (en:MapEntry),aM=[k,v]/\es[r]?=some en/\bJ G w.heap en.key k/\bJ G w.heap en.val v)->
  ∀res,jM k aN 0=some res->∃res',(Instr.findKey kt kv es).run P w=.ok res' w/\(match res,res' with
   |some (j,v),some (j',v')=>j=j'/\0<=j/\bJ G w.heap v' v/\∃k':AV,aN[j]?=some [k',v]/\iM k k'=some true
   |none,none=>True
   |_,_=>False)
def NZ {E:TypeId} {d:TypeDesc} (Z:P.underlying E=some d) (hd:yW d=true):FK P E d:=
 ⟨λw G h b v y _ _=>run_checkKey Z hd b 9999 v,λw G E k rk hf es J hl hr T hm=>by
  obtain⟨E,e1,W⟩:=findNow_eq rk hd hf es J 0 hl hr T hm;refine⟨E,run_findKey Z e1,?_⟩;cases T with
  |none=>cases E<;>exact W
  |some p=>
   cases E with
   |none=>exact W
   |some E=>exact W⟩
def GJ (P:Program) (t:TypeId):Option AV:=do
 let i<-P.info? t
 let z<-i.zero
 match z with
 |.agg E=>(E.toList.mapM pW).map .agg
 |v=>pW v
def zeroVal_some {t:TypeId} {a} (h:GJ P t=some a):∃z,(∀w:World,(zeroValue t).run P w=.ok z w)/\∀(G:Gh) (E:Array Obj),bJ G E z a:=by
 unfold GJ at h;simp only[gX,dK] at h;obtain⟨i,T,z,J,h⟩:=h;refine⟨z,λw=>DE T J w,λG E=>?_⟩;split at h
 .simp only[iH] at h;obtain⟨l,J,rfl⟩:=h;obtain⟨T,Z⟩:=VK _ _ J;refine .agg (by simpa using T) (λj b J=>?_) (λj b J=>?_)
  .obtain⟨v,_,T⟩:=Z j b J;exact PJ T
  .obtain⟨v,W,T⟩:=Z j b J;rw[uT] at W;rw[mO W];exact ER T G E
 .exact ER h G E
def rG (d:TypeDesc) (zero:AV) (ok:Bool) (m k:AV) (H:aC) (K:AV->Prop):Prop:=
 match m with
 |.jG i E=>lC d k=true/\aZ H i λJ=>J.tag=E/\J.mp=true/\
   (match jM k J.aN 0 with
    |some (some (_,v))=>K (if ok then .aX [v,.bool true] else v)
    |some none=>K (if ok then .aX [zero,.bool false] else zero)
    |none=>False)
 |_=>False
def TR {G} {h} {v} {a} (r:bJ G h v a) b:bJ G h (.tuple #[v,.bool b]) (.aX [a,.bool b]):=by
 refine .aX rfl λj x E=>?_
 match j,E with
 |0,E=>simp at E;subst E;exact r
 |1,E=>simp at E;subst E;exact .bool
 |j+2,E=>simp at E
def lookup_sound (I:Inv G H w.heap) {t E J:TypeId} {d:TypeDesc} (ht:P.underlying t=some (.map E J)) (hK:FK P E d)
  {zero} (hz:GJ P J=some zero) {ok} {u v} {x y} (J:bJ G w.heap u x) (ry:bJ G w.heap v y) (E:rG d zero ok x y H (λv=>K v H G.c)):
  cG P (Instr.lookup t u v ok) G H w K:=by
 cases J<;>simp only[rG] at E
 case jG i tag hc=>
  obtain⟨W,ob,T,rfl,Z,E⟩:=E;obtain⟨es,J,h1,h2,h3,h4⟩:=(I.obj ob (bA T)).sJ Z;obtain⟨z,hz1,hz2⟩:=zeroVal_some hz;have hg:(getObj (G.m ob.tag)).run P w=.ok (.map es J) w:=by simp only[getObj,Sem.run,h1]
  cases hm:jM y ob.aN 0 with
  |none=>rw[hm] at E;exact E.elim
  |some Z=>
   rw[hm] at E;obtain⟨J,e1,e2⟩:=hK.find w G _ _ ry W es.toList ob.aN (by simpa using h2) (λr aM h=>by
    obtain⟨k,v,en,a1,a2,a3,a4⟩:=h4 r aM h;exact⟨k,v,en,a1,by rw[uT];exact a2,a3,a4⟩) Z hm
   have T:(Instr.lookup t (.map (some (G.m ob.tag))) v ok).run P w=(match J with
     |some (_,v)=>.ok (if ok then .tuple #[v,.bool true] else v) w
     |none=>.ok (if ok then .tuple #[z,.bool false] else z) w):=by
    unfold Instr.lookup;simp only[cP,run_underlying ht,dL,hg,dC,hK.check _ _ _ _ _ _ ry W,e1];cases J with
    |none=>simp only[cP,hz1,dL,dC]
    |some p=>rfl
   cases Z with
   |none=>
    cases J with
    |some p=>exact e2.elim
    |none=>
     refine cG.here I T E ?_;cases ok
     .exact hz2 _ _
     .exact TR (hz2 _ _) false
   |some p=>
    cases J with
    |none=>exact e2.elim
    |some J=>
     obtain⟨j,a⟩:=p;obtain⟨W,W⟩:=J;obtain⟨_,_,r,_⟩:=e2;refine cG.here I T E ?_;cases ok
     .exact r
     .exact TR r true
 all_goals exact E.elim
def VF (H:aC) (c:Nat) (K:aD):Prop:=K (.jG H.length c) (H++[⟨true,c,0,[]⟩]) (c+1)
def mkmap_sound (I:Inv G H w.heap) {t:TypeId} (J:VF H G.c K):cG P (Instr.makeMap t none) G H w K:=by
 have E:kA (G.new w.heap.size) (w.heap.push (.map #[] 0)) ⟨true,G.c,0,[]⟩:=by
  refine⟨by simp[Gh.new],λh=>(by cases h),λ_=>⟨#[],0,by simp[Gh.new],rfl,by simp,by simp⟩⟩
 refine⟨.map (some w.heap.size),w.alloc (.map #[] 0),?_,_,_,G.new w.heap.size,J,Ext.push I _ _ rfl,Inv.push I _ _ rfl E,?_⟩
 .unfold Instr.makeMap;simp only[cP,run_newObj,dL,dC];rfl
 .have h:=bJ.jG (G:=G.new w.heap.size) (h:=(w.alloc (.map #[] 0)).heap) (i:=H.length) (tag:=G.c) (by simp[Gh.new]);simpa[Gh.new] using h
def A6 (d:TypeDesc) (m k v:AV) (H:aC) (c:Nat) (K:aD):Prop:=
 match m with
 |.jG i J=>lC d k=true/\aZ H i λE=>E.tag=J/\E.mp=true/\
   (match jM k E.aN 0 with
    |some (some (j,_))=>K .dS (H.set i {E with aN:=E.aN.set j [k,v]}) c
    |some none=>E.aN.length<mx/\K .dS (H.set i {E with aN:=E.aN++[[k,v]]}) c
    |none=>False)
 |_=>False
def WD {l m} {c} (h:iM (.agg l) (.agg m)=some c):∃p k n s J T E,l=[.bool p,.int k n,.str s]/\m=[.bool J,.int k T,.str E]/\c=(p==J&&(n==T&&s==E)):=by
 unfold iM at h;split at h
 .rename_i E _;cases E
 .rename_i E _;cases E
 .rename_i E _;cases E
 .rename_i E J;simp only[AV.agg.injEq] at E J;subst E;subst J;split at h
  .subst_vars
   cases h;exact⟨_,_,_,_,_,_,_,rfl,rfl,rfl⟩
  .cases h
 .cases h
def M3 {G} {h} {cs} {p} {k} {n:Int} {s} (r:bJ G h (.agg cs) (.agg [.bool p,.int k n,.str s])):∃t:ByteArray,t.data.toList=s/\cs=#[.bool p,.int k n,.string t]:=by
 cases r with
 |agg hs E E=>
  have Z:=E 0 _ rfl;have W:=E 1 _ rfl;have T:=E 2 _ rfl;have J:cs.size=3:=hs;have e:cs=#[cs.getD 0 undef,cs.getD 1 undef,cs.getD 2 undef]:=by
   apply Array.ext
   .simp[J]
   .intro i E h2
    match i,E with
    |0,E=>simp[Array.getD,J]
    |1,E=>simp[Array.getD,J]
    |2,E=>simp[Array.getD,J]
    |i+3,E=>omega
  generalize cs.getD 0 undef=E at Z e;generalize cs.getD 1 undef=E at W e;generalize cs.getD 2 undef=E at T e;cases Z;cases W;cases T with
  |str E J=>exact⟨_,E,e⟩
def keyThatStays_run {h:Array Obj} {a b:Value} {x y:AV} (ra:bJ G h a x) (rb:bJ G h b y) (hk:iM x y=some true):(Instr.keyThatStays b a).run P w=.ok a w:=by
 have:Instr.sameBits 10000 b a=true:=by
  cases ra<;>cases rb<;>first
   |(simp only[iM] at hk;cases hk;done)
   |(simp only[iM] at hk;done)
   |skip
  .simp only[iM] at hk;split at hk
   .subst_vars;simp at hk;subst hk;simp[Instr.sameBits]
   .cases hk
  .simp only[iM] at hk;simp at hk;subst hk;simp[Instr.sameBits]
  .simp only[iM] at hk;simp only[Instr.sameBits];rw[P7]
   subst_vars
   simp only[eH,beq_iff_eq] at hk ⊢;exact hk.symm
  .rename_i cs l hs hcl hr cs' l' hs' hcl' hr';obtain⟨p,k,n,s,p',n',s',rfl,rfl,hc⟩:=WD hk;obtain⟨t,ht,rfl⟩:=M3 (.agg hs hcl hr);obtain⟨t',ht',rfl⟩:=M3 (.agg hs' hcl' hr');have hc':=hc.symm;simp only[eY,beq_iff_eq] at hc';obtain⟨rfl,rfl,h3⟩:=hc';have:(t'==t)=true:=by rw[P7,ht,ht',h3];simp
   simp[Instr.sameBits,this]
 unfold Instr.keyThatStays;rw[this];rfl
def Inv.RR {h:Array Obj} (I:Inv G H h) {i:Nat} {ob:aH} (E:H[i]?=some ob) {T es':Array MapEntry} {J clock'} (h1:h[G.m ob.tag]?=some (.map T J)) {aN:aF (aF AV)} (W:ob.mp=true)
  (hs:es'.size=aN.length) (hm:aN.length<=mx) (hr:∀(r:Nat) (aM:aF AV),aN[r]?=some aM->∃(k v:AV) (T:MapEntry),aM=[k,v]/\es'[r]?=some T/\bJ G h T.key k/\bJ G h T.val v):
  fH G h G (h.setIfInBounds (G.m ob.tag) (.map es' clock'))/\Inv G (H.set i {ob with aN:=aN}) (h.setIfInBounds (G.m ob.tag) (.map es' clock')):=by
 have J:∀c e fr,h[G.m ob.tag]?=some (.cells c e fr)->∃c' Z,(Obj.map es' clock')=.cells c' e Z/\c'.size=c.size:=λc e fr Z=>by rw[h1] at Z;cases Z
 have x:fH G h G (h.setIfInBounds (G.m ob.tag) (.map es' clock')):=fH.write (λu Z=>I.IH (iJ (bA E)) Z) J;refine I.write E (ob':={ob with aN:=aN}) rfl J ⟨(I.obj ob (bA E)).c,λE=>by simp[W] at E,λ_=>⟨es',clock',by simp[vF h1],hs,hm,λr aM h=>?_⟩⟩;obtain⟨k,v,T,Z,W,J,E⟩:=hr r aM h;exact⟨k,v,T,Z,W,J.ext x,E.ext x⟩
def mupd_sound (I:Inv G H w.heap) {t E J:TypeId} {d:TypeDesc} (ht:P.underlying t=some (.map E J)) (hK:FK P E d)
  {u v z} {x y q} (T:bJ G w.heap u x) (ry:bJ G w.heap v y) (rz:bJ G w.heap z q) (E:A6 d x y q H G.c K):
  ∃J,(Instr.mapUpdate t u v z).run P w=.ok () J/\Good G H w K undef J:=by
 cases T<;>simp only[A6] at E
 case jG i tag hc=>
  obtain⟨Z,T,W,rfl,hmp,E⟩:=E;obtain⟨es,J,h1,h2,h3,h4⟩:=(I.obj T (bA W)).sJ hmp;have hg:(getObj (G.m T.tag)).run P w=.ok (.map es J) w:=by simp only[getObj,Sem.run,h1]
  have hset:∀o:Obj,(setObj (G.m T.tag) o).run P w=.ok () (lG w (G.m T.tag) o):=λo=>by
   simp only[setObj,Sem.run,h1];rfl
  cases hm:jM y T.aN 0 with
  |none=>rw[hm] at E;exact E.elim
  |some res=>
   rw[hm] at E;obtain⟨res',e1,e2⟩:=hK.find w G _ _ ry Z es.toList T.aN (by simpa using h2) (λr aM h=>by
    obtain⟨k,v,en,a1,a2,a3,a4⟩:=h4 r aM h;exact⟨k,v,en,a1,by rw[uT];exact a2,a3,a4⟩) res hm
   cases res with
   |none=>
    cases res' with
    |some p=>exact e2.elim
    |none=>
     obtain⟨hlt,E⟩:=E;obtain⟨x,I'⟩:=Inv.RR I W h1 (es':=es.push {key:=v,val:=z,born:=J}) (clock':=J+1) (aN:=T.aN++[[y,q]]) hmp (by simp[h2]) (by simp;omega) (λr aM h=>by
      rw[yA] at h;split at h
      .obtain⟨k,v',en,a1,a2,a3⟩:=h4 r aM h;exact⟨k,v',en,a1,by rw[GI,if_neg (by omega)];exact a2,a3⟩
      .rename_i hge;have hr0:r-T.aN.length=0:=by
        have:=(bQ.1 h).1;simp at this;omega
       rw[hr0] at h;simp at h;subst h;exact⟨y,q,_,rfl,by rw[GI,if_pos (by omega)],ry,rz⟩)
     refine⟨_,?_,.dS,_,_,E,Ext.write I W (ob':={T with aN:=T.aN++[[y,q]]}) rfl x,I',.dS⟩;unfold Instr.mapUpdate;simp only[cP,run_underlying ht,dL,hg,hK.check _ _ _ _ _ _ ry Z,e1,hset]
   |some p=>
    cases res' with
    |none=>exact e2.elim
    |some p'=>
     obtain⟨j,a⟩:=p;obtain⟨j',v'⟩:=p';obtain⟨hj,_,r,k',hrow,hkq⟩:=e2;subst hj;obtain⟨k0,v0,en,a1,a2,a3,a4⟩:=h4 j _ hrow;cases a1;have hjl:j<T.aN.length:=(bQ.1 hrow).1;have hstay:(Instr.keyThatStays (((es[j]?).map (·.key)).getD v) v).run P w=.ok v w:=by
      rw[a2];exact keyThatStays_run ry a3 hkq
     obtain⟨x,I'⟩:=Inv.RR I W h1 (es':=es.modify j λe=>{e with key:=v,val:=z}) (clock':=J) (aN:=T.aN.set j [y,q]) hmp (by simp[h2]) (by simpa using h3) (λr aM h=>by
      rw[r8] at h;split at h
      .rename_i e;subst e;cases h;exact⟨y,q,{en with key:=v,val:=z},rfl,by rw[RM,if_pos rfl,a2];rfl,ry,rz⟩
      .rename_i hne;obtain⟨k,J,en',b1,b2,b3⟩:=h4 r aM h;exact⟨k,J,en',b1,by rw[RM,if_neg hne];exact b2,b3⟩)
     refine⟨_,?_,.dS,_,_,E,Ext.write I W (ob':={T with aN:=T.aN.set j [y,q]}) rfl x,I',.dS⟩;unfold Instr.mapUpdate;simp only[cP,run_underlying ht,dL,hg,hK.check _ _ _ _ _ _ ry Z,e1,hstay,hset]
 all_goals exact E.elim
def oI:aF AV->aF AV->Option Bool
 |[],[]=>some true
 |a::J,b::E=>
  match iM a b with
  |some true=>oI J E
  |some false=>some false
  |none=>none
 |_,_=>none
def BM (P:Program):aF Field->Nat->Bool
 |[],_=>true
 |f::E,k=>f.offset==k&&f.name != "_" &&w9 P f.type&&BM P E (k+1)
def EE (P:Program) (t:TypeId):Bool:=
 match P.underlying t with
 |some (.struct E)=>BM P E.toList 0&&!P.stoodInHeld t&&!P.eqGuardType P.depth t
 |_=>false
def run_equalIn_key {h} {t:TypeId} (ht:w9 P t=true) {a b} {x y} (ra:bJ G h a x) (Z:bJ G h b y) {c} (E:iM x y=some c) (J:∀d,P.underlying t=some d->lC d x=true) n:
  (Op.equalIn (n+1) t a b).run P w=.ok c w:=by
 unfold w9 at ht;split at ht
 .rename_i T;have W:=J _ T;cases ra<;>simp only[lC] at W<;>first|(cases W;done)|skip
  cases Z<;>simp only[iM] at E<;>first|(cases E;done)|skip
  subst_vars
  rw[run_equalIn_string w n t _ _ T,LV,LV,oN E]
 .rename_i k T;have W:=J _ T;cases ra<;>simp only[lC] at W<;>first|(cases W;done)|skip
  cases Z<;>simp only[iM] at E<;>first|(cases E;done)|skip
  split at E
  .subst_vars
   rw[run_equalIn_int w n t _ _ _ _ T,oN E]
  .cases E
 .rename_i T;have W:=J _ T;cases ra<;>simp only[lC] at W<;>first|(cases W;done)|skip
  cases Z<;>simp only[iM] at E<;>first|(cases E;done)|skip
  rw[X9 n T,oN E]
 .cases ht
def I0 {t:TypeId} (E:w9 P t=true):∃d,P.underlying t=some d/\FB d=false:=by unfold w9 at E;split at E<;>first|exact⟨_,by assumption,rfl⟩|cases E
def y7 (P:Program):aF Field->aF AV->Bool
 |[],[]=>true
 |f::E,a::J=>(match P.underlying f.type with|some d=>lC d a|none=>false)&&y7 P E J
 |_,_=>false
def YB n {xs ys:Array Value}:∀(J:aF Field) (k:Nat) (l m:aF AV),BM P J k=true->y7 P J l=true->
  (∀(j:Nat) (a:AV),l[j]?=some a->xs[k+j]?=some (xs.getD (k+j) undef)/\bJ G w.heap (xs.getD (k+j) undef) a)->
  (∀(j:Nat) (a:AV),m[j]?=some a->ys[k+j]?=some (ys.getD (k+j) undef)/\bJ G w.heap (ys.getD (k+j) undef) a)->
  ∀b,oI l m=some b->(Op.eqFields (n+1) xs ys J).run P w=.ok b w:=by
 intro J
 induction J with
 |nil=>
  intro k l m _ E _ _ b T;cases l with
  |nil=>
   cases m with
   |nil=>simp only[oI] at T;cases T;rfl
   |cons _ _=>simp only[oI] at T;cases T
  |cons _ _=>simp[y7] at E
 |cons f J ih=>
  intro k l m J E hl hm b T;simp only[BM,eY,beq_iff_eq,bne_iff_ne,ne_eq] at J;obtain⟨⟨⟨ho,hname⟩,hkt⟩,J⟩:=J;cases l with
  |nil=>simp[y7] at E
  |cons a as0=>
   cases m with
   |nil=>simp only[oI] at T;cases T
   |cons a' as'=>
    simp only[y7,eY] at E;obtain⟨d,hd,W⟩:=I0 hkt;obtain⟨Z,rx⟩:=hl 0 a rfl;obtain⟨hy,ry⟩:=hm 0 a' rfl;rw[FW] at Z rx hy ry;have part1:(part f.type xs f.offset).run P w=.ok (xs.getD k undef) w:=by
     unfold part;simp only[cP,u9 hd,W,dL,jF,if_false,ho,Z,dC]
    have Z:(part f.type ys f.offset).run P w=.ok (ys.getD k undef) w:=by
     unfold part;simp only[cP,u9 hd,W,dL,jF,if_false,ho,hy,dC]
    have W:∀d',P.underlying f.type=some d'->lC d' a=true:=λd' hd'=>by
     have:=E.1;rw[hd'] at this;exact this
    simp only[oI] at T;cases hq:iM a a' with
    |none=>rw[hq] at T;cases T
    |some c=>
     rw[hq] at T;have he:=run_equalIn_key (w:=w) hkt rx ry hq W n;simp only[Op.eqFields];rw[if_pos hname];simp only[cP,part1,Z,he,dL];cases c with
     |false=>
      simp only at T;cases T;rfl
     |true=>
      simp only at T;simp only[GH,jF,if_false];exact ih (k+1) as0 as' J E.2 (λj x E=>by have:=hl (j+1) x E;rwa [<-v8,Nat.add_right_comm] at this) (λj x E=>by have:=hm (j+1) x E;rwa [<-v8,Nat.add_right_comm] at this) b T
def kindOf (d:TypeDesc):Nat:=match d with|.int _=>0|.string=>1|.bool=>2|_=>3
def vH (P:Program) (fs:aF Field):aF Nat:=fs.map λf=>match P.underlying f.type with|some d=>kindOf d|none=>3
def pB:aF Nat->aF AV->Bool
 |[],[]=>true
 |0::ks,.int _ _::as0=>pB ks as0
 |1::ks,.str _::as0=>pB ks as0
 |2::ks,.bool _::as0=>pB ks as0
 |_,_=>false
def XU:∀(E:aF Field) (l:aF AV),pB (vH P E) l=true->y7 P E l=true:=by
 intro E
 induction E with
 |nil=>intro l h;cases l<;>first|rfl|(simp[vH,pB] at h)
 |cons f E E=>
  intro l h;cases l with
  |nil=>
   simp only[vH,gJ] at h;cases P.underlying f.type with
   |none=>simp[pB] at h
   |some d=>cases d<;>simp[kindOf,pB] at h
  |cons a J=>
   simp only[vH,gJ] at h;cases hu:P.underlying f.type with
   |none=>rw[hu] at h;cases a<;>simp[pB] at h
   |some d=>
    rw[hu] at h;simp only[y7,hu,eY];cases d<;>cases a<;>simp only[kindOf,pB] at h<;>first
     |exact⟨rfl,E J h⟩
     |(cases h;done)
def xR (E:Bool) (W:aF Nat) (x y:AV) (K:AV->Prop):Prop:=
 match x,y with
 |.agg J,.agg T=>pB W J=true/\(match oI J T with|some b=>K (.bool (b !=E))|none=>False)
 |_,_=>False
def Z6 (I:Inv G H w.heap) {t:TypeId} (W:EE P t=true) {op} {J} (hop:(op=.eql/\J=false)\/(op=.neq/\J=true)) {x y} {u v} {Z T}
  (rx:bJ G w.heap u Z) (ry:bJ G w.heap v T) (E:xR J (vH P (P.fieldsOf t).toList) Z T (λr=>K r H G.c)):cG P (do eqGuard op t x y u v;binOp op t u v) G H w K:=by
 cases rx<;>simp only[xR] at E
 case agg xs l hs hcl hr=>
  cases ry<;>simp only at E
  case agg ys m hs' hcl' hr'=>
   obtain⟨Z,E⟩:=E;unfold EE at W;split at W
   .rename_i fs hu;simp only[eY,z6] at W;obtain⟨⟨T,hst⟩,hg⟩:=W;have J:P.fieldsOf t=fs:=by simp[Program.fieldsOf,hu]
    cases he:oI l m with
    |none=>rw[he] at E;exact E.elim
    |some b=>
     rw[he] at E;have h1:=YB (P:=P) (G:=G) (w:=w) 9998 (xs:=xs) (ys:=ys) fs.toList 0 l m T (J▸XU _ _ Z)
      (λj a T=>by rw[oO];exact⟨nW (by have:=(bQ.1 T).1;omega),hr j a T⟩)
      (λj a T=>by rw[oO];exact⟨nW (by have:=(bQ.1 T).1;omega),hr' j a T⟩) b he
     have T:(Op.equalIn 10000 t (.agg xs) (.agg ys)).run P w=.ok b w:=by
      have:=run_equalIn_struct (P:=P) w 9999 t xs ys (by rw[J];exact hu) hst;rw[J] at this;exact this.trans h1
     rcases hop with⟨rfl,rfl⟩|⟨rfl,rfl⟩
     .refine cG.here I (v:=.bool b) ?_ (by simpa using E) .bool;simp only[cP,run_eqGuard_agg w .eql t x y xs ys hg,dL,run_eql_struct,T]
     .refine cG.here I (v:=.bool (!b)) ?_ (by simpa using E) .bool;simp only[cP,run_eqGuard_agg w .neq t x y xs ys hg,dL,run_neq_struct,T]
   .cases W
  all_goals exact E.elim
 all_goals exact E.elim
def NY (P:Program) (t:TypeId):Bool:=EE P t&&(vH P (P.fieldsOf t).toList==[2,0,1])
def WC {fs} {y} (h:lC (.struct fs) y=true):∃p k n s,y=.agg [.bool p,.int k n,.str s]:=by
 unfold lC at h;split at h
 all_goals first
  |exact⟨_,_,_,_,rfl⟩
  |(cases h;done)
  |(rename_i e _;cases e;done)
  |(rename_i e;cases e;done)
def eqCells_key {p E} {k} {n J:Int} {s s'}:oI [.bool p,.int k n,.str s] [.bool E,.int k J,.str s']=some (p==E&&(n==J&&s==s')):=by
 simp only[oI,iM];cases p==E
 .rfl
 .simp only[if_true,Bool.true_and];cases n==J
  .rfl
  .cases s==s'<;>rfl
def keyOk_struct {t:TypeId} (h:NY P t=true):FK P t (.struct #[]):=by
 unfold NY at h;rw[eY,beq_iff_eq] at h;obtain⟨ht,hk⟩:=h;unfold EE at ht;split at ht
 .rename_i T hu;simp only[eY,z6] at ht;obtain⟨⟨E,hst⟩,J⟩:=ht;have J:P.fieldsOf t=T:=by simp[Program.fieldsOf,hu]
  rw[J] at hk;have W:T.size=3:=by have:=congrArg List.length hk;simpa[vH] using this
  obtain⟨f0,f1,f2,rfl⟩:∃f0 f1 f2,T=#[f0,f1,f2]:=by
   refine⟨T[0],T[1],T[2],?_⟩;apply Array.ext
   .simp[W]
   .intro i h1 h2
    match i,h1 with
    |0,h1=>rfl
    |1,h1=>rfl
    |2,h1=>rfl
    |i+3,h1=>omega
  simp only[BM,eY,beq_iff_eq,bne_iff_ne,ne_eq] at E;obtain⟨⟨⟨o0,m0⟩,k0⟩,⟨⟨o1,m1⟩,W⟩,⟨⟨o2,m2⟩,T⟩,_⟩:=E;obtain⟨d0,u0,a0⟩:=I0 k0;obtain⟨Z,u1,a1⟩:=I0 W;obtain⟨E,u2,a2⟩:=I0 T;have p0:yW d0=true:=by unfold w9 at k0;rw[u0] at k0;cases d0<;>first|rfl|cases k0
  have p1:yW Z=true:=by unfold w9 at W;rw[u1] at W;cases Z<;>first|rfl|cases W
  have p2:yW E=true:=by unfold w9 at T;rw[u2] at T;cases E<;>first|rfl|cases T
  refine⟨λw G h b v y r hf=>?_,λw G kv k rk hf Z=>?_⟩
  .obtain⟨p,kk,n,s,rfl⟩:=WC hf;obtain⟨E,rfl⟩:∃E,v=.agg E:=by cases r with|agg=>exact⟨_,rfl⟩
   obtain⟨tx,htx,rfl⟩:=M3 r;have c0:=λv=>run_checkKey (P:=P) (w:=w) u0 p0 b 9998 v;have c1:=λv=>run_checkKey (P:=P) (w:=w) u1 p1 b 9998 v;have c2:=λv=>run_checkKey (P:=P) (w:=w) u2 p2 b 9998 v;have q0:(part f0.type #[Value.bool p,Value.int kk n,Value.string tx] 0).run P w=.ok (.bool p) w:=by
    unfold part;simp only[cP,u9 u0,a0,dL,jF,if_false];rfl
   have q1:(part f1.type #[Value.bool p,Value.int kk n,Value.string tx] 1).run P w=.ok (.int kk n) w:=by
    unfold part;simp only[cP,u9 u1,a1,dL,jF,if_false];rfl
   have q2:(part f2.type #[Value.bool p,Value.int kk n,Value.string tx] 2).run P w=.ok (.string tx) w:=by
    unfold part;simp only[cP,u9 u2,a2,dL,jF,if_false];rfl
   unfold Instr.checkKey;simp only[cP,run_underlying hu,dL];simp[o0,o1,o2,m0,m1,m2,q0,q1,q2,c0,c1,c2]
  .have eq:∀(b:Value) (y:AV) (c:Bool),bJ G w.heap b y->iM k y=some c->(Op.equal t kv b).run P w=.ok c w:=by
    intro b y c rb hc;obtain⟨p,kk,n,s,rfl⟩:=WC hf;obtain⟨E,rfl⟩:∃E,kv=.agg E:=by cases rk with|agg=>exact⟨_,rfl⟩
    obtain⟨m,rfl⟩:∃m,y=.agg m:=by
     unfold iM at hc;split at hc
     all_goals first
      |exact⟨_,rfl⟩
      |(cases hc;done)
      |(rename_i e _;cases e;done)
      |(rename_i e;cases e;done)
    obtain⟨cs',rfl⟩:∃E,b=.agg E:=by cases rb with|agg=>exact⟨_,rfl⟩
    obtain⟨p1,k1',n1,s1,p2,n2,s2,e1,rfl,rfl⟩:=WD hc;cases e1;cases rk with
    |agg hs hcl hr=>
     cases rb with
     |agg hs' hcl' hr'=>
      have h1:=YB (P:=P) (G:=G) (w:=w) 9998 (xs:=E) (ys:=cs') [f0,f1,f2] 0 _ _ (by simp[BM,o0,o1,o2,m0,m1,m2,k0,W,T]) (XU _ _ (by rw[hk];rfl))
       (λj a T=>by rw[oO];exact⟨nW (by have:=(bQ.1 T).1;omega),hr j a T⟩)
       (λj a T=>by rw[oO];exact⟨nW (by have:=(bQ.1 T).1;omega),hr' j a T⟩) _ eqCells_key
      have:=run_equalIn_struct (P:=P) w 9999 t E cs' (by rw[J];exact hu) hst;rw[J] at this;exact this.trans h1
   have ask:∀(Z:aF MapEntry) (E:aF (aF AV)) (i:Nat),Z.length=E.length->
     (∀(r:Nat) (aM:aF AV),E[r]?=some aM->∃(k v:AV) (en:MapEntry),aM=[k,v]/\Z[r]?=some en/\bJ G w.heap en.key k/\bJ G w.heap en.val v)->
     ∀T,jM k E i=some T->∃J,(Instr.findAsking t kv Z i).run P w=.ok J w/\(match T,J with
      |some (j,v),some (j',v')=>j=j'/\i<=j/\bJ G w.heap v' v/\∃k':AV,E[j-i]?=some [k',v]/\iM k k'=some true
      |none,none=>True
      |_,_=>False):=by
    intro Z
    induction Z with
    |nil=>
     intro E i hl hr T W;cases E with
     |nil=>simp only[jM] at W;cases W;exact⟨none,rfl,trivial⟩
     |cons a l=>simp at hl
    |cons e Z ih=>
     intro E i hl hr T W;cases E with
     |nil=>simp at hl
     |cons aM E=>
      obtain⟨k',v,en,rfl,he,r1,r2⟩:=hr 0 aM rfl;simp at he;subst he;simp only[jM] at W;cases hq:iM k k' with
      |none=>rw[hq] at W;cases W
      |some b=>
       rw[hq] at W;have hrun:=eq _ _ _ r1 hq;cases b with
       |true=>
        simp only at W;cases W;refine⟨some (i,e.val),?_,rfl,bB _,r2,k',by simp,hq⟩;simp only[Instr.findAsking,cP,hrun,dL,if_true,dC]
       |false=>
        simp only at W;obtain⟨J,h1,h2⟩:=ih E (i+1) (by simpa using hl) (λr aM h=>hr (r+1) aM h) T W;refine⟨J,?_,?_⟩
        .simp only[Instr.findAsking,cP,hrun,dL,jF,if_false];exact h1
        cases T with
        |none=>
         cases J with
         |none=>trivial
         |some p=>exact h2.elim
        |some p=>
         cases J with
         |none=>exact h2.elim
         |some p'=>
          obtain⟨j,v'⟩:=p;obtain⟨j',v''⟩:=p';obtain⟨e1,e2,e3,k'',e4,e5⟩:=h2;refine⟨e1,by omega,e3,k'',?_,e5⟩;have:j-i=j-(i+1)+1:=by omega
          rw[this];exact e4
   intro E hl hr T W;obtain⟨J,e1,e2⟩:=ask Z E 0 hl hr T W;refine⟨J,?_,?_⟩
   .unfold Instr.findKey;simp only[cP,run_underlying hu,dL];cases Z with
    |nil=>simp only[Instr.findNow];simpa[Instr.findAsking] using e1
    |cons e Z=>simp only[Instr.findNow,Instr.sameNow];exact e1
   .cases T with
    |none=>cases J<;>exact e2
    |some p=>
     cases J with
     |none=>exact e2
     |some p'=>exact e2
 .cases ht
inductive View (S:aC):AV->AV->Prop
 |refl (a:AV):View S a a
 |oE (a:AV):View S a .oE
 |aU (tag w:Nat):View S .aU (.dX tag w [])
 |j5 (tag w tag' w':Nat):View S (.dX tag w []) (.dX tag' w' [])
 |name {i j tag w len:Nat}:View S (.ref i tag w len) (.ref j tag w len)
 |yT {i j tag w r o:Nat}:View S (.ptr i tag w r o) (.ptr j tag w r o)
 |NM {i j tag:Nat}:View S (.jG i tag) (.jG j tag)
 |agg {l l':List AV} (hl:l.length=l'.length) (hc:∀(j:Nat) (a:AV),l'[j]?=some a->a.cell=true) (h:∀(j:Nat) (a a':AV),l[j]?=some a->l'[j]?=some a'->View S a a'):View S (.agg l) (.agg l')
 |aX {l l':List AV} (hl:l.length=l'.length) (h:∀(j:Nat) (a a':AV),l[j]?=some a->l'[j]?=some a'->View S a a'):View S (.aX l) (.aX l')
 |dX {tag w:Nat} {aN rows':List (List AV)} (hl:aN.length=rows'.length) (hr:∀(r:Nat) (x x':List AV),aN[r]?=some x->rows'[r]?=some x'->x.length=x'.length)
   (hc:∀(r j:Nat) (x:List AV) (a:AV),rows'[r]?=some x->x[j]?=some a->a.cell=true)
   (h:∀(r j:Nat) (x x':List AV) (a a':AV),aN[r]?=some x->rows'[r]?=some x'->x[j]?=some a->x'[j]?=some a'->View S a a'):View S (.dX tag w aN) (.dX tag w rows')
 |ref {i tag w len:Nat} {aN rows':List (List AV)} (ho:(⟨false,tag,w,aN⟩:aH)∈S) (hle:len<=aN.length) (hl:rows'.length=len)
   (hr:∀(r:Nat) (x x':List AV),aN[r]?=some x->rows'[r]?=some x'->x.length=x'.length) (hc:∀(r j:Nat) (x:List AV) (a:AV),rows'[r]?=some x->x[j]?=some a->a.cell=true)
   (h:∀(r j:Nat) (x x':List AV) (a a':AV),aN[r]?=some x->rows'[r]?=some x'->x[j]?=some a->x'[j]?=some a'->View S a a'):View S (.ref i tag w len) (.dX tag w rows')
 |ptr {i tag w r o:Nat} {aN:List (List AV)} {aM row':List AV} (ho:(⟨false,tag,w,aN⟩:aH)∈S) (hrow:aN[r]?=some aM) (hl:aM.length=row'.length) (hc:∀(j:Nat) (a:AV),row'[j]?=some a->a.cell=true)
   (h:∀(j:Nat) (a a':AV),aM[j]?=some a->row'[j]?=some a'->View S a a'):View S (.ptr i tag w r o) (.iP row' o)
def pA {α β:Type} {l:aF α} {l':aF β} (h:l.length=l'.length) {j:Nat} {b:β} (E:l'[j]?=some b):∃a,l[j]?=some a:=by have:=(bQ.1 E).1;exact⟨l[j],bC (by omega)⟩
def View.rep {S:aC} {h:Array Obj} (I:Inv G H h) (hS:∀o,o∈S->o∈H) {a a':AV} (v:View S a a'):∀{u:Value},bJ G h u a->bJ (G.freeze S) h u a':=by
 have x:=fH.freeze G S h
 induction v with
 |refl a=>exact λr=>r.ext x
 |oE a=>exact λ_=>.oE
 |aU tag w=>intro u r;cases r;exact .j5
 |j5 tag w E E=>intro u r;cases r<;>exact .j5
 |name=>intro u r;cases r with|ref hc hb h1 h2 h3=>exact .ref (G:=G.freeze S) hc hb h1 h2 h3
 |yT=>intro u r;cases r with|ptr hc=>exact .ptr (G:=G.freeze S) hc
 |NM=>intro u r;cases r with|jG hc=>exact .jG (G:=G.freeze S) hc
 |agg hl hc h ih=>
  intro u r;cases r with
  |agg J T hr=>
   refine .agg (J.trans hl) hc λj a' E=>?_;obtain⟨a,Z⟩:=pA hl E;exact ih j a a' Z E (hr j a Z)
 |aX hl h ih=>
  intro u r;cases r with
  |aX J hr=>
   refine .aX (J.trans hl) λj a' E=>?_;obtain⟨a,Z⟩:=pA hl E;exact ih j a a' Z E (hr j a Z)
 |@dX tag w aN rows' hl hr hc h ih=>
  intro u r;cases r with
  |j5=>
   have:rows'=[]:=CQ.1 (by simpa using hl.symm);subst this;exact .j5
  |dX f J hc' E E hw eF T hrep=>
   have e:=hl;rw[show aN.length=rows'.length from hl];refine .dX (G:=G.freeze S) f (.inl J) hc' (by omega) (by omega) (λr J T=>?_) (λr o J a' T W=>?_) hc (λr o J a' T W=>?_)
   .obtain⟨aM,E⟩:=pA hl T;rw[<-hr r aM J E T];exact hw r aM E
   .obtain⟨aM,E⟩:=pA hl T;obtain⟨a,Z⟩:=pA (hr r aM J E T) W;exact eF r o aM a E Z
   .obtain⟨aM,E⟩:=pA hl T;obtain⟨a,Z⟩:=pA (hr r aM J E T) W;exact ih r o aM J a a' E T Z W (hrep r o aM a E Z)
 |@ref i tag w len aN rows' ho hle hl hr hc _ ih=>
  intro u r;cases r with
  |@ref _ _ _ _ cap c e fr hc' hb h1 h2 h3=>
   obtain⟨c',e',fr',q1,q2,q3,q4,q5,q6⟩:=(I.obj _ (hS _ ho)).oC rfl;simp only at q1 q3 q4 q5 q6;rw[hb] at q1;cases q1;subst hl;have hget:∀(r:Nat) (x':aF AV),rows'[r]?=some x'->∃x,aN[r]?=some x:=λr x' hx=>by
    have:=(bQ.1 hx).1;exact⟨aN[r],bC (by omega)⟩
   refine .dX (G:=G.freeze S) (off:=0) (λr o=>c.getD (r*w+o) undef) (.inr (iJ ho)) hc' (cL h2 h3) h2 (λr J T=>?_) (λr o J a' T W=>?_) hc (λr o J a' T W=>?_)
   .obtain⟨aM,E⟩:=hget r J T;rw[<-hr r aM J E T];exact q5 r aM E
   .obtain⟨aM,E⟩:=hget r J T;obtain⟨a,Z⟩:=pA (hr r aM J E T) W;obtain⟨v,hv,_,_⟩:=q6 r o aM a E Z;show eF h (G.m tag) _ = _;rw[tV hb,oO,hv,mO hv]
   .obtain⟨aM,E⟩:=hget r J T;obtain⟨a,Z⟩:=pA (hr r aM J E T) W;obtain⟨v,hv,_,rv⟩:=q6 r o aM a E Z;rw[mO hv];exact ih r o aM J a a' E T Z W rv
 |@ptr i tag w r o aN aM J ho E hl hc _ ih=>
  intro u J;cases J with
  |ptr hc'=>
   obtain⟨c,e,fr,q1,q2,q3,q4,q5,q6⟩:=(I.obj _ (hS _ ho)).oC rfl;simp only at q1 q3 q4 q5 q6;refine .iP (G:=G.freeze S) (off:=r*w) (λj=>c.getD (r*w+j) undef) (.inr (iJ ho)) hc' (λj a' W=>?_) hc (λj a' W=>?_)
   .obtain⟨a,Z⟩:=pA hl W;obtain⟨v,hv,_,_⟩:=q6 r j aM a E Z;show eF h (G.m tag) _ = _;rw[tV q1,hv,mO hv]
   .obtain⟨a,Z⟩:=pA hl W;obtain⟨v,hv,_,rv⟩:=q6 r j aM a E Z;rw[mO hv];exact ih j a a' Z W rv
inductive Av (T:List Nat):AV->Prop
 |int {k:IntKind} {n:Int}:Av T (.int k n)
 |bool {b:Bool}:Av T (.bool b)
 |str {l:aA}:Av T (.str l)
 |dS:Av T .dS
 |oE:Av T .oE
 |aU:Av T .aU
 |qG:Av T .qG
 |j5 {tag w:Nat}:Av T (.dX tag w [])
 |dX {tag w:Nat} {aN:List (List AV)} (ht:tag∉T) (h:∀(r j:Nat) (x:List AV) (a:AV),aN[r]?=some x->x[j]?=some a->Av T a):Av T (.dX tag w aN)
 |ref {i tag w len:Nat}:Av T (.ref i tag w len)
 |ptr {i tag w r o:Nat}:Av T (.ptr i tag w r o)
 |jG {i tag:Nat}:Av T (.jG i tag)
 |mC {b:Bool}:Av T (.mC b)
 |agg {l:List AV} (h:∀(j:Nat) (a:AV),l[j]?=some a->Av T a):Av T (.agg l)
 |aX {l:List AV} (h:∀(j:Nat) (a:AV),l[j]?=some a->Av T a):Av T (.aX l)
 |any (a:AV) (h:T=[]):Av T a
def Gh.oS (G:Gh) (T:aF Nat):Gh:={G with Fz:=λt=>G.Fz t/\t∉T}
def Av.rep {T} {h} {a} (v:Av T a):∀{u:Value},bJ G h u a->bJ (G.oS T) h u a:=by
 induction v with
 |int=>intro u r;cases r with|int E=>exact .int E
 |bool=>intro u r;cases r;exact .bool
 |str=>intro u r;cases r with|str e E=>exact .str e E
 |dS=>intro u r;cases r;exact .dS
 |oE=>exact λ_=>.oE
 |aU=>intro u r;cases r;exact .aU
 |qG=>intro u r;cases r;exact .qG
 |j5=>intro u r;cases r<;>exact .j5
 |dX ht h W=>
  intro u r;cases r with
  |j5=>exact .j5
  |dX f hF J hlen hcap hw eF E Z=>exact .dX (G:=G.oS T) f ⟨hF,ht⟩ J hlen hcap hw eF E (λr o aM a h1 h2=>W r o aM a h1 h2 (Z r o aM a h1 h2))
 |ref=>intro u r;cases r with|ref J Z h1 h2 h3=>exact .ref (G:=G.oS T) J Z h1 h2 h3
 |ptr=>intro u r;cases r with|ptr J=>exact .ptr (G:=G.oS T) J
 |jG=>intro u r;cases r with|jG J=>exact .jG (G:=G.oS T) J
 |mC=>intro u r;cases r<;>first|exact .A4|exact .mC
 |agg h W=>intro u r;cases r with|agg J E T=>exact .agg J E λj a E=>W j a E (T j a E)
 |aX h W=>intro u r;cases r with|aX J T=>exact .aX J λj a E=>W j a E (T j a E)
 |any a h=>
  subst h;intro u r;have e:G.oS []=G:=by cases G;simp[Gh.oS]
  rw[e];exact r
def iX (T:aF Nat) (o:aH):Prop:=∀(r j:Nat) (x:aF AV) (a:AV),o.aN[r]?=some x->x[j]?=some a->Av T a
def kA.oS {h} {o} {T} (k:kA G h o) (v:iX T o):kA (G.oS T) h o where
 c:=k.c
 oC hm:=by
  obtain⟨c,e,fr,Z,W,T,J,E,h6⟩:=k.oC hm;exact⟨c,e,fr,Z,W,T,J,E,λr j aM a E ha=>let ⟨x,hx,hc,rx⟩:=h6 r j aM a E ha;⟨x,hx,hc,(v r j aM a E ha).rep rx⟩⟩
 sJ hm:=by obtain⟨es,cl,Z,W,T,J⟩:=k.sJ hm;refine⟨es,cl,Z,W,T,λr aM E=>?_⟩;obtain⟨T,x,en,rfl,he,Z,W⟩:=J r aM E;exact⟨T,x,en,rfl,he,(v r 0 _ T E rfl).rep Z,(v r 1 _ x E rfl).rep W⟩
def bO (P:Program) (f:FuncId) (as0:aF AV) (H:aC) (c:Nat) (K:aD):Prop:=
 (aV H).Nodup->(∀t,t∈aV H->t<c)->∃(W S:aC) (E:aF AV) (Q:aD),W.Sublist H/\(∀o,o∈S->o∈H)/\(∀t,t∈aV W->t∉aV S)/\as0.length=E.length/\
  (∀(j:Nat) (a J:AV),as0[j]?=some a->E[j]?=some J->View S a J)/\cA P f E W c Q/\
  ∀T J c',c<=c'->Q T J c'->(∀t,t<c->t∈aV J->t∈aV W)->(aV J).Nodup->∃Z E,(∀o,o∈Z->o∈J\/(o∈H/\o.tag∉aV W))/\(aV Z).Nodup/\View [] T E/\Av (aV S) E/\
   (∀o,o∈Z->o∈J->iX (aV S) o)/\K E Z c'
def call_good (I:Inv G H w.heap) {H1 S:aC} (E:H1.Sublist H) (W:∀o,o∈S->o∈H) (J:∀t,t∈aV H1->t∉aV S) {G2:Gh} {H1'} {w':World}
  (x:Ext (G.freeze S) H1 w G2 H1' w') (I2:Inv G2 H1' w'.heap) {H'} (hH':∀o,o∈H'->o∈H1'\/(o∈H/\o.tag∉aV H1)) (hnd:(aV H').Nodup) (hav:∀o,o∈H'->o∈H1'->iX (aV S) o):
  Ext G H w (G2.oS (aV S)) H' w'/\Inv (G2.oS (aV S)) H' w'.heap:=by
 have J:∀t,t∈aV H1->t∈aV H:=λt T=>(E.map _).subset T;have Z:∀t,t∈aV S->t∈aV H:=λt T=>by obtain⟨o,ho,rfl⟩:=qF T;exact iJ (W o ho)
 have hc:G.c<=G2.c:=x.x.c;have hm:∀t,t<G.c->G2.m t=G.m t:=λt T=>x.x.m t T;have hold:∀t,t<G.c->G2.Fz t->G.Fz t\/t∈aV H:=λt T hF=>by
  rcases x.nV t T hF with(E|E)|E
  .exact .inl E
  .exact .inr (Z t E)
  .exact .inr (J t E)
 have hH'':∀t,t∈aV H'->t∈aV H1'\/(t∈aV H/\t∉aV H1):=λt T=>by
  obtain⟨o,ho,rfl⟩:=qF T;rcases hH' o ho with E|⟨E,W⟩
  .exact .inl (iJ E)
  .exact .inr ⟨iJ E,W⟩
 have x1:fH G w.heap (G2.oS (aV S)) w'.heap:=
  ⟨hc,hm,λt T hF=>⟨x.x.F t T (.inl hF),λhs=>I.nY t (Z t hs) hF⟩,λt T hF=>x.x.gE t T (.inl hF),x.x.shape⟩
 have hblk:∀o,o∈H->o.tag∉aV H1->w'.heap[G.m o.tag]?=w.heap[G.m o.tag]?:=λo ho hn=>by
  refine x.frame _ (I.obj o ho).block λt T e=>hn ?_;have:t=o.tag:=I.inj t o.tag (.inr (J t T)) (.inr (iJ ho)) e;exact this▸T
 refine⟨⟨x1,x.os,x.tape,x.output,x.size,λb Z hn=>x.frame b Z λt T=>hn t (J t T),λt E W=>?_,λt E W=>?_,λt E W=>hold t E W.1⟩,⟨λt hF=>I2.fz t hF.1,λo ho=>?_,λt T hF=>?_,hnd,?_,I.gl.ext x1⟩⟩
 .rcases x.mL t E W with Z|⟨u,hu,Z⟩
  .exact .inl Z
  .exact .inr ⟨u,J u hu,Z⟩
 .rcases hH'' t W with Z|⟨Z,_⟩
  .exact J t (x.j6 t E Z)
  .exact Z
 .by_cases E:o∈H1'
  .exact(I2.obj o E).oS (hav o ho E)
  .rcases hH' o ho with W|⟨W,Z⟩
   .exact absurd W E
   .exact(I.obj o W).ext x1 (hblk o W Z)
 .rcases hH'' t T with E|⟨E,W⟩
  .exact I2.nY t E hF.1
  .have T:=I.lt E;rcases x.nV t T hF.1 with(Z|Z)|Z
   .exact I.nY t E Z
   .exact hF.2 Z
   .exact W Z
 .have key:∀t,((G2.oS (aV S)).Fz t\/t∈aV H')->(G2.Fz t\/t∈aV H1')\/(t∈aV H/\t∉aV H1):=λt hl=>by
   rcases hl with E|E
   .exact .inl (.inl E.1)
   .rcases hH'' t E with W|W
    .exact .inl (.inr W)
    .exact .inr W
  have cross:∀t u,(G2.Fz t\/t∈aV H1')->(u∈aV H/\u∉aV H1)->G2.m t=G2.m u->t=u:=λt u hl ⟨hu,hn⟩ he=>by
   have huc:=I.lt hu;rw[hm u huc] at he;rcases iA t G.c with T|T
   .rw[hm t T] at he;refine I.inj t u ?_ (.inr hu) he;rcases hl with E|E
    .exact hold t T E
    .exact .inr (J t (x.j6 t T E))
   .have htl:t<G2.c:=by
     rcases hl with E|E
     .exact(I2.fz t E).1
     .exact I2.lt E
    rcases x.mL t T htl with Z|⟨y,hy,Z⟩
    .obtain⟨o,ho,rfl⟩:=qF hu;have:=(I.obj o ho).block;omega
    .have T:G2.m t=G.m y:=Z;have:y=u:=I.inj y u (.inr (J y hy)) (.inr hu) (T.symm.trans he);exact absurd (this▸hy) hn
  intro t T E W he;have J:G2.m t=G2.m T:=he;rcases key t E with Z|Z<;>rcases key T W with E|E
  .exact I2.inj t T Z E J
  .exact cross t T Z E J
  .exact(cross T t E Z J.symm).symm
  .rw[hm t (I.lt Z.1),hm T (I.lt E.1)] at J;exact I.inj t T (.inr Z.1) (.inr E.1) J
def bJ.unfreeze_nil {h} {u} {a} (r:bJ (G.freeze []) h u a):bJ G h u a:=
 r.ext ⟨bB _,λ_ _=>rfl,λt _ E=>E.elim id (λE=>by simp[aV] at E),λ_ _ _=>rfl,λ_ c _ J E=>⟨c,J,E,rfl⟩⟩
def QT (G:Gh) (h:Array Obj) (vs:Array Value) (as0:aF AV):Prop:=vs.size=as0.length/\∀(j:Nat) (a:AV),as0[j]?=some a->bJ G h (vs.getD j undef) a
def call_sound (I:Inv G H w.heap) {f} {vs} {as0} (ha:QT G w.heap vs as0) (J:bO P f as0 H G.c K):
  Calls P f vs w λe E=>∃v,e=.returned v/\Good G H w K v E:=by
 obtain⟨T,S,T,Q,h1,T,h3,h4,h5,W,h7⟩:=J I.nodup (λt J=>I.lt J);have J:=I.freeze h1 T h3;refine(W (G.freeze S) w vs rfl J (ha.1.trans h4) λj a' hj=>?_).mono λe E ⟨v,J,Z,G2,he,hq,x,W,r⟩=>?_
 .obtain⟨a,E⟩:=pA h4 hj;exact(h5 j a a' E hj).rep I T (ha.2 j a E)
 .obtain⟨H',E,q1,q2,q3,q4,q5,q6⟩:=h7 J Z G2.c x.x.c hq x.j6 W.nodup;obtain⟨J,Z⟩:=call_good I h1 T h3 x W q1 q2 q5;exact⟨v,he,E,H',G2.oS (aV S),q6,J,Z,q4.rep ((q3.rep W (by simp) r).unfreeze_nil)⟩
def dA (P:Program) (f:Nat) (E:aF AV) (res:AV):Prop:=∀c,cA P f E [] c λr E _=>r=res/\E=[]
inductive fG (S:aC):List AV->List AV->Prop
 |nil:fG S [] []
 |cons {a a':AV} {l l':List AV} (h:View S a a') (t:fG S l l'):fG S (a::l) (a'::l')
def fG.refl S:∀l,fG S l l
 |[]=>.nil
 |a::l=>.cons (.refl a) (fG.refl S l)
def fG.spec {S} {l l':aF AV} (h:fG S l l'):l.length=l'.length/\∀(j:Nat) (a E:AV),l[j]?=some a->l'[j]?=some E->View S a E:=by
 induction h with
 |nil=>exact⟨rfl,by simp⟩
 |cons h t W=>
  refine⟨by simp[W.1],λj a E T J=>?_⟩;cases j with
  |zero=>simp at T J;subst T;subst J;exact h
  |succ j=>exact W.2 j a E (by simpa using T) (by simpa using J)
def E5 {c} {f} {as0 E} {res} (hf:dA P f E res) (W:fG H as0 E) (J:Av (aV H) res) (k:∀T,c<=T->K res H T):bO P f as0 H c K:=by intro Z _;obtain⟨h1,h2⟩:=W.spec;refine⟨[],H,E,_,eX _,λo h=>h,by simp[aV],h1,h2,hf c,λr E T W ⟨E,hH⟩ _ _=>?_⟩;subst E;subst hH;exact⟨H,r,λo E=>.inr ⟨E,by simp[aV]⟩,Z,.refl r,J,by simp,k T W⟩
def zC (P:Program) (f:Nat) (as0:aF AV) (H:aC) (c:Nat) (K:aD):Prop:=
 ∃J E,fG H as0 J/\dA P f J E/\Av (aV H) E/\∀J,c<=J->K E H J
def callFW_call {f} {as0} {c} (h:zC P f as0 H c K):bO P f as0 H c K:=by obtain⟨E,E,W,T,J,E⟩:=h;exact E5 T W J E
end
def fX (c:Nat) (a:AV):Prop:=∀T:aF Nat,(∀t,t∈T->t<c)->Av T a
def fX.mono {c c'} {a} (h:fX c' a) (J:c<=c'):fX c a:=λT W=>h T λt E=>fM (W t E) J
@[simp] theorem from_int c (k:IntKind) (n:Int):fX c (.int k n):=λ_ _=>.int
@[simp] theorem XE c b:fX c (.bool b):=λ_ _=>.bool
@[simp] theorem OJ c l:fX c (.str l):=λ_ _=>.str
@[simp] theorem from_nsl c:fX c .aU:=λ_ _=>.aU
def from_agg {c} {l} (h:∀a,a∈l->fX c a):fX c (.agg l):=λT J=>.agg λj a E=>h a (bA E) T J
def XA {c t w} {aN} (E:c<=t) (h:∀aM,aM∈aN->∀a,a∈aM->fX c a):fX c (.dX t w aN):=λT E=>
 .dX (λJ=>absurd (E t J) (by omega)) λr j x a J W=>h x (bA J) a (bA W) T E
def Tr (P:Program) (f:Nat) (E:aF AV) (Q:Nat->AV->Prop):Prop:=∀c,cA P f E [] c λr E _=>E=[]/\Q c r/\fX c r
section
variable {P:Program} {H:aC} {c:Nat} {K:aD}
def E4 {f} {as0 E} {Q:Nat->AV->Prop} (Z:Tr P f E Q) (W:fG H as0 E) (k:∀r J,c<=J->Q c r->fX c r->K r H J):bO P f as0 H c K:=by intro hn T;obtain⟨h1,h2⟩:=W.spec;refine⟨[],H,E,_,eX _,λo h=>h,by simp[aV],h1,h2,Z c,λr E J hc ⟨Z,W,E⟩ _ _=>?_⟩;subst Z;exact⟨H,r,λo Z=>.inr ⟨Z,by simp[aV]⟩,hn,.refl r,E _ T,by simp,k r J hc W E⟩
def J8 (P:Program) (R:AV->Prop) (f:Nat) (as0:aF AV) (H:aC) (c:Nat) (K:AV->Prop):Prop:=
 ∃E,fG H as0 E/\Tr P f E (λ_ r=>R r)/\(∃r,R r/\fX c r)/\∀r,R r->fX c r->K r
end
structure b7 where
 dst:Option Nat
 op:dV
 guard:Option (Nat×Bool):=none
 deriving Inhabited
inductive IR where
 |skip
 |nA (ops:List b7)
 |draw (ops:List b7)
 |seq (a b:IR)
 |cond (c:cW) (a b:IR)
 |block (id:Nat) (b:IR)
 |loop (b:IR)
 |exit (id:Nat)
 |ret
 |alt (a b:IR)
 deriving Inhabited
def DG (c a b:AV) (K:AV->Prop):Prop:=
 match c with
 |.bool c=>(c=true->K a)/\(c=false->K b)
 |_=>False
def vE (x:AV) (K:AV->Prop):Prop:=
 match x with
 |.ptr ..|.iP ..|.fn ..=>K x
 |_=>False
def I4 (E:Bool) (x:AV) (K:AV->Prop):Prop:=
 match x with
 |.aU=>K (.bool (true !=E))
 |.dX _ _ []=>K (.bool (true !=E))/\K (.bool (false !=E))
 |.dX ..|.ref ..=>K (.bool (false !=E))
 |_=>False
def BG (E:Bool) (x:AV) (K:AV->Prop):Prop:=
 match x with
 |.mC b=>K (.bool (b !=E))
 |_=>False
def IV (J:Option Nat) (x:AV) (K:AV->Prop):Prop:=
 match x with
 |.iP E o=>tG J E o K
 |_=>False
def KC (P:Program) (f:Nat):Bool:=match P.funcs[f]? with|some E=>E.body.isSome&&E.name != "runtime.NumGoroutine" |none=>false
def ZV (P:Program) (x:AV) (as0:aF AV) (H:aC) (c:Nat) (K:aD):Prop:=
 match x with
 |.fn f E=>KC P f=true/\bO P f (as0++E) H c K
 |_=>False
def D4:Nat->TypeDesc
 |0=>.int .i64
 |1=>.string
 |2=>.bool
 |_=>.struct #[]
def cR (P:Program) (o:dV) (e:Env) (H:aC) (c:Nat) (K:aD):Prop:=
 match o with
 |.mv x=>K (ev e x) H c
 |.pick x a b=>DG (ev e x) (ev e a) (ev e b) λv=>K v H c
 |.new w z=>U8 w z H c K
 |.box _ x=>J9 (ev e x) H c K
 |.build z E=>pD z (E.map λ(o,n,x)=>(o,n,ev e x)) λl=>K (.agg l) H c
 |.zE w z n E=>zD w z n (E.map λ(i,x)=>(i,ev e x)) H c K
 |.load J x=>lI J (ev e x) H λv=>K v H c
 |.store n a x=>C3 n (ev e a) (ev e x) H c K
 |.tN x=>vE (ev e x) λv=>K v H c
 |.bin T x y=>sT T (ev e x) (ev e y) λv=>K v H c
 |.xQ T x y=>CC T (ev e x) (ev e y) λv=>K v H c
 |.beq E W x y=>xR E W (ev e x) (ev e y) λv=>K v H c
 |.un T x=>yE T (ev e x) λv=>K v H c
 |.toInt k x=>AJ k (ev e x) λv=>K v H c
 |.toStr x=>sC (ev e x) H λv=>K v H c
 |.AL x=>AK (ev e x) H c K
 |.wT f T=>K (.fn f (T.map (ev e))) H c
 |.DR=>VF H c K
 |.DQ w z b l x=>IN w z b (ev e l) (ev e x) H c K
 |.wK x T W=>yK (ev e x) (T.map (ev e)) (W.map (ev e)) λv=>K v H c
 |.slice w x T W=>qX w (ev e x) (T.map (ev e)) (W.map (ev e)) λv=>K v H c
 |.slice3 w x h m=>HG w (ev e x) (ev e h) (ev e m) λv=>K v H c
 |.tY o x=>vN o (ev e x) λv=>K v H c
 |.field o J x=>JL o J (ev e x) λv=>K v H c
 |.tU w x i=>sP w (ev e x) (ev e i) λv=>K v H c
 |.index x i=>BI (ev e x) (ev e i) λv=>K v H c
 |.lookup d z ok m k=>rG (D4 d) z ok (ev e m) (ev e k) H λv=>K v H c
 |.IL d m k v=>A6 (D4 d) (ev e m) (ev e k) (ev e v) H c K
 |.wY x=>wX (ev e x) λv=>K v H c
 |.wZ x=>oV (ev e x) λv=>K v H c
 |.tR x=>yU (ev e x) H λv=>K v H c
 |.append w b x y=>uG w b (ev e x) (ev e y) H c K
 |.extract x i=>y9 (ev e x) i λv=>K v H c
 |.call f T=>bO P f (T.map (ev e)) H c K
 |.J2 x T=>ZV P (ev e x) (T.map (ev e)) H c K
 |.uE f T=>zC P f (T.map (ev e)) H c K
 |.BF E x=>I4 E (ev e x) λv=>K v H c
 |.vI E x=>BG E (ev e x) λv=>K v H c
 |.rH J x=>IV J (ev e x) λv=>K v H c
 |.vP J x y=>lI J (ev e x) H λv=>v=ev e y/\K .dS H c
def put (e:Env) (d:Option Nat) (v:AV):Env:=
 match d with
 |some d=>aK e d v
 |none=>e
def jO (g:AV) (E:Bool) (T J:Prop):Prop:=
 match g with
 |.bool b=>(b=E->T)/\(b≠E->J)
 |.dS=>J
 |_=>False
def eU (P:Program):aF b7->Env->aC->Nat->(Env->aC->Nat->Prop)->Prop
 |[],e,H,c,K=>K e H c
 |o::E,e,H,c,K=>
  match o.guard with
  |none=>cR P o.op e H c λv W T=>eU P E (put e o.dst v) W T K
  |some (g,J)=>jO (e g) J (cR P o.op e H c λv W T=>eU P E (put e o.dst v) W T K) (eU P E (put e o.dst .dS) H c K)
def rD (P:Program) (R:AV->Prop) (o:dV) (e:Env) (H:aC) (c:Nat) (K:AV->Prop):Prop:=
 match o with
 |.uE f E=>J8 P R f (E.map (ev e)) H c K
 |o=>cR P o e H c λv _ _=>K v
def oU (P:Program) (R:Nat->AV->Prop):aF b7->Env->aC->Nat->(Env->Prop)->Prop
 |[],e,_,_,K=>K e
 |o::E,e,H,c,K=>
  match o.guard with
  |none=>rD P (R (o.dst.getD 0)) o.op e H c λv=>oU P R E (put e o.dst v) H c K
  |some (g,J)=>jO (e g) J (rD P (R (o.dst.getD 0)) o.op e H c λv=>oU P R E (put e o.dst v) H c K) (oU P R E (put e o.dst .dS) H c K)
def xL (c:AV) (a b:Prop):Prop:=
 match c with
 |.bool t=>(t=true->a)/\(t=false->b)
 |_=>False
abbrev kU:=Exit->Env->aC->Nat->Prop
def iO (next:Env->aC->Nat->Prop) (Q:kU):kU
 |.normal,e,H,c=>next e H c
 |x,e,H,c=>Q x e H c
def uF (id:Nat) (Q:kU):kU
 |.exit E,e,H,c=>if E=id then Q .normal e H c else Q (.exit E) e H c
 |x,e,H,c=>Q x e H c
def cC (P:Program):IR->kU->Env->aC->Nat->Prop
 |.skip,Q,e,H,c=>Q .normal e H c
 |.nA E,Q,e,H,c=>eU P E e H c (Q .normal)
 |.draw E,Q,e,H,c=>∃R,oU P R E e H c λT=>∀J,c<=J->Q .normal T H J
 |.seq a b,Q,e,H,c=>cC P a (iO (cC P b Q) Q) e H c
 |.cond x a b,Q,e,H,c=>xL (ev e x) (cC P a Q e H c) (cC P b Q e H c)
 |.block W b,Q,e,H,c=>cC P b (uF W Q) e H c
 |.loop b,Q,e,H,c=>∃(I:Env->aC->Nat->Prop) (μ:Env->aC->Nat->Nat),(∃E,E.Sublist H/\I e E c)/\
   ∀e H c,I e H c->cC P b (iO (λT Z J=>∃E,E.Sublist Z/\I T E J/\μ T E J<μ e H c) Q) e H c
 |.exit W,Q,e,H,c=>Q (.exit W) e H c
 |.ret,Q,e,H,c=>Q .ret e H c
 |.alt a b,Q,e,H,c=>cC P a Q e H c/\cC P b Q e H c
def vC (l:aF Operand):Option (aF cW):=l.mapM eE
def rC:Option Operand->Option (Option cW)
 |none=>some none
 |some x=>(eE x).map some
def I3 (P:Program) (t:TypeId):Option Nat:=
 match P.underlying t with
 |some (.int .i64)=>some 0
 |some .string=>some 1
 |some .bool=>some 2
 |_=>if NY P t then some 3 else none
def isIntStr (P:Program) (t:TypeId):Bool:=match P.underlying t with|some (.int _)|some .string=>true|_=>false
def WS (P:Program) (t:TypeId):Bool:=match P.underlying t with|some .bool=>true|_=>false
def isNil:cW->Bool
 |.c .aU=>true
 |_=>false
def N8:cW->Bool
 |.c (.mC true)=>true
 |_=>false
def D8 (P:Program) (t:TypeId):Bool:=match P.underlying t with|some (.interface _)=>true|_=>false
def EV (P:Program) (op:BinOp) (t:TypeId) (x y:cW):Option dV:=
 if isIntStr P t then some (.bin op x y)
 else if WS P t then some (.xQ op x y)
 else if EE P t then
  match op with
  |.eql=>some (.beq false (vH P (P.fieldsOf t).toList) x y)
  |.neq=>some (.beq true (vH P (P.fieldsOf t).toList) x y)
  |_=>none
 else if yY P t&&isNil y then
  match op with
  |.eql=>some (.BF false x)
  |.neq=>some (.BF true x)
  |_=>none
 else if D8 P t&&N8 y then
  match op with
  |.eql=>some (.vI false x)
  |.neq=>some (.vI true x)
  |_=>none
 else none
def EU (P:Program) (s d:TypeId) (x:cW):Option dV:=
 match P.underlying s,P.underlying d with
 |some _,some (.int k)=>some (.toInt k x)
 |some (.slice e),some .string=>match P.underlying e with|some (.int .u8)=>some (.toStr x)|_=>none
 |some .string,some (.slice e)=>match P.underlying e with|some (.int .u8)=>some (.AL x)|_=>none
 |_,_=>none
def B1 (P:Program) (t:TypeId) (x:cW):Option dV:=
 if yX P t then some (.wY x) else if yY P t then some (.wZ x) else if I6 P t then some (.tR x) else none
def UB (P:Program) (t:TypeId):Bool:=match P.underlying t with|some (.int _)|none=>false|_=>true
def B2 (P:Program) (c:Call) (ty:TypeId):Option dV:=
 match c.callee with
 |.builtin .len=>
  match c.args.toList,c.argTypes.toList with
  |[x],[t]=>do B1 P t (<-eE x)
  |_,_=>none
 |.builtin .append=>
  match c.args.toList,c.argTypes.toList with
  |[x,y],[t,u]=>do
   let (e,i)<-mX P t
   let _<-qC P e
   if UB P u then some (.append i.size i.bytes (<-eE x) (<-eE y)) else none
  |_,_=>none
 |.value (.func f)=>do
  let as0<-vC c.args.toList
  if KC P f then some (.call f as0) else none
 |.value (.tmp t)=>do some (.J2 (.t t) (<-vC c.args.toList))
 |_=>none
def uA (P:Program) (o:Op) (ty:TypeId):Option dV:=
 match o with
 |.move x|.assign x=>do some (.mv (<-eE x))
 |.pick c a b=>do some (.pick (<-eE c) (<-eE a) (<-eE b))
 |.alloc t=>do let z<-qC P t;some (.new z.length z)
 |.box t x=>do some (.box (<-HI P t) (<-eE x))
 |.build t E=>do
  let z<-qC P t
  if sG P t then some (.build z (<-E.toList.mapM λ(i,x)=>do let (o,n)<-placeOf P t i;some (o,n,<-eE x))) else none
 |.buildSlice t n E=>do
  let (e,i)<-mX P t
  let z<-qC P e
  if n*i.size<=16777216/\n<=16777216 then some (.zE i.size z n (<-E.toList.mapM λ(i,x)=>do some (i,<-eE x))) else none
 |.load t x=>do some (.load (<-sW P t) (<-eE x))
 |.store t a x=>do some (.store (<-HI P t) (<-eE a) (<-eE x))
 |.nilCheck x=>do some (.tN (<-eE x))
 |.binOp E t x y _=>do EV P E t (<-eE x) (<-eE y)
 |.unOp E _ x=>do some (.un E (<-eE x))
 |.convert s d x=>do EU P s d (<-eE x)
 |.makeFunc (.func f) E J=>if E.isEmpty then do some (.wT f (<-vC J.toList)) else none
 |.makeMap _ none=>some .DR
 |.makeSlice t l c=>do
  let (e,i)<-mX P t
  let z<-qC P e
  some (.DQ i.size z i.bytes (<-eE l) (<-eE c))
 |.slice t x E J none=>
  if yX P t then do some (.wK (<-eE x) (<-rC E) (<-rC J))
  else do
   let (_,i)<-mX P t
   some (.slice i.size (<-eE x) (<-rC E) (<-rC J))
 |.slice t x none (some h) (some m)=>do
  let (_,i)<-mX P t
  some (.slice3 i.size (<-eE x) (<-eE h) (<-eE m))
 |.fieldAddr t x f=>do let (o,_)<-y8 P t f;some (.tY o (<-eE x))
 |.field t x f=>do let (o,u)<-y8 P t f;some (.field o (<-sW P u) (<-eE x))
 |.indexAddr t x i=>do let (_,j)<-mX P t;some (.tU j.size (<-eE x) (<-eE i))
 |.index t x i=>if yX P t then do some (.index (<-eE x) (<-eE i)) else none
 |.lookup t m k ok=>
  match P.underlying t with
  |some (.map E J)=>do some (.lookup (<-I3 P E) (<-GJ P J) ok (<-eE m) (<-eE k))
  |_=>none
 |.mapUpdate t m k v=>
  match P.underlying t with
  |some (.map E _)=>do some (.IL (<-I3 P E) (<-eE m) (<-eE k) (<-eE v))
  |_=>none
 |.extract x i=>do some (.extract (<-eE x) i)
 |.call c=>B2 P c ty
 |_=>none
def xN (J:Array Oper):Option (Nat×Bool)->Option (Option (Nat×Bool))
 |none=>some none
 |some (j,E)=>
  match (J[j]?).bind (·.dst) with
  |some d=>some (some (d,E))
  |none=>none
def YL (n:Nat):Option Nat->Bool
 |some d=>decide (d<n)
 |none=>true
def j3 (P:Program) (n:Nat) (E:Array Oper) (o:Oper):Option b7:=do
 let op<-uA P o.op o.type
 let g<-xN E o.guard
 if YL n o.dst then some ⟨o.dst,op,g⟩ else none
def gQ:dV->Option dV
 |.call f E=>some (.uE f E)
 |.mv x=>some (.mv x)|.pick a b c=>some (.pick a b c)|.load a x=>some (.load a x)|.tN x=>some (.tN x)|.bin a b c=>some (.bin a b c)|.xQ a b c=>some (.xQ a b c)
 |.beq a b c d=>some (.beq a b c d)|.un a b=>some (.un a b)|.toInt a b=>some (.toInt a b)|.toStr a=>some (.toStr a)|.wT a b=>some (.wT a b)|.wK a b c=>some (.wK a b c)
 |.slice a b c d=>some (.slice a b c d)|.tY a b=>some (.tY a b)|.field a b c=>some (.field a b c)|.tU a b c=>some (.tU a b c)|.index a b=>some (.index a b)
 |.lookup a b c d e=>some (.lookup a b c d e)|.wY a=>some (.wY a)|.wZ a=>some (.wZ a)|.tR a=>some (.tR a)|.extract a b=>some (.extract a b)
 |.rH a x=>some (.rH a x)|.vI a x=>some (.vI a x)
 |_=>none
def b7.pure (o:b7):Option b7:=(gQ o.op).map λp=>{o with op:=p}
def hZ (o:Oper):aF Nat:=(o.after.toList.filter (Region.binds .any)).map (·.on)
def rM (E:Array Oper):Bool:=
 (List.range E.size).all λi=>(List.range E.size).all λk=>
  match E[i]?,E[k]? with
  |some x,some y=>
   (hZ x).all (λj=>decide (j<i))&&(i==k||x.dst.isNone||x.dst !=y.dst)&&
   (match y.dst with
    |some d=>!(x.looksAt E).contains d||(if k<i then (hZ x).contains k else k==i||(hZ y).contains i)
    |none=>true)
  |_,_=>false
def R3 (P:Program) (o:Oper):Bool:=
 match o.op with
 |.call c=>(match c.callee with
  |.value (.func _)=>(match P.underlying o.type with|some (.int _)|some .bool|some .string=>false|_=>true)
  |_=>false)
 |_=>false
def j8:dV->Bool
 |.uE ..=>true
 |_=>false
def kZ:b7:=⟨none,.mv (.c .dS),none⟩
def vJ:b7->Bool
 |⟨none,.mv (.c .dS),none⟩=>true
 |_=>false
def b9 (E:Array Oper):Nat->aF (aF Nat)
 |0=>[]
 |n+1=>b9 E n++[match E[n]? with|some o=>((hZ o).flatMap λj=>j::(b9 E n).getD j []).eraseDups|none=>[]]
def JB:dV->Bool
 |.new ..|.box ..|.build ..|.zE ..|.DQ ..|.DR|.AL ..|.BF ..=>true
 |.call ..|.uE ..=>false
 |op=>(gQ op).isSome
def NL:dV->Bool
 |.load ..|.lookup ..|.tR _|.toStr _=>true
 |_=>false
def T8 (P:Program) (o:Oper):Bool:=
 match o.op with
 |.call c=>(match c.callee with
  |.value (.func _)=>c.argTypes.toList.any λt=>(match P.underlying t with|some (.pointer _)=>true|_=>false)
  |_=>false)
 |_=>false
def vM (m:aF b7) (k:Nat):Bool:=match m[k]? with|some E=>JB E.op|none=>false
def MY (m:aF b7) (cl:aF (aF Nat)) (bl:aF Bool) (i:Nat):Bool:=(List.range m.length).all λk=>!bl.getD k false||(cl.getD k []).contains i||vM m k
def EX (E:Array Oper) (m:aF b7) (cl:aF (aF Nat)) (bl:aF Bool) (i:Nat):Option (Option Nat×Nat×Nat):=
 if bl.getD i false||MY m cl bl i then none else
 match E[i]?,m[i]? with
 |some o,some ⟨some d,.load E (.t t),none⟩=>
  if (hZ o).any (λj=>match m[j]? with|some y=>y.dst==some t|none=>false)||!(m.any λy=>y.dst==some t) then some (E,t,d) else none
 |_,_=>none
def rN (E:Array Oper) (m:aF b7) (cl:aF (aF Nat)) (bl:aF Bool) (i:Nat):Bool:=(EX E m cl bl i).isSome
def vU (q:Nat->Bool) (m:aF b7) (cl:aF (aF Nat)) (bl:aF Bool) (i:Nat) (op:dV):dV:=
 match op with
 |.load E x=>if MY m cl bl i||q i then .load E x else .rH E x
 |op=>(gQ op).getD (.mv (.c .dS))
def pR (E:Array Oper) (m:aF b7) (cl:aF (aF Nat)) (bl:aF Bool) (i:Nat):b7:=
 if bl.getD i false then kZ else
 match m[i]? with
 |some J=>{J with op:=vU (rN E m cl bl) m cl bl i J.op}
 |none=>kZ
def lD (E:Array Oper) (m:aF b7) (cl:aF (aF Nat)) (bl:aF Bool) (k:Nat):aF b7:=
 (List.range m.length).filterMap λi=>if (cl.getD k []).contains i then none else (EX E m cl bl i).map λ(E,t,d)=>⟨none,.vP E (.t t) (.t d),none⟩
def A9 (E:Array Oper) (m:aF b7) (cl:aF (aF Nat)) (bl:aF Bool) (i:Nat):aF b7:=if bl.getD i false then m.getD i kZ::lD E m cl bl i else [kZ]
def A8 (fl:Nat->Bool) (E:Array Oper) (m:aF b7) (cl:aF (aF Nat)) (bl:aF Bool):Bool:=
 (List.range E.size).all λi=>
  match E[i]?,m[i]? with
  |some o,some J=>
   (bl.getD i false||((gQ J.op).isSome&&(hZ o).all λj=>!bl.getD j false))&&
   (List.range E.size).all λk=>i==k||!bl.getD k false||(
    if bl.getD i false then decide (k<i)||(cl.getD k []).contains i||fl i
    else (!j8 (vU (rN E m cl bl) m cl bl i J.op)||(cl.getD k []).contains i)&&(!NL (vU (rN E m cl bl) m cl bl i J.op)||(cl.getD k []).contains i||vM m k||rN E m cl bl i))
  |_,_=>false
def mixOk (E:Array Oper) (m:aF b7) (cl:aF (aF Nat)) (bl:aF Bool):Bool:=A8 (λ_=>false) E m cl bl
def IP (E:Array Oper) (m:aF b7) (cl:aF (aF Nat)) (bl:aF Bool):aF b7:=
 ((List.range m.length).map (pR E m cl bl)++(List.range m.length).flatMap (A9 E m cl bl)).filter λo=>!vJ o
def QA (o:Oper):Bool:=
 match o.op with
 |.call c=>(match c.callee with|.value (.func _)=>true|_=>false)
 |_=>false
def YF (P:Program) (J:Array Oper) (m:aF b7) (E:Nat) (j:Nat):Bool:=
 match J[j]?,m[j]? with
 |some o,some J=>(gQ J.op).isNone||(decide (1<=E)&&(T8 P o||R3 P o))||(decide (2<=E)&&QA o)
 |_,_=>false
def VG (P:Program) (E:Array Oper) (m:aF b7) (cl:aF (aF Nat)) (bl:aF Bool):Option IR:=
 if mixOk E m cl bl then some (.nA (IP E m cl bl)) else none
def IQ (P:Program) (J:Array Oper) (m:aF b7) (cl:aF (aF Nat)) (E:Nat):aF Bool:=
 (List.range m.length).map λi=>YF P J m E i||(cl.getD i []).any (YF P J m E)
def B0 (P:Program) (n:Nat) (E:Array Oper):Option IR:=
 (E.toList.mapM λo=>(j3 P n E o).bind b7.pure).map λm=>if E.any (R3 P) then .draw m else .nA m
def sS (P:Program) (n:Nat) (E:Array Oper) (J:Nat):Option IR:=
 (E.toList.mapM (j3 P n E)).bind λm=>VG P E m (b9 E m.length) (IQ P E m (b9 E m.length) J)
def S6 (P:Program) (o:Oper):Bool:=
 match o.op with
 |.call c=>(match c.callee with
  |.value (.func _)=>(c.argTypes.toList.any λt=>(match P.underlying t with|some (.slice _)=>true|_=>false))&&
   (match P.underlying o.type with
    |some (.tuple l)=>l.toList.all (λt=>match P.underlying t with|some .bool=>true|_=>false)
    |some (.slice t)=>(match P.underlying t with|some (.int .u8)=>true|_=>false)
    |_=>false)
  |_=>false)
 |_=>false
def ET (P:Program) (n:Nat) (E:Array Oper):Option IR:=
 if E.any (λo=>T8 P o||S6 P o) then (sS P n E 1).or ((B0 P n E).or (sS P n E 0))
 else if E.any QA then (sS P n E 2).or ((B0 P n E).or ((sS P n E 1).or (sS P n E 0)))
 else (B0 P n E).or ((sS P n E 0).or (sS P n E 1))
def pH (E:Array Oper) (d:aF Nat) (i:Nat):Bool:=!d.contains i&&(match E[i]? with|some o=>(hZ o).all (λj=>d.contains j)|none=>false)
def alts:aF IR->IR
 |[]=>.skip
 |[x]=>x
 |x::l=>.alt x (alts l)
def EN:Op->Bool
 |.move _=>true
 |.assign _=>true
 |.extract _ _=>true
 |.fieldAddr ..=>true
 |.indexAddr ..=>true
 |.nilCheck _=>true
 |.build ..=>true
 |.call c=>match c.callee with|.builtin .len=>true|_=>false
 |_=>false
def O5:dV->Bool
 |.tR _=>false
 |_=>true
def OM (E:Array Oper) (d:aF Nat) (i:Nat):Bool:=
 match E[i]? with
 |none=>false
 |some T=>(List.range E.size).all λj=>j==i||d.contains j||match E[j]? with
   |some J=>J.after.any (λe=>Region.binds .any e&&e.on==i)||T.apart E J
   |none=>true
def xK (E:Array Oper) (m:aF b7) (d:aF Nat) (i:Nat):Bool:=
 pH E d i&&OM E d i&&(match E[i]?,m[i]? with|some o,some E=>EN o.op&&O5 E.op|_,_=>false)
def j9 (E:Array Oper) (m:aF b7):Nat->aF Nat->IR
 |0,_=>.skip
 |f+1,d=>match (List.range m.length).find? (xK E m d) with
  |some i=>.seq (.nA [m.getD i kZ]) (j9 E m f (i::d))
  |none=>alts (((List.range m.length).filter (pH E d)).map λi=>.seq (.nA [m.getD i kZ]) (j9 E m f (i::d)))
def HW (E:Array Oper) (m:aF b7):Nat->aF Nat->Nat->Nat
 |0,_,b=>b-1
 |f+1,d,b=>
  if b=0 then 0 else
  match (List.range m.length).find? (xK E m d) with
  |some i=>HW E m f (i::d) b
  |none=>((List.range m.length).filter (pH E d)).foldl (λb i=>HW E m f (i::d) b) b
def HM (d E:aF Nat):Bool:=d.length==E.length&&(d.all λi=>E.contains i)&&E.all λi=>d.contains i
def AF (E:Array Oper) (m:aF b7):Nat->aF Nat->aF Nat->Option IR
 |0,d,J=>if HM d J then some .skip else none
 |f+1,d,J=>if HM d J then some .skip else match (List.range m.length).find? (xK E m d) with
  |some i=>(AF E m f (i::d) J).map λx=>.seq (.nA [m.getD i kZ]) x
  |none=>if ((List.range m.length).filter (pH E d)).isEmpty then none else
   (((List.range m.length).filter (pH E d)).mapM λi=>(AF E m f (i::d) J).map λx=>.seq (.nA [m.getD i kZ]) x).map alts
def domin (n:Nat) (cl:aF (aF Nat)) (d:aF Nat):Option (aF Nat):=
 (((List.range n).filter λi=>!d.contains i).find? λz=>(List.range n).all λj=>j==z||d.contains j||(cl.getD z []).contains j||(cl.getD j []).contains z).map λz=>
  ((List.range n).filter λj=>!d.contains j&&(cl.getD z []).contains j)++d
def vT (E:Array Oper) (m:aF b7) (cl:aF (aF Nat)):Nat->Nat->aF Nat->Option IR
 |0,_,_=>none
 |_+1,0,_=>some .skip
 |g+1,f+1,d=>match (List.range m.length).find? (xK E m d) with
  |some i=>(vT E m cl g f (i::d)).map λx=>.seq (.nA [m.getD i kZ]) x
  |none=>match (List.range m.length).filter (pH E d) with
   |[i]=>(vT E m cl g f (i::d)).map λx=>.seq (.nA [m.getD i kZ]) x
   |_=>match domin m.length cl d with
    |some J=>if d.length<J.length&&decide (J.length<=f+1+d.length)&&decide (0<HW E m (J.length-d.length) d 201) then
      (AF E m (f+1) d J).bind λw=>(vT E m cl g (f+1+d.length-J.length) J).map λx=>.seq w x
     else none
    |none=>if decide (0<HW E m (f+1) d 201) then some (j9 E m (f+1) d) else none
def JX (P:Program) (n:Nat) (E:Array Oper):Option IR:=
 if decide (E.size<=9)||(decide (E.size<=24)&&decide (E.toList.countP (λo=>!EN o.op)<=7)) then
  (E.toList.mapM (j3 P n E)).map λm=>(vT E m (b9 E m.length) (m.length+1) m.length []).getD (j9 E m m.length [])
 else if decide (E.size<=60) then (E.toList.mapM (j3 P n E)).bind λm=>vT E m (b9 E m.length) (m.length+1) m.length []
 else none
def PN (P:Program) (n:Nat) (E:Array Oper):Option IR:=
 if (E.any (S6 P)&&(sS P n E 1).isNone)||(E.any QA&&(sS P n E 2).isNone&&(B0 P n E).isNone) then (JX P n E).or (ET P n E) else (ET P n E).or (JX P n E)
def JH (E:Array Oper) (m:aF b7) (bl:aF Bool) (i:Nat):Bool:=
 match E[i]?,m[i]? with
 |some o,some J=>EN o.op&&O5 J.op&&((hZ o).all λj=>decide (j<i)&&bl.getD j false)&&
  (List.range E.size).all λj=>j==i||(decide (j<i)&&bl.getD j false)||match E[j]? with
   |some J=>J.after.any (λe=>Region.binds .any e&&e.on==i)||o.apart E J
   |none=>true
 |_,_=>false
def PM (P:Program) (n:Nat) (E:Array Oper):Option IR:=
 (E.toList.mapM (j3 P n E)).bind λm=>if A8 (JH E m (IQ P E m (b9 E m.length) 2)) E m (b9 E m.length) (IQ P E m (b9 E m.length) 2) then some (.nA (IP E m (b9 E m.length) (IQ P E m (b9 E m.length) 2))) else none
def PQ (P:Program) (n:Nat) (E:Array Oper):Option IR:=(PN P n E).or (PM P n E)
def comp (P:Program) (n:Nat):Code->Option IR
 |.skip=>some .skip
 |.region _ E true=>if P.follows .mixedOrders&&rM E&&Region.noSelect E then PQ P n E else none
 |.region _ E false=>do some (.nA (<-E.toList.mapM (j3 P n E)))
 |.seq a b=>do some (.seq (<-comp P n a) (<-comp P n b))
 |.cond c a b=>do some (.cond (<-eE c) (<-comp P n a) (<-comp P n b))
 |.block E b=>do some (.block E (<-comp P n b))
 |.loop b=>do some (.loop (<-comp P n b))
 |.exit E=>some (.exit E)
 |.ret=>some .ret
 |_=>none
section
variable {P:Program} {G:Gh} {H:aC} {w:World} {K:aD} {a:Act} {e:Env} {next:Act->World->Prop} {Q:Exit->Act->World->Prop} {o:Oper}
def kX {s:Sem Value} (hs:(execOp a.eval o).run P w=(s.run P w).andThen λv E=>.ok (.value v) E) (J:cG P s G H w K) (T:∀v E,Good G H w K v E->next (a.put o.dst v) E):o.wp P a w next Q:=by obtain⟨v,E,Z,W⟩:=J;unfold Oper.wp;rw[hs,Z];exact T v E W
def RT {s:Sem Unit} (hs:(execOp a.eval o).run P w=(s.run P w).andThen λ_ E=>.ok .skip E) (J:∃E,s.run P w=.ok () E/\Good G H w K undef E) (T:∀v E,Good G H w K v E->next (a.put o.dst v) E):o.wp P a w next Q:=by obtain⟨E,Z,W⟩:=J;unfold Oper.wp;rw[hs,Z];exact T undef E W
def AE {v} (hs:(execOp a.eval o).run P w=.ok (.value v) w) (I:Inv G H w.heap) {av} (k:K av H G.c) (r:bJ G w.heap v av) (J:∀v E,Good G H w K v E->next (a.put o.dst v) E):o.wp P a w next Q:=by unfold Oper.wp;rw[hs];exact J v w (Good.here I k r)
def NH (Z:kT G w.heap a e):∀(l:aF Operand) (m:aF cW),vC l=some m->QT G w.heap (l.map a.eval).toArray (m.map (ev e)):=by
 intro l
 induction l with
 |nil=>intro m h;simp[vC] at h;subst h;exact⟨rfl,by simp⟩
 |cons x l T=>
  intro m h;simp only[vC,oQ,gX,dK,uO,eH] at h;obtain⟨y,W,J,E,rfl⟩:=h;obtain⟨h1,h2⟩:=T J E;refine⟨by simpa using h1,λj b E=>?_⟩;cases j with
  |zero=>simp at E;subst E;simpa using eJ Z W
  |succ j=>
   have:=h2 j b (by simpa using E);simpa[Array.getD] using this
def HY (J:kT G w.heap a e) {x:Option Operand} {y:Option cW} (h:rC x=some y):vW G w.heap (x.map a.eval) (y.map (ev e)):=by
 cases x with
 |none=>simp[rC] at h;subst h;exact .none
 |some x=>
  simp only[rC,iH] at h;obtain⟨z,E,rfl⟩:=h;exact .some (eJ J E)
def WE {t:TypeId} {d} (h:I3 P t=some d):FK P t (D4 d):=by
 unfold I3 at h;split at h
 .cases h;exact NZ (by assumption) rfl
 .cases h;exact NZ (by assumption) rfl
 .cases h;exact NZ (by assumption) rfl
 .split at h
  .rename_i E;cases h;exact keyOk_struct E
  .cases h
def equalIn_snil n {t el:TypeId} (hu:P.underlying t=some (.slice el)) (b:Option Addr) l c:(Op.equalIn (n+1) t (.slice b l c) (.slice none 0 0)).run P w=.ok b.isNone w:=by unfold Op.equalIn;cases b<;>simp only[cP,run_underlying hu,dL,dC,Option.isNone]
def WO {h} {v} {y} (E:isNil v=true) (r:bJ G h y (ev e v)):y=.slice none 0 0:=by
 unfold isNil at E;split at E
 .cases r;rfl
 .cases E
def WK (I:Inv G H w.heap) {t:TypeId} (ht:yY P t=true) {op} {T} (W:(op=.eql/\T=false)\/(op=.neq/\T=true)) {x y} {u v} {E}
  (rx:bJ G w.heap u E) (Z:v=.slice none 0 0) (J:I4 T E (λr=>K r H G.c)):cG P (do eqGuard op t x y u v;binOp op t u v) G H w K:=by
 subst Z;obtain⟨E,hu⟩:=N5 ht;have E:∀(b:Option Addr) (l c:Nat),K (.bool (b.isNone !=T)) H G.c->cG P (do eqGuard op t x y (.slice b l c) (.slice none 0 0);binOp op t (.slice b l c) (.slice none 0 0)) G H w K:=λb l c J=>by
  have Z:∀T,(eqGuard T t x y (.slice b l c) (.slice none 0 0)).run P w=.ok () w:=λT=>OZ T t x y _ _ (by simp) (by simp);have T:(Op.equal t (.slice b l c) (.slice none 0 0)).run P w=.ok b.isNone w:=equalIn_snil 9999 hu b l c;rcases W with⟨rfl,rfl⟩|⟨rfl,rfl⟩
  .exact cG.here I (v:=.bool b.isNone) (by simp only[cP,Z,dL,binOp,T,dC]) (by simpa using J) .bool
  .exact cG.here I (v:=.bool (!b.isNone)) (by simp only[cP,Z,dL,binOp,T,dC]) (by simpa using J) .bool
 cases rx<;>simp only[I4] at J<;>first
  |exact J.elim
  |skip
 case aU=>exact E _ _ _ J
 case j5 a cap tag wd=>cases a with
  |none=>exact E _ _ _ J.1
  |some a=>exact E _ _ _ J.2
 case dX tag wd off cap T f hF hc hlen hcap hw eF hcl hrep=>
  cases T with
  |nil=>exact E _ _ _ J.2
  |cons r T=>exact E _ _ _ J
 case ref=>exact E _ _ _ J
def isNilI_opd {y} {v} (J:eE y=some v) (h:N8 v=true):y=.const .nilIface:=by
 unfold N8 at h;split at h
 .cases y with
  |tmp t=>simp[eE] at J
  |func f=>simp[eE] at J
  |global g=>simp[eE] at J
  |const v=>
   simp only[eE,iH] at J;obtain⟨b,E,T⟩:=J;cases T;unfold JU at E;split at E
   .simp only[iH] at E;obtain⟨_,_,E⟩:=E;cases E
   unfold pW at E;split at E<;>first
    |(split at E<;>cases E;done)
    |(cases E;done)
    |rfl
 .cases h
def WL (I:Inv G H w.heap) {t:TypeId} (W:D8 P t=true) {op} {E} (T:(op=.eql/\E=false)\/(op=.neq/\E=true)) {x} {u} {Z}
  (rx:bJ G w.heap u Z) (J:BG E Z (λr=>K r H G.c)):cG P (do eqGuard op t x (.const .nilIface) u .nilIface;binOp op t u .nilIface) G H w K:=by
 have hu:∃E,P.underlying t=some (.interface E):=by unfold D8 at W;split at W<;>first|exact⟨_,by assumption⟩|cases W
 obtain⟨E,hu⟩:=hu;cases rx<;>simp only[BG] at J<;>first
  |exact J.elim
  |skip
 case A4=>
  have Z:∀E,(eqGuard E t x (.const .nilIface) .nilIface .nilIface).run P w=.ok () w:=λE=>by
   unfold eqGuard;cases E<;>simp
  have W:(Op.equal t .nilIface .nilIface).run P w=.ok true w:=by
   show(Op.equalIn 10000 t .nilIface .nilIface).run P w = _;unfold Op.equalIn;simp only[cP,run_underlying hu,dL,dC]
  rcases T with⟨rfl,rfl⟩|⟨rfl,rfl⟩
  .exact cG.here I (v:=.bool true) (by simp only[cP,Z,dL,binOp,W,dC]) (by simpa using J) .bool
  .exact cG.here I (v:=.bool (!true)) (by simp only[cP,Z,dL,binOp,W,dC]) (by simpa using J) .bool
 case mC te pe=>
  have Z:∀E,(eqGuard E t x (.const .nilIface) (.iface te pe) .nilIface).run P w=.ok () w:=λE=>by
   unfold eqGuard;cases E<;>simp
  have W:(Op.equal t (.iface te pe) .nilIface).run P w=.ok false w:=by
   show(Op.equalIn 10000 t (.iface te pe) .nilIface).run P w = _;unfold Op.equalIn;simp only[cP,run_underlying hu,dL,dC]
  rcases T with⟨rfl,rfl⟩|⟨rfl,rfl⟩
  .exact cG.here I (v:=.bool false) (by simp only[cP,Z,dL,binOp,W,dC]) (by simpa using J) .bool
  .exact cG.here I (v:=.bool (!false)) (by simp only[cP,Z,dL,binOp,W,dC]) (by simpa using J) .bool
def bin_op_sound {op} {t:TypeId} {x y} {u v} {J} (I:Inv G H w.heap) (T:kT G w.heap a e) (W:eE x=some u) (hy:eE y=some v) (E:EV P op t u v=some J)
  (Z:cR P J e H G.c K):cG P (do eqGuard op t x y (a.eval x) (a.eval y);binOp op t (a.eval x) (a.eval y)) G H w K:=by
 unfold EV at E;split at E
 .cases E;exact bin_sound I T W hy t Z
 .split at E
  .cases E;rename_i J;have ht:P.underlying t=some .bool:=by unfold WS at J;split at J<;>first|assumption|cases J
   exact binb_sound I T W hy ht Z
  .split at E
   .rename_i J;split at E<;>cases E
    .exact Z6 I J (.inl ⟨rfl,rfl⟩) (eJ T W) (eJ T hy) Z
    .exact Z6 I J (.inr ⟨rfl,rfl⟩) (eJ T W) (eJ T hy) Z
   .split at E
    .rename_i J;simp only[eY] at J;split at E<;>cases E
     .exact WK I J.1 (.inl ⟨rfl,rfl⟩) (eJ T W) (WO J.2 (eJ T hy)) Z
     .exact WK I J.1 (.inr ⟨rfl,rfl⟩) (eJ T W) (WO J.2 (eJ T hy)) Z
    .split at E
     .rename_i J;simp only[eY] at J;have hyc:=isNilI_opd hy J.2;subst hyc;split at E<;>cases E
      .exact WL I J.1 (.inl ⟨rfl,rfl⟩) (eJ T W) Z
      .exact WL I J.1 (.inr ⟨rfl,rfl⟩) (eJ T W) Z
     .cases E
def conv_op_sound {s d:TypeId} {x} {u} {Z} (I:Inv G H w.heap) (W:kT G w.heap a e) (J:eE x=some u) (E:EU P s d u=some Z) (T:cR P Z e H G.c K):
  cG P (convert s d (a.eval x)) G H w K:=by
 unfold EU at E;split at E
 .cases E;exact toInt_sound I (by assumption) (by assumption) (eJ W J) T
 .split at E<;>cases E;exact toStr_sound I (by assumption) (by assumption) (by assumption) (eJ W J) T
 .split at E<;>cases E;exact toBytes_sound (d:=.string) I (by assumption) (by assumption) (by assumption) (eJ W J) T
 .cases E
def len_op_sound {t ty:TypeId} {x} {u} {Z} (I:Inv G H w.heap) (W:kT G w.heap a e) (J:eE x=some u) (E:B1 P t u=some Z) (T:cR P Z e H G.c K):
  cG P (Builtin.len_ #[t] ty #[a.eval x]) G H w K:=by
 unfold B1 at E;split at E
 .cases E;exact lenStr_sound I (by assumption) (eJ W J) T
 .split at E
  .cases E;exact lenSlc_sound I (by assumption) (eJ W J) T
  .split at E<;>cases E;exact lenMap_sound I (by assumption) (eJ W J) T
def Z2 {f} (h:KC P f=true) (vs:Array Value) (w:World):(callFunc f vs).run P w=.ok (.enter f vs) w:=by
 unfold KC at h;split at h
 .rename_i E J;simp only[eY,bne_iff_ne,ne_eq] at h;have T:(E.name== "runtime.NumGoroutine")=false:=by simpa using h.2
  have W:E.body.isNone=false:=by simpa using h.1
  unfold callFunc;simp only[cP,run_program,dL,J,T,jF,if_false,W,dC]
 .cases h
def RU {f} {vs} {as0} (hs:(execOp a.eval o).run P w=.ok (.enter f vs) w) (I:Inv G H w.heap) (W:QT G w.heap vs as0) (T:bO P f as0 H G.c K)
  (J:∀v E,Good G H w K v E->next (a.put o.dst v) E):o.wp P a w next Q:=by unfold Oper.wp;rw[hs,Oper.upon_enter];refine(call_sound I W T).mono λT E ⟨v,W,T⟩=>?_;subst W;exact J v E T
def call_op_sound {c} {ty:TypeId} {E} (ho:o.op=.call c) (I:Inv G H w.heap) (hE:kT G w.heap a e) (J:B2 P c ty=some E) (W:cR P E e H G.c K)
  (hn:∀v E,Good G H w K v E->next (a.put o.dst v) E):o.wp P a w next Q:=by
 obtain⟨E,E,T⟩:=c;unfold B2 at J;dsimp only at J;split at J
 .split at J
  .rename_i x t Z ht;simp only[gX,dK] at J;obtain⟨u,hu,J⟩:=J;have e1:E=#[x]:=by rw[<-yC,Z]
   have e2:T=#[t]:=by rw[<-yC,ht]
   subst e1;subst e2;refine kX (s:=Builtin.len_ #[t] o.type #[a.eval x]) ?_ (len_op_sound I hE hu J W) hn;unfold execOp;simp only[ho,resolve,cP,dC,dL,invoke,builtin,List.map_toArray,gJ,xY]
  .cases J
 .split at J
  .rename_i x y t u Z ht;simp only[gX,dK] at J;obtain⟨⟨el,i⟩,hs,z,hz,J⟩:=J;split at J
   .simp only[dK,eH] at J;obtain⟨u1,hu1,u2,hu2,rfl⟩:=J;have e1:E=#[x,y]:=by rw[<-yC,Z]
    have e2:T=#[t,u]:=by rw[<-yC,ht]
    subst e1;subst e2;rename_i T;obtain⟨d,hd,Z⟩:∃d,P.underlying u=some d/\∀k,d≠.int k:=by
     unfold UB at T;split at T
     .cases T
     .cases T
     .rename_i h1 h2;cases hq:P.underlying u with
      |none=>exact(h2 hq).elim
      |some d=>exact⟨d,rfl,λk e=>h1 k (e▸hq)⟩
    refine kX (s:=Builtin.append_ #[t,u] o.type #[a.eval x,a.eval y]) ?_ (append_sound I hs hz hd Z (eJ hE hu1) (eJ hE hu2) W) hn;unfold execOp;simp only[ho,resolve,cP,dC,dL,invoke,builtin,List.map_toArray,gJ,xY]
   .cases J
  .cases J
 .rename_i f;simp only[gX,dK] at J;obtain⟨as0,Z,J⟩:=J;split at J<;>cases J;rename_i hb;have T:=NH hE E.toList as0 Z;have em:(E.toList.map a.eval).toArray=E.map a.eval:=by apply Array.ext';simp
  rw[em] at T;refine RU (vs:=E.map a.eval) ?_ I T W hn;unfold execOp;simp only[ho,resolve,Act.eval,Deferred.ofValue,cP,dC,dL,invoke];rw[Z2 hb];simp
 .rename_i t;simp only[gX,dK,eH] at J;obtain⟨as0,Z,rfl⟩:=J;have T:=NH hE E.toList as0 Z;have em:(E.toList.map a.eval).toArray=E.map a.eval:=by apply Array.ext';simp
  rw[em] at T;have Z:=hE t;simp only[cR,ev,ZV] at W;generalize hv:a.tmps.getD t undef=fv at Z;generalize e t=et at Z W;cases Z<;>simp only at W<;>first
   |exact W.elim
   |skip
  rename_i f Z caps hs hr;obtain⟨hb,W⟩:=W;refine RU (vs:=E.map a.eval++Z) ?_ I (as0:=as0.map (ev e)++caps) ?_ W hn
  .unfold execOp;have W:a.eval (.tmp t)=.func (.func f) #[] Z:=hv;simp only[ho,resolve,W,Deferred.ofValue,cP,dC,dL,invoke];rw[Z2 hb];simp
  .have h1:(E.map a.eval).size=(as0.map (ev e)).length:=T.1;refine⟨by simp only[RI,h1,hs,kW],λj b W=>?_⟩;rw[yA] at W;split at W
   .rename_i hl;have h2:=T.2 j b W;have e1:(E.map a.eval++Z).getD j undef=(E.map a.eval).getD j undef:=mO (by rw[AA (by omega)];exact nW (by omega));rw[e1];exact h2
   .rename_i hl;have h2:=hr _ b W;have T:=(bQ.1 W).1;have e1:(E.map a.eval++Z).getD j undef=Z.getD (j-(as0.map (ev e)).length) undef:=mO (by rw[Array.getElem?_append_right (by omega),h1];exact nW (by omega));rw[e1];exact h2
 .cases J
def Z0 {t:TypeId} (hE:kT G w.heap a e):∀(l:aF (Nat×Operand)) (E:aF (Nat×Nat×cW)),l.mapM (λ(p:Nat×Operand)=>do let (o,n)<-placeOf P t p.1;some (o,n,<-eE p.2))=some E->
  F2 (λp q=>placeOf P t p.1=some (q.1,q.2.1)/\bJ G w.heap p.2 q.2.2) (l.map λ(i,x)=>(i,a.eval x)) (E.map λ(o,n,x)=>(o,n,ev e x)):=by
 intro l
 induction l with
 |nil=>intro E h;simp at h;subst h;exact .nil
 |cons p l T=>
  intro E h;simp only[oQ,gX,dK,uO,eH] at h;obtain⟨q,⟨⟨o,n⟩,Z,y,W,rfl⟩,J,E,rfl⟩:=h;exact .cons ⟨Z,eJ hE W⟩ (T J E)
def bslice_parts (Z:kT G w.heap a e):∀(l:aF (Nat×Operand)) (E:aF (Nat×cW)),l.mapM (λ(p:Nat×Operand)=>do some (p.1,<-eE p.2))=some E->
  F2 (λp q=>p.1=q.1/\bJ G w.heap p.2 q.2) (l.map λ(i,x)=>(i,a.eval x)) (E.map λ(i,x)=>(i,ev e x)):=by
 intro l
 induction l with
 |nil=>intro E h;simp at h;subst h;exact .nil
 |cons p l T=>
  intro E h;simp only[oQ,gX,dK,uO,eH] at h;obtain⟨q,⟨y,W,rfl⟩,J,E,rfl⟩:=h;exact .cons ⟨rfl,eJ Z W⟩ (T J E)
def A0 {op} {J} (Z:o.op=op) (E:uA P op o.type=some J) (I:Inv G H w.heap) (T:kT G w.heap a e) (W:cR P J e H G.c K)
  (hn:∀v J,Good G H w K v J->next (a.put o.dst v) J):o.wp P a w next Q:=by
 cases op<;>simp only[uA,gX,dK,eH] at E
 case move x=>
  obtain⟨u,J,rfl⟩:=E;exact AE (by unfold execOp;simp only[Z];rfl) I W (eJ T J) hn
 case assign x=>
  obtain⟨u,J,rfl⟩:=E;exact AE (by unfold execOp;simp only[Z];rfl) I W (eJ T J) hn
 case pick c x y=>
  obtain⟨u,J,v,hv,z,hz,rfl⟩:=E;simp only[cR] at W;have rc:=eJ T J;generalize ev e u=au at W rc;generalize hcv:a.eval c=cv at rc;cases rc<;>simp only[DG] at W<;>first
   |exact W.elim
   |skip
  rename_i b;cases b with
  |true=>exact AE (by unfold execOp;simp only[Z,hcv,asBool,cP,dC,dL,if_true]) I (W.1 rfl) (eJ T hv) hn
  |false=>exact AE (by unfold execOp;simp only[Z,hcv,asBool,cP,dC,dL,jF,if_false]) I (W.2 rfl) (eJ T hz) hn
 case alloc t=>
  obtain⟨z,hz,rfl⟩:=E;exact kX (s:=Instr.alloc t true (.tuple #[])) (by unfold execOp;simp only[Z,cP,dC]) (new_sound I hz W) hn
 case box t x=>
  obtain⟨n,hn',u,J,rfl⟩:=E;exact kX (s:=Instr.box t (a.eval x)) (by unfold execOp;simp only[Z,cP,dC]) (box_sound I (eJ T J) W) hn
 case build t ps=>
  obtain⟨z,hz,E⟩:=E;split at E
  .simp only[dK,eH] at E;obtain⟨qs,hqs,rfl⟩:=E;have hk':pD z (qs.map λ((o,n,x):Nat×Nat×cW)=>(o,n,ev e x)) (λl=>K (.agg l) H G.c):=W;refine kX (s:=Instr.build t (ps.map λ(i,x)=>(i,a.eval x))) (by unfold execOp;simp only[Z,cP,dC]) (build_sound (K:=K) I hz (by assumption) ?_ hk') hn;rw[Array.toList_map];exact Z0 T ps.toList qs hqs
  .cases E
 case buildSlice t n ps=>
  obtain⟨⟨el,i⟩,hs,z,hz,E⟩:=E;split at E
  .rename_i hlim;simp only[dK,eH] at E;obtain⟨qs,hqs,rfl⟩:=E;have hk':zD i.size z n (qs.map λ((i,x):Nat×cW)=>(i,ev e x)) H G.c K:=W;refine kX (s:=Instr.buildSlice t n (ps.map λ(i,x)=>(i,a.eval x))) (by unfold execOp;simp only[Z,cP,dC]) (bslice_sound (K:=K) I hs hz hlim.1 (by have:=hlim.2;unfold mx;omega) ?_ hk') hn;rw[Array.toList_map];exact bslice_parts T ps.toList qs hqs
  .cases E
 case load t x=>
  obtain⟨ag,hag,u,J,rfl⟩:=E;exact kX (s:=Instr.loadAt t (a.eval x)) (by unfold execOp;simp only[Z,cP,dC]) (load_sound I hag (eJ T J) W) hn
 case store t x y=>
  obtain⟨n,hn',u,J,v,hv,rfl⟩:=E;exact RT (s:=Instr.storeAt t (a.eval x) (a.eval y)) (by unfold execOp;simp only[Z,cP,dC]) (store_sound I hn' (eJ T J) (eJ T hv) W) hn
 case nilCheck x=>
  obtain⟨u,J,rfl⟩:=E;simp only[cR] at W;have rx:=eJ T J;generalize ev e u=au at W rx;generalize hv:a.eval x=v at rx;have key:(execOp a.eval o).run P w=.ok (.value v) w:=by
   unfold execOp;simp only[Z,hv];cases rx<;>simp only[vE] at W<;>first
    |exact W.elim
    |rfl
  have hk':K au H G.c:=by cases rx<;>simp only[vE] at W<;>first|exact W.elim|exact W
  exact AE key I hk' rx hn
 case binOp op t x y yt=>
  obtain⟨u,J,v,hv,E⟩:=E;exact kX (s:=do eqGuard op t x y (a.eval x) (a.eval y);binOp op t (a.eval x) (a.eval y)) (by unfold execOp;simp only[Z,cP,dC]) (bin_op_sound I T J hv E W) hn
 case unOp op t x=>
  obtain⟨u,J,rfl⟩:=E;exact kX (s:=Op.unary op (a.eval x)) (by unfold execOp;simp only[Z,cP,dC]) (un_sound I (eJ T J) W) hn
 case convert s d x=>
  obtain⟨u,J,E⟩:=E;exact kX (s:=convert s d (a.eval x)) (by unfold execOp;simp only[Z,cP,dC]) (conv_op_sound I T J E W) hn
 case makeFunc fn first caps=>
  cases fn<;>simp only at E<;>first
   |(cases E;done)
   |skip
  split at E
  .rename_i f hf;simp only[dK,eH] at E;obtain⟨us,hus,rfl⟩:=E;have hrep:=NH T caps.toList us hus;have em:(caps.toList.map a.eval).toArray=caps.map a.eval:=by apply Array.ext';simp
   rw[em] at hrep;have h0:first=#[]:=by simpa using hf
   subst h0;exact AE (v:=.func (.func f) #[] (caps.map a.eval)) (by unfold execOp;simp only[Z,Instr.makeFunc,cP,dC,dL,RJ]) I W (.fn hrep.1 hrep.2) hn
  .cases E
 case makeMap t r=>
  cases r with
  |some x=>cases E
  |none=>
   cases E;exact kX (s:=Instr.makeMap t none) (by unfold execOp;simp only[Z,cP,dC];rfl) (mkmap_sound I W) hn
 case makeSlice t l c=>
  obtain⟨⟨el,i⟩,hs,z,hz,u,J,v,hv,rfl⟩:=E;exact kX (s:=Instr.makeSlice t (a.eval l) (a.eval c)) (by unfold execOp;simp only[Z,cP,dC]) (mkslice_sound I hs hz (eJ T J) (eJ T hv) W) hn
 case slice t x lo hi m=>
  cases m with
  |some m=>
   cases lo with
   |some lo=>cases hi<;>cases E
   |none=>
    cases hi with
    |none=>cases E
    |some hi=>
     simp only[dK,eH] at E;obtain⟨⟨el,i⟩,hs,u,J,l,hl,h,hh,rfl⟩:=E;exact kX (s:=Instr.sliceAt t (a.eval x) none (some (a.eval hi)) (some (a.eval m))) (by unfold execOp;simp only[Z,cP,dC];rfl)
      (slice3_sound I hs (eJ T J) (eJ T hl) (eJ T hh) W) hn
  |none=>
   simp only at E;split at E
   .rename_i hstr;simp only[dK,eH] at E;obtain⟨u,J,l,hl,h,hh,rfl⟩:=E;exact kX (s:=Instr.sliceAt t (a.eval x) (lo.map a.eval) (hi.map a.eval) none) (by unfold execOp;simp only[Z,cP,dC];rfl)
     (strSlice_sound I (I5 hstr) (eJ T J) (HY T hl) (HY T hh) W) hn
   .simp only[dK,eH] at E;obtain⟨⟨el,i⟩,hs,u,J,l,hl,h,hh,rfl⟩:=E;exact kX (s:=Instr.sliceAt t (a.eval x) (lo.map a.eval) (hi.map a.eval) none) (by unfold execOp;simp only[Z,cP,dC];rfl)
     (slcSlice_sound I hs (eJ T J) (HY T hl) (HY T hh) W) hn
 case fieldAddr t x f=>
  obtain⟨⟨off,ft⟩,hf,u,J,rfl⟩:=E;exact kX (s:=Instr.fieldAt t (a.eval x) f) (by unfold execOp;simp only[Z,cP,dC]) (faddr_sound I hf (eJ T J) W) hn
 case field t x f=>
  obtain⟨⟨off,ft⟩,hf,ag,hag,u,J,rfl⟩:=E;exact kX (s:=Instr.field t (a.eval x) f) (by unfold execOp;simp only[Z,cP,dC]) (field_sound I hf hag (eJ T J) W) hn
 case indexAddr t x i=>
  obtain⟨⟨el,j⟩,hs,u,J,v,hv,rfl⟩:=E;exact kX (s:=Instr.indexAt t (a.eval x) (a.eval i)) (by unfold execOp;simp only[Z,cP,dC]) (iaddr_sound I hs (eJ T J) (eJ T hv) W) hn
 case index t x i=>
  split at E
  .rename_i hs;simp only[dK,eH] at E;obtain⟨u,J,v,hv,rfl⟩:=E;exact kX (s:=Instr.index t (a.eval x) (a.eval i)) (by unfold execOp;simp only[Z,cP,dC]) (index_sound I (I5 hs) (eJ T J) (eJ T hv) W) hn
  .cases E
 case lookup t m k ok=>
  split at E
  .rename_i kt et ht;simp only[dK,eH] at E;obtain⟨d,hd,z,hz,u,J,v,hv,rfl⟩:=E;have hd1:=WE hd;exact kX (s:=Instr.lookup t (a.eval m) (a.eval k) ok) (by unfold execOp;simp only[Z,cP,dC]) (lookup_sound I ht hd1 hz (eJ T J) (eJ T hv) W) hn
  .cases E
 case mapUpdate t m k x=>
  split at E
  .rename_i kt et ht;simp only[dK,eH] at E;obtain⟨d,hd,u,J,v,hv,z,hz,rfl⟩:=E;have hd1:=WE hd;exact RT (s:=Instr.mapUpdate t (a.eval m) (a.eval k) (a.eval x)) (by unfold execOp;simp only[Z,cP,dC]) (mupd_sound I ht hd1 (eJ T J) (eJ T hv) (eJ T hz) W) hn
  .cases E
 case extract x i=>
  obtain⟨u,J,rfl⟩:=E;exact kX (s:=Instr.extract (a.eval x) i) (by unfold execOp;simp only[Z,cP,dC]) (extract_sound I (eJ T J) W) hn
 case call c=>exact call_op_sound Z I T E W hn
 all_goals (first|(cases E;done)|skip)
end
end A
end Go.Proofs.YtbdgahjfipdeoaaGreatDoor
