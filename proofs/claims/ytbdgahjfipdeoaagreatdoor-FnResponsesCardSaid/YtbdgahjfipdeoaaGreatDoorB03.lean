import GoSem.ClaimChange
import Derived.DataReads
import Derived.DataShut
import Derived.Below
import Derived.Carry
import Derived.ChangeSame
import Derived.ProofKit
import Derived.OpenShut
import Derived.Handed
import Derived.LaidLaws
import Derived.Test.YtbdgahjfipdeoaaGreatDoorB02
/- FnResponses: a part of its proof. No condition. -/
set_option linter.all false
set_option maxRecDepth 100000
namespace Go.Proofs.YtbdgahjfipdeoaaGreatDoor
namespace A
def wH (P:Program) (N:Nat):Nat->aF Field->Bool
 |o,[]=>o==N
 |o,f::E=>f.offset==o&&wH P N (o+P.cellsOf f.type) E
def DK (P:Program) (E:aF TypeId) (t:TypeId):Bool:=
 match P.underlying t with
 |some .bool|some (.int _)|some .string=>P.cellsOf t==1
 |some (.slice e)|some (.pointer e)=>P.cellsOf t==1&&(E.contains e&&decide (0<P.cellsOf e))
 |some (.struct J)=>(J.toList.all λf=>E.contains f.type)&&wH P (P.cellsOf t) 0 J.toList
 |_=>false
def IB (P:Program) (E:aF TypeId):Bool:=E.all (DK P E)
def nL (P:Program):Nat->TypeId->aF AV->Prop
 |0,_,_=>False
 |n+1,t,J=>
  match P.underlying t with
  |some .bool=>∃b,J=[.bool b]
  |some (.int k)=>∃i,J=[.int k i]/\qQ k i
  |some .string=>∃l,J=[.str l]/\l.length<=mx
  |some (.slice e)=>J=[.aU]\/∃T E,J=[.dX T (P.cellsOf e) E]/\E.length<=mx/\∀aM,aM∈E->nL P n e aM
  |some (.pointer e)=>J=[.qG]\/∃E,J=[.iP E 0]/\nL P n e E
  |some (.struct E)=>J.length=P.cellsOf t/\∀f,f∈E.toList->nL P n f.type ((J.drop f.offset).take (P.cellsOf f.type))
  |_=>False
def G0 (w:World):Gh:=⟨id,w.heap.size,λt=>t<w.heap.size⟩
def inv0 (w:World) (E:∀b,b<NB->b<w.heap.size/\GL b w.heap[b]?):Inv (G0 w) [] w.heap:=
 ⟨λt h=>⟨h,h⟩,by simp,by simp[aV],by simp[aV],λt J _ _ h=>h,λb J=>⟨(E b J).1,(E b J).1,rfl,(E b J).2⟩⟩
section
variable {H:Type} {enc:TypeId×Value->H} {P:Program} {w:World} {base:Nat} {sp:Nat->Bool} {held:Bool}
def Rd (w:World) (cs:aF Value) (as0:aF AV):Prop:=as0.length=cs.length/\∀(j:Nat) (v:Value) (a:AV),cs[j]?=some v->as0[j]?=some a->a.cell=true/\bJ (G0 w) w.heap v a
def Rd.one {v} {a:AV} (T:a.cell=true) (r:bJ (G0 w) w.heap v a):Rd w [v] [a]:=
 ⟨rfl,λj E E E J=>by
  cases j with
  |zero=>simp at E J;subst E;subst J;exact⟨T,r⟩
  |succ j=>simp at E⟩
def EY {a:Addr} {n} {cs:aF Value} (h:w.cells? base a n=some cs) (Z:0<n):a.spot=none/\a.block<w.heap.size/\cs.length=n/\∀j:Nat,j<n->∃v,cs[j]?=some v/\eF w.heap a.block (a.off+j)=some v:=by
 unfold World.cells? at h;split at h
 .obtain⟨hl,E⟩:=BC _ _ h;have J:∀j:Nat,j<n->∃v,cs[j]?=some v/\w.cell? (a.add j)=some v:=λj W=>E j j (by simp[W]);have tV:∀(x:Addr) (v:Value),w.cell? x=some v->x.spot=none/\eF w.heap x.block x.off=some v:=λx v E=>by
   unfold World.cell? at E;unfold eF;split at E
   .split at E
    .cases E
    .rename_i T;rw[‹w.heap[x.block]? = _›];exact⟨by simpa using T,E⟩
   .cases E
  obtain⟨E,E,E⟩:=J 0 Z;have T:a.spot=none:=(tV _ _ E).1;refine⟨T,?_,by simpa using hl,λj W=>?_⟩
  .have:=(tV _ _ E).2;unfold eF at this;rcases iA a.block w.heap.size with h|h
   .exact h
   .have e:(a.add 0).block=a.block:=rfl;rw[e,z8 h] at this;cases this
  .obtain⟨v,T,E⟩:=J j W;refine⟨v,T,?_⟩;have:=(tV _ _ E).2;have J:(a.add j).block=a.block:=by unfold Addr.add;split<;>rfl
   have E:(a.add j).off=a.off+j:=by unfold Addr.add;split<;>simp_all
   rw[J,E] at this;exact this
 .cases h
def drop_take_append {α:Type} (x y:aF α) o n (h:x.length=o):((x++y).drop o).take n=y.take n:=by subst h;simp
def read_fields {n} {J:aF TypeId} {N} {cs:aF Value} (E:cs.length=N)
  (ih:∀t cs d Z,t∈J->cs.length=P.cellsOf t->DataW.trod enc P w base sp held n t cs=some (d,Z)->∃T,Rd w cs T/\nL P n t T):
  ∀(E:aF Field) (o:Nat) (W:aF (DataW H×aF MemPlace)),wH P N o E=true->(∀f,f∈E->f.type∈J)->o<=N->
   E.mapM (λf=>DataW.trod enc P w base sp held n f.type ((cs.drop f.offset).take (P.cellsOf f.type)))=some W->
   ∀J:aF AV,J.length=o->∃T,Rd w (cs.drop o) T/\∀f,f∈E->nL P n f.type (((J++T).drop f.offset).take (P.cellsOf f.type)):=by
 intro E
 induction E with
 |nil=>
  intro o W T _ ho _ J hp;simp[wH] at T;exact⟨[],⟨by simp;omega,by simp⟩,by simp⟩
 |cons f E ihf=>
  intro o W T hm ho W J hp;simp only[wH,eY,beq_iff_eq] at T;obtain⟨h1,h2⟩:=T;simp only[oQ,gX,dK,uO,eH] at W;obtain⟨⟨d,Z⟩,hd,ys,hys,rfl⟩:=W;have hle:o+P.cellsOf f.type<=N:=by
   have:∀(E:aF Field) (k:Nat),wH P N k E=true->k<=N:=λE=>by
    induction E with
    |nil=>intro k h;simp[wH] at h;omega
    |cons f E ih=>intro k h;simp only[wH,eY,beq_iff_eq] at h;have:=ih _ h.2;omega
   exact this E _ h2
  have E:((cs.drop f.offset).take (P.cellsOf f.type)).length=P.cellsOf f.type:=by simp;omega
  obtain⟨T,r1,s1⟩:=ih f.type _ d Z (hm f (kB ..)) E hd;have W:T.length=P.cellsOf f.type:=r1.1.trans E;obtain⟨a2,Z,s2⟩:=ihf (o+P.cellsOf f.type) ys h2 (λg E=>hm g (iI _ E)) hle hys (J++T) (by simp[hp,W]);refine⟨T++a2,⟨by have:=Z.1;simp at this ⊢;omega,λj v a W J=>?_⟩,λg E=>?_⟩
  .rw[yA] at J;split at J
   .rename_i hlt;refine r1.2 j v a ?_ J;rw[GB,if_pos (by omega),h1];exact W
   .rename_i hge;refine Z.2 (j-T.length) v a ?_ J;rw[<-W,xZ,xZ];congr 1;omega
  .rcases fK.1 E with rfl|E
   .rw[h1];rw[drop_take_append _ _ _ _ hp,List.take_append_of_le_length (by omega),fJ (by omega)];exact s1
   .have:=s2 g E
    rwa [zY] at this
def R2 {ts:aF TypeId} (hok:IB P ts=true):∀(n:Nat) (t:TypeId) (cs:aF Value) (d:DataW H) (ps:aF MemPlace),t∈ts->cs.length=P.cellsOf t->DataW.trod enc P w base sp held n t cs=some (d,ps)->
  ∃as0,Rd w cs as0/\nL P n t as0:=by
 intro n
 induction n with
 |zero=>intro t cs d ps _ _ h;simp[DataW.trod] at h
 |succ n ih=>
  intro t cs d ps ht hl h;have hrow:DK P ts t=true:=kM.1 hok t ht;unfold DK at hrow;unfold DataW.trod at h;simp only[nL];cases hu:P.underlying t with
  |none=>rw[hu] at hrow;cases hrow
  |some desc=>
   rw[hu] at hrow h;cases desc<;>simp only[jF] at hrow
   case bool=>
    split at h<;>first
     |(cases h;done)
     |skip
    all_goals (rename_i heq;first|(cases heq;done)|skip)
    rename_i b;exact⟨[.bool b],Rd.one rfl .bool,b,rfl⟩
   case int=>
    split at h<;>first
     |(cases h;done)
     |skip
    all_goals (rename_i heq;first|(cases heq;done)|skip)
    rename_i k' i;cases heq;split at h
    .rename_i hk;obtain⟨rfl,hw⟩:=hk;have hi:=(Lit.wf_int_iff _ _).1 hw;exact⟨[.int _ i],Rd.one rfl (.int hi),i,rfl,hi⟩
    .cases h
   case string=>
    split at h<;>first
     |(cases h;done)
     |skip
    all_goals (rename_i heq;first|(cases heq;done)|skip)
    rename_i s;split at h
    .rename_i hk;have hk':s.data.toList.length<=mx:=by
      have:s.data.toList.length=s.size:=Array.length_toList;unfold maxLen at hk;unfold mx;omega
     exact⟨[.str s.data.toList],Rd.one rfl (.str rfl hk'),_,rfl,hk'⟩
    .cases h
   case slice e=>
    simp only[eY,LP,decide_eq_true_eq] at hrow
    replace hrow:=hrow.2
    split at h<;>first
     |(cases h;done)
     |skip
    all_goals (rename_i heq;first|(cases heq;done)|skip)
    .exact⟨[.aU],Rd.one rfl .aU,.inl rfl⟩
    .rename_i e' a len cap;cases heq;split at h
     .rename_i hk;obtain⟨hb,hlc,hcm⟩:=hk;simp only[dK,iH] at h;obtain⟨elems,hel,rest,_,_⟩:=h;obtain⟨hel1,hel2⟩:=BC _ _ hel;simp only[List.length_range] at hel1;have hmx:len<=mx:=by unfold maxLen at hcm;unfold mx;omega
      have hz:0<P.cellsOf e:=hrow.2;cases len with
      |zero=>exact⟨[.dX 0 (P.cellsOf e) []],Rd.one rfl .j5,.inr ⟨0,[],rfl,by simp,by simp⟩⟩
      |succ len'=>
       have key:∀i:Nat,i<len'+1->∃(ecs:aF Value) (as0:aF AV),w.cells? base (a.add (i*P.cellsOf e)) (P.cellsOf e)=some ecs/\Rd w ecs as0/\nL P n e as0:=λi hi=>by
        obtain⟨⟨ed,eps⟩,_,he⟩:=hel2 i i (by simp[hi]);simp only[dK] at he;obtain⟨ecs,h1,h2⟩:=he;obtain⟨as0,r,s⟩:=ih e ecs ed eps hrow.1 (EY h1 hz).2.2.1 h2;exact⟨ecs,as0,h1,r,s⟩
       let aM:Nat->aF AV:=λi=>if h:i<len'+1 then Classical.choose (LU (key i h)) else []
       let val:Nat->aF Value:=λi=>if h:i<len'+1 then Classical.choose (key i h) else []
       have hrowv:∀i,i<len'+1->w.cells? base (a.add (i*P.cellsOf e)) (P.cellsOf e)=some (val i)/\Rd w (val i) (aM i)/\nL P n e (aM i):=λi hi=>by
        simp only[aM,val,dif_pos hi];exact LU (LU (key i hi))
       have h00:=EY (hrowv 0 (by omega)).1 hz;have hspot:a.spot=none:=by simpa[Addr.add] using h00.1
       have hblk:a.block<w.heap.size:=by simpa[Addr.add] using h00.2.1
       have hget:∀(r:Nat) (x:aF AV),((List.range (len'+1)).map aM)[r]?=some x->r<len'+1/\x=aM r:=λr x h=>by
        simp only[kL,iH] at h;obtain⟨k,hk,rfl⟩:=h;obtain⟨h1,h2⟩:=bQ.1 hk;simp at h1 h2;subst h2;exact⟨h1,rfl⟩
       have hcellv:∀(r o:Nat) (x:aF AV) (b:AV),((List.range (len'+1)).map aM)[r]?=some x->x[o]?=some b->∃v,(val r)[o]?=some v/\eF w.heap a.block (a.off+r*P.cellsOf e+o)=some v/\b.cell=true/\bJ (G0 w) w.heap v b:=λr o x b hx hb=>by
        obtain⟨hr,rfl⟩:=hget r x hx;obtain⟨c1,r1,s1⟩:=hrowv r hr;obtain⟨_,_,q3,q4⟩:=EY c1 hz;have ho:o<P.cellsOf e:=by have:=(bQ.1 hb).1;have:=r1.1;omega
        obtain⟨v,v1,v2⟩:=q4 o ho;have e1:(a.add (r*P.cellsOf e)).block=a.block:=by unfold Addr.add;split<;>rfl
        have e2:(a.add (r*P.cellsOf e)).off=a.off+r*P.cellsOf e:=by unfold Addr.add;split<;>simp_all
        rw[e1,e2] at v2;obtain⟨p1,p2⟩:=r1.2 o v b v1 hb;exact⟨v,v1,v2,p1,p2⟩
       refine⟨[.dX a.block (P.cellsOf e) ((List.range (len'+1)).map aM)],Rd.one rfl ?_,.inr ⟨_,_,rfl,by simpa using hmx,λx hx=>?_⟩⟩
       .have ha:a=⟨(G0 w).m a.block,a.off,none⟩:=by cases a;simp at hspot;subst hspot;rfl
        have R:bJ (G0 w) w.heap (.slice (some ⟨(G0 w).m a.block,a.off,none⟩) ((List.range (len'+1)).map aM).length cap) (.dX a.block (P.cellsOf e) ((List.range (len'+1)).map aM)):=by
         refine .dX (λr o=>((val r)[o]?).getD undef) (show a.block<w.heap.size from hblk) (show a.block<w.heap.size from hblk) (by simpa using hmx) (by simpa using hlc) (λr x hx=>?_) (λr o x b hx hb=>?_) (λr o x b hx hb=>?_) (λr o x b hx hb=>?_)
         .obtain⟨hr,rfl⟩:=hget r x hx;obtain⟨c1,r1,_⟩:=hrowv r hr;rw[r1.1,(EY c1 hz).2.2.1]
         .obtain⟨v,v1,v2,_,_⟩:=hcellv r o x b hx hb;rw[v1];exact v2
         .obtain⟨v,v1,v2,v3,_⟩:=hcellv r o x b hx hb;exact v3
         .obtain⟨v,v1,v2,_,v4⟩:=hcellv r o x b hx hb;rw[v1];exact v4
        have hl':((List.range (len'+1)).map aM).length=len'+1:=by simp
        rw[hl',<-ha] at R;exact R
       .obtain⟨r,hr,rfl⟩:=LH.1 hx;obtain⟨hr',e⟩:=hget r _ (bC hr);rw[e];exact(hrowv r hr').2.2
     .cases h
   case pointer e=>
    simp only[eY,LP,decide_eq_true_eq] at hrow
    replace hrow:=hrow.2
    split at h<;>first
     |(cases h;done)
     |skip
    all_goals (rename_i heq;first|(cases heq;done)|skip)
    .exact⟨[.qG],Rd.one rfl .qG,.inl rfl⟩
    .rename_i e' a;cases heq;simp only[iH,dK] at h;obtain⟨⟨d1,p1⟩,⟨ecs,h1,h2⟩,_⟩:=h;obtain⟨q1,q2,q3,q4⟩:=EY h1 hrow.2;obtain⟨as0,r,s⟩:=ih e ecs d1 p1 hrow.1 q3 h2;refine⟨[.iP as0 0],Rd.one rfl ?_,.inr ⟨as0,rfl,s⟩⟩;have ha:a=⟨(G0 w).m a.block,a.off+0,none⟩:=by cases a;simp at q1;subst q1;rfl
     rw[ha];have hv:∀(j:Nat) (b:AV),as0[j]?=some b->∃v,ecs[j]?=some v/\eF w.heap a.block (a.off+j)=some v/\b.cell=true/\bJ (G0 w) w.heap v b:=λj b hb=>by
      obtain⟨v,v1,v2⟩:=q4 j (by have:=(bQ.1 hb).1;have:=r.1;omega);obtain⟨p1,p2⟩:=r.2 j v b v1 hb;exact⟨v,v1,v2,p1,p2⟩
     refine .iP (λj=>(ecs[j]?).getD undef) q2 q2 (λj b hb=>?_) (λj b hb=>?_) (λj b hb=>?_)
     .obtain⟨v,v1,v2,_⟩:=hv j b hb;rw[v1];exact v2
     .obtain⟨v,v1,v2,v3,_⟩:=hv j b hb;exact v3
     .obtain⟨v,v1,v2,_,v4⟩:=hv j b hb;rw[v1];exact v4
   case struct fs=>
    simp only[eY,kM,LP,decide_eq_true_eq] at hrow;split at h<;>first
     |(cases h;done)
     |skip
    all_goals (rename_i heq;first|(cases heq;done)|skip)
    .cases heq;rw[if_pos hl] at h;simp only[iH] at h;obtain⟨xs,hxs,_⟩:=h;obtain⟨as0,r,s⟩:=read_fields hl ih fs.toList 0 xs hrow.2 hrow.1 (kH _) hxs [] rfl;exact⟨as0,by simpa using r,by have:=r.1;simp at this;omega,λf hf=>by simpa using s f hf⟩
    .exact(‹∀fs_1:Array Field,some (TypeDesc.struct fs)=some (TypeDesc.struct fs_1)->False› fs rfl).elim
end
open Go.RowKit Go.WideShapes Go.ChangeShapes Go.ChangeAt
section
variable {H:Type} {enc:TypeId×Value->H} {P:Program} {w:World}
def BH (P:Program) (t:TypeId):Bool:=match P.underlying t with|some (.struct _)=>true|_=>false
def QU (P:Program) (t:TypeId) (a:AV):Prop:=∃n,if BH P t then ∃E,a=.agg E/\nL P n t E else nL P n t [a]
def rd_agg {cs:Array Value} {as0} (r:Rd w cs.toList as0):bJ (G0 w) w.heap (.agg cs) (.agg as0):=by
 have hl:cs.size=as0.length:=by have:=r.1;simp at this;exact this.symm
 have J:∀(j:Nat) (a:AV),as0[j]?=some a->∃v,cs[j]?=some v/\a.cell=true/\bJ (G0 w) w.heap v a:=λj a E=>by
  have T:=(bQ.1 E).1;have Z:cs.toList[j]?=some (cs[j]'(by omega)):=by simp
  obtain⟨W,T⟩:=r.2 j _ a Z E;exact⟨_,fQ (by omega),W,T⟩
 exact .agg hl (λj a E=>let ⟨v,_,h,_⟩:=J j a E;h) λj a E=>by
  obtain⟨v,W,_,T⟩:=J j a E;rw[mO W];exact T
def arg_read {Z:aF TypeId} (W:IB P Z=true) {t:TypeId} (ht:t∈Z) {J} {r} {b} {sp:Nat->Bool} {E} {v} {d} {ps} (T:Value.okWide P w r b t v) (h:DataW.Trod enc P w J sp E t v d ps):
  ∃a,QU P t a/\bJ (G0 w) w.heap v a:=by
 obtain⟨n,h⟩:=h;have E:DK P Z t=true:=kM.1 W t ht;have one:BH P t=false->P.cellsOf t=1->v.cells=#[v]->∃a,QU P t a/\bJ (G0 w) w.heap v a:=λh1 Z J=>by
  rw[J] at h;obtain⟨as0,r,s⟩:=R2 W n t _ d ps ht (by simp[Z]) h;have J:=r.1
  match as0,J with
  |[a],_=>exact⟨a,⟨n,by rw[h1];exact s⟩,(r.2 0 v a (by simp) (by simp)).2⟩
 unfold DK at E;unfold Value.okWide at T;have eF:∀v,Cell.okWide P w r b t v->BH P t=false->(match P.underlying t with|some .bool|some (.int _)|some .string|some (.slice _)|some (.pointer _)=>true|_=>false)=true->v.cells=#[v]:=λv T _ Z=>by
  cases v<;>first
   |rfl
   |skip
  all_goals
   unfold Cell.okWide Cell.ok at T;cases hu:P.underlying t with
   |none=>rw[hu] at Z;cases Z
   |some J=>rw[hu] at Z T;cases J<;>first|(cases Z;done)|exact T.elim
 cases hu:P.underlying t with
 |none=>rw[hu] at E;cases E
 |some J=>
  rw[hu] at E T;cases J<;>simp only[jF] at E
  case struct fs=>
   obtain⟨J,rfl,J,_⟩:=T;obtain⟨as0,r,s⟩:=R2 W n t _ d ps ht (by simpa[Value.cells] using J) h;exact⟨.agg as0,⟨n,by rw[if_pos (by simp[BH,hu])];exact⟨as0,rfl,s⟩⟩,rd_agg r⟩
  all_goals
   have h1:BH P t=false:=by simp[BH,hu]
   refine one h1 ?_ (eF v T h1 (by rw[hu]));simp only[eY,beq_iff_eq] at E
   first|exact E|exact E.1
inductive FR (P:Program):List TypeId->List AV->Prop
 |nil:FR P [] []
 |cons {t:TypeId} {ts:List TypeId} {a:AV} {as0:List AV} (h:QU P t a) (r:FR P ts as0):FR P (t::ts) (a::as0)
def args_read {rs:aF TypeId} (hok:IB P rs=true) {W} {r} {b} {sp:Nat->Bool} {T}:∀(E:aF TypeId) (J:aF Value) (ds:aF (DataW H)) (Z:aF MemPlace),(∀t,t∈E->t∈rs)->
  (∀(j:Nat) t v,E[j]?=some t->J[j]?=some v->Value.okWide P w r b t v)->DataW.TrodAll enc P w W sp T E J ds Z->J.length=E.length/\∃T,T.length=E.length/\FR P E T/\∀(j:Nat) (v:Value) (a:AV),J[j]?=some v->T[j]?=some a->bJ (G0 w) w.heap v a:=by
 intro E
 induction E with
 |nil=>
  intro J ds Z _ _ h;obtain⟨rfl,rfl,rfl⟩:=trodAll_nil h;exact⟨rfl,[],rfl,.nil,by simp⟩
 |cons t E ih=>
  intro J ds Z hm hv h;obtain⟨v,W,d,ds',p,q,rfl,rfl,rfl,J,E⟩:=trodAll_cons h;obtain⟨a,s,ra⟩:=arg_read hok (hm t (kB ..)) (hv 0 t v (by simp) (by simp)) J;obtain⟨hl,T,hla,ss,Z⟩:=ih W ds' q (λt h=>hm t (iI _ h)) (λj t v J E=>hv (j+1) t v (by simpa using J) (by simpa using E)) E;refine⟨by simp[hl],a::T,by simp[hla],.cons s ss,λj T W J E=>?_⟩;cases j with
  |zero=>simp at J E;subst J;subst E;exact ra
  |succ j=>exact Z j T W (by simpa using J) (by simpa using E)
def law_calls {f:Nat} {vs:Array Value} {as0:aF AV} (hg:∀b,b<NB->b<w.heap.size/\GL b w.heap[b]?) (hc:cA P f as0 [] w.heap.size λr H' _=>r=.bool true/\H'=[]) (hl:vs.toList.length=as0.length) (hr:∀(j:Nat) (v:Value) (a:AV),vs.toList[j]?=some v->as0[j]?=some a->bJ (G0 w) w.heap v a):
  Calls P f vs w λe w'=>e=.returned (.bool true)/\Below w.heap.size w w':=by
 refine(hc (G0 w) w vs rfl (inv0 w hg) (by simpa using hl) λj a ha=>?_).mono λe w' ⟨v,res,H',G',he,⟨h1,h2⟩,x,I,r⟩=>?_
 .have hj:=(bQ.1 ha).1;have hv:vs.toList[j]?=some (vs[j]'(by simp at hl;omega)):=by simp
  have h1:=hr j _ a hv ha;rw[mO (fQ (by simp at hl;omega))];exact h1
 .subst h1;cases r;exact⟨he,x.os,x.tape,x.output,x.size,λk hk=>x.frame k hk (by simp[aV])⟩
def trodAll_stays (hl:laidOutB P=true) {W W':World} (hb:Below W.heap.size W W') {sp:Nat->Bool}:∀(E:aF TypeId) (T:aF Value) (Z:aF (DataW H)) (J:aF MemPlace),(∀t,t∈E->P.readableRec t=true/\t<P.types.size)->
  (∀p,p∈J->p.block<W.heap.size)->(∀p,p∈J->sp p.block=true)->DataW.TrodAll enc P W 0 (λ_=>true) true E T Z J->DataW.TrodAll enc P W' 0 sp true E T Z J:=by
 intro E
 induction E with
 |nil=>intro T Z J _ _ _ h;obtain⟨rfl,rfl,rfl⟩:=trodAll_nil h;exact h
 |cons t E ih=>
  intro T Z J Z J hs h;obtain⟨v,T,d,W,p,q,rfl,rfl,rfl,h1,h2⟩:=trodAll_cons h;obtain⟨t1,E⟩:=Z t (kB ..);exact⟨p,q,WideElems.Trod_stays hl t1 E h1 (λx E=>hb.same (J x (kC _ E))) (λx E=>hs x (kC _ E)),
   ih T W q (λt h=>Z t (iI _ h)) (λx E=>J x (wC _ E)) (λx E=>hs x (wC _ E)) h2,rfl⟩
def post_of_below {f:Func} {s:ChangeSpec} {apart fresh handsOn again} {W W':World} {J:Array Value} {v:Value} {ds gs} {E pa pv}
  (hW:DataW.Whole enc P f.params.toList s.vars apart W J.toList ds gs E)
  (hres:∀(b:Nat) (sp:Nat->Bool) (T:Bool),DataW.TrodAll enc P W' b sp T f.resultTypes.toList (v.resultList f.resultTypes.size) (s.fn H (ds++gs)).results [])
  (Z:∀sp:Nat->Bool,(∀p∈E,sp p.block=true)->DataW.TrodAll enc P W' 0 sp true f.params.toList J.toList (s.fn H (ds++gs)).args pa)
  (T:∀sp:Nat->Bool,(∀p∈E,sp p.block=true)->DataW.TrodVars enc P W' sp s.vars (s.fn H (ds++gs)).vars pv)
  (hps:E=pa++pv) (hb:Below W.heap.size W W')
  (hok:∀(j:Nat) (t:TypeId) (r:Value),f.resultTypes[j]?=some t->(v.resultList f.resultTypes.size)[j]?=some r->Value.okWide P W' .any 0 t r):
  s.post enc P f apart fresh handsOn again W J v W':=by
 have hlt:∀p∈E,p.block<W.heap.size:=λp J=>hW.lt p J;have hold:∀p∈E,(λb=>decide (b<W.heap.size)) p.block=true:=λp J=>by simpa using hlt p J
 refine⟨ds,gs,E,[],pa,pv,hW,hres _ _ _,Z _ hold,T _ hold,World.keptBut_mono (λp J=>⟨J,?_⟩) (hb.frame (·∈E)),λ_=>?_⟩
 .rw[hps,dI] at J;exact Or.inr J
 .obtain⟨_,_,_,_,_,hz,hn⟩:=hW;refine⟨hok,_,_,([]++pa)++pv,⟨[]++pa,pv,trodAll_append (Z _ (λ_ _=>rfl)) (hres _ _ _),T _ (λ_ _=>rfl),rfl,?_,?_⟩,?_⟩
  .intro b T J;have W:MemPlace.cell b T∈E:=by rw[hps];simpa using J
   rw[hb.frozen (hlt _ W)];exact hz b T W
  .intro E;have:=hn E;rw[hps] at this;simpa using this
  .intro p J _;rw[hps];simpa using J
def law_post {f} {fn:Func} {s:ChangeSpec} {W:World} {E:Array Value} {J gs:aF (DataW H)} {before} {bt:TypeId} {rs:aF TypeId} {base} {fresh Z again}
  (hok:IB P rs=true) (hl:laidOutB P=true) (hts:∀t,t∈fn.params.toList->t∈rs/\P.readableRec t=true/\t<P.types.size) (hbt:P.underlying bt=some .bool) (hres:fn.resultTypes=#[bt]) (T:s.vars=[])
  (hs:∀J:aF (DataW H),J.length=fn.params.size->(s.fn H J).results=[.lit (.bool true)]/\(s.fn H J).args=J/\(s.fn H J).vars=[])
  (hW:DataW.Whole enc P fn.params.toList s.vars false W E.toList J gs before)
  (hval:∀(j:Nat) t v,fn.params[j]?=some t->E[j]?=some v->Value.okWide P W .any base t v)
  (hcon:∀as0,FR P fn.params.toList as0->cA P f as0 [] W.heap.size λr H' _=>r=.bool true/\H'=[])
  (hg:∀b,b<NB->b<W.heap.size/\GL b W.heap[b]?:=by intro b hb;exact absurd hb (Nat.not_lt_zero b)):
  Calls P f E W λe W'=>∃v,e=.returned v/\s.post enc P fn false fresh Z again W E v W':=by
 have hW':=hW;obtain⟨p,q,hA,Z,rfl,hfz,hnd⟩:=hW;rw[T] at Z;obtain⟨rfl,rfl⟩:=trodVars_none Z;obtain⟨hlen,as0,hla,hsh,Z⟩:=args_read (w:=W) hok fn.params.toList E.toList J p (λt h=>(hts t h).1) (λj t v h1 h2=>hval j t v (by simpa using h1) (by simpa using h2)) hA;refine(law_calls hg (hcon as0 hsh) (hlen.trans hla.symm) Z).mono λe W' ⟨he,hb⟩=>?_;have hds:J.length=fn.params.size:=by
  have:∀(E:aF TypeId) (Z:aF Value) (J:aF (DataW H)) (ps:aF MemPlace),DataW.TrodAll enc P W 0 (λ_=>true) true E Z J ps->J.length=E.length:=λE=>by
   induction E with
   |nil=>intro Z J ps h;obtain⟨rfl,rfl,rfl⟩:=trodAll_nil h;rfl
   |cons t E W=>intro Z J ps h;obtain⟨v,E,d,E,p,q,rfl,rfl,rfl,h1,h2⟩:=trodAll_cons h;simp[W _ _ _ h2]
  simpa using this _ _ _ _ hA
 obtain⟨s1,Z,W⟩:=hs (J++[]) (by simpa using hds);refine⟨_,he,post_of_below (pa:=p) (pv:=[]) hW' (λb E J=>?_) (λE J=>?_) (λE _=>?_) (by simp) hb ?_⟩
 .rw[s1,hres];exact trodAll_cons_mk (shut_bool hbt _) trodAll_mk0
 .rw[Z,List.append_nil];exact trodAll_stays hl hb _ _ _ _ (λt h=>(hts t h).2) (λx E=>hW'.lt x (by simpa using E)) (λx E=>J x (by simpa using E)) hA
 .rw[W,T];rfl
 .exact ok_one hres rfl (okWide_bool_mk hbt _)
end
end A
end Go.Proofs.YtbdgahjfipdeoaaGreatDoor
namespace Go.Proofs.YtbdgahjfipdeoaaGreatDoor
namespace A
inductive SL (α:Type) where
 |nil
 |mk (tag:Nat) (xs:List α)
namespace SL
variable {α:Type}
def aG:SL α->aF α
 |nil=>[]
 |mk _ E=>E
def av (w:Nat) (f:α->aF AV):SL α->AV
 |nil=>.aU
 |mk t E=>.dX t w (E.map f)
@[simp] theorem list_nil:(SL.nil:SL α).aG=[]:=(rfl)
@[simp] theorem list_mk t (xs:aF α):(SL.mk t xs).aG=xs:=(rfl)
end SL
section
variable {α:Type} {w:Nat} {f:α->aF AV} {s:SL α}
@[simp] theorem SL.len (K:AV->Prop):oV (s.av w f) K=K (.I s.aG.length):=by cases s<;>simp[SL.av,SL.aG]
@[simp] theorem SL.at (k:IntKind) (n:Int) (K:AV->Prop):sP w (s.av w f) (.int k n) K=(0<=n/\aZ s.aG n.toNat (Lz (λx=>K (.iP (f x) 0)) ⟨⟩)):=by
 show _ = (0<=n/\aZ s.aG n.toNat λx=>K (.iP (f x) 0))
 cases s with
 |nil=>simp[SL.av,SL.aG,sP,aZ]
 |mk t E=>simp only[SL.av,SL.aG,iaddrW_slc,getW_map,true_and];rfl
@[simp] theorem SL.cells (K:aF AV->Prop):lL (s.av w f) K=K [s.av w f]:=by cases s<;>rfl
end
section
variable {α:Type}
def SL.jE (f:α->α) (s:SL α):SL α:=.mk 0 (s.aG.map f)
def SL.pcon (s:SL α):SL α:=.mk 0 s.aG
@[simp] theorem SL.con_list (f:α->α) (s:SL α):(s.jE f).aG=s.aG.map f:=(rfl)
end
@[simp] theorem putA_all {aM l:aF AV} (h:l.length=aM.length):aR aM 0 l=l:=by unfold aR;simp[h]
section
variable {P:Program} {H:aC} {c:Nat} {K:aD}
def bZ {f} {as0} {res} (T:dA P f as0 res) (E:Av (aV H) res) (k:∀J,c<=J->K res H J):bO P f as0 H c K:=E5 T (fG.refl _ _) E k
def xP {f} {as0} {res} (T:dA P f as0 res) (E:Av (aV H) res) (k:∀J,c<=J->K res H J):zC P f as0 H c K:=⟨as0,res,fG.refl _ _,T,E,k⟩
def E0 {f} {as0} {Q:Nat->AV->Prop} (J:Tr P f as0 Q) (k:∀r E,c<=E->Q c r->fX c r->K r H E):bO P f as0 H c K:=E4 J (fG.refl _ _) k
def fin_slc {Q:aD} {i t w len:Nat} {aN:aF (aF AV)} (E:H[i]?=some ⟨false,t,w,aN⟩) (J:aN.length=len) (Z:∀aM,aM∈aN->∀a,a∈aM->a.cell=true) (h:Q (.dX t w aN) [] c):cE Q (.ref i t w len) H c:=
 ⟨H,[],[],.dX t w aN,eX _,.nil,λo h=>h,by simp[aV],.ref (bA E) (by omega) J (λr x T J E=>by rw[J] at E;cases E;rfl)
  (λr j x a W ha=>Z x (bA W) a (bA ha)) (λr j x T a T J E W T=>by rw[J] at E;cases E;rw[W] at T;cases T;exact .refl _),h⟩
end
def wrap64 {n:Int} (E:-9223372036854775808<=n) (E:n<=9223372036854775807):IntKind.i64.wrap n=n:=by simp only[IntKind.wrap_i64];omega
section
variable {P:Program} {H:aC} {c:Nat} {e:Env} {Q:kU}
def tP {B} n (I:Nat->Env->aC->Nat->Prop) (h0:I 0 e H c)
  (hs:∀i e H c,i<=n->I i e H c->∀N:Env->aC->Nat->Prop,(∀W T Z,i<n->I (i+1) W T Z->N W T Z)->cC P B (iO N Q) e H c):cC P (.loop B) Q e H c:=by
 refine⟨λe H c=>∃i,i<=n/\I i e H c,λe H c=>least λk=>∃i,i<=n/\I i e H c/\k=n-i,⟨H,bY _,0,kH _,h0⟩,λe H c ⟨i0,E,J⟩=>?_⟩;obtain⟨i,hi,hI,hk⟩:=IW (p:=λk=>∃i,i<=n/\I i e H c/\k=n-i) ⟨_,i0,E,J,rfl⟩;refine hs i e H c hi hI _ λW T Z E J=>⟨T,bY _,⟨i+1,E,J⟩,rV (least_le (p:=λk=>∃i,i<=n/\I i W T Z/\k=n-i) ⟨i+1,E,J,rfl⟩) ?_⟩
 show n-(i+1)<least λk=>∃i,i<=n/\I i e H c/\k=n-i;rw[hk];omega
def b6 {B} n (I:Nat->Env->aC->Nat->Prop) (h0:I 0 e H c)
  (hs:∀i e H c,i<=n->I i e H c->∀N:Env->aC->Nat->Prop,(∀Z W E c',i<n->E.Sublist W->I (i+1) Z E c'->N Z W c')->cC P B (iO N Q) e H c):cC P (.loop B) Q e H c:=by
 refine⟨λe H c=>∃i,i<=n/\I i e H c,λe H c=>least λk=>∃i,i<=n/\I i e H c/\k=n-i,⟨H,bY _,0,kH _,h0⟩,λe H c ⟨i0,J,T⟩=>?_⟩;obtain⟨i,hi,hI,hk⟩:=IW (p:=λk=>∃i,i<=n/\I i e H c/\k=n-i) ⟨_,i0,J,T,rfl⟩;refine hs i e H c hi hI _ λZ W E c' T J W=>⟨E,J,⟨i+1,T,W⟩,rV (least_le (p:=λk=>∃i,i<=n/\I i Z E c'/\k=n-i) ⟨i+1,T,W,rfl⟩) ?_⟩
 show n-(i+1)<least λk=>∃i,i<=n/\I i e H c/\k=n-i;rw[hk];omega
end
def bE {α:Type} (sz:α->Nat) (l:aF α):Nat:=(l.map sz).sum
def SA {α:Type} (sz:α->Nat) (l:aF α) {i:Nat} (h:i<l.length):bE sz (l.take (i+1))=bE sz (l.take i)+sz l[i]:=by unfold bE;rw[nO h,qB,FY];rfl
def HA {α:Type} (sz:α->Nat) (l:aF α) i:bE sz (l.take i)<=bE sz l:=by
 have:bE sz l=bE sz (l.take i)+bE sz (l.drop i):=by
  unfold bE;rw[<-FY,<-qB,wA]
 omega
def cD {i n:Nat} (E:n<=mx) (h:i<n):IntKind.i64.wrap ((i:Int)+1)=i+1:=by rw[wrap64 (by omega) (by unfold mx at E;omega)]
def qL (n:Int):aF AV:=[.I n]
def eK (l:aA):aF AV:=[.str l]
@[simp] theorem encS_g l (K:AV->Prop):aZ (eK l) 0 K=K (.str l):=by simp[eK]
@[simp] theorem cell_int (k:IntKind) (n:Int):(AV.int k n).cell=true:=(rfl)
@[simp] theorem cell_bool b:(AV.bool b).cell=true:=(rfl)
@[simp] theorem cell_str l:(AV.str l).cell=true:=(rfl)
@[simp] theorem nI {α:Type} w (f:α->aF AV) (s:SL α):(s.av w f).cell=true:=by cases s<;>rfl
end A
end Go.Proofs.YtbdgahjfipdeoaaGreatDoor
namespace Go.Proofs.YtbdgahjfipdeoaaGreatDoor
namespace A
section
variable {P:Program} {α:Type} {enc:α->aF AV} {jE:α->α} {w:Nat} {f g:Nat}
def AR {sz:α->Nat} {l} {x} (h:x∈l):sz x<=bE sz l:=by obtain⟨i,E,rfl⟩:=LH.1 h;have J:=SA sz l E;have E:=HA sz l (i+1);omega
def rows_typed {ok:α->Prop}:∀(E:aF (aF AV)),(∀aM,aM∈E->∃x,aM=enc x/\ok x)->∃J:aF α,E=J.map enc/\∀x,x∈J->ok x:=by
 intro E
 induction E with
 |nil=>intro _;exact⟨[],rfl,by simp⟩
 |cons r E Z=>
  intro h;obtain⟨x,hx,W⟩:=h r (kB ..);obtain⟨J,T,E⟩:=Z λaM Z=>h aM (iI _ Z);exact⟨x::J,by simp[hx,T],by simpa using ⟨W,E⟩⟩
def sh_slc {ok:α->Prop} {n} {t el:TypeId} (E:P.underlying t=some (.slice el)) (hw:P.cellsOf el=w) (he:∀n aM,nL P n el aM->∃x,aM=enc x/\ok x) {a} (h:nL P n t [a]):
  ∃s:SL α,a=s.av w enc/\s.aG.length<=mx/\∀x,x∈s.aG->ok x:=by
 cases n with
 |zero=>exact h.elim
 |succ n=>
  simp only[nL,E] at h;rcases h with h|⟨J,E,T,h2,h3⟩
  .cases h;exact⟨.nil,rfl,by simp,by simp⟩
  .cases T;obtain⟨W,T,Z⟩:=rows_typed (enc:=enc) (ok:=ok) E λaM E=>he n aM (h3 aM E);subst T;exact⟨.mk J W,by rw[hw];rfl,by simpa using h2,by simpa using Z⟩
def sh_int1 {n} {t:TypeId} {k} (E:P.underlying t=some (.int k)) {aM} (h:nL P n t aM):∃i,aM=[.int k i]/\qQ k i:=by
 cases n with
 |zero=>exact h.elim
 |succ n=>simp only[nL,E] at h;exact h
end
section
variable {P:Program} {H:aC} {c:Nat} {K:aD}
def zB {f} {as0} {Q:aD} (W:cA P f as0 H c Q)
  (k:∀r E J,c<=J->Q r E J->(∀t,t<c->t∈aV E->t∈aV H)->(aV E).Nodup->Av [] r/\(∀o,o∈E->iX [] o)/\K r E J):bO P f as0 H c K:=by intro T T;obtain⟨Z,T⟩:=(fG.refl [] as0).spec;refine⟨H,[],as0,Q,bY _,by simp,by simp[aV],Z,T,W,λr E J hc hq ho T=>?_⟩;obtain⟨k1,Z,W⟩:=k r E J hc hq ho T;exact⟨E,r,λo h=>.inl h,T,.refl r,k1,λo h _=>Z o h,W⟩
def ZW {f} {as0 J} {H1 S:aC} {Q:aD} (T:H1.Sublist H) (hS:∀o,o∈S->o∈H) (hd:∀t,t∈aV H1->t∉aV S) (hv:fG S as0 J) (hf:cA P f J H1 c Q)
  (k:∀r E c',c<=c'->Q r E c'->(∀t,t<c->t∈aV E->t∈aV H1)->(aV E).Nodup->∃W Z,(∀o,o∈W->o∈E\/(o∈H/\o.tag∉aV H1))/\(aV W).Nodup/\View [] r Z/\Av (aV S) Z/\
   (∀o,o∈W->o∈E->iX (aV S) o)/\K Z W c'):bO P f as0 H c K:=by intro E E;obtain⟨W,E⟩:=hv.spec;exact⟨H1,S,J,Q,T,hS,hd,W,E,hf,k⟩
def B7 {f} {as0 E} {Q:aD} (hf:cA P f E [] c Q) (Z:fG H as0 E)
  (k:∀r O T,c<=T->Q r O T->(∀t,t∈aV O->c<=t)->(aV O).Nodup->∃J,View [] r J/\Av (aV H) J/\(∀o,o∈O->iX (aV H) o)/\K J (H++O) T):bO P f as0 H c K:=by
 intro hn W;obtain⟨h1,h2⟩:=Z.spec;refine⟨[],H,E,Q,eX _,λo h=>h,by simp[aV],h1,h2,hf,λr O T hc hq ho Z=>?_⟩;have E:∀t,t∈aV O->c<=t:=λt ht=>by
  rcases iA t c with h|h
  .have:=ho t h ht;simp[aV] at this
  .exact h
 obtain⟨J,k1,k2,k3,k4⟩:=k r O T hc hq E Z;refine⟨H++O,J,λo h=>?_,?_,k1,k2,λo _ h=>k3 o h,k4⟩
 .rcases dI.1 h with h|h
  .exact .inr ⟨h,by simp[aV]⟩
  .exact .inl h
 .have:aV (H++O)=aV H++aV O:=by simp[aV]
  rw[this];refine mI.2 ⟨hn,Z,λa Z b T J=>?_⟩;subst J;exact absurd (W a Z) (zQ.2 (E a T))
def PY {f} {as0 E} {A B C} {Q:aD} (hf:cA P f E B c Q) (T:fG [] as0 E)
  (k:∀r J W,c<=W->Q r J W->aV J=aV B/\Av [] r/\(∀o,o∈J->iX [] o)/\K r (A++J++C) W):bO P f as0 (A++B++C) c K:=by
 intro Z hlt;obtain⟨h1,h2⟩:=T.spec;have T:B.Sublist (A++B++C):=(LG A B).trans (List.sublist_append_left _ _);refine⟨B,[],E,Q,T,by simp,by simp[aV],h1,h2,hf,λr J W hc E T T=>?_⟩;obtain⟨k0,k1,k2,T⟩:=k r J W hc E;have e:∀X,aV (A++X++C)=aV A++aV X++aV C:=λX=>by simp[aV]
 have E:=Z;rw[e] at E;refine⟨A++J++C,r,λo h=>?_,by rw[e,k0,<-e];exact Z,.refl r,k1,λo _ h=>k2 o h,T⟩;rw[zY] at h;have J:=mI.1 E;have T:=mI.1 J.1;rcases dI.1 h with h|h
 .exact .inr ⟨by simp[h],λE=>T.2.2 _ (iJ h) _ E rfl⟩
 .rcases dI.1 h with h|h
  .exact .inl h
  .exact .inr ⟨by simp[h],λE=>J.2.2 _ (wC _ E) _ (iJ h) rfl⟩
def dD {Q:aD} {v} (h:Q v H c):cE Q v H c:=⟨[],H,H,v,bY _,.refl _ _,by simp,by simp[aV],.refl v,h⟩
def E8 {T} {o:aH} (h:∀aM,aM∈o.aN->∀a,a∈aM->Av T a):iX T o:=λr j x a E J=>h x (bA E) a (bA J)
def jK {α:Type} {enc:α->aF AV} {S} {i tag w n} {l:aF α} (E:(⟨false,tag,w,l.map enc⟩:aH)∈S) (J:l.length=n) (hc:∀x,x∈l->∀a,a∈enc x->a.cell=true):View S (.ref i tag w n) ((SL.mk tag l).av w enc):=
 .ref E (by simp;omega) (by simp[J]) (λr x T J E=>by rw[J] at E;cases E;rfl)
  (λr j x a Z ha=>by
   obtain⟨y,W,rfl⟩:=fZ.1 (bA Z);exact hc y W a (bA ha))
  λr j x T a T J E W T=>by rw[J] at E;cases E;rw[W] at T;cases T;exact .refl _
@[simp high] theorem getW_set {α:Type} (l:aF α) i (x:α) (K:α->Prop):aZ (l.set i x) i K=(i<l.length/\K x):=by
 unfold aZ;apply propext;constructor
 .rintro⟨y,T,J⟩;have E:i<l.length:=by simpa using (bQ.1 T).1
  rw[eP E] at T;cases T;exact⟨E,J⟩
 .rintro⟨E,J⟩;exact⟨x,eP E,J⟩
end
section
variable {P:Program} {f:Nat}
end
section
variable {α:Type}
def mV (t w:Nat) (iF:α->aF AV) (iV:α->aC) (l:aF α):aC:=⟨false,t,w,l.map iF⟩::l.flatMap iV
def tM (_:α):aC:=[]
def wood_flat t w (iF:α->aF AV) (l:aF α):mV t w iF tM l=[⟨false,t,w,l.map iF⟩]:=by
 unfold mV tM;have:l.flatMap (λ_:α=>([]:aC))=[]:=by induction l with|nil=>rfl|cons x l E=>simp[CS,E]
 rw[this]
def p9 (a:AV):Prop:=∀T,Av T a
def free_agg {l} (h:∀a,a∈l->p9 a):p9 (.agg l):=λT=>.agg λj a E=>h a (bA E) T
def aaC {T} {o:aH} (h:∀aM,aM∈o.aN->∀a,a∈aM->p9 a):iX T o:=E8 λaM E a J=>h aM E a J T
def view_wood1 {enc iF:α->aF AV} {iV:α->aC} {S} {i t w n} {l:aF α} (hs:∀o,o∈mV t w iF iV l->o∈S) (hn:l.length=n) (hc:∀x a,a∈enc x->a.cell=true)
  (hl:∀x,(iF x).length=(enc x).length) (hv:∀x,(∀o,o∈iV x->o∈S)->∀(j:Nat) (a a':AV),(iF x)[j]?=some a->(enc x)[j]?=some a'->View S a a'):View S (.ref i t w n) ((SL.mk t l).av w enc):=by
 have Z:∀(r:Nat) (x J:aF AV),(l.map iF)[r]?=some x->(l.map enc)[r]?=some J->∃y,y∈l/\x=iF y/\J=enc y:=λr x J T E=>by
  rw[kL] at T E;obtain⟨y,W,rfl⟩:=iH.1 T;rw[W] at E;simp at E;exact⟨y,bA W,rfl,E.symm⟩
 refine .ref (hs _ (by unfold mV;exact kB ..)) (by simp;omega) (by simp[hn]) (λr x J T E=>?_) (λr j x a hx ha=>?_) λr j x J a a' T E h3 h4=>?_
 .obtain⟨y,_,rfl,rfl⟩:=Z r x J T E;exact hl y
 .obtain⟨y,W,rfl⟩:=fZ.1 (bA hx);exact hc y a (bA ha)
 .obtain⟨y,W,rfl,rfl⟩:=Z r x J T E;exact hv y (λo E=>hs o (by unfold mV;exact iI _ (LJ.2 ⟨y,W,E⟩))) j a a' h3 h4
def SL.ref (w:Nat):SL α->AV
 |.nil=>.aU
 |.mk t E=>.ref 0 t w E.length
def SL.mV (w:Nat) (iF:α->aF AV) (iV:α->aC):SL α->aC
 |.nil=>[]
 |.mk t E=>A.mV t w iF iV E
def XH w (s:SL α):p9 (s.ref w):=λT=>by cases s<;>constructor
def view_wood {enc iF:α->aF AV} {iV:α->aC} {S} {w} {s:SL α} (hs:∀o,o∈s.mV w iF iV->o∈S) (W:∀x a,a∈enc x->a.cell=true)
  (T:∀x,(iF x).length=(enc x).length) (J:∀x,(∀o,o∈iV x->o∈S)->∀(j:Nat) (a E:AV),(iF x)[j]?=some a->(enc x)[j]?=some E->View S a E):View S (s.ref w) (s.av w enc):=by
 cases s with
 |nil=>exact .refl _
 |mk t l=>exact view_wood1 hs rfl W T J
def GN {enc:α->aF AV} {S} {w} {s:SL α} (hs:∀o,o∈s.mV w enc tM->o∈S) (E:∀x a,a∈enc x->a.cell=true):View S (s.ref w) (s.av w enc):=
 view_wood hs E (λ_=>rfl) λx _ j a E J E=>by rw[J] at E;cases E;exact .refl _
def free_wood {w} {iF:α->aF AV} {iV:α->aC} (Z:∀x a,a∈iF x->p9 a) (hI:∀x o,o∈iV x->∀T,iX T o) (s:SL α):∀o,o∈s.mV w iF iV->∀T,iX T o:=by
 cases s with
 |nil=>intro o E;cases E
 |mk t l=>
  intro o E T;rcases fK.1 E with rfl|E
  .exact aaC λaM J a W=>by
    obtain⟨x,_,rfl⟩:=fZ.1 J;exact Z x a W
  .obtain⟨x,_,J⟩:=LJ.1 E;exact hI x o J T
end
section
variable {P:Program} {α:Type} {enc iF:α->aF AV} {iV:α->aC} {jE:α->α} {w:Nat} {f g:Nat}
end
section
variable {P:Program} {f:Nat}
end
section
variable {P:Program} {H:aC} {c:Nat} {K:aD}
@[simp] theorem srcW_slc wd t w aN (K:aF (aF AV)->Prop):mW wd (.dX t w aN) H K=(w=wd/\K aN):=(rfl)
@[simp] theorem srcW_nsl wd (K:aF (aF AV)->Prop):mW wd .aU H K=K []:=(rfl)
@[simp] theorem wJ wd j t w n (K:aF (aF AV)->Prop):mW wd (.ref j t w n) H K=(w=wd/\aZ H j λE=>E.tag=t/\E.mp=false/\E.w=w/\n<=E.aN.length/\K (E.aN.take n)):=(rfl)
@[simp] theorem srcW_sub wd j t w off n (K:aF (aF AV)->Prop):mW wd (.sub j t w off n) H K=(w=wd/\aZ H j λE=>E.tag=t/\E.mp=false/\E.w=w/\off+n<=E.aN.length/\K ((E.aN.drop off).take n)):=(rfl)
@[simp] theorem srcW_sl {α:Type} w (f:α->aF AV) (s:SL α) (K:aF (aF AV)->Prop):mW w (s.av w f) H K=K (s.aG.map f):=by cases s<;>simp[SL.av]
@[simp] theorem vS wd b i t w n y:uG wd b (.ref i t w n) y H c K=mW wd y H λE=>w=wd/\aZ H i λJ=>J.tag=t/\J.mp=false/\J.w=w/\pV J.aN n λJ=>(n+E.length)*b<=140737488355328/\n+E.length<=mx/\
    K (.ref i c wd (n+E.length)) (H.set i ⟨false,c,wd,J++E⟩) (c+1):=(rfl)
@[simp] theorem PF {aN:aF (aF AV)} {n} (h:aN.length=n) (K:aF (aF AV)->Prop):pV aN n K=K aN:=by subst h;simp[pV]
@[simp] theorem aaJ wd b y:uG wd b .aU y H c K=mW wd y H λE=>(E=[]->K .aU H c)/\(E≠[]->E.length*b<=140737488355328/\E.length<=mx/\K (.ref H.length c wd E.length) (H++[⟨false,c,wd,E⟩]) (c+1)):=(rfl)
def tr_fn {f} {l} {res} (J:dA P f l res) (E:∀c,fX c res):Tr P f l λ_ r=>r=res:=λc=>(J c).mono λr J J _ ⟨J,T⟩=>⟨T,J,J▸E c⟩
def P4 {R:AV->Prop} {f} {l} {K:AV->Prop} {res} (T:dA P f l res) (J:∀v,R v↔v=res) (E:∀c,fX c res) (k:K res):J8 P R f l H c K:=
 ⟨l,fG.refl _ _,(λc=>(T c).mono λr T T _ ⟨T,W⟩=>⟨W,(J r).2 T,T▸E c⟩),⟨res,(J res).2 rfl,E c⟩,λr E _=>by rw[(J r).1 E];exact k⟩
def yF {i t n:Nat} {l:aA} {K:AV->Prop} (E:H[i]?=some ⟨false,t,1,l.map iQ⟩) (J:l.length=n) (T:l.length<=mx) (k:K (.str l)):sC (.ref i t 1 n) H K:=by unfold sC;simp only[wJ];exact⟨trivial,_,E,rfl,rfl,rfl,by simp;omega,l,by rw[<-J];exact fJ (by simp),T,k⟩
def wrap_u8 {n:Nat} (h:n<256):IntKind.u8.wrap (IntKind.i64.wrap n)=((UInt8.ofNat n).toNat:Int):=by rw[wrap64 (by omega) (by omega),RF];simp[FT]
def cA.fin {f} {E} {Q W:aD} (h:cA P f E H c Q)
  (k:∀r T J,c<=J->Q r T J->(∀t,t<c->t∈aV T->t∈aV H)->(aV T).Nodup->cE W r T J):cA P f E H c W:=by
 intro G w E e I J W;refine(h G w E e I J W).mono λE E ⟨v,res,T,G1,W,J,E,I1,r1⟩=>?_;subst e;obtain⟨S,Z,Hk',v',q1,qr,Z,q3,q4,q5⟩:=k res T G1.c E.x.c J E.j6 I1.nodup;have hS:∀t,t∈aV S->t∈aV T:=λt T=>by obtain⟨o,ho,rfl⟩:=qF T;exact iJ (Z o ho)
 exact⟨v,v',Hk',G1.freeze S,W,q5,⟨E.x.trans (fH.freeze _ _ _),E.os,E.tape,E.output,E.size,E.frame,E.mL,λt W J=>E.j6 t W ((q1.map _).subset (by rw[qr.CX] at J;exact J)),λt W J=>by
  rcases J with J|J
  .exact E.nV t W J
  .exact .inr (E.j6 t W (hS t J))⟩,I1.HQ q1.subset Z (I1.freeze q1 Z q3) qr,q4.rep I1 Z r1⟩
def ME {f} {E} {Q:aD} {W:Nat->AV->Prop} (h:∀c,cA P f E [] c Q)
  (k:∀c r O T,c<=T->Q r O T->(∀t,t∈aV O->c<=t)->∃J,View O r J/\W c J/\fX c J):Tr P f E W:=by
 intro c;refine(h c).fin λr O T Z E W hd=>?_;obtain⟨J,h1,h2,h3⟩:=k c r O T Z E λt E=>by
  rcases iA t c with h|h
  .have:=W t h E;simp[aV] at this
  .exact h
 exact⟨O,[],[],J,eX _,.nil,λ_ h=>h,by simp[aV],h1,rfl,h2,h3⟩
def JE {l} (h:∀a,a∈l->p9 a):p9 (.aX l):=λT=>.aX λj a E=>h a (bA E) T
def JG b:p9 (.bool b):=λ_=>.bool
def BK l:p9 (.str l):=λ_=>.str
def CV {S} {l l'} (h:fG S l l'):View S (.aX l) (.aX l'):=.aX h.spec.1 h.spec.2
def OI {c} {l} (h:∀a,a∈l->fX c a):fX c (.aX l):=λT J=>.aX λj a E=>h a (bA E) T J
section
variable {α:Type}
@[simp] theorem cell_ref w (s:SL α):(s.ref w).cell=true:=by cases s<;>rfl
def Flat (enc:α->aF AV):Prop:=∀x a,a∈enc x->a.cell=true/\p9 a
def Flat.cells {enc:α->aF AV} (h:Flat enc):∀x a,a∈enc x->a.cell=true:=λx a E=>(h x a E).1
def p9.from {a} (h:p9 a) c:fX c a:=λT _=>h T
def ED t w (enc:α->aF AV) (l:aF α):(SL.mk t l).mV w enc tM=[⟨false,t,w,l.map enc⟩]:=wood_flat ..
def XS {enc:α->aF AV} (h:Flat enc) w (s:SL α):∀o,o∈s.mV w enc tM->∀T,iX T o:=
 free_wood (λx a E=>(h x a E).2) (λx o E=>by cases E) s
def OP {enc:α->aF AV} (h:Flat enc) {w c} {s:SL α} (E:∀t,t∈aV (s.mV w enc tM)->c<=t):fX c (s.av w enc):=by
 cases s with
 |nil=>exact from_nsl c
 |mk t l=>
  refine XA (E t ?_) λaM E a J=>?_
  .rw[ED];simp[aV]
  .obtain⟨x,_,rfl⟩:=fZ.1 E;exact((h x a J).2).from c
def flat_tr {enc:α->aF AV} (J:Flat enc) {w} {f} {E} {Q:SL α->Prop} (h:∀c,cA P f E [] c λr O _=>∃b:SL α,r=b.ref w/\O=b.mV w enc tM/\Q b):
  Tr P f E λ_ r=>∃b:SL α,r=b.av w enc/\Q b:=
 ME h λc r O E _ ⟨b,Z,E,W⟩ T=>⟨b.av w enc,by rw[Z];exact GN (by rw[E];exact λ_ h=>h) J.cells,⟨b,rfl,W⟩,OP J (by rw[<-E];exact T)⟩
end
end
def sub_one {α:Type} (a:α) (l:aF α):[a].Sublist (a::l):=(eX l).cons_cons a
def sub_two {α:Type} (a b:α) (l:aF α):[a,b].Sublist (a::b::l):=(sub_one b l).cons_cons a
@[simp] theorem getW_len {α:Type} (L M:aF α) (x:α) (K:α->Prop):aZ (L++x::M) L.length K=K x:=aL (by rw[qV (bB _)];simp) K
@[simp] theorem getW_len1 {α:Type} (L M:aF α) (x y:α) (K:α->Prop):aZ (L++x::y::M) (L.length+1) K=K y:=aL (by rw[qV (by omega)];simp) K
@[simp] theorem getW_len2 {α:Type} (L M:aF α) (x y z:α) (K:α->Prop):aZ (L++x::y::z::M) (L.length+2) K=K z:=aL (by rw[qV (by omega)];simp) K
def fI {Q:aD} {v v'} {H Hk:aC} {c} (hs:Hk.Sublist H) (E:View [] v v') (h:Q v' Hk c):cE Q v H c:=⟨[],Hk,Hk,v',hs,.refl _ _,by simp,by simp[aV],E,h⟩
section
variable {α:Type}
section
variable {P:Program} {enc:α->aF AV} {w b f:Nat} {z:aF AV}
end
end
section
variable {P:Program} {K:aD} {α:Type} {enc iF:α->aF AV} {iV:α->aC} {w f:Nat} {mk:Int->α->α} {iD:α->Nat}
end
open Go.RowKit
section
variable {H:Type} {enc:TypeId×Value->H}
def returns_shaped {a:Assume} {C:Checked} {os:Os} {f:FuncId} {fn:Func} {s:ChangeSpec} {conds:aF PathCond} {J fresh handsOn again} {X:World->Array Value->Prop}
  (hX:∀(w w':World) (E:Array Value),w.heap=w'.heap->X w E->X w' E)
  (own:ownKnob C.prog.godebug=none) (started:os.Started) (noInit:C.prog.inits.idxOf? f=none) (hfn:C.prog.funcs[f]?=some fn)
  (witness:∃(w:World) (T:Tape) (i:Input),w.os=os/\(w.forCall T i).Shaped C.prog/\i.vars=[]/\Input.okWide C.prog (w.forCall T i) .any w.heap.size f i/\
   ((s.pre enc C.prog fn conds J (w.forCall T i).memory i.args/\X (w.forCall T i).memory i.args)/\sizedMet enc C.prog fn (OpenSpec.ofChange s) J (w.forCall T i).memory i.args)/\a.holds C.prog (lone (Frame.enter C.prog f i.args .normal) [] (w.forCall T i)))
  (contract:∀(W:World) (base:Nat) (E:Array Value) (ds gs:aF (DataW H)) (Z:aF MemPlace),
   (∀(j:Nat) t v,fn.params[j]?=some t->E[j]?=some v->Value.okWide C.prog W .any base t v)->
   DataW.Whole enc C.prog fn.params.toList s.vars J W E.toList ds gs Z->
   conds.all (PathCond.test C.prog ⟨fn.params.toList,ds,s.plain.varTypes C.prog,gs⟩)=true->X W E->W.ShapedOpen C.prog->
   Calls C.prog f E W λe W'=>∃v,e=.returned v/\s.post enc C.prog fn J fresh handsOn again W E v W'):
  ReturnsInHanded a C os f .any (λw E=>(s.pre enc C.prog fn conds J w E/\X w E)/\sizedMet enc C.prog fn (OpenSpec.ofChange s) J w E) (s.post enc C.prog fn J fresh handsOn again):=by refine returnsInHanded_of_calls own started noInit witness ?_;intro w T i _ hsh _ hok J _;obtain⟨_,_,_,fn',W,_,_,_,_,E⟩:=hok;have e:fn'=fn:=oN (W.symm.trans hfn);subst e;obtain⟨⟨⟨ds,gs,Z,hw,hc⟩,W⟩,_⟩:=J;refine(contract (w.forCall T i) w.heap.size i.args ds gs Z E (DataW.Whole.of_heap (w':=w.forCall T i) (by rfl) hw) hc (hX _ _ _ (by rfl) W) hsh).mono λe W' ⟨v,J,E⟩=>?_;subst J;exact ChangeSpec.post_blind E
end
def cell_block {w:World} {m:Int} (hm:w.cell? ⟨0,0,none⟩=some (.int .i64 m)):0<w.heap.size/\∃c t fr,w.heap[0]?=some (.cells c t fr)/\c[0]?=some (Value.int .i64 m):=by
 rw[J1] at hm;unfold eF at hm;split at hm
 .rename_i c t fr hc;exact⟨(lF.1 hc).1,c,t,fr,hc,hm⟩
 .cases hm
end A
end Go.Proofs.YtbdgahjfipdeoaaGreatDoor
namespace Go.Proofs.YtbdgahjfipdeoaaGreatDoor
namespace A
open Go.RowKit
def WX {P:Program} {W:World} {name nm} {d} {E} {g:Nat} {ti:TypeId}
  (hg:P.globalNamed name=some g) (J:(P.globals[g]?).map (·.type)=some ti) (Z:D8 P ti=true) (h:laidMet P ((name,.iface nm d)::E) W):
  ∃t fr u v,W.heap[g]?=some (.cells #[.iface u v] t fr):=by
 obtain⟨E,⟨E,E,cs,E,p,q,W,T,E,hd,_,_⟩,_⟩:=h;obtain rfl:=oN (hg.symm.trans W);obtain rfl:=oN (J.symm.trans T);obtain⟨J,T⟩:∃J,P.underlying ti=some (.interface J):=by
  unfold D8 at Z;split at Z
  .rename_i J h;exact⟨J,h⟩
  .cases Z
 obtain⟨_,u,v,J,_,_⟩:=iface_of_trod T hd;unfold World.var? at E;rw[hg] at E;simp only[uP] at E;split at E
 .rename_i T t fr T;cases E;refine⟨t,fr,u,v,?_⟩;rw[T];have:cs=#[.iface u v]:=by rw[<-yC,J]
  rw[this]
 .cases E
end A
end Go.Proofs.YtbdgahjfipdeoaaGreatDoor
