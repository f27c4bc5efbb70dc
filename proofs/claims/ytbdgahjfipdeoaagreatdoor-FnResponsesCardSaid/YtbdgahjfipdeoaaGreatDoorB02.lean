import Derived.Test.YtbdgahjfipdeoaaGreatDoorB01
/- FnResponses: a part of its proof. No condition. -/
set_option linter.all false
set_option maxRecDepth 100000
namespace Go.Proofs.YtbdgahjfipdeoaaGreatDoor
namespace A
section
variable {P:Program} {H:aC} {c:Nat} {e e':Env}
def dV.dZ:dV->aF cW
 |.mv x|.load _ x|.rH _ x|.tN x|.un _ x|.toInt _ x|.toStr x|.tY _ x|.field _ _ x|.wY x|.wZ x|.tR x|.extract x _|.vI _ x=>[x]
 |.pick a b c=>[a,b,c]
 |.bin _ x y|.xQ _ x y|.beq _ _ x y|.tU _ x y|.index x y|.lookup _ _ _ x y=>[x,y]
 |.wT _ l|.uE _ l=>l
 |.wK x E J|.slice _ x E J=>x::(E.toList++J.toList)
 |_=>[]
def BB {l:aF cW} (h:∀x,x∈l->ev e x=ev e' x):l.map (ev e)=l.map (ev e'):=List.map_congr_left h
def HX {l:Option cW} (h:∀x,x∈l.toList->ev e x=ev e' x):l.map (ev e)=l.map (ev e'):=by cases l<;>simp at h ⊢;exact h
def HZ {op E:dV} (J:gQ op=some E) (h:∀x,x∈E.dZ->ev e x=ev e' x) (K:aD):cR P E e H c K=cR P E e' H c K:=by
 cases op<;>simp only[gQ] at J<;>first
  |(cases J;done)
  |skip
 all_goals cases J
 all_goals simp only[dV.dZ,fK,nQ,or_false,dI,forall_eq_or_imp,forall_eq] at h
 all_goals simp only[cR]
 all_goals first
  |rw[h]
  |(obtain⟨J,E⟩:=h;rw[J,E];done)
  |(obtain⟨J,E,T⟩:=h;rw[J,E,T];done)
  |(rw[BB h];done)
  |(obtain⟨J,E⟩:=h;rw[J,HX λx J=>E x (.inl J),HX λx J=>E x (.inr J)])
def gN (W:(AV->Prop)->Prop):Prop:=∀K,W K->∃v,∀E,W E↔E v
def jR v:gN λK=>K v:=λK k=>⟨v,λ_=>Iff.rfl⟩
def Y5 l i:gN λK=>aZ l i K:=λK ⟨x,J,k⟩=>⟨x,λE=>⟨λ⟨y,E,k⟩=>by rw[J] at E;cases E;exact k,λh=>⟨x,J,h⟩⟩⟩
def iK {p} {W:(AV->Prop)->Prop} (d:gN W):gN λK=>p/\W K:=λK ⟨T,k⟩=>let ⟨v,h⟩:=d K k;⟨v,λJ=>⟨λE=>(h J).1 E.2,λE=>⟨T,(h J).2 E⟩⟩⟩
def zA {α:Type} (l:aF α) i {W:α->(AV->Prop)->Prop} (d:∀x,gN (W x)):gN λK=>aZ l i λx=>W x K:=λK ⟨x,J,k⟩=>
 let ⟨v,h⟩:=d x K k;⟨v,λT=>⟨λ⟨y,E,k⟩=>by rw[J] at E;cases E;exact(h T).1 k,λE=>⟨x,J,(h T).2 E⟩⟩⟩
def jD:gN λ_=>False:=λ_ h=>h.elim
def JO ag aM o:gN (tG ag aM o):=by
 cases ag with
 |none=>exact Y5 aM o
 |some n=>exact iK (jR _)
def JP ag x:gN (lI ag x H):=by
 cases x<;>first
  |exact jD
  |exact JO _ _ _
  |exact zA _ _ λE=>iK (iK (iK (zA _ _ λaM=>JO _ _ _)))
def YY ag x:gN (IV ag x):=by
 cases x<;>first
  |exact jD
  |exact JO _ _ _
def Y7 off x:gN (vN off x):=by cases x<;>first|exact jD|exact jR _
def Y4 w x i:gN (sP w x i):=by
 cases i<;>cases x<;>first
  |exact jD
  |exact iK (iK (zA _ _ λaM=>jR _))
  |exact iK (iK (iK (jR _)))
def YW x:gN (vE x):=by cases x<;>first|exact jD|exact jR _
def YU c a b:gN (DG c a b):=by
 cases c<;>first
  |exact jD
  |skip
 rename_i t;cases t with
 |true=>exact λK k=>⟨a,λE=>⟨λh=>h.1 rfl,λh=>⟨λ_=>h,λh=>by cases h⟩⟩⟩
 |false=>exact λK k=>⟨b,λE=>⟨λh=>h.2 rfl,λh=>⟨λh=>(by cases h),λ_=>h⟩⟩⟩
def det_int (op:BinOp) (k:IntKind) (a b:Int):gN (lJ op k a b):=by
 cases op<;>first
  |exact jD
  |exact jR _
  |exact iK (jR _)
def det_str (op:BinOp) a b:gN (tE op a b):=by
 cases op<;>first
  |exact jD
  |exact jR _
  |exact iK (jR _)
def ZA (op:BinOp) x y:gN (sT op x y):=by
 cases x<;>cases y<;>first
  |exact jD
  |exact det_str _ _ _
  |(cases op<;>first
    |exact iK (jR _)
    |exact iK (det_int _ _ _ _))
def Y9 (op:BinOp) x y:gN (CC op x y):=by
 cases x<;>cases y<;>first
  |exact jD
  |(cases op<;>first
    |exact jR _
    |exact jD)
def ZB n ks x y:gN (xR n ks x y):=by
 cases x<;>cases y<;>first
  |exact jD
  |skip
 rename_i J E;refine iK ?_;cases oI J E with
 |none=>exact jD
 |some b=>exact jR _
def YP (op:UnOp) x:gN (yE op x):=by
 cases op<;>cases x<;>first
  |exact jD
  |exact jR _
def YR (k:IntKind) x:gN (AJ k x):=by cases x<;>first|exact jD|exact jR _
def BW x d {W:Nat->(AV->Prop)->Prop} (h:∀n,gN (W n)):gN λK=>fP x d λn=>W n K:=by
 cases x with
 |none=>exact h d
 |some a=>cases a<;>first
  |exact jD
  |exact iK (h _)
def YS x lo hi:gN (yK x lo hi):=by
 cases x<;>first
  |exact jD
  |skip
 rename_i s;show gN λK=>fP lo 0 λa=>fP hi s.length λb=>a<=b/\b<=s.length/\K (.str ((s.take b).drop a));exact BW lo 0 λa=>BW hi s.length λb=>iK (iK (jR _))
def YT w x lo hi:gN (qX w x lo hi):=by
 cases x<;>first
  |exact jD
  |skip
 .rename_i t J E;show gN λK=>J=w/\fP lo 0 λa=>fP hi E.length λb=>a<=b/\b<=E.length/\K (.dX t J ((E.take b).drop a));exact iK (BW lo 0 λa=>BW hi E.length λb=>iK (iK (jR _)))
 .rename_i i t J l;show gN λK=>J=w/\fP lo 0 λa=>fP hi l λb=>if a=0 then b<=l/\K (.ref i t J b) else a<=b/\b<=l/\K (.sub i t J a (b-a));refine iK (BW lo 0 λa=>BW hi l λb=>?_);by_cases E:a=0
  .simp only[if_pos E];exact iK (jR _)
  .simp only[if_neg E];exact iK (iK (jR _))
def Y6 o ag x:gN (JL o ag x):=by cases x<;>first|exact jD|exact JO _ _ _
def Y3 x i:gN (BI x i):=by
 cases x<;>first
  |exact jD
  |skip
 cases i<;>first
  |exact jD
  |exact iK (zA _ _ λb=>jR _)
def YX (d:TypeDesc) z ok m k:gN (rG d z ok m k H):=by
 cases m<;>first
  |exact jD
  |skip
 refine iK (zA _ _ λE=>iK (iK ?_));cases jM k E.aN 0 with
 |none=>exact jD
 |some r=>cases r<;>exact jR _
def YZ x:gN (wX x):=by cases x<;>first|exact jD|exact jR _
def Y1 x:gN (oV x):=by cases x<;>first|exact jD|exact jR _
def Y0 x:gN (yU x H):=by
 cases x<;>first
  |exact jD
  |exact zA _ _ λE=>iK (iK (jR _))
def Y8 x i:gN (y9 x i):=by cases x<;>first|exact jD|exact Y5 _ _
def Y2 n x:gN (BG n x):=by cases x<;>first|exact jD|exact jR _
def det_src w y {W:aF (aF AV)->(AV->Prop)->Prop} (h:∀r,gN (W r)):gN λK=>mW w y H λr=>W r K:=by
 cases y<;>first
  |exact jD
  |exact h _
  |exact iK (h _)
  |exact iK (zA _ _ λE=>iK (iK (iK (iK (h _)))))
def map_byteRow_inj {l l':aA} (h:l.map iQ=l'.map iQ):l=l':=by refine(LK λa b h=>?_).1 h;simp[iQ] at h;exact zP.1 (by omega)
def YQ x:gN (sC x H):=by
 have key:gN λK=>mW 1 x H λaN=>∃l:aA,aN=l.map iQ/\l.length<=mx/\K (.str l):=
  det_src 1 x λr K ⟨l,h1,h2,k⟩=>⟨.str l,λK'=>⟨λ⟨l',h1',_,k'⟩=>by rw[map_byteRow_inj (h1.symm.trans h1')];exact k',λh=>⟨l,h1,h2,h⟩⟩⟩
 cases x<;>first
  |exact jD
  |exact key
def rT (P:Program) (op:dV) (e:Env) (H:aC) (v:AV):Prop:=∀J,cR P op e H J λr T E=>r=v/\T=H/\J<=E/\(j8 op=false->E=J)
def kG {op} {W:(AV->Prop)->Prop} (d:gN W) (J:∀c (K:aD),cR P op e H c K=W λv=>K v H c) (Z:j8 op=false) {K:aD} (W:cR P op e H c K):
  ∃v,rT P op e H v/\((j8 op=false/\∀E T,cR P op e H E T->T v H E)\/(j8 op=true/\∀E,c<=E->K v H E)):=by
 rw[J] at W;obtain⟨v,h⟩:=d _ W;refine⟨v,λE=>?_,.inl ⟨Z,λE T E=>?_⟩⟩
 .rw[J];exact(h _).2 ⟨rfl,rfl,bB _,λ_=>rfl⟩
 .rw[J] at E;exact(h _).1 E
def UT {op J} (W:gQ op=some J) {K:aD} (E:cR P J e H c K):
  ∃v,rT P J e H v/\((j8 J=false/\∀T Z,cR P J e H T Z->Z v H T)\/(j8 J=true/\∀T,c<=T->K v H T)):=by
 cases op<;>simp only[gQ] at W<;>first
  |(cases W;done)
  |skip
 all_goals cases W
 case call f as0=>
  obtain⟨W,J,h1,h2,h3,Z⟩:=E;exact⟨J,λT=>⟨W,J,h1,h2,h3,λJ h=>⟨rfl,rfl,h,λh=>by cases h⟩⟩,.inr ⟨rfl,Z⟩⟩
 case mv=>exact kG (jR _) (λ_ _=>rfl) rfl E
 case pick=>exact kG (YU _ _ _) (λ_ _=>rfl) rfl E
 case load=>exact kG (JP _ _) (λ_ _=>rfl) rfl E
 case rH=>exact kG (YY _ _) (λ_ _=>rfl) rfl E
 case tN=>exact kG (YW _) (λ_ _=>rfl) rfl E
 case vI=>exact kG (Y2 _ _) (λ_ _=>rfl) rfl E
 case bin=>exact kG (ZA _ _ _) (λ_ _=>rfl) rfl E
 case xQ=>exact kG (Y9 _ _ _) (λ_ _=>rfl) rfl E
 case beq=>exact kG (ZB _ _ _ _) (λ_ _=>rfl) rfl E
 case un=>exact kG (YP _ _) (λ_ _=>rfl) rfl E
 case toInt=>exact kG (YR _ _) (λ_ _=>rfl) rfl E
 case toStr=>exact kG (YQ _) (λ_ _=>rfl) rfl E
 case wT=>exact kG (jR _) (λ_ _=>rfl) rfl E
 case wK=>exact kG (YS _ _ _) (λ_ _=>rfl) rfl E
 case slice=>exact kG (YT _ _ _ _) (λ_ _=>rfl) rfl E
 case tY=>exact kG (Y7 _ _) (λ_ _=>rfl) rfl E
 case field=>exact kG (Y6 _ _ _) (λ_ _=>rfl) rfl E
 case tU=>exact kG (Y4 _ _ _) (λ_ _=>rfl) rfl E
 case index=>exact kG (Y3 _ _) (λ_ _=>rfl) rfl E
 case lookup=>exact kG (YX _ _ _ _ _) (λ_ _=>rfl) rfl E
 case wY=>exact kG (YZ _) (λ_ _=>rfl) rfl E
 case wZ=>exact kG (Y1 _) (λ_ _=>rfl) rfl E
 case tR=>exact kG (Y0 _) (λ_ _=>rfl) rfl E
 case extract=>exact kG (Y8 _ _) (λ_ _=>rfl) rfl E
end
section
variable {P:Program} {G0:Gh} {H0:aC} {w0:World} {n:Nat}
def St (G0:Gh) (H0:aC) (w0:World) (n:Nat) (e:Env) (H:aC) (c:Nat) (a:Act) (w:World):Prop:=
 ∃G,G.c=c/\a.defers=[]/\a.tmps.size=n/\kT G w.heap a e/\Inv G H w.heap/\Ext G0 H0 w0 G H w
def R9 {G:Gh} {H} {h} (I:Inv G H h):∀t,t∈aV H->t<G.c:=λt E=>I.lt E
def kT.put {G} {h} {a:Act} {e} (J:kT G h a e) {d} (E:∀i,d=some i->i<a.tmps.size) {v} {av} (r:bJ G h v av):kT G h (a.put d v) (put e d av):=by
 cases d with
 |none=>exact J
 |some d=>
  intro t;have T:=E d rfl;by_cases E:t=d
  .subst E;have:((a.put (some t) v).tmps).getD t undef=v:=mO (by simp[Act.put,T]);rw[this];show bJ G h v (aK e t av t);rw[sA];exact r
  .have:((a.put (some d) v).tmps).getD t undef=a.tmps.getD t undef:=by
    simp[Act.put,uU (Ne.symm E)]
   rw[this];show bJ G h _ (aK e d av t);rw[kD _ _ _ E];exact J t
def put_size (a:Act) d (v:Value):(a.put d v).tmps.size=a.tmps.size:=by cases d<;>simp[Act.put]
def put_defers (a:Act) d (v:Value):(a.put d v).defers=a.defers:=by cases d<;>rfl
def St.step {e} {H} {a:Act} {w:World} {G} (h1:a.defers=[]) (W:a.tmps.size=n) (h3:kT G w.heap a e) (I:Inv G H w.heap) (x:Ext G0 H0 w0 G H w) (E:∀t,t∈aV H0->t<G0.c)
  {d} (Z:∀i,d=some i->i<n) {v} {av} {J} {G':Gh} {w':World} (T:Ext G H w G' J w') (I':Inv G' J w'.heap) (r:bJ G' w'.heap v av):
  St G0 H0 w0 n (put e d av) J G'.c (a.put d v) w':=
 ⟨G',rfl,by rw[put_defers,h1],by rw[put_size,W],kT.put (λt=>(h3 t).ext T.x) (W▸Z) r,I',x.trans E (R9 I) T⟩
def gI (G0:Gh) (H0:aC) (w0:World) (n:Nat) (Q:kU):Exit->Act->World->Prop:=λE a w=>∃e H c,Q E e H c/\St G0 H0 w0 n e H c a w
def mF {E} {o:Oper} {J:b7} (h:j3 P n E o=some J):uA P o.op o.type=some J.op/\xN E o.guard=some J.guard/\J.dst=o.dst/\∀i,o.dst=some i->i<n:=by
 unfold j3 at h;simp only[gX,dK] at h;obtain⟨E,T,g,J,h⟩:=h;split at h
 .cases h;rename_i E;refine⟨T,J,rfl,λi J=>?_⟩;rw[J] at E;simpa[YL] using E
 .cases h
def tmp_bool {a:Act} {d:Nat} {b} (h:a.tmps.getD d undef=.bool b):a.tmps[d]?=some (.bool b):=by
 cases hq:a.tmps[d]? with
 |none=>
  have E:=Array.getElem?_eq_none_iff.1 hq;unfold Array.getD at h;rw[dif_neg (by omega)] at h;cases h
 |some v=>rw[mO hq] at h;rw[h]
def mR (o:Oper) (E:Array Oper) (a:Act) (e:Env):Option (Nat×Bool)->Prop
 |none=>Region.wanted o (yielded E a.tmps)=true
 |some (d,J)=>(∀b,e d=.bool b->Region.wanted o (yielded E a.tmps)=(b==J))/\(e d=.dS->Region.wanted o (yielded E a.tmps)=false)
def yD {G} {w:World} {J} {o:Oper} {g} (E:xN J o.guard=some g) {a} {e} (Z:kT G w.heap a e):
  mR o J a e g:=by
 cases ho:o.guard with
 |none=>
  rw[ho] at E;simp only[xN] at E;cases E;simp[mR,Region.wanted,ho]
 |some p=>
  obtain⟨j,J⟩:=p;rw[ho] at E;simp only[xN] at E;split at E
  .rename_i d W;cases E;refine⟨λb T=>?_,λhu=>?_⟩
   .have r:=Z d;rw[T] at r;generalize T:a.tmps.getD d undef=v at r;cases r;have:=tmp_bool T;simp only[Region.wanted,ho,yielded,W,uP,this];cases b<;>cases J<;>rfl
   .have r:=Z d;rw[hu] at r;generalize T:a.tmps.getD d undef=v at r;cases r;simp only[Region.wanted,ho,yielded,W,uP];cases hq:a.tmps[d]? with
    |none=>rfl
    |some v=>
     have:=mO hq;rw[T] at this;rw[<-this];rfl
  .cases E
end
section
variable {P:Program} {H:aC} {c:Nat} {e e':Env}
def gT {x} {t} (h:eE x=some (.t t)):x=.tmp t:=by
 cases x with
 |tmp u=>simp only[eE,eH,cW.t.injEq] at h;subst h;rfl
 |const v=>simp only[eE,iH] at h;obtain⟨_,_,h⟩:=h;cases h
 |func f=>simp[eE] at h
 |global g=>simp[eE] at h
def NG {t}:∀(l:aF Operand) (m:aF cW),vC l=some m->cW.t t∈m->Operand.tmp t∈l:=by
 intro l
 induction l with
 |nil=>intro m h;simp[vC] at h;subst h;simp
 |cons x l W=>
  intro m h;simp only[vC,oQ,gX,dK,uO,eH] at h;obtain⟨y,Z,T,J,rfl⟩:=h;intro E;simp only[fK] at E ⊢;rcases E with rfl|E
  .exact .inl (gT Z).symm
  .exact .inr (W T J E)
def UP {t} {x:Option Operand} {y:Option cW} (h:rC x=some y) (E:cW.t t∈y.toList):Operand.tmp t∈x.toList:=by
 cases x with
 |none=>simp only[rC,eH] at h;subst h;simp at E
 |some x=>
  simp only[rC,iH] at h;obtain⟨z,J,rfl⟩:=h;simp at E;subst E;simp[gT J]
def PL {op:Op} {ty:TypeId} {J W:dV} (E:uA P op ty=some J) (T:gQ J=some W) {t} (J:cW.t t∈W.dZ):Operand.tmp t∈op.operands.toList:=by
 cases op<;>simp only[uA,gX,dK,eH] at E
 case move x=>obtain⟨u,W,rfl⟩:=E;cases T;simp[dV.dZ] at J;subst J;simp[Op.operands,gT W]
 case assign x=>obtain⟨u,W,rfl⟩:=E;cases T;simp[dV.dZ] at J;subst J;simp[Op.operands,gT W]
 case pick c x y=>
  obtain⟨u,W,v,Z,z,hz,rfl⟩:=E;cases T;simp[dV.dZ] at J;rcases J with rfl|rfl|rfl
  .simp[Op.operands,gT W]
  .simp[Op.operands,gT Z]
  .simp[Op.operands,gT hz]
 case load a x=>obtain⟨_,_,u,W,rfl⟩:=E;cases T;simp[dV.dZ] at J;subst J;simp[Op.operands,gT W]
 case nilCheck x=>obtain⟨u,W,rfl⟩:=E;cases T;simp[dV.dZ] at J;subst J;simp[Op.operands,gT W]
 case unOp x=>obtain⟨u,W,rfl⟩:=E;cases T;simp[dV.dZ] at J;subst J;simp[Op.operands,gT W]
 case extract x=>obtain⟨u,W,rfl⟩:=E;cases T;simp[dV.dZ] at J;subst J;simp[Op.operands,gT W]
 case fieldAddr x=>obtain⟨_,_,u,W,rfl⟩:=E;cases T;simp[dV.dZ] at J;subst J;simp[Op.operands,gT W]
 case field x=>obtain⟨_,_,_,_,u,W,rfl⟩:=E;cases T;simp[dV.dZ] at J;subst J;simp[Op.operands,gT W]
 case binOp op' t' x y yt=>
  obtain⟨u,W,v,Z,E⟩:=E;have:cW.t t=u\/cW.t t=v:=by
   unfold EV at E;split at E
   .cases E;cases T;simpa[dV.dZ] using J
   .split at E
    .cases E;cases T;simpa[dV.dZ] using J
    .split at E
     .split at E<;>cases E<;>cases T<;>simpa[dV.dZ] using J
     .split at E
      .split at E<;>cases E<;>cases T
      .split at E
       .split at E<;>cases E<;>cases T<;>first|(simp[dV.dZ] at J;exact .inl J)
       .cases E
  rcases this with rfl|rfl
  .simp[Op.operands,gT W]
  .simp[Op.operands,gT Z]
 case convert s d x=>
  obtain⟨u,W,E⟩:=E;have:cW.t t=u:=by
   unfold EU at E;split at E
   .cases E;cases T;simpa[dV.dZ] using J
   .split at E<;>cases E;cases T;simpa[dV.dZ] using J
   .split at E<;>cases E;cases T
   .cases E
  subst this;simp[Op.operands,gT W]
 case makeFunc fn first caps=>
  cases fn<;>simp only at E<;>first
   |(cases E;done)
   |skip
  split at E
  .simp only[dK,eH] at E;obtain⟨us,hus,rfl⟩:=E;cases T;have:=NG caps.toList us hus (by simpa[dV.dZ] using J);simp[Op.operands];exact .inr (by simpa using this)
  .cases E
 case slice t' x lo hi m=>
  cases m with
  |some m=>
   cases lo with
   |some lo=>cases hi<;>cases E
   |none=>
    cases hi with
    |none=>cases E
    |some hi=>
     simp only[dK,eH] at E;obtain⟨_,_,u,W,l,hl,h,hh,rfl⟩:=E;cases T
  |none=>
   simp only at E;have:∃u l h,eE x=some u/\rC lo=some l/\rC hi=some h/\(cW.t t=u\/cW.t t∈l.toList\/cW.t t∈h.toList):=by
    split at E
    .simp only[dK,eH] at E;obtain⟨u,W,l,hl,h,hh,rfl⟩:=E;cases T;exact⟨u,l,h,W,hl,hh,by simpa[dV.dZ] using J⟩
    .simp only[dK,eH] at E;obtain⟨_,_,u,W,l,hl,h,hh,rfl⟩:=E;cases T;exact⟨u,l,h,W,hl,hh,by simpa[dV.dZ] using J⟩
   obtain⟨u,l,h,W,hl,hh,hx⟩:=this;rcases hx with rfl|hx|hx
   .simp[Op.operands,gT W]
   .have:=UP hl hx;simp[Op.operands] at this ⊢;exact .inr (.inl this)
   .have:=UP hh hx;simp[Op.operands] at this ⊢;exact .inr (.inr this)
 case indexAddr t' x i=>
  obtain⟨_,_,u,W,v,Z,rfl⟩:=E;cases T;simp[dV.dZ] at J;rcases J with rfl|rfl
  .simp[Op.operands,gT W]
  .simp[Op.operands,gT Z]
 case index t' x i=>
  split at E
  .simp only[dK,eH] at E;obtain⟨u,W,v,Z,rfl⟩:=E;cases T;simp[dV.dZ] at J;rcases J with rfl|rfl
   .simp[Op.operands,gT W]
   .simp[Op.operands,gT Z]
  .cases E
 case lookup t' m k ok=>
  split at E
  .simp only[dK,eH] at E;obtain⟨_,_,_,_,u,W,v,Z,rfl⟩:=E;cases T;simp[dV.dZ] at J;rcases J with rfl|rfl
   .simp[Op.operands,gT W]
   .simp[Op.operands,gT Z]
  .cases E
 case call cl=>
  obtain⟨Z,Z,argTypes⟩:=cl;unfold B2 at E;dsimp only at E;split at E
  .split at E
   .rename_i x t' hx ht';simp only[gX,dK] at E;obtain⟨u,W,E⟩:=E;have:cW.t t=u:=by
     unfold B1 at E;split at E
     .cases E;cases T;simpa[dV.dZ] using J
     .split at E
      .cases E;cases T;simpa[dV.dZ] using J
      .split at E<;>cases E;cases T;simpa[dV.dZ] using J
    subst this;have e1:Z=#[x]:=by rw[<-yC,hx]
    subst e1;simp[Op.operands,Call.operands,gT W]
   .cases E
  .split at E
   .simp only[gX,dK] at E;obtain⟨⟨W,i⟩,W,z,hz,E⟩:=E;split at E
    .simp only[dK,eH] at E;obtain⟨W,W,W,W,rfl⟩:=E;cases T
    .cases E
   .cases E
  .rename_i f;simp only[gX,dK] at E;obtain⟨as0,W,E⟩:=E;split at E<;>cases E;cases T;have:=NG Z.toList as0 W (by simpa[dV.dZ] using J);simp[Op.operands,Call.operands] at this ⊢;exact this
  .simp only[gX,dK,eH] at E;obtain⟨as0,W,rfl⟩:=E;cases T
  .cases E
 case alloc=>obtain⟨_,_,rfl⟩:=E;cases T
 case box=>obtain⟨_,_,_,_,rfl⟩:=E;cases T
 case build=>
  obtain⟨_,_,E⟩:=E;split at E
  .simp only[dK,eH] at E;obtain⟨_,_,rfl⟩:=E;cases T
  .cases E
 case buildSlice=>
  obtain⟨_,_,_,_,E⟩:=E;split at E
  .simp only[dK,eH] at E;obtain⟨_,_,rfl⟩:=E;cases T
  .cases E
 case store=>obtain⟨_,_,_,_,_,_,rfl⟩:=E;cases T
 case makeMap t' r=>cases r<;>cases E;cases T
 case makeSlice=>obtain⟨_,_,_,_,_,_,_,_,rfl⟩:=E;cases T
 case mapUpdate=>
  split at E
  .simp only[dK,eH] at E;obtain⟨_,_,_,_,_,_,_,_,rfl⟩:=E;cases T
  .cases E
 all_goals cases E
def YV (P:Program) (H:aC) (J:b7) (e:Env) (v:AV):Prop:=
 match J.guard with
 |none=>rT P J.op e H v
 |some (g,E)=>(e g=.bool E/\rT P J.op e H v)\/((e g=.dS\/∃b,e g=.bool b/\b≠E)/\v=.dS)
def eD (e:Env):aF b7->(Nat->AV)->Nat->Env
 |io::m,V,i+1=>eD (put e io.dst (V 0)) m (λj=>V (j+1)) i
 |_,_,_=>e
def xV (E:b7) (e:Env):Prop:=
 match E.guard with
 |none=>True
 |some (g,E)=>e g=.bool E
def sZ (m:aF b7) (e:Env) (V:Nat->AV):Prop:=∃i E,m[i]?=some E/\j8 E.op=true/\xV E (eD e m V i)
def ZS:∀(m:aF b7),(∀J,J∈m->∃T,gQ T=some J.op)->∀(e:Env) (C:Nat->Prop) (c:Nat) (K:Env->aC->Nat->Prop),C c->(∀E,C E->c<=E)->(∀E,C E->eU P m e H E K)->
  ∃V:Nat->AV,(∀i J,m[i]?=some J->YV P H J (eD e m V i) (V i))/\∀E,(C E\/(sZ m e V/\c<=E))->K (eD e m V m.length) H E:=by
 intro m
 induction m with
 |nil=>
  intro _ e C c K h1 h2 h3;refine⟨λ_=>.dS,by simp,λE h=>?_⟩;rcases h with h|⟨⟨i,J,h,_⟩,_⟩
  .exact h3 E h
  .simp at h
 |cons J m ih=>
  intro W e C c K h1 h2 h3;have ih:=ih λJ h=>W J (iI _ h);obtain⟨T,hop⟩:=W J (kB ..);have fin:∀v,YV P H J e v->((¬(j8 J.op=true/\xV J e)/\∀E,C E->eU P m (put e J.dst v) H E K)\/(j8 J.op=true/\∀E,c<=E->eU P m (put e J.dst v) H E K))->
    ∃V:Nat->AV,(∀i T,(J::m)[i]?=some T->YV P H T (eD e (J::m) V i) (V i))/\∀E,(C E\/(sZ (J::m) e V/\c<=E))->K (eD e (J::m) V (J::m).length) H E:=λv y h=>by
   have ys:∀V:Nat->AV,(∀i T,m[i]?=some T->YV P H T (eD (put e J.dst v) m V i) (V i))->
     ∀i T,(J::m)[i]?=some T->YV P H T (eD e (J::m) (λi=>match i with|0=>v|i+1=>V i) i) ((λi=>match i with|0=>v|i+1=>V i) i):=λV q i T W=>by
    cases i with
    |zero=>simp at W;subst W;exact y
    |succ i=>exact q i T (by simpa using W)
   rcases h with⟨a,b⟩|⟨a,b⟩
   .obtain⟨V,q1,q2⟩:=ih (put e J.dst v) C c K h1 h2 b;refine⟨λi=>match i with|0=>v|i+1=>V i,ys V q1,λE W=>q2 E ?_⟩;rcases W with W|⟨⟨i,T,h1,h2,h3⟩,Z⟩
    .exact .inl W
    .cases i with
     |zero=>simp at h1;subst h1;exact absurd ⟨h2,h3⟩ a
     |succ i=>exact .inr ⟨⟨i,T,by simpa using h1,h2,h3⟩,Z⟩
   .obtain⟨V,q1,q2⟩:=ih (put e J.dst v) (c<=·) c K (bB _) (λ_ h=>h) b;refine⟨λi=>match i with|0=>v|i+1=>V i,ys V q1,λE W=>q2 E ?_⟩;rcases W with W|⟨_,Z⟩
    .exact .inl (h2 E W)
    .exact .inl Z
  have run:(∀E,C E->cR P J.op e H E λv H' c''=>eU P m (put e J.dst v) H' c'' K)->∃v,rT P J.op e H v/\((¬(j8 J.op=true/\xV J e)/\∀E,C E->eU P m (put e J.dst v) H E K)\/(j8 J.op=true/\∀E,c<=E->eU P m (put e J.dst v) H E K)):=λh=>by
   obtain⟨v,g,h'⟩:=UT hop (h c h1);refine⟨v,g,?_⟩;rcases h' with⟨a,b⟩|⟨a,b⟩
   .exact .inl ⟨λh=>(by rw[a] at h;cases h.1),λE W=>b E _ (h E W)⟩
   .exact .inr ⟨a,b⟩
  cases hg:J.guard with
  |none=>
   obtain⟨v,g,h'⟩:=run λE W=>by
    have:=h3 E W;simp only[eU,hg] at this;exact this
   exact fin v (by unfold YV;rw[hg];exact g) h'
  |some gw=>
   obtain⟨g,Z⟩:=gw;have h3':∀E,C E->jO (e g) Z (cR P J.op e H E λv H' c''=>eU P m (put e J.dst v) H' c'' K) (eU P m (put e J.dst .dS) H E K):=λE W=>by
    have:=h3 E W;simp only[eU,hg] at this;exact this
   have skip:(e g=.dS\/∃b,e g=.bool b/\b≠Z)->(∀E,C E->eU P m (put e J.dst .dS) H E K)->
     ∃V:Nat->AV,(∀i T,(J::m)[i]?=some T->YV P H T (eD e (J::m) V i) (V i))/\∀E,(C E\/(sZ (J::m) e V/\c<=E))->K (eD e (J::m) V (J::m).length) H E:=λT hk=>by
    have y:YV P H J e .dS:=by unfold YV;rw[hg];exact .inr ⟨T,rfl⟩
    refine fin .dS y (.inl ⟨λ⟨_,J⟩=>?_,hk⟩);unfold xV at J;rw[hg] at J;dsimp only at J;rcases T with T|⟨b,T,hb⟩<;>rw[T] at J<;>cases J;exact hb rfl
   cases he:e g<;>simp only[he,jO] at h3'<;>first
    |exact(h3' c h1).elim
    |skip
   .rename_i b;by_cases hb:b=Z
    .subst hb;obtain⟨v,J,h'⟩:=run λE W=>(h3' E W).1 rfl;exact fin v (by unfold YV;rw[hg];exact .inl ⟨he,J⟩) h'
    .exact skip (.inr ⟨b,he,hb⟩) λE W=>(h3' E W).2 hb
   .exact skip (.inl he) h3'
def BT:∀(m:aF b7) (e:Env) (V:Nat->AV),(∀(i j:Nat) (x y:b7) (d:Nat),m[i]?=some x->m[j]?=some y->x.dst=some d->y.dst=some d->i=j)->∀(i:Nat),i<=m.length->∀t,
  (∀j x,j<i->m[j]?=some x->x.dst=some t->eD e m V i t=V j)/\((∀j x,j<i->m[j]?=some x->x.dst≠some t)->eD e m V i t=e t):=by
 intro m
 induction m with
 |nil=>
  intro e V Z i T t;have:eD e [] V i=e:=by cases i<;>rfl
  rw[this];exact⟨λj x _ h=>by simp at h,λ_=>rfl⟩
 |cons J m ih=>
  intro e V Z i T t;cases i with
  |zero=>exact⟨λj x h=>by omega,λ_=>rfl⟩
  |succ i=>
   have E:∀(i j:Nat) (x y:b7) (d:Nat),m[i]?=some x->m[j]?=some y->x.dst=some d->y.dst=some d->i=j:=λi j x y d h1 W h3 h4=>by
    have:=Z (i+1) (j+1) x y d (by simpa using h1) (by simpa using W) h3 h4;omega
   obtain⟨h1,W⟩:=ih (put e J.dst (V 0)) (λj=>V (j+1)) E i (by simpa using T) t;refine⟨λj x hj E T=>?_,λhn=>?_⟩
   .cases j with
    |zero=>
     simp at E;subst E;show eD (put e J.dst (V 0)) m (λj=>V (j+1)) i t=V 0;rw[W λj x hj E hd'=>?_,T]
     .show aK e t (V 0) t=V 0;rw[sA]
     .have:=Z 0 (j+1) J x t (by simp) (by simpa using E) T hd';omega
    |succ j=>exact h1 j x (by omega) (by simpa using E) T
   .show eD (put e J.dst (V 0)) m (λj=>V (j+1)) i t=e t;rw[W λj x hj E=>hn (j+1) x (by omega) (by simpa using E)];have E:=hn 0 J (by omega) (by simp);cases T:J.dst with
    |none=>rfl
    |some d=>show aK e d (V 0) t=e t;rw[kD _ _ _ λh=>E (by rw[T,h])]
def M8 {op E} (J:gQ op=some E) {K:aD} (T:cR P E e H c K):cR P op e H c K:=by
 cases op<;>simp only[gQ] at J<;>first
  |(cases J;done)
  |skip
 all_goals cases J
 case call f as0=>exact callFW_call T
 all_goals exact T
def BC {α β:Type} {f:α->Option β}:∀(l:aF α) (m:aF β),l.mapM f=some m->m.length=l.length/\∀(i:Nat) (x:α),l[i]?=some x->∃y,m[i]?=some y/\f x=some y:=by
 intro l
 induction l with
 |nil=>intro m h;simp at h;subst h;simp
 |cons x l T=>
  intro m h;simp only[oQ,gX,dK,uO,eH] at h;obtain⟨y,W,J,E,rfl⟩:=h;obtain⟨h1,Z⟩:=T J E;refine⟨by simp[h1],λi z E=>?_⟩;cases i with
  |zero=>simp at E;subst E;exact⟨y,by simp,W⟩
  |succ i=>simpa using Z i z (by simpa using E)
def qM {E:Array Oper} (h:rM E=true) {i k:Nat} {x y:Oper} (W:E[i]?=some x) (J:E[k]?=some y):
  (∀j,j∈hZ x->j<i)/\(∀d,x.dst=some d->y.dst=some d->i=k)/\∀d,y.dst=some d->d∈x.looksAt E->(k<i/\k∈hZ x)\/k=i\/(i<k/\i∈hZ y):=by
 have Z:=(lF.1 W).1;have E:=(lF.1 J).1;unfold rM at h;have T:=kM.1 (kM.1 h i (mJ.2 Z)) k (mJ.2 E);rw[W,J] at T;simp only[eY,kM,decide_eq_true_eq,CT,beq_iff_eq,bne_iff_ne,ne_eq,Option.isNone_iff_eq_none] at T;obtain⟨⟨W,J⟩,E⟩:=T;refine⟨W,λd T W=>?_,λd T Z=>?_⟩
 .rcases J with(J|J)|J
  .exact J
  .rw[T] at J;cases J
  .rw[T,W] at J;exact absurd rfl J
 .rw[T] at E;simp only[CT,z6,LP,decide_eq_false_iff_not,Z,not_true,false_or] at E;split at E
  .rename_i J;exact .inl ⟨J,by simpa using E⟩
  .rename_i J;rcases iA i k with h|h
   .refine .inr (.inr ⟨h,?_⟩);simp only[CT,beq_iff_eq,decide_eq_true_eq] at E;rcases E with E|E
    .omega
    .exact E
   .exact .inr (.inl (by omega))
section
variable {G0:Gh} {H0:aC} {w0:World} {n:Nat}
structure QN (P:Program) (ops:Array Oper) (m:List b7) (e:Env) (V:Nat->AV) (c:Nat) (listed:Array Bool) (e':Env) (c':Nat):Prop where
 size:listed.size=ops.size
 closed:∀(j:Nat) (o:Oper),ops[j]?=some o->listed.getD j false=true->∀k,k∈hZ o->listed.getD k false=true
 yes:∀(j:Nat) (io:b7) (t:Nat),m[j]?=some io->listed.getD j false=true->io.dst=some t->e' t=V j
 no:∀t,(∀(j:Nat) (io:b7),m[j]?=some io->listed.getD j false=true->io.dst≠some t)->e' t=e t
 le:c<=c'
 same:c'=c\/sZ m e V
def any_sound (hH0:∀t,t∈aV H0->t<G0.c) {ops:Array Oper} {m:aF b7} (hlen:m.length=ops.size)
  (hm:∀(i:Nat) (x:Oper),ops[i]?=some x->∃io0 io,m[i]?=some io/\j3 P n ops x=some io0/\io0.pure=some io) (hd:rM ops=true) {V:Nat->AV} {Q:kU}
  (hV:∀i io,m[i]?=some io->YV P H io (eD e m V i) (V i)) (hK:∀c',(c'=c\/(sZ m e V/\c<=c'))->Q .normal (eD e m V m.length) H c'):
  ∀(bH:Nat) (listed:Array Bool) (e':Env) (c':Nat) (a:Act) (w:World),QN P ops m e V c listed e' c'->(List.range ops.size).countP (λj=>!listed.getD j false)<=bH->St G0 H0 w0 n e' H c' a w->
   wpAny P .any ops (gI G0 H0 w0 n Q) bH listed a w:=by
 have uniq:∀(i j:Nat) (x y:b7) (d:Nat),m[i]?=some x->m[j]?=some y->x.dst=some d->y.dst=some d->i=j:=λi j x y d h1 h2 h3 h4=>by
  have l1:=(bQ.1 h1).1;have l2:=(bQ.1 h2).1;obtain⟨p0,p,q1,q2,q3⟩:=hm i ops[i] (fQ (by omega));obtain⟨r0,r,s1,s2,s3⟩:=hm j ops[j] (fQ (by omega));rw[h1] at q1;cases q1;rw[h2] at s1;cases s1;have e1:=(mF q2).2.2.1;have e2:=(mF s2).2.2.1;have f1:x.dst=p0.dst:=by simp only[b7.pure,iH] at q3;obtain⟨_,_,rfl⟩:=q3;rfl
  have f2:y.dst=r0.dst:=by simp only[b7.pure,iH] at s3;obtain⟨_,_,rfl⟩:=s3;rfl
  exact(qM hd (fQ (by omega)) (fQ (by omega))).2.1 d (by rw[<-e1,<-f1,h3]) (by rw[<-e2,<-f2,h4])
 have last:∀(listed:Array Bool) (e':Env) (c':Nat) (a:Act) (w:World),QN P ops m e V c listed e' c'->St G0 H0 w0 n e' H c' a w->Region.ready .any ops listed=[]->gI G0 H0 w0 n Q .normal a w:=λlisted e' c' a w M hs hr=>by
  have all:∀j,j<ops.size->listed.getD j false=true:=λj=>by
   induction j using Nat.strongRecOn with
   |_ j ih=>
    intro hj;cases hl:listed.getD j false with
    |true=>rfl
    |false=>
     have hjs:j<listed.size:=M.size▸hj;have:j∈Region.ready .any ops listed:=by
      rw[mem_ready];refine⟨by simpa[hjs] using hl,ops[j],fQ hj,λed hed hb=>?_⟩;have hmem:ed.on∈hZ ops[j]:=by
       unfold hZ;exact fZ.2 ⟨ed,r6.2 ⟨by simpa using hed,hb⟩,rfl⟩
      have hlt:=(qM hd (fQ hj) (fQ hj)).1 _ hmem;exact ih _ hlt (by omega)
     rw[hr] at this;cases this
  have he:e'=eD e m V m.length:=funext λt=>by
   obtain⟨h1,h2⟩:=BT m e V uniq m.length (bB _) t;by_cases hx:∃(j:Nat) (io:b7),m[j]?=some io/\io.dst=some t
   .obtain⟨j,io,hj,hio⟩:=hx;have hl:=(bQ.1 hj).1;rw[h1 j io hl hj hio,M.yes j io t hj (all j (by omega)) hio]
   .rw[h2 λj io _ hj hio=>hx ⟨j,io,hj,hio⟩,M.no t λj io hj _ hio=>hx ⟨j,io,hj,hio⟩]
  subst he;exact⟨_,H,c',hK c' (M.same.imp id λh=>⟨h,M.le⟩),hs⟩
 intro bH
 induction bH with
 |zero=>
  intro listed e' c' a w M hc hs;have hr:Region.ready .any ops listed=[]:=by
   refine Q9.2 λj hj=>?_;rw[mem_ready] at hj;obtain⟨h0,o,ho,_⟩:=hj;have hjs:=(lF.1 ho).1;have hjs':j<listed.size:=M.size▸hjs;have:=RC.1 (Q2.1 hc) j (mJ.2 hjs);simp[hjs'] at h0 this;rw[h0] at this;cases this
  exact⟨hr,last listed e' c' a w M hs hr⟩
 |succ bH ih=>
  intro listed e' c' a w M hc hs;refine⟨last listed e' c' a w M hs,λi hi=>?_⟩;rw[mem_ready] at hi;obtain⟨h0,o,ho,hready⟩:=hi;have his:=(lF.1 ho).1;have hils:i<listed.size:=M.size▸his;have hnl:listed.getD i false=false:=by simpa[hils] using h0
  have hafter:∀k,k∈hZ o->listed.getD k false=true:=λk hk=>by
   unfold hZ at hk;obtain⟨ed,hed,rfl⟩:=fZ.1 hk;obtain⟨hed1,hed2⟩:=r6.1 hed;exact hready ed (by simpa using hed1) hed2
  obtain⟨io0,io,hio,hco,hpu⟩:=hm i o ho;obtain⟨c1,c2,c3,c4⟩:=mF hco;obtain⟨pop,hpop,hioe⟩:∃p,gQ io0.op=some p/\{io0 with op:=p}=io:=by simpa[b7.pure,iH] using hpu
  have hop:io.op=pop:=by rw[<-hioe]
  have hgd:io.guard=io0.guard:=by rw[<-hioe]
  have hdst:io.dst=o.dst:=by rw[<-c3,<-hioe]
  have agree:∀t,t∈o.looksAt ops->e' t=eD e m V i t:=λt ht=>by
   have hil:=(bQ.1 hio).1;obtain⟨h1,h2⟩:=BT m e V uniq i (zS hil) t;by_cases hx:∃(j:Nat) (y:b7),m[j]?=some y/\y.dst=some t
   .obtain⟨j,y,hj,hy⟩:=hx;have hl:=(bQ.1 hj).1;obtain⟨r0,r,s1,s2,s3⟩:=hm j ops[j] (fQ (by omega));rw[hj] at s1;cases s1;have e2:=(mF s2).2.2.1;have f2:y.dst=r0.dst:=by simp only[b7.pure,iH] at s3;obtain⟨_,_,rfl⟩:=s3;rfl
    have no:¬j<i->listed.getD j false=false->e' t=eD e m V i t:=λhji hlj=>by
     rw[h2 λk x hk hx hd=>hji (uniq k j x y t hx hj hd hy▸hk)];exact M.no t λk x hx hlk hd=>by rw[uniq k j x y t hx hj hd hy,hlj] at hlk;cases hlk
    rcases(qM hd ho (fQ (by omega:j<ops.size))).2.2 t (by rw[<-e2,<-f2,hy]) ht with⟨k1,k2⟩|k1|⟨k1,k2⟩
    .rw[h1 j y k1 hj hy,M.yes j y t hj (hafter j k2) hy]
    .exact no (by omega) (k1▸hnl)
    .refine no (by omega) ?_;cases hlj:listed.getD j false with
     |false=>rfl
     |true=>rw[M.closed j ops[j] (fQ (by omega)) hlj i k2] at hnl;cases hnl
   .rw[h2 λj y _ hj hy=>hx ⟨j,y,hj,hy⟩,M.no t λj y hj _ hy=>hx ⟨j,y,hj,hy⟩]
  have mid:∀c'',c'<=c''->(c''=c'\/sZ m e V)->QN P ops m e V c (listed.setIfInBounds i true) (put e' io.dst (V i)) c'':=λc'' hle hsame=>by
   have bP:∀j,j≠i->(listed.setIfInBounds i true).getD j false=true->listed.getD j false=true:=λj hne h=>by rwa [getD_set_ne false (Ne.symm hne)] at h
   refine⟨by simp[M.size],λj y hj hl k hk=>?_,λj y t hj hl hy=>?_,λt hn=>?_,cL M.le hle,?_⟩
   .refine getD_set_true ?_;by_cases hji:j=i
    .subst hji;rw[ho] at hj;cases hj;exact hafter k hk
    .exact M.closed j y hj (bP j hji hl) k hk
   .by_cases hji:j=i
    .subst hji;rw[hio] at hj;cases hj;rw[hy];show aK e' t (V j) t=V j;rw[sA]
    .have hne:∀t',io.dst=some t'->t≠t':=λt' h ht=>hji (uniq j i y io t hj hio hy (ht▸h));cases hdd:io.dst with
     |none=>exact M.yes j y t hj (bP j hji hl) hy
     |some t'=>show aK e' t' (V i) t=V j;rw[kD _ _ _ (hne t' hdd)];exact M.yes j y t hj (bP j hji hl) hy
   .have hne:∀t',io.dst=some t'->t≠t':=λt' h ht=>hn i io hio (by simp[hils]) (ht▸h);have hno:e' t=e t:=M.no t λj y hj hl=>hn j y hj (getD_set_true hl);cases hdd:io.dst with
    |none=>exact hno
    |some t'=>show aK e' t' (V i) t=e t;rw[kD _ _ _ (hne t' hdd)];exact hno
   .rcases hsame with h|h
    .rcases M.same with h'|h'
     .exact .inl (h.trans h')
     .exact .inr h'
    .exact .inr h
  have count:(List.range ops.size).countP (λj=>!(listed.setIfInBounds i true).getD j false)<=bH:=by
   have hlt:(List.range ops.size).countP (λj=>!(listed.setIfInBounds i true).getD j false)<(List.range ops.size).countP (λj=>!listed.getD j false):=by
    have key:∀(l:aF Nat),i∈l->l.countP (λj=>!(listed.setIfInBounds i true).getD j false)<l.countP (λj=>!listed.getD j false):=by
     have mono:∀(l:aF Nat),l.countP (λj=>!(listed.setIfInBounds i true).getD j false)<=l.countP (λj=>!listed.getD j false):=λl=>
      RA λj _ h=>by
       cases hl:listed.getD j false with
       |false=>rfl
       |true=>rw[getD_set_true hl] at h;cases h
     intro l hl
     induction l with
     |nil=>cases hl
     |cons x l ihl=>
      simp only[RD];by_cases hx:x=i
      .subst hx;have:=mono l;have e1:(listed.setIfInBounds x true).getD x false=true:=by simp[hils]
       rw[e1,hnl];simp only[GH,jF,if_false,CU,if_true];omega
      .have h1:=ihl ((fK.1 hl).resolve_left (Ne.symm hx));rw[getD_set_ne false (Ne.symm hx)];omega
    exact key _ (mJ.2 his)
   omega
  obtain⟨G,rfl,h1,h2,h3,I,x⟩:=hs;have hw:=yD c2 h3;have guardIn:∀g want,io.guard=some (g,want)->g∈o.looksAt ops:=λg want hgw=>by
   rw[hgd] at hgw;have c2':=c2;unfold xN at c2';unfold Oper.looksAt;cases hog:o.guard with
   |none=>rw[hog] at c2';simp only[eH] at c2';rw[<-c2'] at hgw;cases hgw
   |some p=>
    obtain⟨j,wt⟩:=p;rw[hog] at c2';simp only at c2';split at c2'
    .rename_i d hdj;simp only[eH] at c2';rw[<-c2'] at hgw;cases hgw;refine wC _ ?_;simp[hdj]
    .cases c2'
  have run:rT P io.op (eD e m V i) H (V i)->(j8 io.op=true->sZ m e V)->o.wp P a w (wpAny P .any ops (gI G0 H0 w0 n Q) bH (listed.setIfInBounds i true)) (gI G0 H0 w0 n Q):=λhg hcall=>by
   have k1:=hg G.c;rw[hop] at k1;rw[<-HZ (e:=e') hpop λu hu=>?_] at k1
   .refine A0 rfl c1 I h3 (M8 hpop k1) λv w' ⟨av,H',G',⟨k2,k3,k4,k5⟩,x',I',r⟩=>?_;subst k2;subst k3;refine ih _ (put e' io.dst (V i)) G'.c _ _ (mid G'.c k4 ?_) count ?_
    .cases hcl:j8 io.op with
     |false=>exact .inl (k5 (by rw[<-hop];exact hcl))
     |true=>exact .inr (hcall hcl)
    .rw[hdst];exact St.step h1 h2 h3 I x hH0 (by rw[<-c3] at c4 ⊢;exact c4) x' I' r
   .cases u with
    |c v=>rfl
    |t t=>
     refine agree t ?_;have:=PL c1 hpop hu;unfold Oper.looksAt;exact kC _ (zU.2 ⟨.tmp t,this,rfl⟩)
  have skip:V i=.dS->wpAny P .any ops (gI G0 H0 w0 n Q) bH (listed.setIfInBounds i true) (a.put o.dst undef) w:=λhv=>by
   refine ih _ (put e' io.dst (V i)) G.c _ _ (mid G.c (bB _) (.inl rfl)) count ?_;rw[hdst,hv];exact St.step h1 h2 h3 I x hH0 c4 (Ext.refl _ _ _) I .dS
  have hy:=hV i io hio;unfold YV at hy;unfold wpOp;rw[ho];simp only;cases hg:io.guard with
  |none=>
   rw[<-hgd,hg] at hw;simp only[mR] at hw;rw[hg] at hy;rw[hw,if_pos rfl];exact .inl (run hy λhcl=>⟨i,io,hio,hcl,by unfold xV;rw[hg];trivial⟩)
  |some gw=>
   obtain⟨g,want⟩:=gw;rw[<-hgd,hg] at hw;simp only[mR] at hw;rw[hg] at hy;simp only at hy;rw[<-agree g (guardIn g want hg)] at hy;rcases hy with⟨hy1,hy2⟩|⟨hy1,hy2⟩
   .rw[hw.1 want hy1,beq_self_eq_true,if_pos rfl];refine .inl (run hy2 λhcl=>⟨i,io,hio,hcl,?_⟩);unfold xV;rw[hg];dsimp only;rw[<-agree g (guardIn g want hg)];exact hy1
   .have:Region.wanted o (yielded ops a.tmps)=false:=by
     rcases hy1 with hy1|⟨b,hy1,hb⟩
     .exact hw.2 hy1
     .rw[hw.1 b hy1];simpa using hb
    rw[this,if_neg (by simp)];exact skip hy2
def draw_sound (hH0:∀t,t∈aV H0->t<G0.c) {E:Array Oper} {m:aF b7} (J:E.toList.mapM (λo=>(j3 P n E o).bind b7.pure)=some m) (hd:rM E=true) (hf:P.follows .mixedOrders=true)
  {Q:kU} {id:Nat} {a:Act} {w:World} (hs:St G0 H0 w0 n e H c a w) (hk:eU P m e H c (Q .normal)):(Code.region id E true).wp P (gI G0 H0 w0 n Q) a w:=by
 obtain⟨hl,hg⟩:=BC _ _ J;have hm':∀(i:Nat) (x:Oper),E[i]?=some x->∃J T,m[i]?=some T/\j3 P n E x=some J/\J.pure=some T:=λi x W=>by
  obtain⟨T,Z,h2⟩:=hg i x (by simpa using W);obtain⟨J,W,h4⟩:=dK.1 h2;exact⟨J,T,Z,W,h4⟩
 have hp:∀T,T∈m->∃op,gQ op=some T.op:=λT hio=>by
  obtain⟨i,hi,hie⟩:=LH.1 hio;obtain⟨J,io',Z,h2,W⟩:=hm' i E[i] (fQ (by simp at hl;omega));rw[bC hi,hie] at Z;cases Z;simp only[b7.pure,iH] at W;obtain⟨p,hp,rfl⟩:=W;exact⟨J.op,hp⟩
 obtain⟨V,q1,J⟩:=ZS m hp e (·=c) c (Q .normal) rfl (λc' h=>Q3 h.symm) λc' h=>by rw[h];exact hk
 refine wp_region_any hf (any_sound hH0 (by simpa using hl) hm' hd q1 J E.size _ e c a _ ?_ ?_ ?_)
 .have J:∀j,(Array.replicate E.size false).getD j false=false:=λj=>by
   by_cases hj:j<E.size<;>simp[hj]
  exact⟨by simp,λj o _ h=>by(rw[J] at h;cases h),λj T t _ h=>by(rw[J] at h;cases h),λt _=>rfl,bB _,.inl rfl⟩
 .exact cL (RB) (by simp)
 .obtain⟨G,E,Z,h2,W,I,x⟩:=hs;exact⟨G,E,Z,h2,W,I,x.x,x.os,x.tape,x.output,x.size,x.frame,x.mL,x.j6,x.nV⟩
end
end
section
variable {P:Program} {R:Nat->AV->Prop} {H:aC} {c0:Nat} {e e':Env}
def GD (P:Program) (R:Nat->AV->Prop) (H:aC) (c0:Nat) (E:b7) (e:Env) (v:AV):Prop:=
 if j8 E.op=true then R (E.dst.getD 0) v/\fX c0 v else rT P E.op e H v
def CD (P:Program) (R:Nat->AV->Prop) (H:aC) (J:b7) (e:Env):Prop:=
 match J.op with
 |.uE f T=>∃E,fG H (T.map (ev e)) E/\Tr P f E (λ_ r=>R (J.dst.getD 0) r)
 |_=>True
def YD (P:Program) (R:Nat->AV->Prop) (H:aC) (c0:Nat) (J:b7) (e:Env) (v:AV):Prop:=
 match J.guard with
 |none=>GD P R H c0 J e v
 |some (g,E)=>(e g=.bool E/\GD P R H c0 J e v)\/((e g=.dS\/∃b,e g=.bool b/\b≠E)/\v=.dS)
def XD (P:Program) (R:Nat->AV->Prop) (H:aC) (J:b7) (e:Env):Prop:=
 match J.guard with
 |none=>CD P R H J e
 |some (g,E)=>(e g=.dS\/∃b,e g=.bool b)/\(e g=.bool E->CD P R H J e)
def UW {E:b7} (T:∃J,gQ J=some E.op) {K:AV->Prop} (h:rD P (R (E.dst.getD 0)) E.op e H c0 K):
  CD P R H E e/\(∃v,GD P R H c0 E e v)/\∀v,GD P R H c0 E e v->K v:=by
 obtain⟨J,W⟩:=T;cases hc:j8 E.op with
 |true=>
  cases hio:E.op<;>rw[hio] at hc<;>first
   |(cases hc;done)
   |skip
  rw[hio] at h;obtain⟨J,h1,Z,h3,h4⟩:=h;have T:∀v,GD P R H c0 E e v↔(R (E.dst.getD 0) v/\fX c0 v):=λv=>by unfold GD;rw[hio];simp[j8]
  refine⟨by unfold CD;rw[hio];exact⟨J,h1,Z⟩,?_,λv J=>?_⟩
  .obtain⟨r,Z⟩:=h3;exact⟨r,(T r).2 Z⟩
  .exact h4 v ((T v).1 J).1 ((T v).1 J).2
 |false=>
  have Z:cR P E.op e H c0 λv _ _=>K v:=by
   cases hio:E.op<;>rw[hio] at h hc<;>first|exact h|(cases hc)
  obtain⟨v,g,J⟩:=UT W Z;have J:=J.resolve_right λW=>by rw[hc] at W;cases W.1
  have T:∀v,GD P R H c0 E e v↔rT P E.op e H v:=λv=>by unfold GD;rw[hc,if_neg (by simp)]
  refine⟨?_,⟨v,(T v).2 g⟩,λu W=>?_⟩
  .unfold CD;cases hio:E.op<;>first|trivial|(rw[hio] at hc;cases hc)
  .have:=(J.2 c0 _ ((T u).1 W c0)).1;rw[<-this];exact J.2 c0 _ Z
def stepD {E:b7} (J:∃T,gQ T=some E.op) {m} {K:Env->Prop} (h:oU P R (E::m) e H c0 K):
  XD P R H E e/\(∃v,YD P R H c0 E e v)/\∀v,YD P R H c0 E e v->oU P R m (put e E.dst v) H c0 K:=by
 simp only[oU] at h;unfold XD YD;cases hg:E.guard with
 |none=>
  rw[hg] at h;exact UW J h
 |some p=>
  obtain⟨g,E⟩:=p;rw[hg] at h;dsimp only at h ⊢;cases he:e g<;>rw[he] at h<;>simp only[jO] at h<;>first
   |exact h.elim
   |skip
  .rename_i b;by_cases T:b=E
   .subst T;obtain⟨Z,⟨v,E⟩,W⟩:=UW J (h.1 rfl);refine⟨⟨.inr ⟨b,rfl⟩,λ_=>Z⟩,⟨v,.inl ⟨rfl,E⟩⟩,λu E=>?_⟩;rcases E with⟨_,E⟩|⟨E|⟨J,E,J⟩,_⟩
    .exact W u E
    .cases E
    .cases E;exact absurd rfl J
   .refine⟨⟨.inr ⟨b,rfl⟩,λJ=>by cases J;exact absurd rfl T⟩,⟨.dS,.inr ⟨.inr ⟨b,rfl,T⟩,rfl⟩⟩,λu E=>?_⟩;rcases E with⟨J,_⟩|⟨_,rfl⟩
    .cases J;exact absurd rfl T
    .exact h.2 T
  .refine⟨⟨.inl rfl,λJ=>by cases J⟩,⟨.dS,.inr ⟨.inl rfl,rfl⟩⟩,λu E=>?_⟩;rcases E with⟨J,_⟩|⟨_,rfl⟩
   .cases J
   .exact h
def PR:∀(m:aF b7),(∀E,E∈m->∃J,gQ J=some E.op)->∀(e:Env) (K:Env->Prop),oU P R m e H c0 K->∀V:Nat->AV,
  (∀i E,m[i]?=some E->(∀j y,j<i->m[j]?=some y->YD P R H c0 y (eD e m V j) (V j))->XD P R H E (eD e m V i)/\∃v,YD P R H c0 E (eD e m V i) v)/\
  ((∀j y,m[j]?=some y->YD P R H c0 y (eD e m V j) (V j))->K (eD e m V m.length)):=by
 intro m
 induction m with
 |nil=>intro _ e K h V;exact⟨λi E W=>by simp at W,λ_=>h⟩
 |cons E m ih=>
  intro Z e K h V;obtain⟨h1,h2,h3⟩:=stepD (Z E (kB ..)) h;have J:=λT=>ih (λE h=>Z E (iI _ h)) (put e E.dst (V 0)) K (h3 (V 0) T) (λj=>V (j+1));refine⟨λi io' W Z=>?_,λZ=>?_⟩
  .cases i with
   |zero=>simp at W;subst W;exact⟨h1,h2⟩
   |succ i=>
    have h0:YD P R H c0 E e (V 0):=Z 0 E (by omega) rfl;exact(J h0).1 i io' (by simpa using W) λj y W T=>Z (j+1) y (by omega) (by simpa using T)
  .have h0:YD P R H c0 E e (V 0):=Z 0 E rfl;exact(J h0).2 λj y T=>Z (j+1) y (by simpa using T)
def envN_congr:∀(m:aF b7) (e:Env) (V E:Nat->AV) (i:Nat),(∀j,j<i->V j=E j)->eD e m V i=eD e m E i:=by
 intro m
 induction m with
 |nil=>intro e V E i h;cases i<;>rfl
 |cons J m T=>
  intro e V E i h;cases i with
  |zero=>rfl
  |succ i=>
   show eD (put e J.dst (V 0)) m (λj=>V (j+1)) i=eD (put e J.dst (E 0)) m (λj=>E (j+1)) i;rw[h 0 (by omega)];exact T _ _ _ i λj E=>h (j+1) (by omega)
def YD_congr {J:b7} {op} (hp:gQ op=some J.op) (Z:∀x,x∈J.op.dZ->ev e x=ev e' x) (hg:∀g E,J.guard=some (g,E)->e g=e' g) v:YD P R H c0 J e v->YD P R H c0 J e' v:=by
 have T:GD P R H c0 J e v->GD P R H c0 J e' v:=λh=>by
  unfold GD at h ⊢;split
  .rename_i W;rw[if_pos W] at h;exact h
  .rename_i W;rw[if_neg W] at h;intro W;have:=h W;rw[HZ hp Z] at this;exact this
 unfold YD;cases h:J.guard with
 |none=>exact T
 |some p=>
  obtain⟨g,E⟩:=p;dsimp only;rw[hg g E h];rintro(⟨a,b⟩|b)
  .exact .inl ⟨a,T b⟩
  .exact .inr b
def complete {m:aF b7} (hp:∀io,io∈m->∃op,gQ op=some io.op) {K:Env->Prop} (hk:oU P R m e H c0 K) {L:Nat->Bool} {A:Nat->AV}
  (hA:∀i io,m[i]?=some io->L i=true->∀V:Nat->AV,(∀j,L j=true->V j=A j)->YD P R H c0 io (eD e m V i) (A i)):
  ∀n,n<=m.length->∃V:Nat->AV,(∀j,L j=true->V j=A j)/\∀j y,j<n->m[j]?=some y->YD P R H c0 y (eD e m V j) (V j):=by
 intro n
 induction n with
 |zero=>intro _;exact⟨A,λ_ _=>rfl,λj y hj=>by omega⟩
 |succ n ih=>
  intro hn;obtain⟨V,h1,h2⟩:=ih (by omega);have hy:m[n]?=some m[n]:=bC (by omega);cases hl:L n with
  |true=>
   refine⟨V,h1,λj y hj hjy=>?_⟩;by_cases hjn:j=n
   .subst hjn;rw[h1 j hl];exact hA j y hjy hl V h1
   .exact h2 j y (by omega) hjy
  |false=>
   obtain⟨v,hv⟩:=((PR m hp e K hk V).1 n _ hy h2).2;have hne:∀j,j≠n->aK V n v j=V j:=λj hj=>kD _ _ _ hj;have henv:∀j,j<=n->eD e m (aK V n v) j=eD e m V j:=λj hj=>envN_congr m e _ _ j λk hk=>hne k (by omega);refine⟨aK V n v,λj hj=>?_,λj y hj hjy=>?_⟩
   .rw[hne j λh=>by rw[h,hl] at hj;cases hj];exact h1 j hj
   .rw[henv j (by omega)];by_cases hjn:j=n
    .subst hjn;rw[hy] at hjy;cases hjy;rw[sA];exact hv
    .rw[hne j hjn];exact h2 j y (by omega) hjy
section
variable {G0:Gh} {H0:aC} {w0:World} {n:Nat}
structure QM (P:Program) (R:Nat->AV->Prop) (H:aC) (ops:Array Oper) (m:List b7) (e:Env) (A:Nat->AV) (c:Nat) (listed:Array Bool) (e':Env) (c':Nat):Prop where
 size:listed.size=ops.size
 closed:∀(j:Nat) (o:Oper),ops[j]?=some o->listed.getD j false=true->∀k,k∈hZ o->listed.getD k false=true
 yes:∀(j:Nat) (io:b7) (t:Nat),m[j]?=some io->listed.getD j false=true->io.dst=some t->e' t=A j
 no:∀t,(∀(j:Nat) (io:b7),m[j]?=some io->listed.getD j false=true->io.dst≠some t)->e' t=e t
 le:c<=c'
 xE:∀(i:Nat) (io:b7),m[i]?=some io->listed.getD i false=true->∀V:Nat->AV,(∀j,listed.getD j false=true->V j=A j)->YD P R H c io (eD e m V i) (A i)
def any_soundD (hH0:∀t,t∈aV H0->t<G0.c) {J:Array Oper} {m:aF b7} (E:m.length=J.size)
  (hm:∀(i:Nat) (x:Oper),J[i]?=some x->∃io0 T,m[i]?=some T/\j3 P n J x=some io0/\io0.pure=some T) (hd:rM J=true) {Q}
  (hp:∀T,T∈m->∃op,gQ op=some T.op) (hk:oU P R m e H c0 λe'=>∀c',c0<=c'->Q .normal e' H c'):
  ∀(bH:Nat) (E:Array Bool) (A:Nat->AV) (e':Env) (c':Nat) (a:Act) (w:World),QM P R H J m e A c0 E e' c'->(List.range J.size).countP (λj=>!E.getD j false)<=bH->St G0 H0 w0 n e' H c' a w->
   wpAny P .any J (gI G0 H0 w0 n Q) bH E a w:=by
 have uniq:∀(i j:Nat) (x y:b7) (d:Nat),m[i]?=some x->m[j]?=some y->x.dst=some d->y.dst=some d->i=j:=λi j x y d h1 h2 h3 Z=>by
  have W:=(bQ.1 h1).1;have W:=(bQ.1 h2).1;obtain⟨W,p,q1,q2,q3⟩:=hm i J[i] (fQ (by omega));obtain⟨r0,r,s1,s2,s3⟩:=hm j J[j] (fQ (by omega));rw[h1] at q1;cases q1;rw[h2] at s1;cases s1;have e1:=(mF q2).2.2.1;have e2:=(mF s2).2.2.1;have f1:x.dst=W.dst:=by simp only[b7.pure,iH] at q3;obtain⟨_,_,rfl⟩:=q3;rfl
  have f2:y.dst=r0.dst:=by simp only[b7.pure,iH] at s3;obtain⟨_,_,rfl⟩:=s3;rfl
  exact(qM hd (fQ (by omega)) (fQ (by omega))).2.1 d (by rw[<-e1,<-f1,h3]) (by rw[<-e2,<-f2,Z])
 have last:∀(E:Array Bool) (A:Nat->AV) (e':Env) (c':Nat) (a:Act) (w:World),QM P R H J m e A c0 E e' c'->St G0 H0 w0 n e' H c' a w->Region.ready .any J E=[]->gI G0 H0 w0 n Q .normal a w:=λE A e' c' a w M hs hr=>by
  have all:∀j,j<J.size->E.getD j false=true:=λj=>by
   induction j using Nat.strongRecOn with
   |_ j ih=>
    intro W;cases hl:E.getD j false with
    |true=>rfl
    |false=>
     have Z:j<E.size:=M.size▸W;have:j∈Region.ready .any J E:=by
      rw[mem_ready];refine⟨by simpa[Z] using hl,J[j],fQ W,λed hed hb=>?_⟩;have hmem:ed.on∈hZ J[j]:=by
       unfold hZ;exact fZ.2 ⟨ed,r6.2 ⟨by simpa using hed,hb⟩,rfl⟩
      have hlt:=(qM hd (fQ W) (fQ W)).1 _ hmem;exact ih _ hlt (by omega)
     rw[hr] at this;cases this
  have he:e'=eD e m A m.length:=funext λt=>by
   obtain⟨h1,h2⟩:=BT m e A uniq m.length (bB _) t;by_cases hx:∃(j:Nat) (T:b7),m[j]?=some T/\T.dst=some t
   .obtain⟨j,T,W,hio⟩:=hx;have hl:=(bQ.1 W).1;rw[h1 j T hl W hio,M.yes j T t W (all j (by omega)) hio]
   .rw[h2 λj T _ W hio=>hx ⟨j,T,W,hio⟩,M.no t λj T W _ hio=>hx ⟨j,T,W,hio⟩]
  subst he;refine⟨_,H,c',(PR m hp e _ hk A).2 (λj y hy=>?_) c' M.le,hs⟩;have hl:=(bQ.1 hy).1;exact M.xE j y hy (all j (by omega)) A λ_ _=>rfl
 intro bH
 induction bH with
 |zero=>
  intro E A e' c' a w M hc hs;have hr:Region.ready .any J E=[]:=by
   refine Q9.2 λj W=>?_;rw[mem_ready] at W;obtain⟨h0,o,ho,_⟩:=W;have Z:=(lF.1 ho).1;have hjs':j<E.size:=M.size▸Z;have:=RC.1 (Q2.1 hc) j (mJ.2 Z);simp[hjs'] at h0 this;rw[h0] at this;cases this
  exact⟨hr,last E A e' c' a w M hs hr⟩
 |succ bH ih=>
  intro E A e' c' a w M hc hs;refine⟨last E A e' c' a w M hs,λi hi=>?_⟩;rw[mem_ready] at hi;obtain⟨h0,o,ho,Z⟩:=hi;have his:=(lF.1 ho).1;have hils:i<E.size:=M.size▸his;have hnl:E.getD i false=false:=by simpa[hils] using h0
  have hafter:∀k,k∈hZ o->E.getD k false=true:=λk hk=>by
   unfold hZ at hk;obtain⟨ed,hed,rfl⟩:=fZ.1 hk;obtain⟨hed1,hed2⟩:=r6.1 hed;exact Z ed (by simpa using hed1) hed2
  obtain⟨io0,T,hio,Z,hpu⟩:=hm i o ho;obtain⟨c1,c2,c3,c4⟩:=mF Z;obtain⟨pop,hpop,Z⟩:∃p,gQ io0.op=some p/\{io0 with op:=p}=T:=by simpa[b7.pure,iH] using hpu
  have hop:T.op=pop:=by rw[<-Z]
  have hgd:T.guard=io0.guard:=by rw[<-Z]
  have hdst:T.dst=o.dst:=by rw[<-c3,<-Z]
  have hil:=(bQ.1 hio).1
  have agree:∀V:Nat->AV,(∀j,E.getD j false=true->V j=A j)->∀t,t∈o.looksAt J->e' t=eD e m V i t:=λV hVA t ht=>by
   obtain⟨h1,h2⟩:=BT m e V uniq i (zS hil) t;by_cases hx:∃(j:Nat) (y:b7),m[j]?=some y/\y.dst=some t
   .obtain⟨j,y,W,hy⟩:=hx;have hl:=(bQ.1 W).1;obtain⟨r0,r,s1,s2,s3⟩:=hm j J[j] (fQ (by omega));rw[W] at s1;cases s1;have e2:=(mF s2).2.2.1;have f2:y.dst=r0.dst:=by simp only[b7.pure,iH] at s3;obtain⟨_,_,rfl⟩:=s3;rfl
    have no:¬j<i->E.getD j false=false->e' t=eD e m V i t:=λhji Z=>by
     rw[h2 λk x hk hx hd=>hji (uniq k j x y t hx W hd hy▸hk)];exact M.no t λk x hx hlk hd=>by rw[uniq k j x y t hx W hd hy,Z] at hlk;cases hlk
    rcases(qM hd ho (fQ (by omega:j<J.size))).2.2 t (by rw[<-e2,<-f2,hy]) ht with⟨k1,k2⟩|k1|⟨k1,k2⟩
    .rw[h1 j y k1 W hy,M.yes j y t W (hafter j k2) hy,hVA j (hafter j k2)]
    .exact no (by omega) (k1▸hnl)
    .refine no (by omega) ?_;cases Z:E.getD j false with
     |false=>rfl
     |true=>rw[M.closed j J[j] (fQ (by omega)) Z i k2] at hnl;cases hnl
   .rw[h2 λj y _ W hy=>hx ⟨j,y,W,hy⟩,M.no t λj y W _ hy=>hx ⟨j,y,W,hy⟩]
  have guardIn:∀g Z,T.guard=some (g,Z)->g∈o.looksAt J:=λg Z hgw=>by
   rw[hgd] at hgw;have c2':=c2;unfold xN at c2';unfold Oper.looksAt;cases hog:o.guard with
   |none=>rw[hog] at c2';simp only[eH] at c2';rw[<-c2'] at hgw;cases hgw
   |some p=>
    obtain⟨j,wt⟩:=p;rw[hog] at c2';simp only at c2';split at c2'
    .rename_i d hdj;simp only[eH] at c2';rw[<-c2'] at hgw;cases hgw;refine wC _ ?_;simp[hdj]
    .cases c2'
  have evs:∀V:Nat->AV,(∀j,E.getD j false=true->V j=A j)->∀u,u∈T.op.dZ->ev e' u=ev (eD e m V i) u:=λV hVA u hu=>by
   cases u with
   |c v=>rfl
   |t t=>
    refine agree V hVA t ?_;have:=PL c1 hpop (by rw[<-hop];exact hu);unfold Oper.looksAt;exact kC _ (zU.2 ⟨.tmp t,this,rfl⟩)
  obtain⟨V0,hV0,hg0⟩:=complete (L:=λj=>E.getD j false) hp hk M.xE i (zS hil);obtain⟨hx0,hy0⟩:=(PR m hp e _ hk V0).1 i T hio λj y W hjy=>hg0 j y W hjy
  have mid:∀c'' v,c'<=c''->YD P R H c0 T (eD e m V0 i) v->QM P R H J m e (aK A i v) c0 (E.setIfInBounds i true) (put e' T.dst v) c'':=λc'' v hle hyv=>by
   have bP:∀j,j≠i->(E.setIfInBounds i true).getD j false=true->E.getD j false=true:=λj hne h=>by rwa [getD_set_ne false (Ne.symm hne)] at h
   have hsub:∀V:Nat->AV,(∀j,(E.setIfInBounds i true).getD j false=true->V j=aK A i v j)->∀j,E.getD j false=true->V j=A j:=λV hV j W=>by
    have hne:j≠i:=λh=>by rw[h,hnl] at W;cases W
    rw[hV j (getD_set_true W),kD _ _ _ hne]
   refine⟨by simp[M.size],λj y W hl k hk=>?_,λj y t W hl hy=>?_,λt hn=>?_,cL M.le hle,λj y W hl V hV=>?_⟩
   .refine getD_set_true ?_;by_cases hji:j=i
    .subst hji;rw[ho] at W;cases W;exact hafter k hk
    .exact M.closed j y W (bP j hji hl) k hk
   .by_cases hji:j=i
    .subst hji;rw[hio] at W;cases W;rw[hy];show aK e' t v t=aK A j v j;rw[sA,sA]
    .have hne:∀t',T.dst=some t'->t≠t':=λt' h ht=>hji (uniq j i y T t W hio hy (ht▸h));rw[kD _ _ _ hji];cases hdd:T.dst with
     |none=>exact M.yes j y t W (bP j hji hl) hy
     |some t'=>show aK e' t' v t=A j;rw[kD _ _ _ (hne t' hdd)];exact M.yes j y t W (bP j hji hl) hy
   .have hne:∀t',T.dst=some t'->t≠t':=λt' h ht=>hn i T hio (by simp[hils]) (ht▸h);have hno:e' t=e t:=M.no t λj y W hl=>hn j y W (getD_set_true hl);cases hdd:T.dst with
    |none=>exact hno
    |some t'=>show aK e' t' v t=e t;rw[kD _ _ _ (hne t' hdd)];exact hno
   .have hVA:=hsub V hV;by_cases hji:j=i
    .subst hji;rw[hio] at W;cases W;rw[sA];have hpo:gQ io0.op=some T.op:=hpop.trans (congrArg some hop.symm);refine YD_congr hpo (λu hu=>?_) (λg Z hgw=>?_) v hyv
     .rw[<-evs V0 hV0 u hu,evs V hVA u hu]
     .rw[<-agree V0 hV0 g (guardIn g Z hgw),agree V hVA g (guardIn g Z hgw)]
    .rw[kD _ _ _ hji];exact M.xE j y W (bP j hji hl) V hVA
  have W:(List.range J.size).countP (λj=>!(E.setIfInBounds i true).getD j false)<=bH:=by
   have hlt:(List.range J.size).countP (λj=>!(E.setIfInBounds i true).getD j false)<(List.range J.size).countP (λj=>!E.getD j false):=by
    have key:∀(l:aF Nat),i∈l->l.countP (λj=>!(E.setIfInBounds i true).getD j false)<l.countP (λj=>!E.getD j false):=by
     have mono:∀(l:aF Nat),l.countP (λj=>!(E.setIfInBounds i true).getD j false)<=l.countP (λj=>!E.getD j false):=λl=>
      RA λj _ h=>by
       cases hl:E.getD j false with
       |false=>rfl
       |true=>rw[getD_set_true hl] at h;cases h
     intro l hl
     induction l with
     |nil=>cases hl
     |cons x l ihl=>
      simp only[RD];by_cases hx:x=i
      .subst hx;have:=mono l;have e1:(E.setIfInBounds x true).getD x false=true:=by simp[hils]
       rw[e1,hnl];simp only[GH,jF,if_false,CU,if_true];omega
      .have h1:=ihl ((fK.1 hl).resolve_left (Ne.symm hx));rw[getD_set_ne false (Ne.symm hx)];omega
    exact key _ (mJ.2 his)
   omega
  obtain⟨G,rfl,h1,h2,h3,I,x⟩:=hs;have hw:=yD c2 h3;have run:CD P R H T (eD e m V0 i)->(∃v,GD P R H c0 T (eD e m V0 i) v)->(∀v,GD P R H c0 T (eD e m V0 i) v->YD P R H c0 T (eD e m V0 i) v)->
    o.wp P a w (wpAny P .any J (gI G0 H0 w0 n Q) bH (E.setIfInBounds i true)) (gI G0 H0 w0 n Q):=λhcd hgd' hyd=>by
   have fin:∀Kp:aD,cR P io0.op e' H G.c Kp->(∀av H' c'',Kp av H' c''->H'=H/\G.c<=c''/\GD P R H c0 T (eD e m V0 i) av)->
     o.wp P a w (wpAny P .any J (gI G0 H0 w0 n Q) bH (E.setIfInBounds i true)) (gI G0 H0 w0 n Q):=λKp k1 k2=>by
    refine A0 rfl c1 I h3 k1 λv w' ⟨av,H',G',kp,x',I',r⟩=>?_;obtain⟨q1,q2,q3⟩:=k2 _ _ _ kp;subst q1;refine ih _ _ (put e' T.dst av) G'.c _ _ (mid G'.c av q2 (hyd av q3)) W ?_;rw[hdst];exact St.step h1 h2 h3 I x hH0 (by rw[<-c3] at c4 ⊢;exact c4) x' I' r
   cases hcl:j8 T.op with
   |true=>
    cases hiop:T.op<;>rw[hiop] at hcl<;>first
     |(cases hcl;done)
     |skip
    rename_i f as0;have hi0:io0.op=.call f as0:=by
     have hq:=hpop;rw[<-hop,hiop] at hq;cases h00:io0.op<;>rw[h00] at hq<;>simp only[gQ] at hq<;>cases hq;rfl
    unfold CD at hcd;rw[hiop] at hcd;obtain⟨as',hv,ht⟩:=hcd;have hmap:as0.map (ev e')=as0.map (ev (eD e m V0 i)):=BB λu hu=>evs V0 hV0 u (by rw[hiop];exact hu);refine fin (λr H' c''=>H'=H/\G.c<=c''/\R (T.dst.getD 0) r/\fX G.c r) ?_ λav H' c'' ⟨q1,q2,q3,q4⟩=>⟨q1,q2,?_⟩
    .rw[hi0];show bO P f (as0.map (ev e')) H G.c _;rw[hmap];exact E4 ht hv λr c'' hle hq hfr=>⟨rfl,hle,hq,hfr⟩
    .unfold GD;rw[hiop];simp only[j8,if_true];exact⟨q3,q4.mono M.le⟩
   |false=>
    obtain⟨v,hv⟩:=hgd';have hv':=hv;unfold GD at hv';rw[hcl,if_neg (by simp)] at hv';have k1:=hv' G.c;rw[hop] at k1;rw[<-HZ (e:=e') hpop λu hu=>evs V0 hV0 u (by rw[hop];exact hu)] at k1;exact fin _ (M8 hpop k1) λav H' c'' ⟨q1,q2,q3,_⟩=>⟨q2,q3,q1▸hv⟩
  have skip:YD P R H c0 T (eD e m V0 i) .dS->wpAny P .any J (gI G0 H0 w0 n Q) bH (E.setIfInBounds i true) (a.put o.dst undef) w:=λhv=>by
   refine ih _ _ (put e' T.dst .dS) G.c _ _ (mid G.c .dS (bB _) hv) W ?_;rw[hdst];exact St.step h1 h2 h3 I x hH0 c4 (Ext.refl _ _ _) I .dS
  unfold XD at hx0;unfold wpOp;rw[ho];simp only;cases hg:T.guard with
  |none=>
   rw[<-hgd,hg] at hw;simp only[mR] at hw;have W:∀v,YD P R H c0 T (eD e m V0 i) v↔GD P R H c0 T (eD e m V0 i) v:=λv=>by unfold YD;rw[hg]
   rw[hg] at hx0;rw[hw,if_pos rfl];exact .inl (run hx0 (hy0.imp λv h=>(W v).1 h) λv h=>(W v).2 h)
  |some E=>
   obtain⟨g,Z⟩:=E;rw[<-hgd,hg] at hw;simp only[mR] at hw;have W:∀v,YD P R H c0 T (eD e m V0 i) v↔((eD e m V0 i g=.bool Z/\GD P R H c0 T (eD e m V0 i) v)\/((eD e m V0 i g=.dS\/∃b,eD e m V0 i g=.bool b/\b≠Z)/\v=.dS)):=λv=>by unfold YD;rw[hg]
   rw[hg] at hx0;dsimp only at hx0;have T:=agree V0 hV0 g (guardIn g Z hg);obtain⟨v,hv⟩:=hy0;rcases(W v).1 hv with⟨E,hy2⟩|⟨E,rfl⟩
   .rw[hw.1 Z (T.trans E),beq_self_eq_true,if_pos rfl];exact .inl (run (hx0.2 E) ⟨v,hy2⟩ λu hu=>(W u).2 (.inl ⟨E,hu⟩))
   .have:Region.wanted o (yielded J a.tmps)=false:=by
     rcases E with E|⟨b,E,hb⟩
     .exact hw.2 (T.trans E)
     .rw[hw.1 b (T.trans E)];simpa using hb
    rw[this,if_neg (by simp)];exact skip hv
def draw_soundD (hH0:∀t,t∈aV H0->t<G0.c) {E:Array Oper} {m:aF b7} (T:E.toList.mapM (λo=>(j3 P n E o).bind b7.pure)=some m) (hd:rM E=true) (hf:P.follows .mixedOrders=true)
  {Q:kU} {id:Nat} {a:Act} {w:World} (hs:St G0 H0 w0 n e H c0 a w) (hk:oU P R m e H c0 λe'=>∀J,c0<=J->Q .normal e' H J):(Code.region id E true).wp P (gI G0 H0 w0 n Q) a w:=by
 obtain⟨hl,hg⟩:=BC _ _ T;have hm':∀(i:Nat) (x:Oper),E[i]?=some x->∃J T,m[i]?=some T/\j3 P n E x=some J/\J.pure=some T:=λi x W=>by
  obtain⟨T,Z,h2⟩:=hg i x (by simpa using W);obtain⟨J,W,h4⟩:=dK.1 h2;exact⟨J,T,Z,W,h4⟩
 have hp:∀T,T∈m->∃op,gQ op=some T.op:=λT hio=>by
  obtain⟨i,hi,hie⟩:=LH.1 hio;obtain⟨J,io',Z,h2,W⟩:=hm' i E[i] (fQ (by simp at hl;omega));rw[bC hi,hie] at Z;cases Z;simp only[b7.pure,iH] at W;obtain⟨p,hp,rfl⟩:=W;exact⟨J.op,hp⟩
 refine wp_region_any hf (any_soundD hH0 (by simpa using hl) hm' hd hp hk E.size _ (λ_=>.dS) e c0 a _ ?_ ?_ ?_)
 .have J:∀j,(Array.replicate E.size false).getD j false=false:=λj=>by
   by_cases hj:j<E.size<;>simp[hj]
  exact⟨by simp,λj o _ h=>by(rw[J] at h;cases h),λj T t _ h=>by(rw[J] at h;cases h),λt _=>rfl,bB _,λi T _ h=>by(rw[J] at h;cases h)⟩
 .exact cL (RB) (by simp)
 .obtain⟨G,E,Z,h2,W,I,x⟩:=hs;exact⟨G,E,Z,h2,W,I,x.x,x.os,x.tape,x.output,x.size,x.frame,x.mL,x.j6,x.nV⟩
end
end
section
variable {P:Program} {G:Gh} {H:aC} {w:World} {K:aD} {a:Act} {e:Env} {o:Oper}
def zH (P:Program) (s:Sem Value) (G:Gh) (h:Array Obj) (K:AV->Prop):Prop:=∃v av,bJ G h v av/\K av/\∀w,s.run P w=.ok v w
def faddr_yld {t:TypeId} {f off} {J:TypeId} (E:y8 P t f=some (off,J)) {v} {x} {h} {K:AV->Prop} (r:bJ G h v x) (J:vN off x K):zH P (Instr.fieldAt t v f) G h K:=by
 obtain⟨T,fd,i,h1,Z,rfl,rfl,W,T⟩:=OW E;have E:∀b p w,(Instr.fieldAt t (.pointer (some ⟨b,p,none⟩)) f).run P w=.ok (.pointer (some ⟨b,p+fd.offset,none⟩)) w:=λb p w=>by
  unfold Instr.fieldAt;simp only[cP,run_underlying h1,dL,Z,Instr.sureAddr,dC,fieldPlace,qZ W,T,if_false,addr_add]
 cases r<;>simp only[vN] at J
 case iP tag p o cells f' hF hc eF hcl hrep=>exact⟨_,_,.iP f' hF hc eF hcl hrep,J,λw=>by rw[E,v8]⟩
 case ptr i' tag wd r o hc=>exact⟨_,_,.ptr hc,J,λw=>by rw[E,v8]⟩
 all_goals exact J.elim
def iaddr_yld {t e:TypeId} {i:TypeInfo} (ht:mX P t=some (e,i)) {u v} {x y} {h} {K:AV->Prop} (r:bJ G h u x) (J:bJ G h v y)
  (E:sP i.size x y K):zH P (Instr.indexAt t u v) G h K:=by
 cases J<;>simp only[sP] at E
 case int k n hn=>
  cases r<;>simp only at E
  case j5=>obtain⟨_,_,_,h,_⟩:=E;simp at h
  case dX tag wd off cap aN f hF hc hlen hcap hw eF hcl hrep=>
   obtain⟨rfl,T,aM,J,E⟩:=E;have Z:n.toNat<aN.length:=(bQ.1 J).1;refine⟨_,_,?_,E,λw=>AW ht T (by omega) w⟩;exact .iP (o:=0) (off:=off+n.toNat*i.size) (tag:=tag) (λj=>f n.toNat j) hF hc (λj a W=>eF _ _ _ _ J W) (λj a W=>hcl _ _ _ _ J W) (λj a W=>hrep _ _ _ _ J W)
  case ref j tag wd len cap c e' fr hc hb J h2 h3=>
   obtain⟨rfl,T,Z,E⟩:=E;refine⟨_,_,?_,E,λw=>AW ht T Z w⟩;rw[oO];exact .ptr (o:=0) hc
  case wI=>obtain⟨_,T,J,_⟩:=E;omega
  case sub j tag wd off len cap c e' fr hc hb J h2 h3=>
   obtain⟨rfl,T,Z,E⟩:=E;refine⟨_,_,?_,E,λw=>AW ht T Z w⟩;rw[<-rW];exact .ptr (o:=0) hc
  all_goals exact E.elim
 all_goals exact E.elim
def lenStr_yld {t ty:TypeId} (ht:yX P t=true) {v:Value} {x:AV} {h:Array Obj} {K:AV->Prop} (r:bJ G h v x) (hk:wX x K):zH P (Builtin.len_ #[t] ty #[v]) G h K:=by
 cases r<;>simp only[wX] at hk
 case str s l e hl=>
  subst e;exact⟨.int .i64 s.data.toList.length,_,.int (oW hl),hk,λw=>by simp[Builtin.len_,run_underlying (I5 ht),goInt]⟩
 all_goals exact hk.elim
def lenSlc_yld {t ty:TypeId} (ht:yY P t=true) {v:Value} {x:AV} {h:Array Obj} {K:AV->Prop} (r:bJ G h v x) (hk:oV x K):zH P (Builtin.len_ #[t] ty #[v]) G h K:=by
 obtain⟨e,he⟩:=N5 ht;cases r<;>simp only[oV] at hk
 case aU=>exact⟨.int .i64 0,_,.int (oW (n:=0) (kH _)),hk,λw=>by simp[Builtin.len_,run_underlying he,goInt]⟩
 case j5=>exact⟨.int .i64 0,_,.int (oW (n:=0) (kH _)),hk,λw=>by simp[Builtin.len_,run_underlying he,goInt]⟩
 case dX tag wd off cap aN f hF hc hlen hcap hw eF hcl hrep=>
  exact⟨.int .i64 aN.length,_,.int (oW hlen),hk,λw=>by simp[Builtin.len_,run_underlying he,goInt]⟩
 case ref j tag wd len cap c e' fr hc hb h1 h2 h3=>
  exact⟨.int .i64 len,_,.int (oW (cL h2 h3)),hk,λw=>by simp[Builtin.len_,run_underlying he,goInt]⟩
 case wI=>exact⟨.int .i64 0,_,.int (oW (n:=0) (kH _)),hk,λw=>by simp[Builtin.len_,run_underlying he,goInt]⟩
 case sub j tag wd off len cap c e' fr hc hb h1 h2 h3=>
  exact⟨.int .i64 len,_,.int (oW h3),hk,λw=>by simp[Builtin.len_,run_underlying he,goInt]⟩
 all_goals exact hk.elim
def build_yld {t:TypeId} {zero} (J:qC P t=some zero) (T:sG P t=true) {E:Array (Nat×Value)} {ps} {h} {K:AV->Prop}
  (f:F2 (λp q=>placeOf P t p.1=some (q.1,q.2.1)/\bJ G h p.2 q.2.2) E.toList ps) (hk:pD zero ps λl=>K (.agg l)):zH P (Instr.build t E) G h K:=by
 obtain⟨W,z,h1,h2,W,W,Z⟩:=AD J;have r0:rQ G h z.cells zero:=⟨W,λj b W=>Z _ _ j b W⟩
 have Z:∀(J:Nat->Option (Nat×Nat)),(∀i p,placeOf P t i=some p->J i=some p)->((∃cs,Instr.fill J z.cells E.toList=some cs)->P.built t E.toList=Instr.fill J z.cells E.toList)->
   zH P (Instr.build t E) G h K:=λJ J hb=>by
  obtain⟨cs,l,e,r,k⟩:=X5 E.toList ps z.cells zero r0 (XN J f) hk;exact⟨_,_,.agg r.1 (λj b W=>(r.2 j b W).1) λj b W=>(r.2 j b W).2,k,λw=>run_build w t E cs ((hb ⟨_,e⟩).trans e)⟩
 cases hu:P.underlying t with
 |none=>simp[sG,hu] at T
 |some d=>
  cases d<;>try (simp[sG,hu] at T;done)
  case array n e=>
   obtain⟨W,E⟩:=LD.1 (by simpa[sG,hu] using T);refine Z (λi=>some (i*W.size,W.size)) (λi p J=>?_) λ_=>?_
   .simpa[placeOf,hu,E] using J
   .simp[Program.built,h1,hu,h2,E]
  case struct fs=>
   obtain⟨E,J,W⟩:=VJ (P:=P) fs.toList (by simpa[sG,hu] using T);refine Z (E.toArray[·]?) (λi p E=>?_) λ_=>?_
   .simp only[LM];rw[W i];simp only[placeOf,hu] at E;rw[uT];cases hf:fs[i]? with
    |none=>simp[hf] at E
    |some x=>simpa[hf] using E
   .simp[Program.built,h1,hu,h2,J]
def US {op:Op} {io:dV} (ho:o.op=op) (he:EN op=true) (hl:O5 io=true) (hc:uA P op o.type=some io) (hE:kT G w.heap a e) (hk:cR P io e H G.c K):
  ∃v av,bJ G w.heap v av/\K av H G.c/\∀w',(execOp a.eval o).run P w'=.ok (.value v) w':=by
 have val:∀{s:Sem Value},(∀w',(execOp a.eval o).run P w'=(s.run P w').andThen λv w''=>.ok (.value v) w'')->zH P s G w.heap (λav=>K av H G.c)->
   ∃v av,bJ G w.heap v av/\K av H G.c/\∀w',(execOp a.eval o).run P w'=.ok (.value v) w':=λhs ⟨v,av,h1,h2,h3⟩=>⟨v,av,h1,h2,λw'=>by rw[hs,h3];rfl⟩
 cases op<;>simp only[EN,jF] at he<;>simp only[uA,gX,dK,eH] at hc
 case move x=>
  obtain⟨u,hu,rfl⟩:=hc;exact⟨_,_,eJ hE hu,hk,λw'=>by unfold execOp;simp only[ho];rfl⟩
 case assign x=>
  obtain⟨u,hu,rfl⟩:=hc;exact⟨_,_,eJ hE hu,hk,λw'=>by unfold execOp;simp only[ho];rfl⟩
 case build t ps=>
  obtain⟨z,hz,hc⟩:=hc;split at hc
  .simp only[dK,eH] at hc;obtain⟨qs,hqs,rfl⟩:=hc;have hk':pD z (qs.map λ((o,n,x):Nat×Nat×cW)=>(o,n,ev e x)) (λl=>K (.agg l) H G.c):=hk;refine val (s:=Instr.build t (ps.map λ(i,x)=>(i,a.eval x))) (λw'=>by unfold execOp;simp only[ho,cP,dC]) (build_yld (K:=λav=>K av H G.c) hz (by assumption) ?_ hk');rw[Array.toList_map];exact Z0 hE ps.toList qs hqs
  .cases hc
 case nilCheck x=>
  obtain⟨u,hu,rfl⟩:=hc;simp only[cR] at hk;have rx:=eJ hE hu;generalize ev e u=au at hk rx;generalize hv:a.eval x=v at rx;have key:∀w',(execOp a.eval o).run P w'=.ok (.value v) w':=λw'=>by
   unfold execOp;simp only[ho,hv];cases rx<;>simp only[vE] at hk<;>first
    |exact hk.elim
    |rfl
  have hk':K au H G.c:=by cases rx<;>simp only[vE] at hk<;>first|exact hk.elim|exact hk
  exact⟨_,_,rx,hk',key⟩
 case fieldAddr t x f=>
  obtain⟨⟨off,ft⟩,hf,u,hu,rfl⟩:=hc;exact val (s:=Instr.fieldAt t (a.eval x) f) (λw'=>by unfold execOp;simp only[ho,cP,dC]) (faddr_yld hf (eJ hE hu) hk)
 case indexAddr t x i=>
  obtain⟨⟨el,j⟩,hs,u,hu,v,hv,rfl⟩:=hc;exact val (s:=Instr.indexAt t (a.eval x) (a.eval i)) (λw'=>by unfold execOp;simp only[ho,cP,dC]) (iaddr_yld hs (eJ hE hu) (eJ hE hv) hk)
 case extract x k=>
  obtain⟨u,hu,rfl⟩:=hc;simp only[cR] at hk;have r:=eJ hE hu;generalize hev:ev e u=au at hk r;generalize hav:a.eval x=vx at r;cases r<;>simp only[y9] at hk
  case aX cs vs hs' hr'=>
   obtain⟨b,hb,k'⟩:=hk;have hl:k<cs.size:=by rw[hs'];exact(bQ.1 hb).1
   exact⟨cs.getD k undef,b,hr' _ _ hb,k',λw=>by unfold execOp;simp only[ho,hav,cP,dC];unfold Instr.extract;simp only[nW hl,dC,dL]⟩
  all_goals exact hk.elim
 case call c=>
  obtain⟨callee,args,argTypes⟩:=c;dsimp only at he;split at he
  .unfold B2 at hc;dsimp only at hc;split at hc
   .rename_i x t hx ht;simp only[gX,dK] at hc;obtain⟨u,hu,hc⟩:=hc;have e1:args=#[x]:=by rw[<-yC,hx]
    have e2:argTypes=#[t]:=by rw[<-yC,ht]
    subst e1;subst e2;refine val (s:=Builtin.len_ #[t] o.type #[a.eval x]) (λw'=>?_) ?_
    .unfold execOp;simp only[ho,resolve,cP,dC,dL,invoke,builtin,List.map_toArray,gJ,xY]
    .unfold B1 at hc;split at hc
     .cases hc;exact lenStr_yld (by assumption) (eJ hE hu) hk
     .split at hc
      .cases hc;exact lenSlc_yld (by assumption) (eJ hE hu) hk
      .split at hc<;>cases hc;cases hl
   .cases hc
  .cases he
end
section
variable {P:Program} {H:aC} {c:Nat} {e e':Env}
def dV.all:dV->aF cW
 |.box _ x|.AL x|.BF _ x=>[x]
 |.build _ E=>E.map (·.2.2)
 |.zE _ _ _ E=>E.map (·.2)
 |.store _ a x=>[a,x]
 |.DQ _ _ _ l x=>[l,x]
 |.slice3 _ x h m=>[x,h,m]
 |.IL _ m k v=>[m,k,v]
 |.append _ _ x y=>[x,y]
 |.call _ l=>l
 |.J2 x l=>x::l
 |.vP _ x y=>[x,y]
 |op=>op.dZ
def UU (op:dV) (h:∀x,x∈op.all->ev e x=ev e' x) (K:aD):cR P op e H c K=cR P op e' H c K:=by
 cases op
 case build z ps=>
  have:(ps.map λ((o,n,x):Nat×Nat×cW)=>(o,n,ev e x))=ps.map λ(o,n,x)=>(o,n,ev e' x):=List.map_congr_left λp E=>by
   have:=h p.2.2 (List.mem_map_of_mem (f:=(·.2.2)) E);show(p.1,p.2.1,ev e p.2.2)=(p.1,p.2.1,ev e' p.2.2)
   rw[this]
  show pD z (ps.map λ((o,n,x):Nat×Nat×cW)=>(o,n,ev e x)) _ = pD z (ps.map λ((o,n,x):Nat×Nat×cW)=>(o,n,ev e' x)) _;rw[this]
 case zE w z n ps=>
  have:(ps.map λ((i,x):Nat×cW)=>(i,ev e x))=ps.map λ(i,x)=>(i,ev e' x):=List.map_congr_left λp E=>by
   have:=h p.2 (List.mem_map_of_mem (f:=(·.2)) E);show(p.1,ev e p.2)=(p.1,ev e' p.2)
   rw[this]
  show zD w z n (ps.map λ((i,x):Nat×cW)=>(i,ev e x)) H c K=zD w z n (ps.map λ((i,x):Nat×cW)=>(i,ev e' x)) H c K;rw[this]
 case call f l=>simp only[cR];rw[BB (l:=l) h]
 case J2 x l=>simp only[cR];rw[h x (kB ..),BB (l:=l) λy E=>h y (iI _ E)]
 case uE f l=>simp only[cR];rw[BB (l:=l) h]
 case wT f l=>simp only[cR];rw[BB (l:=l) h]
 all_goals simp only[dV.all,dV.dZ,fK,nQ,or_false,dI,forall_eq_or_imp,forall_eq] at h
 all_goals simp only[cR]
 all_goals first
  |rw[h]
  |(obtain⟨J,E⟩:=h;rw[J,E];done)
  |(obtain⟨J,E,T⟩:=h;rw[J,E,T];done)
  |(obtain⟨J,E⟩:=h;rw[J,HX λx J=>E x (.inl J),HX λx J=>E x (.inr J)])
def build_tmp {P} {t} {ty:TypeId}:∀(l:aF (Nat×Operand)) (J:aF (Nat×Nat×cW)),l.mapM (λ(p:Nat×Operand)=>do let (o,n)<-placeOf P ty p.1;some (o,n,<-eE p.2))=some J->
  cW.t t∈J.map (·.2.2)->Operand.tmp t∈l.map (·.2):=by
 intro l
 induction l with
 |nil=>intro J h E;simp at h;subst h;simp at E
 |cons p l W=>
  intro J h E;simp only[oQ,gX,dK,uO,eH] at h;obtain⟨q,⟨⟨o,n⟩,J,y,Z,rfl⟩,T,J,rfl⟩:=h;simp only[gJ,fK] at E ⊢;rcases E with E|E
  .subst E;exact .inl (gT Z).symm
  .exact .inr (W T J E)
def bslice_tmp {t}:∀(l:aF (Nat×Operand)) (J:aF (Nat×cW)),l.mapM (λ(p:Nat×Operand)=>do some (p.1,<-eE p.2))=some J->cW.t t∈J.map (·.2)->Operand.tmp t∈l.map (·.2):=by
 intro l
 induction l with
 |nil=>intro J h E;simp at h;subst h;simp at E
 |cons p l W=>
  intro J h E;simp only[oQ,gX,dK,uO,eH] at h;obtain⟨q,⟨y,Z,rfl⟩,T,J,rfl⟩:=h;simp only[gJ,fK] at E ⊢;rcases E with E|E
  .subst E;exact .inl (gT Z).symm
  .exact .inr (W T J E)
def JW {op:Op} {ty:TypeId} {J:dV} (E:uA P op ty=some J) {t} (T:cW.t t∈J.all):Operand.tmp t∈op.operands.toList:=by
 cases hp:gQ J with
 |some W=>
  have:cW.t t∈W.dZ:=by
   cases J<;>simp only[gQ] at hp<;>first
    |(cases hp;done)
    |(cases hp;exact T)
  exact PL E hp this
 |none=>
  cases op<;>simp only[uA,gX,dK,eH] at E
  case box Z x=>obtain⟨_,_,u,J,rfl⟩:=E;simp[dV.all] at T;subst T;simp[Op.operands,gT J]
  case alloc=>obtain⟨_,_,rfl⟩:=E;simp[dV.all,dV.dZ] at T
  case build ty' ps=>
   obtain⟨z,hz,E⟩:=E;split at E
   .simp only[dK,eH] at E;obtain⟨qs,W,rfl⟩:=E;have:=build_tmp ps.toList qs W T;simpa[Op.operands] using this
   .cases E
  case buildSlice ty' n ps=>
   obtain⟨⟨el,i⟩,hs,z,hz,E⟩:=E;split at E
   .simp only[dK,eH] at E;obtain⟨qs,W,rfl⟩:=E;have:=bslice_tmp ps.toList qs W T;simpa[Op.operands] using this
   .cases E
  case store ty' a x=>
   obtain⟨_,_,u,J,v,W,rfl⟩:=E;simp[dV.all] at T;rcases T with rfl|rfl
   .simp[Op.operands,gT J]
   .simp[Op.operands,gT W]
  case makeMap Z r=>cases r<;>cases E;simp[dV.all,dV.dZ] at T
  case makeSlice ty' l x=>
   obtain⟨⟨el,i⟩,hs,z,hz,u,J,v,W,rfl⟩:=E;simp[dV.all] at T;rcases T with rfl|rfl
   .simp[Op.operands,gT J]
   .simp[Op.operands,gT W]
  case mapUpdate ty' m k x=>
   split at E
   .simp only[dK,eH] at E;obtain⟨d,hd,u,J,v,W,z,hz,rfl⟩:=E;simp[dV.all] at T;rcases T with rfl|rfl|rfl
    .simp[Op.operands,gT J]
    .simp[Op.operands,gT W]
    .simp[Op.operands,gT hz]
   .cases E
  case binOp op' Z x y yt=>
   obtain⟨u,J,v,W,E⟩:=E;have:cW.t t=u:=by
    unfold EV at E;split at E
    .cases E;cases hp
    .split at E
     .cases E;cases hp
     .split at E
      .split at E<;>cases E<;>cases hp
      .split at E
       .split at E<;>cases E<;>simpa[dV.all] using T
       .split at E
        .split at E<;>cases E<;>cases hp
        .cases E
   subst this;simp[Op.operands,gT J]
  case convert s d x=>
   obtain⟨u,J,E⟩:=E;have:cW.t t=u:=by
    unfold EU at E;split at E
    .cases E;cases hp
    .split at E<;>cases E;cases hp
    .split at E<;>cases E;simpa[dV.all] using T
    .cases E
   subst this;simp[Op.operands,gT J]
  case call cl=>
   obtain⟨callee,args,argTypes⟩:=cl;unfold B2 at E;dsimp only at E;split at E
   .split at E
    .rename_i x Z hx ht';simp only[gX,dK] at E;obtain⟨u,J,E⟩:=E;unfold B1 at E;split at E
     .cases E;cases hp
     .split at E
      .cases E;cases hp
      .split at E<;>cases E;cases hp
    .cases E
   .split at E
    .rename_i x y Z u' hx ht';simp only[gX,dK] at E;obtain⟨⟨el,i⟩,hs,z,hz,E⟩:=E;split at E
     .simp only[dK,eH] at E;obtain⟨u1,hu1,u2,hu2,rfl⟩:=E;have e1:args=#[x,y]:=by rw[<-yC,hx]
      subst e1;simp[dV.all] at T;rcases T with rfl|rfl
      .simp[Op.operands,Call.operands,gT hu1]
      .simp[Op.operands,Call.operands,gT hu2]
     .cases E
    .cases E
   .rename_i f;simp only[gX,dK] at E;obtain⟨as0,has,E⟩:=E;split at E<;>cases E;cases hp
   .rename_i Z;simp only[gX,dK,eH] at E;obtain⟨as0,has,rfl⟩:=E;simp only[dV.all,fK,cW.t.injEq] at T;rcases T with rfl|T
    .simp[Op.operands,Call.operands]
    .have:=NG args.toList as0 has T;simp[Op.operands,Call.operands] at this ⊢;exact .inr this
   .cases E
  case move=>obtain⟨u,J,rfl⟩:=E;cases hp
  case assign=>obtain⟨u,J,rfl⟩:=E;cases hp
  case pick=>obtain⟨u,J,v,W,z,hz,rfl⟩:=E;cases hp
  case load=>obtain⟨_,_,u,J,rfl⟩:=E;cases hp
  case nilCheck=>obtain⟨u,J,rfl⟩:=E;cases hp
  case unOp=>obtain⟨u,J,rfl⟩:=E;cases hp
  case extract=>obtain⟨u,J,rfl⟩:=E;cases hp
  case fieldAddr=>obtain⟨_,_,u,J,rfl⟩:=E;cases hp
  case field=>obtain⟨_,_,_,_,u,J,rfl⟩:=E;cases hp
  case indexAddr=>obtain⟨_,_,u,J,v,W,rfl⟩:=E;cases hp
  case makeFunc fn first caps=>
   cases fn<;>simp only at E<;>first
    |(cases E;done)
    |skip
   split at E
   .simp only[dK,eH] at E;obtain⟨us,hus,rfl⟩:=E;cases hp
   .cases E
  case slice Z x lo hi m=>
   cases m with
   |some m=>
    cases lo with
    |some lo=>cases hi<;>cases E
    |none=>
     cases hi with
     |none=>cases E
     |some hi=>
      simp only[dK,eH] at E;obtain⟨_,_,u,J,l,hl,h,hh,rfl⟩:=E;simp[dV.all] at T;rcases T with rfl|rfl|rfl
      .simp[Op.operands,gT J]
      .simp[Op.operands,gT hl]
      .simp[Op.operands,gT hh]
   |none=>
    simp only at E;split at E
    .simp only[dK,eH] at E;obtain⟨u,J,l,hl,h,hh,rfl⟩:=E;cases hp
    .simp only[dK,eH] at E;obtain⟨_,_,u,J,l,hl,h,hh,rfl⟩:=E;cases hp
  case index Z x i=>
   split at E
   .simp only[dK,eH] at E;obtain⟨u,J,v,W,rfl⟩:=E;cases hp
   .cases E
  case lookup Z m k ok=>
   split at E
   .simp only[dK,eH] at E;obtain⟨_,_,_,_,u,J,v,W,rfl⟩:=E;cases hp
   .cases E
  all_goals cases E
def JD {α:Type} {l M:aF α} {i:Nat} {K:α->Prop} (h:aZ l i K):aZ (l++M) i K:=by obtain⟨x,E,k⟩:=h;exact⟨x,by rw[gY (bQ.1 E).1];exact E,k⟩
def load_app {E:Option Nat} {x:AV} {M:aC} {K:AV->Prop} (h:lI E x H K):lI E x (H++M) K:=by
 cases x<;>simp only[lI] at h ⊢<;>first
  |exact h
  |exact JD h
def lenM_app {x:AV} {M:aC} {K:AV->Prop} (h:yU x H K):yU x (H++M) K:=by
 cases x<;>simp only[yU] at h ⊢<;>first
  |exact h
  |exact JD h
def lookup_app {d:TypeDesc} {z:AV} {ok:Bool} {m k:AV} {M:aC} {K:AV->Prop} (h:rG d z ok m k H K):rG d z ok m k (H++M) K:=by
 cases m<;>simp only[rG] at h ⊢<;>first
  |exact h
  |exact⟨h.1,JD h.2⟩
def src_app {w:Nat} {y:AV} {M:aC} {K:aF (aF AV)->Prop} (h:mW w y H K):mW w y (H++M) K:=by
 cases y<;>simp only[mW] at h ⊢<;>first
  |exact h
  |exact⟨h.1,JD h.2⟩
def toStr_app {x} {M} {K:AV->Prop} (h:sC x H K):sC x (H++M) K:=by
 cases x<;>simp only[sC] at h ⊢<;>first
  |exact h
  |exact src_app h
def gives_rel {op E} (T:gQ op=some E) (Z:j8 E=false) {v} (g:rT P E e H v) {W} (J:NL E=true->∃M,W=H++M):rT P E e W v:=by
 intro E;have g:=g E;cases op<;>simp only[gQ] at T<;>first
  |(cases T;done)
  |skip
 all_goals cases T
 all_goals first
  |(cases Z;done)
  |skip
 case load=>
  obtain⟨M,rfl⟩:=J rfl;simp only[cR] at g ⊢;exact load_app g
 case lookup=>
  obtain⟨M,rfl⟩:=J rfl;simp only[cR] at g ⊢;exact lookup_app g
 case tR=>
  obtain⟨M,rfl⟩:=J rfl;simp only[cR] at g ⊢;exact lenM_app g
 case toStr=>
  obtain⟨M,rfl⟩:=J rfl;simp only[cR] at g ⊢;exact toStr_app g
 all_goals first
  |(simp only[cR] at g ⊢;exact g)
  |(simp only[cR] at g ⊢;exact⟨g.1,rfl,g.2.2⟩)
def kF {op} {W:(AV->Prop)->Prop} (d:gN W) (T:∀c (K:aD),cR P op e H c K=W λv=>K v H c) {K:aD} (E:cR P op e H c K):
  cR P op e H c λv J W=>K v J W/\∃M,J=H++M:=by rw[T] at E ⊢;obtain⟨v,h⟩:=d _ E;exact(h _).2 ⟨(h _).1 E,[],by simp⟩
def PT {x} {K E:aF AV->Prop} (h:lL x K) (k:∀l,K l->E l):lL x E:=by
 cases x<;>simp only[lL] at h ⊢<;>first
  |exact k _ h
  |exact h
def getW_mono {α:Type} {l:aF α} {i:Nat} {K E:α->Prop} (h:aZ l i K) (k:∀x,K x->E x):aZ l i E:=let ⟨x,E,h⟩:=h;⟨x,E,k x h⟩
def fill_mono:∀(E:aF (Nat×Nat×AV)) (z:aF AV) {K J:aF AV->Prop},pD z E K->(∀l,K l->J l)->pD z E J:=by
 intro E
 induction E with
 |nil=>intro z K J h k;exact k _ h
 |cons p E E=>
  intro z K J h k;obtain⟨o,n,v⟩:=p;exact PT h λl ⟨W,T,J⟩=>⟨W,T,E _ J k⟩
def rowsFill_mono:∀(E:aF (Nat×AV)) (z:aF (aF AV)) {K J:aF (aF AV)->Prop},uZ z E K->(∀l,K l->J l)->uZ z E J:=by
 intro E
 induction E with
 |nil=>intro z K J h k;exact k _ h
 |cons p E E=>
  intro z K J h k;obtain⟨i,v⟩:=p;exact PT h λl h=>getW_mono h λaM ⟨T,J⟩=>⟨T,E _ J k⟩
def opW_grow {op} (T:JB op=true) {K:aD} (E:cR P op e H c K):cR P op e H c λv J W=>K v J W/\∃M,J=H++M:=by
 cases op<;>simp only[JB,gQ,QX,Option.isSome_some,jF] at T
 case new w z=>exact⟨E,_,rfl⟩
 case box w x=>exact PT E λl h=>⟨h,_,rfl⟩
 case build z ps=>exact fill_mono _ _ E λl h=>⟨h,[],by simp⟩
 case zE w z n ps=>exact rowsFill_mono _ _ E λl h=>⟨h,_,rfl⟩
 case DQ w z b l x=>
  simp only[cR] at E ⊢;generalize ev e l=u at E ⊢;generalize ev e x=y at E ⊢;cases u<;>cases y<;>simp only[IN] at E ⊢;obtain⟨h1,Z,W,T,J⟩:=E;exact⟨h1,Z,W,T,J,_,rfl⟩
 case DR=>exact⟨E,_,rfl⟩
 case AL x=>
  simp only[cR] at E ⊢;generalize ev e x=y at E ⊢;cases y<;>simp only[AK] at E ⊢;exact⟨E,_,rfl⟩
 case BF neg x=>
  simp only[cR] at E ⊢;generalize ev e x=y at E ⊢;cases y<;>simp only[I4] at E ⊢
  case dX t w J=>
   cases J with
   |nil=>exact⟨⟨E.1,[],by simp⟩,E.2,[],by simp⟩
   |cons r J=>exact⟨E,[],by simp⟩
  all_goals exact⟨E,[],by simp⟩
 case mv=>exact kF (jR _) (λ_ _=>rfl) E
 case pick=>exact kF (YU _ _ _) (λ_ _=>rfl) E
 case load=>exact kF (JP _ _) (λ_ _=>rfl) E
 case rH=>exact kF (YY _ _) (λ_ _=>rfl) E
 case tN=>exact kF (YW _) (λ_ _=>rfl) E
 case vI=>exact kF (Y2 _ _) (λ_ _=>rfl) E
 case bin=>exact kF (ZA _ _ _) (λ_ _=>rfl) E
 case xQ=>exact kF (Y9 _ _ _) (λ_ _=>rfl) E
 case beq=>exact kF (ZB _ _ _ _) (λ_ _=>rfl) E
 case un=>exact kF (YP _ _) (λ_ _=>rfl) E
 case toInt=>exact kF (YR _ _) (λ_ _=>rfl) E
 case toStr=>exact kF (YQ _) (λ_ _=>rfl) E
 case wT=>exact kF (jR _) (λ_ _=>rfl) E
 case wK=>exact kF (YS _ _ _) (λ_ _=>rfl) E
 case slice=>exact kF (YT _ _ _ _) (λ_ _=>rfl) E
 case tY=>exact kF (Y7 _ _) (λ_ _=>rfl) E
 case field=>exact kF (Y6 _ _ _) (λ_ _=>rfl) E
 case tU=>exact kF (Y4 _ _ _) (λ_ _=>rfl) E
 case index=>exact kF (Y3 _ _) (λ_ _=>rfl) E
 case lookup=>exact kF (YX _ _ _ _ _) (λ_ _=>rfl) E
 case wY=>exact kF (YZ _) (λ_ _=>rfl) E
 case wZ=>exact kF (Y1 _) (λ_ _=>rfl) E
 case tR=>exact kF (Y0 _) (λ_ _=>rfl) E
 case extract=>exact kF (Y8 _ _) (λ_ _=>rfl) E
def isNop_eq {o} (h:vJ o=true):o=kZ:=by
 unfold vJ at h;split at h
 .rfl
 .cases h
def UQ l (e:Env) H c (K:Env->aC->Nat->Prop):eU P (kZ::l) e H c K=eU P l e H c K:=rfl
def opsW_filter:∀(l:aF b7),eU P (l.filter λo=>!vJ o)=eU P l:=by
 intro l
 induction l with
 |nil=>rfl
 |cons o l E=>
  cases hn:vJ o with
  |true=>
   have:((o::l).filter λo=>!vJ o)=l.filter λo=>!vJ o:=by simp[hn]
   rw[this,E,isNop_eq hn];funext e H c K;exact(UQ l e H c K).symm
  |false=>
   have:((o::l).filter λo=>!vJ o)=o::l.filter λo=>!vJ o:=by simp[hn]
   rw[this];funext e H c K;simp only[eU,E]
def UR:∀(l E:aF b7) (e:Env) (H:aC) (c:Nat) (K:Env->aC->Nat->Prop),eU P (l++E) e H c K=eU P l e H c λe H c=>eU P E e H c K:=by
 intro l
 induction l with
 |nil=>intro E e H c K;rfl
 |cons o l J=>
  intro E e H c K;simp only[zX,eU,J]
def clos_length (E:Array Oper):∀n,(b9 E n).length=n:=by
 intro n
 induction n with
 |zero=>rfl
 |succ n E=>simp[b9,E]
def ZM {E:Array Oper} {L:Nat->Prop} (Z:∀(j:Nat) (o:Oper),E[j]?=some o->L j->∀k,k∈hZ o->L k):∀n i j,j∈(b9 E n).getD i []->L i->L j:=by
 intro n
 induction n with
 |zero=>intro i j h;simp[b9] at h
 |succ n T=>
  intro i j h W;unfold b9 at h;rw[LN,yA] at h;split at h
  .exact T i j (by rw[LN];exact h) W
  .rename_i J;rw[clos_length] at J h;by_cases J:i=n
   .subst J;simp only[QY,List.getElem?_cons_zero,Option.getD_some] at h;cases ho:E[i]? with
    |none=>rw[ho] at h;simp at h
    |some o=>
     rw[ho] at h;simp only[List.mem_eraseDups,LJ,fK] at h;obtain⟨q,J,h⟩:=h;have E:=Z i o ho W q J;rcases h with rfl|h
     .exact E
     .exact T q j h E
   .have:i-n≠0:=by omega
    rw[CR (by simp;omega)] at h;simp at h
def A7 {fl:Nat->Bool} {E:Array Oper} {m:aF b7} {cl:aF (aF Nat)} {bl:aF Bool} (h:A8 fl E m cl bl=true) {i k:Nat} {o} {J:b7} (W:E[i]?=some o) (T:m[i]?=some J) (Z:k<E.size):
  (bl.getD i false=false->(gQ J.op).isSome=true/\∀j,j∈hZ o->bl.getD j false=false)/\
  (i≠k->bl.getD k false=true->(bl.getD i false=true->i<k->i∈cl.getD k []\/fl i=true)/\
   (bl.getD i false=false->(j8 (vU (rN E m cl bl) m cl bl i J.op)=true->i∈cl.getD k [])/\(NL (vU (rN E m cl bl) m cl bl i J.op)=true->i∈cl.getD k []\/vM m k=true\/rN E m cl bl i=true))):=by
 have E:=(lF.1 W).1;unfold A8 at h;have J:=kM.1 h i (mJ.2 E);rw[W,T] at J;simp only[eY] at J;obtain⟨J,E⟩:=J;have E:=kM.1 E k (mJ.2 Z);refine⟨λT=>?_,λW Z=>⟨λT hlt=>?_,λT=>⟨λhc=>?_,λhn=>?_⟩⟩⟩
 .rw[T] at J;simp only[LW,eY,kM,z6] at J;exact J
 all_goals
  have J:(i==k)=false:=by simpa using W
  rw[J,Z,T] at E;simp only[GH,Bool.or_false,LW,if_true,jF,if_false,CT,eY,z6,decide_eq_true_eq,LP] at E
 .exact E.imp (λh=>h.resolve_left (by omega)) id
 .exact E.1.resolve_left (by rw[hc];simp)
 .rcases E.2 with((E|E)|E)|E
  .rw[hn] at E;cases E
  .exact .inl E
  .exact .inr (.inl E)
  .exact .inr (.inr E)
def aaT {q:Nat->Bool} {m} {cl} {bl} {i} {op} (h:(gQ op).isSome=true):
  (gQ op=some (vU q m cl bl i op))\/∃E x,op=.load E x/\vU q m cl bl i op=.rH E x:=by
 cases op<;>simp only[gQ,QX,Option.isSome_some,jF] at h
 case load E x=>
  by_cases J:(MY m cl bl i||q i)=true
  .exact .inl (by show some (dV.load E x)=some (if _ then _ else _);rw[if_pos J])
  .exact .inr ⟨E,x,rfl,by show(if _ then _ else _) = _;rw[if_neg J]⟩
 all_goals exact .inl rfl
def loadC_load {E} {x} {K:AV->Prop} (h:IV E x K):lI E x H K:=by
 cases x<;>simp only[IV,lI] at h ⊢<;>first
  |exact h
  |exact h.elim
def aOp_opW {op p} (h:(gQ op=some p)\/∃E x,op=.load E x/\p=.rH E x) {K:aD} (J:cR P p e H c K):cR P op e H c K:=by
 rcases h with h|⟨E,x,rfl,rfl⟩
 .exact M8 h J
 .exact loadC_load J
def aaS {op p} (h:(gQ op=some p)\/∃E x,op=.load E x/\p=.rH E x):∃q,gQ q=some p:=by
 rcases h with h|⟨E,x,rfl,rfl⟩
 .exact⟨op,h⟩
 .exact⟨.rH E x,rfl⟩
def aOp_uses {op p:dV} (h:(gQ op=some p)\/∃E x,op=.load E x/\p=.rH E x) {u} (J:u∈p.dZ):u∈op.all:=by
 rcases h with h|⟨E,x,rfl,rfl⟩
 .cases op<;>simp only[gQ] at h<;>first
   |(cases h;done)
   |(cases h;exact J)
 .exact J
section
variable {G0:Gh} {H0:aC} {w0:World} {n:Nat}
def lH (C:Nat->aF b7) (n k:Nat):aF b7:=(List.range' k (n-k)).flatMap C
def TO {C:Nat->aF b7} {n k} (h:k<n):lH C n k=C k++lH C n (k+1):=by unfold lH;rw[show n-k=(n-(k+1))+1 by omega,List.range'_succ,CS]
def restB_end {C:Nat->aF b7} {n k} (h:n<=k):lH C n k=[]:=by unfold lH;rw[show n-k=0 by omega];rfl
def Stab (l:aF b7) (e:Env) (H:aC):Prop:=∀(E:Option Nat) (t d:Nat),(⟨none,.vP E (.t t) (.t d),none⟩:b7)∈l->lI E (e t) H λv=>v=e d
def chk_run:∀(l:aF b7),(∀o,o∈l->∃E t d,o=⟨none,.vP E (.t t) (.t d),none⟩)->∀(e:Env) (H:aC) (c:Nat) (K:Env->aC->Nat->Prop),eU P l e H c K->Stab l e H/\K e H c:=by
 intro l
 induction l with
 |nil=>intro _ e H c K h;exact⟨λE t d h=>(by cases h),h⟩
 |cons o l ih=>
  intro J e H c K h;obtain⟨E,t,d,rfl⟩:=J o (kB ..);have W:lI E (e t) H λv=>v=e d/\eU P l e H c K:=h;obtain⟨v,T⟩:=JP E (e t) _ W;obtain⟨h1,h2⟩:=(T _).1 W;obtain⟨q1,Z⟩:=ih (λo E=>J o (iI _ E)) e H c K h2;refine⟨λJ W d' E=>?_,Z⟩;rcases fK.1 E with E|E
  .cases E;exact(T _).2 h1
  .exact q1 J W d' E
def ckList_form {E} {m} {cl} {bl} {k}:∀o,o∈lD E m cl bl k->∃J t d,o=⟨none,.vP J (.t t) (.t d),none⟩:=λo T=>by
 unfold lD at T;obtain⟨i,_,E⟩:=zU.1 T;split at E
 .cases E
 .obtain⟨⟨J,t,d⟩,_,rfl⟩:=iH.1 E;exact⟨J,t,d,rfl⟩
def ckd_spec {E:Array Oper} {m:aF b7} {cl} {bl} {i:Nat} {o} {J} (ho:E[i]?=some o) (Z:m[i]?=some J) (h:rN E m cl bl i=true):
  ∃W t d,EX E m cl bl i=some (W,t,d)/\J=⟨some d,.load W (.t t),none⟩/\((∃j J,j∈hZ o/\m[j]?=some J/\J.dst=some t)\/∀(j:Nat) (J:b7),m[j]?=some J->J.dst≠some t):=by
 unfold rN at h;obtain⟨⟨W,t,d⟩,T⟩:=LD.1 h;refine⟨W,t,d,T,?_⟩;unfold EX at T;rw[ho,Z] at T;split at T
 .cases T
 .split at T
  .rename_i E E E E W E;cases W;cases E;split at T
   .rename_i E;cases T;refine⟨rfl,?_⟩;rw[CT] at E;rcases E with E|E
    .obtain⟨j,Z,W⟩:=List.any_eq_true.1 E;split at W
     .rename_i y e3;exact .inl ⟨j,_,Z,e3,by simpa using W⟩
     .cases W
    .refine .inr λj J Z W=>?_;have:(m.any λy=>y.dst==some t)=true:=List.any_eq_true.2 ⟨J,bA Z,by rw[W];simp⟩;rw[this] at E;cases E
   .cases T
  .cases T
def ckList_mem {E} {m:aF b7} {cl:aF (aF Nat)} {bl} {i k} {J} {t d} (W:i<m.length) (h:EX E m cl bl i=some (J,t,d)) (T:i∉cl.getD k []):(⟨none,.vP J (.t t) (.t d),none⟩:b7)∈lD E m cl bl k:=by unfold lD;refine zU.2 ⟨i,mJ.2 W,?_⟩;rw[if_neg (by simpa using T),h];rfl
def PG {E:Array Bool} {n i bH} (J:E.size=n) (his:i<n) (hnl:E.getD i false=false) (J:(List.range n).countP (λj=>!E.getD j false)<=bH+1):
  (List.range n).countP (λj=>!(E.setIfInBounds i true).getD j false)<=bH:=by
 have T:i<E.size:=by omega
 have Z:∀(l:aF Nat),i∈l->l.countP (λj=>!(E.setIfInBounds i true).getD j false)<l.countP (λj=>!E.getD j false):=by
  have J:∀(l:aF Nat),l.countP (λj=>!(E.setIfInBounds i true).getD j false)<=l.countP (λj=>!E.getD j false):=λl=>
   RA λj _ h=>by
    cases W:E.getD j false with
    |false=>rfl
    |true=>rw[getD_set_true W] at h;cases h
  intro l W
  induction l with
  |nil=>cases W
  |cons x l ihl=>
   simp only[RD];by_cases hx:x=i
   .subst hx;have:=J l;have J:(E.setIfInBounds x true).getD x false=true:=by simp[T]
    rw[J,hnl];simp only[GH,jF,if_false,CU,if_true];omega
   .have E:=ihl ((fK.1 W).resolve_left (Ne.symm hx));rw[getD_set_ne false (Ne.symm hx)];omega
 have:=Z _ (mJ.2 his);omega
structure CJ (P:Program) (ops:Array Oper) (mA:List b7) (C ck:Nat->List b7) (b:Nat->Bool) (m:List b7) (e eA:Env) (V:Nat->AV) (H:aC) (c:Nat) (Q:Env->aC->Nat->Prop) (listed:Array Bool) (e':Env) (H':aC) (c' k:Nat) (eB:Env):Prop where
 size:listed.size=ops.size
 closed:∀(j:Nat) (o:Oper),ops[j]?=some o->listed.getD j false=true->∀k,k∈hZ o->listed.getD k false=true
 pre:∀j,j<ops.size->b j=true->(listed.getD j false=true↔j<k)
 HE:k≠0->∃i,k=i+1/\i<ops.size/\b i=true
 yes:∀(j:Nat) (io:b7) (t:Nat),mA[j]?=some io->listed.getD j false=true->io.dst=some t->e' t=V j
 agree:∀t,(∀(j:Nat) (io:b7),mA[j]?=some io->io.dst≠some t)->e' t=eB t
 aB:∀(j:Nat) (io:b7) (t:Nat),mA[j]?=some io->io.dst=some t->eB t=V j
 no:∀t,(∀(j:Nat) (o:Oper),ops[j]?=some o->listed.getD j false=true->o.dst≠some t)->e' t=e t
 IE:k=0->H'=H/\eB=eA/\c<=c'/\(c'=c\/sZ mA e V)
 grown:(∀j,j<ops.size->b j=true->listed.getD j false=true->vM m j=true)->∃M,H'=H++M
 NJ:eU P (lH C ops.size k) eB H' c' Q
 st:∀i0,k=i0+1->Stab (ck i0) eB H'
def any_soundE (hH0:∀t,t∈aV H0->t<G0.c) {ops:Array Oper} {m:aF b7} (hlen:m.length=ops.size)
  (hm:∀(i:Nat) (x:Oper),ops[i]?=some x->∃io,m[i]?=some io/\j3 P n ops x=some io) (hd:rM ops=true) {bl:aF Bool} {fl:Nat->Bool} (hfl:∀i,fl i=true->JH ops m bl i=true)
  (hok:A8 fl ops m (b9 ops m.length) bl=true) {mA:aF b7} {C:Nat->aF b7} (hmA:mA=(List.range m.length).map (pR ops m (b9 ops m.length) bl)) (hC:C=A9 ops m (b9 ops m.length) bl) {V:Nat->AV} {Q:kU} (htk:(∃i,fl i=true)->Region.noSelect ops=true/\∀x e H c,¬Q (.panic x) e H c)
  (hV:∀i io,mA[i]?=some io->YV P H io (eD e mA V i) (V i)) (hK:∀c',(c'=c\/(sZ mA e V/\c<=c'))->eU P (lH C ops.size 0) (eD e mA V mA.length) H c' (Q .normal)):
  ∀(bH:Nat) (listed:Array Bool) (e':Env) (H':aC) (c' k:Nat) (eB:Env) (a:Act) (w:World),CJ P ops mA C (lD ops m (b9 ops m.length) bl) (λi=>bl.getD i false) m e (eD e mA V mA.length) V H c (Q .normal) listed e' H' c' k eB->
   (List.range ops.size).countP (λj=>!listed.getD j false)<=bH->St G0 H0 w0 n e' H' c' a w->wpAny P .any ops (gI G0 H0 w0 n Q) bH listed a w:=by
 have hAi:∀i,i<ops.size->mA[i]?=some (pR ops m (b9 ops m.length) bl i):=λi hi=>by
  rw[hmA,kL,List.getElem?_range (by omega)];rfl
 have hAlen:mA.length=ops.size:=by rw[hmA];simp[hlen]
 have dstA:∀(j:Nat) (y:b7) (t:Nat),mA[j]?=some y->y.dst=some t->∃o,ops[j]?=some o/\o.dst=some t/\bl.getD j false=false:=λj y t hy ht=>by
  have hj:j<ops.size:=by have:=(bQ.1 hy).1;omega
  rw[hAi j hj] at hy;cases hy;obtain⟨io,h1,h2⟩:=hm j ops[j] (fQ hj);unfold pR at ht;split at ht
  .cases ht
  .rename_i hb;rw[h1] at ht;exact⟨ops[j],fQ hj,(mF h2).2.2.1▸ht,by simpa using hb⟩
 have dstA':∀(j:Nat) (o:Oper) (t:Nat),ops[j]?=some o->o.dst=some t->bl.getD j false=false->∃y,mA[j]?=some y/\y.dst=some t:=λj o t ho ht hb=>by
  have hj:=(lF.1 ho).1;obtain⟨io,h1,h2⟩:=hm j o ho;refine⟨_,hAi j hj,?_⟩;unfold pR;rw[hb,h1];simp only[jF,if_false];rw[(mF h2).2.2.1];exact ht
 have uniqO:∀(i j:Nat) (x y:Oper) (d:Nat),ops[i]?=some x->ops[j]?=some y->x.dst=some d->y.dst=some d->i=j:=λi j x y d h1 h2 h3 h4=>(qM hd h1 h2).2.1 d h3 h4;have uniq:∀(i j:Nat) (x y:b7) (d:Nat),mA[i]?=some x->mA[j]?=some y->x.dst=some d->y.dst=some d->i=j:=λi j x y d h1 h2 h3 h4=>by
  obtain⟨p,q1,q2,_⟩:=dstA i x d h1 h3;obtain⟨r,s1,s2,_⟩:=dstA j y d h2 h4;exact uniqO i j p r d q1 s1 q2 s2
 have skipB:∀(d k:Nat) (eB:Env) (H':aC) (c':Nat),k+d<=ops.size->(∀j,k<=j->j<k+d->bl.getD j false=false)->eU P (lH C ops.size k) eB H' c' (Q .normal)->eU P (lH C ops.size (k+d)) eB H' c' (Q .normal):=λd=>by
  induction d with
  |zero=>intro k eB H' c' _ _ h;exact h
  |succ d ih=>
   intro k eB H' c' hle hb h;have e2:C k=[kZ]:=by rw[hC];unfold A9;rw[hb k (bB _) (by omega)];rfl
   rw[TO (by omega),e2,List.singleton_append,UQ] at h;have:=ih (k+1) eB H' c' (by omega) (λj h1 h2=>hb j (by omega) (by omega)) h
   rwa [show k+(d+1)=k+1+d by omega]
 have last:∀(listed:Array Bool) (e':Env) (H':aC) (c' k:Nat) (eB:Env) (a:Act) (w:World),CJ P ops mA C (lD ops m (b9 ops m.length) bl) (λi=>bl.getD i false) m e (eD e mA V mA.length) V H c (Q .normal) listed e' H' c' k eB->
   St G0 H0 w0 n e' H' c' a w->Region.ready .any ops listed=[]->gI G0 H0 w0 n Q .normal a w:=λlisted e' H' c' k eB a w M hs hr=>by
  have all:∀j,j<ops.size->listed.getD j false=true:=λj=>by
   induction j using Nat.strongRecOn with
   |_ j ih=>
    intro hj;cases hl:listed.getD j false with
    |true=>rfl
    |false=>
     have hjs:j<listed.size:=M.size▸hj;have:j∈Region.ready .any ops listed:=by
      rw[mem_ready];refine⟨by simpa[hjs] using hl,ops[j],fQ hj,λed hed hb=>?_⟩;have hmem:ed.on∈hZ ops[j]:=by
       unfold hZ;exact fZ.2 ⟨ed,r6.2 ⟨by simpa using hed,hb⟩,rfl⟩
      have hlt:=(qM hd (fQ hj) (fQ hj)).1 _ hmem;exact ih _ hlt (by omega)
     rw[hr] at this;cases this
  have he:e'=eB:=funext λt=>by
   by_cases hx:∃(j:Nat) (io:b7),mA[j]?=some io/\io.dst=some t
   .obtain⟨j,io,hj,hio⟩:=hx;have hl:=(bQ.1 hj).1;rw[M.yes j io t hj (all j (by omega)) hio,M.aB j io t hj hio]
   .exact M.agree t λj io hj hio=>hx ⟨j,io,hj,hio⟩
  have hks:k<=ops.size:=by
   by_cases hk:k=0
   .omega
   .obtain⟨i,h1,h2,_⟩:=M.HE hk;omega
  have:=skipB (ops.size-k) k eB H' c' (by omega) (λj h1 h2=>by
   cases hb:bl.getD j false with
   |false=>rfl
   |true=>
    have:=(M.pre j (by omega) hb).1 (all j (by omega));omega) M.NJ
  rw[restB_end (by omega)] at this;subst he;exact⟨_,H',c',this,hs⟩
 have guardAll:∀(i:Nat) (o:Oper) (io:b7),m[i]?=some io->j3 P n ops o=some io->∀g want,io.guard=some (g,want)->g∈o.looksAt ops:=λi o io hio hco g want hgw=>by
  obtain⟨c1,c2',c3,c4⟩:=mF hco;unfold xN at c2';unfold Oper.looksAt;cases hog:o.guard with
  |none=>rw[hog] at c2';simp only[eH] at c2';rw[<-c2'] at hgw;cases hgw
  |some p=>
   obtain⟨j,wt⟩:=p;rw[hog] at c2';simp only at c2';split at c2'
   .rename_i d hdj;simp only[eH] at c2';rw[<-c2'] at hgw;cases hgw;refine wC _ ?_;simp[hdj]
   .cases c2'
 have bmid:∀(listed:Array Bool) (e':Env) (H':aC) (c' k:Nat) (eB:Env),CJ P ops mA C (lD ops m (b9 ops m.length) bl) (λi=>bl.getD i false) m e (eD e mA V mA.length) V H c (Q .normal) listed e' H' c' k eB->∀(i:Nat) (o:Oper) (io:b7),ops[i]?=some o->m[i]?=some io->j3 P n ops o=some io->bl.getD i false=true->
   listed.getD i false=false->(∀k,k∈hZ o->listed.getD k false=true)->(∀j,j<i->bl.getD j false=true->listed.getD j false=true)->
   eU P (io::(lD ops m (b9 ops m.length) bl i++lH C ops.size (i+1))) eB H' c' (Q .normal)/\(∀t,t∈o.looksAt ops->e' t=eB t)/\
   ∀v H'' c'',eU P (lD ops m (b9 ops m.length) bl i++lH C ops.size (i+1)) (put eB o.dst v) H'' c'' (Q .normal)->(vM m i=true->∃M,H''=H'++M)->
    CJ P ops mA C (lD ops m (b9 ops m.length) bl) (λi=>bl.getD i false) m e (eD e mA V mA.length) V H c (Q .normal) (listed.setIfInBounds i true) (put e' o.dst v) H'' c'' (i+1) (put eB o.dst v):=λlisted e' H' c' k eB M i o io ho hio hco hb hnl hafter allB=>by
  have his:=(lF.1 ho).1;have hils:i<listed.size:=M.size▸his;have bP:∀j,j≠i->(listed.setIfInBounds i true).getD j false=listed.getD j false:=λj hne=>getD_set_ne false (Ne.symm hne);have closed':∀(j:Nat) (y:Oper),ops[j]?=some y->(listed.setIfInBounds i true).getD j false=true->∀k,k∈hZ y->(listed.setIfInBounds i true).getD k false=true:=λj y hj hl k hk=>by
   refine getD_set_true ?_;by_cases hji:j=i
   .subst hji;rw[ho] at hj;cases hj;exact hafter k hk
   .exact M.closed j y hj (by rw[bP j hji] at hl;exact hl) k hk
  have iin:(listed.setIfInBounds i true).getD i false=true:=by simp[hils]
  have hki:k<=i:=by
   rcases iA i k with h|h
   .rw[(M.pre i his hb).2 h] at hnl;cases hnl
   .exact h
  have hobl:=skipB (i-k) k eB H' c' (by omega) (λj g1 g2=>by
   cases hbj:bl.getD j false with
   |false=>rfl
   |true=>
    have:=(M.pre j (by omega) hbj).1 (allB j (by omega) hbj);omega) M.NJ
  rw[show k+(i-k)=i by omega] at hobl;have e2:C i=io::lD ops m (b9 ops m.length) bl i:=by
   rw[hC];unfold A9;rw[hb];simp[LN,hio]
  rw[TO his,e2,zX] at hobl;have agree:∀t,t∈o.looksAt ops->e' t=eB t:=λt ht=>by
   by_cases hx:∃(j:Nat) (y:b7),mA[j]?=some y/\y.dst=some t
   .obtain⟨j,y,hj,hy⟩:=hx;obtain⟨z,q1,q2,q3⟩:=dstA j y t hj hy;rcases(qM hd ho q1).2.2 t q2 ht with⟨k1,k2⟩|k1|⟨k1,k2⟩
    .rw[M.yes j y t hj (hafter j k2) hy,M.aB j y t hj hy]
    .rw[k1,hb] at q3;cases q3
    .obtain⟨ioj,r1,r2⟩:=hm j z q1;rw[((A7 hok q1 r1 his).1 q3).2 i k2] at hb;cases hb
   .exact M.agree t λj y hj hy=>hx ⟨j,y,hj,hy⟩
  have adst:∀(j:Nat) (y:b7) (t:Nat),mA[j]?=some y->y.dst=some t->o.dst≠some t:=λj y t hj hy hd'=>by
   obtain⟨z,q1,q2,q3⟩:=dstA j y t hj hy;rw[uniqO j i z o t q1 ho q2 hd',hb] at q3;cases q3
  have gE:∀(f:Env) (v:AV) (t:Nat),o.dst≠some t->put f o.dst v t=f t:=λf v t hn=>by
   cases hdd:o.dst with
   |none=>rfl
   |some d=>show aK f d v t=f t;exact kD _ _ _ λh=>hn (by rw[hdd,h])
  have mid:∀v H'' c'',eU P (lD ops m (b9 ops m.length) bl i++lH C ops.size (i+1)) (put eB o.dst v) H'' c'' (Q .normal)->(vM m i=true->∃M,H''=H'++M)->
    CJ P ops mA C (lD ops m (b9 ops m.length) bl) (λi=>bl.getD i false) m e (eD e mA V mA.length) V H c (Q .normal) (listed.setIfInBounds i true) (put e' o.dst v) H'' c'' (i+1) (put eB o.dst v):=λv H'' c'' hob hgr=>by
   rw[UR] at hob;obtain⟨hst,hob⟩:=chk_run _ ckList_form _ _ _ _ hob;refine⟨by simp[M.size],closed',λj hj hbj=>?_,λ_=>⟨i,rfl,his,hb⟩,λj y t hj hl hy=>?_,λt hn=>?_,λj y t hj hy=>?_,λt hn=>?_,λh=>absurd h (by omega),λhg=>?_,hob,λi0 h=>by(have:i0=i:=by omega);subst this;exact hst⟩
   .rcases Nat.lt_trichotomy j i with h|h|h
    .rw[bP j (by omega)];exact⟨λ_=>by omega,λ_=>allB j h hbj⟩
    .subst h;exact⟨λ_=>by omega,λ_=>iin⟩
    .rw[bP j (by omega)];exact⟨λhl=>by have:=(M.pre j hj hbj).1 hl;omega,λhl=>by omega⟩
   .rw[gE _ _ _ (adst j y t hj hy)];have hji:j≠i:=λh=>by
     obtain⟨z,q1,q2,q3⟩:=dstA j y t hj hy;rw[h,hb] at q3;cases q3
    rw[bP j hji] at hl;exact M.yes j y t hj hl hy
   .cases hdd:o.dst with
    |none=>exact M.agree t hn
    |some d=>
     show aK e' d v t=aK eB d v t;by_cases htd:t=d
     .subst htd;rw[sA,sA]
     .rw[kD _ _ _ htd,kD _ _ _ htd];exact M.agree t hn
   .rw[gE _ _ _ (adst j y t hj hy)];exact M.aB j y t hj hy
   .rw[gE _ _ _ (hn i o ho iin)];exact M.no t λj y hj hl=>hn j y hj (getD_set_true hl)
   .obtain⟨M1,hM1⟩:=M.grown λj hj hbj hl=>hg j hj hbj (getD_set_true hl);obtain⟨M2,hM2⟩:=hgr (hg i his hb iin);exact⟨M1++M2,by rw[hM2,hM1,zY]⟩
  exact⟨hobl,agree,mid⟩
 intro bH
 induction bH with
 |zero=>
  intro listed e' H' c' k eB a w M hc hs;have hr:Region.ready .any ops listed=[]:=by
   refine Q9.2 λj hj=>?_;rw[mem_ready] at hj;obtain⟨h0,o,ho,_⟩:=hj;have hjs:=(lF.1 ho).1;have hjs':j<listed.size:=M.size▸hjs;have:=RC.1 (Q2.1 hc) j (mJ.2 hjs);simp[hjs'] at h0 this;rw[h0] at this;cases this
  exact⟨hr,last listed e' H' c' k eB a w M hs hr⟩
 |succ bH ih=>
  intro listed e' H' c' k eB a w M hc hs;by_cases hnotake:∃p o io,ops[p]?=some o/\m[p]?=some io/\j3 P n ops o=some io/\bl.getD p false=true/\fl p=true/\listed.getD p false=false/\∀j,j<p->bl.getD j false=true->listed.getD j false=true
  .obtain⟨p,o,io,ho,hio,hco,hb,hflp,hnl,hall⟩:=hnotake;obtain⟨hsel,hP⟩:=htk ⟨p,hflp⟩;have hf:=hfl p hflp;unfold JH at hf;rw[ho,hio] at hf;simp only[eY] at hf;obtain⟨⟨⟨he2,he3⟩,hdep⟩,hfree⟩:=hf;have his:=(lF.1 ho).1;have hils:p<listed.size:=M.size▸his;have hafter:∀k,k∈hZ o->listed.getD k false=true:=λk hk=>by
    have:=kM.1 hdep k hk;simp only[eY,decide_eq_true_eq] at this;exact hall k this.1 this.2
   have hri:p∈Region.ready .any ops listed:=by
    rw[mem_ready];refine⟨by simpa[hils] using hnl,o,ho,λed hed hb=>hafter _ ?_⟩;unfold hZ;exact fZ.2 ⟨ed,r6.2 ⟨by simpa using hed,hb⟩,rfl⟩
   have hfreeR:Region.free .any ops listed p=true:=by
    unfold Region.free;rw[ho];simp only;rw[kM] at hfree ⊢;intro j hj;have hjs:=mJ.1 hj;have hjl:j<listed.size:=M.size▸hjs;have h5:=hfree j hj;rw[fQ hjs] at h5 ⊢;simp only[CT,eY,decide_eq_true_eq] at h5 ⊢;rcases h5 with(h5|h5)|h5
    .exact .inl (.inl h5)
    .have:=hall j h5.1 h5.2;exact .inl (.inr (by simpa[hjl] using this))
    .exact .inr h5
   obtain⟨hobl,agree,mid⟩:=bmid _ _ _ _ _ _ M p o io ho hio hco hb hnl hafter hall;have guardIn:=guardAll p o io hio hco;obtain⟨c1,c2,c3,c4⟩:=mF hco;have hcount:(List.range ops.size).countP (λj=>!(listed.setIfInBounds p true).getD j false)<=bH:=PG M.size his hnl hc;obtain⟨G,rfl,h1,h2,h3,I,x⟩:=hs;have hw:=yD c2 h3;have run:Region.wanted o (yielded ops a.tmps)=true->cR P io.op eB H' G.c (λv H'' c''=>eU P (lD ops m (b9 ops m.length) bl p++lH C ops.size (p+1)) (put eB io.dst v) H'' c'' (Q .normal))->wpAny P .any ops (gI G0 H0 w0 n Q) (bH+1) listed a w:=λhw hk=>by
    rw[<-UU (e:=e') io.op λu hu=>?_] at hk
    .obtain⟨v,av,y1,y2,y3⟩:=US (K:=λv H'' c''=>eU P (lD ops m (b9 ops m.length) bl p++lH C ops.size (p+1)) (put eB io.dst v) H'' c'' (Q .normal)) rfl he2 he3 c1 h3 hk;refine wpAny_take ho hsel hfreeR (by simpa using hri) (λx a w ⟨e,H,c,q,_⟩=>(hP x e H c q).elim) (.inl ⟨hw,y3⟩) ?_;rw[c3] at y2;exact ih _ _ _ G.c (p+1) _ _ _ (mid av H' G.c y2 λ_=>⟨[],by simp⟩) hcount (St.step h1 h2 h3 I x hH0 c4 (Ext.refl _ _ _) I y1)
    .cases u with
     |c v=>rfl
     |t t=>
      refine agree t ?_;have:=JW c1 hu;unfold Oper.looksAt;exact kC _ (zU.2 ⟨.tmp t,this,rfl⟩)
   have skip:Region.wanted o (yielded ops a.tmps)=false->eU P (lD ops m (b9 ops m.length) bl p++lH C ops.size (p+1)) (put eB io.dst .dS) H' G.c (Q .normal)->wpAny P .any ops (gI G0 H0 w0 n Q) (bH+1) listed a w:=λhw hk=>by
    refine wpAny_take (v:=undef) ho hsel hfreeR (by simpa using hri) (λx a w ⟨e,H,c,q,_⟩=>(hP x e H c q).elim) (.inr ⟨hw,rfl⟩) ?_;rw[c3] at hk;exact ih _ _ _ G.c (p+1) _ _ _ (mid .dS H' G.c hk λ_=>⟨[],by simp⟩) hcount (St.step h1 h2 h3 I x hH0 c4 (Ext.refl _ _ _) I .dS)
   simp only[eU] at hobl;cases hg:io.guard with
   |none=>
    rw[hg] at hw hobl;simp only[mR] at hw;exact run hw hobl
   |some gw=>
    obtain⟨g,want⟩:=gw;rw[hg] at hw hobl;simp only[mR] at hw;dsimp only at hobl;rw[<-agree g (guardIn g want hg)] at hobl;cases hed:e' g<;>rw[hed] at hobl<;>simp only[jO] at hobl<;>first
     |exact hobl.elim
     |skip
    .rename_i b;by_cases hbw:b=want
     .subst hbw;exact run (by rw[hw.1 b hed,beq_self_eq_true]) (hobl.1 rfl)
     .exact skip (by rw[hw.1 b hed];simpa using hbw) (hobl.2 hbw)
    .exact skip (hw.2 hed) hobl
  refine⟨last listed e' H' c' k eB a w M hs,λi hi=>?_⟩;rw[mem_ready] at hi;obtain⟨h0,o,ho,hready⟩:=hi;have his:=(lF.1 ho).1;have hils:i<listed.size:=M.size▸his;have hnl:listed.getD i false=false:=by simpa[hils] using h0
  have hafter:∀k,k∈hZ o->listed.getD k false=true:=λk hk=>by
   unfold hZ at hk;obtain⟨ed,hed,rfl⟩:=fZ.1 hk;obtain⟨hed1,hed2⟩:=r6.1 hed;exact hready ed (by simpa using hed1) hed2
  obtain⟨io,hio,hco⟩:=hm i o ho;obtain⟨c1,c2,c3,c4⟩:=mF hco;have guardIn:=guardAll i o io hio hco;have count:(List.range ops.size).countP (λj=>!(listed.setIfInBounds i true).getD j false)<=bH:=by
   have hlt:(List.range ops.size).countP (λj=>!(listed.setIfInBounds i true).getD j false)<(List.range ops.size).countP (λj=>!listed.getD j false):=by
    have key:∀(l:aF Nat),i∈l->l.countP (λj=>!(listed.setIfInBounds i true).getD j false)<l.countP (λj=>!listed.getD j false):=by
     have mono:∀(l:aF Nat),l.countP (λj=>!(listed.setIfInBounds i true).getD j false)<=l.countP (λj=>!listed.getD j false):=λl=>
      RA λj _ h=>by
       cases hl:listed.getD j false with
       |false=>rfl
       |true=>rw[getD_set_true hl] at h;cases h
     intro l hl
     induction l with
     |nil=>cases hl
     |cons x l ihl=>
      simp only[RD];by_cases hx:x=i
      .subst hx;have:=mono l;have e1:(listed.setIfInBounds x true).getD x false=true:=by simp[hils]
       rw[e1,hnl];simp only[GH,jF,if_false,CU,if_true];omega
      .have h1:=ihl ((fK.1 hl).resolve_left (Ne.symm hx));rw[getD_set_ne false (Ne.symm hx)];omega
    exact key _ (mJ.2 his)
   omega
  have bP:∀j,j≠i->(listed.setIfInBounds i true).getD j false=listed.getD j false:=λj hne=>getD_set_ne false (Ne.symm hne);have closed':∀(j:Nat) (y:Oper),ops[j]?=some y->(listed.setIfInBounds i true).getD j false=true->∀k,k∈hZ y->(listed.setIfInBounds i true).getD k false=true:=λj y hj hl k hk=>by
   refine getD_set_true ?_;by_cases hji:j=i
   .subst hji;rw[ho] at hj;cases hj;exact hafter k hk
   .exact M.closed j y hj (by rw[bP j hji] at hl;exact hl) k hk
  have iin:(listed.setIfInBounds i true).getD i false=true:=by simp[hils]
  obtain⟨G,rfl,h1,h2,h3,I,x⟩:=hs;have hw:=yD c2 h3;cases hb:bl.getD i false with
  |false=>
   obtain⟨hb1,hnb⟩:=(A7 hok ho hio his).1 hb;have hcs:=aaT (q:=rN ops m (b9 ops m.length) bl) (m:=m) (cl:=b9 ops m.length) (bl:=bl) (i:=i) hb1;generalize hp:vU (rN ops m (b9 ops m.length) bl) m (b9 ops m.length) bl i io.op=p at hcs;have hAio:mA[i]?=some {io with op:=p}:=by
    rw[hAi i his];unfold pR;rw[hb,hio,<-hp];simp
   have agree:∀t,t∈o.looksAt ops->e' t=eD e mA V i t:=λt ht=>by
    obtain⟨g1,g2⟩:=BT mA e V uniq i (by omega) t;by_cases hx:∃(j:Nat) (x:Oper),ops[j]?=some x/\x.dst=some t
    .obtain⟨j,x,hj,hxt⟩:=hx;have nol:listed.getD j false=false->e' t=e t:=λhlj=>M.no t λk z hz hlk hd=>by rw[uniqO k j z x t hz hj hd hxt,hlj] at hlk;cases hlk
     have ne:¬j<i->eD e mA V i t=e t:=λhn=>g2 λk y hk hy hd=>by
      obtain⟨z,q1,q2,q3⟩:=dstA k y t hy hd;have:=uniqO k j z x t q1 hj q2 hxt;omega
     rcases(qM hd ho hj).2.2 t hxt ht with⟨k1,k2⟩|k1|⟨k1,k2⟩
     .obtain⟨y,hy,hyd⟩:=dstA' j x t hj hxt (hnb j k2);rw[g1 j y k1 hy hyd,M.yes j y t hy (hafter j k2) hyd]
     .rw[ne (by omega),nol (k1▸hnl)]
     .rw[ne (by omega),nol ?_];cases hlj:listed.getD j false with
      |false=>rfl
      |true=>rw[M.closed j x hj hlj i k2] at hnl;cases hnl
    .rw[g2 λk y _ hy hd=>by
      obtain⟨z,q1,q2,_⟩:=dstA k y t hy hd;exact hx ⟨k,z,q1,q2⟩]
     exact M.no t λk z hz _ hd=>hx ⟨k,z,hz,hd⟩
   have bne:∀j,bl.getD j false=true->j≠i:=λj hj h=>by rw[h,hb] at hj;cases hj
   have mid:∀c'',G.c<=c''->(c''=G.c\/(k=0/\sZ mA e V))->CJ P ops mA C (lD ops m (b9 ops m.length) bl) (λi=>bl.getD i false) m e (eD e mA V mA.length) V H c (Q .normal) (listed.setIfInBounds i true) (put e' o.dst (V i)) H' c'' k eB:=λc'' hle hsame=>by
    refine⟨by simp[M.size],closed',λj hj hbj=>?_,M.HE,λj y t hj hl hy=>?_,λt hn=>?_,M.aB,λt hn=>?_,λhk=>?_,λhg=>M.grown λj hj hbj hl=>hg j hj hbj (getD_set_true hl),?_,M.st⟩
    .rw[bP j (bne j hbj)];exact M.pre j hj hbj
    .by_cases hji:j=i
     .subst hji;rw[hAio] at hj;cases hj;rw[<-c3,show io.dst=some t from hy];show aK e' t (V j) t=V j;rw[sA]
     .rw[bP j hji] at hl;cases hdd:o.dst with
      |none=>exact M.yes j y t hj hl hy
      |some t'=>
       obtain⟨z,q1,q2,_⟩:=dstA j y t hj hy;show aK e' t' (V i) t=V j;rw[kD _ _ _ λh=>hji (uniqO j i z o t q1 ho q2 (by rw[hdd,h]))];exact M.yes j y t hj hl hy
    .cases hdd:o.dst with
     |none=>exact M.agree t hn
     |some t'=>
      show aK e' t' (V i) t=eB t;rw[kD _ _ _ λh=>hn i _ hAio (by rw[h,<-hdd];exact c3)];exact M.agree t hn
    .have hno:e' t=e t:=M.no t λj y hj hl=>hn j y hj (getD_set_true hl);cases hdd:o.dst with
     |none=>exact hno
     |some t'=>
      show aK e' t' (V i) t=e t;rw[kD _ _ _ λh=>hn i o ho iin (by rw[h];exact hdd)];exact hno
    .obtain⟨q1,q2,q3,q4⟩:=M.IE hk;refine⟨q1,q2,cL q3 hle,?_⟩;rcases hsame with h|⟨_,h⟩
     .rw[h];exact q4
     .exact .inr h
    .rcases hsame with h|⟨hk,h⟩
     .rw[h];exact M.NJ
     .obtain⟨q1,q2,q3,q4⟩:=M.IE hk;rw[hk,q1,q2];exact hK c'' (.inr ⟨h,cL q3 hle⟩)
   have notIn:∀j,j<ops.size->bl.getD j false=true->listed.getD j false=true->i∉(b9 ops m.length).getD j []:=λj hj hbj hlj hm=>by
    have:=ZM (L:=λj=>listed.getD j false=true) (λj o ho hl k hk=>M.closed j o ho hl k hk) _ _ _ hm hlj;rw[hnl] at this;cases this
   have run:rT P p (eD e mA V i) H (V i)->(j8 p=true->sZ mA e V)->o.wp P a w (wpAny P .any ops (gI G0 H0 w0 n Q) bH (listed.setIfInBounds i true)) (gI G0 H0 w0 n Q):=λhg hcall=>by
    have hk0:j8 p=true->k=0:=λhc=>by
     by_cases hk:k=0
     .exact hk
     .obtain⟨i0,r1,r2,r3⟩:=M.HE hk;have hl0:listed.getD i0 false=true:=(M.pre i0 r2 r3).2 (by omega);exact absurd (((A7 hok ho hio r2).2 (Ne.symm (bne i0 r3)) r3).2 hb |>.1 (by rw[hp];exact hc)) (notIn i0 r2 r3 hl0)
    obtain⟨q,hq⟩:=aaS hcs;have hgiv:rT P p (eD e mA V i) H' (V i):=by
     cases hc:j8 p with
     |true=>rw[(M.IE (hk0 hc)).1];exact hg
     |false=>
      cases hck:rN ops m (b9 ops m.length) bl i with
      |false=>exact gives_rel hq hc hg λhn=>M.grown λj hj hbj hlj=>((((A7 hok ho hio hj).2 (Ne.symm (bne j hbj)) hbj).2 hb |>.2 (by rw[hp];exact hn)).resolve_left (notIn j hj hbj hlj)).resolve_right (by rw[hck];simp)
      |true=>
       by_cases hk:k=0
       .rw[(M.IE hk).1];exact hg
       obtain⟨ag,t,d,hcd,hioe,hsp⟩:=ckd_spec ho hio hck;obtain⟨i0,r1,r2,r3⟩:=M.HE hk;have hl0:listed.getD i0 false=true:=(M.pre i0 r2 r3).2 (by omega);have hst:=M.st i0 r1 ag t d (ckList_mem (by omega) hcd (notIn i0 r2 r3 hl0));have hpl:p=.load ag (.t t):=by
        rw[<-hp,hioe];unfold vU;simp only;rw[hck,Bool.or_true,if_pos rfl]
       have hdd:eB d=V i:=M.aB i _ d hAio (by rw[hioe]);have hagr:e' t=eD e mA V i t:=by
        refine agree t ?_;have:=JW c1 (t:=t) (by rw[hioe];simp[dV.all,dV.dZ]);unfold Oper.looksAt;exact kC _ (zU.2 ⟨.tmp t,this,rfl⟩)
       have ht:eB t=eD e mA V i t:=by
        rcases hsp with⟨j0,io0,hj0,hm0,hd0⟩|hfree
        .have hj0s:j0<ops.size:=by
          have:=(bQ.1 hm0).1;omega
         have hod0:(ops[j0]).dst=some t:=by
          obtain⟨io1,s1,s2⟩:=hm j0 ops[j0] (fQ hj0s);rw[hm0] at s1;cases s1;rw[<-(mF s2).2.2.1];exact hd0
         obtain⟨y,hy,hyd⟩:=dstA' j0 _ t (fQ hj0s) hod0 (hnb j0 hj0);rw[M.aB j0 y t hy hyd,<-M.yes j0 y t hy (hafter j0 hj0) hyd];exact hagr
        .rw[<-M.agree t λj y hy hd=>?_]
         .exact hagr
         .obtain⟨z,q1,q2,q3⟩:=dstA j y t hy hd;obtain⟨io1,s1,s2⟩:=hm j z q1;exact hfree j io1 s1 (by rw[(mF s2).2.2.1];exact q2)
       rw[hpl];intro c0;obtain⟨v,hv⟩:=JP ag (eB t) _ hst;have hvv:=(hv _).1 hst;show lI ag (eD e mA V i t) H' _;rw[<-ht];exact(hv _).2 ⟨hvv.trans hdd,rfl,bB _,λ_=>rfl⟩
    have k1:=hgiv G.c;rw[<-HZ (e:=e') hq λu hu=>?_] at k1
    .refine A0 rfl c1 I h3 (aOp_opW hcs k1) λv w' ⟨av,H'',G',⟨k2,k3,k4,k5⟩,x',I',r⟩=>?_;subst k2;subst k3;refine ih _ (put e' o.dst (V i)) _ G'.c k eB _ _ (mid G'.c k4 ?_) count ?_
     .cases hcl:j8 p with
      |false=>exact .inl (k5 hcl)
      |true=>exact .inr ⟨hk0 hcl,hcall hcl⟩
     .exact St.step h1 h2 h3 I x hH0 c4 x' I' r
    .cases u with
     |c v=>rfl
     |t t=>
      refine agree t ?_;have:=JW c1 (aOp_uses hcs hu);unfold Oper.looksAt;exact kC _ (zU.2 ⟨.tmp t,this,rfl⟩)
   have skip:V i=.dS->wpAny P .any ops (gI G0 H0 w0 n Q) bH (listed.setIfInBounds i true) (a.put o.dst undef) w:=λhv=>by
    refine ih _ (put e' o.dst (V i)) _ G.c k eB _ _ (mid G.c (bB _) (.inl rfl)) count ?_;rw[hv];exact St.step h1 h2 h3 I x hH0 c4 (Ext.refl _ _ _) I .dS
   have hy:=hV i _ hAio;unfold YV at hy;dsimp only at hy;unfold wpOp;rw[ho];simp only;cases hg:io.guard with
   |none=>
    rw[hg] at hw hy;simp only[mR] at hw;rw[hw,if_pos rfl];exact .inl (run hy λhcl=>⟨i,_,hAio,hcl,by unfold xV;dsimp only;rw[hg];trivial⟩)
   |some gw=>
    obtain⟨g,want⟩:=gw;rw[hg] at hw hy;simp only[mR] at hw;simp only at hy;rw[<-agree g (guardIn g want hg)] at hy;rcases hy with⟨hy1,hy2⟩|⟨hy1,hy2⟩
    .rw[hw.1 want hy1,beq_self_eq_true,if_pos rfl];refine .inl (run hy2 λhcl=>⟨i,_,hAio,hcl,?_⟩);unfold xV;dsimp only;rw[hg];dsimp only;rw[<-agree g (guardIn g want hg)];exact hy1
    .have:Region.wanted o (yielded ops a.tmps)=false:=by
      rcases hy1 with hy1|⟨b,hy1,hb⟩
      .exact hw.2 hy1
      .rw[hw.1 b hy1];simpa using hb
     rw[this,if_neg (by simp)];exact skip hy2
  |true=>
   have allB:∀j,j<i->bl.getD j false=true->listed.getD j false=true:=λj=>by
    induction j using Nat.strongRecOn with
    |ind j ihj=>
     intro hj hbj;cases hlj:listed.getD j false with
     |true=>rfl
     |false=>
      obtain⟨ioj,q1,q2⟩:=hm j ops[j] (fQ (by omega));rcases((A7 hok (fQ (by omega:j<ops.size)) q1 his).2 (by omega) hb).1 hbj hj with hin|hflj
      .have:=ZM (L:=λx=>listed.getD x false=true\/x=i) (λj' o' ho' hl k' hk'=>by
        rcases hl with hl|rfl
        .exact .inl (M.closed j' o' ho' hl k' hk')
        .rw[ho] at ho';cases ho';exact .inl (hafter k' hk')) _ _ _ hin (.inr rfl)
       rw[hlj] at this;exact(this.resolve_right (by omega)).symm▸rfl
      .exact absurd ⟨j,ops[j],ioj,fQ (by omega),q1,q2,hbj,hflj,hlj,λx hx hbx=>ihj x hx (by omega) hbx⟩ hnotake
   obtain⟨hobl,agree,mid⟩:=bmid _ _ _ _ _ _ M i o io ho hio hco hb hnl hafter allB;have fin:∀Kp:aD,cR P io.op eB H' G.c Kp->(∀av H'' c'',Kp av H'' c''->eU P (lD ops m (b9 ops m.length) bl i++lH C ops.size (i+1)) (put eB o.dst av) H'' c'' (Q .normal)/\(vM m i=true->∃M,H''=H'++M))->
     o.wp P a w (wpAny P .any ops (gI G0 H0 w0 n Q) bH (listed.setIfInBounds i true)) (gI G0 H0 w0 n Q):=λKp k1 k2=>by
    rw[<-UU (e:=e') io.op λu hu=>?_] at k1
    .refine A0 rfl c1 I h3 k1 λv w' ⟨av,H'',G',kp,x',I',r⟩=>?_;obtain⟨q1,q2⟩:=k2 _ _ _ kp;exact ih _ _ _ G'.c (i+1) _ _ _ (mid av H'' G'.c q1 q2) count (St.step h1 h2 h3 I x hH0 c4 x' I' r)
    .cases u with
     |c v=>rfl
     |t t=>
      refine agree t ?_;have:=JW c1 hu;unfold Oper.looksAt;exact kC _ (zU.2 ⟨.tmp t,this,rfl⟩)
   have run:cR P io.op eB H' G.c (λv H'' c''=>eU P (lD ops m (b9 ops m.length) bl i++lH C ops.size (i+1)) (put eB io.dst v) H'' c'' (Q .normal))->o.wp P a w (wpAny P .any ops (gI G0 H0 w0 n Q) bH (listed.setIfInBounds i true)) (gI G0 H0 w0 n Q):=λk1=>by
    rw[c3] at k1;cases hgr:vM m i with
    |true=>
     have hgo:JB io.op=true:=by unfold vM at hgr;rw[hio] at hgr;exact hgr
     exact fin _ (opW_grow hgo k1) λav H'' c'' h=>⟨h.1,λ_=>h.2⟩
    |false=>exact fin _ k1 λav H'' c'' h=>⟨h,λhx=>by rw[hgr] at hx;cases hx⟩
   have skip:eU P (lD ops m (b9 ops m.length) bl i++lH C ops.size (i+1)) (put eB io.dst .dS) H' G.c (Q .normal)->wpAny P .any ops (gI G0 H0 w0 n Q) bH (listed.setIfInBounds i true) (a.put o.dst undef) w:=λhk=>by
    rw[c3] at hk;exact ih _ _ _ G.c (i+1) _ _ _ (mid .dS H' G.c hk λ_=>⟨[],by simp⟩) count (St.step h1 h2 h3 I x hH0 c4 (Ext.refl _ _ _) I .dS)
   simp only[eU] at hobl;unfold wpOp;rw[ho];simp only;cases hg:io.guard with
   |none=>
    rw[hg] at hw hobl;simp only[mR] at hw;rw[hw,if_pos rfl];exact .inl (run hobl)
   |some gw=>
    obtain⟨g,want⟩:=gw;rw[hg] at hw hobl;simp only[mR] at hw;dsimp only at hobl;rw[<-agree g (guardIn g want hg)] at hobl;cases hed:e' g<;>rw[hed] at hobl<;>simp only[jO] at hobl<;>first
     |exact hobl.elim
     |skip
    .rename_i b;rw[hw.1 b hed];by_cases hbw:b=want
     .subst hbw;rw[beq_self_eq_true,if_pos rfl];exact .inl (run (hobl.1 rfl))
     .rw[if_neg (by simpa using hbw)];exact skip (hobl.2 hbw)
    .rw[hw.2 hed,if_neg (by simp)];exact skip hobl
def YN (hH0:∀t,t∈aV H0->t<G0.c) {E:Array Oper} {m:aF b7} (J:E.toList.mapM (j3 P n E)=some m) (hd:rM E=true) (hf:P.follows .mixedOrders=true)
  {bl:aF Bool} {fl:Nat->Bool} (hfl:∀i,fl i=true->JH E m bl i=true) (W:A8 fl E m (b9 E m.length) bl=true) {Q:kU} (htk:(∃i,fl i=true)->Region.noSelect E=true/\∀x e H c,¬Q (.panic x) e H c) {id:Nat} {a:Act} {w:World} (hs:St G0 H0 w0 n e H c a w) (hk:eU P (IP E m (b9 E m.length) bl) e H c (Q .normal)):
  (Code.region id E true).wp P (gI G0 H0 w0 n Q) a w:=by
 obtain⟨Z,hg⟩:=BC _ _ J;have T:m.length=E.size:=by simpa using Z
 have hm':∀(i:Nat) (x:Oper),E[i]?=some x->∃J,m[i]?=some J/\j3 P n E x=some J:=λi x hx=>hg i x (by simpa using hx);have hp:∀J,J∈(List.range m.length).map (pR E m (b9 E m.length) bl)->∃Z,gQ Z=some J.op:=λJ Z=>by
  obtain⟨i,hi,rfl⟩:=fZ.1 Z;have hi:=mJ.1 hi;unfold pR;cases hb:bl.getD i false with
  |true=>exact⟨.mv (.c .dS),rfl⟩
  |false=>
   have Z:m[i]?=some m[i]:=bC hi;rw[Z];have his:i<E.size:=by omega
   exact aaS (aaT ((A7 (k:=i) W (fQ his) Z his).1 hb).1)
 unfold IP at hk;rw[opsW_filter,UR] at hk;obtain⟨V,q1,q2⟩:=ZS _ hp e (·=c) c _ rfl (λZ h=>Q3 h.symm) λZ h=>by rw[h];exact hk
 have hR:lH (A9 E m (b9 E m.length) bl) E.size 0=(List.range m.length).flatMap (A9 E m (b9 E m.length) bl):=by
  unfold lH;rw[T,LF,List.range_eq_range']
 refine wp_region_any hf (any_soundE hH0 T hm' hd hfl W rfl rfl htk q1 (λZ h=>by rw[hR];exact q2 Z h) E.size _ e H c 0 (eD e ((List.range m.length).map (pR E m (b9 E m.length) bl)) V ((List.range m.length).map (pR E m (b9 E m.length) bl)).length) a _ ?_ ?_ ?_)
 .have W:∀j,(Array.replicate E.size false).getD j false=false:=λj=>by
   by_cases Z:j<E.size<;>simp[Z]
  have uniq:∀(i j:Nat) (x y:b7) (d:Nat),((List.range m.length).map (pR E m (b9 E m.length) bl))[i]?=some x->((List.range m.length).map (pR E m (b9 E m.length) bl))[j]?=some y->x.dst=some d->y.dst=some d->i=j:=λi j x y d h1 h2 h3 h4=>by
   have key:∀(i:Nat) (x:b7),((List.range m.length).map (pR E m (b9 E m.length) bl))[i]?=some x->x.dst=some d->∃o,E[i]?=some o/\o.dst=some d:=λi x hx T=>by
    have hi:i<m.length:=by have:=(bQ.1 hx).1;simpa using this
    rw[kL,List.getElem?_range hi] at hx;cases hx;unfold pR at T;split at T
    .cases T
    .obtain⟨J,r1,r2⟩:=hm' i E[i] (fQ (by omega));rw[r1] at T;exact⟨E[i],fQ (by omega),(mF r2).2.2.1▸T⟩
   obtain⟨p,r1,r2⟩:=key i x h1 h3;obtain⟨q,T,E⟩:=key j y h2 h4;exact(qM hd r1 T).2.1 d r2 E
  have E:=λt=>BT _ e V uniq _ (bB _) t;exact⟨by simp,λj o _ h=>by(rw[W] at h;cases h),λj _ _=>by rw[W];exact⟨λh=>(by cases h),λh=>(by omega)⟩,λh=>absurd rfl h,λj J t _ h=>by(rw[W] at h;cases h),
   λt T=>((E t).2 λj J _ Z=>T j J Z).symm,λj J t Z T=>(E t).1 j J (bQ.1 Z).1 Z T,λt _=>rfl,λ_=>⟨rfl,rfl,bB _,.inl rfl⟩,λ_=>⟨[],by simp⟩,by rw[hR];exact q2 c (.inl rfl),λE h=>by omega⟩
 .exact cL (RB) (by simp)
 .obtain⟨G,E,h1,h2,h3,I,x⟩:=hs;exact⟨G,E,h1,h2,h3,I,x.x,x.os,x.tape,x.output,x.size,x.frame,x.mL,x.j6,x.nV⟩
def draw_comp0 (W:∀t,t∈aV H0->t<G0.c) {E:Array Oper} {ir:IR} (h:ET P n E=some ir) (hd:rM E=true) (hf:P.follows .mixedOrders=true)
  {Q:kU} {id:Nat} {a:Act} {w:World} (hs:St G0 H0 w0 n e H c a w) (Z:cC P ir Q e H c):(Code.region id E true).wp P (gI G0 H0 w0 n Q) a w:=by
 have pure:B0 P n E=some ir->(Code.region id E true).wp P (gI G0 H0 w0 n Q) a w:=λh=>by
  unfold B0 at h;simp only[iH] at h;obtain⟨m,hm,J⟩:=h;split at J
  .subst J;obtain⟨R,Z⟩:=Z;exact draw_soundD W hm hd hf hs Z
  .subst J;exact draw_sound W hm hd hf hs Z
 have J:∀T,sS P n E T=some ir->(Code.region id E true).wp P (gI G0 H0 w0 n Q) a w:=λT h=>by
  unfold sS at h;simp only[dK] at h;obtain⟨m,hm,h⟩:=h;unfold VG at h;split at h
  .rename_i E;cases h;exact YN W hm hd hf (fl:=λ_=>false) (λ_ h=>by cases h) E (λ⟨_,h⟩=>by cases h) hs Z
  .cases h
 unfold ET at h;split at h
 .simp only[QV] at h;rcases h with h|⟨_,h|⟨_,h⟩⟩
  .exact J _ h
  .exact pure h
  .exact J _ h
 .split at h<;>simp only[QV] at h
  .rcases h with h|⟨_,h|⟨_,h|⟨_,h⟩⟩⟩
   .exact J _ h
   .exact pure h
   .exact J _ h
   .exact J _ h
  .rcases h with h|⟨_,h|⟨_,h⟩⟩
   .exact pure h
   .exact J _ h
   .exact J _ h
def aaP {g:Nat->IR} {Q}:∀{L:aF Nat},cC P (alts (L.map g)) Q e H c->∀i,i∈L->cC P (g i) Q e H c
 |[],_,i,E=>by cases E
 |[x],h,i,E=>by
  have:i=x:=by simpa using E
  subst this;exact h
 |x::y::L,h,i,E=>by
  have h:cC P (g x) Q e H c/\cC P (alts ((y::L).map g)) Q e H c:=h;rcases fK.1 E with rfl|E
  .exact h.1
  .exact aaP h.2 i E
def any_all (hH0:∀t,t∈aV H0->t<G0.c) {J:Array Oper} {m:aF b7} (hdr:rM J=true) (E:m.length=J.size) (hm:∀(i:Nat) (x:Oper),J[i]?=some x->∃io,m[i]?=some io/\j3 P n J x=some io) (hsel:Region.noSelect J=true) {Q} (hP:∀x e H c,¬Q (.panic x) e H c):
  ∀(f:Nat) (d:aF Nat) (E:Array Bool) (e:Env) (H:aC) (c:Nat) (a:Act) (w:World),E.size=J.size->(∀i,i<J.size->E.getD i false=d.contains i)->(List.range J.size).countP (λj=>!E.getD j false)<=f->
   St G0 H0 w0 n e H c a w->cC P (j9 J m f d) Q e H c->wpAny P .any J (gI G0 H0 w0 n Q) f E a w:=by
 have rdy:∀(d:aF Nat) (E:Array Bool),E.size=J.size->(∀i,i<J.size->E.getD i false=d.contains i)->∀i,i∈Region.ready .any J E->i∈(List.range m.length).filter (pH J d)/\i<J.size/\E.getD i false=false:=λd E T hd i hi=>by
  rw[mem_ready] at hi;obtain⟨h0,o,ho,Z⟩:=hi;have his:=(lF.1 ho).1;have W:i<E.size:=T▸his;have hnl:E.getD i false=false:=by simpa[W] using h0
  refine⟨r6.2 ⟨mJ.2 (by omega),?_⟩,his,hnl⟩;unfold pH;rw[<-hd i his,hnl,ho];simp only[CU,Bool.true_and];rw[kM];intro k W;unfold hZ at W;obtain⟨ed,hed,rfl⟩:=fZ.1 W;obtain⟨hed1,hed2⟩:=r6.1 hed;have hl:=Z ed (by simpa using hed1) hed2;have Z:ed.on<J.size:=by
   rcases iA ed.on J.size with h|h
   .exact h
   .have:E.getD ed.on false=false:=by simp[T,zQ.2 h]
    rw[this] at hl;cases hl
  rw[<-hd _ Z];exact hl
 have rdy':∀(d:aF Nat) (E:Array Bool),E.size=J.size->(∀i,i<J.size->E.getD i false=d.contains i)->∀j,j∈List.range m.length->pH J d j=true->j∈Region.ready .any J E:=λd E T hd j h1 h2=>by
  have Z:j<J.size:=by have:=mJ.1 h1;omega
  rw[mem_ready];have ho:=fQ Z;unfold pH at h2;rw[ho] at h2;simp only[eY,z6] at h2;refine⟨?_,J[j],ho,λed hed hb=>?_⟩
  .have hjl:j<E.size:=T▸Z;have h3:E.getD j false=false:=by rw[hd j Z];exact h2.1
   simpa[hjl] using h3
  .have hmem:ed.on∈hZ J[j]:=by
    unfold hZ;exact fZ.2 ⟨ed,r6.2 ⟨by simpa using hed,hb⟩,rfl⟩
   have h3:=kM.1 h2.2 _ hmem;have hlt:=(qM hdr ho ho).1 _ hmem;rw[hd _ (by omega)];exact h3
 have step:∀(d:aF Nat) (E:Array Bool) (i:Nat),E.size=J.size->(∀i,i<J.size->E.getD i false=d.contains i)->∀j,j<J.size->(E.setIfInBounds i true).getD j false=(i::d).contains j:=λd E i T hd j hj=>by
  by_cases hij:j=i
  .subst hij;simp[T,hj]
  .have h1:(E.setIfInBounds i true).getD j false=E.getD j false:=by simp[uU (Ne.symm hij)]
   rw[h1,hd j hj];have:(j==i)=false:=by simpa using hij
   rw[zW,this,LW]
 intro f
 induction f with
 |zero=>
  intro d E e H c a w T hd hc hs W;have hr:Region.ready .any J E=[]:=by
   refine Q9.2 λj hj=>?_;obtain⟨_,Z,hnl⟩:=rdy d E T hd j hj;have:=RC.1 (Q2.1 hc) j (mJ.2 Z);rw[hnl] at this;exact this rfl
  exact⟨hr,e,H,c,W,hs⟩
 |succ f ih=>
  intro d E e H c a w T hd hc hs W;unfold j9 at W;split at W
  .
   rename_i i hfi;have hi0:=List.mem_of_find?_eq_some hfi;have hi1:=List.find?_some hfi;unfold xK at hi1;simp only[eY] at hi1;obtain⟨⟨hr1,hf1⟩,he1⟩:=hi1;have hri:=rdy' d E T hd i hi0 hr1;obtain⟨_,his,hnl⟩:=rdy d E T hd i hri;obtain⟨io,hio,hco⟩:=hm i J[i] (fQ his);have hgd:m.getD i kZ=io:=by simp[LN,hio]
   rw[fQ his,hio] at he1;simp only[eY] at he1;obtain⟨he2,he3⟩:=he1;obtain⟨c1,c2,c3,c4⟩:=mF hco;have hcount:(List.range J.size).countP (λj=>!(E.setIfInBounds i true).getD j false)<=f:=PG T his hnl hc;obtain⟨G,rfl,h1,h2,h3,I,x⟩:=hs;have hw:=yD c2 h3;have hfree:Region.free .any J E i=true:=by
    unfold OM at hf1;unfold Region.free;rw[fQ his] at hf1 ⊢;simp only at hf1 ⊢;rw[kM] at hf1 ⊢;intro j hj;have Z:=mJ.1 hj;have hjl:j<E.size:=T▸Z;have h5:=hf1 j hj;rw[<-hd j Z,fQ Z] at h5;rw[fQ Z];simpa[hjl] using h5
   simp only[cC,hgd] at W;have go:Region.wanted (J[i]) (yielded J a.tmps)=true->∀(v:Value) (av:AV),bJ G w.heap v av->(∀w,(execOp a.eval J[i]).run P w=.ok (.value v) w)->cC P (j9 J m f (i::d)) Q (put e io.dst av) H G.c->wpAny P .any J (gI G0 H0 w0 n Q) (f+1) E a w:=λhw v av hrep hrun k=>by
    refine wpAny_take (fQ his) hsel hfree (by simpa using hri) (λx a w ⟨e,H,c,q,_⟩=>(hP x e H c q).elim) (.inl ⟨hw,hrun⟩) ?_;rw[c3] at k;exact ih (i::d) _ _ _ _ _ _ (by simp[T]) (step d E i T hd) hcount (St.step h1 h2 h3 I x hH0 c4 (Ext.refl _ _ _) I hrep) k
   have run:Region.wanted (J[i]) (yielded J a.tmps)=true->cR P io.op e H G.c (λv H' c'=>cC P (j9 J m f (i::d)) Q (put e io.dst v) H' c')->wpAny P .any J (gI G0 H0 w0 n Q) (f+1) E a w:=λhw W=>by
    obtain⟨v,av,y1,y2,y3⟩:=US (K:=λv H' c'=>cC P (j9 J m f (i::d)) Q (put e io.dst v) H' c') rfl he2 he3 c1 h3 W;exact go hw v av y1 y3 y2
   have skip:Region.wanted (J[i]) (yielded J a.tmps)=false->cC P (j9 J m f (i::d)) Q (put e io.dst .dS) H G.c->wpAny P .any J (gI G0 H0 w0 n Q) (f+1) E a w:=λhw k=>by
    refine wpAny_take (v:=undef) (fQ his) hsel hfree (by simpa using hri) (λx a w ⟨e,H,c,q,_⟩=>(hP x e H c q).elim) (.inr ⟨hw,rfl⟩) ?_;rw[c3] at k;exact ih (i::d) _ _ _ _ _ _ (by simp[T]) (step d E i T hd) hcount (St.step h1 h2 h3 I x hH0 c4 (Ext.refl _ _ _) I .dS) k
   simp only[eU] at W;cases hg:io.guard with
   |none=>
    rw[hg] at W hw;simp only[mR] at W hw;exact run hw W
   |some p=>
    obtain⟨g,want⟩:=p;rw[hg] at W hw;simp only[mR] at W hw;cases hed:e g<;>rw[hed] at W<;>simp only[jO] at W<;>first
     |exact W.elim
     |skip
    .rename_i b;by_cases hb:b=want
     .subst hb;exact run (by rw[hw.1 b hed,beq_self_eq_true]) (W.1 rfl)
     .exact skip (by rw[hw.1 b hed];simpa using hb) (W.2 hb)
    .exact skip (hw.2 hed) W
  refine⟨λhr=>?_,λi hi=>?_⟩
  .
   by_cases hne:(List.range m.length).filter (pH J d)=[]
   .refine⟨e,H,c,?_,hs⟩;rw[hne] at W;exact W
   .exfalso;obtain⟨j,hj⟩:=List.exists_mem_of_ne_nil _ hne;obtain⟨h1,h2⟩:=r6.1 hj;have Z:j<J.size:=by have:=mJ.1 h1;omega
    have:j∈Region.ready .any J E:=by
     rw[mem_ready];have ho:=fQ Z;unfold pH at h2;rw[ho] at h2;simp only[eY,z6] at h2;refine⟨?_,J[j],ho,λed hed hb=>?_⟩
     .have hjl:j<E.size:=T▸Z;have h3:E.getD j false=false:=by rw[hd j Z];exact h2.1
      simpa[hjl] using h3
     .have hmem:ed.on∈hZ J[j]:=by
       unfold hZ;exact fZ.2 ⟨ed,r6.2 ⟨by simpa using hed,hb⟩,rfl⟩
      have h3:=kM.1 h2.2 _ hmem;have hlt:=(qM hdr ho ho).1 _ hmem;rw[hd _ (by omega)];exact h3
    rw[hr] at this;cases this
  .obtain⟨hmem,his,hnl⟩:=rdy d E T hd i hi;have W:=aaP (g:=λi=>.seq (.nA [m.getD i kZ]) (j9 J m f (i::d))) W i hmem;obtain⟨io,hio,hco⟩:=hm i J[i] (fQ his);have hgd:m.getD i kZ=io:=by simp[LN,hio]
   simp only[cC,hgd] at W;obtain⟨c1,c2,c3,c4⟩:=mF hco;have Z:∀j,j<J.size->(E.setIfInBounds i true).getD j false=(i::d).contains j:=λj hj=>by
    by_cases hij:j=i
    .subst hij;simp[T,hj]
    .have h1:(E.setIfInBounds i true).getD j false=E.getD j false:=by simp[uU (Ne.symm hij)]
     rw[h1,hd j hj];have:(j==i)=false:=by simpa using hij
     rw[zW,this,LW]
   have hcount:(List.range J.size).countP (λj=>!(E.setIfInBounds i true).getD j false)<=f:=PG T his hnl hc;obtain⟨G,rfl,h1,h2,h3,I,x⟩:=hs;have hw:=yD c2 h3;have run:cR P io.op e H G.c (λv H' c'=>cC P (j9 J m f (i::d)) Q (put e io.dst v) H' c')->(J[i]).wp P a w (wpAny P .any J (gI G0 H0 w0 n Q) f (E.setIfInBounds i true)) (gI G0 H0 w0 n Q):=λk=>
    A0 rfl c1 I h3 k λv w' ⟨av,H',G',k',x',I',r⟩=>by
     rw[c3] at k';exact ih (i::d) _ _ _ _ _ _ (by simp[T]) Z hcount (St.step h1 h2 h3 I x hH0 c4 x' I' r) k'
   have skip:cC P (j9 J m f (i::d)) Q (put e io.dst .dS) H G.c->wpAny P .any J (gI G0 H0 w0 n Q) f (E.setIfInBounds i true) (a.put (J[i]).dst undef) w:=λk=>by
    rw[c3] at k;exact ih (i::d) _ _ _ _ _ _ (by simp[T]) Z hcount (St.step h1 h2 h3 I x hH0 c4 (Ext.refl _ _ _) I .dS) k
   unfold wpOp;rw[fQ his];simp only;simp only[eU] at W;cases hg:io.guard with
   |none=>
    rw[hg] at W hw;simp only[mR] at W hw;rw[hw,if_pos rfl];exact .inl (run W)
   |some p=>
    obtain⟨g,want⟩:=p;rw[hg] at W hw;simp only[mR] at W hw;cases hed:e g<;>rw[hed] at W<;>simp only[jO] at W<;>first
     |exact W.elim
     |skip
    .rename_i b;rw[hw.1 b hed];by_cases hb:b=want
     .subst hb;rw[beq_self_eq_true,if_pos rfl];exact .inl (run (W.1 rfl))
     .rw[if_neg (by simpa using hb)];exact skip (W.2 hb)
    .rw[hw.2 hed,if_neg (by simp)];exact skip W
def TJ {d E:aF Nat} (h:HM d E=true):d.length=E.length/\∀x,d.contains x=E.contains x:=by unfold HM at h;simp only[eY,beq_iff_eq,kM] at h;refine⟨h.1.1,λx=>?_⟩;have J:=h.1.2 x;have E:=h.2 x;rw[Bool.eq_iff_iff];simp only[List.contains_iff_mem] at J E ⊢;exact⟨J,E⟩
def aaL {E} {d J:aF Nat} (h:∀x,d.contains x=J.contains x):pH E d=pH E J:=by funext i;unfold pH;simp only[h]
def eagAt_congr {E} {m} {d J:aF Nat} (h:∀x,d.contains x=J.contains x):xK E m d=xK E m J:=by funext i;unfold xK OM;rw[aaL h];simp only[h]
def P9 {E} {m}:∀(f:Nat) {d J:aF Nat} (h:∀x,d.contains x=J.contains x),j9 E m f d=j9 E m f J
 |0,_,_,_=>rfl
 |f+1,d,J,h=>by
  have T:∀i x,(i::d).contains x=(i::J).contains x:=λi x=>by simp only[zW,h]
  unfold j9;rw[eagAt_congr h,aaL h];have e:∀i,j9 E m f (i::d)=j9 E m f (i::J):=λi=>P9 f (T i);simp only[e]
def TE {R} {Q}:cC P (.seq .skip R) Q=cC P R Q:=by funext e H c;rfl
def seq_assoc {A B C} {Q}:cC P (.seq (.seq A B) C) Q=cC P (.seq A (.seq B C)) Q:=by
 funext e H c;show cC P A (iO (cC P B (iO (cC P C Q) Q)) (iO (cC P C Q) Q)) e H c=cC P A (iO (cC P B (iO (cC P C Q) Q)) Q) e H c;have:∀X K:Env->aC->Nat->Prop,iO X (iO K Q)=iO X Q:=λX K=>by funext x;cases x<;>rfl
 rw[this]
def HJ {A B C} {Q} (h:cC P B Q=cC P C Q):cC P (.seq A B) Q=cC P (.seq A C) Q:=by funext e H c;show cC P A (iO (cC P B Q) Q) e H c=cC P A (iO (cC P C Q) Q) e H c;rw[h]
def aaO {R} {Q} {g:Nat->Option IR} {k:Nat->IR}:∀{L:aF Nat} {l:aF IR},L.mapM g=some l->L≠[]->(∀i x,i∈L->g i=some x->cC P (.seq x R) Q=cC P (k i) Q)->cC P (.seq (alts l) R) Q=cC P (alts (L.map k)) Q
 |[],_,_,E,_=>absurd rfl E
 |[i],l,h,_,T=>by
  simp only[oQ,List.mapM_nil,gX,dK] at h;obtain⟨x,Z,y,E,h⟩:=h;cases E;cases h;exact T i x (rY.2 rfl) Z
 |i::j::L,l,h,_,T=>by
  rw[oQ] at h;simp only[gX,dK] at h;obtain⟨x,Z,y,E,h⟩:=h;cases h;have ih:=aaO (R:=R) (Q:=Q) (k:=k) E (by simp) λi x J=>T i x (iI _ J);have W:∃z J,y=z::J:=by
   cases y with
   |nil=>
    rw[oQ] at E;simp only[gX,dK] at E;obtain⟨_,_,_,_,E⟩:=E;cases E
   |cons z J=>exact⟨z,J,rfl⟩
  obtain⟨z,J,rfl⟩:=W;have E:=T i x (kB ..) Z;funext e H c;show(cC P (.seq x R) Q e H c/\cC P (.seq (alts (z::J)) R) Q e H c)=(cC P (k i) Q e H c/\cC P (alts ((j::L).map k)) Q e H c)
  rw[E,ih]
def LY {E} {m} {R} {Q} {Z:aF Nat} {T} (J:cC P R Q=cC P (j9 E m T Z) Q):∀(f:Nat) (d:aF Nat) (W:IR),f+d.length=T+Z.length->AF E m f d Z=some W->
  cC P (.seq W R) Q=cC P (j9 E m f d) Q
 |0,d,W,hf,h=>by
  unfold AF at h;split at h
  next E=>
   cases h;obtain⟨h1,Z⟩:=TJ E;have:T=0:=by omega
   subst this;rw[TE,J,P9 0 Z]
  next E=>cases h
 |f+1,d,W,hf,h=>by
  unfold AF at h;split at h
  next E=>
   cases h;obtain⟨h1,Z⟩:=TJ E;have:T=f+1:=by omega
   subst this;rw[TE,J,P9 _ Z]
  next E=>
   unfold j9;split at h
   next i T=>
    simp only[iH] at h;obtain⟨x,E,rfl⟩:=h;rw[seq_assoc];exact HJ (LY J f (i::d) x (by simp;omega) E)
   next T=>
    split at h
    next W=>cases h
    next W=>
     simp only[iH] at h;obtain⟨l,Z,rfl⟩:=h;refine aaO Z (λZ=>W (by simp[Z])) λi x T E=>?_;simp only[iH] at E;obtain⟨y,T,rfl⟩:=E;rw[seq_assoc];exact HJ (LY J f (i::d) y (by simp;omega) T)
def E9 {E} {m} {cl} {Q}:∀(g f:Nat) (d:aF Nat) {J:IR},vT E m cl g f d=some J->cC P J Q=cC P (j9 E m f d) Q
 |0,_,_,_,h=>by cases h
 |g+1,0,d,J,h=>by unfold vT at h;cases h;rfl
 |g+1,f+1,d,J,h=>by
  unfold vT at h;split at h
  next i J=>
   simp only[iH] at h;obtain⟨x,E,rfl⟩:=h;unfold j9;rw[J];exact HJ (E9 g f (i::d) E)
  next J=>
   split at h
   next i T=>
    simp only[iH] at h;obtain⟨x,E,rfl⟩:=h;unfold j9;rw[J,T];exact HJ (E9 g f (i::d) E)
   next T=>
    split at h
    next Z T=>
     split at h
     next J=>
      simp only[eY,decide_eq_true_eq] at J;simp only[dK,iH] at h;obtain⟨w,W,x,E,rfl⟩:=h;exact LY (E9 g _ Z E) (f+1) d w (by omega) W
     next J=>cases h
    next T=>
     split at h
     next J=>cases h;rfl
     next J=>cases h
def draw_comp (Z:∀t,t∈aV H0->t<G0.c) {E:Array Oper} {T:IR} (h:PQ P n E=some T) (hd:rM E=true) (hf:P.follows .mixedOrders=true) (J:Region.noSelect E=true)
  {Q:kU} (hP:∀x e H c,¬Q (.panic x) e H c) {id:Nat} {a:Act} {w:World} (hs:St G0 H0 w0 n e H c a w) (hk:cC P T Q e H c):(Code.region id E true).wp P (gI G0 H0 w0 n Q) a w:=by
 have h3:PN P n E=some T\/PM P n E=some T:=by
  unfold PQ at h;simp only[QV] at h;rcases h with h|⟨_,h⟩
  .exact .inl h
  .exact .inr h
 clear h;rcases h3 with h|h;rotate_left
 .unfold PM at h;simp only[dK] at h;obtain⟨m,W,h⟩:=h;split at h
  .rename_i hok;cases h;exact YN Z W hd hf (λ_ h=>h) hok (λ_=>⟨J,hP⟩) hs hk
  .cases h
 have h2:ET P n E=some T\/JX P n E=some T:=by
  unfold PN at h;split at h<;>(simp only[QV] at h;rcases h with h|⟨_,h⟩)
  .exact .inr h
  .exact .inl h
  .exact .inl h
  .exact .inr h
 clear h;rcases h2 with h|h
 .exact draw_comp0 Z h hd hf hs hk
 .have h':∃m,E.toList.mapM (j3 P n E)=some m/\cC P T Q=cC P (j9 E m m.length []) Q:=by
   unfold JX at h;split at h
   .simp only[iH] at h;obtain⟨m,W,h⟩:=h;refine⟨m,W,?_⟩;subst h;cases hF:vT E m (b9 E m.length) (m.length+1) m.length [] with
    |none=>rfl
    |some x=>exact E9 _ _ _ hF
   .split at h
    .simp only[dK] at h;obtain⟨m,W,h⟩:=h;exact⟨m,W,E9 _ _ _ h⟩
    .cases h
  obtain⟨m,W,T⟩:=h';rw[T] at hk;clear T;obtain⟨hl,hg⟩:=BC _ _ W;have T:m.length=E.size:=by simpa using hl
  have W:∀(i:Nat) (x:Oper),E[i]?=some x->∃io,m[i]?=some io/\j3 P n E x=some io:=λi x hx=>hg i x (by simpa using hx);rw[T] at hk;refine wp_region_any hf (any_all Z hd T W J hP E.size [] _ e H c a _ (by simp) (λi E=>by simp[E]) ?_ ?_ hk)
  .exact cL (RB) (by simp)
  .obtain⟨G,J,E,h2,h3,I,x⟩:=hs;exact⟨G,J,E,h2,h3,I,x.x,x.os,x.tape,x.output,x.size,x.frame,x.mL,x.j6,x.nV⟩
end
end
section
variable {P:Program} {G0:Gh} {H0:aC} {w0:World} {n:Nat}
def ops_sound (hH0:∀t,t∈aV H0->t<G0.c) {ops} {Q}:∀(l:aF Oper) (m:aF b7),l.mapM (j3 P n ops)=some m->∀(e:Env) (H:aC) (c:Nat) (a:Act) (w:World),
  St G0 H0 w0 n e H c a w->eU P m e H c (Q .normal)->wpList P ops (gI G0 H0 w0 n Q) l a w:=by
 intro l
 induction l with
 |nil=>
  intro m hm e H c a w hs hk;simp at hm;subst hm;exact wpList_nil ⟨e,H,c,hk,hs⟩
 |cons o l ih=>
  intro m hm e H c a w hs hk;simp only[oQ,gX,dK,uO,eH] at hm;obtain⟨io,hio,m',hm',rfl⟩:=hm;obtain⟨c1,c2,c3,c4⟩:=mF hio;obtain⟨G,rfl,h1,h2,h3,I,x⟩:=hs;have hw:=yD c2 h3;have run:cR P io.op e H G.c (λv H' c'=>eU P m' (put e io.dst v) H' c' (Q .normal))->o.wp P a w (wpList P ops (gI G0 H0 w0 n Q) l) (gI G0 H0 w0 n Q):=λk=>
   A0 rfl c1 I h3 k λv w' ⟨av,H',G',k',x',I',r⟩=>by
    rw[c3] at k';exact ih m' hm' _ _ _ _ _ (St.step h1 h2 h3 I x hH0 c4 x' I' r) k'
  have skip:eU P m' (put e io.dst .dS) H G.c (Q .normal)->wpList P ops (gI G0 H0 w0 n Q) l (a.put o.dst undef) w:=λk=>by
   rw[c3] at k;exact ih m' hm' _ _ _ _ _ (St.step h1 h2 h3 I x hH0 c4 (Ext.refl _ _ _) I .dS) k
  refine wpList_step λK hK=>?_;simp only[eU] at hk;cases hg:io.guard with
  |none=>
   rw[hg] at hk hw;simp only[mR] at hk hw;rw[hw,if_pos rfl];exact Oper.wp_mono (λa w h=>hK a w h) (run hk)
  |some p=>
   obtain⟨d,want⟩:=p;rw[hg] at hk hw;simp only[mR] at hk hw;cases hed:e d<;>rw[hed] at hk<;>simp only[jO] at hk<;>first
    |exact hk.elim
    |skip
   .rename_i b;rw[hw.1 b hed];by_cases hb:b=want
    .subst hb;rw[beq_self_eq_true,if_pos rfl];exact Oper.wp_mono (λa w h=>hK a w h) (run (hk.1 rfl))
    .rw[if_neg (by simpa using hb)];exact hK _ _ (skip (hk.2 hb))
   .rw[hw.2 hed,if_neg (by simp)];exact hK _ _ (skip hk)
def NP (p:Nat->Prop) (h:∃n,p n):∃n,p n/\∀m,p m->n<=m:=by
 obtain⟨n,Z⟩:=h
 induction n using Nat.strongRecOn with
 |_ n T=>
  by_cases E:∃m,m<n/\p m
  .obtain⟨m,J,W⟩:=E;exact T m J W
  .exact⟨n,Z,λm J=>by
    rcases iA m n with h|h
    .exact absurd ⟨m,h,J⟩ E
    .exact h⟩
open Classical in
noncomputable def least (p:Nat->Prop):Nat:=if h:∃n,p n then Classical.choose (NP p h) else 0
def IW {p:Nat->Prop} (h:∃n,p n):p (least p):=by unfold least;rw[dif_pos h];exact(LU (NP p h)).1
def least_le {p:Nat->Prop} {n} (h:p n):least p<=n:=by unfold least;rw[dif_pos ⟨n,h⟩];exact(LU (NP p ⟨n,h⟩)).2 n h
def St.drop {e} {H E:aC} {c} {a} {w} (h:St G0 H0 w0 n e H c a w) (hs:E.Sublist H):St G0 H0 w0 n e E c a w:=by obtain⟨G,W,T,J,E,I,x⟩:=h;exact⟨G,W,T,J,E,I.drop hs,x.drop hs⟩
def ir_sound (Z:∀t,t∈aV H0->t<G0.c):∀(E:Code) (W:IR),comp P n E=some W->∀(Q:kU),(∀x e H c,¬Q (.panic x) e H c)->∀(e:Env) (H:aC) (c:Nat) (a:Act) (w:World),
  St G0 H0 w0 n e H c a w->cC P W Q e H c->E.wp P (gI G0 H0 w0 n Q) a w:=by
 intro E
 induction E with
 |skip=>intro W h Q hP e H c a w T J;simp only[comp] at h;cases h;exact wp_skip ⟨e,H,c,J,T⟩
 |ret=>intro W h Q hP e H c a w T J;simp only[comp] at h;cases h;exact wp_ret ⟨e,H,c,J,T⟩
 |exit id=>intro W h Q hP e H c a w T J;simp only[comp] at h;cases h;exact wp_exit ⟨e,H,c,J,T⟩
 |region id ops E=>
  intro W h Q hP e H c a w T J;cases E with
  |true=>
   simp only[comp] at h;split at h
   .rename_i E;simp only[eY] at E;exact draw_comp Z h E.1.2 E.1.1 E.2 hP T J
   .cases h
  |false=>
   simp only[comp,gX,dK,eH] at h;obtain⟨m,E,rfl⟩:=h;exact wp_region_list (ops_sound Z ops.toList m E e H c a w T J)
 |seq x y E Z=>
  intro W h Q hP e H c a w T J;simp only[comp,gX,dK,eH] at h;obtain⟨ix,hx,iy,hy,rfl⟩:=h;refine wp_seq (RH (λex a' w' hq=>?_) (E ix hx (iO (cC P iy Q) Q) (λx e H c q=>hP x e H c q) e H c a w T J));obtain⟨e',H',c',q,E⟩:=hq;cases ex<;>first
   |exact Z iy hy Q hP e' H' c' a' w' E q
   |exact⟨e',H',c',q,E⟩
 |cond x a b iha Z=>
  intro W h Q hP e H c ac w T J;simp only[comp,gX,dK,eH] at h;obtain⟨u,hu,ia,ha,ib,hb,rfl⟩:=h;simp only[cC] at J;obtain⟨G,rfl,h1,h2,h3,I,x'⟩:=T;have r:=eJ h3 hu;generalize ev e u=au at J r;generalize hv:ac.eval x=v at r;cases r<;>simp only[xL] at J<;>first
   |exact J.elim
   |skip
  exact wp_cond_split hv (λht=>iha ia ha Q hP e H G.c ac w ⟨G,rfl,h1,h2,h3,I,x'⟩ (J.1 ht)) (λht=>Z ib hb Q hP e H G.c ac w ⟨G,rfl,h1,h2,h3,I,x'⟩ (J.2 ht))
 |block id b Z=>
  intro W h Q hP e H c a w T J;simp only[comp,gX,dK,eH] at h;obtain⟨ib,hb,rfl⟩:=h;refine wp_block (RH (λex a' w' hq=>?_) (Z ib hb (uF id Q) (λx e H c q=>hP x e H c q) e H c a w T J));obtain⟨e',H',c',q,E⟩:=hq;cases ex<;>first
   |exact⟨e',H',c',q,E⟩
   |(simp only[uF] at q
     simp only[Exit.inBlock];split
     .rename_i hid;rw[if_pos hid] at q;exact⟨e',H',c',q,E⟩
     .rename_i hid;rw[if_neg hid] at q;exact⟨e',H',c',q,E⟩)
 |loop b Z=>
  intro W h Q hP e H c a w T J;simp only[comp,gX,dK,eH] at h;obtain⟨ib,hb,rfl⟩:=h;obtain⟨I,μ,⟨Hs,hsub,hI⟩,hround⟩:=J;refine wp_loop (λa w=>∃e H c,I e H c/\St G0 H0 w0 n e H c a w) (λa w=>least λk=>∃e H c,I e H c/\St G0 H0 w0 n e H c a w/\μ e H c=k) ⟨e,Hs,c,hI,T.drop hsub⟩ λa w J=>?_;obtain⟨e1,H1,c1,hi1,T⟩:=J;obtain⟨e2,H2,c2,hi2,J,hμ⟩:=IW (p:=λk=>∃e H c,I e H c/\St G0 H0 w0 n e H c a w/\μ e H c=k) ⟨_,e1,H1,c1,hi1,T,rfl⟩;refine RH (λex a' w' hq=>?_) (Z ib hb (iO _ Q) (λx e H c q=>hP x e H c q) e2 H2 c2 a w J (hround e2 H2 c2 hi2));obtain⟨e',H',c',q,E⟩:=hq;cases ex<;>first
   |exact⟨e',H',c',q,E⟩
   |(obtain⟨H'',J,T,hlt⟩:=q
     refine⟨⟨e',H'',c',T,E.drop J⟩,?_⟩;refine rV (least_le (p:=λk=>∃e H c,I e H c/\St G0 H0 w0 n e H c a' w'/\μ e H c=k) ⟨e',H'',c',T,E.drop J,rfl⟩) ?_;rw[<-hμ];exact hlt)
 |rangeFunc f E E b iha Z=>intro W h;simp[comp] at h
 |scope b Z=>intro W h;simp[comp] at h
 |label l=>intro W h;simp[comp] at h
 |goto l=>intro W h;simp[comp] at h
 |refuse E=>intro W h;simp[comp] at h
end
abbrev o (d:Nat) (op:dV):b7:=⟨some d,op,none⟩
abbrev st (op:dV):b7:=⟨none,op,none⟩
abbrev og (d:Nat) (op:dV) (g:Nat) (b:Bool):b7:=⟨some d,op,some (g,b)⟩
inductive RV where
 |tmp (t:Nat)
 |cell (a:Nat) (ag:Option Nat)
def mZ:aF RV->Env->aC->(aF AV->Prop)->Prop
 |[],_,_,K=>K []
 |.tmp t::E,e,H,K=>mZ E e H λl=>K (e t::l)
 |.cell a J::E,e,H,K=>lI J (e a) H λv=>mZ E e H λl=>K (v::l)
def oneOf:aF AV->AV
 |[v]=>v
 |l=>.aX l
structure FG (S:aC) (o o':aH):Prop where
 mp:o'.mp=o.mp
 tag:o'.tag=o.tag
 w:o'.w=o.w
 len:o'.aN.length=o.aN.length
 maps:o.mp=true->o'.aN=o.aN
 aM:∀(r:Nat) (x x':List AV),o.aN[r]?=some x->o'.aN[r]?=some x'->x'.length=x.length/\∀(j:Nat) (a a':AV),x[j]?=some a->x'[j]?=some a'->a'=a\/(a'.cell=true/\View S a a')
def FG.refl S o:FG S o o:=
 ⟨rfl,rfl,rfl,rfl,λ_=>rfl,λr x E J E=>by rw[J] at E;cases E;exact⟨rfl,λj a E J E=>by rw[J] at E;cases E;exact .inl rfl⟩⟩
inductive rR (S:aC):aC->aC->Prop
 |nil:rR S [] []
 |cons {o o':aH} {l l':aC} (h:FG S o o') (t:rR S l l'):rR S (o::l) (o'::l')
def rR.refl S:∀l,rR S l l
 |[]=>.nil
 |o::l=>.cons (.refl S o) (rR.refl S l)
def rR.CX {S l l'} (h:rR S l l'):aV l'=aV l:=by
 induction h with
 |nil=>rfl
 |cons h t E=>simp only[aV,gJ] at E ⊢;rw[h.tag,E]
def rR.of_mem {S l l'} (h:rR S l l') {J} (E:J∈l'):∃o,o∈l/\FG S o J:=by
 induction h with
 |nil=>cases E
 |cons h t J=>
  rcases fK.1 E with rfl|E
  .exact⟨_,kB ..,h⟩
  .obtain⟨o,W,T⟩:=J E;exact⟨o,iI _ W,T⟩
def kA.HQ {G:Gh} {H S:aC} {h:Array Obj} {o E:aH} (I:Inv G H h) (hS:∀o,o∈S->o∈H) (k:kA G h o) (r:FG S o E):kA (G.freeze S) h E where
 c:=by rw[r.tag];exact k.c
 oC hm:=by
  obtain⟨c,e,E,h1,h2,h3,Z,h5,h6⟩:=k.oC (r.mp▸hm);refine⟨c,e,E,by rw[r.tag];exact h1,by rw[r.w];exact h2,by rw[r.len,r.w];exact h3,by rw[r.len];exact Z,λi E J=>?_,λi j E a' J W=>?_⟩
  .obtain⟨aM,T⟩:=pA r.len.symm J;rw[(r.aM i aM E T J).1,h5 i aM T,r.w]
  .obtain⟨aM,T⟩:=pA r.len.symm J;obtain⟨e1,e2⟩:=r.aM i aM E T J;obtain⟨a,E⟩:=pA e1.symm W;obtain⟨v,hv,hc,J⟩:=h6 i j aM a T E;rw[r.w];rcases e2 j a a' E W with rfl|⟨E,W⟩
   .exact⟨v,hv,hc,J.ext (fH.freeze G S h)⟩
   .exact⟨v,hv,E,W.rep I hS J⟩
 sJ hm:=by have J:o.mp=true:=r.mp▸hm;obtain⟨W,E,h1,h2,h3,Z⟩:=k.sJ J;rw[r.tag,r.maps J];refine⟨W,E,h1,h2,h3,λi aM T=>?_⟩;obtain⟨W,v,en,e1,e2,J,E⟩:=Z i aM T;exact⟨W,v,en,e1,e2,J.ext (fH.freeze G S h),E.ext (fH.freeze G S h)⟩
def Inv.HQ {G:Gh} {H S Hk T} {h} (I:Inv G H h) (E:∀o,o∈Hk->o∈H) (Z:∀o,o∈S->o∈H) (J:Inv (G.freeze S) Hk h) (r:rR S Hk T):Inv (G.freeze S) T h where
 fz:=J.fz
 obj o' ho':=by
  obtain⟨o,W,T⟩:=r.of_mem ho';exact(I.obj o (E o W)).HQ I Z T
 nY:=by rw[r.CX];exact J.nY
 nodup:=by rw[r.CX];exact J.nodup
 inj:=by rw[r.CX];exact J.inj
 gl:=J.gl
def cE (Q:aD) (v:AV) (H:aC) (c:Nat):Prop:=
 ∃(S J E:aC) (T:AV),J.Sublist H/\rR S J E/\(∀o,o∈S->o∈H)/\(∀t,t∈aV J->t∉aV S)/\View S v T/\Q T E c
def yN (rs:aF RV) (Q:aD):kU
 |.normal,e,H,c=>mZ rs e H λl=>cE Q (oneOf l) H c
 |.ret,e,H,c=>mZ rs e H λl=>cE Q (oneOf l) H c
 |_,_,_,_=>False
def AX (rs:aF RV) (R:aD):kU
 |.normal,e,H,c=>mZ rs e H λl=>R (oneOf l) H c
 |.ret,e,H,c=>mZ rs e H λl=>R (oneOf l) H c
 |_,_,_,_=>False
def retQ_R rs (Q:aD):yN rs Q=AX rs (cE Q):=by funext x e H c;cases x<;>rfl
def pU (Q:aD) (v:AV) (H:aC) (c:Nat):Prop:=(aV H).Nodup->(∀t,t∈aV H->t<c)->cE Q v H c
def xM (P:Program):aF ResultVar->Option (aF RV)
 |[]=>some []
 |.tmp t::l=>do some (.tmp t::(<-xM P l))
 |.cell a t::l=>do let ag<-sW P t;some (.cell a ag::(<-xM P l))
structure zM where
 n:Nat
 ir:IR
 rs:List RV
def xO (P:Program) (f:Nat):Option zM:=do
 let fn<-P.funcs[f]?
 let code<-fn.body
 let ir<-comp P fn.ntmps code
 let rs<-xM P fn.results.toList
 some ⟨fn.ntmps,ir,rs⟩
def gZ (E:aF AV):Env:=λt=>E.getD t .dS
section
variable {P:Program} {G:Gh} {H:aC} {w:World} {a:Act} {e:Env}
def HP (tmps:Array Value):ResultVar->Sem Value
 |.tmp t=>pure (tmps.getD t undef)
 |.cell x t=>do loadVar t (<-asAddr (tmps.getD x undef))
def results_eq (E:Func) (tmps:Array Value):results E tmps=(do let vs<-E.results.mapM (HP tmps);pure (if h:vs.size=1 then vs[0] else .tuple vs)):=by unfold results;congr 1
def res_sound (I:Inv G H w.heap) (hE:kT G w.heap a e):∀(l:aF ResultVar) (E:aF RV) (K:aF AV->Prop),xM P l=some E->mZ E e H K->
  ∃(J:aF Value) (Z:aF AV),(l.mapM (HP a.tmps)).run P w=.ok J w/\J.length=Z.length/\(∀(j:Nat) (v:Value) (b:AV),J[j]?=some v->Z[j]?=some b->bJ G w.heap v b)/\K Z:=by
 intro l
 induction l with
 |nil=>intro E K h k;simp only[xM] at h;cases h;exact⟨[],[],by simp,rfl,by simp,k⟩
 |cons r l ih=>
  intro E K h k;cases r with
  |tmp t=>
   simp only[xM,gX,dK,eH] at h;obtain⟨T,h',rfl⟩:=h;obtain⟨J,Z,h1,h2,h3,h4⟩:=ih T _ h' k;refine⟨a.tmps.getD t undef::J,e t::Z,?_,by simp[h2],λj v b E W=>?_,h4⟩
   .simp only[oQ,HP,cP,dC,dL,h1]
   .cases j with
    |zero=>simp only[List.getElem?_cons_zero,eH] at E W;subst E;subst W;exact hE t
    |succ j=>exact h3 j v b (by simpa using E) (by simpa using W)
  |cell x t=>
   simp only[xM,gX,dK,eH] at h;obtain⟨ag,hag,T,h',rfl⟩:=h;simp only[mZ] at k;obtain⟨u,av,hu,k',r⟩:=VR (P:=P) I hag (hE x) k;obtain⟨J,Z,h1,h2,h3,h4⟩:=ih T _ h' k';have T:(do loadVar t (<-asAddr (a.tmps.getD x undef)):Sem Value).run P w=.ok u w:=by
    generalize E:a.tmps.getD x undef=xv at hu;cases xv<;>first
     |(rename_i p;cases p<;>first
       |exact hu
       |(simp[Instr.loadAt,Instr.sureAddr] at hu))
     |(simp[Instr.loadAt,Instr.sureAddr] at hu)
   refine⟨u::J,av::Z,?_,by simp[h2],λj v b E W=>?_,h4⟩
   .have J:(HP a.tmps (.cell x t)).run P w=.ok u w:=T;simp only[oQ,cP,J,dC,dL,h1]
   .cases j with
    |zero=>simp at E W;subst E;subst W;exact r
    |succ j=>exact h3 j v b (by simpa using E) (by simpa using W)
def ZJ {f:Nat} {F:zM} {args:aF AV} {c:Nat} {Q R:aD} (hf:xO P f=some F) (hl:args.length<=F.n) (hR:∀v H c,(aV H).Nodup->(∀t,t∈aV H->t<c)->R v H c->cE Q v H c)
  (hk:(aV H).Nodup->(∀t,t∈aV H->t<c)->cC P F.ir (AX F.rs R) (gZ args) H c):cA P f args H c Q:=by
 unfold xO at hf;simp only[gX,dK,eH] at hf;obtain⟨fn,hfn,code,hcode,ir,hir,rs,hrs,rfl⟩:=hf;intro G w vs hc I hs hr;subst hc;have hE:kT G w.heap {tmps:=vs++Array.replicate (fn.ntmps-vs.size) undef,defers:=[]} (gZ args):=λt=>by
  by_cases ht:t<args.length
  .have h1:=hr t args[t] (bC ht);have h2:(vs++Array.replicate (fn.ntmps-vs.size) undef).getD t undef=vs.getD t undef:=mO (by rw[AA (by omega)];exact nW (by omega));have h3:gZ args t=args[t]:=by simp[gZ,ht]
   rw[h2,h3];exact h1
  .have h2:(vs++Array.replicate (fn.ntmps-vs.size) undef).getD t undef=undef:=by
    by_cases h:t<(vs++Array.replicate (fn.ntmps-vs.size) undef).size
    .refine mO ?_;rw[Array.getElem?_append_right (by omega),Array.getElem?_replicate,if_pos (by simp at h;omega)]
    .unfold Array.getD;rw[dif_neg h]
   have h3:gZ args t=.dS:=by simp[gZ,List.getD,CR (Nat.le_of_not_lt ht)]
   rw[h2,h3];exact .dS
 have hl':args.length<=fn.ntmps:=hl;have hst:St G H w fn.ntmps (gZ args) H G.c {tmps:=vs++Array.replicate (fn.ntmps-vs.size) undef,defers:=[]} w:=
  ⟨G,rfl,rfl,by simp;omega,hE,I,Ext.refl _ _ _⟩
 refine calls_of_wp hfn hcode (RH (λex a w' hq=>?_) (ir_sound (R9 I) code ir hir _ (λ_ _ _ _ q=>q) _ _ _ _ _ hst (hk I.nodup λt ht=>I.lt ht)));have fin:∀(e:Env) (H':aC) (c:Nat),mZ rs e H' (λl=>R (oneOf l) H' c)->St G H w fn.ntmps e H' c a w'->
   a.defers=[]/\∃v,(results fn a.tmps).run P w'=.ok v w'/\∃v' res H'' G',Ending.returned v=.returned v'/\Q res H'' G'.c/\Ext G H w G' H'' w'/\Inv G' H'' w'.heap/\bJ G' w'.heap v' res:=λe H' c q ⟨G1,hc1,hd,hsz,hE1,I1,x1⟩=>by
  subst hc1;obtain⟨us,as0,h1,h2,h3,hq⟩:=res_sound (P:=P) I1 hE1 fn.results.toList rs _ hrs q;obtain⟨S,Hk,Hk',v',q1,qr,q2,q3,q4,q5⟩:=hR _ _ _ I1.nodup (λt ht=>I1.lt ht) hq;refine⟨hd,?_⟩;have hres:(results fn a.tmps).run P w'=.ok (if h:us.toArray.size=1 then us.toArray[0] else .tuple us.toArray) w':=by
   rw[results_eq,Array.mapM_eq_mapM_toList];simp only[cP,Sem.run_map,h1,dL,dC]
  have hrep:bJ G1 w'.heap (if h:us.toArray.size=1 then us.toArray[0] else .tuple us.toArray) (oneOf as0):=by
   match us,as0,h2,h3 with
   |[],[],_,_=>exact .aX rfl (by simp)
   |[u],[b],_,h3=>exact h3 0 u b rfl rfl
   |u::u'::us,b::b'::as0,h2,h3=>
    have:¬(u::u'::us).toArray.size=1:=by simp
    rw[dif_neg this];refine .aX (by simpa using h2) λj x hj=>?_;have hjl:j<(u::u'::us).length:=by rw[h2];exact(bQ.1 hj).1
    have:=h3 j _ x (bC hjl) hj;rw[mO (v:=(u::u'::us)[j]) (by rw[LM];exact bC hjl)];exact this
  refine⟨_,hres,_,v',Hk',G1.freeze S,rfl,q5,?_,I1.HQ q1.subset q2 (I1.freeze q1 q2 q3) qr,q4.rep I1 q2 hrep⟩;have hS:∀t,t∈aV S->t∈aV H':=λt ht=>by obtain⟨o,ho,rfl⟩:=qF ht;exact iJ (q2 o ho)
  exact⟨x1.x.trans (fH.freeze _ _ _),x1.os,x1.tape,x1.output,x1.size,x1.frame,x1.mL,λt h1 h2=>x1.j6 t h1 ((q1.map _).subset (by rw[qr.CX] at h2;exact h2)),λt h1 h2=>by
   rcases h2 with h2|h2
   .exact x1.nV t h1 h2
   .exact .inr (x1.j6 t h1 (hS t h2))⟩
 obtain⟨e,H',c,q,hs'⟩:=hq;cases ex<;>simp only[AX] at q<;>first
  |exact q.elim
  |exact fin e H' c q hs'
def ZK {f} {F:zM} {E:aF AV} {c} {Q:aD} (W:xO P f=some F) (T:E.length<=F.n) (J:cC P F.ir (yN F.rs Q) (gZ E) H c):cA P f E H c Q:=
 ZJ W T (λ_ _ _ _ _ h=>h) λ_ _=>by rw[retQ_R] at J;exact J
def con_ofN {f} {F:zM} {E:aF AV} {c} {Q:aD} (W:xO P f=some F) (J:E.length<=F.n)
  (T:(aV H).Nodup->(∀t,t∈aV H->t<c)->cC P F.ir (AX F.rs (pU Q)) (gZ E) H c):cA P f E H c Q:=
 ZJ W J (λ_ _ _ J E h=>h J E) T
end
structure Tok {α:Sort _} (a:α):Type where
def Lz {α:Sort _} (K:α->Prop) (_:Tok K):α->Prop:=K
def sY {α β γ:Sort _} (K:α->β->γ->Prop) (_:Tok K):α->β->γ->Prop:=K
def gW (p:Prop) (_:Tok p):Prop:=p
@[simp] theorem Lz_app {α} (K:α->Prop) (u:Tok K) (v:α):Lz K u v=K v:=(rfl)
@[simp] theorem Lz3_app {α β γ} (K:α->β->γ->Prop) (u:Tok K) (v:α) (x:β) (y:γ):sY K u v x y=K v x y:=(rfl)
section
variable {P:Program} {e:Env} {H:aC} {c:Nat} {K:aD} {Q:kU}
@[simp] theorem ev_t n:ev e (.t n)=e n:=(rfl)
@[simp] theorem ev_c v:ev e (.c v)=v:=(rfl)
def upd_at {α:Type} (f:Nat->α) i j (v:α):aK f i v j=if j=i then v else f j:=(rfl)
@[simp] theorem upd_other {α:Type} (f:Nat->α) i j (v:α) (h:(j==i)=false):aK f i v j=f j:=by rw[upd_at,if_neg (by simpa using h)]
@[simp] theorem env0_0 a l:gZ (a::l) 0=a:=(rfl)
@[simp] theorem env0_1 a b l:gZ (a::b::l) 1=b:=(rfl)
@[simp] theorem env0_2 a b d l:gZ (a::b::d::l) 2=d:=(rfl)
@[simp] theorem env0_3 a b d f l:gZ (a::b::d::f::l) 3=f:=(rfl)
@[simp ↓] theorem opsW_nil (K:Env->aC->Nat->Prop):eU P [] e H c K=K e H c:=(rfl)
@[simp ↓] theorem opsW_o d op l (K:Env->aC->Nat->Prop):eU P (o d op::l) e H c K=cR P op e H c (sY (λv J E=>eU P l (aK e d v) J E K) ⟨⟩):=(rfl)
@[simp ↓] theorem opsW_st op l (K:Env->aC->Nat->Prop):eU P (st op::l) e H c K=cR P op e H c (sY (λ_ J E=>eU P l e J E K) ⟨⟩):=(rfl)
@[simp ↓] theorem opsW_og d op g b l (K:Env->aC->Nat->Prop):
  eU P (og d op g b::l) e H c K=jO (e g) b (gW (cR P op e H c (sY (λv J E=>eU P l (aK e d v) J E K) ⟨⟩)) ⟨⟩) (gW (eU P l (aK e d .dS) H c K) ⟨⟩):=(rfl)
@[simp ↓] theorem opsD_nil (R:Nat->AV->Prop) (K:Env->Prop):oU P R [] e H c K=K e:=(rfl)
@[simp ↓] theorem opsD_o (R:Nat->AV->Prop) d op l (K:Env->Prop):oU P R (o d op::l) e H c K=rD P (R d) op e H c (Lz (λv=>oU P R l (aK e d v) H c K) ⟨⟩):=(rfl)
@[simp ↓] theorem opD_callF (R:AV->Prop) f (as0:aF cW) (K:AV->Prop):rD P R (.uE f as0) e H c K=J8 P R f (as0.map (ev e)) H c K:=(rfl)
@[simp ↓] theorem opD_mv (R:AV->Prop) x (K:AV->Prop):rD P R (.mv x) e H c K=cR P (.mv x) e H c (sY (λv _ _=>K v) ⟨⟩):=(rfl)
@[simp ↓] theorem opD_load (R:AV->Prop) ag x (K:AV->Prop):rD P R (.load ag x) e H c K=cR P (.load ag x) e H c (sY (λv _ _=>K v) ⟨⟩):=(rfl)
@[simp ↓] theorem opD_nilck (R:AV->Prop) x (K:AV->Prop):rD P R (.tN x) e H c K=cR P (.tN x) e H c (sY (λv _ _=>K v) ⟨⟩):=(rfl)
@[simp ↓] theorem opD_bin (R:AV->Prop) (b:BinOp) x y (K:AV->Prop):rD P R (.bin b x y) e H c K=cR P (.bin b x y) e H c (sY (λv _ _=>K v) ⟨⟩):=(rfl)
@[simp ↓] theorem opD_faddr (R:AV->Prop) k x (K:AV->Prop):rD P R (.tY k x) e H c K=cR P (.tY k x) e H c (sY (λv _ _=>K v) ⟨⟩):=(rfl)
@[simp ↓] theorem opD_iaddr (R:AV->Prop) w x i (K:AV->Prop):rD P R (.tU w x i) e H c K=cR P (.tU w x i) e H c (sY (λv _ _=>K v) ⟨⟩):=(rfl)
@[simp ↓] theorem opD_extract (R:AV->Prop) x i (K:AV->Prop):rD P R (.extract x i) e H c K=cR P (.extract x i) e H c (sY (λv _ _=>K v) ⟨⟩):=(rfl)
@[simp ↓] theorem irW_draw ops:cC P (.draw ops) Q e H c=∃R,oU P R ops e H c λJ=>∀E,c<=E->Q .normal J H E:=(rfl)
@[simp ↓] theorem irW_skip:cC P .skip Q e H c=Q .normal e H c:=(rfl)
@[simp ↓] theorem irW_reg ops:cC P (.nA ops) Q e H c=eU P ops e H c (Q .normal):=(rfl)
@[simp ↓] theorem irW_seq a b:cC P (.seq a b) Q e H c=cC P a (iO (cC P b Q) Q) e H c:=(rfl)
@[simp ↓] theorem irW_cond x a b:cC P (.cond x a b) Q e H c=xL (ev e x) (gW (cC P a Q e H c) ⟨⟩) (gW (cC P b Q e H c) ⟨⟩):=(rfl)
@[simp ↓] theorem irW_block id b:cC P (.block id b) Q e H c=cC P b (uF id Q) e H c:=(rfl)
@[simp ↓] theorem irW_exit id:cC P (.exit id) Q e H c=Q (.exit id) e H c:=(rfl)
@[simp ↓] theorem irW_ret:cC P .ret Q e H c=Q .ret e H c:=(rfl)
@[simp ↓] theorem jN a b:cC P (.alt a b) Q e H c=(cC P a Q e H c/\cC P b Q e H c):=(rfl)
@[simp high] theorem condW_true (a b:Prop) (u v):xL (.bool true) (gW a u) (gW b v)=a:=by simp[xL,gW]
@[simp high] theorem condW_false (a b:Prop) (u v):xL (.bool false) (gW a u) (gW b v)=b:=by simp[xL,gW]
@[simp] theorem condW_bool t (a b:Prop) (u v):xL (.bool t) (gW a u) (gW b v)=((t=true->a)/\(t=false->b)):=(rfl)
@[simp] theorem thenQ_normal (N:Env->aC->Nat->Prop):iO N Q .normal e H c=N e H c:=(rfl)
@[simp] theorem thenQ_ret (N:Env->aC->Nat->Prop):iO N Q .ret=Q .ret:=(rfl)
@[simp] theorem thenQ_exit (N:Env->aC->Nat->Prop) i:iO N Q (.exit i)=Q (.exit i):=(rfl)
@[simp] theorem blockQ_normal id:uF id Q .normal=Q .normal:=(rfl)
@[simp] theorem blockQ_ret id:uF id Q .ret=Q .ret:=(rfl)
@[simp] theorem blockQ_exit id i:uF id Q (.exit i) e H c=(if i=id then Q .normal e H c else Q (.exit i) e H c):=(rfl)
@[simp] theorem retQ_ret rs (R:aD):yN rs R .ret e H c=mZ rs e H λl=>cE R (oneOf l) H c:=(rfl)
@[simp] theorem retR_ret rs (R:aD):AX rs R .ret e H c=mZ rs e H λl=>R (oneOf l) H c:=(rfl)
@[simp] theorem retQ_normal rs (R:aD):yN rs R .normal e H c=mZ rs e H λl=>cE R (oneOf l) H c:=(rfl)
@[simp] theorem resW_nil (R:aF AV->Prop):mZ [] e H R=R []:=(rfl)
@[simp] theorem resW_tmp t rs (R:aF AV->Prop):mZ (.tmp t::rs) e H R=mZ rs e H λl=>R (e t::l):=(rfl)
@[simp] theorem resW_cell a ag rs (R:aF AV->Prop):mZ (.cell a ag::rs) e H R=lI ag (e a) H λv=>mZ rs e H λl=>R (v::l):=(rfl)
@[simp] theorem oneOf_one v:oneOf [v]=v:=(rfl)
@[simp] theorem oneOf_two v u l:oneOf (v::u::l)=.aX (v::u::l):=(rfl)
@[simp ↓] theorem opW_mv x:cR P (.mv x) e H c K=K (ev e x) H c:=(rfl)
@[simp ↓] theorem opW_pick x a b:cR P (.pick x a b) e H c K=DG (ev e x) (ev e a) (ev e b) (Lz (λv=>K v H c) ⟨⟩):=(rfl)
@[simp ↓] theorem opW_new w z:cR P (.new w z) e H c K=K (.ptr H.length c w 0 0) (H++[⟨false,c,w,[z]⟩]) (c+1):=(rfl)
@[simp ↓] theorem opW_box w x:cR P (.box w x) e H c K=J9 (ev e x) H c K:=(rfl)
@[simp ↓] theorem opW_build z (ps:aF (Nat×Nat×cW)):cR P (.build z ps) e H c K=pD z (ps.map λ(o,n,x)=>(o,n,ev e x)) λl=>K (.agg l) H c:=(rfl)
@[simp ↓] theorem opW_bslice w z n (ps:aF (Nat×cW)):cR P (.zE w z n ps) e H c K=zD w z n (ps.map λ(i,x)=>(i,ev e x)) H c K:=(rfl)
@[simp ↓] theorem opW_load ag x:cR P (.load ag x) e H c K=lI ag (ev e x) H (Lz (λv=>K v H c) ⟨⟩):=(rfl)
@[simp ↓] theorem opW_chk ag x y:cR P (.vP ag x y) e H c K=lI ag (ev e x) H (Lz (λv=>v=ev e y/\K .dS H c) ⟨⟩):=(rfl)
@[simp ↓] theorem opW_store n a x:cR P (.store n a x) e H c K=C3 n (ev e a) (ev e x) H c K:=(rfl)
@[simp ↓] theorem opW_nilck x:cR P (.tN x) e H c K=vE (ev e x) (Lz (λv=>K v H c) ⟨⟩):=(rfl)
@[simp ↓] theorem opW_bin (op:BinOp) x y:cR P (.bin op x y) e H c K=sT op (ev e x) (ev e y) (Lz (λv=>K v H c) ⟨⟩):=(rfl)
@[simp ↓] theorem opW_binb (op:BinOp) x y:cR P (.xQ op x y) e H c K=CC op (ev e x) (ev e y) (Lz (λv=>K v H c) ⟨⟩):=(rfl)
@[simp ↓] theorem opW_beq n ks x y:cR P (.beq n ks x y) e H c K=xR n ks (ev e x) (ev e y) (Lz (λv=>K v H c) ⟨⟩):=(rfl)
@[simp ↓] theorem opW_un (op:UnOp) x:cR P (.un op x) e H c K=yE op (ev e x) (Lz (λv=>K v H c) ⟨⟩):=(rfl)
@[simp ↓] theorem opW_toInt (k:IntKind) x:cR P (.toInt k x) e H c K=AJ k (ev e x) (Lz (λv=>K v H c) ⟨⟩):=(rfl)
@[simp ↓] theorem opW_toStr x:cR P (.toStr x) e H c K=sC (ev e x) H (Lz (λv=>K v H c) ⟨⟩):=(rfl)
@[simp ↓] theorem opW_toBytes x:cR P (.AL x) e H c K=AK (ev e x) H c K:=(rfl)
@[simp ↓] theorem opW_mkmap:cR P .DR e H c K=K (.jG H.length c) (H++[⟨true,c,0,[]⟩]) (c+1):=(rfl)
@[simp ↓] theorem opW_sliceS x (l h:Option cW):cR P (.wK x l h) e H c K=yK (ev e x) (l.map (ev e)) (h.map (ev e)) (Lz (λv=>K v H c) ⟨⟩):=(rfl)
@[simp ↓] theorem opW_slice w x (l h:Option cW):cR P (.slice w x l h) e H c K=qX w (ev e x) (l.map (ev e)) (h.map (ev e)) (Lz (λv=>K v H c) ⟨⟩):=(rfl)
@[simp ↓] theorem opW_faddr o x:cR P (.tY o x) e H c K=vN o (ev e x) (Lz (λv=>K v H c) ⟨⟩):=(rfl)
@[simp ↓] theorem opW_iaddr w x i:cR P (.tU w x i) e H c K=sP w (ev e x) (ev e i) (Lz (λv=>K v H c) ⟨⟩):=(rfl)
@[simp ↓] theorem opW_index x i:cR P (.index x i) e H c K=BI (ev e x) (ev e i) (Lz (λv=>K v H c) ⟨⟩):=(rfl)
@[simp ↓] theorem opW_lookup d z k m x:cR P (.lookup d z k m x) e H c K=rG (D4 d) z k (ev e m) (ev e x) H (Lz (λv=>K v H c) ⟨⟩):=(rfl)
@[simp ↓] theorem opW_mupd d m k v:cR P (.IL d m k v) e H c K=A6 (D4 d) (ev e m) (ev e k) (ev e v) H c K:=(rfl)
@[simp ↓] theorem opW_lenS x:cR P (.wY x) e H c K=wX (ev e x) (Lz (λv=>K v H c) ⟨⟩):=(rfl)
@[simp ↓] theorem opW_lenL x:cR P (.wZ x) e H c K=oV (ev e x) (Lz (λv=>K v H c) ⟨⟩):=(rfl)
@[simp ↓] theorem opW_append w b x y:cR P (.append w b x y) e H c K=uG w b (ev e x) (ev e y) H c K:=(rfl)
@[simp ↓] theorem opW_extract x i:cR P (.extract x i) e H c K=y9 (ev e x) i (Lz (λv=>K v H c) ⟨⟩):=(rfl)
@[simp ↓] theorem opW_call f (as0:aF cW):cR P (.call f as0) e H c K=bO P f (as0.map (ev e)) H c K:=(rfl)
@[simp ↓] theorem opW_callF f (as0:aF cW):cR P (.uE f as0) e H c K=zC P f (as0.map (ev e)) H c K:=(rfl)
@[simp] theorem guardW_tt (r s:Prop) (u v):jO (.bool true) true (gW r u) (gW s v)=r:=by simp[jO,gW]
@[simp] theorem guardW_ff (r s:Prop) (u v):jO (.bool false) false (gW r u) (gW s v)=r:=by simp[jO,gW]
@[simp] theorem guardW_tf (r s:Prop) (u v):jO (.bool true) false (gW r u) (gW s v)=s:=by simp[jO,gW]
@[simp] theorem guardW_ft (r s:Prop) (u v):jO (.bool false) true (gW r u) (gW s v)=s:=by simp[jO,gW]
@[simp] theorem guardW_und b (r s:Prop) (u v):jO .dS b (gW r u) (gW s v)=s:=(rfl)
@[simp ↓] theorem getW_zero {α:Type} (x:α) (l:aF α) (K:α->Prop):aZ (x::l) 0 K=K x:=by simp[aZ]
@[simp ↓] theorem getW_succ {α:Type} (x:α) (l:aF α) n (K:α->Prop):aZ (x::l) (n+1) K=aZ l n K:=by simp[aZ]
def aL {α:Type} {l:aF α} {i:Nat} {x:α} (h:l[i]?=some x) (K:α->Prop):aZ l i K=K x:=by simp[aZ,h]
@[simp] theorem getW_map {α β:Type} (f:α->β) (l:aF α) i (K:β->Prop):aZ (l.map f) i K=aZ l i (Lz (λx=>K (f x)) ⟨⟩):=by
 show aZ (l.map f) i K=aZ l i λx=>K (f x);simp only[aZ,kL,eq_iff_iff];constructor
 .rintro⟨x,J,k⟩;simp at J;obtain⟨a,E,rfl⟩:=J;exact⟨a,E,k⟩
 .rintro⟨a,E,k⟩;exact⟨f a,by simp[E],k⟩
@[simp] theorem pickW_bool b x y (K:AV->Prop):DG (.bool b) x y K=((b=true->K x)/\(b=false->K y)):=(rfl)
@[simp] theorem boxW_agg (l:aF AV):J9 (.agg l) H c K=K (.ptr H.length c l.length 0 0) (H++[⟨false,c,l.length,[l]⟩]) (c+1):=(rfl)
@[simp] theorem cellsW_agg l (K:aF AV->Prop):lL (.agg l) K=K l:=(rfl)
@[simp] theorem cellsW_int (k:IntKind) (n:Int) (K:aF AV->Prop):lL (.int k n) K=K [.int k n]:=(rfl)
@[simp] theorem cellsW_bool b (K:aF AV->Prop):lL (.bool b) K=K [.bool b]:=(rfl)
@[simp] theorem cellsW_str l (K:aF AV->Prop):lL (.str l) K=K [.str l]:=(rfl)
@[simp] theorem cellsW_ref i t w l (K:aF AV->Prop):lL (.ref i t w l) K=K [.ref i t w l]:=(rfl)
@[simp] theorem cellsW_nsl (K:aF AV->Prop):lL .aU K=K [.aU]:=(rfl)
@[simp] theorem rowW_none aM o (K:AV->Prop):tG none aM o K=aZ aM o K:=(rfl)
@[simp] theorem rowW_some n (aM:aF AV) o (K:AV->Prop):tG (some n) aM o K=(o+n<=aM.length/\K (.agg ((aM.drop o).take n))):=(rfl)
@[simp] theorem loadW_cpt ag cells o (K:AV->Prop):lI ag (.iP cells o) H K=tG ag cells o K:=(rfl)
@[simp] theorem loadW_ptr ag i tag w r o (K:AV->Prop):lI ag (.ptr i tag w r o) H K=aZ H i λE=>E.tag=tag/\E.mp=false/\E.w=w/\aZ E.aN r λaM=>tG ag aM o K:=(rfl)
@[simp] theorem storeW_ptr n i tag w r o x:C3 n (.ptr i tag w r o) x H c K=lL x λl=>l.length=n/\aZ H i λE=>E.tag=tag/\E.mp=false/\E.w=w/\aZ E.aN r λaM=>
   o+n<=w/\K .dS (H.set i {E with aN:=E.aN.set r (aR aM o l)}) c:=(rfl)
@[simp] theorem nilckW_ptr i tag w r o (K:AV->Prop):vE (.ptr i tag w r o) K=K (.ptr i tag w r o):=(rfl)
@[simp] theorem nilckW_cpt l o (K:AV->Prop):vE (.iP l o) K=K (.iP l o):=(rfl)
@[simp] theorem faddrW_cpt off l o (K:AV->Prop):vN off (.iP l o) K=K (.iP l (o+off)):=(rfl)
@[simp] theorem faddrW_ptr off i tag w r o (K:AV->Prop):vN off (.ptr i tag w r o) K=K (.ptr i tag w r (o+off)):=(rfl)
@[simp] theorem iaddrW_slc w (k:IntKind) (n:Int) t w' aN (K:AV->Prop):sP w (.dX t w' aN) (.int k n) K=(w'=w/\0<=n/\aZ aN n.toNat λaM=>K (.iP aM 0)):=(rfl)
@[simp] theorem iaddrW_ref w (k:IntKind) (n:Int) i t w' l (K:AV->Prop):sP w (.ref i t w' l) (.int k n) K=(w'=w/\0<=n/\n<l/\K (.ptr i t w n.toNat 0)):=(rfl)
@[simp] theorem indexW_str (k:IntKind) (n:Int) l (K:AV->Prop):BI (.str l) (.int k n) K=(0<=n/\aZ l n.toNat λb=>K (.int .u8 b.toNat)):=(rfl)
@[simp] theorem SE (l:aA) lo hi (K:AV->Prop):yK (.str l) lo hi K=fP lo 0 λa=>fP hi l.length λb=>a<=b/\b<=l.length/\K (.str ((l.take b).drop a)):=(rfl)
@[simp] theorem slcSliceW_slc w t w' (aN:aF (aF AV)) lo hi (K:AV->Prop):
  qX w (.dX t w' aN) lo hi K=(w'=w/\fP lo 0 λa=>fP hi aN.length λb=>a<=b/\b<=aN.length/\K (.dX t w' ((aN.take b).drop a))):=(rfl)
@[simp] theorem S5 w i t w' l lo hi (K:AV->Prop):
  qX w (.ref i t w' l) lo hi K=(w'=w/\fP lo 0 λa=>fP hi l λb=>if a=0 then b<=l/\K (.ref i t w' b) else a<=b/\b<=l/\K (.sub i t w' a (b-a))):=(rfl)
@[simp] theorem bndW_none d (K:Nat->Prop):fP none d K=K d:=(rfl)
@[simp] theorem bndW_some d (k:IntKind) (n:Int) (K:Nat->Prop):fP (some (.int k n)) d K=(0<=n/\K n.toNat):=(rfl)
@[simp] theorem lenStrW_str (l:aA) (K:AV->Prop):wX (.str l) K=K (.I l.length):=(rfl)
@[simp] theorem lenSlcW_slc t w (aN:aF (aF AV)) (K:AV->Prop):oV (.dX t w aN) K=K (.I aN.length):=(rfl)
@[simp] theorem lenSlcW_ref i t w l (K:AV->Prop):oV (.ref i t w l) K=K (.I l):=(rfl)
@[simp ↓] theorem opW_isni neg x:cR P (.vI neg x) e H c K=BG neg (ev e x) (Lz (λv=>K v H c) ⟨⟩):=(rfl)
@[simp] theorem isniW_ifc neg b (K:AV->Prop):BG neg (.mC b) K=K (.bool (b !=neg)):=(rfl)
@[simp] theorem lenSlcW_nsl (K:AV->Prop):oV .aU K=K (.I 0):=(rfl)
@[simp] theorem extractW_tup vs i (K:AV->Prop):y9 (.aX vs) i K=aZ vs i K:=(rfl)
@[simp] theorem unW_not b (K:AV->Prop):yE .not (.bool b) K=K (.bool (!b)):=(rfl)
@[simp] theorem unW_neg (k:IntKind) (n:Int) (K:AV->Prop):yE .neg (.int k n) K=K (.int k (k.wrap (0-n))):=(rfl)
@[simp] theorem toIntW_int (k E:IntKind) (n:Int) (K:AV->Prop):AJ k (.int E n) K=K (.int k (k.wrap n)):=(rfl)
@[simp] theorem fillW_nil l (K:aF AV->Prop):pD l [] K=K l:=(rfl)
@[simp] theorem fillW_cons (l:aF AV) off n v (r:aF (Nat×Nat×AV)) (K:aF AV->Prop):pD l ((off,n,v)::r) K=lL v λm=>m.length=n/\off+n<=l.length/\pD (aR l off m) r K:=(rfl)
@[simp] theorem bsliceW_eq w z n (ps:aF (Nat×AV)):zD w z n ps H c K=uZ (List.replicate n z) ps λE=>K (.ref H.length c w n) (H++[⟨false,c,w,E⟩]) (c+1):=(rfl)
@[simp] theorem rowsFillW_nil l (K:aF (aF AV)->Prop):uZ l [] K=K l:=(rfl)
@[simp] theorem rowsFillW_cons (l:aF (aF AV)) i v (r:aF (Nat×AV)) (K:aF (aF AV)->Prop):uZ l ((i,v)::r) K=lL v λm=>aZ l i λaM=>m.length=aM.length/\uZ (l.set i m) r K:=(rfl)
@[simp] theorem binW_int (op:BinOp) (k:IntKind) (a b:Int) (h:(op !=.shl&&op !=.shr)=true) (K:AV->Prop):sT op (.int k a) (.int k b) K=lJ op k a b K:=by cases op<;>first|(simp at h;done)|simp[sT]
@[simp] theorem binW_str (op:BinOp) a b (K:AV->Prop):sT op (.str a) (.str b) K=tE op a b K:=(rfl)
@[simp] theorem binbW_bool (op:BinOp) a b (K:AV->Prop):CC op (.bool a) (.bool b) K=KB op a b K:=(rfl)
def EP {α:Type} [DecidableEq α] [BEq α] [LawfulBEq α] (a b:α):(a==b)=decide (a=b):=by by_cases h:a=b<;>simp[h]
@[simp] theorem intW_add (k:IntKind) (a b:Int) (K:AV->Prop):lJ .add k a b K=K (.int k (k.wrap (a+b))):=(rfl)
@[simp] theorem intW_sub (k:IntKind) (a b:Int) (K:AV->Prop):lJ .sub k a b K=K (.int k (k.wrap (a-b))):=(rfl)
@[simp] theorem intW_mul (k:IntKind) (a b:Int) (K:AV->Prop):lJ .mul k a b K=K (.int k (k.wrap (a*b))):=(rfl)
@[simp] theorem intW_quo (k:IntKind) (a b:Int) (K:AV->Prop):lJ .quo k a b K=(b≠0/\K (.int k (k.wrap (a.tdiv b)))):=(rfl)
@[simp] theorem intW_rem (k:IntKind) (a b:Int) (K:AV->Prop):lJ .rem k a b K=(b≠0/\K (.int k (a.tmod b))):=(rfl)
@[simp] theorem intW_eql (k:IntKind) (a b:Int) (K:AV->Prop):lJ .eql k a b K=K (.bool (decide (a=b))):=by rw[<-EP];rfl
@[simp] theorem intW_neq (k:IntKind) (a b:Int) (K:AV->Prop):lJ .neq k a b K=K (.bool (!decide (a=b))):=by rw[<-EP];rfl
@[simp] theorem intW_lss (k:IntKind) (a b:Int) (K:AV->Prop):lJ .lss k a b K=K (.bool (decide (a<b))):=(rfl)
@[simp] theorem intW_leq (k:IntKind) (a b:Int) (K:AV->Prop):lJ .leq k a b K=K (.bool (decide (a<=b))):=(rfl)
@[simp] theorem intW_gtr (k:IntKind) (a b:Int) (K:AV->Prop):lJ .gtr k a b K=K (.bool (decide (a>b))):=(rfl)
@[simp] theorem intW_geq (k:IntKind) (a b:Int) (K:AV->Prop):lJ .geq k a b K=K (.bool (decide (a≥b))):=(rfl)
@[simp] theorem strW_add (a b:aA) (K:AV->Prop):tE .add a b K=(a.length+b.length<=mx/\K (.str (a++b))):=(rfl)
@[simp] theorem strW_eql a b (K:AV->Prop):tE .eql a b K=K (.bool (decide (a=b))):=by rw[<-EP];rfl
@[simp] theorem strW_neq a b (K:AV->Prop):tE .neq a b K=K (.bool (!decide (a=b))):=by rw[<-EP];rfl
@[simp] theorem strW_lss a b (K:AV->Prop):tE .lss a b K=K (.bool (Op.bytesLess a b)):=(rfl)
@[simp] theorem boolW_eql a b (K:AV->Prop):KB .eql a b K=K (.bool (a==b)):=(rfl)
@[simp] theorem Z7 neg ks x y (K:AV->Prop):xR neg ks (.agg x) (.agg y) K=(pB ks x=true/\(match oI x y with|some b=>K (.bool (b !=neg))|none=>False)):=(rfl)
def aS {Q:aD} {v} (h:Q v [] c):cE Q v H c:=
 ⟨[],[],[],v,eX H,.nil,by simp,by simp[aV],.refl v,h⟩
def fn_of {f} {F:zM} {E:aF AV} {res} (T:xO P f=some F) (J:E.length<=F.n) (h:∀c,cC P F.ir (yN F.rs λr W _=>r=res/\W=[]) (gZ E) [] c):dA P f E res:=
 λc=>ZK T J (h c)
end
end A
end Go.Proofs.YtbdgahjfipdeoaaGreatDoor
