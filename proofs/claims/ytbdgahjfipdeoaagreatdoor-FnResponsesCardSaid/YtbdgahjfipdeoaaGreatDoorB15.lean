import Derived.Test.YtbdgahjfipdeoaaGreatDoorB14
/- FnResponses: a part of its proof. No condition. -/
set_option linter.all false
set_option maxRecDepth 100000
namespace Go.Proofs.YtbdgahjfipdeoaaGreatDoor
namespace A
structure cZ where
 Name:aA
 Cell:Int
def cZ.enc (s:cZ):aF AV:=[.str s.Name,.I s.Cell]
@[simp] theorem cZ.len (s:cZ):s.enc.length=2:=rfl
@[simp] theorem cZ.all (s:cZ):s.enc.take 2=s.enc:=rfl
@[simp] theorem cZ.g0 (s:cZ) (K:AV->Prop):aZ s.enc 0 K=K (.str s.Name):=by simp[cZ.enc]
@[simp] theorem cZ.g1 (s:cZ) (K:AV->Prop):aZ s.enc 1 K=K (.I s.Cell):=by simp[cZ.enc]
def cZ.cells (s:cZ):∀a,a∈s.enc->a.cell=true:=by simp[cZ.enc]
structure cH where
 Name:aA
 jV:aO
def cH.enc (s:cH):aF AV:=.str s.Name::s.jV.enc
@[simp] theorem cH.len (s:cH):s.enc.length=6:=by simp[cH.enc]
@[simp] theorem cH.g0 (s:cH) (K:AV->Prop):aZ s.enc 0 K=K (.str s.Name):=by simp[cH.enc]
@[simp] theorem cH.t1 (s:cH):s.enc.tail=s.jV.enc:=by simp[cH.enc]
def cH.cells (s:cH):∀a,a∈s.enc->a.cell=true:=λa E=>by
 simp[cH.enc] at E;rcases E with rfl|h
 .rfl
 .exact aO.cells _ _ h
def LoQ (L:aF cZ) (name:aA) (r:AV):Prop:=r=.I (-1)\/∃b,b∈L/\b.Name=name/\r=.I b.Cell
def look_s {L:SL cZ} {name} (E:L.aG.length<=2000000000000):bM aE 134 [L.av 2 cZ.enc,.str name] (LoQ L.aG name):=by
 intro E;refine cO F134 ?_;simp[F134];refine b6 L.aG.length (λi e H E=>e 0=L.av 2 cZ.enc/\e 1=.str name/\e 5=.I i/\H=[]) ⟨rfl,rfl,rfl,rfl⟩ ?_;intro i e H c E ⟨J,e1,e5,E⟩ N hN;subst E;by_cases h:i<L.aG.length
 .obtain⟨x,T⟩:∃x,L.aG[i]?=some x:=⟨_,bC h⟩
  have E:(i:Int)<(L.aG.length:Int):=by omega
  have W:=cD (i:=i) (n:=L.aG.length) (by unfold mx;omega) h;by_cases Z:x.Name=name
  .simp[J,e1,e5,E,aL T,Z];exact aS ⟨rfl,.inr ⟨x,bA T,Z,rfl⟩⟩
  .simp[J,e1,e5,E,aL T,Z];exact hN _ _ _ _ h (bY _) ⟨J,e1,by simp[aK,W],rfl⟩
 .have E:¬(i:Int)<(L.aG.length:Int):=by omega
  simp[J,e5,E];exact aS ⟨rfl,.inl rfl⟩
def RbQ (L:aF cZ) (name:aA) (k:Int) (r:AV) (T:aC) (_:Nat):Prop:=
 ∃(J:Nat) (E:aF cZ),T=[⟨false,J,2,E.map cZ.enc⟩]/\r=.ref 0 J 2 E.length/\(L.length<=E.length/\E.length<=L.length+1)/\∀b,b∈E->b∈L\/(b.Name=name/\b.Cell=k)
def rebind_s {L:aF cZ} {name} {k:Int} {t c0} (E:L.length<=2000000000000):
  cA aE 128 [.ref 0 t 2 L.length,.str name,.I k] [⟨false,t,2,L.map cZ.enc⟩] c0 (RbQ L name k):=by
 refine cO K7 ?_;simp[K7];refine b6 L.length (λi e H E=>e 0=.ref 0 t 2 L.length/\e 1=.str name/\e 2=.I k/\e 7=.I i/\H=[⟨false,t,2,L.map cZ.enc⟩]) ⟨rfl,rfl,rfl,rfl,rfl⟩ ?_;intro i e H c E ⟨W,T,e2,e7,E⟩ N hN;subst E;by_cases h:i<L.length
 .obtain⟨x,J⟩:∃x,L[i]?=some x:=⟨_,bC h⟩
  have E:(i:Int)<(L.length:Int):=by omega
  have Z:=cD (i:=i) (n:=L.length) (by unfold mx;omega) h;have hg:(L.map cZ.enc)[i]?=some x.enc:=by simp[J]
  by_cases hq:x.Name=name
  .simp[W,T,e2,e7,E,aL hg,hq];refine fI (Hk:=[⟨false,t,2,(L.map cZ.enc).set i (aR x.enc 1 [.I k])⟩]) (by simp[aR]) (.refl _) ⟨t,L.set i ⟨x.Name,k⟩,by simp[aR,cZ.enc,lT],by simp,by simp,λb hb=>?_⟩;rcases rZ hb with J|J
   .exact .inl J
   .subst J;exact .inr ⟨hq,rfl⟩
  .simp[W,T,e7,E,aL hg,hq];exact hN _ _ _ _ h (bY _) ⟨W,T,e2,by simp[aK,Z],rfl⟩
 .have E:¬(i:Int)<(L.length:Int):=by omega
  simp[W,T,e2,e7,E,aR];refine⟨by omega,by unfold mx;omega,?_⟩;refine fI (Hk:=[⟨false,c+1,2,L.map cZ.enc++[[.str name,.I k]]⟩]) (by simp) (.refl _) ⟨c+1,L++[⟨name,k⟩],by simp[cZ.enc],by simp,by simp,λb hb=>?_⟩;rcases dI.1 hb with J|J
  .exact .inl J
  .simp at J;subst J;exact .inr ⟨rfl,rfl⟩
def rebind0_s {name} {k:Int} {c0}:cA aE 128 [.aU,.str name,.I k] [] c0 (RbQ [] name k):=by refine cO K7 ?_;simp[K7];refine b6 0 (λi e H E=>e 0=.aU/\e 1=.str name/\e 2=.I k/\e 7=.I 0/\H=[]) ⟨rfl,rfl,rfl,rfl,rfl⟩ ?_;intro i e H c E ⟨Z,W,T,J,E⟩ N hN;subst E;simp[Z,W,T,J,aR];refine⟨by decide,?_⟩;refine fI (v':=.ref 0 (c+1) 2 1) (Hk:=[⟨false,c+1,2,[[.str name,.I k]]⟩]) (by simp) .name ⟨c+1,[⟨name,k⟩],by simp[cZ.enc],rfl,by simp,λb E=>?_⟩;simp at E;subst E;exact .inr ⟨rfl,rfl⟩
def message_s {cl:aA} {L:SL cH} (E:cl.length<=1048576) (E:L.aG.length<=2000000000000) (J:∀f,f∈L.aG->f.jV.dN.length<=400/\-1000000001<=f.jV.bN/\f.jV.bN<=1000000001):bM aE 132 [.str cl,L.av 6 cH.enc] (Tx (cl.length+402)):=by
 intro E;refine cO F132 ?_;simp[F132];refine b6 L.aG.length (λi e H E=>e 0=.str cl/\e 1=L.av 6 cH.enc/\e 5=.I i/\H=[]) ⟨rfl,rfl,rfl,rfl⟩ ?_;intro i e H c E ⟨e0,T,e5,E⟩ N hN;subst E;by_cases h:i<L.aG.length
 .obtain⟨x,W⟩:∃x,L.aG[i]?=some x:=⟨_,bC h⟩
  have E:(i:Int)<(L.aG.length:Int):=by omega
  have Z:=cD (i:=i) (n:=L.aG.length) (by unfold mx;omega) h;obtain⟨v1,v2,v3⟩:=J x (bA W);by_cases J:x.Name=rF
  .simp only[rF] at J;simp[T,e5,E,aL W,J];refine wF (wG v1 ⟨v2,v3⟩) λt n c1 _ ht _ _=>?_;simp[e0];exact⟨by unfold mx;omega,by unfold mx;omega,aS ⟨rfl,_,rfl,by simp;omega⟩⟩
  .simp only[rF] at J;simp[T,e5,E,aL W,J];exact hN _ _ _ _ h (bY _) ⟨e0,T,by simp[aK,Z],rfl⟩
 .have E:¬(i:Int)<(L.aG.length:Int):=by omega
  simp[e0,T,e5,E];exact⟨by unfold mx;omega,aS ⟨rfl,_,rfl,by simp⟩⟩
def FgQ (L:aF cZ) (name:aA) (r:AV) (T:aC) (_:Nat):Prop:=
 ∃(J:Nat) (E:aF cZ),T=[⟨false,J,2,E.map cZ.enc⟩]/\r=.ref 0 J 2 E.length/\E.length<=L.length/\∀b,b∈E->b∈L
def forget_s {L:SL cZ} {name:aA} {c0:Nat} (hl:L.aG.length<=2000000000000):cA aE 265 [L.av 2 cZ.enc,.str name] [] c0 (FgQ L.aG name):=by
 refine cO F265 ?_
 unfold F265
 simp
 refine b6 L.aG.length (λi e H c'=>∃(t':Nat) (M:aF cZ),e 0=L.av 2 cZ.enc/\e 1=.str name/\e 5=.ref 0 t' 2 M.length/\e 6=.int .i64 i/\M.length<=i/\(∀b,b∈M->b∈L.aG)/\H=[⟨false,t',2,M.map cZ.enc⟩]) ⟨c0,[],rfl,rfl,rfl,rfl,by simp,by simp,rfl⟩ ?_
 intro i e H c hi ⟨t',M,e0,e1,e5,e6,hM,hs,hH⟩ N hN
 subst hH
 by_cases h:i<L.aG.length
 .obtain⟨x,hx⟩:∃x,L.aG[i]?=some x:=⟨_,bC h⟩
  have hlt:(i:Int)<(L.aG.length:Int):=by omega
  have hst:=cD (i:=i) (n:=L.aG.length) (by unfold mx;omega) h
  by_cases hq:x.Name=name
  .simp[e0,e1,e6,hlt,aL hx,hq]
   exact hN _ _ _ _ h (bY _) ⟨t',M,by simp[aK,e0],by simp[aK,e1],by simp[aK,e5],by simp[aK,hst],by omega,hs,rfl⟩
  .simp[e0,e1,e5,e6,hlt,aL hx,hq]
   refine⟨by omega,by unfold mx;omega,?_⟩
   exact hN _ _ (List.take 1 _) _ h (fN 1 _) ⟨c+1,M++[x],by simp[aK,e0],by simp[aK,e1],by simp[aK],by simp[aK,hst],by simp;omega,λb hb=>by
    rcases dI.1 hb with h1|h1
    .exact hs b h1
    .simp at h1;subst h1;exact bA hx,by simp⟩
 .have hlt:¬(i:Int)<(L.aG.length:Int):=by omega
  simp[e0,e5,e6,hlt]
  exact fI (Hk:=[⟨false,t',2,M.map cZ.enc⟩]) (by simp) (.refl _) ⟨t',M,rfl,rfl,by omega,hs⟩
set_option maxRecDepth 100000
def KsQ (n:Nat) (r:AV):Prop:=∃(s:SL bX) (b:Bool),r=.aX [s.av 3 bX.enc,.bool b]/\s.aG.length<=n/\(b=true->s.aG.length=n)/\∀k,k∈s.aG->kV k
def V8 {o c g:Nat} {l:SL aO} (E:l.aG.length<=1048576) (hv:∀v,v∈l.aG->VM o c g v):Tr aE 263 [l.av 5 aO.enc] (λ_ r=>KsQ l.aG.length r):=by
 intro c0;refine cO F263 ?_;unfold F263;have fin:∀{H:aC} {c' i t n:Nat} {L:aF bX} {b:Bool},c0<=t->(⟨false,t,3,L.map bX.enc⟩:aH)∈H->L.length=n->L.length<=l.aG.length->(b=true->L.length=l.aG.length)->(∀k,k∈L->kV k)->cE (λr E _=>E=[]/\KsQ l.aG.length r/\fX c0 r) (.aX [.ref i t 3 n,.bool b]) H c':=λ{H c' i t n L b} ht ho hn Z W T=>by
  refine⟨H,[],[],.aX [(SL.mk t L).av 3 bX.enc,.bool b],eX _,.nil,λo h=>h,by simp[aV],.aX rfl λk x E J E=>?_,rfl,⟨_,_,rfl,Z,W,T⟩,λT hT=>.aX λj a W=>?_⟩;rotate_left
  .have hm:=bA W;simp at hm;rcases hm with rfl|rfl
   .refine XA ht (λaM hrow a W=>?_) T hT;obtain⟨k,_,rfl⟩:=fZ.1 hrow;simp[bX.enc] at W;rcases W with rfl|rfl|rfl
    .exact XE _ _
    .exact from_int _ _ _
    .exact OJ _ _
   .exact .bool
  match k,J,E with
  |0,J,E=>simp at J E;subst J;subst E;exact jK ho hn λx _=>bX.cells x
  |1,J,E=>simp at J E;subst J;subst E;exact .refl _
  |k+2,J,E=>simp at J
 simp;refine b6 l.aG.length (λi e H c'=>∃(t:Nat) (L:aF bX),(c0<=t/\c0<=c')/\L.length=i/\(∀k,k∈L->kV k)/\e 0=l.av 5 aO.enc/\e 4=.ref 0 t 3 i/\e 5=.I i/\H=[⟨false,t,3,L.map bX.enc⟩]) ⟨c0,[],⟨bB _,Nat.le_succ _⟩,rfl,by simp,rfl,rfl,rfl,rfl⟩ ?_;intro i e H E E ⟨t,L,hct,hL,hk,e0,e4,e5,E⟩ N hN;subst E;by_cases h:i<l.aG.length
 .obtain⟨x,J⟩:∃x,l.aG[i]?=some x:=⟨_,bC h⟩
  have T:=hv x (bA J);have E:(i:Int)<(l.aG.length:Int):=by omega
  have hst:=cD (i:=i) (n:=l.aG.length) (by unfold mx;omega) h;simp[e0,e5,E,aL J];refine cV (WB T.ok.s T.ok.n) λr J J ⟨k,b,J,T⟩=>?_;subst J;refine⟨hY (.agg λj a W=>?_) .bool,?_⟩
  .have hm:=bA W;simp[bX.enc] at hm;rcases hm with rfl|rfl|rfl
   .exact .bool
   .exact .int
   .exact .str
  cases b
  .simp[e4,aR];exact fin (L:=L) hct.1 (by simp) hL (by omega) (by simp) hk
  .have J:∀a b d:AV,aR [a,b,d] 0 k.enc=k.enc:=λa b d=>by simp[aR,bX.enc]
   simp[e4,e5,hL,J];refine⟨by omega,by unfold mx;omega,?_⟩;refine hN _ _ (List.take 1 _) _ h (fN 1 _) ⟨_,L++[k],⟨?_,?_⟩,by simp[hL],λz J=>?_,e0,by simp[aK];rfl,by simp[aK,hst],by simp⟩
   .omega
   .omega
   rcases dI.1 J with Z|Z
   .exact hk z Z
   .simp at Z;subst Z;exact T
 .have E:¬(i:Int)<(l.aG.length:Int):=by omega
  simp[e0,e4,e5,E];exact fin (L:=L) hct.1 (by simp) hL (by omega) (λ_=>by omega) hk
set_option maxRecDepth 100000
def VsOK (L:aF cH):Prop:=∀f,f∈L->VM 0 0 0 f.jV
def vars_s {o c g:Nat} {L:SL cH} (E:L.aG.length<=1048576) (hv:∀f,f∈L.aG->VM o c g f.jV/\f.Name.length<=1048576):bM aE 92 [L.av 6 cH.enc] (BQ (VsOK L.aG)):=by
 intro E;refine cO F92 ?_;simp[F92];refine b6 L.aG.length (λi e H c'=>e 0=L.av 6 cH.enc/\e 3=.I i/\(∀f,f∈L.aG.take i->VM 0 0 0 f.jV)/\H=[]) ⟨rfl,rfl,by simp,rfl⟩ ?_;intro i e H E E ⟨T,J,ha,hH⟩ N hN;subst hH;by_cases h:i<L.aG.length;rotate_left
 .have E:¬(i:Int)<(L.aG.length:Int):=by omega
  simp[T,J,E];exact jQ (AP ha (by omega))
 obtain⟨x,W⟩:∃x,L.aG[i]?=some x:=⟨_,bC h⟩
 obtain⟨Z,hxn⟩:=hv x (bA W);have E:(i:Int)<(L.aG.length:Int):=by omega
 have hst:=cD (i:=i) (n:=L.aG.length) (by unfold mx;omega) h;simp[T,J,E];refine b6 i (λk e H c'=>e 0=L.av 6 cH.enc/\e 3=.I i/\e 4=.I k/\H=[]) ⟨T,J,rfl,rfl⟩ ?_;clear T J;intro k e H E E ⟨T,J,e4,hH⟩ E hN2;subst hH;by_cases hki:k<i
 .obtain⟨y,hy⟩:∃y,L.aG[k]?=some y:=⟨_,bC (by omega)⟩
  have E:(k:Int)<(i:Int):=by omega
  have hst2:=cD (i:=k) (n:=i) (by unfold mx;omega) hki;by_cases hq:y.Name=x.Name
  .simp[T,J,e4,E,aL W,aL hy,hq];exact b8
  .simp[T,J,e4,E,aL W,aL hy,hq];exact hN2 _ _ _ _ hki (bY _) ⟨T,J,by simp[aK,hst2],rfl⟩
 .have E:¬(k:Int)<(i:Int):=by omega
  simp[T,J,e4,E,aL W];have E:=Z.CY;refine bZ (sM (l:=x.Name) (cL hxn (by decide))) .bool λE _=>?_;cases isName x.Name&&!sO x.Name
  .simp;exact b8
  by_cases E:x.Name=[116,104,105,115]
  .simp[T,J,aL W,E];exact b8
  simp[T,J,aL W,E];refine cX (C5 (v:=x.jV) (by omega)) .bool λE _=>?_;cases isVal x.jV
  .simp;exact b8
  simp[T,J,aL W];refine fR (NA x.jV (by omega)) (λE c5 _=>?_) λc5 _=>?_
  .simp[J];exact hN _ _ _ _ h (bY _) ⟨T,by simp[aK,hst],AO ha W ⟨E o c g Z.ok,Z.wt⟩,rfl⟩
  .simp;exact b8
structure aI where
 us:AV
 cs:AV
 cells:AV
 dR:AV
 bS:AV
 b9:AV
 cJ:AV
 out:dM
 bH:Int
 depth:Int
 ab:Int
 jI:aO
 status:Int
def aI.aM (m:aI):aF AV:=[m.us,m.cs,m.cells,m.dR,m.bS,m.b9,m.cJ]++(m.out.enc++(.I m.bH::.I m.depth::.I m.ab::(m.jI.enc++[.I m.status])))
def aI.len (m:aI):m.aM.length=19:=by simp[aI.aM]
def aI.g10 (m:aI) (K:AV->Prop):aZ m.aM 10 K=K (.I m.bH):=by simp[aI.aM,dM.enc]
def aI.g12 (m:aI) (K:AV->Prop):aZ m.aM 12 K=K (.I m.ab):=by simp[aI.aM,dM.enc]
def aI.g18 (m:aI) (K:AV->Prop):aZ m.aM 18 K=K (.I m.status):=by simp[aI.aM,dM.enc,aO.dW]
def aI.qE (m:aI) (n:Int):aR m.aM 10 [.I n]=aI.aM {m with bH:=n}:=by simp[aI.aM,dM.enc,aO.dW,aR]
def aI.wN (m:aI) (n:Int):aR m.aM 12 [.I n]=aI.aM {m with ab:=n}:=by simp[aI.aM,dM.enc,aO.dW,aR]
def aI.UL (m:aI) (n:Int):aR m.aM 18 [.I n]=aI.aM {m with status:=n}:=by simp[aI.aM,dM.enc,aO.dW,aR]
def aI.ob (m:aI) (t:Nat):aH:=⟨false,t,19,[m.aM]⟩
def aI.fail (m:aI) (s:Int):aI:={m with status:=if m.status=0 then s else m.status,ab:=2}
def fail_s {m:aI} {t c0} {s:Int}:cA aE 162 [.ptr 0 t 19 0 0,.I s] [m.ob t] c0 λr E _=>E=[(m.fail s).ob t]/\r=.aX []:=by
 refine cO K4 ?_;unfold K4;by_cases h:m.status=0
 .simp[aI.ob,aI.g18,aI.UL,aI.wN,h,aI.fail];exact dD ⟨rfl,rfl⟩
 .simp[aI.ob,aI.g18,aI.wN,h,aI.fail];exact dD ⟨rfl,rfl⟩
def aI.tick (m:aI):aI:=if m.bH-1<0 then aI.fail {m with bH:=m.bH-1} 3 else {m with bH:=m.bH-1}
section
variable (m:aI) (K:AV->Prop)
def aI.g0:aZ m.aM 0 K=K m.us:=by simp[aI.aM]
def aI.g1:aZ m.aM 1 K=K m.cs:=by simp[aI.aM]
def aI.g2:aZ m.aM 2 K=K m.cells:=by simp[aI.aM]
def aI.g3:aZ m.aM 3 K=K m.dR:=by simp[aI.aM]
def aI.g4:aZ m.aM 4 K=K m.bS:=by simp[aI.aM]
def aI.g5:aZ m.aM 5 K=K m.b9:=by simp[aI.aM]
def aI.g6:aZ m.aM 6 K=K m.cJ:=by simp[aI.aM]
def aI.g11:aZ m.aM 11 K=K (.I m.depth):=by simp[aI.aM,dM.enc]
def aI.d7:(m.aM.drop 7).take 3=m.out.enc:=by simp[aI.aM,dM.enc]
def aI.d13:(m.aM.drop 13).take 5=m.jI.enc:=by simp[aI.aM,dM.enc,aO.dW]
def aI.p2 a:aR m.aM 2 [a]=aI.aM {m with cells:=a}:=by simp[aI.aM,aR]
def aI.p3 a:aR m.aM 3 [a]=aI.aM {m with dR:=a}:=by simp[aI.aM,aR]
def aI.p4 a:aR m.aM 4 [a]=aI.aM {m with bS:=a}:=by simp[aI.aM,aR]
def aI.p5 a:aR m.aM 5 [a]=aI.aM {m with b9:=a}:=by simp[aI.aM,aR]
def aI.p6 a:aR m.aM 6 [a]=aI.aM {m with cJ:=a}:=by simp[aI.aM,aR]
def aI.wO (n:Int):aR m.aM 11 [.I n]=aI.aM {m with depth:=n}:=by simp[aI.aM,dM.enc,aO.dW,aR]
def aI.p7 (u:dM):aR m.aM 7 u.enc=aI.aM {m with out:=u}:=by simp[aI.aM,dM.enc,aO.dW,aR]
def aI.NC (v:aO):aR m.aM 13 v.enc=aI.aM {m with jI:=v}:=by simp[aI.aM,dM.enc,aO.dW,aR]
end
structure aW where
 env:AV
 top:Bool
 this:Int
 self:aA
 static:aA
 fL:AV
 wait:aA
def aW.aM (f:aW):aF AV:=[f.env,.bool f.top,.I f.this,.str f.self,.str f.static,f.fL,.str f.wait]
def aW.ob (f:aW) (t:Nat):aH:=⟨false,t,7,[f.aM]⟩
@[simp] theorem aW.len (f:aW):f.aM.length=7:=rfl
section
variable (f:aW) (K:AV->Prop)
def aW.g0:aZ f.aM 0 K=K f.env:=by simp[aW.aM]
def aW.g1:aZ f.aM 1 K=K (.bool f.top):=by simp[aW.aM]
def aW.g2:aZ f.aM 2 K=K (.I f.this):=by simp[aW.aM]
def aW.g3:aZ f.aM 3 K=K (.str f.self):=by simp[aW.aM]
def aW.g4:aZ f.aM 4 K=K (.str f.static):=by simp[aW.aM]
def aW.g5:aZ f.aM 5 K=K f.fL:=by simp[aW.aM]
def aW.g6:aZ f.aM 6 K=K (.str f.wait):=by simp[aW.aM]
def aW.p0 a:aR f.aM 0 [a]=aW.aM {f with env:=a}:=by simp[aW.aM,aR]
def aW.p5 a:aR f.aM 5 [a]=aW.aM {f with fL:=a}:=by simp[aW.aM,aR]
def aW.p6 s:aR f.aM 6 [.str s]=aW.aM {f with wait:=s}:=by simp[aW.aM,aR]
end
structure aY where
 kind:Int
 n:aQ
 i:Int
 it:aO
 dP:Int
 v:aO
def aY.enc (k:aY):aF AV:=.I k.kind::(k.n.enc++(.I k.i::(k.it.enc++(.I k.dP::k.v.enc))))
@[simp] theorem aY.len (k:aY):k.enc.length=17:=by simp[aY.enc]
def aY.cells (k:aY):∀a,a∈k.enc->a.cell=true:=λa E=>by
 simp[aY.enc] at E;rcases E with rfl|h|rfl|h|rfl|h
 .rfl
 .exact aQ.cells _ _ h
 .rfl
 .exact aO.cells _ _ h
 .rfl
 .exact aO.cells _ _ h
set_option maxRecDepth 100000
def gL {P} {H} {c} {K:aD} {f} {J} {Q:aD} (T:cA P f J H c Q) (k:∀r H' E,Q r H' E->K r H' E):bO P f J H c K:=
 zB T λr H' E _ J _ _=>⟨.any _ rfl,λo _ r j x a _ _=>.any _ rfl,k r H' E J⟩
def fB a:Av [] a:=.any a rfl
def zF o:iX [] o:=λ_ _ _ a _ _=>.any a rfl
inductive a6 where
 |jU|cells|dR|bS|jH (k:Nat)|b9|cJ|kR (k:Nat)|kI (k:Nat)|frame|env|fL|mP|bP
def eQ:a6->Prop
 |.frame|.env|.fL|.bP=>False
 |_=>True
def mM:a6->Prop
 |.frame|.env|.fL|.bP|.mP=>False
 |_=>True
def WM {o:a6} (h:¬mM o):¬eQ o\/o=.mP:=by cases o<;>simp_all[mM,eQ]
def isW_M {o:a6} (h:mM o):eQ o:=by cases o<;>simp_all[mM,eQ]
def isO (o:a6):Prop:=o=.bS\/∃k,o=.jH k
def xC (o:a6):Prop:=o=.cJ\/∃k,o=.kR k\/o=.kI k
def j1 (o:a6):Prop:=o≠.bP/\o≠.mP
def isW_Ac {o:a6} (h:mM o):j1 o:=by cases o<;>simp_all[mM,j1]
def Kp (O:a6->Prop) (H:aC) (G:Nat->a6) (H':aC) (G':Nat->a6):Prop:=∀q x,H[q]?=some x->O (G q)->H'[q]?=some x/\G' q=G q
def cB (S:a6->Prop):aC->(Nat->a6)->aC->(Nat->a6)->Prop:=Kp λo=>¬S o
section
variable {S S' O:a6->Prop} {H H' H'':aC} {G G' G'':Nat->a6}
def Kp.refl:Kp O H G H G:=λq x h _=>⟨h,rfl⟩
def Kp.trans (h:Kp O H G H' G') (T:Kp O H' G' H'' G''):Kp O H G H'' G'':=λq x J E=>by
 obtain⟨a,b⟩:=h q x J E;obtain⟨W,J⟩:=T q x a (b▸E);exact⟨W,J.trans b⟩
def Kp.mono {O':a6->Prop} (h:Kp O H G H' G') (hs:∀o,O' o->O o):Kp O' H G H' G':=λq x E J=>h q x E (hs _ J)
def cB.refl:cB S H G H G:=Kp.refl
def cB.trans (h:cB S H G H' G') (E:cB S H' G' H'' G''):cB S H G H'' G'':=Kp.trans h E
def cB.mono (h:cB S H G H' G') (hs:∀o,S o->S' o):cB S' H G H' G':=Kp.mono h λo E J=>E (hs o J)
def cB.app M:cB S H G (H++M) G:=λq x E _=>⟨by rw[gY (bQ.1 E).1];exact E,rfl⟩
def cB.set {p} ob (hp:S (G p)):cB S H G (H.set p ob) G:=λq x E J=>⟨by rw[uR (λe=>by subst e;exact J hp)];exact E,rfl⟩
def cB.kp (h:cB S H G H' G') (hs:∀o,O o->¬S o):Kp O H G H' G':=Kp.mono h hs
end
def Slot (H:aC) (G:Nat->a6) (o:a6) (w:Nat) (a:AV) (aN:aF (aF AV)):Prop:=
 (a=.aU/\aN=[])\/∃p t,a=.ref p t w aN.length/\H[p]?=some ⟨false,t,w,aN⟩/\G p=o
def mS (H:aC) (G:Nat->a6) (o:a6) (w:Nat) (a:AV) (aN:aF (aF AV)):Prop:=
 (a=.aU/\aN=[])\/∃p t E,a=.ref p t w aN.length/\H[p]?=some ⟨false,t,w,aN++E⟩/\G p=o
def AV.ln:AV->Nat
 |.ref _ _ _ n=>n
 |_=>0
@[simp] theorem sK p t w n:(AV.ref p t w n).ln=n:=rfl
section
variable {H H':aC} {G G':Nat->a6} {o o':a6} {w:Nat} {a:AV} {aN:aF (aF AV)}
def Slot.nil:Slot H G o w .aU []:=.inl ⟨rfl,rfl⟩
def Slot.ln (h:Slot H G o w a aN):a.ln=aN.length:=by rcases h with⟨rfl,rfl⟩|⟨p,t,rfl,_⟩<;>rfl
def Slot.cell (h:Slot H G o w a aN):a.cell=true:=by rcases h with⟨rfl,rfl⟩|⟨p,t,rfl,_⟩<;>rfl
def Slot.own (h:Slot H G o w a aN) (k:∀q x,H[q]?=some x->G q=o->H'[q]?=some x/\G' q=o'):Slot H' G' o' w a aN:=by
 rcases h with h|⟨p,t,Z,W,T⟩
 .exact .inl h
 .obtain⟨J,E⟩:=k p _ W T;exact .inr ⟨p,t,Z,J,E⟩
def Slot.kp {O:a6->Prop} (h:Slot H G o w a aN) (k:Kp O H G H' G') (J:O o):Slot H' G' o w a aN:=
 h.own λq x E e=>by obtain⟨a,b⟩:=k q x E (e▸J);exact⟨a,b.trans e⟩
def Slot.at {i:Nat} {aM} (h:Slot H G o w a aN) (E:aN[i]?=some aM):∃p t,a=.ref p t w aN.length/\H[p]?=some ⟨false,t,w,aN⟩/\G p=o:=by
 rcases h with⟨rfl,rfl⟩|h
 .simp at E
 .exact h
def mS.cell (h:mS H G o w a aN):a.cell=true:=by rcases h with⟨rfl,rfl⟩|⟨p,t,E,rfl,_⟩<;>rfl
def mS.own (h:mS H G o w a aN) (k:∀q x,H[q]?=some x->G q=o->H'[q]?=some x/\G' q=o'):mS H' G' o' w a aN:=by
 rcases h with h|⟨p,t,E,h1,Z,W⟩
 .exact .inl h
 .obtain⟨T,J⟩:=k p _ Z W;exact .inr ⟨p,t,E,h1,T,J⟩
def mS.kp {O:a6->Prop} (h:mS H G o w a aN) (k:Kp O H G H' G') (J:O o):mS H' G' o w a aN:=
 h.own λq x E e=>by obtain⟨a,b⟩:=k q x E (e▸J);exact⟨a,b.trans e⟩
def Slot.c (h:Slot H G o w a aN):mS H G o w a aN:=by
 rcases h with h|⟨p,t,T,J,E⟩
 .exact .inl h
 .exact .inr ⟨p,t,[],T,by simpa using J,E⟩
def mS.at {i:Nat} {aM} (h:mS H G o w a aN) (J:aN[i]?=some aM):∃p t E,a=.ref p t w aN.length/\H[p]?=some ⟨false,t,w,aN++E⟩/\G p=o:=by
 rcases h with⟨rfl,rfl⟩|h
 .simp at J
 .exact h
end
structure NE (x:aQ):Prop where
 n:cU 20000 x
 v:V x
 c:x.iD<=600
def NE.pS {x y:aQ} (h:NE x) (E:y∈x.aP.aG):NE y:=⟨h.n.i y E,h.v.k y E,cL (D3 E) h.c⟩
def NE.get {x y:aQ} {i:Nat} (h:NE x) (E:x.aP.aG[i]?=some y):NE y:=h.pS (bA E)
def MN {α:Type} {f:α->Nat}:∀{l:aF α},(∀x,x∈l->1<=f x)->l.length<=bE f l
 |[],_=>by simp[bE]
 |x::l,h=>by
  have E:=h x (by simp);have J:=MN (l:=l) λy E=>h y (by simp[E]);simp only[bE,gJ,nP,lE] at J ⊢;omega
def cnt_pos (x:aQ):1<=x.iD:=by rw[aQ.B3];omega
def NE.len {x:aQ} (h:NE x):x.aP.aG.length<=600:=by have E:=h.c;rw[aQ.B3] at E;have:=MN (f:=aQ.iD) (l:=x.aP.aG) λy _=>cnt_pos y;omega
def aI.V (m:aI) (v:aO):Prop:=VM m.bS.ln m.b9.ln m.cJ.ln v
structure eV (m m':aI):Prop where
 o:m.bS.ln<=m'.bS.ln
 c:m.b9.ln<=m'.b9.ln
 g:m.cJ.ln<=m'.cJ.ln
 k:m.cells.ln<=m'.cells.ln
 f:m'.bH<=m.bH
 d:m'.us=m.us
def eV.refl m:eV m m:=⟨bB _,bB _,bB _,bB _,lU _,rfl⟩
def eV.trans {a b d:aI} (h:eV a b) (E:eV b d):eV a d:=⟨cL h.o E.o,cL h.c E.c,cL h.g E.g,cL h.k E.k,Int.le_trans E.f h.f,E.d.trans h.d⟩
def aI.V.mono {m m':aI} {v} (h:m.V v) (l:eV m m'):m'.V v:=VM.mono h l.o l.c l.g
def aY.w (k:aY):Nat:=if k.kind=4\/k.kind=5 then 4 else 1
def cw (L:aF aY):Nat:=bE aY.w L
@[simp] theorem cw_nil:cw []=0:=rfl
def cw_app L L':cw (L++L')=cw L+cw L':=by simp[cw,bE]
def r9 (k:aY):1<=k.w/\k.w<=4:=by unfold aY.w;split<;>omega
def BZ L (k:aY):cw (L++[k])=cw L+k.w:=by rw[cw_app];simp[cw,bE]
def O9 (L:aF aY):L.length<=cw L:=MN λk _=>(r9 k).1
structure KP (m:aI) (k:aY):Prop where
 kd:1<=k.kind/\k.kind<=6
 n:k.kind≠6->NE k.n
 w:k.kind=2->k.n.aJ=35
 e:k.kind=3->k.n.aJ=36
 ca:k.kind=4->k.n.aJ=44
 fi:k.kind=5->k.n.aJ=45
 i:0<=k.i/\(k.kind=1->k.i<=1000)/\(k.kind=3->k.i+m.bH<=20000)
 it:m.V k.it
 v:m.V k.v
 dP:k.dP=4->k.v.aJ=6
 D9:0<=k.dP/\k.dP<=4
def KP.mono {m m'} {k} (h:KP m k) (l:eV m m'):KP m' k:=
 ⟨h.kd,h.n,h.w,h.e,h.ca,h.fi,⟨h.i.1,h.i.2.1,λe=>by have:=h.i.2.2 e;have:=l.f;omega⟩,h.it.mono l,h.v.mono l,h.dP,h.D9⟩
def ew (f:aW) (L:aF aY):Int:=f.env.ln+cw L
structure rU (H:aC) (G:Nat->a6) (oe oc:a6) (m:aI) (f:aW) (L:List aY):Prop where
 env:∃E:List cZ,Slot H G oe 2 f.env (E.map cZ.enc)/\∀b,b∈E->0<=b.Cell/\b.Cell<m.cells.ln
 fL:mS H G oc 17 f.fL (L.map aY.enc)
 ks:∀k,k∈L->KP m k
 nC:ew f L+4000*m.bH<=81000000
 this:0<=f.this/\f.this<=m.bS.ln
def rU.own {H H':aC} {G G':Nat->a6} {T W E J} {m m'} {f} {L} (h:rU H G T W m f L) (l:eV m m') (Z:∀q x,H[q]?=some x->G q=T->H'[q]?=some x/\G' q=E) (T:∀q x,H[q]?=some x->G q=W->H'[q]?=some x/\G' q=J):rU H' G' E J m' f L:=by obtain⟨E,W,J⟩:=h.env;exact⟨⟨E,W.own Z,λb E=>by have:=J b E;have:=l.k;omega⟩,h.fL.own T,λk E=>(h.ks k E).mono l,by have:=h.nC;have:=l.f;omega,by have:=h.this;have:=l.o;omega⟩
def rU.kp {O:a6->Prop} {H H'} {G G':Nat->a6} {E J} {m m'} {f} {L} (h:rU H G E J m f L) (l:eV m m') (k:Kp O H G H' G') (W:O E) (T:O J):rU H' G' E J m' f L:=
 h.own l (λq x E e=>by obtain⟨a,b⟩:=k q x E (e▸W);exact⟨a,b.trans e⟩) λq x E e=>by obtain⟨a,b⟩:=k q x E (e▸T);exact⟨a,b.trans e⟩
structure cY (H:aC) (G:Nat->a6) (pf tf:Nat) (m:aI) (f:aW) (L:List aY):Prop where
 hf:H[pf]?=some (f.ob tf)
 gf:G pf=.frame
 p:rU H G .env .fL m f L
structure cQ where
 f:aW
 state:Int
 cur:aO
def cQ.enc (g:cQ):aF AV:=g.f.aM++(.I g.state::g.cur.enc)
inductive qS where
 |sl (s:SL Int)
 |rf (p t:Nat) (l:List Int)
def qS.aG:qS->aF Int
 |.sl s=>s.aG
 |.rf _ _ l=>l
def kS (n:Int):aF AV:=[.I n]
def qS.av:qS->AV
 |.sl s=>s.av 1 kS
 |.rf p t l=>.ref p t 1 l.length
def qS.cell (x:qS):x.av.cell=true:=by cases x with
 |sl s=>exact nI _ _ _
 |rf p t l=>rfl
structure dG where
 kids:SL aQ
 pX:qS
 this:Int
 self:aA
 static:aA
def dG.enc (x:dG):aF AV:=[x.kids.av 4 aQ.enc,x.pX.av,.I x.this,.str x.self,.str x.static]
def dZ (l:aF aQ):Nat:=bE (λx=>if x.aJ=25 then 1 else 0) l
structure jX (m:aI) (b:Bool) (x:dG):Prop where
 u:Us b x.kids.aG
 n:∀y,y∈x.kids.aG->NE y
 l:x.kids.aG.length<=600
 k:x.pX.aG.length=dZ x.kids.aG
 c:∀n,n∈x.pX.aG->0<=n/\n<m.cells.ln
 this:0<=x.this/\x.this<=m.bS.ln
 g:b=false->∃s,x.pX=.sl s
def jX.mono {m m'} {b} {x} (h:jX m b x) (l:eV m m'):jX m' b x:=
 ⟨h.u,h.n,h.l,h.k,λn E=>by have:=h.c n E;have:=l.k;omega,by have:=h.this;have:=l.o;omega,h.g⟩
def qT (H:aC) (G:Nat->a6) (x:dG):Prop:=∀p t l,x.pX=.rf p t l->H[p]?=some ⟨false,t,1,l.map kS⟩/\G p=.mP
def qT.kp {O:a6->Prop} {H H'} {G G':Nat->a6} {x} (h:qT H G x) (k:Kp O H G H' G') (W:O .mP):qT H' G' x:=λp t l e=>by
 obtain⟨Z,E⟩:=h p t l e;obtain⟨T,J⟩:=k p _ Z (by rw[E];exact W);exact⟨T,J.trans E⟩
def jX.cg {H} {G:Nat->a6} {m} {x} (h:jX m false x):qT H G x:=λp t l e=>by
 obtain⟨s,E⟩:=h.g rfl;rw[E] at e;cases e
def fU (x:aA×AV):aF AV:=[.str x.1,x.2]
structure GP (H:aC) (G:Nat->a6) (m:aI) (k:Nat) (g:cQ):Prop where
 s:0<=g.state/\g.state<=3
 v:m.V g.cur
 f:g.state=0\/g.state=1->∃L,rU H G (.kR k) (.kI k) m g.f L/\ew g.f L+4000*m.bH+10<=81000000
 cl:g.f.env.cell=true/\g.f.fL.cell=true
def LB (H:aC) (G:Nat->a6) (m:aI):Prop:=∃L:aF aO,Slot H G .cells 5 m.cells (L.map aO.enc)/\∀v,v∈L->m.V v
def KQ (H:aC) (G:Nat->a6) (m:aI):Prop:=∃L:aF cZ,Slot H G .dR 2 m.dR (L.map cZ.enc)/\∀b,b∈L->0<=b.Cell/\b.Cell<m.cells.ln
def vZ (H:aC) (G:Nat->a6) (m:aI) (k:Nat) (a:AV):Prop:=∃F:aF cH,Slot H G (.jH k) 6 a (F.map cH.enc)/\F.length<=20000000000/\∀f,f∈F->m.V f.jV
def zK (H:aC) (G:Nat->a6) (m:aI):Prop:=∃L:aF (aA×AV),Slot H G .bS 2 m.bS (L.map fU)/\∀k x,L[k]?=some x->vZ H G m k x.2/\x.1.length<=20000
def LA (H:aC) (G:Nat->a6) (m:aI):Prop:=∃L:aF dG,Slot H G .b9 5 m.b9 (L.map dG.enc)/\∀x,x∈L->jX m true x/\qT H G x
def vY (H:aC) (G:Nat->a6) (m:aI):Prop:=∃L:aF cQ,Slot H G .cJ 13 m.cJ (L.map cQ.enc)/\∀k g,L[k]?=some g->GP H G m k g
def aI.mp (m:aI):Int:=m.cells.ln+m.dR.ln+82000000*m.bH
structure Bd (m:aI):Prop where
 o:m.bS.ln<=40
 c:m.b9.ln<=40
 g:m.cJ.ln<=20
 mp:m.mp<=1650000000000
 bH:-1<=m.bH/\m.bH<=20000
 ab:0<=m.ab/\m.ab<=2
 af:m.ab≠2->0<=m.bH
 depth:0<=m.depth/\m.depth<=12
 jI:m.V m.jI
 a1:m.ab=1->m.jI.aJ=6
 out:jW m.out
structure fC (us:SL bU) (cs:SL bG):Prop where
 u:uI us.aG
 n:(NN us.aG).length<=10000000000
 c:∀x,x∈cs.aG->CK (NN us.aG) (DD us.aG) x
 l:cs.aG.length<=200000
 e:∃y,cs.aG[0]?=some y/\Er y
structure Lay (us:SL bU) (cs:SL bG) (H:aC) (G:Nat->a6) (pm tm:Nat) (m:aI):Prop where
 hm:H[pm]?=some (m.ob tm)
 gm:G pm=.jU
 out:∀p,H.length<=p->G p=.bP
 us:m.us=us.av 5 bU.enc
 cs:m.cs=cs.av 4 bG.enc
 b:Bd m
 cells:LB H G m
 dR:KQ H G m
 bS:zK H G m
 b9:LA H G m
 cJ:vY H G m
section
variable {H H':aC} {G G':Nat->a6} {m m':aI}
def LB.kp {O:a6->Prop} (h:LB H G m) (k:Kp O H G H' G') (E:O .cells) (e:m'.cells=m.cells) (l:eV m m'):LB H' G' m':=by obtain⟨L,T,J⟩:=h;exact⟨L,by rw[e];exact T.kp k E,λv E=>(J v E).mono l⟩
def KQ.kp {O:a6->Prop} (h:KQ H G m) (k:Kp O H G H' G') (E:O .dR) (e:m'.dR=m.dR) (l:eV m m'):KQ H' G' m':=by obtain⟨L,T,J⟩:=h;exact⟨L,by rw[e];exact T.kp k E,λv E=>by have:=J v E;have:=l.k;omega⟩
def vZ.kp {O:a6->Prop} {j} {a} (h:vZ H G m j a) (k:Kp O H G H' G') (E:O (.jH j)) (l:eV m m'):vZ H' G' m' j a:=by obtain⟨F,W,T,J⟩:=h;exact⟨F,W.kp k E,T,λf E=>(J f E).mono l⟩
def zK.kp {O:a6->Prop} (h:zK H G m) (k:Kp O H G H' G') (J:∀o,isO o->O o) (e:m'.bS=m.bS) (l:eV m m'):zK H' G' m':=by obtain⟨L,E,T⟩:=h;exact⟨L,by rw[e];exact E.kp k (J _ (.inl rfl)),λj x E=>⟨(T j x E).1.kp k (J _ (.inr ⟨j,rfl⟩)) l,(T j x E).2⟩⟩
def zK.DY {O:a6->Prop} (h:zK H G m) (k:Kp O H G H' G') (W:O .bS) (J:∀j,j<m.bS.ln->O (.jH j)) (e:m'.bS=m.bS) (l:eV m m'):zK H' G' m':=by obtain⟨L,E,T⟩:=h;have Z:=E.ln;simp at Z;exact⟨L,by rw[e];exact E.kp k W,λj x E=>⟨(T j x E).1.kp k (J j (by have:=(bQ.1 E).1;omega)) l,(T j x E).2⟩⟩
def LA.kp {O:a6->Prop} (h:LA H G m) (k:Kp O H G H' G') (J:O .b9/\O .mP) (e:m'.b9=m.b9) (l:eV m m'):LA H' G' m':=by obtain⟨L,E,T⟩:=h;exact⟨L,by rw[e];exact E.kp k J.1,λv E=>⟨(T v E).1.mono l,(T v E).2.kp k J.2⟩⟩
def GP.kp {O:a6->Prop} {j} {g} (h:GP H G m j g) (k:Kp O H G H' G') (W:O (.kR j)) (T:O (.kI j)) (l:eV m m'):GP H' G' m' j g:=
 ⟨h.s,h.v.mono l,λE=>by obtain⟨L,J,Z⟩:=h.f E;exact⟨L,J.kp l k W T,by have:=l.f;omega⟩,h.cl⟩
def vY.kp {O:a6->Prop} (h:vY H G m) (k:Kp O H G H' G') (E:∀o,xC o->O o) (e:m'.cJ=m.cJ) (l:eV m m'):vY H' G' m':=by obtain⟨L,J,T⟩:=h;exact⟨L,by rw[e];exact J.kp k (E _ (.inl rfl)),λj x J=>(T j x J).kp k (E _ (.inr ⟨j,.inl rfl⟩)) (E _ (.inr ⟨j,.inr rfl⟩)) l⟩
def vY.DY {O:a6->Prop} (h:vY H G m) (k:Kp O H G H' G') (T:O .cJ) (E:∀j,j<m.cJ.ln->O (.kR j)/\O (.kI j)) (e:m'.cJ=m.cJ) (l:eV m m'):vY H' G' m':=by obtain⟨L,J,Z⟩:=h;have W:=J.ln;simp at W;exact⟨L,by rw[e];exact J.kp k T,λj x J=>by have:=E j (by have:=(bQ.1 J).1;omega);exact(Z j x J).kp k this.1 this.2 l⟩
variable {us:SL bU} {cs:SL bG} {pm tm pf tf:Nat}
def Lay.kp (h:Lay us cs H G pm tm m) (k:Kp eQ H G H' G') (out:∀p,H'.length<=p->G' p=.bP):Lay us cs H' G' pm tm m:=by obtain⟨h1,h2⟩:=k _ _ h.hm (by rw[h.gm];trivial);exact⟨h1,h2.trans h.gm,out,h.us,h.cs,h.b,h.cells.kp k trivial rfl (.refl _),h.dR.kp k trivial rfl (.refl _),h.bS.kp k (λo ho=>by rcases ho with rfl|⟨k,rfl⟩<;>trivial) rfl (.refl _),h.b9.kp k ⟨trivial,trivial⟩ rfl (.refl _),h.cJ.kp k (λo ho=>by rcases ho with rfl|⟨k,rfl|rfl⟩<;>trivial) rfl (.refl _)⟩
def Lay.DY (h:Lay us cs H G pm tm m) (k:Kp (λo=>eQ o/\¬o=.jH m.bS.ln) H G H' G') (out:∀p,H'.length<=p->G' p=.bP):Lay us cs H' G' pm tm m:=by obtain⟨J,E⟩:=k _ _ h.hm (by rw[h.gm];exact⟨trivial,by simp⟩);exact⟨J,E.trans h.gm,out,h.us,h.cs,h.b,h.cells.kp k ⟨trivial,by simp⟩ rfl (.refl _),h.dR.kp k ⟨trivial,by simp⟩ rfl (.refl _),h.bS.DY k ⟨trivial,by simp⟩ (λj E=>⟨trivial,by simp;omega⟩) rfl (.refl _),h.b9.kp k ⟨⟨trivial,by simp⟩,⟨trivial,by simp⟩⟩ rfl (.refl _),h.cJ.kp k (λo E=>by rcases E with rfl|⟨k,rfl|rfl⟩<;>exact⟨trivial,by simp⟩) rfl (.refl _)⟩
def Lay.V7 (h:Lay us cs H G pm tm m) (k:Kp (λo=>eQ o/\¬o=.kR m.cJ.ln/\¬o=.kI m.cJ.ln) H G H' G') (out:∀p,H'.length<=p->G' p=.bP):Lay us cs H' G' pm tm m:=by obtain⟨h1,h2⟩:=k _ _ h.hm (by rw[h.gm];exact⟨trivial,by simp⟩);exact⟨h1,h2.trans h.gm,out,h.us,h.cs,h.b,h.cells.kp k ⟨trivial,by simp⟩ rfl (.refl _),h.dR.kp k ⟨trivial,by simp⟩ rfl (.refl _),h.bS.kp k (λo ho=>by rcases ho with rfl|⟨k,rfl⟩<;>exact⟨trivial,by simp⟩) rfl (.refl _),h.b9.kp k ⟨⟨trivial,by simp⟩,⟨trivial,by simp⟩⟩ rfl (.refl _),h.cJ.DY k ⟨trivial,by simp⟩ (λj hj=>⟨⟨trivial,by simp;omega⟩,⟨trivial,by simp;omega⟩⟩) rfl (.refl _)⟩
def Lay.app (h:Lay us cs H G pm tm m) M:Lay us cs (H++M) G pm tm m:=h.kp (λq x E _=>cB.app (S:=λ_=>False) M q x E (λh=>h)) λp E=>h.out p (by simp at E;omega)
def Lay.set (h:Lay us cs H G pm tm m) {p} ob (E:¬eQ (G p)):Lay us cs (H.set p ob) G pm tm m:=h.kp (λq x J T=>by
  have:p≠q:=λe=>by subst e;exact E T
  exact⟨by rw[uR this];exact J,rfl⟩) λp E=>h.out p (by simpa using E)
def cY.kp {O:a6->Prop} {f} {L} (h:cY H G pf tf m f L) (l:eV m m') (k:Kp O H G H' G') (T:O .frame) (J:O .env) (E:O .fL):cY H' G' pf tf m' f L:=by obtain⟨a,b⟩:=k _ _ h.hf (by rw[h.gf];exact T);exact⟨a,b.trans h.gf,h.p.kp l k J E⟩
def cY.app {f} {L} (h:cY H G pf tf m f L) M:cY (H++M) G pf tf m f L:=h.kp (.refl _) (cB.app (S:=λ_=>False) M) (λh=>h) (λh=>h) (λh=>h)
def cY.set {f:aW} {L:aF aY} (h:cY H G pf tf m f L) {p:Nat} (ob:aH) (E:eQ (G p)\/G p=.bP):cY (H.set p ob) G pf tf m f L:=
 h.kp (O:=λo=>¬(eQ o\/o=.bP)) (.refl _) (cB.set (S:=λo=>eQ o\/o=.bP) ob E) (by simp[eQ]) (by simp[eQ]) (by simp[eQ])
end
set_option maxRecDepth 100000
def bT {α:Type} {H:aF α} {p:Nat} {x:α} (h:H[p]?=some x) (M:aF α) (K:α->Prop):aZ (H++M) p K=K x:=by
 have E:(H++M)[p]?=some x:=by rw[gY (bQ.1 h).1];exact h
 simp[aZ,E]
def OF {α:Type} {X:aF α} {p:Nat} {z:α} (h:p<X.length) (K:α->Prop):aZ (X.set p z) p K=K z:=by simp[aZ,eP h]
def rJ {α:Type} {X:aF α} {p q:Nat} {y:α} (h:p≠q) (K:α->Prop):aZ (X.set q y) p K=aZ X p K:=by simp only[aZ];rw[uR (λe=>h e.symm)]
def P1 {P} {H} {c} {K:aD} {f} {E} {Q:aD} (Z:cA P f E [] c Q)
  (k:∀r O T,Q r O T->∃J,View [] r J/\K J (H++O) T):bO P f E H c K:=by
 intro hn W;obtain⟨h1,h2⟩:=(fG.refl [] E).spec;refine⟨[],[],E,Q,eX _,by simp,by simp[aV],h1,h2,Z,λr O T E hq ho hd=>?_⟩;have E:∀t,t∈aV O->c<=t:=λt Z=>by
  rcases iA t c with h|h
  .have:=ho t h Z;simp[aV] at this
  .exact h
 obtain⟨J,k1,Z⟩:=k r O T hq;refine⟨H++O,J,λo h=>?_,?_,k1,fB _,λo _ h=>zF o,Z⟩
 .rcases dI.1 h with h|h
  .exact .inr ⟨h,by simp[aV]⟩
  .exact .inl h
 .have:aV (H++O)=aV H++aV O:=by simp[aV]
  rw[this];refine mI.2 ⟨hn,hd,λa Z b T J=>?_⟩;subst J;exact absurd (W a Z) (zQ.2 (E a T))
def xS {H:aC} {G:Nat->a6} {o:a6} {a:AV} {w b j t c:Nat} {aN:aF (aF AV)} {aM:aF AV} {K:aD} (hs:Slot H G o w a aN) (out:∀p,H.length<=p->G p=.bP)
  (W:H[j]?=some ⟨false,t,w,[aM]⟩) (hb:(aN.length+1)*b<=140737488355328) (J:aN.length+1<=mx)
  (k:∀p H' G',Slot H' G' o w (.ref p c w (aN.length+1)) (aN++[aM])->cB (λx=>x=o) H G H' G'->(∀p,H'.length<=p->G' p=.bP)->K (.ref p c w (aN.length+1)) H' (c+1)):
  uG w b a (.ref j t w 1) H c K:=by
 rcases hs with⟨rfl,rfl⟩|⟨p,E,rfl,Z,hg⟩
 .simp only[aaJ,wJ,aL W];refine⟨trivial,trivial,trivial,trivial,by simp,λh=>by simp at h,λ_=>⟨by simpa using hb,by simpa using J,?_⟩⟩;refine k H.length (H++[⟨false,c,w,[aM]⟩]) (λq=>if q=H.length then o else G q) (.inr ⟨_,_,rfl,by simp,by simp⟩) (λq x E _=>?_) λq E=>?_
  .have:=(bQ.1 E).1;exact⟨by rw[gY this];exact E,if_neg (by omega)⟩
  .simp at E;have:q≠H.length:=by omega
   simp only[if_neg this];exact out q (by omega)
 .have T:=(bQ.1 Z).1;simp only[vS,wJ,aL W,aL Z,pV];refine⟨trivial,trivial,trivial,trivial,by simp,trivial,trivial,trivial,trivial,bB _,by simpa using hb,by simpa using J,?_⟩;rw[fJ (bB _),fJ (by simp)];refine k p _ G (.inr ⟨p,c,by simp,by rw[eP T],hg⟩) (cB.set (S:=λx=>x=o) _ hg) λq E=>out q (by simpa using E)
section
variable {us:SL bU} {cs:SL bG} {H H' H'':aC} {G G' G'':Nat->a6} {pm tm pf tf:Nat} {m m' m'':aI} {f f' f'':aW} {L L' L'':aF aY} {a b a' b':Int}
structure PA (us:SL bU) (cs:SL bG) (H:aC) (G:Nat->a6) (pm tm:Nat) (m:aI) (b:Int) (H':aC) (G':Nat->a6) (m':aI):Prop where
 aT:Lay us cs H' G' pm tm m'
 fV:cB mM H G H' G'
 mono:eV m m'
 mp:m'.mp<=m.mp+b/\m'.depth=m.depth
structure PE (us:SL bU) (cs:SL bG) (H:aC) (G:Nat->a6) (pm tm pf tf:Nat) (m:aI) (f:aW) (L:List aY) (a b:Int) (H':aC) (G':Nat->a6) (m':aI) (f':aW):Prop where
 aT:Lay us cs H' G' pm tm m'
 bI:cY H' G' pf tf m' f' L
 fV:cB j1 H G H' G'
 mono:eV m m'
 em:f.env.ln<=f'.env.ln
 top:f'.top=f.top
 fp:f'.env.ln+4000*m'.bH<=f.env.ln+4000*m.bH+a
 mp:m'.mp+f'.env.ln<=m.mp+f.env.ln+b/\m'.depth=m.depth
def PA.refl (h:Lay us cs H G pm tm m):PA us cs H G pm tm m 0 H G m:=⟨h,.refl,.refl _,by omega⟩
def PA.trans (h:PA us cs H G pm tm m b H' G' m') (E:PA us cs H' G' pm tm m' b' H'' G'' m''):PA us cs H G pm tm m (b+b') H'' G'' m'':=⟨E.aT,h.fV.trans E.fV,h.mono.trans E.mono,by have:=h.mp;have:=E.mp;omega⟩
def PA.le (h:PA us cs H G pm tm m b H' G' m') (E:b<=b'):PA us cs H G pm tm m b' H' G' m':=⟨h.aT,h.fV,h.mono,by have:=h.mp;omega⟩
def PA.loc (h:PA us cs H G pm tm m b H' G' m') {q:Nat} {x} (J:H[q]?=some x) (E:G q=.bP):H'[q]?=some x/\G' q=.bP:=by obtain⟨a,b⟩:=h.fV q x J (by rw[E];exact λh=>h);exact⟨a,b.trans E⟩
def PA.bI (h:PA us cs H G pm tm m b H' G' m') (E:cY H G pf tf m f L):cY H' G' pf tf m' f L:=E.kp h.mono h.fV (λh=>h) (λh=>h) (λh=>h)
def PA.pe (h:PA us cs H G pm tm m b H' G' m') (E:cY H G pf tf m f L):PE us cs H G pm tm pf tf m f L 0 b H' G' m' f:=
 ⟨h.aT,h.bI E,h.fV.mono (λo E=>isW_Ac E),h.mono,bB _,rfl,by have:=h.mono.f;omega,by have:=h.mp;omega⟩
def PE.refl (h:Lay us cs H G pm tm m) (E:cY H G pf tf m f L):PE us cs H G pm tm pf tf m f L 0 0 H G m f:=⟨h,E,.refl,.refl _,bB _,rfl,by omega,by omega⟩
def PE.trans (h:PE us cs H G pm tm pf tf m f L a b H' G' m' f') (E:PE us cs H' G' pm tm pf tf m' f' L a' b' H'' G'' m'' f''):PE us cs H G pm tm pf tf m f L (a+a') (b+b') H'' G'' m'' f'':=
 ⟨E.aT,E.bI,h.fV.trans E.fV,h.mono.trans E.mono,cL h.em E.em,E.top.trans h.top,by have:=h.fp;have:=E.fp;omega,by have:=h.mp;have:=E.mp;omega⟩
def PE.le (h:PE us cs H G pm tm pf tf m f L a b H' G' m' f') (E:a<=a') (E:b<=b'):PE us cs H G pm tm pf tf m f L a' b' H' G' m' f':=
 ⟨h.aT,h.bI,h.fV,h.mono,h.em,h.top,by have:=h.fp;omega,by have:=h.mp;omega⟩
def PE.loc (h:PE us cs H G pm tm pf tf m f L a b H' G' m' f') {q:Nat} {x} (J:H[q]?=some x) (E:G q=.bP):H'[q]?=some x/\G' q=.bP:=by obtain⟨a,b⟩:=h.fV q x J (λh=>h.1 E);exact⟨a,b.trans E⟩
def PA.gU {M} (h:PA us cs (H++M) G pm tm m b H' G' m'):PA us cs H G pm tm m b H' G' m':=⟨h.aT,(cB.app M).trans h.fV,h.mono,h.mp⟩
def PE.gU {M} (h:PE us cs (H++M) G pm tm pf tf m f L a b H' G' m' f'):PE us cs H G pm tm pf tf m f L a b H' G' m' f':=⟨h.aT,h.bI,(cB.app M).trans h.fV,h.mono,h.em,h.top,h.fp,h.mp⟩
def PA.app (h:PA us cs H G pm tm m b H' G' m') M:PA us cs H G pm tm m b (H'++M) G' m':=⟨h.aT.app M,h.fV.trans (cB.app M),h.mono,h.mp⟩
def PE.app (h:PE us cs H G pm tm pf tf m f L a b H' G' m' f') M:PE us cs H G pm tm pf tf m f L a b (H'++M) G' m' f':=⟨h.aT.app M,h.bI.app M,h.fV.trans (cB.app M),h.mono,h.em,h.top,h.fp,h.mp⟩
def Lay.eZ (h:Lay us cs H G pm tm m) {p} ob (hp:G p=.bP):Lay us cs (H.set p ob) G pm tm m:=h.set ob (by rw[hp];exact λh=>h)
def Lay.AT (h:Lay us cs H G pm tm m) (b:Bd m') (l:eV m m') (e0:m'.us=m.us) (e1:m'.cs=m.cs) (Z:m'.cells=m.cells) (W:m'.dR=m.dR) (e4:m'.bS=m.bS) (T:m'.b9=m.b9) (J:m'.cJ=m.cJ):Lay us cs (H.set pm (m'.ob tm)) G pm tm m':=by have E:=(bQ.1 h.hm).1;have k:Kp (λo=>¬o=.jU) H G (H.set pm (m'.ob tm)) G:=cB.set (S:=λo=>o=.jU) _ h.gm;exact⟨eP E,h.gm,λp E=>h.out p (by simpa using E),e0.trans h.us,e1.trans h.cs,b,h.cells.kp k (by simp) Z l,h.dR.kp k (by simp) W l,h.bS.kp k (by rintro o (rfl|⟨k,rfl⟩)<;>simp) e4 l,h.b9.kp k (by simp) T l,h.cJ.kp k (by rintro o (rfl|⟨k,rfl|rfl⟩)<;>simp) J l⟩
def Lay.wL (h:Lay us cs H G pm tm m) (b:Bd m') (l:eV m m') (e0:m'.us=m.us) (Z:m'.cs=m.cs) (J:m'.cells=m.cells) (E:m'.dR=m.dR) (e4:m'.bS=m.bS) (W:m'.b9=m.b9) (T:m'.cJ=m.cJ) (e7:m'.depth=m.depth):PA us cs H G pm tm m 0 (H.set pm (m'.ob tm)) G m':=
 ⟨h.AT b l e0 Z J E e4 W T,cB.set (S:=mM) _ (by rw[h.gm];trivial),l,by have:=l.f;unfold aI.mp;rw[J,E];omega⟩
def aI.bD (m:aI) t:m.ob t=⟨false,t,19,[m.aM]⟩:=rfl
def aW.bD (f:aW) t:f.ob t=⟨false,t,7,[f.aM]⟩:=rfl
def fail_con {c0} {s:Int} (h:Lay us cs H G pm tm m):cA aE 162 [.ptr pm tm 19 0 0,.I s] H c0 λr H' _=>r=.aX []/\H'=H.set pm ((m.fail s).ob tm):=by
 have T:=(bQ.1 h.hm).1;have J:∀K:aH->Prop,aZ H pm K=K (m.ob tm):=aL h.hm;refine cO K4 ?_;unfold K4;by_cases E:m.status=0
 .simp[J,aI.bD,aI.g18,aI.UL,aI.wN,E,T];exact dD ⟨rfl,by simp[aI.fail,E]⟩
 .simp[J,aI.bD,aI.g18,aI.wN,E];exact dD ⟨rfl,by simp[aI.fail,E]⟩
def Bd.fail (h:Bd m) (s:Int):Bd (m.fail s):=⟨h.o,h.c,h.g,h.mp,h.bH,by simp[aI.fail],by simp[aI.fail],h.depth,h.jI,by simp[aI.fail],h.out⟩
def mono_fail (m:aI) (s:Int):eV m (m.fail s):=⟨bB _,bB _,bB _,bB _,lU _,rfl⟩
def EM {c} {s:Int} {K:aD} (h:Lay us cs H G pm tm m) (k:∀H' E,PA us cs H G pm tm m 0 H' G (m.fail s)->K (.aX []) H' E):bO aE 162 [.ptr pm tm 19 0 0,.I s] H c K:=
 gL (fail_con h) λr H' E ⟨T,J⟩=>by
  subst T;subst J;exact k _ E (h.wL (h.b.fail s) (mono_fail m s) rfl rfl rfl rfl rfl rfl rfl rfl)
def yG (m:aI):m.tick.bH=m.bH-1:=by unfold aI.tick;split<;>rfl
def GW (m:aI):m.tick.us=m.us/\m.tick.cs=m.cs/\m.tick.cells=m.cells/\m.tick.dR=m.dR/\m.tick.bS=m.bS/\m.tick.b9=m.b9/\m.tick.cJ=m.cJ/\m.tick.depth=m.depth/\m.tick.jI=m.jI/\m.tick.out=m.out:=by unfold aI.tick;split<;>exact⟨rfl,rfl,rfl,rfl,rfl,rfl,rfl,rfl,rfl,rfl⟩
def IM (m:aI):eV m m.tick:=by obtain⟨Z,_,W,E,T,J,E,h7,_⟩:=GW m;exact⟨by rw[T];exact bB _,by rw[J];exact bB _,by rw[E];exact bB _,by rw[W];exact bB _,by rw[yG];omega,Z⟩
def R6 (m:aI):m.tick.mp=m.mp-82000000:=by obtain⟨_,_,J,E,_⟩:=GW m;unfold aI.mp;rw[J,E,yG];omega
def GZ (m:aI) (E:m.ab=0):(m.tick.ab=0/\0<=m.tick.bH)\/m.tick.ab=2:=by
 unfold aI.tick;split
 .exact .inr rfl
 .exact .inl ⟨E,by simp only;omega⟩
def Bd.tick (h:Bd m) (h0:m.ab=0):Bd m.tick:=by have E:=h.af (by omega);have E:=h.mp;have E:=R6 m;have E:=yG m;obtain⟨_,_,E,E,h4,h5,Z,W,T,J⟩:=GW m;have E:=GZ m h0;exact⟨by rw[h4];exact h.o,by rw[h5];exact h.c,by rw[Z];exact h.g,by omega,by have:=h.bH;omega,by rcases E with E|E<;>omega,by rcases E with E|E<;>omega,by rw[W];exact h.depth,by rw[T];exact h.jI.mono (IM m),λh=>by rcases E with E|E<;>omega,by rw[J];exact h.out⟩
def tick_con {c0} (h:Lay us cs H G pm tm m):cA aE 232 [.ptr pm tm 19 0 0] H c0 λr H' _=>r=.aX []/\H'=H.set pm (m.tick.ob tm):=by
 have T:=(bQ.1 h.hm).1;have Z:∀K:aH->Prop,aZ H pm K=K (m.ob tm):=aL h.hm;have E:=h.b.bH;refine cO F232 ?_;unfold F232;have W:IntKind.i64.wrap (m.bH-1)=m.bH-1:=wrap64 (by omega) (by omega);by_cases E:m.bH-1<0
 .simp[Z,aI.bD,aI.g10,aI.qE,E,W,T];have e:H.set pm (aI.ob {m with bH:=m.bH-1} tm)=H.set pm ⟨false,tm,19,[aI.aM {m with bH:=m.bH-1}]⟩:=rfl;rw[<-e];have J:(H.set pm (aI.ob {m with bH:=m.bH-1} tm))[pm]?=some (aI.ob {m with bH:=m.bH-1} tm):=eP T;refine B9 J fail_s (.cons .yT (.refl _ _)) (λr H' c' h=>⟨_,h.1⟩) λr J c' J ⟨J,k2⟩=>?_;simp at J;subst J;subst k2;refine⟨_,.refl _,fB _,zF _,?_⟩;simp;exact dD ⟨rfl,by simp[aI.tick,E,aI.bD]⟩
 .simp[Z,aI.bD,aI.g10,aI.qE,E,W,T];exact dD ⟨rfl,by simp[aI.tick,E]⟩
def GY {c} {K:aD} (h:Lay us cs H G pm tm m) (W:m.ab=0) (k:∀H' J,PA us cs H G pm tm m (-82000000) H' G m.tick->K (.aX []) H' J):bO aE 232 [.ptr pm tm 19 0 0] H c K:=
 gL (tick_con h) λr H' J ⟨T,E⟩=>by
  subst T;subst E;obtain⟨e0,e1,e2,e3,e4,e5,Z,T,_⟩:=GW m;have E:=h.wL (h.b.tick W) (IM m) e0 e1 e2 e3 e4 e5 Z T;exact k _ J ⟨E.aT,E.fV,E.mono,by rw[R6];omega⟩
def NewQ (us:SL bU) (cs:SL bG) (H:aC) (G:Nat->a6) (pm tm:Nat) (m:aI) (r:AV) (H':aC) (_:Nat):Prop:=
 r=.I m.cells.ln/\∃a G',PA us cs H G pm tm m 1 H' G' {m with cells:=a}/\a.ln=m.cells.ln+1/\Kp (λo=>¬o=.cells/\¬o=.jU) H G H' G'
def new_con {v:aO} {c0} (h:Lay us cs H G pm tm m) (hv:m.V v) (hp:m.mp+1<=1650000000000):cA aE 124 [.ptr pm tm 19 0 0,.agg v.enc] H c0 (NewQ us cs H G pm tm m):=by
 obtain⟨C,hC,hCv⟩:=h.cells;have hcl:=hC.ln;simp only[nR] at hcl;have hb:=h.b;have hlim:C.length<=1660000000000:=by
  have h1:=hb.mp;have h2:=hb.bH;unfold aI.mp at h1;omega
 have hla:∀M K,aZ (H++M) pm K=K (m.ob tm):=λM K=>bT h.hm M K;refine cO F124 ?_;simp[F124,hla,aI.bD,aI.g2,bW];refine xS (hC.kp (cB.app (S:=λ_=>False) _) (λh=>h)) (λp hp=>h.out p (by simp at hp;omega)) (aM:=v.enc) (by rw[qV (by omega)];simp) (by simp;omega) (by simp;unfold mx;omega) λp H' G' hs hc out=>?_;have hkp:cB (λx=>x=.cells) H G H' G':=Kp.trans (cB.app (S:=λx=>x=.cells) _) hc;obtain⟨hm',gm'⟩:=hkp pm _ h.hm (by rw[h.gm];simp);have h1:∀K:aH->Prop,aZ H' pm K=K (m.ob tm):=aL hm';have hl':=(bQ.1 hm').1;have hw:IntKind.i64.wrap (C.length:Int)=C.length:=wrap64 (by omega) (by omega);simp[h1,aI.bD,aI.p2,aI.g2];refine⟨hl',dD ?_⟩;refine⟨by rw[hcl,hw],.ref p (c0+1+1) 5 (C.length+1),G',?_,by simp[hcl],(Kp.mono hkp λo h=>h.1).trans (Kp.mono (cB.set (S:=λo=>o=.jU) _ (gm'.trans h.gm)) λo h=>h.2)⟩;have hmono:eV m {m with cells:=.ref p (c0+1+1) 5 (C.length+1)}:=⟨bB _,bB _,bB _,by simp[hcl],lU _,rfl⟩
 have hset:Kp (λo=>¬o=.jU) H' G' (H'.set pm (aI.ob {m with cells:=.ref p (c0+1+1) 5 (C.length+1)} tm)) G':=cB.set (S:=λo=>o=.jU) _ (gm'.trans h.gm);have kk:Kp (λo=>¬o=.cells/\¬o=.jU) H G (H'.set pm (aI.ob {m with cells:=.ref p (c0+1+1) 5 (C.length+1)} tm)) G':=(Kp.mono hkp λo h=>h.1).trans (hset.mono λo h=>h.2);have hmp:aI.mp {m with cells:=.ref p (c0+1+1) 5 (C.length+1)}=m.mp+1:=by simp[aI.mp,hcl];omega
 refine⟨⟨eP hl',gm'.trans h.gm,λp hp=>out p (by simpa using hp),h.us,h.cs,⟨hb.o,hb.c,hb.g,by rw[hmp];exact hp,hb.bH,hb.ab,hb.af,hb.depth,hb.jI,hb.a1,hb.out⟩,?_,h.dR.kp kk (by simp) rfl hmono,h.bS.kp kk (by rintro o (rfl|⟨k,rfl⟩)<;>simp) rfl hmono,h.b9.kp kk (by simp) rfl hmono,h.cJ.kp kk (by rintro o (rfl|⟨k,rfl|rfl⟩)<;>simp) rfl hmono⟩,kk.mono λo ho=>⟨λe=>by subst e;exact ho trivial,λe=>by subst e;exact ho trivial⟩,hmono,by rw[hmp];omega,rfl⟩;refine⟨C++[v],?_,λx hx=>?_⟩
 .have:=hs.kp hset (by simp);simpa[aI.bD] using this
 .rcases dI.1 hx with h1|h1
  .exact hCv x h1
  .simp at h1;subst h1;exact hv
def II {v:aO} {c} {K:aD} (h:Lay us cs H G pm tm m) (J:m.V v) (T:m.mp+1<=1650000000000)
  (k:∀a H' G' E,PA us cs H G pm tm m 1 H' G' {m with cells:=a}->a.ln=m.cells.ln+1->Kp (λo=>¬o=.cells/\¬o=.jU) H G H' G'->K (.I m.cells.ln) H' E):bO aE 124 [.ptr pm tm 19 0 0,.agg v.enc] H c K:=
 gL (new_con h J T) λr H' E ⟨Z,a,G',W,T,J⟩=>by subst Z;exact k a H' G' E W T J
end
set_option maxRecDepth 100000
def Slot.view {α:Type} {enc:α->aF AV} {H:aC} {G:Nat->a6} {o:a6} {w:Nat} {a:AV} {L:aF α} (h:Slot H G o w a (L.map enc)) (J:∀x,x∈L->∀b,b∈enc x->b.cell=true):∃s:SL α,s.aG=L/\View H a (s.av w enc):=by
 rcases h with⟨rfl,h⟩|⟨p,t,rfl,E,_⟩
 .simp at h;subst h;exact⟨.nil,rfl,.refl _⟩
 .exact⟨.mk t L,rfl,jK (bA E) (by simp) J⟩
def NS {H:aC} {G:Nat->a6} {o:a6} {c:Nat} {K:aD} {a:AV} {E:aF cZ} {name:aA} (h:Slot H G o 2 a (E.map cZ.enc)) (W:E.length<=2000000000000) (k:∀n J,LoQ E name (.I n)->K (.I n) H J):bO aE 134 [a,.str name] H c K:=by
 obtain⟨s,T,E⟩:=h.view λx _=>cZ.cells x;refine PV (look_s (L:=s) (name:=name) (by rw[T];exact W)) (.cons E (.refl _ _)) λr J E E=>?_;rw[T] at E;obtain⟨n,rfl⟩:∃n,r=.I n:=by rcases E with h|⟨b,_,_,h⟩;exact⟨_,h⟩;exact⟨_,h⟩
 exact⟨.int,k n J E⟩
def HR {H:aC} {G:Nat->a6} {o:a6} {c:Nat} {k:Int} {K:aD} {a:AV} {E:aF cZ} {name:aA} (h:Slot H G o 2 a (E.map cZ.enc)) (out:∀p,H.length<=p->G p=.bP) (hl:E.length<=2000000000000)
  (kk:∀a' J H' G' W,Slot H' G' o 2 a' (List.map cZ.enc J)->E.length<=List.length J->List.length J<=E.length+1->(∀b,b∈J->b∈E\/(cZ.Name b=name/\b.Cell=k))->cB (λx=>x=o) H G H' G'->(∀p,H'.length<=p->G' p=.bP)->K a' H' W):bO aE 128 [a,.str name,.I k] H c K:=by
 rcases h with⟨rfl,h⟩|⟨p,t,rfl,ho,hg⟩
 .simp at h;subst h;refine P1 (rebind0_s (name:=name) (k:=k)) λr O W ⟨J,L',h1,h2,Z,h4⟩=>?_;subst h1;subst h2;refine⟨.ref H.length J 2 L'.length,.name,?_⟩;refine kk _ L' _ (λq=>if q=H.length then o else G q) W (.inr ⟨H.length,J,by simp,by simp,by simp⟩) (by simp) (by simpa using Z.2) (by simpa using h4) (λq x T _=>?_) λq T=>?_
  .have:=(bQ.1 T).1;exact⟨by rw[gY this];exact T,if_neg (by omega)⟩
  .simp at T;have:q≠H.length:=by omega
   simp only[if_neg this];exact out q (by omega)
 .have hpl:=(bQ.1 ho).1;have e:(.ref p t 2 (E.map cZ.enc).length:AV)=.ref p t 2 E.length:=by simp
  rw[e];refine B9 ho (rebind_s (name:=name) (k:=k) hl) (.cons .name (.refl _ _)) (λr H' W ⟨J,L',h,_⟩=>⟨_,h⟩) λr E W E ⟨J,L',h1,h2,Z,h4⟩=>?_;simp at h1;subst h1;subst h2;exact⟨.ref p J 2 L'.length,.name,fB _,zF _,kk _ L' _ G W (.inr ⟨p,J,by simp,eP hpl,hg⟩) Z.1 Z.2 h4 (cB.set (S:=λx=>x=o) _ hg) λq T=>out q (by simpa using T)⟩
section
variable {us:SL bU} {cs:SL bG} {H H' H'':aC} {G G' G'':Nat->a6} {pm tm pf tf:Nat} {m m' m'':aI} {f f' f'':aW} {L L' L'':aF aY} {a b a' b':Int}
def Bd.dR (h:Bd m):m.cells.ln<=1660000000000/\m.dR.ln<=1660000000000:=by have E:=h.mp;have J:=h.bH;unfold aI.mp at E;omega
def rU.O0 {E J} (h:rU H G E J m f L) (E:Bd m):f.env.ln<=82000000:=by have J:=h.nC;have T:=E.bH;unfold ew at J;omega
def FindQ (m:aI) (H:aC) (r:AV) (H':aC) (_:Nat):Prop:=H'=H/\∃n:Int,r=.I n/\-1<=n/\n<m.cells.ln
def BindQ (us:SL bU) (cs:SL bG) (H:aC) (G:Nat->a6) (pm tm pf tf:Nat) (m:aI) (f:aW) (L:aF aY) (r:AV) (H':aC) (_:Nat):Prop:=r=.aX []/\∃G' a f',PE us cs H G pm tm pf tf m f L 1 1 H' G' {m with dR:=a} f'
def find_con {name:aA} {c0:Nat} (h:Lay us cs H G pm tm m) (J:cY H G pf tf m f L):cA aE 260 [.ptr pm tm 19 0 0,.ptr pf tf 7 0 0,.str name] H c0 (FindQ m H):=by
 obtain⟨A,Z,W⟩:=h.dR;obtain⟨E,E,T⟩:=J.p.env;have h1:∀K:aH->Prop,aZ H pm K=K (m.ob tm):=aL h.hm;have h2:∀K:aH->Prop,aZ H pf K=K (f.ob tf):=aL J.hf;have g1:=Z.ln;have g2:=E.ln;simp at g1 g2;have l1:=h.b.dR;have l2:=J.p.O0 h.b;refine cO F260 ?_;unfold F260;cases ht:f.top
 .simp[h2,aW.bD,aW.g1,aW.g0,ht];refine NS E (by omega) λn c1 E=>?_;simp;refine dD ⟨rfl,n,rfl,?_⟩;rcases E with E|⟨b,J,_,E⟩<;>simp at E<;>subst E
  .omega
  .have:=T b J;omega
 .simp[h1,h2,aI.bD,aW.bD,aW.g1,aI.g3,ht];refine NS Z (by omega) λn c1 E=>?_;simp;refine dD ⟨rfl,n,rfl,?_⟩;rcases E with E|⟨b,J,_,E⟩<;>simp at E<;>subst E
  .omega
  .have:=W b J;omega
def OQ {name} {c} {K:aD} (h:Lay us cs H G pm tm m) (hf:cY H G pf tf m f L) (k:∀(n:Int) c',-1<=n->n<m.cells.ln->K (.I n) H c'):bO aE 260 [.ptr pm tm 19 0 0,.ptr pf tf 7 0 0,.str name] H c K:=
 gL (find_con h hf) λr H' c' ⟨h1,n,h2,h3,h4⟩=>by subst h1;subst h2;exact k n c' h3 h4
def Lay.MX (h:Lay us cs H G pm tm m) {a':AV} {Z:aF cZ} (hs:Slot H' G' .dR 2 a' (Z.map cZ.enc)) (hc:cB (λx=>x=.dR) H G H' G') (out:∀p,H'.length<=p->G' p=.bP) (hb:Bd {m with dR:=a'}) (he:∀b,b∈Z->0<=b.Cell/\b.Cell<m.cells.ln):
  Lay us cs (H'.set pm (aI.ob {m with dR:=a'} tm)) G' pm tm {m with dR:=a'}/\Kp (λo=>¬o=.dR/\¬o=.jU) H G (H'.set pm (aI.ob {m with dR:=a'} tm)) G':=by
 obtain⟨E,T⟩:=hc pm _ h.hm (by rw[h.gm];simp);have W:=(bQ.1 E).1;have E:eV m {m with dR:=a'}:=⟨bB _,bB _,bB _,bB _,lU _,rfl⟩
 have J:Kp (λo=>¬o=.jU) H' G' (H'.set pm (aI.ob {m with dR:=a'} tm)) G':=cB.set (S:=λo=>o=.jU) _ (T.trans h.gm);have kk:Kp (λo=>¬o=.dR/\¬o=.jU) H G (H'.set pm (aI.ob {m with dR:=a'} tm)) G':=(Kp.mono hc λo h=>h.1).trans (J.mono λo h=>h.2);exact⟨⟨eP W,T.trans h.gm,λp T=>out p (by simpa using T),h.us,h.cs,hb,h.cells.kp kk (by simp) rfl E,⟨Z,hs.kp J (by simp),he⟩,h.bS.kp kk (by rintro o (rfl|⟨k,rfl⟩)<;>simp) rfl E,h.b9.kp kk (by simp) rfl E,h.cJ.kp kk (by rintro o (rfl|⟨k,rfl|rfl⟩)<;>simp) rfl E⟩,kk⟩
def cY.TC (h:Lay us cs H G pm tm m) (J:cY H G pf tf m f L) {a':AV} {E':aF cZ} (hs:Slot H' G' .env 2 a' (E'.map cZ.enc)) (hc:cB (λx=>x=.env) H G H' G') (out:∀p,H'.length<=p->G' p=.bP) (W:ew {f with env:=a'} L+4000*m.bH<=81000000) (he:∀b,b∈E'->0<=b.Cell/\b.Cell<m.cells.ln):
  Lay us cs (H'.set pf (aW.ob {f with env:=a'} tf)) G' pm tm m/\cY (H'.set pf (aW.ob {f with env:=a'} tf)) G' pf tf m {f with env:=a'} L/\Kp (λo=>¬o=.env/\¬o=.frame) H G (H'.set pf (aW.ob {f with env:=a'} tf)) G':=by obtain⟨E,T⟩:=hc pf _ J.hf (by rw[J.gf];simp);have Z:=(bQ.1 E).1;have E:Kp (λo=>¬o=.frame) H' G' (H'.set pf (aW.ob {f with env:=a'} tf)) G':=cB.set (S:=λo=>o=.frame) _ (T.trans J.gf);have kk:Kp (λo=>¬o=.env/\¬o=.frame) H G (H'.set pf (aW.ob {f with env:=a'} tf)) G':=(Kp.mono hc λo h=>h.1).trans (E.mono λo h=>h.2);exact⟨h.kp (kk.mono λo ho=>⟨λe=>by subst e;exact ho,λe=>by subst e;exact ho⟩) λp W=>out p (by simpa using W),⟨eP Z,T.trans J.gf,⟨⟨E',hs.kp E (by simp),he⟩,J.p.fL.kp kk (by simp),J.p.ks,W,J.p.this⟩⟩,kk⟩
def bind_con {name:aA} {k:Int} {c0:Nat} (h:Lay us cs H G pm tm m) (W:cY H G pf tf m f L) (hk:0<=k/\k<m.cells.ln) (E:m.mp+1<=1650000000000) (he:ew f L+4000*m.bH+1<=81000000):
  cA aE 234 [.ptr pm tm 19 0 0,.ptr pf tf 7 0 0,.str name,.I k] H c0 (BindQ us cs H G pm tm pf tf m f L):=by
 obtain⟨A,hA,hA2⟩:=h.dR;obtain⟨E,J,hE2⟩:=W.p.env;have h1:∀K:aH->Prop,aZ H pm K=K (m.ob tm):=aL h.hm;have h2:∀K:aH->Prop,aZ H pf K=K (f.ob tf):=aL W.hf;have g1:=hA.ln;have g2:=J.ln;simp at g1 g2;have E:=h.b.dR;have E:=W.p.O0 h.b;have E:=h.b;refine cO F234 ?_;unfold F234;cases ht:f.top
 .simp[h2,aW.bD,aW.g1,aW.g0,ht];refine HR J h.out (by omega) λa' E' H' G' c1 T q2 q2' q3 Z q5=>?_;obtain⟨J,gf'⟩:=Z pf _ W.hf (by rw[W.gf];simp);have h3:∀K:aH->Prop,aZ H' pf K=K (f.ob tf):=aL J;have J:=T.ln;have eF:=T.cell;simp at J;obtain⟨r1,r2,r3⟩:=W.TC h T Z q5 (by unfold ew at he ⊢;simp only[J];omega) λb E=>by rcases q3 b E with h|⟨_,h⟩;exact hE2 b h;rw[h];exact hk
  simp[h3,aW.bD,aW.p0,B6 eF];refine dD ⟨rfl,G',m.dR,{f with env:=a'},r1,r2,r3.mono λo ho=>⟨λe=>by subst e;exact ho (by simp[j1]),λe=>by subst e;exact ho (by simp[j1])⟩,.refl _,by simp only[g2,J];exact q2,rfl,by simp only[g2,J];omega,⟨by simp only[g2,J,aI.mp];omega,rfl⟩⟩
 .simp[h1,h2,aI.bD,aW.bD,aW.g1,aI.g3,ht];refine HR hA h.out (by omega) λa' E' H' G' c1 T q2 q2' q3 Z q5=>?_;obtain⟨hm',gm'⟩:=Z pm _ h.hm (by rw[h.gm];simp);have h3:∀K:aH->Prop,aZ H' pm K=K (m.ob tm):=aL hm';have J:=T.ln;have eF:=T.cell;simp at J;have hmp:aI.mp {m with dR:=a'}<=m.mp+1:=by simp only[aI.mp,g1,J];omega
  obtain⟨r1,r3⟩:=h.MX T Z q5 ⟨E.o,E.c,E.g,by omega,E.bH,E.ab,E.af,E.depth,E.jI,E.a1,E.out⟩ λb E=>by rcases q3 b E with h|⟨_,h⟩;exact hA2 b h;rw[h];exact hk
  simp[h3,aI.bD,aI.p3,B6 eF];have E:eV m {m with dR:=a'}:=⟨bB _,bB _,bB _,bB _,lU _,rfl⟩
  refine dD ⟨rfl,G',a',f,r1,W.kp E r3 (by simp) (by simp) (by simp),r3.mono λo ho=>⟨λe=>by subst e;exact ho (by simp[j1]),λe=>by subst e;exact ho (by simp[j1])⟩,E,bB _,rfl,by simp only;omega,⟨by omega,rfl⟩⟩
def P6 {name:aA} {k:Int} {c:Nat} {K:aD} (h:Lay us cs H G pm tm m) (W:cY H G pf tf m f L) (T:0<=k/\k<m.cells.ln) (J:m.mp+1<=1650000000000) (Z:ew f L+4000*m.bH+1<=81000000)
  (kk:∀H' G' a f' E,PE us cs H G pm tm pf tf m f L 1 1 H' G' {m with dR:=a} f'->K (.aX []) H' E):bO aE 234 [.ptr pm tm 19 0 0,.ptr pf tf 7 0 0,.str name,.I k] H c K:=
 gL (bind_con h W T J Z) λr H' E ⟨T,G',a,f',J⟩=>by subst T;exact kk H' G' a f' E J
end
set_option maxRecDepth 100000
def z5:([.I 0,.I 0,.str [],.I 0,.aU]:aF AV)=(sV 0 0 []).enc:=(iB 0 0 []).symm
def o5 (n:Int):([.I 6,.I n,.str [],.I 0,.aU]:aF AV)=(sV 6 n []).enc:=(iB 6 n []).symm
def aI.V.nil {m:aI}:m.V (sV 0 0 []):=VM.sc (by omega) (by omega) (by simp)
def VM.AM {o c g:Nat} {k n:Int} (E:k=6/\0<=n/\n<o\/k=7/\0<=n/\n<c\/k=8/\0<=n/\n<g) (E:n<=1000000000):VM o c g (sV k n []):=
 ⟨.mk (by omega) (by omega) (by simp) (by omega) (λh=>by omega) (λh=>by omega) (λh=>by omega) (λ_=>rfl) (λe E=>by simp at E) λe E=>by simp at E,by
  rw[sV,aO.nS];split<;>simp[bE]⟩
def putVV (x v:aO):aR x.enc 0 v.enc=v.enc:=by simp[aO.dW,aR]
def aO.all5 (v:aO):v.enc.take 5=v.enc:=by rw[fJ];simp
section
variable {us:SL bU} {cs:SL bG} {H H' H'':aC} {G G' G'':Nat->a6} {pm tm pf tf:Nat} {m m' m'':aI} {f f' f'':aW} {L L' L'':aF aY} {a b a' b':Int}
def Lay.cell (h:Lay us cs H G pm tm m) {k:Nat} (E:k<m.cells.ln):∃p t C x,m.cells=.ref p t 5 (List.length C)/\k<C.length/\H[p]?=some ⟨false,t,5,C.map aO.enc⟩/\C[k]?=some x/\m.V x/\pm≠p/\G p=.cells/\
  ∀v:aO,m.V v->PA us cs H G pm tm m 0 (H.set p ⟨false,t,5,(C.map aO.enc).set k v.enc⟩) G m:=by
 obtain⟨C,J,T⟩:=h.cells;have E:=J.ln;simp at E;have E:k<C.length:=by omega
 obtain⟨x,Z⟩:∃x,C[k]?=some x:=⟨_,bC E⟩
 rcases J with⟨_,W⟩|⟨p,t,h1,h2,J⟩
 .simp at W;subst W;simp at E
 .have W:pm≠p:=λe=>by subst e;rw[h.gm] at J;cases J
  refine⟨p,t,C,x,by rw[h1];simp,E,h2,Z,T x (bA Z),W,J,λv W=>?_⟩;have E:=(bQ.1 h2).1;have kk:Kp (λo=>¬o=.cells) H G (H.set p ⟨false,t,5,(C.map aO.enc).set k v.enc⟩) G:=cB.set (S:=λo=>o=.cells) _ J;refine⟨⟨(kk pm _ h.hm (by rw[h.gm];simp)).1,h.gm,λq Z=>h.out q (by simpa using Z),h.us,h.cs,h.b,⟨C.set k v,.inr ⟨p,t,by rw[h1];simp,by rw[eP E,lT],J⟩,λy E=>?_⟩,h.dR.kp kk (by simp) rfl (.refl _),h.bS.kp kk (by rintro o (rfl|⟨k,rfl⟩)<;>simp) rfl (.refl _),h.b9.kp kk (by simp) rfl (.refl _),h.cJ.kp kk (by rintro o (rfl|⟨k,rfl|rfl⟩)<;>simp) rfl (.refl _)⟩,cB.set (S:=mM) _ (by rw[J];trivial),.refl _,by omega⟩;rcases rZ E with h|h
  .exact T y h
  .subst h;exact W
def CellQ (us:SL bU) (cs:SL bG) (H:aC) (G:Nat->a6) (pm tm pf tf:Nat) (m:aI) (f:aW) (L:aF aY) (r:AV) (H':aC) (_:Nat):Prop:=
 ∃(k:Nat) (G':Nat->a6) (a b:AV) (f':aW),r=.I k/\k<a.ln/\PE us cs H G pm tm pf tf m f L 1 2 H' G' {m with cells:=a,dR:=b} f'
def SetQ (us:SL bU) (cs:SL bG) (H:aC) (G:Nat->a6) (pm tm pf tf:Nat) (m:aI) (f:aW) (L:aF aY) (r:AV) (H':aC) (_:Nat):Prop:=
 ∃(G':Nat->a6) (a b:AV) (f':aW),r=.aX []/\PE us cs H G pm tm pf tf m f L 1 2 H' G' {m with cells:=a,dR:=b} f'
def GetQ (m:aI) (H:aC) (r:AV) (H':aC) (_:Nat):Prop:=H'=H/\∃v:aO,r=.agg v.enc/\m.V v
def cell_con {name} {c0} (h:Lay us cs H G pm tm m) (J:cY H G pf tf m f L) (E:m.mp+2<=1650000000000) (E:ew f L+4000*m.bH+1<=81000000):
  cA aE 235 [.ptr pm tm 19 0 0,.ptr pf tf 7 0 0,.str name] H c0 (CellQ us cs H G pm tm pf tf m f L):=by
 refine cO F235 ?_;simp[F235];refine OQ h J λn E E E=>?_;by_cases T:n<0
 .simp[T];rw[z5];refine II h .nil (by omega) λa H' G' E E W _=>?_;have W:=E.bI J;have Z:=E.pe J;have hmp:aI.mp {m with cells:=a}<=m.mp+1:=E.mp.1;simp;refine P6 E.aT W ⟨by omega,by simp only;omega⟩ (by omega) (by simp only;omega) λE W b f' E E=>?_;simp;exact dD ⟨m.cells.ln,W,a,b,f',rfl,by omega,(Z.trans E).le (by omega) (by omega)⟩
 .simp[T];obtain⟨k,rfl⟩:=iY (GG.1 T);exact dD ⟨k,G,m.cells,m.dR,f,rfl,by omega,(PE.refl h J).le (by omega) (by omega)⟩
def EZ {name} {c} {K:aD} (h:Lay us cs H G pm tm m) (T:cY H G pf tf m f L) (J:m.mp+2<=1650000000000) (W:ew f L+4000*m.bH+1<=81000000)
  (k:∀(n:Nat) H' G' a b f' E,n<a.ln->PE us cs H G pm tm pf tf m f L 1 2 H' G' {m with cells:=a,dR:=b} f'->K (.I n) H' E):bO aE 235 [.ptr pm tm 19 0 0,.ptr pf tf 7 0 0,.str name] H c K:=
 gL (cell_con h T J W) λr H' E ⟨n,G',a,b,f',W,T,J⟩=>by subst W;exact k n H' G' a b f' E T J
def set_con {name} {v:aO} {c0} (h:Lay us cs H G pm tm m) (J:cY H G pf tf m f L) (hv:m.V v) (E:m.mp+2<=1650000000000) (T:ew f L+4000*m.bH+1<=81000000):
  cA aE 252 [.ptr pm tm 19 0 0,.ptr pf tf 7 0 0,.str name,.agg v.enc] H c0 (SetQ us cs H G pm tm pf tf m f L):=by
 refine cO F252 ?_;simp[F252];refine EZ (h.app _) (J.app _) E T λn H' G' a b f' E hn q=>?_;obtain⟨E,J⟩:=q.loc (q:=H.length) (by simp;rfl) (h.out _ (bB _));obtain⟨p,t,C,x,J,T,Z,W,T,T,T,T⟩:=q.aT.cell hn;have g1:∀K:aH->Prop,aZ H' pm K=K (aI.ob {m with cells:=a,dR:=b} tm):=aL q.aT.hm;have g2:=λK:aH->Prop=>aL E K;have g3:=λK:aH->Prop=>aL Z K;simp only at J;have E:(n:Int)<(C.length:Int):=by omega
 simp[g1,g2,g3,aI.bD,aI.g2,J,E,aL W];have E:aI.V {m with cells:=a,dR:=b} v:=hv.mono q.mono;have J:=(T v E).pe q.bI;exact dD ⟨G',a,b,f',rfl,((q.gU).trans J).le (by omega) (by omega)⟩
def C9 {name} {v:aO} {c} {K:aD} (h:Lay us cs H G pm tm m) (W:cY H G pf tf m f L) (J:m.V v) (T:m.mp+2<=1650000000000) (Z:ew f L+4000*m.bH+1<=81000000)
  (k:∀H' G' a b f' E,PE us cs H G pm tm pf tf m f L 1 2 H' G' {m with cells:=a,dR:=b} f'->K (.aX []) H' E):bO aE 252 [.ptr pm tm 19 0 0,.ptr pf tf 7 0 0,.str name,.agg v.enc] H c K:=
 gL (set_con h W J T Z) λr H' E ⟨G',a,b,f',T,J⟩=>by subst T;exact k H' G' a b f' E J
def get_con {name:aA} {c0:Nat} (h:Lay us cs H G pm tm m) (T:cY H G pf tf m f L):
  cA aE 237 [.ptr pm tm 19 0 0,.ptr pf tf 7 0 0,.str name] H c0 (GetQ m H):=by
 have W:=λM K=>bT T.hf M K;have E:=h.b.o;have E:=T.p.this;refine cO F237 ?_;unfold F237;have E:∀{v:aO} {M:aC} {J:Nat},m.V v->cE (GetQ m H) (.agg v.enc) (H++M) J:=λJ=>fI (Hk:=H) (List.sublist_append_left _ _) (.refl _) ⟨rfl,_,rfl,J⟩;by_cases J:name=[116,104,105,115]
 .by_cases Z:0<f.this
  .have hw:IntKind.i64.wrap (f.this-1)=f.this-1:=wrap64 (by omega) (by omega);simp[J,W,aW.bD,aW.g2,Z,hw,aR,bW];rw[o5];exact E (VM.AM (.inl ⟨rfl,by omega,by omega⟩) (by omega))
  .simp[J,W,aW.bD,aW.g2,Z,aR,bW];rw[z5];exact E .nil
 .simp[J];refine OQ (h.app _) (T.app _) λn T J J=>?_;by_cases J:n<0
  .simp[J,aR,bW];rw[z5];exact E .nil
  .obtain⟨k,rfl⟩:=iY (GG.1 J);obtain⟨p,t,C,x,k1,T,T,Z,W,k6,k7,k8⟩:=h.cell (k:=k) (by omega);have g1:=λM K=>bT h.hm M K;have g3:=λM K=>bT T M K;have T:(k:Int)<(C.length:Int):=by omega
   simp[J,g1,g3,aI.bD,aI.g2,k1,T,aL Z,bW];exact E W
def OG {name} {c} {K:aD} (h:Lay us cs H G pm tm m) (hf:cY H G pf tf m f L) (k:∀(v:aO) c',m.V v->K (.agg v.enc) H c'):bO aE 237 [.ptr pm tm 19 0 0,.ptr pf tf 7 0 0,.str name] H c K:=
 gL (get_con h hf) λr H' c' ⟨h1,v,h2,h3⟩=>by subst h1;subst h2;exact k v c' h3
end
set_option maxRecDepth 100000
def Kp.sD {O:a6->Prop} {H H':aC} {G G':Nat->a6} (h:Kp O H G H' G') {p} (E:H.length<=p) ob:Kp O H G (H'.set p ob) G':=λq x E J=>by
 obtain⟨a,b⟩:=h q x E J;have:=(bQ.1 E).1;exact⟨by rw[uR (by omega)];exact a,b⟩
def wP {H:aC} {G:Nat->a6} (h:∀p,H.length<=p->G p=.bP) p ob:∀q,(H.set p ob).length<=q->G q=.bP:=λq E=>h q (by simpa using E)
def vB {H:aC} {G:Nat->a6} (h:∀p,H.length<=p->G p=.bP) M:∀q,(H++M).length<=q->G q=.bP:=λq E=>h q (by simp at E;omega)
def fF {H:aC} {q:Nat} {x} (h:H[q]?=some x) M:(H++M)[q]?=some x:=by rw[gY (bQ.1 h).1];exact h
def eC {H:aC} {p q:Nat} {x} (h:H[q]?=some x) (E:p≠q) ob:(H.set p ob)[q]?=some x:=by rw[uR E];exact h
def bL {α:Type} {H:aF α} {q:Nat} {x:α} (h:H[q]?=some x):q<H.length:=(bQ.1 h).1
def CL (H:aC) (m:aI) (k n:Nat):Prop:=∃p t O E a,m.bS=.ref p t 2 (List.length O)/\H[p]?=some ⟨false,t,2,O.map fU⟩/\O[k]?=some (E,a)/\a.ln=n
def CL.MW {H:aC} {m} {k n q:Nat} {x:aH} (h:CL H m k n) (J:H[q]?=some x) (W:x.w≠2) y:CL (H.set q y) m k n:=by
 obtain⟨p,t,O,cl,a,h1,T,h3,Z⟩:=h;have E:q≠p:=λe=>by subst e;rw[T] at J;cases J;exact W rfl
 exact⟨p,t,O,cl,a,h1,eC T E _,h3,Z⟩
section
variable {us:SL bU} {cs:SL bG} {H H' H'':aC} {G G' G'':Nat->a6} {pm tm pf tf:Nat} {m m' m'':aI} {f f' f'':aW} {L L' L'':aF aY} {a b a' b':Int}
def Lay.addobj (h:Lay us cs H G pm tm m) {cl:aA} {a:AV} {F:aF cH} {O:aF (aA×AV)} {p t:Nat} (hcl:cl.length<=20000) (hO:∀k x,O[k]?=some x->vZ H G m k x.2/\x.1.length<=20000) (hOl:O.length=m.bS.ln)
  (hF:Slot H G (.jH m.bS.ln) 6 a (F.map cH.enc)) (hFl:F.length<=20000000000) (hFv:∀x,x∈F->m.V x.jV) (hs:Slot H' G' .bS 2 (.ref p t 2 (O.length+1)) (O.map fU++[[.str cl,a]])) (hc:cB (λx=>x=.bS) H G H' G') (out:∀p,H'.length<=p->G' p=.bP) (hn:O.length<40):
  Lay us cs (H'.set pm (aI.ob {m with bS:=.ref p t 2 (O.length+1)} tm)) G' pm tm {m with bS:=.ref p t 2 (O.length+1)}/\cB mM H G (H'.set pm (aI.ob {m with bS:=.ref p t 2 (O.length+1)} tm)) G'/\eV m {m with bS:=.ref p t 2 (O.length+1)}/\CL (H'.set pm (aI.ob {m with bS:=.ref p t 2 (O.length+1)} tm)) {m with bS:=.ref p t 2 (O.length+1)} m.bS.ln F.length:=by
 obtain⟨hm',gm'⟩:=hc pm _ h.hm (by rw[h.gm];simp);have hl':=bL hm';have hb:=h.b;have hmono:eV m {m with bS:=.ref p t 2 (O.length+1)}:=⟨by simp only[sK];omega,bB _,bB _,bB _,lU _,rfl⟩
 have hset:Kp (λo=>¬o=.jU) H' G' (H'.set pm (aI.ob {m with bS:=.ref p t 2 (O.length+1)} tm)) G':=cB.set (S:=λo=>o=.jU) _ (gm'.trans h.gm);have kk:Kp (λo=>¬o=.bS/\¬o=.jU) H G (H'.set pm (aI.ob {m with bS:=.ref p t 2 (O.length+1)} tm)) G':=(Kp.mono hc λo h=>h.1).trans (hset.mono λo h=>h.2);have hs':=hs.kp hset (by simp);have e:O.map fU++[[.str cl,a]]=(O++[(cl,a)]).map fU:=by simp[fU]
 rw[e] at hs';refine⟨⟨eP hl',gm'.trans h.gm,wP out _ _,h.us,h.cs,⟨by simp only[sK];omega,hb.c,hb.g,hb.mp,hb.bH,hb.ab,hb.af,hb.depth,hb.jI.mono hmono,hb.a1,hb.out⟩,h.cells.kp kk (by simp) rfl hmono,h.dR.kp kk (by simp) rfl hmono,⟨O++[(cl,a)],hs',λj x hx=>?_⟩,h.b9.kp kk (by simp) rfl hmono,h.cJ.kp kk (by rintro o (rfl|⟨k,rfl|rfl⟩)<;>simp) rfl hmono⟩,kk.mono λo ho=>⟨λe=>by subst e;exact ho trivial,λe=>by subst e;exact ho trivial⟩,hmono,?_⟩
 .rw[yA] at hx;split at hx
  .exact⟨(hO j x hx).1.kp kk (by simp) hmono,(hO j x hx).2⟩
  .rename_i hj;have hj2:j=O.length:=by
    have:=bL hx;simp at this;omega
   subst hj2;simp at hx;subst hx;have e2:a6.jH O.length=a6.jH m.bS.ln:=by rw[hOl]
   refine⟨⟨F,?_,hFl,λf hf=>(hFv f hf).mono hmono⟩,hcl⟩;rw[e2];exact hF.kp kk (by simp)
 .have hfl:=hF.ln;simp at hfl;rcases hs' with⟨h0,_⟩|⟨p1,t1,e1,e2,_⟩
  .cases h0
  .simp at e1;obtain⟨rfl,rfl⟩:=e1;exact⟨p,t,O++[(cl,a)],cl,a,by simp,e2,by rw[<-hOl];simp,hfl⟩
def T5 s (v:aO):aR (aR [.str [],.I 0,.I 0,.str [],.I 0,.aU] 0 [.str s]) 1 v.enc=(cH.mk s v).enc:=by simp[aR,cH.enc,aO.dW]
def MkQ (us:SL bU) (cs:SL bG) (H:aC) (G:Nat->a6) (pm tm:Nat) (m:aI) (cl:aA) (r:AV) (H':aC) (_:Nat):Prop:=
 (r=.aX [.agg (sV 0 0 []).enc,.bool false]/\PA us cs H G pm tm m 0 H' G (m.fail 5))\/
 (r=.aX [.agg (sV 6 m.bS.ln []).enc,.bool true]/\∃G' a i x,PA us cs H G pm tm m 0 H' G' {m with bS:=a}/\a.ln=m.bS.ln+1/\cs.aG[i]?=some x/\(∀y,y∈cs.aG.take i->y.Name≠cl)/\CL H' {m with bS:=a} m.bS.ln (bG.eS x).aG.length)
def make_con {cl:aA} {c0:Nat} (h:Lay us cs H G pm tm m) (hP:fC us cs) (hcl:∃x,x∈cs.aG/\x.Name=cl):cA aE 161 [.ptr pm tm 19 0 0,.str cl] H c0 (MkQ us cs H G pm tm m cl):=by
 obtain⟨O,hO,hO2⟩:=h.bS;have hOl:=hO.ln;simp at hOl;have hob:=h.b.o;have hla:∀M K,aZ (H++M) pm K=K (m.ob tm):=λM K=>bT h.hm M K;have hlen:=hO.cell;refine cO F161 ?_;unfold F161;have hlenL:∀K:AV->Prop,oV m.bS K=K (.I O.length):=λK=>by
  rcases hO with⟨e,h0⟩|⟨p,t,e,_⟩
  .simp at h0;subst h0;rw[e];simp
  .rw[e];simp
 by_cases h40:40<=O.length
 .have h40':(40:Int)<=(O.length:Int):=by omega
  simp[hla,aI.bD,aI.g4,hlenL,h40'];refine EM (h.app _) λH' c' q=>?_;obtain⟨l1,o1⟩:=q.loc (q:=H.length) (by simp;rfl) (h.out _ (bB _));have g1:=λK:aH->Prop=>aL l1 K;have hl1:=bL l1;simp[g1,hl1];refine dD (.inl ⟨by rw[z5],?_⟩);exact⟨q.aT.eZ _ o1,q.gU.fV.trans (cB.refl) |> λhh=>(show cB mM H G _ G from(Kp.sD hh (bB _) _)),q.mono,q.mp⟩
 have h40':¬(40:Int)<=(O.length:Int):=by omega
 simp[hla,aI.bD,aI.g4,hlenL,h40',-jN,aR];refine nK (λe H' c'=>∃i x tC,H'=H++[⟨false,c0,5,[[.I 0,.I 0,.str [],.I 0,.aU]]⟩,⟨false,c0+1,2,[[.str cl,.aU]]⟩,⟨false,tC,4,[[.str [],.str [],.aU,.aU]]⟩]/\cs.aG[i]?=some x/\bG.Name x=cl/\(∀y,y∈cs.aG.take i->y.Name≠cl)/\e 0=.ptr pm tm 19 0 0/\e 4=.ptr H.length c0 5 0 0/\e 6=.ptr (H.length+1) (c0+1) 2 0 0/\e 7=.ptr (H.length+2) tC 4 0 0/\e 31=.agg (bG.enc x)) ?_ ?_;rotate_left
 .intro K hK;have key:∀(M:aC) (c:Nat) (K:aD),(∀i x c',cs.aG[i]?=some x->x.Name=cl->(∀y,y∈cs.aG.take i->y.Name≠cl)->K (.I (i:Nat)) (H++M) c')->bO aE 127 [cs.av 4 bG.enc,.str cl] (H++M) c K:=λM c K k=>
   qJ (.refl _) (cL hP.l (by decide)) (λc' _ hn=>by obtain⟨x,hx,hxn⟩:=hcl;exact absurd hxn (hn x hx)) λi x c' _ h1 h2 h3=>k i x c' h1 h2 h3
  simp[hla,aI.bD,aI.g1,h.cs]
  repeat' first
   |with_reducible apply And.intro
   |(with_reducible refine key _ _ _ λi x c1 h1 h2 h3=>?_
     have hil:=bL h1;simp[hla,aI.bD,aI.g1,h.cs,aL h1]
     repeat' first
      |with_reducible apply And.intro
      |exact hK _ _ _ ⟨i,x,_,rfl,h1,h2,h3,rfl,rfl,rfl,rfl,rfl⟩)
 intro e H1 c1 ⟨i,x,tC,hH,hx,hxn,hxi,e0,e4,e6,e7,e31⟩;subst hH;have hxo:=hP.c x (bA hx);have hfl:x.eS.aG.length<=10000000000:=cL hxo.f.len hP.n;have hz:∀K:AV->Prop,aZ x.enc 2 K=K (x.eS.av 8 dQ.enc):=λK=>by simp[bG.enc]
 have hp4:aR [.str [],.str [],.aU,.aU] 0 x.enc=x.enc:=by simp[bG.enc,aR]
 simp[e7,e31,cM,hp4];refine tP x.eS.aG.length (λi e Hc c=>∃(Gc:Nat->a6) (a:AV) (F:aF cH),Kp (λo=>¬o=.jH m.bS.ln) H G Hc Gc/\(∀p,Hc.length<=p->Gc p=.bP)/\Slot Hc Gc (.jH m.bS.ln) 6 a (F.map cH.enc)/\F.length=i/\(∀y,y∈F->m.V y.jV)/\
  Hc[H.length]?=some ⟨false,c0,5,[[.I 0,.I 0,.str [],.I 0,.aU]]⟩/\Hc[H.length+1]?=some ⟨false,c0+1,2,[[.str cl,a]]⟩/\Hc[H.length+2]?=some ⟨false,tC,4,[x.enc]⟩/\Gc H.length=.bP/\Gc (H.length+1)=.bP/\Gc (H.length+2)=.bP/\
  e 0=.ptr pm tm 19 0 0/\e 4=.ptr H.length c0 5 0 0/\e 6=.ptr (H.length+1) (c0+1) 2 0 0/\e 7=.ptr (H.length+2) tC 4 0 0/\e 8=.I i) ⟨G,.aU,[],cB.app (S:=λo=>o=.jH m.bS.ln) _,vB h.out _,.nil,rfl,by simp,by simp,by simp,by simp,h.out _ (by omega),h.out _ (by omega),h.out _ (by omega),e0,e4,e6,e7,rfl⟩ ?_
 clear e0 e4 e6 e7 e31;intro j e Hc c hj ⟨Gc,a,F,hK,hout,hsl,hFl,hFv,la,lb,lc,oa,ob,oc,e0,e4,e6,e7,e8⟩ N hN;have ga:=λM K=>bT la M K;have gb:=λM K=>bT lb M K;have gc:=λM K=>bT lc M K;have ga0:=λK:aH->Prop=>aL la K;have gb0:=λK:aH->Prop=>aL lb K;have gc0:=λK:aH->Prop=>aL lc K;by_cases hjl:j<x.eS.aG.length
 .obtain⟨y,hy⟩:∃y,x.eS.aG[j]?=some y:=⟨_,bC hjl⟩
  have hlt:(j:Int)<(x.eS.aG.length:Int):=by omega
  have hst:=cD (i:=j) (n:=x.eS.aG.length) (by unfold mx;omega) hjl;simp[e6,e7,e8,hlt,gb0,gc0,hz,aL hy];rw[T5];refine⟨by simp[aR],by simp,?_⟩;have hyv:m.V y.Init:=VM.mono (hxo.f.a y (bA hy)).v (kH _) (kH _) (kH _);refine xS (hsl.kp (cB.app (S:=λ_=>False) _) (λh=>h)) (vB hout _) (aM:=(cH.mk y.Name y.Init).enc) (by simp) (by simp;omega) (by simp;unfold mx;omega) λp2 H2 G2 hs2 hc2 out2=>?_;have hall:Kp (λo=>¬o=.jH m.bS.ln) Hc Gc H2 G2:=Kp.trans (cB.app (S:=λo=>o=.jH m.bS.ln) _) hc2;obtain⟨la2,oa2⟩:=hall _ _ la (by rw[oa];simp);obtain⟨lb2,ob2⟩:=hall _ _ lb (by rw[ob];simp);obtain⟨lc2,oc2⟩:=hall _ _ lc (by rw[oc];simp);have gb2:=λK:aH->Prop=>aL lb2 K;have hlb2:=bL lb2;simp[gb2,e6,e8,hst];have hss:Kp (λo=>¬o=.bP) H2 G2 (H2.set (H.length+1) ⟨false,c0+1,2,[[.str cl,.ref p2 (c+1) 6 (F.length+1)]]⟩) G2:=cB.set (S:=λo=>o=.bP) _ (ob2.trans ob);refine hN _ _ _ hjl ⟨G2,.ref p2 (c+1) 6 (F.length+1),F++[cH.mk y.Name y.Init],Kp.sD (hK.trans hall) (by omega) _,wP out2 _ _,?_,by simp[hFl],λz hz=>?_,eC la2 (by omega) _,by rw[eP hlb2];simp[aR],eC lc2 (by omega) _,oa2.trans oa,ob2.trans ob,oc2.trans oc,e0,e4,e6,e7,rfl⟩
  .have:=hs2.kp hss (by simp);simpa[aR] using this
  .rcases dI.1 hz with h1|h1
   .exact hFv z h1
   .simp at h1;subst h1;exact hyv
 .have hlt:¬(j:Int)<(x.eS.aG.length:Int):=by omega
  have hjx:j=x.eS.aG.length:=by omega
  have hL3:Lay us cs Hc Gc pm tm m:=h.DY (hK.mono λo ho=>ho.2) hout;have gm:=λK:aH->Prop=>aL hL3.hm K;have gmA:=λM K=>bT hL3.hm M K;have hac:=hsl.cell;simp[e0,e6,e7,e8,hlt,gc0,hz,gm,aI.bD,aI.g4,gb0];have hO3:Slot Hc Gc .bS 2 m.bS (O.map fU):=hO.kp hK (by simp);have hO4:∀k x,O[k]?=some x->vZ Hc Gc m k x.2/\x.1.length<=20000:=λk x hx=>by
   obtain⟨⟨F1,q1,q2,q3⟩,q4⟩:=hO2 k x hx;have hkl:=bL hx;exact⟨⟨F1,q1.kp hK (by simp;omega),q2,q3⟩,q4⟩
  refine xS (hO3.kp (cB.app (S:=λ_=>False) _) (λh=>h)) (vB hout _) (aM:=[.str cl,a]) (by simp) (by simp;omega) (by simp;unfold mx;omega) λp2 H2 G2 hs2 hc2 out2=>?_;have hall:cB (λo=>o=.bS) Hc Gc H2 G2:=Kp.trans (cB.app (S:=λo=>o=.bS) _) hc2;obtain⟨lm2,om2⟩:=hall _ _ hL3.hm (by rw[hL3.gm];simp);obtain⟨la2,oa2⟩:=hall _ _ la (by rw[oa];simp);have gm2:=λK:aH->Prop=>aL lm2 K;have hlm2:=bL lm2;have hla2:=bL la2;simp only[nR] at hs2 ⊢;obtain⟨r1,r2,r3,r4⟩:=hL3.addobj (by rw[<-hxn];exact hxo.nl) hO4 hOl.symm hsl (by omega) hFv hs2 hall out2 (by omega);have hne:pm≠H.length:=λe=>by rw[e] at lm2;rw[la2] at lm2;cases lm2
  have g5:∀(X:aH) (K:aH->Prop),aZ (H2.set pm X) H.length K=K ⟨false,c0,5,[[.I 0,.I 0,.str [],.I 0,.aU]]⟩:=λX K=>aL (eC la2 hne _) K;have hw:IntKind.i64.wrap (O.length:Int)=O.length:=wrap64 (by omega) (by omega);simp[gm2,e0,e4,aI.bD,aI.p4,aI.g4,g5];refine⟨hlm2,?_⟩;rw[hw];simp[aR,hla2];refine dD (.inr ⟨by rw[o5,hOl],G2,.ref p2 (c+1) 2 (O.length+1),i,x,?_,by simp[hOl],hx,hxi,?_⟩)
  .have hcc:cB mM H G (H2.set pm (aI.ob {m with bS:=.ref p2 (c+1) 2 (O.length+1)} tm)) G2:=Kp.trans (hK.mono λo ho e=>by subst e;exact ho trivial) r2;exact⟨r1.eZ _ (oa2.trans oa),hcc.sD (bB _) _,r3,by simp[aI.mp]⟩
  .have:=r4.MW (eC la2 hne _) (by simp) ⟨false,c0,5,[[.I 6,.I O.length,.str [],.I 0,.aU]]⟩;rw[<-hjx,<-hFl];exact this
end
set_option maxRecDepth 100000
def M5 (x:cH) (v:aO):aR x.enc 1 v.enc=(cH.mk x.Name v).enc:=by simp[aR,cH.enc,aO.dW]
@[simp] theorem sV_Kind (k n:Int) s:(sV k n s).aJ=k:=rfl
@[simp] theorem sV_Num (k n:Int) s:(sV k n s).bN=n:=rfl
@[simp] theorem sV_Str (k n:Int) s:(sV k n s).dN=s:=rfl
@[simp] theorem sV_Items (k n:Int) s:(sV k n s).bF=.nil:=rfl
section
variable {us:SL bU} {cs:SL bG} {H H' H'':aC} {G G' G'':Nat->a6} {pm tm pf tf:Nat} {m m' m'':aI} {f f' f'':aW} {L L' L'':aF aY} {a b a' b':Int}
structure pZ (H:aC) (G:Nat->a6) (m:aI) (k p t:Nat) (O:List (aA×AV)) (cl:aA) (a:AV) (F:List cH):Prop where
 e:m.bS=.ref p t 2 (List.length O)
 kl:k<O.length
 ho:H[p]?=some ⟨false,t,2,O.map fU⟩
 o:O[k]?=some (cl,a)
 g:G p=.bS
 s:Slot H G (.jH k) 6 a (F.map cH.enc)
 l:F.length<=20000000000
 v:∀x,x∈F->m.V x.jV
 c:cl.length<=20000
def Lay.obj (h:Lay us cs H G pm tm m) {k} (E:k<m.bS.ln):∃p t O T a F,pZ H G m k p t O T a F/\pm≠p:=by
 obtain⟨O,W,J⟩:=h.bS;have E:=W.ln;simp at E;obtain⟨⟨T,a⟩,E⟩:∃x,O[k]?=some x:=⟨_,bC (by omega)⟩
 obtain⟨⟨F,h1,h2,h3⟩,Z⟩:=J k _ E;rcases W with⟨_,W⟩|⟨p,t,e1,e2,J⟩
 .simp at W;subst W;simp at E
 .exact⟨p,t,O,T,a,F,⟨by rw[e1];simp,by omega,e2,E,J,h1,h2,h3,Z⟩,λe=>by subst e;rw[h.gm] at J;cases J⟩
def pZ.gE {O':a6->Prop} {k p t:Nat} {O:aF (aA×AV)} {cl:aA} {a:AV} {F:aF cH} (x:pZ H G m k p t O cl a F) (q:Kp O' H G H' G') (W:O' .bS) (T:O' (.jH k)):pZ H' G' m k p t O cl a F:=by obtain⟨J,E⟩:=q p _ x.ho (by rw[x.g];exact W);exact⟨x.e,x.kl,J,x.o,E.trans x.g,x.s.kp q T,x.l,x.v,x.c⟩
def Lay.XR (h:Lay us cs H G pm tm m) {k:Nat} {O O':aF (aA×AV)} {a:AV} {cl:aA} {F:aF cH} (hcl:cl.length<=20000) (hO:∀k x,O[k]?=some x->vZ H G m k x.2/\x.1.length<=20000) (hc:cB (λo=>o=.jH k\/o=.bS) H G H' G') (out:∀p,H'.length<=p->G' p=.bP)
  (hs:Slot H' G' .bS 2 m.bS (O'.map fU)) (h1:∀j x,O'[j]?=some x->j≠k->O[j]?=some x) (h2:O'[k]?=some (cl,a)) (hF:Slot H' G' (.jH k) 6 a (F.map cH.enc)) (hl:F.length<=20000000000) (hv:∀x,x∈F->m.V x.jV):PA us cs H G pm tm m 0 H' G' m:=by
 obtain⟨q1,q2⟩:=hc pm _ h.hm (by rw[h.gm];simp);refine⟨⟨q1,q2.trans h.gm,out,h.us,h.cs,h.b,h.cells.kp hc (by simp) rfl (.refl _),h.dR.kp hc (by simp) rfl (.refl _),⟨O',hs,λj x hx=>?_⟩,h.b9.kp hc (by simp) rfl (.refl _),h.cJ.kp hc (by rintro o (rfl|⟨k,rfl|rfl⟩)<;>simp) rfl (.refl _)⟩,hc.mono (λo ho=>by rcases ho with rfl|rfl<;>trivial),.refl _,by omega⟩;by_cases e:j=k
 .subst e;rw[h2] at hx;cases hx;exact⟨⟨F,hF,hl,hv⟩,hcl⟩
 .exact⟨(hO j x (h1 j x hx e)).1.kp hc (by simp;exact e) (.refl _),(hO j x (h1 j x hx e)).2⟩
def pZ.yL {k p t i:Nat} {O:aF (aA×AV)} {cl:aA} {a:AV} {F:aF cH} {x:cH} (o:pZ H G m k p t O cl a F) (h:Lay us cs H G pm tm m) (Z:F[i]?=some x):∃E J,a=.ref E J 6 (List.length F)/\H[E]?=some ⟨false,J,6,F.map cH.enc⟩/\G E=.jH k/\
  ∀v,m.V v->PA us cs H G pm tm m 0 (H.set E ⟨false,J,6,(F.map cH.enc).set i (cH.mk x.Name v).enc⟩) G m:=by
 rcases o.s with⟨_,h0⟩|⟨E,J,e1,e2,W⟩
 .simp at h0;subst h0;simp at Z
 .refine⟨E,J,by rw[e1];simp,e2,W,λv hv=>?_⟩;obtain⟨O1,T,hO2⟩:=h.bS;have hO:Slot H G .bS 2 m.bS (O.map fU):=.inr ⟨p,t,by rw[o.e];simp,o.ho,o.g⟩;have hO3:∀k x,O[k]?=some x->vZ H G m k x.2/\x.1.length<=20000:=by
   rcases T with⟨e,h0⟩|⟨T,T,e,h1,_⟩
   .rw[o.e] at e;cases e
   .have T:=o.e.symm.trans e;simp at T;obtain⟨rfl,rfl,W⟩:=T;have:=o.ho.symm.trans h1;simp at this;have T:O=O1:=by
     have hf:Function.Injective fU:=λa b h=>by
      simp[fU] at h;exact Prod.ext h.1 h.2
     exact(LK hf).1 this
    subst T;exact hO2
  have hpl:=bL e2;have T:cB (λy=>y=.jH k) H G (H.set E ⟨false,J,6,(F.map cH.enc).set i (cH.mk x.Name v).enc⟩) G:=cB.set (S:=λy=>y=.jH k) _ W;have hc:cB (λy=>y=.jH k\/y=.bS) H G (H.set E ⟨false,J,6,(F.map cH.enc).set i (cH.mk x.Name v).enc⟩) G:=T.mono λo ho=>.inl ho;refine h.XR o.c hO3 hc (wP h.out _ _) (hO.kp T (by simp)) (λj x Z _=>Z) o.o (F:=F.set i (cH.mk x.Name v)) (.inr ⟨E,J,by rw[e1];simp,by rw[eP hpl,lT],W⟩) (by simpa using o.l) λy E=>?_;rcases rZ E with h|h
  .exact o.v y h
  .subst h;exact hv
def QG (us:SL bU) (cs:SL bG) (H:aC) (G:Nat->a6) (pm tm:Nat) (m:aI) (r:AV) (H':aC) (_:Nat):Prop:=
 r=.agg (sV 0 0 []).enc/\∃G' m',PA us cs H G pm tm m 0 H' G' m'
def NR {cl} {c} {K:aD} (h:Lay us cs H G pm tm m) (T:fC us cs) (J:∃x,x∈cs.aG/\x.Name=cl)
  (Z:∀H' E,PA us cs H G pm tm m 0 H' G (m.fail 5)->K (.aX [.agg (sV 0 0 []).enc,.bool false]) H' E)
  (W:∀H' G' a i x E,PA us cs H G pm tm m 0 H' G' {m with bS:=a}->a.ln=m.bS.ln+1->cs.aG[i]?=some x->(∀y,y∈cs.aG.take i->y.Name≠cl)->CL H' {m with bS:=a} m.bS.ln (bG.eS x).aG.length->K (.aX [.agg (sV 6 m.bS.ln []).enc,.bool true]) H' E):
  bO aE 161 [.ptr pm tm 19 0 0,.str cl] H c K:=
 gL (make_con h T J) λr H' E J=>by
  rcases J with⟨T,J⟩|⟨T,G',a,i,x,J,h3,h4,h5,h6⟩
  .subst T;exact Z H' E J
  .subst T;exact W H' G' a i x E J h3 h4 h5 h6
def fC.err (E:fC us cs):∃x,x∈cs.aG/\x.Name=sR:=by obtain⟨y,T,J,_⟩:=E.e;exact⟨y,bA T,J⟩
def throw_con {W:aA} {c0} (h:Lay us cs H G pm tm m) (J:fC us cs) (E:m.ab=0) (hmsg:W.length<=400):cA aE 125 [.ptr pm tm 19 0 0,.str W] H c0 (QG us cs H G pm tm m):=by
 refine cO F125 ?_;simp[F125];have E:=J.err;unfold sR at E;refine NR (h.app _) J E (λZ T q=>?_) λZ G1 a i x T q E hx hxi hfn=>?_
 .obtain⟨l1,o1⟩:=q.loc (q:=H.length) (by simp;rfl) (h.out _ (bB _));have g1:=λM K=>bT l1 M K;have E:=bL l1;have E:=bL l1;simp[g1];refine⟨by omega,dD ⟨by rw[z5],G,m.fail 5,?_⟩⟩;have E:=(q.gU.app [⟨false,T,5,[(sV 0 0 []).enc]⟩])
  exact⟨E.aT.eZ _ o1,E.fV.sD (bB _) _,E.mono,E.mp⟩
 .obtain⟨l1,o1⟩:=q.loc (q:=H.length) (by simp;rfl) (h.out _ (bB _));have hi0:i=0:=by
   obtain⟨y,hy,E,_⟩:=J.e;rcases Q4 i with h|h
   .exact h
   .refine absurd E (hxi y ?_);refine bA (i:=0) ?_;rw[wD h];exact hy
  subst hi0;have hx1:1<=x.eS.aG.length:=by
   obtain⟨y,hy,_,E⟩:=J.e;rw[hx] at hy;cases hy;exact E
  obtain⟨p,t,O,E,E,F,E,J⟩:=q.aT.obj (k:=m.bS.ln) (by simp only;omega);have J:1<=F.length:=by
   obtain⟨J,J,O2,J,J,J,w2,w3,w4⟩:=hfn;have e1:=E.e;simp only at e1 J;rw[e1] at J;simp at J;obtain⟨rfl,rfl,hOl⟩:=J;rw[E.ho] at w2;simp at w2;have J:Function.Injective fU:=λa b h=>by
    simp[fU] at h;exact Prod.ext h.1 h.2
   have:O=O2:=(LK J).1 w2;subst this;rw[E.o] at w3;cases w3;have:=E.s.ln;simp at this;omega
  obtain⟨y,hy⟩:∃y,F[0]?=some y:=⟨_,bC (by omega)⟩
  have J:=q.aT.app [⟨false,T,5,[(sV 6 m.bS.ln []).enc]⟩];have E:=E.gE (cB.app (S:=λ_=>False) [⟨false,T,5,[(sV 6 m.bS.ln []).enc]⟩]) (λh=>h) (λh=>h);obtain⟨pF,tF,f1,f2,f3,f4⟩:=E.yL J hy;have gm:=λK=>aL J.hm K;have gO:=λK=>aL E.ho K;have gF:=λK=>aL f2 K;have gk:=λK=>aL E.o K;have hobs:=h.b.o;have hlt:(m.bS.ln:Int)<(O.length:Int):=by have:=E.kl;omega
  have hOe:=E.e;have ho1:=q.aT.out Z.length (bB _);simp only at hOe;subst hOe;simp[gm,aI.bD,aI.g4,bW,hlt,gO,gk,fU,f1];refine cX (nU W) (fB _) λc2 _=>?_;have lB:(Z++[⟨false,T,5,[(sV 6 m.bS.ln []).enc]⟩]:aC)[Z.length]?=some ⟨false,T,5,[(sV 6 m.bS.ln []).enc]⟩:=by simp
  have lA:=fF l1 [⟨false,T,5,[(sV 6 m.bS.ln []).enc]⟩];have oF:∀q,G1 q=.bP->pF≠q:=λq hq e=>by subst e;rw[f3] at hq;cases hq
  have oM:∀q,G1 q=.bP->pm≠q:=λq hq e=>by subst e;rw[J.gm] at hq;cases hq
  have hmF:pF≠pm:=λe=>by rw[e,J.gm] at f3;cases f3
  have q4:=f4 (sV 3 0 W) (VM.sc (by omega) (by omega) hmsg);have s1:∀X (K:aH->Prop),aZ ((Z++[⟨false,T,5,[(sV 6 m.bS.ln []).enc]⟩]:aC).set pF X) pm K=K (aI.ob {m with bS:=.ref p t 2 O.length} tm):=λX K=>aL (eC J.hm hmF X) K;have s2:∀X Y (K:aH->Prop),aZ (((Z++[⟨false,T,5,[(sV 6 m.bS.ln []).enc]⟩]:aC).set pF X).set pm Y) Z.length K=K ⟨false,T,5,[(sV 6 m.bS.ln []).enc]⟩:=λX Y K=>aL (eC (eC lB (oF _ ho1) X) (oM _ ho1) Y) K;have W:∀X Y (K:aH->Prop),aZ (((Z++[⟨false,T,5,[(sV 6 m.bS.ln []).enc]⟩]:aC).set pF X).set pm Y) H.length K=K ⟨false,c0,5,[[.I 0,.I 0,.str [],.I 0,.aU]]⟩:=λX Y K=>aL (eC (eC lA (oF _ o1) X) (oM _ o1) Y) K;have J:=bL q.aT.hm;have J:=bL l1;simp[gm,aI.bD,aI.g4,bW,gO,gk,fU,f1,gF,aL hy,M5,s1,s2,W,aI.wN,aI.NC];refine⟨by omega,by omega,by omega,dD ⟨by rw[z5],G1,{m with bS:=.ref p t 2 O.length,ab:=1,jI:=sV 6 m.bS.ln []},?_⟩⟩;have J:=q.aT.b;have W:=E.kl;have W:=(q.gU.app [⟨false,T,5,[(sV 6 m.bS.ln []).enc]⟩]).trans q4;have T:=q4.aT.wL (m':={m with bS:=.ref p t 2 O.length,ab:=1,jI:=sV 6 m.bS.ln []}) ⟨J.o,J.c,J.g,J.mp,J.bH,by simp,λ_=>h.b.af (by omega),J.depth,VM.AM (.inl ⟨rfl,by omega,by simp;omega⟩) (by omega),λ_=>rfl,J.out⟩ ⟨bB _,bB _,bB _,bB _,lU _,rfl⟩ rfl rfl rfl rfl rfl rfl rfl rfl;have E:=W.trans T;exact⟨E.aT.eZ _ o1,E.fV.sD (bB _) _,E.mono,by have:=E.mp;omega⟩
def jT {E:aA} {c} {K:aD} (h:Lay us cs H G pm tm m) (W:fC us cs) (Z:m.ab=0) (J:E.length<=400)
  (k:∀H' G' m' T,PA us cs H G pm tm m 0 H' G' m'->K (.agg (sV 0 0 []).enc) H' T):bO aE 125 [.ptr pm tm 19 0 0,.str E] H c K:=
 gL (throw_con h W Z J) λr H' T ⟨J,G',m',E⟩=>by subst J;exact k H' G' m' T E
def err_con {n:Int} {c0} (h:Lay us cs H G pm tm m) (hP:fC us cs) (h0:m.ab=0):cA aE 130 [.ptr pm tm 19 0 0,.I n] H c0 (QG us cs H G pm tm m):=by
 refine cO F130 ?_;unfold F130;have J:∀{T:aC} {G1:Nat->a6} {m1:aI} {c1:Nat},PA us cs (H++[⟨false,c0,5,[[.I 0,.I 0,.str [],.I 0,.aU]]⟩]) G pm tm m 0 T G1 m1->H.length<T.length/\(∀K:aH->Prop,aZ T H.length K=K ⟨false,c0,5,[[.I 0,.I 0,.str [],.I 0,.aU]]⟩)/\∀X,cE (QG us cs H G pm tm m) (.agg (sV 0 0 []).enc) (T.set H.length X) c1:=λq=>by
  obtain⟨W,Z⟩:=q.loc (q:=H.length) (by simp;rfl) (h.out _ (bB _));have E:=q.gU;exact⟨bL W,λK=>aL W K,λX=>dD ⟨rfl,_,_,E.aT.eZ _ Z,E.fV.sD (bB _) _,E.mono,E.mp⟩⟩
 by_cases h9:n=9
 .simp[h9];refine EM (h.app _) λT c1 q=>?_;obtain⟨Z,E,W⟩:=J (c1:=c1) q;simp[E,Z,aR];rw[z5];exact W _
 .by_cases h10:n=10
  .simp[h10];refine EM (h.app _) λT c1 q=>?_;obtain⟨Z,E,W⟩:=J (c1:=c1) q;simp[E,Z,aR];rw[z5];exact W _
  .simp[h9,h10];refine sB (errName_s n) λs c1 _ hs=>?_;simp;refine jT (h.app _) hP h0 (by omega) λT G1 m1 T q=>?_;obtain⟨Z,E,W⟩:=J (c1:=T) q;simp[E,Z,aR];rw[z5];exact W _
def pE {n:Int} {c} {K:aD} (h:Lay us cs H G pm tm m) (J:fC us cs) (T:m.ab=0)
  (k:∀H' G' m' E,PA us cs H G pm tm m 0 H' G' m'->K (.agg (sV 0 0 []).enc) H' E):bO aE 130 [.ptr pm tm 19 0 0,.I n] H c K:=
 gL (err_con h J T) λr H' E ⟨T,G',m',J⟩=>by subst T;exact k H' G' m' E J
end
structure iU where
 Class:aA
 eS:SL cH
def iU.enc (x:iU):aF AV:=[.str x.Class,x.eS.av 6 cH.enc]
def iU.cells (s:iU):∀a,a∈s.enc->a.cell=true:=by
 intro a E;simp[iU.enc] at E;rcases E with rfl|rfl
 .rfl
 .exact nI _ _ _
@[simp] theorem iU.len (s:iU):s.enc.length=2:=rfl
@[simp] theorem iU.all (s:iU):s.enc.take 2=s.enc:=rfl
@[simp] theorem iU.g0 (s:iU) (K:AV->Prop):aZ s.enc 0 K=K (.str s.Class):=by simp[iU.enc]
@[simp] theorem iU.g1 (s:iU) (K:AV->Prop):aZ s.enc 1 K=K (s.eS.av 6 cH.enc):=by simp[iU.enc]
def put8 (f:dQ):aR [.str [],.str [],.bool false,.I 0,.I 0,.str [],.I 0,.aU] 0 f.enc=f.enc:=by simp[aR,dQ.enc,aO.dW]
def put2 (y:iU):aR [.str [],.aU] 0 y.enc=y.enc:=by simp[aR,iU.enc]
def MV (m:aI) (S:SL iU):aF AV:=m.aM.set 4 (S.av 2 iU.enc)
def MV.g1 (m:aI) S (K:AV->Prop):aZ (MV m S) 1 K=K m.cs:=by simp[MV,aI.aM]
def MV.g4 m (S:SL iU) (K:AV->Prop):aZ (MV m S) 4 K=K (S.av 2 iU.enc):=by simp[MV,aI.aM]
def CM (n:Nat) (r:AV):Prop:=∃(i:Int) (b:Bool),r=.aX [.I i,.bool b]/\-1<=i/\i<n
def ff_c {H} {c} {K:aD} {cs:SL bG} {cl name} (T:cs.aG.length<=1048576) (J:∀x,x∈cs.aG->x.eS.aG.length<=1099511627776) (k:∀(m:dQ) (b:Bool) E,K (.aX [.agg m.enc,.bool b]) H E):bO aE 289 [cs.av 4 bG.enc,.str cl,.str name] H c K:=
 cV (findF_s T J) λr E _ ⟨m,b,J⟩=>by subst J;exact⟨fB _,k m b E⟩
def XC c (k:IntKind) (i:Int) b:fX c (.aX [.int k i,.bool b]):=λT _=>.aX λj a E=>by
 have:=bA E;simp at this;rcases this with rfl|rfl
 .exact .int
 .exact .bool
def field_tr {m:aI} {cs:SL bG} {S:SL iU} {y:iU} {k:Nat} {name self} (hcs:m.cs=cs.av 4 bG.enc) (hl:cs.aG.length<=1048576) (hm:∀x,x∈cs.aG->x.eS.aG.length<=1099511627776) (hy:S.aG[k]?=some y) (hyl:y.eS.aG.length<=20000000000):
  Tr aE 262 [.iP (MV m S) 0,.I k,.str name,.str self] (λ_ r=>CM y.eS.aG.length r):=by
 intro c0;have hkl:=bL hy;have hkl':(k:Int)<(S.aG.length:Int):=by omega
 have fin:∀{i:Int} {b:Bool} {H:aC} {c:Nat},-1<=i->i<y.eS.aG.length->cE (λr H' (_:Nat)=>H'=[]/\CM y.eS.aG.length r/\fX c0 r) (.aX [.I i,.bool b]) H c:=λh1 h2=>aS ⟨rfl,⟨_,_,rfl,h1,h2⟩,XC _ _ _ _⟩;refine cO F262 ?_;simp[F262,MV.g4,aL hy,put2,-jN];refine nK (λe H c'=>∃(fd:dQ) (b:Bool) (t:Nat),H=[⟨false,c0,2,[y.enc]⟩,⟨false,t,8,[fd.enc]⟩]/\e 2=.str name/\e 3=.str self/\e 10=.ptr 0 c0 2 0 0/\e 11=.ptr 1 t 8 0 0/\e 32=.bool b) ?_ ?_;rotate_left
 .intro K hK;simp[MV.g1,hcs]
  repeat' first
   |with_reducible apply And.intro
   |(with_reducible refine ff_c hl hm λfd b c1=>?_
     simp;exact hK _ _ _ ⟨fd,b,_,rfl,rfl,rfl,rfl,rfl,rfl⟩)
 intro e H c1 ⟨fd,b,t,hH,e2,e3,e10,e11,e32⟩;subst hH;have hw:∀K:AV->Prop,aZ fd.enc 1 K=K (.str fd.lQ):=λK=>by simp[dQ.enc]
 have hw2:∀K:AV->Prop,aZ fd.enc 2 K=K (.bool fd.pI):=λK=>by simp[dQ.enc]
 cases b
 .simp[e32];refine b6 y.eS.aG.length (λi e H c'=>(∃q:Bool,e 13=.bool q)/\e 2=.str name/\e 10=.ptr 0 c0 2 0 0/\e 14=.I i/\H=[⟨false,c0,2,[y.enc]⟩,⟨false,t,8,[fd.enc]⟩]) ⟨⟨_,by simp[aK];rfl⟩,e2,e10,rfl,rfl⟩ ?_;clear e2 e3 e10 e11 e32;intro i e H c3 hi ⟨⟨q,e13⟩,e2,e10,e14,hH⟩ N hN;subst hH;by_cases h:i<y.eS.aG.length
  .obtain⟨x,hx⟩:∃x,y.eS.aG[i]?=some x:=⟨_,bC h⟩
   have hlt:(i:Int)<(y.eS.aG.length:Int):=by omega
   have hst:=cD (i:=i) (n:=y.eS.aG.length) (by unfold mx;omega) h;by_cases hq:x.Name=name
   .simp[e2,e10,e13,e14,hlt,aL hx,hq];exact fin (by omega) (by omega)
   .simp[e2,e10,e14,hlt,aL hx,hq];exact hN _ _ _ _ h (bY _) ⟨⟨q,e13⟩,e2,e10,by simp[aK,hst],rfl⟩
  .have hlt:¬(i:Int)<(y.eS.aG.length:Int):=by omega
   simp[e10,e13,e14,hlt];exact fin (by omega) (by omega)
 .simp[e3,e11,e32,hw,hw2];refine cX (IS _ _ _) (fB _) λc2 _=>?_;simp;refine b6 y.eS.aG.length (λi e H c'=>(∃q:Bool,e 13=.bool q)/\e 2=.str name/\e 10=.ptr 0 c0 2 0 0/\e 14=.I i/\H=[⟨false,c0,2,[y.enc]⟩,⟨false,t,8,[fd.enc]⟩]) ⟨⟨_,by simp[aK];rfl⟩,e2,e10,rfl,rfl⟩ ?_;clear e2 e3 e10 e11 e32;intro i e H c3 hi ⟨⟨q,e13⟩,e2,e10,e14,hH⟩ N hN;subst hH;by_cases h:i<y.eS.aG.length
  .obtain⟨x,hx⟩:∃x,y.eS.aG[i]?=some x:=⟨_,bC h⟩
   have hlt:(i:Int)<(y.eS.aG.length:Int):=by omega
   have hst:=cD (i:=i) (n:=y.eS.aG.length) (by unfold mx;omega) h;by_cases hq:x.Name=name
   .simp[e2,e10,e13,e14,hlt,aL hx,hq];exact fin (by omega) (by omega)
   .simp[e2,e10,e14,hlt,aL hx,hq];exact hN _ _ _ _ h (bY _) ⟨⟨q,e13⟩,e2,e10,by simp[aK,hst],rfl⟩
  .have hlt:¬(i:Int)<(y.eS.aG.length:Int):=by omega
   simp[e10,e13,e14,hlt];exact fin (by omega) (by omega)
set_option maxRecDepth 100000
def VT {α β:Type} {R:α->β->Prop}:∀(l:aF α),(∀x,x∈l->∃y,R x y)->∃J:aF β,J.length=l.length/\∀(j:Nat) (x:α) (y:β),l[j]?=some x->J[j]?=some y->R x y
 |[],_=>⟨[],rfl,by simp⟩
 |a::l,h=>by
  obtain⟨y,T⟩:=h a (by simp);obtain⟨J,Z,W⟩:=VT l λx E=>h x (by simp[E]);refine⟨y::J,by simp[Z],λj x z E J=>?_⟩;cases j with
  |zero=>simp at E J;subst E;subst J;exact T
  |succ j=>exact W j x z (by simpa using E) (by simpa using J)
def M7 a b d f (n:aQ):aR [a,b,d,f] 0 n.enc=n.enc:=by simp[aR,aQ.dW]
section
variable {us:SL bU} {cs:SL bG} {H H' H'':aC} {G G' G'':Nat->a6} {pm tm pf tf:Nat} {m m' m'':aI} {f f' f'':aW} {L L' L'':aF aY} {a b a' b':Int}
def Lay.objv (h:Lay us cs H G pm tm m):∃S:SL iU,View H m.bS (S.av 2 iU.enc)/\S.aG.length=m.bS.ln/\∀k p t O W a F,pZ H G m k p t O W a F->∃y,S.aG[k]?=some y/\y.eS.aG.length=F.length:=by
 obtain⟨O,Z,T⟩:=h.bS;have E:∀x,x∈O->∃y:iU,y.Class=x.1/\View H x.2 (y.eS.av 6 cH.enc)/\y.eS.aG.length=x.2.ln:=λx hx=>by
  obtain⟨k,hk⟩:=lS.1 hx;obtain⟨⟨F,J,_⟩,_⟩:=T k x hk;obtain⟨s,hs,T⟩:=J.view λx _=>cH.cells x;exact⟨⟨x.1,s⟩,rfl,T,by have:=J.ln;simp at this;rw[hs,this]⟩
 obtain⟨S,T,hS2⟩:=VT O E;have E:=Z.ln;simp at E;rcases Z with⟨e,Z⟩|⟨p,t,e,ho,hg⟩
 .simp at Z;subst Z;refine⟨.nil,by rw[e];exact .refl _,by rw[e];rfl,λk p t O W a F o=>?_⟩;have:=o.e;rw[e] at this;cases this
 .refine⟨.mk t S,?_,by simp[T,E],λk E E O1 W a F o=>?_⟩
  .rw[e];have key:∀(r:Nat) (x W:aF AV),(O.map fU)[r]?=some x->(S.map iU.enc)[r]?=some W->∃(u:aA×AV) (y:iU),x=fU u/\W=y.enc/\y.Class=u.1/\View H u.2 (y.eS.av 6 cH.enc):=λr x W J Z=>by
    rw[kL,iH] at J Z;obtain⟨u,E,rfl⟩:=J;obtain⟨y,hy,rfl⟩:=Z;obtain⟨q1,q2,_⟩:=hS2 r u y E hy;exact⟨u,y,rfl,rfl,q1,q2⟩
   refine .ref (bA ho) (by simp) (by simp[T]) (λr x W J Z=>?_) (λr j x a hx ha=>?_) λr j x W a a' J Z E T=>?_
   .obtain⟨u,y,rfl,rfl,_⟩:=key r x W J Z;rfl
   .obtain⟨y,hy,rfl⟩:=fZ.1 (bA hx);exact iU.cells y a (bA ha)
   .obtain⟨u,y,rfl,rfl,q1,q2⟩:=key r x W J Z
    match j,E,T with
    |0,E,T=>simp[fU,iU.enc] at E T;subst E;subst T;rw[q1];exact .refl _
    |1,E,T=>simp[fU,iU.enc] at E T;subst E;subst T;exact q2
    |j+2,E,T=>simp[fU] at E
  .have J:=o.e.symm.trans e;simp at J;obtain⟨rfl,rfl,_⟩:=J;have E:=o.ho.symm.trans ho;simp at E;have J:Function.Injective fU:=λa b h=>by
    simp[fU] at h;exact Prod.ext h.1 h.2
   have:O1=O:=(LK J).1 E;subst this;obtain⟨y,hy⟩:∃y,S[k]?=some y:=⟨_,bC (by have:=bL o.o;omega)⟩
   have q:=(hS2 k _ y o.o hy).2.2;have:=o.s.ln;simp at this;exact⟨y,hy,by rw[q];exact this⟩
def Lay.rowc (J:Lay us cs H G pm tm m):∀x,x∈m.aM->x.cell=true:=λx T=>by
 obtain⟨C,h1,_⟩:=J.cells;obtain⟨A,h2,_⟩:=J.dR;obtain⟨O,Z,_⟩:=J.bS;obtain⟨D,W,_⟩:=J.b9;obtain⟨E,E,_⟩:=J.cJ;simp only[aI.aM,dI,fK,nQ,or_false] at T;rcases T with(rfl|rfl|rfl|rfl|rfl|rfl|rfl)|T|rfl|rfl|rfl|T|rfl
 .rw[J.us];exact nI _ _ _
 .rw[J.cs];exact nI _ _ _
 .exact h1.cell
 .exact h2.cell
 .exact Z.cell
 .exact W.cell
 .exact E.cell
 .exact dM.cells _ _ T
 .rfl
 .rfl
 .rfl
 .exact aO.cells _ _ T
 .rfl
def Lay.view (h:Lay us cs H G pm tm m) {S:SL iU} (Z:View H m.bS (S.av 2 iU.enc)):View H (.ptr pm tm 19 0 0) (.iP (MV m S) 0):=by
 have W:=h.rowc;refine .ptr (aN:=[m.aM]) (aM:=m.aM) (by rw[<-aI.bD];exact bA h.hm) rfl (by simp[MV]) (λj x J=>?_) λj x E J E=>?_
 .rw[MV] at J;rcases rZ (bA J) with T|T
  .exact W x T
  .subst T;exact nI _ _ _
 .rw[MV,r8] at E;by_cases e:4=j
  .subst e;rw[if_pos rfl,if_pos (by rw[aI.len];omega)] at E;cases E;have:m.aM[4]?=some m.bS:=by simp[aI.aM]
   rw[this] at J;cases J;exact Z
  .rw[if_neg e,J] at E;cases E;exact .refl _
def OV (h:Lay us cs H G pm tm m) (T:fC us cs) {k p t:Nat} {O:aF (aA×AV)} {cl:aA} {a:AV} {F:aF cH} {name self:aA} {c:Nat} {K:AV->Prop} (o:pZ H G m k p t O cl a F) (kk:∀i b,-1<=i->i<(F.length:Int)->K (.aX [.I i,.bool b])):
  J8 aE (CM F.length) 262 [.ptr pm tm 19 0 0,.I k,.str name,.str self] H c K:=by obtain⟨S,Z,_,J⟩:=h.objv;obtain⟨y,W,E⟩:=J k p t O cl a F o;refine⟨_,.cons (h.view Z) (.refl _ _),?_,⟨.aX [.I (-1),.bool true],⟨_,_,rfl,by omega,by omega⟩,XC _ _ _ _⟩,λr ⟨i,b,J,h1,Z⟩ _=>by subst J;exact kk i b h1 Z⟩;rw[<-E];exact field_tr h.cs (cL T.l (by decide)) (λx J=>by have:=(T.c x J).f.len;have:=T.n;omega) W (by rw[E];exact o.l)
def xH {c} {K:aD} {cl name} (J:fC us cs) (W:∀(x:dJ) E,DD us.aG x.Name x.fX->K (.aX [.agg x.enc,.bool true]) H E) (T:∀(x:dJ) E,K (.aX [.agg x.enc,.bool false]) H E):bO aE 95 [cs.av 4 bG.enc,.str cl,.str name] H c K:=
 cV (findM_s (cl:=cl) (name:=name) (cL J.l (by decide)) λx Z=>by have:=(J.c x Z).m.len;have:=J.n;omega) λr E _ ⟨x,b,Z,hb⟩=>by
  subst Z;refine⟨fB _,?_⟩;cases b
  .exact T x E
  .obtain⟨T,y,Z,_,T⟩:=hb rfl;exact W x E ((J.c y Z).m.a x T).d
def StB (r:AV):Prop:=∃(s:aA) (b:Bool),r=.aX [.str s,.bool b]
def ClsR (H:aC) (r:AV) (H':aC) (_:Nat):Prop:=H'=H/\StB r
def class_con {name} {c0} (h:Lay us cs H G pm tm m) (Z:fC us cs) (J:cY H G pf tf m f L):cA aE 273 [.ptr pm tm 19 0 0,.ptr pf tf 7 0 0,.str name] H c0 (ClsR H):=by
 have h1:∀K:aH->Prop,aZ H pm K=K (m.ob tm):=aL h.hm;have E:∀K:aH->Prop,aZ H pf K=K (f.ob tf):=aL J.hf;refine cO F273 ?_;unfold F273;by_cases W:name=[115,101,108,102]
 .simp[W,E,aW.bD,aW.g3];exact dD ⟨rfl,_,_,rfl⟩
 by_cases T:name=[115,116,97,116,105,99]
 .simp[T,E,aW.bD,aW.g4];exact dD ⟨rfl,_,_,rfl⟩
 by_cases J:name=[112,97,114,101,110,116]
 .simp[J,h1,E,aI.bD,aI.g1,aW.bD,aW.g3,h.cs];refine qJ (.refl _) (cL Z.l (by decide)) (λE _ _=>?_) λi x E _ Z _ _=>?_
  .simp;exact dD ⟨rfl,_,_,rfl⟩
  .have E:=bL Z;have E:(i:Int)<(cs.aG.length:Int):=by omega
   have hw:∀K:AV->Prop,aZ x.enc 1 K=K (.str x.zJ):=λK=>by simp[bG.enc]
   have E:¬((i:Int)<0):=by omega
   simp[h1,aI.bD,aI.g1,h.cs,aL Z,hw,E];exact dD ⟨rfl,_,_,rfl⟩
 .simp[W,T,J];exact dD ⟨rfl,_,_,rfl⟩
def ZO {name} {c} {K:aD} (h:Lay us cs H G pm tm m) (hP:fC us cs) (hf:cY H G pf tf m f L) (k:∀s b c',K (.aX [.str s,.bool b]) H c'):bO aE 273 [.ptr pm tm 19 0 0,.ptr pf tf 7 0 0,.str name] H c K:=
 gL (class_con h hP hf) λr H' c' ⟨h1,s,b,h2⟩=>by subst h1;subst h2;exact k s b c'
def MthR (m:aI) (H:aC) (r:AV) (H':aC) (_:Nat):Prop:=H'=H/\∃x:dG,r=.agg x.enc/\jX m false x
def CW {l} (h:Us false l):dZ l=0:=by
 have J:∀l:aF aQ,(∀e,e∈l->e.aJ≠25)->dZ l=0:=λl=>by
  induction l with
  |nil=>intro _;rfl
  |cons a l T=>
   intro h;have E:=h a (by simp);have W:=T λe T=>h e (by simp[T]);simp only[dZ,bE,gJ,nP,if_neg E] at W ⊢;omega
 refine J l λe T=>?_;obtain⟨i,J⟩:=lS.1 T;have T:=bL J;rcases iA (i+1) l.length with E|E
 .have:=((h.2 i e J).1 E).1;rcases this with h|⟨h,_⟩
  .omega
  .cases h
 .have:=(h.2 i e J).2 (by omega);omega
def method_con {x:dJ} {this:Int} {static:aA} {c0:Nat} (h:Lay us cs H G pm tm m) (hP:fC us cs) (hx:DD us.aG x.Name x.fX) (ht:0<=this/\this<=m.bS.ln):cA aE 97 [.ptr pm tm 19 0 0,.agg x.enc,.I this,.str static] H c0 (MthR m H):=by
 have h1:=λM K=>bT h.hm M K;refine cO F97 ?_;unfold F97;have hxc:x.enc=[.str x.Name,.str x.lQ,.str x.fX,.bool x.pI,.bool x.Static]:=rfl;simp[-jN];refine nK (λe H' c'=>∃(n:aQ) (t:Nat),H'=H++[⟨false,c0,5,[x.enc]⟩,⟨false,c0+1,5,[[.aU,.aU,.I 0,.str [],.str []]]⟩,⟨false,t,4,[n.enc]⟩]/\NE n/\Us false n.aP.aG/\e 2=.I this/\e 3=.str static/\e 5=.ptr H.length c0 5 0 0/\e 8=.ptr (H.length+1) (c0+1) 5 0 0/\e 9=.ptr (H.length+2) t 4 0 0) ?_ ?_;rotate_left
 .intro K hK;have key:∀{X:aC} {c:Nat} {K:aD},(∀(n:aQ) c',NE n->Us false n.aP.aG->K (.aX [.agg n.enc,.bool true]) X c')->bO aE 131 [us.av 5 bU.enc,.str x.fX,.str x.Name] X c K:=λk=>
   cV (mt23_s hP.u) λr c' _ ⟨n,b,hr,hn,hb,hd⟩=>by
    subst hr;have hb1:=hd hx;subst hb1;obtain⟨q1,q2,q3⟩:=hb rfl;exact⟨fB _,k n c' ⟨hn,q1,q3⟩ q2⟩
  simp[h1,aI.bD,aI.g0,h.us,hxc]
  repeat' first
   |with_reducible apply And.intro
   |(with_reducible refine key λn c1 q1 q2=>?_
     simp[cM]
     repeat' first
      |with_reducible apply And.intro
      |exact hK _ _ _ ⟨n,_,rfl,q1,q2,rfl,rfl,rfl,rfl,rfl⟩)
 intro e H1 c1 ⟨n,t,hH,q1,q2,e2,e3,e5,e8,e9⟩;subst hH;have fin:∀{th:Int} {X:aH} {c':Nat},0<=th/\th<=m.bS.ln->cE (MthR m H) (.agg [n.aP.av 4 aQ.enc,.aU,.I th,.str x.lQ,.str static]) ((H++([⟨false,c0,5,[x.enc]⟩,⟨false,c0+1,5,[[.aU,.aU,.I 0,.str [],.str []]]⟩,⟨false,t,4,[n.enc]⟩]:aC)).set (H.length+1) X) c':=λhth=>by
  rw[aaK];refine fI (Hk:=H) (List.sublist_append_left _ _) (.refl _) ⟨rfl,⟨n.aP,.sl .nil,_,x.lQ,static⟩,rfl,⟨q2,λy hy=>q1.pS hy,q1.len,by rw[CW q2];rfl,by simp[qS.aG],hth,λ_=>⟨_,rfl⟩⟩⟩
 cases hst:x.Static
 .simp[e2,e3,e5,e8,e9,cM,hxc,hst,aR];have:=fin (X:=⟨false,c0+1,5,[[n.aP.av 4 aQ.enc,.aU,.I this,.str x.lQ,.str static]]⟩) (c':=c1) ht;simpa[hxc,hst] using this
 .simp[e3,e5,e8,e9,cM,hxc,hst,aR];have:=fin (th:=0) (X:=⟨false,c0+1,5,[[n.aP.av 4 aQ.enc,.aU,.I 0,.str x.lQ,.str static]]⟩) (c':=c1) (by omega);simpa[hxc,hst] using this
def wU {x:dJ} {this:Int} {static:aA} {c:Nat} {K:aD} (h:Lay us cs H G pm tm m) (W:fC us cs) (J:DD us.aG x.Name x.fX) (T:0<=this/\this<=m.bS.ln) (k:∀(y:dG) E,jX m false y->K (.agg y.enc) H E):bO aE 97 [.ptr pm tm 19 0 0,.agg x.enc,.I this,.str static] H c K:=
 gL (method_con h W J T) λr H' E ⟨W,y,T,J⟩=>by subst W;subst T;exact k y E J
end
set_option maxRecDepth 100000
def nM {α:Type} (H:aC) (G:Nat->a6) (enc:α->aF AV) (w:Nat) (a:AV) (L:aF α):Prop:=
 (∃s:SL α,a=s.av w enc/\s.aG=L)\/∃p t,a=.ref p t w L.length/\H[p]?=some ⟨false,t,w,L.map enc⟩/\G p=.bP
def nM.gE {α:Type} {H H':aC} {G G':Nat->a6} {enc:α->aF AV} {w:Nat} {a:AV} {L:aF α} (h:nM H G enc w a L) (k:∀q x,H[q]?=some x->G q=.bP->H'[q]?=some x/\G' q=.bP):nM H' G' enc w a L:=by
 rcases h with h|⟨p,t,Z,W,T⟩
 .exact .inl h
 .obtain⟨J,E⟩:=k p _ W T;exact .inr ⟨p,t,Z,J,E⟩
section
variable {us:SL bU} {cs:SL bG} {H H' H'':aC} {G G' G'':Nat->a6} {pm tm pf tf:Nat} {m m' m'':aI} {f f' f'':aW} {L L' L'':aF aY} {a b a' b':Int}
structure PB (us:SL bU) (cs:SL bG) (H:aC) (G:Nat->a6) (pm tm pf tf:Nat) (m:aI) (f:aW) (L:List aY) (a b:Int) (H':aC) (G':Nat->a6) (m':aI) (f':aW) (L':List aY):Prop where
 aT:Lay us cs H' G' pm tm m'
 bI:cY H' G' pf tf m' f' L'
 fV:cB j1 H G H' G'
 mono:eV m m'
 top:f'.top=f.top
 fp:ew f' L'+4000*m'.bH<=ew f L+4000*m.bH+a
 mp:m'.mp+ew f' L'<=m.mp+ew f L+b/\m'.depth=m.depth
def PE.pb (h:PE us cs H G pm tm pf tf m f L a b H' G' m' f'):PB us cs H G pm tm pf tf m f L a b H' G' m' f' L:=
 ⟨h.aT,h.bI,h.fV,h.mono,h.top,by have:=h.fp;unfold ew;omega,by have:=h.mp;unfold ew;omega⟩
def PB.trans (h:PB us cs H G pm tm pf tf m f L a b H' G' m' f' L') (E:PB us cs H' G' pm tm pf tf m' f' L' a' b' H'' G'' m'' f'' L''):PB us cs H G pm tm pf tf m f L (a+a') (b+b') H'' G'' m'' f'' L'':=
 ⟨E.aT,E.bI,h.fV.trans E.fV,h.mono.trans E.mono,E.top.trans h.top,by have:=h.fp;have:=E.fp;omega,by have:=h.mp;have:=E.mp;omega⟩
def PB.le (h:PB us cs H G pm tm pf tf m f L a b H' G' m' f' L') (E:a<=a') (E:b<=b'):PB us cs H G pm tm pf tf m f L a' b' H' G' m' f' L':=
 ⟨h.aT,h.bI,h.fV,h.mono,h.top,by have:=h.fp;omega,by have:=h.mp;omega⟩
def PB.loc (h:PB us cs H G pm tm pf tf m f L a b H' G' m' f' L') {q:Nat} {x} (J:H[q]?=some x) (E:G q=.bP):H'[q]?=some x/\G' q=.bP:=by obtain⟨a,b⟩:=h.fV q x J (λh=>h.1 E);exact⟨a,b.trans E⟩
def PB.gU {M} (h:PB us cs (H++M) G pm tm pf tf m f L a b H' G' m' f' L'):PB us cs H G pm tm pf tf m f L a b H' G' m' f' L':=⟨h.aT,h.bI,(cB.app M).trans h.fV,h.mono,h.top,h.fp,h.mp⟩
def PB.app (h:PB us cs H G pm tm pf tf m f L a b H' G' m' f' L') M:PB us cs H G pm tm pf tf m f L a b (H'++M) G' m' f' L':=⟨h.aT.app M,h.bI.app M,h.fV.trans (cB.app M),h.mono,h.top,h.fp,h.mp⟩
def PE.eZ (h:PE us cs H G pm tm pf tf m f L a b H' G' m' f') {p} (J:H.length<=p) (E:G' p=.bP) ob:PE us cs H G pm tm pf tf m f L a b (H'.set p ob) G' m' f':=
 ⟨h.aT.eZ ob E,h.bI.set ob (.inr E),h.fV.sD J ob,h.mono,h.em,h.top,h.fp,h.mp⟩
def PB.eZ (h:PB us cs H G pm tm pf tf m f L a b H' G' m' f' L') {p} (J:H.length<=p) (E:G' p=.bP) ob:PB us cs H G pm tm pf tf m f L a b (H'.set p ob) G' m' f' L':=
 ⟨h.aT.eZ ob E,h.bI.set ob (.inr E),h.fV.sD J ob,h.mono,h.top,h.fp,h.mp⟩
def PA.eZ (h:PA us cs H G pm tm m b H' G' m') {p} (E:H.length<=p) (J:G' p=.bP) ob:PA us cs H G pm tm m b (H'.set p ob) G' m':=
 ⟨h.aT.eZ ob J,h.fV.sD E ob,h.mono,h.mp⟩
def FO (us:SL bU) (cs:SL bG) (H:aC) (G:Nat->a6) (pm tm pf tf:Nat) (m:aI) (f:aW) (L:aF aY) (r:AV) (H':aC) (_:Nat):Prop:=
 ∃v G' m' f',r=.agg (aO.enc v)/\aI.V m' v/\PE us cs H G pm tm pf tf m f L 0 0 H' G' m' f'/\(m.ab=0->PE us cs H G pm tm pf tf m f L (-10) (-10) H' G' m' f')
def iS (us:SL bU) (cs:SL bG) (n:Nat):Prop:=∀(H:aC) (G:Nat->a6) (pm tm pf tf:Nat) (m:aI) (f:aW) (L:aF aY) (x:aQ) (E:Nat),Lay us cs H G pm tm m->cY H G pf tf m f L->NE x->fE x.aJ->m.bH<n->
 cA aE 201 [.ptr pm tm 19 0 0,.ptr pf tf 7 0 0,.agg x.enc] H E (FO us cs H G pm tm pf tf m f L)
def oH {n} {x:aQ} {c} {K:aD} (hE:iS us cs n) (h:Lay us cs H G pm tm m) (W:cY H G pf tf m f L) (J:NE x) (Z:fE x.aJ) (T:m.bH<n)
  (k:∀v H' G' m' f' E,aI.V m' v->PE us cs H G pm tm pf tf m f L 0 0 H' G' m' f'->(m.ab=0->PE us cs H G pm tm pf tf m f L (-10) (-10) H' G' m' f')->K (.agg (aO.enc v)) H' E):bO aE 201 [.ptr pm tm 19 0 0,.ptr pf tf 7 0 0,.agg x.enc] H c K:=
 gL (hE H G pm tm pf tf m f L x c h W J Z T) λr H' E ⟨v,G',m',f',Z,W,T,J⟩=>by subst Z;exact k v H' G' m' f' E W T J
def KJ (us:SL bU) (cs:SL bG) (H:aC) (G:Nat->a6) (pm tm pf tf:Nat) (m:aI) (f:aW) (L:aF aY) (r:AV) (H':aC) (_:Nat):Prop:=
 ∃E v G' m' f' L',r=.aX [.I E,.agg (aO.enc v)]/\aI.V m' v/\PB us cs H G pm tm pf tf m f L 0 0 H' G' m' f' L'/\(E=6->ew f' L'+4000*m'.bH+10<=81000000)
def iR (us:SL bU) (cs:SL bG) (n:Nat):Prop:=∀(H:aC) (G:Nat->a6) (pm tm pf tf:Nat) (m:aI) (f:aW) (L:aF aY) (E:Nat),Lay us cs H G pm tm m->cY H G pf tf m f L->m.ab=0->m.mp+ew f L+1000<=1650000000000->m.bH<n->
 cA aE 163 [.ptr pm tm 19 0 0,.ptr pf tf 7 0 0] H E (KJ us cs H G pm tm pf tf m f L)
def run_k {n} {c} {K:aD} (hR:iR us cs n) (h:Lay us cs H G pm tm m) (Z:cY H G pf tf m f L) (h0:m.ab=0) (T:m.mp+ew f L+1000<=1650000000000) (W:m.bH<n)
  (k:∀E v H' G' m' f' L' J,aI.V m' v->PB us cs H G pm tm pf tf m f L 0 0 H' G' m' f' L'->(E=6->ew f' L'+4000*m'.bH+10<=81000000)->K (.aX [.I E,.agg (aO.enc v)]) H' J):bO aE 163 [.ptr pm tm 19 0 0,.ptr pf tf 7 0 0] H c K:=
 gL (hR H G pm tm pf tf m f L c h Z h0 T W) λr H' J ⟨E,v,G',m',f',L',h1,Z,W,T⟩=>by subst h1;exact k E v H' G' m' f' L' J Z W T
def KidsQ (us:SL bU) (cs:SL bG) (H:aC) (G:Nat->a6) (pm tm pf tf:Nat) (m:aI) (f:aW) (L:aF aY) (n:Nat) (r:AV) (H':aC) (_:Nat):Prop:=
 ∃(M:aF aO) (G':Nat->a6) (m':aI) (f':aW) (t:Nat) (X:aC) (g:aH),r=.ref H.length t 5 n/\M.length=n/\(∀v,v∈M->m'.V v)/\H'=X++[g]/\H.length<=X.length/\G' X.length=.bP/\H'[H.length]?=some ⟨false,t,5,M.map aO.enc⟩/\G' H.length=.bP/\
  PE us cs H G pm tm pf tf m f L 0 0 H' G' m' f'
def kids_con {n:Nat} {l:aF aQ} {T:AV} {c0:Nat} (hE:iS us cs n) (h:Lay us cs H G pm tm m) (E:cY H G pf tf m f L) (hla:nM H G aQ.enc 4 T l) (J:l.length<=1000) (J:∀x,x∈l->NE x/\fE x.aJ) (W:m.bH<n):
  cA aE 240 [.ptr pm tm 19 0 0,.ptr pf tf 7 0 0,T] H c0 (KidsQ us cs H G pm tm pf tf m f L l.length):=by
 refine cO F240 ?_;simp[F240];refine tP l.length (λi e Hc c=>∃(M:aF aO) (G':Nat->a6) (m':aI) (f':aW) (t:Nat) (X:aC) (g:aH),M.length=i/\(∀v,v∈M->m'.V v)/\Hc=X++[g]/\H.length<=X.length/\G' X.length=.bP/\Hc[H.length]?=some ⟨false,t,5,M.map aO.enc⟩/\G' H.length=.bP/\
  PE us cs H G pm tm pf tf m f L 0 0 Hc G' m' f'/\nM Hc G' aQ.enc 4 T l/\e 0=.ptr pm tm 19 0 0/\e 1=.ptr pf tf 7 0 0/\e 2=T/\e 7=.ref H.length t 5 i/\e 8=.I i)
  ⟨[],G,m,f,c0,H,⟨false,c0,5,[]⟩,rfl,by simp,rfl,bB _,h.out _ (bB _),by simp,h.out _ (bB _),(PE.refl h E).app _,hla.gE λq x E ho=>⟨fF E _,ho⟩,rfl,rfl,rfl,rfl,rfl⟩ ?_
 intro i e Hc c E ⟨M,G1,m1,f1,t,X,g,hM,hMv,hX,hXl,oX,lp,op,q,hli,e0,e1,e2,e7,e8⟩ N hN;by_cases E:i<l.length
 .obtain⟨x,hxi⟩:∃x,l[i]?=some x:=⟨_,bC E⟩
  obtain⟨hx1,hx2⟩:=J x (bA hxi);have Z:(i:Int)<(l.length:Int):=by omega
  have hst:=cD (i:=i) (n:=l.length) (by unfold mx;omega) E;have hfu:m1.bH<n:=by have:=q.mono.f;omega
  have next:∀(v:aO) H2 G2 m2 f2 J,m2.V v->PE us cs Hc G1 pm tm pf tf m1 f1 L 0 0 H2 G2 m2 f2->∀W:Env,W 0=.ptr pm tm 19 0 0->W 1=.ptr pf tf 7 0 0->W 2=T->W 7=.ref H.length (J+1) 5 (i+1)->W 8=.I ((i+1:Nat):Int)->
    N W ((H2++[(⟨false,J,5,[v.enc]⟩:aH)]).set H.length ⟨false,J+1,5,M.map aO.enc++[v.enc]⟩) (J+1+1):=λv H2 G2 m2 f2 J hv T W f0 f1' f2' f7 f8=>by
   obtain⟨W,op2⟩:=T.loc lp op;have hp2:=bL W;have hp2':H.length<(H2++[⟨false,J,5,[v.enc]⟩]:aC).length:=by simp;omega
   have hq3:=((q.trans T).le (a':=0) (b':=0) (by omega) (by omega)).app [⟨false,J,5,[v.enc]⟩];refine hN _ _ _ E ⟨M++[v],G2,m2,f2,J+1,H2.set H.length ⟨false,J+1,5,M.map aO.enc++[v.enc]⟩,⟨false,J,5,[v.enc]⟩,by simp[hM],λz E=>?_,?_,by simp;omega,by rw[List.length_set];exact T.aT.out _ (bB _),by rw[eP hp2'];simp,op2,hq3.eZ (bB _) op2 _,?_,f0,f1',f2',f7,f8⟩
   .rcases dI.1 E with h1|h1
    .exact(hMv z h1).mono T.mono
    .simp at h1;subst h1;exact hv
   .rw[rX _ _ hp2]
   .rcases hli with E|⟨pl,tl,h1,h2,h3⟩
    .exact .inl E
    .obtain⟨k1,k2⟩:=T.loc h2 h3;refine .inr ⟨pl,tl,h1,?_,k2⟩;have hne:H.length≠pl:=λe=>by
      subst e;rcases hla with⟨s,E,_⟩|⟨p3,t3,E,ho,_⟩
      .rw[E] at h1;cases s<;>cases h1
      .rw[E] at h1;cases h1;have:=bL ho;omega
     exact eC (fF k1 _) hne _
  have hroom:(M.length+1)*64<=140737488355328:=by omega
  rcases hli with⟨s,E,hs2⟩|⟨pl,tl,E,ho,ho2⟩
  .simp[e0,e1,e2,e7,e8,E,hs2,Z,aL hxi];refine oH hE q.aT q.bI hx1 hx2 hfu λv H2 G2 m2 f2 J hv T _=>?_;obtain⟨W,op2⟩:=T.loc lp op;have g2:=λM K=>bT W M K;simp[e8,g2,hM,bW];refine⟨by omega,by unfold mx;omega,?_⟩;have:=next v H2 G2 m2 f2 J hv T
   simp at this;refine this _ ?_ ?_ ?_ ?_ ?_<;>simp[aK,e0,e1,e2,E,hst]
  .have ho3:=λK:aH->Prop=>aL ho K;simp[e0,e1,e2,e7,e8,E,Z,ho3,aL hxi];refine oH hE q.aT q.bI hx1 hx2 hfu λv H2 G2 m2 f2 J hv T _=>?_;obtain⟨W,op2⟩:=T.loc lp op;have g2:=λM K=>bT W M K;simp[e8,g2,hM,bW];refine⟨by omega,by unfold mx;omega,?_⟩;have:=next v H2 G2 m2 f2 J hv T
   simp at this;refine this _ ?_ ?_ ?_ ?_ ?_<;>simp[aK,e0,e1,e2,E,hst]
 .have Z:¬(i:Int)<(l.length:Int):=by omega
  have T:i=l.length:=by omega
  have J:cE (KidsQ us cs H G pm tm pf tf m f L l.length) (.ref H.length t 5 i) Hc c:=dD ⟨M,G1,m1,f1,t,X,g,by rw[T],by omega,hMv,hX,hXl,oX,lp,op,q⟩;rcases hli with⟨s,E,hs2⟩|⟨pl,tl,E,ho,ho2⟩
  .simp[e2,e7,e8,E,hs2,Z];exact J
  .simp[e2,e7,e8,E,Z];exact J
def yV {n} {l:aF aQ} {T} {c} {K:aD} (hE:iS us cs n) (h:Lay us cs H G pm tm m) (hf:cY H G pf tf m f L) (E:nM H G aQ.enc 4 T l) (hl:l.length<=1000) (W:∀x,x∈l->NE x/\fE x.aJ) (Z:m.bH<n)
  (k:∀(M:aF aO) (G':Nat->a6) (m':aI) (f':aW) (t:Nat) (X:aC) (g:aH) (J:Nat),M.length=l.length->(∀v,v∈M->m'.V v)->H.length<=X.length->G' X.length=.bP->(X++[g])[H.length]?=some ⟨false,t,5,M.map aO.enc⟩->G' H.length=.bP->
   PE us cs H G pm tm pf tf m f L 0 0 (X++[g]) G' m' f'->K (.ref H.length t 5 l.length) (X++[g]) J):bO aE 240 [.ptr pm tm 19 0 0,.ptr pf tf 7 0 0,T] H c K:=
 gL (kids_con hE h hf E hl W Z) λr H' J ⟨M,G',m',f',t,X,g,h1,h2,h3,h4,h5,Z,W,T,E⟩=>by
  subst h1;subst h4;exact k M G' m' f' t X g J h2 h3 h5 Z W T E
def eV.of (Z:m'.us=m.us) (e4:m'.bS=m.bS) (T:m'.b9=m.b9) (J:m'.cJ=m.cJ) (W:m'.cells=m.cells) (E:m'.bH<=m.bH):eV m m':=⟨by rw[e4];exact bB _,by rw[T];exact bB _,by rw[J];exact bB _,by rw[W];exact bB _,E,Z⟩
def cY.AT (E:cY H G pf tf m f L) (h:Lay us cs H G pm tm m) (l:eV m m'):cY (H.set pm (m'.ob tm)) G pf tf m' f L:=
 E.kp (O:=λo=>¬o=.jU) l (cB.set (S:=λo=>o=.jU) _ h.gm) (by simp) (by simp) (by simp)
def Bd.ZC (E:Bd m) {d:Int} (J:0<=d/\d<=12):Bd {m with depth:=d}:=⟨E.o,E.c,E.g,E.mp,E.bH,E.ab,E.af,J,E.jI,E.a1,E.out⟩
def frame_con {n} {c0} (hR:iR us cs n) (h:Lay us cs H G pm tm m) (hf:cY H G pf tf m f L) (h0:m.ab=0) (hr:m.mp+ew f L+1000<=1650000000000) (hn:m.bH<n):
  cA aE 126 [.ptr pm tm 19 0 0,.ptr pf tf 7 0 0] H c0 (KJ us cs H G pm tm pf tf m f L):=by
 have E:=h.b.depth;have g1:=λM K=>bT h.hm M K;refine cO F126 ?_;unfold F126;by_cases h12:12<=m.depth
 .simp[g1,aI.bD,aI.g11,h12];refine EM (h.app _) λE E q=>?_;obtain⟨J,T⟩:=q.loc (q:=H.length) (by simp;rfl) (h.out _ (bB _));have E:=bL J;have gA:=λK=>aL J K;simp[gA,E,aR];have J:=(q.pe (hf.app _)).gU.eZ (bB _) T;refine dD ⟨5,sV 0 0 [],G,m.fail 4,f,L,by rw[z5],.nil,?_,by simp⟩;have:=(J ⟨false,c0,5,[[.I 0,.I 0,.str [],.I 0,.aU]]⟩).pb;exact this
 .have E:Lay us cs (H++[⟨false,c0,5,[[.I 0,.I 0,.str [],.I 0,.aU]]⟩]) G pm tm m:=h.app _;have T:=bL E.hm;have Z:=h.b.ZC (d:=m.depth+1) (by omega);have W:eV m {m with depth:=m.depth+1}:=eV.of rfl rfl rfl rfl rfl (lU _);have T:=E.AT (m':={m with depth:=m.depth+1}) Z W rfl rfl rfl rfl rfl rfl rfl;have Z:=(hf.app [⟨false,c0,5,[[.I 0,.I 0,.str [],.I 0,.aU]]⟩]).AT E W;have E:IntKind.i64.wrap (m.depth+1)=m.depth+1:=wrap64 (by omega) (by omega);simp[g1,aI.bD,aI.g11,h12,E,aI.wO];have oA:=h.out _ (bB _);have hne:pm≠H.length:=by have:=bL h.hm;omega
  refine run_k hR T Z h0 hr hn λdP v H2 G2 E f2 L2 c2 hv q hy6=>?_;obtain⟨lA,oA2⟩:=q.loc (q:=H.length) (x:=⟨false,c0,5,[[.I 0,.I 0,.str [],.I 0,.aU]]⟩) (eC (by simp) hne _) oA;have hmp:=q.mp;simp only at hmp;have Z:IntKind.i64.wrap (E.depth-1)=E.depth-1:=wrap64 (by omega) (by omega);have J:=q.app [⟨false,c2,5,[v.enc]⟩];have gm2:=λK=>aL J.aT.hm K;have T:=bL J.aT.hm;have lB:(H2++[(⟨false,c2,5,[v.enc]⟩:aH)])[H2.length]?=some ⟨false,c2,5,[v.enc]⟩:=by simp
  have T:pm≠H2.length:=by have:=bL q.aT.hm;omega
  have gA:∀X (K:aH->Prop),aZ ((H2++[(⟨false,c2,5,[v.enc]⟩:aH)]).set pm X) H.length K=K ⟨false,c0,5,[[.I 0,.I 0,.str [],.I 0,.aU]]⟩:=λX K=>aL (eC (fF lA _) hne _) K;have gB:∀X (K:aH->Prop),aZ ((H2++[(⟨false,c2,5,[v.enc]⟩:aH)]).set pm X) H2.length K=K ⟨false,c2,5,[v.enc]⟩:=λX K=>aL (eC lB T _) K;simp[bW,gm2,aI.bD,aI.g11,Z,aI.wO,gA,gB];have T:=bL lA;have T:eV E {E with depth:=E.depth-1}:=eV.of rfl rfl rfl rfl rfl (lU _);have Z:=J.aT.AT (m':={E with depth:=E.depth-1}) (J.aT.b.ZC (by omega)) T rfl rfl rfl rfl rfl rfl rfl;have hfrm3:=J.bI.AT J.aT T;have hchg:cB j1 H G (((H2++[(⟨false,c2,5,[v.enc]⟩:aH)]).set pm (aI.ob {E with depth:=E.depth-1} tm)).set H.length ⟨false,c0,5,[v.enc]⟩) G2:=by
   refine Kp.sD ?_ (bB _) _;refine cB.trans (cB.app [⟨false,c0,5,[[.I 0,.I 0,.str [],.I 0,.aU]]⟩]) (cB.trans (cB.set (S:=j1) (aI.ob {m with depth:=m.depth+1} tm) (by rw[h.gm];simp[j1])) (cB.trans J.fV (cB.set (S:=j1) _ (by rw[J.aT.gm];simp[j1]))))
  refine⟨by omega,dD ⟨dP,v,G2,{E with depth:=E.depth-1},f2,L2,rfl,hv.mono T,⟨Z.eZ _ oA2,hfrm3.set _ (.inr oA2),hchg,(W.trans q.mono).trans T,q.top,q.fp,?_,?_⟩,hy6⟩⟩
  .exact hmp.1
  .simp only;omega
def ON {n} {c} {K:aD} (hR:iR us cs n) (h:Lay us cs H G pm tm m) (Z:cY H G pf tf m f L) (h0:m.ab=0) (T:m.mp+ew f L+1000<=1650000000000) (W:m.bH<n)
  (k:∀E v H' G' m' f' L' J,aI.V m' v->PB us cs H G pm tm pf tf m f L 0 0 H' G' m' f' L'->(E=6->ew f' L'+4000*m'.bH+10<=81000000)->K (.aX [.I E,.agg (aO.enc v)]) H' J):bO aE 126 [.ptr pm tm 19 0 0,.ptr pf tf 7 0 0] H c K:=
 gL (frame_con hR h Z h0 T W) λr H' J ⟨E,v,G',m',f',L',h1,Z,W,T⟩=>by subst h1;exact k E v H' G' m' f' L' J Z W T
end
structure eO where
 cell:Int
 val:aO
def eO.enc (x:eO):aF AV:=.I x.cell::x.val.enc
@[simp] theorem eO.len (s:eO):s.enc.length=6:=by simp[eO.enc]
@[simp] theorem eO.g0 (s:eO) (K:AV->Prop):aZ s.enc 0 K=K (.I s.cell):=by simp[eO.enc]
@[simp] theorem eO.t1 (s:eO):s.enc.tail=s.val.enc:=by simp[eO.enc]
def eO.cells (s:eO):∀a,a∈s.enc->a.cell=true:=λa E=>by
 simp[eO.enc] at E;rcases E with rfl|h
 .rfl
 .exact aO.cells _ _ h
@[simp] theorem dG.len (x:dG):x.enc.length=5:=rfl
@[simp] theorem dG.all (x:dG):x.enc.take 5=x.enc:=rfl
def dG.g0 (x:dG) (K:AV->Prop):aZ x.enc 0 K=K (x.kids.av 4 aQ.enc):=by simp[dG.enc]
def dG.g1 (x:dG) (K:AV->Prop):aZ x.enc 1 K=K x.pX.av:=by simp[dG.enc]
def dG.g2 (x:dG) (K:AV->Prop):aZ x.enc 2 K=K (.I x.this):=by simp[dG.enc]
def dG.g3 (x:dG) (K:AV->Prop):aZ x.enc 3 K=K (.str x.self):=by simp[dG.enc]
def dG.g4 (x:dG) (K:AV->Prop):aZ x.enc 4 K=K (.str x.static):=by simp[dG.enc]
def dG.cells (x:dG):∀a,a∈x.enc->a.cell=true:=λa E=>by
 simp[dG.enc] at E;rcases E with rfl|rfl|rfl|rfl|rfl
 .exact nI _ _ _
 .exact x.pX.cell
 .rfl
 .rfl
 .rfl
def qU (m:aI) (x:eO):Prop:=-1<=x.cell/\x.cell<m.cells.ln/\m.V x.val
def qU.mono {m m'} {x} (h:qU m x) (l:eV m m'):qU m' x:=⟨h.1,by have:=h.2.1;have:=l.k;omega,h.2.2.mono l⟩
def RZ {l:aF aQ} {i:Nat} {y:aQ} (h:l[i]?=some y):dZ (l.take (i+1))=dZ (l.take i)+(if y.aJ=25 then 1 else 0)/\dZ (l.take (i+1))<=dZ l:=by
 constructor
 .rw[wB,h];simp[dZ,bE]
 .conv=>rhs;rw[<-wA (i+1) l]
  simp only[dZ,bE,qB,FY];omega
def MC:∀l:aF aQ,dZ l<=l.length
 |[]=>bB _
 |y::l=>by
  have:=MC l;simp only[dZ,bE,gJ,nP,lE] at this ⊢;split<;>omega
section
variable {us:SL bU} {cs:SL bG} {H H' H'':aC} {G G' G'':Nat->a6} {pm tm pf tf:Nat} {m m' m'':aI} {f f' f'':aW} {L L' L'':aF aY} {a b a' b':Int}
def CG (us:SL bU) (cs:SL bG) (H:aC) (G:Nat->a6) (pm tm:Nat) (m:aI) (b:Int) (r:AV) (H':aC) (_:Nat):Prop:=
 ∃v G' m',r=.agg (aO.enc v)/\aI.V m' v/\PA us cs H G pm tm m b H' G' m'
def z4:aF AV:=[.I 0,.I 0,.str [],.aU]
def kJ (x:dG) (e k:AV):aW:=⟨e,false,x.this,x.self,x.static,k,[]⟩
structure qR (us:SL bU) (cs:SL bG) (H:aC) (G:Nat->a6) (pm tm:Nat) (m:aI) (x:dG) (c0 i:Nat) (Hc:aC) (Gc:Nat->a6) (m1:aI) (a:AV) (E:List cZ):Prop where
 q:PA us cs H G pm tm m i Hc Gc m1
 same:m1.ab=m.ab/\m1.bH=m.bH/\m1.cJ=m.cJ
 la:Hc[H.length]?=some ⟨false,c0,5,[x.enc]⟩
 lb:Hc[H.length+1]?=some ⟨false,c0+1,5,[[.int .i64 0,.int .i64 0,.str [],.int .i64 0,.aU]]⟩
 lg:Hc[H.length+2]?=some ⟨false,c0+1+1,7,[(kJ x a .aU).aM]⟩
 oa:Gc H.length=.bP
 ob:Gc (H.length+1)=.bP
 og:Gc (H.length+2)=.bP
 s:Slot Hc Gc (.kR m.cJ.ln) 2 a (E.map cZ.enc)
 e:∀b,b∈E->0<=b.Cell/\b.Cell<m1.cells.ln
 el:E.length<=i
def Slot.BE {o:a6} {w:Nat} {a:AV} {aN:aF (aF AV)} (h:Slot H G o w a aN) (K:AV->Prop):oV a K=K (.I aN.length):=by
 rcases h with⟨e,E⟩|⟨p,t,e,_⟩
 .subst E;rw[e];simp
 .rw[e];simp
def pL (n:aQ) (k:Int):aR (aR [.I 0,.I 0,.I 0,.str [],.aU,.I 0,.I 0,.I 0,.str [],.I 0,.aU,.I 0,.I 0,.I 0,.str [],.I 0,.aU] 0 [.I k]) 1 n.enc=aY.enc ⟨k,n,0,sV 0 0 [],0,sV 0 0 []⟩:=by simp[aR,aY.enc,aQ.dW,iB]
def TZ (k n:Int):aR (aR [.I 0,.I 0,.str [],.I 0,.aU] 0 [.I k]) 1 [.I n]=(sV k n []).enc:=by simp[aR,iB]
def putG (f:aW):aR [.aU,.bool false,.I 0,.str [],.str [],.aU,.str [],.I 0,.I 0,.I 0,.str [],.I 0,.aU] 0 f.aM=cQ.enc ⟨f,0,sV 0 0 []⟩:=by simp[aR,cQ.enc,aW.aM,iB]
def aW.cells {f:aW} (E:f.env.cell=true) (E:f.fL.cell=true):∀x,x∈f.aM->x.cell=true:=λx E=>by
 simp[aW.aM] at E;rcases E with rfl|rfl|rfl|rfl|rfl|rfl|rfl<;>first|assumption|rfl
@[simp] theorem cQ.len (g:cQ):g.enc.length=13:=by simp[cQ.enc,aW.aM]
def aW.all (f:aW):f.aM.take 7=f.aM:=rfl
def Lay.addgen (h:Lay us cs H G pm tm m) {Lg:aF cQ} {g:cQ} {p t} (hL:∀k g,Lg[k]?=some g->GP H G m k g) (hLl:Lg.length=m.cJ.ln) (hg:GP H G m m.cJ.ln g) (hs:Slot H' G' .cJ 13 (.ref p t 13 (Lg.length+1)) (Lg.map cQ.enc++[g.enc])) (hc:cB (λx=>x=.cJ) H G H' G') (out:∀p,H'.length<=p->G' p=.bP) (hn:Lg.length<20):
  Lay us cs (H'.set pm (aI.ob {m with cJ:=.ref p t 13 (Lg.length+1)} tm)) G' pm tm {m with cJ:=.ref p t 13 (Lg.length+1)}/\cB mM H G (H'.set pm (aI.ob {m with cJ:=.ref p t 13 (Lg.length+1)} tm)) G'/\eV m {m with cJ:=.ref p t 13 (Lg.length+1)}:=by
 obtain⟨hm',gm'⟩:=hc pm _ h.hm (by rw[h.gm];simp);have hl':=bL hm';have hb:=h.b;have hmono:eV m {m with cJ:=.ref p t 13 (Lg.length+1)}:=⟨bB _,bB _,by simp only[sK];omega,bB _,lU _,rfl⟩
 have hset:Kp (λo=>¬o=.jU) H' G' (H'.set pm (aI.ob {m with cJ:=.ref p t 13 (Lg.length+1)} tm)) G':=cB.set (S:=λo=>o=.jU) _ (gm'.trans h.gm);have kk:Kp (λo=>¬o=.cJ/\¬o=.jU) H G (H'.set pm (aI.ob {m with cJ:=.ref p t 13 (Lg.length+1)} tm)) G':=(Kp.mono hc λo h=>h.1).trans (hset.mono λo h=>h.2);have hs':=hs.kp hset (by simp);have e:Lg.map cQ.enc++[g.enc]=(Lg++[g]).map cQ.enc:=by simp
 rw[e] at hs';refine⟨⟨eP hl',gm'.trans h.gm,wP out _ _,h.us,h.cs,⟨hb.o,hb.c,by simp only[sK];omega,hb.mp,hb.bH,hb.ab,hb.af,hb.depth,hb.jI.mono hmono,hb.a1,hb.out⟩,h.cells.kp kk (by simp) rfl hmono,h.dR.kp kk (by simp) rfl hmono,h.bS.kp kk (by rintro o (rfl|⟨k,rfl⟩)<;>simp) rfl hmono,h.b9.kp kk (by simp) rfl hmono,⟨Lg++[g],hs',λj x hx=>?_⟩⟩,kk.mono λo ho=>⟨λe=>by subst e;exact ho trivial,λe=>by subst e;exact ho trivial⟩,hmono⟩;rw[yA] at hx;split at hx
 .exact(hL j x hx).kp kk (by simp) (by simp) hmono
 .rename_i hj;have hj2:j=Lg.length:=by
   have:=bL hx;simp at this;omega
  subst hj2;simp at hx;subst hx;rw[hLl];have:=hg.kp kk (by simp) (by simp) hmono;rw[<-hLl] at this ⊢;exact this
def nM.set {α:Type} {enc:α->aF AV} {w J:Nat} {E:aH} {W:AV} {A:aF α} (h:nM H G enc w W A) (T:H[J]?=some E) (Z:E.w≠w) (y:aH):nM (H.set J y) G enc w W A:=by
 rcases h with h|⟨p,t,W,E,J⟩
 .exact .inl h
 .exact .inr ⟨p,t,W,eC E (λe=>by subst e;rw[E] at T;cases T;exact Z rfl) _,J⟩
def qR.app {x:dG} {c0 i:Nat} {T:aC} {W:Nat->a6} {J:aI} {a:AV} {E:aF cZ} (S:qR us cs H G pm tm m x c0 i T W J a E) (M:aC):qR us cs H G pm tm m x c0 i (T++M) W J a E:=
 ⟨S.q.app M,S.same,fF S.la M,fF S.lb M,fF S.lg M,S.oa,S.ob,S.og,S.s.kp (cB.app (S:=λ_=>False) M) (λh=>h),S.e,S.el⟩
def qR.new {x:dG} {c0 i:Nat} {T W:aC} {Z G2:Nat->a6} {J:aI} {a a2:AV} {E:aF cZ} (S:qR us cs H G pm tm m x c0 i T Z J a E) (q:PA us cs T Z pm tm J 1 W G2 {J with cells:=a2}) (k:Kp (λo=>¬o=.cells/\¬o=.jU) T Z W G2):qR us cs H G pm tm m x c0 (i+1) W G2 {J with cells:=a2} a E:=by obtain⟨l1,T⟩:=q.loc S.la S.oa;obtain⟨Z,J⟩:=q.loc S.lb S.ob;obtain⟨W,E⟩:=q.loc S.lg S.og;exact⟨(S.q.trans q).le (by omega),S.same,l1,Z,W,T,J,E,S.s.kp k (by simp),λb E=>by have:=S.e b E;have:=q.mono.k;omega,by have:=S.el;omega⟩
def qR.bind {x:dG} {c0 i i':Nat} {Hc T:aC} {Gc W:Nat->a6} {m1:aI} {a a3:AV} {E Z:aF cZ} (S:qR us cs H G pm tm m x c0 i Hc Gc m1 a E) (r1:Slot T W (.kR m.cJ.ln) 2 a3 (Z.map cZ.enc)) (J:cB (λo=>o=.kR m.cJ.ln) Hc Gc T W) (E:∀p,T.length<=p->W p=.bP)
  (hi:i<=i') (hl:Z.length<=i') (he:∀b,b∈Z->0<=b.Cell/\b.Cell<m1.cells.ln):qR us cs H G pm tm m x c0 i' (T.set (H.length+2) ⟨false,c0+1+1,7,[(kJ x a3 .aU).aM]⟩) W m1 a3 Z:=by obtain⟨l1,o1⟩:=J _ _ S.la (by rw[S.oa];simp);obtain⟨l2,o2⟩:=J _ _ S.lb (by rw[S.ob];simp);obtain⟨l3,Z⟩:=J _ _ S.lg (by rw[S.og];simp);have hg:=S.same.2.2;have T:=S.q.aT.V7 (Kp.mono J λo W=>by rw[hg] at W;exact W.2.1) E;have E:=Z.trans S.og;exact⟨⟨T.eZ _ E,(S.q.fV.trans (J.mono λo W=>by subst W;trivial)).sD (by omega) _,S.q.mono,by have:=S.q.mp;omega⟩,S.same,eC l1 (by omega) _,eC l2 (by omega) _,by rw[eP (bL l3)],o1.trans S.oa,o2.trans S.ob,E,r1.kp (cB.set (S:=λo=>o=.bP) _ E) (by simp),he,hl⟩
abbrev oD (y:aQ):aY:=⟨1,y,0,sV 0 0 [],0,sV 0 0 []⟩
abbrev DZ (c:Nat) (y:aQ):aH:=⟨false,c,17,[(oD y).enc]⟩
structure QR (us:SL bU) (cs:SL bG) (H:aC) (G:Nat->a6) (pm tm:Nat) (m:aI) (x:dG) (c0:Nat) (y:aQ) (H2:aC) (G2:Nat->a6) (m1:aI) (fr:aW):Prop where
 q:PA us cs H G pm tm m 700 H2 G2 m1
 same:m1.ab=m.ab/\m1.bH=m.bH/\m1.cJ=m.cJ
 la:H2[H.length]?=some ⟨false,c0,5,[x.enc]⟩
 lb:H2[H.length+1]?=some ⟨false,c0+1,5,[[.int .i64 0,.int .i64 0,.str [],.int .i64 0,.aU]]⟩
 lg:H2[H.length+2]?=some ⟨false,c0+1+1,7,[fr.aM]⟩
 oa:G2 H.length=.bP
 ob:G2 (H.length+1)=.bP
 og:G2 (H.length+2)=.bP
 f:rU H2 G2 (.kR m.cJ.ln) (.kI m.cJ.ln) m1 fr [⟨1,y,0,sV 0 0 [],0,sV 0 0 []⟩]
 fe:fr.env.ln<=700
def qR.done {x:dG} {c0 c i:Nat} {J:aC} {T:Nat->a6} {W:aI} {a:AV} {E:aF cZ} {y:aQ} (S:qR us cs H G pm tm m x c0 i J T W a E) (hy:NE y) (Z:i<=700) (Z:0<=x.this/\x.this<=m.bS.ln):
  ∃Z,QR us cs H G pm tm m x c0 y ((J++[DZ c y]).set (H.length+2) ⟨false,c0+1+1,7,[(kJ x a (.ref J.length c 17 1)).aM]⟩) Z W (kJ x a (.ref J.length c 17 1)):=by
 have W:=S.same.2.2;have W:=bL S.lg;have kk:Kp (λo=>¬o=.bP) J T ((J++[DZ c y]).set (H.length+2) ⟨false,c0+1+1,7,[(kJ x a (.ref J.length c 17 1)).aM]⟩) (λq=>if q=J.length then .kI m.cJ.ln else T q):=λq z W Z=>by
  have h1:=bL W;refine⟨eC (fF W _) (λe=>by subst e;exact Z S.og) _,if_neg (by omega)⟩
 have out:∀p,((J++[DZ c y]).set (H.length+2) ⟨false,c0+1+1,7,[(kJ x a (.ref J.length c 17 1)).aM]⟩).length<=p->(λq=>if q=J.length then a6.kI m.cJ.ln else T q) p=.bP:=λp hp=>by
  simp at hp;have:p≠J.length:=by omega
  simp only[if_neg this];exact S.q.aT.out p (by omega)
 have hchg:cB mM H G ((J++[DZ c y]).set (H.length+2) ⟨false,c0+1+1,7,[(kJ x a (.ref J.length c 17 1)).aM]⟩) (λq=>if q=J.length then .kI m.cJ.ln else T q):=λq z W Z=>by
  have h1:=bL W;obtain⟨h2,h3⟩:=S.q.fV q z W Z;have W:=bL h2;refine⟨eC (fF h2 _) (by omega) _,?_⟩;show(if q=J.length then _ else T q) = _;rw[if_neg (by omega)];exact h3
 have W:=S.q.aT.b.bH;have W:=S.s.ln;simp at W;have hEl:=S.el;refine⟨λq=>if q=J.length then .kI m.cJ.ln else T q,⟨S.q.aT.kp (kk.mono λo Z e=>by subst e;exact Z) out,hchg,S.q.mono,by have:=S.q.mp;omega⟩,S.same,eC (fF S.la _) (by omega) _,eC (fF S.lb _) (by omega) _,by rw[eP (by simp;omega)],?_,?_,?_,⟨⟨E,S.s.kp kk (by simp),S.e⟩,?_,?_,?_,?_⟩,?_⟩
 .show(if H.length=J.length then _ else T H.length) = _;rw[if_neg (by omega)];exact S.oa
 .show(if H.length+1=J.length then _ else T (H.length+1)) = _;rw[if_neg (by omega)];exact S.ob
 .show(if H.length+2=J.length then _ else T (H.length+2)) = _;rw[if_neg (by omega)];exact S.og
 .refine .inr ⟨J.length,c,[],rfl,?_,by simp⟩;rw[uR (by omega)];simp
 .intro k E;simp at E;subst E;exact⟨by simp,λ_=>hy,by simp,by simp,by simp,by simp,by simp,.nil,.nil,by simp,by simp⟩
 .simp[ew,kJ,cw,bE,aY.w,W];omega
 .have:=S.q.mono.o;simp only[kJ];omega
 .simp only[kJ];omega
open Classical in
def QR.own {x} {c0} {y} {E:aC} {W:Nat->a6} {T} {fr} (D:QR us cs H G pm tm m x c0 y E W T fr) (h:Lay us cs H G pm tm m):
  ∃J,Lay us cs E J pm tm T/\cY E J (H.length+2) (c0+1+1) T fr [⟨1,y,0,sV 0 0 [],0,sV 0 0 []⟩]/\(∀q x,H[q]?=some x->¬eQ (G q)->E[q]?=some x/\J q=.bP)/\J (H.length+1)=.bP/\(∀q x,H[q]?=some x->G q=.mP->E[q]?=some x/\J q=.mP):=by
 have T:=D.same.2.2;refine⟨λq=>if q=H.length+2 then .frame else if W q=.kR m.cJ.ln then .env else if W q=.kI m.cJ.ln then .fL else if eQ (W q) then W q else .bP,?_,⟨D.lg,by simp,?_⟩,λq z J E=>?_,?_,λq z J E=>?_⟩
 .refine D.q.aT.V7 (λq z J E=>⟨J,?_⟩) λp hp=>?_
  .rw[T] at E;have T:q≠H.length+2:=λe=>by subst e;rw[D.og] at E;exact E.1
   show(if q=H.length+2 then _ else _) = _;rw[if_neg T,if_neg E.2.1,if_neg E.2.2,if_pos E.1]
  .have T:=bL D.lg;have Z:=D.q.aT.out p hp;show(if p=H.length+2 then _ else _) = _;rw[if_neg (by omega),Z];simp[eQ]
 .refine D.f.own (.refl _) (λq z J e=>⟨J,?_⟩) λq z J e=>⟨J,?_⟩
  .have T:q≠H.length+2:=λe2=>by subst e2;rw[D.og] at e;cases e
   show(if q=H.length+2 then _ else _) = _;rw[if_neg T,if_pos e]
  .have T:q≠H.length+2:=λe2=>by subst e2;rw[D.og] at e;cases e
   show(if q=H.length+2 then _ else _) = _;rw[if_neg T,if_neg (by rw[e];simp),if_pos e]
 .obtain⟨T,Z⟩:=D.q.fV q z J (λe=>E (isW_M e));have h3:=bL J;refine⟨T,?_⟩;have h4:¬eQ (W q):=by rw[Z];exact E
  show(if q=H.length+2 then _ else _) = _;rw[if_neg (by omega),if_neg (λe=>h4 (by rw[e];trivial)),if_neg (λe=>h4 (by rw[e];trivial)),if_neg h4]
 .show(if H.length+1=H.length+2 then _ else _) = _;rw[if_neg (by omega),D.ob];simp[eQ]
 .obtain⟨T,Z⟩:=D.q.fV q z J (by rw[E];simp[mM]);have h3:=bL J;refine⟨T,?_⟩;show(if q=H.length+2 then _ else _) = _;rw[if_neg (by omega),Z,E];simp[eQ]
open Classical in
def ND {m1 m3} {T J:aC} {Z E:Nat->a6} {f0 f3} {L0 L3} (h:Lay us cs H G pm tm m) (d3:∀q x,H[q]?=some x->¬eQ (G q)->T[q]?=some x/\Z q=.bP) (d5:∀q x,H[q]?=some x->G q=.mP->T[q]?=some x/\Z q=.mP) (W:PB us cs T Z pm tm pf tf m1 f0 L0 a b J E m3 f3 L3):
  ∃T,Lay us cs J T pm tm m3/\cB mM H G J T/\∀q,H.length<=q->E q=.bP->T q=.bP:=by
 refine⟨λq=>if q<H.length/\¬eQ (G q) then G q else if eQ (E q) then E q else .bP,?_,λq z Z E=>?_,λq Z E=>?_⟩
 .refine W.aT.kp (λq z Z E=>⟨Z,?_⟩) λp hp=>?_
  .have h1:¬(q<H.length/\¬eQ (G q)):=λ⟨h1,h2⟩=>by
    obtain⟨T,J⟩:=d3 q _ (bC h1) h2;have:=(W.loc T J).2;rw[this] at E;exact E
   show(if q<H.length/\¬eQ (G q) then _ else _) = _;rw[if_neg h1,if_pos E]
  .have h2:=W.aT.out p hp;show(if p<H.length/\¬eQ (G p) then _ else _) = _;by_cases e:p<H.length/\¬eQ (G p)
   .exfalso;obtain⟨T,J⟩:=d3 p _ (bC e.1) e.2;have:=bL (W.loc T J).1;omega
   .rw[if_neg e,h2];simp[eQ]
 .rcases WM E with E|E
  .obtain⟨T,J⟩:=d3 q z Z E;refine⟨(W.loc T J).1,?_⟩;show(if q<H.length/\¬eQ (G q) then _ else _) = _;rw[if_pos ⟨bL Z,E⟩]
  .obtain⟨T,J⟩:=d5 q z Z E;obtain⟨k3,Z⟩:=W.fV q z T (by rw[J];simp[j1]);refine⟨k3,?_⟩;show(if q<H.length/\¬eQ (G q) then _ else _) = _;rw[if_neg (λe=>e.2 (by rw[E];trivial)),Z,J,E];simp[eQ]
 .show(if q<H.length/\¬eQ (G q) then _ else _) = _;rw[if_neg (λe=>by omega),E];simp[eQ]
def enter_con {n:Nat} {x:dG} {A:aF eO} {aa:AV} {c0:Nat} {E:Bool} (hR:iR us cs n) (hP:fC us cs) (h:Lay us cs H G pm tm m) (h0:m.ab=0) (hx:jX m E x) (hC:qT H G x) (hA:nM H G eO.enc 6 aa A) (hA2:∀y,y∈A->qU m y) (E:m.mp+4000<=1650000000000) (E:m.bH<n):
  cA aE 96 [.ptr pm tm 19 0 0,.agg x.enc,aa] H c0 (CG us cs H G pm tm m 2000):=by
 refine cO F96 ?_;unfold F96;have E:=hx.l;have E:=hx.u.1;have E:IntKind.i64.wrap ((x.kids.aG.length:Int)-1)=((x.kids.aG.length-1:Nat):Int):=by rw[wrap64 (by omega) (by omega)];omega
 simp[dG.g0,dG.g2,dG.g3,dG.g4,cM,E,aR];refine tP (x.kids.aG.length-1) (λi e Hc c=>∃(Gc:Nat->a6) (m1:aI) (a:AV) (E:aF cZ),qR us cs H G pm tm m x c0 i Hc Gc m1 a E/\nM Hc Gc eO.enc 6 aa A/\e 0=.ptr pm tm 19 0 0/\e 2=aa/\e 4=.ptr H.length c0 5 0 0/\e 6=.ptr (H.length+1) (c0+1) 5 0 0/\
  e 7=.ptr (H.length+2) (c0+1+1) 7 0 0/\e 8=.I ((x.kids.aG.length-1:Nat):Int)/\e 9=.I (dZ (x.kids.aG.take i):Nat)/\e 10=.I i) ?_ ?_
 .refine⟨G,m,.aU,[],⟨⟨h.app _,cB.app _,.refl _,by omega,rfl⟩,⟨rfl,rfl,rfl⟩,by simp,by simp,by simp[kJ,aW.aM],h.out _ (by omega),h.out _ (by omega),h.out _ (by omega),.nil,by simp,by simp⟩,hA.gE λq x hq ho=>⟨fF hq _,ho⟩,?_,?_,?_,?_,?_,?_,?_,?_⟩<;>simp[aK,dZ,bE]
 intro i e Hc c J ⟨Gc,m1,a,E,S,hA,e0,e2,e4,e6,e7,e8,e9,T⟩ N hN;by_cases hil:i<x.kids.aG.length-1
 .obtain⟨y,hy⟩:∃y,x.kids.aG[i]?=some y:=⟨_,bC (by omega)⟩
  have hyn:=hx.n y (bA hy);have hlt:(i:Int)<((x.kids.aG.length-1:Nat):Int):=by omega
  have Z:=cD (i:=i) (n:=x.kids.aG.length) (by unfold mx;omega) (by omega);obtain⟨u1,E⟩:=RZ hy;have gA:=λM K=>bT S.la M K;have gA0:=λK=>aL S.la K;refine gK (λE H' c'=>E=aK (aK (aK e 27 (.I i)) 28 (.I ((x.kids.aG.length-1:Nat):Int))) 29 (.bool true)/\Hc=H'/\c=c') ?_ ?_;rotate_left
  .intro K hK;simp[e8,T,hlt];exact hK _ _ _ ⟨rfl,rfl,rfl⟩
  intro E J J ⟨J,W,hc1⟩;subst W;subst hc1;subst J;refine gK (λE H' c'=>∃(G2:Nat->a6) (W:aI) (a2:AV) (E2:aF cZ),qR us cs H G pm tm m x c0 (i+1) H' G2 W a2 E2/\nM H' G2 eO.enc 6 aa A/\E 0=.ptr pm tm 19 0 0/\E 2=aa/\E 4=.ptr H.length c0 5 0 0/\E 6=.ptr (H.length+1) (c0+1) 5 0 0/\
   E 7=.ptr (H.length+2) (c0+1+1) 7 0 0/\E 8=.I ((x.kids.aG.length-1:Nat):Int)/\E 9=.I (dZ (x.kids.aG.take (i+1)):Nat)/\E 10=.I i) ?_ ?_
  .intro E H' c' ⟨G2,W,a2,E2,S2,J,f0,f2,f4,f6,f7,f8,f9,f10⟩;simp[f10,Z];refine hN _ _ _ hil ⟨G2,W,a2,E2,S2,J,?_,?_,?_,?_,?_,?_,?_,?_⟩<;>simp[aK,f0,f2,f4,f6,f7,f8,f9]
  intro K hK;refine E6 ?_;rw[dT,dT,dT];refine gK (λE H' c'=>∃(J:Int) (v:aO),H'=Hc++[⟨false,c,4,[y.enc]⟩,⟨false,c+1,5,[v.enc]⟩]/\-1<=J/\J<m1.cells.ln/\m1.V v/\E 0=.ptr pm tm 19 0 0/\E 2=aa/\E 4=.ptr H.length c0 5 0 0/\E 6=.ptr (H.length+1) (c0+1) 5 0 0/\
   E 7=.ptr (H.length+2) (c0+1+1) 7 0 0/\E 8=.I ((x.kids.aG.length-1:Nat):Int)/\E 9=.I (dZ (x.kids.aG.take (i+1)):Nat)/\E 10=.I i/\E 11=.ptr Hc.length c 4 0 0/\E 12=.I J/\E 13=.ptr (Hc.length+1) (c+1) 5 0 0) ?_ ?_
  rotate_left
  .intro Z W;have fin:∀(E:Env) (J:Int) (v:aO) (H':aC) (c':Nat),H'=Hc++[⟨false,c,4,[y.enc]⟩,⟨false,c+1,5,[v.enc]⟩]->-1<=J->J<m1.cells.ln->m1.V v->E 0=.ptr pm tm 19 0 0->E 2=aa->E 4=.ptr H.length c0 5 0 0->E 6=.ptr (H.length+1) (c0+1) 5 0 0->
     E 7=.ptr (H.length+2) (c0+1+1) 7 0 0->E 8=.I ((x.kids.aG.length-1:Nat):Int)->E 9=.I (dZ (x.kids.aG.take (i+1)):Nat)->E 10=.I i->E 11=.ptr Hc.length c 4 0 0->E 12=.I J->E 13=.ptr (Hc.length+1) (c+1) 5 0 0->Z E H' c':=
    λE J v H' c' h1 h2 h3 Z f0 f2 f4 f6 f7 f8 f9 f10 f11 f12 f13=>W _ _ _ ⟨J,v,h1,h2,h3,Z,f0,f2,f4,f6,f7,f8,f9,f10,f11,f12,f13⟩
   by_cases W:y.aJ=25
   .rw[if_pos W] at u1;obtain⟨d,hd⟩:∃d,x.pX.aG[dZ (x.kids.aG.take i)]?=some d:=⟨_,bC (by rw[hx.k];omega)⟩
    have Z:=hx.c d (bA hd);have hml:=S.q.mono.k;have hul:=bL hd;have hul2:(dZ (x.kids.aG.take i):Int)<(x.pX.aG.length:Int):=by omega
    obtain⟨k,rfl⟩:=iY Z.1;obtain⟨p,t,C,z,w1,Z,Z,w4,w5,w6,w7,w8⟩:=S.q.aT.cell (k:=k) (by omega);have gm:=λM K=>bT S.q.aT.hm M K;have gC:=λM K=>bT Z M K;have hkC:(k:Int)<(C.length:Int):=by omega
    have Z:=MC x.kids.aG;have hu9:IntKind.i64.wrap ((dZ (x.kids.aG.take i):Int)+1)=(dZ (x.kids.aG.take (i+1)):Int):=by rw[wrap64 (by omega) (by omega)];omega
    have hen:∀K:AV->Prop,aZ (kS (k:Int)) 0 K=K (.I k):=λK=>by simp[kS]
    cases hcg:x.pX with
    |sl s=>
     have hd':s.aG[dZ (x.kids.aG.take i)]?=some (k:Int):=by rw[hcg] at hd;exact hd
     have Z:(dZ (x.kids.aG.take i):Int)<(s.aG.length:Int):=by rw[hcg] at hul2;exact hul2
     have hca:x.pX.av=s.av 1 kS:=by rw[hcg];rfl
     by_cases kn:y.bN=0
     .simp[e0,e4,e9,T,gA,gA0,dG.g0,dG.g1,aL hy,W,aR,cM,bW,aL hd',hca,hen,gm,aI.bD,aI.g2,w1,gC,hkC,aL w4,kn,hu9];refine fin _ (-1) z _ _ (by simp) (by omega) (by omega) w5 ?_ ?_ ?_ ?_ ?_ ?_ ?_ ?_ ?_ ?_ ?_<;>simp[aK,e0,e2,e4,e6,e7,e8,T]
     .simp[e0,e4,e9,T,gA,gA0,dG.g0,dG.g1,aL hy,W,aR,cM,bW,aL hd',hca,hen,gm,aI.bD,aI.g2,w1,gC,hkC,aL w4,kn,hu9];refine fin _ k z _ _ (by simp) (by omega) (by omega) w5 ?_ ?_ ?_ ?_ ?_ ?_ ?_ ?_ ?_ ?_ ?_<;>simp[aK,e0,e2,e4,e6,e7,e8,T]
    |rf pc tc lc=>
     obtain⟨hc1,hc2⟩:=hC.kp S.q.fV (by simp[mM]) pc tc lc hcg;have hd':(lc.map kS)[dZ (x.kids.aG.take i)]?=some (kS k):=by rw[hcg] at hd;rw[kL];simp only[qS.aG] at hd;rw[hd];rfl
     have Z:(dZ (x.kids.aG.take i):Int)<(lc.length:Int):=by rw[hcg] at hul2;exact hul2
     have hca:x.pX.av=.ref pc tc 1 lc.length:=by rw[hcg];rfl
     have gCg:=λM K=>bT hc1 M K;by_cases kn:y.bN=0
     .simp[e0,e4,e9,T,gA,gA0,dG.g0,dG.g1,aL hy,W,aR,cM,bW,aL hd',hca,Z,gCg,hen,gm,aI.bD,aI.g2,w1,gC,hkC,aL w4,kn,hu9];refine fin _ (-1) z _ _ (by simp) (by omega) (by omega) w5 ?_ ?_ ?_ ?_ ?_ ?_ ?_ ?_ ?_ ?_ ?_<;>simp[aK,e0,e2,e4,e6,e7,e8,T]
     .simp[e0,e4,e9,T,gA,gA0,dG.g0,dG.g1,aL hy,W,aR,cM,bW,aL hd',hca,Z,gCg,hen,gm,aI.bD,aI.g2,w1,gC,hkC,aL w4,kn,hu9];refine fin _ k z _ _ (by simp) (by omega) (by omega) w5 ?_ ?_ ?_ ?_ ?_ ?_ ?_ ?_ ?_ ?_ ?_<;>simp[aK,e0,e2,e4,e6,e7,e8,T]
   .rw[if_neg W,FW] at u1;by_cases Z:i<A.length
    .obtain⟨z,hz⟩:∃z,A[i]?=some z:=⟨_,bC Z⟩
     have hzp:=(hA2 z (bA hz)).mono S.q.mono;have Z:(i:Int)<(A.length:Int):=by omega
     rcases hA with⟨s,hs,hs2⟩|⟨pl,tl,hs,ho,ho2⟩
     .simp[e2,e4,T,gA0,dG.g0,aL hy,W,aR,cM,bW,hs,hs2,Z,aL hz];refine fin _ z.cell z.val _ _ (by simp) hzp.1 hzp.2.1 hzp.2.2 ?_ ?_ ?_ ?_ ?_ ?_ ?_ ?_ ?_ ?_ ?_<;>simp[aK,e0,e2,e4,e6,e7,e8,e9,T,u1,hs]
     .have ho3:=λM K=>bT ho M K;have ho4:=λK=>aL ho K;simp[e2,e4,T,gA0,dG.g0,aL hy,W,aR,cM,bW,hs,ho3,Z,aL hz];refine fin _ z.cell z.val _ _ (by simp) hzp.1 hzp.2.1 hzp.2.2 ?_ ?_ ?_ ?_ ?_ ?_ ?_ ?_ ?_ ?_ ?_<;>simp[aK,e0,e2,e4,e6,e7,e8,e9,T,u1,hs]
    .have Z:¬(i:Int)<(A.length:Int):=by omega
     rcases hA with⟨s,hs,hs2⟩|⟨pl,tl,hs,ho,ho2⟩
     .simp[e2,e4,T,gA0,dG.g0,aL hy,W,aR,cM,bW,hs,hs2,Z];refine fin _ (-1) (sV 0 0 []) _ _ (by simp[z5]) (by omega) (by omega) .nil ?_ ?_ ?_ ?_ ?_ ?_ ?_ ?_ ?_ ?_ ?_<;>simp[aK,e0,e2,e4,e6,e7,e8,e9,T,u1,hs]
     .simp[e2,e4,T,gA0,dG.g0,aL hy,W,aR,cM,bW,hs,Z];refine fin _ (-1) (sV 0 0 []) _ _ (by simp[z5]) (by omega) (by omega) .nil ?_ ?_ ?_ ?_ ?_ ?_ ?_ ?_ ?_ ?_ ?_<;>simp[aK,e0,e2,e4,e6,e7,e8,e9,T,u1,hs]
  intro E H' c' ⟨J,v,E,hc1,hc2,hv,f0,f2,f4,f6,f7,f8,f9,f10,f11,f12,f13⟩;subst E;have S1:=S.app [⟨false,c,4,[y.enc]⟩,⟨false,c+1,5,[v.enc]⟩];have hA1:nM (Hc++[⟨false,c,4,[y.enc]⟩,⟨false,c+1,5,[v.enc]⟩]) Gc eO.enc 6 aa A:=hA.gE λq x hq ho=>⟨fF hq _,ho⟩
  have lP:(Hc++[(⟨false,c,4,[y.enc]⟩:aH),⟨false,c+1,5,[v.enc]⟩])[Hc.length]?=some ⟨false,c,4,[y.enc]⟩:=by simp
  have oP:=S.q.aT.out Hc.length (bB _);by_cases E:J<0
  .simp[f0,f12,f13,E,cM];refine II S1.q.aT hv (by have:=S.q.mp;omega) λa2 H2 G2 c2 W hl2 k2=>?_;have S2:=S1.new W k2;obtain⟨lP2,oP2⟩:=W.loc lP oP;have gG:=λK=>aL S2.lg K;have gP:=λK=>aL lP2 K;have hA3:nM H2 G2 eO.enc 6 aa A:=hA1.gE λq x hq ho=>W.loc hq ho;have hfe:(kJ x a .aU).env=a:=rfl;simp[f7,f11,gG,gP,aW.g0,hfe];refine HR S2.s S2.q.aT.out (by have:=S2.el;omega) λa3 E3 H3 W c3 r1 r2 r2' r3 r4 r5=>?_;obtain⟨l3,o3⟩:=r4 _ _ S2.lg (by rw[S2.og];simp);have gG3:=λK=>aL l3 K;have eF:=r1.cell;have S3:=S2.bind (i':=i+1) r1 r4 r5 (by omega) (by have:=S.el;omega) λb hb=>by rcases r3 b hb with h|⟨_,h⟩;exact S2.e b h;rw[h];simp only[hl2];omega
   have hA4:nM H3 W eO.enc 6 aa A:=hA3.gE λq x hq ho=>by obtain⟨k1,k2⟩:=r4 q x hq (by rw[ho];simp);exact⟨k1,k2.trans ho⟩
   have hA5:=hA4.set l3 (by simp) ⟨false,c0+1+1,7,[(kJ x a3 .aU).aM]⟩;simp[f7,gG3,aW.p0,B6 eF];refine hK _ _ _ ⟨W,_,a3,E3,S3,hA5,?_,?_,?_,?_,?_,?_,?_,?_⟩<;>simp[aK,f0,f2,f4,f6,f7,f8,f9,f10]
  .have hnn:0<=J:=GG.1 E;have gG:=λK=>aL S1.lg K;have gP:=λK=>aL lP K;have hfe:(kJ x a .aU).env=a:=rfl;simp[f7,f11,f12,E,gG,bW,aW.g0,hfe];refine HR S1.s S1.q.aT.out (by have:=S1.el;omega) λa3 E3 H3 W c3 r1 r2 r2' r3 r4 r5=>?_;obtain⟨l3,o3⟩:=r4 _ _ S1.lg (by rw[S1.og];simp);have gG3:=λK=>aL l3 K;have eF:=r1.cell;have S3:=S1.bind (i':=i+1) r1 r4 r5 (by omega) (by have:=S.el;omega) λb hb=>by rcases r3 b hb with h|⟨_,h⟩;exact S1.e b h;rw[h];omega
   have hA4:nM H3 W eO.enc 6 aa A:=hA1.gE λq x hq ho=>by obtain⟨k1,k2⟩:=r4 q x hq (by rw[ho];simp);exact⟨k1,k2.trans ho⟩
   have hA5:=hA4.set l3 (by simp) ⟨false,c0+1+1,7,[(kJ x a3 .aU).aM]⟩;simp[f7,gG3,aW.p0,B6 eF];refine hK _ _ _ ⟨W,_,a3,E3,S3,hA5,?_,?_,?_,?_,?_,?_,?_,?_⟩<;>simp[aK,f0,f2,f4,f6,f7,f8,f9,f10]
 .have E:i=x.kids.aG.length-1:=by omega
  have hlt:¬(i:Int)<((x.kids.aG.length-1:Nat):Int):=by omega
  obtain⟨y,hy⟩:∃y,x.kids.aG[x.kids.aG.length-1]?=some y:=⟨_,bC (by omega)⟩
  have hyn:=hx.n y (bA hy);have Z:((x.kids.aG.length-1:Nat):Int)<(x.kids.aG.length:Int):=by omega
  have gA:=λK=>aL S.la K;have J:∀X Y (K:aH->Prop),aZ ((Hc++X).set (H.length+2) Y) H.length K=K ⟨false,c0,5,[x.enc]⟩:=λX Y K=>aL (eC (fF S.la X) (by omega) Y) K;have gG:=λM K=>bT S.lg M K;simp[e4,e7,e8,T,hlt,gA,dG.g0,aL hy,pL,gG,aW.p5,J];refine⟨by simp[aR],?_⟩;obtain⟨Gk,D⟩:=S.done (c:=c) hyn (by omega) hx.this;have E:∀k:AV,aW.aM {env:=(kJ x a .aU).env,top:=(kJ x a .aU).top,this:=(kJ x a .aU).this,self:=(kJ x a .aU).self,static:=(kJ x a .aU).static,fL:=k,wait:=(kJ x a .aU).wait}=(kJ x a k).aM:=λk=>rfl;rw[E];generalize (Hc++[(⟨false,c,17,[aY.enc ⟨1,y,0,sV 0 0 [],0,sV 0 0 []⟩]⟩:aH)]).set (H.length+2) _ = H2 at D ⊢;generalize kJ x a (.ref Hc.length c 17 1)=fr at D;have T:=e0;clear S hA gA J gG E;refine hJ (yield_s y hyn.n) λb c2 _=>?_;have h1ab:m1.ab=0:=D.same.1.trans h0;have gm:=λK=>aL D.q.aT.hm K;have E:=λM K=>bT D.q.aT.hm M K;have E:=λK=>aL D.lb K;have gF:=λK=>aL D.lg K;have E:=λM K=>bT D.lg M K;obtain⟨Lg,hLg,hLg2⟩:=D.q.aT.cJ;have hgl:=hLg.ln;have hgw:=λK=>hLg.BE K;simp at hgl hgw;have E:=D.q.aT.b.g;cases b
  .simp[e0,e7];have E:m1.bH<n:=by have:=D.same.2.1;omega
   have J:ew fr [⟨1,y,0,sV 0 0 [],0,sV 0 0 []⟩]<=701:=by have:=D.fe;simp[ew,cw,bE,aY.w];omega
   obtain⟨J,d1,d2,Z,T,J⟩:=D.own h;refine ON hR d1 d2 h1ab (by have:=D.q.mp;omega) E λdP v H3 W m3 f3 L3 c3 hv q3 _=>?_;obtain⟨G5,r1,r2,r3⟩:=ND h Z J q3;obtain⟨E,Z⟩:=q3.loc D.lb T;have T:=λM K=>bT E M K;have J:=bL E;have hmp3:=q3.mp;have hew3:0<=ew f3 L3:=by unfold ew;omega
   have q5:PA us cs H G pm tm m 2000 H3 G5 m3:=⟨r1,r2,D.q.mono.trans q3.mono,by have:=D.q.mp;omega⟩
   have q6:=q5.app [⟨false,c3,5,[v.enc]⟩];have ob5:=r3 (H.length+1) (by omega) Z;have gS:∀(X:aH) (M:aC) (K:aH->Prop),aZ (H3.set (H.length+1) X++M) (H.length+1) K=K X:=λX M K=>bT (eP J) M K;by_cases h3:dP=3
   .simp[e6,T,h3,bW,J,gS];refine dD ⟨v,G5,m3,rfl,hv,?_⟩;have:=q6.eZ (p:=H.length+1) (by omega) ob5 ⟨false,c0+1,5,[v.enc]⟩;simpa[J] using this
   .simp[e6,T,h3,bW,J,gS];refine dD ⟨sV 0 0 [],G5,m3,by rw[z5],.nil,?_⟩;have:=q6.eZ (p:=H.length+1) (by omega) ob5 ⟨false,c0+1,5,[(sV 0 0 []).enc]⟩;simpa[z5,J] using this
  .by_cases h20:20<=Lg.length
   .have h20':(20:Int)<=(Lg.length:Int):=by omega
    simp[e0,gm,aI.bD,aI.g6,hgw,h20'];refine pE D.q.aT hP h1ab λH3 W m3 c3 q3=>?_;obtain⟨E,Z⟩:=q3.loc D.lb D.ob;have T:=λK=>aL E K;have J:=bL E;simp[e6,T,J];have J:=((D.q.trans q3).le (b':=2000) (by omega)).eZ (p:=H.length+1) (by omega) Z ⟨false,c0+1,5,[(sV 0 0 []).enc]⟩;exact dD ⟨sV 0 0 [],W,m3,rfl,.nil,J⟩
   .have h20':¬(20:Int)<=(Lg.length:Int):=by omega
    have J:=aW.cells (f:=fr) (by obtain⟨E1,J,_⟩:=D.f.env;exact J.cell) D.f.fL.cell;simp[e0,e7,gm,aI.bD,aI.g6,hgw,h20',gF,aW.all,putG];have hgp:GP H2 Gk m1 m1.cJ.ln ⟨fr,0,sV 0 0 []⟩:=⟨by simp,.nil,λ_=>by rw[D.same.2.2];exact⟨_,D.f,by have:=D.fe;have:=D.q.aT.b.bH;simp[ew,cw,bE,aY.w];omega⟩,by obtain⟨E1,J,_⟩:=D.f.env;exact⟨J.cell,D.f.fL.cell⟩⟩
    refine xS (hLg.kp (cB.app (S:=λ_=>False) _) (λh=>h)) (vB D.q.aT.out _) (aM:=cQ.enc ⟨fr,0,sV 0 0 []⟩) (by simp) (by simp;omega) (by simp;unfold mx;omega) λp3 H3 W hs3 hc3 wR=>?_;have J:cB (λo=>o=.cJ) H2 Gk H3 W:=Kp.trans (cB.app (S:=λo=>o=.cJ) _) hc3;simp only[nR] at hs3 ⊢;obtain⟨r1,r2,r3⟩:=D.q.aT.addgen hLg2 hgl.symm hgp hs3 J wR (by omega);obtain⟨lm3,om3⟩:=J _ _ D.q.aT.hm (by rw[D.q.aT.gm];simp);obtain⟨E,Z⟩:=J _ _ D.lb (by rw[D.ob];simp);have J:=Z.trans D.ob;have gm3:=λK=>aL lm3 K;have Z:=bL lm3;have hbl3:=bL E;have hne:pm≠H.length+1:=by have:=bL h.hm;omega
    have T:=λX K=>aL (eC E hne X) K;have E:IntKind.i64.wrap (Lg.length:Int)=Lg.length:=wrap64 (by omega) (by omega);simp[e0,e6,gm3,aI.bD,aI.p6,aI.g6,Z,E,T,hbl3,TZ];refine⟨by simp[aR],?_⟩;have q5:PA us cs H G pm tm m 2000 (H3.set pm (aI.ob {m1 with cJ:=.ref p3 (c2+1) 13 (Lg.length+1)} tm)) W {m1 with cJ:=.ref p3 (c2+1) 13 (Lg.length+1)}:=⟨r1,D.q.fV.trans r2,D.q.mono.trans r3,by have:=D.q.mp;simp only[aI.mp] at this ⊢;omega⟩
    have q6:=q5.eZ (p:=H.length+1) (by omega) J ⟨false,c0+1,5,[(sV 8 Lg.length []).enc]⟩;exact dD ⟨sV 8 Lg.length [],W,_,rfl,VM.AM (.inr (.inr ⟨rfl,by omega,by simp;omega⟩)) (by omega),q6⟩
def BU {n} {x:dG} {A} {T} {c} {E} {K:aD} (hR:iR us cs n) (hP:fC us cs) (h:Lay us cs H G pm tm m) (h0:m.ab=0) (W:jX m E x) (hC:qT H G x) (hA:nM H G eO.enc 6 T A) (E:∀y,y∈A->qU m y) (Z:m.mp+4000<=1650000000000) (hn:m.bH<n)
  (k:∀v H' G' m' J,aI.V m' v->PA us cs H G pm tm m 2000 H' G' m'->K (.agg (aO.enc v)) H' J):bO aE 96 [.ptr pm tm 19 0 0,.agg x.enc,T] H c K:=
 gL (enter_con hR hP h h0 W hC hA E Z hn) λr H' J ⟨v,G',m',W,T,E⟩=>by subst W;exact k v H' G' m' J T E
structure Rm (m:aI) (f:aW) (L:List aY):Prop where
 e:ew f L+4000*m.bH+3000<=81000000
 m:m.mp+81900000<=1650000000000
def Rm.of (r:Rm m f L) (q:PE us cs H G pm tm pf tf m f L 0 0 H' G' m' f'):Rm m' f' L:=by have E:=q.fp;have E:=q.mp;have E:=q.em;have E:=r.e;have J:=r.m;unfold ew at E;exact⟨by unfold ew;omega,by omega⟩
def GX (q:PA us cs H G pm tm m b H' G m.tick) (E:cY H G pf tf m f L) (J:b = -82000000):PE us cs H G pm tm pf tf m f L (-4000) (-82000000) H' G m.tick f:=by have h:=q.pe E;exact⟨h.aT,h.bI,h.fV,h.mono,h.em,h.top,by rw[yG];omega,by have:=h.mp;omega⟩
def ArgsQ (us:SL bU) (cs:SL bG) (H:aC) (G:Nat->a6) (pm tm pf tf:Nat) (m:aI) (f:aW) (L:aF aY) (r:AV) (H':aC) (_:Nat):Prop:=
 ∃(A:aF eO) (G':Nat->a6) (m':aI) (f':aW) (t:Nat),r=.ref H.length t 6 A.length/\(∀v,v∈A->qU m' v)/\H'[H.length]?=some ⟨false,t,6,A.map eO.enc⟩/\G' H.length=.bP/\PE us cs H G pm tm pf tf m f L 0 0 H' G' m' f'
def putA1 (n:Int):aR [.I 0,.I 0,.I 0,.str [],.I 0,.aU] 0 [.I n]=(eO.mk n (sV 0 0 [])).enc:=by simp[aR,eO.enc,iB]
def yP (n:Int) (v:aO):aR (aR [.I 0,.I 0,.I 0,.str [],.I 0,.aU] 0 [.I n]) 1 v.enc=(eO.mk n v).enc:=by simp[aR,eO.enc,aO.dW]
def args_con {n} {ks l:SL aQ} {c0} (hE:iS us cs n) (h:Lay us cs H G pm tm m) (J:cY H G pf tf m f L) (E:l.aG.length<=1000) (E:ks.aG.length<=1000) (hx:∀x,x∈l.aG->NE x/\fE x.aJ) (hr:Rm m f L) (E:m.bH<n):
  cA aE 292 [.ptr pm tm 19 0 0,.ptr pf tf 7 0 0,ks.av 4 aQ.enc,l.av 4 aQ.enc] H c0 (ArgsQ us cs H G pm tm pf tf m f L):=by
 refine cO F292 ?_;simp[F292];refine tP l.aG.length (λi e Hc c=>∃(A:aF eO) (G':Nat->a6) (m':aI) (f':aW) (t:Nat),A.length=i/\(∀v,v∈A->qU m' v)/\Hc[H.length]?=some ⟨false,t,6,A.map eO.enc⟩/\G' H.length=.bP/\PE us cs H G pm tm pf tf m f L 0 0 Hc G' m' f'/\
  e 0=.ptr pm tm 19 0 0/\e 1=.ptr pf tf 7 0 0/\e 2=ks.av 4 aQ.enc/\e 3=l.av 4 aQ.enc/\e 9=.ref H.length t 6 i/\e 10=.I i)
  ⟨[],G,m,f,c0,rfl,by simp,by simp,h.out _ (bB _),(PE.refl h J).app _,rfl,rfl,rfl,rfl,rfl,rfl⟩ ?_
 intro i e Hc c E ⟨A,G1,m1,f1,t,hA,hAv,lp,op,q,Z,e1,W,T,e9,E⟩ N hN;have gm:=λK=>aL q.aT.hm K;have J:cE (ArgsQ us cs H G pm tm pf tf m f L) (.ref H.length t 6 i) Hc c:=dD ⟨A,G1,m1,f1,t,by rw[hA],hAv,lp,op,q⟩;by_cases hil:i<l.aG.length;rotate_left
 .have hlt:¬(i:Int)<(l.aG.length:Int):=by omega
  simp[T,e9,E,hlt];exact J
 have hlt:(i:Int)<(l.aG.length:Int):=by omega
 by_cases hab:m1.ab=0;rotate_left
 .simp[Z,T,e9,E,hlt,gm,aI.bD,aI.g12,hab];exact J
 obtain⟨y,hy⟩:∃y,l.aG[i]?=some y:=⟨_,bC hil⟩
 obtain⟨hy1,hy2⟩:=hx y (bA hy);have hst:=cD (i:=i) (n:=l.aG.length) (by unfold mx;omega) hil;have hfu:m1.bH<n:=by have:=q.mono.f;omega
 have hr1:=hr.of q;refine gK (λJ H' c'=>J 0=.ptr pm tm 19 0 0/\J 1=.ptr pf tf 7 0 0/\J 2=ks.av 4 aQ.enc/\J 3=l.av 4 aQ.enc/\J 9=.ref H.length t 6 i/\J 10=.I i/\Hc=H'/\c=c') ?_ ?_;rotate_left
 .intro K hK;simp[Z,T,e9,E,hlt,gm,aI.bD,aI.g12,hab];refine hK _ _ _ ⟨?_,?_,?_,?_,?_,?_,rfl,rfl⟩<;>simp[aK,Z,e1,W,T,e9,E]
 clear Z e1 W T e9 E;intro e H' c' ⟨Z,e1,W,T,e9,E,hH',hc'⟩;subst hH';subst hc';refine gK (λJ H' c'=>∃(A:aF eO) (G':Nat->a6) (m':aI) (f':aW) (t:Nat),A.length=i+1/\(∀v,v∈A->qU m' v)/\H'[H.length]?=some ⟨false,t,6,A.map eO.enc⟩/\G' H.length=.bP/\PE us cs H G pm tm pf tf m f L 0 0 H' G' m' f'/\
  J 0=.ptr pm tm 19 0 0/\J 1=.ptr pf tf 7 0 0/\J 2=ks.av 4 aQ.enc/\J 3=l.av 4 aQ.enc/\J 9=.ref H.length t 6 (i+1)/\J 10=.I i) ?_ ?_
 .intro J H' c' ⟨A2,G2,m2,f2,t2,h1,h2,h3,h4,h5,f0,f1',f2',f3,f9,f10⟩;simp[f10,hst];refine hN _ _ _ hil ⟨A2,G2,m2,f2,t2,h1,h2,h3,h4,h5,?_,?_,?_,?_,?_,?_⟩<;>simp[aK,f0,f1',f2',f3,f9]
 intro K hK;refine E6 ?_;have step:∀(v:eO) H2 G2 m2 f2 c2,qU m2 v->eV m1 m2->H2[H.length]?=some ⟨false,t,6,A.map eO.enc⟩->G2 H.length=.bP->PE us cs H G pm tm pf tf m f L 1 2 H2 G2 m2 f2->PE us cs H G pm tm pf tf m f L 1 2 ((H2++[(⟨false,c2,6,[v.enc]⟩:aH)]).set H.length ⟨false,c2+1,6,A.map eO.enc++[v.enc]⟩) G2 m2 f2/\
   ((H2++[(⟨false,c2,6,[v.enc]⟩:aH)]).set H.length ⟨false,c2+1,6,A.map eO.enc++[v.enc]⟩)[H.length]?=some ⟨false,c2+1,6,(A++[v]).map eO.enc⟩/\(∀w,w∈A++[v]->qU m2 w):=λv H2 G2 m2 f2 c2 hv hm hl2 ho2 q2=>by
  have hp2:H.length<(H2++[(⟨false,c2,6,[v.enc]⟩:aH)]).length:=by have:=bL hl2;simp;omega
  refine⟨(q2.app _).eZ (bB _) ho2 _,by rw[eP hp2];simp,λw hw=>?_⟩;rcases dI.1 hw with h1|h1
  .exact(hAv w h1).mono hm
  .simp at h1;subst h1;exact hv
 refine gK (λJ H' c'=>∃b:Bool,J 61=.bool b/\J 0=.ptr pm tm 19 0 0/\J 1=.ptr pf tf 7 0 0/\J 2=ks.av 4 aQ.enc/\J 3=l.av 4 aQ.enc/\J 9=.ref H.length t 6 i/\J 10=.I i/\Hc=H'/\c=c') ?_ ?_;rotate_left
 .intro J hK2;by_cases k1:i<ks.aG.length;rotate_left
  .have J:¬(i:Int)<(ks.aG.length:Int):=by omega
   simp[W,E,J];refine hK2 _ _ _ ⟨_,rfl,?_,?_,?_,?_,?_,?_,rfl,rfl⟩<;>simp[aK,Z,e1,W,T,e9,E]
  have J:(i:Int)<(ks.aG.length:Int):=by omega
  obtain⟨z,hz⟩:∃z,ks.aG[i]?=some z:=⟨_,bC k1⟩
  by_cases k2:z.aJ=24;rotate_left
  .simp[W,E,J,aL hz,k2];refine hK2 _ _ _ ⟨_,rfl,?_,?_,?_,?_,?_,?_,rfl,rfl⟩<;>simp[aK,Z,e1,W,T,e9,E]
  by_cases k3:z.bN=1;rotate_left
  .simp[W,E,J,aL hz,k2,k3];refine hK2 _ _ _ ⟨_,rfl,?_,?_,?_,?_,?_,?_,rfl,rfl⟩<;>simp[aK,Z,e1,W,T,e9,E]
  by_cases k4:y.aJ=4;rotate_left
  .simp[W,T,E,J,aL hz,k2,k3,aL hy,k4];refine hK2 _ _ _ ⟨_,rfl,?_,?_,?_,?_,?_,?_,rfl,rfl⟩<;>simp[aK,Z,e1,W,T,e9,E]
  simp[W,T,E,J,aL hz,k2,k3,aL hy,k4];refine hK2 _ _ _ ⟨_,rfl,?_,?_,?_,?_,?_,?_,rfl,rfl⟩<;>simp[aK,Z,e1,W,T,e9,E]
 clear Z e1 W T e9 E;intro e H' c' ⟨bb,e61,Z,e1,W,T,e9,E,hH',hc'⟩;subst hH';subst hc';have J:(A.length+1)*72<=140737488355328:=by omega
 cases bb
 .simp[Z,e1,T,e9,E,e61,aL hy];refine oH hE q.aT q.bI hy1 hy2 hfu λv H2 G2 m2 f2 c2 hv q2 _=>?_;obtain⟨lp2,J⟩:=q2.loc lp op;have g2:=λM K=>bT lp2 M K;simp[g2,hA,bW,yP];have hvA:qU m2 ⟨-1,v⟩:=⟨by simp,by simp only;omega,hv⟩
  obtain⟨w1,w2,w3⟩:=step ⟨-1,v⟩ H2 G2 m2 f2 c2 hvA q2.mono lp2 J ((q.trans q2).le (by omega) (by omega));obtain⟨w1',_,_⟩:=step ⟨-1,v⟩ H2 G2 m2 f2 c2 hvA q2.mono lp2 J ((q.trans q2).le (by omega) (by omega));refine⟨by simp[aR],by omega,by unfold mx;omega,?_⟩;have q5:=((q.trans q2).le (a':=0) (b':=0) (by omega) (by omega)).app [(⟨false,c2,6,[(eO.mk (-1) v).enc]⟩:aH)];have q6:=q5.eZ (bB _) J ⟨false,c2+1,6,A.map eO.enc++[(eO.mk (-1) v).enc]⟩;refine hK _ _ _ ⟨A++[⟨-1,v⟩],G2,m2,f2,c2+1,by simp[hA],w3,by simpa using w2,J,by simpa using q6,?_,?_,?_,?_,?_,?_⟩<;>simp[aK,Z,e1,W,T,E]
 .simp[Z,e1,T,E,e61,aL hy];refine EZ q.aT q.bI (by have:=hr1.m;omega) (by have:=hr1.e;omega) λk H2 G2 a2 b2 f2 c2 hk q2=>?_;obtain⟨lp2,J⟩:=q2.loc lp op;have g2:=λM K=>bT lp2 M K;simp[Z,e9,g2,hA,bW,putA1];refine⟨by omega,by unfold mx;omega,?_⟩;have hvA:qU {m1 with cells:=a2,dR:=b2} ⟨k,sV 0 0 []⟩:=⟨by simp only;omega,by simp only;omega,.nil⟩
  obtain⟨w1,w2,w3⟩:=step ⟨k,sV 0 0 []⟩ H2 G2 _ f2 c2 hvA q2.mono lp2 J ((q.trans q2).le (by omega) (by omega));simp at w1 w2;refine GY w1.aT hab λH3 c3 q3=>?_;have q4:=GX q3 w1.bI rfl;obtain⟨lp4,op4⟩:=q4.loc w2 J;simp;refine hK _ _ _ ⟨A++[⟨k,sV 0 0 []⟩],G2,_,f2,c2+1,by simp[hA],λv hv=>(w3 v hv).mono q3.mono,by simpa using lp4,op4,(w1.trans q4).le (by omega) (by omega),?_,?_,?_,?_,?_,?_⟩<;>simp[aK,Z,e1,W,T,E]
def args_k {n} {T l:SL aQ} {c} {K:aD} (hE:iS us cs n) (h:Lay us cs H G pm tm m) (hf:cY H G pf tf m f L) (hl:l.aG.length<=1000) (E:T.aG.length<=1000) (W:∀x,x∈l.aG->NE x/\fE x.aJ) (Z:Rm m f L) (hn:m.bH<n)
  (k:∀(A:aF eO) (H':aC) (G':Nat->a6) (m':aI) (f':aW) (t:Nat) (J:Nat),(∀v,v∈A->qU m' v)->H'[H.length]?=some ⟨false,t,6,A.map eO.enc⟩->G' H.length=.bP->PE us cs H G pm tm pf tf m f L 0 0 H' G' m' f'->K (.ref H.length t 6 A.length) H' J):bO aE 292 [.ptr pm tm 19 0 0,.ptr pf tf 7 0 0,T.av 4 aQ.enc,l.av 4 aQ.enc] H c K:=
 gL (args_con hE h hf hl E W Z hn) λr H' J ⟨A,G',m',f',t,h1,Z,W,T,E⟩=>by subst h1;exact k A H' G' m' f' t J Z W T E
def lO (us:SL bU) (cs:SL bG) (H:aC) (G:Nat->a6) (pm tm pf tf:Nat) (m:aI) (f:aW) (L:aF aY) (a b:Int) (r:AV) (H':aC) (_:Nat):Prop:=
 ∃v G' m' f',r=.agg (aO.enc v)/\aI.V m' v/\PE us cs H G pm tm pf tf m f L a b H' G' m' f'
def do_con {n} {x:dG} {l:SL aQ} {c0} {E} (hE:iS us cs n) (hR:iR us cs n) (hP:fC us cs) (h:Lay us cs H G pm tm m) (hf:cY H G pf tf m f L) (hx:jX m E x) (hC:qT H G x) (hl:l.aG.length<=1000) (T:∀x,x∈l.aG->NE x/\fE x.aJ) (E:Rm m f L) (Z:m.bH<n):
  cA aE 268 [.ptr pm tm 19 0 0,.ptr pf tf 7 0 0,.agg x.enc,l.av 4 aQ.enc] H c0 (lO us cs H G pm tm pf tf m f L 0 2000):=by
 refine cO F268 ?_;unfold F268;have J:=hx.l;simp[dG.g0,bW];have W:=h.out H.length (bB _);have J:=h.out (H.length+1) (by omega);refine args_k hE (h.app _) (hf.app _) hl (by omega) T E Z λA T G1 m1 f1 t T hA lA T q=>?_;obtain⟨Z,o1⟩:=q.loc (q:=H.length) (by simp;rfl) W;obtain⟨W,o2⟩:=q.loc (q:=H.length+1) (by simp;rfl) J;have gm:=λK=>aL q.aT.hm K;have g1:=λK=>aL Z K;have g2:=λK=>aL W K;have hl2:=bL W;have J:=q.gU;have Z:=(⟨E.e,E.m⟩:Rm m f L).of J;by_cases E:m1.ab=0
 .simp[gm,aI.bD,aI.g12,E,g1];refine BU hR hP q.aT E (hx.mono q.mono) (hC.kp J.fV (by simp[j1])) (.inr ⟨_,_,rfl,by simpa using lA,by simpa using T⟩) hA (by have:=Z.m;omega) (by have:=q.mono.f;omega) λv T G3 m3 T hv Z=>?_;obtain⟨l3,o3⟩:=Z.loc W o2;have g3:=λK=>aL l3 K;have T:=bL l3;have W:=(J.trans (Z.pe q.bI)).le (a':=0) (b':=2000) (by omega) (by omega);simp[g3,T];exact dD ⟨v,G3,m3,f1,rfl,hv,W.eZ (by omega) o3 _⟩
 .simp[gm,aI.bD,aI.g12,E,g2,hl2,z5];exact dD ⟨sV 0 0 [],G1,m1,f1,rfl,.nil,(J.le (by omega) (by omega)).eZ (by omega) o2 _⟩
def EO {n} {x:dG} {l:SL aQ} {c} {E} {K:aD} (hE:iS us cs n) (hR:iR us cs n) (hP:fC us cs) (h:Lay us cs H G pm tm m) (hf:cY H G pf tf m f L) (T:jX m E x) (hC:qT H G x) (hl:l.aG.length<=1000) (J:∀x,x∈l.aG->NE x/\fE x.aJ) (W:Rm m f L) (Z:m.bH<n)
  (k:∀v H' G' m' f' E,aI.V m' v->PE us cs H G pm tm pf tf m f L 0 2000 H' G' m' f'->K (.agg (aO.enc v)) H' E):bO aE 268 [.ptr pm tm 19 0 0,.ptr pf tf 7 0 0,.agg x.enc,l.av 4 aQ.enc] H c K:=
 gL (do_con hE hR hP h hf T hC hl J W Z) λr H' E ⟨v,G',m',f',W,T,J⟩=>by subst W;exact k v H' G' m' f' E T J
end
end A
end Go.Proofs.YtbdgahjfipdeoaaGreatDoor
