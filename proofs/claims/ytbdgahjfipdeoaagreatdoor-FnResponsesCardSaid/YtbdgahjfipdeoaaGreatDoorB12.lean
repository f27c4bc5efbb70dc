import Derived.Test.YtbdgahjfipdeoaaGreatDoorB10
/- FnResponses: a part of its proof. No condition. -/
set_option linter.all false
set_option maxRecDepth 100000
namespace Go.Proofs.YtbdgahjfipdeoaaGreatDoor
namespace A
set_option maxRecDepth 100000
def XK (a b:Int):Av [] (.aX [.I a,.I b]):=.aX λj x E=>by
 have h:=bA E;simp at h;rcases h with rfl|rfl<;>exact .int
def tA (v:aO):bM aE 202 [.agg v.enc] Bo:=by
 intro c;refine cO KY ?_;simp[KY,W5]
 repeat' first|exact aS ⟨rfl,_,rfl⟩|with_reducible apply And.intro|(with_reducible intro h;try simp[h])
def DS (a b:Int):dA aE 123 [.I a,.I b] (.I (min a b)):=by
 refine fO F123 λc=>?_;unfold F123;by_cases h:b<a
 .simp[h];exact aS ⟨by rw[Int.min_def];split<;>simp<;>omega,rfl⟩
 .simp[h];exact aS ⟨by rw[Int.min_def];split<;>simp<;>omega,rfl⟩
def BA (a b:Int):dA aE 122 [.I a,.I b] (.I (max a b)):=by
 refine fO F122 λc=>?_;unfold F122;by_cases h:a<b
 .simp[h];exact aS ⟨by rw[Int.max_def];split<;>simp<;>omega,rfl⟩
 .simp[h];exact aS ⟨by rw[Int.max_def];split<;>simp<;>omega,rfl⟩
def tZ (s:aA):Nat->Nat->Int->Int×Nat
 |0,i,n=>(n,i)
 |f+1,i,n=>match s[i]? with
  |none=>(n,i)
  |some b=>if cT (b.toNat:Int) 48 57 then tZ s f (i+1) (min (10*n+((b.toNat:Int)-48)) 1000000001) else (n,i)
def gD (s:aA):Nat:=match s with|[]=>0|b::_=>if b.toNat=45 then 1 else 0
def sgnA_le (s:aA):gD s<=1/\gD s<=s.length:=by
 cases s with
 |nil=>simp[gD]
 |cons b l=>simp only[gD,lE];split<;>omega
def uY (s:aA):Int×Int:=
 if (tZ s s.length (gD s) 0).2=gD s then (0,0) else if gD s=1 then (-(tZ s s.length (gD s) 0).1,(tZ s s.length (gD s) 0).2) else ((tZ s s.length (gD s) 0).1,(tZ s s.length (gD s) 0).2)
def VY {s:aA} (hs:s.length<=1048576):dA aE 317 [.str s] (.aX [.I (uY s).1,.I (uY s).2]):=by
 refine fO F317 λc=>?_;unfold F317;have hA:=sgnA_le s;rw[dT,dT,dT,dT];refine gK (λe H c'=>e 4=.I (gD s)/\e 5=.I 0/\e 6=.I (gD s)/\e 0=.str s/\H=[]) ?_ ?_;rotate_left
 .intro K hK;cases s with
  |nil=>
   simp;exact hK _ _ _ ⟨rfl,rfl,rfl,rfl,rfl⟩
  |cons b l=>
   by_cases hb:b.toNat=45
   .have hb':(b.toNat:Int)=45:=by omega
    simp[hb];exact hK _ _ _ ⟨by simp[aK,gD,hb],rfl,by simp[aK,gD,hb],rfl,rfl⟩
   .have hb':¬(b.toNat:Int)=45:=by omega
    simp[hb'];exact hK _ _ _ ⟨by simp[aK,gD,hb],rfl,by simp[aK,gD,hb],rfl,rfl⟩
 .intro e H c' ⟨e4,e5,e6,e0,hH⟩;subst hH;generalize hq:tZ s s.length (gD s) 0=q;have hsv:uY s=if q.2=gD s then (0,0) else if gD s=1 then (-q.1,(q.2:Int)) else (q.1,(q.2:Int)):=by unfold uY;rw[hq]
  rw[hsv];simp;refine b6 s.length (λk e H c'=>∃i:Nat,∃n:Int,i<=s.length/\k<=i/\0<=n/\n<=1000000001/\tZ s (s.length-k) i n=q/\e 0=.str s/\e 4=.I (gD s)/\e 5=.I n/\e 6=.I i/\H=[]) ⟨gD s,0,hA.2,by omega,by omega,by omega,hq,e0,e4,e5,e6,rfl⟩ ?_;clear e0 e4 e5 e6 e;intro k e H c' hk ⟨i,n,hil,hki,hn1,hn2,hd,e0,e4,e5,e6,hH⟩ N hN;subst hH;have hw1:IntKind.i64.wrap (-n) = -n:=wrap64 (by omega) (by omega);have end_:∀{H:aC} {c':Nat},q=(n,i)->((i:Int)=gD s->cE (λr H' _=>r=.aX [.I (if q.2=gD s then ((0,0):Int×Int) else if gD s=1 then (-q.1,(q.2:Int)) else (q.1,(q.2:Int))).1,.I (if q.2=gD s then ((0,0):Int×Int) else if gD s=1 then (-q.1,(q.2:Int)) else (q.1,(q.2:Int))).2]/\H'=[]) (.aX [.I 0,.I 0]) H c')/\(¬(i:Int)=gD s->((gD s:Int)=1->cE (λr H' _=>r=.aX [.I (if q.2=gD s then ((0,0):Int×Int) else if gD s=1 then (-q.1,(q.2:Int)) else (q.1,(q.2:Int))).1,.I (if q.2=gD s then ((0,0):Int×Int) else if gD s=1 then (-q.1,(q.2:Int)) else (q.1,(q.2:Int))).2]/\H'=[]) (.aX [.I (-n),.I i]) H c')/\(¬(gD s:Int)=1->cE (λr H' _=>r=.aX [.I (if q.2=gD s then ((0,0):Int×Int) else if gD s=1 then (-q.1,(q.2:Int)) else (q.1,(q.2:Int))).1,.I (if q.2=gD s then ((0,0):Int×Int) else if gD s=1 then (-q.1,(q.2:Int)) else (q.1,(q.2:Int))).2]/\H'=[]) (.aX [.I n,.I i]) H c')):=λ{H c'} hqe=>by
   subst hqe;refine⟨λh=>?_,λh=>⟨λh2=>?_,λh2=>?_⟩⟩
   .have h3:i=gD s:=by omega
    exact aS ⟨by rw[if_pos h3],rfl⟩
   .have h3:¬i=gD s:=by omega
    have h4:gD s=1:=by omega
    exact aS ⟨by rw[if_neg h3,if_pos h4],rfl⟩
   .have h3:¬i=gD s:=by omega
    have h4:¬gD s=1:=by omega
    exact aS ⟨by rw[if_neg h3,if_neg h4],rfl⟩
  by_cases h:i<s.length;rotate_left
  .have hqe:q=(n,i):=by
    rw[<-hd];cases s.length-k with
    |zero=>rfl
    |succ f=>rw[tZ,CR (by omega)]
   have h':¬(i:Int)<(s.length:Int):=by omega
   simp[e0,e4,e5,e6,h',hw1];exact end_ hqe
  obtain⟨b,hb⟩:∃b,s[i]?=some b:=⟨_,bC h⟩
  have hk1:s.length-k=(s.length-(k+1))+1:=by omega
  rw[hk1,tZ,hb] at hd;simp only at hd;have hbb:b.toNat<256:=b.toNat_lt;have hw2:IntKind.i64.wrap (b.toNat:Int)=b.toNat:=wrap64 (by omega) (by omega);simp[e0,e6,h,aL hb,hw2];refine bZ (fA _ _ _) .bool λ_ _=>?_;cases hin:cT (b.toNat:Int) 48 57
  .rw[hin] at hd;simp[e4,e5,e6,hw1];exact end_ (by rw[<-hd];rfl)
  .rw[hin] at hd;have h10:=mN hin;have hw3:IntKind.u8.wrap ((b.toNat:Int)-48)=(b.toNat:Int)-48:=by simp only[RF];omega
   have hw4:IntKind.i64.wrap ((b.toNat:Int)-48)=(b.toNat:Int)-48:=wrap64 (by omega) (by omega);have hw5:IntKind.i64.wrap (10*n)=10*n:=wrap64 (by omega) (by omega);have hw6:IntKind.i64.wrap (10*n+((b.toNat:Int)-48))=10*n+((b.toNat:Int)-48):=wrap64 (by omega) (by omega);simp[e0,e4,e5,e6,aL hb,hw3,hw4,hw5,hw6];refine bZ (DS _ _) .int λ_ _=>?_;simp[e6];exact hN _ _ [] _ (by omega) (by simp) ⟨i+1,min (10*n+((b.toNat:Int)-48)) 1000000001,by omega,by omega,by omega,by omega,hd,e0,e4,rfl,by simp[aK];exact cD (by unfold mx;omega) h,rfl⟩
def IX (s:aA):Int:=max (-1000000000) (min 1000000000 (uY s).1)
def VW s:-1000000000<=IX s/\IX s<=1000000000:=by unfold IX;omega
def leadInt_fn {s:aA} (hs:s.length<=1048576):dA aE 311 [.str s] (.I (IX s)):=by refine fO F311 λc=>?_;simp[F311];refine cX (VY hs) (XK _ _) λ_ _=>?_;simp;refine bZ (DS _ _) .int λ_ _=>?_;simp;refine bZ (BA _ _) .int λ_ _=>?_;simp;exact aS ⟨rfl,rfl⟩
def WN (s:aA):Bool:=decide (0<(uY s).2)&&decide ((uY s).2=s.length)&&cT (uY s).1 (-1000000000) 1000000000&&(decide (s.length<=10)||decide (s.length=11)&&decide (s[0]?.map UInt8.toNat=some 45))
def isNum_fn {s:aA} (hs:s.length<=1048576):dA aE 310 [.str s] (.bool (WN s)):=by
 refine fO F310 λc=>?_;simp[F310];refine cX (VY hs) (XK _ _) λ_ _=>?_;unfold WN;generalize uY s=q;obtain⟨n,k⟩:=q;by_cases a1:0<k;rotate_left
 .simp[a1];exact aS ⟨rfl,rfl⟩
 by_cases a2:k=(s.length:Int)
 rotate_left
 .simp[a1,a2];exact aS ⟨rfl,rfl⟩
 have a4:0<s.length:=by omega
 have a5:(0:Int)<(s.length:Int):=by omega
 subst a2;simp[a4];refine bZ (fA _ _ _) .bool λ_ _=>?_;cases cT n (-1000000000) 1000000000
 .simp;exact aS ⟨rfl,rfl⟩
 by_cases a6:(s.length:Int)<=10
 .have a7:s.length<=10:=by omega
  simp[a6,a7];exact aS ⟨rfl,rfl⟩
 have a7:¬s.length<=10:=by omega
 by_cases a8:(s.length:Int)=11
 .have a9:s.length=11:=by omega
  simp[a9];refine JC a4 λb hb=>?_;have h0:s[0]=b:=by rw[bC a4] at hb;exact oN hb
  have hbb:((b.toNat:Int)=45)=(b.toNat=45):=by simp;omega
  exact aS ⟨by rw[h0];simp only[hbb],rfl⟩
 .have a9:¬s.length=11:=by omega
  simp[a6,a7,a8,a9];exact aS ⟨rfl,rfl⟩
def VX {s:aA} (hs:s.length<=1048576):bM aE 311 [.str s] (Nu (-1000000000) 1000000000):=λc=>(leadInt_fn hs c).mono λr E _ _ ⟨J,E⟩=>⟨E,_,J,(VW s).1,(VW s).2⟩
def isNum_s {s:aA} (hs:s.length<=1048576):bM aE 310 [.str s] Bo:=λc=>(isNum_fn hs c).mono λr E _ _ ⟨J,E⟩=>⟨E,_,J⟩
def GV {v:aO} (hs:v.dN.length<=1048576) (hn:-1000000001<=v.bN/\v.bN<=1000000001):bM aE 294 [.agg v.enc] (Nu (-1000000001) 1000000001):=by
 intro c;refine cO F294 ?_;unfold F294;simp +contextual
 repeat' first
  |exact aS ⟨rfl,_,rfl,by omega,by omega⟩
  |with_reducible apply And.intro
  |with_reducible intro h
  |(with_reducible refine nX (VX hs) λ_ _ _ _ _=>?_;simp)
  |(with_reducible refine hJ (tA v) λ_ _ _=>?_;simp)
set_option maxRecDepth 100000
def eL:∀v:aO,Av [] (.agg v.enc):=by
 refine aO.xD λv W=>.agg λj a J=>?_;have E:=bA J;rw[aO.dW] at E;simp at E;rcases E with rfl|rfl|rfl|rfl|rfl
 .exact .int
 .exact .int
 .exact .str
 .exact .int
 .cases hI:v.bF with
  |nil=>exact .aU
  |mk t l=>
   refine .dX (by simp) λr j x a E J=>?_;obtain⟨e,Z,rfl⟩:=fZ.1 (bA E);have E:=bA J;simp only[iW,bX.enc,dI,fK,nQ,or_false] at E;rcases E with(rfl|rfl|rfl)|E
   .exact .bool
   .exact .int
   .exact .str
   .obtain⟨T,J⟩:=lS.1 E;have:=W e (by rw[hI];exact Z);cases this with
    |agg h=>exact h T a J
    |any _ h=>exact .any _ h
def OL (k:bX):Av [] (.agg k.enc):=.agg λj a J=>by
 have E:=bA J;simp[bX.enc] at E;rcases E with rfl|rfl|rfl
 .exact .bool
 .exact .int
 .exact .str
def hY {a b} (T:Av [] a) (J:Av [] b):Av [] (.aX [a,b]):=.aX λj x E=>by
 have h:=bA E;simp at h;rcases h with rfl|rfl
 .exact T
 .exact J
def Va (Q:aO->Prop) (r:AV):Prop:=∃v,r=.agg v.enc/\Q v
def VaB (Q:aO->Prop) (r:AV):Prop:=∃v b,r=.aX [.agg v.enc,.bool b]/\Q v
def mG (Q:aO->Prop) (r:AV):Prop:=∃(v:aO) (n:Int),r=.aX [.agg v.enc,.I n]/\0<=n/\n<=10/\Q v
section
variable {P:Program} {H:aC} {c:Nat} {K:aD} {f:Nat} {la:aF AV} {Q:aO->Prop}
def nT (J:bM P f la (Va Q)) (k:∀v E,c<=E->Q v->K (.agg v.enc) H E):bO P f la H c K:=
 cV J λr E J ⟨v,T,W⟩=>by subst T;exact⟨eL v,k v E J W⟩
def MA (J:bM P f la (VaB Q)) (k:∀v b E,c<=E->Q v->K (.aX [.agg v.enc,.bool b]) H E):bO P f la H c K:=
 cV J λr E J ⟨v,b,T,W⟩=>by subst T;exact⟨hY (eL v) .bool,k v b E J W⟩
def qD (J:bM P f la (mG Q)) (k:∀v n E,c<=E->0<=n->n<=10->Q v->K (.aX [.agg v.enc,.I n]) H E):bO P f la H c K:=
 cV J λr E J ⟨v,n,T,h1,Z,W⟩=>by subst T;exact⟨hY (eL v) .int,k v n E J h1 Z W⟩
end
def AG {o c g:Nat}:VM o c g (sV 0 0 []):=VM.sc (by decide) (by decide) (by decide)
def nU s:dA aE 149 [.str s] (.agg (sV 3 0 s).enc):=by refine fO F149 λc=>?_;simp[F149,aR];exact aS ⟨by rw[iB],rfl⟩
def pT (n:Int):dA aE 150 [.I n] (.agg (sV 2 n []).enc):=by refine fO F150 λc=>?_;simp[F150,aR];exact aS ⟨by rw[iB],rfl⟩
def oL b:dA aE 231 [.bool b] (.agg (sV 1 (if b then 1 else 0) []).enc):=by refine fO F231 λc=>?_;unfold F231;cases b<;>simp[aR]<;>exact aS ⟨by simp[iB],rfl⟩
def CE:dA aE 169 [] (.agg (sV 4 0 []).enc):=by refine fO F169 λc=>?_;simp[F169,aR];exact aS ⟨by rw[iB],rfl⟩
def Ky (r:AV):Prop:=∃k:bX,r=.agg k.enc/\kV k
def KyB (r:AV):Prop:=∃(k:bX) (b:Bool),r=.aX [.agg k.enc,.bool b]/\kV k
def R7 {s:aA} (hs:s.length<=400):bM aE 171 [.str s] Ky:=by
 intro c;refine cO F171 ?_;simp[F171];refine cX (MU (by unfold mx;omega)) (hY .int .bool) λ_ _=>?_;cases h:pK s with
 |none=>
  simp[aR];exact aS ⟨rfl,⟨true,0,s⟩,rfl,by simp,by simp,hs⟩
 |some n=>
  have:=(S7 s n).1 h;simp[aR];exact aS ⟨rfl,⟨false,n,[]⟩,rfl,by simp only;omega,by simp only;omega,by simp⟩
def WB {v:aO} (hs:v.dN.length<=400) (hn:-1000000001<=v.bN/\v.bN<=1000000001):bM aE 274 [.agg v.enc] KyB:=by
 intro c;refine cO F274 ?_;unfold F274;simp +contextual [aR]
 repeat' first
  |exact aS ⟨rfl,⟨true,0,[]⟩,_,rfl,by decide,by decide,by decide⟩
  |exact aS ⟨rfl,⟨false,0,[]⟩,_,rfl,by decide,by decide,by decide⟩
  |exact aS ⟨rfl,⟨false,v.bN,[]⟩,_,rfl,hn.1,hn.2,kH _⟩
  |with_reducible apply And.intro
  |with_reducible intro h
  |(with_reducible refine cV (R7 hs) λr _ _ hq=>?_
    obtain⟨k,hr,hk⟩:=hq;subst hr;refine⟨OL k,?_⟩;simp[aR];exact aS ⟨rfl,k,_,rfl,hk⟩)
def XX {α:Type} [DecidableEq α] {s:α}:∀(l:aF α) (i:Nat),kK s l i = -1\/((i:Int)<=kK s l i/\kK s l i<i+l.length)
 |[],i=>.inl rfl
 |x::l,i=>by
  rw[kK];split
  .right;simp;omega
  .rcases XX l (i+1) with h|⟨E,E⟩
   .exact .inl h
   .right;simp;omega
def FdQ (v:aO) (k:bX) (r:AV):Prop:=∃i:Int,r=.I i/\((i = -1/\∀j:Nat,v.aJ=4->kK k (v.bF.aG.map Prod.fst) 0≠j)\/∃j:Nat,i=j/\j<v.bF.aG.length/\v.aJ=4/\kK k (v.bF.aG.map Prod.fst) 0=j)
def JI {v:aO} (J:v.bF.aG.length<=1048576) (k:bX):bM aE 148 [.agg v.enc,.agg k.enc] (FdQ v k):=by
 by_cases E:v.aJ=4
 .intro c;refine(VZ E J k c).mono λr J _ _ ⟨T,J⟩=>⟨J,_,T,?_⟩
  rcases XX (s:=k) (v.bF.aG.map Prod.fst) 0 with h|⟨T,J⟩
  .exact .inl ⟨h,λj _ T=>by omega⟩
  .right;simp at J;exact⟨(kK k (v.bF.aG.map Prod.fst) 0).toNat,by omega,by omega,E,by omega⟩
 .intro c;refine cO K6 ?_;simp[K6];refine b6 0 (λi e H J=>e 2=.ptr 0 c 5 0 0/\H=[⟨false,c,5,[v.enc]⟩,⟨false,c+1,3,[k.enc]⟩]) ⟨rfl,rfl⟩ ?_;intro i e H c J ⟨T,J⟩ N W;subst J;simp[T,E];exact aS ⟨rfl,_,rfl,.inl ⟨rfl,λ_ h=>absurd h E⟩⟩
def GtQ (o c g:Nat) (v:aO) (k:bX) (r:AV):Prop:=∃(x:aO) (b:Bool),r=.aX [.agg x.enc,.bool b]/\VM o c g x/\(b=true->v.aJ=4/\∃(j:Nat) (e:bX×aO),kK k (v.bF.aG.map Prod.fst) 0=j/\v.bF.aG[j]?=some e/\x=e.2)
def W7 {o c g:Nat} {v:aO} (h:VM o c g v) (k:bX):bM aE 275 [.agg v.enc,.agg k.enc] (GtQ o c g v k):=by
 intro c;refine cO F275 ?_;unfold F275;have E:=h.len;simp;refine cV (JI (by omega) k) λr _ _ ⟨i,E,J⟩=>?_;subst E;refine⟨.int,?_⟩;rcases J with⟨rfl,_⟩|⟨j,rfl,J,W,T⟩
 .simp[aR];exact aS ⟨rfl,sV 0 0 [],_,by rw[iB],AG,λh=>by cases h⟩
 .have E:¬((j:Int)<0):=by omega
  simp[E];refine JC J λx E=>?_;simp[aR];exact aS ⟨rfl,x.2,_,rfl,(h.get E).2,λ_=>⟨W,j,x,T,E,rfl⟩⟩
def OH {o c g:Nat} {v:aO} (h:VM o c g v) (k:bX):bM aE 275 [.agg v.enc,.agg k.enc] (VaB λx=>VM o c g x):=
 λE=>(W7 h k E).mono λr E _ _ ⟨T,x,b,J,E,_⟩=>⟨T,x,b,J,E⟩
set_option maxRecDepth 100000
def BP {Q:AV->Prop} {H} {c'} {k n x:Int} {s} {i t m} {L:aF (bX×aO)} (E:(⟨false,t,8,L.map iW⟩:aH)∈H) (J:m=L.length) (h:Q (.agg (aO.mk k n s x (.mk t L)).enc)):
  cE (λr T _=>T=[]/\Q r) (.agg [.I k,.I n,.str s,.I x,.ref i t 8 m]) H c':=by refine⟨H,[],[],.agg (aO.mk k n s x (.mk t L)).enc,eX _,.nil,λo h=>h,by simp[aV],?_,rfl,h⟩;rw[aO.oJ];refine RX (.cons (.refl _) (.cons (.refl _) (.cons (.refl _) (.cons (.refl _) (.cons (jK E J.symm λx _=>YE x) .nil))))) λa E=>?_;simp at E;rcases E with rfl|rfl|rfl|rfl|rfl<;>rfl
def szL_setN {α:Type} (f:α->Nat):∀(l:aF α) (i:Nat) (z:α),bE f (l.set i z)<=bE f l+f z:=by
 intro l
 induction l with
 |nil=>intro i z;simp[bE]
 |cons x l E=>
  intro i z;cases i with
  |zero=>simp[bE];omega
  |succ i=>
   have:=E i z;simp only[bE,List.set_cons_succ,gJ,nP] at this ⊢;omega
def szL_setX {α:Type} (f:α->Nat):∀{l:aF α} {i:Nat} {y:α} (h:l[i]?=some y) (z:α),bE f (l.set i z)+f y=bE f l+f z:=by
 intro l
 induction l with
 |nil=>intro i y h;simp at h
 |cons x l E=>
  intro i y h z;cases i with
  |zero=>simp at h;subst h;simp[bE];omega
  |succ i=>
   have:=E (by simpa using h) z;simp only[bE,List.set_cons_succ,gJ,nP] at this ⊢;omega
def uW {v:aO} (E:v.aJ=4):v.wt=1+bE eT v.bF.aG:=by rw[aO.uV,if_pos E]
def QI (o c g:Nat) (v x:aO) (k:bX) (r:AV):Prop:=∃E:aO,r=.agg E.enc/\E.aJ=4/\dU o c g E/\E.wt<=v.wt+x.wt/\∀(j:Nat) (e:bX×aO),kK k (v.bF.aG.map Prod.fst) 0=j->v.bF.aG[j]?=some e->E.wt+e.2.wt<=v.wt+x.wt
set_option maxHeartbeats 1000000 in
def DA {o c g:Nat} {v x:aO} {k:bX} (E:dU o c g v) (T:v.aJ=4) (J:v.wt<=100000) (hk:kV k) (hx:dU o c g x):bM aE 170 [.agg v.enc,.agg k.enc,.agg x.enc] (QI o c g v x k):=by
 intro J;refine cO F170 ?_;unfold F170;have J:=E.len;have W:v.bF.aG.length*96<=140737488355328:=by omega
 have J:v.bF.aG.length<=mx:=by unfold mx;omega
 have hm3:(v.bF.aG.length+1)*96<=140737488355328:=by omega
 have hm4:v.bF.aG.length+1<=mx:=by unfold mx;omega
 have Z:1<=mx:=by decide
 have Z:=hk.1;have Z:=hk.2.1;have Z:IntKind.i64.wrap (k.bN+1)=k.bN+1:=wrap64 (by omega) (by omega);have hf:=JI (v:=v) (by omega) k;rw[aO.dW v] at hf ⊢;simp[W,J,aR];refine cV hf λr _ _ ⟨i,J,W⟩=>?_;subst J;refine⟨.int,?_⟩;rcases W with⟨rfl,hnf⟩|⟨j,rfl,hj,_,J⟩
 .have W:∀(J:Int) (t:Nat),-1000000002<=J->J<=1000000002->QI o c g v x k (.agg (aO.mk v.aJ v.bN v.dN J (.mk t (v.bF.aG++[(k,x)]))).enc):=λJ t h1 J=>⟨_,rfl,T,.mk E.k E.n E.s ⟨h1,J⟩ E.o6 E.o7 E.o8 (λh=>absurd T h) (λe J=>by
    rcases dI.1 J with J|J
    .exact(E.i e J).1
    .rw[rY.1 J];exact hk) λe J=>by
    rcases dI.1 J with J|J
    .exact(E.i e J).2
    .rw[rY.1 J];exact hx,by
   rw[aO.nS,if_pos T,uW T];show 1+bE eT (v.bF.aG++[(k,x)])<=_;simp[bE,eT];omega,λj e hj _=>absurd hj (hnf j T)⟩
  have hnx:=E.x;simp[hm3,hm4,aR,Z];refine⟨λZ=>?_,λZ=>?_⟩
  .refine cX (BA _ _) .int λ_ _=>?_;simp[aR];exact BP (L:=v.bF.aG++[(k,x)]) (by simp[iW]) (by simp) (W _ _ (by omega) (by omega))
  .exact BP (L:=v.bF.aG++[(k,x)]) (by simp[iW]) (by simp) (W _ _ (by omega) (by omega))
 .have hjn:(0:Int)<=(j:Int):=by omega
  obtain⟨e,J⟩:∃e,v.bF.aG[j]?=some e:=⟨_,bC hj⟩
  have W:∀(t:Nat),QI o c g v x k (.agg (aO.mk v.aJ v.bN v.dN v.Next (.mk t (v.bF.aG.set j (e.1,x)))).enc):=λt=>⟨_,rfl,T,.mk E.k E.n E.s E.x E.o6 E.o7 E.o8 (λh=>absurd T h) (λu Z=>by
    rcases rZ Z with Z|rfl
    .exact(E.i u Z).1
    .exact(E.get J).1) λu Z=>by
    rcases rZ Z with Z|rfl
    .exact(E.i u Z).2
    .exact hx,by
   rw[aO.nS,if_pos T,uW T];have:=szL_setN eT v.bF.aG j (e.1,x);show 1+bE eT (v.bF.aG.set j (e.1,x))<=_;have E:eT (e.1,x)=x.wt:=rfl;omega,λj2 E E E=>by
   have Z:j2=j:=by omega
   subst Z;rw[J] at E;cases E;rw[aO.nS,if_pos T,uW T];have:=szL_setX eT J (e.1,x);show 1+bE eT (v.bF.aG.set j2 (e.1,x))+e.2.wt<=_;have E:eT (e.1,x)=x.wt:=rfl;have E:eT e=e.2.wt:=rfl;omega⟩
  simp[hjn,hj,aL J,aR];have E:List.drop 8 (e.1.enc++e.2.enc)=[]:=List.drop_of_length_le (by simp);exact BP (L:=v.bF.aG.set j (e.1,x)) (by simp[lT,iW,E]) (by simp) (W _)
def nK {P} {A} {Q} {e} {H} {c} {K:Env->aC->Nat->Prop} (R:Env->aC->Nat->Prop) (E:∀e H c,R e H c->K e H c)
  (J:∀K:Env->aC->Nat->Prop,(∀e H c,R e H c->K e H c)->cC P A (iO K Q) e H c):cC P A (iO K Q) e H c:=J _ E
def SetE (o c g m:Nat) (x:aO) (r:AV):Prop:=∃(E:aO) (n:Int),r=.aX [.agg E.enc,.I n]/\0<=n/\n<=10/\dU o c g E/\E.wt<=(m+1)*202+x.wt
set_option maxHeartbeats 4000000 in
def set12_s {o c g:Nat} {x:aO} (hx:dU o c g x):∀(m:Nat) {v:aO} {L:SL bX} {b:Bool},L.aG.length=m->m<=1048576->VM o c g v->(∀k,k∈L.aG->kV k)->bM aE 291 [.agg v.enc,L.av 3 bX.enc,.bool b,.agg x.enc] (SetE o c g m x):=by
 intro m
 induction m with
 |zero=>
  intro v L b hL hm hv hK c0;refine cO KT ?_;unfold KT;cases b with
  |false=>
   simp[hL,aR];exact aS ⟨rfl,x,0,rfl,by decide,by decide,hx,by omega⟩
  |true=>
  rw[dT,dT];refine gK (λe H c'=>∃v1:aO,H=[⟨false,c0,5,[v1.enc]⟩,⟨false,c0+1,5,[x.enc]⟩,⟨false,c0+1+1,5,[[.I 0,.I 0,.str [],.I 0,.aU]]⟩]/\e 4=.ptr 0 c0 5 0 0/\e 7=.ptr 1 (c0+1) 5 0 0/\e 8=.ptr 2 (c0+1+1) 5 0 0/\e 1=L.av 3 bX.enc/\e 2=.bool true/\VM o c g v1) ?_ ?_;rotate_left
  .intro K hK;simp[hL];refine⟨λh0=>?_,λh0=>?_⟩
   .refine cX CE (eL _) λ_ _=>?_;simp[aR];exact hK _ _ _ ⟨sV 4 0 [],by simp[iB],rfl,rfl,rfl,by simp[aK,gZ],by simp[aK,gZ],VM.sc (by decide) (by decide) (by decide)⟩
   .exact hK _ _ _ ⟨v,rfl,rfl,rfl,rfl,by simp[aK,gZ],by simp[aK,gZ],hv⟩
  .intro e H c' ⟨v1,hH,e4,e7,e8,e1,e2,hv1⟩;subst hH;have hw:=hv1.wt;by_cases h4:v1.aJ=4;rotate_left
   .simp[e4,e8,h4,aR];exact aS ⟨rfl,v1,6,rfl,by decide,by decide,hv1.ok,by omega⟩
   simp[e4,e1,h4,hL];refine bZ (fA _ _ _) .bool λ_ _=>?_;cases hin:cT v1.Next 0 1000000000
   .simp[e4,e8,aR];exact aS ⟨rfl,v1,7,rfl,by decide,by decide,hv1.ok,by omega⟩
   .have hnx:=mN hin;simp[e4,e7,aR];refine cV (DA (k:=⟨false,v1.Next,[]⟩) hv1.ok h4 (by omega) ⟨by simp only;omega,by simp only;omega,by simp⟩ hx) λr _ _ ⟨v',hr,h5,h6,h7,_⟩=>?_;subst hr;refine⟨eL v',?_⟩;simp[e8,aR];exact aS ⟨rfl,v',0,rfl,by decide,by decide,h6,by omega⟩
 |succ m ih=>
  intro v L b hL hm hv hK c0;refine cO KT ?_;unfold KT;have hne:¬L.aG=[]:=λh=>by rw[h] at hL;cases hL
  have hml:((m:Int)+1=0)=False:=by simp;omega
  rw[dT,dT];refine gK (λe H c'=>∃v1:aO,H=[⟨false,c0,5,[v1.enc]⟩,⟨false,c0+1,5,[x.enc]⟩,⟨false,c0+1+1,5,[[.I 0,.I 0,.str [],.I 0,.aU]]⟩]/\e 4=.ptr 0 c0 5 0 0/\e 7=.ptr 1 (c0+1) 5 0 0/\e 8=.ptr 2 (c0+1+1) 5 0 0/\e 1=L.av 3 bX.enc/\e 2=.bool b/\VM o c g v1/\v1.wt<=v.wt) ?_ ?_;rotate_left
  .intro K hK;simp[hL,hml];refine⟨λh0=>?_,λh0=>?_⟩
   .refine cX CE (eL _) λ_ _=>?_;simp[aR];exact hK _ _ _ ⟨sV 4 0 [],by simp[iB],rfl,rfl,rfl,by simp[aK,gZ],by simp[aK,gZ],VM.sc (by decide) (by decide) (by decide),by rw[sV,aO.nS];have:=aO.GK v;simp[bE];omega⟩
   .exact hK _ _ _ ⟨v,rfl,rfl,rfl,rfl,by simp[aK,gZ],by simp[aK,gZ],hv,bB _⟩
  .intro e H c' ⟨v1,hH,e4,e7,e8,e1,e2,hv1,hw1⟩;subst hH;by_cases h4:v1.aJ=4;rotate_left
   .simp[e4,e8,h4,aR];exact aS ⟨rfl,v1,6,rfl,by decide,by decide,hv1.ok,by have:=hv1.wt;omega⟩
   obtain⟨k,hk⟩:∃k,L.aG[0]?=some k:=⟨_,bC (by omega)⟩
   simp[e4,e1,h4,hL,hml,aL hk,-jN];refine nK (λe H c'=>∃(old:aO) (t9:Nat) (bb:Bool),H=[⟨false,c0,5,[v1.enc]⟩,⟨false,c0+1,5,[x.enc]⟩,⟨false,c0+1+1,5,[[.I 0,.I 0,.str [],.I 0,.aU]]⟩,⟨false,t9,5,[old.enc]⟩]/\e 4=.ptr 0 c0 5 0 0/\e 7=.ptr 1 (c0+1) 5 0 0/\e 8=.ptr 2 (c0+1+1) 5 0 0/\e 1=L.av 3 bX.enc/\e 2=.bool b/\e 10=.ptr 3 t9 5 0 0/\e 51=.bool bb/\VM o c g old) ?_ ?_;rotate_left
   .intro K5 hK5;simp[e4]
    repeat' first
     |with_reducible apply And.intro
     |(with_reducible refine MA (OH hv1 k) λold bb _ _ hold=>?_
       simp[aR];exact hK5 _ _ _ ⟨old,_,bb,rfl,e4,e7,e8,e1,e2,rfl,rfl,hold⟩)
   intro e H c9 ⟨old,t9,bb,hH,f4,f7,f8,f1,f2,f10,f51,hold⟩;subst hH;simp[f1,f2,f51,-jN];obtain⟨tL,k',l',rfl⟩:∃tL k' l',L=.mk tL (k'::l'):=by
    cases L with
    |nil=>cases hL
    |mk tL l=>
     cases l with
     |nil=>cases hL
     |cons k' l'=>exact⟨tL,k',l',rfl⟩
   have hk':k'=k:=by simpa using hk
   subst hk';have hLm:l'.length=m:=by simpa using hL
   have hih:=ih (v:=old) (L:=.mk tL l') (b:=b) hLm (by omega) hold λk hk=>hK k (iI _ hk);have htk:List.take m (List.map bX.enc l')=l'.map bX.enc:=fJ (by simp[hLm]);have hih':bM aE 291 [.agg old.enc,.dX tL 3 (l'.map bX.enc),.bool b,.agg x.enc] (SetE o c g m x):=hih;refine nK (λe H c'=>∃(y:aO) (n:Int) (t8:Nat),H=[⟨false,c0,5,[v1.enc]⟩,⟨false,c0+1,5,[x.enc]⟩,⟨false,c0+1+1,5,[[.I 0,.I 0,.str [],.I 0,.aU]]⟩,⟨false,t9,5,[old.enc]⟩,⟨false,t8,5,[y.enc]⟩]/\e 4=.ptr 0 c0 5 0 0/\e 8=.ptr 2 (c0+1+1) 5 0 0/\e 1=(SL.mk tL (k'::l')).av 3 bX.enc/\e 12=.ptr 4 t8 5 0 0/\e 60=.I n/\0<=n/\n<=10/\dU o c g y/\y.wt<=(m+1)*202+x.wt) ?_ ?_;rotate_left
   .intro K5 hK5;simp[f7,f10,hLm,SL.av,htk]
    repeat' first
     |with_reducible apply And.intro
     |(with_reducible refine cV hih' λr _ _ hq=>?_
       obtain⟨y,n,hr,hn1,hn2,hy,hyw⟩:=hq;subst hr;refine⟨hY (eL y) .int,?_⟩;simp[aR];exact hK5 _ _ _ ⟨y,n,_,rfl,by simp[aK,f4],by simp[aK,f8],by simp[aK,f1,SL.av],rfl,rfl,hn1,hn2,hy,hyw⟩)
   intro e H c10 ⟨y,n,t8,hH,i4,i8,i1,i12,i60,hn1,hn2,hy,hyw⟩;subst hH;by_cases hn0:n=0
   .simp[i4,i1,i12,i60,hn0,SL.av];refine cV (DA hv1.ok h4 (by have:=hv1.wt;omega) (hK k' (kB ..)) hy) λr _ _ ⟨v',hr,h5,h6,h7,_⟩=>?_;subst hr;refine⟨eL v',?_⟩;simp[i8,aR];have:=hv1.wt;exact aS ⟨rfl,v',0,rfl,by decide,by decide,h6,by omega⟩
   .simp[i4,i8,i60,hn0,aR];exact aS ⟨rfl,v1,n,rfl,hn1,hn2,hv1.ok,by have:=hv1.wt;omega⟩
set_option maxRecDepth 100000
def trn_of {P} {f} {E} {Q:Nat->AV->Prop} {J:AV->Prop} (h:Tr P f E Q) (k:∀c r,Q c r->J r):bM P f E J:=λc=>(h c).mono λr E E _ ⟨J,E,_⟩=>⟨J,k _ r E⟩
def WgQ (v:aO) (r:AV):Prop:=∃n:Nat,r=.I n/\(v.wt<=200↔n<=200)/\n<=v.wt
def GM {v:aO} (h:v.sz<=1099511627776):bM aE 114 [.agg v.enc,.I 200] (WgQ v):=
 trn_of (SU v h 200 (by omega)) λc r ⟨n,E,W,T,J⟩=>⟨n,E,⟨λE=>by have:=T E;omega,λE=>yB λE=>by have:=J (by omega);omega⟩,W⟩
def put12_s {o c g:Nat} {v x:aO} {L:SL bX} {b:Bool} (Z:VM o c g v) (J:VM o c g x) (E:L.aG.length<=100000) (E:∀k,k∈L.aG->kV k):bM aE 266 [.agg v.enc,L.av 3 bX.enc,.bool b,.agg x.enc] (mG (VM o c g)):=by
 intro T;refine cO F266 ?_;simp[F266];refine cV (set12_s J.ok _ rfl (by omega) Z E) λr _ _ ⟨y,n,E,hn1,hn2,hy,T⟩=>?_;subst E;refine⟨hY (eL y) .int,?_⟩;have T:=J.wt;by_cases J:n=0
 .simp[J,aR];have T:=dU.sz y hy;refine cV (GM (v:=y) (by omega)) λr _ _ ⟨w,E,hw,_⟩=>?_;subst E;refine⟨.int,?_⟩;by_cases W:w<=200
  .have E:¬(200:Int)<(w:Int):=by omega
   have T:¬200<w:=by omega
   simp[E,aR];exact aS ⟨rfl,y,0,rfl,by decide,by decide,hy,hw.2 W⟩
  .have E:(200:Int)<(w:Int):=by omega
   have T:200<w:=by omega
   simp[E,aR];exact aS ⟨rfl,v,9,rfl,by decide,by decide,Z⟩
 .simp[J,aR];exact aS ⟨rfl,v,n,rfl,hn1,hn2,Z⟩
def MJ {α:Type} (f:α->Nat) {l m:aF α} (h:l.Sublist m):bE f l<=bE f m:=by
 induction h with
 |slnil=>exact bB _
 |cons a h E=>simp only[bE,gJ,nP] at E ⊢;omega
 |cons_cons a h E=>simp only[bE,gJ,nP] at E ⊢;omega
def VM.sub {o c g:Nat} {v:aO} (E:VM o c g v) (T:v.aJ=4) {t:Nat} {L:aF (bX×aO)} (hs:L.Sublist v.bF.aG):VM o c g (.mk v.aJ v.bN v.dN v.Next (.mk t L)):=
 ⟨.mk E.ok.k E.ok.n E.ok.s E.ok.x E.ok.o6 E.ok.o7 E.ok.o8 (λh=>absurd T h) (λe J=>(E.ok.i e (hs.subset J)).1) λe J=>(E.ok.i e (hs.subset J)).2,by
  have J:=E.wt;rw[uW T] at J;rw[aO.nS,if_pos T];have:=MJ eT hs;show 1+bE eT L<=200;omega⟩
def wt_sub {v:aO} (E:v.aJ=4) {t:Nat} {L:aF (bX×aO)} (hs:L.Sublist v.bF.aG):(aO.mk v.aJ v.bN v.dN v.Next (.mk t L)).wt<=v.wt:=by rw[uW E,aO.nS,if_pos E];have:=MJ eT hs;show 1+bE eT L<=_;omega
def QP (o c g:Nat) (v:aO) (x:aO):Prop:=VM o c g x/\x.wt<=v.wt
set_option maxHeartbeats 1000000 in
def drop6_s {o c g:Nat} {v:aO} {k:bX} (W:VM o c g v):bM aE 290 [.agg v.enc,.agg k.enc] (Va (QP o c g v)):=by
 intro E;refine cO F290 ?_;unfold F290;have Z:=W.len;simp;refine cV (JI (v:=v) (by omega) k) λr _ _ ⟨i,E,J⟩=>?_;subst E;refine⟨.int,?_⟩;rcases J with⟨rfl,_⟩|⟨j,rfl,J,h4,_⟩
 .simp[aR];exact aS ⟨rfl,v,rfl,W,bB _⟩
 .have E:¬((j:Int)<0):=by omega
  have hw:IntKind.i64.wrap ((j:Int)+1)=((j+1:Nat):Int):=by rw[wrap64 (by omega) (by omega)];omega
  obtain⟨t,l,T⟩:∃t l,v.bF=.mk t l:=by
   cases T:v.bF with
   |nil=>rw[T] at J;simp at J
   |mk t l=>exact⟨t,l,rfl⟩
  rw[T] at J Z;simp only[SL.list_mk] at J Z;rw[aO.dW v,T];simp[E,hw,SL.av,aR,-Int.natCast_add];have Z:List.take l.length (l.map iW)=l.map iW:=fJ (by simp);have E:min j l.length=j:=by omega
  have E:(l.take j++l.drop (j+1)).Sublist v.bF.aG:=by
   rw[T];show(l.take j++l.drop (j+1)).Sublist l;refine List.Sublist.trans (List.Sublist.append_left (?_:(l.drop (j+1)).Sublist (l.drop j)) (l.take j)) (by rw[wA];exact bY _);rw[uS J];exact List.sublist_cons_self _ _
  refine⟨by omega,by omega,by omega,by unfold mx;omega,by omega,by unfold mx;omega,?_⟩;exact BP (L:=l.take j++l.drop (j+1)) (by simp[zV,Q5,Z]) (by simp) ⟨_,rfl,W.sub h4 E,wt_sub h4 E⟩
set_option maxHeartbeats 4000000 in
def drop12_s {o c g:Nat}:∀(m:Nat) {v:aO} {L:SL bX},L.aG.length=m->m<=1048576->VM o c g v->(∀k,k∈L.aG->kV k)->bM aE 264 [.agg v.enc,L.av 3 bX.enc] (Va (QP o c g v)):=by
 intro m
 induction m with
 |zero=>
  intro v L hL hm hv hK c0;refine cO KU ?_;unfold KU;simp[hL,aR];exact aS ⟨rfl,v,rfl,hv,bB _⟩
 |succ m ih=>
  intro v L hL hm hv hK c0;refine cO KU ?_;unfold KU;have hml:((m:Int)+1=0)=False:=by simp;omega
  obtain⟨tL,k,l',rfl⟩:∃tL k l',L=.mk tL (k::l'):=by
   cases L with
   |nil=>cases hL
   |mk tL l=>
    cases l with
    |nil=>cases hL
    |cons k l'=>exact⟨tL,k,l',rfl⟩
  have hLm:l'.length=m:=by simpa using hL
  have hl1:((l'.length:Int)+1=0)=False:=by simp;omega
  by_cases h4:v.aJ=4;rotate_left
  .simp[hl1,h4,aR];exact aS ⟨rfl,v,rfl,hv,bB _⟩
  by_cases hl0:l'=[]
  .subst hl0;simp[h4,aR];refine nT (drop6_s (k:=k) hv) λx c' _ hx=>?_;simp[aR];exact aS ⟨rfl,x,rfl,hx⟩
  have hl2:¬l'.length=0:=λh=>hl0 (CQ.1 h);have hl3:((l'.length:Int)+1=1)=False:=by simp;omega
  have hl4:¬((l'.length:Int)=0):=by omega
  have hk:(k::l')[0]?=some k:=rfl;simp[hl1,hl3,h4,aR,-jN];refine nK (λe H c'=>∃(old:aO) (t9:Nat) (bb:Bool),H=[⟨false,c0,5,[v.enc]⟩,⟨false,c0+1,5,[[.I 0,.I 0,.str [],.I 0,.aU]]⟩,⟨false,t9,5,[old.enc]⟩]/\e 2=.ptr 0 c0 5 0 0/\e 4=.ptr 1 (c0+1) 5 0 0/\e 1=(SL.mk tL (k::l')).av 3 bX.enc/\e 5=.ptr 2 t9 5 0 0/\e 31=.bool bb/\VM o c g old/\(bb=true->v.aJ=4/\∃(j:Nat) (u:bX×aO),kK k (v.bF.aG.map Prod.fst) 0=j/\v.bF.aG[j]?=some u/\old=u.2)) ?_ ?_;rotate_left
  .intro K5 hK5;simp
   repeat' first
    |with_reducible apply And.intro
    |(with_reducible refine cV (W7 hv k) λr _ _ hq=>?_
      obtain⟨old,bb,hr,hold,hbb⟩:=hq;subst hr;refine⟨hY (eL old) .bool,?_⟩;simp[aR];exact hK5 _ _ _ ⟨old,_,bb,rfl,rfl,rfl,by simp[aK,gZ],rfl,rfl,hold,hbb⟩)
  intro e H c9 ⟨old,t9,bb,hH,f2,f4,f1,f5,f31,hold,hbb⟩;subst hH;cases bb with
  |false=>
   simp[f2,f4,f31,aR];exact aS ⟨rfl,v,rfl,hv,bB _⟩
  |true=>
  obtain⟨_,j,u,hj,hu,rfl⟩:=hbb rfl;have htk:List.take l'.length (List.map bX.enc l')=l'.map bX.enc:=fJ (by simp);have hih:bM aE 264 [.agg u.2.enc,.dX tL 3 (l'.map bX.enc)] (Va (QP o c g u.2)):=ih (v:=u.2) (L:=.mk tL l') hLm (by omega) hold λk hk=>hK k (iI _ hk);simp[f2,f1,f5,f31,SL.av,htk];refine nT hih λy _ _ hy=>?_;simp[f2,htk];have hw:=hv.wt;have hyw:=hy.2;refine cV (DA (k:=k) hv.ok h4 (by omega) (hK k (kB ..)) hy.1.ok) λr _ _ ⟨v',hr,h5,h6,h7,h8⟩=>?_;subst hr;refine⟨eL v',?_⟩;have h9:=h8 j u hj hu;simp[f4,aR];exact aS ⟨rfl,v',rfl,⟨h6,by omega⟩,by omega⟩
def sH (i:Nat):bX:=⟨false,i,[]⟩
def KN (o c g:Nat) (l:aF aO) (r:AV):Prop:=∃v:aO,r=.agg v.enc/\v.aJ=4/\dU o c g v/\v.wt=1+bE aO.wt l/\v.bF.aG.length=l.length
def zip_snoc (l:aF aO) {i:Nat} (h:i<l.length):(l.take (i+1)).zipIdx.map (λp=>(sH p.2,p.1))=(l.take i).zipIdx.map (λp=>(sH p.2,p.1))++[(sH i,l[i])]:=by
 have E:(l.take i).length=i:=by rw[Q6];omega
 rw[nO h,List.zipIdx_append,qB,E,oO];rfl
set_option maxHeartbeats 1000000 in
def DU {o c g:Nat} {l:SL aO} (E:l.aG.length<=100000) (J:∀v,v∈l.aG->dU o c g v):bM aE 272 [l.av 5 aO.enc] (KN o c g l.aG):=by
 intro c0;refine cO F272 ?_;simp[F272];refine cX CE (eL _) λc1 E=>?_;rw[iB];simp[aR];have fin:∀{H:aC} {Z:Nat} {n:Int} {X:AV} {L:aF (bX×aO)},L=l.aG.zipIdx.map (λp=>(sH p.2,p.1))->((L=[]/\X=.aU)\/∃i t m,X=.ref i t 8 m/\m=L.length/\(⟨false,t,8,L.map iW⟩:aH)∈H)->-1000000002<=n->n<=1000000002->
   cE (λr E _=>E=[]/\KN o c g l.aG r) (.agg [.I 4,.I 0,.str [],.I n,X]) H Z:=λ{H Z n X L} W hX h1 h2=>by
  have hk:∀e,e∈L->kV e.1/\dU o c g e.2:=λe E=>by
   rw[W] at E;obtain⟨p,T,rfl⟩:=fZ.1 E;have h3:=List.mem_zipIdx T;have h4:p.2<l.aG.length:=by omega
   refine⟨⟨by simp only[sH];omega,by simp only[sH];omega,by simp[sH]⟩,J _ ?_⟩;rw[h3.2.2];exact oR _
  have T:bE eT L=bE aO.wt l.aG:=by
   rw[W];have:∀(m:aF aO) (k:Nat),bE eT ((m.zipIdx k).map (λp=>(sH p.2,p.1)))=bE aO.wt m:=by
    intro m
    induction m with
    |nil=>intro k;rfl
    |cons a m J=>
     intro k;have:=J (k+1);simp only[List.zipIdx_cons,gJ,bE,nP] at this ⊢;rw[this];rfl
   exact this _ 0
  have J:L.length=l.aG.length:=by rw[W];simp
  have q:∀I:SL (bX×aO),I.aG=L->KN o c g l.aG (.agg (aO.mk 4 0 [] n I).enc):=λI W=>⟨_,rfl,rfl,.mk (by decide) (by decide) (by decide) ⟨h1,h2⟩ (λh=>by simp at h) (λh=>by simp at h) (λh=>by simp at h) (λh=>absurd rfl h) (λe E=>(hk e (W▸E)).1) (λe E=>(hk e (W▸E)).2),by rw[aO.nS,if_pos rfl,W,T],by show I.aG.length = _;rw[W,J]⟩
  rcases hX with⟨J,rfl⟩|⟨i,t,m,rfl,rfl,E⟩
  .have:=q .nil J.symm;rw[aO.oJ] at this;exact aS ⟨rfl,this⟩
  .exact BP E rfl (q (.mk t L) rfl)
 refine b6 l.aG.length (λi e H Z=>∃(X:AV) (M:aC),e 0=l.av 5 aO.enc/\e 2=.ptr 0 c0 5 0 0/\e 3=.ptr 1 c1 5 0 0/\e 4=.I i/\H=⟨false,c0,5,[[.I 0,.I 0,.str [],.I 0,.aU]]⟩::⟨false,c1,5,[[.I 4,.I 0,.str [],.I 0,X]]⟩::M/\
   ((i=0/\X=.aU/\M=[])\/∃o1 t E m,X=.ref 3 t 8 m/\m=i/\M=[o1,⟨false,t,8,E⟩]/\E=((l.aG.take i).zipIdx.map (λp=>(sH p.2,p.1))).map iW)) ⟨.aU,[],rfl,rfl,rfl,rfl,rfl,.inl ⟨rfl,rfl,rfl⟩⟩ ?_
 intro i e H J J ⟨X,M,Z,e2,W,e4,J,hX⟩ N hN;subst J;by_cases h:i<l.aG.length;rotate_left
 .have hie:i=l.aG.length:=by omega
  have J:¬(i:Int)<(l.aG.length:Int):=by omega
  simp[Z,e2,W,e4,J,aR];refine fin (X:=X) rfl ?_ (by omega) (by omega);rcases hX with⟨h1,h2,h3⟩|⟨o1,t,E,m,h1,h2,h3,h4⟩
  .left;have:l.aG=[]:=CQ.1 (by omega);rw[this];exact⟨rfl,h2⟩
  .right;refine⟨3,t,m,h1,by simp;omega,?_⟩;rw[h3,h4,hie,mU];simp
 .obtain⟨x,hx⟩:∃x,l.aG[i]?=some x:=⟨_,bC h⟩
  have J:x=l.aG[i]:=by rw[bC h] at hx;exact(oN hx).symm
  have T:=zip_snoc l.aG h;rw[<-J] at T;have hm1:1<=mx:=by decide
  have hm2:(i+1)*96<=140737488355328:=by omega
  have hm3:i+1<=mx:=by unfold mx;omega
  rcases hX with⟨rfl,rfl,rfl⟩|⟨o1,t,E,m,rfl,rfl,rfl,J⟩
  .simp[Z,W,e4,h,aL hx,hm1,aR];refine hN _ _ _ _ h (bY _) ⟨_,_,Z,e2,W,by simp[aK];exact cD (i:=0) (n:=l.aG.length) (by unfold mx;omega) h,rfl,.inr ⟨_,_,_,_,rfl,rfl,rfl,?_⟩⟩;rw[T];simp[sH,iW,bX.enc]
  .have hrl:E.length=m:=by rw[J];simp;omega
   simp[Z,W,e4,h,aL hx,hm2,hm3,hrl,aR];refine hN _ _ (List.take 4 _) _ h (fN 4 _) ⟨_,_,Z,e2,W,by simp[aK];exact cD (n:=l.aG.length) (by unfold mx;omega) h,rfl,.inr ⟨_,_,_,_,rfl,rfl,rfl,?_⟩⟩;rw[T,J];simp[sH,iW,bX.enc]
set_option maxRecDepth 100000
def JA {p} [Decidable p] {t} {r s} {u v} (h1:p->jO (.bool true) t (gW r u) (gW s v)) (h2:¬p->jO (.bool false) t (gW r u) (gW s v)):jO (.bool (decide p)) t (gW r u) (gW s v):=by
 by_cases h:p
 .rw[decide_eq_true h];exact h1 h
 .rw[decide_eq_false h];exact h2 h
def DI (a b:Int):Int:=if a<b then -1 else if b<a then 1 else 0
def NF (a b:Int):-1<=DI a b/\DI a b<=1:=by unfold DI;split<;>(try split)<;>omega
def UO (a b:Int):dA aE 307 [.I a,.I b] (.I (DI a b)):=by
 refine fO F307 λc=>?_;unfold F307;unfold DI;by_cases h:a<b
 .simp[h];exact aS ⟨rfl,rfl⟩
 by_cases E:b<a
 .simp[h,E];exact aS ⟨rfl,rfl⟩
 .simp[h,E];exact aS ⟨rfl,rfl⟩
def AN (v:aO):Bool:=if v.aJ=0 then false else if v.aJ=1\/v.aJ=2 then decide (v.bN≠0) else if v.aJ=3 then decide (v.dN≠[])&&decide (v.dN≠[48]) else if v.aJ=4 then decide (0<v.bF.aG.length) else true
def R4 (v:aO):dA aE 202 [.agg v.enc] (.bool (AN v)):=by
 refine fO KY λc=>?_;unfold KY;unfold AN;by_cases Z:v.aJ=0
 .simp[Z];exact aS ⟨rfl,rfl⟩
 by_cases W:v.aJ=1
 .simp[W];exact aS ⟨rfl,rfl⟩
 by_cases T:v.aJ=2
 .simp[T];exact aS ⟨rfl,rfl⟩
 by_cases E:v.aJ=3
 .by_cases J:v.dN=[]
  .simp[E,J];exact aS ⟨rfl,rfl⟩
  .simp[E,J];exact aS ⟨rfl,rfl⟩
 by_cases J:v.aJ=4
 .simp[J];exact aS ⟨by simp,rfl⟩
 .simp[Z,W,T,E,J];exact aS ⟨rfl,rfl⟩
def strW_gtr a b (K:AV->Prop):tE .gtr a b K=K (.bool (!(Op.bytesLess a b||a==b))):=rfl
def P5 a b:bM aE 306 [.str a,.str b] (Nu (-1) 1):=by
 intro c;refine cO F306 ?_;simp[F306,strW_gtr,-Bool.not_or];generalize Op.bytesLess a b=x
 repeat' first|exact aS ⟨rfl,_,rfl,by decide,by decide⟩|with_reducible apply And.intro|with_reducible intro h
def KD (v:aO):Int:=if AN v then 1 else 0
def bit_fn (v:aO):dA aE 308 [.agg v.enc] (.I (KD v)):=by refine fO F308 λc=>?_;unfold F308;unfold KD;simp;refine cX (R4 v) .bool λ_ _=>?_;cases AN v<;>simp<;>exact aS ⟨rfl,rfl⟩
def TxN (m:Nat) (r:AV):Prop:=∃(s:aA) (n:Int),r=.aX [.str s,.I n]/\s.length<=m/\0<=n/\n<=10
def FI (E J:Int) (r:AV):Prop:=∃(a n:Int),r=.aX [.I a,.I n]/\E<=a/\a<=J/\0<=n/\n<=10
def wF {P} {H} {c} {K:aD} {f} {J} {m} (T:bM P f J (TxN m)) (k:∀s n E,c<=E->s.length<=m->0<=n->n<=10->K (.aX [.str s,.I n]) H E):bO P f J H c K:=
 cV T λr E J ⟨s,n,T,h1,Z,W⟩=>by subst T;exact⟨hY .str .int,k s n E J h1 Z W⟩
def DN {P} {H} {c} {K:aD} {f} {T} {J W:Int} (Z:bM P f T (FI J W)) (k:∀a n E,c<=E->J<=a->a<=W->0<=n->n<=10->K (.aX [.I a,.I n]) H E):bO P f T H c K:=
 cV Z λr E J ⟨s,n,T,h1,h2,Z,W⟩=>by subst T;exact⟨hY .int .int,k s n E J h1 h2 Z W⟩
def itoa_len {n:Int} (h:-1000000001<=n/\n<=1000000001):(Lib.itoa n).length<=400:=by
 have E:∀m,m<=1000000001->(Lib.decDigits m).length<=10:=λm J=>O7 (k:=10) (by omega) (by omega);unfold Lib.itoa;split
 .have:=E n.natAbs (by omega);simp;omega
 .have:=E n.toNat (by omega);omega
def wG {v:aO} (hs:v.dN.length<=400) (hn:-1000000001<=v.bN/\v.bN<=1000000001):bM aE 165 [.agg v.enc] (TxN 400):=by
 intro c;refine cO F165 ?_;unfold F165;have hi:=itoa_len hn;simp +contextual
 repeat' first
  |exact aS ⟨rfl,_,_,rfl,hs,by decide,by decide⟩
  |exact aS ⟨rfl,_,_,rfl,by decide,by decide,by decide⟩
  |exact aS ⟨rfl,_,_,rfl,hi,by decide,by decide⟩
  |with_reducible apply And.intro
  |with_reducible intro h
  |(with_reducible refine cX (SY (by omega) (by omega)) .str λ_ _=>?_;simp)
def GU {v:aO} (hs:v.dN.length<=400) (J:-1000000001<=v.bN/\v.bN<=1000000001):bM aE 281 [.agg v.enc] (FI (-1000000001) 1000000001):=by
 intro c;refine cO F281 ?_;simp[F281];refine bZ (fA _ _ _) .bool λ_ _=>?_;cases cT v.aJ 0 2
 .by_cases E:v.aJ=3
  .simp[E];refine hJ (isNum_s (by omega)) λb _ _=>?_;cases b
   .simp;exact aS ⟨rfl,_,_,rfl,by decide,by decide,by decide,by decide⟩
   .simp;refine nX (VX (by omega)) λn _ _ W T=>?_;simp;exact aS ⟨rfl,_,_,rfl,by omega,by omega,by decide,by decide⟩
  .simp[E];exact aS ⟨rfl,_,_,rfl,by decide,by decide,by decide,by decide⟩
 .simp;refine nX (GV (by omega) J) λn _ _ W T=>?_;simp;exact aS ⟨rfl,_,_,rfl,by omega,by omega,by decide,by decide⟩
def errName_s (n:Int):bM aE 164 [.I n] (Tx 20):=by
 intro c;refine cO F164 ?_;simp[F164];refine bZ (fA _ _ _) .bool λ_ _=>?_;cases h:cT n 0 10
 .simp;exact aS ⟨rfl,_,rfl,by decide⟩
 .have E:=mN h;obtain⟨m,rfl⟩:=iY E.1;have E:m<=10:=by omega
  simp;refine⟨by omega,JC (by simp;omega) λaM J=>?_⟩;have E:=bA J;simp only[fK,nQ,or_false] at E;rcases E with rfl|rfl|rfl|rfl|rfl|rfl|rfl|rfl|rfl|rfl|rfl<;>simp<;>exact aS ⟨rfl,_,rfl,by decide⟩
def kindName_s (n:Int):bM aE 302 [.I n] (Tx 20):=by
 intro c;refine cO F302 ?_;simp[F302];refine bZ (fA _ _ _) .bool λ_ _=>?_;cases h:cT n 0 8
 .simp;exact aS ⟨rfl,_,rfl,by decide⟩
 .have E:=mN h;obtain⟨m,rfl⟩:=iY E.1;simp;refine⟨by omega,JC (by simp;omega) λaM J=>?_⟩;have E:=bA J;simp only[fK,nQ,or_false] at E;rcases E with rfl|rfl|rfl|rfl|rfl|rfl|rfl|rfl|rfl<;>simp<;>exact aS ⟨rfl,_,rfl,by decide⟩
set_option maxHeartbeats 4000000 in
def cmp_of {o c g:Nat} {a b:aO} (ha:VM o c g a) (hb:VM o c g b) (har:bM aE 309 [.agg a.enc,.agg b.enc] (Nu (-1) 2)):bM aE 279 [.agg a.enc,.agg b.enc] (Nu (-1) 2):=by
 intro c0;refine cO F279 ?_;unfold F279;have done_:∀{n:Int} {H:aC} {c':Nat},-1<=n->n<=2->cE (λr H' _=>H'=[]/\Nu (-1) 2 r) (.I n) H c':=λh1 h2=>aS ⟨rfl,_,rfl,h1,h2⟩;simp;refine DN (GU ha.ok.s ha.ok.n) λx ex _ _ x1 x2 x3 x4=>?_;simp;refine DN (GU hb.ok.s hb.ok.n) λy ey _ _ y1 y2 y3 y4=>?_;by_cases d1:a.aJ=0/\b.aJ=3
 .simp[d1.1,d1.2];refine nX (P5 _ _) λn _ _ h1 h2=>?_;simp;exact done_ (by omega) (by omega)
 by_cases d2:a.aJ=3/\b.aJ=0
 .simp[d2.1,d2.2];refine nX (P5 _ _) λn _ _ h1 h2=>?_;simp;exact done_ (by omega) (by omega)
 have ob:=NF (KD a) (KD b);have oxy:=NF x y;by_cases a0:a.aJ=0<;>by_cases a3:a.aJ=3<;>by_cases b0:b.aJ=0<;>by_cases b3:b.aJ=3<;>(first|(exfalso;omega)|skip)
 all_goals simp[a0,a3,b0,b3]
 all_goals
  repeat' first
   |exact done_ (by omega) (by omega)
   |with_reducible apply And.intro
   |(with_reducible refine bZ (fA _ _ _) .bool λ_ _=>?_
     generalize cT _ _ _ = q;cases q<;>simp[a0,a3,b0,b3])
   |(with_reducible refine bZ (bit_fn _) .int λ_ _=>?_;simp)
   |(with_reducible refine bZ (UO _ _) .int λ_ _=>?_;simp)
   |(with_reducible refine nX (P5 _ _) λn _ _ h1 h2=>?_;simp)
   |(with_reducible refine nX har λn _ _ h1 h2=>?_;simp)
   |(with_reducible refine wF (wG ha.ok.s ha.ok.n) λ_ _ _ _ _ _ _=>?_;simp)
   |(with_reducible refine wF (wG hb.ok.s hb.ok.n) λ_ _ _ _ _ _ _=>?_;simp)
   |(with_reducible refine JA (λh=>?_) (λh=>?_)<;>simp[h,a0,a3,b0,b3])
   |(with_reducible intro h;try simp[h,a0,a3,b0,b3])
set_option maxHeartbeats 4000000 in
def arrays_of {o c g:Nat} {a b:aO} (ha:VM o c g a) (hb:VM o c g b) (hc:∀e,e∈a.bF.aG->∀y,VM o c g y->bM aE 279 [.agg e.2.enc,.agg y.enc] (Nu (-1) 2)):bM aE 309 [.agg a.enc,.agg b.enc] (Nu (-1) 2):=by
 intro c0;refine cO F309 ?_;unfold F309;have done_:∀{n:Int} {H:aC} {c':Nat},-1<=n->n<=2->cE (λr H' _=>H'=[]/\Nu (-1) 2 r) (.I n) H c':=λh1 h2=>aS ⟨rfl,_,rfl,h1,h2⟩;have hla:=ha.len;by_cases hl:a.bF.aG.length=b.bF.aG.length;rotate_left
 .have hl':¬((a.bF.aG.length:Int)=(b.bF.aG.length:Int)):=by omega
  have ob:=NF a.bF.aG.length b.bF.aG.length;simp[hl'];refine bZ (UO _ _) .int λ_ _=>?_;simp;exact done_ (by omega) (by omega)
 simp[hl];refine b6 a.bF.aG.length (λi e H c'=>e 2=.ptr 0 c0 5 0 0/\e 3=.ptr 1 (c0+1) 5 0 0/\e 5=.I i/\H=[⟨false,c0,5,[a.enc]⟩,⟨false,c0+1,5,[b.enc]⟩]) ⟨rfl,rfl,rfl,rfl⟩ ?_;intro i e H c2 hi ⟨e2,e3,e5,hH⟩ N hN;subst hH;by_cases h:i<a.bF.aG.length;rotate_left
 .have hnot:¬(i:Int)<(a.bF.aG.length:Int):=by omega
  simp[e2,e5,hnot];exact done_ (by omega) (by omega)
 obtain⟨x,hx⟩:∃x,a.bF.aG[i]?=some x:=⟨_,bC h⟩
 have hcx:=hc x (bA hx);simp[e2,e5,h,-jN];refine nK (λe H c'=>∃(y:aO) (t9:Nat) (bb:Bool),H=[⟨false,c0,5,[a.enc]⟩,⟨false,c0+1,5,[b.enc]⟩,⟨false,t9,5,[y.enc]⟩]/\e 2=.ptr 0 c0 5 0 0/\e 3=.ptr 1 (c0+1) 5 0 0/\e 5=.I i/\e 6=.ptr 2 t9 5 0 0/\e 40=.bool bb/\VM o c g y) ?_ ?_;rotate_left
 .intro K5 hK5;simp[e3,aL hx]
  repeat' first
   |with_reducible apply And.intro
   |(with_reducible refine MA (OH hb _) λy bb _ _ hy=>?_
     simp[aR];exact hK5 _ _ _ ⟨y,_,bb,rfl,e2,e3,e5,rfl,rfl,hy⟩)
 intro e H c9 ⟨y,t9,bb,hH,f2,f3,f5,f6,f40,hy⟩;subst hH;cases bb with
 |false=>
  simp[f40];exact done_ (by omega) (by omega)
 |true=>
  simp[f2,f5,f6,f40,aL hx];refine nX (hcx y hy) λn _ _ h1 h2=>?_;by_cases hn0:n=0
  .simp[f5,hn0];exact hN _ _ (List.take 2 _) _ h (fN 2 _) ⟨by simp[aK,f2],by simp[aK,f3],by simp[aK];exact cD (by unfold mx;omega) h,rfl⟩
  .simp[hn0];exact done_ h1 h2
def JY {o c g:Nat}:∀a:aO,VM o c g a->∀b:aO,VM o c g b->bM aE 279 [.agg a.enc,.agg b.enc] (Nu (-1) 2):=by refine aO.xD (p:=λa=>VM o c g a->∀b:aO,VM o c g b->bM aE 279 [.agg a.enc,.agg b.enc] (Nu (-1) 2)) λa T E b J=>cmp_of E J (arrays_of E J λe J y W=>T e J ?_ y W);obtain⟨i,T⟩:=lS.1 J;exact(E.get T).2
def loose_s {o c g:Nat} {a b:aO} (J:VM o c g a) (E:VM o c g b):bM aE 313 [.agg a.enc,.agg b.enc] Bo:=by intro T;refine cO F313 ?_;unfold F313;simp;refine nX (JY a J b E) λn _ _ E E=>?_;simp;exact aS ⟨rfl,_,rfl⟩
set_option maxRecDepth 100000
def W4 {p} [Decidable p] {t} {r s} {u v} (h1:p->jO (.bool false) t (gW r u) (gW s v)) (h2:¬p->jO (.bool true) t (gW r u) (gW s v)):jO (.bool (!decide p)) t (gW r u) (gW s v):=by
 by_cases h:p
 .rw[decide_eq_true h];exact h1 h
 .rw[decide_eq_false h];exact h2 h
def relation_s (op n:Int):bM aE 280 [.I op,.I n] Bo:=by
 intro c;refine cO F280 ?_;unfold F280;have done_:∀{b:Bool} {H:aC} {c':Nat},cE (λr H' _=>H'=[]/\Bo r) (.bool b) H c':=aS ⟨rfl,_,rfl⟩;simp +contextual [W5,-Nat.not_lt,-Nat.not_le,-Int.not_lt,-Int.not_le]
 repeat' first
  |exact done_
  |with_reducible apply And.intro
  |with_reducible intro h
  |(with_reducible refine JA (λh=>?_) (λh=>?_)<;>simp[h])
def arith_s (op a b:Int):bM aE 282 [.I op,.I a,.I b] (FI (-1000000000) 1000000000):=by
 intro c;refine cO F282 ?_;unfold F282;have done_:∀{n m:Int} {H:aC} {c':Nat},-1000000000<=n->n<=1000000000->0<=m->m<=10->cE (λr H' _=>H'=[]/\FI (-1000000000) 1000000000 r) (.aX [.I n,.I m]) H c':=λh1 h2 h3 h4=>aS ⟨rfl,_,_,rfl,h1,h2,h3,h4⟩;simp;refine bZ (fA _ _ _) .bool λ_ _=>?_;cases h1:cT op 1 5
 .simp;exact done_ (by decide) (by decide) (by decide) (by decide)
 have g1:=mN h1;simp;refine bZ (fA _ _ _) .bool λ_ _=>?_;cases h2:cT a (-1000000000) 1000000000
 .simp;exact done_ (by decide) (by decide) (by decide) (by decide)
 simp;refine bZ (fA _ _ _) .bool λ_ _=>?_;cases h3:cT b (-1000000000) 1000000000
 .simp;exact done_ (by decide) (by decide) (by decide) (by decide)
 simp;have last:∀(n:Int) (K:aD) (H:aC) (c:Nat),(∀c',K (.bool false) H c')->(-1000000000<=n->n<=1000000000->∀c',K (.bool true) H c')->bO aE 37 [.I n,.I (-1000000000),.I 1000000000] H c K:=λn K H c k1 k2=>by
  refine bZ (fA _ _ _) .bool λc' _=>?_;cases h:cT n (-1000000000) 1000000000
  .exact k1 c'
  .exact k2 (mN h).1 (mN h).2 c'
 have ho:op=1\/op=2\/op=3\/op=4\/op=5:=by omega
 by_cases hb:b=0<;>rcases ho with rfl|rfl|rfl|rfl|rfl
 all_goals simp[hb]
 all_goals
  repeat' first
   |exact done_ (by decide) (by decide) (by decide) (by decide)
   |exact done_ (by assumption) (by assumption) (by decide) (by decide)
   |with_reducible apply And.intro
   |(with_reducible refine last _ _ _ _ (λ_=>?_) (λ_ _ _=>?_)<;>simp)
   |(with_reducible intro h;try simp[h])
def concat_s {a b:aO} {o c g:Nat} (J:VM o c g a) (E:VM o c g b):bM aE 277 [.agg a.enc,.agg b.enc] (mG (VM o c g)):=by
 intro T;refine cO F277 ?_;simp[F277];refine wF (wG J.ok.s J.ok.n) λs e _ _ J J J=>?_;simp;refine wF (wG E.ok.s E.ok.n) λt f _ _ E E E=>?_;have E:∀{n:Int} {H:aC} {J:Nat},0<=n->n<=10->cE (λr T _=>T=[]/\mG (VM o c g) r) (.aX [.agg [.I 0,.I 0,.str [],.I 0,.aU],.I n]) H J:=λT J=>aS ⟨rfl,sV 0 0 [],_,by rw[iB],T,J,AG⟩;by_cases J:e=0;rotate_left
 .simp[J];exact E (by decide) (by decide)
 by_cases T:f=0;rotate_left
 .simp[J,T];exact E (by decide) (by decide)
 simp[J,T];have J:s.length+t.length<=mx:=by unfold mx;omega
 refine⟨λ_=>E (by decide) (by decide),λh=>⟨J,?_⟩⟩;have E:IntKind.i64.wrap (400-(t.length:Int))=400-(t.length:Int):=wrap64 (by omega) (by omega);rw[E] at h;have E:(s++t).length<=400:=by rw[kW];omega
 refine cX (nU _) (eL _) λ_ _=>?_;simp[aR];exact aS ⟨rfl,sV 3 0 (s++t),_,by rw[iB],by decide,by decide,VM.sc (by decide) (by decide) E⟩
def WY {o c g:Nat}:∀a:aO,VM o c g a->∀b:aO,VM o c g b->bM aE 278 [.agg a.enc,.agg b.enc] Bo:=by
 refine aO.xD (p:=λa=>VM o c g a->∀b:aO,VM o c g b->bM aE 278 [.agg a.enc,.agg b.enc] Bo) λa ih ha b hb=>?_;intro Z;refine cO F278 ?_;unfold F278;have E:∀{b:Bool} {H:aC} {c':Nat},cE (λr J _=>J=[]/\Bo r) (.bool b) H c':=aS ⟨rfl,_,rfl⟩;have J:=ha.len;by_cases T:a.aJ=b.aJ;rotate_left
 .simp[T];exact E
 by_cases W:a.bN=b.bN;rotate_left
 .simp[T,W];exact E
 by_cases d3:a.dN=b.dN;rotate_left
 .simp[T,W,d3];exact E
 by_cases d4:(a.bF.aG.length:Int)=(b.bF.aG.length:Int)
 rotate_left
 .have J:¬a.bF.aG.length=b.bF.aG.length:=by omega
  simp[T,W,d3,d4];exact E
 have J:a.bF.aG.length=b.bF.aG.length:=by omega
 simp[T,W,d3,J];refine b6 a.bF.aG.length (λi e H c'=>e 2=.ptr 0 Z 5 0 0/\e 3=.ptr 1 (Z+1) 5 0 0/\e 5=.I i/\H=[⟨false,Z,5,[a.enc]⟩,⟨false,Z+1,5,[b.enc]⟩]) ⟨rfl,rfl,rfl,rfl⟩ ?_;intro i e H J J ⟨W,e3,T,J⟩ N hN;subst J;by_cases h:i<a.bF.aG.length;rotate_left
 .have J:¬(i:Int)<(a.bF.aG.length:Int):=by omega
  simp[W,T,J];exact E
 obtain⟨x,J⟩:∃x,a.bF.aG[i]?=some x:=⟨_,bC h⟩
 have hb':i<b.bF.aG.length:=by omega
 obtain⟨y,Z⟩:∃y,b.bF.aG[i]?=some y:=⟨_,bC hb'⟩
 have hcx:=ih x (bA J) (ha.get J).2 y.2 (hb.get Z).2;by_cases hk:x.1=y.1
 .simp[W,e3,T,h,aL J,aL Z,hk];refine hJ hcx λq _ _=>?_;cases q
  .simp;exact E
  .simp[T];exact hN _ _ (List.take 2 _) _ h (fN 2 _) ⟨W,e3,by simp[aK];exact cD (by unfold mx;omega) h,rfl⟩
 .simp[W,e3,T,h,aL J,aL Z,hk];exact E
def FP (o c g:Nat) (l:aF (bX×aO)) (i:Nat) (L:aF (bX×aO)):Prop:=L.length=i/\(∀e,e∈L->kV e.1/\dU o c g e.2)/\bE eT L=bE eT (l.take i)
def C2 {α:Type} (f:α->Nat) (l:aF α) (x:α):bE f (l++[x])=bE f l+f x:=by simp[bE]
def FP.snoc {o c g:Nat} {l:aF (bX×aO)} {i:Nat} {L:aF (bX×aO)} (h:FP o c g l i L) {x:bX×aO} (T:l[i]?=some x) {y:aO} (Z:kV x.1) (J:dU o c g y) (W:y.wt=x.2.wt):FP o c g l (i+1) (L++[(x.1,y)]):=by
 obtain⟨E,h2,h3⟩:=h;refine⟨by simp[E],λe E=>?_,?_⟩
 .rcases dI.1 E with E|E
  .exact h2 e E
  .rw[rY.1 E];exact⟨Z,J⟩
 .obtain⟨E,J⟩:=bQ.1 T;rw[nO E,C2,C2,J,h3];simp only[eT,W]
def ZH {o c g:Nat} {a:aO} (E:dU o c g a) {I:SL (bX×aO)} (h:FP o c g a.bF.aG a.bF.aG.length I.aG):dU o c g (.mk a.aJ a.bN a.dN a.Next I)/\(aO.mk a.aJ a.bN a.dN a.Next I).wt=a.wt:=by
 obtain⟨W,T,J⟩:=h;rw[mU] at J;have Z:(aO.mk a.aJ a.bN a.dN a.Next I).wt=a.wt:=by
  rw[aO.nS,aO.uV];split
  .rw[J]
  .rfl
 exact⟨.mk E.k E.n E.s E.x E.o6 E.o7 E.o8 (λJ=>by
  have:=E.e J;rw[this] at W;exact CQ.1 W) (λe E=>(T e E).1) λe E=>(T e E).2,Z⟩
set_option maxHeartbeats 1000000 in
def PI {o c g:Nat}:∀a:aO,dU o c g a/\a.wt<=100000->bM aE 135 [.agg a.enc] (Va λx=>dU o c g x/\x.wt=a.wt):=by
 refine aO.xD (p:=λa=>dU o c g a/\a.wt<=100000->bM aE 135 [.agg a.enc] (Va λx=>dU o c g x/\x.wt=a.wt)) λa ih ⟨J,T⟩=>?_;intro E;refine cO F135 ?_;unfold F135;have W:=cL J.len T;simp;rw[show aR a.enc 4 [.aU]=[.I a.aJ,.I a.bN,.str a.dN,.I a.Next,.aU] from by simp[aR,aO.dW]];refine b6 a.bF.aG.length (λi e H T=>∃(X:AV) (M:aC) (L:aF (bX×aO)),e 1=.ptr 0 E 5 0 0/\e 2=.ptr 1 (E+1) 5 0 0/\e 3=.ptr 2 (E+1+1) 5 0 0/\e 4=.I i/\H=⟨false,E,5,[a.enc]⟩::⟨false,E+1,5,[[.I 0,.I 0,.str [],.I 0,.aU]]⟩::⟨false,E+1+1,5,[[.I a.aJ,.I a.bN,.str a.dN,.I a.Next,X]]⟩::M/\FP o c g a.bF.aG i L/\
   ((L=[]/\X=.aU/\M=[])\/∃o1 t E m,X=.ref 4 t 8 m/\m=i/\M=[o1,⟨false,t,8,E⟩]/\E=L.map iW)) ⟨.aU,[],[],rfl,rfl,rfl,rfl,rfl,⟨rfl,by simp,by simp⟩,.inl ⟨rfl,rfl,rfl⟩⟩ ?_
 intro i e H T T ⟨X,M,L,e1,e2,Z,e4,T,W,hX⟩ N hN;subst T;by_cases h:i<a.bF.aG.length;rotate_left
 .have T:i=a.bF.aG.length:=by omega
  subst T;simp[e1,e2,Z,e4,aR];rcases hX with⟨h1,T,h3⟩|⟨o1,t,E,m,h1,T,h3,h4⟩
  .subst h1;subst T;have:=ZH (I:=.nil) J W;exact aS ⟨rfl,_,by rw[aO.oJ];rfl,this⟩
  .subst h1;subst h3;subst h4;exact BP (by simp) (by rw[W.1];exact T) ⟨_,rfl,ZH (I:=.mk t L) J W⟩
 .obtain⟨x,T⟩:∃x,a.bF.aG[i]?=some x:=⟨_,bC h⟩
  have h4:a.aJ=4:=yB λh4=>by rw[J.e h4] at h;simp at h
  have hcx:=ih x (bA T) ⟨(J.get T).2,by have:=RP h4 T;omega⟩;have hkx:=(J.get T).1;have hm1:1<=mx:=by decide
  have hm2:(i+1)*96<=140737488355328:=by omega
  have hm3:i+1<=mx:=by unfold mx;omega
  rcases hX with⟨rfl,rfl,rfl⟩|⟨o1,t,E,m,rfl,rfl,rfl,J⟩
  .have hi0:i=0:=by have:=W.1;simpa using this.symm
   simp[e1,Z,e4,h,aL T];refine nT hcx λy _ _ hy=>?_;simp[Z,e4,hm1,aR];refine hN _ _ _ _ h (bY _) ⟨_,_,[(x.1,y)],e1,e2,Z,by simp[aK];exact cD (n:=a.bF.aG.length) (by unfold mx;omega) h,rfl,W.snoc T hkx hy.1 hy.2,.inr ⟨_,_,_,_,rfl,?_,rfl,?_⟩⟩
   .omega
   .simp[iW,bX.enc]
  .have hrl:E.length=m:=by rw[J];simp;exact W.1
   simp[e1,Z,e4,h,aL T];refine nT hcx λy _ _ hy=>?_;simp[Z,e4,hm2,hm3,hrl,aR];refine hN _ _ (List.take 5 _) _ h (fN 5 _) ⟨_,_,L++[(x.1,y)],e1,e2,Z,by simp[aK];exact cD (n:=a.bF.aG.length) (by unfold mx;omega) h,rfl,W.snoc T hkx hy.1 hy.2,.inr ⟨_,_,_,_,rfl,rfl,rfl,?_⟩⟩;rw[J];simp[iW,bX.enc]
def PH {o c g:Nat} {a:aO} (h:VM o c g a):bM aE 135 [.agg a.enc] (Va (VM o c g)):=λE=>
 (PI a ⟨h.ok,cL h.wt (by decide)⟩ E).mono λr E E _ ⟨W,v,T,J,E⟩=>⟨W,v,T,J,by rw[E];exact h.wt⟩
def MgV (o c g:Nat) (a:aO) (m:Nat) (x:aO):Prop:=x.aJ=4/\dU o c g x/\x.wt<=a.wt+m
def putN (x:aO) (m:Int):aR x.enc 3 [.I m]=(aO.mk x.aJ x.bN x.dN m x.bF).enc:=by rw[aO.oJ];simp[aR,aO.dW]
set_option maxHeartbeats 1000000 in
def union10_s {o c g:Nat} {a b:aO} (W:VM o c g a) (T:VM o c g b) (h4:a.aJ=4) (Z:b.aJ=4):bM aE 305 [.agg a.enc,.agg b.enc] (Va λx=>dU o c g x/\x.wt<=400):=by
 intro E;refine cO F305 ?_;unfold F305;have J:=W.len;have J:=T.len;simp;refine b6 b.bF.aG.length (λi e H c'=>∃(x:aO),e 2=.ptr 0 E 5 0 0/\e 3=.ptr 1 (E+1) 5 0 0/\e 4=.ptr 2 (E+1+1) 5 0 0/\e 5=.ptr 3 (E+1+1+1) 5 0 0/\e 6=.I i/\H=[⟨false,E,5,[a.enc]⟩,⟨false,E+1,5,[b.enc]⟩,⟨false,E+1+1,5,[[.I 0,.I 0,.str [],.I 0,.aU]]⟩,⟨false,E+1+1+1,5,[x.enc]⟩]/\MgV o c g a (bE eT (b.bF.aG.take i)) x) ⟨a,rfl,rfl,rfl,rfl,rfl,by simp,h4,W.ok,by simp⟩ ?_;intro i e H E hi ⟨x,e2,e3,e4,e5,e6,E,J⟩ N hN;subst E;by_cases h:i<b.bF.aG.length;rotate_left
 .have E:i=b.bF.aG.length:=by omega
  subst E;simp[e2,e3,e6];refine cX (BA _ _) .int λ_ _=>?_;simp[putN,e4,e5];obtain⟨h5,E,h7⟩:=J;have h8:=W.wt;have h9:=T.wt;rw[uW Z] at h9;rw[mU] at h7;have n1:=W.ok.x;have n2:=T.ok.x;exact aS ⟨rfl,_,rfl,.mk E.k E.n E.s (by omega) E.o6 E.o7 E.o8 E.e (λe he=>(E.i e he).1) (λe he=>(E.i e he).2),by rw[aO.nS,if_pos h5];rw[uW h5] at h7;omega⟩
 .obtain⟨y,E⟩:∃y,b.bF.aG[i]?=some y:=⟨_,bC h⟩
  have htk:bE eT (b.bF.aG.take (i+1))=bE eT (b.bF.aG.take i)+y.2.wt:=by
   obtain⟨hi,hg⟩:=bQ.1 E;rw[nO hi,C2,hg];rfl
  have hsz:=MJ eT (fN i b.bF.aG);have h8:=W.wt;have h9:=T.wt;rw[uW Z] at h9;have W:=J.2.2;simp[e2,e3,e6,h,aL E];refine cV (JI (by omega) y.1) λr c' _ ⟨n,W,_⟩=>?_;subst W;refine⟨.int,?_⟩;by_cases Z:n<0
  .simp[Z,e3,e5,e6,aL E];refine cV (DA J.2.1 J.1 (by omega) (T.get E).1 (T.get E).2.ok) λr c' _ ⟨E,W,T,hv,hw,_⟩=>?_;subst W;refine⟨eL _,?_⟩;simp[e5,e6];exact hN _ _ _ _ h (bY _) ⟨E,e2,e3,e4,e5,by simp[aK];exact cD (by unfold mx;omega) h,rfl,T,hv,by omega⟩
  .simp[Z,e6];exact hN _ _ _ _ h (bY _) ⟨x,e2,e3,e4,e5,by simp[aK];exact cD (by unfold mx;omega) h,rfl,J.1,J.2.1,by omega⟩
set_option maxHeartbeats 1000000 in
def union_s {o c g:Nat} {a b:aO} (Z:VM o c g a) (W:VM o c g b):bM aE 276 [.agg a.enc,.agg b.enc] (mG (VM o c g)):=by
 intro E;refine cO F276 ?_;unfold F276;have J:∀{n:Int} {H:aC} {c':Nat},0<=n->n<=10->cE (λr E _=>E=[]/\mG (VM o c g) r) (.aX [.agg [.I 0,.I 0,.str [],.I 0,.aU],.I n]) H c':=λT E=>aS ⟨rfl,sV 0 0 [],_,by rw[iB],T,E,AG⟩;by_cases T:a.aJ=4;rotate_left
 .simp[T];exact J (by decide) (by decide)
 by_cases E:b.aJ=4;rotate_left
 .simp[T,E];exact J (by decide) (by decide)
 simp[T,E];refine cX (C5 (by have:=Z.CY;omega)) .bool λ_ _=>?_;cases isVal a
 .simp;exact J (by decide) (by decide)
 simp;refine cX (C5 (by have:=W.CY;omega)) .bool λ_ _=>?_;cases isVal b
 .simp;exact J (by decide) (by decide)
 simp;refine nT (union10_s Z W T E) λu _ _ ⟨E,T⟩=>?_;simp;refine nT (PI u ⟨E,by omega⟩) λv _ _ ⟨W,E⟩=>?_;simp;refine cV (GM (by have:=dU.sz v W;omega)) λr c' _ ⟨n,E,Z,_⟩=>?_;subst E;refine⟨.int,?_⟩;by_cases T:n<=200
 .have E:¬(200:Int)<n:=by omega
  simp[E];exact aS ⟨rfl,v,_,rfl,by decide,by decide,W,Z.2 T⟩
 .have E:(200:Int)<n:=by omega
  simp[E];exact J (by decide) (by decide)
def arith_n {a b op:Int}:bM aE 282 [.I op,.I a,.I b] (FI (-1000000000) 1000000000):=arith_s op a b
set_option maxHeartbeats 4000000 in
def Z4 {o c g:Nat} {a b:aO} (op:Int) (ha:VM o c g a) (hb:VM o c g b):bM aE 250 [.I op,.agg a.enc,.agg b.enc] (mG (VM o c g)):=by
 intro c0;refine cO F250 ?_;unfold F250;have hz:∀{n:Int} {H:aC} {c':Nat},0<=n->n<=10->cE (λr H' _=>H'=[]/\mG (VM o c g) r) (.aX [.agg [.I 0,.I 0,.str [],.I 0,.aU],.I n]) H c':=λh1 h2=>aS ⟨rfl,sV 0 0 [],_,by rw[iB],h1,h2,AG⟩;have hv:∀{v:aO} {n:Int} {H:aC} {c':Nat},VM o c g v->0<=n->n<=10->cE (λr H' _=>H'=[]/\mG (VM o c g) r) (.aX [.agg v.enc,.I n]) H c':=λh h1 h2=>aS ⟨rfl,_,_,rfl,h1,h2,h⟩;have hB:∀q:Bool,VM o c g (sV 1 (if q then 1 else 0) []):=λq=>VM.sc (by decide) (by cases q<;>decide) (by decide);have hI:∀{n:Int},-1000000000<=n->n<=1000000000->VM o c g (sV 2 n []):=λh1 h2=>VM.sc (by decide) (by omega) (by decide);by_cases d1:op=1/\a.aJ=4/\b.aJ=4
 .simp[d1.1,d1.2.1,d1.2.2];refine qD (union_s ha hb) λv n _ _ h1 h2 h3=>?_;simp;exact hv h3 h1 h2
 by_cases k6:op=6
 .simp[k6];refine qD (concat_s ha hb) λv n _ _ h1 h2 h3=>?_;simp;exact hv h3 h1 h2
 by_cases k9:op=9
 .simp[k9];refine hJ (WY a ha b hb) λq _ _=>?_;simp;refine cX (oL q) (eL _) λ_ _=>?_;simp[aR];exact hv (hB q) (by decide) (by decide)
 by_cases k10:op=10
 .simp[k10];refine hJ (WY a ha b hb) λq _ _=>?_;simp;refine cX (oL (!q)) (eL _) λ_ _=>?_;have h:=hB (!q);simp at h;simp[aR];exact hv h (by decide) (by decide)
 by_cases k15:op=15
 .simp[k15];refine nX (JY a ha b hb) λn _ _ h1 h2=>?_;simp;refine cX (pT n) (eL _) λ_ _=>?_;simp[aR];exact hv (hI (by omega) (by omega)) (by decide) (by decide)
 have tail3:∀(K:aD) (H:aC) (c:Nat),(∀c',K (.bool true) H c')->(∀c',K (.bool false) H c')->bO aE 37 [.I op,.I 7,.I 14] H c K:=λK H c k1 k2=>by
  refine bZ (fA _ _ _) .bool λc' _=>?_;cases cT op 7 14
  .exact k2 c'
  .exact k1 c'
 have d2:op≠1\/(op=1/\a.aJ≠4)\/(op=1/\a.aJ=4/\b.aJ≠4):=by omega
 rcases d2 with d2|⟨rfl,d3⟩|⟨rfl,d3,d4⟩
 all_goals (first|simp[k6,k9,k10,k15,d2]|simp[d3,d4]|simp[d3])
 all_goals (refine tail3 _ _ _ (λ_=>?_) (λ_=>?_)<;>simp)
 all_goals
  repeat' first
   |exact hz (by decide) (by decide)
   |exact hz (by assumption) (by assumption)
   |exact hv (hI (by assumption) (by assumption)) (by decide) (by decide)
   |exact hv (hB _) (by decide) (by decide)
   |with_reducible apply And.intro
   |(with_reducible refine nX (JY a ha b hb) λn _ _ h1 h2=>?_;simp)
   |(with_reducible refine hJ (relation_s _ _) λq _ _=>?_;simp)
   |(with_reducible refine cX (oL _) (eL _) λ_ _=>?_;simp[aR])
   |(with_reducible refine cX (pT _) (eL _) λ_ _=>?_;simp[aR])
   |(with_reducible refine DN (GU ha.ok.s ha.ok.n) λx e _ _ x1 x2 x3 x4=>?_;simp)
   |(with_reducible refine DN (GU hb.ok.s hb.ok.n) λx e _ _ x1 x2 x3 x4=>?_;simp)
   |(with_reducible refine DN arith_n λx e _ _ x1 x2 x3 x4=>?_;simp)
   |(with_reducible refine JA (λh=>?_) (λh=>?_)<;>simp[h])
   |(with_reducible refine W4 (λh=>?_) (λh=>?_)<;>simp[h])
   |(with_reducible intro h;try simp[h])
set_option maxHeartbeats 1000000 in
def index_s {o c g:Nat} {v k:aO} (J:VM o c g v) (T:VM o c g k):bM aE 249 [.agg v.enc,.agg k.enc] (mG (VM o c g)):=by
 intro E;refine cO F249 ?_;unfold F249;have E:∀{n:Int} {H:aC} {W:Nat},0<=n->n<=10->cE (λr Z _=>Z=[]/\mG (VM o c g) r) (.aX [.agg [.I 0,.I 0,.str [],.I 0,.aU],.I n]) H W:=λh1 Z=>aS ⟨rfl,sV 0 0 [],_,by rw[iB],h1,Z,AG⟩;have Z:=J.ok.s;simp;refine cV (WB T.ok.s T.ok.n) λr W _ ⟨q,W,T,Z⟩=>?_;subst T;refine⟨hY (OL _) .bool,?_⟩;simp;by_cases T:v.aJ=4
 .cases W
  .simp[T];exact E (by decide) (by decide)
  .simp[T];refine MA (OH J _) λx W _ _ J=>?_;simp;refine nT (PH J) λy _ _ J=>?_;simp[aR];exact aS ⟨rfl,_,_,rfl,by decide,by decide,J⟩
 by_cases J:v.aJ=3;rotate_left
 .simp[J,T];exact E (by decide) (by decide)
 cases W
 .simp[J];exact E (by decide) (by decide)
 cases ht:q.bR;rotate_left
 .simp[J,ht];exact E (by decide) (by decide)
 simp[J,ht];refine bZ (fA _ _ _) .bool λ_ _=>?_;generalize J:cT q.bN 0 _ = w;cases w
 .simp;exact E (by decide) (by decide)
 have T:=mN J;simp;have E:IntKind.i64.wrap ((v.dN.length:Int)-1)=(v.dN.length:Int)-1:=wrap64 (by omega) (by omega);rw[E] at T;have E:IntKind.i64.wrap (q.bN+1)=q.bN+1:=wrap64 (by omega) (by omega);rw[E];refine⟨by omega,by omega,by omega,by omega,?_⟩;generalize J:List.drop _ (List.take _ v.dN)=T;have E:T.length<=400:=by rw[<-J];simp;omega
 refine cX (nU T) (eL _) λ_ _=>?_;simp[aR];exact aS ⟨rfl,sV 3 0 T,_,by rw[iB],by decide,by decide,VM.sc (by decide) (by decide) E⟩
set_option maxRecDepth 100000
def unary_s {o c g:Nat} {a:aO} (op:Int) (ha:VM o c g a):bM aE 248 [.I op,.agg a.enc] (mG (VM o c g)):=by
 intro E;refine cO F248 ?_;unfold F248;have T:∀q:Bool,VM o c g (sV 1 (if q then 1 else 0) []):=λq=>VM.sc (by decide) (by cases q<;>decide) (by decide);have Z:∀{v:aO} {n:Int} {H:aC} {E:Nat},VM o c g v->0<=n->n<=10->cE (λr J _=>J=[]/\mG (VM o c g) r) (.aX [.agg v.enc,.I n]) H E:=λh J E=>aS ⟨rfl,_,_,rfl,J,E,h⟩;by_cases W:op=1
 .simp[W];refine cX (R4 a) .bool λ_ _=>?_;simp;refine cX (oL (!AN a)) (eL _) λ_ _=>?_;have h:=T (!AN a);simp at h;simp[aR];exact Z h (by decide) (by decide)
 by_cases T:op=2
 .simp[T];have h0:VM o c g (sV 2 0 []):=VM.sc (by decide) (by decide) (by decide);refine⟨?_,?_⟩
  all_goals
   refine cX (pT 0) (eL _) λ_ _=>?_;simp;refine qD (Z4 2 h0 ha) λv n _ _ J E h3=>?_;simp;exact Z h3 J E
 simp[W,T];exact aS ⟨rfl,sV 0 0 [],_,by rw[iB],by decide,by decide,AG⟩
def entity_s (b:UInt8):bM aE 283 [.int .u8 b.toNat] (Tx 6):=by
 intro c;refine cO F283 ?_;unfold F283;simp +contextual [-Nat.not_lt,-Nat.not_le,-Int.not_lt,-Int.not_le]
 repeat' first
  |exact aS ⟨rfl,_,rfl,by simp⟩
  |exact aS ⟨rfl,_,rfl,by decide⟩
  |with_reducible apply And.intro
  |with_reducible intro h
 refine yF (l:=[b]) rfl rfl (by unfold mx;simp) ?_;simp;exact fI (eX _) (.refl _) ⟨rfl,_,rfl,by simp⟩
def bare_s (b:UInt8):bM aE 286 [.int .u8 b.toNat] Bo:=by
 intro c;refine cO F286 ?_;unfold F286;simp;refine bZ (fA _ _ _) .bool λ_ _=>?_;generalize cT _ 32 126=q;cases q
 .simp;exact aS ⟨rfl,_,rfl⟩
 .simp
  repeat' first
   |exact aS ⟨rfl,_,rfl⟩
   |with_reducible apply And.intro
   |with_reducible intro h
   |(with_reducible refine JA (λh=>?_) (λh=>?_)<;>simp[h])
   |(with_reducible refine W4 (λh=>?_) (λh=>?_)<;>simp[h])
def html_s {l:aA} (hl:l.length<=1048576):bM aE 254 [.str l] (Tx (6*l.length)):=by
 intro c;refine cO F254 ?_;simp[F254];refine b6 l.length (λi e H c'=>∃s:aA,s.length<=6*i/\e 0=.str l/\e 3=.str s/\e 4=.I i/\H=[]) ⟨[],by simp,rfl,rfl,rfl,rfl⟩ ?_;intro i e H c hi ⟨s,hs,e0,e3,e4,hH⟩ N hN;subst hH;simp[e0,e3,e4];refine⟨λh=>?_,λh=>?_⟩
 .have hb:l[i]?=some l[i]:=bC h;generalize l[i]=b at hb;refine⟨_,hb,?_⟩;refine sB (entity_s b) λt _ _ ht=>?_;simp[e4];exact⟨by unfold mx;omega,hN _ _ _ _ h (bY _) ⟨s++t,by rw[kW];omega,e0,rfl,by simp[aK];exact cD (by unfold mx;omega) h,rfl⟩⟩
 .exact aS ⟨by simp,_,rfl,by omega⟩
def script_s {l:aA} (hl:l.length<=1048576):bM aE 256 [.str l] (Tx (6*l.length)):=by
 intro c;refine cO F256 ?_;simp[F256];refine b6 l.length (λi e H c'=>∃s:aA,s.length<=6*i/\e 0=.str l/\e 3=.str s/\e 4=.I i/\H=[]) ⟨[],by simp,rfl,rfl,rfl,rfl⟩ ?_;intro i e H c hi ⟨s,hs,e0,e3,e4,hH⟩ N hN;subst hH;simp[e0,e3,e4];refine⟨λh=>?_,λh=>?_⟩
 .have hb:l[i]?=some l[i]:=bC h;have hw:IntKind.i64.wrap ((i:Int)+1)=((i+1:Nat):Int):=by rw[cD (by unfold mx;omega) h];rfl
  generalize l[i]=b at hb;have ht:=MI hb;refine⟨_,hb,?_⟩;refine hJ (bare_s b) λq _ _=>?_;cases q
  .simp[e0,e3,e4];refine⟨by unfold mx;omega,_,hb,?_⟩;simp only[wE];refine bZ (V2 b) .str λ_ _=>?_;simp[e4];exact⟨by unfold mx;omega,hN _ _ _ _ h (bY _) ⟨s++[92,120,up (b.toNat/16),up (b.toNat%16)],by simp;omega,e0,rfl,by simp[aK,hw],rfl⟩⟩
  .simp[e0,e3,e4,hw,ht];exact⟨by omega,by omega,by unfold mx;omega,hN _ _ _ _ h (bY _) ⟨s++[b],by simp;omega,e0,rfl,rfl,rfl⟩⟩
 .exact aS ⟨by simp,_,rfl,by omega⟩
def X7 {l:aA} (k:Int) (J:l.length<=1048576):bM aE 208 [.I k,.str l] (Tx (6*l.length)):=by
 intro c;refine cO F208 ?_;unfold F208;by_cases Z:k=1
 .simp[Z];refine sB (html_s J) λt _ _ E=>?_;simp;exact aS ⟨rfl,_,rfl,E⟩
 by_cases W:k=2
 .simp[W];refine cX (specEsc_fn J) .str λ_ _=>?_;simp;have:=X6 l;exact aS ⟨rfl,_,rfl,by omega⟩
 by_cases T:k=3
 .simp[T];refine sB (script_s J) λt _ _ E=>?_;simp;exact aS ⟨rfl,_,rfl,E⟩
 simp[Z,W,T];exact aS ⟨rfl,_,rfl,by omega⟩
set_option maxRecDepth 100000
def D7 {l sep:aA} {i:Nat} (E:l.length<=1048576) (hs:sep.length<=100) (E:i<=1048576):bM aE 177 [.str l,.I i,.str sep] Bo:=by
 intro E;refine cO K3 ?_;unfold K3;have E:IntKind.i64.wrap ((l.length:Int)-(i:Int))=(l.length:Int)-i:=wrap64 (by omega) (by omega);have J:IntKind.i64.wrap ((i:Int)+(sep.length:Int))=((i+sep.length:Nat):Int):=by rw[wrap64 (by omega) (by omega)];omega
 by_cases h:i+sep.length<=l.length
 .have k:(sep.length:Int)<=(l.length:Int)-i:=by omega
  simp[E,J,k,-Int.natCast_add];exact⟨h,aS ⟨rfl,_,rfl⟩⟩
 .have k:¬(sep.length:Int)<=(l.length:Int)-i:=by omega
  simp[E,k];exact aS ⟨rfl,_,rfl⟩
def NmQ (l:aA) (a:Nat) (r:AV):Prop:=∃n:Nat,r=.I n/\a<=n/\n<=l.length/\(∀b,l[a]?=some b->mB b=true->a<n)
def VA {l:aA} {a} (E:l.length<=1048576) (E:a<=l.length):bM aE 198 [.str l,.I a] (NmQ l a):=by
 intro E;refine cO K0 ?_;simp[K0];refine b6 (l.length-a) (λi e H E=>e 0=.str l/\e 1=.I a/\e 5=.I ((a+i:Nat):Int)/\H=[]) ⟨rfl,rfl,rfl,rfl⟩ ?_;intro i e H c E ⟨e0,e1,W,E⟩ N hN;subst E;have E:¬((a+i:Nat):Int)<0:=by omega
 rcases iA (a+i) l.length with h|h
 .have T:l[a+i]?=some l[a+i]:=bC h;have J:((a+i:Nat):Int)<(l.length:Int):=by omega
  have E:IntKind.i64.wrap (((a+i:Nat):Int)+1)=((a+(i+1):Nat):Int):=by rw[wrap64 (by omega) (by omega)];omega
  generalize l[a+i]=b at T;simp[e0,W,J,-Int.natCast_add];refine⟨_,T,?_⟩;simp[-Int.natCast_add];refine bZ (DW b) .bool λ_ _=>?_;cases h1:mB b
  .by_cases Z:0<i
   .have Z:(a:Int)<((a+i:Nat):Int):=by omega
    simp[e0,e1,W,Z,-Int.natCast_add];refine⟨_,T,?_⟩;simp[-Int.natCast_add];refine bZ (BV b) .bool λ_ _=>?_;cases h3:kE b
    .simp[W,-Int.natCast_add];exact aS ⟨rfl,_,rfl,by omega,by omega,λ_ _ _=>by omega⟩
    .simp[W,-Int.natCast_add];exact hN _ _ _ _ (by omega) (bY _) ⟨e0,e1,by simp[aK,E,-Int.natCast_add],rfl⟩
   .have Z:¬(a:Int)<((a+i:Nat):Int):=by omega
    have Z:i=0:=by omega
    subst Z;simp[e1,W,-Int.natCast_add];exact aS ⟨rfl,_,rfl,by omega,by omega,λZ Z hL=>by
     rw[FW] at T;rw[T] at Z;cases Z;rw[h1] at hL;cases hL⟩
  .simp[W,-Int.natCast_add];exact hN _ _ _ _ (by omega) (bY _) ⟨e0,e1,by simp[aK,E,-Int.natCast_add],rfl⟩
 .have J:¬((a+i:Nat):Int)<(l.length:Int):=by omega
  simp[e0,W,J,-Int.natCast_add];exact aS ⟨rfl,_,rfl,by omega,by omega,λb T _=>by
   obtain⟨E,_⟩:=bQ.1 T;omega⟩
def marks:aF aA:=[[61,61,61],[33,61,61],[60,61,62],[61,61],[33,61],[60,61],[62,61],[61,62],[45,62],[58,58],[38,38],[124,124],[63,63]]
def DJ:aA:=[43,45,42,47,37,46,61,33,60,62,40,41,91,93,123,125,44,59,63,58,38]
def marks_len {s:aA} (h:s∈marks):s.length<=3:=by
 have:∀s,s∈marks->s.length<=3:=by decide
 exact this s h
set_option maxHeartbeats 1000000 in
def mark_s {l:aA} {a} (hl:l.length<=1048576) (E:a<l.length):bM aE 211 [.str l,.I a] (Tx 3):=by
 intro c0;refine cO F211 ?_;unfold F211;have hla:l[a]?=some l[a]:=bC E;generalize l[a]=E at hla;simp;refine b6 13 (λi e H c'=>e 0=.str l/\e 1=.I a/\e 5=.ref 0 c0 1 13/\e 6=.I i/\H=[⟨false,c0,1,marks.map λs=>[.str s]⟩]) ⟨rfl,rfl,rfl,rfl,rfl⟩ ?_;intro i e H c E ⟨W,T,e5,Z,hH⟩ N hN;subst hH;by_cases h:i<13
 .have E:(i:Int)<13:=by omega
  have J:marks[i]?=some marks[i]:=bC h;have hm:marks[i]∈marks:=oR h;have hml:i<marks.length:=h;generalize marks[i]=s at J hm;have hs:=marks_len hm;simp[W,T,e5,Z,E,aL J];refine hJ (D7 hl (by omega) (by omega)) λq _ _=>?_;cases q
  .simp[Z];exact hN _ _ _ _ h (bY _) ⟨W,T,e5,by simp[aK];exact cD (n:=13) (by unfold mx;omega) h,rfl⟩
  .simp[e5,Z,E,aL J];exact fI (eX _) (.refl _) ⟨rfl,_,rfl,hs⟩
 .have E:¬(i:Int)<13:=by omega
  simp[e5,Z,E];refine b6 21 (λj e H c'=>e 0=.str l/\e 1=.I a/\e 7=.str DJ/\e 8=.I j/\H=[⟨false,c0,1,marks.map λs=>[.str s]⟩]) ⟨W,T,rfl,rfl,rfl⟩ ?_;intro j e H c Z ⟨W,T,e7,e8,hH⟩ N hN;subst hH;have Z:(DJ.length:Int)=21:=rfl;by_cases h:j<21
  .have E:(j:Int)<21:=by omega
   have J:DJ[j]?=some DJ[j]:=bC h;have ht:=MI J;generalize DJ[j]=o1 at J ht;have hw:IntKind.i64.wrap ((j:Int)+1)=((j+1:Nat):Int):=by rw[cD (n:=21) (by unfold mx;omega) h];rfl
   simp[W,T,e7,e8,E,Z,aL hla,aL J];rw[hw];refine⟨λ_=>⟨by omega,by omega,by omega,?_⟩,λ_=>hN _ _ _ _ h (bY _) ⟨W,T,e7,rfl,rfl⟩⟩;rw[Int.toNat_natCast,ht];exact fI (eX _) (.refl _) ⟨rfl,_,rfl,by simp⟩
  .have E:¬(j:Int)<21:=by omega
   simp[e7,e8,E,Z];exact fI (eX _) (.refl _) ⟨rfl,_,rfl,by decide⟩
def StQ (l:aA) (a:Nat) (r:AV):Prop:=∃(s:aA) (n:Int),r=.aX [.str s,.I n]/\s.length<=400/\(n = -1\/∃m:Nat,n=m/\a<m/\m<=l.length)
set_option maxHeartbeats 1000000 in
def string_s {l:aA} {a:Nat} (hl:l.length<=1048576) (ha:a<l.length):bM aE 210 [.str l,.int .i64 a] (StQ l a):=by
 intro c0
 refine cO F210 ?_
 unfold F210
 simp
 have hw0:IntKind.i64.wrap ((a:Int)+1)=((a+1:Nat):Int):=by rw[wrap64 (by omega) (by omega)];omega
 refine b6 l.length (λi e H c'=>∃(j t:Nat) (out:aA),a+1+i<=j/\j<=l.length+1/\out.length<=j/\e 0=.str l/\e 6=.ref 0 t 1 out.length/\e 7=.int .i64 j/\H=[⟨false,t,1,out.map iQ⟩]) ⟨a+1,_,[],by omega,by omega,by simp,rfl,rfl,by simp[aK,hw0,-Int.natCast_add],rfl⟩ ?_
 intro i e H c hi ⟨j,t,out,h1,h2,h3,e0,e6,e7,hH⟩ N hN
 subst hH
 by_cases h:j<l.length
 rotate_left
 .simp[e0,e7,h]
  exact fI (eX _) (.refl _) ⟨rfl,_,_,rfl,by simp,.inl rfl⟩
 have hb:l[j]?=some l[j]:=bC h
 generalize l[j]=b at hb
 have hm1:out.length+1<=140737488355328:=by omega
 have hm2:out.length+1<=mx:=by unfold mx;omega
 have hw:IntKind.i64.wrap ((j:Int)+1)=((j+1:Nat):Int):=by rw[wrap64 (by omega) (by omega)];omega
 have hw2:IntKind.i64.wrap ((j:Int)+1+1)=((j+2:Nat):Int):=by rw[wrap64 (by omega) (by omega)];omega
 by_cases q1:b.toNat=39
 .by_cases q2:out.length<=400
  .have q2':¬(400:Int)<(out.length:Int):=by omega
   simp[e0,e6,e7,h,aL hb,q1,q2']
   refine yF (l:=out) rfl rfl (by unfold mx;omega) ?_
   simp[hw,e7]
   exact fI (eX _) (.refl _) ⟨rfl,_,_,rfl,q2,.inr ⟨j+1,by omega,by omega,by omega⟩⟩
  .have q2':(400:Int)<(out.length:Int):=by omega
   simp[e0,e6,e7,h,aL hb,q1,q2']
   exact fI (eX _) (.refl _) ⟨rfl,_,_,rfl,by simp,.inl rfl⟩
 have q1':¬(b.toNat:Int)=39:=by omega
 by_cases q2:(b.toNat:Int)=92
 rotate_left
 .simp[e0,e6,e7,h,aL hb,q1',q2,hm1,hm2,hw,-Int.natCast_add]
  exact hN _ _ [⟨false,c+1,1,(out++[b]).map iQ⟩] _ (by omega) (by simp[iQ]) ⟨j+1,_,out++[b],by omega,by omega,by simp;omega,by simp[aK,e0],by simp[aK],by simp[aK],rfl⟩
 by_cases h5:j+1<l.length
 rotate_left
 .have h5'':¬(((j+1:Nat):Int)<(l.length:Int)):=by omega
  simp[e0,e6,e7,h,aL hb,q2,hm1,hm2,hw,h5'',-Int.natCast_add]
  exact hN _ _ [⟨false,c+1,1,(out++[b]).map iQ⟩] _ (by omega) (by simp[iQ,q2]) ⟨j+1,_,out++[b],by omega,by omega,by simp;omega,by simp[aK,e0],by simp[aK],by simp[aK],rfl⟩
 have hb2:l[j+1]?=some l[j+1]:=bC h5
 generalize l[j+1]=b2 at hb2
 have h5'':(((j+1:Nat):Int)<(l.length:Int)):=by omega
 have hw3:IntKind.i64.wrap (((j+1:Nat):Int)+1)=((j+2:Nat):Int):=by rw[wrap64 (by omega) (by omega)];omega
 by_cases q3:(b2.toNat:Int)=39
 .simp[e0,e6,e7,h,aL hb,aL hb2,q2,q3,hm1,hm2,hw,hw3,h5'',-Int.natCast_add]
  exact hN _ _ [⟨false,c+1,1,(out++[b2]).map iQ⟩] _ (by omega) (by simp[iQ,q3]) ⟨j+2,_,out++[b2],by omega,by omega,by simp;omega,by simp[aK,e0],by simp[aK],by simp[aK],rfl⟩
 by_cases q4:(b2.toNat:Int)=92
 .simp[e0,e6,e7,h,aL hb,aL hb2,q2,q4,hm1,hm2,hw,hw3,h5'',-Int.natCast_add]
  exact hN _ _ [⟨false,c+1,1,(out++[b2]).map iQ⟩] _ (by omega) (by simp[iQ,q4]) ⟨j+2,_,out++[b2],by omega,by omega,by simp;omega,by simp[aK,e0],by simp[aK],by simp[aK],rfl⟩
 .simp[e0,e6,e7,h,aL hb,aL hb2,q2,q3,q4,hm1,hm2,hw,hw3,h5'',-Int.natCast_add]
  exact hN _ _ [⟨false,c+1,1,(out++[b]).map iQ⟩] _ (by omega) (by simp[iQ,q2]) ⟨j+1,_,out++[b],by omega,by omega,by simp;omega,by simp[aK,e0],by simp[aK],by simp[aK],rfl⟩
set_option maxRecDepth 100000
def rP (m:Nat) (t:dB):Prop:=t.bR.length<=m/\0<=t.bN/\t.bN<=1000000000/\0<=t.At/\t.At<=m/\(t.aJ=5->t.bR.length<=400)
def TkQ (l:aA) (a:Nat) (r:AV):Prop:=∃(t:dB) (n:Nat) (E:Int),r=.aX [.agg t.enc,.I n,.I E]/\rP 4000 t/\n<=l.length+3/\0<=E/\E<=10/\(E=0->a<n)
set_option maxHeartbeats 2000000 in
def token_s {l:aA} {a} (hl:l.length<=4000) (ha:a<l.length):bM aE 178 [.str l,.I a] (TkQ l a):=by
 intro c0;refine cO F178 ?_;unfold F178;have hla:l[a]?=some l[a]:=bC ha;generalize l[a]=ch at hla;have hw:IntKind.i64.wrap ((a:Int)+1)=((a+1:Nat):Int):=by rw[wrap64 (by omega) (by omega)];omega
 have fin:∀{k n:Int} {s:aA} {m:Nat} {code:Int} {H:aC} {c':Nat},s.length<=4000->0<=n->n<=1000000000->(k=5->s.length<=400)->m<=l.length+3->0<=code->code<=10->(code=0->a<m)->
   cE (λr H' _=>H'=[]/\TkQ l a r) (.aX [.agg [.I k,.I n,.str s,.I a],.I m,.I code]) H c':=λ{k n s m code H c'} h1 h2 h3 h4 h5 h6 h7 h8=>
  aS ⟨rfl,⟨k,n,s,a⟩,m,code,rfl,⟨h1,h2,h3,by show(0:Int)<=a;omega,by show(a:Int)<=((4000:Nat):Int);omega,h4⟩,h5,h6,h7,h8⟩
 have no:∀{p q:Int} {r:Prop} [Decidable (p=q)] (h:decide (p=q)=false:=by rfl),p=q->r:=λh h2=>by simp[h2] at h
 by_cases q1:(ch.toNat:Int)=36
 .simp[aL hla,q1,hw,aR,-Int.natCast_add];refine cV (VA (by omega) (by omega)) λr c' _ ⟨n,hr,n1,n2,n3⟩=>?_;subst hr;refine⟨.int,?_⟩;simp[hw,aR,-Int.natCast_add];refine⟨n1,n2,λh=>?_,λh=>?_⟩
  .exact fin (by simp;omega) (by decide) (by decide) no (by omega) (by decide) (by decide) no
  .exact fin (by simp;omega) (by decide) (by decide) no (by omega) (by decide) (by decide) (by omega)
 simp[aL hla,q1,hw,aR,-Int.natCast_add];refine bZ (DW ch) .bool λ_ _=>?_;cases hL:mB ch
 case true=>
  simp[-Int.natCast_add];refine cV (VA (by omega) (by omega)) λr c' _ ⟨n,hr,n1,n2,n3⟩=>?_;subst hr;refine⟨.int,?_⟩;have n4:=n3 _ hla hL;simp[aR,-Int.natCast_add];refine⟨n1,n2,?_⟩;exact fin (by simp;omega) (by decide) (by decide) no (by omega) (by decide) (by decide) (by omega)
 simp[aL hla,-Int.natCast_add];refine bZ (BV ch) .bool λ_ _=>?_;cases hD:kE ch
 case true=>
  simp[-Int.natCast_add];refine b6 (l.length-a) (λi e H c'=>e 0=.str l/\e 1=.I a/\e 4=.ptr 0 c0 4 0 0/\e 7=.ptr 1 (c0+1) 4 0 0/\e 8=.I ((a+i:Nat):Int)/\H=[⟨false,c0,4,[[.I 0,.I 0,.str [],.I 0]]⟩,⟨false,c0+1,4,[[.I 0,.I 0,.str [],.I a]]⟩]) ⟨rfl,rfl,rfl,rfl,rfl,rfl⟩ ?_;intro i e H c hi ⟨e0,e1,e4,e7,e8,hH⟩ N hN;subst hH;have rest:∀(K:aD) (H:aC) (c:Nat),(∀n c',K (.aX [.I n,.bool false]) H c')->(∀(n:Nat) c',K (.aX [.I n,.bool true]) H c')->bO aE 209 [.str (List.drop a (List.take (a+i) l))] H c K:=λK H c k1 k2=>by
   refine cX (HD (by simp;unfold mx;omega)) (hY .int .bool) λc' _=>?_;cases kQ (List.drop a (List.take (a+i) l))
   .exact k1 _ c'
   .simp;exact k2 _ c'
  rcases iA (a+i) l.length with h|h
  .have hb:l[a+i]?=some l[a+i]:=bC h;have hlt:((a+i:Nat):Int)<(l.length:Int):=by omega
   have hstep:IntKind.i64.wrap (((a+i:Nat):Int)+1)=((a+(i+1):Nat):Int):=by rw[wrap64 (by omega) (by omega)];omega
   have h0:i=0->l[a+i]=ch:=λh0=>by subst h0;rw[bC (by omega)] at hla;exact oN hla
   generalize l[a+i]=b at hb h0;simp[e0,e8,hlt,aL hb,-Int.natCast_add];refine bZ (BV b) .bool λ_ _=>?_;cases h3:kE b
   .have hi0:i≠0:=λh=>by rw[h0 h,hD] at h3;cases h3
    simp[e0,e1,e8,-Int.natCast_add];refine⟨by omega,?_⟩;refine rest _ _ _ (λn c'=>?_) λn c'=>?_
    .simp[e1,e4,e7,aR,-Int.natCast_add];exact fin (by simp) (by decide) (by decide) no (by omega) (by decide) (by decide) no
    .by_cases hn:(1000000000:Int)<n
     .simp[e1,e4,e7,hn,aR,-Int.natCast_add];exact fin (by simp) (by decide) (by decide) no (by omega) (by decide) (by decide) no
     .simp[e1,e4,e7,e8,hn,aR,-Int.natCast_add];exact fin (by simp) (by omega) (by omega) no (by omega) (by decide) (by decide) (by omega)
   .simp[e0,e1,e8,-Int.natCast_add];exact hN _ _ _ _ (by omega) (bY _) ⟨e0,e1,e4,e7,by simp[aK,hstep,-Int.natCast_add],rfl⟩
  .have hlt:¬((a+i:Nat):Int)<(l.length:Int):=by omega
   simp[e0,e1,e8,hlt,-Int.natCast_add];have hi0:i≠0:=by omega
   refine⟨by omega,?_⟩;refine rest _ _ _ (λn c'=>?_) λn c'=>?_
   .simp[e1,e4,e7,aR,-Int.natCast_add];exact fin (by simp) (by decide) (by decide) no (by omega) (by decide) (by decide) no
   .by_cases hn:(1000000000:Int)<n
    .simp[e1,e4,e7,hn,aR,-Int.natCast_add];exact fin (by simp) (by decide) (by decide) no (by omega) (by decide) (by decide) no
    .simp[e1,e4,e7,e8,hn,aR,-Int.natCast_add];exact fin (by simp) (by omega) (by omega) no (by omega) (by decide) (by decide) (by omega)
 simp[aL hla,aR,-Int.natCast_add];by_cases q4:(ch.toNat:Int)=39
 .simp[q4];refine cV (string_s (by omega) ha) λr c' _ ⟨s,n,hr,s1,s2⟩=>?_;subst hr;refine⟨hY .str .int,?_⟩;simp[aR];rcases s2 with rfl|⟨m,rfl,m1,m2⟩
  .simp;exact fin (by omega) (by decide) (by decide) (λ_=>s1) (by omega) (by decide) (by decide) no
  .have hm:¬(m:Int)<0:=by omega
   simp[hm];exact fin (by omega) (by decide) (by decide) (λ_=>s1) (by omega) (by decide) (by decide) (λ_=>m1)
 simp[q4];refine sB (mark_s (by omega) ha) λs _ _ s1=>?_;simp[aR];by_cases hs:s=[]
 .simp[hs];exact fin (by simp) (by decide) (by decide) no (by omega) (by decide) (by decide) no
 .have hp:0<s.length:=r7.2 hs;have hw5:IntKind.i64.wrap ((a:Int)+(s.length:Int))=((a+s.length:Nat):Int):=by rw[wrap64 (by omega) (by omega)];omega
  simp[hs,hw5,-Int.natCast_add];exact fin (by omega) (by decide) (by decide) no (by omega) (by decide) (by decide) (by omega)
set_option maxRecDepth 100000
def IU {P:Program} {B:IR} {Q:kU} {id:Nat} {X:Env->aC->Nat->Prop} {e:Env} {H:aC} {c:Nat} (R:Env->aC->Nat->Prop) (E:∀e H c,R e H c->X e H c)
  (J:∀K:Env->aC->Nat->Prop,(∀e H c,R e H c->K e H c)->cC P (.loop B) (uF id (iO K Q)) e H c):cC P (.loop B) (uF id (iO X Q)) e H c:=J X E
def I7 (l:aA) (i:Nat) (sep:aA):Bool:=decide (i+sep.length<=l.length)&&decide (List.drop i (List.take (i+sep.length) l)=sep)
def N4 {l sep:aA} {i:Nat} (E:l.length<=1048576) (hs:sep.length<=100) (E:i<=1048576):dA aE 177 [.str l,.I i,.str sep] (.bool (I7 l i sep)):=by
 refine fO K3 λE=>?_;unfold K3 I7;have E:IntKind.i64.wrap ((l.length:Int)-(i:Int))=(l.length:Int)-i:=wrap64 (by omega) (by omega);have J:IntKind.i64.wrap ((i:Int)+(sep.length:Int))=((i+sep.length:Nat):Int):=by rw[wrap64 (by omega) (by omega)];omega
 by_cases h:i+sep.length<=l.length
 .have k:(sep.length:Int)<=(l.length:Int)-i:=by omega
  simp[E,J,k,h,-Int.natCast_add];exact aS ⟨rfl,rfl⟩
 .have k:¬(sep.length:Int)<=(l.length:Int)-i:=by omega
  simp[E,k,h];exact aS ⟨rfl,rfl⟩
def N9 {l:aA} {i:Nat} {a} {s} (h:I7 l i (a::s)=true):l[i]?=some a:=by
 simp only[I7,eY,decide_eq_true_eq] at h;obtain⟨E,J⟩:=h;have E:(List.drop i (List.take (i+(a::s).length) l))[0]?=some a:=by rw[J];rfl
 rw[xZ,GB,if_pos (by simp)] at E;simpa using E
def N1 {P} {H} {c} {K:aD} {f} {J} {b} (Z:dA P f J (.bool b)) (W:b=true->∀E,K (.bool true) H E) (T:b=false->∀E,K (.bool false) H E):bO P f J H c K:=
 cX Z .bool λE _=>by cases b;exact T rfl E;exact W rfl E
def KF {a b d} (E:Av [] a) (E:Av [] b) (E:Av [] d):Av [] (.aX [a,b,d]):=.aX λj x E=>by
 have h:=bA E;simp at h;rcases h with rfl|rfl|rfl<;>assumption
def XG (t:dB):Av [] (.agg t.enc):=.agg λj a E=>by
 have h:=bA E;simp[dB.enc] at h;rcases h with rfl|rfl|rfl|rfl
 .exact .int
 .exact .int
 .exact .str
 .exact .int
def QO (r:AV):Prop:=∃(T:SL dB) (E J:Int),r=.aX [T.av 4 dB.enc,.I E,.I J]/\T.aG.length<=5000/\(∀t,t∈T.aG->rP 4000 t)/\0<=E/\E<=10
def OU {H} {c'} {i t m} {L:aF dB} {code at_:Int} (E:(⟨false,t,4,L.map dB.enc⟩:aH)∈H) (J:m=L.length) (h1:L.length<=5000) (Z:∀t,t∈L->rP 4000 t) (W:0<=code) (T:code<=10):
  cE (λr H' _=>H'=[]/\QO r) (.aX [.ref i t 4 m,.I code,.I at_]) H c':=by refine⟨H,[],[],.aX [(SL.mk t L).av 4 dB.enc,.I code,.I at_],eX _,.nil,λo h=>h,by simp[aV],?_,rfl,.mk t L,code,at_,rfl,h1,Z,W,T⟩;exact CV (.cons (jK E J.symm λx _=>x.cells) (.cons (.refl _) (.cons (.refl _) .nil)))
def R5 {n} (h:n<=5000):(n+1)*40<=140737488355328/\n+1<=mx/\(n+1+1)*40<=140737488355328/\n+1+1<=mx:=by unfold mx;omega
def LxI (l:aA) (i:Nat) (e:Env) (H:aC):Prop:=∃(q:Bool) (j t:Nat) (L:aF dB),i<=j/\j<=l.length+3/\L.length<=j/\(∀t,t∈L->rP 4000 t)/\e 0=.str l/\e 5=.ref 0 t 4 L.length/\e 6=.bool q/\e 7=.I j/\H=[⟨false,t,4,L.map dB.enc⟩]
def wV {l:aA} {i j t} {q} {L:aF dB} {e} {H} (Z:i<=j) (W:j<=l.length+3) (T:L.length<=j) (J:∀t,t∈L->rP 4000 t) (e0:e 0=.str l) (e5:e 5=.ref 0 t 4 L.length) (e6:e 6=.bool q) (e7:e 7=.I j)
  (E:H=[⟨false,t,4,L.map dB.enc⟩]):LxI l i e H:=⟨q,j,t,L,Z,W,T,J,e0,e5,e6,e7,E⟩
def MF {k n:Int} {s:aA} {m:Nat} (T:s.length<=4000) (E:0<=n/\n<=1000000000) (J:m<=4000) (J:k≠5):rP 4000 ⟨k,n,s,m⟩:=
 ⟨T,E.1,E.2,by show(0:Int)<=m;omega,by show(m:Int)<=((4000:Nat):Int);omega,λh=>absurd h J⟩
def C7 {p:dB->Prop} {L} {x} (h:∀t,t∈L->p t) (J:p x):∀t,t∈L++[x]->p t:=λt E=>by
 rcases dI.1 E with E|E
 .exact h t E
 .simp at E;subst E;exact J
set_option maxHeartbeats 1000000 in
def lex_s {l:aA} (hl:l.length<=1048576):bM aE 151 [.str l] QO:=by
 intro c0
 refine cO F151 ?_
 unfold F151
 by_cases hbig:(4000:Int)<(l.length:Int)
 .simp[hbig]
  exact OU (L:=[]) (by simp) rfl (by simp) (by simp) (by decide) (by decide)
 have hl4:l.length<=4000:=by omega
 simp[hbig]
 clear hbig
 refine b6 l.length (λi e H c'=>LxI l i e H) ⟨false,0,_,[],by omega,by omega,by simp,by simp,rfl,rfl,rfl,rfl,rfl⟩ ?_
 intro i e H c hi ⟨q,j,t,L,h1,h2,h3,h4,e0,e5,e6,e7,hH⟩ N hN
 subst hH
 obtain⟨ha1,ha2,ha3,ha4⟩:=R5 (n:=L.length) (by omega)
 by_cases h:j<l.length
 rotate_left
 .simp[e0,e5,e7,h]
  exact OU (L:=L) (by simp) rfl (by omega) h4 (by decide) (by decide)
 have hw1:IntKind.i64.wrap ((j:Int)+1)=((j+1:Nat):Int):=by rw[wrap64 (by omega) (by omega)];omega
 have hw2:IntKind.i64.wrap ((j:Int)+2)=((j+2:Nat):Int):=by rw[wrap64 (by omega) (by omega)];omega
 have hiN:i<l.length:=by omega
 cases q
 case false=>
  simp[e0,e6,e7,h]
  refine IU (λe H c'=>∃k:Nat,j<=k/\k<=l.length/\e 0=.str l/\e 5=.ref 0 t 4 L.length/\e 7=.int .i64 j/\e 8=.int .i64 k/\H=[⟨false,t,4,L.map dB.enc⟩]) ?_ ?_
  rotate_left
  .intro K hK
   refine b6 (l.length-j) (λi e H c'=>e 0=.str l/\e 5=.ref 0 t 4 L.length/\e 7=.int .i64 j/\e 8=.int .i64 ((j+i:Nat):Int)/\H=[⟨false,t,4,L.map dB.enc⟩]) ⟨by simp[aK,e0],by simp[aK,e5],by simp[aK,e7],by simp[aK],rfl⟩ ?_
   intro i e H c hi ⟨e0,e5,e7,e8,hH⟩ N hN
   subst hH
   by_cases h:j+i<l.length
   .have hlt:((j+i:Nat):Int)<(l.length:Int):=by omega
    have hstep:IntKind.i64.wrap (((j+i:Nat):Int)+1)=((j+(i+1):Nat):Int):=by rw[wrap64 (by omega) (by omega)];omega
    simp[e0,e8,hlt,-Int.natCast_add]
    refine hJ (D7 (by omega) (by decide) (by omega)) λq _ _=>?_
    cases q
    .simp[e8,-Int.natCast_add]
     exact hN _ _ _ _ (by omega) (bY _) ⟨by simp[aK,e0],by simp[aK,e5],by simp[aK,e7],by simp[aK,hstep,-Int.natCast_add],rfl⟩
    .simp[-Int.natCast_add]
     exact hK _ _ _ ⟨j+i,by omega,by omega,by simp[aK,e0],by simp[aK,e5],by simp[aK,e7],by simp[aK,e8],rfl⟩
   .have hlt:¬((j+i:Nat):Int)<(l.length:Int):=by omega
    simp[e0,e8,hlt,-Int.natCast_add]
    exact hK _ _ _ ⟨j+i,by omega,by omega,by simp[aK,e0],by simp[aK,e5],by simp[aK,e7],by simp[aK,e8],rfl⟩
  intro e H c ⟨k,k1,k2,e0,e5,e7,e8,hH⟩
  subst hH
  have hw2:IntKind.i64.wrap ((k:Int)+2)=((k+2:Nat):Int):=by rw[wrap64 (by omega) (by omega)];omega
  have hw3:IntKind.i64.wrap ((k:Int)+3)=((k+3:Nat):Int):=by rw[wrap64 (by omega) (by omega)];omega
  refine gK (λe H c'=>∃(t':Nat) (L':aF dB) (X:aC),e 0=.str l/\e 5=.ref 0 t' 4 L'.length/\e 8=.int .i64 k/\H=⟨false,t',4,L'.map dB.enc⟩::X/\L'.length<=L.length+1/\L'.length<=k+1/\∀t,t∈L'->rP 4000 t) ?_ ?_
  rotate_left
  .intro K hK
   by_cases hj:j<k
   .have hs:(List.drop j (List.take k l)).length<=4000:=by simp;omega
    have hT:rP 4000 ⟨1,0,List.drop j (List.take k l),j⟩:=MF hs (by decide) (by omega) (by decide)
    simp[e0,e5,e7,e8,hj,k1,k2,ha1,ha2,aR]
    exact hK _ _ _ ⟨c+1,L++[⟨1,0,List.drop j (List.take k l),j⟩],_,by simp[aK,e0],by simp[aK],by simp[aK,e8],by simp[dB.enc];rfl,by simp,by simp;omega,C7 h4 hT⟩
   .simp[e7,e8,hj]
    exact hK _ _ _ ⟨t,L,[],by simp[aK,e0],by simp[aK,e5],by simp[aK,e8],rfl,by omega,by omega,h4⟩
  intro e H c ⟨t',L',X,e0,e5,e8,hH,hL1,hL2,h4'⟩
  have hX:[(⟨false,t',4,L'.map dB.enc⟩:aH)].Sublist (⟨false,t',4,L'.map dB.enc⟩::X):=(eX _).cons_cons _
  subst hH
  obtain⟨hb1,hb2,_,_⟩:=R5 (n:=L'.length) (by omega)
  by_cases hk:k<l.length
  .simp[e0,e8,hk,hw2,-Int.natCast_add]
   refine hJ (D7 (by omega) (by decide) (by omega)) λq c2 _=>?_
   cases q
   .simp
    exact hN _ _ _ _ hiN hX (wV (q:=true) (j:=k+2) (t:=t') (L:=L') (by omega) (by omega) (by omega) h4' (by simp[aK,e0]) (by simp[aK,e5]) (by simp[aK]) (by simp[aK]) rfl)
   .have hT:rP 4000 ⟨3,0,[101,99,104,111],k⟩:=MF (by decide) (by decide) (by omega) (by decide)
    simp[e5,e8,hb1,hb2,hw3,aR,-Int.natCast_add]
    exact hN _ _ (List.take 1 _) _ hiN (fN 1 _) (wV (q:=true) (j:=k+3) (t:=c2+1) (L:=L'++[⟨3,0,[101,99,104,111],k⟩]) (by omega) (by omega) (by simp;omega) (C7 h4' hT) (by simp[aK,e0]) (by simp[aK]) (by simp[aK]) (by simp[aK]) (by simp[dB.enc]))
  .simp[e0,e8,hk,hw2,-Int.natCast_add]
   exact hN _ _ _ _ hiN hX (wV (q:=false) (j:=k+2) (t:=t') (L:=L') (by omega) (by omega) (by omega) h4' (by simp[aK,e0]) (by simp[aK,e5]) (by simp[aK]) (by simp[aK]) rfl)
 have hb:l[j]?=some l[j]:=bC h
 generalize l[j]=b at hb
 simp[e0,e6,e7,h]
 refine hJ (D7 (by omega) (by decide) (by omega)) λq c2 _=>?_
 cases q
 case true=>
  have hT:rP 4000 ⟨6,0,[59],j⟩:=MF (by decide) (by decide) (by omega) (by decide)
  simp[e0,e5,e7,ha1,ha2,hw2,aR,-Int.natCast_add]
  have hw5:IntKind.i64.wrap (((j+2:Nat):Int)+1)=((j+3:Nat):Int):=by rw[wrap64 (by omega) (by omega)];omega
  refine N1 (N4 (by omega) (by decide) (by omega)) (λhq _=>?_) (λhq _=>?_)
  .have h6:=N9 hq
   have h7:j+2<l.length:=(bQ.1 h6).1
   simp[hw5,-Int.natCast_add]
   exact hN _ _ (List.take 1 _) _ hiN (fN 1 _) (wV (q:=false) (j:=j+3) (t:=c2+1) (L:=L++[⟨6,0,[59],j⟩]) (by omega) (by omega) (by simp;omega) (C7 h4 hT) (by simp[aK,e0]) (by simp[aK]) (by simp[aK]) (by simp[aK]) (by simp[dB.enc]))
  .simp[-Int.natCast_add]
   exact hN _ _ (List.take 1 _) _ hiN (fN 1 _) (wV (q:=false) (j:=j+2) (t:=c2+1) (L:=L++[⟨6,0,[59],j⟩]) (by omega) (by omega) (by simp;omega) (C7 h4 hT) (by simp[aK,e0]) (by simp[aK]) (by simp[aK]) (by simp[aK]) (by simp[dB.enc]))
 simp[e0,e7]
 refine N1 (N4 (by omega) (by decide) (by omega)) (λhq _=>?_) (λhq _=>?_)
 .have h6:=N9 hq
  simp
  refine b6 (l.length-j) (λi e H c'=>e 0=.str l/\e 5=.ref 0 t 4 L.length/\e 6=.bool true/\e 7=.int .i64 ((j+i:Nat):Int)/\H=[⟨false,t,4,L.map dB.enc⟩]) ⟨by simp[aK,e0],by simp[aK,e5],by simp[aK,e6],by simp[aK,e7],rfl⟩ ?_
  intro i e H c hi ⟨e0,e5,e6,e7,hH⟩ N' hN'
  subst hH
  have done_:∀{e':Env} {c':Nat},0<i->e' 0=.str l->e' 5=.ref 0 t 4 L.length->e' 6=.bool true->e' 7=.int .i64 ((j+i:Nat):Int)->N e' [⟨false,t,4,L.map dB.enc⟩] c':=λhp f0 f5 f6 f7=>
   hN _ _ _ _ hiN (bY _) (wV (q:=true) (j:=j+i) (t:=t) (L:=L) (by omega) (by omega) (by omega) h4 f0 f5 f6 f7 rfl)
  by_cases h:j+i<l.length
  .have hlt:((j+i:Nat):Int)<(l.length:Int):=by omega
   have hstep:IntKind.i64.wrap (((j+i:Nat):Int)+1)=((j+(i+1):Nat):Int):=by rw[wrap64 (by omega) (by omega)];omega
   have hb:l[j+i]?=some l[j+i]:=bC h
   have hz:i=0->l[j+i]=47:=λh0=>by subst h0;have:=hb.symm.trans h6;simpa using this
   generalize l[j+i]=b at hb hz
   by_cases hn:(b.toNat:Int)=10
   .have hp:0<i:=QZ λh0=>by rw[hz h0] at hn;exact absurd hn (by decide)
    simp[e0,e7,hlt,aL hb,hn,-Int.natCast_add]
    refine done_ hp ?_ ?_ ?_ ?_<;>simp[aK,e0,e5,e6,e7]
   .simp[e0,e7,hlt,aL hb,hn,-Int.natCast_add]
    refine N1 (N4 (by omega) (by decide) (by omega)) (λhq _=>?_) (λhq _=>?_)
    .have hp:0<i:=QZ λh0=>by
      have h8:=N9 hq
      rw[hb,hz h0] at h8
      exact absurd h8 (by decide)
     simp[hn,-Int.natCast_add]
     refine done_ hp ?_ ?_ ?_ ?_<;>simp[aK,e0,e5,e6,e7]
    .simp[e7,hn,-Int.natCast_add]
     exact hN' _ _ _ _ (by omega) (bY _) ⟨by simp[aK,e0],by simp[aK,e5],by simp[aK,e6],by simp[aK,hstep,-Int.natCast_add],rfl⟩
  .have hlt:¬((j+i:Nat):Int)<(l.length:Int):=by omega
   simp[e0,e7,hlt,-Int.natCast_add]
   refine done_ (by omega) ?_ ?_ ?_ ?_<;>simp[aK,e0,e5,e6,e7]
 have sp:∀{e':Env} {c':Nat},e' 0=.str l->e' 5=.ref 0 t 4 L.length->e' 6=.bool true->e' 7=.int .i64 ((j+1:Nat):Int)->N e' [⟨false,t,4,L.map dB.enc⟩] c':=λf0 f5 f6 f7=>
  hN _ _ _ _ hiN (bY _) (wV (q:=true) (j:=j+1) (t:=t) (L:=L) (by omega) (by omega) (by omega) h4 f0 f5 f6 f7 rfl)
 by_cases b1:(b.toNat:Int)=32
 .simp[e0,e7,aL hb,b1,hw1,-Int.natCast_add]
  refine sp ?_ ?_ ?_ ?_<;>simp[aK,e0,e5,e6]
 by_cases b2:(b.toNat:Int)=9
 .simp[e0,e7,aL hb,b2,hw1,-Int.natCast_add]
  refine sp ?_ ?_ ?_ ?_<;>simp[aK,e0,e5,e6]
 by_cases b3:(b.toNat:Int)=10
 .simp[e0,e7,aL hb,b3,hw1,-Int.natCast_add]
  refine sp ?_ ?_ ?_ ?_<;>simp[aK,e0,e5,e6]
 by_cases b4:(b.toNat:Int)=13
 .simp[e0,e7,aL hb,b4,hw1,-Int.natCast_add]
  refine sp ?_ ?_ ?_ ?_<;>simp[aK,e0,e5,e6]
 simp[e0,e7,aL hb,b1,b2,b3,b4,hw1,-Int.natCast_add]
 refine cV (token_s hl4 h) λr c' _ ⟨x,n,code,hr,x1,x2,x3,x4,x5⟩=>?_
 subst hr
 refine⟨KF (XG x) .int .int,?_⟩
 by_cases hc:code=0
 .simp[e5,hc,ha1,ha2,-Int.natCast_add]
  exact hN _ _ (List.take 1 _) _ hiN (fN 1 _) (wV (q:=true) (j:=n) (t:=c'+1+1) (L:=L++[x]) (by have:=x5 hc;omega) (by omega) (by have:=x5 hc;simp;omega) (C7 h4 x1) (by simp[aK,e0]) (by simp[aK]) (by simp[aK,e6]) (by simp[aK]) (by simp))
 .simp[e7,hc,-Int.natCast_add]
  exact OU (L:=[]) (by simp) rfl (by simp) (by simp) x3 x4
structure PS where
 i:Nat
 b:Int
structure iG (T:SL dB) (e:Int):Prop where
 n:T.aG.length<=5000
 ok:∀t,t∈T.aG->rP 4000 t
 e:0<=e
def PS.ok (n:Nat) (s:PS):Prop:=s.i<=n/\(0<=s.b->s.i=n)
def PS.mu (n:Nat) (s:PS):Nat:=2*(n-s.i)+if s.b<0 then 1 else 0
structure Le (n:Nat) (s s':PS):Prop where
 i:s.i<=s'.i
 ok:s'.ok n
 b:s'.b<0->s.b<0
structure Lt (n:Nat) (s s':PS):Prop where
 le:Le n s s'
 lt:s'.b<0->s.i<s'.i
def Le.refl {n} {s:PS} (h:s.ok n):Le n s s:=⟨bB _,h,id⟩
def Le.trans {n:Nat} {a b d:PS} (h:Le n a b) (k:Le n b d):Le n a d:=⟨cL h.i k.i,k.ok,λx=>h.b (k.b x)⟩
def Le.lt_trans {n:Nat} {a b d:PS} (h:Le n a b) (k:Lt n b d):Lt n a d:=⟨h.trans k.le,λx=>rV h.i (k.lt x)⟩
def Lt.GS {n} {a b d} (h:Lt n a b) (k:Le n b d):Lt n a d:=⟨h.le.trans k,λx=>fM (h.lt (k.b x)) k.i⟩
def Lt.trans {n} {a b d} (h:Lt n a b) (k:Lt n b d):Lt n a d:=h.GS k.le
def Le.mu {n} {s s':PS} (h:Le n s s'):s'.mu n<=s.mu n:=by
 obtain⟨E,⟨E,E⟩,J⟩:=h;unfold PS.mu;by_cases E:s'.b<0
 .have:=J E;rw[if_pos E,if_pos this];omega
 .rw[if_neg E];split<;>omega
def Lt.mu {n} {s s':PS} (h:Lt n s s') (hb:s.b<0):s'.mu n<s.mu n:=by
 obtain⟨⟨h1,⟨h2,h3⟩,h4⟩,h5⟩:=h;unfold PS.mu;rw[if_pos hb];by_cases hb':s'.b<0
 .have:=h5 hb';rw[if_pos hb'];omega
 .rw[if_neg hb'];omega
def PO (T:SL dB) (e:Int) (tp:Nat) (s:PS):aH:=⟨false,tp,4,[[T.av 4 dB.enc,.I s.i,.I e,.I s.b]]⟩
@[simp] theorem PO.tag T (e:Int) tp s:(PO T e tp s).tag=tp:=rfl
@[simp] theorem PO.mp T (e:Int) tp s:(PO T e tp s).mp=false:=rfl
@[simp] theorem PO.w T (e:Int) tp s:(PO T e tp s).w=4:=rfl
@[simp] theorem PO.aN (T:SL dB) (e:Int) tp (s:PS):(PO T e tp s).aN=[[T.av 4 dB.enc,.I s.i,.I e,.I s.b]]:=rfl
def PC (T:SL dB) (e:Int) (tp:Nat) (f:Nat) (E:aF AV) (s:PS) (Q:AV->PS->Prop):Prop:=
 ∀c,cA aE f (.ptr 0 tp 4 0 0::E) [PO T e tp s] c λr O _=>∃E,O=[PO T e tp E]/\Le T.aG.length s E/\Av [] r/\Q r E
def XF (T:SL dB):Av [] (T.av 4 dB.enc):=by
 cases T with
 |nil=>exact .aU
 |mk t l=>
  refine .dX (by simp) λr j x a E J=>?_;obtain⟨e,W,rfl⟩:=fZ.1 (bA E);cases XG e with
  |agg h=>exact h j a J
  |any _ h=>exact .any _ h
def OK T (e:Int) tp s:iX [] (PO T e tp s):=λr j x a J W=>by
 have E:=bA J;simp[PO] at E;subst E;have E:=bA W;simp at E;rcases E with rfl|rfl|rfl|rfl
 .exact XF T
 .exact .int
 .exact .int
 .exact .int
section
variable {T:SL dB} {e:Int} {tp c:Nat} {K:aD} {H:aC} {s:PS}
def call_pc {f} {W E} {Q:AV->PS->Prop} (hf:PC T e tp f E s Q) (Z:fG [] W E) (k:∀r E J,c<=J->Le T.aG.length s E->Q r E->K r (PO T e tp E::H) J):
  bO aE f (.ptr 0 tp 4 0 0::W) (PO T e tp s::H) c K:=by
 have:=PY (A:=[]) (B:=[PO T e tp s]) (C:=H) (K:=K) (hf c) (.cons (.refl _) Z) λr W J Z ⟨E,h1,h2,W,h4⟩=>by
  subst h1;exact⟨rfl,W,λo W=>by simp at W;subst W;exact OK _ _ _ _,k r E J Z h2 h4⟩
 simpa using this
def uB {f} {J} {Q:AV->PS->Prop} (Z:PC T e tp f J s Q) (k:∀r E W,c<=W->Le T.aG.length s E->Q r E->K r (PO T e tp E::H) W):
  bO aE f (.ptr 0 tp 4 0 0::J) (PO T e tp s::H) c K:=call_pc Z (.refl _ _) k
def xI {n:Nat} {v} {s s'} {c'} {Q:AV->PS->Prop} (W:Le T.aG.length s s') (J:Av [] v) (E:Q v s'):
  cE (λr O (_:Nat)=>∃s',O=[PO T e tp s']/\Le T.aG.length s s'/\Av [] r/\Q r s') v (PO T e tp s'::H) c':=
 fI (Hk:=[PO T e tp s']) (by simp) (.refl _) ⟨s',rfl,W,J,E⟩
end
def j4 (T:SL dB) (i:Nat) (J:Int) (E:aA):Bool:=match T.aG[i]? with
 |some t=>decide (t.aJ=J)&&(decide (E=[])||decide (t.bR=E))
 |none=>false
def vR {T:SL dB} {i} {J:Int} {E} (h:j4 T i J E=true):i<T.aG.length:=by
 unfold j4 at h;split at h
 .rename_i t E;exact(bQ.1 E).1
 .cases h
def aaE {T:SL dB} {e:Int} {i k:Nat} {b J:Int} {E:aA} (W:iG T e) (Z:i<=5000) (Z:k<=5000):
  dA aE 181 [.iP [T.av 4 dB.enc,.I i,.I e,.I b] 0,.I k,.I J,.str E] (.bool (j4 T (i+k) J E)):=by
 have Z:=W.n;refine fO F181 λc=>?_;unfold F181 j4;have hw:IntKind.i64.wrap ((i:Int)+(k:Int))=((i+k:Nat):Int):=by rw[wrap64 (by omega) (by omega)];omega
 by_cases h:i+k<T.aG.length
 .have Z:((i+k:Nat):Int)<(T.aG.length:Int):=by omega
  obtain⟨t,W⟩:∃t,T.aG[i+k]?=some t:=⟨_,bC h⟩
  by_cases h1:t.aJ=J
  .by_cases J:E=[]
   .simp[hw,Z,W,aL W,h1,J,-Int.natCast_add];exact aS ⟨rfl,rfl⟩
   .simp[hw,Z,W,aL W,h1,J,-Int.natCast_add];exact aS ⟨rfl,rfl⟩
  .simp[hw,Z,W,aL W,h1,-Int.natCast_add];exact aS ⟨rfl,rfl⟩
 .have Z:¬((i+k:Nat):Int)<(T.aG.length:Int):=by omega
  have W:T.aG[i+k]?=none:=CR (by omega);simp[hw,Z,W,-Int.natCast_add];exact aS ⟨rfl,rfl⟩
section
variable {T:SL dB} {e:Int} {tp c:Nat} {K:aD} {H:aC} {s:PS}
def RY S:View (PO T e tp s::S) (.ptr 0 tp 4 0 0) (.iP [T.av 4 dB.enc,.I s.i,.I e,.I s.b] 0):=by
 refine .ptr (aN:=[[T.av 4 dB.enc,.I s.i,.I e,.I s.b]]) (kB ..) rfl rfl (λj a J=>?_) λj a E W E=>by rw[W] at E;cases E;exact .refl _
 have E:=bA J;simp at E;rcases E with rfl|rfl|rfl|rfl<;>first|rfl|exact nI _ _ _
def lN {k:Nat} {J:Int} {E:aA} (hT:iG T e) (hi:s.i<=5000) (hk:k<=5000) (Z:∀W,c<=W->K (.bool (j4 T (s.i+k) J E)) (PO T e tp s::H) W):
  bO aE 181 [.ptr 0 tp 4 0 0,.I k,.I J,.str E] (PO T e tp s::H) c K:=
 E5 (aaE (b:=s.b) hT hi hk) (.cons (RY H) (.refl _ _)) .bool Z
def at_F {k:Nat} {J:Int} {E:aA} (hT:iG T e) (hi:s.i<=5000) (hk:k<=5000) (Z:∀W,c<=W->K (.bool (j4 T (s.i+k) J E)) (PO T e tp s::H) W):
  zC aE 181 [.ptr 0 tp 4 0 0,.I k,.I J,.str E] (PO T e tp s::H) c K:=
 callF_fnv (aaE (b:=s.b) hT hi hk) (.cons (RY H) (.refl _ _)) .bool Z
end
def vD:aQ:=.mk 0 0 [] .nil
def DO:vD.enc=[.I 0,.I 0,.str [],.aU]:=aQ.oJ _ _ _ _
section
variable {T:SL dB} {e:Int} {tp:Nat}
def EL (Z:iG T e) {s:PS} (hs:s.ok T.aG.length):PC T e tp 212 [] s λr s'=>r=.agg vD.enc/\0<=s'.b/\s'.i=T.aG.length:=by
 have E:=Z.n;have he:=Z.e;obtain⟨i,b⟩:=s;obtain⟨hi,E⟩:=hs;intro c;refine cO F212 ?_;unfold F212;have E:∀{W:Int} {H:aC} {J:Nat},0<=W->cE (λr O (_:Nat)=>∃s',O=[PO T e tp s']/\Le T.aG.length ⟨i,b⟩ s'/\Av [] r/\(r=.agg vD.enc/\0<=s'.b/\s'.i=T.aG.length)) (.agg [.I 0,.I 0,.str [],.aU])
   (PO T e tp ⟨T.aG.length,W⟩::H) J:=λ{W H J} h=>by
  rw[<-DO];exact xI (n:=0) (s':=⟨T.aG.length,W⟩) ⟨hi,⟨bB _,λ_=>rfl⟩,λJ=>by have h3:W<0:=J;omega⟩ (yZ _) ⟨rfl,h,rfl⟩
 by_cases h:b<0
 .by_cases J:i<T.aG.length
  .obtain⟨t,W⟩:∃t,T.aG[i]?=some t:=⟨_,bC J⟩
   have hA:=(Z.ok t (bA W)).2.2.2.1;simp[PO,h,J,aL W,aR];exact E hA
  .simp[PO,h,J,aR];exact E he
 .simp[PO,h,aR];exact E (by omega)
def YI (hT:iG T e) {s:PS} (hs:s.ok T.aG.length) {E}:PC T e tp 180 [.str E] s λr W=>(r=.bool true/\W=⟨s.i+1,s.b⟩/\s.i<T.aG.length/\s.b<0)\/(r=.bool false/\W=s):=by
 have J:=hT.n;obtain⟨hi,hb⟩:=hs;intro c;refine cO F180 ?_;unfold F180;have hw:IntKind.i64.wrap ((s.i:Int)+1)=((s.i+1:Nat):Int):=by rw[wrap64 (by omega) (by omega)];omega
 simp;refine lN (k:=0) hT (by omega) (by omega) λc1 _=>?_;have yes:s.i<T.aG.length->s.b<0:=λh=>by
  rcases zZ s.b 0 with Z|Z
  .exact Z
  .have:=hb Z;omega
 have J:∀{H:aC} {c':Nat},s.i<T.aG.length->cE (λr O (_:Nat)=>∃W,O=[PO T e tp W]/\Le T.aG.length s W/\Av [] r/\((r=.bool true/\W=⟨s.i+1,s.b⟩/\s.i<T.aG.length/\s.b<0)\/(r=.bool false/\W=s))) (.bool true)
   (PO T e tp ⟨s.i+1,s.b⟩::H) c':=λh=>xI (n:=0) ⟨by show s.i<=s.i+1;omega,⟨by show s.i+1<=_;omega,λZ=>by have:=yes h;have W:0<=s.b:=Z;omega⟩,id⟩ .bool (.inl ⟨rfl,rfl,h,yes h⟩)
 cases Z:j4 T (s.i+0) 6 E
 .simp;refine lN (k:=0) hT (by omega) (by omega) λc1 _=>?_;cases W:j4 T (s.i+0) 3 E
  .simp;exact xI (n:=0) (.refl ⟨hi,hb⟩) .bool (.inr ⟨rfl,rfl⟩)
  .simp[PO,hw,aR,-Int.natCast_add];exact J (vR W)
 .simp[PO,hw,aR,-Int.natCast_add];exact J (vR Z)
def want_p (J:iG T e) {s:PS} (hs:s.ok T.aG.length) {E}:PC T e tp 213 [.str E] s λr E=>Lt T.aG.length s E:=by
 intro c;refine cO F213 ?_;simp[F213];refine uB (YI J hs) λr E E _ E h=>?_;rcases h with⟨rfl,rfl,W,W⟩|⟨rfl,rfl⟩
 .simp;exact xI (n:=0) E (.aX (by simp)) ⟨E,λ_=>by show s.i<s.i+1;omega⟩
 .simp;refine uB (EL J hs) λr E E _ E ⟨_,W,J⟩=>?_;simp;exact xI (n:=0) E (.aX (by simp)) ⟨E,λh=>by omega⟩
def NmP (n:Nat) (s:PS) (r:AV) (s':PS):Prop:=∃x:aA,r=.str x/\x.length<=4000/\Lt n s s'
def name_p (Z:iG T e) {s:PS} (hs:s.ok T.aG.length) {J:Int}:PC T e tp 182 [.I J] s (NmP T.aG.length s):=by
 have E:=Z.n;obtain⟨hi,hb⟩:=hs;intro c;refine cO F182 ?_;unfold F182;have hw:IntKind.i64.wrap ((s.i:Int)+1)=((s.i+1:Nat):Int):=by rw[wrap64 (by omega) (by omega)];omega
 have hw2:IntKind.i64.wrap (((s.i+1:Nat):Int)-1)=((s.i:Nat):Int):=by rw[wrap64 (by omega) (by omega)];omega
 simp;refine at_F (k:=0) Z (by omega) (by omega) λE _=>?_;have no:∀{H:aC} {W:Nat} {E:Env},E 0=.ptr 0 tp 4 0 0->bO aE 212 [.ptr 0 tp 4 0 0] (PO T e tp s::H) W λr O c2=>∃s',O=PO T e tp s'::H/\Lt T.aG.length s s':=λ_=>
  uB (EL Z ⟨hi,hb⟩) λr s2 c2 _ E ⟨_,h2,h3⟩=>⟨s2,rfl,E,λh=>by omega⟩
 cases W:j4 T (s.i+0) J []
 .simp;refine uB (EL Z ⟨hi,hb⟩) λr s2 c2 _ E ⟨_,h2,h3⟩=>?_;simp;exact xI (n:=0) E .str ⟨[],rfl,by simp,E,λh=>by omega⟩
 .have J:=vR W;obtain⟨t,ht⟩:∃t,T.aG[s.i]?=some t:=⟨_,bC J⟩
  have hA:=(Z.ok t (bA ht)).1;simp[PO,aL ht];refine xP (sM (by unfold mx;omega)) .bool λc2 _=>?_;cases h2:(isName t.bR&&!sO t.bR)
  .simp;refine uB (s:=s) (EL Z ⟨hi,hb⟩) λr s2 c2 _ E ⟨_,h2,h3⟩=>?_;simp;exact xI (n:=0) E .str ⟨[],rfl,by simp,E,λh=>by omega⟩
  .simp[hw,hw2,aR,aL ht,-Int.natCast_add];have E:s.b<0:=by
    rcases zZ s.b 0 with W|W
    .exact W
    .have:=hb W;simp at J;omega
   have E:s.i<T.aG.length:=J;have E:Le T.aG.length s ⟨s.i+1,s.b⟩:=⟨by show s.i<=s.i+1;omega,⟨by show s.i+1<=_;omega,λW=>by have h2:0<=s.b:=W;omega⟩,id⟩
   exact xI (s:=s) (s':=⟨s.i+1,s.b⟩) (n:=0) E .str ⟨t.bR,rfl,hA,E,λ_=>by show s.i<s.i+1;omega⟩
end
set_option maxRecDepth 100000
def nE {P} {B} {Q} {e} {H} {c} (I:Nat->Env->aC->Nat->Prop) m0 (h0:I m0 e H c)
  (hs:∀m e H c,I m e H c->∀N:Env->aC->Nat->Prop,(∀Z e' W E c',Z<m->E.Sublist W->I Z e' E c'->N e' W c')->cC P B (iO N Q) e H c):cC P (.loop B) Q e H c:=by refine⟨λe H c=>∃m,I m e H c,λe H c=>least λm=>I m e H c,⟨H,bY _,m0,h0⟩,λe H c ⟨m1,J⟩=>?_⟩;have hI:=IW (p:=λm=>I m e H c) ⟨m1,J⟩;exact hs _ e H c hI _ λZ e' W E c' hlt J W=>⟨E,J,⟨Z,W⟩,rV (least_le (p:=λm=>I m e' E c') W) hlt⟩
def vX (n:Nat) (s:PS) (r:AV) (s':PS):Prop:=∃x:aQ,r=.agg x.enc/\cU 20000 x/\Lt n s s'
def dF (T:SL dB) (e:Int) (k:Nat) (f:Nat) (E:aF AV):Prop:=∀tp (s:PS),s.ok T.aG.length->s.mu T.aG.length<=k->PC T e tp f E s (vX T.aG.length s)
def pQ {m}:cU m vD:=.mk (by simp) (by simp) λe E=>by simp at E
section
variable {T:SL dB} {e:Int} {tp c:Nat} {K:aD} {H:aC} {s:PS}
def dY {f} {W} {k} (hf:dF T e k f W) (hs:s.ok T.aG.length) (Z:s.mu T.aG.length<=k) (kk:∀x E J,c<=J->cU 20000 x->Lt T.aG.length s E->E.ok T.aG.length->K (.agg (aQ.enc x)) (PO T e tp E::H) J):
  bO aE f (.ptr 0 tp 4 0 0::W) (PO T e tp s::H) c K:=
 uB (hf tp s hs Z) λr E J hc _ ⟨x,hr,Z,W⟩=>by subst hr;exact kk x E J hc Z W W.le.ok
def mQ {J:Int} (Z:iG T e) (hs:s.ok T.aG.length) (kk:∀y E W,c<=W->y.length<=4000->Lt T.aG.length s E->E.ok T.aG.length->K (.str y) (PO T e tp E::H) W):
  bO aE 182 [.ptr 0 tp 4 0 0,.I J] (PO T e tp s::H) c K:=
 uB (name_p Z hs) λr E W hc _ ⟨x,hr,Z,J⟩=>by subst hr;exact kk x E W hc Z J J.le.ok
def iE {E} (Z:iG T e) (hs:s.ok T.aG.length) (kk:∀r J W,c<=W->Lt T.aG.length s J->J.ok T.aG.length->K r (PO T e tp J::H) W):
  bO aE 213 [.ptr 0 tp 4 0 0,.str E] (PO T e tp s::H) c K:=
 uB (want_p Z hs) λr J W Z _ E=>kk r J W Z E E.le.ok
def eM {J} (hT:iG T e) (hs:s.ok T.aG.length) (Z:∀W E,c<=E->s.i<T.aG.length->s.b<0->W.i=s.i+1->Lt T.aG.length s W->W.ok T.aG.length->K (.bool true) (PO T e tp W::H) E)
  (k0:∀E,c<=E->K (.bool false) (PO T e tp s::H) E):bO aE 180 [.ptr 0 tp 4 0 0,.str J] (PO T e tp s::H) c K:=
 uB (YI hT hs) λr W E W J h=>by
  rcases h with⟨rfl,rfl,h1,h2⟩|⟨rfl,rfl⟩
  .exact Z _ E W h1 h2 rfl ⟨J,λ_=>by show s.i<s.i+1;omega⟩ J.ok
  .exact k0 E W
def uD (J:iG T e) (hs:s.ok T.aG.length) (kk:∀E W,c<=W->Lt T.aG.length s E->E.ok T.aG.length->0<=E.b->K (.agg vD.enc) (PO T e tp E::H) W):
  bO aE 212 [.ptr 0 tp 4 0 0] (PO T e tp s::H) c K:=
 uB (EL J hs) λr E W hc J ⟨Z,h1,_⟩=>by subst Z;exact kk E W hc ⟨J,λh=>by omega⟩ J.ok h1
def jC {E} {aM} {x} {G} (hv:NV G aM x) (W:Lt T.aG.length E s) (Z:cU 20000 x):
  pU (λr O (_:Nat)=>∃J,O=[PO T e tp J]/\Le T.aG.length E J/\Av [] r/\vX T.aG.length E r J) (.agg aM) (PO T e tp s::G) c:=λhn _=>by
 refine⟨G,[PO T e tp s],[PO T e tp s],.agg x.enc,(eX _).cons_cons _,.refl _ _,λo E=>iI _ E,λt ht E=>?_,hv,s,rfl,W.le,yZ x,x,rfl,Z,W⟩;have J:t=tp:=by simpa[aV] using ht
 rw[J] at E;have J:(aV (PO T e tp s::G)).Nodup:=hn;simp only[aV,gJ,qA] at J;exact J.1 E
def fD {k:Int} {t} {a:AV} (Z:a.cell=true) (J:Av (aV H) a) (kk:∀E,c<=E->K (.agg [.I k,.I 0,.str t,a]) H E):bO aE 179 [.I k,.str t,a] H c K:=by
 refine bZ (res:=.agg [.I k,.I 0,.str t,a]) (fO F179 λc=>?_) (.agg λj x E=>?_) kk
 .unfold F179;have W:∀K:aF AV->Prop,lL a K=K [a]:=λK=>by cases a<;>first|rfl|cases Z
  simp[W,aR];exact aS ⟨rfl,rfl⟩
 .have h:=bA E;simp at h;rcases h with rfl|rfl|rfl|rfl
  .exact .int
  .exact .int
  .exact .str
  .exact J
end
def target_s {x:aQ}:bM aE 221 [.agg x.enc] Bo:=by
 intro E;refine cO KW ?_;simp[KW];refine nE (λm e H J=>∃x:aQ,SizeOf.sizeOf x<=m/\e 1=.ptr 0 E 4 0 0/\H=[⟨false,E,4,[x.enc]⟩]) _ ⟨x,bB _,rfl,rfl⟩ ?_;intro m e H c ⟨x,hx,W,E⟩ N hN;subst E;have E:∀{b:Bool} {H:aC} {J:Nat},cE (λr Z _=>Z=[]/\Bo r) (.bool b) H J:=aS ⟨rfl,_,rfl⟩;by_cases Z:x.aJ=7
 .by_cases h2:(x.aP.aG.length:Int)=2
  .obtain⟨y,hy⟩:∃y,x.aP.aG[0]?=some y:=⟨_,bC (by omega)⟩
   have J:x.aP.aG.length=2:=by omega
   simp[W,Z,J,aL hy];refine hN (SizeOf.sizeOf y) _ _ _ _ ?_ (bY _) ⟨y,bB _,W,rfl⟩;have hm:=bA hy;cases x with
   |mk k n s I=>exact fM (D2 (k:=k) (n:=n) (s:=s) hm) hx
  .have J:¬x.aP.aG.length=2:=by omega
   simp[W,Z,h2];exact E
 .by_cases J:x.aJ=4
  .simp[W,J];exact E
  .simp[W,Z,J];exact E
def MH {H} {c} {K:aD} {aM} {x} (W:NV H aM x) (k:∀b J,c<=J->K (.bool b) H J):bO aE 221 [.agg aM] H c K:=
 E4 (Q:=λ_ r=>Bo r) (λc=>(target_s (x:=x) c).mono λr E _ _ ⟨Z,b,E⟩=>⟨Z,⟨b,E⟩,by subst E;exact XE _ _⟩) (.cons W .nil) λr J W ⟨b,E⟩ _=>by subst E;exact k b J W
section
variable {T:SL dB} {e:Int} {k:Nat}
def postfix_l (W:dF T e k 220 [.bool true]):dF T e k 322 []:=by intro tp s E J c;refine cN F322 λ_ _=>?_;simp[F322];refine dY W E J λx E E _ E J W=>?_;simp;exact jC (.refl _ _) J E
def AI (J:iG T e):dF T e k 222 []:=by intro tp s E W c;refine cN F222 λ_ _=>?_;simp[F222];refine mQ J E λy E E _ E E J=>?_;simp;refine fD rfl .aU λJ _=>?_;simp;exact jC (x:=.mk 4 0 y .nil) (yR (.refl _)) E (.mk (by omega) (by simp) (by simp))
def paren_l (J:iG T e) (hE:dF T e k 219 []):dF T e k 216 []:=by intro tp s E Z c;refine cN F216 λ_ _=>?_;simp[F216];refine iE J E λ_ E E _ E W=>?_;simp;refine dY hE W (cL E.le.mu Z) λx W W _ W l2 Z=>?_;simp;refine iE J Z λ_ J J _ J Z=>?_;simp;exact jC (.refl _ _) (E.trans (l2.trans J)) W
def unary_l (hT:iG T e) (hP:dF T e k 322 []) (hU:∀E,E<k->dF T e E 318 []):dF T e k 318 []:=by
 intro tp s hs hk c;refine cN F318 λ_ _=>?_;simp[F318];refine eM hT hs (λJ Z _ hi hb _ E W=>?_) λZ _=>?_
 .simp;refine dY (hU (J.mu T.aG.length) (fM (E.mu hb) hk)) W (bB _) λx s2 c2 _ x2 l2 o2=>?_;simp[aR];exact jC (x:=.mk 9 1 [] (.mk _ [x])) (yR (D1 (aN:=[x.enc]) (by simp) rfl (.cons (.refl _ _) .nil))) (E.trans l2) (.mk (by simp) (by simp) (by simp;exact x2))
 simp;refine eM hT hs (λJ Z _ hi hb _ E W=>?_) λZ _=>?_
 .simp;refine dY (hU (J.mu T.aG.length) (fM (E.mu hb) hk)) W (bB _) λx s2 c2 _ x2 l2 o2=>?_;simp[aR];exact jC (x:=.mk 9 2 [] (.mk _ [x])) (yR (D1 (aN:=[x.enc]) (by simp) rfl (.cons (.refl _ _) .nil))) (E.trans l2) (.mk (by simp) (by simp) (by simp;exact x2))
 simp;refine dY hP hs hk λx J Z _ J E W=>?_;simp;exact jC (.refl _ _) E J
def coalesce_l (hT:iG T e) (J:dF T e k 312 [.I 4]) (hU:∀E,E<k->dF T e E 288 []):dF T e k 288 []:=by
 intro tp s E Z c;refine cN F288 λ_ _=>?_;simp[F288];refine dY J E Z λx E c1 _ J E W=>?_;simp;refine eM hT W (λs2 W _ W hb _ W o2=>?_) λc1 _=>?_
 .simp;refine dY (hU (s2.mu T.aG.length) (fM (fM (W.mu hb) E.le.mu) Z)) o2 (bB _) λy Z Z _ Z l3 o3=>?_;simp;refine fD rfl .ref λc4 _=>?_;simp;exact jC (x:=.mk 13 0 [] (.mk _ [x,y])) (yR (D1 (aN:=[x.enc,y.enc]) (by simp) rfl (.cons (.refl _ _) (.cons (.refl _ _) .nil)))) (E.trans (W.trans l3)) (.mk (by simp) (by simp) (by simp;exact⟨J,Z⟩))
 simp;exact jC (.refl _ _) E J
def cond_l (hT:iG T e) (J:dF T e k 288 []) (hE:∀E,E<k->dF T e E 219 []) (hU:∀E,E<k->dF T e E 258 []):dF T e k 258 []:=by
 intro tp s E Z c;refine cN F258 λ_ _=>?_;simp[F258];refine dY J E Z λx E c1 _ J E W=>?_;simp;refine eM hT W (λW W _ W hb _ l2 o2=>?_) λc1 _=>?_
 .have W:=fM (fM (l2.mu hb) E.le.mu) Z;simp;refine dY (hE _ W) o2 (bB _) λy Z Z _ x3 l3 Z=>?_;simp;refine iE hT Z λ_ Z c4 _ Z o4=>?_;simp;refine dY (hU _ (rV (cL Z.le.mu l3.le.mu) W)) o4 (bB _) λz W W _ W l5 o5=>?_;simp;refine fD rfl .ref λc4 _=>?_;simp;exact jC (x:=.mk 14 0 [] (.mk _ [x,y,z])) (yR (D1 (aN:=[x.enc,y.enc,z.enc]) (by simp) rfl (.cons (.refl _ _) (.cons (.refl _ _) (.cons (.refl _ _) .nil))))) (E.trans (l2.trans (l3.trans (Z.trans l5)))) (.mk (by simp) (by simp) (by simp;exact⟨J,x3,W⟩))
 simp;exact jC (.refl _ _) E J
end
inductive KL (j:Nat):AV->aC->List (List AV)->Prop where
 |nil:KL j .aU [] []
 |mk {t m:Nat} {aN:List (List AV)} (h:m=aN.length) (hA:∀aM,aM∈aN->∀a,a∈aM->Av [] a):KL j (.ref j t 4 m) [⟨false,t,4,aN⟩] aN
def KL.of {j t m} {aN rows':aF (aF AV)} (e:aN=rows') (h:m=aN.length) (E:∀aM,aM∈rows'->∀a,a∈aM->Av [] a):KL j (.ref j t 4 m) [⟨false,t,4,aN⟩] rows':=by subst e;exact .mk h E
def KL.av {j} {a} {O} {aN} (h:KL j a O aN):Av [] a:=by cases h;exact .aU;exact .ref
def KL.name {j} {a} {O} {aN} (h:KL j a O aN) i:∃E,View [] a E/\KL i E O aN:=by
 cases h with
 |nil=>exact⟨.aU,.refl _,.nil⟩
 |mk h E=>exact⟨_,.name,.mk h E⟩
def KL.rowsAv {j} {a} {O} {aN} (h:KL j a O aN):∀o,o∈O->iX [] o:=by
 cases h with
 |nil=>intro o E;simp at E
 |mk h Z=>intro o E r i x b J W;simp at E;subst E;exact Z x (bA J) b (bA W)
def KL.aaM {j} {a} {O} {aN} (h:KL j a O aN):∀aM,aM∈aN->∀b,b∈aM->Av [] b:=by
 cases h with
 |nil=>intro r E;simp at E
 |mk h E=>exact E
def NK (x:aQ):∀a,a∈x.enc->Av [] a:=λa J=>by
 cases yZ x with
 |agg h=>obtain⟨j,E⟩:=lS.1 J;exact h j a E
 |any _ h=>exact .any _ h
def SZ {aN:aF (aF AV)} (h:∀aM,aM∈aN->∀b,b∈aM->Av [] b) {aM:aF AV} (J:∀b,b∈aM->Av [] b):∀r,r∈aN++[aM]->∀b,b∈r->Av [] b:=λr E=>by
 rcases dI.1 E with E|E
 .exact h r E
 .simp at E;subst E;exact J
def xX (T:SL dB) (e:Int) (k f:Nat) (pre:aF AV):Prop:=∀(tp:Nat) (s:PS) (a:AV) (O:aC) (E:aF (aF AV)),s.ok T.aG.length->s.mu T.aG.length<=k->KL 1 a O E->E.length<=6000->∀c,
 cA aE f (.ptr 0 tp 4 0 0::(pre++[a])) (PO T e tp s::O) c λr Z _=>∃J L W,Z=PO T e tp J::W/\KL 1 r W (E++List.map aQ.enc L)/\Lt T.aG.length s J/\(∀x,x∈L->cU 20000 x)/\L.length+s.i<=J.i+1
section
variable {T:SL dB} {e:Int} {tp c k:Nat} {K:aD} {s:PS}
def B8 {f} {pre} {a} {R O:aC} {aN:aF (aF AV)} (hf:xX T e k f pre) (hs:s.ok T.aG.length) (hk:s.mu T.aG.length<=k) (ha:KL (R.length+1) a O aN) (hr:aN.length<=6000)
  (kk:∀r J L W c',c<=c'->KL (R.length+1) r W (aN++List.map aQ.enc L)->Lt T.aG.length s J->J.ok T.aG.length->(∀x,x∈L->cU 20000 x)->L.length+s.i<=J.i+1->K r (PO T e tp J::(R++W)) c'):
  bO aE f (.ptr 0 tp 4 0 0::(pre++[a])) (PO T e tp s::(R++O)) c K:=by
 intro Z hlt;obtain⟨a1,hv,E⟩:=ha.name 1;have hV:∀pre:aF AV,fG [] (pre++[a]) (pre++[a1]):=λpre=>by
  induction pre with
  |nil=>exact .cons hv .nil
  |cons x l ih=>exact .cons (.refl _) ih
 obtain⟨h1,h2⟩:=(fG.cons (.refl (.ptr 0 tp 4 0 0)) (hV pre)).spec;have et:∀X:aC,aV (PO T e tp s::(R++X))=tp::(aV R++aV X):=λX=>by simp[aV]
 rw[et] at Z hlt;obtain⟨n1,n2⟩:=qA.1 Z;obtain⟨n3,Z,n5⟩:=mI.1 n2;refine⟨PO T e tp s::O,[],_,_,(LG R O).cons_cons _,by simp,by simp[aV],h1,h2,hf tp s a1 O aN hs hk E hr c,λr E c' hc ⟨J,L,W,Z,E,q2,q3,q4⟩ ho hd=>?_⟩;subst Z;obtain⟨r',hv',Z⟩:=E.name (R.length+1);have ed:aV (PO T e tp J::W)=tp::aV W:=rfl;have E:aV (PO T e tp s::O)=tp::aV O:=rfl;rw[ed] at hd ho;rw[E] at ho;obtain⟨d1,d2⟩:=qA.1 hd;refine⟨PO T e tp J::(R++W),r',λo h=>?_,?_,hv',Z.av,λo _ h=>?_,kk r' J L W c' hc Z q2 q2.le.ok q3 q4⟩
 .rcases fK.1 h with rfl|h
  .exact .inl (kB ..)
  .rcases dI.1 h with h|h
   .refine .inr ⟨iI _ (kC _ h),?_⟩;rw[E];intro E;rcases fK.1 E with E|E
    .exact n1 (E▸kC _ (iJ h))
    .exact n5 _ (iJ h) _ E rfl
   .exact .inl (iI _ h)
 .have e2:aV (PO T e tp J::(R++W))=tp::(aV R++aV W):=by simp[aV]
  rw[e2];refine qA.2 ⟨λE=>?_,mI.2 ⟨n3,d2,λx J y W=>?_⟩⟩
  .rcases dI.1 E with E|E
   .exact n1 (kC _ E)
   .exact d1 E
  .intro E;subst E;have E:x<c:=hlt x (iI _ (kC _ J));rcases fK.1 (ho x E (iI _ W)) with h|h
   .exact n1 (h▸kC _ J)
   .exact n5 x J x h rfl
 .rcases fK.1 h with rfl|h
  .exact OK _ _ _ _
  .exact Z.rowsAv o h
def BR {E:PS} {j} {a} {X O:aC} {aN} {L:aF aQ} (ha:KL j a O (aN++List.map aQ.enc L)) (hX:O.Sublist X) (hl:Lt T.aG.length E s) (hL:∀x,x∈L->cU 20000 x) (Z:L.length+E.i<=s.i+1):
  pU (λr O' (_:Nat)=>∃J L W,O'=PO T e tp J::W/\KL 1 r W (aN++List.map aQ.enc L)/\Lt T.aG.length E J/\(∀x,x∈L->cU 20000 x)/\L.length+E.i<=J.i+1) a (PO T e tp s::X) c:=λ_ _=>by
 obtain⟨E,J,E⟩:=ha.name 1;exact fI (hX.cons_cons _) J ⟨s,L,O,rfl,E,hl,hL,Z⟩
structure KI (T:SL dB) (e:Int) (tp:Nat) (s0:PS) (aN:List (List AV)) (s:PS) (G O:aC) (a:AV) (L:List aQ) (H:aC):Prop where
 ok:s.ok T.aG.length
 lt:Lt T.aG.length s0 s
 H:H=PO T e tp s::(G++O)
 kl:KL (G.length+1) a O (aN++List.map aQ.enc L)
 nok:∀x,x∈L->cU 20000 x
 len:L.length+s0.i<=s.i+if s.b<0 then 0 else 1
def IT aN L (x:aQ):aN++List.map aQ.enc L++[x.enc]=aN++List.map aQ.enc (L++[x]):=by simp
def IF {L} {x} {m} (h:∀y,y∈L->cU m y) (J:cU m x):∀y,y∈L++[x]->cU m y:=λy E=>by
 rcases dI.1 E with E|E
 .exact h y E
 .simp at E;subst E;exact J
def rI {n} (h:n<=20000):(n+1)*56<=140737488355328/\n+1<=mx/\1*56<=140737488355328/\1<=mx:=by unfold mx;omega
def args_l (hT:iG T e) (hE:∀k',k'<k->dF T e k' 219 []):xX T e k 259 []:=by
 intro tp s a O aN hs hk ha hr c
 have hn:=hT.n
 refine cN F259 λ_ _=>?_
 unfold F259
 simp
 refine iE hT hs λ_ s1 c1 _ l1 o1=>?_
 simp
 refine eM hT o1 (λs2 c2 _ hi hb hi2 l2 o2=>?_) λc1 _=>?_
 .simp
  exact BR (L:=[]) (by simpa using ha) (.refl _) (l1.trans l2) (by simp) (by simp;have:=l1.le.i;omega)
 simp
 refine nE (λm e' H' c'=>∃s2 G O2 a2 L,KI T e tp s aN s2 G O2 a2 L H'/\s2.mu T.aG.length<=m/\e' 0=.ptr 0 tp 4 0 0/\e' 1=a2) _ ⟨s1,[],O,a,[],⟨o1,l1,rfl,by simpa using ha,by simp,by have:=l1.le.i;simp;omega⟩,bB _,by simp[aK],by simp[aK]⟩ ?_
 intro m e' H' c' ⟨s2,G,O2,a2,L,I,hm,e0,e1⟩ N hN
 obtain⟨o2,l2,hH,kl,nk,hlen⟩:=I
 subst hH
 have hi2:=o2.1
 by_cases hb:s2.b<0
 rotate_left
 .rw[if_neg hb] at hlen
  simp[e0,e1,hb]
  exact BR kl (LG _ _) l2 nk hlen
 rw[if_pos hb] at hlen
 obtain⟨r1,r2,r3,r4⟩:=rI (n:=(aN++List.map aQ.enc L).length) (by simp;omega)
 simp[e0,e1,hb]
 refine dY (hE _ (fM (l2.mu (l2.le.b hb)) hk)) o2 (bB _) λx s3 c3 _ x3 l3 o3=>?_
 have hlen3:(L++[x]).length+s.i<=s3.i+if s3.b<0 then 0 else 1:=by
  have:=l3.le.i
  by_cases h3:s3.b<0
  .have:=l3.lt h3;rw[if_pos h3];simp;omega
  .rw[if_neg h3];simp;omega
 have hL3:=IF nk x3
 have back:∀{s4:PS} {G' O':aC} {a':AV} {e4:Env} {H4:aC} {c4:Nat},s4.i=s3.i+1->s3.b<0->Lt T.aG.length s3 s4->KL (G'.length+1) a' O' (aN++List.map aQ.enc (L++[x]))->(PO T e tp s4::(G'++O')).Sublist H4->e4 0=.ptr 0 tp 4 0 0->e4 1=a'->N e4 H4 c4:=
  λ{s4 G' O' a' e4 H4 c4} hi4 hb3 l4 k4 hs4 f0 f1=>hN (s4.mu T.aG.length) _ _ _ _ (fM (l4.mu hb3) (cL l3.le.mu hm)) hs4 ⟨s4,G',O',a',L++[x],⟨l4.le.ok,l2.trans (l3.trans l4),rfl,k4,hL3,by rw[if_pos hb3] at hlen3;omega⟩,bB _,f0,f1⟩
 have stop:∀{s4:PS} {X O':aC} {j:Nat} {a':AV} {c4:Nat},Lt T.aG.length s3 s4->KL j a' O' (aN++List.map aQ.enc (L++[x]))->O'.Sublist X->
   pU (λr O' (_:Nat)=>∃s' L O2,O'=PO T e tp s'::O2/\KL 1 r O2 (aN++List.map aQ.enc L)/\Lt T.aG.length s s'/\(∀x,x∈L->cU 20000 x)/\L.length+s.i<=s'.i+1) a' (PO T e tp s4::X) c4:=λ{s4 X O' j a' c4} l4 k4 hs4=>
  BR k4 hs4 (l2.trans (l3.trans l4)) hL3 (by have:=l4.le.i;split at hlen3<;>omega)
 have hA:=SZ kl.aaM (NK x)
 rw[IT] at hA
 generalize hR:aN++List.map aQ.enc L=rw_ at kl r1 r2
 have hR2:rw_++[x.enc]=aN++List.map aQ.enc (L++[x]):=by rw[<-hR,IT]
 cases kl with
 |nil=>
  simp[e0,r3,r4]
  refine eM hT o3 (λs4 c4 _ hi hb hi4 l4 o4=>?_) λc4 _=>?_
  .simp
   exact back (G':=G++[⟨false,c3,4,[x.enc]⟩]) (O':=[⟨false,c3+1,4,[x.enc]⟩]) hi4 hb l4 (.of hR2 rfl hA) (by simp) (by simp[aK,e0]) (by simp[aK])
  .simp[e0]
   refine iE hT o3 λ_ s5 c5 _ l5 o5=>?_
   simp
   exact stop (O':=[⟨false,c3+1,4,[x.enc]⟩]) l5 (.of hR2 rfl hA) (by simp)
 |mk h hA0=>
  subst h
  simp[e0,r1,r2]
  refine eM hT o3 (λs4 c4 _ hi hb hi4 l4 o4=>?_) λc4 _=>?_
  .simp
   exact back (G':=G) (O':=[⟨false,c3+1,4,rw_++[x.enc]⟩]) hi4 hb l4 (.of (m:=rw_.length+1) hR2 (by simp) hA) (by simp) (by simp[aK,e0]) (by simp[aK])
  .simp[e0]
   refine iE hT o3 λ_ s5 c5 _ l5 o5=>?_
   simp
   exact stop (O':=[⟨false,c3+1,4,rw_++[x.enc]⟩]) l5 (.of hR2 (by simp) hA) (by simp)
end
structure Nb (G:aC) (aM:List AV) (x:aQ):Prop where
 v:NV G aM x
 av:∀a,a∈aM->Av [] a
 ok:cU 20000 x
def Nb.len {G} {aM:aF AV} {x} (h:Nb G aM x):aM.length=4:=h.v.len
def Nb.all {G} {aM:aF AV} {x} (h:Nb G aM x):aM.take 4=aM:=fJ (by rw[h.len];omega)
def Nb.mono {G G'} {aM} {x} (h:Nb G aM x) (hs:∀o,o∈G->o∈G'):Nb G' aM x:=⟨h.v.mono hs,h.av,h.ok⟩
def Nb.enc {G} {x:aQ} (h:cU 20000 x):Nb G x.enc x:=⟨.refl _ _,NK x,h⟩
inductive iN (G:aC):List (List AV)->List aQ->Prop where
 |nil:iN G [] []
 |cons {aM:List AV} {x:aQ} {aN:List (List AV)} {L:List aQ} (h:Nb G aM x) (t:iN G aN L):iN G (aM::aN) (x::L)
def iN.rv {G} {aN} {L} (h:iN G aN L):vV G aN L:=by
 induction h with
 |nil=>exact .nil
 |cons h t E=>exact .cons h.v E
def iN.ok {G} {aN} {L} (h:iN G aN L):∀e,e∈L->cU 20000 e:=by
 induction h with
 |nil=>intro e E;simp at E
 |cons h t J=>intro e E;rcases fK.1 E with rfl|E;exact h.ok;exact J e E
def iN.mono {G G'} (hs:∀o,o∈G->o∈G') {aN} {L} (h:iN G aN L):iN G' aN L:=by
 induction h with
 |nil=>exact .nil
 |cons h t E=>exact .cons (h.mono hs) E
def iN.rK {G}:∀{L:aF aQ},(∀e,e∈L->cU 20000 e)->iN G (List.map aQ.enc L) L
 |[],_=>.nil
 |x::L,h=>.cons (.enc (h x (kB ..))) (iN.rK λe E=>h e (iI _ E))
def iN.append {G} {aN E} {L J} (h:iN G aN L) (W:iN G E J):iN G (aN++E) (L++J):=by
 induction h with
 |nil=>exact W
 |cons h t E=>exact .cons h E
def iN.len {G} {aN:aF (aF AV)} {L:aF aQ} (h:iN G aN L):aN.length=L.length:=h.rv.len
def iC {G} {k n:Int} {s:aA} {j t m} {aN:aF (aF AV)} {L:aF aQ} (E:(⟨false,t,4,aN⟩:aH)∈G) (J:m=aN.length) (h:iN G aN L) (hs:s.length<=20000) (W:L.length<=20000):
  Nb G [.I k,.I n,.str s,.ref j t 4 m] (.mk k n s (.mk t L)):=
 ⟨yR (D1 E J h.rv),by simp only[fK,nQ,or_false];rintro a (rfl|rfl|rfl|rfl);exact .int;exact .int;exact .str;exact .ref,.mk hs W h.ok⟩
def nD {G} {k n:Int} {s:aA} (hs:s.length<=20000):Nb G [.I k,.I n,.str s,.aU] (.mk k n s .nil):=
 ⟨yR (.refl _),by simp only[fK,nQ,or_false];rintro a (rfl|rfl|rfl|rfl);exact .int;exact .int;exact .str;exact .aU,.mk hs (by simp) (λe E=>by simp at E)⟩
section
variable {T:SL dB} {e:Int} {tp c k:Nat} {s:PS}
def fY {E} {aM} {x} {G} (W:Nb G aM x) (Z:Lt T.aG.length E s):
  pU (λr O (_:Nat)=>∃J,O=[PO T e tp J]/\Le T.aG.length E J/\Av [] r/\vX T.aG.length E r J) (.agg aM) (PO T e tp s::G) c:=jC W.v Z W.ok
def chain_l {b} (hT:iG T e) (J:dF T e k 257 []) (hE:∀E,E<k->dF T e E 219 []) (hA:∀E,E<k->xX T e E 259 []):dF T e k 220 [.bool b]:=by
 intro tp s E hk c;have W:=hT.n;refine cN F220 λ_ _=>?_;simp[F220];refine dY J E hk λx W E _ J Z o1=>?_;simp;refine nE (λm e' E c'=>∃s2 t1 t2 r1 aM x G,s2.mu T.aG.length<=m/\s2.ok T.aG.length/\Lt T.aG.length s s2/\Nb G aM x/\e' 0=.ptr 0 tp 4 0 0/\e' 1=.bool b/\e' 4=.ptr 1 t1 4 0 0/\e' 5=.ptr 2 t2 4 0 0/\List.length r1=4/\
  E=PO T e tp s2::⟨false,t1,4,[r1]⟩::⟨false,t2,4,[aM]⟩::G) _ ⟨W,_,_,_,_,x,[],bB _,o1,Z,.enc J,rfl,rfl,rfl,rfl,rfl,rfl⟩ ?_
 intro m e' E c' ⟨s2,t1,t2,r1,aM,x,G,hm,o2,l2,nb,Z,e1,e4,W,hr1,E⟩ N hN;subst E;have J:=nb.all;have E:=nb.len;by_cases hb:s2.b<0;rotate_left
 .simp[Z,e4,W,hb,J,E,hr1];exact fY (nb.mono (by simp +contextual)) l2
 have m2:s2.mu T.aG.length<k:=fM (l2.mu (l2.le.b hb)) hk;have back:∀{s4:PS} {x:aQ} {r2 aM:aF AV} {X:aC} {e':Env} {c':Nat},Lt T.aG.length s2 s4->Nb X aM x->List.length r2=4->e' 0=.ptr 0 tp 4 0 0->e' 1=.bool b->e' 4=.ptr 1 t1 4 0 0->e' 5=.ptr 2 t2 4 0 0->
   N e' (PO T e tp s4::⟨false,t1,4,[r2]⟩::⟨false,t2,4,[aM]⟩::X) c':=λ{s4 x r2 aM X e' c'} l4 nb' hr2 f0 f1 f4 f5=>
  hN (s4.mu T.aG.length) _ _ _ _ (fM (l4.mu hb) hm) (bY _) ⟨s4,t1,t2,r2,aM,x,X,bB _,l4.le.ok,l2.trans l4,nb',f0,f1,f4,f5,hr2,rfl⟩
 have args:∀{s3:PS} {c3:Nat} {K:aD} {o1 o2:aH},s3.ok T.aG.length->s3.mu T.aG.length<k->(∀j t m c' s4 X (L:aF aQ),Lt T.aG.length s3 s4->s4.ok T.aG.length->(⟨false,t,4,aM::List.map aQ.enc L⟩:aH)∈X->m=L.length+1->L.length<=10000->(∀o,o∈G->o∈X)->(∀e,e∈L->cU 20000 e)->
   K (.ref j t 4 m) (PO T e tp s4::o1::o2::X) c')->bO aE 259 [.ptr 0 tp 4 0 0,.ref (G.length+3) c3 4 1] (PO T e tp s3::o1::o2::(G++[⟨false,c3,4,[aM]⟩])) (c3+1) K:=λ{s3 c3 K o1 o2} o3 h3 kk=>by
  refine B8 (pre:=[]) (R:=o1::o2::G) (O:=[⟨false,c3,4,[aM]⟩]) (aN:=[aM]) (hA _ h3) o3 (bB _) (.mk rfl (by simpa using nb.av)) (by simp) λr s4 L O2 c4 _ kl l4 o4 hL hn4=>?_;have hlen:L.length<=10000:=by have:=o4.1;omega
  generalize hrw:[aM]++List.map aQ.enc L=rw_ at kl;cases kl with
  |nil=>simp at hrw
  |mk h hA=>
   subst hrw;exact kk _ _ _ c4 s4 (G++[_]) L l4 o4 (by simp) (by rw[h];simp) hlen (λo ho=>kC _ ho) hL
 simp[Z,hb];refine eM hT o2 (λs3 c3 _ hi hb3 hi3 l3 o3=>?_) λc3 _=>?_
 .have m3:s3.mu T.aG.length<k:=rV l3.le.mu m2
  have idx:∀{s4:PS} {c4:Nat} {e4:Env} {K:aD},Lt T.aG.length s2 s4->s4.ok T.aG.length->s4.mu T.aG.length<k->(∀y s5 c5,cU 20000 y->Lt T.aG.length s4 s5->s5.ok T.aG.length->K (.agg (aQ.enc y)) (PO T e tp s5::⟨false,t1,4,[r1]⟩::⟨false,t2,4,[aM]⟩::G) c5)->
    bO aE 219 [.ptr 0 tp 4 0 0] (PO T e tp s4::⟨false,t1,4,[r1]⟩::⟨false,t2,4,[aM]⟩::G) c4 K:=λl4 o4 m4 kk=>dY (hE _ m4) o4 (bB _) λy s5 c5 _ y5 l5 o5=>kk y s5 c5 y5 l5 o5
  cases b
  .simp[Z,e1];refine idx (e4:=e') l3 o3 m3 λy s5 c5 y5 l5 o5=>?_;simp[Z];refine iE hT o5 λ_ s6 c6 _ l6 o6=>?_;simp[W,J,E];refine fD rfl .ref λc7 _=>?_;simp[W,E];refine back (l3.trans (l5.trans l6)) (iC (aN:=[aM,y.enc]) (L:=[x,y]) (by simp) rfl (.cons (nb.mono (by simp +contextual)) (.cons (.enc y5) .nil)) (by simp) (by simp)) hr1 ?_ ?_ ?_ ?_<;>simp[aK,Z,e1,e4,W]
  .simp[e1,W,J,E];refine MH (nb.v.mono (by simp +contextual)) λq c4 _=>?_;cases q
   .simp[Z];refine idx (e4:=e') l3 o3 m3 λy s5 c5 y5 l5 o5=>?_;simp[Z];refine iE hT o5 λ_ s6 c6 _ l6 o6=>?_;simp[W,J,E];refine fD rfl .ref λc7 _=>?_;simp[W,E];refine back (l3.trans (l5.trans l6)) (iC (aN:=[aM,y.enc]) (L:=[x,y]) (by simp) rfl (.cons (nb.mono (by simp +contextual)) (.cons (.enc y5) .nil)) (by simp) (by simp)) hr1 ?_ ?_ ?_ ?_<;>simp[aK,Z,e1,e4,W]
   .simp[Z];refine eM hT o3 (λs4 c4 _ hi hb4 hi4 l4 o4=>?_) λc4 _=>?_
    .simp[Z];refine iE hT o4 λ_ s5 c5 _ l5 o5=>?_;simp[Z,W,J,E];have m5:s5.mu T.aG.length<k:=rV (cL l5.le.mu l4.le.mu) m3;refine dY (hE _ m5) o5 (bB _) λy s6 c6 _ y6 l6 o6=>?_;simp[W,J,E];refine fD rfl .ref λc7 _=>?_;simp[e4,hr1];exact fY (iC (aN:=[aM,y.enc]) (L:=[x,y]) (by simp) rfl (.cons (nb.mono (by simp +contextual)) (.cons (.enc y6) .nil)) (by simp) (by simp)) (l2.trans (l3.trans (l4.trans (l5.trans l6))))
    .simp[Z];refine idx (e4:=e') l3 o3 m3 λy s5 c5 y5 l5 o5=>?_;simp[Z];refine iE hT o5 λ_ s6 c6 _ l6 o6=>?_;simp[W,J,E];refine fD rfl .ref λc7 _=>?_;simp[W,E];refine back (l3.trans (l5.trans l6)) (iC (aN:=[aM,y.enc]) (L:=[x,y]) (by simp) rfl (.cons (nb.mono (by simp +contextual)) (.cons (.enc y5) .nil)) (by simp) (by simp)) hr1 ?_ ?_ ?_ ?_<;>simp[aK,Z,e1,e4,W]
 simp[Z];refine eM hT o2 (λs3 c3 _ hi hb3 hi3 l3 o3=>?_) λc3 _=>?_
 .have m3:s3.mu T.aG.length<k:=rV l3.le.mu m2;simp[Z];refine mQ hT o3 λy s4 c4 _ hy l4 o4=>?_;simp[Z];have h40:=o4.1;refine lN (k:=0) hT (by omega) (by omega) λc5 _=>?_;cases j4 T (s4.i+0) 6 [40]
  .simp[W,J,E];refine fD rfl .ref λc7 _=>?_;simp[W,E];refine back (l3.trans l4) (iC (aN:=[aM]) (L:=[x]) (by simp) rfl (.cons (nb.mono (by simp +contextual)) .nil) (by omega) (by simp)) hr1 ?_ ?_ ?_ ?_<;>simp[aK,Z,e1,e4,W]
  .simp[Z,W,J,E];refine args o4 (rV l4.le.mu m3) λj t m c6 s5 X L l5 o5 hX hm hlen hG hL=>?_;simp;refine fD rfl .ref λc7 _=>?_;simp[W,E];refine back (l3.trans (l4.trans l5)) (iC (L:=x::L) hX (by simp;omega) (.cons (nb.mono hG) (.rK hL)) (by omega) (by simp;omega)) hr1 ?_ ?_ ?_ ?_<;>simp[aK,Z,e1,e4,W]
 simp[Z];have h20:=o2.1;refine lN (k:=0) hT (by omega) (by omega) λc5 _=>?_;cases j4 T (s2.i+0) 6 [40]
 .simp[e4,W,J,E,hr1];exact fY (nb.mono (by simp +contextual)) l2
 .simp[Z,W,J,E];refine args o2 m2 λj t m c6 s5 X L l5 o5 hX hm hlen hG hL=>?_;simp;refine fD rfl .ref λc7 _=>?_;simp[W,E];refine back l5 (iC (L:=x::L) hX (by simp;omega) (.cons (nb.mono hG) (.rK hL)) (by simp) (by simp;omega)) hr1 ?_ ?_ ?_ ?_<;>simp[aK,Z,e1,e4,W]
end
set_option maxRecDepth 100000
def opSym_s {n:Int} (E:1<=n) (E:n<=15):bM aE 323 [.I n] (Tx 20):=by
 intro c;refine cO F323 ?_;simp[F323];refine bZ (fA _ _ _) .bool λ_ _=>?_;have E:cT n 1 15=true:=by simp[cT];omega
 rw[E];obtain⟨m,rfl⟩:=iY (show 0<=n by omega);have E:m=1\/m=2\/m=3\/m=4\/m=5\/m=6\/m=7\/m=8\/m=9\/m=10\/m=11\/m=12\/m=13\/m=14\/m=15:=by omega
 rcases E with rfl|rfl|rfl|rfl|rfl|rfl|rfl|rfl|rfl|rfl|rfl|rfl|rfl|rfl|rfl<;>simp<;>exact fI (eX _) (.refl _) ⟨rfl,_,rfl,by simp⟩
def opOf_s {l}:bM aE 319 [.str l] (Nu 0 15):=by
 intro c;refine cO F319 ?_;simp[F319];refine b6 15 (λi e H E=>e 0=.str l/\e 3=.I ((i+1:Nat):Int)/\H=[]) ⟨rfl,rfl,rfl⟩ ?_;intro i e H c E ⟨W,J,E⟩ N hN;subst E;have hw:IntKind.i64.wrap (((i+1:Nat):Int)+1)=((i+1+1:Nat):Int):=by rw[wrap64 (by omega) (by omega)];omega
 by_cases h:i<15
 .have E:((i+1:Nat):Int)<=15:=by omega
  simp[J,E,-Int.natCast_add];refine sB (opSym_s (by omega) E) λs Z _ _=>?_;by_cases Z:s=l
  .simp[W,J,Z,-Int.natCast_add];exact aS ⟨rfl,_,rfl,by omega,by omega⟩
  .simp[W,J,Z,hw,-Int.natCast_add];exact hN _ _ _ _ h (bY _) ⟨W,rfl,rfl⟩
 .have E:¬((i+1:Nat):Int)<=15:=by omega
  simp[J,E,-Int.natCast_add];exact aS ⟨rfl,_,rfl,by decide,by decide⟩
def NW (n:Int):bM aE 320 [.I n] (Nu 6 10):=by
 intro c;refine cO F320 ?_;unfold F320;simp +contextual [-Nat.not_lt,-Nat.not_le,-Int.not_lt,-Int.not_le]
 repeat' first
  |exact aS ⟨rfl,_,rfl,by decide,by decide⟩
  |with_reducible apply And.intro
  |with_reducible intro h
section
variable {T:SL dB} {e:Int} {tp c k:Nat} {s:PS}
def binary_step {lv:Int} (hT:iG T e) (E:4<=lv) (E:lv<=10) (J:dF T e k 312 [.I (lv+1)]) (hB:∀E,E<k->∀lv:Int,4<=lv->lv<=11->dF T e E 312 [.I lv]):dF T e k 312 [.I lv]:=by
 intro tp s hs hk c;have E:=hT.n;refine cN KS λ_ _=>?_;unfold KS;have E:¬lv=11:=by omega
 have hwl:IntKind.i64.wrap (lv+1)=lv+1:=wrap64 (by omega) (by omega);simp[E,hwl];refine dY J hs hk λx Z E _ W l1 o1=>?_;simp;refine nE (λm e' E c'=>∃J t1 t2 r1 aM x G,J.mu T.aG.length<=m/\J.ok T.aG.length/\Lt T.aG.length s J/\Nb G aM x/\e' 0=.ptr 0 tp 4 0 0/\e' 1=.I lv/\e' 4=.ptr 1 t1 4 0 0/\e' 5=.ptr 2 t2 4 0 0/\List.length r1=4/\
  E=PO T e tp J::⟨false,t1,4,[r1]⟩::⟨false,t2,4,[aM]⟩::G) _ ⟨Z,_,_,_,_,x,[],bB _,o1,l1,.enc W,rfl,rfl,rfl,rfl,rfl,rfl⟩ ?_
 intro m e' E c' ⟨J,t1,t2,r1,aM,x,G,hm,o2,l2,nb,e0,e1,e4,e5,W,E⟩ N hN;subst E;have Z:=nb.all;have E:=nb.len;have out:∀{e'':Env} {c'':Nat} {s3:PS},Lt T.aG.length s s3->pU (λr O (_:Nat)=>∃s',O=[PO T e tp s']/\Le T.aG.length s s'/\Av [] r/\vX T.aG.length s r s') (.agg aM) (PO T e tp s3::⟨false,t1,4,[aR r1 0 aM]⟩::⟨false,t2,4,[aM]⟩::G) c'':=λl3=>fY (nb.mono (by simp +contextual)) l3;have hput:aR r1 0 aM=aM:=putA_all (by rw[E,W]);by_cases hi:J.i<T.aG.length;rotate_left
 .have hi':¬(J.i:Int)<(T.aG.length:Int):=by omega
  simp[e0,e4,e5,hi',Z,E,W];exact fY (nb.mono (by simp +contextual)) l2
 have hi':(J.i:Int)<(T.aG.length:Int):=by omega
 have hb:J.b<0:=by
  rcases zZ J.b 0 with h1|h1
  .exact h1
  .have:=o2.2 h1;omega
 have m2:J.mu T.aG.length<k:=fM (l2.mu (l2.le.b hb)) hk;obtain⟨t,ht⟩:∃t,T.aG[J.i]?=some t:=⟨_,bC hi⟩
 by_cases hk6:t.aJ=6;rotate_left
 .simp[e0,e4,e5,hi',aL ht,hk6,Z,E,W];exact fY (nb.mono (by simp +contextual)) l2
 have back:∀{s4:PS} {x:aQ} {r2 aM:aF AV} {X:aC} {e':Env} {c':Nat},Lt T.aG.length J s4->Nb X aM x->List.length r2=4->e' 0=.ptr 0 tp 4 0 0->e' 1=.I lv->e' 4=.ptr 1 t1 4 0 0->e' 5=.ptr 2 t2 4 0 0->
   N e' (PO T e tp s4::⟨false,t1,4,[r2]⟩::⟨false,t2,4,[aM]⟩::X) c':=λ{s4 x r2 aM X e' c'} l4 nb' hr2 f0 f1 f4 f5=>
  hN (s4.mu T.aG.length) _ _ _ _ (fM (l4.mu hb) hm) (bY _) ⟨s4,t1,t2,r2,aM,x,X,bB _,l4.le.ok,l2.trans l4,nb',f0,f1,f4,f5,hr2,rfl⟩
 have two:∀{G':aC} {c':Nat} {k n:Int} {y:aQ} {j:Nat},(∀o,o∈G->o∈G')->(⟨false,c',4,[aM,y.enc]⟩:aH)∈G'->cU 20000 y->Nb G' [.I k,.I n,.str [],.ref j c' 4 2] (.mk k n [] (.mk c' [x,y])):=λhs hm y6=>
  iC (aN:=[aM,_]) (L:=[x,_]) hm rfl (.cons (nb.mono hs) (.cons (.enc y6) .nil)) (by simp) (by simp)
 have hwi:IntKind.i64.wrap ((J.i:Int)+1)=((J.i+1:Nat):Int):=by rw[wrap64 (by omega) (by omega)];omega
 have lstep:Lt T.aG.length J ⟨J.i+1,J.b⟩:=⟨⟨by show J.i<=J.i+1;omega,⟨by show J.i+1<=_;omega,λh=>by have h2:0<=J.b:=h;omega⟩,id⟩,λ_=>by show J.i<J.i+1;omega⟩
 have m3:PS.mu T.aG.length ⟨J.i+1,J.b⟩<k:=rV lstep.le.mu m2;simp[e0,e4,e5,hi',aL ht,hk6];refine nX opOf_s λop c2 _ hop1 hop2=>?_;by_cases q4:lv=4
 .simp[e0,e1,q4];refine eM hT o2 (λs3 c3 _ _ hb3 hi3 l3 o3=>?_) λc3 _=>?_
  .simp[e0,e1,e5,E];refine dY (hB _ (rV l3.le.mu m2) 5 (by decide) (by decide)) o3 (bB _) λy s6 c6 _ y6 l6 o6=>?_;simp[e5,Z,E];refine fD rfl .ref λc7 _=>?_;simp[e5,E];refine back (l3.trans l6) (two (by simp +contextual) (by simp) y6) W ?_ ?_ ?_ ?_<;>simp[aK,e0,e1,e4,e5]
  .by_cases hop:0<op
   .simp[e1,q4,hop];refine nX (NW op) λw c4 _ w1 w2=>?_;have hw4:¬w=4:=by omega
    simp[e1,e4,e5,q4,hw4,Z,E,W];exact fY (nb.mono (by simp +contextual)) l2
   .simp[e1,e4,e5,q4,hop,Z,E,W];exact fY (nb.mono (by simp +contextual)) l2
 by_cases q5:lv=5
 .simp[e0,e1,q5];refine eM hT o2 (λs3 c3 _ _ hb3 hi3 l3 o3=>?_) λc3 _=>?_
  .simp[e0,e5,E];refine dY (hB _ (rV l3.le.mu m2) 6 (by decide) (by decide)) o3 (bB _) λy s6 c6 _ y6 l6 o6=>?_;simp[e5,Z,E];refine fD rfl .ref λc7 _=>?_;simp[e5,E];refine back (l3.trans l6) (two (by simp +contextual) (by simp) y6) W ?_ ?_ ?_ ?_<;>simp[aK,e0,e1,e4,e5]
  .by_cases hop:0<op
   .simp[hop];refine nX (NW op) λw c4 _ w1 w2=>?_;have hw4:¬w=5:=by omega
    simp[e1,e4,e5,q5,hw4,Z,E,W];exact fY (nb.mono (by simp +contextual)) l2
   .simp[e4,e5,hop,Z,E,W];exact fY (nb.mono (by simp +contextual)) l2
 by_cases hop:0<op
 .simp[e1,q4,q5,hop];refine nX (NW op) λw c4 _ w1 w2=>?_;by_cases hwl2:w=lv
  .simp[e0,e1,e4,e5,hwl2,hwl,hwi,aR,Z,E,-Int.natCast_add];refine dY (s:=⟨J.i+1,J.b⟩) (hB _ m3 (lv+1) (by omega) (by omega)) lstep.le.ok (bB _) λy s6 c6 _ y6 l6 o6=>?_;have J:List.drop 4 aM=[]:=LO (by omega);simp[e5,Z,E,J,aR];refine back (lstep.trans l6) (two (by simp +contextual) (by simp) y6) W ?_ ?_ ?_ ?_<;>simp[aK,e0,e1,e4,e5]
  .simp[e1,e4,e5,hwl2,Z,E,W];exact fY (nb.mono (by simp +contextual)) l2
 .simp[e1,e4,e5,q4,q5,hop,Z,E,W];exact fY (nb.mono (by simp +contextual)) l2
def Z5 (Z:iG T e) (W:dF T e k 318 []) (hB:∀J,J<k->∀E:Int,4<=E->E<=11->dF T e J 312 [.I E]):∀(d:Nat) (E:Int),E=11-d->4<=E->dF T e k 312 [.I E]
 |0,E,h,_=>by
  have J:E=11:=by omega
  subst J;intro tp s J hk c;refine cN KS λ_ _=>?_;simp[KS];refine dY W J hk λx J J _ J l1 o1=>?_;simp;exact jC (.refl _ _) l1 J
 |d+1,E,h,J=>binary_step Z J (by omega) (Z5 Z W hB d (E+1) (by omega) (by omega)) hB
def expr_l (hT:iG T e) (J:dF T e k 258 []) (hE:∀E,E<k->dF T e E 219 []):dF T e k 219 []:=by
 intro tp s hs hk c;have hn:=hT.n;refine cN F219 λ_ _=>?_;simp[F219];refine dY J hs hk λx E J _ x1 Z W=>?_;have J:=W.1;simp;refine lN (k:=0) hT (by omega) (by omega) λJ _=>?_;cases J:j4 T (E.i+0) 6 [61]
 .simp;exact jC (.refl _ _) Z x1
 have hlt:E.i<T.aG.length:=vR J;have hb:E.b<0:=by
  rcases zZ E.b 0 with J|J
  .exact J
  .have:=W.2 J;omega
 have hw:∀n:Nat,n<=6000->IntKind.i64.wrap ((n:Int)+1)=((n+1:Nat):Int):=λn hn=>by rw[wrap64 (by omega) (by omega)];omega
 have hw1:=hw E.i (by omega);have hw0:=hw s.i (by have:=hs.1;omega);have J:Lt T.aG.length E ⟨E.i+1,E.b⟩:=⟨⟨by show E.i<=E.i+1;omega,⟨by show E.i+1<=_;omega,λh=>by have h2:0<=E.b:=h;omega⟩,id⟩,λ_=>by show E.i<E.i+1;omega⟩
 have m3:PS.mu T.aG.length ⟨E.i+1,E.b⟩<k:=fM (J.mu hb) (cL Z.le.mu hk);simp;refine MH (.refl _ _) λq c3 _=>?_;cases q
 .simp;refine uD hT W λs2 c4 _ l2 o2 _=>?_;simp;exact jC (.refl _ _) (Z.trans l2) pQ
 simp[hw1,hw0,aR,-Int.natCast_add];refine lN (s:=⟨E.i+1,E.b⟩) (k:=0) hT (by show E.i+1<=5000;omega) (by omega) λc4 _=>?_;cases h2:j4 T (E.i+1+0) 6 [38]
 .simp;refine dY (s:=⟨E.i+1,E.b⟩) (hE _ m3) J.le.ok (bB _) λy s6 c6 _ y6 l6 o6=>?_;simp;refine fD rfl .ref λc7 _=>?_;simp;exact fY (iC (aN:=[x.enc,y.enc]) (L:=[x,y]) (by simp) rfl (.cons (.enc x1) (.cons (.enc y6) .nil)) (by simp) (by simp)) (Z.trans (J.trans l6))
 have W:E.i+1<T.aG.length:=vR h2;have hw2:=hw (E.i+1) (by omega);have W:Lt T.aG.length E ⟨E.i+1+1,E.b⟩:=⟨⟨by show E.i<=E.i+1+1;omega,⟨by show E.i+1+1<=_;omega,λh=>by have h2:0<=E.b:=h;omega⟩,id⟩,λ_=>by show E.i<E.i+1+1;omega⟩
 have okv:∀{c':Nat} {K:aD} {X:aC},(∀y s6 c6,cU 20000 y->Lt T.aG.length s s6->K (.agg (aQ.enc y)) (PO T e tp s6::X) c6)->bO aE 222 [.ptr 0 tp 4 0 0] (PO T e tp ⟨E.i+1+1,E.b⟩::X) c' K:=λkk=>
  dY (s:=⟨E.i+1+1,E.b⟩) (AI (k:=k) hT) W.le.ok (zS (fM (W.mu hb) (cL Z.le.mu hk))) λy s6 c6 _ y6 l6 o6=>kk y s6 c6 y6 (Z.trans (W.trans l6))
 by_cases W:x.aJ=4
 .by_cases hal:((E.i:Int)=((s.i+1:Nat):Int))
  .simp[W,hal,hw2,aR,-Int.natCast_add];refine okv λy s6 c6 y6 l6=>?_;simp;refine fD rfl .ref λc7 _=>?_;simp;exact fY (iC (aN:=[y.enc]) (L:=[y]) (by simp) rfl (.cons (.enc y6) .nil) x1.s (by simp)) l6
  .simp[W,hal,-Int.natCast_add];refine uD (s:=⟨E.i+1,E.b⟩) hT J.le.ok λs2 c4 _ l2 o2 _=>?_;simp;exact jC (.refl _ _) (Z.trans (J.trans l2)) pQ
 .simp[W,-Int.natCast_add];refine uD (s:=⟨E.i+1,E.b⟩) hT J.le.ok λs2 c4 _ l2 o2 _=>?_;simp;exact jC (.refl _ _) (Z.trans (J.trans l2)) pQ
end
section
variable {T:SL dB} {e:Int} {tp c k:Nat} {K:aD} {H:aC} {s:PS}
def J5 {J} (Z:iG T e) (hs:s.ok T.aG.length) (kk:∀q W E,c<=E->Le T.aG.length s W->W.ok T.aG.length->K (.bool q) (PO T e tp W::H) E):bO aE 180 [.ptr 0 tp 4 0 0,.str J] (PO T e tp s::H) c K:=
 eM Z hs (λW E J _ _ _ hl Z=>kk true W E J hl.le Z) λE J=>kk false s E J (.refl hs) hs
def HV {kind:Int} (hT:iG T e):xX T e k 183 [.int .i64 kind]:=by
 intro tp s a O aN hs hk ha hr c
 have hn:=hT.n
 refine cN F183 λ_ _=>?_
 unfold F183
 dsimp only
 rw[dT,dT]
 refine gK (λe' H' c'=>∃s1:PS,s1.ok T.aG.length/\Lt T.aG.length s s1/\e' 0=.ptr 0 tp 4 0 0/\e' 1=.int .i64 kind/\e' 2=a/\H'=PO T e tp s1::O) ?_ ?_
 rotate_left
 .intro K hK
  simp
  refine iE hT hs λ_ s1 c1 _ l1 o1=>?_
  by_cases h24:kind=24
  .simp[h24]
   refine eM hT o1 (λs2 c2 _ hi hb hi2 l2 o2=>?_) λc1 _=>?_
   .simp
    exact BR (L:=[]) (by simpa using ha) (.refl _) (l1.trans l2) (by simp) (by simp;have:=l1.le.i;have:=l2.le.i;omega)
   .simp
    exact hK _ _ _ ⟨s1,o1,l1,by simp[aK],by simp[aK,h24],by simp[aK],rfl⟩
  .simp[h24]
   exact hK _ _ _ ⟨s1,o1,l1,by simp[aK],by simp[aK],by simp[aK],rfl⟩
 intro e' H' c' ⟨s1,o1,l1,e0,e1,e2,hH⟩
 subst hH
 simp
 refine nE (λm e' H' c'=>∃s2 G O2 a2 L,KI T e tp s aN s2 G O2 a2 L H'/\s2.mu T.aG.length<=m/\e' 0=.ptr 0 tp 4 0 0/\e' 1=.int .i64 kind/\e' 2=a2) _ ⟨s1,[],O,a,[],⟨o1,l1,rfl,by simpa using ha,by simp,by have:=l1.le.i;simp;omega⟩,bB _,e0,e1,e2⟩ ?_
 clear e0 e1 e2
 intro m e' H' c' ⟨s2,G,O2,a2,L,I,hm,e0,e1,e2⟩ N hN
 obtain⟨o2,l2,hH,kl,nk,hlen⟩:=I
 subst hH
 have hi2:=o2.1
 by_cases hb:s2.b<0
 rotate_left
 .rw[if_neg hb] at hlen
  simp[e0,e2,hb]
  exact BR kl (LG _ _) l2 nk hlen
 rw[if_pos hb] at hlen
 obtain⟨r1,r2,r3,r4⟩:=rI (n:=(aN++List.map aQ.enc L).length) (by simp;omega)
 have after:∀{s3:PS} {y:aA} {n:Int},y.length<=4000->Lt T.aG.length s2 s3->cU 20000 (.mk kind n y .nil)/\((L++[aQ.mk kind n y .nil]).length+s.i<=s3.i+if s3.b<0 then 0 else 1):=λ{s3 y n} hy l3=>by
  refine⟨.mk (by omega) (by simp) (λe he=>by simp at he),?_⟩
  have:=l3.le.i
  by_cases h3:s3.b<0
  .have:=l3.lt h3;rw[if_pos h3];simp;omega
  .rw[if_neg h3];simp;omega
 have back:∀{x:aQ} {s3 s4:PS} {G' O':aC} {a':AV} {e4:Env} {H4:aC} {c4:Nat},cU 20000 x/\((L++[x]).length+s.i<=s3.i+if s3.b<0 then 0 else 1)->Lt T.aG.length s2 s3->s4.i=s3.i+1->s3.b<0->Lt T.aG.length s3 s4->KL (G'.length+1) a' O' (aN++List.map aQ.enc (L++[x]))->(PO T e tp s4::(G'++O')).Sublist H4->
   e4 0=.ptr 0 tp 4 0 0->e4 1=.int .i64 kind->e4 2=a'->N e4 H4 c4:=
  λ{x s3 s4 G' O' a' e4 H4 c4} hx l3 hi4 hb3 l4 k4 hs4 f0 f1 f2=>hN (s4.mu T.aG.length) _ _ _ _ (fM (l4.mu hb3) (cL l3.le.mu hm)) hs4 ⟨s4,G',O',a',L++[x],⟨l4.le.ok,l2.trans (l3.trans l4),rfl,k4,IF nk hx.1,by have:=hx.2;rw[if_pos hb3] at this;omega⟩,bB _,f0,f1,f2⟩
 have stop:∀{x:aQ} {s3 s4:PS} {X O':aC} {j:Nat} {a':AV} {c4:Nat},cU 20000 x/\((L++[x]).length+s.i<=s3.i+if s3.b<0 then 0 else 1)->Lt T.aG.length s2 s3->Lt T.aG.length s3 s4->KL j a' O' (aN++List.map aQ.enc (L++[x]))->O'.Sublist X->
   pU (λr O' (_:Nat)=>∃s' L O2,O'=PO T e tp s'::O2/\KL 1 r O2 (aN++List.map aQ.enc L)/\Lt T.aG.length s s'/\(∀x,x∈L->cU 20000 x)/\L.length+s.i<=s'.i+1) a' (PO T e tp s4::X) c4:=λ{x s3 s4 X O' j a' c4} hx l3 l4 k4 hs4=>
  BR k4 hs4 (l2.trans (l3.trans l4)) (IF nk hx.1) (by have h1:=hx.2;have:=l4.le.i;split at h1<;>omega)
 have hA:∀x:aQ,∀aM,aM∈aN++List.map aQ.enc (L++[x])->∀a,a∈aM->Av [] a:=λx=>by
  have:=SZ kl.aaM (NK x)
  rw[IT] at this
  exact this
 generalize hR:aN++List.map aQ.enc L=rw_ at kl r1 r2
 have hR2:∀x:aQ,rw_++[x.enc]=aN++List.map aQ.enc (L++[x]):=λx=>by rw[<-hR,IT]
 have hE:∀(n:Int) (y:aA),[.int .i64 kind,.int .i64 n,.str y,.aU]=aQ.enc (.mk kind n y .nil):=λn y=>(aQ.oJ kind n y .nil).symm
 cases kl with
 |nil=>
  simp[e0,e1,hb,aR]
  refine J5 hT o2 λq s3 c3 _ l3 o3=>?_
  cases q
  .simp[e0]
   refine mQ hT o3 λy s4 c4 _ hy l4 o4=>?_
   simp[e0,e2,r3,r4,aR]
   rw[hE]
   refine eM hT o4 (λs5 c5 _ hi hb4 hi5 l5 o5=>?_) λc5 _=>?_
   .simp
    exact back (x:=aQ.mk kind 0 y .nil) (G':=G++[⟨false,c',4,[(aQ.mk kind 0 y .nil).enc]⟩,⟨false,c4,4,[(aQ.mk kind 0 y .nil).enc]⟩]) (O':=[⟨false,c4+1,4,[(aQ.mk kind 0 y .nil).enc]⟩]) (after hy (l3.lt_trans l4)) (l3.lt_trans l4) hi5 hb4 l5 (.of (hR2 _) rfl (hA _)) (by simp) (by simp[aK,e0]) (by simp[aK,e1]) (by simp[aK])
   .simp[e0]
    refine iE hT o4 λ_ s5 c5 _ l5 o5=>?_
    simp
    exact stop (x:=aQ.mk kind 0 y .nil) (O':=[⟨false,c4+1,4,[(aQ.mk kind 0 y .nil).enc]⟩]) (after hy (l3.lt_trans l4)) (l3.lt_trans l4) l5 (.of (hR2 _) rfl (hA _)) (by simp)
  .simp[e0,aR]
   refine mQ hT o3 λy s4 c4 _ hy l4 o4=>?_
   simp[e0,e2,r3,r4,aR]
   rw[hE]
   refine eM hT o4 (λs5 c5 _ hi hb4 hi5 l5 o5=>?_) λc5 _=>?_
   .simp
    exact back (x:=aQ.mk kind 1 y .nil) (G':=G++[⟨false,c',4,[(aQ.mk kind 1 y .nil).enc]⟩,⟨false,c4,4,[(aQ.mk kind 1 y .nil).enc]⟩]) (O':=[⟨false,c4+1,4,[(aQ.mk kind 1 y .nil).enc]⟩]) (after hy (l3.lt_trans l4)) (l3.lt_trans l4) hi5 hb4 l5 (.of (hR2 _) rfl (hA _)) (by simp) (by simp[aK,e0]) (by simp[aK,e1]) (by simp[aK])
   .simp[e0]
    refine iE hT o4 λ_ s5 c5 _ l5 o5=>?_
    simp
    exact stop (x:=aQ.mk kind 1 y .nil) (O':=[⟨false,c4+1,4,[(aQ.mk kind 1 y .nil).enc]⟩]) (after hy (l3.lt_trans l4)) (l3.lt_trans l4) l5 (.of (hR2 _) rfl (hA _)) (by simp)
 |mk h hA0=>
  subst h
  simp[e0,e1,hb,aR]
  refine J5 hT o2 λq s3 c3 _ l3 o3=>?_
  cases q
  .simp[e0]
   refine mQ hT o3 λy s4 c4 _ hy l4 o4=>?_
   simp[e0,e2,r1,r2,aR]
   rw[hE]
   refine eM hT o4 (λs5 c5 _ hi hb4 hi5 l5 o5=>?_) λc5 _=>?_
   .simp
    exact back (x:=aQ.mk kind 0 y .nil) (G':=G) (O':=[⟨false,c4+1,4,rw_++[(aQ.mk kind 0 y .nil).enc]⟩]) (after hy (l3.lt_trans l4)) (l3.lt_trans l4) hi5 hb4 l5 (.of (m:=rw_.length+1) (hR2 _) (by simp) (hA _)) (by simp) (by simp[aK,e0]) (by simp[aK,e1]) (by simp[aK])
   .simp[e0]
    refine iE hT o4 λ_ s5 c5 _ l5 o5=>?_
    simp
    exact stop (x:=aQ.mk kind 0 y .nil) (O':=[⟨false,c4+1,4,rw_++[(aQ.mk kind 0 y .nil).enc]⟩]) (after hy (l3.lt_trans l4)) (l3.lt_trans l4) l5 (.of (hR2 _) (by simp) (hA _)) (by simp)
  .simp[e0,aR]
   refine mQ hT o3 λy s4 c4 _ hy l4 o4=>?_
   simp[e0,e2,r1,r2,aR]
   rw[hE]
   refine eM hT o4 (λs5 c5 _ hi hb4 hi5 l5 o5=>?_) λc5 _=>?_
   .simp
    exact back (x:=aQ.mk kind 1 y .nil) (G':=G) (O':=[⟨false,c4+1,4,rw_++[(aQ.mk kind 1 y .nil).enc]⟩]) (after hy (l3.lt_trans l4)) (l3.lt_trans l4) hi5 hb4 l5 (.of (m:=rw_.length+1) (hR2 _) (by simp) (hA _)) (by simp) (by simp[aK,e0]) (by simp[aK,e1]) (by simp[aK])
   .simp[e0]
    refine iE hT o4 λ_ s5 c5 _ l5 o5=>?_
    simp
    exact stop (x:=aQ.mk kind 1 y .nil) (O':=[⟨false,c4+1,4,rw_++[(aQ.mk kind 1 y .nil).enc]⟩]) (after hy (l3.lt_trans l4)) (l3.lt_trans l4) l5 (.of (hR2 _) (by simp) (hA _)) (by simp)
end
set_option maxRecDepth 100000
def fT a b d x y:aR [a,b,d,x] 3 [y]=[a,b,d,y]:=rfl
def MD:2<=mx:=by decide
structure KX (X G:aC) (a:AV) (aN:List (List AV)) (L:List aQ) (c:Nat):Prop where
 kids:(a=.aU/\aN=[])\/∃j t,a=.ref (j+3) t 4 aN.length/\X[j]?=some ⟨false,t,4,aN⟩/\t<c/\∀o,o∈G->o.tag≠t
 sub:∀o,o∈G->o∈X/\o.tag<c
 nb:iN G aN L
def KX.empty {X} {c}:KX X [] .aU [] [] c:=⟨.inl ⟨rfl,rfl⟩,λo E=>by simp at E,.nil⟩
def KX.node {X G} {a} {aN} {L:aF aQ} {c} (h:KX X G a aN L c) {Y} (E:∀o,o∈X->o∈Y) {k n:Int} {s:aA} (hs:s.length<=20000) (Z:L.length<=20000):∃x,Nb Y [.I k,.I n,.str s,a] x:=by
 have W:=h.nb.mono λo J=>E o (h.sub o J).1;rcases h.kids with⟨rfl,rfl⟩|⟨j,t,rfl,J,_,_⟩
 .exact⟨_,nD hs⟩
 .exact⟨_,iC (E _ (bA J)) rfl W hs Z⟩
def KX.mono {X G} {a} {aN} {L} {c c'} (h:KX X G a aN L c) (hc:c<=c'):KX X G a aN L c':=
 ⟨h.kids.imp id λ⟨j,t,h1,h2,h3,h4⟩=>⟨j,t,h1,h2,by omega,h4⟩,λo ho=>⟨(h.sub o ho).1,by have:=(h.sub o ho).2;omega⟩,h.nb⟩
def KX.one {X G} {a} {aN:aF (aF AV)} {L:aF aQ} {c} (h:KX X G a aN L c):L.length=aN.length:=h.nb.len.symm
def KX.HF {X} {G} {L} {c c' t} {A} {aM} {x} {j:Nat} {Y:aC} (h:KX X G .aU [] L c) (hX:∀o,o∈X->o∈Y) (hA:∀o,o∈A->o∈Y/\o.tag<c') (W:c<=c') (J:∀o,o∈A->o.tag≠t) (E:c<=t) (E:t<c')
  (hj:Y[j]?=some ⟨false,t,4,[aM]⟩) (Z:Nb A aM x):KX Y (G++A) (.ref (j+3) t 4 1) [aM] (L++[x]) c':=by
 have hL:L=[]:=List.eq_nil_of_length_eq_zero (by have:=h.nb.len;simpa using this.symm);subst hL;refine⟨.inr ⟨j,t,rfl,hj,E,λo E=>?_⟩,λo E=>?_,.cons (Z.mono λo E=>wC _ E) .nil⟩
 .rcases dI.1 E with E|E
  .have:=(h.sub o E).2;omega
  .exact J o E
 .rcases dI.1 E with E|E
  .exact⟨hX o (h.sub o E).1,fM (h.sub o E).2 W⟩
  .exact hA o E
def KX.snoc {X:aC} {G} {L} {aN:aF (aF AV)} {c c' t E} {A} {aM} {x} {j m:Nat} {Y:aC} (hk:X[j]?=some ⟨false,E,4,aN⟩) (hn:∀o,o∈G->o.tag≠E) (J:∀o,o∈G->o∈X/\o.tag<c) (nb:iN G aN L)
  (hX:∀o,o∈X.set j ⟨false,t,4,aN++[aM]⟩->o∈Y) (hA:∀o,o∈A->o∈Y/\o.tag<c') (Z:c<=c') (W:∀o,o∈A->o.tag≠t) (E:c<=t) (E:t<c')
  (hj:Y[j]?=some ⟨false,t,4,aN++[aM]⟩) (hx:Nb A aM x) (hm:m=aN.length+1):KX Y (G++A) (.ref (j+3) t 4 m) (aN++[aM]) (L++[x]) c':=by
 refine⟨.inr ⟨j,t,by simp[hm],hj,E,λo E=>?_⟩,λo E=>?_,(nb.mono λo E=>kC _ E).append (.cons (hx.mono λo E=>wC _ E) .nil)⟩
 .rcases dI.1 E with E|E
  .have:=(J o E).2;omega
  .exact W o E
 .rcases dI.1 E with E|E
  .refine⟨hX o (VH hk (J o E).1 λh=>hn o E (by rw[h])),fM (J o E).2 Z⟩
  .exact hA o E
section
variable {T:SL dB} {e:Int} {tp c k:Nat} {s:PS}
structure LI (T:SL dB) (e:Int) (tp:Nat) (s0 s:PS) (t1 t2:Nat) (r1:List AV) (kd:Int) (tx:aA) (X G:aC) (a:AV) (aN:List (List AV)) (L:List aQ) (H:aC) (c:Nat):Prop where
 ok:s.ok T.aG.length
 le:Le T.aG.length s0 s
 kx:KX X G a aN L c
 len:L.length+s0.i<=s.i+if s.b<0 then 0 else 1
 hr:r1.length=4
 H:H=PO T e tp s::⟨false,t1,4,[r1]⟩::⟨false,t2,4,[[.int .i64 kd,.int .i64 0,.str tx,a]]⟩::X
def list_l (hT:iG T e) (hE:dF T e k 219 []):dF T e k 287 []:=by
 intro tp s J hk c;have E:=hT.n;refine cN F287 λ_ _=>?_;simp[F287];refine fD rfl .aU λc1 E=>?_;simp;refine eM hT J (λE c2 _ hi hb hi2 l2 o2=>?_) λc2 W=>?_
 .simp;exact fY (nD (by simp)) l2
 simp;refine nE (λm e' H' c'=>∃E t1 Z r1 X G a W L,LI T e tp s E t1 Z r1 5 [] X G a W L H' c'/\(E.b<0\/Lt T.aG.length s E\/0<=s.b)/\E.mu T.aG.length<=m/\e' 0=.ptr 0 tp 4 0 0/\e' 2=.ptr 1 t1 4 0 0/\e' 3=.ptr 2 Z 4 0 0) _
  ⟨s,c,c1,_,[],[],.aU,[],[],⟨J,.refl J,.empty,by simp,rfl,rfl⟩,by omega,bB _,rfl,rfl,rfl⟩ ?_
 intro m e' H' c' ⟨E,t1,Z,r1,X,G,a,W,L,I,hlt,hm,e0,e2,e3⟩ N hN;obtain⟨o2,l2,kx,J,hr1,hH⟩:=I;subst hH;have hi2:=o2.1;have hLr:=kx.one;have key:E.b<0->∀(e2:Env) (H2:aC) (c2:Nat),(H2=PO T e tp E::⟨false,t1,4,[r1]⟩::⟨false,Z,4,[[.I 5,.I 0,.str [],a]]⟩::X/\c2=c'/\e2 0=.ptr 0 tp 4 0 0/\e2 2=.ptr 1 t1 4 0 0/\e2 3=.ptr 2 Z 4 0 0)->True:=λ_ _ _ _ _=>trivial;refine gK (λe2 H2 c2=>E.b<0/\H2=PO T e tp E::⟨false,t1,4,[r1]⟩::⟨false,Z,4,[[.I 5,.I 0,.str [],a]]⟩::X/\c2=c'/\e2 0=.ptr 0 tp 4 0 0/\e2 2=.ptr 1 t1 4 0 0/\e2 3=.ptr 2 Z 4 0 0) ?_ ?_;rotate_left
 .intro K hK;by_cases hb:E.b<0
  .simp[e0,hb];exact hK _ _ _ ⟨hb,rfl,rfl,e0,e2,e3⟩
  .have hlt':Lt T.aG.length s E:=by
    rcases hlt with h|h|h
    .exact absurd h hb
    .exact h
    .exact⟨l2,λh2=>absurd h2 hb⟩
   obtain⟨x,hx⟩:=kx.node (Y:=⟨false,t1,4,[[.I 5,.I 0,.str [],a]]⟩::⟨false,Z,4,[[.I 5,.I 0,.str [],a]]⟩::X) (λo ho=>by simp[ho]) (k:=5) (n:=0) (s:=[]) (by simp) (by split at J<;>omega);simp[e0,e2,e3,hb,hr1];exact fY hx hlt'
 clear e0 e2 e3 key;intro e' H' c2 ⟨hb,hH,hc,e0,e2,e3⟩;subst hH;subst hc;rw[if_pos hb] at J;obtain⟨q1,q2,q3,q4⟩:=rI (n:=W.length) (by omega);refine E6 ?_;rw[dT];refine gK (λe4 J c4=>∃s4 aM x A Y p tx,Lt T.aG.length E s4/\s4.ok T.aG.length/\e4 0=.ptr 0 tp 4 0 0/\e4 2=.ptr 1 t1 4 0 0/\e4 3=.ptr 2 Z 4 0 0/\e4 4=.ptr (p+3) tx 4 0 0/\Y[p]?=some ⟨false,tx,4,[aM]⟩/\
  J=PO T e tp s4::⟨false,t1,4,[r1]⟩::⟨false,Z,4,[[.I 5,.I 0,.str [],a]]⟩::Y/\Nb A aM x/\(∀o,o∈A->o∈Y/\c2<=o.tag/\o.tag<c4)/\(∀(i:Nat) (o:aH),X[i]?=some o->Y[i]?=some o)/\c2<=c4) ?_ ?_
 rotate_left
 .intro K hK;simp[e0];refine dY hE o2 (cL l2.mu hk) λx s3 c3 E x3 l3 o3=>?_;simp;refine fD rfl .ref λc4 J=>?_;simp[e0];have hX:∀(l:aC) (i:Nat) (o:aH),X[i]?=some o->(X++l)[i]?=some o:=λl i o h=>by rw[gY (bQ.1 h).1];exact h
  refine eM hT o3 (λs4 c5 h5 hi hb4 hi4 l4 o4=>?_) λc5 h5=>?_
  .simp[e0];refine dY hE o4 (cL l4.le.mu (cL l3.le.mu (cL l2.mu hk))) λy s5 J h6 x5 l5 o5=>?_;simp[aR,MD];refine hK _ _ (J+1+1) ⟨s5,[.I 6,.I 0,.str [],.ref (X.length+3) (J+1) 4 2],_,[⟨false,J+1,4,[x.enc,y.enc]⟩],_,X.length+1,c4,l3.trans (l4.trans l5),o5,?_,?_,?_,?_,?_,rfl,iC (by simp) rfl (.cons (.enc x3) (.cons (.enc x5) .nil)) (by simp) (by simp),GC.2 ⟨?_,by show c2<=J+1;omega,by show J+1<J+1+1;omega⟩,hX _,by omega⟩<;>simp[aK,e0,e2,e3]
  .simp;refine hK _ _ c5 ⟨s3,[.I 6,.I 0,.str [],.ref (X.length+3) c3 4 1],_,[⟨false,c3,4,[x.enc]⟩],_,X.length+1,c4,l3,o3,?_,?_,?_,?_,?_,rfl,iC (by simp) rfl (.cons (.enc x3) .nil) (by simp) (by simp),GC.2 ⟨?_,by show c2<=c3;omega,by show c3<c5;omega⟩,hX _,by omega⟩<;>simp[aK,e0,e2,e3]
 clear e0 e2 e3;intro e' H' c4 ⟨s4,aM,x,A,Y,p,tx,l4,o4,e0,e2,e3,e4,hp,hH,nb,hA,hXY,hc24⟩;subst hH;have ha4:=nb.all;have hl4:=nb.len;have hpl:=(bQ.1 hp).1;have hlen4:(L++[x]).length+s.i<=s4.i+if s4.b<0 then 0 else 1:=by
  have:=l4.le.i;by_cases E:s4.b<0
  .have:=l4.lt E;rw[if_pos E];simp;omega
  .rw[if_neg E];simp;omega
 have hsX:∀o,o∈X->o∈Y:=λo ho=>by
  obtain⟨i,hi⟩:=lS.1 ho;exact bA (hXY i o hi)
 have lss:Lt T.aG.length s s4:=l2.lt_trans l4;have back:∀{s5:PS} {G':aC} {a':AV} {E:aF (aF AV)} {Y':aC} {e5:Env} {c5 J:Nat},s5.i=s4.i+1->s4.b<0->Lt T.aG.length s4 s5->KX Y' G' a' E (L++[x]) J->J<=c5->e5 0=.ptr 0 tp 4 0 0->e5 2=.ptr 1 t1 4 0 0->e5 3=.ptr 2 Z 4 0 0->
   N e5 (PO T e tp s5::⟨false,t1,4,[r1]⟩::⟨false,Z,4,[[.I 5,.I 0,.str [],a']]⟩::Y') c5:=λ{s5 G' a' E Y' e5 c5 J} hi hb4 l5 kx' hcc f0 f2 f3=>
  hN (s5.mu T.aG.length) _ _ _ _ (fM (l5.mu hb4) (cL l4.le.mu hm)) (bY _) ⟨s5,t1,Z,r1,Y',G',a',E,L++[x],⟨l5.le.ok,(lss.trans l5).le,kx'.mono hcc,by rw[if_pos hb4] at hlen4;omega,hr1,rfl⟩,.inr (.inl (lss.trans l5)),bB _,f0,f2,f3⟩
 have stop:∀{s5:PS} {G':aC} {a':AV} {E:aF (aF AV)} {Y' Z:aC} {c5 J:Nat},Lt T.aG.length s4 s5->KX Y' G' a' E (L++[x]) J->(∀o,o∈Y'->o∈Z)->
   pU (λr O (_:Nat)=>∃s',O=[PO T e tp s']/\Le T.aG.length s s'/\Av [] r/\vX T.aG.length s r s') (.agg [.I 5,.I 0,.str [],a']) (PO T e tp s5::Z) c5:=λ{s5 G' a' E Y' Z c5 J} l5 kx' E=>by
  obtain⟨y,hy⟩:=kx'.node (Y:=Z) E (k:=5) (n:=0) (s:=[]) (by simp) (by split at hlen4<;>simp at hlen4 ⊢<;>have:=l5.le.i<;>have:=l5.le.ok.1<;>omega);exact fY hy (lss.trans l5)
 have E:∀(l:aC) (K:aH->Prop),aZ (Y++l) p K=K ⟨false,tx,4,[aM]⟩:=λl K=>aL (by rw[gY hpl];exact hp) K;rcases kx.kids with⟨rfl,rfl⟩|⟨j,t,rfl,hj,E,hGt⟩
 .have K1:∀{J:Nat},c4<=J->KX (Y++[⟨false,J,4,[aM]⟩,⟨false,J+1,4,[aM]⟩]) (G++A) (.ref (Y.length+1+3) (J+1) 4 1) [aM] (L++[x]) (J+2):=λ{J} h6=>
   KX.HF kx (λo ho=>kC _ (hsX o ho)) (λo ho=>⟨kC _ (hA o ho).1,by have:=(hA o ho).2.2;omega⟩) (by omega) (λo ho=>by have:=(hA o ho).2.2;omega) (by omega) (by omega) (by rw[qV (by omega)];simp) nb
  simp[e0,e3,e4,aL hp,ha4,hl4,q3,q4];refine eM hT o4 (λs5 c5 h5 hi hb4 hi4 l5 o5=>?_) λc5 h5=>?_
  .simp[fT];exact back hi4 hb4 l5 (K1 (bB _)) (by omega) (e0) (e2) (e3)
  .simp[e0];refine iE hT o4 λ_ s5 c5 _ l5 o5=>?_;simp[e2,e3,hr1,fT];refine stop l5 (K1 (bB _)) ?_;simp +contextual
 .have Z:=hXY _ _ hj;have E:=(bQ.1 Z).1;have gj:∀(l:aC) (K:aH->Prop),aZ (Y++l) j K=K ⟨false,t,4,W⟩:=λl K=>aL (by rw[gY E];exact Z) K;have sj:∀(l:aC) (z:aH),(Y++l).set j z=Y.set j z++l:=λl z=>rX _ _ E;have K1:∀{J:Nat},c4<=J->KX (Y.set j ⟨false,J+1,4,W++[aM]⟩++[⟨false,J,4,[aM]⟩]) (G++A) (.ref (j+3) (J+1) 4 (W.length+1)) (W++[aM]) (L++[x]) (J+2):=λ{J} h6=>
   KX.snoc (X:=Y) Z hGt (λo ho=>⟨hsX o (kx.sub o ho).1,fM (kx.sub o ho).2 hc24⟩) kx.nb (λo ho=>kC _ ho) (λo ho=>⟨kC _ (VH Z (hA o ho).1 λh=>by have:=(hA o ho).2.1;rw[h] at this;have J:c2<=t:=this;omega),by have:=(hA o ho).2.2;omega⟩) (by omega)
    (λo ho=>by have:=(hA o ho).2.2;omega) (by omega) (by omega) (by rw[gY (by simpa using E),eP (by simpa using E)]) nb rfl
  simp[e0,e3,e4,aL hp,ha4,hl4,gj,sj,q1,q2];refine eM hT o4 (λs5 c5 h5 hi hb4 hi4 l5 o5=>?_) λc5 h5=>?_
  .simp[fT];exact back hi4 hb4 l5 (K1 (bB _)) (by omega) (e0) (e2) (e3)
  .simp[e0];refine iE hT o4 λ_ s5 c5 _ l5 o5=>?_;simp[e2,e3,hr1,fT];refine stop l5 (K1 (bB _)) ?_;simp +contextual
end
end A
end Go.Proofs.YtbdgahjfipdeoaaGreatDoor
