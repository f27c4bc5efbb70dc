import Derived.Test.YtbdgahjfipdeoaaGreatDoorB15
/- FnResponses: a part of its proof. No condition. -/
set_option linter.all false
set_option maxRecDepth 100000
namespace Go.Proofs.YtbdgahjfipdeoaaGreatDoor
namespace A
set_option maxRecDepth 100000
def RtQ (x:aQ) (r:AV):Prop:=∃y:aQ,r=.agg y.enc/\NE y/\(y.aJ=4\/y.aJ=8)
def rootT_s:∀x:aQ,NE x->mH x->bM aE 230 [.agg x.enc] (RtQ x):=by
 intro x J T E;refine cO KV ?_;simp[KV];refine nE (λm e H W=>∃y:aQ,SizeOf.sizeOf y<=m/\NE y/\mH y/\e 1=.ptr 0 E 4 0 0/\e 2=.ptr 1 (E+1) 4 0 0/\H=[⟨false,E,4,[y.enc]⟩,⟨false,E+1,4,[[.I 0,.I 0,.str [],.aU]]⟩]) _ ⟨x,bB _,J,T,rfl,rfl,rfl⟩ ?_;intro m e H c ⟨y,hy,E,J,e1,e2,T⟩ N hN;subst T;by_cases Z:y.aJ=7
 .cases J with
  |var h=>omega
  |prop h=>omega
  |idx h T t=>
   rename_i z;have h2:=(E.v.sh.two (by omega)).1;have W:(0:Int)<(y.aP.aG.length:Int):=by omega
   have W:aR y.enc 0 z.enc=z.enc:=by simp[aR,aQ.dW]
   simp[e1,e2,Z,aL T,h2,W];exact hN (SizeOf.sizeOf z) _ _ _ _ (fM (sN (bA T)) hy) (bY _) ⟨z,bB _,E.get T,t,e1,e2,rfl⟩
 .have T:y.aJ=4\/y.aJ=8:=by cases J with
   |var h=>exact .inl h
   |prop h=>exact .inr h
   |idx h _ _=>exact absurd h Z
  simp[e1,e2,Z];exact aS ⟨rfl,y,rfl,E,T⟩
section
variable {us:SL bU} {cs:SL bG} {H H' H'':aC} {G G' G'':Nat->a6} {pm tm pf tf:Nat} {m m' m'':aI} {f f' f'':aW} {L L' L'':aF aY} {a b a' b':Int}
def root_k {c} {K:aD} {x:aQ} (J:NE x) (T:mH x) (k:∀y E,NE y->(aQ.aJ y=4\/aQ.aJ y=8)->K (.agg (aQ.enc y)) H E):bO aE 230 [.agg x.enc] H c K:=
 cV (rootT_s x J T) λr E _ ⟨y,J,W,T⟩=>by subst J;exact⟨fB _,k y E W T⟩
def PathQ (us:SL bU) (cs:SL bG) (H:aC) (G:Nat->a6) (pm tm pf tf:Nat) (m:aI) (f:aW) (L:aF aY) (r:AV) (H':aC) (_:Nat):Prop:=
 ∃(y:aQ) (v:aO) (M:aF aO) (G':Nat->a6) (m':aI) (f':aW) (p t:Nat),r=.aX [.agg y.enc,.agg v.enc,.ref p t 5 M.length]/\(y.aJ=4\/y.aJ=8)/\m'.V v/\M.length<=1000/\(∀v,v∈M->m'.V v)/\H'[p]?=some ⟨false,t,5,M.map aO.enc⟩/\G' p=.bP/\H.length<=p/\PE us cs H G pm tm pf tf m f L 0 0 H' G' m' f'
structure sX (us:SL bU) (cs:SL bG) (H:aC) (G:Nat->a6) (pm tm pf tf:Nat) (m:aI) (f:aW) (L:List aY) (c0 t9 t10:Nat) (y z:aQ) (v:aO) (Hc:aC) (G1:Nat->a6) (m1:aI) (f1:aW):Prop where
 q:PE us cs H G pm tm pf tf m f L 0 0 Hc G1 m1 f1
 hv:m1.V v
 l0:Hc[H.length]?=some ⟨false,c0,4,[z.enc]⟩
 l1:Hc[H.length+1]?=some ⟨false,c0+1,4,[[.int .i64 0,.int .i64 0,.str [],.aU]]⟩
 l2:Hc[H.length+2]?=some ⟨false,c0+1+1,5,[[.int .i64 0,.int .i64 0,.str [],.int .i64 0,.aU]]⟩
 l3:Hc[H.length+3]?=some ⟨false,t9,4,[y.enc]⟩
 l4:Hc[H.length+4]?=some ⟨false,t10,5,[v.enc]⟩
 o:∀i,i<5->G1 (H.length+i)=.bP
def sX.app {c0 J E} {y z} {v} {Z} {G1:Nat->a6} {T} {W} (S:sX us cs H G pm tm pf tf m f L c0 J E y z v Z G1 T W) M:sX us cs H G pm tm pf tf m f L c0 J E y z v (Z++M) G1 T W:=
 ⟨S.q.app M,S.hv,fF S.l0 M,fF S.l1 M,fF S.l2 M,fF S.l3 M,fF S.l4 M,S.o⟩
def sX.go {c0 J E} {y z} {v} {Hc H2} {G1 G2:Nat->a6} {W T} {f1 Z} (S:sX us cs H G pm tm pf tf m f L c0 J E y z v Hc G1 W f1) (q:PE us cs Hc G1 pm tm pf tf W f1 L 0 0 H2 G2 T Z):sX us cs H G pm tm pf tf m f L c0 J E y z v H2 G2 T Z:=
 ⟨(S.q.trans q).le (by omega) (by omega),S.hv.mono q.mono,(q.loc S.l0 (S.o 0 (by omega))).1,(q.loc S.l1 (S.o 1 (by omega))).1,(q.loc S.l2 (S.o 2 (by omega))).1,(q.loc S.l3 (S.o 3 (by omega))).1,(q.loc S.l4 (S.o 4 (by omega))).1,λi E=>by
  match i,E with
  |0,_=>exact(q.loc S.l0 (S.o 0 (by omega))).2
  |1,_=>exact(q.loc S.l1 (S.o 1 (by omega))).2
  |2,_=>exact(q.loc S.l2 (S.o 2 (by omega))).2
  |3,_=>exact(q.loc S.l3 (S.o 3 (by omega))).2
  |4,_=>exact(q.loc S.l4 (S.o 4 (by omega))).2⟩
def path_con {n} {x:aQ} {c0} (hE:iS us cs n) (h:Lay us cs H G pm tm m) (hf:cY H G pf tf m f L) (hx:NE x) (ht:mH x) (hn:m.bH<n):cA aE 261 [.ptr pm tm 19 0 0,.ptr pf tf 7 0 0,.agg x.enc] H c0 (PathQ us cs H G pm tm pf tf m f L):=by
 refine cO F261 ?_;unfold F261;have oo:∀i,G (H.length+i)=.bP:=λi=>h.out _ (by omega);have hz4:∀n:aQ,aR [.I 0,.I 0,.str [],.aU] 0 n.enc=n.enc:=M7 _ _ _ _;have hz41:∀n k:aQ,aR n.enc 0 k.enc=k.enc:=λn k=>by simp[aR,aQ.dW]
 show cC aE (IR.seq _ (IR.seq _ (IR.seq _ (IR.seq _ (IR.seq _ (IR.seq _ _)))))) _ _ _ _;rw[dT,dT,dT];refine gK (λe H' c'=>∃(t9 t10:Nat) (y:aQ) (v:aO) (G1:Nat->a6) (m1:aI) (f1:aW),sX us cs H G pm tm pf tf m f L c0 t9 t10 y x v H' G1 m1 f1/\NE y/\(y.aJ=4\/y.aJ=8)/\
  e 0=.ptr pm tm 19 0 0/\e 1=.ptr pf tf 7 0 0/\e 5=.ptr H.length c0 4 0 0/\e 6=.ptr (H.length+1) (c0+1) 4 0 0/\e 7=.ptr (H.length+2) (c0+1+1) 5 0 0/\e 9=.ptr (H.length+3) t9 4 0 0/\e 10=.ptr (H.length+4) t10 5 0 0) ?_ ?_
 rotate_left
 .intro K hK;simp[bW];refine root_k hx ht λy c1 hy hyk=>?_;have S0:sX us cs H G pm tm pf tf m f L c0 c1 (c1+1) y x (sV 0 0 []) (H++[⟨false,c0,4,[x.enc]⟩,⟨false,c0+1,4,[[.I 0,.I 0,.str [],.aU]]⟩,⟨false,c0+1+1,5,[[.I 0,.I 0,.str [],.I 0,.aU]]⟩,⟨false,c1,4,[y.enc]⟩,⟨false,c1+1,5,[[.I 0,.I 0,.str [],.I 0,.aU]]⟩]) G m f:=
   ⟨(PE.refl h hf).app _,.nil,by simp,by simp,by simp,by simp,by simp[z5],λi _=>oo i⟩
  rcases hyk with k4|k8
  .simp[cM,k4,aR];refine hK _ _ _ ⟨_,_,y,sV 0 0 [],G,m,f,S0,hy,.inl k4,?_,?_,?_,?_,?_,?_,?_⟩<;>simp[aK]
  .obtain⟨h1,h2⟩:=hy.v.sh.one (by omega);obtain⟨z,hz⟩:∃z,y.aP.aG[0]?=some z:=⟨_,bC (by omega)⟩
   simp[cM,k8,aL hz,aR];refine oH hE S0.q.aT S0.q.bI (hy.get hz) (h2 z (bA hz)) hn λv H1 G1 m1 f1 c2 hv q _=>?_;have S1:=S0.go q;have g4:=λK=>aL S1.l4 K;have hl4:=bL S1.l4;simp[g4];have hset:∀i,i<4->H.length+4≠H.length+i:=λi hi=>by omega
   have S2:sX us cs H G pm tm pf tf m f L c0 c1 (c1+1) y x v (H1.set (H.length+4) ⟨false,c1+1,5,[v.enc]⟩) G1 m1 f1:=
    ⟨S1.q.eZ (by omega) (S1.o 4 (by omega)) _,hv,eC S1.l0 (by omega) _,eC S1.l1 (by omega) _,eC S1.l2 (by omega) _,eC S1.l3 (by omega) _,by rw[eP hl4],S1.o⟩
   refine hK _ _ _ ⟨_,_,y,v,G1,m1,f1,S2,hy,.inr k8,?_,?_,?_,?_,?_,?_,?_⟩<;>simp[aK]
 intro e H1 c1 ⟨t9,t10,y,v,G1,m1,f1,S,hy,hyk,e0,e1,e5,e6,e7,e9,e10⟩;simp;refine nE (λk e Hc c'=>∃(z:aQ) (p t:Nat) (N:aF aQ) (G2:Nat->a6) (m2:aI) (f2:aW),SizeOf.sizeOf z<=k/\NE z/\mH z/\N.length+z.iD<=700/\(∀w,w∈N->NE w/\fE w.aJ)/\sX us cs H G pm tm pf tf m f L c0 t9 t10 y z v Hc G2 m2 f2/\Hc[p]?=some ⟨false,t,4,N.map aQ.enc⟩/\G2 p=.bP/\H.length+5<=p/\
  e 0=.ptr pm tm 19 0 0/\e 1=.ptr pf tf 7 0 0/\e 5=.ptr H.length c0 4 0 0/\e 6=.ptr (H.length+1) (c0+1) 4 0 0/\e 7=.ptr (H.length+2) (c0+1+1) 5 0 0/\e 9=.ptr (H.length+3) t9 4 0 0/\e 10=.ptr (H.length+4) t10 5 0 0/\e 11=.ref p t 4 N.length) _
  ⟨x,H1.length,c1,[],G1,m1,f1,bB _,hx,ht,by have:=hx.c;simp;omega,by simp,S.app _,by simp,S.q.aT.out _ (bB _),by have:=bL S.l4;omega,e0,e1,e5,e6,e7,e9,e10,rfl⟩ ?_
 clear e0 e1 e5 e6 e7 e9 e10;intro k e Hc c2 ⟨z,p,t,N,G2,m2,f2,hzk,hz,hzt,hcnt,hN,S2,lp,op,hp,e0,e1,e5,e6,e7,e9,e10,e11⟩ N2 hN2;have g0:=λM K=>bT S2.l0 M K;have g00:=λK=>aL S2.l0 K;have gp:=λM K=>bT lp M K;by_cases h7:z.aJ=7
 .cases hzt with
  |var h=>omega
  |prop h=>omega
  |idx h hz0 t0=>
   rename_i w;obtain⟨h2,h2e⟩:=hz.v.sh.two (by omega);obtain⟨u,hu⟩:∃u,z.aP.aG[1]?=some u:=⟨_,bC (by omega)⟩
   have hc1:=D3 (bA hz0);have hc2:w.iD+1<=z.iD:=by
    have:=AR (sz:=aQ.iD) (bA hz0);rw[aQ.B3 z];omega
   simp[e5,e11,g0,g00,gp,h7,aL hz0,aL hu,bW,hz41];refine⟨by omega,by unfold mx;omega,?_⟩;have S3:=S2.app [⟨false,c2+1,4,u.enc::List.take N.length (N.map aQ.enc)⟩];have hl0:=bL S3.l0;have S4:sX us cs H G pm tm pf tf m f L c0 t9 t10 y w v ((Hc++[(⟨false,c2+1,4,u.enc::List.take N.length (N.map aQ.enc)⟩:aH)]).set H.length ⟨false,c0,4,[w.enc]⟩) G2 m2 f2:=
    ⟨S3.q.eZ (bB _) (S3.o 0 (by omega)) _,S3.hv,by rw[eP hl0],eC S3.l1 (by omega) _,eC S3.l2 (by omega) _,eC S3.l3 (by omega) _,eC S3.l4 (by omega) _,S3.o⟩
   have hl4:=bL S2.l4;refine hN2 (SizeOf.sizeOf w) _ _ _ _ (fM (sN (bA hz0)) hzk) (bY _) ⟨w,Hc.length,c2+1,u::N,G2,m2,f2,bB _,hz.get hz0,t0,by simp;omega,λq hq=>?_,S4,eC (by simp[fJ]) (by omega) _,S2.q.aT.out _ (bB _),by omega,?_,?_,?_,?_,?_,?_,?_,?_⟩
   .rcases fK.1 hq with rfl|hq
    .exact⟨hz.get hu,h2e _ (bA hu)⟩
    .exact hN q hq
   all_goals simp[aK,e0,e1,e5,e6,e7,e9,e10,Nat.add_comm]
 .have gg9:=λK=>aL S2.l3 K;have gg10:=λK=>aL S2.l4 K;have hfu:m2.bH<n:=by have:=S2.q.mono.f;omega
  simp[e0,e1,e5,e9,e10,e11,g00,gg9,gg10,h7];refine yV hE S2.q.aT S2.q.bI (.inr ⟨p,t,rfl,lp,op⟩) (by omega) hN hfu λM G3 m3 f3 t3 X g c3 hM hMv hXl oX lK oK q=>?_;have S3:=S2.go q;generalize X++[g]=H3 at lK q S3 ⊢;have h3:=λK=>aL S3.l3 K;have h4:=λK=>aL S3.l4 K;have k1:=λK=>aL S3.l1 K;have hs4:∀Y (K:aH->Prop),aZ (H3.set (H.length+1) Y) (H.length+4) K=K ⟨false,t10,5,[v.enc]⟩:=λY K=>aL (eC S3.l4 (by omega) _) K;have hs2:∀Y (K:aH->Prop),aZ (H3.set (H.length+1) Y) (H.length+2) K=K ⟨false,c0+1+1,5,[[.I 0,.I 0,.str [],.I 0,.aU]]⟩:=λY K=>aL (eC S3.l2 (by omega) _) K;have hl1:=bL S3.l1;have hl2:=bL S3.l2;have hs1:∀Y Z (K:aH->Prop),aZ ((H3.set (H.length+1) Y).set (H.length+2) Z) (H.length+1) K=K Y:=λY Z K=>aL (eC (eP hl1) (by omega) _) K;have hs22:∀Y Z (K:aH->Prop),aZ ((H3.set (H.length+1) Y).set (H.length+2) Z) (H.length+2) K=K Z:=λY Z K=>aL (eP (by simpa using hl2)) K;simp[e6,e7,e9,e10,h3,h4,k1,hs4,hs2,hs1,aQ.all,hz4];have hpl:=bL S2.l4;refine⟨hl2,?_⟩;refine dD ⟨y,v,M,G3,m3,f3,Hc.length,t3,by rw[hM],hyk,S3.hv,by omega,hMv,eC (eC lK (by omega) _) (by omega) _,oK,by omega,?_⟩;exact(S3.q.eZ (by omega) (S3.o 1 (by omega)) _).eZ (by omega) (S3.o 2 (by omega)) _
def UH {n} {x:aQ} {c} {K:aD} (hE:iS us cs n) (h:Lay us cs H G pm tm m) (Z:cY H G pf tf m f L) (J:NE x) (T:mH x) (W:m.bH<n)
  (k:∀(y:aQ) (v:aO) (M:aF aO) (H':aC) (G':Nat->a6) (m':aI) (f':aW) (p t:Nat) (E:Nat),(y.aJ=4\/y.aJ=8)->m'.V v->M.length<=1000->(∀v,v∈M->m'.V v)->H'[p]?=some ⟨false,t,5,M.map aO.enc⟩->G' p=.bP->H.length<=p->PE us cs H G pm tm pf tf m f L 0 0 H' G' m' f'->K (.aX [.agg y.enc,.agg v.enc,.ref p t 5 M.length]) H' E):bO aE 261 [.ptr pm tm 19 0 0,.ptr pf tf 7 0 0,.agg x.enc] H c K:=
 gL (path_con hE h Z J T W) λr H' E ⟨y,v,M,G',m',f',p,t,h1,h2,h3,h4,h5,Z,W,T,J⟩=>by subst h1;exact k y v M H' G' m' f' p t E h2 h3 h4 h5 Z W T J
end
set_option maxRecDepth 100000
def Loc (H:aC) (G:Nat->a6) (l:aF (Nat×aH)):Prop:=∀x,x∈l->H[x.1]?=some x.2/\G x.1=.bP
def Loc.at_ {H:aC} {G:Nat->a6} {l} (h:Loc H G l) {p:Nat} {ob} (E:(p,ob)∈l):H[p]?=some ob:=(h _ E).1
def Loc.ot {H} {G:Nat->a6} {l} (h:Loc H G l) {p} {ob} (E:(p,ob)∈l):G p=.bP:=(h _ E).2
def Loc.app {H} {G:Nat->a6} {l} (h:Loc H G l) M:Loc (H++M) G l:=λx E=>⟨fF (h x E).1 M,(h x E).2⟩
def Loc.cons {H:aC} {G:Nat->a6} {l} (h:Loc H G l) {p:Nat} {ob} (T:H[p]?=some ob) (J:G p=.bP):Loc H G ((p,ob)::l):=λx E=>by
 rcases fK.1 E with rfl|E
 .exact⟨T,J⟩
 .exact h x E
def Loc.nil {H} {G:Nat->a6}:Loc H G []:=λx E=>by cases E
def Loc.sub {H} {G:Nat->a6} {l l'} (h:Loc H G l) (hs:∀x,x∈l'->x∈l):Loc H G l':=λx E=>h x (hs x E)
def Loc.set {H:aC} {G:Nat->a6} {l} {p} (h:Loc H G l) (J:∀x,x∈l->x.1≠p) ob:Loc (H.set p ob) G l:=λx E=>⟨eC (h x E).1 (λe=>J x E e.symm) ob,(h x E).2⟩
section
variable {us:SL bU} {cs:SL bG} {H H' H'':aC} {G G' G'':Nat->a6} {pm tm pf tf:Nat} {m m' m'':aI} {f f' f'':aW} {L L' L'':aF aY} {a b a' b':Int}
def PE.dO (q:PE us cs H G pm tm pf tf m f L a b H' G' m' f') {l} (h:Loc H G l):Loc H' G' l:=λx E=>q.loc (h x E).1 (h x E).2
def PA.dO (q:PA us cs H G pm tm m b H' G' m') {l} (h:Loc H G l):Loc H' G' l:=λx E=>q.loc (h x E).1 (h x E).2
def TW s a b:aR [.str s,a] 1 [b]=[.str s,b]:=rfl
def zo (t:Nat):aH:=⟨false,t,5,[[.I 0,.I 0,.str [],.I 0,.aU]]⟩
def vo (t:Nat) (v:aO):aH:=⟨false,t,5,[v.enc]⟩
def no (t:Nat) (v:aQ):aH:=⟨false,t,4,[v.enc]⟩
def RW t:vo t (sV 0 0 [])=zo t:=by simp[vo,zo,z5]
structure FQ (us:SL bU) (cs:SL bG) (H:aC) (G:Nat->a6) (pm tm pf tf:Nat) (m:aI) (f:aW) (L:List aY) (Hc:aC) (G1:Nat->a6) (m1:aI) (f1:aW) (y:aQ) (v:aO) (i:Int):Prop where
 q:PE us cs H G pm tm pf tf m f L 0 0 Hc G1 m1 f1
 ab:m1.ab=0
 yk:(y.aJ=4/\i = -1)\/(y.aJ=8/\v.aJ=6/\∃(k p t:Nat) (O:List (aA×AV)) (cl:aA) (a:AV) (F:List cH),v.bN=k/\pZ Hc G1 m1 k p t O cl a F/\-1<=i/\i<F.length)
 v:m1.V v
def V9 {p t c:Nat} {M:aF aO} {K:aD} (T:H[p]?=some ⟨false,t,5,M.map aO.enc⟩) (E:M.length<=1000) (J:∀v,v∈M->m.V v) (k:∀(s:SL bX) (b:Bool) E,s.aG.length<=M.length->(b=true->s.aG.length=M.length)->(∀k,k∈s.aG->kV k)->K (.aX [s.av 3 bX.enc,.bool b]) H E):bO aE 263 [.ref p t 5 M.length] H c K:=
 E4 (V8 (l:=.mk t M) (by simp;omega) J) (.cons (jK (bA T) rfl λx _=>aO.cells x) .nil) λr E _ ⟨s,b,J,Z,W,T⟩ _=>by subst J;exact k s b E Z W T
def TX {c:Nat} {v x:aO} {s:SL bX} {b:Bool} {K:aD} (T:m.V v) (J:m.V x) (W:s.aG.length<=100000) (Z:∀k,k∈s.aG->kV k) (k:∀(y:aO) (n:Int) E,m.V y->K (.aX [.agg y.enc,.I n]) H E):bO aE 266 [.agg v.enc,s.av 3 bX.enc,.bool b,.agg x.enc] H c K:=
 cV (put12_s T J W Z) λr E _ ⟨y,n,T,_,_,J⟩=>by subst T;exact⟨fB _,k y n E J⟩
def pZ.bS {k p t:Nat} {O:aF (aA×AV)} {cl:aA} {a:AV} {F:aF cH} (o:pZ H G m k p t O cl a F) (h:Lay us cs H G pm tm m):∀k x,O[k]?=some x->vZ H G m k x.2/\x.1.length<=20000:=by
 obtain⟨W,E,J⟩:=h.bS;rcases E with⟨e,E⟩|⟨E,E,e,T,_⟩
 .rw[o.e] at e;cases e
 .have E:=o.e.symm.trans e;simp at E;obtain⟨rfl,rfl,Z⟩:=E;have:=o.ho.symm.trans T;simp at this;have T:Function.Injective fU:=λa b h=>by
   simp[fU] at h;exact Prod.ext h.1 h.2
  have E:O=W:=(LK T).1 this;subst E;exact J
def pZ.S8 {k p t:Nat} {O:aF (aA×AV)} {cl:aA} {a T:AV} {F F2:aF cH} (o:pZ H G m k p t O cl a F) (h:Lay us cs H G pm tm m) (hs:Slot H' G' (.jH k) 6 T (F2.map cH.enc)) (Z:cB (λx=>x=.jH k) H G H' G') (out:∀p,H'.length<=p->G' p=.bP) (hl:F2.length<=20000000000) (hv:∀x,x∈F2->m.V x.jV):
  PA us cs H G pm tm m 0 (H'.set p ⟨false,t,2,(O.map fU).set k [.str cl,T]⟩) G' m:=by obtain⟨E,q2⟩:=Z p _ o.ho (by rw[o.g];simp);have W:=bL E;have E:cB (λx=>x=.bS) H' G' (H'.set p ⟨false,t,2,(O.map fU).set k [.str cl,T]⟩) G':=cB.set (S:=λx=>x=.bS) _ (q2.trans o.g);have J:cB (λx=>x=.jH k\/x=.bS) H G (H'.set p ⟨false,t,2,(O.map fU).set k [.str cl,T]⟩) G':=(cB.mono Z λo h=>.inl h).trans (cB.mono E λo h=>.inr h);have Z:=o.kl;refine h.XR o.c (o.bS h) J (wP out _ _) (O':=O.set k (cl,T)) (.inr ⟨p,t,by rw[o.e];simp,by rw[eP W,lT];rfl,q2.trans o.g⟩) (λj x T J=>?_) (by rw[eP Z]) (hs.kp E (by simp)) hl hv;rw[uR (λe=>J e.symm)] at T;exact T
def assign_con {n} {x:aQ} {c0} (hE:iS us cs n) (hP:fC us cs) (h:Lay us cs H G pm tm m) (hf:cY H G pf tf m f L) (hx:NE x) (hk:x.aJ=15\/x.aJ=16) (hr:Rm m f L) (hn:m.bH<n):cA aE 239 [.ptr pm tm 19 0 0,.ptr pf tf 7 0 0,.agg x.enc] H c0 (lO us cs H G pm tm pf tf m f L 2 2):=by
 refine cO F239 ?_;unfold F239;obtain⟨y0,hy0,hyt⟩:=hx.v.sh.MG (by omega);obtain⟨h2,h2e⟩:=hx.v.sh.two (by omega);obtain⟨u,hu⟩:∃u,x.aP.aG[1]?=some u:=⟨_,bC (by omega)⟩
 have hue:=h2e u (bA hu);have hz4:∀n:aQ,aR [.I 0,.I 0,.str [],.aU] 0 n.enc=n.enc:=M7 _ _ _ _;have fin:∀{Hc:aC} {G1:Nat->a6} {m1:aI} {f1:aW} {w:aO} {X:aH} {c:Nat},PE us cs H G pm tm pf tf m f L 2 2 Hc G1 m1 f1->G1 (H.length+1)=.bP->m1.V w->cE (lO us cs H G pm tm pf tf m f L 2 2) (.agg w.enc) (Hc.set (H.length+1) X) c:=λq ho hw=>dD ⟨_,_,_,_,rfl,hw,q.eZ (by omega) ho _⟩;rw[dT,dT,dT,dT,dT,dT];refine gK (λe Hc c'=>∃(y:aQ) (v w V:aO) (i:Int) (M:aF aO) (p p7 p8 qE wO t t7 t8 t10 t11:Nat) (G1:Nat->a6) (m1:aI) (f1:aW),FQ us cs H G pm tm pf tf m f L Hc G1 m1 f1 y v i/\m1.V w/\m1.V V/\M.length<=1000/\(∀z,z∈M->m1.V z)/\
  Loc Hc G1 [(H.length,no c0 x),(H.length+1,zo (c0+1)),(p,⟨false,t,5,M.map aO.enc⟩),(p7,no t7 y),(p8,vo t8 v),(qE,vo t10 w),(wO,vo t11 V)]/\H.length+2<=p/\H.length+2<=p7/\p7<p8/\p8<qE/\qE<wO/\
  e 0=.ptr pm tm 19 0 0/\e 1=.ptr pf tf 7 0 0/\e 5=.ptr H.length c0 4 0 0/\e 6=.ptr (H.length+1) (c0+1) 5 0 0/\e 7=.ptr p7 t7 4 0 0/\e 8=.ptr p8 t8 5 0 0/\e 9=.ref p t 5 M.length/\e 10=.ptr qE t10 5 0 0/\e 11=.ptr wO t11 5 0 0/\e 12=.I i) ?_ ?_
 rotate_left
 .intro K hK;simp[bW,aL hy0];have L0:Loc (H++[no c0 x,zo (c0+1)]) G [(H.length,no c0 x),(H.length+1,zo (c0+1))]:=(Loc.nil.cons (by simp) (h.out _ (by omega))).cons (by simp) (h.out _ (by omega));refine UH hE (h.app _) (hf.app _) (hx.get hy0) hyt hn λy v M H1 G1 m1 f1 p t c1 hyk hv hMl hMv lp op hp q=>?_;have q0:=q.gU;have L1:=(q.dO L0).cons lp op;have L2:=((L1.app [no c1 y,vo (c1+1) v]).cons (p:=H1.length) (ob:=no c1 y) (by simp) (q.aT.out _ (bB _))).cons (p:=H1.length+1) (ob:=vo (c1+1) v) (by simp) (q.aT.out _ (by omega));have l0:=λM K=>bT (L1.at_ (p:=H.length) (ob:=no c0 x) (by simp)) M K;simp[cM,bW,hz4,l0,no,aL hu];have q1:=q0.app [no c1 y,vo (c1+1) v];refine oH hE q1.aT q1.bI (hx.get hu) hue (by have:=q.mono.f;omega) λw H2 G2 m2 f2 c2 hw q2 _=>?_;have L3:=q2.dO L2;have q3:=(q1.trans q2).le (a':=0) (b':=0) (by omega) (by omega);have gm:=λM K=>bT q2.aT.hm M K;have gb:=λM K=>bT (L3.at_ (p:=H.length+1) (ob:=zo (c0+1)) (by simp)) M K;have hbl:=bL (L3.at_ (p:=H.length+1) (ob:=zo (c0+1)) (by simp));have ob2:=L3.ot (p:=H.length+1) (ob:=zo (c0+1)) (by simp);have gS:∀(X:aH) (M:aC) (K:aH->Prop),aZ (H2.set (H.length+1) X++M) (H.length+1) K=K X:=λX M K=>bT (eP hbl) M K;by_cases hab:m2.ab=0;rotate_left
  .simp[bW,gm,aI.bD,aI.g12,hab,gb,zo,hbl,gS];rw[z5];have:=fin (c:=c2+1) (w:=sV 0 0 []) (X:=⟨false,c0+1,5,[(sV 0 0 []).enc]⟩) ((q3.app [vo c2 w]).le (by omega) (by omega)) ob2 .nil;simpa[hbl,z5,vo] using this
  have L4:=((L3.app [vo c2 w,zo (c2+1)]).cons (p:=H2.length) (ob:=vo c2 w) (by simp) (q2.aT.out _ (bB _))).cons (p:=H2.length+1) (ob:=zo (c2+1)) (by simp) (q2.aT.out _ (by omega));have q4:=q3.app [vo c2 w,zo (c2+1)];have g7:=λM K=>bT (L3.at_ (p:=H1.length) (ob:=no c1 y) (by simp)) M K;have g8:=λM K=>bT (L3.at_ (p:=H1.length+1) (ob:=vo (c1+1) v) (by simp)) M K;have hvm:m2.V v:=hv.mono q2.mono;have h12:H1.length+1<H2.length:=bL (L3.at_ (p:=H1.length+1) (ob:=vo (c1+1) v) (by simp));have done_:∀(i:Int) (V:aO) (e:Env) (c':Nat),FQ us cs H G pm tm pf tf m f L (H2++[vo c2 w,vo (c2+1) V]) G2 m2 f2 y v i->m2.V V->e 0=.ptr pm tm 19 0 0->e 1=.ptr pf tf 7 0 0->e 5=.ptr H.length c0 4 0 0->e 6=.ptr (H.length+1) (c0+1) 5 0 0->e 7=.ptr H1.length c1 4 0 0->e 8=.ptr (H1.length+1) (c1+1) 5 0 0->e 9=.ref p t 5 M.length->e 10=.ptr H2.length c2 5 0 0->e 11=.ptr (H2.length+1) (c2+1) 5 0 0->e 12=.I i->K e (H2++[vo c2 w,vo (c2+1) V]) c':=
   λi V e c' hA hV f0 f1' f5 f6 f7 f8 f9 f10 f11 f12=>by
    have L5:=((L3.app [vo c2 w,vo (c2+1) V]).cons (p:=H2.length) (ob:=vo c2 w) (by simp) (q2.aT.out _ (bB _))).cons (p:=H2.length+1) (ob:=vo (c2+1) V) (by simp) (q2.aT.out _ (by omega));exact hK _ _ _ ⟨y,v,w,V,i,M,p,H1.length,H1.length+1,H2.length,H2.length+1,t,c1,c1+1,c2,c2+1,G2,m2,f2,hA,hw,hV,hMl,λz hz=>(hMv z hz).mono q2.mono,L5.sub (by simp),by simp at hp;omega,by have:=bL (L1.at_ (p:=H.length+1) (ob:=zo (c0+1)) (by simp));omega,by omega,by omega,by omega,f0,f1',f5,f6,f7,f8,f9,f10,f11,f12⟩
  rcases hyk with k4|k8
  .simp[cM,bW,gm,aI.bD,aI.g12,hab,g7,no,k4];refine OG q4.aT q4.bI λV c3 hV=>?_;simp[cM];refine done_ (-1) V _ _ ⟨q3.app _,hab,.inl ⟨k4,rfl⟩,hvm⟩ hV ?_ ?_ ?_ ?_ ?_ ?_ ?_ ?_ ?_ ?_<;>simp[aK]
  .have gb4:=λ{H5:aC} {G5:Nat->a6} (L5:Loc H5 G5 [(H2.length+1,zo (c2+1)),(H2.length,vo c2 w),(H1.length+1,vo (c1+1) v),(H1.length,no c1 y),(p,⟨false,t,5,M.map aO.enc⟩),(H.length,no c0 x),(H.length+1,zo (c0+1))])=>L5.at_ (p:=H.length+1) (ob:=zo (c0+1)) (by simp);have thr:∀{H5:aC} {G5:Nat->a6} {m5:aI} {c5:Nat},PA us cs (H2++[vo c2 w,zo (c2+1)]) G2 pm tm m2 0 H5 G5 m5->H.length+1<H5.length/\(∀K:aH->Prop,aZ H5 (H.length+1) K=K (zo (c0+1)))/\∀X,cE (lO us cs H G pm tm pf tf m f L 2 2) (.agg (sV 0 0 []).enc) (H5.set (H.length+1) X) c5:=λq5=>by
    have L5:=q5.dO L4;exact⟨bL (gb4 L5),λK=>aL (gb4 L5) K,λX=>fin ((q4.trans (q5.pe q4.bI)).le (by omega) (by omega)) (L5.ot (p:=H.length+1) (ob:=zo (c0+1)) (by simp)) .nil⟩
   by_cases hv6:v.aJ=6;rotate_left
   .simp[cM,bW,gm,aI.bD,aI.g12,hab,g7,g8,no,vo,k8,hv6];refine jT q4.aT hP hab (by simp) λH5 G5 m5 c5 q5=>?_;obtain⟨t1,t2,t3⟩:=thr (c5:=c5) q5;simp[t1,t2,zo];exact t3 _
   .obtain⟨hk0,hk1⟩:=hvm.ok.o6 hv6;obtain⟨k,hkk⟩:=iY hk0;rw[hkk] at hk1;obtain⟨pO,tO,O,cl,a,F,hob2,hne⟩:=q2.aT.obj (k:=k) (by omega);have hob:=hob2.gE (cB.app (S:=λ_=>False) [vo c2 w,zo (c2+1)]) (λh=>h) (λh=>h);have gf:=λM K=>bT q2.bI.hf M K;simp[cM,bW,gm,aI.bD,aI.g12,hab,g7,g8,no,vo,k8,hv6];refine⟨λ_=>CM F.length,?_⟩;simp[gf,aW.bD,aW.g3,hkk];refine OV q4.aT hP hob λi see hi1 hi2=>?_;simp;intro c5 _;cases see
    .simp;refine jT q4.aT hP hab (by simp) λH5 G5 m5 c5 q5=>?_;obtain⟨t1,t2,t3⟩:=thr (c5:=c5) q5;simp[t1,t2,zo];exact t3 _
    .have hasS:∀V,FQ us cs H G pm tm pf tf m f L (H2++[vo c2 w,vo (c2+1) V]) G2 m2 f2 y v i:=λV=>by
      refine⟨q3.app _,hab,.inr ⟨k8,hv6,k,pO,tO,O,cl,a,F,hkk,?_,hi1,hi2⟩,hvm⟩;exact hob2.gE (cB.app (S:=λ_=>False) _) (λh=>h) (λh=>h)
     by_cases hi0:0<=i
     .obtain⟨j,rfl⟩:=iY hi0;obtain⟨fd,hfd⟩:∃fd,F[j]?=some fd:=⟨_,bC (by omega)⟩
      obtain⟨pF,tF,f1',f2',f3',_⟩:=hob.yL q4.aT hfd;have gO:=λK=>aL hob.ho K;have gk:=λK=>aL hob.o K;have gF:=λK=>aL f2' K;have hkO:(k:Int)<(O.length:Int):=by have:=hob.kl;omega
      have hOe:=hob.e;have gO':∀K:aH->Prop,aZ (H2++[vo c2 w,zo (c2+1)]) pO K=K ⟨false,tO,2,O.map fU⟩:=gO;simp only[vo,zo] at gO gF;have hj0:¬((j:Int)<0):=by omega
      simp[hj0,cM,gm,aI.bD,aI.g4,hOe,g8,vo,gO,gF,gk,fU,hkk,hkO,f1',hi2,aL hfd,hi0];refine done_ j fd.jV _ _ (hasS _) (hob.v fd (bA hfd)) ?_ ?_ ?_ ?_ ?_ ?_ ?_ ?_ ?_ ?_<;>simp[aK]
     .have:i = -1:=by omega
      subst this;simp;have:=done_ (-1) (sV 0 0 []);simp only[RW] at this;simp only[vo,zo] at this hasS;refine this _ _ ?_ .nil ?_ ?_ ?_ ?_ ?_ ?_ ?_ ?_ ?_ ?_
      .have:=hasS (sV 0 0 []);rw[<-z5] at this;exact this
      all_goals simp[aK]
 intro e Hc c ⟨y,v,w,V,i,M,p,p7,p8,qE,wO,t,t7,t8,t10,t11,G1,m1,f1,S,hw,hV,hM,hMv,LL,hp,hp7,hp8,hp10,hp11,e0,e1,e5,e6,e7,e8,e9,e10,e11,e12⟩;have hr1:=hr.of S.q;have lb:=LL.at_ (p:=H.length+1) (ob:=zo (c0+1)) (by simp);have ob:=LL.ot (p:=H.length+1) (ob:=zo (c0+1)) (by simp);have g5:=λK=>aL (LL.at_ (p:=H.length) (ob:=no c0 x) (by simp)) K;have g7:=λM K=>bT (LL.at_ (p:=p7) (ob:=no t7 y) (by simp)) M K;have g8:=λM K=>bT (LL.at_ (p:=p8) (ob:=vo t8 v) (by simp)) M K;have g10:=λK=>aL (LL.at_ (p:=qE) (ob:=vo t10 w) (by simp)) K;have g10a:=λM K=>bT (LL.at_ (p:=qE) (ob:=vo t10 w) (by simp)) M K;have g11:=λK=>aL (LL.at_ (p:=wO) (ob:=vo t11 V) (by simp)) K;have gm:=λM K=>bT S.q.aT.hm M K;have errF:∀{H4 H5:aC} {G5:Nat->a6} {m5:aI} {c5:Nat},Loc H4 G1 [(H.length+1,zo (c0+1))]->PE us cs H G pm tm pf tf m f L 0 0 H4 G1 m1 f1->PA us cs H4 G1 pm tm m1 0 H5 G5 m5->H.length+1<H5.length/\(∀K:aH->Prop,aZ H5 (H.length+1) K=K (zo (c0+1)))/\∀X,cE (lO us cs H G pm tm pf tf m f L 2 2) (.agg (sV 0 0 []).enc) (H5.set (H.length+1) X) c5:=λl4 q4 q5=>by
  have L5:=q5.dO l4;exact⟨bL (L5.at_ (p:=H.length+1) (ob:=zo (c0+1)) (by simp)),λK=>aL (L5.at_ (p:=H.length+1) (ob:=zo (c0+1)) (by simp)) K,λX=>fin ((q4.trans (q5.pe q4.bI)).le (by omega) (by omega)) (L5.ot (p:=H.length+1) (ob:=zo (c0+1)) (by simp)) .nil⟩
 simp[e9];refine V9 (LL.at_ (by simp)) hM hMv λs b c1 hs1 hs2 hs3=>?_;cases b
 .simp[e0];refine pE S.q.aT hP S.ab λH5 G5 m5 c5 q5=>?_;obtain⟨t1,t2,t3⟩:=errF (c5:=c5) (Loc.nil.cons lb ob) S.q q5;simp[e6,t1,t2,zo];exact t3 _
 simp[e5,e10,e11,g5,g10,g11,no,vo];refine TX hV hw (by omega) hs3 λyv code c2 hyv=>?_;have q1:=S.q.app [vo c2 yv];have LL1:=(LL.app [vo c2 yv]).cons (p:=Hc.length) (ob:=vo c2 yv) (by simp) (S.q.aT.out _ (bB _));by_cases hc0:code=0;rotate_left
 .simp[e0,bW,hc0];refine pE q1.aT hP S.ab λH5 G5 m5 c5 q5=>?_;obtain⟨t1,t2,t3⟩:=errF (c5:=c5) (Loc.nil.cons (fF lb _) ob) q1 q5;simp[e6,t1,t2,zo];exact t3 _
 rcases S.yk with⟨k4,hi⟩|⟨k8,hv6,k,pO,tO,O,cl,a,F,hvk,hob,hi1,hi2⟩
 .simp[e0,e1,e7,bW,hc0,g7,no,k4];refine C9 q1.aT q1.bI hyv (by have:=hr1.m;omega) (by have:=hr1.e;omega) λH5 G5 a5 b5 f5 c5 q5=>?_;have LL5:=q5.dO LL1;have g10b:=λK=>aL (LL5.at_ (p:=qE) (ob:=vo t10 w) (by simp)) K;have gbb:=λK=>aL (LL5.at_ (p:=H.length+1) (ob:=zo (c0+1)) (by simp)) K;have hbl:=bL (LL5.at_ (p:=H.length+1) (ob:=zo (c0+1)) (by simp));simp[e6,e10,g10b,gbb,vo,zo,hbl];exact fin ((q1.trans q5).le (by omega) (by omega)) (LL5.ot (p:=H.length+1) (ob:=zo (c0+1)) (by simp)) (hw.mono q5.mono)
 .have hob1:=hob.gE (cB.app (S:=λ_=>False) [vo c2 yv]) (λh=>h) (λh=>h);have gO:=λM K=>bT hob.ho M K;have gk:=λK=>aL hob.o K;have hOe:=hob.e;have hkO:(k:Int)<(O.length:Int):=by have:=hob.kl;omega
  by_cases hi0:0<=i
  .obtain⟨j,rfl⟩:=iY hi0;obtain⟨fd,hfd⟩:∃fd,F[j]?=some fd:=⟨_,bC (by omega)⟩
   obtain⟨pF,tF,u1,u2,u3,u4⟩:=hob1.yL q1.aT hfd;have gF:=λK=>aL u2 K;have q5:=u4 yv hyv;simp only[vo] at gF;have LL5:=q5.dO LL1;have g10b:=λK=>aL (LL5.at_ (p:=qE) (ob:=vo t10 w) (by simp)) K;have gbb:=λK=>aL (LL5.at_ (p:=H.length+1) (ob:=zo (c0+1)) (by simp)) K;have hbl:=bL (LL5.at_ (p:=H.length+1) (ob:=zo (c0+1)) (by simp));simp only[vo,zo] at g10b gbb;simp[e0,e6,e7,e8,e10,e12,bW,hc0,g7,g8,no,vo,k8,gm,aI.bD,aI.g4,hOe,gO,gk,fU,hvk,hkO,u1,gF,aL hfd,M5,hi2];have hbl2:H.length<Hc.length:=by have:=bL (LL.at_ (p:=H.length+1) (ob:=zo (c0+1)) (by simp));omega
   simp[g10b,gbb,hbl2];exact fin ((q1.trans (q5.pe q1.bI)).le (by omega) (by omega)) (LL5.ot (p:=H.length+1) (ob:=zo (c0+1)) (by simp)) hw
  .have hj0:¬(0<=i):=hi0;have hiv:i = -1:=by omega
   subst hiv;have hsw:=λK=>hob.s.BE K;simp at hsw;by_cases h12:12<=F.length
   .have h12':(12:Int)<=(F.length:Int):=by omega
    simp[e0,e7,e8,e12,bW,hc0,g7,g8,no,vo,k8,gm,aI.bD,aI.g4,hOe,gO,gk,fU,hvk,hkO,hsw,h12'];refine pE q1.aT hP S.ab λH5 G5 m5 c5 q5=>?_;obtain⟨t1,t2,t3⟩:=errF (c5:=c5) (Loc.nil.cons (fF lb _) ob) q1 q5;simp[e6,t1,t2,zo];exact t3 _
   .have h12':¬(12:Int)<=(F.length:Int):=by omega
    simp[e0,e7,e8,e12,bW,hc0,g7,g8,no,vo,k8,gm,aI.bD,aI.g4,hOe,gO,gk,fU,hvk,hkO,hsw,h12',T5];refine⟨by simp[aR],?_⟩;have hlay2:=S.q.aT.app [vo c2 yv,⟨false,c2+1,6,[(cH.mk y.bR yv).enc]⟩];have hfrm2:=S.q.bI.app [vo c2 yv,⟨false,c2+1,6,[(cH.mk y.bR yv).enc]⟩];have hob2:=hob.gE (cB.app (S:=λ_=>False) [vo c2 yv,⟨false,c2+1,6,[(cH.mk y.bR yv).enc]⟩]) (λh=>h) (λh=>h);refine xS (hob2.s) hlay2.out (aM:=(cH.mk y.bR yv).enc) (by simp) (by simp;omega) (by simp;unfold mx;omega) λp3 H3 G3 hs3 hc3 wR=>?_;have q5:=hob2.S8 (F2:=F++[cH.mk y.bR yv]) hlay2 (by simpa using hs3) hc3 wR (by simp;omega) λz hz=>by
     rcases dI.1 hz with h|h
     .exact hob2.v z h
     .simp at h;subst h;exact hyv
    have kO:=hc3 pO _ hob2.ho (by rw[hob2.g];simp);have gO3:=λK=>aL kO.1 K;have LL2:=LL.app [vo c2 yv,⟨false,c2+1,6,[(cH.mk y.bR yv).enc]⟩];have LL5:=q5.dO LL2;have g10b:=λK=>aL (LL5.at_ (p:=qE) (ob:=vo t10 w) (by simp)) K;have gbb:=λK=>aL (LL5.at_ (p:=H.length+1) (ob:=zo (c0+1)) (by simp)) K;have hbl:=bL (LL5.at_ (p:=H.length+1) (ob:=zo (c0+1)) (by simp));have hm3:=hc3 pm _ hlay2.hm (by rw[hlay2.gm];simp);have gm3:=λK=>aL hm3.1 K;have l83:=hc3 p8 _ (LL2.at_ (p:=p8) (ob:=vo t8 v) (by simp)) (by rw[LL2.ot (p:=p8) (ob:=vo t8 v) (by simp)];simp);have g83:=λK=>aL l83.1 K;simp only[vo,zo] at g10b gbb g83;simp only[nR] at q5 g10b gbb hbl ⊢;have hbl2:H.length+1<H3.length:=by simpa using hbl
    simp[e6,e10,gm3,aI.bD,aI.g4,hOe,g83,hvk,hkO,gO3,gk,fU,TW,g10b,gbb,hbl2];exact fin (((S.q.app [vo c2 yv,⟨false,c2+1,6,[(cH.mk y.bR yv).enc]⟩]).trans (q5.pe hfrm2)).le (by omega) (by omega)) (LL5.ot (p:=H.length+1) (ob:=zo (c0+1)) (by simp)) hw
def aaF {n} {x:aQ} {c} {K:aD} (hE:iS us cs n) (hP:fC us cs) (h:Lay us cs H G pm tm m) (hf:cY H G pf tf m f L) (J:NE x) (Z:x.aJ=15\/x.aJ=16) (T:Rm m f L) (W:m.bH<n)
  (k:∀v H' G' m' f' E,aI.V m' v->PE us cs H G pm tm pf tf m f L 2 2 H' G' m' f'->K (.agg (aO.enc v)) H' E):bO aE 239 [.ptr pm tm 19 0 0,.ptr pf tf 7 0 0,.agg x.enc] H c K:=
 gL (assign_con hE hP h hf J Z T W) λr H' E ⟨v,G',m',f',W,T,J⟩=>by subst W;exact k v H' G' m' f' E T J
end
set_option maxRecDepth 100000
def JM (x:aA×AV) (K:AV->Prop):aZ (fU x) 0 K=K (.str x.1):=by simp[fU]
def enc_ob1 (x:aA×AV) (K:AV->Prop):aZ (fU x) 1 K=K x.2:=by simp[fU]
section
variable {us:SL bU} {cs:SL bG} {H H' H'':aC} {G G' G'':Nat->a6} {pm tm pf tf:Nat} {m m' m'':aI} {f f' f'':aW} {L L' L'':aF aY} {a b a' b':Int}
def PA.IC {M X} {Y} (h:PA us cs Y G pm tm m b H' G' m') (e:Y=X++M):PA us cs X G pm tm m b H' G' m':=by subst e;exact h.gU
def put5m (t:dJ):aR [.str [],.str [],.str [],.bool false,.bool false] 0 t.enc=t.enc:=by simp[aR,dJ.enc]
def prop_con {n} {v:aO} {name:aA} {c0} (hR:iR us cs n) (hP:fC us cs) (h:Lay us cs H G pm tm m) (hf:cY H G pf tf m f L) (h0:m.ab=0) (Z:m.V v) (hnm:name.length<=400) (hr:Rm m f L) (hn:m.bH<n):cA aE 247 [.ptr pm tm 19 0 0,.ptr pf tf 7 0 0,.agg v.enc,.str name] H c0 (CG us cs H G pm tm m 2000):=by
 refine cO F247 ?_;unfold F247;have q1:=(PA.refl h).app [vo c0 v,zo (c0+1)];have W:Loc (H++[vo c0 v,zo (c0+1)]) G [(H.length,vo c0 v),(H.length+1,zo (c0+1))]:=(Loc.nil.cons (by simp) (h.out _ (by omega))).cons (by simp) (h.out _ (by omega));have E:∀{H5:aC} {G5:Nat->a6} {m5:aI} {c5:Nat},PA us cs (H++[vo c0 v,zo (c0+1)]) G pm tm m 2000 H5 G5 m5->H.length+1<H5.length/\(∀K:aH->Prop,aZ H5 (H.length+1) K=K (zo (c0+1)))/\∀X w,m5.V w->cE (CG us cs H G pm tm m 2000) (.agg w.enc) (H5.set (H.length+1) X) c5:=λJ=>by
  have T:=J.dO W;exact⟨bL (T.at_ (p:=H.length+1) (ob:=zo (c0+1)) (by simp)),λK=>aL (T.at_ (p:=H.length+1) (ob:=zo (c0+1)) (by simp)) K,λX w hw=>dD ⟨w,_,_,rfl,hw,(J.gU.eZ (by omega) (T.ot (p:=H.length+1) (ob:=zo (c0+1)) (by simp)) X)⟩⟩
 have gm:=λM K=>bT h.hm M K;have T:=λK=>aL (W.at_ (p:=H.length) (ob:=vo c0 v) (by simp)) K;simp only[vo,zo] at T;have T:∀(X:aH) (w:aO) (c:Nat),m.V w->cE (CG us cs H G pm tm m 2000) (.agg w.enc) ((H++[vo c0 v,zo (c0+1)]).set (H.length+1) X) c:=λX w c hw=>(E (q1.aT |> λT=>(⟨T,.refl,.refl _,by omega,rfl⟩:PA us cs (H++[vo c0 v,zo (c0+1)]) G pm tm m 2000 _ G m))).2.2 X w hw;by_cases hv6:v.aJ=6;rotate_left
 .simp[bW,hv6];refine jT q1.aT hP h0 (by simp) λH5 G5 m5 c5 J=>?_;obtain⟨t1,t2,t3⟩:=E (c5:=c5) (J.le (by omega));simp[t1,t2,zo];exact t3 _ _ .nil
 obtain⟨W,T⟩:=Z.ok.o6 hv6;obtain⟨k,Z⟩:=iY W;rw[Z] at T;obtain⟨T,T,O,T,a,F,T,W⟩:=h.obj (k:=k) (by omega);have W:=T.gE (cB.app (S:=λ_=>False) [vo c0 v,zo (c0+1)]) (λh=>h) (λh=>h);have gf:=λM K=>bT hf.hf M K;have gO:=λM K=>bT T.ho M K;have gk:=λK=>aL W.o K;have hOe:=W.e;have hkO:(k:Int)<(O.length:Int):=by have:=W.kl;omega
 simp[bW,hv6,gm,aI.bD,aI.g4,hOe,Z,hkO,gO,gk,JM];refine⟨λ_=>CM F.length,?_⟩;simp[gf,aW.bD,aW.g3];refine OV q1.aT hP W λi see hi1 hi2=>?_;simp;intro c1 _;by_cases hcase:0<=i/\see=true
 .obtain⟨hi0,hs⟩:=hcase;subst hs;obtain⟨j,rfl⟩:=iY hi0;obtain⟨fd,hfd⟩:∃fd,F[j]?=some fd:=⟨_,bC (by omega)⟩
  obtain⟨pF,tF,u1,u2,u3,_⟩:=T.yL h hfd;have T:=λM K=>bT u2 M K;simp[cM,bW,gm,aI.bD,aI.g4,hOe,Z,hkO,gO,gk,enc_ob1,u1,T,aL hfd,hi2];exact dD ⟨fd.jV,G,m,rfl,W.v fd (bA hfd),((PA.refl h).app _).le (by omega)⟩
 .have hwk:IntKind.i64.wrap ((k:Int)+1)=(k:Int)+1:=wrap64 (by omega) (by have:=h.b.o;omega);have T:=λM K=>bT h.hm M K;by_cases hi0:0<=i
  .have hs:see=false:=by
    cases see
    .rfl
    .exact absurd ⟨hi0,rfl⟩ hcase
   subst hs;have T:¬i<0:=by omega
   simp[hi0,gm,aI.bD,aI.g1,h.cs];refine xH hP (λT W hmt=>?_) λT W=>?_
   .simp[cM,bW,Z];rw[hwk];refine wU (h.app _) hP hmt (by omega) λx c3 hx=>?_;simp;refine cX (nU name) (fB _) λc4 _=>?_;simp[yP];refine⟨by simp[aR],?_⟩;have q3:=(PA.refl h).app [vo c0 v,zo (c0+1),⟨false,W,5,[T.enc]⟩,⟨false,c4,6,[(eO.mk (-1) (sV 3 0 name)).enc]⟩];refine BU hR hP q3.aT h0 hx hx.cg (A:=[⟨-1,sV 3 0 name⟩]) (.inr ⟨H.length+3,c4,rfl,by simp,h.out _ (by omega)⟩) (λy hy=>by simp at hy;subst hy;exact⟨by simp,by simp only;omega,VM.sc (by omega) (by omega) hnm⟩) (by have:=hr.m;omega) hn λw H5 G5 m5 c5 hw J=>?_;obtain⟨t1,t2,t3⟩:=E (c5:=c5) (J.IC (M:=[⟨false,W,5,[T.enc]⟩,⟨false,c4,6,[(eO.mk (-1) (sV 3 0 name)).enc]⟩]) (by simp[vo,zo]));simp[t1,t2,zo];exact t3 _ _ hw
   .simp[cM];refine jT (h.app _) hP h0 (by simp) λH5 G5 m5 c5 J=>?_;obtain⟨t1,t2,t3⟩:=E (c5:=c5) ((J.le (by omega)).IC (M:=[⟨false,W,5,[T.enc]⟩]) (by simp[vo,zo]));simp[t1,t2,zo];exact t3 _ _ .nil
  .simp[hi0,gm,aI.bD,aI.g1,h.cs];refine xH hP (λT W hmt=>?_) λT W=>?_
   .simp[cM,bW,Z];rw[hwk];refine wU (h.app _) hP hmt (by omega) λx c3 hx=>?_;simp;refine cX (nU name) (fB _) λc4 _=>?_;simp[yP];refine⟨by simp[aR],?_⟩;have q3:=(PA.refl h).app [vo c0 v,zo (c0+1),⟨false,W,5,[T.enc]⟩,⟨false,c4,6,[(eO.mk (-1) (sV 3 0 name)).enc]⟩];refine BU hR hP q3.aT h0 hx hx.cg (A:=[⟨-1,sV 3 0 name⟩]) (.inr ⟨H.length+3,c4,rfl,by simp,h.out _ (by omega)⟩) (λy hy=>by simp at hy;subst hy;exact⟨by simp,by simp only;omega,VM.sc (by omega) (by omega) hnm⟩) (by have:=hr.m;omega) hn λw H5 G5 m5 c5 hw J=>?_;obtain⟨t1,t2,t3⟩:=E (c5:=c5) (J.IC (M:=[⟨false,W,5,[T.enc]⟩,⟨false,c4,6,[(eO.mk (-1) (sV 3 0 name)).enc]⟩]) (by simp[vo,zo]));simp[t1,t2,zo];exact t3 _ _ hw
   .simp[cM];cases see
    .simp;refine jT (h.app _) hP h0 (by simp) λH5 G5 m5 c5 J=>?_;obtain⟨t1,t2,t3⟩:=E (c5:=c5) ((J.le (by omega)).IC (M:=[⟨false,W,5,[T.enc]⟩]) (by simp[vo,zo]));simp[t1,t2,zo];exact t3 _ _ .nil
    .simp[z5];exact dD ⟨sV 0 0 [],G,m,rfl,.nil,(PA.refl h).app _ |> λq=>q.le (by omega)⟩
end
set_option maxRecDepth 100000
def view_pre {α:Type} {enc:α->aF AV} {S} {i tag w n} {l:aF α} (ho:(⟨false,tag,w,l.map enc⟩:aH)∈S) (hn:n<=l.length) (hc:∀x,x∈l->∀a,a∈enc x->a.cell=true):View S (.ref i tag w n) ((SL.mk tag (l.take n)).av w enc):=by
 have T:∀(r:Nat) (x E:aF AV),(l.map enc)[r]?=some x->((l.take n).map enc)[r]?=some E->x=E:=λr x E W J=>by
  have Z:=bL J;simp at Z;rw[kL,wD (fM Z (Nat.min_le_left _ _)),<-kL,W] at J;exact(oN J)
 refine .ref ho (by simpa using hn) (by simp[hn]) (λr x E W J=>by rw[T r x E W J]) (λr j x a hx ha=>?_) λr j x E a a' W J h3 Z=>?_
 .obtain⟨y,hy,rfl⟩:=fZ.1 (bA hx);exact hc y (zT hy) a (bA ha)
 .have:=T r x E W J;subst this;rw[h3] at Z;cases Z;exact .refl _
section
variable {us:SL bU} {cs:SL bG} {H H' H'':aC} {G G' G'':Nat->a6} {pm tm pf tf:Nat} {m m' m'':aI} {f f' f'':aW} {L L' L'':aF aY} {a b a' b':Int}
def keysp_k {p t c n:Nat} {M:aF aO} {K:aD} (W:H[p]?=some ⟨false,t,5,M.map aO.enc⟩) (E:M.length<=1000) (J:n<=M.length) (T:∀v,v∈M->m.V v) (k:∀(s:SL bX) (b:Bool) E,s.aG.length<=n->(b=true->s.aG.length=n)->(∀k,k∈s.aG->kV k)->K (.aX [s.av 3 bX.enc,.bool b]) H E):bO aE 263 [.ref p t 5 n] H c K:=
 E4 (V8 (l:=.mk t (M.take n)) (by simp;omega) (λv Z=>T v (zT Z))) (.cons (view_pre (bA W) J λx _=>aO.cells x) .nil) λr E _ ⟨s,b,Z,W,T,h3⟩ _=>by
  subst Z;have e:(SL.mk t (M.take n)).aG.length=n:=by simp[J]
  rw[e] at W T;exact k s b E W T h3
def list_con {n} {x:aQ} {c0} (hE:iS us cs n) (hP:fC us cs) (h:Lay us cs H G pm tm m) (hf:cY H G pf tf m f L) (h0:m.ab=0) (hx:NE x) (hk:x.aJ=5) (hn:m.bH<n):cA aE 238 [.ptr pm tm 19 0 0,.ptr pf tf 7 0 0,.agg x.enc] H c0 (lO us cs H G pm tm pf tf m f L 0 0):=by
 refine cO F238 ?_;unfold F238;have hxl:=hx.len;have fin:∀{Hc:aC} {G1:Nat->a6} {m1:aI} {f1:aW} {w:aO} {X:aH} {c:Nat},PE us cs H G pm tm pf tf m f L 0 0 Hc G1 m1 f1->G1 (H.length+1)=.bP->m1.V w->cE (lO us cs H G pm tm pf tf m f L 0 0) (.agg w.enc) (Hc.set (H.length+1) X) c:=λq ho hw=>dD ⟨_,_,_,_,rfl,hw,q.eZ (by omega) ho _⟩;simp;refine cX CE (fB _) λc1 _=>?_;simp[cM];refine tP x.aP.aG.length (λi e Hc c=>∃(v:aO) (t:Nat) (G1:Nat->a6) (m1:aI) (f1:aW),PE us cs H G pm tm pf tf m f L 0 0 Hc G1 m1 f1/\m1.ab=0/\m1.V v/\Loc Hc G1 [(H.length,no c0 x),(H.length+1,zo (c0+1)),(H.length+2,vo t v)]/\
  e 0=.ptr pm tm 19 0 0/\e 1=.ptr pf tf 7 0 0/\e 5=.ptr H.length c0 4 0 0/\e 6=.ptr (H.length+1) (c0+1) 5 0 0/\e 7=.ptr (H.length+2) t 5 0 0/\e 8=.I i) ?_ ?_
 .refine⟨sV 4 0 [],c1,G,m,f,(PE.refl h hf).app _,h0,VM.sc (by omega) (by omega) (by simp),((Loc.nil.cons ?_ (h.out _ (by omega))).cons ?_ (h.out _ (by omega))).cons ?_ (h.out _ (by omega)),?_,?_,?_,?_,?_,?_⟩<;>simp[aK,no,zo,vo]
 intro i e Hc c hi ⟨v,t,G1,m1,f1,q,hab,hv,LL,e0,e1,e5,e6,e7,e8⟩ N hN;have g5:=λK=>aL (LL.at_ (p:=H.length) (ob:=no c0 x) (by simp)) K;have g7:=λK=>aL (LL.at_ (p:=H.length+2) (ob:=vo t v) (by simp)) K;have gb:=λK=>aL (LL.at_ (p:=H.length+1) (ob:=zo (c0+1)) (by simp)) K;have hbl:=bL (LL.at_ (p:=H.length+1) (ob:=zo (c0+1)) (by simp));simp only[no,zo,vo] at g5 g7 gb;by_cases hil:i<x.aP.aG.length;rotate_left
 .have hlt:¬(i:Int)<(x.aP.aG.length:Int):=by omega
  simp[e5,e6,e7,e8,g5,g7,gb,hlt,hbl];exact fin q (LL.ot (p:=H.length+1) (ob:=zo (c0+1)) (by simp)) hv
 obtain⟨y,hy⟩:∃y,x.aP.aG[i]?=some y:=⟨_,bC hil⟩
 have hyn:=hx.get hy;have hy6:=hx.v.sh.aG hk y (bA hy);obtain⟨⟨hy1,hy2⟩,hye⟩:=hyn.v.sh.item hy6;have hlt:(i:Int)<(x.aP.aG.length:Int):=by omega
 have hst:=cD (i:=i) (n:=x.aP.aG.length) (by unfold mx;omega) hil;simp[e0,e1,e5,e8,g5,hlt,aL hy];refine yV hE q.aT q.bI (.inl ⟨y.aP,rfl,rfl⟩) (by omega) (λz hz=>⟨hyn.pS hz,hye z hz⟩) (by have:=q.mono.f;omega) λM G2 m2 f2 t2 X g c2 hM hMv hXl oX lp op q2=>?_;have q3:=(q.trans q2).le (a':=0) (b':=0) (by omega) (by omega);have LL2:=q2.dO LL;generalize X++[g]=H2 at lp q2 q3 LL2 ⊢;have gm:=λK=>aL q2.aT.hm K;have gb2:=λK=>aL (LL2.at_ (p:=H.length+1) (ob:=zo (c0+1)) (by simp)) K;have g72:=λK=>aL (LL2.at_ (p:=H.length+2) (ob:=vo t v) (by simp)) K;have hbl2:=bL (LL2.at_ (p:=H.length+1) (ob:=zo (c0+1)) (by simp));have ob2:=LL2.ot (p:=H.length+1) (ob:=zo (c0+1)) (by simp);simp only[zo,vo] at gb2 g72;by_cases hab2:m2.ab=0;rotate_left
 .simp[e0,e6,gm,aI.bD,aI.g12,hab2,gb2,hbl2];rw[z5];exact fin q3 ob2 .nil
 have hw:IntKind.i64.wrap ((y.aP.aG.length:Int)-1)=((y.aP.aG.length-1:Nat):Int):=by rw[wrap64 (by omega) (by omega)];omega
 have hle:y.aP.aG.length-1<=y.aP.aG.length:=by omega
 simp[e0,gm,aI.bD,aI.g12,hab2,hw,hle,-jN];refine keysp_k lp (by omega) (by omega) hMv λs bb c3 hs1 hs2 hs3=>?_;cases bb
 .simp[e0,-jN];refine pE q2.aT hP hab2 λH5 G5 m5 c5 q5=>?_;have LL5:=q5.dO LL2;have gb5:=λK=>aL (LL5.at_ (p:=H.length+1) (ob:=zo (c0+1)) (by simp)) K;have hbl5:=bL (LL5.at_ (p:=H.length+1) (ob:=zo (c0+1)) (by simp));simp[e6,gb5,zo,hbl5];exact fin ((q3.trans (q5.pe q2.bI)).le (by omega) (by omega)) (LL5.ot (p:=H.length+1) (ob:=zo (c0+1)) (by simp)) .nil
 obtain⟨w,hw2⟩:∃w,M[y.aP.aG.length-1]?=some w:=⟨_,bC (by omega)⟩
 have hwv:=hMv w (bA hw2);have gp:=λK=>aL lp K;have hltn:((y.aP.aG.length-1:Nat):Int)<(y.aP.aG.length:Int):=by omega
 have hltn2:y.aP.aG.length-1<y.aP.aG.length:=by omega
 simp[-jN];refine nK (λe' H' c'=>H2=H'/\e' 0=.ptr pm tm 19 0 0/\e' 1=.ptr pf tf 7 0 0/\e' 5=.ptr H.length c0 4 0 0/\e' 6=.ptr (H.length+1) (c0+1) 5 0 0/\e' 7=.ptr (H.length+2) t 5 0 0/\e' 8=.I i/\e' 51=s.av 3 bX.enc/\e' 50=.agg v.enc/\(∃b:Bool,e' 54=.bool b)/\e' 60=.agg w.enc) ?_ ?_;rotate_left
 .intro K hK;simp[e7,g72,gp,hw,hltn,aL hw2]
  repeat' first
   |with_reducible apply And.intro
   |exact hK _ _ _ ⟨rfl,e0,e1,e5,e6,e7,e8,rfl,rfl,⟨_,by simp[aK];rfl⟩,rfl⟩
 clear e0 e1 e5 e6 e7 e8;intro e H' c4 ⟨hH',e0,e1,e5,e6,e7,e8,e51,e50,⟨b4,e54⟩,e60⟩;subst hH';simp[e50,e51,e54,e60];refine TX (hv.mono q2.mono) hwv (by omega) hs3 λyv code c5 hyv=>?_;have hbl7:=bL (LL2.at_ (p:=H.length+2) (ob:=vo t v) (by simp));have q4:=q3.eZ (p:=H.length+2) (by omega) (LL2.ot (p:=H.length+2) (ob:=vo t v) (by simp)) (vo t yv);have LL3:Loc (H2.set (H.length+2) (vo t yv)) G2 [(H.length+2,vo t yv),(H.length,no c0 x),(H.length+1,zo (c0+1))]:=((LL2.sub (l':=[(H.length,no c0 x),(H.length+1,zo (c0+1))]) (by simp)).set (p:=H.length+2) (λz hz=>by simp at hz;rcases hz with rfl|rfl<;>simp) _).cons (eP hbl7) (LL2.ot (p:=H.length+2) (ob:=vo t v) (by simp));by_cases hc0:code=0
 .simp[e7,e8,g72,hc0,hst];refine hN _ _ _ hil ⟨yv,t,G2,m2,f2,q4,hab2,hyv,LL3.sub (by simp),?_,?_,?_,?_,?_,?_⟩<;>simp[aK,e0,e1,e5,e6,e7]
 .simp[e0,e7,g72,hc0];refine pE q4.aT hP hab2 λH5 G5 m5 c6 q5=>?_;have LL5:=q5.dO LL3;have gb5:=λK=>aL (LL5.at_ (p:=H.length+1) (ob:=zo (c0+1)) (by simp)) K;have hbl5:=bL (LL5.at_ (p:=H.length+1) (ob:=zo (c0+1)) (by simp));simp[e6,gb5,zo,hbl5];exact fin ((q4.trans (q5.pe q4.bI)).le (by omega) (by omega)) (LL5.ot (p:=H.length+1) (ob:=zo (c0+1)) (by simp)) .nil
def list_k {n} {x:aQ} {c} {K:aD} (hE:iS us cs n) (hP:fC us cs) (h:Lay us cs H G pm tm m) (Z:cY H G pf tf m f L) (h0:m.ab=0) (J:NE x) (W:x.aJ=5) (T:m.bH<n)
  (k:∀v H' G' m' f' E,aI.V m' v->PE us cs H G pm tm pf tf m f L 0 0 H' G' m' f'->K (.agg (aO.enc v)) H' E):bO aE 238 [.ptr pm tm 19 0 0,.ptr pf tf 7 0 0,.agg x.enc] H c K:=
 gL (list_con hE hP h Z h0 J W T) λr H' E ⟨v,G',m',f',W,T,J⟩=>by subst W;exact k v H' G' m' f' E T J
end
set_option maxRecDepth 100000
def jL (t:Nat) (x:dJ):aH:=⟨false,t,5,[x.enc]⟩
def mt1 (x:dJ) (K:AV->Prop):aZ x.enc 1 K=K (.str x.lQ):=by simp[dJ.enc]
def mt3 (x:dJ) (K:AV->Prop):aZ x.enc 3 K=K (.bool x.pI):=by simp[dJ.enc]
def mt4 (x:dJ) (K:AV->Prop):aZ x.enc 4 K=K (.bool x.Static):=by simp[dJ.enc]
section
variable {us:SL bU} {cs:SL bG} {H H' H'':aC} {G G' G'':Nat->a6} {pm tm pf tf:Nat} {m m' m'':aI} {f f' f'':aW} {L L' L'':aF aY} {a b a' b':Int}
def X1 {c} {K:aD} {name} (W:fC us cs) (T:∀E,K (.I (-1)) H E) (J:∀(i:Nat) (x:bG) E,cs.aG[i]?=some x->x.Name=name->K (.I i) H E):bO aE 127 [cs.av 4 bG.enc,.str name] H c K:=
 qJ (.refl _) (cL W.l (by decide)) (λE _ _=>T E) λi x E _ W T _=>J i x E W T
def yH {M:aC} {c0:Nat} {E:aC} {G5:Nat->a6} {T:aI} {c5:Nat} {b:Int} (h:Lay us cs H G pm tm m) (Z:cY H G pf tf m f L) (W:(H++M)[H.length+1]?=some (zo (c0+1))) (J:PA us cs (H++M) G pm tm m 0 E G5 T) (T:0<=b):
  H.length+1<E.length/\(∀K:aH->Prop,aZ E (H.length+1) K=K (zo (c0+1)))/\∀X,cE (lO us cs H G pm tm pf tf m f L 0 b) (.agg (sV 0 0 []).enc) (E.set (H.length+1) X) c5:=by obtain⟨E,o5⟩:=J.loc W (h.out _ (by omega));exact⟨bL E,λK=>aL E K,λX=>dD ⟨_,_,_,f,rfl,.nil,((J.gU.pe Z).le (by omega) T).eZ (by omega) o5 X⟩⟩
def static_con {n:Nat} {x:aQ} {c0:Nat} (hE:iS us cs n) (hR:iR us cs n) (hP:fC us cs) (h:Lay us cs H G pm tm m) (hf:cY H G pf tf m f L) (h0:m.ab=0) (hx:NE x) (E:x.aJ=21) (hr:Rm m f L) (hn:m.bH<n):cA aE 244 [.ptr pm tm 19 0 0,.ptr pf tf 7 0 0,.agg x.enc] H c0 (lO us cs H G pm tm pf tf m f L 0 2000):=by
 refine cO F244 ?_;unfold F244;have hxe:=hx.v.sh.args (by omega);have E:=hx.len;have E:=h.b.o;have hth:=hf.p.this;have gm:=λM K=>bT h.hm M K;have gf:=λM K=>bT hf.hf M K;have l1:∀M:aC,(H++(no c0 x::zo (c0+1)::M))[H.length+1]?=some (zo (c0+1)):=λM=>by simp
 simp[bW];refine SS (SH (by have:=hx.n.s;omega)) λE E E _ _ _=>?_;simp;refine ZO (h.app _) hP (hf.app _) λE fwd E=>?_;simp[gm,aI.bD,aI.g1,h.cs];refine X1 hP (λE=>?_) λT J E E _=>?_
 .simp;refine jT (h.app _) hP h0 (by simp) λW G5 m5 c5 J=>?_;obtain⟨t1,t2,Z⟩:=yH (f:=f) (L:=L) (b:=2000) (c5:=c5) h hf (l1 _) J (by omega);simp[t1,t2,zo];exact Z _
 have E:¬((T:Int)<0):=by omega
 simp[E,gm,aI.bD,aI.g1,h.cs];refine xH hP (λT c4 hmt=>?_) λT c4=>?_;rotate_left
 .simp[cM];refine jT (h.app _) hP h0 (by simp) λW G5 m5 c5 J=>?_;obtain⟨t1,t2,Z⟩:=yH (f:=f) (L:=L) (b:=2000) (c5:=c5) h hf (l1 _) J (by omega);simp[t1,t2,zo];exact Z _
 simp[cM,gf,aW.bD,aW.g3];refine cX (IS _ _ _) (fB _) λc5 _=>?_;generalize (!T.pI||decide (T.lQ=f.self))=E;cases E
 .simp;refine jT (h.app _) hP h0 (by simp) λW G5 m5 c6 J=>?_;obtain⟨t1,t2,Z⟩:=yH (f:=f) (L:=L) (b:=2000) (c5:=c6) h hf (l1 _) J (by omega);simp[t1,t2,zo];exact Z _
 have E:∀(st:aA) (c6:Nat) (K:aD),(∀(y:dG) c',jX m false y->K (.agg y.enc) (H++[no c0 x,zo (c0+1),jL c4 T]) c')->bO aE 97 [.ptr pm tm 19 0 0,.agg T.enc,.I f.this,.str st] (H++[no c0 x,zo (c0+1),jL c4 T]) c6 K:=λst c6 K k=>wU (h.app _) hP hmt hth k;have g5:∀(K:aH->Prop),aZ (H++[no c0 x,zo (c0+1),jL c4 T]) H.length K=K (no c0 x):=λK=>by simp[bW]
 have last:∀(y:dG) (c6:Nat) (K:aD),jX m false y->(∀v W G5 m5 f5 c7,aI.V m5 v->PE us cs (H++[no c0 x,zo (c0+1),jL c4 T]) G pm tm pf tf m f L 0 2000 W G5 m5 f5->K (.agg (aO.enc v)) W c7)->bO aE 268 [.ptr pm tm 19 0 0,.ptr pf tf 7 0 0,.agg y.enc,x.aP.av 4 aQ.enc] (H++[no c0 x,zo (c0+1),jL c4 T]) c6 K:=λy c6 K hy k=>
  EO hE hR hP (h.app _) (hf.app _) hy hy.cg (by omega) (λz hz=>⟨hx.pS hz,hxe z hz⟩) hr hn k
 have fin:∀{W:aC} {G5:Nat->a6} {m5:aI} {f5:aW} {v:aO} {c5:Nat},m5.V v->PE us cs (H++[no c0 x,zo (c0+1),jL c4 T]) G pm tm pf tf m f L 0 2000 W G5 m5 f5->H.length+1<W.length/\(∀K:aH->Prop,aZ W (H.length+1) K=K (zo (c0+1)))/\∀X,cE (lO us cs H G pm tm pf tf m f L 0 2000) (.agg v.enc) (W.set (H.length+1) X) c5:=λhv J=>by
  obtain⟨l5,o5⟩:=J.loc (l1 _) (h.out _ (by omega));exact⟨bL l5,λK=>aL l5 K,λX=>dD ⟨_,_,_,_,rfl,hv,J.gU.eZ (by omega) o5 X⟩⟩
 simp only[no,zo,jL] at E g5 last;cases hmst:T.Static
 .by_cases hth0:f.this=0
  .cases fwd
   all_goals
    simp[cM,hmst,gf,aW.bD,aW.g2,aW.g4,hth0];refine jT (h.app _) hP h0 (by simp) λW G5 m5 c6 J=>?_;obtain⟨t1,t2,Z⟩:=yH (f:=f) (L:=L) (b:=2000) (c5:=c6) h hf (l1 _) J (by omega);simp[t1,t2,zo];exact Z _
  .obtain⟨k,T⟩:=iY (show 0<=f.this-1 by omega);obtain⟨T,T,O,T,T,F,T,hne⟩:=h.obj (k:=k) (by omega);have gO:=λM K=>bT T.ho M K;have gk:=λK=>aL T.o K;have hOe:=T.e;have hkO:(k:Int)<(O.length:Int):=by have:=T.kl;omega
   have T:IntKind.i64.wrap (f.this-1)=(k:Int):=by rw[wrap64 (by omega) (by omega)];omega
   cases fwd
   all_goals
    simp[cM,hmst,gf,aW.bD,aW.g2,aW.g4,hth0,gm,aI.bD,aI.g1,aI.g4,h.cs,hOe,T,hkO,gO,gk,JM];refine hJ (SD (cL hP.l (by decide))) λbs c6 _=>?_;cases bs
    .simp;refine jT (h.app _) hP h0 (by simp) λW G5 m5 c6 J=>?_;obtain⟨t1,t2,Z⟩:=yH (f:=f) (L:=L) (b:=2000) (c5:=c6) h hf (l1 _) J (by omega);simp[t1,t2,zo];exact Z _
    .simp[cM,bW,gf,aW.bD,aW.g2,gm,aI.bD,aI.g4,hOe,T,hkO,gO,gk,JM];refine E _ _ _ λy c7 hy=>?_;simp[bW];refine last y _ _ hy λv W G5 m5 f5 T hv J=>?_;obtain⟨t1,t2,Z⟩:=fin (c5:=T) hv J;simp[t1,t2,zo];exact Z _
 .cases fwd
  all_goals
   simp[cM,bW,hmst,gf,aW.bD,aW.g2,aW.g4];refine E _ _ _ λy c7 hy=>?_;simp[bW];refine last y _ _ hy λv W G5 m5 f5 T hv J=>?_;obtain⟨t1,t2,Z⟩:=fin (c5:=T) hv J;simp[t1,t2,zo];exact Z _
def static_k {n} {x:aQ} {c} {K:aD} (hE:iS us cs n) (hR:iR us cs n) (hP:fC us cs) (h:Lay us cs H G pm tm m) (hf:cY H G pf tf m f L) (h0:m.ab=0) (J:NE x) (Z:x.aJ=21) (T:Rm m f L) (W:m.bH<n)
  (k:∀v H' G' m' f' E,aI.V m' v->PE us cs H G pm tm pf tf m f L 0 2000 H' G' m' f'->K (.agg (aO.enc v)) H' E):bO aE 244 [.ptr pm tm 19 0 0,.ptr pf tf 7 0 0,.agg x.enc] H c K:=
 gL (static_con hE hR hP h hf h0 J Z T W) λr H' E ⟨v,G',m',f',W,T,J⟩=>by subst W;exact k v H' G' m' f' E T J
def create_con {n} {x:aQ} {c0} (hE:iS us cs n) (hR:iR us cs n) (hP:fC us cs) (h:Lay us cs H G pm tm m) (hf:cY H G pf tf m f L) (h0:m.ab=0) (hx:NE x) (E:x.aJ=22) (hr:Rm m f L) (hn:m.bH<n):cA aE 245 [.ptr pm tm 19 0 0,.ptr pf tf 7 0 0,.agg x.enc] H c0 (lO us cs H G pm tm pf tf m f L 0 2000):=by
 refine cO F245 ?_;unfold F245;have hxe:=hx.v.sh.args (by omega);have E:=hx.len;have gm:=λM K=>bT h.hm M K;have gf:=λM K=>bT hf.hf M K;have l1:∀M:aC,(H++(no c0 x::zo (c0+1)::M))[H.length+1]?=some (zo (c0+1)):=λM=>by simp
 simp[bW];refine ZO (h.app _) hP (hf.app _) λcl E E=>?_;simp[gm,aI.bD,aI.g1,h.cs];refine X1 hP (λE=>?_) λci cx E hci hcn=>?_
 .simp;refine jT (h.app _) hP h0 (by simp) λW G5 J c5 Z=>?_;obtain⟨t1,t2,T⟩:=yH (f:=f) (L:=L) (b:=2000) (c5:=c5) h hf (l1 _) Z (by omega);simp[t1,t2,zo];exact T _
 have E:¬((ci:Int)<0):=by omega
 have hcl:∃y,y∈cs.aG/\bG.Name y=cl:=⟨cx,bA hci,hcn⟩
 have L0:∀(t:Nat) (mt:dJ),Loc (H++[no c0 x,zo (c0+1),jL t mt]) G [(H.length,no c0 x),(H.length+1,zo (c0+1)),(H.length+2,jL t mt)]:=λt mt=>((Loc.nil.cons (by simp) (h.out _ (by omega))).cons (by simp) (h.out _ (by omega))).cons (by simp) (h.out _ (by omega));have fin:∀{W:aC} {G5:Nat->a6} {J:aI} {f5:aW} {w:aO} {X:aH} {c5:Nat},PE us cs H G pm tm pf tf m f L 0 2000 W G5 J f5->G5 (H.length+1)=.bP->J.V w->cE (lO us cs H G pm tm pf tf m f L 0 2000) (.agg w.enc) (W.set (H.length+1) X) c5:=λq ho hw=>dD ⟨_,_,_,_,rfl,hw,q.eZ (by omega) ho _⟩;simp[E,gm,aI.bD,aI.g1,h.cs];refine xH hP (λmt c4 hmt=>?_) λmt c4=>?_
 .simp[cM,gf,aW.bD,aW.g3];refine cX (IS _ _ _) (fB _) λc5 _=>?_;generalize (!mt.pI||decide (mt.lQ=f.self))=E;cases E
  .simp;refine jT (h.app _) hP h0 (by simp) λW G5 J J Z=>?_;obtain⟨t1,t2,T⟩:=yH (f:=f) (L:=L) (b:=2000) (c5:=J) h hf (l1 _) Z (by omega);simp[t1,t2,zo];exact T _
  simp;refine NR (h.app _) hP hcl (λW J Z=>?_) λW G5 oa i y J Z hoa _ _ _=>?_
  .have LL:=Z.dO (L0 c4 mt);have gb:=λM K=>bT (LL.at_ (p:=H.length+1) (ob:=zo (c0+1)) (by simp)) M K;have E:=bL (LL.at_ (p:=H.length+1) (ob:=zo (c0+1)) (by simp));have gS:∀(X:aH) (M:aC) (K:aH->Prop),aZ (W.set (H.length+1) X++M) (H.length+1) K=K X:=λX M K=>bT (eP E) M K;simp[bW,gb,zo,E,gS];rw[z5];have:=fin (c5:=J+1) (w:=sV 0 0 []) (X:=⟨false,c0+1,5,[(sV 0 0 []).enc]⟩) (((Z.gU.app [vo J (sV 0 0 [])]).pe hf).le (by omega) (by omega)) (LL.ot (p:=H.length+1) (ob:=zo (c0+1)) (by simp)) .nil;simpa[E,vo,z5] using this
  .have LL:=(Z.dO (L0 c4 mt)).app [vo J (sV 6 m.bS.ln [])];have q6:=Z.gU.app [vo J (sV 6 m.bS.ln [])];have hf6:=q6.bI hf;have lv:(W++[vo J (sV 6 m.bS.ln [])])[W.length]?=some (vo J (sV 6 m.bS.ln [])):=by simp
   have ov:=Z.aT.out W.length (bB _);have LL6:=LL.cons lv ov;have gx:=λK=>aL (LL6.at_ (p:=H.length) (ob:=no c0 x) (by simp)) K;have gt:=λK=>aL (LL6.at_ (p:=H.length+2) (ob:=jL c4 mt) (by simp)) K;simp only[no,jL,vo] at gx gt;have hobs:=h.b.o;have T:IntKind.i64.wrap ((m.bS.ln:Int)+1)=(m.bS.ln:Int)+1:=wrap64 (by omega) (by omega);simp[bW,gx,gt];rw[T];refine wU q6.aT hP hmt (by simp only;omega) λz T hz=>?_;simp[gx];have T:Rm {m with bS:=oa} f L:=⟨hr.e,hr.m⟩
   refine EO hE hR hP q6.aT hf6 hz hz.cg (by omega) (λz hz=>⟨hx.pS hz,hxe z hz⟩) T hn λv H7 G7 m7 f7 c8 T q7=>?_;have T:=q7.dO LL6;have q8:=((q6.pe hf).trans q7).le (a':=0) (b':=2000) (by omega) (by omega);have gm7:=λK=>aL q7.aT.hm K;have gb:=λK=>aL (T.at_ (p:=H.length+1) (ob:=zo (c0+1)) (by simp)) K;have gv:=λK=>aL (T.at_ (p:=W.length) (ob:=vo J (sV 6 m.bS.ln [])) (by simp)) K;have E:=bL (T.at_ (p:=H.length+1) (ob:=zo (c0+1)) (by simp));have ob:=T.ot (p:=H.length+1) (ob:=zo (c0+1)) (by simp);simp only[zo,vo] at gb gv;by_cases hab:m7.ab=0
   .simp[gm7,aI.bD,aI.g12,hab,gb,gv,E];exact fin q8 ob (aI.V.mono (VM.AM (.inl ⟨rfl,by omega,by simp only;omega⟩) (by omega)) q7.mono)
   .simp[gm7,aI.bD,aI.g12,hab,gb,E];rw[z5];exact fin q8 ob .nil
 .simp[cM];refine NR (h.app _) hP hcl (λW J Z=>?_) λW G5 oa i y J Z hoa _ _ _=>?_
  .have LL:=Z.dO (L0 c4 mt);have gb:=λM K=>bT (LL.at_ (p:=H.length+1) (ob:=zo (c0+1)) (by simp)) M K;have E:=bL (LL.at_ (p:=H.length+1) (ob:=zo (c0+1)) (by simp));have gS:∀(X:aH) (M:aC) (K:aH->Prop),aZ (W.set (H.length+1) X++M) (H.length+1) K=K X:=λX M K=>bT (eP E) M K;simp[bW,gb,zo,E,gS];rw[z5];have:=fin (c5:=J+1) (w:=sV 0 0 []) (X:=⟨false,c0+1,5,[(sV 0 0 []).enc]⟩) (((Z.gU.app [vo J (sV 0 0 [])]).pe hf).le (by omega) (by omega)) (LL.ot (p:=H.length+1) (ob:=zo (c0+1)) (by simp)) .nil;simpa[E,vo,z5] using this
  .have LL:=(Z.dO (L0 c4 mt)).app [vo J (sV 6 m.bS.ln [])];have q6:=Z.gU.app [vo J (sV 6 m.bS.ln [])];have hf6:=q6.bI hf;have lv:(W++[vo J (sV 6 m.bS.ln [])])[W.length]?=some (vo J (sV 6 m.bS.ln [])):=by simp
   have ov:=Z.aT.out W.length (bB _);have LL6:=LL.cons lv ov;have gx:=λK=>aL (LL6.at_ (p:=H.length) (ob:=no c0 x) (by simp)) K;simp only[no,vo] at gx;have hobs:=h.b.o;simp[bW,gx];refine yV hE q6.aT hf6 (.inl ⟨x.aP,rfl,rfl⟩) (by omega) (λz hz=>⟨hx.pS hz,hxe z hz⟩) hn λM G7 m7 f7 Z X g c8 Z Z Z Z Z Z q7=>?_;generalize X++[g]=H7 at q7 ⊢;have T:=q7.dO LL6;have q8:=((q6.pe hf).trans q7).le (a':=0) (b':=2000) (by omega) (by omega);have gm7:=λK=>aL q7.aT.hm K;have gb:=λK=>aL (T.at_ (p:=H.length+1) (ob:=zo (c0+1)) (by simp)) K;have gv:=λK=>aL (T.at_ (p:=W.length) (ob:=vo J (sV 6 m.bS.ln [])) (by simp)) K;have E:=bL (T.at_ (p:=H.length+1) (ob:=zo (c0+1)) (by simp));have ob:=T.ot (p:=H.length+1) (ob:=zo (c0+1)) (by simp);simp only[zo,vo] at gb gv;by_cases hab:m7.ab=0
   .simp[gm7,aI.bD,aI.g12,hab,gb,gv,E];exact fin q8 ob (aI.V.mono (VM.AM (.inl ⟨rfl,by omega,by simp only;omega⟩) (by omega)) q7.mono)
   .simp[gm7,aI.bD,aI.g12,hab,gb,E];rw[z5];exact fin q8 ob .nil
def create_k {n} {x:aQ} {c} {K:aD} (hE:iS us cs n) (hR:iR us cs n) (hP:fC us cs) (h:Lay us cs H G pm tm m) (hf:cY H G pf tf m f L) (h0:m.ab=0) (J:NE x) (Z:x.aJ=22) (T:Rm m f L) (W:m.bH<n)
  (k:∀v H' G' m' f' E,aI.V m' v->PE us cs H G pm tm pf tf m f L 0 2000 H' G' m' f'->K (.agg (aO.enc v)) H' E):bO aE 245 [.ptr pm tm 19 0 0,.ptr pf tf 7 0 0,.agg x.enc] H c K:=
 gL (create_con hE hR hP h hf h0 J Z T W) λr H' E ⟨v,G',m',f',W,T,J⟩=>by subst W;exact k v H' G' m' f' E T J
end
set_option maxRecDepth 100000
def swp (X:aC) (g:aH) (p:Nat):aC:=if p<X.length then X.set p g else X
def MP (X:aC) g p:(swp X g p).length=X.length:=by unfold swp;split<;>simp
def HC {X:aC} {g} {p q:Nat} (E:q≠p) (J:q<X.length):(swp X g p)[q]?=(X++[g])[q]?:=by
 rw[gY J];unfold swp;split
 .rw[uR (λe=>E e.symm)]
 .rfl
def PZ {P} {X} {g ob} {p c f:Nat} {J E} {Q:AV->Prop} {K:aD} (Z:(X++[g])[p]?=some ob) (hf:bM P f E Q) (T:fG [ob] J E) (k:∀r c',Q r->K r (swp X g p) c'):bO P f J (X++[g]) c K:=by
 intro hn E;have W:=bA Z;have E:=bL Z;simp at E;obtain⟨h1,h2⟩:=(fG.refl [] J).spec;refine⟨[ob],[],J,λr H' _=>H'=[]/\Q r,CP.2 W,by simp,by simp[aV],h1,h2,PK (H1:=[]) (S:=[ob]) (eX _) (λo h=>h) (by simp[aV]) T (hf c),λr H' c' E ⟨_,hq⟩ E E=>?_⟩;have T:∀(j:Nat) (o:aH),(X++[g])[j]?=some o->(aV (X++[g]))[j]?=some o.tag:=λj o E=>by simp only[aV,kL,E,QW]
 have W:∀(a b:Nat) (x y:aH),(X++[g])[a]?=some x->(X++[g])[b]?=some y->x.tag=y.tag->a=b:=λa b x y ha hb e=>by
  have J:=T a x ha;have h4:=T b y hb;rw[e] at J;exact(List.getElem?_inj (bQ.1 J).1 hn).1 (J.trans h4.symm)
 have T:∀(j:Nat) (o:aH),(swp X g p)[j]?=some o->∃i,(X++[g])[i]?=some o/\i≠p/\((j=p/\i=X.length)\/(j≠p/\i=j)):=λj o E=>by
  have J:=bL E;rw[MP] at J;by_cases e:j=p
  .subst e;have:o=g:=by
    unfold swp at E;rw[if_pos J,eP J] at E;exact(oN E).symm
   subst this;exact⟨X.length,by simp,by omega,.inl ⟨rfl,rfl⟩⟩
  .rw[HC e J] at E;exact⟨j,E,e,.inr ⟨e,rfl⟩⟩
 refine⟨swp X g p,r,λo h=>?_,?_,.refl _,fB _,λo _ _=>zF o,k r c' hq⟩
 .obtain⟨j,E⟩:=lS.1 h;obtain⟨i,hi,J,_⟩:=T j o E;exact .inr ⟨bA hi,λh5=>by simp[aV] at h5;exact J (W i p o ob hi Z h5)⟩
 .refine FZ.2 λa b ha hb Z e=>?_;have ha':a<(swp X g p).length:=by simpa[aV] using ha
  have Z:b<(swp X g p).length:=by simpa[aV] using hb
  obtain⟨x,hx⟩:∃x,(swp X g p)[a]?=some x:=⟨_,bC ha'⟩
  obtain⟨y,hy⟩:∃y,(swp X g p)[b]?=some y:=⟨_,bC Z⟩
  have e':x.tag=y.tag:=by
   have h1:=(bQ.1 hx).2;have h2:=(bQ.1 hy).2;simp only[aV,List.getElem_map] at e;rw[h1,h2] at e;exact e
  rw[MP] at ha' Z;obtain⟨i,hi,J,J⟩:=T a x hx;obtain⟨j,E,J,J⟩:=T b y hy;have:=W i j x y hi E e';omega
section
variable {us:SL bU} {cs:SL bG} {H H' H'':aC} {G G' G'':Nat->a6} {pm tm pf tf:Nat} {m m' m'':aI} {f f' f'':aW} {L L' L'':aF aY} {a b a' b':Int}
def PE.swp {X:aC} {g} {p} (q:PE us cs H G pm tm pf tf m f L a b (X++[g]) G' m' f') (hp:G' p=.bP) (hX:G' X.length=.bP) (hpl:H.length<=p) (hXl:H.length<=X.length):PE us cs H G pm tm pf tf m f L a b (A.swp X g p) G' m' f':=by
 have kk:Kp (λo=>¬o=.bP) (X++[g]) G' (A.swp X g p) G':=λq z hq ho=>by
  have h1:q≠p:=λe=>by subst e;exact ho hp
  have h2:q≠X.length:=λe=>by subst e;exact ho hX
  have h3:=bL hq;simp at h3;exact⟨by rw[HC h1 (by omega)];exact hq,rfl⟩
 refine⟨q.aT.kp (kk.mono λo ho e=>by subst e;exact ho) λr hr=>?_,q.bI.kp (.refl _) kk (by simp) (by simp) (by simp),λr z hr ho=>?_,q.mono,q.em,q.top,q.fp,q.mp⟩
 .rw[MP] at hr;rcases iA X.length r with h|h
  .exact q.aT.out r (by simp;omega)
  .have:r=X.length:=by omega
   subst this;exact hX
 .obtain⟨k1,k2⟩:=q.fV r z hr ho;have h1:=bL hr;have h2:=bL k1;by_cases e:r=p
  .omega
  .exact⟨by rw[HC e (by omega)];exact k1,k2⟩
def Loc.swp {X:aC} {g} {p} {l} (h:Loc (X++[g]) G' l) (J:∀x,x∈l->x.1≠p/\x.1<X.length):Loc (A.swp X g p) G' l:=λx E=>⟨by rw[HC (J x E).1 (J x E).2];exact(h x E).1,(h x E).2⟩
def fn_k {c} {K:aD} {name} (T:fC us cs) (Z:∀(x:aQ) E,NE x->Us false x.aP.aG->K (.aX [.agg x.enc,.bool true]) H E) (J:∀(x:aQ) E,K (.aX [.agg x.enc,.bool false]) H E):bO aE 267 [us.av 5 bU.enc,.str name] H c K:=
 cV (fn23_s T.u) λr E _ ⟨x,b,T,hn,hb⟩=>by
  subst T;refine⟨fB _,?_⟩;cases b
  .exact J x E
  .obtain⟨W,T,J⟩:=hb rfl;exact Z x E ⟨hn,W,J⟩ T
def jX.fn {x:aQ} (E:NE x) (J:Us false x.aP.aG):jX m false ⟨x.aP,.sl .nil,0,[],[]⟩:=
 ⟨J,λy T=>E.pS T,E.len,by rw[CW J];rfl,by simp[qS.aG],by simp,λ_=>⟨_,rfl⟩⟩
def wR s a b (o:dM):aR [.str s,a,b] 0 o.enc=o.enc:=by simp[aR,dM.enc]
def Bd.UN (E:Bd m) {o:dM} (J:jW o):Bd {m with out:=o}:=⟨E.o,E.c,E.g,E.mp,E.bH,E.ab,E.af,E.depth,E.jI,E.a1,J⟩
def name_con {n} {name} {l:SL aQ} {c0} (hE:iS us cs n) (hR:iR us cs n) (hP:fC us cs) (h:Lay us cs H G pm tm m) (hf:cY H G pf tf m f L) (h0:m.ab=0) (hl:l.aG.length<=1000) (hy:∀x,x∈l.aG->NE x/\fE x.aJ) (hr:Rm m f L) (hn:m.bH<n):
  cA aE 242 [.ptr pm tm 19 0 0,.ptr pf tf 7 0 0,.str name,l.av 4 aQ.enc] H c0 (lO us cs H G pm tm pf tf m f L 0 2000):=by
 refine cO F242 ?_;unfold F242;have gm:=λM K=>bT h.hm M K;have fin:∀{T:aC} {Z:Nat->a6} {W:aI} {f5:aW} {w:aO} {X:aH} {c5:Nat},PE us cs H G pm tm pf tf m f L 0 2000 T Z W f5->Z H.length=.bP->W.V w->cE (lO us cs H G pm tm pf tf m f L 0 2000) (.agg w.enc) (T.set H.length X) c5:=λq J E=>dD ⟨_,_,_,_,rfl,E,q.eZ (bB _) J _⟩;have L0:∀(t:Nat) (x:aQ),Loc (H++[zo c0,no t x]) G [(H.length,zo c0),(H.length+1,no t x)]:=λt x=>(Loc.nil.cons (by simp) (h.out _ (by omega))).cons (by simp) (h.out _ (by omega));have E:∀{t:Nat} {x:aQ} {T:aC} {Z:Nat->a6} {W:aI} {f5:aW} {v:aO} {c5:Nat},W.V v->PE us cs (H++[zo c0,no t x]) G pm tm pf tf m f L 0 2000 T Z W f5->H.length<T.length/\(∀K:aH->Prop,aZ T H.length K=K (zo c0))/\∀X,cE (lO us cs H G pm tm pf tf m f L 0 2000) (.agg v.enc) (T.set H.length X) c5:=λ{t x} _ _ _ _ _ _ hv J=>by
  have L5:=J.dO (L0 t x);exact⟨bL (L5.at_ (p:=H.length) (ob:=zo c0) (by simp)),λK=>aL (L5.at_ (p:=H.length) (ob:=zo c0) (by simp)) K,λX=>fin J.gU (L5.ot (p:=H.length) (ob:=zo c0) (by simp)) hv⟩
 simp[gm,aI.bD,aI.g0,h.us];refine fn_k hP (λx c1 hx hu=>?_) λx c1=>?_
 .simp[cM];have e:aR [.aU,.aU,.I 0,.str [],.str []] 0 [x.aP.av 4 aQ.enc]=dG.enc ⟨x.aP,.sl .nil,0,[],[]⟩:=by simp[aR,dG.enc,SL.av,qS.av]
  rw[e];refine EO hE hR hP (h.app _) (hf.app _) (jX.fn hx hu) (jX.fn (m:=m) hx hu).cg hl hy hr hn λv T Z W f5 c5 hv J=>?_;obtain⟨t1,t2,t3⟩:=E (t:=c1) (x:=x) (c5:=c5) hv J;simp[t1,t2,zo];exact t3 _
 simp[cM];refine cV aaI λr c2 _ hq=>⟨fB _,?_⟩
 rcases hq with hq|⟨bi,_,hq⟩<;>subst hq
 .simp;refine jT (h.app _) hP h0 (by simp) λT Z W c5 J=>?_;obtain⟨t1,t2,t3⟩:=E (t:=c1) (x:=x) (c5:=c5) (v:=sV 0 0 []) .nil ((J.pe (hf.app _)).le (by omega) (by omega));simp[t1,t2,zo];exact t3 _
 have W:¬((nJ bi:Nat):Int)<0:=by omega
 simp only[Lz3_app];simp[W];refine yV hE (h.app [zo c0,no c1 x]) (hf.app _) (.inl ⟨l,rfl,rfl⟩) hl hy hn λM W Z W t3 X g c3 hM hMv W oX lp op q3=>?_;simp at W lp op;have q4:=q3.gU;have W:=λK=>aL q3.aT.hm K;by_cases hab:Z.ab=0;rotate_left
 .obtain⟨t1,t2,t3'⟩:=E (t:=c1) (x:=x) (c5:=c3) (v:=sV 0 0 []) .nil (q3.le (by omega) (by omega));generalize X++[g]=T at t1 t2 t3' W ⊢;simp[W,aI.bD,aI.g12,hab,t1,t2,zo];rw[z5];exact t3' _
 have T:(Z.aM.drop 7).take 3=Z.out.enc:=aI.d7 Z;have E:=aI.len Z;simp[W,aI.bD,aI.g12,hab,T,E];refine PZ lp (call21_s (l:=.mk t3 M) (name:=name) (u:=Z.out) (by simp;omega) hMv q3.aT.b.out) (.cons (.refl _) (.cons (jK (by simp) hM λz _=>aO.cells z) (.refl _ _))) λr c4 ⟨v,u,code,hr,hv,hu,_,_⟩=>?_;subst hr;have J:=q4.swp op oX (by omega) (by omega);have LL:=(q3.dO (L0 c1 x)).swp (p:=H.length+2) (λz E=>by simp at E;rcases E with rfl|rfl<;>simp<;>omega);generalize swp X g (H.length+2)=H6 at J LL ⊢;have q6:=J.app [vo c4 v,⟨false,c4+1,3,[u.enc]⟩];have T:=((LL.app [vo c4 v,⟨false,c4+1,3,[u.enc]⟩]).cons (p:=H6.length) (ob:=vo c4 v) (by simp) (J.aT.out _ (bB _)))
 have E:eV Z {Z with out:=u}:=eV.of rfl rfl rfl rfl rfl (lU _);have q7:=q6.aT.wL (m':={Z with out:=u}) (q6.aT.b.UN hu) E rfl rfl rfl rfl rfl rfl rfl rfl;have q8:=(q6.trans (q7.pe q6.bI)).le (a':=0) (b':=2000) (by omega) (by omega);have W:=q7.dO T;have gm6:=λK=>aL q6.aT.hm K;have T:=λM K=>bT J.aT.hm M K;have J:=bL q6.aT.hm;have gv:=λK=>aL (W.at_ (p:=H6.length) (ob:=vo c4 v) (by simp)) K;have gb:=λK=>aL (W.at_ (p:=H.length) (ob:=zo c0) (by simp)) K;have J:=bL (W.at_ (p:=H.length) (ob:=zo c0) (by simp));have ob8:=W.ot (p:=H.length) (ob:=zo c0) (by simp);have J:∀K:aH->Prop,aZ (H6++[(⟨false,c4,5,[v.enc]⟩:aH),⟨false,c4+1,3,[u.enc]⟩]) (H6.length+1) K=K ⟨false,c4+1,3,[u.enc]⟩:=λK=>by simp[cM]
 simp only[vo,zo,aI.bD] at gv gb gm6 T;by_cases J:code=0
 .simp[bW,cM,T,aI.p7,J,gv,gb,dM.all];have hl6:=bL (LL.at_ (p:=H.length) (ob:=zo c0) (by simp));exact⟨by omega,fin q8 ob8 (aI.V.mono (m:=Z) hv E)⟩
 .simp[bW,cM,T,aI.p7,J,dM.all];refine pE q7.aT hP hab λE E E E Z=>?_;have E:=Z.dO W;have T:=λK=>aL (E.at_ (p:=H.length) (ob:=zo c0) (by simp)) K;have J:=bL (E.at_ (p:=H.length) (ob:=zo c0) (by simp));simp only[zo] at T;simp[T,J];exact fin ((q8.trans (Z.pe q8.bI)).le (by omega) (by omega)) (E.ot (p:=H.length) (ob:=zo c0) (by simp)) .nil
def NO {n} {name} {l:SL aQ} {c} {K:aD} (hE:iS us cs n) (hR:iR us cs n) (hP:fC us cs) (h:Lay us cs H G pm tm m) (hf:cY H G pf tf m f L) (h0:m.ab=0) (Z:l.aG.length<=1000) (J:∀x,x∈l.aG->NE x/\fE x.aJ) (T:Rm m f L) (W:m.bH<n)
  (k:∀v H' G' m' f' E,aI.V m' v->PE us cs H G pm tm pf tf m f L 0 2000 H' G' m' f'->K (.agg (aO.enc v)) H' E):bO aE 242 [.ptr pm tm 19 0 0,.ptr pf tf 7 0 0,.str name,l.av 4 aQ.enc] H c K:=
 gL (name_con hE hR hP h hf h0 Z J T W) λr H' E ⟨v,G',m',f',W,T,J⟩=>by subst W;exact k v H' G' m' f' E T J
end
set_option maxRecDepth 100000
def put5c (x:dG):aR [.aU,.aU,.I 0,.str [],.str []] 0 x.enc=x.enc:=by simp[aR,dG.enc]
def C8 tk e0 l (K:AV->Prop):qX 4 (SL.av 4 aQ.enc (.mk tk (e0::l))) (some (.I 1)) none K=K (SL.av 4 aQ.enc (.mk tk l)):=by simp[SL.av,fP,fJ]
def put5f (x:dG):aR (aR (aR (aR (aR [.aU,.aU,.I 0,.str [],.str []] 0 [x.kids.av 4 aQ.enc]) 1 [x.pX.av]) 2 [.I x.this]) 3 [.str x.self]) 4 [.str x.static]=x.enc:=by simp[aR,dG.enc]
def MK {α:Type}:∀l:aF α,bE (λ_=>1) l=l.length
 |[]=>rfl
 |a::l=>by
  have:=MK l;simp only[bE,gJ,nP,lE] at this ⊢;omega
def put5t (x y:dJ):aR x.enc 0 y.enc=y.enc:=by simp[aR,dJ.enc]
section
variable {us:SL bU} {cs:SL bG} {H H' H'':aC} {G G' G'':Nat->a6} {pm tm pf tf:Nat} {m m' m'':aI} {f f' f'':aW} {L L' L'':aF aY} {a b a' b':Int}
def Lay.clo (h:Lay us cs H G pm tm m) {k:Nat} (E:k<m.b9.ln):∃p t C x,m.b9=.ref p t 5 (List.length C)/\k<C.length/\H[p]?=some ⟨false,t,5,C.map dG.enc⟩/\C[k]?=some x/\jX m true x/\qT H G x:=by
 obtain⟨C,T,E⟩:=h.b9;have J:=T.ln;simp at J;obtain⟨x,J⟩:∃x,C[k]?=some x:=⟨_,bC (by omega)⟩
 rcases T with⟨_,T⟩|⟨p,t,Z,W,_⟩
 .simp at T;subst T;simp at J
 .exact⟨p,t,C,x,by rw[Z];simp,by omega,W,J,(E x (bA J)).1,(E x (bA J)).2⟩
set_option maxHeartbeats 8000000 in
def callE_con {n} {x:aQ} {c0} (hE:iS us cs n) (hR:iR us cs n) (hP:fC us cs) (h:Lay us cs H G pm tm m) (hf:cY H G pf tf m f L) (h0:m.ab=0) (hx:NE x) (hk:x.aJ=19\/x.aJ=20) (hr:Rm m f L) (hn:m.bH<n):cA aE 243 [.ptr pm tm 19 0 0,.ptr pf tf 7 0 0,.agg x.enc] H c0 (lO us cs H G pm tm pf tf m f L 0 2000):=by
 refine cO F243 ?_;unfold F243;obtain⟨hk1,hxe⟩:=hx.v.sh.inv (by omega);have hxl:=hx.len;obtain⟨tk,e0,l,hkl⟩:∃tk e0 l,x.aP=.mk tk (e0::l):=by
  cases hc:x.aP with
  |nil=>rw[hc] at hk1;simp at hk1
  |mk t l=>
   cases l with
   |nil=>rw[hc] at hk1;simp at hk1
   |cons a l=>exact⟨t,a,l,rfl⟩
 have hkl2:x.aP.aG=e0::l:=by rw[hkl];rfl
 have hll:l.length<=600:=by rw[hkl2] at hxl;simp at hxl;omega
 have hle:∀z,z∈l->NE z/\fE z.aJ:=λz hz=>by
  have hz2:z∈x.aP.aG:=by rw[hkl2];simp[hz]
  exact⟨hx.pS hz2,hxe z hz2⟩
 have he0:e0∈x.aP.aG:=by rw[hkl2];simp
 have fin:∀{H5:aC} {G5:Nat->a6} {m5:aI} {f5:aW} {w:aO} {X:aH} {c5:Nat},PE us cs H G pm tm pf tf m f L 0 2000 H5 G5 m5 f5->G5 (H.length+1)=.bP->m5.V w->cE (lO us cs H G pm tm pf tf m f L 0 2000) (.agg w.enc) (H5.set (H.length+1) X) c5:=λq ho hw=>dD ⟨_,_,_,_,rfl,hw,q.eZ (by omega) ho _⟩;simp[bW,hkl];refine oH hE (h.app _) (hf.app _) (hx.pS he0) (hxe e0 he0) hn λv H1 G1 m1 f1 c1 hv q1 _=>?_;have q2:=q1.gU.app [vo c1 v];have L1:=q1.dO (l:=[(H.length,no c0 x),(H.length+1,zo (c0+1))]) ((Loc.nil.cons (by simp[zo]) (h.out _ (by omega))).cons (by simp[no]) (h.out _ (by omega)));have LL:=(L1.app [vo c1 v]).cons (p:=H1.length) (ob:=vo c1 v) (by simp) (q1.aT.out _ (bB _));have hp1:=bL (L1.at_ (p:=H.length+1) (ob:=zo (c0+1)) (by simp));have gm:=λM K=>bT q1.aT.hm M K;have gb:=λM K=>bT (L1.at_ (p:=H.length+1) (ob:=zo (c0+1)) (by simp)) M K;have gx:=λM K=>bT (L1.at_ (p:=H.length) (ob:=no c0 x) (by simp)) M K;have gS:∀(X:aH) (M:aC) (K:aH->Prop),aZ (H1.set (H.length+1) X++M) (H.length+1) K=K X:=λX M K=>bT (eP hp1) M K;have hr1:Rm m1 f1 L:=(⟨hr.e,hr.m⟩:Rm m f L).of q1.gU;have hn1:m1.bH<n:=by have:=q1.mono.f;omega
 simp only[no,zo] at gb gx;by_cases hab:m1.ab=0;rotate_left
 .simp[bW,gm,aI.bD,aI.g12,hab,gb,hp1,gS];rw[z5];have:=fin (c5:=c1+1) (w:=sV 0 0 []) (X:=⟨false,c0+1,5,[(sV 0 0 []).enc]⟩) (q2.le (by omega) (by omega)) (LL.ot (p:=H.length+1) (ob:=zo (c0+1)) (by simp)) .nil;simpa[hp1,vo,z5] using this
 have thr:∀{M:aC} {H5:aC} {G5:Nat->a6} {m5:aI} {c5:Nat},PA us cs (H1++(vo c1 v::M)) G1 pm tm m1 0 H5 G5 m5->H.length+1<H5.length/\(∀K:aH->Prop,aZ H5 (H.length+1) K=K (zo (c0+1)))/\∀X,cE (lO us cs H G pm tm pf tf m f L 0 2000) (.agg (sV 0 0 []).enc) (H5.set (H.length+1) X) c5:=λ{M} _ _ _ _ q5=>by
  have L5:=q5.dO (L1.app (vo c1 v::M));exact⟨bL (L5.at_ (p:=H.length+1) (ob:=zo (c0+1)) (by simp)),λK=>aL (L5.at_ (p:=H.length+1) (ob:=zo (c0+1)) (by simp)) K,λX=>fin ((((q1.gU.app (vo c1 v::M))).trans (q5.pe (q1.bI.app _))).le (by omega) (by omega)) (L5.ot (p:=H.length+1) (ob:=zo (c0+1)) (by simp)) .nil⟩
 have xE:∀{M:aC} {H5:aC} {G5:Nat->a6} {m5:aI} {f5:aW} {w:aO} {c5:Nat},m5.V w->PE us cs (H1++(vo c1 v::M)) G1 pm tm pf tf m1 f1 L 0 2000 H5 G5 m5 f5->H.length+1<H5.length/\(∀K:aH->Prop,aZ H5 (H.length+1) K=K (zo (c0+1)))/\∀X,cE (lO us cs H G pm tm pf tf m f L 0 2000) (.agg w.enc) (H5.set (H.length+1) X) c5:=λ{M} _ _ _ _ _ _ hw q5=>by
  have L5:=q5.dO (L1.app (vo c1 v::M));exact⟨bL (L5.at_ (p:=H.length+1) (ob:=zo (c0+1)) (by simp)),λK=>aL (L5.at_ (p:=H.length+1) (ob:=zo (c0+1)) (by simp)) K,λX=>fin ((((q1.gU.app (vo c1 v::M))).trans q5).le (by omega) (by omega)) (L5.ot (p:=H.length+1) (ob:=zo (c0+1)) (by simp)) hw⟩
 simp only[vo] at thr xE;rcases hk with k19|k20
 .by_cases v3:v.aJ=3
  .simp[bW,gm,aI.bD,aI.g12,hab,gx,k19,v3,hkl,C8];refine NO hE hR hP (q1.aT.app _) (q1.bI.app _) hab (l:=.mk tk l) (by simp;omega) (by simpa using hle) hr1 hn1 λw H5 G5 m5 f5 c5 hw q5=>?_;obtain⟨t1,t2,t3⟩:=xE (c5:=c5) hw q5;simp[t1,t2,zo];exact t3 _
  .by_cases v7:v.aJ=7
   .obtain⟨hc0,hc1⟩:=hv.ok.o7 v7;obtain⟨k,hkk⟩:=iY hc0;rw[hkk] at hc1;obtain⟨pC,tC,C,y,y1,y2,y3,y4,y5,y6⟩:=q1.aT.clo (k:=k) (by omega);have gC:=λM K=>bT y3 M K;have hkC:(k:Int)<(C.length:Int):=by omega
    simp[bW,cM,gm,aI.bD,aI.g12,aI.g5,hab,gx,k19,v7,hkl,hkk,y1,gC,hkC,aL y4,put5c,dG.g0,dG.g1,dG.g2,dG.g3,dG.g4,C8,put5f,B6 y.pX.cell];refine⟨by simp[aR],by simp[aR],by simp[aR],by simp[aR],?_⟩;refine EO hE hR hP (q1.aT.app _) (q1.bI.app _) y5 (y6.kp (cB.app (S:=λ_=>False) _) (λh=>h)) (l:=.mk tk l) (by simp;omega) (by simpa using hle) hr1 hn1 λw H5 G5 m5 f5 c5 hw q5=>?_;obtain⟨t1,t2,t3⟩:=xE (c5:=c5) hw q5;simp[t1,t2,zo];exact t3 _
   .simp[bW,gm,aI.bD,aI.g12,hab,gx,k19,v3,v7];refine jT (q1.aT.app _) hP hab (by simp) λH5 G5 m5 c5 q5=>?_;obtain⟨t1,t2,t3⟩:=thr (c5:=c5) q5;simp[t1,t2,zo];exact t3 _
 .have hxt:x.bR.length<=400:=hx.v.sh.t (by omega) (by omega);by_cases v6:v.aJ=6;rotate_left
  .simp[bW,gm,aI.bD,aI.g12,hab,gx,k20,v6];refine jT (q1.aT.app _) hP hab (by simp) λH5 G5 m5 c5 q5=>?_;obtain⟨t1,t2,t3⟩:=thr (c5:=c5) q5;simp[t1,t2,zo];exact t3 _
  obtain⟨hc0,hc1⟩:=hv.ok.o6 v6;obtain⟨k,hkk⟩:=iY hc0;rw[hkk] at hc1;obtain⟨pO,tO,O,cl,oa,F,hob,hne⟩:=q1.aT.obj (k:=k) (by omega);have gO:=λM K=>bT hob.ho M K;have gk:=λK=>aL hob.o K;have hOe:=hob.e;have hkO:(k:Int)<(O.length:Int):=by have:=hob.kl;omega
  have hobs:=q1.aT.b.o;have hwk:IntKind.i64.wrap ((k:Int)+1)=(k:Int)+1:=wrap64 (by omega) (by omega);have gf:=λM K=>bT q1.bI.hf M K;simp[bW,gm,aI.bD,aI.g12,aI.g4,hab,gx,k20,v6,hOe,hkk,hkO,gO,gk,JM,-jN];refine nK (λe H' c'=>∃(t10:Nat) (mt:dJ) (b:Bool),H'=H1++[vo c1 v,jL t10 mt]/\(b=true->DD us.aG mt.Name mt.fX)/\e 0=.ptr pm tm 19 0 0/\e 1=.ptr pf tf 7 0 0/\e 5=.ptr H.length c0 4 0 0/\e 6=.ptr (H.length+1) (c0+1) 5 0 0/\e 7=.ptr H1.length c1 5 0 0/\e 9=.str cl/\e 10=.ptr (H1.length+1) t10 5 0 0/\e 94=.bool b) ?_ ?_;rotate_left
  .intro K hK;simp[gm,aI.bD,aI.g1,q1.aT.cs,gx]
   repeat' first
    |with_reducible apply And.intro
    |(with_reducible refine xH hP (λmt c4 hmt=>?_) λmt c4=>?_
      all_goals
       simp[cM]
       repeat' first
        |with_reducible apply And.intro
        |exact hK _ _ _ ⟨_,mt,true,rfl,λ_=>hmt,rfl,rfl,rfl,rfl,rfl,rfl,rfl,rfl⟩
        |exact hK _ _ _ ⟨_,mt,false,rfl,(λh=>by cases h),rfl,rfl,rfl,rfl,rfl,rfl,rfl,rfl⟩)
  intro e H2 c2 ⟨t10,mt,b,hH2,hmt,f0,f1',f5,f6,f7,f9,f10,f94⟩;subst hH2;simp only[vo,jL];have fall:∀(e:Env) (c2:Nat) (K:kU),True:=λ_ _ _=>trivial;have gx2:∀(M:aC) (K:aH->Prop),aZ (H1++M) H.length K=K ⟨false,c0,4,[x.enc]⟩:=gx
  have go1:∀(X:dJ) (c3:Nat) (K:aD),DD us.aG X.Name X.fX->(∀w H5 G5 m5 f5 c7,aI.V m5 w->PE us cs (H1++(vo c1 v::[jL t10 X])) G1 pm tm pf tf m1 f1 L 0 2000 H5 G5 m5 f5->K (.agg (aO.enc w)) H5 c7)->∀(y:dG),jX m1 false y->bO aE 268 [.ptr pm tm 19 0 0,.ptr pf tf 7 0 0,.agg y.enc,SL.av 4 aQ.enc (.mk tk l)] (H1++[vo c1 v,jL t10 X]) c3 K:=λX c3 K hX k y hy=>
   EO hE hR hP (q1.aT.app _) (q1.bI.app _) hy hy.cg (by simp;omega) (by simpa using hle) hr1 hn1 k
  simp only[vo,jL] at go1;have second:True:=trivial;cases b
  .simp[f0,f9,f94,gm,aI.bD,aI.g1,q1.aT.cs];refine xH hP (λmt2 c4 hmt2=>?_) λmt2 c4=>?_;rotate_left
   .simp[f0,f10,cM];refine jT (q1.aT.app _) hP hab (by simp) λH5 G5 m5 c5 q5=>?_;obtain⟨t1,t2,t3⟩:=thr (c5:=c5) q5;simp[f6,t1,t2,zo];exact t3 _
   simp[f0,f1',f5,f10,cM,gx,hkl,C8];refine yV (l:=l) hE (q1.aT.app [vo c1 v,jL t10 mt2]) (q1.bI.app _) (.inl ⟨.mk tk l,rfl,rfl⟩) (by omega) hle hn1 λM G3 m3 f3 t3 X g c5 hM hMv hXl oX lp op q3=>?_;simp at hXl lp op;have L2:=((L1.app [vo c1 v,jL t10 mt2]).cons (p:=H1.length) (ob:=vo c1 v) (by simp) (q1.aT.out _ (bB _))).cons (p:=H1.length+1) (ob:=jL t10 mt2) (by simp) (q1.aT.out _ (by omega));have q4:=(q1.gU.app [vo c1 v,jL t10 mt2]).trans q3;simp;refine PZ lp (DU (o:=m3.bS.ln) (c:=m3.b9.ln) (g:=m3.cJ.ln) (l:=.mk t3 M) (by simp;omega) λz hz=>(hMv z hz).ok) (.cons (jK (by simp) hM λz _=>aO.cells z) .nil) λr c6 ⟨lv,hr0,hlk,hlok,hlwt,_⟩=>?_;subst hr0;have q5:=q4.swp op oX (by omega) (by omega);have LL5:=(q3.dO L2).swp (p:=H1.length+2) (λz hz=>by simp at hz;rcases hz with rfl|rfl|rfl|rfl<;>simp<;>omega);generalize swp X g (H1.length+2)=H6 at q5 LL5 ⊢;have hlw:lv.wt<=200001:=by
    have h1:=HB (f:=aO.wt) (h:=λ_=>1) (a:=200) (l:=M) λz hz=>by have:=(hMv z hz).wt;show z.wt<=200*1;omega
    have h2:=MK M;simp at hlwt;omega
   have q6:=(q5.le (a':=0) (b':=0) (by omega) (by omega)).app [vo c6 lv];have LL6:=(LL5.app [vo c6 lv]).cons (p:=H6.length) (ob:=vo c6 lv) (by simp) (q5.aT.out _ (bB _));have gm6:=λM K=>bT q5.aT.hm M K;have gb6:=λM K=>bT (LL5.at_ (p:=H.length+1) (ob:=zo (c0+1)) (by simp)) M K;have gx6:=λM K=>bT (LL5.at_ (p:=H.length) (ob:=no c0 x) (by simp)) M K;have g76:=λM K=>bT (LL5.at_ (p:=H1.length) (ob:=vo c1 v) (by simp)) M K;have gt6:=λM K=>bT (LL5.at_ (p:=H1.length+1) (ob:=jL t10 mt2) (by simp)) M K;have hbl6:=bL (LL5.at_ (p:=H.length+1) (ob:=zo (c0+1)) (by simp));have gS6:∀(X:aH) (M:aC) (K:aH->Prop),aZ (H6.set (H.length+1) X++M) (H.length+1) K=K X:=λX M K=>bT (eP hbl6) M K;simp only[no,zo,vo,jL] at gb6 gx6 g76 gt6;by_cases hab6:m3.ab=0;rotate_left
   .simp[f0,f6,bW,gm6,aI.bD,aI.g12,hab6,gb6,hbl6,gS6];rw[z5];have:=fin (c5:=c6+1) (w:=sV 0 0 []) (X:=⟨false,c0+1,5,[(sV 0 0 []).enc]⟩) (q6.le (by omega) (by omega)) (LL6.ot (p:=H.length+1) (ob:=zo (c0+1)) (by simp)) .nil;simpa[hbl6,vo,z5] using this
   simp[f0,bW,gm6,aI.bD,aI.g12,hab6,-jN];have hsz:=dU.sz lv hlok;refine cV (GM (v:=lv) (by omega)) λr c7 _ ⟨wn,hr0,hwn,_⟩=>⟨fB _,?_⟩
   subst hr0;by_cases h200:200<wn
   .have h200':(200:Int)<(wn:Int):=by omega
    simp[f0,h200',-jN];refine pE q6.aT hP hab6 λH8 G8 m8 c8 q8=>?_;have LL8:=q8.dO LL6;have gb8:=λK=>aL (LL8.at_ (p:=H.length+1) (ob:=zo (c0+1)) (by simp)) K;have hbl8:=bL (LL8.at_ (p:=H.length+1) (ob:=zo (c0+1)) (by simp));simp only[zo] at gb8;simp[f6,gb8,hbl8];exact fin ((q6.trans (q8.pe q6.bI)).le (by omega) (by omega)) (LL8.ot (p:=H.length+1) (ob:=zo (c0+1)) (by simp)) .nil
   have h200':¬(200:Int)<(wn:Int):=by omega
   have hlm:m3.V lv:=⟨hlok,hwn.2 (by omega)⟩
   have q6l:Lay us cs (H6++[(⟨false,c6,5,[lv.enc]⟩:aH)]) G3 pm tm m3:=q6.aT;simp[f0,f5,f7,f9,h200',-jN];refine nK (λe8 H8 c8=>∃y:dG,jX m3 false y/\H6++[(⟨false,c6,5,[lv.enc]⟩:aH)]=H8/\e8 0=.ptr pm tm 19 0 0/\e8 151=.ptr pm tm 19 0 0/\e8 6=.ptr (H.length+1) (c0+1) 5 0 0/\e8 158=.agg y.enc/\e8 162=.agg (eO.mk (-1) (sV 3 0 x.bR)).enc/\e8 164=.agg (eO.mk (-1) lv).enc) ?_ ?_;rotate_left
   .intro K hK;simp[f10,gx6,g76,gt6,hkk,bW]
    repeat' first
     |with_reducible apply And.intro
     |exact hK _ _ _ ⟨_,‹jX m3 false _›,rfl,by simp[aK,f0],rfl,by simp[aK,f6],rfl,rfl,rfl⟩
     |(simp[aR];done)
     |(rw[hwk]
       with_reducible refine wU (this:=(k:Int)+1) q6l hP hmt2 (by have:=q3.mono.o;omega) λy c9 hy=>?_
       simp[gx6,bW,yP])
     |(with_reducible refine cX (nU x.bR) (fB _) λc9 _=>?_
       simp[bW,yP])
   intro e8 H8 c8 ⟨y,hy,hH8,h80,h8151,h86,h8158,h8162,h8164⟩;subst hH8;simp[h8151,h8158,h8162,h8164];have q7:=q6.app [⟨false,c8,6,[(eO.mk (-1) (sV 3 0 x.bR)).enc,(eO.mk (-1) lv).enc]⟩];have LL7:=LL6.app [⟨false,c8,6,[(eO.mk (-1) (sV 3 0 x.bR)).enc,(eO.mk (-1) lv).enc]⟩];simp only[zY,zX,F0,vo] at q7 LL7;have q67:PE us cs H G pm tm pf tf m f L 0 0 (H6++[(⟨false,c6,5,[lv.enc]⟩:aH),⟨false,c8,6,[(eO.mk (-1) (sV 3 0 x.bR)).enc,(eO.mk (-1) lv).enc]⟩]) G3 m3 f3:=by simpa using q7
   have hr3:=hr.of q67;refine BU hR hP q67.aT hab6 hy hy.cg (A:=[⟨-1,sV 3 0 x.bR⟩,⟨-1,lv⟩]) (.inr ⟨H6.length+1,c8,rfl,by simp,q5.aT.out _ (by omega)⟩) (λz hz=>by
    simp at hz;rcases hz with rfl|rfl
    .exact⟨by simp,by simp only;omega,VM.sc (by omega) (by omega) hxt⟩
    .exact⟨by simp,by simp only;omega,hlm⟩) (by have:=hr3.m;omega) (by have:=q67.mono.f;omega) λw H9 G9 m9 c9 hw q9=>?_
   have LL9:=q9.dO LL7;have gb9:=λK=>aL (LL9.at_ (p:=H.length+1) (ob:=zo (c0+1)) (by simp[zo])) K;have hbl9:=bL (LL9.at_ (p:=H.length+1) (ob:=zo (c0+1)) (by simp[zo]));simp only[zo] at gb9;simp[h86,gb9,hbl9];exact fin ((q67.trans (q9.pe q67.bI)).le (by omega) (by omega)) (LL9.ot (p:=H.length+1) (ob:=zo (c0+1)) (by simp[zo])) hw
  .simp[f1',f10,f94,cM,gf,aW.bD,aW.g3];refine cX (IS _ _ _) (fB _) λc3 _=>?_;generalize (!mt.pI||decide (mt.lQ=f1.self))=see;cases see
   .simp[f0,f9,gm,aI.bD,aI.g1,q1.aT.cs];refine xH hP (λmt2 c4 hmt2=>?_) λmt2 c4=>?_;rotate_left
    .simp[f0,f10,cM];refine jT (q1.aT.app _) hP hab (by simp) λH5 G5 m5 c5 q5=>?_;obtain⟨t1,t2,t3⟩:=thr (c5:=c5) q5;simp[f6,t1,t2,zo];exact t3 _
    simp[f0,f1',f5,f10,cM,gx,hkl,C8];refine yV (l:=l) hE (q1.aT.app [vo c1 v,jL t10 mt2]) (q1.bI.app _) (.inl ⟨.mk tk l,rfl,rfl⟩) (by omega) hle hn1 λM G3 m3 f3 t3 X g c5 hM hMv hXl oX lp op q3=>?_;simp at hXl lp op;have L2:=((L1.app [vo c1 v,jL t10 mt2]).cons (p:=H1.length) (ob:=vo c1 v) (by simp) (q1.aT.out _ (bB _))).cons (p:=H1.length+1) (ob:=jL t10 mt2) (by simp) (q1.aT.out _ (by omega));have q4:=(q1.gU.app [vo c1 v,jL t10 mt2]).trans q3;simp;refine PZ lp (DU (o:=m3.bS.ln) (c:=m3.b9.ln) (g:=m3.cJ.ln) (l:=.mk t3 M) (by simp;omega) λz hz=>(hMv z hz).ok) (.cons (jK (by simp) hM λz _=>aO.cells z) .nil) λr c6 ⟨lv,hr0,hlk,hlok,hlwt,_⟩=>?_;subst hr0;have q5:=q4.swp op oX (by omega) (by omega);have LL5:=(q3.dO L2).swp (p:=H1.length+2) (λz hz=>by simp at hz;rcases hz with rfl|rfl|rfl|rfl<;>simp<;>omega);generalize swp X g (H1.length+2)=H6 at q5 LL5 ⊢;have hlw:lv.wt<=200001:=by
     have h1:=HB (f:=aO.wt) (h:=λ_=>1) (a:=200) (l:=M) λz hz=>by have:=(hMv z hz).wt;show z.wt<=200*1;omega
     have h2:=MK M;simp at hlwt;omega
    have q6:=(q5.le (a':=0) (b':=0) (by omega) (by omega)).app [vo c6 lv];have LL6:=(LL5.app [vo c6 lv]).cons (p:=H6.length) (ob:=vo c6 lv) (by simp) (q5.aT.out _ (bB _));have gm6:=λM K=>bT q5.aT.hm M K;have gb6:=λM K=>bT (LL5.at_ (p:=H.length+1) (ob:=zo (c0+1)) (by simp)) M K;have gx6:=λM K=>bT (LL5.at_ (p:=H.length) (ob:=no c0 x) (by simp)) M K;have g76:=λM K=>bT (LL5.at_ (p:=H1.length) (ob:=vo c1 v) (by simp)) M K;have gt6:=λM K=>bT (LL5.at_ (p:=H1.length+1) (ob:=jL t10 mt2) (by simp)) M K;have hbl6:=bL (LL5.at_ (p:=H.length+1) (ob:=zo (c0+1)) (by simp));have gS6:∀(X:aH) (M:aC) (K:aH->Prop),aZ (H6.set (H.length+1) X++M) (H.length+1) K=K X:=λX M K=>bT (eP hbl6) M K;simp only[no,zo,vo,jL] at gb6 gx6 g76 gt6;by_cases hab6:m3.ab=0;rotate_left
    .simp[f0,f6,bW,gm6,aI.bD,aI.g12,hab6,gb6,hbl6,gS6];rw[z5];have:=fin (c5:=c6+1) (w:=sV 0 0 []) (X:=⟨false,c0+1,5,[(sV 0 0 []).enc]⟩) (q6.le (by omega) (by omega)) (LL6.ot (p:=H.length+1) (ob:=zo (c0+1)) (by simp)) .nil;simpa[hbl6,vo,z5] using this
    simp[f0,bW,gm6,aI.bD,aI.g12,hab6,-jN];have hsz:=dU.sz lv hlok;refine cV (GM (v:=lv) (by omega)) λr c7 _ ⟨wn,hr0,hwn,_⟩=>⟨fB _,?_⟩
    subst hr0;by_cases h200:200<wn
    .have h200':(200:Int)<(wn:Int):=by omega
     simp[f0,h200',-jN];refine pE q6.aT hP hab6 λH8 G8 m8 c8 q8=>?_;have LL8:=q8.dO LL6;have gb8:=λK=>aL (LL8.at_ (p:=H.length+1) (ob:=zo (c0+1)) (by simp)) K;have hbl8:=bL (LL8.at_ (p:=H.length+1) (ob:=zo (c0+1)) (by simp));simp only[zo] at gb8;simp[f6,gb8,hbl8];exact fin ((q6.trans (q8.pe q6.bI)).le (by omega) (by omega)) (LL8.ot (p:=H.length+1) (ob:=zo (c0+1)) (by simp)) .nil
    have h200':¬(200:Int)<(wn:Int):=by omega
    have hlm:m3.V lv:=⟨hlok,hwn.2 (by omega)⟩
    have q6l:Lay us cs (H6++[(⟨false,c6,5,[lv.enc]⟩:aH)]) G3 pm tm m3:=q6.aT;simp[f0,f5,f7,f9,h200',-jN];refine nK (λe8 H8 c8=>∃y:dG,jX m3 false y/\H6++[(⟨false,c6,5,[lv.enc]⟩:aH)]=H8/\e8 0=.ptr pm tm 19 0 0/\e8 151=.ptr pm tm 19 0 0/\e8 6=.ptr (H.length+1) (c0+1) 5 0 0/\e8 158=.agg y.enc/\e8 162=.agg (eO.mk (-1) (sV 3 0 x.bR)).enc/\e8 164=.agg (eO.mk (-1) lv).enc) ?_ ?_;rotate_left
    .intro K hK;simp[f10,gx6,g76,gt6,hkk,bW]
     repeat' first
      |with_reducible apply And.intro
      |exact hK _ _ _ ⟨_,‹jX m3 false _›,rfl,by simp[aK,f0],rfl,by simp[aK,f6],rfl,rfl,rfl⟩
      |(simp[aR];done)
      |(rw[hwk]
        with_reducible refine wU (this:=(k:Int)+1) q6l hP hmt2 (by have:=q3.mono.o;omega) λy c9 hy=>?_
        simp[gx6,bW,yP])
      |(with_reducible refine cX (nU x.bR) (fB _) λc9 _=>?_
        simp[bW,yP])
    intro e8 H8 c8 ⟨y,hy,hH8,h80,h8151,h86,h8158,h8162,h8164⟩;subst hH8;simp[h8151,h8158,h8162,h8164];have q7:=q6.app [⟨false,c8,6,[(eO.mk (-1) (sV 3 0 x.bR)).enc,(eO.mk (-1) lv).enc]⟩];have LL7:=LL6.app [⟨false,c8,6,[(eO.mk (-1) (sV 3 0 x.bR)).enc,(eO.mk (-1) lv).enc]⟩];simp only[zY,zX,F0,vo] at q7 LL7;have q67:PE us cs H G pm tm pf tf m f L 0 0 (H6++[(⟨false,c6,5,[lv.enc]⟩:aH),⟨false,c8,6,[(eO.mk (-1) (sV 3 0 x.bR)).enc,(eO.mk (-1) lv).enc]⟩]) G3 m3 f3:=by simpa using q7
    have hr3:=hr.of q67;refine BU hR hP q67.aT hab6 hy hy.cg (A:=[⟨-1,sV 3 0 x.bR⟩,⟨-1,lv⟩]) (.inr ⟨H6.length+1,c8,rfl,by simp,q5.aT.out _ (by omega)⟩) (λz hz=>by
     simp at hz;rcases hz with rfl|rfl
     .exact⟨by simp,by simp only;omega,VM.sc (by omega) (by omega) hxt⟩
     .exact⟨by simp,by simp only;omega,hlm⟩) (by have:=hr3.m;omega) (by have:=q67.mono.f;omega) λw H9 G9 m9 c9 hw q9=>?_
    have LL9:=q9.dO LL7;have gb9:=λK=>aL (LL9.at_ (p:=H.length+1) (ob:=zo (c0+1)) (by simp[zo])) K;have hbl9:=bL (LL9.at_ (p:=H.length+1) (ob:=zo (c0+1)) (by simp[zo]));simp only[zo] at gb9;simp[h86,gb9,hbl9];exact fin ((q67.trans (q9.pe q67.bI)).le (by omega) (by omega)) (LL9.ot (p:=H.length+1) (ob:=zo (c0+1)) (by simp[zo])) hw
   .simp[f0,f1',f5,f7,f9,f10,cM,bW,hkk,gx,hkl,C8];rw[hwk];refine wU (this:=(k:Int)+1) (q1.aT.app _) hP (hmt rfl) (by omega) λy c4 hy=>?_;simp[gx,hkl];refine go1 mt _ _ (hmt rfl) (λw H5 G5 m5 f5' c7 hw q5=>?_) y hy;obtain⟨t1,t2,t3⟩:=xE (c5:=c7) hw q5;simp[f6,t1,t2,zo];exact t3 _
def ZZ {n} {x:aQ} {c} {K:aD} (hE:iS us cs n) (hR:iR us cs n) (hP:fC us cs) (h:Lay us cs H G pm tm m) (hf:cY H G pf tf m f L) (h0:m.ab=0) (J:NE x) (Z:x.aJ=19\/x.aJ=20) (T:Rm m f L) (W:m.bH<n)
  (k:∀v H' G' m' f' E,aI.V m' v->PE us cs H G pm tm pf tf m f L 0 2000 H' G' m' f'->K (.agg (aO.enc v)) H' E):bO aE 243 [.ptr pm tm 19 0 0,.ptr pf tf 7 0 0,.agg x.enc] H c K:=
 gL (callE_con hE hR hP h hf h0 J Z T W) λr H' E ⟨v,G',m',f',W,T,J⟩=>by subst W;exact k v H' G' m' f' E T J
end
set_option maxRecDepth 100000
def cQ.g7 (g:cQ) (K:AV->Prop):aZ g.enc 7 K=K (.I g.state):=by simp[cQ.enc,aW.aM]
def cQ.t7 (g:cQ):g.enc.take 7=g.f.aM:=by simp[cQ.enc,aW.aM]
def cQ.d8 (g:cQ):(g.enc.drop 8).take 5=g.cur.enc:=by simp[cQ.enc,aW.aM]
def cQ.p7 (g:cQ) (s:Int):aR g.enc 7 [.I s]=cQ.enc {g with state:=s}:=by simp[cQ.enc,aW.aM,aR]
def cQ.p8 (g:cQ) (v:aO):aR g.enc 8 v.enc=cQ.enc {g with cur:=v}:=by simp[cQ.enc,aW.aM,aR,aO.dW]
def cQ.p0 (g:cQ) (f:aW):aR g.enc 0 f.aM=cQ.enc {g with f:=f}:=by simp[cQ.enc,aW.aM,aR]
def DF (f:aW):aR [.aU,.bool false,.I 0,.str [],.str [],.aU,.str []] 0 f.aM=f.aM:=by simp[aW.aM,aR]
section
variable {us:SL bU} {cs:SL bG} {H H' H'':aC} {G G' G'':Nat->a6} {pm tm pf tf:Nat} {m m' m'':aI} {f f' f'':aW} {L L' L'':aF aY} {a b a' b':Int}
def Lay.V5 (h:Lay us cs H G pm tm m) (k:Kp (λo=>eQ o/\¬xC o) H G H' G') (out:∀p,H'.length<=p->G' p=.bP) (J:vY H' G' m):Lay us cs H' G' pm tm m:=by obtain⟨T,E⟩:=k _ _ h.hm (by rw[h.gm];exact⟨trivial,by simp[xC]⟩);exact⟨T,E.trans h.gm,out,h.us,h.cs,h.b,h.cells.kp k ⟨trivial,by simp[xC]⟩ rfl (.refl _),h.dR.kp k ⟨trivial,by simp[xC]⟩ rfl (.refl _),h.bS.kp k (λo E=>by rcases E with rfl|⟨k,rfl⟩<;>exact⟨trivial,by simp[xC]⟩) rfl (.refl _),h.b9.kp k ⟨⟨trivial,by simp[xC]⟩,⟨trivial,by simp[xC]⟩⟩ rfl (.refl _),J⟩
def Lay.gen (h:Lay us cs H G pm tm m) {k:Nat} (E:k<m.cJ.ln):∃p t E g,m.cJ=.ref p t 13 (List.length E)/\k<E.length/\H[p]?=some ⟨false,t,13,E.map cQ.enc⟩/\G p=.cJ/\E[k]?=some g/\(E.map cQ.enc)[k]?=some g.enc/\∀j x,E[j]?=some x->GP H G m j x:=by
 obtain⟨E,J,Z⟩:=h.cJ;have T:=J.ln;simp at T;obtain⟨g,W⟩:∃g,E[k]?=some g:=⟨_,bC (by omega)⟩
 have T:(E.map cQ.enc)[k]?=some g.enc:=by rw[kL,W];rfl
 obtain⟨p,t,h1,h2,h3⟩:=J.at T;exact⟨p,t,E,g,by simpa using h1,by omega,h2,h3,W,T,Z⟩
def W8 {p t k:Nat} {E:aF cQ} {g} (T:m.cJ=.ref p t 13 E.length) (J:H'[p]?=some ⟨false,t,13,(E.set k g).map cQ.enc⟩) (gp:G' p=.cJ) (W:GP H' G' m k g) (Z:∀j x,E[j]?=some x->j≠k->GP H' G' m j x):vY H' G' m:=
 ⟨E.set k g,.inr ⟨p,t,by simpa using T,J,gp⟩,λj x E=>by
  rw[r8] at E;split at E
  .rename_i e;subst e;split at E
   .cases E;exact W
   .cases E
  .exact Z j x E (λe=>by simp_all)⟩
def ResQ (us:SL bU) (cs:SL bG) (H:aC) (G:Nat->a6) (pm tm:Nat) (m:aI) (r:AV) (H':aC) (_:Nat):Prop:=
 ∃G' m',r=.aX []/\PA us cs H G pm tm m 81100000 H' G' m'
open Classical in
def gen_own (h:Lay us cs H G pm tm m) {k p t:Nat} {Z:aF cQ} {g:cQ} (hm:m.cJ=.ref p t 13 Z.length) (J:H[p]?=some ⟨false,t,13,Z.map cQ.enc⟩) (gp:G p=.cJ) (T:Z[k]?=some g) (hL:∀j x,Z[j]?=some x->GP H G m j x)
  (hf:rU H G (.kR k) (.kI k) m g.f L) A tf:
  ∃W,Lay us cs ((H++[A,g.f.ob tf]).set p ⟨false,t,13,(Z.set k {g with state:=2}).map cQ.enc⟩) W pm tm m/\cY ((H++[A,g.f.ob tf]).set p ⟨false,t,13,(Z.set k {g with state:=2}).map cQ.enc⟩) W (H.length+1) tf m g.f L/\
   (∀q x,H[q]?=some x->¬eQ (G q)->((H++[A,g.f.ob tf]).set p ⟨false,t,13,(Z.set k {g with state:=2}).map cQ.enc⟩)[q]?=some x/\W q=.bP)/\W H.length=.bP/\
   (∀q x,H[q]?=some x->G q=.mP->((H++[A,g.f.ob tf]).set p ⟨false,t,13,(Z.set k {g with state:=2}).map cQ.enc⟩)[q]?=some x/\W q=.mP):=by
 have E:=bL J;have hG:=hL k g T;obtain⟨HH,J⟩:∃HH,((H++[A,g.f.ob tf]).set p ⟨false,t,13,(Z.set k {g with state:=2}).map cQ.enc⟩)=HH:=⟨_,rfl⟩
 have kk:∀q x,H[q]?=some x->¬G q=.cJ->HH[q]?=some x:=λq x T E=>by rw[<-J];exact eC (fF T _) (λe=>by subst e;exact E gp) _
 have hp':HH[p]?=some ⟨false,t,13,(Z.set k {g with state:=2}).map cQ.enc⟩:=by rw[<-J];exact eP (by simp;omega)
 have Z:HH[H.length+1]?=some (g.f.ob tf):=by rw[<-J,uR (by omega)];simp
 have hl':HH.length=H.length+2:=by rw[<-J];simp
 rw[J];have g0:∀q,H.length<=q->G q=.bP:=h.out;obtain⟨W,J⟩:∃W:Nat->a6,∀q,W q=if q=H.length+1 then .frame else if G q=.kR k then .env else if G q=.kI k then .fL else if eQ (G q) then G q else .bP:=⟨_,λ_=>rfl⟩
 have kg:Kp (λo=>eQ o/\o≠.cJ/\o≠.kR k/\o≠.kI k) H G HH W:=λq x T E=>by
  refine⟨kk q x T E.2.1,?_⟩;have:=bL T;rw[J,if_neg (by omega),if_neg E.2.2.1,if_neg E.2.2.2,if_pos E.1]
 refine⟨W,?_,⟨Z,by rw[J];simp,?_⟩,λq x T E=>⟨kk q x T (λe=>by rw[e] at E;exact E trivial),?_⟩,?_,λq x T E=>⟨kk q x T (by rw[E];simp),?_⟩⟩
 .refine h.V5 (kg.mono λo E=>⟨E.1,λe=>E.2 (.inl e),λe=>E.2 (.inr ⟨k,.inl e⟩),λe=>E.2 (.inr ⟨k,.inr e⟩)⟩) (λq T=>?_) ?_
  .rw[J,if_neg (by omega),g0 q (by omega)];simp[eQ]
  .have Z:GP HH W m k {g with state:=2}:=⟨by simp,hG.v,by simp,hG.cl⟩
   refine W8 hm hp' ?_ Z λj x Z W=>?_
   .rw[J,if_neg (by omega),gp];simp[eQ]
   .have e1:eQ (.kR j)/\a6.kR j≠.cJ/\a6.kR j≠.kR k/\a6.kR j≠.kI k:=⟨trivial,by simp,by simpa using W,by simp⟩
    have e2:eQ (.kI j)/\a6.kI j≠.cJ/\a6.kI j≠.kR k/\a6.kI j≠.kI k:=⟨trivial,by simp,by simp,by simpa using W⟩
    exact(hL j x Z).kp kg e1 e2 (.refl _)
 .refine hf.own (.refl _) (λq x T e=>⟨kk q x T (by rw[e];simp),?_⟩) λq x T e=>⟨kk q x T (by rw[e];simp),?_⟩
  .have:=bL T;rw[J,if_neg (by omega),if_pos e]
  .have:=bL T;rw[J,if_neg (by omega),if_neg (by rw[e];simp),if_pos e]
 .have:=bL T;rw[J,if_neg (by omega),if_neg (λe=>by rw[e] at E;exact E trivial),if_neg (λe=>by rw[e] at E;exact E trivial),if_neg E]
 .rw[J,if_neg (by omega),g0 _ (bB _)];simp[eQ]
 .have:=bL T;rw[J,if_neg (by omega),E];simp[eQ]
open Classical in
def gen_back {E H3:aC} {J Z:Nat->a6} {T m3:aI} {W f3} {L0 L3} (h:Lay us cs H G pm tm m) (d3:∀q x,H[q]?=some x->¬eQ (G q)->E[q]?=some x/\J q=.bP) (d5:∀q x,H[q]?=some x->G q=.mP->E[q]?=some x/\J q=.mP) (q3:PB us cs E J pm tm pf tf T W L0 a b H3 Z m3 f3 L3)
  {k p t:Nat} {T:aF cQ} {g} (hm:m3.cJ=.ref p t 13 T.length) (J:H3[p]?=some ⟨false,t,13,T.map cQ.enc⟩) (gp:Z p=.cJ) (E:T[k]?=some g) (hL:∀j x,T[j]?=some x->GP H3 Z m3 j x)
  M (st:Int) (hst:0<=st/\st<=3) (hp1:st=0\/st=1->ew f3 L3+4000*m3.bH+10<=81000000) v (hv:m3.V v):
  ∃G5,Lay us cs ((H3++M).set p ⟨false,t,13,(T.set k ⟨f3,st,v⟩).map cQ.enc⟩) G5 pm tm m3/\cB mM H G ((H3++M).set p ⟨false,t,13,(T.set k ⟨f3,st,v⟩).map cQ.enc⟩) G5:=by
 have E:=bL J;have nn:∀q,Z q≠.bP->¬(q<H.length/\¬eQ (G q)):=λq J ⟨E,h2⟩=>by
  obtain⟨k1,k2⟩:=d3 q _ (bC E) h2;exact J (q3.loc k1 k2).2
 obtain⟨HH,E⟩:∃HH,((H3++M).set p ⟨false,t,13,(T.set k ⟨f3,st,v⟩).map cQ.enc⟩)=HH:=⟨_,rfl⟩
 have kk:∀q x,H3[q]?=some x->¬Z q=.cJ->HH[q]?=some x:=λq x W J=>by rw[<-E];exact eC (fF W _) (λe=>by subst e;exact J gp) _
 have hp':HH[p]?=some ⟨false,t,13,(T.set k ⟨f3,st,v⟩).map cQ.enc⟩:=by rw[<-E];exact eP (by simp;omega)
 have T:HH.length=H3.length+M.length:=by rw[<-E];simp
 rw[E];obtain⟨G5,T⟩:∃G5:Nat->a6,∀q,G5 q=if q<H.length/\¬eQ (G q) then G q else if Z q=.env then .kR k else if Z q=.fL then .kI k else if eQ (Z q) then Z q else .bP:=⟨_,λ_=>rfl⟩
 have kg:Kp (λo=>eQ o/\o≠.cJ) H3 Z HH G5:=λq x W J=>by
  refine⟨kk q x W J.2,?_⟩;rw[T,if_neg (nn q (λe=>by rw[e] at J;exact J.1)),if_neg (λe=>by rw[e] at J;exact J.1),if_neg (λe=>by rw[e] at J;exact J.1),if_pos J.1]
 refine⟨G5,?_,λq z W J=>?_⟩
 .refine q3.aT.V5 (kg.mono λo J=>⟨J.1,λe=>J.2 (.inl e)⟩) (λq W=>?_) ?_
  .have h2:=q3.aT.out q (by omega);have:¬(q<H.length/\¬eQ (G q)):=λe=>by
    obtain⟨k1,k2⟩:=d3 q _ (bC e.1) e.2;have:=bL (q3.loc k1 k2).1;omega
   rw[T,if_neg this,h2];simp[eQ]
  .obtain⟨E,hE,_⟩:=q3.bI.p.env;have g2:GP HH G5 m3 k ⟨f3,st,v⟩:=by
    refine⟨hst,hv,λE=>⟨L3,q3.bI.p.own (.refl _) (λq x W e=>⟨kk q x W (by rw[e];simp),?_⟩) (λq x W e=>⟨kk q x W (by rw[e];simp),?_⟩),hp1 E⟩,⟨hE.cell,q3.bI.p.fL.cell⟩⟩
    .rw[T,if_neg (nn q (by rw[e];simp)),if_pos e]
    .rw[T,if_neg (nn q (by rw[e];simp)),if_neg (by rw[e];simp),if_pos e]
   refine W8 hm hp' ?_ g2 λj x E hj=>?_
   .rw[T,if_neg (nn p (by rw[gp];simp)),gp];simp[eQ]
   .have e1:eQ (.kR j)/\a6.kR j≠.cJ:=⟨trivial,by simp⟩
    have e2:eQ (.kI j)/\a6.kI j≠.cJ:=⟨trivial,by simp⟩
    exact(hL j x E).kp kg e1 e2 (.refl _)
 .rcases WM J with J|J
  .obtain⟨k1,k2⟩:=d3 q z W J;obtain⟨k3,E⟩:=q3.loc k1 k2;refine⟨kk q z k3 (by rw[E];simp),?_⟩;rw[T,if_pos ⟨bL W,J⟩]
  .obtain⟨k1,k2⟩:=d5 q z W J;obtain⟨k3,E⟩:=q3.fV q z k1 (by rw[k2];simp[j1]);have W:Z q=.mP:=E.trans k2;refine⟨kk q z k3 (by rw[W];simp),?_⟩;rw[T,if_neg (nn q (by rw[W];simp)),W,J];simp[eQ]
def resume_con {n k:Nat} {v:aO} {c0} (hR:iR us cs n) (h:Lay us cs H G pm tm m) (h0:m.ab=0) (hv:m.V v) (Z:k<m.cJ.ln) (W:∀p t J g,m.cJ=.ref p t 13 (List.length J)->H[p]?=some ⟨false,t,13,J.map cQ.enc⟩->J[k]?=some g->g.state=0\/g.state=1) (E:m.mp+81500000<=1650000000000) (E:m.bH<n):
  cA aE 251 [.ptr pm tm 19 0 0,.I k,.agg v.enc] H c0 (ResQ us cs H G pm tm m):=by
 obtain⟨p,t,J,g,w1,E,E,w4,T,w6,w7⟩:=h.gen Z;have Z:=w7 k g T;obtain⟨L,hF,hpot⟩:=Z.f (W p t J g w1 E T);refine cO F251 ?_;unfold F251;have gm:=λM K=>bT h.hm M K;have gP:=λM K=>bT E M K;have W:(k:Int)<(J.length:Int):=by omega
 have hfc:=aW.cells Z.cl.1 Z.cl.2;have Z:=bL E;obtain⟨G4,d1,d2,d3,Z,d5⟩:=gen_own h w1 E w4 T w7 hF ⟨false,c0,5,[v.enc]⟩ (c0+1);have E:=h.b.af (by omega);have E:0<=ew g.f L:=by unfold ew;omega
 obtain⟨Z,E⟩:∃Z,((H++[⟨false,c0,5,[v.enc]⟩,g.f.ob (c0+1)]).set p ⟨false,t,13,(J.set k {g with state:=2}).map cQ.enc⟩)=Z:=⟨_,rfl⟩
 rw[E] at d1 d2 d3 d5;have J:Z[H.length]?=some ⟨false,c0,5,[v.enc]⟩:=by rw[<-E,uR (by omega)];simp
 have gF:=λK=>aL d2.hf K;have gM:=λK=>aL d1.hm K;have gV:=λK=>aL J K;simp only[aW.ob,lT] at E;show cC _ (IR.seq _ _) _ _ _ _;rw[dT,dT,dT];refine gK (λJ H' c'=>∃G' m' f',PE us cs Z G4 pm tm (H.length+1) (c0+1) m g.f L 1 2 H' G' m' f'/\m'.ab=0/\J 0=.ptr pm tm 19 0 0/\J 1=.I k/\J 6=.ptr (H.length+1) (c0+1) 7 0 0) ?_ ?_;rotate_left
 .intro K hK;have T:∀(J:Env) c',J 0=.ptr pm tm 19 0 0->J 1=.I k->J 6=.ptr (H.length+1) (c0+1) 7 0 0->K J Z c':=λJ c' h1 h2 h3=>hK _ _ _ ⟨G4,m,g.f,(PE.refl d1 d2).le (by omega) (by omega),h0,h1,h2,h3⟩;by_cases hw:g.f.wait=[]
  .simp[gm,aI.bD,aI.g6,w1,W,gP,aL w6,cQ.t7,cM,DF,cQ.p7,E,gF,aW.ob,aW.g6,hw];refine T _ _ ?_ ?_ ?_<;>simp[aK]
  .by_cases h12:m.depth<12
   .simp[gm,aI.bD,aI.g6,aI.g11,w1,W,gP,aL w6,cQ.t7,cM,DF,cQ.p7,E,gF,gM,gV,aW.ob,aW.g6,hw,h12];refine C9 d1 d2 hv (by omega) (by omega) λH5 G5 a5 b5 f5 c5 q5=>?_;simp;refine hK _ _ _ ⟨G5,_,f5,q5,h0,?_,?_,?_⟩<;>simp[aK]
   .simp[gm,aI.bD,aI.g6,aI.g11,w1,W,gP,aL w6,cQ.t7,cM,DF,cQ.p7,E,gF,gM,aW.ob,aW.g6,hw,h12];refine T _ _ ?_ ?_ ?_<;>simp[aK]
 intro J H1 E ⟨G1,m1,f1,E,hab1,e0,e1,e6⟩;have gF1:=λK=>aL E.bI.hf K;have J:=bL E.bI.hf;have W:=E.bI.gf;have q2:PE us cs Z G4 pm tm (H.length+1) (c0+1) m g.f L 1 2 (H1.set (H.length+1) (aW.ob {f1 with wait:=[]} (c0+1))) G1 m1 {f1 with wait:=[]}:=
  ⟨E.aT.set _ (by rw[W];simp[eQ]),⟨eP J,W,by
   have Z:=E.bI.p;have kk:Kp (λo=>¬o=.frame) H1 G1 (H1.set (H.length+1) (aW.ob {f1 with wait:=[]} (c0+1))) G1:=cB.set (S:=λo=>o=.frame) _ W;have J:=Z.kp (.refl _) kk (by simp) (by simp);exact⟨J.env,J.fL,J.ks,J.nC,J.this⟩⟩,E.fV.trans (cB.set (S:=j1) _ (by rw[W];simp[j1])),E.mono,E.em,E.top,E.fp,E.mp⟩
 have J:m1.bH<n:=by have:=E.mono.f;omega
 have W:=E.mp;have E:ew {f1 with wait:=[]} L=f1.env.ln+cw L:=rfl;have E:ew g.f L=g.f.env.ln+cw L:=rfl;simp[e0,e6,gF1,aW.ob,aW.p6];refine ON hR q2.aT q2.bI hab1 (by omega) J λdP w H3 E m3 f3 L3 c3 hw J hy6=>?_;have q4:=q2.pb.trans J;obtain⟨Z,t5,E,W,x1,W,x3,x4,x5,x6,x7⟩:=J.aT.gen (k:=k) (by have:=q4.mono.g;omega);have gm3:=λM K=>bT J.aT.hm M K;have W:(k:Int)<(E.length:Int):=by omega
 have gP5:=λM K=>bT x3 M K;have gF3:=λM K=>bT J.bI.hf M K;obtain⟨E3,hE3,_⟩:=J.bI.p.env;have hfc3:=aW.cells hE3.cell J.bI.p.fL.cell;have hne:Z≠pm:=λe=>by subst e;have:=J.aT.gm;rw[x4] at this;cases this
 have gmS:=λX M K=>aL (eC (fF J.aT.hm M) hne X) K;have J:=bL x3;have J:∀(X:aH) (M:aC) (K:aH->Prop),aZ ((H3++M).set Z X) Z K=K X:=λX M K=>OF (by simp;omega) K;have J:∀(r:aF AV) (K:aF AV->Prop),aZ ((E.map cQ.enc).set k r) k K=K r:=λr K=>OF (by simp;omega) K;have gBS:∀(X:aH) (K:aH->Prop),aZ ((H3++[(⟨false,c3,5,[w.enc]⟩:aH)]).set Z X) H3.length K=K ⟨false,c3,5,[w.enc]⟩:=λX K=>aL (eC (by simp) (by omega) X) K;have J:Z<H3.length+1:=by omega
 have T:∀(st:Int) (u:aO) H' c',0<=st/\st<=3->(st=0\/st=1->dP=6)->m3.V u->(H3++[(⟨false,c3,5,[w.enc]⟩:aH)]).set Z ⟨false,t5,13,(E.map cQ.enc).set k (cQ.enc ⟨f3,st,u⟩)⟩=H'->ResQ us cs H G pm tm m (.aX []) H' c':=λst u H' c' h1 h2 h3 h4=>by
  obtain⟨G5,r1,Z⟩:=gen_back h d3 d5 q4 x1 x3 x4 x5 x7 [(⟨false,c3,5,[w.enc]⟩:aH)] st h1 (λe=>hy6 (h2 e)) u h3;rw[lT] at r1 Z;subst h4;refine⟨G5,m3,rfl,r1,Z,q4.mono,?_,q4.mp.2⟩;have Z:=q4.mp.1;have Z:0<=ew f3 L3:=by unfold ew;omega
  omega
 have Z:k<E.length:=by omega
 by_cases E:dP=6
 .simp[e0,e1,e6,gm3,gmS,aI.bD,aI.g6,x1,W,gP5,aL x6,gF3,aW.ob,aW.all,cQ.p0,J,cQ.p7,cQ.p8,z5,bW,E,gBS,Z];exact dD (T 1 w _ _ (by omega) (λ_=>E) hw rfl)
 .simp[e0,e1,e6,gm3,gmS,aI.bD,aI.g6,x1,W,gP5,aL x6,gF3,aW.ob,aW.all,cQ.p0,J,cQ.p7,cQ.p8,z5,bW,E,Z];exact dD (T 3 (sV 0 0 []) _ _ (by omega) (λe=>by omega) .nil rfl)
def TM {n k:Nat} {v:aO} {c} {K:aD} (hR:iR us cs n) (h:Lay us cs H G pm tm m) (h0:m.ab=0) (T:m.V v) (hk:k<m.cJ.ln) (E:∀p t J g,m.cJ=.ref p t 13 (List.length J)->H[p]?=some ⟨false,t,13,J.map cQ.enc⟩->J[k]?=some g->g.state=0\/g.state=1) (W:m.mp+81500000<=1650000000000) (Z:m.bH<n)
  (kk:∀H' G' m' J,PA us cs H G pm tm m 81100000 H' G' m'->K (.aX []) H' J):bO aE 251 [.ptr pm tm 19 0 0,.I k,.agg v.enc] H c K:=
 gL (resume_con hR h h0 T hk E W Z) λr H' J ⟨G',m',T,E⟩=>by subst T;exact kk H' G' m' J E
def W9 {p t Z W k:Nat} {J E:aF cQ} {g g':cQ} (w1:m.cJ=.ref p t 13 J.length) (w3:H[p]?=some ⟨false,t,13,J.map cQ.enc⟩) (w5:J[k]?=some g) (T:m.cJ=.ref Z W 13 E.length) (J:H[Z]?=some ⟨false,W,13,E.map cQ.enc⟩) (W:E[k]?=some g'):g'.state=g.state:=by rw[w1] at T;simp at T;obtain⟨rfl,rfl,_⟩:=T;rw[w3] at J;simp at J;have E:=congrArg (λl:aF (aF AV)=>l[k]?) J;simp[w5,W,cQ.enc,aW.aM] at E;exact E.2.2.2.2.2.2.2.1.symm
def send_con {n} {g v:aO} {c0} (hR:iR us cs n) (hP:fC us cs) (h:Lay us cs H G pm tm m) (h0:m.ab=0) (hg:m.V g) (hv:m.V v) (E:m.mp+81500000<=1650000000000) (hn:m.bH<n):
  cA aE 241 [.ptr pm tm 19 0 0,.agg g.enc,.agg v.enc] H c0 (CG us cs H G pm tm m 81200000):=by
 refine cO F241 ?_;unfold F241;have gm:=λM K=>bT h.hm M K;have oo:∀i,G (H.length+i)=.bP:=λi=>h.out _ (by omega);have E:∀(w:aO) (b:Int) H' G' m' J,b<=81200000->PA us cs H G pm tm m b H' G' m'->G' (H.length+2)=.bP->aI.V m' w->CG us cs H G pm tm m 81200000 (.agg w.enc) (H'.set (H.length+2) ⟨false,c0+1+1,5,[w.enc]⟩) J:=λw b H' G' m' J W q T J=>
  ⟨w,G',m',rfl,J,(q.le W).eZ (by omega) T _⟩
 have lz:∀{b:Int} {H1 G1 m1},PA us cs (H++[⟨false,c0,5,[g.enc]⟩,⟨false,c0+1,5,[v.enc]⟩,⟨false,c0+1+1,5,[[.I 0,.I 0,.str [],.I 0,.aU]]⟩]) G pm tm m b H1 G1 m1->(∀K,aZ H1 (H.length+2) K=K ⟨false,c0+1+1,5,[[.I 0,.I 0,.str [],.I 0,.aU]]⟩)/\H.length+2<H1.length/\G1 (H.length+2)=.bP:=λq=>by
  obtain⟨J,T⟩:=q.loc (q:=H.length+2) (x:=⟨false,c0+1+1,5,[[.I 0,.I 0,.str [],.I 0,.aU]]⟩) (by simp) (oo 2);exact⟨λK=>aL J K,bL J,T⟩
 have T:=h.app [⟨false,c0,5,[g.enc]⟩,⟨false,c0+1,5,[v.enc]⟩,⟨false,c0+1+1,5,[[.I 0,.I 0,.str [],.I 0,.aU]]⟩];by_cases k8:g.aJ=8;rotate_left
 .simp[bW,k8];refine jT T hP h0 (by simp) λH1 G1 m1 c1 q=>?_;obtain⟨t1,t2,Z⟩:=lz q;simp[t1,t2];exact dD (E (sV 0 0 []) 0 _ _ _ _ (by omega) q.gU Z .nil)
 obtain⟨W,J⟩:=hg.ok.o8 k8;obtain⟨k,J⟩:=iY W;obtain⟨p,t,Lg,gr,w1,W,w3,W,w5,w6,w7⟩:=h.gen (k:=k) (by omega);have gP:=λM K=>bT w3 M K;have W:(k:Int)<(Lg.length:Int):=by omega
 have hG:=w7 k gr w5;have hs:=hG.s;by_cases s0:gr.state=0
 .simp[bW,k8,J,gm,aI.bD,aI.g6,w1,W,gP,aL w6,cQ.g7,s0];refine jT T hP h0 (by simp) λH1 G1 m1 c1 q=>?_;obtain⟨t1,t2,Z⟩:=lz q;simp[t1,t2];exact dD (E (sV 0 0 []) 0 _ _ _ _ (by omega) q.gU Z .nil)
 by_cases s2:gr.state=2
 .simp[bW,k8,J,gm,aI.bD,aI.g6,w1,W,gP,aL w6,cQ.g7,s2];refine jT T hP h0 (by simp) λH1 G1 m1 c1 q=>?_;obtain⟨t1,t2,Z⟩:=lz q;simp[t1,t2];exact dD (E (sV 0 0 []) 0 _ _ _ _ (by omega) q.gU Z .nil)
 by_cases s1:gr.state=1
 .simp[cM,bW,k8,J,gm,aI.bD,aI.g6,w1,W,gP,aL w6,cQ.g7,s1];refine TM hR T h0 hv (by omega) (λT T T T y1 y2 T=>?_) (by omega) hn λH1 G1 m1 c1 q=>?_
  .have e1:=W9 w1 (fF w3 _) w5 y1 y2 T;omega
  obtain⟨t1,t2,Z⟩:=lz q;have gm1:=λK=>aL q.aT.hm K;by_cases ha:m1.ab=0
  .obtain⟨T,T,Lg5,g5,x1,T,T,x4,x5,x6,x7⟩:=q.aT.gen (k:=k) (by have:=q.mono.g;omega);have gP5:=λK=>aL T K;have T:(k:Int)<(Lg5.length:Int):=by omega
   have l0:=(q.loc (q:=H.length) (x:=⟨false,c0,5,[g.enc]⟩) (by simp) (oo 0)).1;have gA:=λK=>aL l0 K;simp[gm1,aI.bD,aI.g12,aI.g6,ha,x1,T,gP5,aL x6,gA,cQ.d8,J,t1,t2];exact dD (E _ _ _ _ _ _ (by omega) q.gU Z (x7 k g5 x5).v)
  .simp[gm1,aI.bD,aI.g12,ha,t1,t2];rw[z5];exact dD (E (sV 0 0 []) _ _ _ _ _ (by omega) q.gU Z .nil)
 .have T:m.ab=0:=h0;simp[cM,bW,k8,J,gm,aI.bD,aI.g6,aI.g12,w1,W,gP,aL w6,cQ.g7,s0,s1,s2,cQ.d8,h0];have:=E gr.cur 0 _ G m (c0+1+1+1) (by omega) (((PA.refl h).app [⟨false,c0,5,[g.enc]⟩,⟨false,c0+1,5,[v.enc]⟩,⟨false,c0+1+1,5,[[.I 0,.I 0,.str [],.I 0,.aU]]⟩])) (oo 2) hG.v;simp at this;exact dD this
def send_k {n} {g v:aO} {c} {K:aD} (hR:iR us cs n) (hP:fC us cs) (h:Lay us cs H G pm tm m) (h0:m.ab=0) (Z:m.V g) (J:m.V v) (T:m.mp+81500000<=1650000000000) (W:m.bH<n)
  (k:∀w H' G' m' E,aI.V m' w->PA us cs H G pm tm m 81200000 H' G' m'->K (.agg (aO.enc w)) H' E):bO aE 241 [.ptr pm tm 19 0 0,.agg g.enc,.agg v.enc] H c K:=
 gL (send_con hR hP h h0 Z J T W) λr H' E ⟨w,G',m',W,T,J⟩=>by subst W;exact k w H' G' m' E T J
end
set_option maxRecDepth 100000
def xU (n:Nat) (H:aC) (G:Nat->a6) (w:Nat) (a:AV) (aN:aF (aF AV)):Prop:=
 (a=.aU/\aN=[])\/∃p t,n<=p/\a=.ref p t w aN.length/\H[p]?=some ⟨false,t,w,aN⟩/\G p=.bP
def xU.gE {n w} {H H':aC} {G G':Nat->a6} {a} {aN} (h:xU n H G w a aN) (k:∀q x,H[q]?=some x->G q=.bP->n<=q->H'[q]?=some x/\G' q=.bP):xU n H' G' w a aN:=by
 rcases h with h|⟨p,t,E,h1,Z,W⟩
 .exact .inl h
 .obtain⟨T,J⟩:=k p _ Z W E;exact .inr ⟨p,t,E,h1,T,J⟩
def xU.cell {n w} {H} {G:Nat->a6} {a:AV} {aN} (h:xU n H G w a aN):a.cell=true:=by rcases h with⟨rfl,rfl⟩|⟨p,t,_,rfl,_⟩<;>rfl
def P8 {n} {H:aC} {G:Nat->a6} {a} {w b j t c:Nat} {aN:aF (aF AV)} {aM} {K:aD} (hs:xU n H G w a aN) (J:n<=H.length) (out:∀p,H.length<=p->G p=.bP)
  (W:H[j]?=some ⟨false,t,w,[aM]⟩) (Z:(aN.length+1)*b<=140737488355328) (E:aN.length+1<=mx)
  (k:∀p H',n<=p->G p=.bP->(H'=H++[⟨false,c,w,aN++[aM]⟩]/\p=H.length\/H'=H.set p ⟨false,c,w,aN++[aM]⟩/\p<H.length/\∃t,H[p]?=some ⟨false,t,w,aN⟩)->K (.ref p c w (aN.length+1)) H' (c+1)):
  uG w b a (.ref j t w 1) H c K:=by
 rcases hs with⟨rfl,rfl⟩|⟨p,T,h0,rfl,T,hg⟩
 .simp only[aaJ,wJ,aL W];refine⟨trivial,trivial,trivial,trivial,by simp,λh=>by simp at h,λ_=>⟨by simpa using Z,by simpa using E,?_⟩⟩;exact k H.length _ J (out _ (bB _)) (.inl ⟨by simp,rfl⟩)
 .have J:=(bQ.1 T).1;simp only[vS,wJ,aL W,aL T,pV];refine⟨trivial,trivial,trivial,trivial,by simp,trivial,trivial,trivial,trivial,bB _,by simpa using Z,by simpa using E,?_⟩;rw[fJ (bB _),fJ (by simp)];exact k p _ h0 hg (.inr ⟨rfl,J,_,T⟩)
section
variable {us:SL bU} {cs:SL bG} {H H' H'':aC} {G G' G'':Nat->a6} {pm tm pf tf:Nat} {m m' m'':aI} {f f' f'':aW} {L L' L'':aF aY} {a b a' b':Int}
def iT (x:aQ) (f:aW) (a:AV):aF AV:=[x.aP.av 4 aQ.enc,a,.I f.this,.str f.self,.str f.static]
structure pJ (us:SL bU) (cs:SL bG) (H:aC) (G:Nat->a6) (pm tm pf tf:Nat) (m:aI) (f:aW) (L:List aY) (x:aQ) (c0 t7 i:Nat) (Hc:aC) (G1:Nat->a6) (m1:aI) (f1:aW) (a:AV) (cl:List Int):Prop where
 q:PE us cs H G pm tm pf tf m f L i (2*i) Hc G1 m1 f1
 b9:m1.b9=m.b9
 l:Loc Hc G1 [(H.length,no c0 x),(H.length+1,zo (c0+1)),(H.length+2,⟨false,t7,5,[iT x f a]⟩)]
 s:xU (H.length+3) Hc G1 1 a (cl.map kS)
 c:∀n,n∈cl->0<=n/\n<m1.cells.ln
 k:cl.length=dZ (x.aP.aG.take i)
variable {x:aQ} {c0 t7 i:Nat} {Hc:aC} {G1:Nat->a6} {m1:aI} {f1:aW} {ca:AV} {cl:aF Int}
def pJ.app (S:pJ us cs H G pm tm pf tf m f L x c0 t7 i Hc G1 m1 f1 ca cl) M:pJ us cs H G pm tm pf tf m f L x c0 t7 i (Hc++M) G1 m1 f1 ca cl:=
 ⟨S.q.app M,S.b9,S.l.app M,S.s.gE λq z E J _=>⟨fF E _,J⟩,S.c,S.k⟩
def pJ.next (S:pJ us cs H G pm tm pf tf m f L x c0 t7 i Hc G1 m1 f1 ca cl) (E:dZ (x.aP.aG.take (i+1))=dZ (x.aP.aG.take i)):pJ us cs H G pm tm pf tf m f L x c0 t7 (i+1) Hc G1 m1 f1 ca cl:=
 ⟨S.q.le (by omega) (by omega),S.b9,S.l,S.s,S.c,by rw[E];exact S.k⟩
def pJ.len (S:pJ us cs H G pm tm pf tf m f L x c0 t7 i Hc G1 m1 f1 ca cl):H.length+3<=Hc.length:=by have:=bL (S.l.at_ (p:=H.length+2) (ob:=⟨false,t7,5,[iT x f ca]⟩) (by simp));omega
def pJ.step (S:pJ us cs H G pm tm pf tf m f L x c0 t7 i Hc G1 m1 f1 ca cl) {J:aC} {W:Nat->a6} {T:aI} {f2:aW} (Z:PE us cs Hc G1 pm tm pf tf m1 f1 L 1 2 J W T f2) (e:T.b9=m1.b9) {n:Nat} (E:n<T.cells.ln) (hu:dZ (x.aP.aG.take (i+1))=dZ (x.aP.aG.take i)+1)
  {B:aH} {p c:Nat} {E:aC} (hp:H.length+3<=p) (ho:W p=.bP) (hor:E=(J++[B])++[⟨false,c,1,cl.map kS++[kS n]⟩]/\p=(J++[B]).length\/E=(J++[B]).set p ⟨false,c,1,cl.map kS++[kS n]⟩/\p<(J++[B]).length/\∃t,(J++[B])[p]?=some ⟨false,t,1,cl.map kS⟩):
  pJ us cs H G pm tm pf tf m f L x c0 t7 (i+1) (E.set (H.length+2) ⟨false,t7,5,[iT x f (.ref p c 1 (cl.length+1))]⟩) W T f2 (.ref p c 1 (cl.length+1)) (cl++[(n:Int)]):=by
 have J:=(Z.dO S.l).app [B];have q3:=((S.q.trans Z).le (a':=((i+1:Nat):Int)) (b':=2*((i+1:Nat):Int)) (by omega) (by omega)).app [B];have o2:=J.ot (p:=H.length+2) (ob:=⟨false,t7,5,[iT x f ca]⟩) (by simp);have h4:PE us cs H G pm tm pf tf m f L ((i+1:Nat):Int) (2*((i+1:Nat):Int)) E W T f2/\Loc E W [(H.length,no c0 x),(H.length+1,zo (c0+1)),(H.length+2,⟨false,t7,5,[iT x f ca]⟩)]/\E[p]?=some ⟨false,c,1,cl.map kS++[kS n]⟩:=by
  rcases hor with⟨rfl,T⟩|⟨rfl,T,_⟩
  .exact⟨q3.app _,J.app _,by subst T;simp⟩
  .exact⟨q3.eZ (by omega) ho _,J.set (λz E=>by simp at E;rcases E with rfl|rfl|rfl<;>simp<;>omega) _,eP T⟩
 obtain⟨W,J,p5⟩:=h4;have T:=bL (J.at_ (p:=H.length+2) (ob:=⟨false,t7,5,[iT x f ca]⟩) (by simp));refine⟨W.eZ (by omega) o2 _,e.trans S.b9,?_,.inr ⟨p,c,hp,by simp,?_,ho⟩,λz E=>?_,by rw[hu];simp;exact S.k⟩
 .intro z E;simp at E;rcases E with rfl|rfl|rfl
  .exact⟨eC (J.at_ (p:=H.length) (ob:=no c0 x) (by simp)) (by omega) _,J.ot (p:=H.length) (ob:=no c0 x) (by simp)⟩
  .exact⟨eC (J.at_ (p:=H.length+1) (ob:=zo (c0+1)) (by simp)) (by omega) _,J.ot (p:=H.length+1) (ob:=zo (c0+1)) (by simp)⟩
  .exact⟨eP T,o2⟩
 .rw[eC p5 (by omega)];simp
 .have:=Z.mono.k;rcases dI.1 E with h|h
  .have:=S.c z h;omega
  .simp at h;subst h;omega
def I8 {X:aC} {n c p r:Nat} {T:aC} {ob:aH} (J:T=X++[⟨false,c,1,cl.map kS++[kS n]⟩]/\p=X.length\/T=X.set p ⟨false,c,1,cl.map kS++[kS n]⟩/\p<X.length/\∃t,X[p]?=some ⟨false,t,1,cl.map kS⟩) (E:X[r]?=some ob) (W:ob.w≠1):T[r]?=some ob:=by
 rcases J with⟨rfl,_⟩|⟨rfl,_,t,J⟩
 .exact fF E _
 .exact eC E (λe=>by subst e;rw[J] at E;cases E;exact W rfl) _
def pJ.own (S:pJ us cs H G pm tm pf tf m f L x c0 t7 i Hc G1 m1 f1 ca cl):∃(y:qS) (J:Nat->a6),y.av=ca/\y.aG=cl/\qT Hc J ⟨x.aP,y,f.this,f.self,f.static⟩/\PE us cs H G pm tm pf tf m f L i (2*i) Hc J m1 f1/\Loc Hc J [(H.length,no c0 x),(H.length+1,zo (c0+1)),(H.length+2,⟨false,t7,5,[iT x f ca]⟩)]:=by
 rcases S.s with⟨h1,Z⟩|⟨p,t,E,h1,Z,h3⟩
 .simp at Z;exact⟨.sl .nil,G1,by rw[h1];rfl,by rw[Z];rfl,(λp t l e=>by cases e),S.q,S.l⟩
 .have E:=bL Z;obtain⟨J,E⟩:∃J:Nat->a6,∀q,J q=if q=p then .mP else G1 q:=⟨_,λ_=>rfl⟩
  have kk:Kp (λo=>¬o=.bP) Hc G1 Hc J:=λq z T W=>⟨T,by rw[E,if_neg (λe=>by subst e;exact W h3)]⟩
  refine⟨.rf p t cl,J,by rw[h1];simp[qS.av],rfl,λJ J J e=>?_,⟨S.q.aT.kp (kk.mono λo W e=>by subst e;exact W) λq T=>?_,S.q.bI.kp (.refl _) kk (by simp) (by simp) (by simp),λq z T W=>?_,S.q.mono,S.q.em,S.q.top,S.q.fp,S.q.mp⟩,λz J=>⟨(S.l z J).1,?_⟩⟩
  .cases e;exact⟨Z,by rw[E,if_pos rfl]⟩
  .rw[E,if_neg (by omega)];exact S.q.aT.out q T
  .have:=bL T;obtain⟨k1,Z⟩:=S.q.fV q z T W;exact⟨k1,by rw[E,if_neg (by omega)];exact Z⟩
  .rw[E,if_neg ?_]
   .exact(S.l z J).2
   .simp at J;rcases J with rfl|rfl|rfl<;>simp<;>omega
def Lay.addclo (h:Lay us cs H G pm tm m) {C:aF dG} {y:dG} {p t} (hC:∀x,x∈C->jX m true x/\qT H G x) (hy:jX m true y) (hyc:qT H G y) (hCl:C.length=m.b9.ln) (hs:Slot H' G' .b9 5 (.ref p t 5 (C.length+1)) (C.map dG.enc++[y.enc])) (hc:cB (λx=>x=.b9) H G H' G') (out:∀p,H'.length<=p->G' p=.bP) (hn:C.length<40):
  PA us cs H G pm tm m 0 (H'.set pm (aI.ob {m with b9:=.ref p t 5 (C.length+1)} tm)) G' {m with b9:=.ref p t 5 (C.length+1)}:=by
 obtain⟨hm',gm'⟩:=hc pm _ h.hm (by rw[h.gm];simp);have hl':=bL hm';have hb:=h.b;have hmono:eV m {m with b9:=.ref p t 5 (C.length+1)}:=⟨bB _,by simp only[sK];omega,bB _,bB _,lU _,rfl⟩
 have hset:Kp (λo=>¬o=.jU) H' G' (H'.set pm (aI.ob {m with b9:=.ref p t 5 (C.length+1)} tm)) G':=cB.set (S:=λo=>o=.jU) _ (gm'.trans h.gm);have kk:Kp (λo=>¬o=.b9/\¬o=.jU) H G (H'.set pm (aI.ob {m with b9:=.ref p t 5 (C.length+1)} tm)) G':=(Kp.mono hc λo h=>h.1).trans (hset.mono λo h=>h.2);have hs':=hs.kp hset (by simp);have e:C.map dG.enc++[y.enc]=(C++[y]).map dG.enc:=by simp
 rw[e] at hs';refine⟨⟨eP hl',gm'.trans h.gm,wP out _ _,h.us,h.cs,⟨hb.o,by simp only[sK];omega,hb.g,hb.mp,hb.bH,hb.ab,hb.af,hb.depth,hb.jI.mono hmono,hb.a1,hb.out⟩,h.cells.kp kk (by simp) rfl hmono,h.dR.kp kk (by simp) rfl hmono,h.bS.kp kk (by rintro o (rfl|⟨k,rfl⟩)<;>simp) rfl hmono,⟨C++[y],hs',λx hx=>?_⟩,h.cJ.kp kk (by rintro o (rfl|⟨k,rfl|rfl⟩)<;>simp) rfl hmono⟩,kk.mono λo ho=>⟨λe=>by subst e;exact ho trivial,λe=>by subst e;exact ho trivial⟩,hmono,⟨by simp only[aI.mp];omega,rfl⟩⟩;rcases dI.1 hx with h1|h1
 .exact⟨(hC x h1).1.mono hmono,(hC x h1).2.kp kk (by simp)⟩
 .simp at h1;subst h1;exact⟨hy.mono hmono,hyc.kp kk (by simp)⟩
end
section
variable {us:SL bU} {cs:SL bG} {H H' H'':aC} {G G' G'':Nat->a6} {pm tm pf tf:Nat} {m m' m'':aI} {f f' f'':aW} {L L' L'':aF aY} {a b a' b':Int}
def clR0 (x:aQ) (f:aW):aR (aR (aR (aR [.aU,.aU,.I 0,.str [],.str []] 0 [x.aP.av 4 aQ.enc]) 2 [.I f.this]) 3 [.str f.self]) 4 [.str f.static]=iT x f .aU:=by simp[aR,iT]
def ZP x f a c:aR (iT x f a) 1 [c]=iT x f c:=by simp[aR,iT]
def EW x f a (K:AV->Prop):aZ (iT x f a) 1 K=K a:=by simp[iT]
def clRt x f a:(iT x f a).take 5=iT x f a:=rfl
def ZQ x f a:(iT x f a).length=5:=rfl
def clRc x f {a:AV} (ha:a.cell=true):∀c,c∈iT x f a->c.cell=true:=λc E=>by
 simp[iT] at E;rcases E with rfl|rfl|rfl|rfl|rfl
 .exact nI _ _ _
 .exact ha
 .rfl
 .rfl
 .rfl
def closure_con {x:aQ} {c0} (Z:fC us cs) (h:Lay us cs H G pm tm m) (hf:cY H G pf tf m f L) (h0:m.ab=0) (hx:NE x) (J:x.aJ=23) (E:Rm m f L):
  cA aE 246 [.ptr pm tm 19 0 0,.ptr pf tf 7 0 0,.agg x.enc] H c0 (lO us cs H G pm tm pf tf m f L 700 1400):=by
 refine cO F246 ?_;unfold F246;have oo:∀i,G (H.length+i)=.bP:=λi=>h.out _ (by omega);have gm:=λM K=>bT h.hm M K;have gf:=λM K=>bT hf.hf M K;have hu:=hx.v.sh.dZ J;have hkl:=hx.len;have J:=E.e;have J:=E.m;obtain⟨C,T,E⟩:=h.b9;have E:=T.ln;have J:=λK=>T.BE K;simp at E J;have W:Loc (H++[no c0 x,zo (c0+1)]) G [(H.length,no c0 x),(H.length+1,zo (c0+1))]:=(Loc.nil.cons (by simp) (oo 1)).cons (by simp) (oo 0);show cC aE (IR.seq _ (IR.seq _ (IR.seq _ _))) _ _ _ _;rw[dT];refine gK (λe H' c'=>m.b9.ln<40/\H'=H++[no c0 x,zo (c0+1)]/\e 0=.ptr pm tm 19 0 0/\e 1=.ptr pf tf 7 0 0/\e 5=.ptr H.length c0 4 0 0/\e 6=.ptr (H.length+1) (c0+1) 5 0 0) ?_ ?_;rotate_left
 .intro K hK;by_cases h40:40<=C.length
  .have E:(40:Int)<=(C.length:Int):=by omega
   simp[gm,aI.bD,aI.g5,J,E];refine pE (h.app [no c0 x,zo (c0+1)]) Z h0 λH1 G1 Z c1 q=>?_;have T:=q.dO W;have g1:=λK=>aL (T.at_ (p:=H.length+1) (ob:=zo (c0+1)) (by simp)) K;have W:=bL (T.at_ (p:=H.length+1) (ob:=zo (c0+1)) (by simp));simp only[zo] at g1;simp[g1,W];refine dD ⟨sV 0 0 [],G1,Z,f,rfl,.nil,?_⟩;exact((((q.gU.pe hf).le (by omega) (by omega))).eZ (by omega) (T.ot (p:=H.length+1) (ob:=zo (c0+1)) (by simp)) _)
  .have E:¬(40:Int)<=(C.length:Int):=by omega
   simp[gm,aI.bD,aI.g5,J,E];refine hK _ _ _ ⟨by omega,rfl,?_,?_,?_,?_⟩<;>simp[aK]
 intro e Hx c1 ⟨h40,T,e0,e1,e5,e6⟩;subst T;refine gK (λJ H' c'=>∃E,H'=H++[no c0 x,zo (c0+1),⟨false,E,5,[iT x f .aU]⟩]/\J 0=.ptr pm tm 19 0 0/\J 1=.ptr pf tf 7 0 0/\J 5=.ptr H.length c0 4 0 0/\J 6=.ptr (H.length+1) (c0+1) 5 0 0/\J 7=.ptr (H.length+2) E 5 0 0) ?_ ?_;rotate_left
 .intro K hK;have gx:∀M (K:aH->Prop),aZ (H++(no c0 x::M)) H.length K=K (no c0 x):=λM K=>by simp[aZ]
  simp[e1,e5,-jN];refine nK (λJ H' c'=>∃E,H'=H++[no c0 x,zo (c0+1),⟨false,E,5,[[.aU,.aU,.I 0,.str [],.str []]]⟩]/\J 32=.agg (iT x f .aU)/\J 0=.ptr pm tm 19 0 0/\J 1=.ptr pf tf 7 0 0/\J 5=.ptr H.length c0 4 0 0/\J 6=.ptr (H.length+1) (c0+1) 5 0 0/\J 7=.ptr (H.length+2) E 5 0 0) ?_ ?_
  .intro J H1 c2 ⟨E,hH1,f32,f0,W,f5,f6,f7⟩;subst hH1;simp[f32,f7,cM,ZQ,aR];exact hK _ _ _ ⟨E,rfl,f0,W,f5,f6,f7⟩
  .intro K2 hK2;simp[gf,aW.bD,aW.g2,aW.g3,aW.g4,no,clR0]
   repeat' first
    |with_reducible apply And.intro
    |exact hK2 _ _ _ ⟨_,rfl,rfl,e0,e1,e5,e6,rfl⟩
    |(simp[aR];done)
 intro e Hx c2 ⟨E,T,e0,e1,e5,e6,e7⟩;subst T;refine gK (λJ H' c'=>∃G1 Z W T cl,pJ us cs H G pm tm pf tf m f L x c0 E x.aP.aG.length H' G1 Z W T cl/\J 0=.ptr pm tm 19 0 0/\J 6=.ptr (H.length+1) (c0+1) 5 0 0/\J 7=.ptr (H.length+2) E 5 0 0) ?_ ?_;rotate_left
 .intro K hK;simp;refine tP x.aP.aG.length (λi e Hc c=>∃G1 Z W T cl,pJ us cs H G pm tm pf tf m f L x c0 E i Hc G1 Z W T cl/\e 0=.ptr pm tm 19 0 0/\e 1=.ptr pf tf 7 0 0/\e 5=.ptr H.length c0 4 0 0/\e 6=.ptr (H.length+1) (c0+1) 5 0 0/\e 7=.ptr (H.length+2) E 5 0 0/\e 8=.I i)
   ⟨G,m,f,.aU,[],⟨((PE.refl h hf).app _).le (by omega) (by omega),rfl,((Loc.nil.cons (by simp) (oo 2)).cons (by simp) (oo 1)).cons (by simp) (oo 0),.inl ⟨rfl,rfl⟩,by simp,by simp[dZ,bE]⟩,e0,e1,e5,e6,e7,rfl⟩ ?_
  intro i J Hc c J ⟨G1,Z,W,T,cl,S,f0,f1',f5,f6,f7,f8⟩ N hN;have gx:=λM K=>bT (S.l.at_ (p:=H.length) (ob:=no c0 x) (by simp)) M K;have gx0:=λK=>aL (S.l.at_ (p:=H.length) (ob:=no c0 x) (by simp)) K;simp only[no] at gx gx0;by_cases hil:i<x.aP.aG.length;rotate_left
  .have J:i=x.aP.aG.length:=by omega
   have hlt:¬(i:Int)<(x.aP.aG.length:Int):=by omega
   simp[f5,f8,gx0,hlt];subst J;refine hK _ _ _ ⟨G1,Z,W,T,cl,S,?_,?_,?_⟩<;>simp[aK,f0,f6,f7]
  obtain⟨y,hy⟩:∃y,x.aP.aG[i]?=some y:=⟨_,bC hil⟩
  have hlt:(i:Int)<(x.aP.aG.length:Int):=by omega
  have hst:=cD (i:=i) (n:=x.aP.aG.length) (by unfold mx;omega) hil;obtain⟨u1,J⟩:=RZ hy;have S9:=S.app [no c y];have J:=S.q.fp;have J:=S.q.mp;have J:=S.q.em;have J:ew f L=f.env.ln+cw L:=rfl;have J:ew W L=W.env.ln+cw L:=rfl;by_cases k25:y.aJ=25;rotate_left
  .rw[if_neg k25] at u1;simp[f5,f8,gx0,hlt,aL hy,k25,bW,hst];refine hN _ _ _ hil ⟨G1,Z,W,T,cl,S9.next u1,?_,?_,?_,?_,?_,?_⟩<;>simp[aK,f0,f1',f5,f6,f7]
  rw[if_pos k25] at u1;have J:0<=y.bN/\y.bN<=1:=by
   obtain⟨v1,J⟩:=hu.2 i y hy;by_cases hl:i+1<x.aP.aG.length
   .exact(v1 hl).2
   .have:=J (by omega);omega
  have J:cl.length<=600:=by have:=S.k;have:=MC x.aP.aG;omega
  have gR:=λM K=>bT (S.l.at_ (p:=H.length+2) (ob:=⟨false,E,5,[iT x f T]⟩) (by simp)) M K;have J:=S.len;have lY:∀{H2 G2 J f2},PE us cs (Hc++[no c y]) G1 pm tm pf tf Z W L 1 2 H2 G2 J f2->∀B:aH,(H2++[B])[Hc.length]?=some (no c y):=λq2 B=>fF (q2.loc (q:=Hc.length) (x:=no c y) (by simp) (S.q.aT.out _ (bB _))).1 _;by_cases kn:y.bN=1
  .simp[f0,f1',f5,f7,f8,gx0,hlt,aL hy,k25,kn,bW,gR,EW];refine EZ S9.q.aT S9.q.bI (by omega) (by omega) λJ H2 G2 a5 b5 f5' c5 hnn q2=>?_;have l2:=q2.dO S9.l;have gR2:=λK=>aL (l2.at_ (p:=H.length+2) (ob:=⟨false,E,5,[iT x f T]⟩) (by simp)) K;have gR3:=λM K=>bT (l2.at_ (p:=H.length+2) (ob:=⟨false,E,5,[iT x f T]⟩) (by simp)) M K;simp[gR2,gR3,EW];refine P8 (n:=H.length+3) (t:=c5) (aM:=kS J) ((S9.s.gE λq z hq ho _=>q2.loc hq ho).gE λq z hq ho _=>⟨fF hq _,ho⟩) (by have:=bL (l2.at_ (p:=H.length+2) (ob:=⟨false,E,5,[iT x f T]⟩) (by simp));simp;omega) (vB q2.aT.out _) (by simp;rfl) (by simp;omega) (by simp;unfold mx;omega) λp H4 hp ho J=>?_;have lR4:=I8 J (fF (l2.at_ (p:=H.length+2) (ob:=⟨false,E,5,[iT x f T]⟩) (by simp)) _) (by simp);have lY4:=I8 J (lY q2 _) (by simp[no]);have gR4:=λK=>aL lR4 K;have hl4:=bL lR4;have gY4:=λX K=>aL (eC lY4 (show H.length+2≠Hc.length by omega) X) K;simp only[no] at gY4;simp[f7,f8,gR4,ZP,gY4,k25,kn,hst];refine hN _ _ _ hil ⟨G2,_,f5',_,_,S9.step q2 rfl hnn u1 hp ho J,?_,?_,?_,?_,?_,?_⟩<;>simp[aK,f0,f1',f5,f6,f7]
  have kn0:y.bN=0:=by omega
  simp[f0,f1',f5,f7,f8,gx0,hlt,aL hy,k25,kn0,bW,gR,EW];refine OG S9.q.aT S9.q.bI λv c5 hv=>?_;simp[gR,EW];refine II S9.q.aT hv (by omega) λa5 H2 G2 c6 q1 hal _=>?_;have q2:PE us cs (Hc++[no c y]) G1 pm tm pf tf Z W L 1 2 H2 G2 {Z with cells:=a5} W:=(q1.pe S9.q.bI).le (by omega) (by omega);have l2:=q2.dO S9.l;have gR2:=λK=>aL (l2.at_ (p:=H.length+2) (ob:=⟨false,E,5,[iT x f T]⟩) (by simp)) K;have gR3:=λM K=>bT (l2.at_ (p:=H.length+2) (ob:=⟨false,E,5,[iT x f T]⟩) (by simp)) M K;simp[gR2,gR3,EW];refine P8 (n:=H.length+3) (t:=c6) (aM:=kS Z.cells.ln) ((S9.s.gE λq z hq ho _=>q2.loc hq ho).gE λq z hq ho _=>⟨fF hq _,ho⟩) (by have:=bL (l2.at_ (p:=H.length+2) (ob:=⟨false,E,5,[iT x f T]⟩) (by simp));simp;omega) (vB q2.aT.out _) (by simp;rfl) (by simp;omega) (by simp;unfold mx;omega) λp H4 hp ho J=>?_;have lR4:=I8 J (fF (l2.at_ (p:=H.length+2) (ob:=⟨false,E,5,[iT x f T]⟩) (by simp)) _) (by simp);have lY4:=I8 J (lY q2 _) (by simp[no]);have gR4:=λK=>aL lR4 K;have hl4:=bL lR4;have gY4:=λX K=>aL (eC lY4 (show H.length+2≠Hc.length by omega) X) K;simp only[no] at gY4;simp[f7,f8,gR4,ZP,hst];refine hN _ _ _ hil ⟨G2,_,W,_,_,S9.step q2 rfl (by rw[hal];omega) u1 hp ho J,?_,?_,?_,?_,?_,?_⟩<;>simp[aK,f0,f1',f5,f6,f7]
 intro e Hx c3 ⟨G1,Z,W,T,cl,S,e0,e6,e7⟩;obtain⟨y,G2,y1,y2,y3,q,l⟩:=S.own;have J:=S.b9;have hm1c:Z.b9.ln<40:=by rw[J];exact h40
 have gm1:=λK=>aL q.aT.hm K;have J:=λM K=>bT q.aT.hm M K;have gR:=λK=>aL (l.at_ (p:=H.length+2) (ob:=⟨false,E,5,[iT x f T]⟩) (by simp)) K;obtain⟨C1,hC1,hC12⟩:=q.aT.b9;have J:=hC1.ln;simp at J;have E:=S.s.cell;have E:iT x f T=dG.enc ⟨x.aP,y,f.this,f.self,f.static⟩:=by simp[iT,dG.enc,y1]
 have hyP:jX Z true ⟨x.aP,y,f.this,f.self,f.static⟩:=⟨hu,λz T=>hx.pS T,hkl,by show y.aG.length = _;rw[y2,S.k];simp,λn T=>S.c n (by rw[<-y2];exact T),by have:=hf.p.this;have:=q.mono.o;simp only;omega,λh=>by cases h⟩
 simp[e0,e7,gm1,aI.bD,aI.g5,gR,ZQ,clRt];rw[E];refine xS (hC1.kp (cB.app (S:=λ_=>False) _) (λh=>h)) (vB q.aT.out _) (t:=c3) (aM:=dG.enc ⟨x.aP,y,f.this,f.self,f.static⟩) (by simp) (by simp;omega) (by simp;unfold mx;omega) λp H3 G3 T Z wR=>?_;have E:cB (λo=>o=.b9) Hx G2 H3 G3:=Kp.trans (cB.app (S:=λo=>o=.b9) _) Z;simp only[nR] at T ⊢;have r:=q.aT.addclo hC12 hyP y3 J.symm T E wR (by omega);obtain⟨J,T⟩:=E _ _ q.aT.hm (by rw[q.aT.gm];simp);have oB:=l.ot (p:=H.length+1) (ob:=zo (c0+1)) (by simp);obtain⟨T,Z⟩:=E _ _ (l.at_ (p:=H.length+1) (ob:=zo (c0+1)) (by simp)) (by rw[oB];simp);have E:=Z.trans oB;have gm3:=λK=>aL J K;have Z:=bL J;have J:=bL T;have hne:pm≠H.length+1:=by have:=bL h.hm;omega
 have gB3:=λX K=>aL (eC T hne X) K;have T:IntKind.i64.wrap (C1.length:Int)=C1.length:=wrap64 (by omega) (by omega);simp only[zo] at gB3;simp[e0,e6,gm3,aI.bD,aI.p5,aI.g5,Z,T,gB3,J,TZ];refine⟨by simp[aR],?_⟩;have J:=((q.trans (r.pe q.bI)).le (a':=700) (b':=1400) (by omega) (by omega)).eZ (p:=H.length+1) (by omega) E ⟨false,c0+1,5,[(sV 7 C1.length []).enc]⟩;exact dD ⟨sV 7 C1.length [],G3,_,W,rfl,VM.AM (.inr (.inl ⟨rfl,by omega,by simp;omega⟩)) (by omega),J⟩
def closure_k {x:aQ} {c} {K:aD} (hP:fC us cs) (h:Lay us cs H G pm tm m) (Z:cY H G pf tf m f L) (h0:m.ab=0) (J:NE x) (W:x.aJ=23) (T:Rm m f L)
  (k:∀v H' G' m' f' E,aI.V m' v->PE us cs H G pm tm pf tf m f L 700 1400 H' G' m' f'->K (.agg (aO.enc v)) H' E):bO aE 246 [.ptr pm tm 19 0 0,.ptr pf tf 7 0 0,.agg x.enc] H c K:=
 gL (closure_con hP h Z h0 J W T) λr H' E ⟨v,G',m',f',W,T,J⟩=>by subst W;exact k v H' G' m' f' E T J
def prop_k {n} {v:aO} {name:aA} {c} {K:aD} (hR:iR us cs n) (hP:fC us cs) (h:Lay us cs H G pm tm m) (hf:cY H G pf tf m f L) (h0:m.ab=0) (T:m.V v) (E:name.length<=400) (W:Rm m f L) (Z:m.bH<n)
  (k:∀w H' G' m' J,aI.V m' w->PA us cs H G pm tm m 2000 H' G' m'->K (.agg (aO.enc w)) H' J):bO aE 247 [.ptr pm tm 19 0 0,.ptr pf tf 7 0 0,.agg v.enc,.str name] H c K:=
 gL (prop_con hR hP h hf h0 T E W Z) λr H' J ⟨w,G',m',W,T,E⟩=>by subst W;exact k w H' G' m' J T E
def fS t:zo t=⟨false,t,5,[(sV 0 0 []).enc]⟩:=by simp[zo,z5]
abbrev OY (H:aC) (c0:Nat) (x:aQ):List (Nat×aH):=[(H.length,no c0 x),(H.length+1,zo (c0+1)),(H.length+2,zo (c0+1+1))]
structure zO (us:SL bU) (cs:SL bG) (H:aC) (G:Nat->a6) (pm tm pf tf:Nat) (m:aI) (f:aW) (L:List aY) (x:aQ) (c0 n:Nat) (H1:aC) (G1:Nat->a6) (m1:aI) (f1:aW):Prop where
 q:PE us cs H G pm tm pf tf m f L (-4000) (-82000000) H1 G1 m1 f1
 ab:m1.ab=0
 l:Loc H1 G1 (OY H c0 x)
 r:Rm m1 f1 L
 n:m1.bH<n
variable {x:aQ} {c0 n:Nat} {H1 H2:aC} {G1 G2:Nat->a6} {m1 m2:aI} {f1 f2:aW}
def zO.fin (S:zO us cs H G pm tm pf tf m f L x c0 n H1 G1 m1 f1) {v:aO} {c'} (q:PE us cs H1 G1 pm tm pf tf m1 f1 L a b H2 G2 m2 f2) (E:a<=1000) (E:b<=81900000) (J:m2.V v):
  cE (FO us cs H G pm tm pf tf m f L) (.agg v.enc) (H2.set (H.length+1) ⟨false,c0+1,5,[v.enc]⟩) c':=by have E:=(S.q.trans q).eZ (p:=H.length+1) (by omega) ((q.dO S.l).ot (p:=H.length+1) (ob:=zo (c0+1)) (by simp)) ⟨false,c0+1,5,[v.enc]⟩;exact dD ⟨v,G2,m2,f2,rfl,J,E.le (by omega) (by omega),λ_=>E.le (by omega) (by omega)⟩
def zO.JK (S:zO us cs H G pm tm pf tf m f L x c0 n H1 G1 m1 f1) {v:aO} {c'} (q:PE us cs H G pm tm pf tf m f L a b H2 G2 m2 f2) (T:G2 (H.length+1)=.bP) (E:a<=-10) (E:b<=-10) (J:m2.V v):
  cE (FO us cs H G pm tm pf tf m f L) (.agg v.enc) (H2.set (H.length+1) ⟨false,c0+1,5,[v.enc]⟩) c':=by have E:=q.eZ (p:=H.length+1) (by omega) T ⟨false,c0+1,5,[v.enc]⟩;exact dD ⟨v,G2,m2,f2,rfl,J,E.le (by omega) (by omega),λ_=>E.le (by omega) (by omega)⟩
def zO.get (S:zO us cs H G pm tm pf tf m f L x c0 n H1 G1 m1 f1) (q:PE us cs H1 G1 pm tm pf tf m1 f1 L a b H2 G2 m2 f2):
  (∀K,aZ H2 H.length K=K (no c0 x))/\(∀K,aZ H2 (H.length+1) K=K (zo (c0+1)))/\(∀K,aZ H2 (H.length+2) K=K (zo (c0+1+1)))/\H.length+1<H2.length:=by have l:=q.dO S.l;exact⟨λK=>aL (l.at_ (p:=H.length) (ob:=no c0 x) (by simp)) K,λK=>aL (l.at_ (p:=H.length+1) (ob:=zo (c0+1)) (by simp)) K,λK=>aL (l.at_ (p:=H.length+2) (ob:=zo (c0+1+1)) (by simp)) K,bL (l.at_ (p:=H.length+1) (ob:=zo (c0+1)) (by simp))⟩
def evE_con (hE:iS us cs n) (hR:iR us cs n) (hP:fC us cs) (h:Lay us cs H G pm tm m) (hf:cY H G pf tf m f L) (hx:NE x) (hk:fE x.aJ) (E:m.bH<(n+1:Nat)):
  cA aE 201 [.ptr pm tm 19 0 0,.ptr pf tf 7 0 0,.agg x.enc] H c0 (FO us cs H G pm tm pf tf m f L):=by
 refine cO KZ ?_;unfold KZ;have E:∀i,G (H.length+i)=.bP:=λi=>h.out _ (by omega);have gm:=λM K=>bT h.hm M K;have J:Loc (H++[no c0 x,zo (c0+1),zo (c0+1+1)]) G (OY H c0 x):=((Loc.nil.cons (by simp) (E 2)).cons (by simp) (E 1)).cons (by simp) (E 0);show cC aE (IR.seq _ (IR.seq _ (IR.seq _ (IR.seq _ (IR.seq _ _))))) _ _ _ _;rw[dT,dT,dT];refine gK (λe H' c'=>∃G1 m1 f1,zO us cs H G pm tm pf tf m f L x c0 n H' G1 m1 f1/\e 0=.ptr pm tm 19 0 0/\e 1=.ptr pf tf 7 0 0/\e 5=.ptr H.length c0 4 0 0/\e 6=.ptr (H.length+1) (c0+1) 5 0 0/\e 7=.ptr (H.length+2) (c0+1+1) 5 0 0) ?_ ?_;rotate_left
 .intro K hK;have T:∀M:aC,H++((⟨false,c0,4,[x.enc]⟩:aH)::⟨false,c0+1,5,[(sV 0 0 []).enc]⟩::⟨false,c0+1+1,5,[(sV 0 0 []).enc]⟩::M)=H++(no c0 x::zo (c0+1)::zo (c0+1+1)::M):=λM=>by simp[no,zo,z5]
  by_cases W:m.ab=0
  .simp[cM,gm,aI.bD,aI.g12,W,z5];rw[T];refine GY (h.app _) W λH1 E q=>?_;have Z:=λK=>aL q.aT.hm K;have E:=q.dO J;have g6:=λK=>aL (E.at_ (p:=H.length+1) (ob:=zo (c0+1)) (by simp)) K;have g7:=λK=>aL (E.at_ (p:=H.length+2) (ob:=zo (c0+1+1)) (by simp)) K;have J:=bL (E.at_ (p:=H.length+1) (ob:=zo (c0+1)) (by simp));have q1:=GX q.gU hf rfl;simp only[fS] at g6 g7;rcases GZ m W with⟨t0,t1⟩|t2
   .simp[Z,aI.bD,aI.g12,t0];have hfu:=yG m;have hp:=hf.p.nC;have hb:=h.b.mp;have hmp:=q.mp;refine hK _ _ _ ⟨G,m.tick,f,⟨q1,t0,E,⟨by omega,by omega⟩,by omega⟩,?_,?_,?_,?_,?_⟩<;>simp[aK]
   .simp[Z,aI.bD,aI.g12,t2,g6,g7,J];refine dD ⟨sV 0 0 [],G,m.tick,f,rfl,.nil,?_,λ_=>?_⟩<;>exact(q1.eZ (by omega) (E.ot (p:=H.length+1) (ob:=zo (c0+1)) (by simp)) _).le (by omega) (by omega)
  .simp[cM,gm,aI.bD,aI.g12,W,z5];exact dD ⟨sV 0 0 [],G,m,f,rfl,.nil,(PE.refl h hf).app _,λe=>absurd e W⟩
 intro e Hc cc ⟨G1,m1,f1,S,T,e1,e5,e6,e7⟩;have Z:=λK=>aL S.q.aT.hm K;obtain⟨g5,g6,g7,J⟩:=S.get (PE.refl S.q.aT S.q.bI);simp only[no,fS] at g5 g6 g7;have hx1:=hx.v.sh.n;have Z:=hx.len;refine gK (λe' H' c'=>Hc=H'/\(7<=x.aJ/\x.aJ<=14)/\e' 0=.ptr pm tm 19 0 0/\e' 1=.ptr pf tf 7 0 0/\e' 5=.ptr H.length c0 4 0 0/\e' 6=.ptr (H.length+1) (c0+1) 5 0 0/\e' 7=.ptr (H.length+2) (c0+1+1) 5 0 0) ?_ ?_
 .intro Z Z Z ⟨Z,hk1,f0,f1',f5,f6,f7⟩;subst Z;obtain⟨hall,Z,y,hy⟩:lR x/\(1<=x.aP.aG.length/\(x.aJ≠8/\x.aJ≠9->2<=x.aP.aG.length)/\(x.aJ=14->3<=x.aP.aG.length))/\∃y,x.aP.aG[0]?=some y:=by
   have Z:=hx.v.sh;by_cases h1:x.aJ=8\/x.aJ=9
   .obtain⟨E,l2⟩:=Z.one (by omega);exact⟨l2,⟨by omega,by omega,by omega⟩,_,bC (by omega)⟩
   .by_cases h3:x.aJ=14
    .obtain⟨E,l2⟩:=Z.three h3;exact⟨l2,⟨by omega,by omega,by omega⟩,_,bC (by omega)⟩
    .obtain⟨E,l2⟩:=Z.two (by omega);exact⟨l2,⟨by omega,by omega,by omega⟩,_,bC (by omega)⟩
  have E:(0:Int)<(x.aP.aG.length:Int):=by omega
  rw[dT,dT,dT];refine gK (λE H3 c3=>∃(v:aO) (X:aC) (G2:Nat->a6) (m2:aI) (f2:aW) (t:Nat),H3=X++[vo t v,zo (t+1)]/\aI.V m2 v/\PE us cs Hc G1 pm tm pf tf m1 f1 L 0 0 X G2 m2 f2/\m2.ab=0/\E 0=.ptr pm tm 19 0 0/\E 1=.ptr pf tf 7 0 0/\E 5=.ptr H.length c0 4 0 0/\E 6=.ptr (H.length+1) (c0+1) 5 0 0/\E 7=.ptr (H.length+2) (c0+1+1) 5 0 0/\
   E 10=.ptr X.length t 5 0 0/\E 11=.ptr (X.length+1) (t+1) 5 0 0/\E 12=.I 0) ?_ ?_
  rotate_left
  .intro K hK;simp[f0,f1',f5,g5,aL hy];refine oH hE S.q.aT S.q.bI (hx.get hy) (hall y (bA hy)) S.n λv H2 G2 m2 f2 c7 Z q _=>?_;obtain⟨t5,t6,t7,tl⟩:=S.get q;simp only[fS] at t6 t7;have gm2:=λM K=>bT q.aT.hm M K;have l2:=(q.dO S.l)
   have t7':=λM K=>bT (l2.at_ (p:=H.length+2) (ob:=zo (c0+1+1)) (by simp)) M K;have t6':=λM K=>bT (l2.at_ (p:=H.length+1) (ob:=zo (c0+1)) (by simp)) M K;simp only[fS] at t6' t7';have gSA:∀(X:aH) (M:aC) (K:aH->Prop),aZ (H2.set (H.length+1) X++M) (H.length+1) K=K X:=λX M K=>bT (eP tl) M K;by_cases ha:m2.ab=0
   .simp[f0,f7,cM,bW,z5,gm2,aI.bD,aI.g12,ha,t7'];refine hK _ _ _ ⟨v,H2,G2,m2,f2,c7,by simp[vo,fS],Z,q,ha,?_,?_,?_,?_,?_,?_,?_,?_⟩<;>simp[aK,f0,f1',f5,f6,f7]
   .simp[f0,f6,f7,bW,z5,gm2,aI.bD,aI.g12,ha,t7',t6',tl,gSA];have:=S.fin (c':=c7+1) (q.app [vo c7 v]) (by omega) (by omega) (v:=sV 0 0 []) .nil;simpa[tl,vo] using this
  intro E H3 c3 ⟨v,X,G2,m2,f2,t,E,Z,q,W,T,e1,e5,e6,e7,e10,e11,e12⟩;subst E;have q':=q.app [vo t v,zo (t+1)];simp only[vo,fS] at q';have hr2:=S.r.of q';have hn2:m2.bH<n:=by have:=q.mono.f;have:=S.n;omega
  obtain⟨g5',g6',g7',E⟩:=S.get q';have gv:∀K:aH->Prop,aZ (X++[vo t v,⟨false,t+1,5,[(sV 0 0 []).enc]⟩]) X.length K=K (vo t v):=λK=>by simp[aZ]
  have htl:H.length<X.length+1:=by simp at E;omega
  have hXl:H.length+1<X.length:=(S.get q).2.2.2;simp only[no,fS,vo] at g5' g6' g7' gv;have gX6:=λM K=>bT ((q.dO S.l).at_ (p:=H.length+1) (ob:=zo (c0+1)) (by simp)) M K;simp only[fS] at gX6;have ev:∀(y:aQ),y∈x.aP.aG->NE y/\fE y.aJ:=λy hy=>⟨hx.pS hy,hall y hy⟩
  have E:x.aJ=8\/x.aJ=9\/x.aJ=13\/x.aJ=14\/(x.aJ=11\/x.aJ=12)\/(x.aJ=7\/x.aJ=10):=by omega
  rcases E with E|E|E|E|E|E
  .have ht:x.bR.length<=400:=hx.v.sh.t (by omega) (by omega);simp[T,e1,e5,e10,g5',gv,E,fS,vo];refine prop_k hR hP q'.aT q'.bI W Z ht hr2 hn2 λw H5 G5 m5 c5 hw q5=>?_;have q6:=q'.trans (q5.pe q'.bI);obtain⟨u5,u6,u7,ul⟩:=S.get q6;simp only[fS] at u6;simp[e6,u6,ul];exact S.fin q6 (by omega) (by omega) hw
  .simp[e5,e10,g5',gv,E,fS,vo];refine cV (unary_s (o:=m2.bS.ln) (c:=m2.b9.ln) (g:=m2.cJ.ln) x.bN Z) λr c7 _ ⟨w,k,hr,hk0,hk10,hw⟩=>⟨fB _,?_⟩
   subst hr;by_cases hk:k=0
   .simp[e6,e11,hk,htl,gX6];exact S.fin (q.app [⟨false,t,5,[v.enc]⟩,⟨false,t+1,5,[w.enc]⟩]) (by omega) (by omega) hw
   .simp[T,e11,hk];have q5:=q.app [(⟨false,t,5,[v.enc]⟩:aH),⟨false,t+1,5,[w.enc]⟩];refine pE q5.aT hP W λH5 G5 m5 c5 q6=>?_;have W:=q5.trans (q6.pe q5.bI);obtain⟨u5,u6,u7,ul⟩:=S.get W;simp only[fS] at u6;simp[e6,u6,ul];exact S.fin W (by omega) (by omega) .nil
  .obtain⟨y1,W⟩:∃y1,x.aP.aG[1]?=some y1:=⟨_,bC (by omega)⟩
   have hlt1:(1:Int)<(x.aP.aG.length:Int):=by omega
   by_cases v0:v.aJ=0
   .simp[T,e1,e5,e10,g5',gv,E,fS,vo,v0,aL W];refine oH hE q'.aT q'.bI (ev y1 (bA W)).1 (ev y1 (bA W)).2 hn2 λw H5 G5 m5 f5 c5 hw q5 _=>?_;have q6:=q'.trans q5;obtain⟨u5,u6,u7,ul⟩:=S.get q6;simp only[fS] at u6;simp[e6,u6,ul];exact S.fin q6 (by omega) (by omega) hw
   .simp[e5,e6,e10,g5',g6',gv,E,fS,vo,v0,htl];exact S.fin q' (by omega) (by omega) Z
  .obtain⟨y1,W⟩:∃y1,x.aP.aG[1]?=some y1:=⟨_,bC (by omega)⟩
   obtain⟨y2,hy2⟩:∃y2,x.aP.aG[2]?=some y2:=⟨_,bC (by omega)⟩
   have hlt1:(1:Int)<(x.aP.aG.length:Int):=by omega
   have hlt2:(2:Int)<(x.aP.aG.length:Int):=by omega
   simp[e5,e10,g5',gv,E,fS,vo];refine hJ (tA v) λb c5 _=>?_;cases b
   .simp[T,e1,e5,g5',aL hy2];refine oH hE q'.aT q'.bI (ev y2 (bA hy2)).1 (ev y2 (bA hy2)).2 hn2 λw H5 G5 m5 f5 c5 hw q5 _=>?_;have q6:=q'.trans q5;obtain⟨u5,u6,u7,ul⟩:=S.get q6;simp only[fS] at u6;simp[e6,u6,ul];exact S.fin q6 (by omega) (by omega) hw
   .simp[T,e1,e5,g5',aL W];refine oH hE q'.aT q'.bI (ev y1 (bA W)).1 (ev y1 (bA W)).2 hn2 λw H5 G5 m5 f5 c5 hw q5 _=>?_;have q6:=q'.trans q5;obtain⟨u5,u6,u7,ul⟩:=S.get q6;simp only[fS] at u6;simp[e6,u6,ul];exact S.fin q6 (by omega) (by omega) hw
  .obtain⟨y1,W⟩:∃y1,x.aP.aG[1]?=some y1:=⟨_,bC (by omega)⟩
   have hlt1:(1:Int)<(x.aP.aG.length:Int):=by omega
   have n1:∀k:Int,k=8\/k=9\/k=13\/k=14->¬x.aJ=k:=λk h=>by omega
   have hbv:∀(m:aI) (b:Bool),m.V (sV 1 (if b then 1 else 0) []):=λm b=>VM.sc (by cases b<;>simp) (by cases b<;>simp) (by simp);rcases E with E|E
   .simp[e5,e10,g5',gv,E,fS,vo];refine hJ (tA v) λb c5 _=>?_;cases b
    .simp[e10,g5',gv,E];refine hJ (tA v) λb2 c6 _=>?_;simp;refine cX (oL b2) (fB _) λc7 _=>?_;simp[e6,g6',htl];exact S.fin q' (by omega) (by omega) (hbv m2 b2)
    .simp[T,e1,e5,g5',E,aL W];refine oH hE q'.aT q'.bI (ev y1 (bA W)).1 (ev y1 (bA W)).2 hn2 λw H5 G5 m5 f5 c5 hw q5 _=>?_;have q6:=q'.trans q5;have lX:=q6.dO S.l;have l6:H5[H.length+1]?=some (zo (c0+1))/\G5 (H.length+1)=.bP:=⟨lX.at_ (by simp),lX.ot (p:=H.length+1) (ob:=zo (c0+1)) (by simp)⟩
     have q8:=q6.app [⟨false,c5,5,[w.enc]⟩];have gm8:=λM K=>bT q6.aT.hm M K;have g6M:=λM K=>bT l6.1 M K;have g7M:=λM K=>bT (lX.at_ (p:=H.length+2) (ob:=zo (c0+1+1)) (by simp)) M K;have J:=bL l6.1;have hl6S:H.length+1<H5.length+1:=by omega
     have gSA:∀(X:aH) (M:aC) (K:aH->Prop),aZ (H5.set (H.length+1) X++M) (H.length+1) K=K X:=λX M K=>bT (eP J) M K;simp only[fS] at g6M g7M;by_cases ha:m5.ab=0
     .simp[T,gm8,aI.bD,aI.g12,ha,bW,z5];refine hJ (tA w) λb2 c6 _=>?_;simp;refine cX (oL b2) (fB _) λc7 _=>?_;simp[e6,g6M,gSA,J];have:=S.fin (c':=c7) q8 (by omega) (by omega) (hbv m5 b2);simpa[J] using this
     .simp[T,e6,e7,gm8,aI.bD,aI.g12,ha,g6M,g7M,bW,z5,J,gSA];have:=S.fin (c':=c5+1) q8 (by omega) (by omega) (v:=sV 0 0 []) .nil;simpa[J] using this
   .simp[e5,e10,g5',gv,E,fS,vo];refine hJ (tA v) λb c5 _=>?_;cases b
    .simp[T,e1,e5,g5',E,aL W];refine oH hE q'.aT q'.bI (ev y1 (bA W)).1 (ev y1 (bA W)).2 hn2 λw H5 G5 m5 f5 c5 hw q5 _=>?_;have q6:=q'.trans q5;have lX:=q6.dO S.l;have l6:H5[H.length+1]?=some (zo (c0+1))/\G5 (H.length+1)=.bP:=⟨lX.at_ (by simp),lX.ot (p:=H.length+1) (ob:=zo (c0+1)) (by simp)⟩
     have q8:=q6.app [⟨false,c5,5,[w.enc]⟩];have gm8:=λM K=>bT q6.aT.hm M K;have g6M:=λM K=>bT l6.1 M K;have g7M:=λM K=>bT (lX.at_ (p:=H.length+2) (ob:=zo (c0+1+1)) (by simp)) M K;have J:=bL l6.1;have hl6S:H.length+1<H5.length+1:=by omega
     have gSA:∀(X:aH) (M:aC) (K:aH->Prop),aZ (H5.set (H.length+1) X++M) (H.length+1) K=K X:=λX M K=>bT (eP J) M K;simp only[fS] at g6M g7M;by_cases ha:m5.ab=0
     .simp[T,gm8,aI.bD,aI.g12,ha,bW,z5];refine hJ (tA w) λb2 c6 _=>?_;simp;refine cX (oL b2) (fB _) λc7 _=>?_;simp[e6,g6M,gSA,J];have:=S.fin (c':=c7) q8 (by omega) (by omega) (hbv m5 b2);simpa[J] using this
     .simp[T,e6,e7,gm8,aI.bD,aI.g12,ha,g6M,g7M,bW,z5,J,gSA];have:=S.fin (c':=c5+1) q8 (by omega) (by omega) (v:=sV 0 0 []) .nil;simpa[J] using this
    .simp[e10,g5',gv,E];refine hJ (tA v) λb2 c6 _=>?_;simp;refine cX (oL b2) (fB _) λc7 _=>?_;simp[e6,g6',htl];exact S.fin q' (by omega) (by omega) (hbv m2 b2)
  .have ey:∃y1,x.aP.aG[1]?=some y1:=⟨_,bC (by omega)⟩
   obtain⟨y1,W⟩:=ey;have hlt1:(1:Int)<(x.aP.aG.length:Int):=by omega
   have n1:∀k:Int,k=8\/k=9\/k=13\/k=14\/k=11\/k=12->¬x.aJ=k:=λk h=>by omega
   simp[T,e1,e5,g5',n1,fS,vo,aL W];refine oH hE q'.aT q'.bI (ev y1 (bA W)).1 (ev y1 (bA W)).2 hn2 λw H5 G5 m5 f5 c5 hw q5 _=>?_;have q6:=q'.trans q5;have W:=q5.loc (q:=X.length) (x:=⟨false,t,5,[v.enc]⟩) (by simp) (q.aT.out _ (bB _));have le:=q5.loc (q:=X.length+1) (x:=⟨false,t+1,5,[(sV 0 0 []).enc]⟩) (by simp) (q.aT.out _ (by omega));have lX:=q6.dO S.l;have l6:H5[H.length+1]?=some (zo (c0+1))/\G5 (H.length+1)=.bP:=⟨lX.at_ (by simp),lX.ot (p:=H.length+1) (ob:=zo (c0+1)) (by simp)⟩
   have q8:=q6.app [⟨false,c5,5,[w.enc]⟩];have gV8:=λM K=>bT W.1 M K;have gE8:=λM K=>bT le.1 M K;have gm8:=λM K=>bT q6.aT.hm M K;have g5M:=λM K=>bT (lX.at_ (p:=H.length) (ob:=no c0 x) (by simp)) M K;have g6M:=λM K=>bT l6.1 M K;have g7M:=λM K=>bT (lX.at_ (p:=H.length+2) (ob:=zo (c0+1+1)) (by simp)) M K;have W:=bL le.1;have J:=bL l6.1;have g6S:∀(Y:aH) (K:aH->Prop),aZ (H5.set (X.length+1) Y++[(⟨false,c5,5,[w.enc]⟩:aH)]) (H.length+1) K=K (zo (c0+1)):=λY K=>bT (eC l6.1 (by omega) Y) _ K;have gESS:∀(Y:aH) (K:aH->Prop),aZ (H5.set (X.length+1) Y++[(⟨false,c5,5,[w.enc]⟩:aH)]) (X.length+1) K=K Y:=λY K=>bT (eP W) _ K;have hl6S:H.length+1<H5.length+1:=by omega
   have gSA:∀(X:aH) (M:aC) (K:aH->Prop),aZ (H5.set (H.length+1) X++M) (H.length+1) K=K X:=λX M K=>bT (eP J) M K;simp only[no,fS] at g5M g6M g7M g6S;by_cases ha:m5.ab=0
   .rcases E with E|E
    .simp[T,e5,e10,gm8,aI.bD,aI.g12,ha,gV8,g5M,E,bW,z5];refine cV (index_s (Z.mono q5.mono) hw) λr c7 _ ⟨u,k,hr,hk0,hk10,hu⟩=>⟨fB _,?_⟩
     subst hr;have q9:=((S.q.trans q6).eZ (p:=X.length+1) (by omega) le.2 ⟨false,t+1,5,[u.enc]⟩).app [⟨false,c5,5,[w.enc]⟩];by_cases hk:k=0
     .simp[e6,e11,gE8,gESS,g6S,W,hk,hl6S];have:=S.JK (c':=c7) q9 l6.2 (by omega) (by omega) hu;simpa[J,W] using this
     .simp[T,e11,gE8,W,hk];refine pE q9.aT hP ha λH7 G7 m7 c7 q10=>?_;have q11:=q9.trans (q10.pe q9.bI);obtain⟨l7,o7⟩:=q10.loc (q:=H.length+1) (x:=zo (c0+1)) (fF (eC l6.1 (by omega) _) _) l6.2;have g7z:=λK=>aL l7 K;have hl7:=bL l7;simp only[fS] at g7z;simp[e6,g7z,hl7];exact S.JK q11 o7 (by omega) (by omega) .nil
    .simp[T,e5,e10,gm8,aI.bD,aI.g12,ha,gV8,g5M,E,bW,z5];refine cV (Z4 x.bN (Z.mono q5.mono) hw) λr c7 _ ⟨u,k,hr,hk0,hk10,hu⟩=>⟨fB _,?_⟩
     subst hr;have q9:=((S.q.trans q6).eZ (p:=X.length+1) (by omega) le.2 ⟨false,t+1,5,[u.enc]⟩).app [⟨false,c5,5,[w.enc]⟩];by_cases hk:k=0
     .simp[e6,e11,gE8,gESS,g6S,W,hk,hl6S];have:=S.JK (c':=c7) q9 l6.2 (by omega) (by omega) hu;simpa[J,W] using this
     .simp[T,e11,gE8,W,hk];refine pE q9.aT hP ha λH7 G7 m7 c7 q10=>?_;have q11:=q9.trans (q10.pe q9.bI);obtain⟨l7,o7⟩:=q10.loc (q:=H.length+1) (x:=zo (c0+1)) (fF (eC l6.1 (by omega) _) _) l6.2;have g7z:=λK=>aL l7 K;have hl7:=bL l7;simp only[fS] at g7z;simp[e6,g7z,hl7];exact S.JK q11 o7 (by omega) (by omega) .nil
   .simp[T,e6,e7,gm8,aI.bD,aI.g12,ha,g6M,g7M,bW,z5,J,gSA];have:=S.fin (c':=c5+1) q8 (by omega) (by omega) (v:=sV 0 0 []) .nil;simpa[J] using this
 .intro K hK;have W:x.aJ=1\/x.aJ=2\/x.aJ=3\/x.aJ=4\/x.aJ=5\/x.aJ=15\/x.aJ=16\/x.aJ=17\/x.aJ=18\/x.aJ=19\/x.aJ=20\/x.aJ=21\/x.aJ=22\/x.aJ=23\/(7<=x.aJ/\x.aJ<=14):=by unfold fE at hk;omega
  have jE:∀(e':Env) (c':Nat),e' 6=.ptr (H.length+1) (c0+1) 5 0 0->∀(v:aO),m1.V v->cE (FO us cs H G pm tm pf tf m f L) (.agg v.enc) (Hc.set (H.length+1) ⟨false,c0+1,5,[v.enc]⟩) c':=λe' c' _ v Z=>S.fin (PE.refl S.q.aT S.q.bI) (by omega) (by omega) Z;rcases W with E|E|E|E|E|E|E|E|E|E|E|E|E|E|E
  .simp[e5,g5,E,-jN];refine cV (JT (x:=x) (o:=m1.bS.ln) (c:=m1.b9.ln) (g:=m1.cJ.ln) hx1 (λh=>by omega)) λr c7 _ ⟨v,hr,Z⟩=>⟨fB _,?_⟩
   subst hr;simp[e6,g6,J];exact S.fin (PE.refl S.q.aT S.q.bI) (by omega) (by omega) Z
  .have ht:x.bR.length<=400:=hx.v.sh.t (by omega) (by omega);simp[e5,g5,E];refine cV (JT (x:=x) (o:=m1.bS.ln) (c:=m1.b9.ln) (g:=m1.cJ.ln) hx1 (λh=>ht)) λr c7 _ ⟨v,hr,Z⟩=>⟨fB _,?_⟩
   subst hr;simp[e6,g6,J];exact S.fin (PE.refl S.q.aT S.q.bI) (by omega) (by omega) Z
  .simp[e5,g5,E];refine cV (JT (x:=x) (o:=m1.bS.ln) (c:=m1.b9.ln) (g:=m1.cJ.ln) hx1 (λh=>by omega)) λr c7 _ ⟨v,hr,Z⟩=>⟨fB _,?_⟩
   subst hr;simp[e6,g6,J];exact S.fin (PE.refl S.q.aT S.q.bI) (by omega) (by omega) Z
  .simp[T,e1,e5,g5,E];refine OG S.q.aT S.q.bI λv c7 Z=>?_;simp[e6,g6,J];exact S.fin (PE.refl S.q.aT S.q.bI) (by omega) (by omega) Z
  .simp[T,e1,e5,g5,E];refine list_k hE hP S.q.aT S.q.bI S.ab hx E S.n λv H2 G2 m2 f2 c7 Z q=>?_;obtain⟨t5,t6,t7,tl⟩:=S.get q;simp only[fS] at t6;simp[e6,t6,tl];exact S.fin q (by omega) (by omega) Z
  .simp[T,e1,e5,g5,E];refine aaF hE hP S.q.aT S.q.bI hx (.inl E) S.r S.n λv H2 G2 m2 f2 c7 Z q=>?_;obtain⟨t5,t6,t7,tl⟩:=S.get q;simp only[fS] at t6;simp[e6,t6,tl];exact S.fin q (by omega) (by omega) Z
  .simp[T,e1,e5,g5,E];refine aaF hE hP S.q.aT S.q.bI hx (.inr E) S.r S.n λv H2 G2 m2 f2 c7 Z q=>?_;obtain⟨t5,t6,t7,tl⟩:=S.get q;simp only[fS] at t6;simp[e6,t6,tl];exact S.fin q (by omega) (by omega) Z
  .obtain⟨y,hy,_⟩:=hx.v.sh.alias E;have J:x.aP.aG[0]?=some y:=by rw[hy];rfl
   have W:x.aP.aG.length=1:=by rw[hy];rfl
   have W:=S.r.e;have W:=S.r.m;have W:ew f1 L=f1.env.ln+cw L:=rfl;simp[T,e1,e5,g5,E,aL J];refine EZ S.q.aT S.q.bI (by omega) (by omega) λk H2 G2 J b2 f2 c7 J q=>?_;obtain⟨t5,t6,t7,tl⟩:=S.get q;simp only[no] at t5;have W:ew f2 L=f2.env.ln+cw L:=rfl;have W:=q.fp;have hmp:=q.mp;have hem:=q.em;simp only at W;simp[T,e1,e5,t5];refine P6 q.aT q.bI ⟨by omega,by simp only;omega⟩ (by omega) (by simp only;omega) λH3 G3 W W c8 q3=>?_;have W:=q.trans q3;obtain⟨u5,u6,u7,ul⟩:=S.get W;simp only[fS] at u6;obtain⟨p,t,C,z,w1,w2,w3,w4,w5,w6,w7,w8⟩:=W.aT.cell (k:=k) J;have gm4:=λK=>aL W.aT.hm K;have gC:=λK=>aL w3 K;have J:(k:Int)<(C.length:Int):=by omega
   have hrow:(C.map aO.enc)[k]?=some z.enc:=by rw[kL,w4];rfl
   simp only at w1;simp[T,e6,gm4,aI.bD,aI.g2,w1,J,gC,aL w4,u6,ul];exact S.fin W (by omega) (by omega) w5
  .have hall:=hx.v.sh.args (.inl E);by_cases ht:x.bR=[115,101,110,100]
   rotate_left
   .simp[T,e1,e5,g5,E,ht];refine NO hE hR hP S.q.aT S.q.bI S.ab (l:=x.aP) (by omega) (λz J=>⟨hx.pS J,hall z J⟩) S.r S.n λv H2 G2 m2 f2 c7 Z q=>?_;obtain⟨t5,t6,t7,tl⟩:=S.get q;simp only[fS] at t6;simp[e6,t6,tl];exact S.fin q (by omega) (by omega) Z
   by_cases hl2:x.aP.aG.length=2;rotate_left
   .have hl2':¬(x.aP.aG.length:Int)=2:=by omega
    simp[T,e1,e5,g5,E,ht,hl2'];refine NO hE hR hP S.q.aT S.q.bI S.ab (l:=x.aP) (by omega) (λz J=>⟨hx.pS J,hall z J⟩) S.r S.n λv H2 G2 m2 f2 c7 Z q=>?_;obtain⟨t5,t6,t7,tl⟩:=S.get q;simp only[fS] at t6;simp[e6,t6,tl];exact S.fin q (by omega) (by omega) Z
   simp[T,e1,e5,g5,E,ht,hl2];refine yV hE S.q.aT S.q.bI (l:=x.aP.aG) (.inl ⟨x.aP,rfl,rfl⟩) (by omega) (λz J=>⟨hx.pS J,hall z J⟩) S.n λM G2 m2 f2 t X g c7 J J hXl oX lp op q=>?_;obtain⟨t5,t6,t7,tl⟩:=S.get q;simp only[fS] at t6 t7;have gm2:=λK=>aL q.aT.hm K;have gl:=λK=>aL lp K;obtain⟨v,w,hvw⟩:∃v w,M=[v,w]:=by
    match M,(show M.length=2 by omega) with
    |[v,w],_=>exact⟨v,w,rfl⟩
   subst hvw;by_cases ha:m2.ab=0
   .have hr2:=S.r.of q;have hrm2:=hr2.m;simp[T,gm2,aI.bD,aI.g12,ha,gl,hl2];refine send_k hR hP q.aT ha (J v (by simp)) (J w (by simp)) (by omega) (by have:=q.mono.f;have:=S.n;omega) λu H3 G3 J c8 hu q3=>?_;have W:=q.trans (q3.pe q.bI);obtain⟨u5,u6,u7,ul⟩:=S.get W;simp only[fS] at u6;simp[e6,u6,ul];exact S.fin W (by omega) (by omega) hu
   .simp only[kW,lE,Q7] at tl;simp[T,e6,e7,gm2,aI.bD,aI.g12,ha,t6,t7,tl];exact S.fin q (by omega) (by omega) .nil
  .simp[T,e1,e5,g5,E];refine ZZ hE hR hP S.q.aT S.q.bI S.ab hx (.inl E) S.r S.n λv H2 G2 m2 f2 c7 Z q=>?_;obtain⟨t5,t6,t7,tl⟩:=S.get q;simp only[fS] at t6;simp[e6,t6,tl];exact S.fin q (by omega) (by omega) Z
  .simp[T,e1,e5,g5,E];refine ZZ hE hR hP S.q.aT S.q.bI S.ab hx (.inr E) S.r S.n λv H2 G2 m2 f2 c7 Z q=>?_;obtain⟨t5,t6,t7,tl⟩:=S.get q;simp only[fS] at t6;simp[e6,t6,tl];exact S.fin q (by omega) (by omega) Z
  .simp[T,e1,e5,g5,E];refine static_k hE hR hP S.q.aT S.q.bI S.ab hx E S.r S.n λv H2 G2 m2 f2 c7 Z q=>?_;obtain⟨t5,t6,t7,tl⟩:=S.get q;simp only[fS] at t6;simp[e6,t6,tl];exact S.fin q (by omega) (by omega) Z
  .simp[T,e1,e5,g5,E];refine create_k hE hR hP S.q.aT S.q.bI S.ab hx E S.r S.n λv H2 G2 m2 f2 c7 Z q=>?_;obtain⟨t5,t6,t7,tl⟩:=S.get q;simp only[fS] at t6;simp[e6,t6,tl];exact S.fin q (by omega) (by omega) Z
  .simp[T,e1,e5,g5,E];refine closure_k hP S.q.aT S.q.bI S.ab hx E S.r λv H2 G2 m2 f2 c7 Z q=>?_;obtain⟨t5,t6,t7,tl⟩:=S.get q;simp only[fS] at t6;simp[e6,t6,tl];exact S.fin q (by omega) (by omega) Z
  .have n1:∀k:Int,k<7\/14<k->¬x.aJ=k:=λk h=>by omega
   simp[e5,g5,n1];refine hK _ _ _ ⟨rfl,E,?_,?_,?_,?_,?_⟩<;>simp[aK,T,e1,e5,e6,e7]
end
section
variable {us:SL bU} {cs:SL bG}
def eval_step {n} (hE:iS us cs n) (Z:iR us cs n) (hP:fC us cs):iS us cs (n+1):=λH G E E E E m f L x E h W E T J=>evE_con hE Z hP h W E T J
def eval_zero:iS us cs 0:=λH G E E E E m f L x E h J E E E=>by
 have E:¬m.ab=0:=λe=>by have:=h.b.af (by omega);omega
 have T:=λM K=>bT h.hm M K;refine cO KZ ?_;simp[KZ,cM,T,aI.bD,aI.g12,E,z5];exact dD ⟨sV 0 0 [],G,m,f,rfl,.nil,(PE.refl h J).app _,λe=>absurd e E⟩
end
set_option maxRecDepth 100000
def app_slotC {H:aC} {G:Nat->a6} {o:a6} {a:AV} {w b j t c:Nat} {aN:aF (aF AV)} {aM:aF AV} {K:aD} (hs:mS H G o w a aN) (out:∀p,H.length<=p->G p=.bP)
  (T:H[j]?=some ⟨false,t,w,[aM]⟩) (hb:(aN.length+1)*b<=140737488355328) (E:aN.length+1<=mx)
  (k:∀p H' G',mS H' G' o w (.ref p c w (aN.length+1)) (aN++[aM])->cB (λx=>x=o) H G H' G'->(∀p,H'.length<=p->G' p=.bP)->K (.ref p c w (aN.length+1)) H' (c+1)):
  uG w b a (.ref j t w 1) H c K:=by
 rcases hs with⟨rfl,rfl⟩|⟨p,J,J,rfl,W,Z⟩
 .exact xS (G:=G) (o:=o) (aN:=[]) .nil out T hb E λp H' G' h1 h2 J=>k p H' G' h1.c h2 J
 .have J:=(bQ.1 W).1;simp only[vS,wJ,aL T,aL W,pV];refine⟨trivial,trivial,trivial,trivial,by simp,trivial,trivial,trivial,trivial,by simp,by simpa using hb,by simpa using E,?_⟩;rw[List.take_append_of_le_length (bB _),fJ (bB _),fJ (by simp)];refine k p _ G (.inr ⟨p,c,[],by simp,by rw[eP J];simp,Z⟩) (cB.set (S:=λx=>x=o) _ Z) λq E=>out q (by simpa using E)
section
variable {us:SL bU} {cs:SL bG} {H H' H'':aC} {G G' G'':Nat->a6} {pm tm pf tf:Nat} {m m' m'':aI} {f f' f'':aW} {L L' L'':aF aY} {a b a' b':Int}
def PushQ (us:SL bU) (cs:SL bG) (H:aC) (G:Nat->a6) (pm tm pf tf:Nat) (m:aI) (f:aW) (L:aF aY) (k:aY) (r:AV) (H':aC) (_:Nat):Prop:=
 r=.aX []/\∃G' f',PB us cs H G pm tm pf tf m f L k.w k.w H' G' m f' (L++[k])
def cY.TA (h:Lay us cs H G pm tm m) (T:cY H G pf tf m f L) {a':AV} (hs:mS H' G' .fL 17 a' (L'.map aY.enc)) (W:cB (λx=>x=.fL) H G H' G') (out:∀p,H'.length<=p->G' p=.bP) (hp:ew {f with fL:=a'} L'+4000*m.bH<=81000000) (hk:∀k,k∈L'->KP m k) (ha:ew f L'<=ew f L+a):
  PB us cs H G pm tm pf tf m f L a a (H'.set pf (aW.ob {f with fL:=a'} tf)) G' m {f with fL:=a'} L':=by obtain⟨E,Z⟩:=W pf _ T.hf (by rw[T.gf];simp);have hl':=(bQ.1 E).1;have J:Kp (λo=>¬o=.frame) H' G' (H'.set pf (aW.ob {f with fL:=a'} tf)) G':=cB.set (S:=λo=>o=.frame) _ (Z.trans T.gf);have kk:Kp (λo=>¬o=.fL/\¬o=.frame) H G (H'.set pf (aW.ob {f with fL:=a'} tf)) G':=(Kp.mono W λo h=>h.1).trans (J.mono λo h=>h.2);obtain⟨E,hE,hE2⟩:=T.p.env;exact⟨h.kp (kk.mono λo W=>⟨λe=>by subst e;exact W,λe=>by subst e;exact W⟩) λp hp=>out p (by simpa using hp),⟨eP hl',Z.trans T.gf,⟨⟨E,hE.kp kk (by simp),hE2⟩,hs.kp J (by simp),hk,hp,T.p.this⟩⟩,kk.mono λo W=>⟨λe=>by subst e;exact W (by simp[j1]),λe=>by subst e;exact W (by simp[j1])⟩,.refl _,rfl,by unfold ew at ha ⊢;simp only;omega,⟨by unfold ew at ha ⊢;simp only;omega,rfl⟩⟩
def push_con {k:aY} {c0:Nat} (h:Lay us cs H G pm tm m) (J:cY H G pf tf m f L) (hk:KP m k) (hp:ew f L+4000*m.bH+k.w<=81000000) (E:0<=m.bH):
  cA aE 203 [.ptr pf tf 7 0 0,.agg k.enc] H c0 (PushQ us cs H G pm tm pf tf m f L k):=by
 refine cO F203 ?_;unfold F203;have T:=λM K=>bT J.hf M K;have E:=O9 L;have E:ew f L=f.env.ln+cw L:=rfl;have E:=r9 k;have E:k.enc.take 17=k.enc:=fJ (by simp[aY.enc,aQ.dW,aO.dW]);simp[bW,T,aW.bD,aW.g5,E];refine app_slotC (G:=G) (J.p.fL.kp (cB.app (S:=λ_=>False) _) (λh=>h)) (vB h.out _) (t:=c0+1) (aM:=k.enc) (by simp) (by simp;omega) (by simp;unfold mx;omega) λp H3 Z W hc T=>?_;have E:cB (λo=>o=.fL) H G H3 Z:=Kp.trans (cB.app (S:=λo=>o=.fL) _) hc;simp only[nR] at W ⊢;have e:L.map aY.enc++[k.enc]=(L++[k]).map aY.enc:=by simp
 rw[e] at W;have q:=J.TA h (a:=(k.w:Int)) W E T (by simp only[ew,BZ];unfold ew at hp;push_cast;omega) (λz T=>by
  rcases dI.1 T with T|T
  .exact J.p.ks z T
  .simp at T;subst T;exact hk) (by simp only[ew,BZ];push_cast;omega)
 obtain⟨T,_⟩:=E _ _ J.hf (by rw[J.gf];simp);have J:=λK=>aL T K;have E:=bL T;simp[J,aW.bD,aW.p5];exact dD ⟨rfl,Z,_,q⟩
def sE {k:aY} {c} {K:aD} (h:Lay us cs H G pm tm m) (W:cY H G pf tf m f L) (T:KP m k) (J:ew f L+4000*m.bH+k.w<=81000000) (Z:0<=m.bH)
  (kk:∀H' G' f' E,PB us cs H G pm tm pf tf m f L k.w k.w H' G' m f' (L++[k])->K (.aX []) H' E):bO aE 203 [.ptr pf tf 7 0 0,.agg k.enc] H c K:=
 gL (push_con h W T J Z) λr H' E ⟨T,G',f',J⟩=>by subst T;exact kk H' G' f' E J
def PopQ (us:SL bU) (cs:SL bG) (H:aC) (G:Nat->a6) (pm tm pf tf:Nat) (m:aI) (f:aW) (L E:aF aY) (k:aY) (r:AV) (H':aC) (_:Nat):Prop:=
 r=.aX []/\∃G' f',PB us cs H G pm tm pf tf m f L (-k.w) (-k.w) H' G' m f' E
def pop_con {k} {E} {c0} (h:Lay us cs H G pm tm m) (J:cY H G pf tf m f L) (T:L=E++[k]) (W:0<=m.bH):
  cA aE 199 [.ptr pf tf 7 0 0] H c0 (PopQ us cs H G pm tm pf tf m f L E k):=by
 refine cO F199 ?_;unfold F199;have gf:=λK=>aL J.hf K;have W:=O9 L;have W:=J.p.nC;have W:ew f L=f.env.ln+cw L:=rfl;have W:L.length=E.length+1:=by rw[T];simp
 have W:cw L=cw E+k.w:=by rw[T,BZ]
 obtain⟨p,t,Z,W,h2,h3⟩:=J.p.fL.at (i:=0) (aM:=((L.map aY.enc)[0]'(by simp;omega))) (bC _);have hw:IntKind.i64.wrap ((L.length:Int)-1)=(E.length:Int):=by rw[wrap64 (by omega) (by omega)];omega
 have hs:mS H G .fL 17 (.ref p t 17 E.length) (E.map aY.enc):=.inr ⟨p,t,k.enc::Z,by simp,by rw[h2,T];simp,h3⟩;have q:=J.TA h (a:=-(k.w:Int)) hs .refl h.out (by simp only[ew];omega) (λz E=>J.p.ks z (by rw[T];simp[E])) (by simp only[ew];omega);have E:=bL J.hf;simp only[nR] at W;simp[gf,aW.bD,aW.g5,W,hw,aW.p5];exact⟨by omega,dD ⟨rfl,G,_,q⟩⟩
def tI {k:aY} {J} {c} {K:aD} (h:Lay us cs H G pm tm m) (T:cY H G pf tf m f L) (W:L=J++[k]) (Z:0<=m.bH)
  (kk:∀H' G' f' E,PB us cs H G pm tm pf tf m f L (-k.w) (-k.w) H' G' m f' J->K (.aX []) H' E):bO aE 199 [.ptr pf tf 7 0 0] H c K:=
 gL (pop_con h T W Z) λr H' E ⟨T,G',f',J⟩=>by subst T;exact kk H' G' f' E J
end
end A
end Go.Proofs.YtbdgahjfipdeoaaGreatDoor
