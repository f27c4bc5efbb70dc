import Derived.Test.YtbdgahjfipdeoaaGreatDoorB16
/- FnResponses: a part of its proof. No condition. -/
set_option linter.all false
set_option maxRecDepth 100000
namespace Go.Proofs.YtbdgahjfipdeoaaGreatDoor
namespace A
set_option maxRecDepth 100000
def cZ.zG T t (L:aF cZ):iX T ⟨false,t,2,L.map cZ.enc⟩:=λr j x a J E=>by
 simp only[kL] at J;cases h:L[r]? with
 |none=>rw[h] at J;cases J
 |some b=>
  rw[h] at J;simp at J;subst J
  match j,E with
  |0,E=>simp[cZ.enc] at E;subst E;exact .str
  |1,E=>simp[cZ.enc] at E;subst E;exact .int
  |n+2,E=>simp[cZ.enc] at E
def XM {H:aC} {G:Nat->a6} {o:a6} {c:Nat} {K:aD} {a:AV} {E:aF cZ} {name:aA} (h:Slot H G o 2 a (E.map cZ.enc)) (Z:E.length<=2000000000000)
  (kk:∀J L' T,List.length L'<=E.length->(∀b,b∈L'->b∈E)->K (.ref H.length J 2 (List.length L')) (H++[⟨false,J,2,List.map cZ.enc L'⟩]) T):bO aE 265 [a,.str name] H c K:=by obtain⟨s,E,W⟩:=h.view λx _=>cZ.cells x;refine B7 (forget_s (L:=s) (name:=name) (c0:=c) (by rw[E];exact Z)) (.cons W (.refl _ _)) λr O T W ⟨J,L',h1,h2,Z,W⟩ _ _=>?_;subst h1;subst h2;rw[E] at Z W;exact⟨.ref H.length J 2 L'.length,.name,.ref,λE E=>by simp at E;subst E;exact cZ.zG _ _ _,kk J L' T Z W⟩
section
variable {us:SL bU} {cs:SL bG} {H H' H'':aC} {G G' G'':Nat->a6} {pm tm pf tf:Nat} {m m' m'':aI} {f f' f'':aW} {L L' L'':aF aY} {a b a' b':Int}
def YM {c} {v:aO} {s:SL bX} {K:aD} (J:m.V v) (E:s.aG.length<=100000) (T:∀k,k∈s.aG->kV k) (k:∀(y:aO) E,m.V y->K (.agg y.enc) H E):bO aE 264 [.agg v.enc,s.av 3 bX.enc] H c K:=
 cV (drop12_s _ rfl (by omega) J T) λr E _ ⟨y,T,J,_⟩=>by subst T;exact⟨fB _,k y E J⟩
def UnsQ (us:SL bU) (cs:SL bG) (H:aC) (G:Nat->a6) (pm tm pf tf:Nat) (m:aI) (f:aW) (L:aF aY) (r:AV) (H':aC) (_:Nat):Prop:=
 r=.aX []/\∃G' m' f',PB us cs H G pm tm pf tf m f L 0 0 H' G' m' f' L
def unset_con {n:Nat} {x:aQ} {c0:Nat} (hE:iS us cs n) (hP:fC us cs) (h:Lay us cs H G pm tm m) (hf:cY H G pf tf m f L) (E:NE x) (T:mH x) (Z:m.bH<n):cA aE 236 [.ptr pm tm 19 0 0,.ptr pf tf 7 0 0,.agg x.enc] H c0 (UnsQ us cs H G pm tm pf tf m f L):=by
 refine cO F236 ?_;unfold F236;have hz4:∀n:aQ,aR [.I 0,.I 0,.str [],.aU] 0 n.enc=n.enc:=M7 _ _ _ _;have W:∀{J:aC} {G1:Nat->a6} {m1:aI} {f1:aW} {c:Nat},PB us cs H G pm tm pf tf m f L 0 0 J G1 m1 f1 L->cE (UnsQ us cs H G pm tm pf tf m f L) (.aX []) J c:=λq=>dD ⟨rfl,_,_,_,q⟩;rw[dT,dT,dT,dT];refine gK (λe J c'=>∃(y:aQ) (v:aO) (i:Int) (M:aF aO) (p p7 p8 t t7 t8:Nat) (G1:Nat->a6) (m1:aI) (f1:aW),FQ us cs H G pm tm pf tf m f L J G1 m1 f1 y v i/\M.length<=1000/\(∀z,z∈M->m1.V z)/\
  Loc J G1 [(p,⟨false,t,5,M.map aO.enc⟩),(p7,no t7 y),(p8,vo t8 v)]/\
  e 0=.ptr pm tm 19 0 0/\e 1=.ptr pf tf 7 0 0/\e 6=.ptr p7 t7 4 0 0/\e 7=.ptr p8 t8 5 0 0/\e 8=.ref p t 5 M.length/\e 9=.I i) ?_ ?_
 rotate_left
 .intro K hK;simp[bW];refine UH hE (h.app _) (hf.app _) E T Z λy v M T G1 m1 f1 p t Z hyk hv hMl hMv lp op E q=>?_;have E:=q.gU;have L1:=(Loc.nil.cons lp op)
  have L2:=((L1.app [no Z y,vo (Z+1) v]).cons (p:=T.length) (ob:=no Z y) (by simp) (q.aT.out _ (bB _))).cons (p:=T.length+1) (ob:=vo (Z+1) v) (by simp) (q.aT.out _ (by omega));have q1:=E.app [no Z y,vo (Z+1) v];have gm:=λM K=>bT q.aT.hm M K;by_cases E:m1.ab=0;rotate_left
  .simp[cM,bW,hz4,gm,aI.bD,aI.g12,E];exact W q1.pb
  have done_:∀(i:Int) (e:Env) (c':Nat),FQ us cs H G pm tm pf tf m f L (T++[no Z y,vo (Z+1) v]) G1 m1 f1 y v i->e 0=.ptr pm tm 19 0 0->e 1=.ptr pf tf 7 0 0->e 6=.ptr T.length Z 4 0 0->e 7=.ptr (T.length+1) (Z+1) 5 0 0->e 8=.ref p t 5 M.length->e 9=.I i->K e (T++[no Z y,vo (Z+1) v]) c':=
   λi e c' hA f0 f1' f6 f7 f8 f9=>hK _ _ _ ⟨y,v,i,M,p,T.length,T.length+1,t,Z,Z+1,G1,m1,f1,hA,hMl,hMv,L2.sub (by simp),f0,f1',f6,f7,f8,f9⟩
  rcases hyk with k4|k8
  .simp[cM,bW,hz4,gm,aI.bD,aI.g12,E,k4];refine done_ (-1) _ _ ⟨q1,E,.inl ⟨k4,rfl⟩,hv⟩ ?_ ?_ ?_ ?_ ?_ ?_<;>simp[aK]
  .by_cases hv6:v.aJ=6;rotate_left
   .simp[cM,bW,hz4,gm,aI.bD,aI.g12,E,k8,hv6];refine jT (q.aT.app _) hP E (by simp) λH5 G5 m5 c5 q5=>?_;simp;exact W ((q1.trans (q5.pe q1.bI)).le (by omega) (by omega)).pb
   .obtain⟨hk0,T⟩:=hv.ok.o6 hv6;obtain⟨k,hkk⟩:=iY hk0;rw[hkk] at T;obtain⟨pO,tO,O,cl,a,F,hob2,hne⟩:=q.aT.obj (k:=k) (by omega);have T:=hob2.gE (cB.app (S:=λ_=>False) [no Z y,vo (Z+1) v]) (λh=>h) (λh=>h);have gf:=λM K=>bT q.bI.hf M K;simp[cM,bW,hz4,gm,aI.bD,aI.g12,E,k8,hv6];refine⟨λ_=>CM F.length,?_⟩;simp[gf,aW.bD,aW.g3,hkk];refine OV q1.aT hP T λi see hi1 hi2=>?_;simp;intro c5 _;cases see
    .simp;refine jT q1.aT hP E (by simp) λH5 G5 m5 c5 q5=>?_;simp;exact W ((q1.trans (q5.pe q1.bI)).le (by omega) (by omega)).pb
    .simp;refine done_ i _ _ ⟨q1,E,.inr ⟨k8,hv6,k,pO,tO,O,cl,a,F,hkk,T,hi1,hi2⟩,hv⟩ ?_ ?_ ?_ ?_ ?_ ?_<;>simp[aK]
 intro e J c ⟨y,v,i,M,p,p7,p8,t,t7,t8,G1,m1,f1,S,E,hMv,LL,e0,e1,e6,e7,e8,e9⟩;have g7:=λK=>aL (LL.at_ (p:=p7) (ob:=no t7 y) (by simp)) K;have g8:=λK=>aL (LL.at_ (p:=p8) (ob:=vo t8 v) (by simp)) K;have gm:=λK=>aL S.q.aT.hm K;have gf:=λK=>aL S.q.bI.hf K;simp only[no,vo] at g7 g8;simp[e8];refine V9 (LL.at_ (by simp)) E hMv λs b Z E E hs3=>?_;cases b
 .simp[e0];refine pE S.q.aT hP S.ab λH5 G5 m5 c5 q5=>?_;simp;exact W ((S.q.trans (q5.pe S.q.bI)).le (by omega) (by omega)).pb
 rcases S.yk with⟨k4,E⟩|⟨k8,hv6,k,pO,tO,O,cl,a,F,hvk,T,hi1,hi2⟩
 .by_cases hs0:0<s.aG.length
  .simp[e0,e1,e6,g7,k4,hs0];refine OQ S.q.aT S.q.bI λn E E E=>?_;by_cases hn0:0<=n
   .obtain⟨j,rfl⟩:=iY hn0;obtain⟨pC,E,C,w,hCe,hCl,hCo,hCx,hwV,hne,E,E⟩:=S.q.aT.cell (k:=j) (by omega);have gC:=λK=>aL hCo K;simp[e0,gm,aI.bD,aI.g2,hCe,hCl,gC,aL hCx];refine YM hwV (by omega) hs3 λz c3 hz=>?_;simp[gm,aI.bD,aI.g2,hCe,hCl,gC,aL hCx];have q5:=E z hz;exact W ((S.q.trans (q5.pe S.q.bI)).le (by omega) (by omega)).pb
   .simp[hn0];exact W S.q.pb
  .have E:s.aG.length=0:=by omega
   obtain⟨A,hA,hA2⟩:=S.q.aT.dR;obtain⟨E,E,hEe2⟩:=S.q.bI.p.env;have u1:=hA.ln;have u2:=E.ln;simp at u1 u2;have l1:=S.q.aT.b.dR;have l2:=S.q.bI.p.O0 S.q.aT.b;have hb:=S.q.aT.b;cases htp:f1.top
   .simp[e1,e6,g7,k4,hs0,gf,aW.bD,aW.g1,aW.g0,htp];refine XM E (by omega) λt' L' c3 r1 r2=>?_;have hc:cB (λo=>o=.env) J G1 (J++[⟨false,t',2,L'.map cZ.enc⟩]) (λq=>if q=J.length then .env else G1 q):=λq z hq _=>by
     have:=bL hq;exact⟨fF hq _,if_neg (by omega)⟩
    have hsl:Slot (J++[(⟨false,t',2,L'.map cZ.enc⟩:aH)]) (λq=>if q=J.length then .env else G1 q) .env 2 (.ref J.length t' 2 L'.length) (L'.map cZ.enc):=.inr ⟨J.length,t',by simp,by simp,by simp⟩;have E:∀q,(J++[(⟨false,t',2,L'.map cZ.enc⟩:aH)]).length<=q->(λq=>if q=J.length then a6.env else G1 q) q=.bP:=λq hq=>by
     simp at hq;have:q≠J.length:=by omega
     simp only[if_neg this];exact S.q.aT.out q (by omega)
    have hpot:=S.q.bI.p.nC;obtain⟨s1,s2,s3⟩:=S.q.bI.TC S.q.aT hsl hc E (by unfold ew at hpot ⊢;simp only[sK];omega) λb hb=>hEe2 b (r2 b hb);have hlf:=bL S.q.bI.hf;have gfa:=λM K=>bT S.q.bI.hf M K;simp[gfa,aW.bD,aW.p0];have q5:PB us cs J G1 pm tm pf tf m1 f1 L 0 0 _ _ m1 {f1 with env:=.ref J.length t' 2 L'.length} L:=⟨s1,s2,s3.mono λo ho=>⟨λe=>by subst e;exact ho (by simp[j1]),λe=>by subst e;exact ho (by simp[j1])⟩,.refl _,rfl,by unfold ew;simp only[sK];omega,⟨by unfold ew;simp only[sK];omega,rfl⟩⟩
    exact W ((S.q.pb.trans q5).le (by omega) (by omega))
   .simp[e0,e1,e6,g7,k4,hs0,gf,gm,aW.bD,aW.g1,aI.bD,aI.g3,htp];refine XM hA (by omega) λt' L' c3 r1 r2=>?_;have hc:cB (λo=>o=.dR) J G1 (J++[⟨false,t',2,L'.map cZ.enc⟩]) (λq=>if q=J.length then .dR else G1 q):=λq z hq _=>by
     have:=bL hq;exact⟨fF hq _,if_neg (by omega)⟩
    have hsl:Slot (J++[(⟨false,t',2,L'.map cZ.enc⟩:aH)]) (λq=>if q=J.length then .dR else G1 q) .dR 2 (.ref J.length t' 2 L'.length) (L'.map cZ.enc):=.inr ⟨J.length,t',by simp,by simp,by simp⟩;have E:∀q,(J++[(⟨false,t',2,L'.map cZ.enc⟩:aH)]).length<=q->(λq=>if q=J.length then a6.dR else G1 q) q=.bP:=λq hq=>by
     simp at hq;have:q≠J.length:=by omega
     simp only[if_neg this];exact S.q.aT.out q (by omega)
    have hmp:aI.mp {m1 with dR:=.ref J.length t' 2 L'.length}<=m1.mp:=by simp only[aI.mp,sK];omega
    obtain⟨s1,s3⟩:=S.q.aT.MX hsl hc E ⟨hb.o,hb.c,hb.g,by have:=hb.mp;omega,hb.bH,hb.ab,hb.af,hb.depth,hb.jI,hb.a1,hb.out⟩ λb hb=>hA2 b (r2 b hb);have hlm:=bL S.q.aT.hm;have gma:=λM K=>bT S.q.aT.hm M K;simp[gma,aI.bD,aI.p3];have hmono:eV m1 {m1 with dR:=.ref J.length t' 2 L'.length}:=⟨bB _,bB _,bB _,bB _,lU _,rfl⟩
    have q5:PE us cs J G1 pm tm pf tf m1 f1 L 0 0 _ _ {m1 with dR:=.ref J.length t' 2 L'.length} f1:=⟨s1,S.q.bI.kp hmono s3 (by simp) (by simp) (by simp),s3.mono λo ho=>⟨λe=>by subst e;exact ho (by simp[j1]),λe=>by subst e;exact ho (by simp[j1])⟩,hmono,bB _,rfl,by simp only;omega,⟨by omega,rfl⟩⟩
    exact W ((S.q.trans q5).le (by omega) (by omega)).pb
 .have gO:=λK=>aL T.ho K;have gk:=λK=>aL T.o K;have hOe:=T.e;have hkO:(k:Int)<(O.length:Int):=by have:=T.kl;omega
  by_cases hi0:0<=i
  .obtain⟨j,rfl⟩:=iY hi0;obtain⟨fd,hfd⟩:∃fd,F[j]?=some fd:=⟨_,bC (by omega)⟩
   obtain⟨pF,tF,u1,u2,u3,u4⟩:=T.yL S.q.aT hfd;have gF:=λK=>aL u2 K;by_cases hs0:0<s.aG.length
   .simp[e0,e6,e7,e9,g7,g8,k8,hs0,gm,aI.bD,aI.g4,hOe,gO,gk,fU,hvk,hkO,u1,gF,aL hfd,hi2];refine YM (T.v fd (bA hfd)) (by omega) hs3 λz c3 hz=>?_;have q5:=u4 z hz;simp[g8,gm,aI.bD,aI.g4,hOe,gO,gk,fU,hvk,u1,gF,aL hfd,hi2,M5];exact W ((S.q.trans (q5.pe S.q.bI)).le (by omega) (by omega)).pb
   .have hw:IntKind.i64.wrap ((j:Int)+1)=((j+1:Nat):Int):=by rw[wrap64 (by omega) (by have:=T.l;omega)];omega
    have gmA:=λM K=>bT S.q.aT.hm M K;have g8A:=λM K=>bT (LL.at_ (p:=p8) (ob:=vo t8 v) (by simp)) M K;have gFA:=λM K=>bT u2 M K;simp only[vo] at g8A;have hjl:j<=F.length:=by omega
    have hj1:j+1<=F.length:=by omega
    have hjn:¬(j:Int)+1<0:=by omega
    have hj0:(0:Int)<=(j:Int)+1:=by omega
    simp[e0,e6,e7,e9,g7,g8,k8,hs0,gm,gmA,g8A,gFA,aI.bD,aI.g4,hOe,gO,gk,fU,hvk,hkO,u1,hw,hjl,hj1,hj0,vS,wJ,pV];have eR:List.take j (F.map cH.enc)++List.take (F.length-(j+1)) (List.drop (j+1) (F.map cH.enc))=(F.take j++F.drop (j+1)).map cH.enc:=by
     have e1:List.take (F.length-(j+1)) (List.drop (j+1) (F.map cH.enc))=List.drop (j+1) (F.map cH.enc):=fJ (by simp);rw[e1];simp[zV,Q5]
    have eN:j+(F.length-(j+1))=(F.take j++F.drop (j+1)).length:=by simp;omega
    have hv2:∀z,z∈F.take j++F.drop (j+1)->m1.V z.jV:=λz hz=>by
     rcases dI.1 hz with h|h
     .exact T.v z (zT h)
     .exact T.v z (List.mem_of_mem_drop h)
    have hFl:=T.l;refine⟨by omega,by unfold mx;omega,by omega,by unfold mx;omega,?_⟩;rw[eR,eN];have hl2:(F.take j++F.drop (j+1)).length<=20000000000:=by rw[<-eN];omega
    generalize F.take j++F.drop (j+1)=F2 at hv2 hl2 ⊢;have hc:cB (λo=>o=.jH k) J G1 (J++[⟨false,Z+1+1,6,F2.map cH.enc⟩]) (λq=>if q=J.length then .jH k else G1 q):=λq z hq _=>by
     have:=bL hq;exact⟨fF hq _,if_neg (by omega)⟩
    have hsl:Slot (J++[(⟨false,Z+1+1,6,F2.map cH.enc⟩:aH)]) (λq=>if q=J.length then .jH k else G1 q) (.jH k) 6 (.ref J.length (Z+1+1) 6 F2.length) (F2.map cH.enc):=.inr ⟨J.length,Z+1+1,by simp,by simp,by simp⟩;have E:∀q,(J++[(⟨false,Z+1+1,6,F2.map cH.enc⟩:aH)]).length<=q->(λq=>if q=J.length then a6.jH k else G1 q) q=.bP:=λq hq=>by
     simp at hq;have:q≠J.length:=by omega
     simp only[if_neg this];exact S.q.aT.out q (by omega)
    have q5:=T.S8 S.q.aT hsl hc E hl2 hv2;have E:=λM K=>bT T.ho M K;simp[E,gk,fU,TW];exact W ((S.q.trans (q5.pe S.q.bI)).le (by omega) (by omega)).pb
  .simp[e6,e9,g7,k8,hi0];exact W S.q.pb
def unset_k {n} {x:aQ} {c} {K:aD} (hE:iS us cs n) (hP:fC us cs) (h:Lay us cs H G pm tm m) (Z:cY H G pf tf m f L) (J:NE x) (T:mH x) (W:m.bH<n)
  (k:∀H' G' m' f' E,PB us cs H G pm tm pf tf m f L 0 0 H' G' m' f' L->K (.aX []) H' E):bO aE 236 [.ptr pm tm 19 0 0,.ptr pf tf 7 0 0,.agg x.enc] H c K:=
 gL (unset_con hE hP h Z J T W) λr H' E ⟨T,G',m',f',J⟩=>by subst T;exact k H' G' m' f' E J
end
set_option maxRecDepth 100000
def aY.g0 (k:aY) (K:AV->Prop):aZ k.enc 0 K=K (.I k.kind):=by simp[aY.enc]
def aY.g3 (k:aY) (K:AV->Prop):aZ k.enc 3 K=K (.str k.n.bR):=by simp[aY.enc,aQ.dW]
def aY.g4 (k:aY) (K:AV->Prop):aZ k.enc 4 K=K (k.n.aP.av 4 aQ.enc):=by simp[aY.enc,aQ.dW]
def aY.g5 (k:aY) (K:AV->Prop):aZ k.enc 5 K=K (.I k.i):=by simp[aY.enc,aQ.dW]
def aY.g6 (k:aY) (K:AV->Prop):aZ k.enc 6 K=K (.I k.it.aJ):=by simp[aY.enc,aQ.dW,aO.dW]
def aY.g7 (k:aY) (K:AV->Prop):aZ k.enc 7 K=K (.I k.it.bN):=by simp[aY.enc,aQ.dW,aO.dW]
def aY.g10 (k:aY) (K:AV->Prop):aZ k.enc 10 K=K (k.it.bF.av 8 iW):=by simp[aY.enc,aQ.dW,aO.dW]
def aY.g11 (k:aY) (K:AV->Prop):aZ k.enc 11 K=K (.I k.dP):=by simp[aY.enc,aQ.dW,aO.dW]
def aY.d12 (k:aY):(k.enc.drop 12).take 5=k.v.enc:=by simp[aY.enc,aQ.dW,aO.dW]
def aY.all (k:aY):k.enc.take 17=k.enc:=fJ (by simp)
def aY.p5 (k:aY) (i:Int):aR k.enc 5 [.I i]=aY.enc {k with i:=i}:=by simp[aY.enc,aQ.dW,aO.dW,aR]
def T0 (a:aF AV) (k:aY) (h:a.length=17):aR a 0 k.enc=k.enc:=by have E:k.enc.length=17:=aY.len k;simp only[aR,List.take_zero,F0,oO,E];rw[LO (by omega),List.append_nil]
def zN:aQ:=.mk 0 0 [] .nil
@[simp] theorem sV_Next (k n:Int) s:(sV k n s).Next=0:=rfl
def putKH (k dP:Int) (v:aO):aR (aR (aR [.I 0,.I 0,.I 0,.str [],.aU,.I 0,.I 0,.I 0,.str [],.I 0,.aU,.I 0,.I 0,.I 0,.str [],.I 0,.aU] 0 [.I k]) 11 [.I dP]) 12 v.enc=aY.enc ⟨k,zN,0,sV 0 0 [],dP,v⟩:=by simp[aR,aY.enc,aQ.dW,aO.dW,zN,aQ.aP,aQ.aJ,aQ.bN,aQ.bR,SL.av]
def putK0 (k:Int):aR [.I 0,.I 0,.I 0,.str [],.aU,.I 0,.I 0,.I 0,.str [],.I 0,.aU,.I 0,.I 0,.I 0,.str [],.I 0,.aU] 0 [.I k]=aY.enc ⟨k,zN,0,sV 0 0 [],0,sV 0 0 []⟩:=by simp[aR,aY.enc,aQ.dW,iB,zN,aQ.aP,aQ.aJ,aQ.bN,aQ.bR,SL.av]
def putKI (k:Int) (n:aQ) (v:aO):aR (aR (aR [.I 0,.I 0,.I 0,.str [],.aU,.I 0,.I 0,.I 0,.str [],.I 0,.aU,.I 0,.I 0,.I 0,.str [],.I 0,.aU] 0 [.I k]) 1 n.enc) 6 v.enc=aY.enc ⟨k,n,0,v,0,sV 0 0 []⟩:=by simp[aR,aY.enc,aQ.dW,aO.dW,SL.av]
@[simp] theorem z17len (k:Int):(aR [.I 0,.I 0,.I 0,.str [],.aU,.I 0,.I 0,.I 0,.str [],.I 0,.aU,.I 0,.I 0,.I 0,.str [],.I 0,.aU] 0 [.I k]).length=17:=by simp[aR]
@[simp] theorem z17len2 (k h:Int):(aR (aR [.I 0,.I 0,.I 0,.str [],.aU,.I 0,.I 0,.I 0,.str [],.I 0,.aU,.I 0,.I 0,.I 0,.str [],.I 0,.aU] 0 [.I k]) 11 [.I h]).length=17:=by simp[aR]
@[simp] theorem z17len3 (k:Int) (n:aQ):(aR (aR [.I 0,.I 0,.I 0,.str [],.aU,.I 0,.I 0,.I 0,.str [],.I 0,.aU,.I 0,.I 0,.I 0,.str [],.I 0,.aU] 0 [.I k]) 1 n.enc).length=17:=by simp[aR,aQ.dW]
def ko (t:Nat) (k:aY):aH:=⟨false,t,17,[k.enc]⟩
def mS.BE {H:aC} {G:Nat->a6} {o:a6} {w:Nat} {a:AV} {aN:aF (aF AV)} (h:mS H G o w a aN) (K:AV->Prop):oV a K=K (.I aN.length):=by
 rcases h with⟨e,E⟩|⟨p,t,J,e,_⟩
 .subst E;rw[e];simp
 .rw[e];simp
section
variable {us:SL bU} {cs:SL bG} {H H' H'':aC} {G G' G'':Nat->a6} {pm tm pf tf:Nat} {m m' m'':aI} {f f' f'':aW} {L L' L'':aF aY} {a b a' b':Int}
def PB.dO (q:PB us cs H G pm tm pf tf m f L a b H' G' m' f' L') {l} (h:Loc H G l):Loc H' G' l:=λx E=>q.loc (h x E).1 (h x E).2
def PA.pb (h:PA us cs H G pm tm m b H' G' m') (E:cY H G pf tf m f L):PB us cs H G pm tm pf tf m f L 0 b H' G' m' f L:=(h.pe E).pb
def tS {y} (E:NE y):KP m (oD y):=⟨by simp,λ_=>E,by simp,by simp,by simp,by simp,by simp,.nil,.nil,by simp,by simp⟩
def V6 {dP:Int} {v:aO} (E:m.V v) (h:0<=dP/\dP<=4) (J:dP=4->v.aJ=6):KP m ⟨6,zN,0,sV 0 0 [],dP,v⟩:=⟨by simp,by simp,by simp,by simp,by simp,by simp,by simp,.nil,E,J,h⟩
def cY.VV (E:cY H G pf tf m f L) (K:AV->Prop):oV f.fL K=K (.I L.length):=by have:=E.p.fL.BE K;simpa using this
def cY.last {k:aY} (J:cY H G pf tf m f (L++[k])):∃p t R,f.fL=.ref p t 17 (L.length+1)/\H[p]?=some ⟨false,t,17,R⟩/\G p=.fL/\R[L.length]?=some k.enc/\∃E,R=(L++[k]).map aY.enc++E:=by obtain⟨p,t,E,Z,W,T⟩:=J.p.fL.at (i:=0) (aM:=(((L++[k]).map aY.enc)[0]'(by simp))) (bC _);exact⟨p,t,_,by rw[Z];simp,W,T,by simp,E,rfl⟩
def cY.DX (E:cY H G pf tf m f L) (J:0<=m.bH):L.length<=81000000/\0<=ew f L:=by have J:=O9 L;have J:=E.p.nC;have E:ew f L=f.env.ln+cw L:=rfl;omega
def EchQ (us:SL bU) (cs:SL bG) (H:aC) (G:Nat->a6) (pm tm:Nat) (m:aI) (r:AV) (H':aC) (_:Nat):Prop:=
 r=.aX []/\∃G' m',PA us cs H G pm tm m 0 H' G' m'
def echo_con {s:aA} {c0} (h:Lay us cs H G pm tm m) (hs:s.length<=1048576):cA aE 233 [.ptr pm tm 19 0 0,.str s] H c0 (EchQ us cs H G pm tm m):=by
 refine cO F233 ?_;unfold F233;have W:=λM K=>bT h.hm M K;have T:=λK=>aL h.hm K;have J:=aI.d7 m;have E:=aI.len m;have Z:=bL h.hm;simp[T,aI.bD,J,E];refine cV (YG h.b.out hs) λr T _ ⟨u,b,E,Z,_⟩=>⟨fB _,?_⟩
 subst E;have J:=(PA.refl h).app [⟨false,T,3,[u.enc]⟩];have E:eV m {m with out:=u}:=eV.of rfl rfl rfl rfl rfl (lU _);have T:=J.aT.wL (m':={m with out:=u}) (h.b.UN Z) E rfl rfl rfl rfl rfl rfl rfl rfl;have E:=J.trans T;cases b
 .simp[bW,W,aI.bD,aI.p7,dM.all];refine EM E.aT λJ J J=>?_;simp;exact dD ⟨rfl,_,_,(E.trans J).le (by omega)⟩
 .simp[bW,W,aI.bD,aI.p7,dM.all];exact dD ⟨rfl,_,_,E.le (by omega)⟩
def YH {s:aA} {c} {K:aD} (h:Lay us cs H G pm tm m) (hs:s.length<=1048576)
  (k:∀H' G' m' E,PA us cs H G pm tm m 0 H' G' m'->K (.aX []) H' E):bO aE 233 [.ptr pm tm 19 0 0,.str s] H c K:=
 gL (echo_con h hs) λr H' E ⟨T,G',m',J⟩=>by subst T;exact k H' G' m' E J
def UwQ (us:SL bU) (cs:SL bG) (H:aC) (G:Nat->a6) (pm tm pf tf:Nat) (m:aI) (f:aW) (L:aF aY) (r:AV) (H':aC) (_:Nat):Prop:=
 ∃b G' m' f' L',r=.bool b/\PB us cs H G pm tm pf tf m f L 0 0 H' G' m' f' L'/\m'.ab=m.ab
def unwind_con {dP:Int} {v:aO} {c0} (hP:fC us cs) (h:Lay us cs H G pm tm m) (hf:cY H G pf tf m f L) (h0:m.ab=0) (hv:m.V v) (hw:0<=dP/\dP<=4) (hv6:dP=4->v.aJ=6) (hr:m.mp+ew f L+1000<=1650000000000):
  cA aE 205 [.ptr pm tm 19 0 0,.ptr pf tf 7 0 0,.I dP,.agg v.enc] H c0 (UwQ us cs H G pm tm pf tf m f L):=by
 refine cO F205 ?_;unfold F205;have hfu:0<=m.bH:=h.b.af (by omega);have fin:∀{b:Bool} {H2:aC} {G2:Nat->a6} {m2:aI} {f2:aW} {L2:aF aY} {c:Nat},PB us cs H G pm tm pf tf m f L 0 0 H2 G2 m2 f2 L2->m2.ab=m.ab->cE (UwQ us cs H G pm tm pf tf m f L) (.bool b) H2 c:=λq e=>dD ⟨_,_,_,_,_,rfl,q,e⟩;simp;refine nE (λk e Hc c'=>∃(G1:Nat->a6) (f1:aW) (L1:aF aY),L1.length<=k/\PB us cs H G pm tm pf tf m f L 0 0 Hc G1 m f1 L1/\Loc Hc G1 [(H.length,vo c0 v)]/\e 0=.ptr pm tm 19 0 0/\e 1=.ptr pf tf 7 0 0/\e 2=.I dP/\e 7=.ptr H.length c0 5 0 0) _
  ⟨G,f,L,bB _,((PE.refl h hf).app [vo c0 v]).pb,Loc.nil.cons (by simp[vo]) (h.out _ (bB _)),rfl,rfl,rfl,rfl⟩ ?_
 intro k e Hc c ⟨G1,f1,L1,hLk,q,lv,e0,e1,e2,e7⟩ N hN;have gf0:=λK=>aL q.bI.hf K;have hcl:=λK=>q.bI.VV K;rcases List.eq_nil_or_concat L1 with h1|⟨L0,kr,h1⟩
 .subst h1;simp[e1,gf0,aW.bD,aW.g5,hcl];exact fin q rfl
 simp at h1;subst h1;obtain⟨pk,tk,R,x1,x2,x3,x4,x5⟩:=q.bI.last;have gk:=λK=>aL x2 K;have gkr:=λK=>aL x4 K;have hlb:=(q.bI.DX hfu).1;simp at hlb hLk;have hw1:IntKind.i64.wrap (L0.length:Int)=(L0.length:Int):=wrap64 (by omega) (by omega);have hlt1:(L0.length:Int)<(L0.length:Int)+1:=by omega
 have hlt0:0<(L0.length:Int)+1:=by omega
 have hkp:KP m kr:=q.bI.p.ks kr (by simp);have hkd:=hkp.kd;have q1:=q.app [ko c kr];have LL:=(lv.app [ko c kr]).cons (p:=Hc.length) (ob:=ko c kr) (by simp) (q.aT.out _ (bB _));have hzk:aR [.I 0,.I 0,.I 0,.str [],.aU,.I 0,.I 0,.I 0,.str [],.I 0,.aU,.I 0,.I 0,.I 0,.str [],.I 0,.aU] 0 kr.enc=kr.enc:=T0 _ _ rfl;have next:∀{H2:aC} {G2:Nat->a6} {f2:aW} {e':Env} {c':Nat},PB us cs (Hc++[ko c kr]) G1 pm tm pf tf m f1 (L0++[kr]) (-kr.w) (-kr.w) H2 G2 m f2 L0->e' 0=.ptr pm tm 19 0 0->e' 1=.ptr pf tf 7 0 0->e' 2=.I dP->e' 7=.ptr H.length c0 5 0 0->N e' H2 c':=λ{H2 G2 f2 e' c'} q2 f0 f1 f2 f7=>
  hN L0.length _ _ _ _ (by omega) (bY _) ⟨G2,_,L0,bB _,(q1.trans q2).le (by have:=r9 kr;omega) (by have:=r9 kr;omega),(q2.dO LL).sub (by simp),f0,f1,f2,f7⟩
 have g9:=λ{H2:aC} {G2:Nat->a6} (l:Loc H2 G2 [(Hc.length,ko c kr),(H.length,vo c0 v)]) (K:aH->Prop)=>aL (l.at_ (p:=Hc.length) (ob:=ko c kr) (by simp)) K;have g7:=λ{H2:aC} {G2:Nat->a6} (l:Loc H2 G2 [(Hc.length,ko c kr),(H.length,vo c0 v)]) (K:aH->Prop)=>aL (l.at_ (p:=H.length) (ob:=vo c0 v) (by simp)) K;simp only[ko,vo] at g9 g7;by_cases k4:kr.kind=4
 .simp[e1,e2,gf0,aW.bD,aW.g5,hlt0,x1,gk,gkr,hw1,hlt1,bW,aY.g0,aY.all,hzk,k4];refine tI q1.aT q1.bI rfl hfu λH2 G2 f2 c2 q2=>?_;have LL2:=q2.dO LL;have gk9:=g9 LL2;have gv7:=g7 LL2;have hw4:kr.w=4:=by simp[aY.w,k4]
  by_cases hh:dP=4
  .obtain⟨hk0,hk1⟩:=hv.ok.o6 (hv6 hh);obtain⟨j,hj⟩:=iY hk0;rw[hj] at hk1;obtain⟨pO,tO,O,cl,a,F,hob,hne⟩:=q2.aT.obj (k:=j) (by omega);have gm2:=λK=>aL q2.aT.hm K;have gO:=λK=>aL hob.ho K;have go:=λK=>aL hob.o K;have hOe:=hob.e;have hkO:(j:Int)<(O.length:Int):=by have:=hob.kl;omega
   simp[e0,e2,e7,hh,gk9,gv7,aY.g0,aY.g3,k4,gm2,aI.bD,aI.g1,aI.g4,q2.aT.cs,hj,hOe,gO,go,fU,hkO];refine hJ (SD (by have:=hP.l;omega)) λb c3 _=>?_;cases b
   .simp[gk9,aY.g0,k4];exact next q2 (e0) (e1) (by simp[aK,e2,hh]) (e7)
   .obtain⟨z,w,hzw,hz4,hw48⟩:=(hkp.n (by omega)).v.sh.ZU (hkp.ca k4);have hz0:kr.n.aP.aG[0]?=some z:=by rw[hzw];rfl
    have hz1:kr.n.aP.aG[1]?=some w:=by rw[hzw];rfl
    have hn:=(hkp.n (by omega))
    have p1:=q1.fp;have p2:=q2.fp;have p3:=q1.mp.1;have p4:=q2.mp.1;have p5:=hf.p.nC;have p6:=(q2.bI.DX hfu).2;simp[e0,e1,e7,gk9,gv7,aY.g4,aL hz0];refine C9 q2.aT q2.bI hv (by omega) (by omega) λH3 G3 a3 b3 f3 c3 q3=>?_;have gk3:=g9 (q3.dO LL2);simp[e1,gk3,aY.g4,aL hz1];rw[pL];have p7:=q3.pb.fp;refine sE (k:=oD w) q3.aT q3.bI (tS (hn.get hz1)) (by simp[aY.w];simp only at p7;omega) (by simpa using hfu) λH4 G4 f4 c4 q4=>?_;simp;have hwr:((oD w).w:Int)=1:=by simp[aY.w]
    exact fin (((q1.trans q2).trans (q3.pb.trans q4)).le (by omega) (by omega)) rfl
  .simp[e2,hh,gk9,aY.g0,k4];exact next q2 (e0) (e1) (e2) (e7)
 by_cases k5:kr.kind=5
 .simp[e1,e2,gf0,aW.bD,aW.g5,hlt0,x1,gk,gkr,hw1,hlt1,bW,aY.g0,aY.all,hzk,k5];refine tI q1.aT q1.bI rfl hfu λH2 G2 f2 c2 q2=>?_;have LL2:=q2.dO LL;have gk9:=g9 LL2;have gv7:=g7 LL2;have hw4:kr.w=4:=by simp[aY.w,k5]
  obtain⟨w,hzw,hw48⟩:=(hkp.n (by omega)).v.sh.fin (hkp.fi k5);have hz0:kr.n.aP.aG[0]?=some w:=by rw[hzw];rfl
  have hn:=(hkp.n (by omega))
  have p1:=q1.fp;have p2:=q2.fp;have p5:=hf.p.nC;simp[e1,e2,e7,gk9,gv7,aY.g0,k5];rw[putKH];refine sE (k:=⟨6,zN,0,sV 0 0 [],dP,v⟩) q2.aT q2.bI (V6 hv hw hv6) (by simp[aY.w];omega) hfu λH3 G3 f3 c3 q3=>?_;have gk3:=g9 (q3.dO LL2);have p7:=q3.fp;simp[aY.w] at p7;simp[e1,gk3,aY.g4,aL hz0];rw[pL];refine sE (k:=oD w) q3.aT q3.bI (tS (hn.get hz0)) (by simp[aY.w];omega) hfu λH4 G4 f4 c4 q4=>?_;simp;have hwr:((oD w).w:Int)=1:=by simp[aY.w]
  have hwr2:((⟨6,zN,0,sV 0 0 [],dP,v⟩:aY).w:Int)=1:=by simp[aY.w]
  exact fin (((q1.trans q2).trans (q3.trans q4)).le (by omega) (by omega)) rfl
 by_cases kl:kr.kind=2\/kr.kind=3
 .by_cases hh2:dP=2
  .rcases kl with kl|kl
   all_goals
    simp[e1,e2,gf0,aW.bD,aW.g5,hlt0,x1,gk,gkr,hw1,hlt1,bW,aY.g0,aY.all,hzk,kl,hh2];exact fin q1 rfl
  .by_cases hh1:dP=1
   .rcases kl with kl|kl
    all_goals
     simp[e1,e2,gf0,aW.bD,aW.g5,hlt0,x1,gk,gkr,hw1,hlt1,bW,aY.g0,aY.all,hzk,kl,hh1];refine tI q1.aT q1.bI rfl hfu λH2 G2 f2 c2 q2=>?_;simp[e2,hh1];have:=r9 kr;exact fin ((q1.trans q2).le (by omega) (by omega)) rfl
   .rcases kl with kl|kl
    all_goals
     simp[e1,e2,gf0,aW.bD,aW.g5,hlt0,x1,gk,gkr,hw1,hlt1,bW,aY.g0,aY.all,hzk,kl,hh2];refine tI q1.aT q1.bI rfl hfu λH2 G2 f2 c2 q2=>?_;have gk9:=g9 (q2.dO LL);simp[e2,gk9,aY.g0,kl,hh1];exact next q2 (e0) (e1) (e2) (e7)
 .have kl2:¬kr.kind=2:=λe=>kl (.inl e);have kl3:¬kr.kind=3:=λe=>kl (.inr e);simp[e1,e2,gf0,aW.bD,aW.g5,hlt0,x1,gk,gkr,hw1,hlt1,bW,aY.g0,aY.all,hzk,kl2,kl3];refine tI q1.aT q1.bI rfl hfu λH2 G2 f2 c2 q2=>?_;have gk9:=g9 (q2.dO LL);simp[gk9,aY.g0,k4,k5];exact next q2 (e0) (e1) (e2) (e7)
def unwind_k {dP:Int} {v:aO} {c} {K:aD} (hP:fC us cs) (h:Lay us cs H G pm tm m) (hf:cY H G pf tf m f L) (h0:m.ab=0) (W:m.V v) (T:0<=dP/\dP<=4) (E:dP=4->v.aJ=6) (Z:m.mp+ew f L+1000<=1650000000000)
  (k:∀b H' G' m' f' L' J,PB us cs H G pm tm pf tf m f L 0 0 H' G' m' f' L'->aI.ab m'=m.ab->K (.bool b) H' J):bO aE 205 [.ptr pm tm 19 0 0,.ptr pf tf 7 0 0,.I dP,.agg v.enc] H c K:=
 gL (unwind_con hP h hf h0 W T E Z) λr H' J ⟨b,G',m',f',L',W,T,E⟩=>by subst W;exact k b H' G' m' f' L' J T E
def cY.TB (h:Lay us cs H G pm tm m) {k W:aY} (J:cY H G pf tf m f (L++[k])) {p t:Nat} {R rs:aF (aF AV)} (x1:f.fL=.ref p t 17 (L.length+1)) (E:H[p]?=some ⟨false,t,17,R⟩) (x3:G p=.fL) (x5:R=(L++[k]).map aY.enc++rs) (hk2:KP m W) (hw:W.w=k.w):
  PB us cs H G pm tm pf tf m f (L++[k]) 0 0 (H.set p ⟨false,t,17,R.set L.length W.enc⟩) G m f (L++[W]):=by
 have Z:=bL E;have kk:cB (λx=>x=.fL) H G (H.set p ⟨false,t,17,R.set L.length W.enc⟩) G:=cB.set (S:=λx=>x=.fL) _ x3;obtain⟨E,hE,hE2⟩:=J.p.env;obtain⟨hf',T⟩:=kk pf _ J.hf (by rw[J.gf];simp);have T:ew f (L++[W])=ew f (L++[k]):=by unfold ew;rw[BZ,BZ,hw]
 refine⟨h.kp (kk.kp λo W e=>by subst e;exact W) (wP h.out _ _),⟨hf',J.gf,⟨⟨E,hE.kp kk (by simp),hE2⟩,?_,λz E=>?_,by rw[T];exact J.p.nC,J.p.this⟩⟩,kk.mono λo W=>by subst W;simp[j1],.refl _,rfl,by rw[T];omega,by rw[T];omega⟩
 .refine .inr ⟨p,t,rs,by rw[x1];simp,?_,x3⟩;rw[eP Z,x5];simp
 .rcases dI.1 E with E|E
  .exact J.p.ks z (by simp[E])
  .simp at E;subst E;exact hk2
def QL (us:SL bU) (cs:SL bG) (H:aC) (G:Nat->a6) (pm tm pf tf:Nat) (m:aI) (f:aW) (L:aF aY) (r:AV) (H':aC) (_:Nat):Prop:=
 r=.aX []/\∃G' m' f' L',PB us cs H G pm tm pf tf m f L (-10) (-10) H' G' m' f' L'
structure NxS (us:SL bU) (cs:SL bG) (H:aC) (G:Nat->a6) (pm tm pf tf:Nat) (m:aI) (f:aW) (L:List aY) (k:aY) (c0 t6 t7 p6:Nat) (Hc:aC) (m1:aI) (key v:aO) (G1:Nat->a6):Prop where
 q:PE us cs H G pm tm pf tf m f L (-4000) (-800000) Hc G1 m1 f
 ab:m1.ab=0
 fu:m1.bH<m.bH
 l:Loc Hc G1 [(H.length,ko c0 k),(p6,vo t6 key),(p6+1,vo t7 v)]
 p:H.length+1<=p6
 hk:m1.V key
 hv:m1.V v
def next_con {n} {k:aY} {L0} {c0} (hR:iR us cs n) (hP:fC us cs) (h:Lay us cs H G pm tm m) (hf:cY H G pf tf m f L) (hL:L=L0++[k]) (hk3:k.kind=3) (h0:m.ab=0) (hn:m.bH<(n+1:Nat)):
  cA aE 204 [.ptr pm tm 19 0 0,.ptr pf tf 7 0 0,.agg k.enc] H c0 (QL us cs H G pm tm pf tf m f L):=by
 refine cO F204 ?_;unfold F204;have hfu:0<=m.bH:=h.b.af (by omega);have hkp:KP m k:=hf.p.ks k (by rw[hL];simp);have hno:=hkp.n (by omega);obtain⟨⟨hl1,hl2⟩,hkid⟩:=hno.v.sh.each (hkp.e hk3);have hmb:=h.b.mp;have hb:=h.b.bH;have fin:∀{H2:aC} {G2:Nat->a6} {m2:aI} {f2:aW} {L2:aF aY} {c:Nat},PB us cs H G pm tm pf tf m f L (-10) (-10) H2 G2 m2 f2 L2->cE (QL us cs H G pm tm pf tf m f L) (.aX []) H2 c:=λq=>dD ⟨rfl,_,_,_,_,q⟩;have L00:Loc (H++[ko c0 k]) G [(H.length,ko c0 k)]:=Loc.nil.cons (by simp) (h.out _ (bB _));show cC aE (IR.seq _ (IR.seq _ (IR.seq _ (IR.seq _ (IR.seq _ (IR.seq _ (IR.seq _ (IR.seq _ _)))))))) _ _ _ _;rw[dT,dT,dT,dT,dT,dT];refine gK (λe Hc c'=>∃(b:Bool) (t6 t7 p6:Nat) (m1:aI) (key v:aO) (G1:Nat->a6),NxS us cs H G pm tm pf tf m f L k c0 t6 t7 p6 Hc m1 key v G1/\e 0=.ptr pm tm 19 0 0/\e 1=.ptr pf tf 7 0 0/\e 5=.ptr H.length c0 17 0 0/\e 6=.ptr p6 t6 5 0 0/\e 7=.ptr (p6+1) t7 5 0 0/\e 8=.bool b) ?_ ?_;rotate_left
 .intro K hK;simp;refine GY (h.app _) h0 λH1 c1 q=>?_;have gm1:=λM K=>bT q.aT.hm M K;have gm10:=λK=>aL q.aT.hm K;have L1:=q.dO L00;have q1:=GX q.gU hf rfl;have hfk:=yG m;rcases GZ m h0 with⟨ta,tf0⟩|ta;rotate_left
  .simp[gm10,aI.bD,aI.g12,ta];exact fin (q1.pb.le (by omega) (by omega))
  have L2:=((L1.app [zo c1,zo (c1+1)]).cons (p:=H1.length) (ob:=zo c1) (by simp) (q.aT.out _ (bB _))).cons (p:=H1.length+1) (ob:=zo (c1+1)) (by simp) (q.aT.out _ (by omega));have q2:=q1.app [zo c1,zo (c1+1)];have hH1:=bL (L1.at_ (p:=H.length) (ob:=ko c0 k) (by simp));have gk:=λM K=>bT (L1.at_ (p:=H.length) (ob:=ko c0 k) (by simp)) M K;simp only[ko] at gk;have done_:∀(b:Bool) (m1:aI) (key v:aO) (H5:aC) (G1:Nat->a6) (e:Env) (c':Nat),PE us cs H G pm tm pf tf m f L (-4000) (-800000) H5 G1 m1 f->m1.ab=0->m1.bH<m.bH->Loc H5 G1 [(H1.length+1,vo (c1+1) v),(H1.length,vo c1 key),(H.length,ko c0 k)]->m1.V key->m1.V v->
    e 0=.ptr pm tm 19 0 0->e 1=.ptr pf tf 7 0 0->e 5=.ptr H.length c0 17 0 0->e 6=.ptr H1.length c1 5 0 0->e 7=.ptr (H1.length+1) (c1+1) 5 0 0->e 8=.bool b->K e H5 c':=
   λb m1 key v H5 G1 e c' u1 u2 u3 u4 u5 u6 f0 f1 f5 f6 f7 f8=>hK _ _ _ ⟨b,c1,c1+1,H1.length,m1,key,v,G1,⟨u1,u2,u3,u4.sub (by simp),hH1,u5,u6⟩,f0,f1,f5,f6,f7,f8⟩
  by_cases k4:k.it.aJ=4
  .by_cases hki:k.i<(k.it.bF.aG.length:Int)
   .obtain⟨j,hj⟩:=iY hkp.i.1;rw[hj] at hki;obtain⟨x,hx⟩:∃x,k.it.bF.aG[j]?=some x:=⟨_,bC (by omega)⟩
    obtain⟨hxk,hxv⟩:=hkp.it.get hx;simp[gm10,aI.bD,aI.g12,ta,z5,bW,cM,gk,aY.g6,aY.g5,aY.g10,k4,hj,hki,aL hx];refine nT (WA (o:=m.bS.ln) (c:=m.b9.ln) (g:=m.cJ.ln) hxk) λkey c2 _ hkey=>?_;simp[bW,cM,gk,aY.g5,aY.g10,hj,aL hx];have mt:=IM m;refine done_ true m.tick key x.2 _ G _ _ (q1.le (by omega) (by omega) |>.app [vo c1 key,vo (c1+1) x.2]) ta (by omega) ?_ (aI.V.mono (m:=m) hkey.1 mt) (aI.V.mono (m:=m) hxv mt) ?_ ?_ ?_ ?_ ?_ ?_
    .exact((L1.app [vo c1 key,vo (c1+1) x.2]).cons (p:=H1.length) (ob:=vo c1 key) (by simp) (q.aT.out _ (bB _))).cons (p:=H1.length+1) (ob:=vo (c1+1) x.2) (by simp) (q.aT.out _ (by omega))
    all_goals simp[aK]
   .simp[gm10,aI.bD,aI.g12,ta,z5,bW,cM,gk,aY.g6,aY.g5,aY.g10,k4,hki];refine done_ false m.tick (sV 0 0 []) (sV 0 0 []) _ G _ _ (q1.le (by omega) (by omega) |>.app [vo c1 (sV 0 0 []),vo (c1+1) (sV 0 0 [])]) ta (by omega) ?_ .nil .nil ?_ ?_ ?_ ?_ ?_ ?_
    .exact((L1.app [vo c1 (sV 0 0 []),vo (c1+1) (sV 0 0 [])]).cons (p:=H1.length) (ob:=vo c1 (sV 0 0 [])) (by simp) (q.aT.out _ (bB _))).cons (p:=H1.length+1) (ob:=vo (c1+1) (sV 0 0 [])) (by simp) (q.aT.out _ (by omega))
    all_goals simp[aK]
  by_cases k8:k.it.aJ=8;rotate_left
  .simp[gm10,aI.bD,aI.g12,ta,z5,bW,cM,gk,aY.g6,k4,k8];refine done_ false m.tick (sV 0 0 []) (sV 0 0 []) _ G _ _ (q1.le (by omega) (by omega) |>.app [vo c1 (sV 0 0 []),vo (c1+1) (sV 0 0 [])]) ta (by omega) ?_ .nil .nil ?_ ?_ ?_ ?_ ?_ ?_
   .exact((L1.app [vo c1 (sV 0 0 []),vo (c1+1) (sV 0 0 [])]).cons (p:=H1.length) (ob:=vo c1 (sV 0 0 [])) (by simp) (q.aT.out _ (bB _))).cons (p:=H1.length+1) (ob:=vo (c1+1) (sV 0 0 [])) (by simp) (q.aT.out _ (by omega))
   all_goals simp[aK]
  obtain⟨hk0,hk1⟩:=hkp.it.ok.o8 k8;obtain⟨j,hj⟩:=iY hk0;rw[hj] at hk1;have mt:=IM m;have hjl:j<m.tick.cJ.ln:=by have:=mt.g;omega
  obtain⟨p,t,Lg,g,w1,w2,w3,w4,w5,w6,w7⟩:=q.aT.gen hjl;have gg:=λM K=>bT w3 M K;have gr:=λK=>aL w6 K;have hjL:(j:Int)<(Lg.length:Int):=by omega
  have q2':=q.gU.app [zo c1,zo (c1+1)];have L3:Loc (H1++[zo c1,zo (c1+1)]) G [(H1.length+1,zo (c1+1)),(H1.length,zo c1),(H.length,ko c0 k)]:=L2;simp only[fS] at q2' q2 L3;by_cases hs2:g.state=2
  .simp[gm1,gm10,aI.bD,aI.g12,aI.g6,ta,z5,bW,cM,gk,aY.g6,aY.g7,k8,hj,w1,hjL,gg,gr,cQ.g7,hs2];refine jT q2'.aT hP ta (by simp) λH5 G5 m5 c5 q5=>?_;simp;exact fin ((q2.trans (q5.pe q2.bI)).pb.le (by omega) (by omega))
  have rest:∀{H5:aC} {G5:Nat->a6} {m5:aI},PA us cs (H1++[⟨false,c1,5,[(sV 0 0 []).enc]⟩,⟨false,c1+1,5,[(sV 0 0 []).enc]⟩]) G pm tm m.tick 81100000 H5 G5 m5->
    PE us cs H G pm tm pf tf m f L (-4000) (-800000) H5 G5 m5 f/\Loc H5 G5 [(H1.length+1,⟨false,c1+1,5,[(sV 0 0 []).enc]⟩),(H1.length,⟨false,c1,5,[(sV 0 0 []).enc]⟩),(H.length,ko c0 k)]:=λq5=>
   ⟨(q2.trans (q5.pe q2.bI)).le (by omega) (by omega),q5.dO L3⟩
  have g567:∀{H5:aC} {G5:Nat->a6},Loc H5 G5 [(H1.length+1,⟨false,c1+1,5,[(sV 0 0 []).enc]⟩),(H1.length,⟨false,c1,5,[(sV 0 0 []).enc]⟩),(H.length,ko c0 k)]->(∀K,aZ H5 H.length K=K ⟨false,c0,17,[k.enc]⟩)/\(∀K,aZ H5 H1.length K=K ⟨false,c1,5,[(sV 0 0 []).enc]⟩)/\(∀K,aZ H5 (H1.length+1) K=K ⟨false,c1+1,5,[(sV 0 0 []).enc]⟩)/\H1.length<H5.length/\G5 H1.length=.bP:=λl=>
   ⟨λK=>aL (l.at_ (p:=H.length) (ob:=ko c0 k) (by simp)) K,λK=>aL (l.at_ (p:=H1.length) (ob:=⟨false,c1,5,[(sV 0 0 []).enc]⟩) (by simp)) K,λK=>aL (l.at_ (p:=H1.length+1) (ob:=⟨false,c1+1,5,[(sV 0 0 []).enc]⟩) (by simp)) K,bL (l.at_ (p:=H1.length) (ob:=⟨false,c1,5,[(sV 0 0 []).enc]⟩) (by simp)),l.ot (p:=H1.length) (ob:=⟨false,c1,5,[(sV 0 0 []).enc]⟩) (by simp)⟩
  have hpmH:=bL h.hm;have after:∀{H5:aC} {G5:Nat->a6} {m5:aI},PA us cs (H1++[⟨false,c1,5,[(sV 0 0 []).enc]⟩,⟨false,c1+1,5,[(sV 0 0 []).enc]⟩]) G pm tm m.tick 81100000 H5 G5 m5->
    ∃(p5 t5:Nat) (Lg5:aF cQ) (g5:cQ),m5.cJ=.ref p5 t5 13 Lg5.length/\(j:Int)<(Lg5.length:Int)/\(∀K,aZ H5 p5 K=K ⟨false,t5,13,Lg5.map cQ.enc⟩)/\(∀K,aZ (Lg5.map cQ.enc) j K=K g5.enc)/\m5.V g5.cur/\(∀K,aZ H5 H.length K=K ⟨false,c0,17,[k.enc]⟩)/\(∀K,aZ H5 H1.length K=K ⟨false,c1,5,[(sV 0 0 []).enc]⟩)/\H1.length<H5.length/\(∀K,aZ H5 pm K=K (m5.ob tm))/\
     (∀X K,aZ (H5.set H1.length X) pm K=K (m5.ob tm))/\(∀X K,aZ (H5.set H1.length X) p5 K=K ⟨false,t5,13,Lg5.map cQ.enc⟩)/\∀X K,aZ (H5.set H1.length X) (H1.length+1) K=K ⟨false,c1+1,5,[(sV 0 0 []).enc]⟩:=λ{H5 G5 m5} q5=>by
   have:=q5.mono.g;obtain⟨p5,t5,Lg5,g5,v1,v2,v3,v4,v5,v6,v7⟩:=q5.aT.gen (k:=j) (by omega);obtain⟨k5,k6,k7,l6,o6⟩:=g567 (q5.dO L3);have hne:p5≠H1.length:=λe=>by rw[e,o6] at v4;cases v4
   refine⟨p5,t5,Lg5,g5,v1,by omega,λK=>aL v3 K,λK=>aL v6 K,(v7 j g5 v5).v,k5,k6,l6,λK=>aL q5.aT.hm K,λX K=>?_,λX K=>?_,λX K=>?_⟩
   .rw[rJ (by omega)];exact aL q5.aT.hm K
   .rw[rJ hne];exact aL v3 K
   .rw[rJ (by omega)];exact k7 K
  have vk:∀{m5:aI},m5.V (sV 2 k.i []):=λ{m5}=>VM.sc (by omega) (by have:=hkp.i.2.2 hk3;have:=hkp.i.1;omega) (by simp);have tail_:∀{H5:aC} {G5:Nat->a6} {m5:aI} {c5:Nat} {e':Env},PA us cs (H1++[⟨false,c1,5,[(sV 0 0 []).enc]⟩,⟨false,c1+1,5,[(sV 0 0 []).enc]⟩]) G pm tm m.tick 81100000 H5 G5 m5->m5.ab=0->∀(v:aO) (b:Bool),m5.V v->e' 0=.ptr pm tm 19 0 0->e' 1=.ptr pf tf 7 0 0->e' 5=.ptr H.length c0 17 0 0->e' 6=.ptr H1.length c1 5 0 0->e' 7=.ptr (H1.length+1) (c1+1) 5 0 0->e' 8=.bool b->
    K e' ((H5.set H1.length ⟨false,c1,5,[(sV 2 k.i []).enc]⟩).set (H1.length+1) ⟨false,c1+1,5,[v.enc]⟩) c5:=λ{H5 G5 m5 c5 e'} q5 h5 v b hv f0 f1 f5 f6 f7 f8=>by
   obtain⟨r1,r2⟩:=rest q5;have o6:=r2.ot (p:=H1.length) (ob:=⟨false,c1,5,[(sV 0 0 []).enc]⟩) (by simp);have o7:=r2.ot (p:=H1.length+1) (ob:=⟨false,c1+1,5,[(sV 0 0 []).enc]⟩) (by simp);have ok:=r2.ot (p:=H.length) (ob:=ko c0 k) (by simp);have lk:=r2.at_ (p:=H.length) (ob:=ko c0 k) (by simp);have l7:=bL (r2.at_ (p:=H1.length+1) (ob:=⟨false,c1+1,5,[(sV 0 0 []).enc]⟩) (by simp));refine done_ b m5 (sV 2 k.i []) v _ G5 _ _ ((r1.eZ (by omega) o6 _).eZ (by omega) o7 _) h5 (by have:=q5.mono.f;omega) ?_ vk hv f0 f1 f5 f6 f7 f8;refine((Loc.nil.cons (p:=H.length) (ob:=ko c0 k) ?_ ok).cons (p:=H1.length) (ob:=vo c1 (sV 2 k.i [])) ?_ o6).cons (p:=H1.length+1) (ob:=vo (c1+1) v) ?_ o7
   .exact eC (eC lk (by omega) _) (by omega) _
   .exact eC (eP (by omega)) (by omega) _
   .exact eP (by simpa using l7)
  have hst:∀pp tt LL gg,m.tick.cJ=.ref pp tt 13 (List.length LL)->(H1++[(⟨false,c1,5,[(sV 0 0 []).enc]⟩:aH),⟨false,c1+1,5,[(sV 0 0 []).enc]⟩])[pp]?=some ⟨false,tt,13,LL.map cQ.enc⟩->LL[j]?=some gg->gg.state=g.state:=λpp tt LL gg y1 y2 y3=>W9 w1 (fF w3 _) w5 y1 y2 y3;have go3:∀{H5:aC} {G5:Nat->a6} {m5:aI} {c5:Nat},PA us cs (H1++[⟨false,c1,5,[(sV 0 0 []).enc]⟩,⟨false,c1+1,5,[(sV 0 0 []).enc]⟩]) G pm tm m.tick 81100000 H5 G5 m5->cE (QL us cs H G pm tm pf tf m f L) (.aX []) H5 c5:=λq5=>fin ((rest q5).1.pb.le (by omega) (by omega));by_cases hgo:g.state=0\/(g.state=1/\0<k.i)
  .have hst1:g.state=0\/g.state=1:=hgo.imp id And.left;have go2:∀{K2:aD} {c2:Nat},(∀H' G' m' c',PA us cs (H1++[⟨false,c1,5,[(sV 0 0 []).enc]⟩,⟨false,c1+1,5,[(sV 0 0 []).enc]⟩]) G pm tm m.tick 81100000 H' G' m'->K2 (.aX []) H' c')->bO aE 251 [.ptr pm tm 19 0 0,.I j,.agg (sV 0 0 []).enc] (H1++[⟨false,c1,5,[(sV 0 0 []).enc]⟩,⟨false,c1+1,5,[(sV 0 0 []).enc]⟩]) c2 K2:=λkk=>
    TM (k:=j) hR q2'.aT ta .nil hjl (λpp tt LL gg y1 y2 y3=>by rw[hst pp tt LL gg y1 y2 y3];exact hst1) (by have:=q.mp.1;omega) (by omega) kk
   rcases hgo with hs0|⟨hs0,hki⟩
   all_goals
    first
     |simp[gm1,gm10,aI.bD,aI.g12,aI.g6,ta,z5,bW,cM,gk,aY.g6,aY.g7,aY.g5,k8,hj,w1,hjL,gg,gr,cQ.g7,hs0,hki]
     |simp[gm1,gm10,aI.bD,aI.g12,aI.g6,ta,z5,bW,cM,gk,aY.g6,aY.g7,k8,hj,w1,hjL,gg,gr,cQ.g7,hs0]
    refine go2 λH5 G5 m5 c5 q5=>?_;have gm5:=λK=>aL q5.aT.hm K;by_cases h5:m5.ab=0;rotate_left
    .simp[gm5,aI.bD,aI.g12,h5];exact go3 q5
    obtain⟨p5,t5,Lg5,g5,x1,x2,x3,x4,x5,x6,x7,x8,x9,y1,y2,y3⟩:=after q5;simp[gm5,aI.bD,aI.g12,aI.g6,h5,x1,x2,x3,x4,cQ.g7,x6,aY.g5];refine cX (pT k.i) (fB _) λc6 _=>?_;simp[x7,y1,aI.bD,aI.g6,x1,x2,y2,x4,cQ.d8,y3];refine tail_ q5 h5 g5.cur (decide (g5.state=1)) x5 ?_ ?_ ?_ ?_ ?_ ?_<;>simp[aK]
  .obtain⟨hn0,hn1⟩:=not_or.1 hgo;have hv7:=(w7 j g w5).v;have LL:Loc (H1++[vo c1 (sV 2 k.i []),vo (c1+1) g.cur]) G [(H1.length+1,vo (c1+1) g.cur),(H1.length,vo c1 (sV 2 k.i [])),(H.length,ko c0 k)]:=((L1.app _).cons (p:=H1.length) (ob:=vo c1 (sV 2 k.i [])) (by simp) (q.aT.out _ (bB _))).cons (p:=H1.length+1) (ob:=vo (c1+1) g.cur) (by simp) (q.aT.out _ (by omega));have qq:=(q1.le (a':=-4000) (b':=-800000) (by omega) (by omega)).app [vo c1 (sV 2 k.i []),vo (c1+1) g.cur];by_cases hs1:g.state=1
   .have hki:¬0<k.i:=λe=>hn1 ⟨hs1,e⟩;simp[gm1,gm10,aI.bD,aI.g12,aI.g6,ta,z5,bW,cM,gk,aY.g6,aY.g7,aY.g5,k8,hj,w1,hjL,gg,gr,cQ.g7,hs1,hki];refine cX (pT k.i) (fB _) λc6 _=>?_;simp[gm1,aI.bD,aI.g6,bW,cM,w1,hjL,gg,gr,cQ.d8];refine done_ true m.tick (sV 2 k.i []) g.cur _ G _ _ qq ta (by omega) LL vk hv7 ?_ ?_ ?_ ?_ ?_ ?_<;>simp[aK]
   .simp[gm1,gm10,aI.bD,aI.g12,aI.g6,ta,z5,bW,cM,gk,aY.g6,aY.g7,aY.g5,k8,hj,w1,hjL,gg,gr,cQ.g7,hn0,hs1,hs2];refine cX (pT k.i) (fB _) λc6 _=>?_;simp[gm1,aI.bD,aI.g6,bW,cM,w1,hjL,gg,gr,cQ.d8];refine done_ false m.tick (sV 2 k.i []) g.cur _ G _ _ qq ta (by omega) LL vk hv7 ?_ ?_ ?_ ?_ ?_ ?_<;>simp[aK]
 intro e Hc c ⟨b,t6,t7,p6,m1,key,v,G1,S,e0,e1,e5,e6,e7,e8⟩;have q:=S.q;have hfu1:0<=m1.bH:=q.aT.b.af (by have:=S.ab;omega);have g5:=λ{H2:aC} {G2:Nat->a6} (l:Loc H2 G2 [(H.length,ko c0 k),(p6,vo t6 key),(p6+1,vo t7 v)]) (K:aH->Prop)=>aL (l.at_ (p:=H.length) (ob:=ko c0 k) (by simp)) K;have g6:=λ{H2:aC} {G2:Nat->a6} (l:Loc H2 G2 [(H.length,ko c0 k),(p6,vo t6 key),(p6+1,vo t7 v)]) (K:aH->Prop)=>aL (l.at_ (p:=p6) (ob:=vo t6 key) (by simp)) K;have g7:=λ{H2:aC} {G2:Nat->a6} (l:Loc H2 G2 [(H.length,ko c0 k),(p6,vo t6 key),(p6+1,vo t7 v)]) (K:aH->Prop)=>aL (l.at_ (p:=p6+1) (ob:=vo t7 v) (by simp)) K;simp only[ko,vo] at g5 g6 g7;have hq1:=q.fp;have hq2:=q.mp.1;have hpot:=hf.p.nC;have hew:ew f L=f.env.ln+cw L:=rfl;have hcwk:cw L=cw L0+k.w:=by rw[hL,BZ]
 have hw1:k.w=1:=by simp[aY.w,hk3]
 cases b
 .simp[e1,e8];refine tI q.aT q.bI hL hfu1 λH2 G2 f2 c2 q2=>?_;simp;exact fin ((q.pb.trans q2).le (by omega) (by omega))
 have g5a:=g5 S.l;have g6a:=g6 S.l;have g7a:=g7 S.l;obtain⟨kv,hkv⟩:∃kv,k.n.aP.aG[k.n.aP.aG.length-2]?=some kv:=⟨_,bC (by omega)⟩
 obtain⟨kb,hkb⟩:∃kb,k.n.aP.aG[k.n.aP.aG.length-1]?=some kb:=⟨_,bC (by omega)⟩
 obtain⟨k1,hk1⟩:∃k1,k.n.aP.aG[1]?=some k1:=⟨_,bC (by omega)⟩
 have hwl2:IntKind.i64.wrap ((k.n.aP.aG.length:Int)-2)=((k.n.aP.aG.length-2:Nat):Int):=by rw[wrap64 (by omega) (by omega)];omega
 have hwl1:IntKind.i64.wrap ((k.n.aP.aG.length:Int)-1)=((k.n.aP.aG.length-1:Nat):Int):=by rw[wrap64 (by omega) (by omega)];omega
 have hki:=hkp.i.2.2 hk3;have hki0:=hkp.i.1;have hwi:IntKind.i64.wrap (k.i+1)=k.i+1:=wrap64 (by omega) (by omega);rw[dT,dT];refine gK (λe Hc c'=>∃(m2:aI) (f2:aW) (G2:Nat->a6),PE us cs H G pm tm pf tf m f L (-3000) (-700000) Hc G2 m2 f2/\m2.bH<m.bH/\m2.ab=0/\m2.V v/\Loc Hc G2 [(H.length,ko c0 k),(p6,vo t6 key),(p6+1,vo t7 v)]/\e 0=.ptr pm tm 19 0 0/\e 1=.ptr pf tf 7 0 0/\e 5=.ptr H.length c0 17 0 0/\e 7=.ptr (p6+1) t7 5 0 0/\e 11=.I k.n.aP.aG.length) ?_ ?_;rotate_left
 .intro K hK;by_cases h4:k.n.aP.aG.length=4
  .have h4':(k.n.aP.aG.length:Int)=4:=by omega
   simp[e0,e1,e5,e6,e8,g5a,aY.g4,h4',aL hk1,g6a];refine C9 q.aT q.bI S.hk (by omega) (by have:=q.bI.p.nC;unfold ew at this ⊢;omega) λH3 G3 a3 b3 f3 c3 q3=>?_;simp;refine hK _ _ _ ⟨_,f3,G3,(q.trans q3).le (by omega) (by omega),S.fu,S.ab,S.hv.mono q3.mono,q3.dO S.l,?_,?_,?_,?_,?_⟩<;>simp[aK,e0,e1,e5,e7,h4']
  .have h4':¬(k.n.aP.aG.length:Int)=4:=by omega
   simp[e5,e8,g5a,aY.g4,h4'];refine hK _ _ _ ⟨_,f,G1,q.le (by omega) (by omega),S.fu,S.ab,S.hv,S.l,?_,?_,?_,?_,?_⟩<;>simp[aK,e0,e1,e5,e7]
 clear e0 e1 e5 e6 e7 e8 hq1 hq2 g5a g6a g7a;intro e Hd c ⟨m2,f2,G2,q2,fu2,ab2,hv2,l2,e0,e1,e5,e7,e11⟩;have hfu2:0<=m2.bH:=q2.aT.b.af (by omega);have g5a:=g5 l2;have g7a:=g7 l2;have hq1:=q2.fp;have hq2:=q2.mp.1;have hq3:=q2.em;simp[e0,e1,e5,e7,e11,g5a,g7a,aY.g4,hwl2,aL hkv];refine C9 q2.aT q2.bI hv2 (by omega) (by unfold ew;omega) λH3 G3 a3 b3 f3 c3 q3=>?_;have q4:=q2.trans q3;subst hL;obtain⟨pk,tk,R,x1,x2,x3,x4,rs,x5⟩:=q3.bI.last;have hkp2:KP {m2 with cells:=a3,dR:=b3} {k with i:=k.i+1}:=⟨hkp.kd,hkp.n,hkp.w,hkp.e,hkp.ca,hkp.fi,⟨by simp only;omega,λe=>by simp only at e;omega,λ_=>by simp only;omega⟩,(hkp.it.mono q4.mono),(hkp.v.mono q4.mono),hkp.dP,hkp.D9⟩
 have q5:=q3.bI.TB q3.aT x1 x2 x3 x5 hkp2 rfl;have gf3:=λK=>aL q3.bI.hf K;have gk3:=λK=>aL x2 K;have gr3:=λK=>aL x4 K;have l3:=q3.dO l2;have g5b:=g5 l3;have hlb:=(q3.bI.DX hfu2).1;simp at hlb;have hw3:IntKind.i64.wrap (L0.length:Int)=(L0.length:Int):=wrap64 (by omega) (by omega);have g5c:=λK=>aL ((q5.dO l3).at_ (p:=H.length) (ob:=ko c0 k) (by simp)) K;simp only[ko] at g5c;have hlt3:(L0.length:Int)<(L0.length:Int)+1:=by omega
 simp[e1,e5,e11,gf3,aW.bD,aW.g5,x1,hw3,g5b,aY.g5,aY.g4,hwi,hlt3,gk3,gr3,aY.p5,g5c,hwl1,aL hkb];rw[pL];have hq4:=q4.pb.fp;have hq5:=q5.fp;refine sE (k:=oD kb) q5.aT q5.bI (tS (hno.get hkb)) (by simp[aY.w];simp only at hq4;omega) hfu2 λH6 G6 f6 c6 q6=>?_;simp;have hwr:((oD kb).w:Int)=1:=by simp[aY.w]
 exact fin ((q4.pb.trans (q5.trans q6)).le (by omega) (by omega))
def next_k {n} {k:aY} {E} {c} {K:aD} (Z:iR us cs n) (hP:fC us cs) (h:Lay us cs H G pm tm m) (W:cY H G pf tf m f L) (hL:L=E++[k]) (E:k.kind=3) (h0:m.ab=0) (T:m.bH<(n+1:Nat))
  (kk:∀H' G' m' f' L' J,PB us cs H G pm tm pf tf m f L (-10) (-10) H' G' m' f' L'->K (.aX []) H' J):bO aE 204 [.ptr pm tm 19 0 0,.ptr pf tf 7 0 0,.agg k.enc] H c K:=
 gL (next_con Z hP h W hL E h0 T) λr H' J ⟨T,G',m',f',L',E⟩=>by subst T;exact kk H' G' m' f' L' J E
open Classical in
def VP (h:Lay us cs H G pm tm m) {M} {pg tg pk:Nat} {f:aW} {L:aF aY} (W:(H++M)[pg]?=some (f.ob tg)) (E:H.length<=pg) (E:H.length<=pk) (E:pk<(H++M).length) (he:f.env=.aU)
  (hc:(f.fL=.aU/\L=[])\/∃t,f.fL=.ref pk t 17 L.length/\(H++M)[pk]?=some ⟨false,t,17,L.map aY.enc⟩/\pk≠pg) (Z:∀k,k∈L->KP m k) (hp:ew f L+4000*m.bH<=81000000) (ht:f.this=0):
  ∃T,Lay us cs (H++M) T pm tm m/\cY (H++M) T pg tg m f L/\(∀q x,H[q]?=some x->¬eQ (G q)->(H++M)[q]?=some x/\T q=.bP)/\(∀q x,H[q]?=some x->G q=.mP->(H++M)[q]?=some x/\T q=.mP)/\(∀q,H.length<=q->q≠pg->q≠pk->T q=.bP):=by
 have g0:∀q,H.length<=q->G q=.bP:=h.out;have E:=bL W;obtain⟨T,J⟩:∃T:Nat->a6,∀q,T q=if q=pg then .frame else if q=pk then .fL else if eQ (G q) then G q else .bP:=⟨_,λ_=>rfl⟩
 have hM:∀q,q<H.length->T q=if eQ (G q) then G q else .bP:=λq E=>by rw[J,if_neg (by omega),if_neg (by omega)]
 refine⟨T,?_,⟨W,by rw[J];simp,⟨⟨[],.inl ⟨he,rfl⟩,by simp⟩,?_,Z,hp,by rw[ht];omega⟩⟩,λq x E T=>⟨fF E _,?_⟩,λq x E T=>⟨fF E _,?_⟩,λq E Z W=>?_⟩
 .refine h.kp (λq x E T=>⟨fF E _,?_⟩) λp hp=>?_
  .rw[hM q (bL E),if_pos T]
  .rw[J,if_neg (by omega),if_neg (by omega),g0 p (by simp at hp;omega)];simp[eQ]
 .rcases hc with⟨Z,W⟩|⟨t,Z,W,h3⟩
  .exact .inl ⟨Z,by rw[W];rfl⟩
  .exact .inr ⟨pk,t,[],by rw[Z];simp,by simpa using W,by rw[J,if_neg h3];simp⟩
 .rw[hM q (bL E),if_neg T]
 .rw[hM q (bL E),T];simp[eQ]
 .rw[J,if_neg Z,if_neg W,g0 q E];simp[eQ]
def InclQ (us:SL bU) (cs:SL bG) (H:aC) (G:Nat->a6) (pm tm:Nat) (m:aI) (r:AV) (H':aC) (_:Nat):Prop:=
 r=.aX []/\∃G' m',PA us cs H G pm tm m 10 H' G' m'
def putFr p t n:aR (aR [.aU,.bool false,.I 0,.str [],.str [],.aU,.str []] 1 [.bool true]) 5 [.ref p t 17 n]=aW.aM ⟨.aU,true,0,[],[],.ref p t 17 n,[]⟩:=by simp[aR,aW.aM]
def include_con {n} {s:aA} {c0} (hR:iR us cs n) (T:fC us cs) (h:Lay us cs H G pm tm m) (h0:m.ab=0) (hs:s.length<=1048576) (E:m.mp+2000<=1650000000000) (hn:m.bH<n):
  cA aE 94 [.ptr pm tm 19 0 0,.str s] H c0 (InclQ us cs H G pm tm m):=by
 refine cO F94 ?_;unfold F94;have gm:=λK=>aL h.hm K;have E:=h.b.af (by omega);have E:=h.b.bH;have E:∀{J:aC} {Z:Nat->a6} {W:aI} {c:Nat},PA us cs H G pm tm m 0 J Z W->cE (InclQ us cs H G pm tm m) (.aX []) J c:=λq=>dD ⟨rfl,_,_,q.le (by omega)⟩;simp;refine cX (C4 (by unfold mx;omega)) (fB _) λJ _=>?_;simp[pP,gm,aI.bD,aI.g0,h.us];refine cV (OR T.u) λr W _ J=>⟨fB _,?_⟩
 cases hsome:(jY s).isSome
 .rcases J with rfl|⟨i,rfl,hi⟩
  all_goals
   simp;refine jT h T h0 (by simp) λH5 G5 m5 c5 Z=>?_;simp;exact E Z
 rcases J with rfl|⟨i,rfl,hi⟩
 .simp;refine jT h T h0 (by simp) λH5 G5 m5 c5 Z=>?_;simp;exact E Z
 obtain⟨u,hu⟩:∃u,us.aG[i]?=some u:=⟨_,bC hi⟩
 have J:¬(i:Int)<0:=by omega
 have E:=T.u.a u (bA hu);have Z:NE u.dE:=⟨E.n,E.v,E.c⟩
 simp[J,gm,aI.bD,aI.g0,h.us,aL hu,pL,cM,putFr,DF];refine⟨by simp[aR],?_⟩;obtain⟨T,E⟩:∃T:aW,T=⟨.aU,true,0,[],[],.ref H.length W 17 1,[]⟩:=⟨_,rfl⟩
 have J:ew T [oD u.dE]=1:=by rw[E];simp[ew,AV.ln,cw,bE,aY.w]
 rw[<-E];obtain⟨G4,d1,d2,d3,d5,d6⟩:=VP h (M:=[DZ W u.dE,T.ob (W+1)]) (pg:=H.length+1) (tg:=W+1) (pk:=H.length) (f:=T) (L:=[oD u.dE]) (by simp) (by omega) (by omega) (by simp) (by rw[E]) (.inr ⟨W,by rw[E];rfl,by simp,by omega⟩) (λk T=>by simp at T;subst T;exact tS Z) (by rw[J];omega) (by rw[E]);refine ON hR d1 d2 h0 (by rw[J];omega) hn λE v E E W Z L3 E E E _=>?_;obtain⟨G5,T,J,r3⟩:=ND h d3 d5 E;have h1:=E.mp;have h2:0<=ew Z L3:=by unfold ew;omega
 simp;exact dD ⟨rfl,G5,W,T,J,E.mono,by omega⟩
def WU {n} {s:aA} {c} {K:aD} (W:iR us cs n) (Z:fC us cs) (h:Lay us cs H G pm tm m) (h0:m.ab=0) (hs:s.length<=1048576) (J:m.mp+2000<=1650000000000) (T:m.bH<n)
  (k:∀H' G' m' E,PA us cs H G pm tm m 10 H' G' m'->K (.aX []) H' E):bO aE 94 [.ptr pm tm 19 0 0,.str s] H c K:=
 gL (include_con W Z h h0 hs J T) λr H' E ⟨T,G',m',J⟩=>by subst T;exact k H' G' m' E J
def Hw (n:Int):Prop:=n=0\/n=1\/n=2\/n=3\/n=6
def QH (us:SL bU) (cs:SL bG) (H:aC) (G:Nat->a6) (pm tm pf tf:Nat) (m:aI) (f:aW) (L:aF aY) (r:AV) (H':aC) (_:Nat):Prop:=
 ∃E v G' m' f' L',r=.aX [.I E,.agg (aO.enc v)]/\Hw E/\aI.V m' v/\PB us cs H G pm tm pf tf m f L (-10) (-10) H' G' m' f' L'
def MQ {dP:Int} {w:aO} {X} {H2:aC} {G2:Nat->a6} {m2:aI} {f2} {L2} {c} (q:PB us cs H G pm tm pf tf m f L a b H2 G2 m2 f2 L2) (Z:a<=-10) (W:b<=-10) (T:G2 (H.length+1)=.bP) (E:Hw dP) (J:m2.V w):
  cE (QH us cs H G pm tm pf tf m f L) (.aX [.I dP,.agg w.enc]) (H2.set (H.length+1) X) c:=
 dD ⟨dP,w,G2,m2,f2,L2,rfl,E,J,(q.eZ (by omega) T X).le Z W⟩
abbrev SF (H:aC) (c0:Nat) (x:aQ) (v:aO):List (Nat×aH):=[(H.length,no c0 x),(H.length+1,zo (c0+1)),(H.length+2,vo (c0+1+1) v)]
structure zI (us:SL bU) (cs:SL bG) (H:aC) (G:Nat->a6) (pm tm pf tf:Nat) (m:aI) (f:aW) (L:List aY) (x:aQ) (c0 n:Nat) (v:aO) (H1:aC) (G1:Nat->a6) (m1:aI) (f1:aW):Prop where
 q:PE us cs H G pm tm pf tf m f L (-4000) (-82000000) H1 G1 m1 f1
 ab:m1.ab=0
 l:Loc H1 G1 (SF H c0 x v)
 r:Rm m1 f1 L
 n:m1.bH<n
 v:m1.V v
variable {x:aQ} {v:aO} {c0 n:Nat} {H1 H2:aC} {G1 G2:Nat->a6} {m1 m2:aI} {f1 f2:aW} {L2:aF aY}
def uX (l:Loc H2 G2 (SF H c0 x v)):(∀K,aZ H2 H.length K=K (no c0 x))/\(∀K,aZ H2 (H.length+1) K=K (zo (c0+1)))/\(∀K,aZ H2 (H.length+2) K=K (vo (c0+1+1) v))/\H.length+1<H2.length/\G2 (H.length+1)=.bP:=
 ⟨λK=>aL (l.at_ (p:=H.length) (ob:=no c0 x) (by simp)) K,λK=>aL (l.at_ (p:=H.length+1) (ob:=zo (c0+1)) (by simp)) K,λK=>aL (l.at_ (p:=H.length+2) (ob:=vo (c0+1+1) v) (by simp)) K,bL (l.at_ (p:=H.length+1) (ob:=zo (c0+1)) (by simp)),l.ot (p:=H.length+1) (ob:=zo (c0+1)) (by simp)⟩
def zI.fin (S:zI us cs H G pm tm pf tf m f L x c0 n v H1 G1 m1 f1) {dP:Int} {w:aO} {X} {c} (q:PB us cs H1 G1 pm tm pf tf m1 f1 L a b H2 G2 m2 f2 L2) (E:a<=3900) (E:b<=81900000) (E:Hw dP) (J:m2.V w):
  cE (QH us cs H G pm tm pf tf m f L) (.aX [.I dP,.agg w.enc]) (H2.set (H.length+1) X) c:=
 MQ (S.q.pb.trans q) (by omega) (by omega) (uX (q.dO S.l)).2.2.2.2 E J
def zI.yL (S:zI us cs H G pm tm pf tf m f L x c0 n v H1 G1 m1 f1) {w:aO} (q:PE us cs H1 G1 pm tm pf tf m1 f1 L 0 0 H2 G2 m2 f2) (ab:m2.ab=0) (W:m2.V w):zI us cs H G pm tm pf tf m f L x c0 n w (H2.set (H.length+2) ⟨false,c0+1+1,5,[w.enc]⟩) G2 m2 f2:=by
 have E:=q.dO S.l;have T:=E.at_ (p:=H.length+2) (ob:=vo (c0+1+1) v) (by simp);have J:=E.ot (p:=H.length+2) (ob:=vo (c0+1+1) v) (by simp);have Z:=bL T;refine⟨((S.q.trans q).le (by omega) (by omega)).eZ (by omega) J _,ab,?_,S.r.of q,by have:=q.mono.f;have:=S.n;omega,W⟩;refine((Loc.nil.cons (p:=H.length+2) (ob:=vo (c0+1+1) w) (eP Z) J).cons (p:=H.length+1) (ob:=zo (c0+1)) ?_ (E.ot (p:=H.length+1) (ob:=zo (c0+1)) (by simp))).cons (p:=H.length) (ob:=no c0 x) ?_ (E.ot (p:=H.length) (ob:=no c0 x) (by simp))
 .exact eC (E.at_ (p:=H.length+1) (ob:=zo (c0+1)) (by simp)) (by omega) _
 .exact eC (E.at_ (p:=H.length) (ob:=no c0 x) (by simp)) (by omega) _
def cY.MW (J:cY H G pf tf m f L) (h:Lay us cs H G pm tm m) s:PE us cs H G pm tm pf tf m f L 0 0 (H.set pf (aW.ob {f with wait:=s} tf)) G m {f with wait:=s}:=by have Z:=bL J.hf;have kk:cB (λo=>o=.frame) H G (H.set pf (aW.ob {f with wait:=s} tf)) G:=cB.set (S:=λo=>o=.frame) _ J.gf;obtain⟨E,hE,W⟩:=J.p.env;exact⟨h.kp (kk.kp λo T e=>by subst e;exact T) (wP h.out _ _),⟨eP Z,J.gf,⟨⟨E,hE.kp kk (by simp),W⟩,J.p.fL.kp kk (by simp),J.p.ks,J.p.nC,J.p.this⟩⟩,kk.mono λo T=>by subst T;simp[j1],.refl _,bB _,rfl,by show(f.env.ln:Int)+_<=_;omega,⟨by show m.mp+(f.env.ln:Int)<=_;omega,rfl⟩⟩
def stmt_head (Z:x.aJ=32\/x.aJ=33\/x.aJ=34\/x.aJ=36\/x.aJ=42\/x.aJ=39) (W:NE x) {y:aQ} (T:x.aP.aG[0]?=some y):fE y.aJ:=by
 have J:=bA T;have E:=W.v.sh;rcases Z with h|h|h|h|h|h
 .exact(E.one (by omega)).2 y J
 .exact(E.one (by omega)).2 y J
 .exact((E.iff (by omega)).2 0 y T).1 rfl
 .exact((E.each h).2 0 y T).1 (by have:=(E.each h).1;omega)
 .exact(E.one (by omega)).2 y J
 .exact(E.ret h).2 y J
def putFt:aR [.aU,.bool false,.I 0,.str [],.str [],.aU,.str []] 1 [.bool true]=aW.aM ⟨.aU,true,0,[],[],.aU,[]⟩:=by simp[aR,aW.aM]
def stmt_con (hE:iS us cs n) (hR:iR us cs n) (hP:fC us cs) (h:Lay us cs H G pm tm m) (hf:cY H G pf tf m f L) (hx:NE x) (h0:m.ab=0) (hn:m.bH<(n+1:Nat)):
  cA aE 200 [.ptr pm tm 19 0 0,.ptr pf tf 7 0 0,.agg x.enc] H c0 (QH us cs H G pm tm pf tf m f L):=by
 refine cO F200 ?_
 unfold F200
 have oo:∀i,G (H.length+i)=.bP:=λi=>h.out _ (by omega)
 have hL0:Loc (H++[no c0 x,zo (c0+1),zo (c0+1+1)]) G (OY H c0 x):=((Loc.nil.cons (by simp) (oo 2)).cons (by simp) (oo 1)).cons (by simp) (oo 0)
 have hxl:=hx.len
 have hsh:=hx.v.sh
 show cC aE (IR.seq _ (IR.seq _ (IR.seq _ (IR.seq _ (IR.seq _ (IR.seq _ _)))))) _ _ _ _
 rw[dT,dT,dT,dT]
 refine gK (λe H' c'=>∃G1 m1 f1,zI us cs H G pm tm pf tf m f L x c0 n (sV 0 0 []) H' G1 m1 f1/\e 0=.ptr pm tm 19 0 0/\e 1=.ptr pf tf 7 0 0/\e 5=.ptr H.length c0 4 0 0/\e 7=.ptr (H.length+1) (c0+1) 5 0 0/\e 8=.ptr (H.length+2) (c0+1+1) 5 0 0/\e 9=.int .i64 x.aP.aG.length) ?_ ?_
 rotate_left
 .intro K hK
  have e0:∀M:aC,H++((⟨false,c0,4,[x.enc]⟩:aH)::⟨false,c0+1,5,[(sV 0 0 []).enc]⟩::⟨false,c0+1+1,5,[(sV 0 0 []).enc]⟩::M)=H++(no c0 x::zo (c0+1)::zo (c0+1+1)::M):=λM=>by simp[no,zo,z5]
  simp[cM,z5]
  rw[e0]
  refine GY (h.app _) h0 λH1 c1 q=>?_
  have gm1:=λK=>aL q.aT.hm K
  have l1:=q.dO hL0
  have g5:=λK=>aL (l1.at_ (p:=H.length) (ob:=no c0 x) (by simp)) K
  have g6:=λK=>aL (l1.at_ (p:=H.length+1) (ob:=zo (c0+1)) (by simp)) K
  have g7:=λK=>aL (l1.at_ (p:=H.length+2) (ob:=zo (c0+1+1)) (by simp)) K
  have hl6:=bL (l1.at_ (p:=H.length+1) (ob:=zo (c0+1)) (by simp))
  have q1:=GX q.gU hf rfl
  simp only[fS,no] at g5 g6 g7
  rcases GZ m h0 with⟨t0,t1⟩|t2
  .simp[gm1,aI.bD,aI.g12,t0,g5]
   have hfu:=yG m
   have hp:=hf.p.nC
   have hb:=h.b.mp
   have hmp:=q.mp
   refine hK _ _ _ ⟨G,m.tick,f,⟨q1,t0,?_,⟨by omega,by omega⟩,by omega,.nil⟩,?_,?_,?_,?_,?_,?_⟩
   .show Loc H1 G [(_,no c0 x),(_,zo (c0+1)),(_,vo (c0+1+1) (sV 0 0 []))]
    rw[RW]
    exact l1
   all_goals simp[aK]
  .simp[gm1,aI.bD,aI.g12,t2,g6,g7,hl6]
   exact MQ q1.pb (by omega) (by omega) (l1.ot (p:=H.length+1) (ob:=zo (c0+1)) (by simp)) (.inl rfl) .nil
 intro e Hc cc ⟨G1,m1,f1,S,e0,e1,e5,e7,e8,e9⟩
 refine gK (λe H' c'=>∃v G1 m1 f1,zI us cs H G pm tm pf tf m f L x c0 n v H' G1 m1 f1/\e 0=.ptr pm tm 19 0 0/\e 1=.ptr pf tf 7 0 0/\e 5=.ptr H.length c0 4 0 0/\e 7=.ptr (H.length+1) (c0+1) 5 0 0/\e 8=.ptr (H.length+2) (c0+1+1) 5 0 0/\e 9=.int .i64 x.aP.aG.length) ?_ ?_
 rotate_left
 .intro K hK
  obtain⟨g5,g6,g7,hl6,o6⟩:=uX S.l
  have gm1:=λK=>aL S.q.aT.hm K
  simp only[no,fS,vo] at g5 g6 g7
  by_cases hk:x.aJ=32\/x.aJ=33\/x.aJ=34\/x.aJ=36\/x.aJ=42\/x.aJ=39
  .have ev:∀{y:aQ} {c2:Nat} {K2:aD},x.aP.aG[0]?=some y->(∀w H2 G2 m2 f2 c',aI.V m2 w->PE us cs Hc G1 pm tm pf tf m1 f1 L 0 0 H2 G2 m2 f2->K2 (.agg (aO.enc w)) H2 c')->bO aE 201 [.ptr pm tm 19 0 0,.ptr pf tf 7 0 0,.agg y.enc] Hc c2 K2:=λhy kk=>
    oH hE S.q.aT S.q.bI (hx.get hy) (stmt_head hk hx hy) S.n λw H2 G2 m2 f2 c' hw q _=>kk w H2 G2 m2 f2 c' hw q
   rcases hk with k|k|k|k|k|k
   all_goals
    by_cases hk0:0<x.aP.aG.length
    .obtain⟨y,hy⟩:∃y,x.aP.aG[0]?=some y:=⟨_,bC hk0⟩
     have hk0':(0:Int)<(x.aP.aG.length:Int):=by omega
     simp[e0,e1,e5,e9,g5,k,hk0,aL hy]
     refine ev hy λw H2 G2 m2 f2 c2 hw q=>?_
     have ll:=q.dO S.l
     obtain⟨t5,t6,t7,tl,o6'⟩:=uX ll
     simp only[no,fS,vo] at t5 t6 t7
     have l7:=bL (ll.at_ (p:=H.length+2) (ob:=vo (c0+1+1) (sV 0 0 [])) (by simp))
     have o7:=ll.ot (p:=H.length+2) (ob:=vo (c0+1+1) (sV 0 0 [])) (by simp)
     have q':=((S.q.trans q).le (a':=-4000) (b':=-82000000) (by omega) (by omega)).eZ (p:=H.length+2) (by omega) o7 ⟨false,c0+1+1,5,[w.enc]⟩
     have gm2:=λK=>aL q'.aT.hm K
     by_cases ha:m2.ab=0
     .have S2:=S.yL q ha hw
      simp[e0,e8,t7,gm2,aI.bD,aI.g12,ha]
      refine hK _ _ _ ⟨w,G2,m2,f2,S2,?_,?_,?_,?_,?_,?_⟩<;>simp[aK,e0,e1,e5,e7,e8,e9]
     .have u6:∀(X:aH) (K:aH->Prop),aZ (H2.set (H.length+2) X) (H.length+1) K=K ⟨false,c0+1,5,[(sV 0 0 []).enc]⟩:=λX K=>by rw[rJ (by omega)];exact t6 K
      have u7:∀(X:aH) (K:aH->Prop),aZ (H2.set (H.length+2) X) (H.length+2) K=K X:=λX K=>OF l7 K
      simp[e0,e7,e8,t7,l7,gm2,aI.bD,aI.g12,ha,u6,tl]
      exact MQ q'.pb (by omega) (by omega) o6' (.inl rfl) hw
    .have hk0':¬(0:Int)<(x.aP.aG.length:Int):=by omega
     simp[e0,e5,e9,g5,k,hk0,gm1,aI.bD,aI.g12,S.ab]
     refine hK _ _ _ ⟨_,G1,m1,f1,S,?_,?_,?_,?_,?_,?_⟩<;>simp[aK,e0,e1,e5,e7,e8,e9]
  .have hk2:x.aJ≠32/\x.aJ≠33/\x.aJ≠34/\x.aJ≠36/\x.aJ≠42/\x.aJ≠39:=by omega
   simp[e5,g5,hk2]
   refine hK _ _ _ ⟨_,G1,m1,f1,S,?_,?_,?_,?_,?_,?_⟩<;>simp[aK,e0,e1,e5,e7,e8,e9]
 clear e0 e1 e5 e7 e8 e9 S
 intro e Hc cc ⟨v,G1,m1,f1,S,e0,e1,e5,e7,e8,e9⟩
 refine gK (λe H' c'=>∃G2 m2 f2 L2,PB us cs Hc G1 pm tm pf tf m1 f1 L 3000 3000 H' G2 m2 f2 L2/\e 7=.ptr (H.length+1) (c0+1) 5 0 0/\e 8=.ptr (H.length+2) (c0+1+1) 5 0 0) ?_ ?_
 .intro e' Hd c2 ⟨G2,m2,f2,L2,q2,f7,f8⟩
  obtain⟨t5,t6,t7,tl,o6'⟩:=uX (q2.dO S.l)
  simp only[no,fS,vo] at t5 t6 t7
  simp[f7,f8,t6,t7,tl]
  exact S.fin q2 (by omega) (by omega) (.inl rfl) (S.v.mono q2.mono)
 intro K hK
 have hfu1:0<=m1.bH:=S.q.aT.b.af (by have:=S.ab;omega)
 have hfb1:=S.q.aT.b.bH
 have hre:=S.r.e
 have hrm:=S.r.m
 have done_:∀{H2:aC} {G2:Nat->a6} {m2:aI} {f2:aW} {L2:aF aY} {a b:Int} {e':Env} {c':Nat},PB us cs Hc G1 pm tm pf tf m1 f1 L a b H2 G2 m2 f2 L2->a<=3000->b<=3000->e' 7=.ptr (H.length+1) (c0+1) 5 0 0->e' 8=.ptr (H.length+2) (c0+1+1) 5 0 0->K e' H2 c':=λq ha hb f7 f8=>hK _ _ _ ⟨_,_,_,_,q.le ha hb,f7,f8⟩
 obtain⟨g5,g6,g7,hl6,o6⟩:=uX S.l
 have gm1:=λK=>aL S.q.aT.hm K
 simp only[no,fS,vo] at g5 g6 g7
 have q0:=PE.refl S.q.aT S.q.bI
 have push1:∀{k:aY} {c2:Nat} {K2:aD},KP m1 k->(∀H2 G2 f2 c',PB us cs Hc G1 pm tm pf tf m1 f1 L k.w k.w H2 G2 m1 f2 (L++[k])->K2 (.aX []) H2 c')->bO aE 203 [.ptr pf tf 7 0 0,.agg k.enc] Hc c2 K2:=λ{k} _ _ hk kk=>
  sE S.q.aT S.q.bI hk (by have:=r9 k;omega) hfu1 kk
 by_cases k31:x.aJ=31
 .simp[e0,e5,g5,k31]
  refine YH S.q.aT (by have:=hx.n.s;omega) λH2 G2 m2 c2 q2=>?_
  simp
  exact done_ (q2.pb S.q.bI) (by omega) (by omega) (by simp[aK,e7]) (by simp[aK,e8])
 by_cases k32:x.aJ=32
 .simp[e5,e8,g5,g7,k32]
  refine wF (wG S.v.ok.s S.v.ok.n) λs code c2 _ hs _ _=>?_
  by_cases hc0:code=0
  .simp[e0,hc0]
   refine YH S.q.aT (by omega) λH2 G2 m2 c2 q2=>?_
   simp
   exact done_ (q2.pb S.q.bI) (by omega) (by omega) (by simp[aK,e7]) (by simp[aK,e8])
  .simp[e0,hc0]
   refine pE S.q.aT hP S.ab λH2 G2 m2 c2 q2=>?_
   simp
   exact done_ (q2.pb S.q.bI) (by omega) (by omega) (by simp[aK,e7]) (by simp[aK,e8])
 by_cases k34:x.aJ=34
 .obtain⟨⟨l1,l2⟩,lk⟩:=hsh.iff (by omega)
  obtain⟨y1,hy1⟩:∃y,x.aP.aG[1]?=some y:=⟨_,bC (by omega)⟩
  simp[e5,e8,g5,g7,k34]
  refine hJ (tA v) λb c2 _=>?_
  cases b
  .by_cases h3:x.aP.aG.length=3
   .obtain⟨y2,hy2⟩:∃y,x.aP.aG[2]?=some y:=⟨_,bC (by omega)⟩
    have h3':(x.aP.aG.length:Int)=3:=by omega
    simp[e1,e5,e9,g5,h3',aL hy2]
    rw[pL]
    refine push1 (tS (hx.get hy2)) λH2 G2 f2 c2 q2=>?_
    simp
    exact done_ q2 (by simp[aY.w]) (by simp[aY.w]) (by simp[aK,e7]) (by simp[aK,e8])
   .have h3':¬(x.aP.aG.length:Int)=3:=by omega
    simp[e9,h3']
    exact done_ q0.pb (by omega) (by omega) (by simp[aK,e7]) (by simp[aK,e8])
  .simp[e1,e5,g5,aL hy1]
   rw[pL]
   refine push1 (tS (hx.get hy1)) λH2 G2 f2 c2 q2=>?_
   simp
   exact done_ q2 (by simp[aY.w]) (by simp[aY.w]) (by simp[aK,e7]) (by simp[aK,e8])
 by_cases k35:x.aJ=35
 .simp[e1,e5,g5,k35,aQ.all]
  rw[pL]
  have hk:KP m1 ⟨2,x,0,sV 0 0 [],0,sV 0 0 []⟩:=⟨by simp,λ_=>hx,λ_=>k35,by simp,by simp,by simp,by simp,.nil,.nil,by simp,by simp⟩
  refine push1 hk λH2 G2 f2 c2 q2=>?_
  simp
  exact done_ q2 (by simp[aY.w]) (by simp[aY.w]) (by simp[aK,e7]) (by simp[aK,e8])
 by_cases k36:x.aJ=36
 .simp[e1,e5,e8,g5,g7,k36,aQ.all]
  rw[putKI]
  have hk:KP m1 ⟨3,x,0,v,0,sV 0 0 []⟩:=⟨by simp,λ_=>hx,by simp,λ_=>k36,by simp,by simp,⟨by simp,by simp,λ_=>by simp only;omega⟩,S.v,.nil,by simp,by simp⟩
  refine push1 hk λH2 G2 f2 c2 q2=>?_
  simp
  exact done_ q2 (by simp[aY.w]) (by simp[aY.w]) (by simp[aK,e7]) (by simp[aK,e8])
 by_cases k37:x.aJ=37
 .simp[e5,e7,e8,g5,g6,g7,k37,hl6]
  exact S.fin q0.pb (by omega) (by omega) (.inr (.inl rfl)) S.v
 by_cases k38:x.aJ=38
 .simp[e5,e7,e8,g5,g6,g7,k38,hl6]
  exact S.fin q0.pb (by omega) (by omega) (.inr (.inr (.inl rfl))) S.v
 by_cases k39:x.aJ=39
 .simp[e5,e7,e8,g5,g6,g7,k39,hl6]
  exact S.fin q0.pb (by omega) (by omega) (.inr (.inr (.inr (.inl rfl)))) S.v
 by_cases k40:x.aJ=40
 .have g5A:=λM K=>bT (S.l.at_ (p:=H.length) (ob:=no c0 x) (by simp)) M K
  simp only[no] at g5A
  simp[e0,e1,e5,g5A,k40,putFt,DF,bW,g5]
  obtain⟨fr,hfr⟩:∃fr:aW,fr=⟨.aU,true,0,[],[],.aU,[]⟩:=⟨_,rfl⟩
  have hew:ew fr []=0:=by rw[hfr];simp[ew,AV.ln]
  have hel:fr.env.ln=0:=by rw[hfr];rfl
  rw[<-hfr]
  obtain⟨G4,d1,d2,d3,d5,d6⟩:=VP S.q.aT (M:=[fr.ob cc]) (pg:=Hc.length) (tg:=cc) (pk:=Hc.length) (f:=fr) (L:=[]) (by simp) (bB _) (bB _) (by simp) (by rw[hfr]) (.inl ⟨by rw[hfr],rfl⟩) (by simp) (by rw[hew];omega) (by rw[hfr])
  refine EZ d1 d2 (by omega) (by rw[hew];omega) λk H5 G5 a5 b5 f5 c5 hk q5=>?_
  obtain⟨G6,r1,r2,r3⟩:=ND S.q.aT d3 d5 q5.pb
  have q6:PA us cs Hc G1 pm tm m1 2 H5 G6 {m1 with cells:=a5,dR:=b5}:=⟨r1,r2,q5.mono,by have:=q5.mp;rw[hel] at this;omega⟩
  have g5c:=(uX (q6.dO S.l)).1
  simp only[no] at g5c
  have hm6:=q6.mp.1
  simp[g5c]
  refine P6 q6.aT (q6.bI S.q.bI) ⟨by omega,by simp only;omega⟩ (by omega) (by simp only;omega) λH7 G7 a7 f7 c7 q7=>?_
  simp
  exact done_ ((q6.pb S.q.bI).trans q7.pb) (by omega) (by omega) (by simp[aK,e7]) (by simp[aK,e8])
 by_cases k41:x.aJ=41
 .obtain⟨y,hy,hyt⟩:=hsh.MG (by omega)
  simp[e0,e1,e5,g5,k41,aL hy]
  refine unset_k hE hP S.q.aT S.q.bI (hx.get hy) hyt S.n λH2 G2 m2 f2 c2 q2=>?_
  simp
  exact done_ q2 (by omega) (by omega) (by simp[aK,e7]) (by simp[aK,e8])
 by_cases k42:x.aJ=42
 .by_cases hv6:v.aJ=6
  .have hml:=bL S.q.aT.hm
   have hpm:=bL h.hm
   have u7:∀(X:aH) (K:aH->Prop),aZ (Hc.set pm X) (H.length+2) K=K ⟨false,c0+1+1,5,[v.enc]⟩:=λX K=>by rw[rJ (by omega)];exact g7 K
   simp[e0,e5,e8,g5,g7,k42,hv6,gm1,aI.bD,aI.wN,u7,hml,aI.NC]
   have hb:=S.q.aT.b
   have q5:=S.q.aT.wL (m':={m1 with ab:=1,jI:=v}) ⟨hb.o,hb.c,hb.g,hb.mp,hb.bH,by simp,λ_=>hfu1,hb.depth,S.v.mono (eV.of rfl rfl rfl rfl rfl (lU _)),λ_=>hv6,hb.out⟩ (eV.of rfl rfl rfl rfl rfl (lU _)) rfl rfl rfl rfl rfl rfl rfl rfl
   exact done_ (q5.pb S.q.bI) (by omega) (by omega) (by simp[aK,e7]) (by simp[aK,e8])
  .simp[e0,e5,e8,g5,g7,k42,hv6]
   refine jT S.q.aT hP S.ab (by simp) λH2 G2 m2 c2 q2=>?_
   simp
   exact done_ (q2.pb S.q.bI) (by omega) (by omega) (by simp[aK,e7]) (by simp[aK,e8])
 by_cases k43:x.aJ=43
 .obtain⟨l1,lk⟩:=hsh.try_ k43
  obtain⟨y0,hy0⟩:∃y,x.aP.aG[0]?=some y:=⟨_,bC (by omega)⟩
  have hw1:IntKind.i64.wrap ((x.aP.aG.length:Int)-1)=(x.aP.aG.length:Int)-1:=wrap64 (by omega) (by omega)
  simp[e5,e9,g5,k43,hw1]
  have kp45:∀{k:Int} {y:aQ},NE y->(k=4/\y.aJ=44\/k=5/\y.aJ=45)->KP m1 ⟨k,y,0,sV 0 0 [],0,sV 0 0 []⟩:=λ{k y} hy h=>⟨by simp only;omega,λ_=>hy,by simp only;omega,by simp only;omega,by simp only;omega,by simp only;omega,by simp;omega,.nil,.nil,by simp,by simp⟩
  refine tP (x.aP.aG.length-1) (λi e Hd c'=>∃(G2:Nat->a6) (f2:aW) (L2:aF aY),PB us cs Hc G1 pm tm pf tf m1 f1 L (4*i) (4*i) Hd G2 m1 f2 L2/\e 0=.ptr pm tm 19 0 0/\e 1=.ptr pf tf 7 0 0/\e 5=.ptr H.length c0 4 0 0/\e 7=.ptr (H.length+1) (c0+1) 5 0 0/\e 8=.ptr (H.length+2) (c0+1+1) 5 0 0/\e 13=.int .i64 ((x.aP.aG.length:Int)-1-i)) ⟨G1,f1,L,q0.pb.le (by omega) (by omega),by simp[aK,e0],by simp[aK,e1],by simp[aK,e5],by simp[aK,e7],by simp[aK,e8],by simp[aK]⟩ ?_
  clear e0 e1 e5 e7 e8 e9
  intro i e Hd c2 hi ⟨G2,f2,L2,q2,e0,e1,e5,e7,e8,e13⟩ N hN
  have t5:=(uX (q2.dO S.l)).1
  simp only[no] at t5
  have r1:=q2.fp
  by_cases hil:i<x.aP.aG.length-1
  .obtain⟨j,hj⟩:∃j:Nat,(x.aP.aG.length:Int)-1-i=j:=⟨x.aP.aG.length-1-i,by omega⟩
   obtain⟨y,hy⟩:∃y,x.aP.aG[j]?=some y:=⟨_,bC (by omega)⟩
   have hj0:0<j:=by omega
   have hjw:IntKind.i64.wrap ((j:Int)-1)=(j:Int)-1:=wrap64 (by omega) (by omega)
   have hyk:=(lk j y hy).2 (by omega)
   have step:∀{H3:aC} {G3:Nat->a6} {f3:aW} {k:aY} {e':Env} {c3:Nat},PB us cs Hd G2 pm tm pf tf m1 f2 L2 k.w k.w H3 G3 m1 f3 (L2++[k])->e' 0=.ptr pm tm 19 0 0->e' 1=.ptr pf tf 7 0 0->e' 5=.ptr H.length c0 4 0 0->e' 7=.ptr (H.length+1) (c0+1) 5 0 0->e' 8=.ptr (H.length+2) (c0+1+1) 5 0 0->e' 13=.int .i64 ((j:Int)-1)->N e' H3 c3:=λ{H3 G3 f3 k e' c3} q3 f0 f1 f5 f7 f8 f13=>
    hN _ _ _ hil ⟨G3,f3,_,(q2.trans q3).le (by have:=r9 k;push_cast;omega) (by have:=r9 k;push_cast;omega),f0,f1,f5,f7,f8,by rw[f13,<-hj];congr 1;push_cast;omega⟩
   by_cases k45:y.aJ=45
   .simp[e1,e5,e13,hj,hj0,t5,aL hy,k45]
    rw[pL]
    refine sE (k:=⟨5,y,0,sV 0 0 [],0,sV 0 0 []⟩) q2.aT q2.bI (kp45 (hx.get hy) (.inr ⟨rfl,k45⟩)) (by simp[aY.w];omega) hfu1 λH3 G3 f3 c3 q3=>?_
    simp[e13,hj,hjw]
    exact step q3 (by simp[aK,e0]) (by simp[aK,e1]) (by simp[aK,e5]) (by simp[aK,e7]) (by simp[aK,e8]) (by simp[aK])
   .have k44:y.aJ=44:=by omega
    simp[e1,e5,e13,hj,hj0,t5,aL hy,k44]
    rw[pL]
    refine sE (k:=⟨4,y,0,sV 0 0 [],0,sV 0 0 []⟩) q2.aT q2.bI (kp45 (hx.get hy) (.inl ⟨rfl,k44⟩)) (by simp[aY.w];omega) hfu1 λH3 G3 f3 c3 q3=>?_
    simp[e13,hj,hjw]
    exact step q3 (by simp[aK,e0]) (by simp[aK,e1]) (by simp[aK,e5]) (by simp[aK,e7]) (by simp[aK,e8]) (by simp[aK])
  .have hj:(x.aP.aG.length:Int)-1-i=0:=by omega
   simp[e1,e5,e13,hj,t5,aL hy0]
   rw[pL]
   have hwr:((oD y0).w:Int)=1:=by simp[aY.w]
   refine sE (k:=oD y0) q2.aT q2.bI (tS (hx.get hy0)) (by omega) hfu1 λH3 G3 f3 c3 q3=>?_
   simp
   exact done_ (q2.trans q3) (by omega) (by omega) (by simp[aK,e7]) (by simp[aK,e8])
 by_cases k46:x.aJ=46
 .obtain⟨⟨l1,l2⟩,la,lv⟩:=hsh.yield k46
  obtain⟨y,hy⟩:∃y,x.aP.aG[x.aP.aG.length-1]?=some y:=⟨_,bC (by omega)⟩
  obtain⟨y0,hy0⟩:∃y,x.aP.aG[0]?=some y:=⟨_,bC (by omega)⟩
  have hw1:IntKind.i64.wrap ((x.aP.aG.length:Int)-1)=((x.aP.aG.length-1:Nat):Int):=by rw[wrap64 (by omega) (by omega)];omega
  simp[e0,e1,e5,e9,g5,k46,hw1,aL hy]
  refine oH hE S.q.aT S.q.bI (hx.get hy) (la y (bA hy)) S.n λw H2 G2 m2 f2 c2 hw q2 _=>?_
  have gm2:=λM K=>bT q2.aT.hm M K
  have gf2:=λM K=>bT q2.bI.hf M K
  have ll:=q2.dO S.l
  have t5:=λM K=>bT (ll.at_ (p:=H.length) (ob:=no c0 x) (by simp)) M K
  have t6:=λM K=>bT (ll.at_ (p:=H.length+1) (ob:=zo (c0+1)) (by simp)) M K
  have t7:=λM K=>bT (ll.at_ (p:=H.length+2) (ob:=vo (c0+1+1) v) (by simp)) M K
  simp only[no,fS,vo] at t5 t6 t7
  have tl:=(uX ll).2.2.2.1
  have q3:=q2.app [vo c2 w]
  have o6':=(uX ll).2.2.2.2
  by_cases ha:m2.ab=0
  rotate_left
  .simp[e0,e7,e8,bW,gm2,aI.bD,aI.g12,ha,t6,t7]
   have:=S.fin (dP:=0) (w:=v) (X:=⟨false,c0+1,5,[v.enc]⟩) (c:=c2+1) q3.pb (by omega) (by omega) (.inl rfl) (S.v.mono q2.mono)
   refine⟨by omega,?_⟩
   simpa[tl,vo] using this
  by_cases h2:x.aP.aG.length=2
  .have h2':(x.aP.aG.length:Int)=2:=by omega
   simp[e0,e1,e5,e7,e9,bW,gm2,aI.bD,aI.g12,ha,h2',t5,aL hy0,gf2,aW.bD,aW.p6]
   have hpf:=bL hf.hf
   have hpf2:=bL q2.bI.hf
   have w1:∀(X:aH) (K:aH->Prop),aZ ((H2++[(⟨false,c2,5,[w.enc]⟩:aH)]).set pf X) H2.length K=K ⟨false,c2,5,[w.enc]⟩:=λX K=>by rw[rJ (by omega)];simp
   have w2:∀(X:aH) (K:aH->Prop),aZ ((H2++[(⟨false,c2,5,[w.enc]⟩:aH)]).set pf X) (H.length+1) K=K ⟨false,c0+1,5,[(sV 0 0 []).enc]⟩:=λX K=>by rw[rJ (by omega)];exact t6 _ K
   simp[w1,w2]
   simp only[vo] at q3
   refine⟨by omega,?_⟩
   exact S.fin (q3.trans (q3.bI.MW q3.aT y0.bR)).pb (by omega) (by omega) (.inr (.inr (.inr (.inr rfl)))) hw
  .have h2':¬(x.aP.aG.length:Int)=2:=by omega
   simp[e0,e7,e9,bW,gm2,aI.bD,aI.g12,ha,h2',t6]
   have:=S.fin (dP:=6) (w:=w) (X:=⟨false,c0+1,5,[w.enc]⟩) (c:=c2+1) q3.pb (by omega) (by omega) (.inr (.inr (.inr (.inr rfl)))) hw
   refine⟨by omega,?_⟩
   simpa[tl,vo] using this
 by_cases k47:x.aJ=47
 .simp[e0,e5,g5,k47]
  refine WU hR hP S.q.aT S.ab (by have:=hx.n.s;omega) (by omega) S.n λH2 G2 m2 c2 q2=>?_
  simp
  exact done_ (q2.pb S.q.bI) (by omega) (by omega) (by simp[aK,e7]) (by simp[aK,e8])
 by_cases k48:x.aJ=48
 .simp[e1,e5,g5,k48,aQ.all]
  rw[pL]
  refine push1 (tS hx) λH2 G2 f2 c2 q2=>?_
  simp
  exact done_ q2 (by simp[aY.w]) (by simp[aY.w]) (by simp[aK,e7]) (by simp[aK,e8])
 simp[e5,g5,k31,k32,k34,k35,k36,k37,k38,k39,k40,k41,k42,k43,k46,k47,k48]
 exact done_ q0.pb (by omega) (by omega) (by simp[aK,e7]) (by simp[aK,e8])
def stmt_k {c} {K:aD} (hE:iS us cs n) (hR:iR us cs n) (hP:fC us cs) (h:Lay us cs H G pm tm m) (Z:cY H G pf tf m f L) (T:NE x) (h0:m.ab=0) (W:m.bH<(n+1:Nat))
  (k:∀E v H' G' m' f' L' J,Hw E->aI.V m' v->PB us cs H G pm tm pf tf m f L (-10) (-10) H' G' m' f' L'->K (.aX [.I E,.agg (aO.enc v)]) H' J):bO aE 200 [.ptr pm tm 19 0 0,.ptr pf tf 7 0 0,.agg x.enc] H c K:=
 gL (stmt_con hE hR hP h Z T h0 W) λr H' J ⟨E,v,G',m',f',L',h1,Z,W,T⟩=>by subst h1;exact k E v H' G' m' f' L' J Z W T
end
section
variable {us:SL bU} {cs:SL bG} {H H' H'':aC} {G G' G'':Nat->a6} {pm tm pf tf:Nat} {m m' m'':aI} {f f' f'':aW} {L L' L'':aF aY} {a b a' b':Int}
def KO (n:Int):Prop:=0<=n/\n<=4\/n=6
def Hw.two {n:Int} (h:Hw n):KO n:=by unfold Hw at h;unfold KO;omega
def DB {dP:Int} {w:aO} {X} {Z:aC} {W:Nat->a6} {E:aI} {J} {T} {c} (q:PB us cs H G pm tm pf tf m f L a b Z W E J T) (ha:a<=0) (hb:b<=0) (ho:W H.length=.bP) (hv:E.V w) (h6:dP=6->ew J T+4000*E.bH+10<=81000000):
  cE (KJ us cs H G pm tm pf tf m f L) (.aX [.I dP,.agg w.enc]) (Z.set H.length X) c:=
 dD ⟨dP,w,W,E,J,T,rfl,hv,(q.eZ (bB _) ho X).le ha hb,h6⟩
structure RnS (us:SL bU) (cs:SL bG) (H:aC) (G:Nat->a6) (pm tm pf tf:Nat) (m:aI) (f:aW) (L:List aY) (h0 c0:Nat) (p7 t7:Nat) (dP:Int) (v:aO) (Hd:aC) (G2:Nat->a6) (m2:aI) (f2:aW) (L2:List aY):Prop where
 q:PB us cs H G pm tm pf tf m f L (-1) (-1) Hd G2 m2 f2 L2
 vv:m2.V v
 w:KO dP
 k:dP=4->v.aJ=6
 y:dP=6->ew f2 L2+4000*m2.bH+10<=81000000
 l:Loc Hd G2 [(h0,vo c0 (sV 0 0 [])),(p7,vo t7 v)]
 p:h0<H.length/\H.length<=p7
def run_con {n c0} (hE:iS us cs n) (hE2:iS us cs (n+1)) (hR:iR us cs n) (hP:fC us cs) (h:Lay us cs H G pm tm m) (hf:cY H G pf tf m f L) (h0:m.ab=0) (hr:m.mp+ew f L+1000<=1650000000000) (hn:m.bH<(n+1:Nat)):
  cA aE 163 [.ptr pm tm 19 0 0,.ptr pf tf 7 0 0] H c0 (KJ us cs H G pm tm pf tf m f L):=by
 refine cO F163 ?_;simp[F163,z5];refine nE (λk e Hc c'=>∃(G1:Nat->a6) (m1:aI) (f1:aW) (L1:aF aY),(ew f1 L1+4000*m1.bH).toNat<=k/\PB us cs H G pm tm pf tf m f L 0 0 Hc G1 m1 f1 L1/\m1.ab=0/\Loc Hc G1 [(H.length,vo c0 (sV 0 0 []))]/\e 0=.ptr pm tm 19 0 0/\e 1=.ptr pf tf 7 0 0/\e 5=.ptr H.length c0 5 0 0) _
  ⟨G,m,f,L,bB _,((PE.refl h hf).app [vo c0 (sV 0 0 [])]).pb,h0,Loc.nil.cons (by simp[vo]) (h.out _ (bB _)),rfl,rfl,rfl⟩ ?_
 intro k e Hc c ⟨G1,m1,f1,L1,hLk,q,hab,lz,e0,e1,e5⟩ N hN;have gf:=λM K=>bT q.bI.hf M K;have gm:=λM K=>bT q.aT.hm M K;have hcl:=λK=>q.bI.VV K;have hfu:0<=m1.bH:=q.aT.b.af (by omega);have hlb:=q.bI.DX hfu;have hzl:=bL (lz.at_ (p:=H.length) (ob:=vo c0 (sV 0 0 [])) (by simp));have gz:=λM K=>bT (lz.at_ (p:=H.length) (ob:=vo c0 (sV 0 0 [])) (by simp)) M K;have oz:=lz.ot (p:=H.length) (ob:=vo c0 (sV 0 0 [])) (by simp);simp only[vo] at gz;have next:∀{Hd:aC} {G2:Nat->a6} {m2:aI} {f2:aW} {L2:aF aY} {e':Env} {c':Nat},PB us cs Hc G1 pm tm pf tf m1 f1 L1 (-1) (-1) Hd G2 m2 f2 L2->m2.ab=0->e' 0=.ptr pm tm 19 0 0->e' 1=.ptr pf tf 7 0 0->e' 5=.ptr H.length c0 5 0 0->N e' Hd c':=λ{Hd G2 m2 f2 L2 e' c'} q2 ha f0 f1' f5=>by
  have h2:=q2.fp;have hfu2:0<=m2.bH:=q2.aT.b.af (by omega);have hlb2:=(q2.bI.DX hfu2).2;refine hN (ew f2 L2+4000*m2.bH).toNat _ _ _ _ (by omega) (bY _) ⟨G2,m2,f2,L2,bB _,(q.trans q2).le (by omega) (by omega),ha,(q2.dO lz).sub (by simp),f0,f1',f5⟩
 refine E6 ?_;show cC aE (IR.seq _ (IR.seq _ (IR.seq _ (IR.seq _ (IR.seq _ (IR.seq _ _)))))) _ _ _ _;rw[dT,dT,dT,dT,dT];refine gK (λe Hd c'=>∃(p7 t7:Nat) (dP:Int) (v:aO) (G2:Nat->a6) (m2:aI) (f2:aW) (L2:aF aY),RnS us cs Hc G1 pm tm pf tf m1 f1 L1 H.length c0 p7 t7 dP v Hd G2 m2 f2 L2/\e 0=.ptr pm tm 19 0 0/\e 1=.ptr pf tf 7 0 0/\e 5=.ptr H.length c0 5 0 0/\e 6=.I dP/\e 7=.ptr p7 t7 5 0 0) ?_ ?_;rotate_left
 .intro K hK;rcases List.eq_nil_or_concat L1 with h1|⟨L0,kr,h1⟩
  .subst h1;simp[e1,e5,gf,aW.bD,aW.g5,hcl,bW,gz];have q1:=q.app [vo c (sV 0 0 [])];simp only[vo] at q1;refine⟨by omega,?_⟩;exact DB q1 (by omega) (by omega) oz .nil (by simp)
  simp at h1;subst h1;obtain⟨pk,tk,R,x1,x2,x3,x4,rs,x5⟩:=q.bI.last;have gk:=λM K=>bT x2 M K;have gkr:=λK=>aL x4 K;have hlb1:=hlb.1;simp at hlb1;have hw1:IntKind.i64.wrap (L0.length:Int)=(L0.length:Int):=wrap64 (by omega) (by omega);have hlt1:(L0.length:Int)<(L0.length:Int)+1:=by omega
  have hne0:¬((L0.length:Int)+1=0):=by omega
  have hkp:KP m1 kr:=q.bI.p.ks kr (by simp);have hkd:=hkp.kd;have hzk:aR [.I 0,.I 0,.I 0,.str [],.aU,.I 0,.I 0,.I 0,.str [],.I 0,.aU,.I 0,.I 0,.I 0,.str [],.I 0,.aU] 0 kr.enc=kr.enc:=T0 _ _ rfl;have q1:=q.app [vo c (sV 0 0 []),ko (c+1) kr];have q1':=(PE.refl q.aT q.bI).app [vo c (sV 0 0 []),ko (c+1) kr];have LL:=((lz.app [vo c (sV 0 0 []),ko (c+1) kr]).cons (p:=Hc.length) (ob:=vo c (sV 0 0 [])) (by simp) (q.aT.out _ (bB _))).cons (p:=Hc.length+1) (ob:=ko (c+1) kr) (by simp) (q.aT.out _ (by omega));have g9:=λ{H2:aC} {G2:Nat->a6} (l:Loc H2 G2 [(Hc.length+1,ko (c+1) kr),(Hc.length,vo c (sV 0 0 [])),(H.length,vo c0 (sV 0 0 []))]) (K:aH->Prop)=>aL (l.at_ (p:=Hc.length+1) (ob:=ko (c+1) kr) (by simp)) K;have g7:=λ{H2:aC} {G2:Nat->a6} (l:Loc H2 G2 [(Hc.length+1,ko (c+1) kr),(Hc.length,vo c (sV 0 0 [])),(H.length,vo c0 (sV 0 0 []))]) (K:aH->Prop)=>aL (l.at_ (p:=Hc.length) (ob:=vo c (sV 0 0 [])) (by simp)) K;simp only[ko,vo] at g9 g7
  have done0:∀{Hd:aC} {G2:Nat->a6} {m2:aI} {f2:aW} {L2:aF aY} {a b:Int} {e':Env} {c':Nat},PB us cs (Hc++[vo c (sV 0 0 []),ko (c+1) kr]) G1 pm tm pf tf m1 f1 (L0++[kr]) a b Hd G2 m2 f2 L2->a<=-1->b<=-1->e' 0=.ptr pm tm 19 0 0->e' 1=.ptr pf tf 7 0 0->e' 5=.ptr H.length c0 5 0 0->e' 6=.I 0->e' 7=.ptr Hc.length c 5 0 0->K e' Hd c':=λ{Hd G2 m2 f2 L2 a b e' c'} q2 ha hb f0 f1' f5 f6 f7=>
   hK _ _ _ ⟨Hc.length,c,0,sV 0 0 [],G2,m2,f2,L2,⟨q2.gU.le ha hb,.nil,.inl (by omega),by simp,by simp,(q2.dO LL).sub (by simp),hzl,bB _⟩,f0,f1',f5,f6,f7⟩
  have hno:=hkp.n;by_cases k1:kr.kind=1
  .have hn1:=hno (by omega);have hi0:=hkp.i.1;by_cases hi:kr.i<(kr.n.aP.aG.length:Int)
   .obtain⟨j,hj⟩:=iY hi0;have hlen:=hn1.len;obtain⟨y,hy⟩:∃y,kr.n.aP.aG[j]?=some y:=⟨_,bC (by omega)⟩
    have hwi:IntKind.i64.wrap ((j:Int)+1)=(j:Int)+1:=wrap64 (by omega) (by omega);have hnle:¬(kr.n.aP.aG.length:Int)<=(j:Int):=by omega
    simp[e0,e1,gf,aW.bD,aW.g5,hne0,x1,gk,gkr,hw1,hlt1,cM,bW,aY.g0,aY.all,aY.g5,aY.g4,k1,hj,hnle,hwi,aY.p5];have hkp2:KP m1 ⟨1,kr.n,(j:Int)+1,kr.it,kr.dP,kr.v⟩:=⟨by simp,λ_=>hn1,by simp,by simp,by simp,by simp,⟨by simp only;omega,λ_=>by simp only;omega,by simp⟩,hkp.it,hkp.v,hkp.dP,hkp.D9⟩
    have q5:=q1.bI.TB q1.aT x1 (fF x2 _) x3 x5 hkp2 (by simp[aY.w,k1]);have g5a:=λ(K:aH->Prop)=>g9 (q5.dO LL) K;simp only[ko,vo] at g5a;simp[g5a,aY.g4,aY.g5,aY.p5,k1,hj,aL hy];refine stmt_k hE hR hP q5.aT q5.bI (hn1.get hy) hab (by have:=q.mono.f;omega) λdP v H3 G3 m3 f3 L3 c3 hw hv q6=>?_;have L6:=q6.dO (q5.dO LL);have t7:=g7 L6;have o7:=L6.ot (p:=Hc.length) (ob:=vo c (sV 0 0 [])) (by simp);have l7:=bL (L6.at_ (p:=Hc.length) (ob:=vo c (sV 0 0 [])) (by simp));simp[t7];have r1:=q5.fp;have r2:=q6.fp;have r3:=q.bI.p.nC;refine hK _ _ _ ⟨Hc.length,c,dP,v,G3,m3,f3,L3,⟨((q5.trans q6).gU.le (by omega) (by omega)).eZ (bB _) o7 _,hv,hw.two,λe=>by unfold Hw at hw;omega,λ_=>by omega,?_,hzl,bB _⟩,?_,?_,?_,?_,?_⟩
    .refine(Loc.nil.cons (p:=Hc.length) (ob:=vo c v) (eP l7) o7).cons (p:=H.length) (ob:=vo c0 (sV 0 0 [])) ?_ (L6.ot (p:=H.length) (ob:=vo c0 (sV 0 0 [])) (by simp));exact eC (L6.at_ (p:=H.length) (ob:=vo c0 (sV 0 0 [])) (by simp)) (by omega) _
    all_goals simp[aK,e0,e1,e5]
   .have hle:(kr.n.aP.aG.length:Int)<=kr.i:=by omega
    simp[e1,gf,aW.bD,aW.g5,hne0,x1,gk,gkr,hw1,hlt1,cM,bW,aY.g0,aY.all,aY.g5,aY.g4,k1,hle];refine tI q1.aT q1.bI rfl hfu λH2 G2 f2 c2 q2=>?_;simp;have:=r9 kr;refine done0 q2 (by omega) (by omega) ?_ ?_ ?_ ?_ ?_<;>simp[aK,e0,e1,e5]
  by_cases k2:kr.kind=2
  .have hn1:=hno (by omega);obtain⟨⟨l1,l2⟩,lk⟩:=hn1.v.sh.iff (.inr (hkp.w k2));obtain⟨y0,hy0⟩:∃y,kr.n.aP.aG[0]?=some y:=⟨_,bC (by omega)⟩
   obtain⟨y1,hy1⟩:∃y,kr.n.aP.aG[1]?=some y:=⟨_,bC (by omega)⟩
   simp[e0,e1,gf,aW.bD,aW.g5,hne0,x1,gk,gkr,hw1,hlt1,cM,bW,aY.g0,aY.all,aY.g4,k2,aL hy0];refine oH hE2 q1.aT q1.bI (hn1.get hy0) ((lk 0 y0 hy0).1 rfl) (by have:=q.mono.f;omega) λw H2 G2 m2 f2 c2 hw q2 q2'=>?_;have q3:=(q2' hab).pb.app [vo c2 w];have gm2:=λM K=>bT q2.aT.hm M K;have L2:=(q2.dO LL).app [vo c2 w];have t9:=λK=>g9 L2 K;simp only[vo] at t9 q3;by_cases ha:m2.ab=0
   .simp[e0,gm2,aI.bD,aI.g12,ha,bW];refine hJ (tA w) λb c5 _=>?_;cases b
    .simp[e0,e1,gm2,aI.bD,aI.g12,ha];refine tI q3.aT q3.bI rfl (q3.aT.b.af (by omega)) λH4 G4 f4 c4 q4=>?_;simp;have:=r9 kr;refine done0 (q3.trans q4) (by omega) (by omega) ?_ ?_ ?_ ?_ ?_<;>simp[aK,e0,e1,e5]
    .simp[e0,e1,t9,aY.g4,aL hy1];rw[<-z5];refine⟨by simp,?_⟩;rw[pL];have r1:=q3.fp;have r2:=q1.bI.p.nC;have hwr:((oD y1).w:Int)=1:=by simp[aY.w]
     refine sE (k:=oD y1) q3.aT q3.bI (tS (hn1.get hy1)) (by omega) (q3.aT.b.af (by omega)) λH4 G4 f4 c4 q4=>?_;simp;refine done0 (q3.trans q4) (by omega) (by omega) ?_ ?_ ?_ ?_ ?_<;>simp[aK,e0,e1,e5]
   .simp[e0,gm2,aI.bD,aI.g12,ha,bW];refine done0 q3 (by omega) (by omega) ?_ ?_ ?_ ?_ ?_<;>simp[aK,e0,e1,e5]
  by_cases k3:kr.kind=3
  .simp[e0,e1,gf,aW.bD,aW.g5,hne0,x1,gk,gkr,hw1,hlt1,cM,bW,aY.g0,aY.all,k3];refine next_k hR hP q1.aT q1.bI rfl k3 hab (by have:=q.mono.f;omega) λH2 G2 m2 f2 L2 c2 q2=>?_;simp;refine done0 q2 (by omega) (by omega) ?_ ?_ ?_ ?_ ?_<;>simp[aK,e0,e1,e5]
  by_cases k5:kr.kind=5
  .have hn1:=hno (by omega);obtain⟨w,hzw,hw48⟩:=hn1.v.sh.fin (hkp.fi k5);have hz0:kr.n.aP.aG[0]?=some w:=by rw[hzw];rfl
   simp[e1,gf,aW.bD,aW.g5,hne0,x1,gk,gkr,hw1,hlt1,cM,bW,aY.g0,aY.all,k5];refine tI q1.aT q1.bI rfl hfu λH2 G2 f2 c2 q2=>?_;simp[e1];rw[<-z5,putK0];have r1:=q2.fp;have r2:=q1.bI.p.nC;have hw4:kr.w=4:=by simp[aY.w,k5]
   refine sE (k:=⟨6,zN,0,sV 0 0 [],0,sV 0 0 []⟩) q2.aT q2.bI (V6 .nil (by omega) (by omega)) (by simp[aY.w];omega) hfu λH3 G3 f3 c3 q3=>?_;have gk3:=g9 (q3.dO (q2.dO LL));have r3:=q3.fp;have hwr2:((⟨6,zN,0,sV 0 0 [],0,sV 0 0 []⟩:aY).w:Int)=1:=by simp[aY.w]
   have hwr:((oD w).w:Int)=1:=by simp[aY.w]
   simp[e1,gk3,aY.g4,aL hz0];rw[pL];refine sE (k:=oD w) q3.aT q3.bI (tS (hn1.get hz0)) (by omega) hfu λH4 G4 f4 c4 q4=>?_;simp;refine done0 (q2.trans (q3.trans q4)) (by omega) (by omega) ?_ ?_ ?_ ?_ ?_<;>simp[aK,e0,e1,e5]
  simp[e1,gf,aW.bD,aW.g5,hne0,x1,gk,gkr,hw1,hlt1,cM,bW,aY.g0,aY.all,k1,k2,k3,k5];refine tI q1.aT q1.bI rfl hfu λH2 G2 f2 c2 q2=>?_;have L2:=q2.dO LL;have t9:=g9 L2;have t7:=g7 L2;have o7:=L2.ot (p:=Hc.length) (ob:=vo c (sV 0 0 [])) (by simp);have l7:=bL (L2.at_ (p:=Hc.length) (ob:=vo c (sV 0 0 [])) (by simp));simp[t9,t7,aY.g11,aY.d12];have hwp:=r9 kr;refine hK _ _ _ ⟨Hc.length,c,kr.dP,kr.v,G2,m1,f2,L0,⟨(q2.gU.le (by omega) (by omega)).eZ (bB _) o7 _,hkp.v,.inl hkp.D9,hkp.dP,λe=>by have:=hkp.D9;omega,?_,hzl,bB _⟩,?_,?_,?_,?_,?_⟩
  .refine(Loc.nil.cons (p:=Hc.length) (ob:=vo c kr.v) (eP l7) o7).cons (p:=H.length) (ob:=vo c0 (sV 0 0 [])) ?_ (L2.ot (p:=H.length) (ob:=vo c0 (sV 0 0 [])) (by simp));exact eC (L2.at_ (p:=H.length) (ob:=vo c0 (sV 0 0 [])) (by simp)) (by omega) _
  all_goals simp[aK,e0,e1,e5]
 clear e0 e1 e5 gf gm hcl hlb gz;intro e Hd c3 ⟨p7,t7,dP,v,G2,m2,f2,L2,S,e0,e1,e5,e6,e7⟩;show cC aE (IR.seq _ (IR.seq _ (IR.seq _ _))) _ _ _ _;rw[dT];have getz:∀{H3:aC} {G3:Nat->a6} {w:aO} (l:Loc H3 G3 [(H.length,vo c0 (sV 0 0 [])),(p7,vo t7 w)]),(∀K:aH->Prop,aZ H3 H.length K=K ⟨false,c0,5,[(sV 0 0 []).enc]⟩)/\(∀K:aH->Prop,aZ H3 p7 K=K ⟨false,t7,5,[w.enc]⟩)/\H.length<H3.length/\p7<H3.length/\G3 H.length=.bP:=λ{H3 G3 w} l=>by
  have k1:=λK=>aL (l.at_ (p:=H.length) (ob:=vo c0 (sV 0 0 [])) (by simp)) K;have k2:=λK=>aL (l.at_ (p:=p7) (ob:=vo t7 w) (by simp)) K;simp only[vo] at k1 k2;exact⟨k1,k2,bL (l.at_ (p:=H.length) (ob:=vo c0 (sV 0 0 [])) (by simp)),bL (l.at_ (p:=p7) (ob:=vo t7 w) (by simp)),l.ot (p:=H.length) (ob:=vo c0 (sV 0 0 [])) (by simp)⟩
 refine gK (λe Hd c'=>∃(dP:Int) (v:aO) (G2:Nat->a6) (m2:aI) (f2:aW) (L2:aF aY),RnS us cs Hc G1 pm tm pf tf m1 f1 L1 H.length c0 p7 t7 dP v Hd G2 m2 f2 L2/\m2.ab=0/\e 0=.ptr pm tm 19 0 0/\e 1=.ptr pf tf 7 0 0/\e 5=.ptr H.length c0 5 0 0/\e 6=.I dP/\e 7=.ptr p7 t7 5 0 0) ?_ ?_;rotate_left
 .intro K hK;obtain⟨z1,z2,z3,z4,z5'⟩:=getz S.l;have gm2:=λK=>aL S.q.aT.hm K;have hpm:pm≠p7:=λe=>by have h1:=S.l.ot (p:=p7) (ob:=vo t7 v) (by simp);rw[<-e,S.q.aT.gm] at h1;cases h1
  have hml:=bL S.q.aT.hm;have hb2:=S.q.aT.b;by_cases h2:m2.ab=2
  .simp[e0,e5,e7,gm2,aI.bD,aI.g12,h2,z1,z2,z3];exact DB (q.trans S.q) (by omega) (by omega) z5' S.vv (by simp)
  by_cases h1:m2.ab=1
  .have u7:∀(X:aH) (K:aH->Prop),aZ (Hd.set pm X) p7 K=K ⟨false,t7,5,[v.enc]⟩:=λX K=>by rw[rJ (Ne.symm hpm)];exact z2 K
   have hl19:=aI.len {m2 with ab:=0};have hd13:=aI.d13 {m2 with ab:=0};simp only at hd13;have q5:=S.q.aT.wL (m':={m2 with ab:=0}) ⟨hb2.o,hb2.c,hb2.g,hb2.mp,hb2.bH,by simp,λ_=>hb2.af (by omega),hb2.depth,hb2.jI,by simp,hb2.out⟩ (eV.of rfl rfl rfl rfl rfl (lU _)) rfl rfl rfl rfl rfl rfl rfl rfl;simp[e0,e7,gm2,aI.bD,aI.g12,h1,aI.wN,hml,hd13,hl19,u7];have q6:=q5.pb S.q.bI;have l6:=q6.dO S.l;refine hK _ _ _ ⟨4,m2.jI,G2,{m2 with ab:=0},f2,L2,⟨((S.q.trans q6).le (by omega) (by omega)).eZ (by have:=S.p;omega) (l6.ot (p:=p7) (ob:=vo t7 v) (by simp)) _,hb2.jI.mono (eV.of rfl rfl rfl rfl rfl (lU _)),.inl (by omega),λ_=>hb2.a1 h1,by simp,?_,S.p⟩,rfl,?_,?_,?_,?_,?_⟩
   .refine(Loc.nil.cons (p:=p7) (ob:=vo t7 m2.jI) (eP (by simpa using z4)) (l6.ot (p:=p7) (ob:=vo t7 v) (by simp))).cons (p:=H.length) (ob:=vo c0 (sV 0 0 [])) ?_ (l6.ot (p:=H.length) (ob:=vo c0 (sV 0 0 [])) (by simp));exact eC (l6.at_ (p:=H.length) (ob:=vo c0 (sV 0 0 [])) (by simp)) (by have:=S.p;omega) _
   all_goals simp[aK,e0,e1,e5,e7]
  .have ha0:m2.ab=0:=by have:=hb2.ab;omega
   simp[e0,gm2,aI.bD,aI.g12,h2,h1];exact hK _ _ _ ⟨dP,v,G2,m2,f2,L2,S,ha0,e0,e1,e5,e6,e7⟩
 clear e0 e1 e5 e6 e7 S;intro e Hd c3 ⟨dP,v,G2,m2,f2,L2,S,ha,e0,e1,e5,e6,e7⟩;obtain⟨z1,z2,z3,z4,z5'⟩:=getz S.l;have q3:=q.trans S.q;by_cases h6:dP=6
 .simp[e5,e6,e7,h6,z1,z2,z3];exact DB q3 (by omega) (by omega) z5' S.vv λ_=>S.y h6
 by_cases hz:dP=0
 .simp[e6,hz];exact next S.q ha (e0) (e1) (e5)
 have hw4:0<=dP/\dP<=4:=by have:=S.w;unfold KO at this;omega
 simp[e0,e1,e6,e7,h6,hz,z2];refine unwind_k hP S.q.aT S.q.bI ha S.vv hw4 S.k (by have:=q3.mp.1;omega) λb H4 G4 m4 f4 L4 c4 q4 ha4=>?_;cases b;rotate_left
 .simp;exact next ((S.q.trans q4).le (by omega) (by omega)) (by omega) (e0) (e1) (e5)
 have q5:=(q3.trans q4).le (a':=0) (b':=0) (by omega) (by omega);obtain⟨y1,y2,y3,y4,y5⟩:=getz (q4.dO S.l);have gm4:=λK=>aL q4.aT.hm K;have hml4:=bL q4.aT.hm;have hpm:pm≠p7:=λe=>by have h1:=(q4.dO S.l).ot (p:=p7) (ob:=vo t7 v) (by simp);rw[<-e,q4.aT.gm] at h1;cases h1
 have hpz:pm≠H.length:=λe=>by rw[<-e,q4.aT.gm] at y5;cases y5
 have u7:∀(X:aH) (K:aH->Prop),aZ (H4.set pm X) p7 K=K ⟨false,t7,5,[v.enc]⟩:=λX K=>by rw[rJ (Ne.symm hpm)];exact y2 K
 have u0:∀(X:aH) (K:aH->Prop),aZ (H4.set pm X) H.length K=K ⟨false,c0,5,[(sV 0 0 []).enc]⟩:=λX K=>by rw[rJ (Ne.symm hpz)];exact y1 K
 by_cases h4:dP=4
 .have hb4:=q4.aT.b;have hv4:m4.V v:=S.vv.mono q4.mono;have q6:=(q4.aT.wL (m':={m4 with ab:=1,jI:=v}) ⟨hb4.o,hb4.c,hb4.g,hb4.mp,hb4.bH,by simp,λ_=>hb4.af (by omega),hb4.depth,hv4.mono (eV.of rfl rfl rfl rfl rfl (lU _)),λ_=>S.k h4,hb4.out⟩ (eV.of rfl rfl rfl rfl rfl (lU _)) rfl rfl rfl rfl rfl rfl rfl rfl).pb q4.bI;simp[e0,e5,e6,e7,h4,gm4,aI.bD,aI.wN,hml4,u7,u0,y3,aI.NC];exact DB (q5.trans q6) (by omega) (by omega) y5 (hv4.mono (eV.of rfl rfl rfl rfl rfl (lU _))) (by omega)
 .simp[e5,e6,e7,h4,y1,y2,y3];exact DB q5 (by omega) (by omega) y5 (S.vv.mono q4.mono) (by omega)
def run_step {n} (hE:iS us cs n) (E:iS us cs (n+1)) (Z:iR us cs n) (hP:fC us cs):iR us cs (n+1):=λH G pm tm pf tf m f L J h W h0 J T=>run_con hE E Z hP h W h0 J T
def run_zero:iR us cs 0:=λH G pm tm pf tf m f L E h E E E E=>by
 have:=h.b.af (by omega);omega
def OX (E:fC us cs):∀n,iS us cs n/\iR us cs n
 |0=>⟨eval_zero,run_zero⟩
 |n+1=>by
  obtain⟨W,T⟩:=OX E n;have J:=eval_step W T E;exact⟨J,run_step W J T E⟩
end
set_option maxRecDepth 100000
def dH (st:Int) (J E:aA) (hs:AV) (v:aO):aF AV:=.I st::.str J::.str E::hs::v.enc
@[simp] theorem dH.len (st:Int) msg body hs v:(dH st msg body hs v).length=9:=by simp[dH]
def dH.cells {st:Int} {J E:aA} {hs:AV} {v:aO} (h:hs.cell=true):∀a,a∈dH st J E hs v->a.cell=true:=λa E=>by
 simp[dH] at E;rcases E with rfl|rfl|rfl|rfl|E
 .rfl
 .rfl
 .rfl
 .exact h
 .exact aO.cells _ _ E
def dH.p0 (st E:Int) msg body hs v:aR (dH st msg body hs v) 0 [.I E]=dH E msg body hs v:=by simp[dH,aR]
def dH.p1 (st:Int) msg m2 body hs v:aR (dH st msg body hs v) 1 [.str m2]=dH st m2 body hs v:=by simp[dH,aR]
def dH.p2 (st:Int) msg body b2 hs v:aR (dH st msg body hs v) 2 [.str b2]=dH st msg b2 hs v:=by simp[dH,aR]
def dH.p3 (st:Int) msg body hs h2 v:aR (dH st msg body hs v) 3 [h2]=dH st msg body h2 v:=by simp[dH,aR]
def dH.p4 (st:Int) msg body hs (v v2:aO):aR (dH st msg body hs v) 4 v2.enc=dH st msg body hs v2:=by simp[dH,aR,aO.dW]
def dH.z (st:Int):aR [.I 0,.str [],.str [],.aU,.I 0,.I 0,.str [],.I 0,.aU] 0 [.I st]=dH st [] [] .aU (sV 0 0 []):=by simp[dH,aR,iB]
def dH.z0:([.I 0,.str [],.str [],.aU,.I 0,.I 0,.str [],.I 0,.aU]:aF AV)=dH 0 [] [] .aU (sV 0 0 []):=by simp[dH,iB]
@[simp] theorem dH.all (st:Int) msg body hs v:(dH st msg body hs v).take 9=dH st msg body hs v:=fJ (by simp[dH])
def CI (r:AV):Prop:=∃(st:Int) (J E:aA) (T:SL bK) (v:aO) (o c g:Nat),r=.agg (dH st J E (T.av 2 bK.enc) v)/\qP E T.aG []/\VM o c g v
def qP.nob {s} {hs} {bs} (h:qP s hs bs):qP s hs []:=⟨by have:=h.t;simp[jJ,bE];omega,h.hn,h.h,by simp,by simp⟩
def aI.g14 (m:aI) (K:AV->Prop):aZ m.aM 14 K=K (.I m.jI.bN):=by simp[aI.aM,dM.enc,aO.dW]
section
variable {us:SL bU} {cs:SL bG} {H H' H'':aC} {G G' G'':Nat->a6} {pm tm pf tf:Nat} {m m' m'':aI} {f f' f'':aW} {L L' L'':aF aY} {a b a' b':Int}
def message_k {c k p t:Nat} {O:aF (aA×AV)} {cl:aA} {a:AV} {F:aF cH} {K:aD} (o:pZ H G m k p t O cl a F) (kk:∀s T,K (.str s) H T):bO aE 132 [.str cl,a] H c K:=by obtain⟨S,E,J⟩:=o.s.view λx _=>cH.cells x;refine PV (message_s (L:=S) (by have:=o.c;omega) (by rw[E];have:=o.l;omega) (λf W=>by rw[E] at W;have:=(o.v f W).ok;exact⟨this.s,this.n⟩)) (.cons (.refl _) (.cons J (.refl _ _))) λr T _ ⟨s,E,_⟩=>?_;subst E;exact⟨.str,kk s T⟩
def TN {c0:Nat} (h:Lay us cs H G pm tm m):cA aE 98 [.ptr pm tm 19 0 0] H c0 (λr H' _=>CI r/\∃M,H'=H++M):=by
 refine cO F98 ?_;unfold F98;have T:=λM K=>bT h.hm M K;have W:=aI.len m;have hd7:=aI.d7 m;have Z:∀i,pm≠H.length+i:=λi e=>by have:=bL h.hm;omega
 show cC aE (IR.seq _ (IR.seq _ (IR.seq _ (IR.seq _ (IR.seq _ _))))) _ _ _ _;rw[dT,dT,dT];refine gK (λe Hc E=>∃(st:Int) (J:aA) (M:aC),Hc=H++([⟨false,c0,9,[dH 0 [] [] .aU (sV 0 0 [])]⟩,⟨false,c0+1,9,[dH st J [] .aU (sV 0 0 [])]⟩]++M)/\e 0=.ptr pm tm 19 0 0/\e 2=.ptr H.length c0 9 0 0/\e 3=.ptr (H.length+1) (c0+1) 9 0 0) ?_ ?_;rotate_left
 .intro K hK;by_cases h2:m.ab=2
  .simp[dH.z0,cM,T,aI.bD,aI.g12,aI.g18,h2,dH.p0];exact hK _ _ _ ⟨m.status,[],[],by simp,rfl,rfl,rfl⟩
  by_cases h1:m.ab=1
  .obtain⟨hk0,E⟩:=h.b.jI.ok.o6 (h.b.a1 h1);obtain⟨j,hj⟩:=iY hk0;rw[hj] at E;obtain⟨E,E,O,cl,a,F,E,Z⟩:=h.obj (k:=j) (by omega);have gO:=λM K=>bT E.ho M K;have go:=λK=>aL E.o K;have hOe:=E.e;have Z:(j:Int)<(O.length:Int):=by have:=E.kl;omega
   have hac:=E.s.cell;simp[dH.z0,cM,T,aI.bD,aI.g12,aI.g4,aI.g14,h1,dH.p0,hj,hOe,Z,gO,go,fU];refine message_k (E.gE (cB.app (S:=λ_=>False) _) (λh=>h) (λh=>h)) λs Z=>?_;simp[cM,dH.p1];exact hK _ _ _ ⟨2,s,[⟨false,c0+1+1,2,[[.str cl,a]]⟩],by simp,rfl,rfl,rfl⟩
  .simp[dH.z0,cM,T,aI.bD,aI.g12,h2,h1,dH.p0];exact hK _ _ _ ⟨1,[],[],by simp,rfl,rfl,rfl⟩
 intro e Hc c ⟨st,J,M,E,e0,e2,e3⟩;subst E;simp[e0,T,aI.bD,hd7,W];refine cV (flush_s h.b.out) λr Z _ ⟨W,E,ho⟩=>⟨by subst E;exact tW _,?_⟩
 subst E;obtain⟨A,hA,Z⟩:=h.dR;have E:=hA.ln;simp at E;have E:=h.b.dR;simp[e0,e3,bW,cM,T,aI.bD,aI.g3,dH.p2,dH.p3];have E:∀{v:aO} {X:aC} {c:Nat},m.V v->cE (λr H' (_:Nat)=>CI r/\∃M,H'=H++M) (.agg (dH st J W.mT (W.cK.av 2 bK.enc) v)) (H++X) c:=λhv=>dD ⟨⟨_,_,_,_,_,_,_,_,rfl,ho.nob,hv⟩,_,rfl⟩;have hrc:∀{v:aO},∀a,a∈dH st J W.mT (W.cK.av 2 bK.enc) v->a.cell=true:=dH.cells (nI _ _ _);refine NS (hA.kp (cB.app (S:=λ_=>False) _) (λh=>h)) (by omega) λn J J=>?_;have W:n = -1\/0<=n/\n<m.cells.ln:=by
  rcases J with J|⟨b,hb,_,J⟩<;>simp at J<;>subst J
  .exact .inl rfl
  .exact .inr (Z b hb)
 rcases W with rfl|⟨J,W⟩
 .simp[e2,e3,cM];exact E .nil
 obtain⟨j,rfl⟩:=iY J;obtain⟨pC,J,C,x,hCe,Z,hCo,W,J,hne2,hCg,_⟩:=h.cell (k:=j) (by omega);have gC:=λM K=>bT hCo M K;simp[e0,T,aI.bD,aI.g2,hCe,Z,gC,aL W];refine fR (NA x (by have:=VM.CY J;omega)) (λ_ c3 _=>?_) λc3 _=>?_
 .simp[e0,e2,e3,T,aI.bD,aI.g2,hCe,Z,gC,aL W,cM];refine nT (PH J) λy J _ J=>?_;simp[e2,e3,cM,dH.p4];exact E J
 .simp[e2,e3,cM];exact E .nil
end
set_option maxRecDepth 100000
def lZ (us:SL bU) (cs:SL bG) (E:Int):aI:=⟨us.av 5 bU.enc,cs.av 4 bG.enc,.aU,.aU,.aU,.aU,.aU,⟨[],.nil,.nil⟩,E,0,0,sV 0 0 [],0⟩
def putM (us:SL bU) (cs:SL bG) (E:Int):aR (aR (aR [.aU,.aU,.aU,.aU,.aU,.aU,.aU,.str [],.aU,.aU,.I 0,.I 0,.I 0,.I 0,.I 0,.str [],.I 0,.aU,.I 0] 0 [us.av 5 bU.enc]) 1 [cs.av 4 bG.enc]) 10 [.I E]=(lZ us cs E).aM:=by simp[aR,aI.aM,dM.enc,iB,lZ,SL.av]
def put19 (a:aF AV) (m:aI) (h:a.length=19):aR a 0 m.aM=m.aM:=by have E:=aI.len m;simp only[aR,List.take_zero,F0,oO,E];rw[LO (by omega),List.append_nil]
section
variable {us:SL bU} {cs:SL bG} {H H' H'':aC} {G G' G'':Nat->a6} {pm tm pf tf:Nat} {m m' m'':aI} {f f' f'':aW} {L L' L'':aF aY} {a b a' b':Int}
def StaQ (us:SL bU) (cs:SL bG) (H:aC) (n:Nat) (r:AV) (H':aC) (_:Nat):Prop:=
 ∃G pm tm m,r=.ptr pm tm 19 0 0/\Lay us cs H' G pm tm m/\m.ab=0/\m.mp<=1640000000000+2*n/\∀q x,H[q]?=some x->H'[q]?=some x/\G q=.bP
def lay0 {E:Int} (J:0<=E) (T:E<=20000) t:Lay us cs (H++[(lZ us cs E).ob t]) (λq=>if q=H.length then .jU else .bP) H.length t (lZ us cs E):=by refine⟨by simp,by simp,λp E=>if_neg (by simp at E;omega),rfl,rfl,⟨by simp[lZ,AV.ln],by simp[lZ,AV.ln],by simp[lZ,AV.ln],by simp[lZ,AV.ln,aI.mp];omega,by simp only[lZ];omega,by simp[lZ],λ_=>J,by simp[lZ],.nil,by simp[lZ],?_⟩,⟨[],.inl ⟨rfl,rfl⟩,by simp⟩,⟨[],.inl ⟨rfl,rfl⟩,by simp⟩,⟨[],.inl ⟨rfl,rfl⟩,by simp⟩,⟨[],.inl ⟨rfl,rfl⟩,by simp⟩,⟨[],.inl ⟨rfl,rfl⟩,by simp⟩⟩;exact⟨by simp[lZ,jJ,bE],by simp[lZ],by simp[lZ],by simp[lZ],by simp[lZ]⟩
def start_con {V:SL cH} {bH:Int} {c0} (E:V.aG.length<=1048576) (hv:VsOK V.aG):
  cA aE 93 [us.av 5 bU.enc,cs.av 4 bG.enc,V.av 6 cH.enc,.I bH] H c0 (StaQ us cs H V.aG.length):=by
 refine cO F93 ?_;simp[F93];refine cX (DS bH 20000) (fB _) λE _=>?_;simp;refine cX (BA 0 (min bH 20000)) (fB _) λc2 _=>?_;obtain⟨E,J⟩:∃E,max 0 (min bH 20000)=E:=⟨_,rfl⟩
 have W:0<=E:=by omega
 have T:E<=20000:=by omega
 rw[J];simp[putM];refine⟨by simp[aR],by simp[aR],aI.len _,?_⟩;rw[put19 _ _ rfl];refine tP V.aG.length (λi e J c=>∃(G:Nat->a6) (tm:Nat) (m:aI),Lay us cs J G H.length tm m/\m.ab=0/\m.mp<=1640000000000+2*i/\(∀q x,H[q]?=some x->J[q]?=some x/\G q=.bP)/\e 2=V.av 6 cH.enc/\e 9=.ptr H.length tm 19 0 0/\e 10=.I i)
  ⟨λq=>if q=H.length then .jU else .bP,c2,lZ us cs E,lay0 W T c2,rfl,by simp[lZ,aI.mp,AV.ln];omega,λq x E=>⟨fF E _,if_neg (by have:=bL E;omega)⟩,rfl,rfl,rfl⟩ ?_
 intro i e J c E ⟨G,tm,m,h,hab,hmp,hk,e2,e9,J⟩ N hN;by_cases hil:i<V.aG.length
 .obtain⟨x,hx⟩:∃x,V.aG[i]?=some x:=⟨_,bC hil⟩
  have Z:(i:Int)<(V.aG.length:Int):=by omega
  have hst:=cD (i:=i) (n:=V.aG.length) (by unfold mx;omega) hil;have E:m.V x.jV:=VM.mono (hv x (bA hx)) (kH _) (kH _) (kH _);simp[e2,e9,J,Z,aL hx,cH.enc];refine II h E (by omega) λa E E c2 q E E=>?_;obtain⟨A,W,hA2⟩:=q.aT.dR;have T:=W.ln;have hgl:=q.aT.b.dR;have hqm:=q.mp.1;have E:=q.aT.b;have hac:=W.cell;simp only at T hgl W hqm hac;simp at T;have T:=λM K=>bT q.aT.hm M K;have T:=λK=>aL q.aT.hm K;have hTB:∀(s:aA) (k:Int),aR (aR [.str [],.I 0] 0 [.str s]) 1 [.I k]=(cZ.mk s k).enc:=λs k=>by simp[aR,cZ.enc]
  simp[e2,e9,J,T,aI.bD,aI.g3,aL hx,cH.enc,hTB];refine⟨by simp[aR],?_⟩;have qa:=q.app [⟨false,c2,2,[(cZ.mk x.Name m.cells.ln).enc]⟩];refine xS (W.kp (cB.app (S:=λ_=>False) _) (λh=>h)) (vB q.aT.out _) (aM:=(cZ.mk x.Name m.cells.ln).enc) (by simp) (by simp;omega) (by simp;unfold mx;omega) λp3 T G3 W hc3 wR=>?_;simp only[nR] at W ⊢;have T:A.map cZ.enc++[(cZ.mk x.Name m.cells.ln).enc]=(A++[cZ.mk x.Name m.cells.ln]).map cZ.enc:=by simp
  rw[T] at W;have T:aI.mp { {m with cells:=a} with dR:=.ref p3 (c2+1) 2 (A.length+1)}<=1640000000000+2*((i+1:Nat):Int):=by simp only[aI.mp,sK] at hqm hmp ⊢;push_cast;omega
  obtain⟨r1,r2⟩:=qa.aT.MX W hc3 wR ⟨E.o,E.c,E.g,Int.le_trans T (by omega),E.bH,E.ab,E.af,E.depth,E.jI,E.a1,E.out⟩ λb E=>by
   rcases dI.1 E with E|E
   .exact hA2 b E
   .simp at E;subst E;simp only;omega
  obtain⟨E,_⟩:=hc3 _ _ qa.aT.hm (by rw[qa.aT.gm];simp);have W:=λK=>aL E K;have hlm3:=bL E;simp[e9,J,W,aI.bD,aI.p3,hst];refine hN _ _ _ hil ⟨G3,tm,_,r1,hab,T,λp z E=>?_,?_,?_,?_⟩
  .obtain⟨W,T⟩:=hk p z E;obtain⟨k3,E⟩:=qa.loc W T;obtain⟨W,T⟩:=r2 p z k3 (by rw[E];simp);exact⟨W,T.trans E⟩
  all_goals simp[aK,e2,e9]
 .have Z:¬(i:Int)<(V.aG.length:Int):=by omega
  have E:i=V.aG.length:=by omega
  simp[e2,e9,J,Z];exact dD ⟨G,_,tm,m,rfl,h,hab,by rw[<-E];exact hmp,hk⟩
end
def tree_s {us:SL bU} (h:uI us.aG) {main:aA} (hm:main.length<=1048576) {V:SL cH} {o c g:Nat} (hV:V.aG.length<=1048576) (hV2:∀f,f∈V.aG->VM o c g f.jV/\f.Name.length<=1048576) {bH:Int}:
  bM aE 68 [us.av 5 bU.enc,.str main,V.av 6 cH.enc,.I bH] CI:=by
 intro c0;refine cO F68 ?_;unfold F68;simp[dH.z0];refine cV (linkU_s h) λr c1 _ ⟨cs,code,hr,hc0,hc5,hok⟩=>⟨fB _,?_⟩
 subst hr;simp;have bad:∀{H:aC} {c:Nat},cE (λr H' _=>H'=[]/\CI r) (.agg (dH 7 [] [] .aU (sV 0 0 []))) H c:=aS ⟨rfl,7,[],[],.nil,sV 0 0 [],0,0,0,rfl,⟨by simp[jJ,bE],by simp,by simp,by simp,by simp⟩,VM.sc (by omega) (by omega) (by simp)⟩;refine cV (OR h) λr c2 _ hr2=>⟨fB _,?_⟩
 by_cases hcd:code=0;rotate_left
 .rcases hr2 with rfl|⟨i,rfl,hi⟩
  all_goals
   simp[hcd,dH.p0,dH.len,dH.all];exact bad
 obtain⟨h8,hCK,hl,hEr⟩:=hok hcd;have hP:fC us cs:=⟨h,NN.len h h8,hCK,hl,hEr⟩
 rcases hr2 with rfl|⟨i,rfl,hi⟩
 .simp[hcd,dH.p0,dH.len,dH.all];exact bad
 have hi0:¬(i:Int)<0:=by omega
 simp[hcd,hi0];refine fR (vars_s hV hV2) (λhvs c3 _=>?_) λc3 _=>?_;rotate_left
 .simp[dH.p0,dH.len,dH.all];exact bad
 simp;refine gL (start_con (us:=us) (cs:=cs) hV hvs) λr H1 c4 ⟨G1,pm,tm,m1,hr,hlay,hab,hmp,hk⟩=>?_;subst hr;simp;refine WU (n:=20001) (OX hP 20001).2 hP hlay hab hm (by omega) (by have:=hlay.b.bH;omega) λH2 G2 m2 c5 q2=>?_;simp;have lz:=q2.loc (hk 0 _ rfl).1 (hk 0 _ rfl).2;refine nE (λk e Hc c'=>∃(i:Nat) (G:Nat->a6) (m:aI),41-i<=k/\i<=m.bS.ln/\Lay us cs Hc G pm tm m/\m.mp<=1640000000000+2*1048576+10+2000*i/\Hc[0]?=some ⟨false,c0,9,[dH 0 [] [] .aU (sV 0 0 [])]⟩/\G 0=.bP/\e 8=.ptr 0 c0 9 0 0/\e 9=cs.av 4 bG.enc/\e 12=.ptr pm tm 19 0 0/\e 13=.I i) _ ⟨0,G2,m2,bB _,kH _,q2.aT,by have:=q2.mp.1;omega,lz.1,lz.2,rfl,rfl,rfl,rfl⟩ ?_;clear hk lz q2 hlay hmp hab;intro k e Hc c ⟨i,G,m,hik,hio,hlay,hmp,l0,o0,e8,e9,e12,e13⟩ N hN;have gm:=λK=>aL hlay.hm K;have gmA:=λM K=>bT hlay.hm M K;obtain⟨O,hO,_⟩:=hlay.bS;have hOl:=hO.ln;have hOw:=λK=>hO.BE K;simp at hOl hOw;have hob40:=hlay.b.o;have g0A:=λM K=>bT l0 M K;by_cases hgo:i<m.bS.ln/\m.ab=0
 .obtain⟨pO,tO,O2,cl,a,F,hob,hne⟩:=hlay.obj hgo.1;have gO:=λK=>aL hob.ho K;have gOA:=λM K=>bT hob.ho M K;have go:=λK=>aL hob.o K;have hOe:=hob.e;have hiO:(i:Int)<(O2.length:Int):=by have:=hob.kl;omega
  have hlt:(i:Int)<(O.length:Int):=by omega
  simp[e9,e12,e13,gm,aI.bD,aI.g4,aI.g12,hOe,hgo.2,gO,go,fU,hiO];have hp5:∀x:dJ,aR [.str [],.str [],.str [],.bool false,.bool false] 0 x.enc=x.enc:=λx=>by simp[dJ.enc,aR]
  have hw1:IntKind.i64.wrap ((i:Int)+1)=((i+1:Nat):Int):=by rw[wrap64 (by omega) (by omega)];push_cast;rfl
  have next:∀{H3:aC} {G3:Nat->a6} {m3:aI} {e':Env} {c':Nat},PA us cs Hc G pm tm m 2000 H3 G3 m3->e' 8=.ptr 0 c0 9 0 0->e' 9=cs.av 4 bG.enc->e' 12=.ptr pm tm 19 0 0->e' 13=.I ((i+1:Nat):Int)->N e' H3 c':=λ{H3 G3 m3 e' c'} q3 f8 f9 f12 f13=>by
   have h1:=q3.loc l0 o0;have h2:=q3.mono.o;have h3:=q3.mp.1;exact hN (41-(i+1)) _ _ _ _ (by omega) (bY _) ⟨i+1,G3,m3,bB _,by omega,q3.aT,by push_cast;omega,h1.1,h1.2,f8,f9,f12,f13⟩
  refine xH hP (λx c1 hD=>?_) λx c1=>?_
  .simp[e12,e13,bW,hp5,gmA,aI.bD,aI.g4,hOe,gOA,go,fU,hiO,hw1];refine wU (hlay.app _) hP hD (by omega) λy c2 hy=>?_;simp;refine BU (n:=20001) (OX hP 20001).2 hP (hlay.app _) hgo.2 hy hy.cg (.inl ⟨.nil,rfl,rfl⟩) (by simp) (by omega) (by have:=hlay.b.bH;omega) λv H3 G3 m3 c3 hv q3=>?_;simp[e13,hw1];exact next q3.gU (e8) (e9) (e12) (rfl)
  .simp[e13,bW,hp5,hw1];exact next (((PA.refl hlay).app _).le (by omega)) (e8) (e9) (e12) (rfl)
 .by_cases hio2:i<m.bS.ln
  .have hab:m.ab≠0:=λe=>hgo ⟨hio2,e⟩;have hlt:(i:Int)<(O.length:Int):=by omega
   simp[e12,e13,gm,aI.bD,aI.g4,aI.g12,hOw,hlt,hab];refine gL (TN hlay) λr H' c' ⟨⟨st,msg,body,hs,v,o',d',g',hr,h1,h2⟩,M,hM⟩=>?_;subst hr;subst hM;simp[e8,g0A];exact⟨by have:=bL l0;omega,aS ⟨rfl,st,msg,body,hs,v,o',d',g',rfl,h1,h2⟩⟩
  .have hlt:¬(i:Int)<(O.length:Int):=by omega
   simp[e12,e13,gm,aI.bD,aI.g4,hOw,hlt];refine gL (TN hlay) λr H' c' ⟨⟨st,msg,body,hs,v,o',d',g',hr,h1,h2⟩,M,hM⟩=>?_;subst hr;subst hM;simp[e8,g0A];exact⟨by have:=bL l0;omega,aS ⟨rfl,st,msg,body,hs,v,o',d',g',rfl,h1,h2⟩⟩
set_option maxRecDepth 100000
def FE (l:aF fW):Prop:=l.length<=5/\∀x,x∈l->x.Name.length<=64/\x.Value.length<=64
def arr36_s {s:SL fW} (hs:FE s.aG):bM aE 137 [s.av 2 fW.enc] (Va (VM 0 0 0)):=by
 intro c0;refine cO F137 ?_;unfold F137;have hp:∀x:aO,aR [.I 0,.I 0,.str [],.I 0,.aU] 0 x.enc=x.enc:=λx=>by simp[aO.dW,aR]
 have hpp:∀x y:aO,aR y.enc 0 x.enc=x.enc:=λx y=>by simp[aO.dW,aR]
 simp;refine cX CE (eL _) λc1 _=>?_;simp[hp];have hw4:aO.wt (sV 4 0 [])=1:=by rw[uW (by rfl)];simp[sV,bE,aO.bF]
 refine tP s.aG.length (λi e H c'=>∃(t1:Nat) (v:aO),v.aJ=4/\dU 0 0 0 v/\v.wt<=1+i/\e 0=s.av 2 fW.enc/\e 2=.ptr 0 c0 5 0 0/\e 3=.ptr 1 t1 5 0 0/\e 4=.I i/\H=[⟨false,c0,5,[[.I 0,.I 0,.str [],.I 0,.aU]]⟩,⟨false,t1,5,[v.enc]⟩])
  ⟨_,sV 4 0 [],rfl,(VM.sc (by omega) (by omega) (by simp)).ok,by rw[hw4];omega,rfl,rfl,rfl,rfl,rfl⟩ ?_
 intro i e H c hi ⟨t1,v,k4,hv,hw,e0,e2,e3,e4,hH⟩ N hN;subst hH;have hl5:=hs.1;by_cases hil:i<s.aG.length
 .obtain⟨x,hx⟩:∃x,s.aG[i]?=some x:=⟨_,bC hil⟩
  have hxx:=hs.2 x (bA hx);have hlt:(i:Int)<(s.aG.length:Int):=by omega
  have hst:=cD (i:=i) (n:=s.aG.length) (by unfold mx;omega) hil;simp[e0,e3,e4,hlt,aL hx];refine cV (R7 (by omega)) λr c2 _ ⟨k,hr,hk⟩=>⟨by subst hr;exact OL k,?_⟩
  subst hr;simp[e3];refine cX (nU x.Value) (eL _) λc3 _=>?_;simp[e3];have hxv:VM 0 0 0 (sV 3 0 x.Value):=VM.sc (by omega) (by omega) (by omega);have hx1:aO.wt (sV 3 0 x.Value)=1:=by rw[aO.uV,if_neg (by simp[sV,aO.aJ])]
  refine cV (DA hv k4 (by omega) hk hxv.ok) λr c4 _ ⟨v',hr,h4',hv',hw',_⟩=>⟨by subst hr;exact eL _,?_⟩
  subst hr;simp[e3,e4,hst,hpp];exact hN _ _ _ hil ⟨t1,v',h4',hv',by omega,e0,e2,e3,rfl,rfl⟩
 .have hlt:¬(i:Int)<(s.aG.length:Int):=by omega
  simp[e0,e2,e3,e4,hlt,hp];exact aS ⟨rfl,v,rfl,hv,by omega⟩
def UJ {s:SL fW} (hs:FE s.aG):bM aE 84 [s.av 2 fW.enc] Bo:=by
 intro E;refine cO F84 ?_;simp[F84];refine tP s.aG.length (λi e H c'=>e 0=s.av 2 fW.enc/\e 3=.I i/\H=[]) ⟨rfl,rfl,rfl⟩ ?_;intro i e H c E ⟨W,Z,E⟩ N hN;subst E;have E:=hs.1;by_cases J:i<s.aG.length
 .obtain⟨x,hx⟩:∃x,s.aG[i]?=some x:=⟨_,bC J⟩
  have E:(i:Int)<(s.aG.length:Int):=by omega
  have hst:=cD (i:=i) (n:=s.aG.length) (by unfold mx;omega) J;have go:∀{T:Env} {c':Nat},T 0=s.av 2 fW.enc->T 3=.I ((i+1:Nat):Int)->N T [] c':=λf0 T=>hN _ _ _ J ⟨f0,T,rfl⟩;by_cases J:60<x.Name.length
  .have J:(60:Int)<(x.Name.length:Int):=by omega
   simp[W,Z,E,aL hx,J];exact aS ⟨rfl,_,rfl⟩
  have J:¬(60:Int)<(x.Name.length:Int):=by omega
  by_cases T:60<x.Value.length
  .have T:(60:Int)<(x.Value.length:Int):=by omega
   simp[W,Z,E,aL hx,J,T];exact aS ⟨rfl,_,rfl⟩
  have T:¬(60:Int)<(x.Value.length:Int):=by omega
  simp[W,Z,E,aL hx,J,T,hst];exact go (W) (rfl)
 .have E:¬(i:Int)<(s.aG.length:Int):=by omega
  simp[W,Z,E];exact aS ⟨rfl,_,rfl⟩
def CH (x:eW):Prop:=x.Path.length<=64/\FE x.Query.aG/\FE x.CO.aG
def N7 {x:eW} (E:CH x):bM aE 63 [.agg x.enc] Bo:=by
 intro J;refine cO F63 ?_;unfold F63;have J:=E.1;simp;refine cX (MT (by unfold mx;omega)) .bool λJ _=>?_;cases xB x.Path
 .simp;exact aS ⟨rfl,_,rfl⟩
 simp;refine hJ (UJ E.2.1) λb J _=>?_;cases b
 .simp;exact aS ⟨rfl,_,rfl⟩
 simp;refine hJ (UJ E.2.2) λb E _=>?_;simp;exact aS ⟨rfl,_,rfl⟩
def X2 {Q:AV->Prop} {H} {c'} {a a'} (E:View H a a') (h:Q a'):cE (λr J _=>J=[]/\Q r) a H c':=⟨H,[],[],a',eX _,.nil,λo h=>h,by simp[aV],E,rfl,h⟩
def QC (r:AV):Prop:=∃L:SL cH,r=L.av 6 cH.enc/\L.aG.length<=3/\∀f,f∈L.aG->VM 0 0 0 f.jV/\f.Name.length<=20
def fin_vr {H} {c' i t n} {L:aF cH} (E:(⟨false,t,6,L.map cH.enc⟩:aH)∈H) (J:L.length=n) (h:L.length<=3/\∀f,f∈L->VM 0 0 0 f.jV/\f.Name.length<=20):cE (λr T _=>T=[]/\QC r) (.ref i t 6 n) H c':=
 X2 (jK E J λx _=>cH.cells x) ⟨.mk t L,rfl,h⟩
def T1 s (v:aO):aR (aR [.str [],.I 0,.I 0,.str [],.I 0,.aU] 0 [.str s]) 1 v.enc=(cH.mk s v).enc:=by simp[aR,cH.enc,aO.dW]
def RvQ (r:AV) (E:aC) (_:Nat):Prop:=∃(t:Nat) (L:aF cH),r=.ref 0 t 6 L.length/\E=[⟨false,t,6,L.map cH.enc⟩]/\L.length<=2/\∀f,f∈L->VM 0 0 0 f.jV/\f.Name.length<=20
def reqVars_s {x:eW} (hx:CH x) c0:cA aE 100 [.agg x.enc] [] c0 RvQ:=by
 refine cO F100 ?_;simp[F100];refine hJ (N7 hx) λb c1 _=>?_;cases b
 .simp;exact fI (Hk:=[⟨false,c1,6,[]⟩]) (by simp) .name ⟨c1,[],rfl,rfl,by simp,by simp⟩
 have key:∀{s:SL fW} {H:aC} {c:Nat} {K:aD},FE s.aG->(∀v c',VM 0 0 0 v->K (.agg v.enc) H c')->bO aE 137 [s.av 2 fW.enc] H c K:=λhs k=>nT (arr36_s hs) λv c' _ hv=>k v c' hv;have fin:∀{v w:aO} {X:aH} {c' i t:Nat} {a b:aA},VM 0 0 0 v->VM 0 0 0 w->a.length<=20->b.length<=20->cE RvQ (.ref i t 6 2) [X,⟨false,t,6,[(cH.mk a v).enc,(cH.mk b w).enc]⟩] c':=λ{v w X c' i t a b} h1 h2 h4 h5=>
  fI (Hk:=[⟨false,t,6,[(cH.mk a v).enc,(cH.mk b w).enc]⟩]) (by simp) .name ⟨t,[⟨a,v⟩,⟨b,w⟩],rfl,rfl,by simp,λf hf=>by simp at hf;rcases hf with rfl|rfl;exact⟨h1,h4⟩;exact⟨h2,h5⟩⟩
 obtain⟨_,hQ,hC⟩:=hx;simp
 repeat' first
  |with_reducible apply And.intro
  |(with_reducible refine key hQ λv c2 hv=>?_
    simp)
  |(with_reducible refine key hC λw c3 hw=>?_
    simp[T1])
  |(simp[aR];done)
  |exact fin hv hw (by simp) (by simp)
def vars38_s {x:eW} {data:aA} (hx:CH x) (hd:data.length<=1048576):bM aE 69 [.agg x.enc,.str data] QC:=by
 intro c0;refine cO F69 ?_;unfold F69;have hp:∀x:aO,aR [.I 0,.I 0,.str [],.I 0,.aU] 0 x.enc=x.enc:=λx=>by simp[aO.dW,aR]
 have key:∀{H:aC} {c:Nat} {K:aD},(∀(t:Nat) (L:aF cH) (c':Nat),L.length<=2->(∀f,f∈L->VM 0 0 0 f.jV/\f.Name.length<=20)->K (.ref H.length t 6 L.length) (H++[⟨false,t,6,L.map cH.enc⟩]) c')->bO aE 100 [.agg x.enc] H c K:=λk=>
  P1 (reqVars_s hx _) λr O c' ⟨t,L,hr,hO,h1,h2⟩=>by subst hr;subst hO;exact⟨_,.name,k t L c' h1 h2⟩
 have fin:∀{v:aO} {L:aF cH} {X:aC} {c' i t:Nat} {b:aA},VM 0 0 0 v->L.length<=2->(∀f,f∈L->VM 0 0 0 f.jV/\f.Name.length<=20)->b.length<=20->(⟨false,t,6,L.map cH.enc++[(cH.mk b v).enc]⟩:aH)∈X->cE (λr H' _=>H'=[]/\QC r) (.ref i t 6 (L.length+1)) X c':=λ{v L X c' i t b} h1 h2 h3 h4 h5=>
  fin_vr (L:=L++[⟨b,v⟩]) (by simpa using h5) (by simp) ⟨by simp;omega,λf hf=>by
   rcases dI.1 hf with h|h
   .exact h3 f h
   .simp at h;subst h;exact⟨h1,h4⟩⟩
 have hT:∀L:aF cH,List.take L.length (L.map cH.enc)=L.map cH.enc:=λL=>fJ (by simp);simp;refine cV (R1 hd) λr c1 _ ⟨v,b,hr,hv⟩=>⟨by subst hr;exact hY (eL v) .bool,?_⟩
 subst hr;simp[hp]
 repeat' first
  |with_reducible apply And.intro
  |(with_reducible refine key λt L c2 hL hL2=>?_
    simp[T1,vS,wJ,pV,hT])
  |(simp[aR];done)
  |omega
  |(unfold mx;omega)
  |(refine fin hv hL hL2 (b:=[115,101,115,115,105,111,110]) (by simp) ?_;simp;done)
set_option maxRecDepth 100000
def plainR_s {fs:SL cS} {x:eW} {data:aA} (hf:A1 fs) (hx:CH x) (hd:data.length<=1048576):bM aE 40 [fs.av 3 cS.enc,.agg x.enc,.str data] CI:=by
 intro c0;refine cO F40 ?_;unfold F40;have h1:=hx.1;have bad:∀{H:aC} {c:Nat},cE (λr H' _=>H'=[]/\CI r) (.agg (dH 7 [] [] .aU (sV 0 0 []))) H c:=aS ⟨rfl,7,[],[],.nil,sV 0 0 [],0,0,0,rfl,⟨by simp[jJ,bE],by simp,by simp,by simp,by simp⟩,VM.sc (by omega) (by omega) (by simp)⟩;simp[dH.z0];refine cV (unitsOf_s hf (by unfold mx;omega)) λr c1 _ ⟨s,code,hr,_,_,hU⟩=>⟨fB _,?_⟩
 subst hr;by_cases hc0:code=0;rotate_left
 .simp[hc0,dH.p0];exact bad
 have hU:=hU hc0;simp[hc0];refine hJ (N7 hx) λb c2 _=>?_;cases b
 .simp[dH.p0];exact bad
 simp;refine cV (vars38_s hx hd) λr c3 _ ⟨L,hr,hL,hL2⟩=>⟨fB _,?_⟩
 subst hr;simp;refine cV (tree_s hU (by omega) (o:=0) (c:=0) (g:=0) (by omega) λf hf=>⟨(hL2 f hf).1,by have:=(hL2 f hf).2;omega⟩) λr c4 _ ⟨st,msg,body,hs,v,o,d,g,hr,h2,h3⟩=>⟨fB _,?_⟩
 subst hr;simp;exact aS ⟨rfl,st,msg,body,hs,v,o,d,g,rfl,h2,h3⟩
def early_s {fs:SL cS} {x:eW} (T:A1 fs) (J:CH x):bM aE 38 [fs.av 3 cS.enc,.agg x.enc] (λr=>∃n:Int,r=.I n/\0<=n/\n<=1000):=by
 intro E;refine cO F38 ?_;unfold F38;have W:=J.1;have E:∀{n:Int} {H:aC} {c:Nat},0<=n->n<=1000->cE (λr Z _=>Z=[]/\∃n:Int,r=.I n/\0<=n/\n<=1000) (.I n) H c:=λW Z=>aS ⟨rfl,_,rfl,W,Z⟩;simp;refine hJ (N7 J) λb J _=>?_;cases b
 .simp;exact E (by omega) (by omega)
 simp;refine cX (MS T) .bool λJ _=>?_;cases qH fs.aG
 .simp;exact E (by omega) (by omega)
 simp;refine cX (C6 (s:=fs) (p:=x.Path) T.1 (by unfold mx;omega)) .int λJ _=>?_;by_cases J:nH x.Path fs.aG<0
 .simp[J];exact E (by omega) (by omega)
 .simp[J];exact E (by omega) (by omega)
def FF (r:AV) (W:aC) (_:Nat):Prop:=∃(E:Int) (J s:aA) (T:aF bK),qP J T []/\s.length<=200000/\(0<=E/\E<=1000)/\((r=.aX [.agg [.I E,.aU,.str J],.str s]/\T=[]/\W=[])\/∃t,r=.aX [.agg [.I E,.ref 0 t 2 T.length,.str J],.str s]/\W=[⟨false,t,2,T.map bK.enc⟩])
def L7 {S} {code:Int} {i k t n} {E s}:View S (.aX [.agg [.I code,.ref i t 2 n,.str E],.str s]) (.aX [.agg [.I code,.ref k t 2 n,.str E],.str s]):=
 .aX rfl λj a T h E=>by
  match j,h,E with
  |0,h,E=>
   simp at h E;subst h;subst E;refine .agg rfl (λj a J=>?_) λj a T h E=>?_
   .match j,J with
    |0,J=>simp at J;subst J;rfl
    |1,J=>simp at J;subst J;rfl
    |2,J=>simp at J;subst J;rfl
    |n+3,J=>simp at J
   .match j,h,E with
    |0,h,E=>simp at h E;subst h;subst E;exact .refl _
    |1,h,E=>simp at h E;subst h;subst E;exact .name
    |2,h,E=>simp at h E;subst h;subst E;exact .refl _
    |n+3,h,E=>simp at h
  |1,h,E=>simp at h E;subst h;subst E;exact .refl _
  |n+2,h,E=>simp at h
def OT {code:Int} {E s:aA} {hs:aF bK} {i t n} {H} {c} (h:qP E hs []) (J:s.length<=200000) (Z:0<=code/\code<=1000) (W:hs.length=n) (T:(⟨false,t,2,hs.map bK.enc⟩:aH)∈H):cE FF (.aX [.agg [.I code,.ref i t 2 n,.str E],.str s]) H c:=by subst W;exact fI (Hk:=[⟨false,t,2,hs.map bK.enc⟩]) (CP.2 T) L7 ⟨code,E,s,hs,h,J,Z,.inr ⟨t,rfl,rfl⟩⟩
def X3 {code:Int} {s:aA} {H} {c} (E:s.length<=200000) (J:0<=code/\code<=1000):cE FF (.aX [.agg [.I code,.aU,.str []],.str s]) H c:=
 aS ⟨code,[],s,[],⟨by simp[jJ,bE],by simp,by simp,by simp,by simp⟩,E,J,.inl ⟨rfl,rfl,rfl⟩⟩
def of38_c {st:Int} {msg body data:aA} {hs:SL bK} {v:aO} {o d g:Nat} (h:qP body hs.aG []) (hv:VM o d g v) (hd:data.length<=200000) (c0:Nat):cA aE 39 [.agg (dH st msg body (hs.av 2 bK.enc) v),.str data] [] c0 FF:=by
 refine cO F39 ?_;unfold F39;have hcl:∀a,a∈dH st msg body (hs.av 2 bK.enc) v->a.cell=true:=dH.cells (nI _ _ _);have hn:=h.hn;have r0:∀(st:Int) (K:AV->Prop),aZ (dH st msg body (hs.av 2 bK.enc) v) 0 K=K (.I st):=λst K=>by simp[dH]
 have r2:∀(st:Int) (K:AV->Prop),aZ (dH st msg body (hs.av 2 bK.enc) v) 2 K=K (.str body):=λst K=>by simp[dH]
 have r3:∀(st:Int) (K:AV->Prop),aZ (dH st msg body (hs.av 2 bK.enc) v) 3 K=K (hs.av 2 bK.enc):=λst K=>by simp[dH]
 have r4:∀(st:Int) (K:AV->Prop),aZ (dH st msg body (hs.av 2 bK.enc) v) 4 K=K (.I v.aJ):=λst K=>by simp[dH,aO.dW]
 have r45:∀st:Int,((dH st msg body (hs.av 2 bK.enc) v).drop 4).take 5=v.enc:=λst=>by simp[dH]
 by_cases h1:st=1
 .subst h1;simp[r0,-jN];refine nK (λe H c'=>∃(p t q tq:Nat),e 6=.ptr p t 3 0 0/\e 19=.agg [.I 200,.ref q tq 2 hs.aG.length,.str body]/\H[0]?=some ⟨false,c0,9,[dH 1 msg body (hs.av 2 bK.enc) v]⟩/\H[1]?=some ⟨false,c0+1,3,[[.I 0,.aU,.str []]]⟩/\H[p]?=some ⟨false,t,3,[[.I 0,.aU,.str []]]⟩/\H[q]?=some ⟨false,tq,2,hs.aG.map bK.enc⟩/\2<=p/\2<=q/\e 1=.str data/\e 2=.ptr 0 c0 9 0 0/\e 4=.ptr 1 (c0+1) 3 0 0) ?_ ?_;rotate_left
  .intro K hK;simp[r2,r3,vS,pV,aR]
   repeat' first
    |with_reducible apply And.intro
    |omega
    |(unfold mx;omega)
    |exact hK _ _ _ ⟨_,_,_,_,rfl,rfl,rfl,rfl,rfl,rfl,by omega,by omega,rfl,rfl,rfl⟩
  intro e H c ⟨p,t,q,tq,e6,e19,l0,l1,lp,lq,hp,hq,e1,e2,e4⟩;have hpl:=bL lp;have hpq:p≠q:=λe=>by subst e;rw[lp] at lq;simp at lq
  have gp:=λK=>aL lp K;have s0:∀(X:aH) (K:aH->Prop),aZ (H.set p X) 0 K=K ⟨false,c0,9,[dH 1 msg body (hs.av 2 bK.enc) v]⟩:=λX K=>by rw[rJ (by omega)];exact aL l0 K
  have s1:∀(X:aH) (K:aH->Prop),aZ (H.set p X) 1 K=K ⟨false,c0+1,3,[[.I 0,.aU,.str []]]⟩:=λX K=>by rw[rJ (by omega)];exact aL l1 K
  have hl1:=bL l1;have fin:∀{s:aA} {X Y:aH} {c:Nat},s.length<=200000->cE FF (.aX [.agg [.I 200,.ref q tq 2 hs.aG.length,.str body],.str s]) ((H.set p X).set 1 Y) c:=λhs2=>OT h hs2 (by omega) rfl (bA (eC (eC lq hpq _) (by omega) _));by_cases hv0:v.aJ=0
  .simp[e2,e4,e6,e19,gp,hpl,s0,s1,r4,hv0,aR,hl1];exact fin (by simp)
  simp[e2,e6,e19,gp,s0,r4,r45,hv0,aR];refine cV (TD hv) λr c2 _ ⟨t2,b,hr,ht2⟩=>⟨fB _,?_⟩
  subst hr;cases b
  .simp[e1,e4,e6,hpl,s1,aR,hl1];exact fin hd
  by_cases hl2:2000<t2.length
  .have hl2':(2000:Int)<(t2.length:Int):=by omega
   simp[e1,e4,e6,hpl,s1,aR,hl1,hl2'];exact fin hd
  .have hl2':¬(2000:Int)<(t2.length:Int):=by omega
   simp[e1,e4,e6,hpl,s1,aR,hl1,hl2'];exact fin ht2
 by_cases h3:st=3
 .subst h3;simp[r0,aR];exact X3 hd (by omega)
 simp[r0,r2,r3,h1,h3,vS,pV,aR];exact⟨by omega,by unfold mx;omega,OT h hd (by omega) rfl (by simp)⟩
def handle_c {fs:SL cS} {x:eW} {data:aA} (hf:A1 fs) (hx:CH x) (hd:data.length<=200000) (c0:Nat):cA aE 21 [fs.av 3 cS.enc,.agg x.enc,.str data] [] c0 FF:=by
 refine cO F21 ?_;unfold F21;simp;refine cV (early_s hf hx) λr c1 _ ⟨n,hr,hn0,hn1⟩=>⟨fB _,?_⟩
 subst hr;by_cases hn:n=0;rotate_left
 .simp[hn,aR];exact X3 hd (by omega)
 simp[hn];refine cV (plainR_s hf hx (by omega)) λr c2 _ ⟨st,msg,body,hs,v,o,d,g,hr,h2,h3⟩=>⟨fB _,?_⟩
 subst hr;simp;refine P1 (of38_c h2 h3 hd _) λr O c3 ⟨code,body,s,hs2,q1,q2,qc,q3⟩=>?_;rcases q3 with⟨hr,hh,hO⟩|⟨t,hr,hO⟩
 .subst hr;subst hh;subst hO;refine⟨_,.refl _,?_⟩;simp[aR];exact aS ⟨code,body,s,[],q1,q2,qc,.inl ⟨rfl,rfl,rfl⟩⟩
 .subst hr;subst hO;refine⟨_,L7 (i:=0) (k:=2),?_⟩;simp[aR];exact OT q1 q2 qc rfl (by simp)
set_option maxRecDepth 100000
def strs (aN:aF (aF AV)):aF aA:=aN.map λr=>match r with
 |[.str x]=>x
 |_=>[]
def OkS (aN:aF (aF AV)) (n m:Nat):Prop:=aN=((strs aN).map λx=>[AV.str x])/\(strs aN).length=n/\(strs aN).all (λx=>decide (x.length<=m))=true
def J3 {t tl i n m} {h:Int} {s:SL Int} {aN} {c} {K:aD} (hr:OkS aN n m) (hi:i<=s.aG.length) (hn:s.aG.length<=1048576) (h0:0<n) (h1:n<=256)
  (k:∀(x:aA) (E:Nat) (J:Int) (T:Nat),x.length<=m->E<=s.aG.length->K (.str x) [cur t s E J,⟨false,tl,1,aN⟩] T):bO aE 45 [.ptr 0 t 3 0 0,.ref 1 tl 1 n] [cur t s i h,⟨false,tl,1,aN⟩] c K:=by obtain⟨Z,r2,W⟩:=hr;subst r2;generalize strs aN=l at Z W h0 h1 ⊢;subst Z;exact PX l hi hn h0 h1 λx E J T _ hx Z=>k x E J T (by simpa using kM.1 W x hx) Z
def FD (m t:Nat) (s:SL Int) (r:AV) (O:aC):Prop:=∃(x:aA) (i:Nat) (h:Int),r=.str x/\x.length<=m/\i<=s.aG.length/\O=[cur t s i h]
def J4 {P} {f m} {l} {t i} {h:Int} {s:SL Int} {C} {c} {K:aD} (W:cA P f l [cur t s i h] c λr O _=>FD m t s r O)
  (k:∀(x:aA) (E:Nat) (J:Int) (T:Nat),x.length<=m->E<=s.aG.length->K (.str x) (cur t s E J::C) T):bO P f l (cur t s i h::C) c K:=
 J7 W λr W T W q=>⟨by obtain⟨x,i,h,rfl,_,_,rfl⟩:=q;rfl,by obtain⟨x,i,h,rfl,_,_,rfl⟩:=q;exact .str,by
  obtain⟨x,i,h,rfl,_,_,rfl⟩:=q;intro o W;simp at W;subst W;exact vO t s i h,by
  obtain⟨x,E,J,rfl,W,Z,rfl⟩:=q;exact k x E J T W Z⟩
section
variable {t i:Nat} {h:Int} {s:SL Int}
def src24_con (hi:i<=s.aG.length) (hn:s.aG.length<=1048576) c:cA aE 41 [.ptr 0 t 3 0 0] [cur t s i h] c λr O _=>FD 10000 t s r O:=by
 refine cO F41 ?_;simp[F41];refine uC (sL hi hn (by omega) _) λx i1 h1 c1 _ x0 x1 k1=>?_;rw[if_neg (by omega)] at x1;obtain⟨x,rfl⟩:=iY x0;have hw:IntKind.i64.wrap (1+(x:Int))=((1+x:Nat):Int):=by rw[wrap64 (by omega) (by omega)];push_cast;rfl
 simp[hw];refine b6 (1+x) (λj e H c'=>e 0=.ptr 0 t 3 0 0/\e 4=.I (1+x-j:Nat)/\∃(acc:aA) (i:Nat) (h:Int),e 3=.str acc/\acc.length<=3+400*j/\i<=s.aG.length/\H=[cur t s i h]) ⟨rfl,rfl,_,i1,h1,rfl,by simp,k1,rfl⟩ ?_;intro j e H c' hj ⟨e0,e4,acc,i2,h2,e3,ha,k2,hH⟩ N hN;subst hH;by_cases hd:1+x-j=0
 .simp[e3,e4,hd];exact fI (.refl _) (.refl _) ⟨acc,i2,h2,rfl,by omega,k2,rfl⟩
 .have hp:0<1+x-j:=by omega
  have hw:IntKind.i64.wrap (((1+x-j:Nat):Int)-1)=((1+x-(j+1):Nat):Int):=by rw[wrap64 (by omega) (by omega)];omega
  simp[e0,e3,e4,hp];refine J3 (m:=400) ⟨rfl,rfl,by decide⟩ k2 hn (by decide) (by decide) λy i3 h3 c3 hy k3=>?_;have hmx:acc.length+y.length<=mx:=by unfold mx;omega
  simp[e4,hmx,hw];exact hN _ _ _ _ (by omega) ((eX _).cons_cons _) ⟨e0,rfl,acc++y,i3,h3,rfl,by rw[kW];omega,k3,rfl⟩
def lib24_con (hi:i<=s.aG.length) (hn:s.aG.length<=1048576) c:cA aE 42 [.ptr 0 t 3 0 0] [cur t s i h] c λr O _=>FD 10000 t s r O:=by
 refine cO F42 ?_;unfold F42;rw[dT,dT,dT];refine gK (λe H c'=>∃acc:aA,e 3=.str acc/\acc.length<=4000/\e 0=.ptr 0 t 3 0 0/\H=[cur t s i h]) ?_ ?_;rotate_left
 .intro K hK;simp;exact⟨by unfold mx;omega,by unfold mx;omega,hK _ _ _ ⟨_,rfl,by decide,rfl,rfl⟩⟩
 intro e H c ⟨acc0,e3,ha0,e0,hH⟩;subst hH;simp[e0];refine uC (sL hi hn (by omega) _) λx i1 h1 c1 _ x0 x1 k1=>?_;rw[if_neg (by omega)] at x1;obtain⟨x,rfl⟩:=iY x0;have hw:IntKind.i64.wrap (1+(x:Int))=((1+x:Nat):Int):=by rw[wrap64 (by omega) (by omega)];push_cast;rfl
 simp[hw];refine b6 (1+x) (λj e H c'=>e 0=.ptr 0 t 3 0 0/\e 4=.I (1+x-j:Nat)/\∃(acc:aA) (i:Nat) (h:Int),e 3=.str acc/\acc.length<=4000+400*j/\i<=s.aG.length/\H=[cur t s i h]) ⟨e0,rfl,acc0,i1,h1,e3,by omega,k1,rfl⟩ ?_;clear e0 e3;intro j e H c' hj ⟨e0,e4,acc,i2,h2,e3,ha,k2,hH⟩ N hN;subst hH;by_cases hd:1+x-j=0
 .simp[e3,e4,hd];exact fI (.refl _) (.refl _) ⟨acc,i2,h2,rfl,by omega,k2,rfl⟩
 .have hp:0<1+x-j:=by omega
  have hw:IntKind.i64.wrap (((1+x-j:Nat):Int)-1)=((1+x-(j+1):Nat):Int):=by rw[wrap64 (by omega) (by omega)];omega
  simp[e0,e3,e4,hp];refine J3 (m:=400) ⟨rfl,rfl,by decide⟩ k2 hn (by decide) (by decide) λy i3 h3 c3 hy k3=>?_;have hmx:acc.length+y.length<=mx:=by unfold mx;omega
  simp[e4,hmx,hw];exact hN _ _ _ _ (by omega) ((eX _).cons_cons _) ⟨e0,rfl,acc++y,i3,h3,rfl,by rw[kW];omega,k3,rfl⟩
def src16_con (hi:i<=s.aG.length) (hn:s.aG.length<=1048576) c:cA aE 43 [.ptr 0 t 3 0 0] [cur t s i h] c λr O _=>FD 2000 t s r O:=by
 refine cO F43 ?_;simp[F43];refine uC (sL hi hn (by omega) _) λx i1 h1 c1 _ x0 x1 k1=>?_;rw[if_neg (by omega)] at x1;obtain⟨x,rfl⟩:=iY x0;simp;refine b6 x (λj e H c'=>e 0=.ptr 0 t 3 0 0/\e 4=.I (x-j:Nat)/\∃(acc:aA) (i:Nat) (h:Int),e 3=.str acc/\acc.length<=400*j/\i<=s.aG.length/\H=[cur t s i h]) ⟨rfl,rfl,[],i1,h1,rfl,by simp,k1,rfl⟩ ?_;intro j e H c' hj ⟨e0,e4,acc,i2,h2,e3,ha,k2,hH⟩ N hN;subst hH;by_cases hd:x-j=0
 .simp[e3,e4,hd];exact fI (.refl _) (.refl _) ⟨acc,i2,h2,rfl,by omega,k2,rfl⟩
 .have hp:0<x-j:=by omega
  have hw:IntKind.i64.wrap (((x-j:Nat):Int)-1)=((x-(j+1):Nat):Int):=by rw[wrap64 (by omega) (by omega)];omega
  simp[e0,e3,e4,hp];refine J3 (m:=400) ⟨rfl,rfl,by decide⟩ k2 hn (by decide) (by decide) λy i3 h3 c3 hy k3=>?_;have hmx:acc.length+y.length<=mx:=by unfold mx;omega
  simp[e4,hmx,hw];exact hN _ _ _ _ (by omega) ((eX _).cons_cons _) ⟨e0,rfl,acc++y,i3,h3,rfl,by rw[kW];omega,k3,rfl⟩
def data38_con (J:i<=s.aG.length) (E:s.aG.length<=1048576) c:cA aE 24 [.ptr 0 t 3 0 0] [cur t s i h] c λr O _=>FD 400 t s r O:=by refine cO F24 ?_;simp[F24];refine J3 (m:=400) ⟨rfl,rfl,by decide⟩ J E (by decide) (by decide) λy E J T W T=>?_;simp;exact fI (Hk:=[cur t s E J]) ((eX _).cons_cons _) (.refl _) ⟨y,E,J,rfl,W,T,rfl⟩
end
set_option maxRecDepth 100000
def uL (n:Nat) (L:aF cS):Prop:=L.length<=n/\∀x,x∈L->x.Path.length<=400/\x.Source.length<=20000
def uL.ok {n} {s:SL cS} (h:uL n s.aG) (E:n<=100):A1 s:=⟨by have:=h.1;unfold mx;omega,λx E=>by have:=h.2 x E;unfold cS.ok mx;omega⟩
def XZ {q}:∀(l:aF cS) (i:Nat),findF q l i = -1\/(i:Int)<=findF q l i/\findF q l i<i+l.length
 |[],i=>.inl rfl
 |x::l,i=>by
  rw[findF];split
  .exact .inr ⟨by omega,by simp only[lE];omega⟩
  .rcases XZ (q:=q) l (i+1) with h|⟨E,E⟩
   .exact .inl h
   .exact .inr ⟨by omega,by simp only[lE];omega⟩
def findP_bnd p (l:aF cS):nH p l = -1\/0<=nH p l/\nH p l<l.length:=by
 unfold nH;split
 .have:=XZ (q:=‹_›) l 0;simpa using this
 .exact .inl rfl
def normP_len {l q:aA} (h:jY l=some q):q.length<=400:=by
 unfold jY at h;split at h
 .cases h
 .rename_i E;cases hs:iL l with
  |none=>rw[hs] at h;cases h
  |some o=>
   rw[hs] at h;simp only[uP] at h;split at h
   .rename_i E;cases h;simp[cT] at E;omega
   .cases h
def WfQ (n:Nat) (r:AV) (E:aC) (_:Nat):Prop:=∃(t:Nat) (L:aF cS) (b:Bool),r=.aX [.ref 0 t 3 L.length,.bool b]/\E=[⟨false,t,3,L.map cS.enc⟩]/\uL n L
def L8 {S} {i k t w n} {b}:View S (.aX [.ref i t w n,.bool b]) (.aX [.ref k t w n,.bool b]):=.aX rfl λj a E h E=>by
 match j,h,E with
 |0,h,E=>simp at h E;subst h;subst E;exact .name
 |1,h,E=>simp at h E;subst h;subst E;exact .refl _
 |n+2,h,E=>simp at h
def RQ {n} {fs:SL cS} {p E:aA} (hf:uL n fs.aG) (J:n<=50) (J:p.length<=400) (hs:E.length<=20000) c0:cA aE 44 [fs.av 3 cS.enc,.str p,.str E] [] c0 (WfQ (n+1)):=by
 refine cO F44 ?_;unfold F44;have J:=hf.1;have J:∀{t i m:Nat} {L:aF cS} {b:Bool} {H:aC} {c:Nat},uL (n+1) L->L.length=m->(⟨false,t,3,L.map cS.enc⟩:aH)∈H->cE (WfQ (n+1)) (.aX [.ref i t 3 m,.bool b]) H c:=λ{t i m L b H c} h W T=>by
  subst W;exact fI (Hk:=[⟨false,t,3,L.map cS.enc⟩]) (CP.2 T) L8 ⟨t,L,b,rfl,rfl,h⟩
 have hT:∀L:aF cS,List.take L.length (L.map cS.enc)=L.map cS.enc:=λL=>fJ (by simp);have pf1:∀(x:cS) (s:aA),aR x.enc 1 [.str s]=(cS.mk x.Path s x.Version).enc:=λx s=>by simp[aR,cS.enc]
 have pf2:∀(x:cS) (v:Int),aR x.enc 2 [.I v]=(cS.mk x.Path x.Source v).enc:=λx v=>by simp[aR,cS.enc]
 have W:uL (n+1) fs.aG:=⟨by omega,hf.2⟩
 simp[vS,pV];refine⟨by omega,by unfold mx;omega,?_⟩;refine cX (C4 (by unfold mx;omega)) (fB _) λT _=>?_;simp[pP];refine cX (C6 (by unfold mx;omega) (by unfold mx;omega)) .int λT _=>?_;have Z:=findP_bnd p fs.aG;generalize nH p fs.aG=i at Z ⊢;cases hno:(jY p).isSome
 .simp;exact J W rfl (by simp)
 obtain⟨q,hq⟩:=LD.1 hno;have hql:=normP_len hq;simp;refine cX (MS (hf.ok (by omega))) .bool λT _=>?_;cases qH fs.aG
 .simp;exact J W rfl (by simp)
 by_cases T:4000<E.length
 .have T:(4000:Int)<(E.length:Int):=by omega
  simp[T];exact J W rfl (by simp)
 have T:¬(4000:Int)<(E.length:Int):=by omega
 rcases Z with rfl|⟨hi0,hi1⟩
 .by_cases Z:fs.aG.length=8
  .have Z:(fs.aG.length:Int)=8:=by omega
   simp[T,Z];exact J W rfl (by simp)
  .have Z:¬(fs.aG.length:Int)=8:=by omega
   simp[T,Z,hq,aR,vS,pV];refine⟨by omega,by unfold mx;omega,J (L:=fs.aG++[⟨q,E,1⟩]) ⟨by simp;omega,λy hy=>?_⟩ (by simp) (by simp[cS.enc,hT])⟩;rcases dI.1 hy with h|h
   .exact hf.2 y h
   .simp at h;subst h;exact⟨hql,hs⟩
 obtain⟨j,rfl⟩:=iY hi0;obtain⟨x,hx⟩:∃x,fs.aG[j]?=some x:=⟨_,bC (by omega)⟩
 have Z:¬(j:Int)<0:=by omega
 by_cases hv:x.Version=1000000000
 .simp[T,Z,aL hx,hv];exact J W rfl (by simp)
 .simp[T,Z,aL hx,hv,hi1,pf1,pf2];refine⟨by omega,J (L:=fs.aG.set j ⟨x.Path,E,_⟩) ⟨by simp;omega,λy hy=>?_⟩ (by simp) (by simp[lT];rfl)⟩;rcases rZ hy with h|h
  .exact hf.2 y h
  .subst h;exact⟨(hf.2 x (bA hx)).1,hs⟩
def cS.zG T t (L:aF cS):iX T ⟨false,t,3,L.map cS.enc⟩:=E8 λaM E a J=>by
 simp only[fZ] at E;obtain⟨x,_,rfl⟩:=E;simp[cS.enc] at J;rcases J with rfl|rfl|rfl
 .exact .str
 .exact .str
 .exact .int
def RS {n j t c} {L:aF cS} {p E:aA} {H:aC} {K:aD} (W:(⟨false,t,3,L.map cS.enc⟩:aH)∈H) (hf:uL n L) (hn:n<=50) (hp:p.length<=400) (hs:E.length<=20000)
  (k:∀(T:Nat) (J:aF cS) (b:Bool) (Z:Nat),uL (n+1) J->K (.aX [.ref H.length T 3 J.length,.bool b]) (H++[⟨false,T,3,J.map cS.enc⟩]) Z):bO aE 44 [.ref j t 3 L.length,.str p,.str E] H c K:=
 B7 (RQ (fs:=.mk t L) hf hn hp hs c) (.cons (jK W rfl λx _=>cS.cells x) (.refl _ _)) λr O Z _ ⟨T,J,b,E,hO,hL⟩ _ _=>by
  subst E;subst hO;exact⟨_,L8 (k:=H.length),.aX λj a E=>by
   match j,E with
   |0,E=>simp at E;subst E;exact .ref
   |1,E=>simp at E;subst E;exact .bool
   |n+2,E=>simp at E,λo W=>by simp at W;subst W;exact cS.zG _ _ _,k T J b Z hL⟩
def wr0_k {c} {p E:aA} {H:aC} {K:aD} (Z:p.length<=400) (hs:E.length<=20000)
  (k:∀(T:Nat) (J:aF cS) (b:Bool) (W:Nat),uL 1 J->K (.aX [.ref H.length T 3 J.length,.bool b]) (H++[⟨false,T,3,J.map cS.enc⟩]) W):bO aE 44 [.aU,.str p,.str E] H c K:=
 B7 (RQ (n:=0) (fs:=.nil) ⟨by simp,by simp⟩ (by omega) Z hs c) (fG.refl _ _) λr O W _ ⟨T,J,b,E,Z,hL⟩ _ _=>by
  subst E;subst Z;exact⟨_,L8 (k:=H.length),.aX λj a E=>by
   match j,E with
   |0,E=>simp at E;subst E;exact .ref
   |1,E=>simp at E;subst E;exact .bool
   |n+2,E=>simp at E,λo E=>by simp at E;subst E;exact cS.zG _ _ _,k T J b W hL⟩
def call_strWL {t tl i n m} {h:Int} {s:SL Int} {aN} {W} {c} {K:aD} (hr:OkS aN n m) (hi:i<=s.aG.length) (hn:s.aG.length<=1048576) (h0:0<n) (h1:n<=256)
  (k:∀(x:aA) (E:Nat) (J:Int) (T:Nat),x.length<=m->E<=s.aG.length->K (.str x) [cur t s E J,W,⟨false,tl,1,aN⟩] T):bO aE 45 [.ptr 0 t 3 0 0,.ref 2 tl 1 n] [cur t s i h,W,⟨false,tl,1,aN⟩] c K:=by obtain⟨Z,r2,W⟩:=hr;subst r2;generalize strs aN=l at Z W h0 h1 ⊢;subst Z;exact PW l hi hn h0 h1 λx E J T _ hx Z=>k x E J T (by simpa using kM.1 W x hx) Z
def SiQ (t:Nat) (s:SL Int) (r:AV) (O:aC):Prop:=∃(E:Nat) (L:aF cS) (i:Nat) (h:Int),r=.ref 1 E 3 L.length/\uL 3 L/\i<=s.aG.length/\O=[cur t s i h,⟨false,E,3,L.map cS.enc⟩]
def site35_con {t i} {h:Int} {s:SL Int} (T:i<=s.aG.length) (J:s.aG.length<=1048576) c:cA aE 22 [.ptr 0 t 3 0 0] [cur t s i h] c λr O _=>SiQ t s r O:=by
 refine cO F22 ?_;unfold F22;rw[dT,dT];refine gK (λe H E=>∃(x:aA) (E:Nat) (W:Int),e 3=.str x/\x.length<=20000/\E<=s.aG.length/\e 0=.ptr 0 t 3 0 0/\H=[cur t s E W]) ?_ ?_;rotate_left
 .intro K hK;simp;refine J4 (src24_con T J _) λx i1 h1 E hx k1=>?_;simp;refine uC (sL k1 J (by omega) _) λy i2 h2 c2 _ E E E=>?_;by_cases W:y=0
  .simp[W];refine J4 (lib24_con E J _) λz Z h3 c3 hz T=>?_;simp;exact hK _ _ _ ⟨z,Z,h3,rfl,by omega,T,rfl,rfl⟩
  by_cases e1:y=1
  .simp[e1];refine J4 (src16_con E J _) λz Z h3 c3 hz T=>?_;simp;exact⟨by unfold mx;omega,hK _ _ _ ⟨_,Z,h3,rfl,by simp;omega,T,rfl,rfl⟩⟩
  by_cases e2:y=2
  .simp[e2];exact hK _ _ _ ⟨_,i2,h2,rfl,by decide,E,rfl,rfl⟩
  .simp[W,e1,e2];exact hK _ _ _ ⟨x,i2,h2,rfl,by omega,E,rfl,rfl⟩
 intro e H c ⟨x,i1,h1,e3,hx,k1,W,E⟩;subst E;simp[e3];refine wr0_k (by simp) hx λE E E c2 E=>?_;simp[W];refine call_strWL (m:=400) ⟨rfl,rfl,by decide⟩ k1 J (by decide) (by decide) λy Z h3 c3 Z T=>?_;simp;refine RS (by simp) E (by omega) (by simp) (by omega) λZ L4 E E E=>?_;simp[W];refine call_bool (l1Once_con T J (by omega) _) λb T W J J=>?_;cases b
 .simp;intro J;exact fI (Hk:=[cur t s T W,⟨false,Z,3,L4.map cS.enc⟩]) (.cons_cons _ (.cons _ (.cons _ (.cons_cons _ .slnil)))) .name ⟨Z,L4,T,W,rfl,⟨by have:=E.1;omega,E.2⟩,J,rfl⟩
 .simp;intro J;refine RS (by simp) E (by omega) (by simp) (by decide) λZ L6 E E E=>?_;simp;exact fI (Hk:=[cur t s T W,⟨false,Z,3,L6.map cS.enc⟩]) (.cons_cons _ (.cons _ (.cons _ (.cons _ (.cons_cons _ .slnil))))) .name ⟨Z,L6,T,W,rfl,E,J,rfl⟩
set_option maxRecDepth 100000
def uK (H:aC) (a:AV) (hs:aF bK):Prop:=(a=.aU/\hs=[])\/∃q E,2<=q/\a=.ref q E 2 hs.length/\H[q]?=some ⟨false,E,2,hs.map bK.enc⟩
structure xW (code:Int) (body:aA) (hs:List bK):Prop where
 c:0<=code/\code<=1000
 b:body.length<=3000
 n:hs.length<=10
 h:∀x,x∈hs->x.Name.length<=20/\x.Value.length<=64
def qP.rs {code:Int} {E} {hs} (h:qP E hs []) (J:0<=code/\code<=1000):xW code E hs:=⟨J,by have:=h.t;omega,by have:=h.hn;omega,λx E=>by have:=h.h x E;unfold HdOK at this;omega⟩
def DrQ2 (t:Nat) (s:SL Int) (r:AV) (O:aC):Prop:=∃(E:Int) (J:aA) (T:aF bK) (i:Nat) (h:Int),xW E J T/\((r=.agg [.I E,.aU,.str J]/\T=[]/\O=[cur t s i h])\/∃W,r=.agg [.I E,.ref 1 W 2 T.length,.str J]/\O=[cur t s i h,⟨false,W,2,T.map bK.enc⟩])
def subQ2 {H:aC} {a b} {q:Nat} (E:H[0]?=some a) (J:H[q]?=some b) (h:0<q):[a,b].Sublist H:=by
 cases H with
 |nil=>simp at E
 |cons x T=>
  simp at E;subst E;obtain⟨q,rfl⟩:∃k,q=k+1:=⟨q-1,by omega⟩
  simp at J;exact .cons_cons _ (CP.2 (bA J))
def subQ1 {H:aC} {a} (E:H[0]?=some a):[a].Sublist H:=CP.2 (bA E)
def view_rs {S} {code:Int} {i k t n} {E}:View S (.agg [.I code,.ref i t 2 n,.str E]) (.agg [.I code,.ref k t 2 n,.str E]):=
 L9 (.cons (.refl _) (.cons .name (.refl _ _))) λa E=>by simp at E;rcases E with rfl|rfl|rfl<;>rfl
def fin_dr {t i c} {h code:Int} {s} {E} {hs} {a} {H:aC} (W:H[0]?=some (cur t s i h)) (T:xW code E hs) (J:uK H a hs):cE (λr O _=>DrQ2 t s r O) (.agg [.I code,a,.str E]) H c:=by
 rcases J with⟨rfl,rfl⟩|⟨q,J,Z,rfl,Z⟩
 .exact fI (Hk:=[cur t s i h]) (subQ1 W) (.refl _) ⟨code,E,[],i,h,T,.inl ⟨rfl,rfl,rfl⟩⟩
 .exact fI (Hk:=[cur t s i h,⟨false,J,2,hs.map bK.enc⟩]) (subQ2 W Z (by omega)) view_rs ⟨code,E,hs,i,h,T,.inr ⟨J,rfl,rfl⟩⟩
def uK.gE {H J:aC} {a} {hs:aF bK} (h:uK H a hs) (k:∀q E,2<=q->H[q]?=some ⟨false,E,2,hs.map bK.enc⟩->J[q]?=some ⟨false,E,2,hs.map bK.enc⟩):uK J a hs:=by
 rcases h with h|⟨q,E,J,W,T⟩
 .exact .inl h
 .exact .inr ⟨q,E,J,W,k q E J T⟩
def aaA {T} {code:Int} {E s} {a} (h:Av T a):Av T (.aX [.agg [.I code,a,.str E],.str s]):=.aX λj x J=>by
 match j,J with
 |0,J=>
  simp at J;subst J;refine .agg λj y E=>?_
  match j,E with
  |0,E=>simp at E;subst E;exact .int
  |1,E=>simp at E;subst E;exact h
  |2,E=>simp at E;subst E;exact .str
  |n+3,E=>simp at E
 |1,J=>simp at J;subst J;exact .str
 |n+2,J=>simp at J
def bK.zG T t (L:aF bK):iX T ⟨false,t,2,L.map bK.enc⟩:=E8 λaM E a J=>by
 simp only[fZ] at E;obtain⟨x,_,rfl⟩:=E;simp[bK.enc] at J;rcases J with rfl|rfl
 .exact .str
 .exact .str
def app_hd {H:aC} {a} {hs:aF bK} {x:bK} {j t c:Nat} {K:aD} (W:uK H a hs) (E:hs.length<=8) (h2:2<=H.length) (Z:H[j]?=some ⟨false,t,2,[x.enc]⟩)
  (k:∀q J,2<=q->J[q]?=some ⟨false,c,2,(hs++[x]).map bK.enc⟩->(∀(r:Nat) (E:aH),H[r]?=some E->E.w≠2->J[r]?=some E)->K (.ref q c 2 (hs.length+1)) J (c+1)):uG 2 32 a (.ref j t 2 1) H c K:=by
 have T:xU 2 H (λ_=>.bP) 2 a (hs.map bK.enc):=by
  rcases W with⟨rfl,rfl⟩|⟨q,W,hq,rfl,hl⟩
  .exact .inl ⟨rfl,rfl⟩
  .exact .inr ⟨q,W,hq,by simp,hl,rfl⟩
 refine P8 (n:=2) (G:=λ_=>.bP) T h2 (λ_ _=>rfl) Z (by simp;omega) (by simp;unfold mx;omega) λp J W _ J=>?_;simp only[nR];have e:hs.map bK.enc++[x.enc]=(hs++[x]).map bK.enc:=by simp
 rw[e] at J;rcases J with⟨rfl,rfl⟩|⟨rfl,T,J,Z⟩
 .exact k _ _ W (by simp) λr E J _=>fF J _
 .exact k _ _ W (eP T) λr E J E=>eC J (λe=>by subst e;rw[Z] at J;cases J;exact E rfl) _
def draw38_con {t i} {h:Int} {s:SL Int} (hi:i<=s.aG.length) (hn:s.aG.length<=1048576) c0:cA aE 12 [.ptr 0 t 3 0 0] [cur t s i h] c0 λr O _=>DrQ2 t s r O:=by
 refine cO F12 ?_;unfold F12;rw[dT];refine gK (λe H c'=>∃(code:Int) (body:aA) (hs:aF bK) (a:AV) (p t3 i:Nat) (h:Int) (C:aC),xW code body hs/\hs.length<=8/\i<=s.aG.length/\H=cur t s i h::C/\H[1]?=some ⟨false,c0,3,[[.I 0,.aU,.str []]]⟩/\H[p]?=some ⟨false,t3,3,[[.I code,a,.str body]]⟩/\2<=p/\uK H a hs/\e 0=.ptr 0 t 3 0 0/\e 2=.ptr 1 c0 3 0 0/\e 3=.ptr p t3 3 0 0) ?_ ?_;rotate_left
 .intro K hK;simp;refine J6 (site35_con hi hn _) λr O c1 _ ⟨tq,L,i1,h1,hr,hL,k1,hO⟩=>⟨i1,h1,_,.ref 2 tq 3 L.length,hO,by subst hr;exact .name,.ref,λo ho=>by simp at ho;subst ho;exact cS.zG _ _ _,?_⟩
  simp;refine J6 (l36Request_con k1 hn _) λr O c2 _ ⟨x,i2,h2,hr,hx,k2,hO⟩=>⟨i2,h2,_,.agg x.iF,hO,by subst hr;exact .refl _,free_agg (eW.freeO x) _,λo ho=>eW.freeI x o ho _,?_⟩
  simp;refine J4 (data38_con k2 hn _) λd i3 h3 c3 hd k3=>?_;simp;refine B7 (handle_c (fs:=.mk tq L) (x:=x) (hL.ok (by omega)) ⟨hx.1,hx.2.1,hx.2.2⟩ (by omega) _) (.cons (jK ?_ rfl λx _=>cS.cells x) (.cons (view_ARequest λo ho=>?_) (.refl _ _))) λr O c4 _ ⟨code,body,sv,hs,q1,q2,qc,q3⟩ _ _=>?_
  .simp
  .simp[ho]
  rcases q3 with⟨hr,hh,hO⟩|⟨t4,hr,hO⟩
  .subst hr;subst hh;subst hO;refine⟨_,.refl _,aaA .aU,by simp,?_⟩;simp[aR];exact hK _ _ _ ⟨code,body,[],.aU,x.iV.length+3,c4,i3,h3,_,q1.rs qc,by simp,k3,rfl,by simp,by simp,by omega,.inl ⟨rfl,rfl⟩,rfl,rfl,rfl⟩
  .subst hr;subst hO;refine⟨_,L7 (i:=0) (k:=x.iV.length+3),aaA .ref,λo ho=>by simp at ho;subst ho;exact bK.zG _ _ _,?_⟩;simp[aR];exact hK _ _ _ ⟨code,body,hs,.ref (x.iV.length+3) t4 2 hs.length,x.iV.length+4,c4,i3,h3,_,q1.rs qc,q1.hn,k3,rfl,by simp,by simp,by omega,.inr ⟨x.iV.length+3,t4,by omega,rfl,by simp⟩,rfl,rfl,rfl⟩
 intro e H c ⟨code,body,hs,a,p,t3,i,h,C,hr,h8,k1,hH,l1,lp,hp,ha,e0,e2,e3⟩;subst hH;refine gK (λe H c'=>∃(code:Int) (hs:aF bK) (a:AV) (t3 i:Nat) (h:Int),xW code body hs/\H[0]?=some (cur t s i h)/\H[1]?=some ⟨false,c0,3,[[.I 0,.aU,.str []]]⟩/\H[p]?=some ⟨false,t3,3,[[.I code,a,.str body]]⟩/\uK H a hs/\e 2=.ptr 1 c0 3 0 0/\e 3=.ptr p t3 3 0 0) ?_ ?_
 .intro e' H c ⟨code,hs,a,t3,i,h,hr,l0,l1,lp,ha,e2,e3⟩;have hac:a.cell=true:=by rcases ha with⟨rfl,_⟩|⟨q,tq,_,rfl,_⟩<;>rfl
  have hl1:=bL l1;simp[e2,e3,aL lp,aL l1,aR,hl1];exact fin_dr (eC l0 (by omega) _) hr (ha.gE λq tq hq hl=>eC hl (by omega) _)
 intro K hK;simp[e0];refine uC (sL k1 hn (by omega) _) λy i2 h2 c2 _ y0 y1 k2=>?_;have tr:∀{q:Nat} {ob x y:aH},1<=q->(x::C)[q]?=some ob->(y::C)[q]?=some ob:=λ{q ob x y} hq h=>by
  obtain⟨q,rfl⟩:∃k,q=k+1:=⟨q-1,by omega⟩
  simpa using h
 have l1':=tr (y:=cur t s i2 h2) (by omega) l1;have lp':=tr (y:=cur t s i2 h2) (by omega) lp;have ha':uK (cur t s i2 h2::C) a hs:=ha.gE λq tq hq hl=>tr (by omega) hl;have hac:a.cell=true:=by rcases ha with⟨rfl,_⟩|⟨q,tq,_,rfl,_⟩<;>rfl
 clear l1 lp ha;have hC:1<=C.length:=by have:=bL l1';simp at this;omega
 have app1:∀{x:bK} {i:Nat} {h:Int} {c j:Nat} {X:aC} {K2:aD},X=cur t s i h::(C++[⟨false,c,2,[x.enc]⟩])->j=C.length+1->(∀q H',2<=q->H'[q]?=some ⟨false,c+1,2,(hs++[x]).map bK.enc⟩->H'[0]?=some (cur t s i h)->H'[1]?=some ⟨false,c0,3,[[.I 0,.aU,.str []]]⟩->H'[p]?=some ⟨false,t3,3,[[.I code,a,.str body]]⟩->p≠q->K2 (.ref q (c+1) 2 (hs.length+1)) H' (c+1+1))->uG 2 32 a (.ref j c 2 1) X (c+1) K2:=λ{x i h c j X K2} hX hj k=>by
  subst hX;subst hj;have l1:=tr (y:=cur t s i h) (by omega) l1';have lp:=tr (y:=cur t s i h) (by omega) lp';have ha:uK (cur t s i h::C) a hs:=ha'.gE λq tq hq hl=>tr (by omega) hl;refine app_hd (H:=cur t s i h::C++[⟨false,c,2,[x.enc]⟩]) (x:=x) (j:=C.length+1) (t:=c) (ha.gE λq tq hq hl=>fF hl _) h8 (by simp) (by simp) λq H' hq hl hk=>?_;have hpH:=hk p _ (fF lp _) (by simp);exact k q H' hq hl (hk 0 _ rfl (by simp[cur])) (hk 1 _ (fF l1 _) (by simp)) hpH λe=>by rw[e,hl] at hpH;simp at hpH
 have done1:∀{x:bK} {i:Nat} {h:Int} {c q c':Nat} {H':aC} {e':Env},x.Name.length<=20->x.Value.length<=64->2<=q->H'[q]?=some ⟨false,c,2,(hs++[x]).map bK.enc⟩->H'[0]?=some (cur t s i h)->H'[1]?=some ⟨false,c0,3,[[.I 0,.aU,.str []]]⟩->H'[p]?=some ⟨false,t3,3,[[.I code,a,.str body]]⟩->p≠q->e' 2=.ptr 1 c0 3 0 0->e' 3=.ptr p t3 3 0 0->K e' (H'.set p ⟨false,t3,3,[[.I code,.ref q c 2 (hs.length+1),.str body]]⟩) c':=λ{x i h c q c' H' e'} hn hv hq hl q0 q1 qp hpq f2 f3=>
  hK _ _ _ ⟨code,hs++[x],.ref q c 2 (hs.length+1),t3,i,h,⟨hr.c,hr.b,by simp;omega,λz hz=>by
   rcases dI.1 hz with h|h
   .exact hr.h z h
   .simp at h;subst h;exact⟨hn,hv⟩⟩,eC q0 (by omega) _,eC q1 (by omega) _,eP (bL qp),.inr ⟨q,c,hq,by simp,eC hl hpq _⟩,f2,f3⟩
 by_cases hy0:y=0
 .simp[hy0,e0];refine call_pairS (H:=cur t s i2 h2::C) (i:=0) rfl (l1Int_con (l:=[200,201,0]) (tl:=c2) k2 hn (by decide) (by decide) _) (.cons (.refl _) (.cons .name (.refl _ _))) λr O c3 _ ⟨x,i3,h3,hr3,hx,k3,hO⟩=>⟨cur t s i3 h3,.I x,hO,.inl rfl,by subst hr3;exact .refl _,.int,vO t s i3 h3,zF _,?_⟩
  have l1:=fF (tr (y:=cur t s i3 h3) (by omega) l1') [⟨false,c2,1,[[AV.int .i64 200],[.I 201],[.I 0]]⟩];have lp:=fF (tr (y:=cur t s i3 h3) (by omega) lp') [⟨false,c2,1,[[AV.int .i64 200],[.I 201],[.I 0]]⟩];have ha:uK (cur t s i3 h3::C++[⟨false,c2,1,[[AV.int .i64 200],[.I 201],[.I 0]]⟩]) a hs:=ha'.gE λq tq hq hl=>fF (tr (by omega) hl) _;have hx2:0<=x/\x<=1000:=by simp at hx;omega
  simp only[List.set_cons_zero];have q0:(cur t s i3 h3::C++[(⟨false,c2,1,[[AV.int .i64 200],[.I 201],[.I 0]]⟩:aH)])[0]?=some (cur t s i3 h3):=rfl;generalize cur t s i3 h3::C++[⟨false,c2,1,[[AV.int .i64 200],[.I 201],[.I 0]]⟩]=H2 at l1 lp ha q0 ⊢;simp[e3,aL lp,aR];exact hK _ _ _ ⟨x,hs,a,t3,i3,h3,⟨hx2,hr.b,hr.n,hr.h⟩,eC q0 (by omega) _,eC l1 (by omega) _,eP (bL lp),ha.gE λq tq hq hl=>eC hl (λe=>by subst e;rw[lp] at hl;simp at hl) _,e2,e3⟩
 by_cases hy1:y=1
 .simp[hy1,e3,aR,aL lp'];refine app1 (x:=⟨[67,111,110,116,101,110,116,45,76,101,110,103,116,104],[51]⟩) rfl rfl λq H' hq hl q0 q1 qp hpq=>?_;simp[e3,aL qp,aR];exact done1 (by simp) (by simp) hq hl q0 q1 qp hpq (e2) (e3)
 by_cases hy2:y=2
 .simp[hy2,e0,e3,aL lp'];refine PU (V1 k2 hn _) λz i3 h3 c3 _ hz k3=>?_;have lp:=tr (y:=cur t s i3 h3) (by omega) lp';have lpA:∀(M:aC) (K:aH->Prop),aZ (cur t s i3 h3::(C++M)) p K=K ⟨false,t3,3,[[.I code,a,.str body]]⟩:=λM K=>bT lp M K;simp[aL lp,lpA,aR];refine app1 (x:=⟨[65],z⟩) (i:=i3) (h:=h3) rfl rfl λq H' hq hl q0 q1 qp hpq=>?_;simp[e3,aL qp,aR];exact done1 (by simp) hz hq hl q0 q1 qp hpq (e2) (e3)
 simp[hy0,hy1,hy2];exact hK _ _ _ ⟨code,hs,a,t3,i2,h2,hr,rfl,l1',lp',ha',e2,e3⟩
def draw_rsp {s:SL Int} (E:s.aG.length<=1048576):bM aE 5 [s.av 1 rL] λr=>∃x:eG,r=.agg x.enc/\xW x.Code x.dE x.cK.aG:=by
 intro J;refine cO F5 ?_;simp[F5];refine call_newS (l1New_con E _) (fG.refl _ _) λJ O J _ ⟨t,h,T,J⟩=>?_;subst T;subst J;refine⟨.ptr 1 t 3 0 0,.yT,.ptr,λo J=>by rw[rY.1 J];exact vO t s 0 h,?_⟩;simp;refine call_tail1 (draw38_con (kH _) E _) (.cons .yT .nil) λr E E _ ⟨E,J,hs,i,h,Z,W⟩=>?_;rcases W with⟨T,W,e3⟩|⟨tq,T,W⟩
 .subst T;subst W;subst e3;refine⟨fB _,λo _=>zF o,?_⟩;simp[aR];exact aS ⟨rfl,⟨E,.nil,J⟩,rfl,Z⟩
 .subst T;subst W;refine⟨fB _,λo _=>zF o,?_⟩;simp[aR];exact X2 (a':=.agg (eG.enc ⟨E,.mk tq hs,J⟩)) (L9 (.cons (.refl _) (.cons (jK (by simp) rfl λx _=>bK.cells x) (.refl _ _))) (eG.cells _)) ⟨_,rfl,Z⟩
set_option maxRecDepth 100000
def M0 {x:eG} (h:jA x=true):¬reason x.Code=[]:=by intro e;unfold jA at h;simp[e] at h
def okI_fmt {x:eG} (h:jA x=true):lW (jP x)=true/\(lM (jP x)).jE=x.jE:=by
 obtain⟨E,Z⟩:=code_ok (M0 h);obtain⟨W,T⟩:=M4 h;have J:lM (jP x)=⟨x.Code,.mk 0 x.cK.aG,x.dE⟩:=by
  unfold lM;rw[TV h,E,if_pos rfl,Z,rdHdrs_eq h,T]
 have Z:jA ⟨x.Code,.mk 0 x.cK.aG,x.dE⟩=true:=h;have hf:jP ⟨x.Code,.mk 0 x.cK.aG,x.dE⟩=jP x:=rfl;have T:¬jP x=[]:=by simp[jP,xG]
 refine⟨?_,by rw[J];rfl⟩;unfold lW;rw[J,Z,if_pos rfl,hf,TV h,E,W];simp[T,nZ]
def pc:aA->Nat
 |a::b::t=>(if a=13/\b=10 then 1 else 0)+pc (b::t)
 |_=>0
def UF:∀{l:aA} (t:aA),jZ 13 l->pc (l++(13::10::t))=1+pc t
 |[],t,_=>by
  have:pc (10::t)=pc t:=by cases t<;>simp[pc]
  simp[pc,this]
 |a::l,t,h=>by
  have J:a≠13:=h a (by simp);have E:=UF (l:=l) t λx T=>h x (by simp[T]);cases l with
  |nil=>simp[pc,J] at E ⊢;exact E
  |cons b l=>simp[pc,J] at E ⊢;exact E
def UG:∀(E:aF aA),(∀l,l∈E->jZ 13 l)->pc (E.flatMap λl=>l++[13,10])=E.length
 |[],_=>rfl
 |l::E,h=>by
  have J:=UG E λx T=>h x (by simp[T]);have:=UF (l:=l) (E.flatMap λl=>l++[13,10]) (h l (by simp));simp[J] at this ⊢;omega
def pc_short {l:aA} (h:l.length<=1):pc l=0:=by
 match l,h with
 |[],_=>rfl
 |[a],_=>rfl
def head_R {x:eG} (h:jA x=true):∃E,jP x=E++x.dE/\pc E=x.cK.aG.length+3:=by
 have J:=VU h;refine⟨(nZ x.Code x.cK.aG x.dE++[[]]).flatMap λl=>l++[13,10],?_,?_⟩
 .rw[XP];have:nZ x.Code x.cK.aG x.dE=(wW x.Code::x.cK.aG.map tQ)++[DT x.dE]:=by simp[nZ]
  rw[this,N0];simp
 .rw[UG _ λl E=>?_]
  .simp[nZ]
  .rcases dI.1 E with E|E
   .exact(J l E).1
   .simp at E;subst E;intro b E;simp at E
def YA (x:bK):pB [1,1] x.enc=true/\oI x.enc x.enc=some true:=by simp[bK.enc,oI,iM,pB]
def sameR_fn {a b:eG} (h:a.jE=b.jE) (E:a.cK.aG.length<=100):dA aE 9 [.agg a.enc,.agg b.enc] (.bool true):=by
 obtain⟨T,E,J⟩:=resp_same h;refine fO F9 λc=>?_;simp[F9,T,E,J];refine b6 b.cK.aG.length (λi e H E=>e 2=.ptr 0 c 3 0 0/\e 3=.ptr 1 (c+1) 3 0 0/\e 5=.I i/\H=[⟨false,c,3,[a.enc]⟩,⟨false,c+1,3,[b.enc]⟩]) ⟨rfl,rfl,rfl,rfl⟩ ?_;intro i e H E E ⟨W,e3,Z,E⟩ N hN;subst E;by_cases E:i<b.cK.aG.length
 .have T:b.cK.aG[i]?=some b.cK.aG[i]:=bC E;generalize b.cK.aG[i]=x at T;have hy:a.cK.aG[i]?=some x:=by rw[J];exact T
  have ha:i<a.cK.aG.length:=by rw[J];exact E
  simp[W,e3,Z,J,E,aL T,(YA x).1,(YA x).2];exact hN _ _ _ _ E (bY _) ⟨W,e3,by simp[aK];exact cD (by rw[<-J];unfold mx;omega) E,rfl⟩
 .have E:i=b.cK.aG.length:=by omega
  subst E;simp[W,Z,J];exact aS ⟨rfl,rfl⟩
def big_fn {s:SL Int} (E:s.aG.length<=mx):dA aE 4 [s.av 1 rL] (.bool (decide ((1048576:Int)<s.aG.length))):=by refine fO F4 λc=>?_;simp[F4];exact aS ⟨by simp,rfl⟩
def MO:∀{hs:aF bK},(∀x,x∈hs->x.Name.length<=20/\x.Value.length<=64)->bE bK.sz hs<=hs.length*84
 |[],_=>by simp[bE]
 |x::hs,h=>by
  have E:=h x (by simp);have E:=MO (hs:=hs) λy E=>h y (by simp[E]);have E:bE bK.sz (x::hs)=x.Name.length+x.Value.length+bE bK.sz hs:=by simp[bE,bK.sz]
  rw[E,lE];omega
def xW.ok {x:eG} (h:xW x.Code x.dE x.cK.aG):x.ok/\x.sz<=1048576:=by
 obtain⟨E,E,E,E⟩:=h;have J:=MO E;refine⟨⟨⟨by unfold mx;omega,λy J=>?_⟩,by unfold mx;omega⟩,?_⟩
 .have:=E y J;exact⟨by unfold mx;omega,by unfold mx;omega⟩
 .show yJ x.cK+x.dE.length<=1048576;unfold yJ;omega
def bK.flat:Flat bK.enc:=λx a ha=>by
 simp[bK.enc] at ha;rcases ha with rfl|rfl<;>exact⟨rfl,λT=>by constructor⟩
def view_AResponse {S} {s:eG} (hs:∀o,o∈s.iV->o∈S):View S (.agg s.iF) (.agg s.enc):=
 GQ (.cons (.refl _) (.cons (GN hs bK.flat.cells) (.cons (.refl _) .nil))) (eG.cells s)
def impl_tr {s:aA} (E:s.length<=1048576):Tr aE 7 [.str s] λ_ r=>∃b:eG,r=.aX [.agg b.enc,.bool (lW s)]/\b.jE=(tJ s).jE:=
 ME (impl_parseR E) λc r O E _ ⟨b,E,J,T⟩ W=>⟨.aX [.agg b.enc,.bool (lW s)],by rw[E];exact CV (.cons (view_AResponse λo E=>J▸E) (fG.refl _ _)),⟨b,rfl,T⟩,OI λa E=>by
  rcases fK.1 E with rfl|E
  .refine from_agg λa E=>?_;simp[eG.enc] at E;rcases E with rfl|rfl|rfl
   .simp
   .exact OP bK.flat λu T=>W u (by rw[J];exact T)
   .simp
  .simp at E;subst E;simp⟩
def law_responses {s:SL Int} (hs:s.aG.length<=mx) c:cA aE 3 [s.av 1 rL] [] c λr H' _=>r=.bool true/\H'=[]:=by
 refine cO F3 ?_;simp[F3];refine bZ (big_fn hs) .bool λ_ _=>?_;by_cases hbig:(1048576:Int)<s.aG.length
 .simp[hbig];exact aS ⟨rfl,rfl⟩
 simp[hbig];refine cV (draw_rsp (by omega)) λr c1 _ ⟨x,hr,hx⟩=>⟨fB _,?_⟩
 subst hr;obtain⟨hok,hsz⟩:=hx.ok;have hp:∀y:eG,aR [.I 0,.aU,.str []] 0 y.enc=y.enc:=λy=>rfl;simp[hp];refine bZ (OD hok hsz) .str λc2 _=>?_;have hlf:(if jA x then jP x else []).length<=1048576:=by
  by_cases hr:jA x=true
  .rw[if_pos hr];obtain⟨hc,hb,hn,hh⟩:=hx;have h1:=XQ (M0 hr);have h2:=WZ x.cK.aG;have h3:=MO hh;have h4:=BY (u:=x.dE.length) (by omega);simp only[jP,EB,kW,lE,Q7];omega
  .rw[if_neg hr];simp
 simp;refine E0 (impl_tr hlf) λr1 c3 _ ⟨y,e1,q1⟩ _=>?_;subst e1;simp[hp];refine bZ (spec_isR hok) .bool λ_ _=>?_;by_cases hr:jA x=true;rotate_left
 .simp[hr];have:lW []=false:=by unfold lW;simp
  simp[this];exact aS ⟨rfl,rfl⟩
 obtain⟨k1,k2⟩:=okI_fmt hr;obtain⟨hd,e1,e2⟩:=head_R hr;have q2:y.jE=x.jE:=by
  have h1:=q1;rw[if_pos hr] at h1;rw[h1,tJ,if_pos k1,k2]
 obtain⟨hc,hb,hn,hh⟩:=hx;have hlen:(jP x).length<=1048576:=by rw[if_pos hr] at hlf;exact hlf
 rw[e1] at k1 hlen;rw[kW] at hlen;simp[hr,e1,k1];refine b6 hd.length (λi e H c'=>∃n:Nat,n+pc (hd.drop i)=pc hd/\n<=i/\e 3=.ptr 0 c1 3 0 0/\e 4=.str (hd++x.dE)/\e 5=.ptr 1 c3 3 0 0/\e 6=.bool true/\e 7=.I n/\e 8=.I i/\H=[⟨false,c1,3,[x.enc]⟩,⟨false,c3,3,[y.enc]⟩]) ⟨0,by simp,by omega,rfl,rfl,rfl,rfl,rfl,rfl,rfl⟩ ?_;intro i e H c' hi ⟨n,hpc,hni,e3,e4,e5,e6,e7,e8,hH⟩ N hN;subst hH;have w1:IntKind.i64.wrap ((i:Int)+1)=(i:Int)+1:=by rw[wrap64]<;>omega
 have w2:IntKind.i64.wrap (hd.length:Int)=(hd.length:Int):=by rw[wrap64]<;>omega
 by_cases hlt:i+1<hd.length
 .obtain⟨a,ha⟩:∃a,hd[i]?=some a:=⟨_,bC (by omega)⟩
  obtain⟨b,hb'⟩:∃b,hd[i+1]?=some b:=⟨_,bC (by omega)⟩
  have hA:(hd++x.dE)[i]?=some a:=by rw[gY (by omega)];exact ha
  have hB:(hd++x.dE)[i+1]?=some b:=by rw[gY (by omega)];exact hb'
  have hD:pc (hd.drop i)=(if a=13/\b=10 then 1 else 0)+pc (hd.drop (i+1)):=by
   obtain⟨g1,g2⟩:=bQ.1 ha;obtain⟨g3,g4⟩:=bQ.1 hb';rw[uS g1,uS g3,g2,g4];rfl
  have fa:((a.toNat:Int)=13)=(a=13):=by
   rw[eq_iff_iff];constructor
   .intro h;exact zP.1 (by simpa using (by omega:a.toNat=13))
   .rintro rfl;rfl
  have fb:((b.toNat:Int)=10)=(b=10):=by
   rw[eq_iff_iff];constructor
   .intro h;exact zP.1 (by simpa using (by omega:b.toNat=10))
   .rintro rfl;rfl
  have w3:IntKind.i64.wrap ((n:Int)+1)=(n:Int)+1:=by rw[wrap64]<;>omega
  have hl':((i:Int)+1<hd.length):=by omega
  have hl2:(i:Int)<hd.length:=by omega
  have hB':(hd++x.dE)[((i:Int)+1).toNat]?=some b:=by
   have:((i:Int)+1).toNat=i+1:=by omega
   rw[this];exact hB
  have hz0:(0:Int)<=(i:Int)+1:=by omega
  simp[e3,e4,e8,w1,w2,hl',aL hA,fa];by_cases h13:a=13
  .by_cases h10:b=10
   .simp[e4,e7,e8,h13,w1,w3,aL hB,h10,hz0];rw[h13,h10,if_pos ⟨rfl,rfl⟩] at hD;exact hN _ _ _ _ (by omega) (bY _) ⟨n+1,by omega,by omega,e3,e4,e5,e6,rfl,rfl,rfl⟩
   .simp[e4,e7,e8,h13,w1,w3,fb,aL hB,h10,hz0];rw[if_neg (λh=>h10 h.2)] at hD;exact hN _ _ _ _ (by omega) (bY _) ⟨n,by omega,by omega,e3,e4,e5,e6,e7,rfl,rfl⟩
  .have hf:¬(a.toNat:Int)=13:=by rw[fa];exact h13
   simp[e8,hf,h13,w1];rw[if_neg (λh=>h13 h.1)] at hD;exact hN _ _ _ _ (by omega) (bY _) ⟨n,by omega,by omega,e3,e4,e5,e6,e7,rfl,rfl⟩
 have hge:¬(i:Int)+1<hd.length:=by omega
 have hz:pc (hd.drop i)=0:=pc_short (by simp;omega);have hn:n=x.cK.aG.length+3:=by omega
 simp[e3,e4,e5,e6,e8,w1,w2,hge];refine bZ (sameR_fn q2.symm (by omega)) .bool λ_ _=>?_;have w4:IntKind.i64.wrap ((x.cK.aG.length:Int)+3)=(x.cK.aG.length:Int)+3:=by rw[wrap64]<;>omega
 simp[e3,e7,hn,w4];refine bZ (OC _) .str λ_ _=>?_;simp[M0 hr];exact aS ⟨rfl,rfl⟩
end A
end Go.Proofs.YtbdgahjfipdeoaaGreatDoor
