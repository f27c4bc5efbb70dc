import Derived.Test.YtbdgahjfipdeoaaGreatDoorB12
/- FnResponses: a part of its proof. No condition. -/
set_option linter.all false
set_option maxRecDepth 100000
namespace Go.Proofs.YtbdgahjfipdeoaaGreatDoor
namespace A
section
variable {T:SL dB} {e:Int} {tp c k:Nat} {s:PS}
def BD {n} (hs:s.ok n) (E:s.i<n):Lt n s ⟨s.i+1,s.b⟩:=
 ⟨⟨by show s.i<=s.i+1;omega,⟨by show s.i+1<=_;omega,λh=>by have E:0<=s.b:=h;have:=hs.2 E;omega⟩,id⟩,λ_=>by show s.i<s.i+1;omega⟩
def D0 {j} {a} {O} {aN} {L:aF aQ} (h:KL j a O aN) {G} (hs:∀o,o∈O->o∈G) (J:iN G aN L) {k n:Int} {s:aA} (E:s.length<=20000) (W:L.length<=20000):∃x,Nb G [.I k,.I n,.str s,a] x:=by
 cases h with
 |nil=>exact⟨_,nD E⟩
 |mk h Z=>exact⟨_,iC (hs _ (by simp)) h J E W⟩
def KL.cell {j} {a:AV} {O} {aN} (h:KL j a O aN):a.cell=true:=by cases h<;>rfl
def KL.E7 {j} {a} {O} {aN} (h:KL j a O aN) S:Av S a:=by cases h;exact .aU;exact .ref
def primary_l (Z:iG T e) (hE:∀E,E<k->dF T e E 219 []) (hL:∀E,E<k->dF T e E 287 []) (hA:∀E,E<k->xX T e E 259 []) (hB:∀E,E<k->dF T e E 184 []):dF T e k 257 []:=by
 intro tp s hs hk c;have E:=Z.n;refine cN F257 λ_ _=>?_;unfold F257;by_cases hi:s.i<T.aG.length;rotate_left
 .have W:¬(s.i:Int)<(T.aG.length:Int):=by omega
  have hge:T.aG.length<=s.i:=by omega
  simp[hge];refine uD Z hs λs2 c4 _ E J _=>?_;simp;exact jC (.refl _ _) E pQ
 have hb:s.b<0:=by
  rcases zZ s.b 0 with h1|h1
  .exact h1
  .have:=hs.2 h1;omega
 obtain⟨t,ht⟩:∃t,T.aG[s.i]?=some t:=⟨_,bC hi⟩
 have htx:=(Z.ok t (bA ht)).1;have hwi:IntKind.i64.wrap ((s.i:Int)+1)=((s.i+1:Nat):Int):=by rw[wrap64 (by omega) (by omega)];omega
 have l1:=BD hs hi;have sm:∀{s':PS},Lt T.aG.length s s'->s'.mu T.aG.length<k:=λl=>fM (l.mu hb) hk;have W:(s.i:Int)<(T.aG.length:Int):=by omega
 have hge:¬T.aG.length<=s.i:=by omega
 have args:∀{s3:PS} {c3:Nat} {K:aD} {o1 J:aH},s3.ok T.aG.length->s3.mu T.aG.length<k->(∀a W s4 O (L:aF aQ),Lt T.aG.length s3 s4->s4.ok T.aG.length->KL 3 a O (List.map aQ.enc L)->L.length<=10000->(∀e,e∈L->cU 20000 e)->
   K a (PO T e tp s4::o1::J::O) W)->bO aE 259 [.ptr 0 tp 4 0 0,.aU] (PO T e tp s3::o1::J::[]) c3 K:=λ{s3 c3 K o1 J} o3 W kk=>by
  refine B8 (pre:=[]) (R:=[o1,J]) (O:=[]) (aN:=[]) (hA _ W) o3 (bB _) .nil (by simp) λr s4 L O2 c4 _ W l4 o4 hL hn4=>?_;exact kk r c4 s4 O2 L l4 o4 (by simpa using W) (by have:=o4.1;omega) hL
 by_cases q4:t.aJ=4
 .simp[hge,aL ht,q4,hwi,aR,-Int.natCast_add];exact fY (s:=⟨s.i+1,s.b⟩) (nD (by simp)) l1
 by_cases q5:t.aJ=5
 .simp[hge,aL ht,q5,hwi,aR,-Int.natCast_add];refine fD rfl .aU λc7 _=>?_;simp;exact fY (s:=⟨s.i+1,s.b⟩) (nD (by omega)) l1
 by_cases q2:t.aJ=2
 .simp[hge,aL ht,q2];refine dY (AI (k:=k) Z) hs hk λy s6 c6 _ y6 l6 o6=>?_;simp;exact jC (.refl _ _) l6 y6
 simp[hge,aL ht,q4,q5,q2];refine eM Z hs (λs2 c2 _ _ _ _ E J=>?_) λc2 _=>?_
 .simp[aR];exact fY (nD (by simp)) E
 simp;refine eM Z hs (λs2 c2 _ _ _ _ E J=>?_) λc2 _=>?_
 .simp[aR];exact fY (nD (by simp)) E
 simp;refine eM Z hs (λs2 c2 _ _ _ _ E J=>?_) λc2 _=>?_
 .simp[aR];exact fY (nD (by simp)) E
 simp;refine eM Z hs (λs2 c2 _ _ _ _ E J=>?_) λc2 _=>?_
 .simp;refine dY (hL _ (sm E)) J (bB _) λy s6 c6 _ y6 l6 o6=>?_;simp;exact jC (.refl _ _) (E.trans l6) y6
 simp;refine eM Z hs (λs2 c2 _ _ _ _ E J=>?_) λc2 _=>?_
 .simp;refine dY (hE _ (sm E)) J (bB _) λy s6 c6 _ y6 l6 o6=>?_;simp;refine iE Z o6 λ_ s5 c5 _ l5 o5=>?_;simp;exact jC (.refl _ _) (E.trans (l6.trans l5)) y6
 simp;refine eM Z hs (λs2 c2 _ _ _ _ E J=>?_) λc2 _=>?_
 .simp;refine eM Z J (λs3 c3 _ _ _ _ l3 o3=>?_) λc3 _=>?_
  .simp;refine args o3 (sm (E.trans l3)) λa c6 s5 O L l5 o5 W hlen hL=>?_;simp;refine fD W.cell (W.E7 _) λc7 _=>?_;simp;obtain⟨x,hx⟩:=D0 W (G:=⟨false,c,4,[[.I 22,.I 0,.str [115,116,97,116,105,99],a]]⟩::⟨false,c+1,4,[t.enc]⟩::O) (λo ho=>by simp[ho]) (iN.rK hL) (k:=22) (n:=0) (s:=[115,116,97,116,105,99]) (by simp) (by omega);exact fY hx (E.trans (l3.trans l5))
  .simp;refine mQ Z J λy s3 c3 _ hy l3 o3=>?_;simp;refine args o3 (sm (E.trans l3)) λa c6 s5 O L l5 o5 W hlen hL=>?_;simp;refine fD W.cell (W.E7 _) λc7 _=>?_;simp;obtain⟨x,hx⟩:=D0 W (G:=⟨false,c,4,[[.I 22,.I 0,.str y,a]]⟩::⟨false,c+1,4,[t.enc]⟩::O) (λo ho=>by simp[ho]) (iN.rK hL) (k:=22) (n:=0) (s:=y) (by omega) (by omega);exact fY hx (E.trans (l3.trans l5))
 simp;refine eM Z hs (λs2 c2 _ _ _ _ E J=>?_) λc2 _=>?_
 .simp;refine B8 (pre:=[.I 24]) (R:=[_,_]) (O:=[]) (aN:=[]) (HV (k:=k) Z) J (zS (sm E)) .nil (by simp) λr s3 L O2 c3 _ W l3 o3 hL hn3=>?_;have rest:∀{s4:PS} {r:AV} {L:aF aQ} {O:aC} {c4:Nat} {K:aD} {o1 J:aH},KL 3 r O (List.map aQ.enc L)->(∀e,e∈L->cU 20000 e)->L.length<=12000->Lt T.aG.length s s4->s4.ok T.aG.length->
    (∀y s5 c5,cU 20000 y->Lt T.aG.length s s5->s5.ok T.aG.length->K (.agg (aQ.enc y)) (PO T e tp s5::o1::J::O) c5)->bO aE 184 [.ptr 0 tp 4 0 0] (PO T e tp s4::o1::J::O) c4 K:=λW hL hlen l4 o4 kk=>
   dY (hB _ (sm l4)) o4 (bB _) λy s6 c6 _ y6 l6 o6=>kk y s6 c6 y6 (l4.trans l6) o6
  have fin:∀{s5:PS} {L:aF aQ} {y:aQ} {t1 j c9:Nat} {X:aC} {m:Nat},(∀e,e∈L->cU 20000 e)->L.length<=12000->cU 20000 y->Lt T.aG.length s s5->(⟨false,t1,4,List.map aQ.enc L++[y.enc]⟩:aH)∈X->m=L.length+1->
    pU (λr O (_:Nat)=>∃s',O=[PO T e tp s']/\Le T.aG.length s s'/\Av [] r/\vX T.aG.length s r s') (.agg [.I 23,.I 0,.str [],.ref j t1 4 m]) (PO T e tp s5::X) c9:=λ{s5 L y t1 j c9 X m} hL hlen hy l5 ho hm=>
   fY (iC (L:=L++[y]) ho (by simp[hm]) ((iN.rK hL).append (.cons (.enc hy) .nil)) (by simp) (by simp;omega)) l5
  have hlen1:L.length<=6000:=by have:=o3.1;omega
  have kl':KL 3 r O2 (List.map aQ.enc L):=by simpa using W
  simp;refine eM Z o3 (λs4 c4 _ _ _ _ l4 o4=>?_) λc4 _=>?_
  .simp;refine B8 (pre:=[.I 25]) (R:=[_,_]) (O:=O2) (aN:=List.map aQ.enc L) (HV (k:=k) Z) o4 (zS (sm (E.trans (l3.trans l4)))) kl' (by simpa using hlen1) λr s5 L2 O3 c5 _ kl5 l5 o5 hL5 hn5=>?_;have hlen2:(L++L2).length<=12000:=by have:=o5.1;simp;omega
   have kl5':KL 3 r O3 (List.map aQ.enc (L++L2)):=by simpa using kl5
   have hLL:∀e,e∈L++L2->cU 20000 e:=λe he=>by rcases dI.1 he with h|h;exact hL e h;exact hL5 e h
   generalize L++L2=M at hlen2 kl5' hLL;obtain⟨q1,q2,q3,q4⟩:=rI (n:=M.length) (by omega);simp;refine rest kl5' hLL hlen2 (E.trans (l3.trans (l4.trans l5))) o5 λy s6 c6 y6 l6 o6=>?_;generalize hR:List.map aQ.enc M=rw_ at kl5';have hrl:rw_.length=M.length:=by rw[<-hR];simp
   cases kl5' with
   |nil=>
    have hM:M=[]:=by simpa using hR
    subst hM;simp[q3,q4];refine fD rfl .ref λc7 _=>?_;simp;refine fin (L:=[]) (y:=y) (by simp) (by simp) y6 l6 ?_ rfl;simp
   |mk h hA=>
    subst h;simp[hrl,q1,q2];refine fD rfl .ref λc7 _=>?_;simp;refine fin (L:=M) (y:=y) hLL hlen2 y6 l6 ?_ rfl;rw[hR];simp
  .obtain⟨q1,q2,q3,q4⟩:=rI (n:=L.length) (by omega);simp;refine rest kl' hL (by omega) (E.trans l3) o3 λy s6 c6 y6 l6 o6=>?_;generalize hR:List.map aQ.enc L=rw_ at kl';have hrl:rw_.length=L.length:=by rw[<-hR];simp
   cases kl' with
   |nil=>
    have hM:L=[]:=by simpa using hR
    subst hM;simp[q3,q4];refine fD rfl .ref λc7 _=>?_;simp;refine fin (L:=[]) (y:=y) (by simp) (by simp) y6 l6 ?_ rfl;simp
   |mk h hA=>
    subst h;simp[hrl,q1,q2];refine fD rfl .ref λc7 _=>?_;simp;refine fin (L:=L) (y:=y) hL (by omega) y6 l6 ?_ rfl;rw[hR];simp
 simp
 have last:∀{s3:PS} {y:aA} {c3:Nat} {K:aD} {o1 J:aH},s3.ok T.aG.length->Lt T.aG.length s s3->True:=λ_ _=>trivial;refine eM Z hs (λs2 c2 _ _ _ _ E J=>?_) λc2 _=>?_
 .simp;refine iE Z J λ_ s3 c3 _ l3 o3=>?_;simp;refine⟨by decide,?_⟩;refine mQ Z o3 λy s4 c4 _ hy l4 o4=>?_;simp;refine⟨by unfold mx;omega,?_⟩;refine args o4 (sm (E.trans (l3.trans l4))) λa c6 s5 O L l5 o5 W hlen hL=>?_;simp;refine fD W.cell (W.E7 _) λc7 _=>?_;simp;obtain⟨x,hx⟩:=D0 W (G:=⟨false,c,4,[[.I 21,.I 0,.str (115::116::97::116::105::99::58::58::y),a]]⟩::⟨false,c+1,4,[t.enc]⟩::O) (λo ho=>by simp[ho]) (iN.rK hL) (k:=21) (n:=0) (s:=115::116::97::116::105::99::58::58::y) (by simp;omega) (by omega);exact fY hx (E.trans (l3.trans (l4.trans l5)))
 simp;refine mQ Z hs λy s2 c2 _ hy E J=>?_;have h20:=J.1;simp;refine lN (k:=0) Z (by omega) (by omega) λc5 _=>?_;cases j4 T (s2.i+0) 6 [40]
 .simp;refine iE Z J λ_ s3 c3 _ l3 o3=>?_;simp;refine⟨by unfold mx;omega,?_⟩;refine mQ Z o3 λz s4 c4 _ Z l4 o4=>?_;simp;refine⟨by unfold mx;omega,?_⟩;refine args o4 (sm (E.trans (l3.trans l4))) λa c6 s5 O L l5 o5 W hlen hL=>?_;simp;refine fD W.cell (W.E7 _) λc7 _=>?_;simp;obtain⟨x,hx⟩:=D0 W (G:=⟨false,c,4,[[.I 21,.I 0,.str (y++58::58::z),a]]⟩::⟨false,c+1,4,[t.enc]⟩::O) (λo ho=>by simp[ho]) (iN.rK hL) (k:=21) (n:=0) (s:=y++58::58::z) (by simp;omega) (by omega);exact fY hx (E.trans (l3.trans (l4.trans l5)))
 .simp;refine args J (sm E) λa c6 s5 O L l5 o5 W hlen hL=>?_;simp;refine fD W.cell (W.E7 _) λc7 _=>?_;simp;obtain⟨x,hx⟩:=D0 W (G:=⟨false,c,4,[[.I 18,.I 0,.str y,a]]⟩::⟨false,c+1,4,[t.enc]⟩::O) (λo ho=>by simp[ho]) (iN.rK hL) (k:=18) (n:=0) (s:=y) (by omega) (by omega);exact fY hx (E.trans l5)
def T7 a b d x y:aR [a,b,d,x] 0 [y]=[y,b,d,x]:=rfl
def M6 a b d x y:aR [a,b,d,x] 1 [y]=[a,y,d,x]:=rfl
def T6 a b d x y:aR [a,b,d,x] 2 [y]=[a,b,y,x]:=rfl
structure BX (T:SL dB) (e:Int) (tp:Nat) (s0 s:PS) (t1 t2:Nat) (r1:List AV) (kd:Int) (tx:aA) (X G:aC) (a:AV) (aN:List (List AV)) (L:List aQ) (k0:Nat) (H:aC) (c:Nat):Prop where
 ok:s.ok T.aG.length
 lt:Lt T.aG.length s0 s
 kx:KX X G a aN L c
 len:L.length+s0.i<=s.i+k0+if s.b<0 then 0 else 1
 hr:r1.length=4
 H:H=PO T e tp s::⟨false,t1,4,[r1]⟩::⟨false,t2,4,[[.int .i64 kd,.int .i64 0,.str tx,a]]⟩::X
def U4 {X:aC} {c:Nat}:∀o,o∈([]:aC)->o∈X/\o.tag<c:=λo E=>by simp at E
def KX.uH {X G:aC} {L:aF aQ} {c c6:Nat} {x:aQ} {aM:aF AV} (h:KX X G .aU [] L c) (J:cU 20000 x) (E:aM=x.enc) (W:c<=c6) (O:aC):KX (X++(O++[⟨false,c6,4,[aM]⟩])) G (.ref (X.length+O.length+3) c6 4 1) [aM] (L++[x]) (c6+1):=by subst E;have:=KX.HF (A:=[]) (j:=X.length+O.length) (Y:=X++(O++[⟨false,c6,4,[x.enc]⟩])) (c':=c6+1) (t:=c6) h (λo E=>kC _ E) U4 (by omega) (λo E=>by simp at E) W (by omega) (by rw[qV (by omega),FX,qV (by omega),QY];rfl) (.enc J);simpa using this
def KX.addRef {X G:aC} {L:aF aQ} {c c6 t j m:Nat} {x:aQ} {aM:aF AV} {aN:aF (aF AV)} (W:X[j]?=some ⟨false,t,4,aN⟩) (hn:∀o,o∈G->o.tag≠t) (E:∀o,o∈G->o∈X/\o.tag<c) (Z:iN G aN L) (hx:cU 20000 x) (J:aM=x.enc) (hc:c<=c6) (hm:m=aN.length+1) (O:aC):
  KX (X.set j ⟨false,c6,4,aN++[aM]⟩++O) G (.ref (j+3) c6 4 m) (aN++[aM]) (L++[x]) (c6+1):=by subst J;have J:=(bQ.1 W).1;have:=KX.snoc (A:=[]) (m:=m) (Y:=X.set j ⟨false,c6,4,aN++[x.enc]⟩++O) (c':=c6+1) (t:=c6) W hn E Z (λo E=>kC _ E) U4 (by omega) (λo E=>by simp at E) hc (by omega) (by rw[gY (by simpa using J),eP (by simpa using J)]) (.enc hx) hm;simpa using this
def block_l (hT:iG T e) (hS:∀E,E<k->dF T e E 186 []):dF T e k 184 []:=by
 intro tp s E hk c;have J:=hT.n;refine cN F184 λ_ _=>?_;simp[F184];refine fD rfl .aU λc1 J=>?_;simp;refine iE hT E λ_ s1 E _ l1 o1=>?_;simp;refine nE (λm J H' c'=>∃s2 Z W r1 X a E L,BX T e tp s s2 Z W r1 48 [] X [] a E L 0 H' c'/\s2.mu T.aG.length<=m/\J 0=.ptr 0 tp 4 0 0/\J 2=.ptr 1 Z 4 0 0/\J 3=.ptr 2 W 4 0 0) _
  ⟨s1,c,c1,_,[],.aU,[],[],⟨o1,l1,.empty,by have:=l1.le.i;simp;omega,rfl,rfl⟩,bB _,rfl,rfl,rfl⟩ ?_
 intro m J H' c' ⟨s2,Z,W,r1,X,a,E,L,I,hm,e0,e2,e3⟩ N hN;obtain⟨o2,l2,kx,J,hr1,hH⟩:=I;subst hH;have hi2:=o2.1;have hLr:=kx.one;obtain⟨q1,q2,q3,q4⟩:=rI (n:=E.length) (by split at J<;>omega);have stop:∀{s5:PS} {c5:Nat},Le T.aG.length s2 s5->pU (λr O (_:Nat)=>∃s',O=[PO T e tp s']/\Le T.aG.length s s'/\Av [] r/\vX T.aG.length s r s') (.agg [.I 48,.I 0,.str [],a])
   (PO T e tp s5::⟨false,Z,4,[[.I 48,.I 0,.str [],a]]⟩::⟨false,W,4,[[.I 48,.I 0,.str [],a]]⟩::X) c5:=λl5=>by
  obtain⟨x,hx⟩:=kx.node (Y:=⟨false,Z,4,[[.I 48,.I 0,.str [],a]]⟩::⟨false,W,4,[[.I 48,.I 0,.str [],a]]⟩::X) (λo ho=>by simp[ho]) (k:=48) (n:=0) (s:=[]) (by simp) (by split at J<;>omega);exact fY hx (l2.GS l5)
 by_cases hb:s2.b<0;rotate_left
 .simp[e0,e2,e3,hb,hr1];exact stop (.refl o2)
 rw[if_pos hb] at J;have m2:s2.mu T.aG.length<k:=fM (l2.mu (l2.le.b hb)) hk;simp[e0,hb];refine eM hT o2 (λJ J _ _ _ _ l3 o3=>?_) λJ J=>?_
 .simp[e2,e3,hr1];exact stop l3.le
 simp[e0,e2,e3];refine eM hT o2 (λs4 c4 h4 _ _ hi4 l4 o4=>?_) λc4 h4=>?_
 .simp;exact hN (s4.mu T.aG.length) _ _ _ _ (fM (l4.mu hb) hm) (bY _) ⟨s4,Z,W,r1,X,a,E,L,⟨o4,l2.trans l4,kx.mono (by omega),by have:=l4.le.i;split<;>omega,hr1,rfl⟩,bB _,e0,e2,e3⟩
 simp[e0,e3];refine dY (hS _ m2) o2 (bB _) λx s4 c5 h5 x4 l4 o4=>?_;have hlen4:(L++[x]).length+s.i<=s4.i+0+if s4.b<0 then 0 else 1:=by
  have:=l4.le.i;by_cases J:s4.b<0
  .have:=l4.lt J;rw[if_pos J];simp;omega
  .rw[if_neg J];simp;omega
 have back:∀{a':AV} {J:aF (aF AV)} {Y':aC} {e5:Env} {c5 c6:Nat},KX Y' [] a' J (L++[x]) c6->c6<=c5->e5 0=.ptr 0 tp 4 0 0->e5 2=.ptr 1 Z 4 0 0->e5 3=.ptr 2 W 4 0 0->
   N e5 (PO T e tp s4::⟨false,Z,4,[r1]⟩::⟨false,W,4,[[.I 48,.I 0,.str [],a']]⟩::Y') c5:=λ{a' J Y' e5 c5 c6} kx' hcc f0 f2 f3=>
  hN (s4.mu T.aG.length) _ _ _ _ (fM (l4.mu hb) hm) (bY _) ⟨s4,Z,W,r1,Y',a',J,L++[x],⟨o4,l2.trans l4,kx'.mono hcc,hlen4,hr1,rfl⟩,bB _,f0,f2,f3⟩
 rcases kx.kids with⟨rfl,rfl⟩|⟨j,t,rfl,W,J,Z⟩
 .simp[e3,q3,q4,fT];exact back (kx.uH x4 rfl (by omega) [_]) (by omega) (e0) (e2) (e3)
 .have J:=(bQ.1 W).1;have gj:∀(l:aC) (K:aH->Prop),aZ (X++l) j K=K ⟨false,t,4,E⟩:=λl K=>aL (by rw[gY J];exact W) K;have E:∀(l:aC) (z:aH),(X++l).set j z=X.set j z++l:=λl z=>rX _ _ J;simp[e3,gj,E,q1,q2,fT];exact back (KX.addRef W Z kx.sub kx.nb x4 rfl (by omega) rfl [_]) (by omega) (e0) (e2) (e3)
def foreach_l (J:iG T e) (hE:dF T e k 219 []) (hB:dF T e k 184 []):dF T e k 217 []:=by
 intro tp s W Z c;refine cN F217 λ_ _=>?_;unfold F217;have m1:∀{E:PS},Lt T.aG.length s E->E.mu T.aG.length<=k:=λl=>cL l.le.mu Z;simp;refine iE J W λ_ E E _ E W=>?_;simp;refine dY hE W (m1 E) λx W W _ x2 Z W=>?_;simp;refine fD rfl .ref λc3 _=>?_;simp;refine iE J W λ_ W W _ W o3=>?_;simp;refine dY (AI (k:=k) J) o3 (m1 (E.trans (Z.trans W))) λy s4 c5 _ x4 l4 o4=>?_;simp[MD,fT];refine eM J o4 (λs5 c6 _ _ _ _ l5 o5=>?_) λc6 _=>?_
 .simp;refine dY (AI (k:=k) J) o5 (m1 (E.trans (Z.trans (W.trans (l4.trans l5))))) λz s6 c7 _ x6 l6 o6=>?_;simp[fT];refine⟨by decide,?_⟩;refine iE J o6 λ_ s7 c8 _ l7 o7=>?_;simp;refine dY hB o7 (m1 (E.trans (Z.trans (W.trans (l4.trans (l5.trans (l6.trans l7))))))) λu s8 c9 _ x8 l8 o8=>?_;simp[fT];refine⟨by decide,?_⟩;exact fY (iC (aN:=[x.enc,y.enc,z.enc,u.enc]) (L:=[x,y,z,u]) (by simp) rfl (.cons (.enc x2) (.cons (.enc x4) (.cons (.enc x6) (.cons (.enc x8) .nil)))) (by simp) (by simp)) (E.trans (Z.trans (W.trans (l4.trans (l5.trans (l6.trans (l7.trans l8)))))))
 .simp;refine iE J o4 λ_ s7 c8 _ l7 o7=>?_;simp;refine dY hB o7 (m1 (E.trans (Z.trans (W.trans (l4.trans l7))))) λu s8 c9 _ x8 l8 o8=>?_;simp[fT];refine⟨by decide,?_⟩;exact fY (iC (aN:=[x.enc,y.enc,u.enc]) (L:=[x,y,u]) (by simp) rfl (.cons (.enc x2) (.cons (.enc x4) (.cons (.enc x8) .nil))) (by simp) (by simp)) (E.trans (Z.trans (W.trans (l4.trans (l7.trans l8)))))
def if_l (hT:iG T e) (hP:dF T e k 216 []) (hB:dF T e k 184 []) (hI:∀k',k'<k->dF T e k' 215 []):dF T e k 215 []:=by
 intro tp s hs hk c;refine cN F215 λ_ _=>?_;unfold F215;have m1:∀{s':PS},Lt T.aG.length s s'->s'.mu T.aG.length<=k:=λl=>cL l.le.mu hk;simp[-jN];refine dY hP hs hk λx s1 c1 _ x1 l1 o1=>?_;simp[-jN];refine nK (λe' H' c'=>∃(s2:PS) (y:aQ) (tl tn:Nat) (r1 z:aF AV),Lt T.aG.length s s2/\s2.ok T.aG.length/\cU 20000 y/\r1.length=4/\z.length=4/\e' 0=.ptr 0 tp 4 0 0/\e' 2=.ptr 1 c 4 0 0/\
  ((e' 4=.ptr 4 tn 4 0 0/\e' 11=.agg [.I 34,.I 0,.str [],.ref 3 tl 4 2]/\H'=[PO T e tp s2,⟨false,c,4,[r1]⟩,⟨false,c1,4,[x.enc]⟩,⟨false,tl,4,[x.enc,y.enc]⟩,⟨false,tn,4,[z]⟩])\/
   (e' 4=.ptr 3 tn 4 0 0/\e' 11=.agg [.I 34,.I 0,.str [],.ref 4 tl 4 2]/\H'=[PO T e tp s2,⟨false,c,4,[r1]⟩,⟨false,c1,4,[x.enc]⟩,⟨false,tn,4,[z]⟩,⟨false,tl,4,[x.enc,y.enc]⟩]))) ?_ ?_
 rotate_left
 .intro K hK;simp
  repeat' first
   |with_reducible apply And.intro
   |(with_reducible refine dY hB o1 (m1 l1) λy s2 c2 _ y2 l2 o2=>?_;simp)
   |(with_reducible refine fD rfl .ref λc3 _=>?_;simp)
   |exact hK _ _ _ ⟨s2,y,_,_,_,_,l1.trans l2,o2,y2,rfl,rfl,rfl,rfl,.inl ⟨rfl,rfl,rfl⟩⟩
   |exact hK _ _ _ ⟨s2,y,_,_,_,_,l1.trans l2,o2,y2,rfl,rfl,rfl,rfl,.inr ⟨rfl,rfl,rfl⟩⟩
 intro e' H' c2 ⟨s2,y,tl,tn,r1,z,l2,o2,y2,hr1,hz,e0,e2,hh⟩;rcases hh with⟨e4,e11,hH⟩|⟨e4,e11,hH⟩
 all_goals
  subst hH;simp[e0,e4,e11,hz];refine eM hT o2 (λs3 c3 _ _ hb3 _ l3 o3=>?_) λc3 _=>?_
  .simp[e0];refine eM hT o3 (λs4 c4 _ _ _ _ l4 o4=>?_) λc4 _=>?_
   .simp[e0,e4];refine dY (hI _ (fM ((l3.trans l4).mu hb3) (m1 l2))) o4 (bB _) λu s5 c5 _ u5 l5 o5=>?_;simp;refine fD rfl .ref λc6 _=>?_;simp[e2,e4,hr1,fT];refine⟨by decide,?_⟩;exact fY (iC (L:=[x,y,.mk 48 0 [] (.mk c5 [u])]) (aN:=[x.enc,y.enc,_]) (by simp;rfl) rfl (.cons (.enc x1) (.cons (.enc y2) (.cons (iC (aN:=[u.enc]) (L:=[u]) (by simp) rfl (.cons (.enc u5) .nil) (by simp) (by simp)) .nil))) (by simp) (by simp)) (l2.trans (l3.trans (l4.trans l5)))
   .simp[e0,e4];refine dY hB o3 (m1 (l2.trans l3)) λu s5 c5 _ u5 l5 o5=>?_;simp[e2,e4,hr1,fT];refine⟨by decide,?_⟩;exact fY (iC (aN:=[x.enc,y.enc,u.enc]) (L:=[x,y,u]) (by simp) rfl (.cons (.enc x1) (.cons (.enc y2) (.cons (.enc u5) .nil))) (by simp) (by simp)) (l2.trans (l3.trans l5))
  .simp[e2,e4,hr1];exact fY (iC (aN:=[x.enc,y.enc]) (L:=[x,y]) (by simp) rfl (.cons (.enc x1) (.cons (.enc y2) .nil)) (by simp) (by simp)) l2
def try_l (J:iG T e) (hB:dF T e k 184 []):dF T e k 218 []:=by
 intro tp s Z W c;refine cN F218 λ_ _=>?_;unfold F218;have m1:∀{E:PS},Lt T.aG.length s E->E.mu T.aG.length<=k:=λl=>cL l.le.mu W;simp;refine dY hB Z W λx E E _ x1 l1 o1=>?_;simp;refine fD rfl .ref λE _=>?_;simp;refine eM J o1 (λE W _ _ _ _ Z E=>?_) λW _=>?_
 .simp;refine iE J E λ_ s3 c4 _ l3 o3=>?_;simp;refine mQ J o3 λnm E E _ E W E=>?_;simp;refine dY (AI (k:=k) J) E (m1 (l1.trans (Z.trans (l3.trans W)))) λv E E _ v5 l5 o5=>?_;simp;refine iE J o5 λ_ E E _ l6 o6=>?_;simp;have E:=l1.trans (Z.trans (l3.trans (W.trans (l5.trans l6))));refine dY hB o6 (m1 E) λb W c8 _ Z l7 W=>?_;simp;refine fD rfl .ref λc9 _=>?_;simp[MD,fT];have hc:∀(G:aC) (j t:Nat),(⟨false,t,4,[v.enc,b.enc]⟩:aH)∈G->Nb G [.I 44,.I 0,.str nm,.ref j t 4 2] (.mk 44 0 nm (.mk t [v,b])):=λG j t h=>
   iC (aN:=[v.enc,b.enc]) (L:=[v,b]) h rfl (.cons (.enc v5) (.cons (.enc Z) .nil)) (by omega) (by simp)
  refine eM J W (λs8 Z _ _ _ _ l8 o8=>?_) λZ _=>?_
  .simp;refine dY hB o8 (m1 (E.trans (l7.trans l8))) λf s9 W _ f9 l9 o9=>?_;simp;refine fD rfl .ref λc12 _=>?_;simp[fT];refine⟨by decide,?_⟩;exact fY (iC (L:=[x,.mk 44 0 nm (.mk c8 [v,b]),.mk 45 0 [] (.mk W [f])]) (aN:=[x.enc,_,_]) (by simp;exact⟨rfl,rfl⟩) rfl (.cons (.enc x1) (.cons (hc _ _ _ (by simp)) (.cons (iC (aN:=[f.enc]) (L:=[f]) (by simp) rfl (.cons (.enc f9) .nil) (by simp) (by simp)) .nil))) (by simp) (by simp)) (E.trans (l7.trans (l8.trans l9)))
  .simp;exact fY (iC (L:=[x,.mk 44 0 nm (.mk c8 [v,b])]) (aN:=[x.enc,_]) (by simp;exact .inl rfl) rfl (.cons (.enc x1) (.cons (hc _ _ _ (by simp)) .nil)) (by simp) (by simp)) (E.trans l7)
 .simp;refine eM J o1 (λs8 Z _ _ _ _ l8 o8=>?_) λZ _=>?_
  .simp;refine dY hB o8 (m1 (l1.trans l8)) λf s9 W _ f9 l9 o9=>?_;simp;refine fD rfl .ref λc12 _=>?_;simp[fT];refine⟨by decide,?_⟩;exact fY (iC (L:=[x,.mk 45 0 [] (.mk W [f])]) (aN:=[x.enc,_]) (by simp;rfl) rfl (.cons (.enc x1) (.cons (iC (aN:=[f.enc]) (L:=[f]) (by simp) rfl (.cons (.enc f9) .nil) (by simp) (by simp)) .nil)) (by simp) (by simp)) (l1.trans (l8.trans l9))
  .simp;refine uD J o1 λs3 c4 _ l3 o3 _=>?_;simp;exact jC (.refl _ _) (l1.trans l3) pQ
def stmt_l (W:iG T e) (hE:dF T e k 219 []) (hB:dF T e k 184 []) (hI:dF T e k 215 []) (hP:dF T e k 216 []) (hF:dF T e k 217 []) (hC:dF T e k 220 [.bool false]):dF T e k 186 []:=by
 intro tp s hs hk c;have hn:=W.n;have E:=hs.1;refine cN F186 λ_ _=>?_;unfold F186;dsimp only;have m1:∀{E:PS},Le T.aG.length s E->E.mu T.aG.length<=k:=λl=>cL l.mu hk;rw[dT,dT];refine gK (λe' E c'=>∃(s1:PS) (t1 t2:Nat) (r1 aM:aF AV) (x:aQ) (G:aC),s1.ok T.aG.length/\Le T.aG.length s s1/\(Lt T.aG.length s s1\/s1=s)/\Nb G aM x/\r1.length=4/\e' 0=.ptr 0 tp 4 0 0/\e' 2=.ptr 1 t1 4 0 0/\e' 3=.ptr 2 t2 4 0 0/\E=PO T e tp s1::⟨false,t1,4,[r1]⟩::⟨false,t2,4,[aM]⟩::G) ?_ ?_
 .intro e' E c' ⟨s1,t1,t2,r1,aM,x,G,E,l1,_,nb,hr1,Z,e2,e3,J⟩;subst J;simp[Z];refine iE W E λ_ E c2 _ J Z=>?_;have ha4:=nb.all;have hl4:=nb.len;simp[e2,e3,ha4,hl4,hr1];exact fY (nb.mono (by simp +contextual)) (l1.lt_trans J)
 intro K hK;have out:∀{s1:PS} {t1 t2:Nat} {r1 aM:aF AV} {x:aQ} {G:aC} {e':Env} {c':Nat},Lt T.aG.length s s1->Nb G aM x->r1.length=4->e' 0=.ptr 0 tp 4 0 0->e' 2=.ptr 1 t1 4 0 0->e' 3=.ptr 2 t2 4 0 0->K e' (PO T e tp s1::⟨false,t1,4,[r1]⟩::⟨false,t2,4,[aM]⟩::G) c':=
  λl1 nb hr f0 f2 f3=>hK _ _ _ ⟨_,_,_,_,_,_,_,l1.le.ok,l1.le,.inl l1,nb,hr,f0,f2,f3,rfl⟩
 have one:∀{G:aC} {c':Nat} {k n:Int} {y:aQ} {j:Nat},(⟨false,c',4,[y.enc]⟩:aH)∈G->cU 20000 y->Nb G [.I k,.I n,.str [],.ref j c' 4 1] (.mk k n [] (.mk c' [y])):=λhm y6=>
  iC (aN:=[_]) (L:=[_]) hm rfl (.cons (.enc y6) .nil) (by simp) (by simp)
 have wr:∀n:Nat,n<=6000->IntKind.i64.wrap ((n:Int)+1)=((n+1:Nat):Int):=λn hn=>by rw[wrap64 (by omega) (by omega)];omega
 have wr2:∀n:Nat,n<=6000->IntKind.i64.wrap (((n+1:Nat):Int)-1)=(n:Int):=λn hn=>by rw[wrap64 (by omega) (by omega)];omega
 simp[aR];refine lN (k:=0) W (by omega) (by omega) λc2 _=>?_;cases h1:j4 T (s.i+0) 1 []
 case true=>
  have hi:s.i<T.aG.length:=vR h1;obtain⟨t,ht⟩:∃t,T.aG[s.i]?=some t:=⟨_,bC hi⟩
  have htx:=(W.ok t (bA ht)).1;have w1:=wr s.i (by omega);have w2:=wr2 s.i (by omega);simp[w1,w2,aL ht,aR,-Int.natCast_add];refine fD rfl .aU λc7 _=>?_;simp;exact fY (s:=⟨s.i+1,s.b⟩) (nD (by omega)) (BD hs hi)
 simp;refine lN (k:=0) W (by omega) (by omega) λc2 _=>?_;cases j4 T (s.i+0) 6 [123]
 case true=>
  simp;refine dY hB hs hk λy s6 c6 _ y6 l6 o6=>?_;simp;exact jC (.refl _ _) l6 y6
 simp;refine eM W hs (λE c2 _ _ _ _ J Z=>?_) λc2 _=>?_
 .simp;refine dY hI Z (m1 J.le) λy s6 c6 _ y6 l6 o6=>?_;simp;exact jC (.refl _ _) (J.trans l6) y6
 simp;refine eM W hs (λE c2 _ _ _ _ J Z=>?_) λc2 _=>?_
 .simp;refine dY hP Z (m1 J.le) λy s6 c6 _ y6 l6 o6=>?_;simp;refine dY hB o6 (m1 (J.trans l6).le) λz s7 c7 _ z7 l7 o7=>?_;simp;refine fD rfl .ref λc8 _=>?_;simp;exact fY (iC (aN:=[y.enc,z.enc]) (L:=[y,z]) (by simp) rfl (.cons (.enc y6) (.cons (.enc z7) .nil)) (by simp) (by simp)) (J.trans (l6.trans l7))
 simp;refine eM W hs (λE c2 _ _ _ _ J Z=>?_) λc2 _=>?_
 .simp;refine dY hF Z (m1 J.le) λy s6 c6 _ y6 l6 o6=>?_;simp;exact jC (.refl _ _) (J.trans l6) y6
 simp;refine eM W hs (λE c2 _ _ _ _ J Z=>?_) λc2 _=>?_
 .simp;refine dY (try_l W hB) Z (m1 J.le) λy s6 c6 _ y6 l6 o6=>?_;simp;exact jC (.refl _ _) (J.trans l6) y6
 simp;refine eM W hs (λE c2 _ _ _ _ J Z=>?_) λc2 _=>?_
 .simp;refine dY hE Z (m1 J.le) λy s6 c6 _ y6 l6 o6=>?_;simp;refine fD rfl .ref λc8 _=>?_;simp;refine out (J.trans l6) (one (y:=y) ?_ y6) rfl rfl rfl rfl;simp
 simp;refine eM W hs (λE c2 _ _ _ _ J Z=>?_) λc2 _=>?_
 .simp[aR];exact out J (nD (by simp)) rfl rfl rfl rfl
 simp;refine eM W hs (λE c2 _ _ _ _ J Z=>?_) λc2 _=>?_
 .simp[aR];exact out J (nD (by simp)) rfl rfl rfl rfl
 simp;refine eM W hs (λE c2 _ _ _ _ J Z=>?_) λc2 _=>?_
 .simp[aR];have h20:=Z.1;refine lN (k:=0) W (by omega) (by omega) λc3 _=>?_;cases j4 T (E.i+0) 6 [59]
  .simp;refine dY hE Z (m1 J.le) λy s6 c6 _ y6 l6 o6=>?_;simp[aR];refine out (J.trans l6) (one (y:=y) ?_ y6) rfl rfl rfl rfl;simp
  .simp;exact out J (nD (by simp)) rfl rfl rfl rfl
 simp;refine eM W hs (λE c2 _ _ _ _ J Z=>?_) λc2 _=>?_
 .simp;refine mQ W Z λy s6 c6 _ hy l6 o6=>?_;simp;refine fD rfl .aU λc8 _=>?_;simp;exact out (J.trans l6) (nD (by omega)) rfl rfl rfl rfl
 simp;refine eM W hs (λE c2 _ _ _ _ J Z=>?_) λc2 _=>?_
 .simp;refine iE W Z λ_ s3 c3 _ l3 o3=>?_;simp;refine dY hC o3 (m1 (J.trans l3).le) λy s6 c6 _ y6 l6 o6=>?_;simp;refine MH (.refl _ _) λq c7 _=>?_;cases q
  .simp;refine uD W o6 λs7 c8 _ l7 o7 _=>?_;simp;exact jC (.refl _ _) (J.trans (l3.trans (l6.trans l7))) pQ
  .simp;refine iE W o6 λ_ s7 c8 _ l7 o7=>?_;simp;refine fD rfl .ref λc9 _=>?_;simp;refine out (J.trans (l3.trans (l6.trans l7))) (one (y:=y) ?_ y6) rfl rfl rfl rfl;simp
 simp;refine eM W hs (λE c2 _ _ _ _ J Z=>?_) λc2 _=>?_
 .simp;refine dY hE Z (m1 J.le) λy s6 c6 _ y6 l6 o6=>?_;simp;refine fD rfl .ref λc8 _=>?_;simp;refine out (J.trans l6) (one (y:=y) ?_ y6) rfl rfl rfl rfl;simp
 simp;refine eM W hs (λE c2 _ _ _ _ J Z=>?_) λc2 _=>?_
 .simp;refine dY hE Z (m1 J.le) λy s6 c6 _ y6 l6 o6=>?_;simp;refine fD rfl .ref λc8 _=>?_;simp;refine out (J.trans l6) (one (y:=y) ?_ y6) rfl rfl rfl rfl;simp
 simp
 refine lN (k:=0) W (by omega) (by omega) λc2 _=>?_;cases h3:j4 T (s.i+0) 2 []
 case false=>
  simp;refine eM W hs (λE c2 _ _ _ _ J Z=>?_) λc2 _=>?_
  .have h20:=Z.1;simp;refine lN (k:=0) W (by omega) (by omega) λc3 _=>?_;cases h7:j4 T (E.i+0) 5 []
   .simp;refine uD W Z λs7 c8 _ l7 o7 _=>?_;simp;exact jC (.refl _ _) (J.trans l7) pQ
   .have hi:E.i<T.aG.length:=vR h7;obtain⟨t,ht⟩:∃t,T.aG[E.i]?=some t:=⟨_,bC hi⟩
    have htx:=(W.ok t (bA ht)).1;have w1:=wr E.i (by omega);have w2:=wr2 E.i (by omega);simp[w1,w2,aL ht,aR,-Int.natCast_add];refine fD rfl .aU λc7 _=>?_;simp;exact out (s1:=⟨E.i+1,E.b⟩) (J.trans (BD Z hi)) (nD (by omega)) rfl rfl rfl rfl
  simp;refine dY hE hs hk λy s6 c6 _ y6 l6 o6=>?_;simp;refine fD rfl .ref λc8 _=>?_;simp;refine out l6 (one (y:=y) ?_ y6) rfl rfl rfl rfl;simp
 simp;refine lN (k:=1) W (by omega) (by omega) λc2 _=>?_;cases h4:j4 T (s.i+1) 6 [61]
 case false=>
  simp;refine eM W hs (λE c2 _ _ _ _ J Z=>?_) λc2 _=>?_
  .have h20:=Z.1;simp;refine lN (k:=0) W (by omega) (by omega) λc3 _=>?_;cases h7:j4 T (E.i+0) 5 []
   .simp;refine uD W Z λs7 c8 _ l7 o7 _=>?_;simp;exact jC (.refl _ _) (J.trans l7) pQ
   .have hi:E.i<T.aG.length:=vR h7;obtain⟨t,ht⟩:∃t,T.aG[E.i]?=some t:=⟨_,bC hi⟩
    have htx:=(W.ok t (bA ht)).1;have w1:=wr E.i (by omega);have w2:=wr2 E.i (by omega);simp[w1,w2,aL ht,aR,-Int.natCast_add];refine fD rfl .aU λc7 _=>?_;simp;exact out (s1:=⟨E.i+1,E.b⟩) (J.trans (BD Z hi)) (nD (by omega)) rfl rfl rfl rfl
  simp;refine dY hE hs hk λy s6 c6 _ y6 l6 o6=>?_;simp;refine fD rfl .ref λc8 _=>?_;simp;refine out l6 (one (y:=y) ?_ y6) rfl rfl rfl rfl;simp
 simp;refine lN (k:=2) W (by omega) (by omega) λc2 _=>?_;cases h5:j4 T (s.i+2) 3 [121,105,101,108,100]
 case false=>
  simp;refine eM W hs (λE c2 _ _ _ _ J Z=>?_) λc2 _=>?_
  .have h20:=Z.1;simp;refine lN (k:=0) W (by omega) (by omega) λc3 _=>?_;cases h7:j4 T (E.i+0) 5 []
   .simp;refine uD W Z λs7 c8 _ l7 o7 _=>?_;simp;exact jC (.refl _ _) (J.trans l7) pQ
   .have hi:E.i<T.aG.length:=vR h7;obtain⟨t,ht⟩:∃t,T.aG[E.i]?=some t:=⟨_,bC hi⟩
    have htx:=(W.ok t (bA ht)).1;have w1:=wr E.i (by omega);have w2:=wr2 E.i (by omega);simp[w1,w2,aL ht,aR,-Int.natCast_add];refine fD rfl .aU λc7 _=>?_;simp;exact out (s1:=⟨E.i+1,E.b⟩) (J.trans (BD Z hi)) (nD (by omega)) rfl rfl rfl rfl
  simp;refine dY hE hs hk λy s6 c6 _ y6 l6 o6=>?_;simp;refine fD rfl .ref λc8 _=>?_;simp;refine out l6 (one (y:=y) ?_ y6) rfl rfl rfl rfl;simp
 simp;refine dY (AI (k:=k) W) hs hk λv E c3 _ v2 J Z=>?_;have h20:=Z.1;have W:IntKind.i64.wrap ((E.i:Int)+2)=((E.i+2:Nat):Int):=by rw[wrap64 (by omega) (by omega)];omega
 simp[W,-Int.natCast_add];refine bZ (DS _ _) .int λW _=>?_;have W:min (T.aG.length:Int) ((E.i+2:Nat):Int)=((min T.aG.length (E.i+2):Nat):Int):=by omega
 have l3:Le T.aG.length E ⟨min T.aG.length (E.i+2),E.b⟩:=⟨by show E.i<=min _ _;omega,⟨by show min _ _<=_;omega,λh=>by have h2:0<=E.b:=h;have:=Z.2 h2;show min _ _ = _;omega⟩,id⟩
 rw[W];simp[aR];refine dY (s:=⟨min T.aG.length (E.i+2),E.b⟩) hE l3.ok (m1 (J.GS l3).le) λy s6 c6 _ y6 l6 o6=>?_;simp;refine fD rfl .ref λc8 _=>?_;simp;refine out (J.trans (l3.lt_trans l6)) (iC (aN:=[v.enc,y.enc]) (L:=[v,y]) ?_ rfl (.cons (.enc v2) (.cons (.enc y6) .nil)) (by simp) (by simp)) rfl rfl rfl rfl;simp
def at_b {K:aD} {H:aC} {s:PS} {k:Nat} {J:Int} {E:aA} (hT:iG T e) (hi:s.i<=5000) (hk:k<=5000) (Z:∀q W,c<=W->K (.bool q) (PO T e tp s::H) W):
  bO aE 181 [.ptr 0 tp 4 0 0,.I k,.I J,.str E] (PO T e tp s::H) c K:=lN hT hi hk λW E=>Z _ W E
def w2_:IntKind.i64.wrap 2=2:=by decide
def w3_:IntKind.i64.wrap 3=3:=by decide
set_option maxHeartbeats 1000000 in
def member_l (hT:iG T e) (hP:dF T e k 257 []) (hB:dF T e k 184 []):dF T e k 214 []:=by
 intro tp s hs hk c;have hn:=hT.n;refine cN F214 λ_ _=>?_;unfold F214;have m1:∀{s':PS},Le T.aG.length s s'->s'.mu T.aG.length<=k:=λl=>cL l.mu hk;have hc3:cU 20000 (.mk 3 0 [] .nil):=.mk (by simp) (by simp) (λe he=>by simp at he);have he3:aQ.enc (.mk 3 0 [] .nil)=[.I 3,.I 0,.str [],.aU]:=aQ.oJ _ _ _ _
 have fin:∀{s5:PS} {L:aF aQ} {y:aQ} {t1 j c9:Nat} {X:aC} {m:Nat} {k n:Int} {nm:aA},nm.length<=4000->(∀e,e∈L->cU 20000 e)->L.length<=12000->cU 20000 y->Lt T.aG.length s s5->(⟨false,t1,4,List.map aQ.enc L++[y.enc]⟩:aH)∈X->m=L.length+1->
   pU (λr O (_:Nat)=>∃s',O=[PO T e tp s']/\Le T.aG.length s s'/\Av [] r/\vX T.aG.length s r s') (.agg [.I k,.I n,.str nm,.ref j t1 4 m]) (PO T e tp s5::X) c9:=λ{s5 L y t1 j c9 X m k n nm} hnm hL hlen hy l5 ho hm=>
  fY (iC (L:=L++[y]) ho (by simp[hm]) ((iN.rK hL).append (.cons (.enc hy) .nil)) (by omega) (by simp;omega)) l5
 simp[aR];refine J5 hT hs λq s1 c1 _ l1 o1=>?_;have h10:=o1.1;cases q
 all_goals
  simp[M6];refine lN (k:=0) hT (by omega) (by omega) λc2 _=>?_;generalize j4 T (s1.i+0) 2 []=q2;cases q2
  case true=>
   simp;refine mQ hT o1 λnm s2 c3 _ hnm l2 o2=>?_;simp[T7,T6,fT];refine eM hT o2 (λs3 c4 _ _ _ _ l3 o3=>?_) λc4 _=>?_
   .have h30:=o3.1;simp
    repeat' first
     |(refine at_b (k:=0) hT (by omega) (by omega) λq3 c5 _=>?_;cases q3<;>simp)
     |(with_reducible refine uD hT o3 λs4 c6 _ l4 o4 _=>?_;simp;exact jC (.refl _ _) (l1.lt_trans (l2.trans (l3.trans l4))) pQ)
     |(with_reducible refine dY hP o3 (m1 (l1.lt_trans (l2.trans l3)).le) λy s4 c6 _ y4 l4 o4=>?_
       simp[fT];refine iE hT o4 λ_ s5 c7 _ l5 o5=>?_;simp;exact fY (iC (aN:=[y.enc]) (L:=[y]) (by simp) rfl (.cons (.enc y4) .nil) (by omega) (by simp)) (l1.lt_trans (l2.trans (l3.trans (l4.trans l5)))))
   .simp;refine iE hT o2 λ_ s5 c7 _ l5 o5=>?_;simp;exact fY (iC (L:=[.mk 3 0 [] .nil]) (aN:=[aQ.enc (.mk 3 0 [] .nil)]) (by rw[he3];simp) rfl (.cons (.enc hc3) .nil) (by omega) (by simp)) (l1.lt_trans (l2.trans l5))
  simp[T7];refine J5 hT o1 λq4 s2 c3 _ l2 o2=>?_;cases q4
  all_goals
   simp[w2_,w3_,M6];refine iE hT o2 λ_ s3 c4 _ l3 o3=>?_;simp;refine mQ hT o3 λnm s4 c5 _ hnm l4 o4=>?_;simp[T6];have l14:=l1.lt_trans (l2.lt_trans (l3.trans l4));refine B8 (pre:=[.I 24]) (R:=[_,_]) (O:=[]) (aN:=[]) (HV (k:=k) hT) o4 (m1 l14.le) .nil (by simp) λr s5 L O2 c6 _ kl l5 o5 hL hn3=>?_;have hlen1:L.length<=6000:=by have:=o5.1;omega
   obtain⟨q1,q2,q3,q4⟩:=rI (n:=L.length) (by omega);have kl':KL 3 r O2 (List.map aQ.enc L):=by simpa using kl
   generalize hR:List.map aQ.enc L=rw_ at kl';have hrl:rw_.length=L.length:=by rw[<-hR];simp
   cases kl' with
   |nil=>
    have hM:L=[]:=by simpa using hR
    subst hM;simp[fT];refine dY hB o5 (m1 (l14.trans l5).le) λy s6 c7 _ y6 l6 o6=>?_;simp[q3,q4,fT];refine fin (L:=[]) (y:=y) hnm (by simp) (by simp) y6 (l14.trans (l5.trans l6)) ?_ rfl;simp
   |mk h hA=>
    subst h;simp[fT];refine dY hB o5 (m1 (l14.trans l5).le) λy s6 c7 _ y6 l6 o6=>?_;simp[hrl,q1,q2,fT];refine fin (L:=L) (y:=y) hnm hL (by omega) y6 (l14.trans (l5.trans l6)) ?_ rfl;rw[hR];simp
def class_l {kd:Int} (hT:iG T e) (hM:dF T e k 214 []):dF T e k 185 [.I kd]:=by
 intro tp s hs hk c;have hn:=hT.n;refine cN F185 λ_ _=>?_;unfold F185;dsimp only;have m1:∀{s':PS},Le T.aG.length s s'->s'.mu T.aG.length<=k:=λl=>cL l.mu hk;have he:∀(k:Int) (y:aA),([.I k,.I 0,.str y,.aU]:aF AV)=aQ.enc (.mk k 0 y .nil):=λk y=>(aQ.oJ k 0 y .nil).symm;have hok:∀(k:Int) {y:aA},y.length<=4000->cU 20000 (.mk k 0 y .nil):=λk y hy=>.mk (by omega) (by simp) (λe he=>by simp at he)
 rw[dT,dT,dT];refine gK (λe' H' c'=>∃s2 t1 t2 r1 nm X a aN L,BX T e tp s s2 t1 t2 r1 kd nm X [] a aN L 1 H' c'/\nm.length<=4000/\e' 0=.ptr 0 tp 4 0 0/\e' 4=.ptr 1 t1 4 0 0/\e' 5=.ptr 2 t2 4 0 0) ?_ ?_;rotate_left
 .intro K hK;simp;refine mQ hT hs λnm s1 c1 h1 hnm l1 o1=>?_;simp;refine fD rfl .aU λc2 h2=>?_;have no:∀{e':Env} {s2:PS} {c':Nat},Lt T.aG.length s1 s2->e' 0=.ptr 0 tp 4 0 0->e' 4=.ptr 1 c 4 0 0->e' 5=.ptr 2 c2 4 0 0->K e' (PO T e tp s2::⟨false,c,4,[[.I 0,.I 0,.str [],.aU]]⟩::⟨false,c2,4,[[.I kd,.I 0,.str nm,.aU]]⟩::[]) c':=λl2 f0 f4 f5=>
   hK _ _ _ ⟨_,c,c2,_,nm,[],.aU,[],[],⟨l2.le.ok,l1.trans l2,.empty,by have:=(l1.trans l2).le.i;simp;omega,rfl,rfl⟩,hnm,f0,f4,f5⟩
  by_cases h50:kd=50
  .simp[h50];subst h50;refine eM hT o1 (λs3 c4 h4 _ _ hi3 l3 o3=>?_) λc4 h4=>?_
   .simp;refine mQ hT o3 λy s4 c5 h5 hy l4 o4=>?_;simp;refine fD rfl .aU λc6 h6=>?_;simp[fT,show 1<=mx by decide];refine iE hT o4 λ_ s5 c7 h7 l5 o5=>?_;simp;refine hK _ _ _ ⟨_,c,c2,_,nm,_,_,_,_,⟨l5.le.ok,l1.trans (l3.trans (l4.trans l5)),(KX.uH (X:=[]) (c:=c2) (c6:=c6+1) .empty (hok 52 hy) (he 52 y) (by omega) [_]).mono (by omega),by have:=(l1.trans (l3.trans (l4.trans l5))).le.i;simp;omega,rfl,rfl⟩,hnm,rfl,rfl,rfl⟩
   .simp;refine iE hT o1 λ_ s5 c7 _ l5 o5=>?_;simp;exact no l5 rfl rfl rfl
  .simp[h50];refine iE hT o1 λ_ s5 c7 _ l5 o5=>?_;simp;exact no l5 rfl rfl rfl
 intro e' H' c' ⟨s1,t1,t2,r1,nm,X,a,aN,L,I,hnm,e0,e4,e5⟩;refine gK (λe' H' c'=>∃s2 X a aN L,BX T e tp s s2 t1 t2 r1 kd nm X [] a aN L 1 H' c'/\e' 0=.ptr 0 tp 4 0 0/\e' 4=.ptr 1 t1 4 0 0/\e' 5=.ptr 2 t2 4 0 0) ?_ ?_;rotate_left
 .intro K hK;refine E6 ?_;refine nE (λm e' H' c'=>∃s2 X a aN L,BX T e tp s s2 t1 t2 r1 kd nm X [] a aN L 1 H' c'/\s2.mu T.aG.length<=m/\e' 0=.ptr 0 tp 4 0 0/\e' 4=.ptr 1 t1 4 0 0/\e' 5=.ptr 2 t2 4 0 0) _ ⟨s1,X,a,aN,L,I,bB _,e0,e4,e5⟩ ?_;clear e0 e4 e5 I;intro m e' H' c' ⟨s2,X,a,aN,L,I,hm,e0,e4,e5⟩ N hN;obtain⟨o2,l2,kx,hlen,hr1,hH⟩:=I;subst hH;have hi2:=o2.1;have hLr:=kx.one;obtain⟨q1,q2,q3,q4⟩:=rI (n:=aN.length) (by split at hlen<;>omega);simp[e0];refine eM hT o2 (λs3 c3 h3 _ hb hi3 l3 o3=>?_) λc3 h3=>?_
  .simp[e0,e5];refine mQ hT o3 λy s4 c4 h4 hy l4 o4=>?_;simp;refine fD rfl .aU λc5 h5=>?_;have back:∀{s6:PS} {a':AV} {rows':aF (aF AV)} {Y':aC} {e5:Env} {c5 c6:Nat},Lt T.aG.length s4 s6->KX Y' [] a' rows' (L++[.mk 53 0 y .nil]) c6->c6<=c5->e5 0=.ptr 0 tp 4 0 0->e5 4=.ptr 1 t1 4 0 0->e5 5=.ptr 2 t2 4 0 0->
     N e5 (PO T e tp s6::⟨false,t1,4,[r1]⟩::⟨false,t2,4,[[.I kd,.I 0,.str nm,a']]⟩::Y') c5:=λ{s6 a' rows' Y' e5 c5 c6} l6 kx' hcc f0 f2 f3=>
    hN (s6.mu T.aG.length) _ _ _ _ (fM ((l3.trans (l4.trans l6)).mu hb) hm) (bY _) ⟨s6,Y',a',rows',L++[.mk 53 0 y .nil],⟨l6.le.ok,l2.trans (l3.trans (l4.trans l6)),kx'.mono hcc,by rw[if_pos hb] at hlen;have:=l4.le.i;have:=l6.le.i;simp;omega,hr1,rfl⟩,bB _,f0,f2,f3⟩
   rcases kx.kids with⟨rfl,rfl⟩|⟨j,t,rfl,hj,htc,hGt⟩
   .simp[e0,e5,q3,q4,fT];refine iE hT o4 λ_ s6 c7 h7 l6 o6=>?_;simp;refine back l6 (kx.uH (c6:=c5+1) (hok 53 hy) (he 53 y) (by omega) [_]) (by omega) ?_ ?_ ?_<;>simp[aK,e0,e4,e5]
   .have hjl:=(bQ.1 hj).1;have gj:∀(l:aC) (K:aH->Prop),aZ (X++l) j K=K ⟨false,t,4,aN⟩:=λl K=>aL (by rw[gY hjl];exact hj) K;have sj:∀(l:aC) (z:aH),(X++l).set j z=X.set j z++l:=λl z=>rX _ _ hjl;simp[e0,e5,gj,sj,q1,q2,fT];refine iE hT o4 λ_ s6 c7 h7 l6 o6=>?_;simp;refine back l6 (KX.addRef (c6:=c5+1) hj hGt kx.sub kx.nb (hok 53 hy) (he 53 y) (by omega) rfl [_]) (by omega) ?_ ?_ ?_<;>simp[aK,e0,e4,e5]
  .simp;refine hK _ _ _ ⟨s2,X,a,aN,L,⟨o2,l2,kx.mono (by omega),hlen,hr1,rfl⟩,?_,?_,?_⟩<;>simp[aK,e0,e4,e5]
 clear e0 e4 e5 I;intro e' H' c' ⟨s1,X,a,aN,L,I,e0,e4,e5⟩;simp;refine nE (λm e' H' c'=>∃s2 X a aN L,BX T e tp s s2 t1 t2 r1 kd nm X [] a aN L 1 H' c'/\s2.mu T.aG.length<=m/\e' 0=.ptr 0 tp 4 0 0/\e' 4=.ptr 1 t1 4 0 0/\e' 5=.ptr 2 t2 4 0 0) _ ⟨s1,X,a,aN,L,I,bB _,e0,e4,e5⟩ ?_;clear e0 e4 e5 I;intro m e' H' c' ⟨s2,X,a,aN,L,I,hm,e0,e4,e5⟩ N hN;obtain⟨o2,l2,kx,hlen,hr1,hH⟩:=I;subst hH;have hi2:=o2.1;have hLr:=kx.one;obtain⟨q1,q2,q3,q4⟩:=rI (n:=aN.length) (by split at hlen<;>omega);have stop:∀{s5:PS} {c5:Nat},Le T.aG.length s2 s5->pU (λr O (_:Nat)=>∃s',O=[PO T e tp s']/\Le T.aG.length s s'/\Av [] r/\vX T.aG.length s r s') (.agg [.I kd,.I 0,.str nm,a])
   (PO T e tp s5::⟨false,t1,4,[[.I kd,.I 0,.str nm,a]]⟩::⟨false,t2,4,[[.I kd,.I 0,.str nm,a]]⟩::X) c5:=λl5=>by
  obtain⟨x,hx⟩:=kx.node (Y:=⟨false,t1,4,[[.I kd,.I 0,.str nm,a]]⟩::⟨false,t2,4,[[.I kd,.I 0,.str nm,a]]⟩::X) (λo ho=>by simp[ho]) (k:=kd) (n:=0) (s:=nm) (by omega) (by split at hlen<;>omega);exact fY hx (l2.GS l5)
 by_cases hb:s2.b<0;rotate_left
 .simp[e0,e4,e5,hb,hr1];exact stop (.refl o2)
 rw[if_pos hb] at hlen;simp[e0,hb];refine eM hT o2 (λs3 c3 _ _ _ _ l3 o3=>?_) λc3 h3=>?_
 .simp[e4,e5,hr1];exact stop l3.le
 simp[e0,e4,e5];refine dY hM o2 (m1 l2.le) λx s4 c5 h5 x4 l4 o4=>?_;have hlen4:(L++[x]).length+s.i<=s4.i+1+if s4.b<0 then 0 else 1:=by
  have:=l4.le.i;by_cases h3:s4.b<0
  .have:=l4.lt h3;rw[if_pos h3];simp;omega
  .rw[if_neg h3];simp;omega
 have back:∀{a':AV} {rows':aF (aF AV)} {Y':aC} {e5:Env} {c5 c6:Nat},KX Y' [] a' rows' (L++[x]) c6->c6<=c5->e5 0=.ptr 0 tp 4 0 0->e5 4=.ptr 1 t1 4 0 0->e5 5=.ptr 2 t2 4 0 0->
   N e5 (PO T e tp s4::⟨false,t1,4,[r1]⟩::⟨false,t2,4,[[.I kd,.I 0,.str nm,a']]⟩::Y') c5:=λ{a' rows' Y' e5 c5 c6} kx' hcc f0 f2 f3=>
  hN (s4.mu T.aG.length) _ _ _ _ (fM (l4.mu hb) hm) (bY _) ⟨s4,Y',a',rows',L++[x],⟨o4,l2.trans l4,kx'.mono hcc,hlen4,hr1,rfl⟩,bB _,f0,f2,f3⟩
 rcases kx.kids with⟨rfl,rfl⟩|⟨j,t,rfl,hj,htc,hGt⟩
 .simp[e5,q3,q4,fT];refine back (kx.uH x4 rfl (by omega) [_]) (by omega) ?_ ?_ ?_<;>simp[aK,e0,e4,e5]
 .have hjl:=(bQ.1 hj).1;have gj:∀(l:aC) (K:aH->Prop),aZ (X++l) j K=K ⟨false,t,4,aN⟩:=λl K=>aL (by rw[gY hjl];exact hj) K;have sj:∀(l:aC) (z:aH),(X++l).set j z=X.set j z++l:=λl z=>rX _ _ hjl;simp[e5,gj,sj,q1,q2,fT];refine back (KX.addRef hj hGt kx.sub kx.nb x4 rfl (by omega) rfl [_]) (by omega) ?_ ?_ ?_<;>simp[aK,e0,e4,e5]
end
set_option maxRecDepth 100000
def cM {α:Type} (L M:aF α) n (K:α->Prop):aZ (L++M) (L.length+n) K=aZ M n K:=by unfold aZ;rw[qV (by omega),FX]
def aaK {α:Type} (L M:aF α) n (z:α):(L++M).set (L.length+n) z=L++M.set n z:=by rw[List.set_append_right _ _ (by omega),FX]
section
variable {T:SL dB} {e:Int} {tp c k:Nat} {s:PS} {K:aD}
def call_kl0 {f} {pre} {R:aC} (hf:xX T e k f pre) (hs:s.ok T.aG.length) (Z:s.mu T.aG.length<=k)
  (kk:∀r E L W J,c<=J->KL (R.length+1) r W (List.map aQ.enc L)->Lt T.aG.length s E->E.ok T.aG.length->(∀x,x∈L->cU 20000 x)->L.length+s.i<=E.i+1->K r (PO T e tp E::(R++W)) J):
  bO aE f (.ptr 0 tp 4 0 0::(pre++[.aU])) (PO T e tp s::R) c K:=by have:=B8 (K:=K) (R:=R) (O:=[]) (aN:=[]) (c:=c) (tp:=tp) hf hs Z .nil (by simp) λr E L W J h1 h2 h3 h4 h5 Z=>kk r E L W J h1 (by simpa using h2) h3 h4 h5 Z;simpa using this
set_option maxHeartbeats 1000000 in
def script_p (hT:iG T e) (J:s.mu T.aG.length<=k) (hs:s.ok T.aG.length) (hS:dF T e k 186 []) (hB:dF T e k 184 []) (hC:∀E,dF T e k 185 [.I E]):
  PC T e tp 152 [] s λr _=>∃x:aQ,r=.agg x.enc/\cU 20000 x:=by
 intro c;have hn:=hT.n;refine cN F152 λ_ _=>?_;unfold F152;have m1:∀{s':PS},Le T.aG.length s s'->s'.mu T.aG.length<=k:=λl=>cL l.mu J;simp;refine fD rfl .aU λZ E=>?_;simp;refine nE (λm J W c'=>∃E t1 t2 r1 X G a aN L,LI T e tp s E t1 t2 r1 56 [] X G a aN L W c'/\E.mu T.aG.length<=m/\J 0=.ptr 0 tp 4 0 0/\J 2=.ptr 1 t1 4 0 0/\J 3=.ptr 2 t2 4 0 0) _
  ⟨s,c,Z,_,[],[],.aU,[],[],⟨hs,.refl hs,.empty,by simp,rfl,rfl⟩,bB _,rfl,rfl,rfl⟩ ?_
 intro m J W c' ⟨E,t1,t2,r1,X,G,a,aN,L,I,hm,Z,e2,W⟩ N hN;obtain⟨o2,l2,kx,J,hr1,hH⟩:=I;subst hH;have hi2:=o2.1;have hLr:=kx.one;obtain⟨q1,q2,q3,q4⟩:=rI (n:=aN.length) (by split at J<;>omega);have stop:∀{c5:Nat},pU (λr O (_:Nat)=>∃s',O=[PO T e tp s']/\Le T.aG.length s s'/\Av [] r/\∃x:aQ,r=.agg x.enc/\cU 20000 x) (.agg [.I 56,.I 0,.str [],a])
   (PO T e tp E::⟨false,t1,4,[[.I 56,.I 0,.str [],a]]⟩::⟨false,t2,4,[[.I 56,.I 0,.str [],a]]⟩::X) c5:=λ{c5} hn _=>by
  obtain⟨x,hx⟩:=kx.node (Y:=⟨false,t1,4,[[.I 56,.I 0,.str [],a]]⟩::⟨false,t2,4,[[.I 56,.I 0,.str [],a]]⟩::X) (λo ho=>by simp[ho]) (k:=56) (n:=0) (s:=[]) (by simp) (by split at J<;>omega);refine⟨_,[PO T e tp E],[PO T e tp E],.agg x.enc,(eX _).cons_cons _,.refl _ _,λo ho=>iI _ ho,λt ht ht'=>?_,hx.v,E,rfl,l2,yZ x,x,rfl,hx.ok⟩;have ht2:t=tp:=by simpa[aV] using ht
  rw[ht2] at ht';have h2:(aV (PO T e tp E::⟨false,t1,4,[[.I 56,.I 0,.str [],a]]⟩::⟨false,t2,4,[[.I 56,.I 0,.str [],a]]⟩::X)).Nodup:=hn;simp only[aV,gJ,qA] at h2;exact h2.1 ht'
 by_cases hb:E.b<0;rotate_left
 .simp[Z,e2,W,hb,hr1];exact stop
 rw[if_pos hb] at J;by_cases hi:E.i<T.aG.length;rotate_left
 .have hi':¬(E.i:Int)<(T.aG.length:Int):=by omega
  simp[Z,e2,W,hb,hr1,hi'];exact stop
 have hi':(E.i:Int)<(T.aG.length:Int):=by omega
 have J:∀{s4:PS} {G':aC} {L':aF aQ} {a':AV} {rows':aF (aF AV)} {Y':aC} {e5:Env} {H5:aC} {c5 c6:Nat},Lt T.aG.length E s4->L'.length<=L.length+1->(s4.b<0\/0<=s4.b)->KX Y' G' a' rows' L' c6->c6<=c5->e5 0=.ptr 0 tp 4 0 0->e5 2=.ptr 1 t1 4 0 0->e5 3=.ptr 2 t2 4 0 0->H5=PO T e tp s4::⟨false,t1,4,[r1]⟩::⟨false,t2,4,[[.I 56,.I 0,.str [],a']]⟩::Y'->
   N e5 H5 c5:=λ{s4 G' L' a' rows' Y' e5 H5 c5 c6} l4 hL _ kx' hcc f0 f2 f3 hH5=>
  hN (s4.mu T.aG.length) _ _ _ _ (fM (l4.mu hb) hm) (bY _) ⟨s4,t1,t2,r1,Y',G',a',rows',L',⟨l4.le.ok,l2.trans l4.le,kx'.mono hcc,by
   have:=l4.le.i;by_cases h3:s4.b<0
   .have:=l4.lt h3;rw[if_pos h3];omega
   .rw[if_neg h3];omega,hr1,hH5⟩,bB _,f0,f2,f3⟩
 have more:∀{f:Nat} {la:aF AV} {c4:Nat} {e4:Env} {KK:aD},dF T e k f la->(∀x s4 c5,c4<=c5->cU 20000 x->Lt T.aG.length E s4->KK (.agg (aQ.enc x)) (PO T e tp s4::⟨false,t1,4,[r1]⟩::⟨false,t2,4,[[.I 56,.I 0,.str [],a]]⟩::X) c5)->
   bO aE f (.ptr 0 tp 4 0 0::la) (PO T e tp E::⟨false,t1,4,[r1]⟩::⟨false,t2,4,[[.I 56,.I 0,.str [],a]]⟩::X) c4 KK:=λhf kk=>
  dY hf o2 (m1 l2) λx s4 c5 h5 x4 l4 o4=>kk x s4 c5 h5 x4 l4
 have sb:∀s4:PS,s4.b<0\/0<=s4.b:=λs4=>by omega
 simp[Z,e2,W,hb,hi'];refine eM hT o2 (λs3 c3 h3 _ _ _ l3 o3=>?_) λc3 h3=>?_
 .simp;refine J l3 (Nat.le_succ _) (sb _) kx (by omega) ?_ ?_ ?_ rfl<;>simp[aK,Z,e2,W]
 simp[Z];refine lN (k:=0) hT (by omega) (by omega) λc4 h4=>?_;cases h7:j4 T (E.i+0) 3 [102,117,110,99,116,105,111,110]
 case true=>
  simp[Z];refine lN (k:=1) hT (by omega) (by omega) λc5 h5=>?_;cases h8:j4 T (E.i+1) 3 []
  case true=>
   have hw:IntKind.i64.wrap ((E.i:Int)+1)=((E.i+1:Nat):Int):=by rw[wrap64 (by omega) (by omega)];omega
   have l3:=BD o2 hi;simp[Z,hw,M6,-Int.natCast_add];refine mQ (s:=⟨E.i+1,E.b⟩) hT l3.le.ok λnm s4 c6 h6 hnm l4 o4=>?_;simp;refine fD rfl .aU λc7 h7=>?_;simp[Z];refine call_kl0 (pre:=[.I 24]) (R:=_::_::(X++[_])) (HV (k:=k) hT) o4 (m1 (l2.trans (l3.trans l4).le)) λr s5 L2 O2 c8 h8 kl l5 o5 hL hn5=>?_;have hlen1:L2.length<=6000:=by have:=o5.1;omega
   obtain⟨u1,u2,u3,u4⟩:=rI (n:=L2.length) (by omega);have hX:∀(l:aC) o,o∈X->o∈X++l:=λl o h=>kC _ h;generalize hR:List.map aQ.enc L2=rw_ at kl;have hrl:rw_.length=L2.length:=by rw[<-hR];simp
   have hnb:iN [] rw_ L2:=hR▸iN.rK hL;have l25:Lt T.aG.length E s5:=l3.trans (l4.trans l5);cases kl with
   |nil=>
    have E:L2=[]:=by simpa using hR
    subst E;simp[Z,fT];refine dY hB o5 (m1 (l2.trans l25.le)) λy s6 c9 h9 y6 l6 o6=>?_;rcases kx.kids with⟨rfl,rfl⟩|⟨j,t,rfl,hj,htc,hGt⟩
    .simp[W,u3,u4,fT,cM];refine J (l25.trans l6) (by simp) (sb _) (KX.HF (t:=c9+1+1+1) (A:=[⟨false,c9+1,4,[y.enc]⟩]) (c':=c9+1+1+1+1) (x:=.mk 49 0 nm (.mk (c9+1) [y])) (aM:=[.I 49,.I 0,.str nm,.ref (X.length+1+1+1+1+1) (c9+1) 4 1]) (j:=X.length+4) kx ?_ ?_ (by omega) (by simp) (by omega) (by omega) ?_ (iC (aN:=[y.enc]) (L:=[y]) (by simp) rfl (.cons (.enc y6) .nil) (by omega) (by simp))) (bB _) ?_ ?_ ?_ rfl
     .exact hX _
     .refine GC.2 ⟨?_,?_⟩
      .simp
      .show c9+1<_;omega
     .simp
     all_goals simp[aK,Z,e2,W]
    .have E:=(bQ.1 hj).1;have gj:∀(l:aC) (K:aH->Prop),aZ (X++l) j K=K ⟨false,t,4,aN⟩:=λl K=>aL (by rw[gY E];exact hj) K;have sj:∀(l:aC) (z:aH),(X++l).set j z=X.set j z++l:=λl z=>rX _ _ E;simp[W,u3,u4,q1,q2,gj,sj,fT,cM];refine J (l25.trans l6) (by simp) (sb _) (KX.snoc (X:=X) (t:=c9+1+1+1) (A:=[⟨false,c9+1,4,[y.enc]⟩]) (c':=c9+1+1+1+1) (x:=.mk 49 0 nm (.mk (c9+1) [y])) (aM:=[.I 49,.I 0,.str nm,.ref (X.length+1+1+1+1+1) (c9+1) 4 1]) hj hGt kx.sub kx.nb ?_ ?_ (by omega) (by simp) (by omega) (by omega) ?_ (iC (aN:=[y.enc]) (L:=[y]) (by simp) rfl (.cons (.enc y6) .nil) (by omega) (by simp)) rfl) (bB _) ?_ ?_ ?_ rfl
     .exact λo ho=>kC _ ho
     .refine GC.2 ⟨?_,?_⟩
      .simp
      .show c9+1<_;omega
     .rw[gY (by simpa using E),eP (by simpa using E)]
     all_goals simp[aK,Z,e2,W]
   |mk h hA=>
    subst h;simp[Z,fT];refine dY hB o5 (m1 (l2.trans l25.le)) λy s6 c9 h9 y6 l6 o6=>?_;have hnb2:iN [] (rw_++[y.enc]) (L2++[y]):=hnb.append (.cons (.enc y6) .nil);rcases kx.kids with⟨rfl,rfl⟩|⟨j,t,rfl,hj,htc,hGt⟩
    .simp[W,hrl,u1,u2,u3,u4,fT,cM];refine J (l25.trans l6) (by simp) (sb _) (KX.HF (t:=c9+1+1+1) (A:=[⟨false,c9+1,4,rw_++[y.enc]⟩]) (c':=c9+1+1+1+1) (x:=.mk 49 0 nm (.mk (c9+1) (L2++[y]))) (aM:=[.I 49,.I 0,.str nm,.ref (X.length+1+1+1+1) (c9+1) 4 (L2.length+1)]) (j:=X.length+4) kx ?_ ?_ (by omega) (by simp) (by omega) (by omega) ?_ (iC (by simp) (by simp[hrl]) (hnb2.mono (by simp)) (by omega) (by simp;omega))) (bB _) ?_ ?_ ?_ rfl
     .exact hX _
     .refine GC.2 ⟨?_,?_⟩
      .simp
      .show c9+1<_;omega
     .simp
     all_goals simp[aK,Z,e2,W]
    .have E:=(bQ.1 hj).1;have gj:∀(l:aC) (K:aH->Prop),aZ (X++l) j K=K ⟨false,t,4,aN⟩:=λl K=>aL (by rw[gY E];exact hj) K;have sj:∀(l:aC) (z:aH),(X++l).set j z=X.set j z++l:=λl z=>rX _ _ E;simp[W,hrl,u1,u2,q1,q2,gj,sj,fT,cM];refine J (l25.trans l6) (by simp) (sb _) (KX.snoc (X:=X) (t:=c9+1+1+1) (A:=[⟨false,c9+1,4,rw_++[y.enc]⟩]) (c':=c9+1+1+1+1) (x:=.mk 49 0 nm (.mk (c9+1) (L2++[y]))) (aM:=[.I 49,.I 0,.str nm,.ref (X.length+1+1+1+1) (c9+1) 4 (L2.length+1)]) hj hGt kx.sub kx.nb ?_ ?_ (by omega) (by simp) (by omega) (by omega) ?_ (iC (by simp) (by simp[hrl]) (hnb2.mono (by simp)) (by omega) (by simp;omega)) rfl) (bB _) ?_ ?_ ?_ rfl
     .exact λo ho=>kC _ ho
     .refine GC.2 ⟨?_,?_⟩
      .simp
      .show c9+1<_;omega
     .rw[gY (by simpa using E),eP (by simpa using E)]
     all_goals simp[aK,Z,e2,W]
  simp[Z];refine eM hT o2 (λs3 c3 h3 _ _ _ l3 o3=>?_) λc3 h3=>?_
  .simp[Z,W];refine dY (hC _) o3 (m1 (l2.trans l3.le)) λx s4 c5 h5 x4 l4 o4=>?_;rcases kx.kids with⟨rfl,rfl⟩|⟨j,t,rfl,hj,htc,hGt⟩
   .simp[W,q3,q4,fT];refine J (l3.trans l4) (by simp) (sb _) (kx.uH x4 rfl (by omega) [_]) (bB _) ?_ ?_ ?_ rfl<;>simp[aK,Z,e2,W]
   .have E:=(bQ.1 hj).1;have gj:∀(l:aC) (K:aH->Prop),aZ (X++l) j K=K ⟨false,t,4,aN⟩:=λl K=>aL (by rw[gY E];exact hj) K;have sj:∀(l:aC) (z:aH),(X++l).set j z=X.set j z++l:=λl z=>rX _ _ E;simp[W,gj,sj,q1,q2,fT];refine J (l3.trans l4) (by simp) (sb _) (KX.addRef hj hGt kx.sub kx.nb x4 rfl (by omega) rfl [_]) (bB _) ?_ ?_ ?_ rfl<;>simp[aK,Z,e2,W]
  simp[Z];refine eM hT o2 (λs3 c3 h3 _ _ _ l3 o3=>?_) λc3 h3=>?_
  .simp[Z,W];refine dY (hC _) o3 (m1 (l2.trans l3.le)) λx s4 c5 h5 x4 l4 o4=>?_;rcases kx.kids with⟨rfl,rfl⟩|⟨j,t,rfl,hj,htc,hGt⟩
   .simp[W,q3,q4,fT];refine J (l3.trans l4) (by simp) (sb _) (kx.uH x4 rfl (by omega) [_]) (bB _) ?_ ?_ ?_ rfl<;>simp[aK,Z,e2,W]
   .have E:=(bQ.1 hj).1;have gj:∀(l:aC) (K:aH->Prop),aZ (X++l) j K=K ⟨false,t,4,aN⟩:=λl K=>aL (by rw[gY E];exact hj) K;have sj:∀(l:aC) (z:aH),(X++l).set j z=X.set j z++l:=λl z=>rX _ _ E;simp[W,gj,sj,q1,q2,fT];refine J (l3.trans l4) (by simp) (sb _) (KX.addRef hj hGt kx.sub kx.nb x4 rfl (by omega) rfl [_]) (bB _) ?_ ?_ ?_ rfl<;>simp[aK,Z,e2,W]
  simp[Z,W];refine dY hS o2 (m1 l2) λx s4 c5 h5 x4 l4 o4=>?_;rcases kx.kids with⟨rfl,rfl⟩|⟨j,t,rfl,hj,htc,hGt⟩
  .simp[W,q3,q4,fT];refine J l4 (by simp) (sb _) (kx.uH x4 rfl (by omega) [_]) (bB _) ?_ ?_ ?_ rfl<;>simp[aK,Z,e2,W]
  .have E:=(bQ.1 hj).1;have gj:∀(l:aC) (K:aH->Prop),aZ (X++l) j K=K ⟨false,t,4,aN⟩:=λl K=>aL (by rw[gY E];exact hj) K;have sj:∀(l:aC) (z:aH),(X++l).set j z=X.set j z++l:=λl z=>rX _ _ E;simp[W,gj,sj,q1,q2,fT];refine J l4 (by simp) (sb _) (KX.addRef hj hGt kx.sub kx.nb x4 rfl (by omega) rfl [_]) (bB _) ?_ ?_ ?_ rfl<;>simp[aK,Z,e2,W]
 simp[Z];refine eM hT o2 (λs3 c3 h3 _ _ _ l3 o3=>?_) λc3 h3=>?_
 .simp[Z,W];refine dY (hC _) o3 (m1 (l2.trans l3.le)) λx s4 c5 h5 x4 l4 o4=>?_;rcases kx.kids with⟨rfl,rfl⟩|⟨j,t,rfl,hj,htc,hGt⟩
  .simp[W,q3,q4,fT];refine J (l3.trans l4) (by simp) (sb _) (kx.uH x4 rfl (by omega) [_]) (bB _) ?_ ?_ ?_ rfl<;>simp[aK,Z,e2,W]
  .have E:=(bQ.1 hj).1;have gj:∀(l:aC) (K:aH->Prop),aZ (X++l) j K=K ⟨false,t,4,aN⟩:=λl K=>aL (by rw[gY E];exact hj) K;have sj:∀(l:aC) (z:aH),(X++l).set j z=X.set j z++l:=λl z=>rX _ _ E;simp[W,gj,sj,q1,q2,fT];refine J (l3.trans l4) (by simp) (sb _) (KX.addRef hj hGt kx.sub kx.nb x4 rfl (by omega) rfl [_]) (bB _) ?_ ?_ ?_ rfl<;>simp[aK,Z,e2,W]
 simp[Z];refine eM hT o2 (λs3 c3 h3 _ _ _ l3 o3=>?_) λc3 h3=>?_
 .simp[Z,W];refine dY (hC _) o3 (m1 (l2.trans l3.le)) λx s4 c5 h5 x4 l4 o4=>?_;rcases kx.kids with⟨rfl,rfl⟩|⟨j,t,rfl,hj,htc,hGt⟩
  .simp[W,q3,q4,fT];refine J (l3.trans l4) (by simp) (sb _) (kx.uH x4 rfl (by omega) [_]) (bB _) ?_ ?_ ?_ rfl<;>simp[aK,Z,e2,W]
  .have E:=(bQ.1 hj).1;have gj:∀(l:aC) (K:aH->Prop),aZ (X++l) j K=K ⟨false,t,4,aN⟩:=λl K=>aL (by rw[gY E];exact hj) K;have sj:∀(l:aC) (z:aH),(X++l).set j z=X.set j z++l:=λl z=>rX _ _ E;simp[W,gj,sj,q1,q2,fT];refine J (l3.trans l4) (by simp) (sb _) (KX.addRef hj hGt kx.sub kx.nb x4 rfl (by omega) rfl [_]) (bB _) ?_ ?_ ?_ rfl<;>simp[aK,Z,e2,W]
 simp[Z,W];refine dY hS o2 (m1 l2) λx s4 c5 h5 x4 l4 o4=>?_;rcases kx.kids with⟨rfl,rfl⟩|⟨j,t,rfl,hj,htc,hGt⟩
 .simp[W,q3,q4,fT];refine J l4 (by simp) (sb _) (kx.uH x4 rfl (by omega) [_]) (bB _) ?_ ?_ ?_ rfl<;>simp[aK,Z,e2,W]
 .have E:=(bQ.1 hj).1;have gj:∀(l:aC) (K:aH->Prop),aZ (X++l) j K=K ⟨false,t,4,aN⟩:=λl K=>aL (by rw[gY E];exact hj) K;have sj:∀(l:aC) (z:aH),(X++l).set j z=X.set j z++l:=λl z=>rX _ _ E;simp[W,gj,sj,q1,q2,fT];refine J l4 (by simp) (sb _) (KX.addRef hj hGt kx.sub kx.nb x4 rfl (by omega) rfl [_]) (bB _) ?_ ?_ ?_ rfl<;>simp[aK,Z,e2,W]
end
structure AllL (T:SL dB) (e:Int) (k:Nat):Prop where
 expr:dF T e k 219 []
 cond:dF T e k 258 []
 coal:dF T e k 288 []
 una:dF T e k 318 []
 bin:∀lv:Int,4<=lv->lv<=11->dF T e k 312 [.int .i64 lv]
 chain:∀b,dF T e k 220 [.bool b]
 prim:dF T e k 257 []
 args:xX T e k 259 []
 aG:dF T e k 287 []
 block:dF T e k 184 []
 iff:dF T e k 215 []
 stmt:dF T e k 186 []
def all_l {T} {e:Int} (W:iG T e):∀k,AllL T e k:=λk=>by
 induction k using Nat.strongRecOn with
 |ind k J=>
  have hA:xX T e k 259 []:=args_l W λE h=>(J E h).expr;have hP:dF T e k 257 []:=primary_l W (λE h=>(J E h).expr) (λE h=>(J E h).aG) (λE h=>(J E h).args) (λE h=>(J E h).block);have hC:∀b,dF T e k 220 [.bool b]:=λb=>chain_l W hP (λE h=>(J E h).expr) (λE h=>(J E h).args);have hU:dF T e k 318 []:=unary_l W (postfix_l (hC true)) λE h=>(J E h).una;have hB:∀Z:Int,4<=Z->Z<=11->dF T e k 312 [.I Z]:=λZ h1 h2=>Z5 W hU (λE h=>(J E h).bin) (11-Z).toNat Z (by omega) h1;have hO:dF T e k 288 []:=coalesce_l W (hB 4 (by decide) (by decide)) λE h=>(J E h).coal;have hD:dF T e k 258 []:=cond_l W hO (λE h=>(J E h).expr) λE h=>(J E h).cond;have Z:dF T e k 219 []:=expr_l W hD λE h=>(J E h).expr;have hL:dF T e k 287 []:=list_l W Z;have hK:dF T e k 184 []:=block_l W λE h=>(J E h).stmt;have hR:dF T e k 216 []:=paren_l W Z;have hI:dF T e k 215 []:=if_l W hR hK λE h=>(J E h).iff;exact⟨Z,hD,hO,hU,hB,hC,hP,hA,hL,hK,hI,stmt_l W Z hK hI hR (foreach_l W Z hK) (hC false)⟩
def scr_s {T:SL dB} {e:Int} (E:iG T e) {tp} {s:PS} (hs:s.ok T.aG.length):PC T e tp 152 [] s λr _=>∃x:aQ,r=.agg x.enc/\cU 20000 x:=
 have A:=all_l E (s.mu T.aG.length)
 script_p E (bB _) hs A.stmt A.block λJ=>class_l E (member_l E A.prim A.block)
set_option maxRecDepth 100000
def aQ.sind {p:aQ->Prop} (h:∀n:aQ,(∀e:aQ,SizeOf.sizeOf e<SizeOf.sizeOf n->p e)->p n):∀n,p n:=λn=>by
 have:∀(m:Nat) (n:aQ),SizeOf.sizeOf n=m->p n:=λm=>by
  induction m using Nat.strongRecOn with
  |ind m E=>intro n J;exact h n λe T=>E _ (J▸T) e rfl
 exact this _ n rfl
def sN {n e:aQ} (h:e∈n.aP.aG):SizeOf.sizeOf e<SizeOf.sizeOf n:=by cases n;exact D2 h
def Nd (r:AV):Prop:=∃y:aQ,r=.agg y.enc/\cU 20000 y
def IJ {P} {H} {c} {K:aD} {f} {J} (T:bM P f J Nd) (k:∀y E,c<=E->cU 20000 y->K (.agg (aQ.enc y)) H E):bO P f J H c K:=
 cV T λr E W ⟨y,T,J⟩=>by subst T;exact⟨yZ y,k y E W J⟩
def X4 {aM} {x} {G} {c} (E:Nb G aM x):cE (λr J (_:Nat)=>J=[]/\Nd r) (.agg aM) G c:=
 ⟨G,[],[],.agg x.enc,eX _,.nil,λo h=>h,by simp[aV],E.v,rfl,x,rfl,E.ok⟩
def copyN_s:∀x:aQ,cU 20000 x->bM aE 154 [.agg x.enc] Nd:=by
 refine aQ.ind λx ih hx c0=>?_;have hl:=hx.l;have hs:=hx.s;refine cO F154 ?_;simp[F154,aR];refine b6 x.aP.aG.length (λi e H c'=>∃(a:AV) (X:aC) (L:aF aQ),L.length=i/\(∀y,y∈L->cU 20000 y)/\((i=0/\a=.aU/\X=[])\/∃(t:Nat) (o:aH),a=.ref 4 t 4 i/\X=[o,⟨false,t,4,L.map aQ.enc⟩])/\e 1=.ptr 0 c0 4 0 0/\e 2=.ptr 1 (c0+1) 4 0 0/\e 3=.ptr 2 (c0+1+1) 4 0 0/\e 4=.I i/\
  H=⟨false,c0,4,[x.enc]⟩::⟨false,c0+1,4,[[.I 0,.I 0,.str [],.aU]]⟩::⟨false,c0+1+1,4,[[.I x.aJ,.I x.bN,.str x.bR,a]]⟩::X) ⟨.aU,[],[],rfl,by simp,.inl ⟨rfl,rfl,rfl⟩,rfl,rfl,rfl,rfl,rfl⟩ ?_
 intro i e H c hi ⟨a,X,L,hL,hok,hX,e1,e2,e3,e4,hH⟩ N hN;subst hH;by_cases h:i<x.aP.aG.length
 .have hlt:(i:Int)<(x.aP.aG.length:Int):=by omega
  obtain⟨y,hy⟩:∃y,x.aP.aG[i]?=some y:=⟨_,bC h⟩
  have hym:=bA hy;obtain⟨q1,q2,q3,q4⟩:=rI (n:=L.length) (by omega);rw[hL] at q1 q2;have hst:=cD (i:=i) (n:=x.aP.aG.length) (by unfold mx;omega) h;have hn:∀z:aQ,cU 20000 z->∀y,y∈L++[z]->cU 20000 y:=λz hz=>IF hok hz;rcases hX with⟨rfl,rfl,rfl⟩|⟨t,o,rfl,rfl⟩
  .have hL0:L=[]:=List.eq_nil_of_length_eq_zero hL;subst hL0;simp[e1,e3,e4,h,aL hy];refine IJ (ih y hym (hx.i y hym)) λz c1 _ hz=>?_;simp[e3,e4,q3,q4,fT];refine hN _ _ _ _ h (bY _) ⟨.ref 4 (c1+1) 4 1,[⟨false,c1,4,[z.enc]⟩,⟨false,c1+1,4,[z.enc]⟩],[z],rfl,by simpa using hz,.inr ⟨c1+1,_,rfl,by simp;rfl⟩,?_,?_,?_,?_,rfl⟩<;>simp[aK,e1,e2,e3];exact hst
  .simp[e1,e3,e4,hlt,aL hy];refine IJ (ih y hym (hx.i y hym)) λz c1 _ hz=>?_;simp[e3,e4,hL,q1,q2,fT];refine hN _ _ (List.take 5 _) _ h (fN 5 _) ⟨.ref 4 (c1+1) 4 (i+1),[o,⟨false,c1+1,4,L.map aQ.enc++[z.enc]⟩],L++[z],by simp[hL],hn z hz,.inr ⟨c1+1,o,rfl,by simp⟩,?_,?_,?_,?_,rfl⟩<;>simp[aK,e1,e2,e3,hst]
 .have hlt:¬(i:Int)<(x.aP.aG.length:Int):=by omega
  simp[e1,e2,e3,e4,hlt];rcases hX with⟨rfl,rfl,rfl⟩|⟨t,o,rfl,rfl⟩
  .exact X4 (nD hs)
  .exact X4 (iC (L:=L) (aN:=L.map aQ.enc) (by simp) (by simp[hL]) (iN.rK hok) hs (by omega))
def SpQ (s:aA) (r:AV):Prop:=∃a b:aA,r=.aX [.str a,.str b]/\a.length<=s.length/\b.length<=s.length
def SH {s:aA} (hs:s.length<=1048576):bM aE 225 [.str s] (SpQ s):=by
 intro E;refine cO F225 ?_;simp[F225];refine b6 s.length (λi e H E=>e 0=.str s/\e 4=.I i/\H=[]) ⟨rfl,rfl,rfl⟩ ?_;intro i e H c E ⟨W,Z,E⟩ N hN;subst E;have J:IntKind.i64.wrap ((i:Int)+1)=((i+1:Nat):Int):=by rw[wrap64 (by omega) (by omega)];omega
 have T:IntKind.i64.wrap ((i:Int)+2)=((i+2:Nat):Int):=by rw[wrap64 (by omega) (by omega)];omega
 by_cases h:i+1<s.length
 .have E:((i+1:Nat):Int)<(s.length:Int):=by omega
  have h2:i+2<=s.length:=by omega
  have h3:i<=i+2:=by omega
  have h4:i<=s.length:=by omega
  simp[W,Z,J,T,E,h2,h3,h4,-Int.natCast_add];by_cases T:List.drop i (List.take (i+2) s)=[58,58]
  .simp[T];exact aS ⟨rfl,_,_,rfl,by simp;omega,by simp⟩
  .simp[T];refine hN _ _ _ _ (by omega) (bY _) ⟨?_,?_,rfl⟩
   .simp[aK,W]
   .simp[aK]
 .have E:¬((i+1:Nat):Int)<(s.length:Int):=by omega
  simp[W,Z,J,E,-Int.natCast_add];exact aS ⟨rfl,_,_,rfl,by simp,by simp⟩
def WQ {l:aA} (h:isName l=true):l.length<=20:=by unfold isName at h;simp at h;omega
def rO (x:aQ):Prop:=x.aJ≠31->x.aJ≠21->x.bR.length<=400
def QQ (x:aQ) (r:AV):Prop:=∃a b:Bool,r=.aX [.bool a,.bool b]/\(a=true->0<=x.bN/\x.bN<=1000000000)/\(b=true->rO x)
def SS {P} {H} {c} {K:aD} {f} {s:aA} {J} (T:bM P f J (SpQ s)) (k:∀a b E,c<=E->a.length<=s.length->b.length<=s.length->K (.aX [.str a,.str b]) H E):bO P f J H c K:=
 cV T λr E T ⟨a,b,J,Z,W⟩=>by subst J;exact⟨hY .str .str,k a b E T Z W⟩
set_option maxHeartbeats 1000000 in
def EK {x:aQ} (E:x.bR.length<=20000):bM aE 188 [.agg x.enc] (QQ x):=by
 intro c0;refine cO F188 ?_;unfold F188;have hmx:x.bR.length<=mx:=by unfold mx;omega
 have W:∀{E hi:Int},0<=E->hi<=1000000000->cT x.bN E hi=true->0<=x.bN/\x.bN<=1000000000:=λh1 J h=>by have:=mN h;omega
 have h0:decide (x.bN=0)=true->0<=x.bN/\x.bN<=1000000000:=λh=>by simp at h;omega
 have Z:decide (x.bR=[])=true->rO x:=λh _ _=>by simp at h;rw[h];simp
 have T:(isName x.bR&&!sO x.bR)=true->rO x:=λh _ _=>by
  simp at h;have:=WQ h.1;omega
 have E:∀{a b:Bool} {H:aC} {c':Nat},(a=true->0<=x.bN/\x.bN<=1000000000)->(b=true->rO x)->cE (λr H' _=>H'=[]/\QQ x r) (.aX [.bool a,.bool b]) H c':=λh1 J=>aS ⟨rfl,_,_,rfl,h1,J⟩;by_cases k1:x.aJ=1
 .simp[k1];refine bZ (fA _ _ _) .bool λ_ _=>?_;simp;exact E (W (by decide) (by decide)) Z
 by_cases k3:x.aJ=3
 .simp[k3];refine bZ (fA _ _ _) .bool λ_ _=>?_;simp;exact E (W (by decide) (by decide)) Z
 by_cases k9:x.aJ=9
 .simp[k9];refine bZ (fA _ _ _) .bool λ_ _=>?_;simp;exact E (W (by decide) (by decide)) Z
 by_cases k10:x.aJ=10
 .simp[k10];refine bZ (fA _ _ _) .bool λ_ _=>?_;simp;exact E (W (by decide) (by decide)) Z
 by_cases k2:x.aJ=2
 .simp[k2];exact E h0 λh _ _=>by simp at h;omega
 by_cases k47:x.aJ=47
 .simp[k47];exact E h0 λh _ _=>by simp at h;omega
 by_cases J:x.aJ=4\/x.aJ=8\/x.aJ=17\/x.aJ=18\/x.aJ=20\/x.aJ=40\/x.aJ=44\/x.aJ=49\/x.aJ=50\/x.aJ=51\/x.aJ=52\/x.aJ=53
 .rcases J with J|J|J|J|J|J|J|J|J|J|J|J
  all_goals
   simp[J];refine bZ (sM hmx) .bool λ_ _=>?_;simp;exact E h0 T
 simp only[not_or] at J;obtain⟨n1,n2,n3,n4,n5,n6,n7,n8,n9,n10,n11,n12⟩:=J;by_cases k22:x.aJ=22
 .simp[k22];refine bZ (sM hmx) .bool λ_ _=>?_;cases J:(isName x.bR&&!sO x.bR)
  .simp;exact E h0 λh _ _=>by simp at h;rw[h];simp
  .simp;exact E h0 λ_=>T J
 by_cases k54:x.aJ=54
 .simp[k54];refine bZ (fA _ _ _) .bool λ_ _=>?_;simp;refine bZ (sM hmx) .bool λ_ _=>?_;simp;exact E (W (by decide) (by decide)) T
 by_cases k55:x.aJ=55
 .simp[k55];refine bZ (fA _ _ _) .bool λ_ _=>?_;simp;refine bZ (sM hmx) .bool λ_ _=>?_;simp;exact E (W (by decide) (by decide)) T
 by_cases W:x.aJ=21
 .have hT:rO x:=λ_ h=>absurd W h;simp[W];refine SS (SH (by omega)) λa b T _ T T=>?_;simp;refine bZ (sM (by unfold mx;omega)) .bool λ_ _=>?_;cases (isName a&&!sO a)
  .simp;by_cases J:a=[115,116,97,116,105,99]
   .simp[J];refine bZ (sM (by unfold mx;omega)) .bool λ_ _=>?_;simp[J];exact E h0 λ_=>hT
   .simp[J];exact E h0 λ_=>hT
  .simp;refine bZ (sM (by unfold mx;omega)) .bool λ_ _=>?_;simp;exact E h0 λ_=>hT
 by_cases T:x.aJ=31
 .have hT:rO x:=λh _=>absurd T h;simp[T];refine b6 x.bR.length (λi e H c'=>∃b:Bool,e 1=.ptr 0 c0 4 0 0/\e 4=.bool (decide (x.bN=0))/\e 5=.bool b/\e 8=.I i/\H=[⟨false,c0,4,[x.enc]⟩]) ⟨_,rfl,rfl,rfl,rfl,rfl⟩ ?_;intro i e H c hi ⟨b,e1,e4,e5,e8,J⟩ N hN;subst J;by_cases h:i<x.bR.length
  .have J:(i:Int)<(x.bR.length:Int):=by omega
   have hst:=cD (i:=i) (n:=x.bR.length) hmx h;cases b
   .simp[e1,e5,e8,J,hst];refine hN _ _ _ _ h (bY _) ⟨false,?_,?_,?_,?_,rfl⟩<;>simp[aK,e1,e4]
   .simp[e1,e5,e8,J];refine hJ (D7 (by omega) (by decide) (by omega)) λq _ _=>?_;simp[e8,hst];refine hN _ _ _ _ h (bY _) ⟨!q,?_,?_,?_,?_,rfl⟩<;>simp[aK,e1,e4]
  .have J:¬(i:Int)<(x.bR.length:Int):=by omega
   simp[e1,e4,e5,e8,J];exact E h0 λ_=>hT
 simp[k1,k3,k9,k10,k2,k47,n1,n2,n3,n4,n5,n6,n7,n8,n9,n10,n11,n12,k22,k54,k55,W,T];exact E h0 Z
set_option maxRecDepth 100000
def fE (k:Int):Prop:=1<=k/\k<=23/\k≠6
def iZ (k:Int):Prop:=31<=k/\k<=48/\k≠44/\k≠45
inductive mH:aQ->Prop where
 |var {x:aQ} (h:x.aJ=4):mH x
 |prop {x:aQ} (h:x.aJ=8):mH x
 |idx {x y:aQ} (h:x.aJ=7) (hy:x.aP.aG[0]?=some y) (t:mH y):mH x
def lR (x:aQ):Prop:=∀e,e∈x.aP.aG->fE e.aJ
def FC (E:Bool) (e:aQ):Prop:=(e.aJ=24\/(E=true/\e.aJ=25))/\0<=e.bN/\e.bN<=1
def Us (E:Bool) (l:aF aQ):Prop:=1<=l.length/\∀(i:Nat) (e:aQ),l[i]?=some e->(i+1<l.length->FC E e)/\(i+1=l.length->e.aJ=48)
structure Sh (x:aQ):Prop where
 n:0<=x.bN/\x.bN<=1000000000
 t:rO x
 aG:x.aJ=5->∀e,e∈x.aP.aG->e.aJ=6
 item:x.aJ=6->(1<=x.aP.aG.length/\x.aP.aG.length<=2)/\lR x
 one:x.aJ=8\/x.aJ=9\/x.aJ=32\/x.aJ=33\/x.aJ=42\/x.aJ=41->x.aP.aG.length=1/\lR x
 two:x.aJ=7\/x.aJ=10\/x.aJ=11\/x.aJ=12\/x.aJ=13\/x.aJ=15\/x.aJ=16->x.aP.aG.length=2/\lR x
 three:x.aJ=14->x.aP.aG.length=3/\lR x
 MG:x.aJ=15\/x.aJ=16\/x.aJ=41->∃y,x.aP.aG[0]?=some y/\mH y
 alias:x.aJ=17->∃y,x.aP.aG=[y]/\y.aJ=4
 args:x.aJ=18\/x.aJ=21\/x.aJ=22->lR x
 inv:x.aJ=19\/x.aJ=20->1<=x.aP.aG.length/\lR x
 dZ:x.aJ=23->Us true x.aP.aG
 CW:x.aJ=49\/x.aJ=55->Us false x.aP.aG
 ret:x.aJ=39->x.aP.aG.length<=1/\lR x
 iff:x.aJ=34\/x.aJ=35->(2<=x.aP.aG.length/\x.aP.aG.length<=3)/\∀(i:Nat) (e:aQ),x.aP.aG[i]?=some e->(i=0->fE e.aJ)/\(0<i->e.aJ=48)
 each:x.aJ=36->(3<=x.aP.aG.length/\x.aP.aG.length<=4)/\∀(i:Nat) (e:aQ),x.aP.aG[i]?=some e->(i+1<x.aP.aG.length->fE e.aJ)/\(i+1=x.aP.aG.length->e.aJ=48)/\(i=1\/i+2=x.aP.aG.length->e.aJ=4)
 try_:x.aJ=43->1<=x.aP.aG.length/\∀(i:Nat) (e:aQ),x.aP.aG[i]?=some e->(i=0->e.aJ=48)/\(0<i->e.aJ=44\/e.aJ=45)
 ZU:x.aJ=44->∃v b,x.aP.aG=[v,b]/\v.aJ=4/\b.aJ=48
 fin:x.aJ=45->∃b,x.aP.aG=[b]/\b.aJ=48
 yield:x.aJ=46->(1<=x.aP.aG.length/\x.aP.aG.length<=2)/\lR x/\(x.aP.aG.length=2->∃y,x.aP.aG[0]?=some y/\y.aJ=4)
 block:x.aJ=48->∀e,e∈x.aP.aG->iZ e.aJ
 field:x.aJ=54->∃y,x.aP.aG=[y]/\1<=y.aJ/\y.aJ<=3
 cls:x.aJ=50\/x.aJ=51->∀e,e∈x.aP.aG->52<=e.aJ/\e.aJ<=55
 scr:x.aJ=56->∀e,e∈x.aP.aG->iZ e.aJ\/(49<=e.aJ/\e.aJ<=51)
inductive V:aQ->Prop where
 |mk {x:aQ} (sh:Sh x) (k:∀e,e∈x.aP.aG->V e):V x
def V.sh {x} (h:V x):Sh x:=by cases h;assumption
def V.k {x:aQ} (h:V x):∀e,e∈x.aP.aG->V e:=by cases h;assumption
def BQ (p:Prop) (r:AV):Prop:=∃b:Bool,r=.bool b/\(b=true->p)
def fR {P} {H} {c} {K:aD} {f} {J} {p} (Z:bM P f J (BQ p)) (T:p->∀E,c<=E->K (.bool true) H E) (W:∀E,c<=E->K (.bool false) H E):bO P f J H c K:=
 cV Z λr E J ⟨b,hb,Z⟩=>by
  subst hb;cases b
  .exact⟨.bool,W E J⟩
  .exact⟨.bool,T (Z rfl) E J⟩
def b8 {p} {H} {c}:cE (λr E (_:Nat)=>E=[]/\BQ p r) (.bool false) H c:=aS ⟨rfl,false,rfl,λh=>by cases h⟩
def jQ {p} {H} {c} (h:p):cE (λr E (_:Nat)=>E=[]/\BQ p r) (.bool true) H c:=aS ⟨rfl,true,rfl,λ_=>h⟩
def EJ {p} {H} {c} {b} (h:b=true->p):cE (λr E (_:Nat)=>E=[]/\BQ p r) (.bool b) H c:=aS ⟨rfl,b,rfl,h⟩
def vG {α:Type} {l:aF α} (h:l.length=1):∃a,l=[a]:=by
 match l,h with
 |[a],_=>exact⟨a,rfl⟩
def DV {α:Type} {l:aF α} (h:l.length=2):∃a b,l=[a,b]:=by
 match l,h with
 |[a,b],_=>exact⟨a,b,rfl⟩
def NU {α:Type} {l:aF α} (h:l.length=3):∃a b d,l=[a,b,d]:=by
 match l,h with
 |[a,b,d],_=>exact⟨a,b,d,rfl⟩
def R8:∀x:aQ,bM aE 221 [.agg x.enc] (BQ (mH x)):=by
 intro x E;refine cO KW ?_;simp[KW];refine nE (λm e H J=>∃y:aQ,SizeOf.sizeOf y<=m/\(mH y->mH x)/\e 1=.ptr 0 E 4 0 0/\H=[⟨false,E,4,[y.enc]⟩]) _ ⟨x,bB _,id,rfl,rfl⟩ ?_;intro m e H c ⟨y,hy,E,T,J⟩ N hN;subst J;by_cases W:y.aJ=7
 .by_cases h2:(y.aP.aG.length:Int)=2
  .obtain⟨z,Z⟩:∃z,y.aP.aG[0]?=some z:=⟨_,bC (by omega)⟩
   have J:y.aP.aG.length=2:=by omega
   simp[T,W,J,aL Z];exact hN (SizeOf.sizeOf z) _ _ _ _ (fM (sN (bA Z)) hy) (bY _) ⟨z,bB _,λt=>E (.idx W Z t),T,rfl⟩
  .have J:¬y.aP.aG.length=2:=by omega
   simp[T,W,h2];exact b8
 .by_cases J:y.aJ=4
  .simp[T,J];exact jQ (E (.var J))
  .simp[T,W,J];exact EJ λh=>E (.prop (by simpa using h))
def JN {L:SL aQ} (hE:∀e,e∈L.aG->bM aE 226 [.agg e.enc] (BQ (V e/\fE e.aJ))) (hl:L.aG.length<=20000):bM aE 227 [L.av 4 aQ.enc,.I 0] (BQ (∀e,e∈L.aG->V e/\fE e.aJ)):=by
 intro c0;refine cO F227 ?_;simp[F227];refine b6 L.aG.length (λi e H c'=>(∀(j:Nat) (y:aQ),j<i->L.aG[j]?=some y->V y/\fE y.aJ)/\e 0=L.av 4 aQ.enc/\e 5=.I i/\H=[]) ⟨λj y h=>by omega,rfl,rfl,rfl⟩ ?_;intro i e H c hi ⟨hall,e0,e5,hH⟩ N hN;subst hH;by_cases h:i<L.aG.length
 .have hlt:(i:Int)<(L.aG.length:Int):=by omega
  obtain⟨y,hy⟩:∃y,L.aG[i]?=some y:=⟨_,bC h⟩
  have hst:=cD (i:=i) (n:=L.aG.length) (by unfold mx;omega) h;simp[e0,e5,hlt,aL hy];refine fR (hE y (bA hy)) (λhv c1 _=>?_) λc1 _=>?_
  .simp[e5];refine hN _ _ _ _ h (bY _) ⟨λj z hj hz=>?_,e0,by simp[aK,hst],rfl⟩;rcases iA j i with h1|h1
   .exact hall j z h1 hz
   .have:j=i:=by omega
    subst this;rw[hy] at hz;cases hz;exact hv
  .simp;exact b8
 .have hlt:¬(i:Int)<(L.aG.length:Int):=by omega
  simp[e0,e5,hlt];exact jQ λe he=>by
   obtain⟨j,hj⟩:=lS.1 he;exact hall j e (by have:=(bQ.1 hj).1;omega) hj
def block_s {x:aQ} (hS:∀e,e∈x.aP.aG->bM aE 189 [.agg e.enc] (BQ (V e/\iZ e.aJ))) (hx:cU 20000 x):bM aE 228 [.agg x.enc] (BQ (V x/\x.aJ=48)):=by
 intro c0;have hl:=hx.l;refine cO F228 ?_;unfold F228;by_cases k1:x.aJ=48;rotate_left
 .simp[k1];exact b8
 by_cases k2:x.bN=0;rotate_left
 .simp[k1,k2];exact b8
 by_cases k3:x.bR=[]
 rotate_left
 .simp[k1,k2,k3];exact b8
 simp[k1,k2,k3];refine b6 x.aP.aG.length (λi e H c'=>(∀(j:Nat) (y:aQ),j<i->x.aP.aG[j]?=some y->V y/\iZ y.aJ)/\e 1=.ptr 0 c0 4 0 0/\e 3=.I i/\H=[⟨false,c0,4,[x.enc]⟩]) ⟨λj y h=>by omega,rfl,rfl,rfl⟩ ?_;intro i e H c hi ⟨hall,e1,e3,hH⟩ N hN;subst hH;by_cases h:i<x.aP.aG.length
 .have hlt:(i:Int)<(x.aP.aG.length:Int):=by omega
  obtain⟨y,hy⟩:∃y,x.aP.aG[i]?=some y:=⟨_,bC h⟩
  have hst:=cD (i:=i) (n:=x.aP.aG.length) (by unfold mx;omega) h;simp[e1,e3,hlt,aL hy];refine fR (hS y (bA hy)) (λhv c1 _=>?_) λc1 _=>?_
  .simp[e3];refine hN _ _ _ _ h (bY _) ⟨λj z hj hz=>?_,e1,by simp[aK,hst],rfl⟩;rcases iA j i with h1|h1
   .exact hall j z h1 hz
   .have:j=i:=by omega
    subst this;rw[hy] at hz;cases hz;exact hv
  .simp;exact b8
 .have hlt:¬(i:Int)<(x.aP.aG.length:Int):=by omega
  have ha:∀e,e∈x.aP.aG->V e/\iZ e.aJ:=λe he=>by
   obtain⟨j,hj⟩:=lS.1 he;exact hall j e (by have:=(bQ.1 hj).1;omega) hj
  have hsh:Sh x:=by
   have hn:0<=x.bN/\x.bN<=1000000000:=by omega
   have ht:rO x:=λ_ _=>by rw[k3];simp
   have hb:x.aJ=48->∀e,e∈x.aP.aG->iZ e.aJ:=λ_ e he=>(ha e he).2;constructor<;>first|assumption|(intro hh;exfalso;omega)
  simp[e1,e3,hlt];exact jQ (V.mk hsh λe he=>(ha e he).1)
set_option maxHeartbeats 1000000 in
def MB {L:SL aQ} {use} (hB:∀e,e∈L.aG->bM aE 228 [.agg e.enc] (BQ (V e/\e.aJ=48))) (hN':∀e,e∈L.aG->cU 20000 e) (hl:L.aG.length<=20000):
  bM aE 190 [L.av 4 aQ.enc,.bool use] (BQ (Us use L.aG/\∀e,e∈L.aG->V e)):=by
 intro c0;refine cO F190 ?_;unfold F190;have hw:IntKind.i64.wrap ((L.aG.length:Int)-1)=(L.aG.length:Int)-1:=wrap64 (by omega) (by omega);simp[hw];refine b6 L.aG.length (λi e H c'=>∃q:Bool,(∀(j:Nat) (y:aQ),j<i->L.aG[j]?=some y->V y/\FC use y)/\(i:Int)<=(L.aG.length:Int)/\(0<i->i<L.aG.length)/\e 0=L.av 4 aQ.enc/\e 1=.bool use/\e 5=.bool q/\e 6=.I ((L.aG.length:Int)-1)/\e 7=.I i/\H=[]) ⟨false,λj y h=>by omega,by omega,by omega,rfl,rfl,rfl,rfl,rfl,rfl⟩ ?_;intro i e H c hi ⟨q,hall,hi2,hi3,e0,e1,e5,e6,e7,hH⟩ N hN;subst hH;by_cases h:i+1<L.aG.length
 .have hlt:(i:Int)<(L.aG.length:Int)-1:=by omega
  obtain⟨y,hy⟩:∃y,L.aG[i]?=some y:=⟨_,bC (by omega)⟩
  have hst:=cD (i:=i) (n:=L.aG.length) (by unfold mx;omega) (by omega);have hyt:y.bR.length<=mx:=by have:=(hN' y (bA hy)).s;unfold mx;omega
  have back:∀{q:Bool} {e':Env} {H':aC} {c':Nat},V y/\FC use y->e' 0=L.av 4 aQ.enc->e' 1=.bool use->e' 5=.bool q->e' 6=.I ((L.aG.length:Int)-1)->e' 7=.I ((i+1:Nat):Int)->N e' H' c':=λhv f0 f1 f5 f6 f7=>
   hN _ _ [] _ (by omega) (eX _) ⟨_,λj z hj hz=>by
    rcases iA j i with h1|h1
    .exact hall j z h1 hz
    .have:j=i:=by omega
     subst this;rw[hy] at hz;cases hz;exact hv,by omega,by omega,f0,f1,f5,f6,f7,rfl⟩
  have leaf:∀(hk0:y.aJ=24\/(use=true/\y.aJ=25)),cT y.bN 0 1=true->(isName y.bR&&!sO y.bR)=true->y.aP.aG=[]->V y/\FC use y:=λhk0 h1 h2 h3=>by
   have hk:y.aJ=24\/y.aJ=25:=by
    rcases hk0 with h|h
    .exact .inl h
    .exact .inr h.2
   have h01:=mN h1;have hn:0<=y.bN/\y.bN<=1000000000:=by have:=mN h1;omega
   have ht:rO y:=λ_ _=>by simp at h2;have:=WQ h2.1;omega
   have hsh:Sh y:=by constructor<;>first|assumption|(intro hh;exfalso;omega)
   exact⟨.mk hsh λe he=>by rw[h3] at he;simp at he,hk0,h01⟩
  by_cases k25:y.aJ=25
  .cases use
   .simp[e0,e1,e6,e7,hlt,aL hy,k25];exact b8
   .simp[e0,e1,e6,e7,hlt,aL hy,k25];refine bZ (fA _ _ _) .bool λ_ _=>?_;cases h1:cT y.bN 0 1
    .simp;exact b8
    simp;refine bZ (sM hyt) .bool λ_ _=>?_;cases h2:(isName y.bR&&!sO y.bR)
    .simp;exact b8
    by_cases h3:y.aP.aG=[]
    .simp[h3,e7,hst];refine back (q:=true) (leaf (.inr ⟨rfl,k25⟩) h1 h2 h3) ?_ ?_ ?_ ?_ ?_<;>simp[aK,e0,e1,e6]
    .have:0<y.aP.aG.length:=r7.2 h3;simp[this];exact b8
  by_cases k24:y.aJ=24
  .cases q
   .simp[e0,e5,e6,e7,hlt,aL hy,k24];refine bZ (fA _ _ _) .bool λ_ _=>?_;cases h1:cT y.bN 0 1
    .simp;exact b8
    simp;refine bZ (sM hyt) .bool λ_ _=>?_;cases h2:(isName y.bR&&!sO y.bR)
    .simp;exact b8
    by_cases h3:y.aP.aG=[]
    .simp[h3,e7,hst];refine back (q:=false) (leaf (.inl k24) h1 h2 h3) ?_ ?_ ?_ ?_ ?_<;>simp[aK,e0,e1,e5,e6]
    .have:0<y.aP.aG.length:=r7.2 h3;simp[this];exact b8
   .simp[e0,e5,e6,e7,hlt,aL hy,k24];exact b8
  simp[e0,e6,e7,hlt,aL hy,k24,k25];exact b8
 .have hlt:¬(i:Int)<(L.aG.length:Int)-1:=by omega
  by_cases h0:L.aG.length=0
  .have hge:¬(1:Int)<=(L.aG.length:Int):=by omega
   simp[e6,e7,hlt,hge];exact b8
  .have hge:(1:Int)<=(L.aG.length:Int):=by omega
   obtain⟨y,hy⟩:∃y,L.aG[L.aG.length-1]?=some y:=⟨_,bC (by omega)⟩
   have htn:((L.aG.length:Int)-1).toNat=L.aG.length-1:=by omega
   simp[e0,e6,e7,hlt,hge,htn,aL hy];refine fR (hB y (bA hy)) (λhv c1 _=>?_) λc1 _=>?_
   .simp;have key:∀(j:Nat) (z:aQ),L.aG[j]?=some z->(j+1<L.aG.length->FC use z)/\(j+1=L.aG.length->z.aJ=48)/\V z:=λj z hz=>by
     have hj:=(bQ.1 hz).1;by_cases hji:j+1=L.aG.length
     .have:j=L.aG.length-1:=by omega
      rw[this,hy] at hz;cases hz;exact⟨λh=>by omega,λ_=>hv.2,hv.1⟩
     .have hh:=hall j z (by omega) hz;exact⟨λ_=>hh.2,λh=>absurd h hji,hh.1⟩
    exact jQ ⟨⟨by omega,λj z hz=>⟨(key j z hz).1,(key j z hz).2.1⟩⟩,λe he=>by
     obtain⟨j,hj⟩:=lS.1 he;exact(key j e hj).2.2⟩
   .simp;exact b8
set_option maxRecDepth 100000
def VE (x:aQ):Prop:=V x/\fE x.aJ
def VB (x:aQ):Prop:=V x/\x.aJ=48
def VS (x:aQ):Prop:=V x/\iZ x.aJ
structure Ck (x:aQ):Prop where
 e:bM aE 226 [.agg x.enc] (BQ (VE x))
 b:bM aE 228 [.agg x.enc] (BQ (VB x))
 s:bM aE 189 [.agg x.enc] (BQ (VS x))
def EF {P} {H} {c} {K:aD} {f} {x:aQ} {J} (T:bM P f J (QQ x)) (k:∀a b E,c<=E->(a=true->0<=x.bN/\x.bN<=1000000000)->(b=true->rO x)->K (.aX [.bool a,.bool b]) H E):bO P f J H c K:=
 cV T λr E T ⟨a,b,J,Z,W⟩=>by subst J;exact⟨hY .bool .bool,k a b E T Z W⟩
def SL.takeMk (L:SL aQ) n (h:n<=L.aG.length) (h0:0<L.aG.length):∃M:SL aQ,M.aG=L.aG.take n/\∀(K:AV->Prop),K (M.av 4 aQ.enc)->qX 4 (L.av 4 aQ.enc) none (some (.I n)) K:=by
 cases L with
 |nil=>simp at h0
 |mk t l=>exact⟨.mk t (l.take n),rfl,λK k=>by
   have E:n<=l.length:=h;simp only[SL.av,slcSliceW_slc,bndW_none,bndW_some,nR];refine⟨trivial,by omega,by omega,by omega,?_⟩;simpa[SL.av,zV] using k⟩
set_option maxHeartbeats 2000000 in
def expr_s {x:aQ} (hx:cU 20000 x) (ih:∀y:aQ,SizeOf.sizeOf y<SizeOf.sizeOf x->cU 20000 y->Ck y):bM aE 226 [.agg x.enc] (BQ (VE x)):=by
 intro c0;have hl:=hx.l;refine cO F226 ?_;unfold F226;have kc:∀e,e∈x.aP.aG->Ck e:=λe T=>ih e (sN T) (hx.i e T);have eachK:bM aE 227 [x.aP.av 4 aQ.enc,.I 0] (BQ (∀e,e∈x.aP.aG->V e/\fE e.aJ)):=JN (λe T=>(kc e T).e) hl;simp;refine EF (EK hx.s) λa b c1 _ Z E=>?_;cases a
 .simp;exact b8
 cases b
 .simp;exact b8
 have J:=Z rfl;have J:=E rfl;clear Z E;have isk:∀{k:Int},x.aJ=k->1<=k->k<=23->k≠6->fE x.aJ:=λh h1 h2 E=>by unfold fE;omega
 have W:Sh x->(∀e,e∈x.aP.aG->V e)->fE x.aJ->VE x:=λh1 h2 E=>⟨.mk h1 h2,E⟩
 by_cases J:x.aJ=1\/x.aJ=2\/x.aJ=3\/x.aJ=4
 .have hE:fE x.aJ:=by unfold fE;omega
  have E:decide (x.aP.aG=[])=true->VE x:=λh=>by
   have h':x.aP.aG=[]:=by simpa using h
   refine W (by constructor<;>first|assumption|(intro hh;exfalso;omega)) (λe T=>by rw[h'] at T;simp at T) hE
  rcases J with k|k|k|k
  all_goals
   simp[k];exact EJ (by simpa using E)
 simp only[not_or] at J;obtain⟨k1,k2,k3,k4⟩:=J;by_cases k5:x.aJ=5
 .have hE:fE x.aJ:=isk k5 (by decide) (by decide) (by decide);simp[k5];refine b6 x.aP.aG.length (λi e H E=>(∀(j:Nat) (y:aQ),j<i->x.aP.aG[j]?=some y->V y/\y.aJ=6)/\e 1=.ptr 0 c0 4 0 0/\e 5=.I x.aP.aG.length/\e 6=.I i/\H=[⟨false,c0,4,[x.enc]⟩]) ⟨λj y h=>by omega,rfl,rfl,rfl,rfl⟩ ?_;intro i e H c E ⟨J,e1,e5,e6,E⟩ N hN;subst E;by_cases h:i<x.aP.aG.length
  .have E:(i:Int)<(x.aP.aG.length:Int):=by omega
   obtain⟨y,hy⟩:∃y,x.aP.aG[i]?=some y:=⟨_,bC h⟩
   have hym:=bA hy;have hst:=cD (i:=i) (n:=x.aP.aG.length) (by unfold mx;omega) h;have hyo:=hx.i y hym;by_cases y6:y.aJ=6;rotate_left
   .simp[e1,e5,e6,E,aL hy,y6];exact b8
   by_cases y0:y.bN=0;rotate_left
   .simp[e1,e5,e6,E,aL hy,y6,y0];exact b8
   by_cases yt:y.bR=[]
   rotate_left
   .simp[e1,e5,e6,E,aL hy,y6,y0,yt];exact b8
   simp[e1,e5,e6,E,aL hy,y6,y0,yt];refine bZ (fA _ _ _) .bool λ_ _=>?_;cases hq:cT (y.aP.aG.length:Int) 1 2
   .simp;exact b8
   have hq':=mN hq;simp;refine fR (JN (L:=y.aP) (λe T=>(ih e (Nat.lt_trans (sN T) (sN hym)) (hyo.i e T)).e) hyo.l) (λhv c1 _=>?_) λc1 _=>?_
   .simp[e6,hst];refine hN _ _ (List.take 1 _) _ h (fN 1 _) ⟨λj z hj hz=>?_,?_,?_,?_,rfl⟩
    .rcases iA j i with h1|h1
     .exact J j z h1 hz
     .have:j=i:=by omega
      subst this;rw[hy] at hz;cases hz;refine⟨.mk ?_ λe T=>(hv e T).1,y6⟩;have hn':0<=y.bN/\y.bN<=1000000000:=by omega
      have ht':rO y:=λ_ _=>by rw[yt];simp
      have hi':y.aJ=6->(1<=y.aP.aG.length/\y.aP.aG.length<=2)/\lR y:=λ_=>⟨by omega,λe T=>(hv e T).2⟩
      constructor<;>first|assumption|(intro hh;exfalso;omega)
    all_goals simp[aK,e1,e5]
   .simp;exact b8
  .have E:¬(i:Int)<(x.aP.aG.length:Int):=by omega
   have Z:∀e,e∈x.aP.aG->V e/\e.aJ=6:=λe T=>by
    obtain⟨j,hj⟩:=lS.1 T;exact J j e (by have:=(bQ.1 hj).1;omega) hj
   have J:x.aJ=5->∀e,e∈x.aP.aG->e.aJ=6:=λ_ e T=>(Z e T).2;simp[e5,e6,E];exact jQ (W (by constructor<;>first|assumption|(intro hh;exfalso;omega)) (λe T=>(Z e T).1) hE)
 by_cases ko:x.aJ=8\/x.aJ=9
 .have hE:fE x.aJ:=by unfold fE;omega
  by_cases E:x.aP.aG.length=1
  .obtain⟨y,hy⟩:=vG E;have hy0:x.aP.aG[0]?=some y:=by rw[hy];rfl
   have fin:VE y->VE x:=λhv=>by
    have Z:∀e,e∈x.aP.aG->VE e:=λe T=>by rw[hy] at T;simp at T;subst T;exact hv
    have h1:x.aJ=8\/x.aJ=9\/x.aJ=32\/x.aJ=33\/x.aJ=42\/x.aJ=41->x.aP.aG.length=1/\lR x:=λ_=>⟨E,λe T=>(Z e T).2⟩
    exact W (by constructor<;>first|assumption|(intro hh;exfalso;omega)) (λe T=>(Z e T).1) hE
   rcases ko with k|k
   all_goals
    simp[k,E,aL hy0];refine fR (kc y (bA hy0)).e (λhv c1 _=>?_) λc1 _=>?_
    .simp;exact jQ (fin hv)
    .simp;exact b8
  .have J:¬(x.aP.aG.length:Int)=1:=by omega
   rcases ko with k|k
   all_goals
    simp[k,J];exact b8
 by_cases kt:x.aJ=7\/x.aJ=10\/x.aJ=11\/x.aJ=12\/x.aJ=13
 .have hE:fE x.aJ:=by unfold fE;omega
  by_cases E:x.aP.aG.length=2
  .have fin:(∀e,e∈x.aP.aG->V e/\fE e.aJ)->VE x:=λZ=>by
    have h1:x.aJ=7\/x.aJ=10\/x.aJ=11\/x.aJ=12\/x.aJ=13\/x.aJ=15\/x.aJ=16->x.aP.aG.length=2/\lR x:=λ_=>⟨E,λe T=>(Z e T).2⟩
    exact W (by constructor<;>first|assumption|(intro hh;exfalso;omega)) (λe T=>(Z e T).1) hE
   rcases kt with k|k|k|k|k
   all_goals
    simp[k,E];refine fR eachK (λhv c1 _=>?_) λc1 _=>?_
    .simp;exact jQ (fin hv)
    .simp;exact b8
  .have J:¬(x.aP.aG.length:Int)=2:=by omega
   rcases kt with k|k|k|k|k
   all_goals
    simp[k,J];exact b8
 by_cases k14:x.aJ=14
 .have hE:fE x.aJ:=isk k14 (by decide) (by decide) (by decide);by_cases E:x.aP.aG.length=3
  .simp[k14,E];refine fR eachK (λZ c1 _=>?_) λc1 _=>?_
   .have h1:x.aJ=14->x.aP.aG.length=3/\lR x:=λ_=>⟨E,λe T=>(Z e T).2⟩
    simp;exact jQ (W (by constructor<;>first|assumption|(intro hh;exfalso;omega)) (λe T=>(Z e T).1) hE)
   .simp;exact b8
  .have J:¬(x.aP.aG.length:Int)=3:=by omega
   simp[k14,J];exact b8
 by_cases ka:x.aJ=15\/x.aJ=16
 .have hE:fE x.aJ:=by unfold fE;omega
  by_cases E:x.aP.aG.length=2
  .obtain⟨y,hy0⟩:∃y,x.aP.aG[0]?=some y:=⟨_,bC (by omega)⟩
   have fin:mH y->(∀e,e∈x.aP.aG->V e/\fE e.aJ)->VE x:=λhtg Z=>by
    have h1:x.aJ=7\/x.aJ=10\/x.aJ=11\/x.aJ=12\/x.aJ=13\/x.aJ=15\/x.aJ=16->x.aP.aG.length=2/\lR x:=λ_=>⟨E,λe T=>(Z e T).2⟩
    have h2:x.aJ=15\/x.aJ=16\/x.aJ=41->∃y,x.aP.aG[0]?=some y/\mH y:=λ_=>⟨y,hy0,htg⟩
    exact W (by constructor<;>first|assumption|(intro hh;exfalso;omega)) (λe T=>(Z e T).1) hE
   rcases ka with k|k
   all_goals
    simp[k,E,aL hy0];refine fR (R8 y) (λhtg c1 _=>?_) λc1 _=>?_
    .simp;refine fR eachK (λhv c1 _=>?_) λc1 _=>?_
     .simp;exact jQ (fin htg hv)
     .simp;exact b8
    .simp;exact b8
  .have J:¬(x.aP.aG.length:Int)=2:=by omega
   rcases ka with k|k
   all_goals
    simp[k,J];exact b8
 by_cases k17:x.aJ=17
 .have hE:fE x.aJ:=isk k17 (by decide) (by decide) (by decide);by_cases E:x.aP.aG.length=1
  .obtain⟨y,hy⟩:=vG E;have hy0:x.aP.aG[0]?=some y:=by rw[hy];rfl
   by_cases y4:y.aJ=4
   .simp[k17,E,aL hy0,y4];refine fR (kc y (bA hy0)).e (λhv c1 _=>?_) λc1 _=>?_
    .have Z:∀e,e∈x.aP.aG->V e:=λe T=>by rw[hy] at T;simp at T;subst T;exact hv.1
     have h1:x.aJ=17->∃y,x.aP.aG=[y]/\y.aJ=4:=λ_=>⟨y,hy,y4⟩
     simp;exact jQ (W (by constructor<;>first|assumption|(intro hh;exfalso;omega)) Z hE)
    .simp;exact b8
   .simp[k17,E,aL hy0,y4];exact b8
  .have J:¬(x.aP.aG.length:Int)=1:=by omega
   simp[k17,J];exact b8
 by_cases kc2:x.aJ=18\/x.aJ=21\/x.aJ=22
 .have hE:fE x.aJ:=by unfold fE;omega
  have fin:(∀e,e∈x.aP.aG->V e/\fE e.aJ)->VE x:=λZ=>by
   have h1:x.aJ=18\/x.aJ=21\/x.aJ=22->lR x:=λ_ e T=>(Z e T).2;exact W (by constructor<;>first|assumption|(intro hh;exfalso;omega)) (λe T=>(Z e T).1) hE
  rcases kc2 with k|k|k
  all_goals
   simp[k];refine fR eachK (λhv c1 _=>?_) λc1 _=>?_
   .simp;exact jQ (fin hv)
   .simp;exact b8
 by_cases ki:x.aJ=19\/x.aJ=20
 .have hE:fE x.aJ:=by unfold fE;omega
  by_cases E:1<=x.aP.aG.length
  .have J:(1:Int)<=(x.aP.aG.length:Int):=by omega
   have fin:(∀e,e∈x.aP.aG->V e/\fE e.aJ)->VE x:=λZ=>by
    have h1:x.aJ=19\/x.aJ=20->1<=x.aP.aG.length/\lR x:=λ_=>⟨E,λe T=>(Z e T).2⟩
    exact W (by constructor<;>first|assumption|(intro hh;exfalso;omega)) (λe T=>(Z e T).1) hE
   rcases ki with k|k
   all_goals
    simp[k,J];refine fR eachK (λhv c1 _=>?_) λc1 _=>?_
    .simp;exact jQ (fin hv)
    .simp;exact b8
  .have J:¬(1:Int)<=(x.aP.aG.length:Int):=by omega
   rcases ki with k|k
   all_goals
    simp[k,J];exact b8
 by_cases E:x.aJ=23
 .have hE:fE x.aJ:=isk E (by decide) (by decide) (by decide);simp[E];refine fR (MB (L:=x.aP) (λe T=>(kc e T).b) hx.i hl) (λhv c1 _=>?_) λc1 _=>?_
  .have h1:x.aJ=23->Us true x.aP.aG:=λ_=>hv.1;simp;exact jQ (W (by constructor<;>first|assumption|(intro hh;exfalso;omega)) hv.2 hE)
  .simp;exact b8
 simp only[not_or] at ko kt ka kc2 ki;simp[k1,k2,k3,k4,k5,ko,kt,k14,ka,k17,kc2,ki,E];exact b8
set_option maxHeartbeats 2000000 in
def stmt_s {x:aQ} (hx:cU 20000 x) (ih:∀y:aQ,SizeOf.sizeOf y<SizeOf.sizeOf x->cU 20000 y->Ck y) (hB:bM aE 228 [.agg x.enc] (BQ (VB x))):bM aE 189 [.agg x.enc] (BQ (VS x)):=by
 intro c0;have J:=hx.l;refine cO F189 ?_;unfold F189;have kc:∀e,e∈x.aP.aG->Ck e:=λe E=>ih e (sN E) (hx.i e E);have eachK:bM aE 227 [x.aP.av 4 aQ.enc,.I 0] (BQ (∀e,e∈x.aP.aG->V e/\fE e.aJ)):=JN (λe E=>(kc e E).e) J;simp;refine EF (EK hx.s) λa b c1 _ ha hb=>?_;cases a
 .simp;exact b8
 cases b
 .simp;exact b8
 have J:=ha rfl;have J:=hb rfl;clear ha hb;have Z:Sh x->(∀e,e∈x.aP.aG->V e)->iZ x.aJ->VS x:=λh1 h2 h3=>⟨.mk h1 h2,h3⟩
 by_cases kl:x.aJ=31\/x.aJ=37\/x.aJ=38\/x.aJ=40\/x.aJ=47
 .have hE:iZ x.aJ:=by unfold iZ;omega
  have J:decide (x.aP.aG=[])=true->VS x:=λh=>by
   have T:x.aP.aG=[]:=by simpa using h
   refine Z (by constructor<;>first|assumption|(intro hh;exfalso;omega)) (λe E=>by rw[T] at E;simp at E) hE
  rcases kl with k|k|k|k|k
  all_goals
   simp[k];exact EJ (by simpa using J)
 by_cases ko:x.aJ=32\/x.aJ=33\/x.aJ=42
 .have hE:iZ x.aJ:=by unfold iZ;omega
  by_cases J:x.aP.aG.length=1
  .obtain⟨y,hy⟩:=vG J;have W:x.aP.aG[0]?=some y:=by rw[hy];rfl
   have fin:VE y->VS x:=λhv=>by
    have ha:∀e,e∈x.aP.aG->VE e:=λe E=>by rw[hy] at E;simp at E;subst E;exact hv
    have h1:x.aJ=8\/x.aJ=9\/x.aJ=32\/x.aJ=33\/x.aJ=42\/x.aJ=41->x.aP.aG.length=1/\lR x:=λ_=>⟨J,λe E=>(ha e E).2⟩
    exact Z (by constructor<;>first|assumption|(intro hh;exfalso;omega)) (λe E=>(ha e E).1) hE
   rcases ko with k|k|k
   all_goals
    simp[k,J,aL W];refine fR (kc y (bA W)).e (λhv c1 _=>?_) λc1 _=>?_
    .simp;exact jQ (fin hv)
    .simp;exact b8
  .have T:¬(x.aP.aG.length:Int)=1:=by omega
   rcases ko with k|k|k
   all_goals
    simp[k,T];exact b8
 by_cases k39:x.aJ=39
 .have hE:iZ x.aJ:=by unfold iZ;omega
  by_cases J:x.aP.aG.length<=1
  .have T:(x.aP.aG.length:Int)<=1:=by omega
   simp[k39,T];refine fR eachK (λha c1 _=>?_) λc1 _=>?_
   .have h1:x.aJ=39->x.aP.aG.length<=1/\lR x:=λ_=>⟨J,λe E=>(ha e E).2⟩
    simp;exact jQ (Z (by constructor<;>first|assumption|(intro hh;exfalso;omega)) (λe E=>(ha e E).1) hE)
   .simp;exact b8
  .have T:¬(x.aP.aG.length:Int)<=1:=by omega
   simp[k39,T];exact b8
 by_cases k41:x.aJ=41
 .have hE:iZ x.aJ:=by unfold iZ;omega
  by_cases J:x.aP.aG.length=1
  .obtain⟨y,hy⟩:=vG J;have W:x.aP.aG[0]?=some y:=by rw[hy];rfl
   simp[k41,J,aL W];refine fR (R8 y) (λhtg c1 _=>?_) λc1 _=>?_
   .simp[aL W];refine fR (kc y (bA W)).e (λhv c1 _=>?_) λc1 _=>?_
    .have ha:∀e,e∈x.aP.aG->VE e:=λe E=>by rw[hy] at E;simp at E;subst E;exact hv
     have h1:x.aJ=8\/x.aJ=9\/x.aJ=32\/x.aJ=33\/x.aJ=42\/x.aJ=41->x.aP.aG.length=1/\lR x:=λ_=>⟨J,λe E=>(ha e E).2⟩
     have h2:x.aJ=15\/x.aJ=16\/x.aJ=41->∃y,x.aP.aG[0]?=some y/\mH y:=λ_=>⟨y,W,htg⟩
     simp;exact jQ (Z (by constructor<;>first|assumption|(intro hh;exfalso;omega)) (λe E=>(ha e E).1) hE)
    .simp;exact b8
   .simp;exact b8
  .have T:¬(x.aP.aG.length:Int)=1:=by omega
   simp[k41,T];exact b8
 by_cases k34:x.aJ=34
 .have hE:iZ x.aJ:=by unfold iZ;omega
  simp[k34];refine bZ (fA _ _ _) .bool λ_ _=>?_;cases hq:cT (x.aP.aG.length:Int) 2 3
  .simp;exact b8
  have hq':=mN hq;have hc:x.aP.aG.length=2\/x.aP.aG.length=3:=by omega
  rcases hc with J|J
  .obtain⟨y,z,hy⟩:=DV J;have W:x.aP.aG[0]?=some y:=by rw[hy];rfl
   have hz0:x.aP.aG[1]?=some z:=by rw[hy];rfl
   have w1:IntKind.i64.wrap 1=1:=by decide
   simp[aL W];refine fR (kc y (bA W)).e (λhv c1 _=>?_) λc1 _=>?_
   .simp[aL hz0];refine fR (kc z (bA hz0)).b (λhz c1 _=>?_) λc1 _=>?_
    .simp[J,w1,aL hz0];refine fR (kc z (bA hz0)).b (λhz c1 _=>?_) λc1 _=>?_
     .have ha:∀e,e∈x.aP.aG->V e:=λe E=>by rw[hy] at E;simp at E;rcases E with rfl|rfl;exact hv.1;exact hz.1
      have h1:x.aJ=34\/x.aJ=35->(2<=x.aP.aG.length/\x.aP.aG.length<=3)/\∀(i:Nat) (e:aQ),x.aP.aG[i]?=some e->(i=0->fE e.aJ)/\(0<i->e.aJ=48):=λ_=>⟨by omega,λi e E=>by
       rw[hy] at E
       match i,E with
       |0,E=>simp at E;subst E;exact⟨λ_=>hv.2,λh=>by omega⟩
       |1,E=>simp at E;subst E;exact⟨λh=>by omega,λ_=>hz.2⟩
       |(n+2),E=>simp at E⟩
      simp;exact jQ (Z (by constructor<;>first|assumption|(intro hh;exfalso;omega)) ha hE)
     .simp;exact b8
    .simp;exact b8
   .simp;exact b8
  .obtain⟨y,z,u,hy⟩:=NU J;have W:x.aP.aG[0]?=some y:=by rw[hy];rfl
   have hz0:x.aP.aG[1]?=some z:=by rw[hy];rfl
   have hu0:x.aP.aG[2]?=some u:=by rw[hy];rfl
   have w1:IntKind.i64.wrap 2=2:=by decide
   simp[aL W];refine fR (kc y (bA W)).e (λhv c1 _=>?_) λc1 _=>?_
   .simp[aL hz0];refine fR (kc z (bA hz0)).b (λhz c1 _=>?_) λc1 _=>?_
    .simp[J,w1,aL hu0];refine fR (kc u (bA hu0)).b (λhu c1 _=>?_) λc1 _=>?_
     .have ha:∀e,e∈x.aP.aG->V e:=λe E=>by rw[hy] at E;simp at E;rcases E with rfl|rfl|rfl;exact hv.1;exact hz.1;exact hu.1
      have h1:x.aJ=34\/x.aJ=35->(2<=x.aP.aG.length/\x.aP.aG.length<=3)/\∀(i:Nat) (e:aQ),x.aP.aG[i]?=some e->(i=0->fE e.aJ)/\(0<i->e.aJ=48):=λ_=>⟨by omega,λi e E=>by
       rw[hy] at E
       match i,E with
       |0,E=>simp at E;subst E;exact⟨λ_=>hv.2,λh=>by omega⟩
       |1,E=>simp at E;subst E;exact⟨λh=>by omega,λ_=>hz.2⟩
       |2,E=>simp at E;subst E;exact⟨λh=>by omega,λ_=>hu.2⟩
       |(n+3),E=>simp at E⟩
      simp;exact jQ (Z (by constructor<;>first|assumption|(intro hh;exfalso;omega)) ha hE)
     .simp;exact b8
    .simp;exact b8
   .simp;exact b8
 by_cases k35:x.aJ=35
 .have hE:iZ x.aJ:=by unfold iZ;omega
  by_cases J:x.aP.aG.length=2
  .obtain⟨y,z,hy⟩:=DV J;have W:x.aP.aG[0]?=some y:=by rw[hy];rfl
   have hz0:x.aP.aG[1]?=some z:=by rw[hy];rfl
   simp[k35,J,aL W];refine fR (kc y (bA W)).e (λhv c1 _=>?_) λc1 _=>?_
   .simp[aL hz0];refine fR (kc z (bA hz0)).b (λhz c1 _=>?_) λc1 _=>?_
    .have ha:∀e,e∈x.aP.aG->V e:=λe E=>by rw[hy] at E;simp at E;rcases E with rfl|rfl;exact hv.1;exact hz.1
     have h1:x.aJ=34\/x.aJ=35->(2<=x.aP.aG.length/\x.aP.aG.length<=3)/\∀(i:Nat) (e:aQ),x.aP.aG[i]?=some e->(i=0->fE e.aJ)/\(0<i->e.aJ=48):=λ_=>⟨by omega,λi e E=>by
      rw[hy] at E
      match i,E with
      |0,E=>simp at E;subst E;exact⟨λ_=>hv.2,λh=>by omega⟩
      |1,E=>simp at E;subst E;exact⟨λh=>by omega,λ_=>hz.2⟩
      |(n+2),E=>simp at E⟩
     simp;exact jQ (Z (by constructor<;>first|assumption|(intro hh;exfalso;omega)) ha hE)
    .simp;exact b8
   .simp;exact b8
  .have T:¬(x.aP.aG.length:Int)=2:=by omega
   simp[k35,T];exact b8
 by_cases k36:x.aJ=36
 .have hE:iZ x.aJ:=by unfold iZ;omega
  simp[k36];refine bZ (fA _ _ _) .bool λ_ _=>?_;cases hq:cT (x.aP.aG.length:Int) 3 4
  .simp;exact b8
  have hq':=mN hq;obtain⟨m,hm⟩:∃m,x.aP.aG.length=m+1:=⟨x.aP.aG.length-1,by omega⟩
  have wm:IntKind.i64.wrap ((x.aP.aG.length:Int)-1)=(m:Int):=by rw[wrap64 (by omega) (by omega)];omega
  have wm2:IntKind.i64.wrap ((x.aP.aG.length:Int)-2)=((m-1:Nat):Int):=by rw[wrap64 (by omega) (by omega)];omega
  obtain⟨M,hM,hMs⟩:=SL.takeMk x.aP m (by omega) (by omega);have hMmem:∀e,e∈M.aG->e∈x.aP.aG:=λe E=>by rw[hM] at E;exact zT E
  obtain⟨y1,h1⟩:∃y,x.aP.aG[1]?=some y:=⟨_,bC (by omega)⟩
  obtain⟨y2,h2⟩:∃y,x.aP.aG[m-1]?=some y:=⟨_,bC (by omega)⟩
  obtain⟨y3,h3⟩:∃y,x.aP.aG[m]?=some y:=⟨_,bC (by omega)⟩
  simp[wm];refine hMs _ ?_;simp;refine fR (JN (L:=M) (λe E=>(kc e (hMmem e E)).e) (by rw[hM];simp;omega)) (λhv c1 _=>?_) λc1 _=>?_;rotate_left
  .simp;exact b8
  by_cases q1:y1.aJ=4;rotate_left
  .simp[aL h1,q1];exact b8
  by_cases q2:y2.aJ=4;rotate_left
  .simp[aL h1,q1,wm2,aL h2,q2];exact b8
  simp[aL h1,q1,wm2,aL h2,q2,wm,aL h3];refine fR (kc y3 (bA h3)).b (λhz c1 _=>?_) λc1 _=>?_;rotate_left
  .simp;exact b8
  have key:∀(i:Nat) (e:aQ),x.aP.aG[i]?=some e->V e/\(i+1<x.aP.aG.length->fE e.aJ)/\(i+1=x.aP.aG.length->e.aJ=48)/\(i=1\/i+2=x.aP.aG.length->e.aJ=4):=λi e E=>by
   have hi:=(bQ.1 E).1;by_cases him:i=m
   .subst him;rw[h3] at E;cases E;exact⟨hz.1,λh=>by omega,λ_=>hz.2,λh=>by omega⟩
   .have hin:e∈M.aG:=by
     rw[hM];exact bA (i:=i) (by rw[GB,if_pos (by omega)];exact E)
    have:=hv e hin;refine⟨this.1,λ_=>this.2,λh=>by omega,λh=>?_⟩;rcases h with h|h
    .subst h;rw[h1] at E;cases E;exact q1
    .have:i=m-1:=by omega
     subst this;rw[h2] at E;cases E;exact q2
  have hf:x.aJ=36->(3<=x.aP.aG.length/\x.aP.aG.length<=4)/\∀(i:Nat) (e:aQ),x.aP.aG[i]?=some e->(i+1<x.aP.aG.length->fE e.aJ)/\(i+1=x.aP.aG.length->e.aJ=48)/\(i=1\/i+2=x.aP.aG.length->e.aJ=4):=λ_=>⟨by omega,λi e E=>(key i e E).2⟩
  simp;exact jQ (Z (by constructor<;>first|assumption|(intro hh;exfalso;omega)) (λe E=>by obtain⟨i,hi⟩:=lS.1 E;exact(key i e hi).1) hE)
 by_cases k46:x.aJ=46
 .have hE:iZ x.aJ:=by unfold iZ;omega
  simp[k46];refine bZ (fA _ _ _) .bool λ_ _=>?_;cases hq:cT (x.aP.aG.length:Int) 1 2
  .simp;exact b8
  have hq':=mN hq;simp;refine fR eachK (λha c1 _=>?_) λc1 _=>?_;rotate_left
  .simp;exact b8
  obtain⟨y,W⟩:∃y,x.aP.aG[0]?=some y:=⟨_,bC (by omega)⟩
  have fin:(x.aP.aG.length=2->y.aJ=4)->VS x:=λh=>by
   have h1:x.aJ=46->(1<=x.aP.aG.length/\x.aP.aG.length<=2)/\lR x/\(x.aP.aG.length=2->∃y,x.aP.aG[0]?=some y/\y.aJ=4):=λ_=>⟨by omega,λe E=>(ha e E).2,λh2=>⟨y,W,h h2⟩⟩
   exact Z (by constructor<;>first|assumption|(intro hh;exfalso;omega)) (λe E=>(ha e E).1) hE
  by_cases J:x.aP.aG.length=1
  .simp[J];exact jQ (fin λh=>by omega)
  .have T:¬(x.aP.aG.length:Int)=1:=by omega
   by_cases y4:y.aJ=4
   .simp[T,aL W,y4];exact jQ (fin λ_=>y4)
   .simp[T,aL W,y4];exact b8
 by_cases k48:x.aJ=48
 .simp[k48];refine fR hB (λhv c1 _=>?_) λc1 _=>?_
  .simp;exact jQ ⟨hv.1,by unfold iZ;omega⟩
  .simp;exact b8
 by_cases k43:x.aJ=43
 .have hE:iZ x.aJ:=by unfold iZ;omega
  simp[k43];refine bZ (fA _ _ _) .bool λ_ _=>?_;cases hq:cT (x.aP.aG.length:Int) 2 3
  .simp;exact b8
  have hq':=mN hq;obtain⟨y,W⟩:∃y,x.aP.aG[0]?=some y:=⟨_,bC (by omega)⟩
  simp[aL W];refine fR (kc y (bA W)).b (λhvy c1 _=>?_) λc1 _=>?_;rotate_left
  .simp;exact b8
  simp;refine b6 x.aP.aG.length (λi e H c'=>(∀(j:Nat) (y:aQ),0<j->j<i+1->x.aP.aG[j]?=some y->V y/\(y.aJ=44\/y.aJ=45))/\i+1<=x.aP.aG.length/\e 1=.ptr 0 c0 4 0 0/\e 5=.I x.aP.aG.length/\e 6=.I ((i+1:Nat):Int)/\H=[⟨false,c0,4,[x.enc]⟩]) ⟨λj y h h2=>by omega,by omega,rfl,rfl,rfl,rfl⟩ ?_;intro i e H c hi ⟨hall,hi1,e1,e5,e6,hH⟩ N hN;subst hH;by_cases h:i+1<x.aP.aG.length;rotate_left
  .have hlt:¬((i+1:Nat):Int)<(x.aP.aG.length:Int):=by omega
   have key:∀(j:Nat) (e:aQ),x.aP.aG[j]?=some e->V e/\(j=0->e.aJ=48)/\(0<j->e.aJ=44\/e.aJ=45):=λj e E=>by
    have hj:=(bQ.1 E).1;rcases Q4 j with h0|h0
    .subst h0;rw[W] at E;cases E;exact⟨hvy.1,λ_=>hvy.2,λh=>by omega⟩
    .have:=hall j e h0 (by omega) E;exact⟨this.1,λh=>by omega,λ_=>this.2⟩
   have hf:x.aJ=43->1<=x.aP.aG.length/\∀(i:Nat) (e:aQ),x.aP.aG[i]?=some e->(i=0->e.aJ=48)/\(0<i->e.aJ=44\/e.aJ=45):=λ_=>⟨by omega,λi e E=>(key i e E).2⟩
   simp[e5,e6,hlt,-Int.natCast_add];exact jQ (Z (by constructor<;>first|assumption|(intro hh;exfalso;omega)) (λe E=>by obtain⟨i,hi⟩:=lS.1 E;exact(key i e hi).1) hE)
  have hlt:((i+1:Nat):Int)<(x.aP.aG.length:Int):=by omega
  obtain⟨u,hu⟩:∃u,x.aP.aG[i+1]?=some u:=⟨_,bC h⟩
  have Z:=bA hu;have W:=hx.i u Z;have hst:IntKind.i64.wrap (((i+1:Nat):Int)+1)=((i+1+1:Nat):Int):=by rw[wrap64 (by omega) (by omega)];omega
  have wm:IntKind.i64.wrap ((x.aP.aG.length:Int)-1)=((x.aP.aG.length-1:Nat):Int):=by rw[wrap64 (by omega) (by omega)];omega
  simp[e1,e5,e6,hlt,aL hu,-Int.natCast_add];refine EF (EK W.s) λa b c2 _ ha hb=>?_;have back:∀{e':Env} {c':Nat} {o1:aH},V u/\(u.aJ=44\/u.aJ=45)->e' 1=.ptr 0 c0 4 0 0->e' 5=.I x.aP.aG.length->e' 6=.I ((i+1+1:Nat):Int)->N e' [⟨false,c0,4,[x.enc]⟩,o1] c':=λhv f1 f5 f6=>
   hN _ _ (List.take 1 _) _ (by omega) (fN 1 _) ⟨λj z h0 hj hz=>by
    rcases iA j (i+1) with h1|h1
    .exact hall j z h0 h1 hz
    .have:j=i+1:=by omega
     subst this;rw[hu] at hz;cases hz;exact hv,by omega,f1,f5,f6,rfl⟩
  have kcu:∀e,e∈u.aP.aG->Ck e:=λe E=>ih e (Nat.lt_trans (sN E) (sN Z)) (W.i e E)
  by_cases W:u.aJ=44
  .by_cases hi0:i=0;rotate_left
   .have Z:¬((i+1:Nat):Int)=1:=by omega
    simp[e6,W,Z,-Int.natCast_add];cases a<;>cases b<;>simp<;>exact b8
   subst hi0;by_cases J:u.aP.aG.length=2;rotate_left
   .have T:¬(u.aP.aG.length:Int)=2:=by omega
    simp[e6,W,T,-Int.natCast_add];cases a<;>cases b<;>simp<;>exact b8
   obtain⟨v,w,Z⟩:=DV J;have hv0:u.aP.aG[0]?=some v:=by rw[Z];rfl
   have hw0:u.aP.aG[1]?=some w:=by rw[Z];rfl
   by_cases v4:v.aJ=4;rotate_left
   .simp[e6,W,J,aL hv0,v4,-Int.natCast_add];cases a<;>cases b<;>simp<;>exact b8
   simp[e6,W,J,aL hv0,v4,-Int.natCast_add];refine fR (kcu v (bA hv0)).e (λhv c3 _=>?_) λc3 _=>?_;rotate_left
   .simp[W];cases a<;>cases b<;>simp<;>exact b8
   simp[W,aL hw0];refine fR (kcu w (bA hw0)).b (λhw c3 _=>?_) λc3 _=>?_;rotate_left
   .simp[W];cases a<;>cases b<;>simp<;>exact b8
   simp[W];cases a
   .simp;exact b8
   cases b
   .simp;exact b8
   have hn':=ha rfl;have ht':=hb rfl;have hca:u.aJ=44->∃v b,u.aP.aG=[v,b]/\v.aJ=4/\b.aJ=48:=λ_=>⟨v,w,Z,v4,hw.2⟩
   have hsh:Sh u:=by constructor<;>first|assumption|(intro hh;exfalso;omega)
   simp[e6];refine back ⟨.mk hsh λe E=>by rw[Z] at E;simp at E;rcases E with rfl|rfl;exact hv.1;exact hw.1,.inl W⟩ ?_ ?_ ?_<;>simp[aK,e1,e5];decide
  by_cases u45:u.aJ=45
  .by_cases hil:((i+1:Nat):Int)=((x.aP.aG.length-1:Nat):Int)
   rotate_left
   .simp[e5,e6,u45,wm,hil,-Int.natCast_add];cases a<;>cases b<;>simp<;>exact b8
   by_cases J:u.aP.aG.length=1;rotate_left
   .have T:¬(u.aP.aG.length:Int)=1:=by omega
    simp[e5,e6,u45,wm,hil,T,-Int.natCast_add];cases a<;>cases b<;>simp<;>exact b8
   obtain⟨w,Z⟩:=vG J;have hw0:u.aP.aG[0]?=some w:=by rw[Z];rfl
   simp[e5,e6,u45,wm,hil,J,aL hw0,-Int.natCast_add];refine fR (kcu w (bA hw0)).b (λhw c3 _=>?_) λc3 _=>?_;rotate_left
   .simp;cases a<;>cases b<;>simp<;>exact b8
   simp;cases a
   .simp;exact b8
   cases b
   .simp;exact b8
   have hn':=ha rfl;have ht':=hb rfl;have hca:u.aJ=45->∃b,u.aP.aG=[b]/\b.aJ=48:=λ_=>⟨w,Z,hw.2⟩
   have hsh:Sh u:=by constructor<;>first|assumption|(intro hh;exfalso;omega)
   simp[e6];refine back ⟨.mk hsh λe E=>by rw[Z] at E;simp at E;subst E;exact hw.1,.inr u45⟩ ?_ ?_ ?_<;>simp[aK,e1,e5];simpa using hst
  simp[W,u45,-Int.natCast_add];cases a<;>cases b<;>simp<;>exact b8
 simp only[not_or] at kl ko;simp[kl,ko,k39,k41,k34,k35,k36,k46,k48,k43];exact b8
set_option maxRecDepth 100000
def JZ:∀x:aQ,cU 20000 x->Ck x:=aQ.sind λx J E=>by
 have W:bM aE 228 [.agg x.enc] (BQ (VB x)):=block_s (λe T=>(J e (sN T) (E.i e T)).s) E;exact⟨expr_s E J,W,stmt_s E J W⟩
def Ni (r:AV):Prop:=∃n:Int,r=.I n
def U5 {P} {H} {c} {K:aD} {f} {J} (T:bM P f J Ni) (k:∀n E,c<=E->K (.I n) H E):bO P f J H c K:=
 cV T λr E J ⟨n,T⟩=>by subst T;exact⟨.int,k n E J⟩
def aQ.iD:aQ->Nat
 |.mk k n s I=>1+(match I with|.nil=>0|.mk _ E=>(E.attach.map λe=>e.1.iD).sum)
termination_by v=>SizeOf.sizeOf v
decreasing_by exact D2 (I:=.mk _ E) e.2
def aQ.B3 (v:aQ):v.iD=1+bE aQ.iD v.aP.aG:=by
 cases v with
 |mk k n s I=>
  rw[aQ.iD.eq_def];cases I with
  |nil=>rfl
  |mk t E=>
   show 1+(E.attach.map λe=>e.1.iD).sum=1+bE aQ.iD E;simp only[bE];rw[show(E.attach.map λe=>e.1.iD)=E.map aQ.iD from by
    rw[show(λe:{x // x∈E}=>e.1.iD)=aQ.iD∘Subtype.val from rfl,<-GA,LQ]]
def LfQ (x:aQ) (n:Int) (r:AV):Prop:=∃m:Int,r=.I m/\-1<=m/\(0<=m->(x.iD:Int)+m<=n)
def tD {α:Type} (f:α->Nat) {l:aF α} {i:Nat} {y:α} (h:l[i]?=some y):bE f (l.take (i+1))=bE f (l.take i)+f y:=by rw[wB,h];simp[bE]
def left_s:∀x:aQ,cU 20000 x->∀n:Int,0<=n->n<=600->bM aE 223 [.agg x.enc,.I n] (LfQ x n):=by
 refine aQ.ind λx ih hx n hn0 hn1 c0=>?_;have hl:=hx.l;refine cO F223 ?_;unfold F223;have hw:IntKind.i64.wrap (n-1)=n-1:=wrap64 (by omega) (by omega);simp[hw];refine b6 x.aP.aG.length (λi e H c'=>∃m:Int,e 1=.I m/\e 2=.ptr 0 c0 4 0 0/\e 5=.I i/\-1<=m/\m<=n/\(0<=m->1+(bE aQ.iD (x.aP.aG.take i):Int)+m<=n)/\H=[⟨false,c0,4,[x.enc]⟩]) ⟨n-1,rfl,rfl,rfl,by omega,by omega,λ_=>by simp[bE];omega,rfl⟩ ?_;intro i e H c hi ⟨m,e1,e2,e5,m0,mn,hm',hH⟩ N hN;subst hH;by_cases h:i<x.aP.aG.length
 .have hlt:(i:Int)<(x.aP.aG.length:Int):=by omega
  obtain⟨y,hy⟩:∃y,x.aP.aG[i]?=some y:=⟨_,bC h⟩
  have hst:=cD (i:=i) (n:=x.aP.aG.length) (by unfold mx;omega) h;by_cases hm:0<=m
  .simp[e1,e2,e5,hlt,hm,aL hy];refine cV (ih y (bA hy) (hx.i y (bA hy)) m hm (by omega)) λr c1 _ ⟨k,hr,k0,hk⟩=>?_;subst hr;refine⟨.int,?_⟩;simp[e5];refine hN _ _ _ _ h (bY _) ⟨k,?_,?_,?_,k0,?_,?_,rfl⟩
   .simp[aK]
   .simp[aK,e2]
   .simp[aK,hst]
   .rcases zZ k 0 with h0|h0
    .omega
    .have:=hk h0;omega
   .intro h0;have h1:=hk h0;have h2:=hm' hm;rw[tD _ hy];omega
  .simp[e1,e2,e5,hlt,hm];exact aS ⟨rfl,m,rfl,m0,λh=>absurd h hm⟩
 .have hlt:¬(i:Int)<(x.aP.aG.length:Int):=by omega
  simp[e1,e2,e5,hlt];refine aS ⟨rfl,m,rfl,m0,λh0=>?_⟩;have:=hm' h0;rw[fJ (by omega)] at this;rw[aQ.B3];omega
def depth_s:∀x:aQ,cU 20000 x->bM aE 224 [.agg x.enc] Ni:=by
 refine aQ.ind λx ih hx E=>?_;have J:=hx.l;refine cO F224 ?_;simp[F224];refine b6 x.aP.aG.length (λi e H J=>∃m:Int,e 3=.I m/\e 1=.ptr 0 E 4 0 0/\e 4=.I i/\H=[⟨false,E,4,[x.enc]⟩]) ⟨_,rfl,rfl,rfl,rfl⟩ ?_;intro i e H c E ⟨m,e3,Z,W,E⟩ N hN;subst E;by_cases h:i<x.aP.aG.length
 .have E:(i:Int)<(x.aP.aG.length:Int):=by omega
  obtain⟨y,J⟩:∃y,x.aP.aG[i]?=some y:=⟨_,bC h⟩
  have T:=cD (i:=i) (n:=x.aP.aG.length) (by unfold mx;omega) h;simp[Z,e3,W,E,aL J];refine U5 (ih y (bA J) (hx.i y (bA J))) λk J _=>?_;simp;refine bZ (BA _ _) .int λJ _=>?_;simp[W];refine hN _ _ _ _ h (bY _) ⟨max m k,?_,?_,?_,rfl⟩<;>simp[aK,Z,T]
 .have E:¬(i:Int)<(x.aP.aG.length:Int):=by omega
  simp[Z,e3,W,E];exact aS ⟨rfl,_,rfl⟩
def small_s {x:aQ} (hx:cU 20000 x):bM aE 187 [.agg x.enc] (BQ (x.iD<=600)):=by
 intro c0;refine cO F187 ?_;simp[F187];refine cV (left_s x hx 600 (by decide) (by decide)) λr c1 _ ⟨n,hr,hn0,hn'⟩=>?_;subst hr;refine⟨.int,?_⟩;by_cases hn:0<=n
 .simp[hn];refine U5 (depth_s x hx) λm c2 _=>?_;simp;have:=hn' hn;exact EJ λ_=>by omega
 .simp[hn];exact b8
def VC (x:aQ):Prop:=(∀e,e∈x.aP.aG->V e/\52<=e.aJ/\e.aJ<=55)
set_option maxHeartbeats 1000000 in
def class_s {x:aQ} (hx:cU 20000 x):bM aE 191 [.agg x.enc] (BQ (VC x)):=by
 intro c0;have hl:=hx.l;refine cO F191 ?_;simp[F191];refine b6 x.aP.aG.length (λi e H c'=>∃m:Int,(∀(j:Nat) (y:aQ),j<i->x.aP.aG[j]?=some y->V y/\52<=y.aJ/\y.aJ<=55)/\e 1=.ptr 0 c0 4 0 0/\e 3=.I m/\e 4=.I i/\H=[⟨false,c0,4,[x.enc]⟩]) ⟨0,λj y h=>by omega,rfl,rfl,rfl,rfl⟩ ?_;intro i e H c hi ⟨m,hall,e1,e3,e4,hH⟩ N hN;subst hH;by_cases h:i<x.aP.aG.length;rotate_left
 .have hlt:¬(i:Int)<(x.aP.aG.length:Int):=by omega
  have ha:VC x:=λe he=>by
   obtain⟨j,hj⟩:=lS.1 he;exact hall j e (by have:=(bQ.1 hj).1;omega) hj
  simp[e1,e4,hlt];exact jQ ha
 have hlt:(i:Int)<(x.aP.aG.length:Int):=by omega
 obtain⟨y,hy⟩:∃y,x.aP.aG[i]?=some y:=⟨_,bC h⟩
 have hym:=bA hy;have hyo:=hx.i y hym;have hst:=cD (i:=i) (n:=x.aP.aG.length) (by unfold mx;omega) h;simp[e1,e4,hlt,aL hy];refine EF (EK hyo.s) λa b c1 _ ha hb=>?_;have back:∀{e':Env} {c':Nat} {o1:aH} {m:Int},V y/\52<=y.aJ/\y.aJ<=55->e' 1=.ptr 0 c0 4 0 0->e' 3=.I m->e' 4=.I ((i:Int)+1)->N e' [⟨false,c0,4,[x.enc]⟩,o1] c':=λhv f1 f3 f4=>
  hN _ _ (List.take 1 _) _ h (fN 1 _) ⟨_,λj z hj hz=>by
   rcases iA j i with h1|h1
   .exact hall j z h1 hz
   .have:j=i:=by omega
    subst this;rw[hy] at hz;cases hz;exact hv,f1,f3,f4,rfl⟩
 by_cases k52:y.aJ=52
 .have fin:a=true->b=true->y.aP.aG=[]->V y/\52<=y.aJ/\y.aJ<=55:=λh1 h2 h3=>by
   have hn:=ha h1;have ht:=hb h2;exact⟨.mk (by constructor<;>first|assumption|(intro hh;exfalso;omega)) λe he=>by rw[h3] at he;simp at he,by omega⟩
  by_cases hi0:i=0
  .subst hi0;by_cases hxk:x.aJ=50
   .by_cases hk:y.aP.aG=[]
    .simp[e1,e4,k52,hxk,hk];cases a
     .simp;exact b8
     cases b
     .simp;exact b8
     by_cases hm:0<m
     .simp[hm,e3];exact b8
     .simp[hm,e3,e4];refine back (m:=0) (fin rfl rfl hk) ?_ ?_ ?_<;>simp[aK,e1];simpa using hst
    .have hk':¬y.aP.aG.length=0:=by simpa using hk
     simp[e1,e4,k52,hxk,hk'];cases a<;>cases b<;>simp<;>exact b8
   .simp[e1,e4,k52,hxk];cases a<;>cases b<;>simp<;>exact b8
  .simp[e4,k52,hi0];cases a<;>cases b<;>simp<;>exact b8
 by_cases k53:y.aJ=53
 .have fin:a=true->b=true->y.aP.aG=[]->V y/\52<=y.aJ/\y.aJ<=55:=λh1 h2 h3=>by
   have hn:=ha h1;have ht:=hb h2;exact⟨.mk (by constructor<;>first|assumption|(intro hh;exfalso;omega)) λe he=>by rw[h3] at he;simp at he,by omega⟩
  by_cases hk:y.aP.aG=[]
  .simp[k53,hk];cases a
   .simp;exact b8
   cases b
   .simp;exact b8
   by_cases hm:1<m
   .simp[hm,e3];exact b8
   .simp[hm,e3,e4];refine back (m:=1) (fin rfl rfl hk) ?_ ?_ ?_<;>simp[aK,e1,hst]
  .have hk':¬y.aP.aG.length=0:=by simpa using hk
   simp[k53,hk'];cases a<;>cases b<;>simp<;>exact b8
 by_cases k54:y.aJ=54
 .by_cases hlen:y.aP.aG.length=1;rotate_left
  .have hlen':¬(y.aP.aG.length:Int)=1:=by omega
   simp[k54,hlen'];cases a<;>cases b<;>simp<;>exact b8
  obtain⟨v,hv⟩:=vG hlen;have hv0:y.aP.aG[0]?=some v:=by rw[hv];rfl
  simp[k54,hlen,aL hv0];refine bZ (fA _ _ _) .bool λ_ _=>?_;cases hq:cT v.aJ 1 3
  .simp;cases a<;>cases b<;>simp<;>exact b8
  have hq':=mN hq;simp[aL hv0];refine fR (JZ v (hyo.i v (bA hv0))).e (λhve c2 _=>?_) λc2 _=>?_;rotate_left
  .simp;cases a<;>cases b<;>simp<;>exact b8
  simp;cases a
  .simp;exact b8
  cases b
  .simp;exact b8
  have hn:=ha rfl;have ht:=hb rfl;have hf:y.aJ=54->∃z,y.aP.aG=[z]/\1<=z.aJ/\z.aJ<=3:=λ_=>⟨v,hv,hq'.1,hq'.2⟩
  have hsh:Sh y:=by constructor<;>first|assumption|(intro hh;exfalso;omega)
  have fin:V y/\52<=y.aJ/\y.aJ<=55:=⟨.mk hsh λe he=>by rw[hv] at he;simp at he;subst he;exact hve.1,by omega⟩
  by_cases hm:2<m
  .simp[hm,e3];exact b8
  .simp[hm,e3,e4];refine back (m:=2) fin ?_ ?_ ?_<;>simp[aK,e1,hst]
 by_cases k55:y.aJ=55
 .simp[k55];refine fR (MB (L:=y.aP) (λe he=>(JZ e (hyo.i e he)).b) hyo.i hyo.l) (λhu c2 _=>?_) λc2 _=>?_;rotate_left
  .simp;cases a<;>cases b<;>simp<;>exact b8
  simp;cases a
  .simp;exact b8
  cases b
  .simp;exact b8
  have hn:=ha rfl;have ht:=hb rfl;have hf:y.aJ=49\/y.aJ=55->Us false y.aP.aG:=λ_=>hu.1;have hsh:Sh y:=by constructor<;>first|assumption|(intro hh;exfalso;omega)
  have fin:V y/\52<=y.aJ/\y.aJ<=55:=⟨.mk hsh hu.2,by omega⟩
  by_cases hm:2<m
  .simp[hm,e3];exact b8
  .simp[hm,e3,e4];refine back (m:=2) fin ?_ ?_ ?_<;>simp[aK,e1,hst]
 simp[k52,k53,k54,k55];cases a<;>cases b<;>simp<;>exact b8
set_option maxHeartbeats 1000000 in
def N6 {x:aQ} (hx:cU 20000 x):bM aE 153 [.agg x.enc] (BQ (V x/\x.aJ=56/\x.iD<=600)):=by
 intro c0;have E:=hx.l;refine cO F153 ?_;simp[F153];refine fR (small_s hx) (λJ E _=>?_) λE _=>?_;rotate_left
 .simp;exact b8
 by_cases E:x.aJ=56;rotate_left
 .simp[E];exact b8
 by_cases T:x.bN=0;rotate_left
 .simp[E,T];exact b8
 by_cases Z:x.bR=[]
 rotate_left
 .simp[E,T,Z];exact b8
 simp[E,T,Z];refine b6 x.aP.aG.length (λi e H T=>(∀(j:Nat) (y:aQ),j<i->x.aP.aG[j]?=some y->V y/\(iZ y.aJ\/(49<=y.aJ/\y.aJ<=51)))/\e 1=.ptr 0 c0 4 0 0/\e 3=.I i/\H=[⟨false,c0,4,[x.enc]⟩]) ⟨λj y h=>by omega,rfl,rfl,rfl⟩ ?_;intro i e H c E ⟨E,e1,e3,W⟩ N hN;subst W;by_cases h:i<x.aP.aG.length;rotate_left
 .have hlt:¬(i:Int)<(x.aP.aG.length:Int):=by omega
  have ha:∀e,e∈x.aP.aG->V e/\(iZ e.aJ\/(49<=e.aJ/\e.aJ<=51)):=λe W=>by
   obtain⟨j,hj⟩:=lS.1 W;exact E j e (by have:=(bQ.1 hj).1;omega) hj
  have hn:0<=x.bN/\x.bN<=1000000000:=by omega
  have ht:rO x:=λ_ _=>by rw[Z];simp
  have hf:x.aJ=56->∀e,e∈x.aP.aG->iZ e.aJ\/(49<=e.aJ/\e.aJ<=51):=λ_ e W=>(ha e W).2;simp[e1,e3,hlt];exact jQ ⟨V.mk (by constructor<;>first|assumption|(intro hh;exfalso;omega)) λe W=>(ha e W).1,J⟩
 have hlt:(i:Int)<(x.aP.aG.length:Int):=by omega
 obtain⟨y,hy⟩:∃y,x.aP.aG[i]?=some y:=⟨_,bC h⟩
 have Z:=bA hy;have J:=hx.i y Z;have hst:=cD (i:=i) (n:=x.aP.aG.length) (by unfold mx;omega) h;have Z:∀{e':Env} {T:Nat} {o1:aH},V y/\(iZ y.aJ\/(49<=y.aJ/\y.aJ<=51))->e' 1=.ptr 0 c0 4 0 0->e' 3=.I ((i:Int)+1)->N e' [⟨false,c0,4,[x.enc]⟩,o1] T:=λhv f1 f3=>
  hN _ _ (List.take 1 _) _ h (fN 1 _) ⟨λj z hj hz=>by
   rcases iA j i with h1|h1
   .exact E j z h1 hz
   .have:j=i:=by omega
    subst this;rw[hy] at hz;cases hz;exact hv,f1,f3,rfl⟩
 simp[e1,e3,hlt,aL hy];refine EF (EK J.s) λa b c2 _ ha hb=>?_;simp;have E:∀(K:aD) (H:aC) (c:Nat),(∀q T,(q=true->VS y)->K (.bool q) H T)->bO aE 189 [.agg y.enc] H c K:=λK H c k=>
  fR (JZ y J).s (λhv T _=>k true T λ_=>hv) λT _=>k false T λh=>by cases h
 refine E _ _ _ λq E hq=>?_;by_cases T:y.aJ=49
 .cases a
  .simp[T];exact b8
  cases b
  .simp[T];exact b8
  simp[T];refine fR (MB (L:=y.aP) (λe W=>(JZ e (J.i e W)).b) J.i J.l) (λhu c2 _=>?_) λc2 _=>?_
  .have hn:=ha rfl;have ht:=hb rfl;have hf:y.aJ=49\/y.aJ=55->Us false y.aP.aG:=λ_=>hu.1;have hsh:Sh y:=by constructor<;>first|assumption|(intro hh;exfalso;omega)
   simp[e3];refine Z ⟨.mk hsh hu.2,.inr (by omega)⟩ ?_ ?_<;>simp[aK,e1,hst]
  .simp;exact b8
 by_cases E:y.aJ=50\/y.aJ=51
 .rcases E with E|E
  all_goals
   cases a
   .simp[E];exact b8
   cases b
   .simp[E];exact b8
   simp[E];refine fR (class_s J) (λhu c2 _=>?_) λc2 _=>?_
   .have hn:=ha rfl;have ht:=hb rfl;have hf:y.aJ=50\/y.aJ=51->∀e,e∈y.aP.aG->52<=e.aJ/\e.aJ<=55:=λ_ e W=>(hu e W).2;have hsh:Sh y:=by constructor<;>first|assumption|(intro hh;exfalso;omega)
    simp[e3];refine Z ⟨.mk hsh λe W=>(hu e W).1,.inr (by omega)⟩ ?_ ?_<;>simp[aK,e1,hst]
   .simp;exact b8
 simp only[not_or] at E;cases q
 .simp[T,E];exact b8
 .simp[e3,T,E];refine Z ⟨(hq rfl).1,.inl (hq rfl).2⟩ ?_ ?_<;>simp[aK,e1,hst]
set_option maxRecDepth 100000
def range_snoc (f:Nat->Bool) i:(List.range (i+1)).all f=((List.range i).all f&&f i):=by rw[List.range_succ,GF];simp
def TH:∀a:aQ,cU 20000 a->∀b:aQ,∃q:Bool,dA aE 229 [.agg a.enc,.agg b.enc] (.bool q):=by
 refine aQ.ind λa ih hx b=>?_;have E:=hx.l;by_cases E:a.aJ=b.aJ;rotate_left
 .exact⟨false,fO uN λc=>by
   simp[uN,E];exact aS ⟨rfl,rfl⟩⟩
 by_cases J:a.bN=b.bN;rotate_left
 .exact⟨false,fO uN λc=>by
   simp[uN,E,J];exact aS ⟨rfl,rfl⟩⟩
 by_cases d3:a.bR=b.bR;rotate_left
 .exact⟨false,fO uN λc=>by
   simp[uN,E,J,d3];exact aS ⟨rfl,rfl⟩⟩
 by_cases d4:a.aP.aG.length=b.aP.aG.length;rotate_left
 .have T:¬(a.aP.aG.length:Int)=(b.aP.aG.length:Int):=by omega
  exact⟨false,fO uN λc=>by
   simp[uN,E,J,d3,T];exact aS ⟨rfl,rfl⟩⟩
 have T:∀i:Nat,∃q:Bool,∀y z:aQ,a.aP.aG[i]?=some y->b.aP.aG[i]?=some z->dA aE 229 [.agg y.enc,.agg z.enc] (.bool q):=λi=>by
  cases W:a.aP.aG[i]? with
  |none=>exact⟨true,λy z h=>by cases h⟩
  |some y=>
   cases Z:b.aP.aG[i]? with
   |none=>exact⟨true,λy z _ h=>by cases h⟩
   |some z=>
    obtain⟨q,T⟩:=ih y (bA W) (hx.i y (bA W)) z;exact⟨q,λy' z' h1 h2=>by cases h1;cases h2;exact T⟩
 obtain⟨f,hf⟩:=Classical.axiomOfChoice T;refine⟨(List.range a.aP.aG.length).all f,fO uN λT=>?_⟩;simp[uN,E,J,d3,d4];refine b6 a.aP.aG.length (λi e H E=>(List.range i).all f=true/\e 2=.ptr 0 T 4 0 0/\e 3=.ptr 1 (T+1) 4 0 0/\e 5=.I i/\H=[⟨false,T,4,[a.enc]⟩,⟨false,T+1,4,[b.enc]⟩]) ⟨rfl,rfl,rfl,rfl,rfl⟩ ?_;intro i e H c E ⟨J,e2,e3,e5,E⟩ N hN;subst E;have E:f i=false->i<a.aP.aG.length->(List.range a.aP.aG.length).all f=false:=λh1 h2=>by
  rw[RE];exact⟨i,mJ.2 h2,by simp[h1]⟩
 by_cases h:i<a.aP.aG.length
 .have T:(i:Int)<(a.aP.aG.length:Int):=by omega
  obtain⟨y,W⟩:∃y,a.aP.aG[i]?=some y:=⟨_,bC h⟩
  obtain⟨z,Z⟩:∃z,b.aP.aG[i]?=some z:=⟨_,bC (by omega)⟩
  have hst:=cD (i:=i) (n:=a.aP.aG.length) (by unfold mx;omega) h;have hb:i<b.aP.aG.length:=by omega
  simp[e2,e3,e5,T,aL W,aL Z];refine bZ (hf i y z W Z) .bool λW _=>?_;cases hfi:f i
  .simp;exact aS ⟨by rw[<-d4,E hfi h],rfl⟩
  .simp[e5];refine hN _ _ _ _ h (bY _) ⟨by rw[range_snoc,J,hfi];rfl,?_,?_,?_,rfl⟩<;>simp[aK,e2,e3,hst]
 .have T:¬(i:Int)<(a.aP.aG.length:Int):=by omega
  have:i=a.aP.aG.length:=by omega
  subst this;have hb:¬a.aP.aG.length<b.aP.aG.length:=by omega
  simp[e2,e5,T];exact aS ⟨by rw[<-d4,J],rfl⟩
def root_s {x:aQ} (J:cU 20000 x):bM aE 230 [.agg x.enc] Nd:=by
 intro E;refine cO KV ?_;simp[KV];refine nE (λm e H T=>∃y:aQ,SizeOf.sizeOf y<=m/\cU 20000 y/\e 1=.ptr 0 E 4 0 0/\e 2=.ptr 1 (E+1) 4 0 0/\H=[⟨false,E,4,[y.enc]⟩,⟨false,E+1,4,[[.I 0,.I 0,.str [],.aU]]⟩]) _ ⟨x,bB _,J,rfl,rfl,rfl⟩ ?_;intro m e H c ⟨y,hy,E,T,J,W⟩ N hN;subst W;by_cases h1:y.aJ=7
 .by_cases h2:0<y.aP.aG.length
  .obtain⟨z,W⟩:∃z,y.aP.aG[0]?=some z:=⟨_,bC h2⟩
   have Z:(0:Int)<(y.aP.aG.length:Int):=by omega
   simp[T,J,h1,h2,aL W];exact hN (SizeOf.sizeOf z) _ _ _ _ (fM (sN (bA W)) hy) (bY _) ⟨z,bB _,E.get W,T,J,rfl⟩
  .have Z:¬(0:Int)<(y.aP.aG.length:Int):=by omega
   simp[T,J,h1,h2];exact aS ⟨rfl,y,rfl,E⟩
 .simp[T,J,h1];exact aS ⟨rfl,y,rfl,E⟩
def GR {L:SL aQ} {lo hi:Int} (E:L.aG.length<=20000):bM aE 193 [L.av 4 aQ.enc,.I lo,.I hi] Bo:=by
 intro E;refine cO F193 ?_;simp[F193];refine b6 L.aG.length (λi e H c'=>e 0=L.av 4 aQ.enc/\e 1=.I lo/\e 2=.I hi/\e 7=.I i/\H=[]) ⟨rfl,rfl,rfl,rfl,rfl⟩ ?_;intro i e H c E ⟨E,Z,W,T,hH⟩ N hN;subst hH;by_cases h:i<L.aG.length;rotate_left
 .have J:¬(i:Int)<(L.aG.length:Int):=by omega
  simp[E,T,J];exact aS ⟨rfl,_,rfl⟩
 have J:(i:Int)<(L.aG.length:Int):=by omega
 obtain⟨y,hy⟩:∃y,L.aG[i]?=some y:=⟨_,bC h⟩
 have hst:=cD (i:=i) (n:=L.aG.length) (by unfold mx;omega) h;simp[E,T,J];refine b6 i (λk e H c'=>e 0=L.av 4 aQ.enc/\e 1=.I lo/\e 2=.I hi/\e 7=.I i/\e 8=.I k/\H=[]) ⟨E,Z,W,T,rfl,rfl⟩ ?_;intro k e H c J ⟨E,Z,W,T,e8,hH⟩ J hN';subst hH;by_cases hk:k<i;rotate_left
 .simp[T,e8,hk];refine hN _ _ _ _ h (bY _) ⟨?_,?_,?_,?_,rfl⟩<;>simp[aK,E,Z,W,hst]
 obtain⟨z,hz⟩:∃z,L.aG[k]?=some z:=⟨_,bC (by omega)⟩
 have J:=cD (i:=k) (n:=L.aG.length) (by unfold mx;omega) (by omega);simp[E,Z,W,T,e8,hk,aL hy];refine xP (fA _ _ _) .bool λc1 _=>?_;cases cT y.aJ lo hi
 .simp[e8,J];refine hN' _ _ _ _ hk (bY _) ⟨?_,?_,?_,?_,?_,rfl⟩<;>simp[aK,E,Z,W,T]
 simp[E,Z,W,e8,aL hz];refine xP (fA _ _ _) .bool λc1 _=>?_;cases cT z.aJ lo hi
 .simp[e8,J];refine hN' _ _ _ _ hk (bY _) ⟨?_,?_,?_,?_,?_,rfl⟩<;>simp[aK,E,Z,W,T]
 by_cases ht:y.bR=z.bR
 .simp[E,T,e8,aL hy,aL hz,ht];exact aS ⟨rfl,_,rfl⟩
 .simp[E,T,e8,aL hy,aL hz,ht,J];refine hN' _ _ _ _ hk (bY _) ⟨?_,?_,?_,?_,?_,rfl⟩<;>simp[aK,E,Z,W,T]
def HL {P:Program} {H} {c} {K:aD} {a b:aQ} (h:cU 20000 a) (k:∀q E,c<=E->K (.bool q) H E):bO aE 229 [.agg a.enc,.agg b.enc] H c K:=by obtain⟨q,J⟩:=TH a h b;exact bZ J .bool λE J=>k q E J
def TI {P:Program} {H} {c} {K:aD} {a b:aQ} (h:cU 20000 a) (k:∀q E,c<=E->K (.bool q) H E):zC aE 229 [.agg a.enc,.agg b.enc] H c K:=by obtain⟨q,J⟩:=TH a h b;exact xP J .bool λE J=>k q E J
def selfN:aQ:=.mk 4 0 [116,104,105,115] .nil
def AU:([.I 4,.I 0,.str [116,104,105,115],.aU]:aF AV)=selfN.enc:=(aQ.oJ 4 0 [116,104,105,115] .nil).symm
set_option maxHeartbeats 1000000 in
def this_s {x:aQ} (hx:cU 20000 x) (E:V x):bM aE 192 [.agg x.enc] Bo:=by
 intro J;have J:=hx.l;have sh:=E.sh;refine cO F192 ?_;unfold F192;have J:∀{b:Bool} {H:aC} {E:Nat},cE (λr T _=>T=[]/\Bo r) (.bool b) H E:=aS ⟨rfl,_,rfl⟩;by_cases k1:x.aJ=24\/x.aJ=25\/x.aJ=40
 .rcases k1 with k|k|k
  all_goals
   simp[k,aR];exact J
 simp only[not_or] at k1;by_cases T:x.aJ=17
 .obtain⟨y,Z,_⟩:=sh.alias T;have E:x.aP.aG[0]?=some y:=by rw[Z];rfl
  by_cases W:x.bR=[116,104,105,115]
  .simp[T,W,aR];exact J
  .simp[T,W,aL E,aR,AU];refine HL (P:=aE) (hx.get E) λq c1 _=>?_;simp;exact J
 by_cases W:x.aJ=15\/x.aJ=16\/x.aJ=41
 .obtain⟨y,E,_⟩:=sh.MG W;rcases W with k|k|k
  all_goals
   simp[k,aL E,aR,AU];refine IJ (root_s (hx.get E)) λz c1 _ hz=>?_;simp[AU];refine HL (P:=aE) hz λq c1 _=>?_;simp;exact J
 by_cases k44:x.aJ=44
 .obtain⟨y,z,Z,_⟩:=sh.ZU k44;have E:x.aP.aG[0]?=some y:=by rw[Z];rfl
  simp[k44,aL E,aR,AU];refine HL (P:=aE) (hx.get E) λq c1 _=>?_;simp;exact J
 by_cases k36:x.aJ=36
 .obtain⟨⟨h3,h4⟩,_⟩:=sh.each k36;obtain⟨y,Z⟩:∃y,x.aP.aG[1]?=some y:=⟨_,bC (by omega)⟩
  obtain⟨z,hz⟩:∃z,x.aP.aG[x.aP.aG.length-2]?=some z:=⟨_,bC (by omega)⟩
  have E:IntKind.i64.wrap ((x.aP.aG.length:Int)-2)=((x.aP.aG.length-2:Nat):Int):=by rw[wrap64 (by omega) (by omega)];omega
  simp[k36,aL Z,aR,AU];refine TI (P:=aE) (hx.get Z) λq c1 _=>?_;cases q
  .simp[E,aL hz];refine TI (P:=aE) (hx.get hz) λq c1 _=>?_;cases q<;>simp<;>exact J
  .simp;exact J
 by_cases E:x.aJ=46
 .obtain⟨⟨h3,h4⟩,_⟩:=sh.yield E;obtain⟨y,Z⟩:∃y,x.aP.aG[0]?=some y:=⟨_,bC (by omega)⟩
  by_cases hlen:x.aP.aG.length=2
  .simp[E,hlen,aL Z,aR,AU];refine HL (P:=aE) (hx.get Z) λq c1 _=>?_;simp;exact J
  .have Z:¬(x.aP.aG.length:Int)=2:=by omega
   simp[E,Z,aR];exact J
 simp only[not_or] at W;simp[k1,T,W,k44,k36,E,aR];exact J
def breaks_s:∀x:aQ,cU 20000 x->V x->∀(E:Int) (a b:Bool),bM aE 155 [.agg x.enc,.I E,.bool a,.bool b] Bo:=by
 refine aQ.ind λx ih hx hv E a b c0=>?_;have hl:=hx.l;refine cO F155 ?_;unfold F155;dsimp only;have hmx:x.aP.aG.length<=mx:=by unfold mx;omega
 rw[dT,dT];refine gK (λe H c'=>∃q:Bool,e 1=.I E/\e 2=.bool a/\e 3=.bool b/\e 4=.ptr 0 c0 4 0 0/\e 9=.bool q/\H=[⟨false,c0,4,[x.enc]⟩]) ?_ ?_;rotate_left
 .intro K Z;by_cases T:E=1
  .simp[T];cases a
   .by_cases J:x.aJ=37
    .simp[J];exact Z _ _ _ ⟨_,by simp[aK,T],rfl,rfl,rfl,rfl,by simp⟩
    .simp[J];exact Z _ _ _ ⟨_,by simp[aK,T],rfl,rfl,rfl,rfl,by simp⟩
   .simp;exact Z _ _ _ ⟨_,by simp[aK,T],rfl,rfl,rfl,rfl,by simp⟩
  by_cases W:E=2
  .simp[W];cases b
   .simp;exact Z _ _ _ ⟨_,by simp[aK,W],rfl,rfl,rfl,rfl,by simp⟩
   .simp;exact Z _ _ _ ⟨_,by simp[aK,W],rfl,rfl,rfl,rfl,by simp⟩
  by_cases r3:E=3
  .simp[r3];refine hJ (this_s hx hv) λq c1 _=>?_;simp;exact Z _ _ _ ⟨_,by simp[aK,r3],rfl,rfl,rfl,rfl,by simp⟩
  by_cases r4:E=4
  .simp[r4];refine hJ (GR hl) λq c1 _=>?_;simp;exact Z _ _ _ ⟨_,by simp[aK,r4],rfl,rfl,rfl,rfl,by simp⟩
  by_cases J:E=5
  .simp[J];refine hJ (GR hl) λq c1 _=>?_;cases q
   .simp;refine hJ (GR hl) λq c1 _=>?_;cases q
    .simp;refine hJ (GR hl) λq c1 _=>?_;simp;exact Z _ _ _ ⟨_,by simp[aK,J],rfl,rfl,rfl,rfl,by simp⟩
    .simp;exact Z _ _ _ ⟨_,by simp[aK,J],rfl,rfl,rfl,rfl,by simp⟩
   .simp;exact Z _ _ _ ⟨_,by simp[aK,J],rfl,rfl,rfl,rfl,by simp⟩
  simp[T,W,r3,r4,J];exact Z _ _ _ ⟨_,rfl,rfl,rfl,rfl,rfl,by simp⟩
 intro e H c ⟨q,W,e2,e3,J,T,hH⟩;subst hH;refine gK (λe H c'=>∃a b:Bool,e 1=.I E/\e 2=.bool a/\e 3=.bool b/\e 4=.ptr 0 c0 4 0 0/\e 9=.bool q/\H=[⟨false,c0,4,[x.enc]⟩]) ?_ ?_;rotate_left
 .intro K Z;have k':∀{e':Env} {c':Nat} (a b:Bool),e' 1=.I E->e' 2=.bool a->e' 3=.bool b->e' 4=.ptr 0 c0 4 0 0->e' 9=.bool q->K e' [⟨false,c0,4,[x.enc]⟩] c':=λa b f1 f2 f3 f4 f9=>Z _ _ _ ⟨a,b,f1,f2,f3,f4,f9,rfl⟩;by_cases q35:x.aJ=35
  .simp[J,q35];refine k' true b ?_ ?_ ?_ ?_ ?_<;>simp[aK,W,e3,J,T]
  by_cases q36:x.aJ=36
  .simp[J,q36];refine k' true b ?_ ?_ ?_ ?_ ?_<;>simp[aK,W,e3,J,T]
  by_cases q45:x.aJ=45
  .simp[J,q45];refine k' false b ?_ ?_ ?_ ?_ ?_<;>simp[aK,W,e3,J,T]
  by_cases q49:x.aJ=49
  .simp[J,q49];refine k' false true ?_ ?_ ?_ ?_ ?_<;>simp[aK,W,J,T]
  by_cases Z:x.aJ=55
  .simp[J,Z];refine k' false true ?_ ?_ ?_ ?_ ?_<;>simp[aK,W,J,T]
  by_cases q23:x.aJ=23
  .simp[J,q23];refine k' false true ?_ ?_ ?_ ?_ ?_<;>simp[aK,W,J,T]
  simp[J,q35,q36,q45,q49,Z,q23];refine k' a b ?_ ?_ ?_ ?_ ?_<;>simp[aK,W,e2,e3,J,T]
 clear W e2 e3 J T;intro e H c ⟨a,b,W,e2,e3,J,T,hH⟩;subst hH;simp;refine b6 x.aP.aG.length (λi e H c'=>∃q:Bool,e 1=.I E/\e 2=.bool a/\e 3=.bool b/\e 4=.ptr 0 c0 4 0 0/\e 9=.bool q/\e 10=.I i/\H=[⟨false,c0,4,[x.enc]⟩]) ⟨q,W,e2,e3,J,T,rfl,rfl⟩ ?_;clear W e2 e3 J T;intro i e H c Z ⟨q,W,e2,e3,J,T,e10,hH⟩ N hN;subst hH;by_cases h:i<x.aP.aG.length;rotate_left
 .have Z:¬(i:Int)<(x.aP.aG.length:Int):=by omega
  simp[J,T,e10,Z];exact aS ⟨rfl,_,rfl⟩
 have Z:(i:Int)<(x.aP.aG.length:Int):=by omega
 obtain⟨y,hy⟩:∃y,x.aP.aG[i]?=some y:=⟨_,bC h⟩
 have hym:=bA hy;have hst:=cD (i:=i) (n:=x.aP.aG.length) hmx h;cases q
 .simp[W,e2,e3,J,T,e10,Z,aL hy];refine hJ (ih y hym (hx.i y hym) (hv.k y hym) E a b) λq c1 _=>?_;simp[e10];refine hN _ _ _ _ h (bY _) ⟨q,?_,?_,?_,?_,?_,?_,rfl⟩<;>simp[aK,W,e2,e3,J,hst]
 .simp[J,T,e10,Z];exact aS ⟨rfl,_,rfl⟩
def CsQ (x:aQ) (r:AV):Prop:=∃n:Int,r=.I n/\0<=n/\n<=5/\(n=0->V x/\x.aJ=56/\x.iD<=600)
def ZR {x:aQ} (T:cU 20000 x):bM aE 119 [.agg x.enc] (CsQ x):=by
 intro E;refine cO F119 ?_;simp[F119];refine fR (N6 T) (λW c1 _=>?_) λc1 _=>?_;rotate_left
 .simp;exact aS ⟨rfl,_,rfl,by decide,by decide,λh=>by simp at h⟩
 simp;refine b6 5 (λi e H J=>e 1=.ptr 0 E 4 0 0/\e 3=.I ((i+1:Nat):Int)/\H=[⟨false,E,4,[x.enc]⟩]) ⟨rfl,rfl,rfl⟩ ?_;intro i e H c E ⟨Z,J,E⟩ N hN;subst E;have hw:IntKind.i64.wrap (((i+1:Nat):Int)+1)=((i+1+1:Nat):Int):=by rw[wrap64 (by omega) (by omega)];omega
 by_cases h:i<5
 .have E:((i+1:Nat):Int)<=5:=by omega
  simp[Z,J,E,-Int.natCast_add];refine hJ (breaks_s x T W.1 _ false false) λq c1 _=>?_;cases q
  .simp[J,hw,-Int.natCast_add];exact hN _ _ _ _ h (bY _) ⟨Z,rfl,rfl⟩
  .simp[J,-Int.natCast_add];exact aS ⟨rfl,_,rfl,by omega,by omega,λh=>by omega⟩
 .have E:¬((i+1:Nat):Int)<=5:=by omega
  simp[J,E,-Int.natCast_add];exact aS ⟨rfl,_,rfl,by decide,by decide,λ_=>W⟩
set_option maxRecDepth 100000
def KM (r:AV):Prop:=∃(x:aQ) (E J:Int),r=.aX [.agg x.enc,.I E,.I J]/\cU 20000 x/\0<=E/\E<=11
def T9 {x:aQ} {code at_:Int} (h:cU 20000 x) (J:0<=code) (E:code<=11):KM (.aX [.agg x.enc,.I code,.I at_]):=⟨x,code,at_,rfl,h,J,E⟩
def M9 {code at_:Int} (J:0<=code) (E:code<=11):KM (.aX [.agg [.I 0,.I 0,.str [],.aU],.I code,.I at_]):=by
 have:=T9 (x:=vD) (code:=code) (at_:=at_) pQ J E
 rwa [DO] at this
def lex_c {P} {H} {c} {K:aD} {f} {Z} (hf:bM P f Z QO) (k:∀(T:SL dB) (E J:Int) (W:Nat),c<=W->T.aG.length<=5000->(∀t,t∈T.aG->rP 4000 t)->0<=E->E<=10->K (.aX [T.av 4 dB.enc,.I E,.I J]) H W):bO P f Z H c K:=
 cV hf λr W Z ⟨T,E,J,h,h1,h2,h3,h4⟩=>by subst h;exact⟨KF (XF T) .int .int,k T E J W Z h1 h2 h3 h4⟩
def psS_s {l:aA} (hl:l.length<=1048576):bM aE 118 [.str l] KM:=by
 intro c0;refine cO F118 ?_;simp[F118];refine lex_c (lex_s hl) λT code at_ c1 _ h1 h2 h3 h4=>?_;simp;by_cases hc:code=0;rotate_left
 .simp[hc];exact aS ⟨rfl,M9 h3 (by omega)⟩
 have hT:iG T (l.length:Int):=⟨h1,h2,by omega⟩
 have hs:(PS.mk 0 (-1)).ok T.aG.length:=⟨kH _,λh=>by simp at h⟩
 simp[hc,aR];refine PY (A:=[⟨false,c0,4,[[.I 0,.I 0,.str [],.aU]]⟩]) (B:=[PO T l.length c1 ⟨0,-1⟩]) (C:=[]) (scr_s hT hs _) (.cons .yT .nil) λr B' c2 _ ⟨s',h1,h2,h3,x,hx,hx2⟩=>?_;subst h1;subst hx;refine⟨rfl,h3,λo ho=>by simp at ho;subst ho;exact OK _ _ _ _,?_⟩;simp[PO];refine⟨λhb=>aS ⟨rfl,M9 (by decide) (by decide)⟩,λhb=>?_⟩;refine fR (N6 hx2) (λhv c3 _=>?_) λc3 _=>?_
 .simp;refine IJ (copyN_s x hx2) λy c4 _ hy=>?_;simp;exact aS ⟨rfl,T9 hy (by decide) (by decide)⟩
 .simp;exact aS ⟨rfl,M9 (by decide) (by decide)⟩
def ps_c {P} {H} {c} {K:aD} {f} {W} (Z:bM P f W KM) (k:∀(x:aQ) (E J:Int) (T:Nat),c<=T->cU 20000 x->0<=E->E<=11->K (.aX [.agg x.enc,.I E,.I J]) H T):bO P f W H c K:=
 cV Z λr T W ⟨x,E,J,h,h1,h2,Z⟩=>by subst h;exact⟨KF (yZ x) .int .int,k x E J T W h1 h2 Z⟩
def MuQ (p:aA) (r:AV):Prop:=∃(s:aA) (x:aQ) (E:Int),r=.aX [.agg (.str s::x.enc),.I E]/\cU 20000 x/\0<=E/\E<=30/\(E=0->V x/\x.aJ=56/\x.iD<=600/\s=p)
def mu_s {p l:aA} (hl:l.length<=1048576):bM aE 88 [.str p,.str l] (MuQ p):=by
 intro c0;refine cO F88 ?_;unfold F88;have h00:∀code:Int,0<=code->code<=30->code≠0->MuQ p (.aX [.agg [.str [],.I 0,.I 0,.str [],.aU],.I code]):=λcode h1 h2 h3=>⟨[],vD,code,by rw[DO],pQ,h1,h2,λh=>absurd h h3⟩
 simp;refine ps_c (psS_s hl) λx code at_ c1 _ hx h1 h2=>?_;simp;by_cases hc:code=0;rotate_left
 .simp[hc];exact aS ⟨rfl,h00 _ h1 (by omega) hc⟩
 simp[hc];refine cV (ZR hx) λr c' hc' ⟨n,h,h3,h4,h5⟩=>?_;subst h;refine⟨.int,?_⟩;have hw:IntKind.i64.wrap (20+n)=20+n:=wrap64 (by omega) (by omega);by_cases hn:n=0;rotate_left
 .simp[hn,hw];exact aS ⟨rfl,h00 _ (by omega) (by omega) (by omega)⟩
 simp[hn,aR];exact aS ⟨rfl,⟨p,x,0,rfl,hx,by decide,by decide,λ_=>⟨(h5 hn).1,(h5 hn).2.1,(h5 hn).2.2,rfl⟩⟩⟩
def yield_s:∀x:aQ,cU 20000 x->bM aE 129 [.agg x.enc] Bo:=by
 refine aQ.ind λx ih hx=>?_;intro J;refine cO F129 ?_;simp[F129];by_cases E:x.aJ=46
 .simp[E];exact aS ⟨rfl,_,rfl⟩
 simp[E];have W:=hx.l;refine b6 x.aP.aG.length (λi e H E=>e 1=.ptr 0 J 4 0 0/\e 3=.I i/\H=[⟨false,J,4,[x.enc]⟩]) ⟨rfl,rfl,rfl⟩ ?_;intro i e H c E ⟨Z,e3,E⟩ N hN;subst E;by_cases h:i<x.aP.aG.length;rotate_left
 .have E:¬(i:Int)<(x.aP.aG.length:Int):=by omega
  simp[Z,e3,E];exact aS ⟨rfl,_,rfl⟩
 have E:(i:Int)<(x.aP.aG.length:Int):=by omega
 obtain⟨y,hy⟩:∃y,x.aP.aG[i]?=some y:=⟨_,bC h⟩
 have J:=bA hy;have T:=cD (i:=i) (n:=x.aP.aG.length) (cL W (by decide)) h;by_cases W:y.aJ=23
 .simp[Z,e3,E,aL hy,W];exact hN _ _ _ _ h (bY _) ⟨Z,by simp[aK,T],rfl⟩
 .simp[Z,e3,E,aL hy,W];refine hJ (ih y J (hx.i y J)) λq E _=>?_;cases q
  .simp[e3];exact hN _ _ _ _ h (bY _) ⟨Z,by simp[aK,T],rfl⟩
  .simp;exact aS ⟨rfl,_,rfl⟩
structure dQ where
 Name:aA
 lQ:aA
 pI:Bool
 Init:aO
def dQ.enc (s:dQ):aF AV:=.str s.Name::.str s.lQ::.bool s.pI::s.Init.enc
@[simp] theorem dQ.len (s:dQ):s.enc.length=8:=by simp[dQ.enc]
@[simp] theorem dQ.all (s:dQ):s.enc.take 8=s.enc:=by rw[fJ];simp
@[simp] theorem dQ.g0 (s:dQ) (K:AV->Prop):aZ s.enc 0 K=K (.str s.Name):=by simp[dQ.enc]
@[simp] theorem dQ.g1 (s:dQ) (K:AV->Prop):aZ s.enc 1 K=K (.str s.lQ):=by simp[dQ.enc]
@[simp] theorem dQ.d3 (s:dQ):s.enc.drop 3=s.Init.enc:=by simp[dQ.enc]
def dQ.cells (s:dQ):∀a,a∈s.enc->a.cell=true:=λa E=>by
 simp[dQ.enc] at E;rcases E with rfl|rfl|rfl|h
 .rfl
 .rfl
 .rfl
 .exact aO.cells _ _ h
structure bG where
 Name:aA
 zJ:aA
 eS:SL dQ
 Methods:SL dJ
def bG.enc (s:bG):aF AV:=[.str s.Name,.str s.zJ,s.eS.av 8 dQ.enc,s.Methods.av 5 dJ.enc]
@[simp] theorem bG.len (s:bG):s.enc.length=4:=rfl
@[simp] theorem bG.all (s:bG):s.enc.take 4=s.enc:=rfl
@[simp] theorem bG.g0 (s:bG) (K:AV->Prop):aZ s.enc 0 K=K (.str s.Name):=by simp[bG.enc]
@[simp] theorem bG.g1 (s:bG) (K:AV->Prop):aZ s.enc 1 K=K (.str s.zJ):=by simp[bG.enc]
@[simp] theorem bG.g2 (s:bG) (K:AV->Prop):aZ s.enc 2 K=K (s.eS.av 8 dQ.enc):=by simp[bG.enc]
@[simp] theorem bG.g3 (s:bG) (K:AV->Prop):aZ s.enc 3 K=K (s.Methods.av 5 dJ.enc):=by simp[bG.enc]
def bG.cells (s:bG):∀a,a∈s.enc->a.cell=true:=by simp[bG.enc]
def XL (f:dQ):Av [] (.agg f.enc):=.agg λj a E=>by
 have h:=bA E;simp[dQ.enc] at h;rcases h with rfl|rfl|rfl|h
 .exact .str
 .exact .str
 .exact .bool
 .obtain⟨i,E⟩:=List.getElem?_of_mem h;cases eL f.Init with
  |agg J=>exact J i a E
  |any _ h=>exact .any _ h
def XJ (f:dJ):Av [] (.agg f.enc):=.agg λj a E=>by
 have h:=bA E;simp[dJ.enc] at h;rcases h with rfl|rfl|rfl|rfl|rfl
 .exact .str
 .exact .str
 .exact .str
 .exact .bool
 .exact .bool
def xF {α:Type} {enc:α->aF AV} {w} (h:∀x,Av [] (.agg (enc x))) (s:SL α):Av [] (s.av w enc):=by
 cases s with
 |nil=>exact .aU
 |mk t l=>
  refine .dX (by simp) λr j x a E J=>?_;obtain⟨e,T,rfl⟩:=fZ.1 (bA E);cases h e with
  |agg h=>exact h j a J
  |any _ h=>exact .any _ h
def EA (c:bG):Av [] (.agg c.enc):=.agg λj a E=>by
 have h:=bA E;simp[bG.enc] at h;rcases h with rfl|rfl|rfl|rfl
 .exact .str
 .exact .str
 .exact xF XL _
 .exact xF XJ _
def PV {P} {H} {c} {K:aD} {f} {J E} {Q:AV->Prop} (W:bM P f E Q) (T:fG H J E) (k:∀r E,c<=E->Q r->Av (aV H) r/\K r H E):bO P f J H c K:=
 B7 (W c) T λr O E W ⟨J,Z⟩ T T=>by
  subst J;obtain⟨T,J⟩:=k r E W Z;exact⟨r,.refl _,T,by simp,by simpa using J⟩
def JT {o c g:Nat} {x:aQ} (E:0<=x.bN/\x.bN<=1000000000) (Z:x.aJ=2->x.bR.length<=400):bM aE 197 [.agg x.enc] (Va (VM o c g)):=by
 intro W;refine cO F197 ?_;simp[F197];have E:∀{v:aO} {H:aC} {c':Nat},VM o c g v->cE (λr J _=>J=[]/\Va (VM o c g) r) (.agg v.enc) H c':=λh=>aS ⟨rfl,_,rfl,h⟩;by_cases T:x.aJ=1
 .simp[T];refine cX (pT _) (eL _) λc1 _=>?_;simp;exact E (.sc (by decide) (by omega) (by simp))
 by_cases J:x.aJ=2
 .simp[J];refine cX (nU _) (eL _) λc1 _=>?_;simp;exact E (.sc (by decide) (by decide) (Z J))
 by_cases Z:x.bN=0
 .simp[T,J,Z];have:=E (v:=sV 0 0 []) (H:=[⟨false,W,4,[x.enc]⟩,⟨false,W+1,5,[[.I 0,.I 0,.str [],.I 0,.aU]]⟩]) (c':=W+1+1) (.sc (by decide) (by decide) (by simp));rw[iB] at this;exact this
 simp[T,J,Z];refine cX (oL _) (eL _) λc1 _=>?_;simp;exact E (.sc (by decide) (by split<;>decide) (by simp))
def FcQ (cs:aF bG) (name:aA) (r:AV):Prop:=(r=.I (-1)/\∀x,x∈cs->x.Name≠name)\/∃(i:Nat) (x:bG),r=.I i/\cs[i]?=some x/\x.Name=name/\∀y,y∈cs.take i->y.Name≠name
def findC_s {cs:SL bG} {name} (T:cs.aG.length<=1048576):bM aE 127 [cs.av 4 bG.enc,.str name] (FcQ cs.aG name):=by
 intro E;refine cO F127 ?_;simp[F127];refine b6 cs.aG.length (λi e H E=>e 0=cs.av 4 bG.enc/\e 1=.str name/\e 5=.I i/\(∀x,x∈cs.aG.take i->x.Name≠name)/\H=[]) ⟨rfl,rfl,rfl,by simp,rfl⟩ ?_;intro i e H c E ⟨Z,e1,e5,W,E⟩ N hN;subst E;by_cases h:i<cs.aG.length
 .obtain⟨x,J⟩:∃x,cs.aG[i]?=some x:=⟨_,bC h⟩
  have E:(i:Int)<(cs.aG.length:Int):=by omega
  have hst:=cD (i:=i) (n:=cs.aG.length) (cL T (by decide)) h;by_cases T:x.Name=name
  .simp[Z,e1,e5,E,aL J,T];exact aS ⟨rfl,.inr ⟨i,x,rfl,J,T,W⟩⟩
  .simp[Z,e1,e5,E,aL J,T];refine hN _ _ _ _ h (bY _) ⟨Z,e1,by simp[aK,hst],?_,rfl⟩;rw[wB,J];intro y J;rcases dI.1 J with J|J
   .exact W y J
   .simp at J;subst J;exact T
 .have E:¬(i:Int)<(cs.aG.length:Int):=by omega
  simp[Z,e5,E];refine aS ⟨rfl,.inl ⟨rfl,?_⟩⟩;rw[fJ (by omega)] at W;exact W
section
variable {H:aC} {c:Nat} {K:aD} {cs:SL bG} {name:aA} {a:AV}
def qJ (J:View H a (cs.av 4 bG.enc)) (T:cs.aG.length<=1048576) (Z:∀E,c<=E->(∀x,x∈cs.aG->x.Name≠name)->K (.I (-1)) H E) (W:∀(i:Nat) x E,c<=E->cs.aG[i]?=some x->x.Name=name->(∀y,y∈cs.aG.take i->y.Name≠name)->K (.I i) H E):
  bO aE 127 [a,.str name] H c K:=
 PV (findC_s (cs:=cs) (name:=name) T) (.cons J (.refl _ _)) λr E T h=>by
  rcases h with⟨h,J⟩|⟨i,x,h,J,h2,h3⟩
  .subst h;exact⟨.int,Z E T J⟩
  .subst h;exact⟨.int,W i x E T J h2 h3⟩
end
def FmQ (cs:aF bG) (cl name:aA) (r:AV):Prop:=∃(m:dJ) (b:Bool),r=.aX [.agg m.enc,.bool b]/\(b=true->m.Name=name/\∃x,x∈cs/\x.Name=cl/\m∈x.Methods.aG)
def findM_s {cs:SL bG} {cl name} (J:cs.aG.length<=1048576) (hm:∀x,x∈cs.aG->x.Methods.aG.length<=1099511627776):bM aE 95 [cs.av 4 bG.enc,.str cl,.str name] (FmQ cs.aG cl name):=by
 intro E;refine cO F95 ?_;unfold F95;have m0:∀b:Bool,b=false->FmQ cs.aG cl name (.aX [.agg [.str [],.str [],.str [],.bool false,.bool false],.bool b]):=λb T=>⟨⟨[],[],[],false,false⟩,b,rfl,λh=>by rw[T] at h;cases h⟩
 simp;refine qJ (.refl _) J (λJ _ _=>?_) λi x J _ hx hn _=>?_
 .simp;refine b6 0 (λi e H c'=>e 8=.I (-1)/\e 6=.ptr 0 E 5 0 0/\H=[⟨false,E,5,[[.str [],.str [],.str [],.bool false,.bool false]]⟩]) ⟨rfl,rfl,rfl⟩ ?_;intro i e H c J ⟨T,W,hH⟩ N hN;subst hH;simp[T,W];exact aS ⟨rfl,m0 _ rfl⟩
 .have Z:=bA hx;have hml:=hm x Z;have J:(0:Int)<=(i:Int):=by omega
  simp;refine b6 x.Methods.aG.length (λk e H c'=>e 0=cs.av 4 bG.enc/\e 2=.str name/\e 8=.I i/\e 9=.I k/\e 6=.ptr 0 E 5 0 0/\H=[⟨false,E,5,[[.str [],.str [],.str [],.bool false,.bool false]]⟩]) ⟨rfl,rfl,rfl,rfl,rfl,rfl⟩ ?_;intro k e H c E ⟨e0,e2,T,e9,W,hH⟩ N hN;subst hH;by_cases h:k<x.Methods.aG.length
  .obtain⟨m,hm⟩:∃m,x.Methods.aG[k]?=some m:=⟨_,bC h⟩
   have E:(k:Int)<(x.Methods.aG.length:Int):=by omega
   have hst:=cD (i:=k) (n:=x.Methods.aG.length) (cL hml (by decide)) h;by_cases hq:m.Name=name
   .simp[e0,e2,T,e9,W,E,J,aL hx,aL hm,hq];exact aS ⟨rfl,m,true,rfl,λ_=>⟨hq,x,Z,hn,bA hm⟩⟩
   .simp[e0,e2,T,e9,W,E,J,aL hx,aL hm,hq];exact hN _ _ _ _ h (bY _) ⟨e0,e2,T,by simp[aK,hst],W,rfl⟩
  .have E:¬(k:Int)<(x.Methods.aG.length:Int):=by omega
   simp[e0,T,e9,W,E,J,aL hx];exact aS ⟨rfl,m0 _ rfl⟩
def FfQ (r:AV):Prop:=∃(m:dQ) (b:Bool),r=.aX [.agg m.enc,.bool b]
def findF_s {cs:SL bG} {cl name} (J:cs.aG.length<=1048576) (hm:∀x,x∈cs.aG->x.eS.aG.length<=1099511627776):bM aE 289 [cs.av 4 bG.enc,.str cl,.str name] FfQ:=by
 intro E;refine cO F289 ?_;unfold F289;have m0:∀b:Bool,FfQ (.aX [.agg [.str [],.str [],.bool false,.I 0,.I 0,.str [],.I 0,.aU],.bool b]):=λb=>⟨⟨[],[],false,sV 0 0 []⟩,b,by rw[dQ.enc,iB]⟩
 simp;refine qJ (.refl _) J (λJ _ _=>?_) λi x J _ Z J _=>?_
 .simp;refine b6 0 (λi e H c'=>e 8=.I (-1)/\e 6=.ptr 0 E 8 0 0/\H=[⟨false,E,8,[[.str [],.str [],.bool false,.I 0,.I 0,.str [],.I 0,.aU]]⟩]) ⟨rfl,rfl,rfl⟩ ?_;intro i e H c J ⟨T,W,hH⟩ N hN;subst hH;simp[T,W];exact aS ⟨rfl,m0 _⟩
 .have J:=bA Z;have hml:=hm x J;have J:(0:Int)<=(i:Int):=by omega
  simp;refine b6 x.eS.aG.length (λk e H c'=>e 0=cs.av 4 bG.enc/\e 2=.str name/\e 8=.I i/\e 9=.I k/\e 6=.ptr 0 E 8 0 0/\H=[⟨false,E,8,[[.str [],.str [],.bool false,.I 0,.I 0,.str [],.I 0,.aU]]⟩]) ⟨rfl,rfl,rfl,rfl,rfl,rfl⟩ ?_;intro k e H c E ⟨e0,e2,T,e9,W,hH⟩ N hN;subst hH;by_cases h:k<x.eS.aG.length
  .obtain⟨m,hm⟩:∃m,x.eS.aG[k]?=some m:=⟨_,bC h⟩
   have E:(k:Int)<(x.eS.aG.length:Int):=by omega
   have hst:=cD (i:=k) (n:=x.eS.aG.length) (cL hml (by decide)) h;by_cases hq:m.Name=name
   .simp[e0,e2,T,e9,W,E,J,aL Z,aL hm,hq];exact aS ⟨rfl,m,true,rfl⟩
   .simp[e0,e2,T,e9,W,E,J,aL Z,aL hm,hq];exact hN _ _ _ _ h (bY _) ⟨e0,e2,T,by simp[aK,hst],W,rfl⟩
  .have E:¬(k:Int)<(x.eS.aG.length:Int):=by omega
   simp[e0,T,e9,W,E,J,aL Z];exact aS ⟨rfl,m0 _⟩
def IS b x y:dA aE 271 [.bool b,.str x,.str y] (.bool (!b||decide (x=y))):=by refine fO F271 λc=>?_;unfold F271;cases b<;>simp<;>exact aS ⟨rfl,rfl⟩
def SD {cs:SL bG} {x y} (J:cs.aG.length<=1048576):bM aE 253 [cs.av 4 bG.enc,.str x,.str y] Bo:=by
 intro E;refine cO F253 ?_;simp[F253];refine b6 (cs.aG.length+1) (λk e H E=>∃z,e 0=cs.av 4 bG.enc/\e 1=.str z/\e 2=.str y/\e 7=.I k/\H=[]) ⟨x,rfl,rfl,rfl,rfl,rfl⟩ ?_;intro k e H c E ⟨z,T,e1,e2,Z,E⟩ N hN;subst E;by_cases h:k<cs.aG.length+1
 .have E:(k:Int)<=(cs.aG.length:Int):=by omega
  have W:=cD (i:=k) (n:=cs.aG.length+1) (cL (Nat.succ_le_succ J) (by decide)) h;simp[T,e1,Z,E];refine qJ (.refl _) J (λJ _ _=>?_) λi w J _ hw J _=>?_
  .simp;exact aS ⟨rfl,_,rfl⟩
  .have J:¬(i:Int)<0:=by omega
   by_cases hq:z=y
   .simp[e1,e2,J,hq];exact aS ⟨rfl,_,rfl⟩
   .simp[T,e1,e2,Z,J,hq,aL hw];exact hN _ _ _ _ h (bY _) ⟨w.zJ,T,rfl,e2,by simp[aK,W],rfl⟩
 .have E:¬(k:Int)<=(cs.aG.length:Int):=by omega
  simp[T,Z,E];exact aS ⟨rfl,_,rfl⟩
def declares_s {x:aQ} {name} (J:cU 20000 x):bM aE 195 [.agg x.enc,.str name] Bo:=by
 intro E;refine cO F195 ?_;simp[F195];have hl:=J.l;refine b6 x.aP.aG.length (λi e H J=>e 1=.str name/\e 2=.ptr 0 E 4 0 0/\e 5=.I i/\H=[⟨false,E,4,[x.enc]⟩]) ⟨rfl,rfl,rfl,rfl⟩ ?_;intro i e H c E ⟨Z,J,W,E⟩ N hN;subst E;by_cases h:i<x.aP.aG.length
 .obtain⟨y,hy⟩:∃y,x.aP.aG[i]?=some y:=⟨_,bC h⟩
  have E:(i:Int)<(x.aP.aG.length:Int):=by omega
  have T:=cD (i:=i) (n:=x.aP.aG.length) (cL hl (by decide)) h;by_cases hk:y.aJ=55
  .by_cases hq:y.bR=name
   .simp[Z,J,W,E,aL hy,hk,hq];exact aS ⟨rfl,_,rfl⟩
   .simp[Z,J,W,E,aL hy,hk,hq];exact hN _ _ _ _ h (bY _) ⟨Z,J,by simp[aK,T],rfl⟩
  .simp[J,W,E,aL hy,hk];exact hN _ _ _ _ h (bY _) ⟨Z,J,by simp[aK,T],rfl⟩
 .have E:¬(i:Int)<(x.aP.aG.length:Int):=by omega
  simp[J,W,E];exact aS ⟨rfl,_,rfl⟩
set_option maxRecDepth 100000
def B9 {P} {H:aC} {c} {K:aD} {f i:Nat} {ob} {la la'} {Q:aD} (hi:H[i]?=some ob) (hf:cA P f la' [ob] c Q) (hv:fG [] la la')
  (hQ:∀r H' c',Q r H' c'->∃ob',H'=[ob'])
  (k:∀r ob' c',c<=c'->Q r [ob'] c'->∃r',View [] r r'/\Av [] r'/\iX [] ob'/\K r' (H.set i ob') c'):bO P f la H c K:=by
 intro hn hlt;obtain⟨h1,h2⟩:=hv.spec;have hm:=bA hi;refine⟨[ob],[],la',Q,CP.2 hm,by simp,by simp[aV],h1,h2,hf,λr H' c' hc hq ho hd=>?_⟩;obtain⟨ob',rfl⟩:=hQ r H' c' hq;obtain⟨r',k1,k2,k3,k4⟩:=k r ob' c' hc hq;have hil:=(bQ.1 hi).1;have hpos:∀(j:Nat) (o:aH),(H.set i ob')[j]?=some o->(j=i/\o=ob')\/(j≠i/\H[j]?=some o):=λj o hj=>by
  rw[r8] at hj;by_cases e:i=j
  .rw[if_pos e,if_pos (by omega)] at hj;exact .inl ⟨e.symm,(oN hj).symm⟩
  .rw[if_neg e] at hj;exact .inr ⟨λh=>e h.symm,hj⟩
 have tg:∀(j:Nat) (o:aH),H[j]?=some o->(aV H)[j]?=some o.tag:=λj o hj=>by simp[aV,hj]
 have hne:∀(a b:Nat) (x y:aH),H[a]?=some x->H[b]?=some y->x.tag=y.tag->a=b:=λa b x y ha hb e=>by
  have h3:=tg a x ha;have h4:=tg b y hb;rw[e] at h3;exact(List.getElem?_inj (bQ.1 h3).1 hn).1 (h3.trans h4.symm)
 have hnew:∀(j:Nat) (x:aH),j≠i->H[j]?=some x->x.tag≠ob'.tag:=λj x hj hx e=>by
  by_cases hlt':ob'.tag<c
  .have:=ho ob'.tag hlt' (by simp[aV]);simp[aV] at this;exact hj (hne j i x ob hx hi (e.trans this))
  .have:=hlt x.tag (iJ (bA hx));omega
 refine⟨H.set i ob',r',λo h=>?_,?_,k1,by simpa[aV] using k2,λo _ h=>by simp at h;subst h;simpa[aV] using k3,k4⟩
 .obtain⟨j,hj⟩:=List.getElem?_of_mem h;rcases hpos j o hj with⟨_,h3⟩|⟨h3,h4⟩
  .exact .inl (by simp[h3])
  .refine .inr ⟨bA h4,λh5=>?_⟩;simp[aV] at h5;exact h3 (hne j i o ob h4 hi h5)
 .refine FZ.2 λa b ha hb hab e=>?_;have ha':a<(H.set i ob').length:=by simpa[aV] using ha
  have hb':b<(H.set i ob').length:=by simpa[aV] using hb
  obtain⟨x,hx⟩:∃x,(H.set i ob')[a]?=some x:=⟨_,bC ha'⟩
  obtain⟨y,hy⟩:∃y,(H.set i ob')[b]?=some y:=⟨_,bC hb'⟩
  have e':x.tag=y.tag:=by
   have h1:=(bQ.1 hx).2;have h2:=(bQ.1 hy).2;simp only[aV,List.getElem_map] at e;rw[h1,h2] at e;exact e
  rcases hpos a x hx with⟨h3,h4⟩|⟨h3,h4⟩
  .rcases hpos b y hy with⟨h5,h6⟩|⟨h5,h6⟩
   .omega
   .subst h4;exact hnew b y h5 h6 e'.symm
  .rcases hpos b y hy with⟨h5,h6⟩|⟨h5,h6⟩
   .subst h6;exact hnew a x h3 h4 e'
   .have:=hne a b x y h4 h6 e';omega
structure FN (N:List aA) (f:dQ):Prop where
 n:f.Name∈N
 nl:f.Name.length<=20000
 ol:f.lQ.length<=20000
 v:VM 0 0 0 f.Init
structure FL (N:List aA) (L:List dQ):Prop where
 d:(L.map dQ.Name).Nodup
 a:∀f,f∈L->FN N f
def IG {α:Type} [DecidableEq α]:∀(l m:aF α),l.Nodup->(∀x,x∈l->x∈m)->l.length<=m.length
 |[],m,_,_=>kH _
 |a::l,m,hd,hs=>by
  have ha:=hs a (by simp);obtain⟨h1,h2⟩:=qA.1 hd;have:=IG l (m.erase a) h2 λx hx=>(List.mem_erase_of_ne (λe=>by subst e;exact h1 hx)).2 (hs x (by simp[hx]));rw[List.length_erase_of_mem ha] at this;have hp:0<m.length:=List.length_pos_of_mem ha;simp only[lE];omega
def FL.len {N:aF aA} {L:aF dQ} (h:FL N L):L.length<=N.length:=by
 have:=IG _ N h.d λx E=>by obtain⟨f,J,rfl⟩:=fZ.1 E;exact(h.a f J).n
 simpa using this
def FL.snoc {N} {L} {f:dQ} (h:FL N L) (W:FN N f) (T:∀x,x∈L->x.Name≠f.Name):FL N (L++[f]):=
 ⟨by rw[qB];exact mI.2 ⟨h.d,by simp,λa Z b J=>by obtain⟨x,E,rfl⟩:=fZ.1 Z;simp at J;subst J;exact T x E⟩,
  λx E=>by rcases dI.1 E with E|E;exact h.a x E;simp at E;subst E;exact W⟩
def FL.set {N} {L:aF dQ} {f x:dQ} {i:Nat} (h:FL N L) (T:FN N f) (E:L[i]?=some x) (J:x.Name=f.Name):FL N (L.set i f):=
 ⟨by
  have:(L.set i f).map dQ.Name=L.map dQ.Name:=by
   rw[lT,<-J];refine Q8 λj=>?_;rw[r8];by_cases e:i=j
   .subst e;rw[if_pos rfl,if_pos (by simpa using (bQ.1 E).1)];simp[E]
   .simp[e]
  rw[this];exact h.d,λy E=>by
  rcases rZ E with E|E
  .exact h.a y E
  .subst E;exact T⟩
def PutQ (N:aF aA) (L:aF dQ) (n p:aA) (T:AV) (r:AV) (W:aC) (_:Nat):Prop:=
 ∃(J:Nat) (E:aF dQ) (b:Bool),W=[⟨false,J,8,E.map dQ.enc⟩]/\r=.aX [.agg [.str n,.str p,.ref 0 J 8 E.length,T],.bool b]/\FL N E/\L.length<=E.length
def put19_s {N:aF aA} {L:aF dQ} {f:dQ} {n p} {t c0} {E:AV} (J:E.cell=true) (T:N.length<=10000000000) (hL:FL N L) (hf:FN N f):
  cA aE 194 [.agg [.str n,.str p,.ref 0 t 8 L.length,E],.agg f.enc] [⟨false,t,8,L.map dQ.enc⟩] c0 (PutQ N L n p E):=by
 have J:=cL hL.len T;refine cO F194 ?_;simp[F194];refine b6 L.length (λi e H T=>e 2=.ptr 1 c0 4 0 0/\e 3=.ptr 2 (c0+1) 8 0 0/\e 4=.ptr 3 (c0+1+1) 4 0 0/\e 6=.I i/\(∀x,x∈L.take i->x.Name≠f.Name)/\
  H=[⟨false,t,8,L.map dQ.enc⟩,⟨false,c0,4,[[.str n,.str p,.ref 0 t 8 L.length,E]]⟩,⟨false,c0+1,8,[f.enc]⟩,⟨false,c0+1+1,4,[[.str [],.str [],.aU,.aU]]⟩]) ⟨rfl,rfl,rfl,rfl,by simp,rfl⟩ ?_
 intro i e H c E ⟨Z,W,e4,e6,hn,E⟩ P hP;subst E;by_cases h:i<L.length
 .obtain⟨x,T⟩:∃x,L[i]?=some x:=⟨_,bC h⟩
  have E:(i:Int)<(L.length:Int):=by omega
  have hst:=cD (i:=i) (n:=L.length) (cL J (by decide)) h;have hg:(L.map dQ.enc)[i]?=some x.enc:=by simp[T]
  by_cases J:x.Name=f.Name
  .simp[Z,W,e4,e6,E,aL hg,J];refine fI (Hk:=[⟨false,t,8,(L.map dQ.enc).set i f.enc⟩]) (by simp) (.refl _) ⟨t,L.set i f,_,by rw[lT],by rw[List.length_set],hL.set hf T J,by simp⟩
  .simp[Z,W,e6,E,aL hg,J];refine hP _ _ _ _ h (bY _) ⟨Z,W,e4,by simp[aK,hst],?_,rfl⟩;rw[wB,T];intro y T;rcases dI.1 T with T|T
   .exact hn y T
   .simp at T;subst T;exact J
 .have E:¬(i:Int)<(L.length:Int):=by omega
  rw[fJ (by omega)] at hn;simp[Z,W,e4,e6,E];refine⟨by omega,by unfold mx;omega,?_⟩;simp[aR];refine fI (Hk:=[⟨false,c+1,8,L.map dQ.enc++[f.enc]⟩]) (by simp) (.refl _) ⟨c+1,L++[f],true,by simp,by simp,hL.snoc hf hn,by simp⟩
structure FJ (N:List aA) (D:aA->aA->Prop) (f:dJ):Prop where
 n:f.Name∈N
 nl:f.Name.length<=20000
 ol:f.lQ.length<=20000
 fl:f.fX.length<=20000
 d:D f.Name f.fX
structure ML (N:List aA) (D:aA->aA->Prop) (L:List dJ):Prop where
 d:(L.map dJ.Name).Nodup
 a:∀f,f∈L->FJ N D f
def ML.len {N:aF aA} {D:aA->aA->Prop} {L:aF dJ} (h:ML N D L):L.length<=N.length:=by
 have:=IG _ N h.d λx E=>by obtain⟨f,J,rfl⟩:=fZ.1 E;exact(h.a f J).n
 simpa using this
def ML.snoc {N} {D:aA->aA->Prop} {L} {f:dJ} (h:ML N D L) (W:FJ N D f) (T:∀x,x∈L->x.Name≠f.Name):ML N D (L++[f]):=
 ⟨by rw[qB];exact mI.2 ⟨h.d,by simp,λa Z b J=>by obtain⟨x,E,rfl⟩:=fZ.1 Z;simp at J;subst J;exact T x E⟩,
  λx E=>by rcases dI.1 E with E|E;exact h.a x E;simp at E;subst E;exact W⟩
def ML.set {N} {D:aA->aA->Prop} {L:aF dJ} {f x:dJ} {i:Nat} (h:ML N D L) (T:FJ N D f) (E:L[i]?=some x) (J:x.Name=f.Name):ML N D (L.set i f):=
 ⟨by
  have:(L.set i f).map dJ.Name=L.map dJ.Name:=by
   rw[lT,<-J];refine Q8 λj=>?_;rw[r8];by_cases e:i=j
   .subst e;rw[if_pos rfl,if_pos (by simpa using (bQ.1 E).1)];simp[E]
   .simp[e]
  rw[this];exact h.d,λy E=>by
  rcases rZ E with E|E
  .exact h.a y E
  .subst E;exact T⟩
def GiveQ (N:aF aA) (D:aA->aA->Prop) (L:aF dJ) (n p:aA) (T:AV) (r:AV) (W:aC) (_:Nat):Prop:=
 ∃(J:Nat) (E:aF dJ) (b:Bool),W=[⟨false,J,5,E.map dJ.enc⟩]/\r=.aX [.agg [.str n,.str p,T,.ref 0 J 5 E.length],.bool b]/\ML N D E/\L.length<=E.length
def give19_s {N:aF aA} {D:aA->aA->Prop} {L:aF dJ} {f:dJ} {n p} {t c0} {E:AV} (J:E.cell=true) (T:N.length<=10000000000) (hL:ML N D L) (hf:FJ N D f):
  cA aE 196 [.agg [.str n,.str p,E,.ref 0 t 5 L.length],.agg f.enc] [⟨false,t,5,L.map dJ.enc⟩] c0 (GiveQ N D L n p E):=by
 have J:=cL hL.len T;refine cO F196 ?_;simp[F196];refine b6 L.length (λi e H T=>e 2=.ptr 1 c0 4 0 0/\e 3=.ptr 2 (c0+1) 5 0 0/\e 4=.ptr 3 (c0+1+1) 4 0 0/\e 6=.I i/\(∀x,x∈L.take i->x.Name≠f.Name)/\
  H=[⟨false,t,5,L.map dJ.enc⟩,⟨false,c0,4,[[.str n,.str p,E,.ref 0 t 5 L.length]]⟩,⟨false,c0+1,5,[f.enc]⟩,⟨false,c0+1+1,4,[[.str [],.str [],.aU,.aU]]⟩]) ⟨rfl,rfl,rfl,rfl,by simp,rfl⟩ ?_
 intro i e H c E ⟨Z,W,e4,e6,hn,E⟩ P hP;subst E;by_cases h:i<L.length
 .obtain⟨x,T⟩:∃x,L[i]?=some x:=⟨_,bC h⟩
  have E:(i:Int)<(L.length:Int):=by omega
  have hst:=cD (i:=i) (n:=L.length) (cL J (by decide)) h;have hg:(L.map dJ.enc)[i]?=some x.enc:=by simp[T]
  by_cases J:x.Name=f.Name
  .simp[Z,W,e4,e6,E,aL hg,J];refine fI (Hk:=[⟨false,t,5,(L.map dJ.enc).set i f.enc⟩]) (by simp) (.refl _) ⟨t,L.set i f,_,by rw[lT],by rw[List.length_set],hL.set hf T J,by simp⟩
  .simp[Z,W,e6,E,aL hg,J];refine hP _ _ _ _ h (bY _) ⟨Z,W,e4,by simp[aK,hst],?_,rfl⟩;rw[wB,T];intro y T;rcases dI.1 T with T|T
   .exact hn y T
   .simp at T;subst T;exact J
 .have E:¬(i:Int)<(L.length:Int):=by omega
  rw[fJ (by omega)] at hn;simp[Z,W,e4,e6,E];refine⟨by omega,by unfold mx;omega,?_⟩;simp[aR];refine fI (Hk:=[⟨false,c+1,5,L.map dJ.enc++[f.enc]⟩]) (by simp) (.refl _) ⟨c+1,L++[f],true,by simp,by simp,hL.snoc hf hn,by simp⟩
end A
end Go.Proofs.YtbdgahjfipdeoaaGreatDoor
