import Derived.Test.YtbdgahjfipdeoaaGreatDoorB13
/- FnResponses: a part of its proof. No condition. -/
set_option linter.all false
set_option maxRecDepth 100000
namespace Go.Proofs.YtbdgahjfipdeoaaGreatDoor
namespace A
structure CK (N:List aA) (D:aA->aA->Prop) (x:bG):Prop where
 nl:x.Name.length<=20000
 pl:x.zJ.length<=20000
 f:FL N x.eS.aG
 m:ML N D x.Methods.aG
def qN:bG:=⟨[],[],.nil,.nil⟩
def B5 {N} {D:aA->aA->Prop}:CK N D qN:=⟨by simp[qN],by simp[qN],⟨by simp[qN],λf E=>by simp[qN] at E⟩,⟨by simp[qN],λf E=>by simp[qN] at E⟩⟩
def CnQ (N:aF aA) (D:aA->aA->Prop) (r:AV):Prop:=∃(x:bG) (E:Int),r=.aX [.agg x.enc,.I E]/\CK N D x/\0<=E/\E<=5
def AH {S} {a b d e a' b' d' e':AV} (ha:a'.cell=true) (hb:b'.cell=true) (hd:d'.cell=true) (he:e'.cell=true) (h1:View S a a') (h2:View S b b') (h3:View S d d') (h4:View S e e'):View S (.agg [a,b,d,e]) (.agg [a',b',d',e']):=
 .agg rfl (λj x hx=>by
  have:=bA hx;simp at this;rcases this with rfl|rfl|rfl|rfl<;>assumption) λj x x' hx hx'=>by
  match j,hx,hx' with
  |0,hx,hx'=>simp at hx hx';subst hx;subst hx';exact h1
  |1,hx,hx'=>simp at hx hx';subst hx;subst hx';exact h2
  |2,hx,hx'=>simp at hx hx';subst hx;subst hx';exact h3
  |3,hx,hx'=>simp at hx hx';subst hx;subst hx';exact h4
  |j+4,hx,hx'=>simp at hx
def aaB {a b d e} (E:Av [] a) (E:Av [] b) (E:Av [] d) (E:Av [] e):Av [] (.agg [a,b,d,e]):=.agg λj x E=>by
 have:=bA E;simp at this;rcases this with rfl|rfl|rfl|rfl<;>assumption
def KG {α:Type} {enc:α->aF AV} (h:∀x,Av [] (.agg (enc x))) m t w (L:aF α):iX [] ⟨m,t,w,L.map enc⟩:=λr j x a E J=>by
 obtain⟨y,T,rfl⟩:=fZ.1 (bA E);cases h y with
 |agg E=>exact E j a J
 |any _ h=>exact .any _ h
section
variable {N:aF aA} {D:aA->aA->Prop} {H:aC} {c i t k:Nat} {K:aD} {n p:aA} {ma:AV}
def TY {L:aF dQ} {f:dQ} (hN:N.length<=10000000000) (hH:H[i]?=some ⟨false,t,8,L.map dQ.enc⟩) (E:k=L.length) (T:ma.cell=true) (hav:Av [] ma) (hL:FL N L) (J:FN N f)
  (kk:∀Z W b c',c<=c'->FL N W->K (.aX [.agg [.str n,.str p,.ref i Z 8 (List.length W),ma],.bool b]) (H.set i ⟨false,Z,8,List.map dQ.enc W⟩) c'):
  bO aE 194 [.agg [.str n,.str p,.ref i t 8 k,ma],.agg f.enc] H c K:=by
 subst E;refine B9 hH (put19_s (n:=n) (p:=p) T hN hL J) (.cons (AH rfl rfl rfl T (.refl _) (.refl _) .name (.refl _)) (.refl _ _)) (λr E c' ⟨Z,W,b,h,_⟩=>⟨_,h⟩) λr E c' hc ⟨Z,W,b,E,J,h3,h4⟩=>?_;subst J;simp at E;subst E;refine⟨.aX [.agg [.str n,.str p,.ref i Z 8 W.length,ma],.bool b],.aX rfl λj x E J E=>?_,hY (aaB .str .str .ref hav) .bool,KG XL _ _ _ _,kk Z W b c' hc h3⟩
 match j,J,E with
 |0,J,E=>simp at J E;subst J;subst E;exact AH rfl rfl rfl T (.refl _) (.refl _) .name (.refl _)
 |1,J,E=>simp at J E;subst J;subst E;exact .refl _
 |j+2,J,E=>simp at J
def W6 {L:aF dJ} {f:dJ} (hN:N.length<=10000000000) (hH:H[i]?=some ⟨false,t,5,L.map dJ.enc⟩) (E:k=L.length) (T:ma.cell=true) (hav:Av [] ma) (hL:ML N D L) (J:FJ N D f)
  (kk:∀Z W b c',c<=c'->ML N D W->K (.aX [.agg [.str n,.str p,ma,.ref i Z 5 (List.length W)],.bool b]) (H.set i ⟨false,Z,5,List.map dJ.enc W⟩) c'):
  bO aE 196 [.agg [.str n,.str p,ma,.ref i t 5 k],.agg f.enc] H c K:=by
 subst E;refine B9 hH (give19_s (n:=n) (p:=p) T hN hL J) (.cons (AH rfl rfl T rfl (.refl _) (.refl _) (.refl _) .name) (.refl _ _)) (λr E c' ⟨Z,W,b,h,_⟩=>⟨_,h⟩) λr E c' hc ⟨Z,W,b,E,J,h3,h4⟩=>?_;subst J;simp at E;subst E;refine⟨.aX [.agg [.str n,.str p,ma,.ref i Z 5 W.length],.bool b],.aX rfl λj x E J E=>?_,hY (aaB .str .str hav .ref) .bool,KG XJ _ _ _ _,kk Z W b c' hc h3⟩
 match j,J,E with
 |0,J,E=>simp at J E;subst J;subst E;exact AH rfl rfl T rfl (.refl _) (.refl _) (.refl _) .name
 |1,J,E=>simp at J E;subst J;subst E;exact .refl _
 |j+2,J,E=>simp at J
end
def putOwn (f:dQ) s:aR f.enc 1 [.str s]=(dQ.mk f.Name s f.pI f.Init).enc:=by simp[aR,dQ.enc]
def putOwnM (f:dJ) s:aR f.enc 1 [.str s]=(dJ.mk f.Name s f.fX f.pI f.Static).enc:=by simp[aR,dJ.enc]
def LC (N:aF aA) (D:aA->aA->Prop) (x:aQ) (p:bG) (c0 J:Nat) (tb:Nat) (B:aF bG) (X:aC) (e:Env) (H:aC):Prop:=
 ∃(t E:Nat) (L:aF dQ) (M:aF dJ),e 2=.ref 0 tb 4 B.length/\e 3=.ptr 1 c0 4 0 0/\e 6=.ptr 3 (c0+1+1) 4 0 0/\e 8=.ptr 4 J 4 0 0/\(∃q,e 9=.bool q)/\FL N L/\ML N D M/\
  H=⟨false,tb,4,B.map bG.enc⟩::⟨false,c0,4,[x.enc]⟩::⟨false,c0+1,4,[p.enc]⟩::⟨false,c0+1+1,4,[[.str [],.str [],.aU,.aU]]⟩::⟨false,J,4,[[.str x.bR,.str p.Name,.ref 5 t 8 L.length,.ref 6 E 5 M.length]]⟩::⟨false,t,8,L.map dQ.enc⟩::⟨false,E,5,M.map dJ.enc⟩::X
def land64 (a b:Int):Int:=IntKind.i64.wrap (BitVec.ofInt 64 a &&& BitVec.ofInt 64 b).toNat
def intW_and (a b:Int) (K:AV->Prop):lJ .and .i64 a b K=K (.I (land64 a b)):=rfl
def ZL {H} {n p} {i j t E a b} {L:aF dQ} {M:aF dJ} (Z:(⟨false,t,8,L.map dQ.enc⟩:aH)∈H) (W:(⟨false,E,5,M.map dJ.enc⟩:aH)∈H) (T:a=L.length) (J:b=M.length):
  View H (.agg [.str n,.str p,.ref i t 8 a,.ref j E 5 b]) (.agg (bG.mk n p (.mk t L) (.mk E M)).enc):=
 AH rfl rfl (nI _ _ _) (nI _ _ _) (.refl _) (.refl _) (jK Z T.symm λx _=>dQ.cells x) (jK W J.symm λx _=>dJ.cells x)
def fin_cls {Q:AV->Prop} {H:aC} {c':Nat} {n p:aA} {i j t E a b:Nat} {L:aF dQ} {M:aF dJ} {code:Int} (ha:a=L.length) (hb:b=M.length)
  {o:aH} {J:aC} (hH:H=o::J) (Z:(aV H).Nodup) (W:(⟨false,t,8,L.map dQ.enc⟩:aH)∈J) (T:(⟨false,E,5,M.map dJ.enc⟩:aH)∈J)
  (h:Q (.aX [.agg (bG.mk n p (.mk t L) (.mk E M)).enc,.I code])):cE (λr H' _=>H'=[o]/\Q r) (.aX [.agg [.str n,.str p,.ref i t 8 a,.ref j E 5 b],.I code]) H c':=by
 subst hH;refine⟨J,[o],[o],_,by simp,.refl _ _,λo h=>by simp[h],λt J=>by simp[aV] at J Z ⊢;subst J;exact Z.1,.aX (l':=[.agg (bG.mk n p (.mk t L) (.mk E M)).enc,.I code]) rfl λk x E J E=>?_,rfl,h⟩
 match k,J,E with
 |0,J,E=>simp at J E;subst J;subst E;exact ZL W T ha hb
 |1,J,E=>simp at J E;subst J;subst E;exact .refl _
 |k+2,J,E=>simp at J
def build_s {N:aF aA} {D:aA->aA->Prop} {x:aQ} {p:bG} {B:aF bG} {tb c0:Nat} (hN:N.length<=10000000000) (hx:cU 20000 x) (hv:V x)
  (h54:∀y,y∈x.aP.aG->y.bR∈N) (h55:∀y,y∈x.aP.aG->y.aJ=55->D y.bR x.bR) (hp:CK N D p) (hts:∀y,y∈B->CK N D y) (htl:B.length<=1048576):
  cA aE 157 [.agg x.enc,.agg p.enc,.ref 0 tb 4 B.length] [⟨false,tb,4,B.map bG.enc⟩] c0 (λr H' _=>H'=[⟨false,tb,4,B.map bG.enc⟩]/\CnQ N D r):=by
 refine cN F157 λ_ _=>?_
 unfold F157
 have hfl:=cL hp.f.len hN
 have hml:=cL hp.m.len hN
 have hxl:=hx.l
 simp[aR]
 refine⟨by omega,by unfold mx;omega,by omega,by unfold mx;omega,?_⟩
 refine b6 x.aP.aG.length (λi e H c'=>e 10=.int .i64 i/\LC N D x p c0 (c0+1+1+1) tb B [] e H) ?_ ?_
 .refine⟨by simp[aK],_,_,p.eS.aG,p.Methods.aG,by simp[aK,gZ],by simp[aK],by simp[aK],by simp[aK],by simp[aK],hp.f,hp.m,rfl⟩
 intro i e H c hi ⟨e10,t,tm,L,M,e2,e3,e6,e8,⟨q,e9⟩,hL,hM,hH⟩ P hP
 subst hH
 by_cases h:i<x.aP.aG.length
 .obtain⟨y,hy⟩:∃y,x.aP.aG[i]?=some y:=⟨_,bC h⟩
  have hym:=bA hy
  have hlt:(i:Int)<(x.aP.aG.length:Int):=by omega
  have hst:=cD (i:=i) (n:=x.aP.aG.length) (cL hxl (by decide)) h
  by_cases hk:y.aJ=53
  rotate_left
  .simp[e3,e10,hlt,aL hy,hk]
   exact hP _ _ _ _ h (fN 7 _) ⟨by simp[aK,hst],t,tm,L,M,by simp[aK,e2],by simp[aK,e3],by simp[aK,e6],by simp[aK,e8],by simp[aK,e9],hL,hM,rfl⟩
  simp[e2,e3,e10,hlt,aL hy,hk]
  refine qJ (cs:=.mk tb B) (jK (by simp) rfl λx _=>bG.cells x) htl (λc1 _ _=>?_) λk z c1 _ hz hzn _=>?_
  .simp[e6]
   exact λ_ _=>fI (Hk:=[⟨false,tb,4,B.map bG.enc⟩]) (by simp) (.refl _) ⟨rfl,qN,3,rfl,B5,by decide,by decide⟩
  have hzm:z∈B:=bA hz
  have hkB:k<B.length:=(bQ.1 hz).1
  have hz:(B.map bG.enc)[k]?=some z.enc:=by rw[kL];exact congrArg _ hz
  have hzk:=hts z hzm
  have hzf:=cL hzk.f.len hN
  have hzl:=cL hzk.m.len hN
  have hk0:¬(k:Int)<0:=by omega
  simp[hk0]
  refine b6 z.eS.aG.length (λj e H c'=>e 10=.int .i64 i/\e 12=.int .i64 k/\e 14=.int .i64 j/\(∃b,e 13=.bool b)/\LC N D x p c0 (c0+1+1+1) tb B [⟨false,c,4,[y.enc]⟩] e H) ?_ ?_
  .exact⟨by simp[aK,e10],by simp[aK],by simp[aK],⟨true,by simp[aK]⟩,t,tm,L,M,by simp[aK,e2],by simp[aK,e3],by simp[aK,e6],by simp[aK,e8],by simp[aK,e9],hL,hM,rfl⟩
  clear e2 e3 e6 e8 e9 e10 hL hM
  clear t tm L M q
  intro j e H c2 hj ⟨e10,e12,e14,⟨b,e13⟩,t,tm,L,M,e2,e3,e6,e8,⟨q,e9⟩,hL,hM,hH⟩ P2 hP2
  subst hH
  by_cases hjl:j<z.eS.aG.length
  .obtain⟨f,hf⟩:∃f,z.eS.aG[j]?=some f:=⟨_,bC hjl⟩
   have hfm:=bA hf
   have hfo:=hzk.f.a f hfm
   have hlt2:(j:Int)<(z.eS.aG.length:Int):=by omega
   have hst2:=cD (i:=j) (n:=z.eS.aG.length) (cL hzf (by decide)) hjl
   simp[e2,e8,e12,e14,hlt2,hkB,aL hz,aL hf,putOwn]
   refine TY hN rfl rfl rfl .ref hL ⟨hfo.n,hfo.nl,hx.s,hfo.v⟩ λt' L' b' c3 _ hL'=>?_
   cases q<;>simp[e8,e9,e14]
   .exact hP2 _ _ _ _ hjl (fN 8 _) ⟨by simp[aK,e10],by simp[aK,e12],by simp[aK,hst2],⟨b',by simp[aK]⟩,t',tm,L',M,by simp[aK,e2],by simp[aK,e3],by simp[aK,e6],by simp[aK,e8],by simp[aK],hL',hM,rfl⟩
   .exact hP2 _ _ _ _ hjl (fN 8 _) ⟨by simp[aK,e10],by simp[aK,e12],by simp[aK,hst2],⟨b',by simp[aK]⟩,t',tm,L',M,by simp[aK,e2],by simp[aK,e3],by simp[aK,e6],by simp[aK,e8],by simp[aK],hL',hM,rfl⟩
  have hlt2:¬(j:Int)<(z.eS.aG.length:Int):=by omega
  simp[e2,e12,e14,hlt2,hkB,aL hz]
  refine b6 z.Methods.aG.length (λj e H c'=>e 10=.int .i64 i/\e 12=.int .i64 k/\e 16=.int .i64 j/\(∃b,e 13=.bool b)/\LC N D x p c0 (c0+1+1+1) tb B [⟨false,c,4,[y.enc]⟩] e H) ?_ ?_
  .exact⟨by simp[aK,e10],by simp[aK,e12],by simp[aK],⟨b,by simp[aK,e13]⟩,t,tm,L,M,by simp[aK,e2],by simp[aK,e3],by simp[aK,e6],by simp[aK,e8],by simp[aK,e9],hL,hM,rfl⟩
  clear e2 e3 e6 e8 e9 e10 e12 e13 e14 hL hM
  clear hP2 hlt2 hj hjl
  clear t tm L M q b
  intro j e H c2 hj ⟨e10,e12,e16,⟨b,e13⟩,t,tm,L,M,e2,e3,e6,e8,⟨q,e9⟩,hL,hM,hH⟩ P3 hP3
  subst hH
  by_cases hjl:j<z.Methods.aG.length
  .obtain⟨f,hf⟩:∃f,z.Methods.aG[j]?=some f:=⟨_,bC hjl⟩
   have hfm:=bA hf
   have hfo:=hzk.m.a f hfm
   have hlt2:(j:Int)<(z.Methods.aG.length:Int):=by omega
   have hst2:=cD (i:=j) (n:=z.Methods.aG.length) (cL hzl (by decide)) hjl
   simp[e2,e3,e8,e12,e16,hlt2,hkB,aL hz,aL hf,putOwnM]
   refine hJ (declares_s hx) λd c3 _=>?_
   cases d
   rotate_left
   .simp[e16]
    exact hP3 _ _ _ _ hjl (fN 8 _) ⟨by simp[aK,e10],by simp[aK,e12],by simp[aK,hst2],⟨b,by simp[aK,e13]⟩,t,tm,L,M,by simp[aK,e2],by simp[aK,e3],by simp[aK,e6],by simp[aK,e8],by simp[aK,e9],hL,hM,rfl⟩
   simp[e8]
   refine W6 hN rfl rfl rfl .ref hM ⟨hfo.n,hfo.nl,hx.s,hfo.fl,hfo.d⟩ λt' L' b' c3 _ hL'=>?_
   cases q<;>simp[e8,e9,e16]
   .exact hP3 _ _ _ _ hjl (fN 8 _) ⟨by simp[aK,e10],by simp[aK,e12],by simp[aK,hst2],⟨b',by simp[aK]⟩,t,t',L,L',by simp[aK,e2],by simp[aK,e3],by simp[aK,e6],by simp[aK,e8],by simp[aK],hL,hL',rfl⟩
   .exact hP3 _ _ _ _ hjl (fN 8 _) ⟨by simp[aK,e10],by simp[aK,e12],by simp[aK,hst2],⟨b',by simp[aK]⟩,t,t',L,L',by simp[aK,e2],by simp[aK,e3],by simp[aK,e6],by simp[aK,e8],by simp[aK],hL,hL',rfl⟩
  have hlt2:¬(j:Int)<(z.Methods.aG.length:Int):=by omega
  simp[e2,e10,e12,e16,hlt2,hkB,aL hz]
  exact hP _ _ _ _ h (fN 7 _) ⟨by simp[aK,hst],t,tm,L,M,by simp[aK,e2],by simp[aK,e3],by simp[aK,e6],by simp[aK,e8],by simp[aK,e9],hL,hM,rfl⟩
 .have hlt:¬(i:Int)<(x.aP.aG.length:Int):=by omega
  simp[e3,e10,hlt]
  refine b6 x.aP.aG.length (λi e H c'=>e 18=.int .i64 i/\LC N D x p c0 (c0+1+1+1) tb B [] e H) ?_ ?_
  .exact⟨by simp[aK],t,tm,L,M,by simp[aK,e2],by simp[aK,e3],by simp[aK,e6],by simp[aK,e8],by simp[aK,e9],hL,hM,rfl⟩
  clear e2 e3 e6 e8 e9 e10 hL hM hP hi h hlt
  clear t tm L M q i P
  intro i e H c hi ⟨e18,t,tm,L,M,e2,e3,e6,e8,⟨q,e9⟩,hL,hM,hH⟩ P hP
  subst hH
  by_cases h:i<x.aP.aG.length
  .obtain⟨y,hy⟩:∃y,x.aP.aG[i]?=some y:=⟨_,bC h⟩
   have hym:=bA hy
   have hlt:(i:Int)<(x.aP.aG.length:Int):=by omega
   have hst:=cD (i:=i) (n:=x.aP.aG.length) (cL hxl (by decide)) h
   have hyt:=(hx.i y hym).s
   by_cases h4:y.aJ=54
   .obtain⟨w,hw,hw1,hw2⟩:=(hv.k y hym).sh.field h4
    have hwm:w∈y.aP.aG:=by rw[hw];simp
    have hwv:=((hv.k y hym).k w hwm).sh
    simp[e3,e8,e18,hlt,aL hy,h4,hw]
    refine nT (JT (o:=0) (c:=0) (g:=0) hwv.n λh2=>hwv.t (by omega) (by omega)) λv c1 _ hvv=>?_
    simp[aR,e8]
    refine TY (f:=⟨y.bR,x.bR,decide (y.bN=1),v⟩) hN rfl rfl rfl .ref hL ⟨h54 y hym,hyt,hx.s,hvv⟩ λt' L' b' c3 _ hL'=>?_
    cases q<;>simp[e8,e9,e18,h4]
    .exact hP _ _ _ _ h (fN 7 _) ⟨by simp[aK,hst],t',tm,L',M,by simp[aK,e2],by simp[aK,e3],by simp[aK,e6],by simp[aK,e8],by simp[aK],hL',hM,rfl⟩
    .exact hP _ _ _ _ h (fN 7 _) ⟨by simp[aK,hst],t',tm,L',M,by simp[aK,e2],by simp[aK,e3],by simp[aK,e6],by simp[aK,e8],by simp[aK],hL',hM,rfl⟩
   by_cases h5:y.aJ=55
   .simp[e3,e8,e18,hlt,aL hy,h5,aR,intW_and]
    refine W6 (f:=⟨y.bR,x.bR,x.bR,_,_⟩) hN rfl rfl rfl .ref hM ⟨h54 y hym,hyt,hx.s,hx.s,h55 y hym h5⟩ λt' L' b' c3 _ hL'=>?_
    cases q<;>simp[e8,e9,e18]
    .exact hP _ _ _ _ h (fN 7 _) ⟨by simp[aK,hst],t,t',L,L',by simp[aK,e2],by simp[aK,e3],by simp[aK,e6],by simp[aK,e8],by simp[aK],hL,hL',rfl⟩
    .exact hP _ _ _ _ h (fN 7 _) ⟨by simp[aK,hst],t,t',L,L',by simp[aK,e2],by simp[aK,e3],by simp[aK,e6],by simp[aK,e8],by simp[aK],hL,hL',rfl⟩
   .cases q<;>simp[e3,e9,e18,hlt,aL hy,h4,h5]
    .exact hP _ _ _ _ h (fN 7 _) ⟨by simp[aK,hst],t,tm,L,M,by simp[aK,e2],by simp[aK,e3],by simp[aK,e6],by simp[aK,e8],by simp[aK],hL,hM,rfl⟩
    .exact hP _ _ _ _ h (fN 7 _) ⟨by simp[aK,hst],t,tm,L,M,by simp[aK,e2],by simp[aK,e3],by simp[aK,e6],by simp[aK,e8],by simp[aK],hL,hM,rfl⟩
  have hlt:¬(i:Int)<(x.aP.aG.length:Int):=by omega
  cases q
  .simp[e3,e6,e8,e9,e18,hlt]
   exact λhd _=>fin_cls (L:=L) (M:=M) rfl rfl rfl hd (by simp) (by simp) ⟨_,_,rfl,⟨hx.s,hp.nl,hL,hM⟩,by decide,by decide⟩
  .simp[e3,e6,e9,e18,hlt]
   exact λ_ _=>fI (Hk:=[⟨false,tb,4,B.map bG.enc⟩]) (by simp) (.refl _) ⟨rfl,qN,4,rfl,B5,by decide,by decide⟩
set_option maxRecDepth 100000
def sR:aA:=[69,114,114,111,114]
def rF:aA:=[109,101,115,115,97,103,101]
def Er (x:bG):Prop:=x.Name=sR/\1<=x.eS.aG.length
section
variable {N:aF aA} {D:aA->aA->Prop}
def error_s (T:rF∈N):bM aE 156 [] (λr=>∃x:bG,r=.agg x.enc/\CK N D x/\Er x):=by
 intro E;refine cO F156 ?_;simp[F156,aR];have J:(dQ.mk rF sR false (sV 0 0 [])).enc=[.str rF,.str sR,.bool false,.I 0,.I 0,.str [],.I 0,.aU]:=by rw[dQ.enc,iB]
 refine⟨[⟨false,E+1,8,[[.str rF,.str sR,.bool false,.I 0,.I 0,.str [],.I 0,.aU]]⟩],[],[],.agg (bG.mk sR [] (.mk (E+1) [⟨rF,sR,false,sV 0 0 []⟩]) .nil).enc,eX _,.nil,λo h=>by simp at h;subst h;simp[rF,sR],by simp[aV],?_,rfl,_,rfl,⟨by simp[sR],by simp,⟨by simp,λf E=>?_⟩,⟨by simp,λf E=>by simp at E⟩⟩,rfl,by simp⟩
 .refine AH rfl rfl (nI _ _ _) rfl (.refl _) (.refl _) (jK (by simp[J]) rfl λx _=>dQ.cells x) (.refl _)
 .simp at E;subst E;exact⟨T,by simp[rF],by simp[sR],.sc (by decide) (by decide) (by simp)⟩
inductive nN (N:List aA) (D:aA->aA->Prop) (G:aC):List (List AV)->List bG->Prop where
 |nil:nN N D G [] []
 |cons {aM:List AV} {x:bG} {aN:List (List AV)} {L:List bG} (h:View G (.agg aM) (.agg x.enc)) (hk:CK N D x) (t:nN N D G aN L):nN N D G (aM::aN) (x::L)
def nN.mono {G G'} (hs:∀o,o∈G->o∈G') {aN} {L} (h:nN N D G aN L):nN N D G' aN L:=by
 induction h with
 |nil=>exact .nil
 |cons h J t E=>exact .cons (View.mono hs h) J E
def nN.snoc {G} {aN} {L} (h:nN N D G aN L) {aM} {x:bG} (J:View G (.agg aM) (.agg x.enc)) (E:CK N D x):nN N D G (aN++[aM]) (L++[x]):=by
 induction h with
 |nil=>exact .cons J E .nil
 |cons h E t J=>exact .cons h E J
def nN.len {G} {aN:aF (aF AV)} {L:aF bG} (h:nN N D G aN L):aN.length=L.length:=by
 induction h with
 |nil=>rfl
 |cons h E t E=>simp[E]
def nN.get {G} {aN:aF (aF AV)} {L:aF bG} (h:nN N D G aN L):∀{r:Nat} {aM:aF AV} {x:bG},aN[r]?=some aM->L[r]?=some x->View G (.agg aM) (.agg x.enc):=by
 induction h with
 |nil=>intro r aM x h;simp at h
 |cons h E t T=>
  intro r aM x J E
  match r with
  |0=>simp at J E;subst J;subst E;exact h
  |r+1=>exact T (by simpa using J) (by simpa using E)
def nN.ok {G} {aN} {L} (h:nN N D G aN L):∀x,x∈L->CK N D x:=by
 induction h with
 |nil=>simp
 |cons h T t J=>intro y E;rcases fK.1 E with rfl|E;exact T;exact J y E
def crows_view {G} {i t n} {aN:aF (aF AV)} {L} (E:(⟨false,t,4,aN⟩:aH)∈G) (J:n=aN.length) (Z:nN N D G aN L):View G (.ref i t 4 n) ((SL.mk t L).av 4 bG.enc):=by
 have J:=Z.len;refine .ref (aN:=aN) (rows':=L.map bG.enc) E (by omega) (by simp;omega) (λr x T J E=>?_) (λr j x a J E=>?_) λr j x T a a' J E h3 h4=>?_
 .obtain⟨y,W,rfl⟩:∃y,L[r]?=some y/\y.enc=T:=by simpa[kL] using E
  have:=(GO (Z.get J W)).1;simpa using this
 .obtain⟨y,_,rfl⟩:=fZ.1 (bA J);exact bG.cells _ _ (bA E)
 .obtain⟨y,W,rfl⟩:∃y,L[r]?=some y/\y.enc=T:=by simpa[kL] using E
  exact(GO (Z.get J W)).2 j a a' h3 h4
def bW {α:Type} (G M:aF α) (K:α->Prop):aZ (G++M) G.length K=aZ M 0 K:=cM G M 0 K
def as0 {α:Type} (G M:aF α) (z:α):(G++M).set G.length z=G++M.set 0 z:=aaK G M 0 z
def putInit (f:dQ) (v:aO):aR f.enc 3 v.enc=(dQ.mk f.Name f.lQ f.pI v).enc:=by simp only[dQ.enc,aO.dW];simp[aR]
def FL.init {L:aF dQ} {f:dQ} {v} {i:Nat} (h:FL N L) (J:L[i]?=some f) (T:VM 0 0 0 v):FL N (L.set i ⟨f.Name,f.lQ,f.pI,v⟩):=by have E:=h.a f (bA J);exact h.set ⟨E.n,E.nl,E.ol,T⟩ J rfl
def ClsQ (N:aF aA) (D:aA->aA->Prop) (n:Nat) (E:Option bG) (r:AV):Prop:=∃s:SL bG,r=s.av 4 bG.enc/\(∀x,x∈s.aG->CK N D x)/\s.aG.length=n/\(∀x,E=some x->Er x->∃y,s.aG[0]?=some y/\Er y)
def copies_s {Z c0} {A:aF bG} (hN:N.length<=10000000000) (hk:∀x,x∈A->CK N D x) (hl:A.length<=1048576):
  cA aE 158 [.ref 0 Z 4 A.length] [⟨false,Z,4,A.map bG.enc⟩] c0 (λr E _=>E=[]/\ClsQ N D A.length A[0]? r):=by
 refine cO F158 ?_;simp[F158];refine b6 A.length (λi e H c'=>∃(t:Nat) (E:aF (aF AV)) (L:aF bG) (G:aC),e 0=.ref 0 Z 4 A.length/\e 3=.ref 1 t 4 i/\e 4=.I i/\nN N D G E L/\L.length=i/\(∀x y,A[0]?=some x->L[0]?=some y->Er x->Er y)/\H=⟨false,Z,4,A.map bG.enc⟩::⟨false,t,4,E⟩::G) ?_ ?_
 .exact⟨c0,[],[],[],rfl,rfl,rfl,.nil,rfl,λx y _ h=>by simp at h,rfl⟩
 intro i e H c J ⟨t,E,L,G,W,e3,e4,hR,hL,h0,hH⟩ P hP;subst hH;have J:=hR.len;by_cases h:i<A.length
 .obtain⟨x,hx⟩:∃x,A[i]?=some x:=⟨_,bC h⟩
  have T:=bA hx;have hxg:(A.map bG.enc)[i]?=some x.enc:=by simp[hx]
  have J:=hk x T;have hxf:=cL J.f.len hN;have T:=cL J.m.len hN;have hlt:(i:Int)<(A.length:Int):=by omega
  have hst:=cD (i:=i) (n:=A.length) (cL hl (by decide)) h;have a1:x.eS.aG.length*104<=140737488355328:=by omega
  have a2:x.Methods.aG.length*56<=140737488355328:=by omega
  have T:x.eS.aG.length<=mx:=by unfold mx;omega
  have a4:x.Methods.aG.length<=mx:=by unfold mx;omega
  simp[W,e4,hlt,aL hxg,aR,bW,cM,a1,T];refine b6 x.eS.aG.length (λj e H c'=>∃(tf:Nat) (F:aF dQ),e 0=.ref 0 Z 4 A.length/\e 3=.ref 1 t 4 i/\e 4=.I i/\e 5=.ptr (G.length+1+1) c 4 0 0/\e 6=.I j/\FL N F/\F.length=x.eS.aG.length/\
   H=⟨false,Z,4,A.map bG.enc⟩::⟨false,t,4,E⟩::(G++[⟨false,c,4,[[.str x.Name,.str x.zJ,.ref (G.length+1+1+1) tf 8 F.length,x.Methods.av 5 dJ.enc]]⟩,⟨false,tf,8,F.map dQ.enc⟩])) ?_ ?_
  .exact⟨c+1+1,x.eS.aG,W,e3,e4,rfl,rfl,J.f,rfl,rfl⟩
  clear W e3 e4;intro j e H c2 T ⟨tf,F,W,e3,e4,e5,e6,hF,hFl,hH⟩ T hP2;subst hH;by_cases hjl:j<F.length
  .obtain⟨f,hf⟩:∃f,F[j]?=some f:=⟨_,bC hjl⟩
   have hfo:=hF.a f (bA hf);have hg:(F.map dQ.enc)[j]?=some f.enc:=by simp[hf]
   have T:(j:Int)<(F.length:Int):=by omega
   have hst2:=cD (i:=j) (n:=F.length) (by unfold mx;omega) hjl;simp[e5,e6,T,bW,cM,aL hg];refine nT (PH hfo.v) λv c3 _ hv=>?_;simp[e6,bW,cM,aL hg,putInit];refine⟨hjl,hP2 _ _ _ _ (by omega) (bY _) ⟨tf,F.set j ⟨f.Name,f.lQ,f.pI,v⟩,W,e3,e4,e5,by simp[aK,hst2],hF.init hf hv,by simp[hFl],by simp[lT]⟩⟩
  have T:¬(j:Int)<(F.length:Int):=by omega
  simp[W,e3,e4,e5,e6,T,aL hxg,aR,bW,cM,a2,a4];rw[PF (by omega)];refine⟨h,by omega,by unfold mx;omega,?_⟩;have T:∀y,(L++[y])[0]?=if i=0 then some y else L[0]?:=λy=>by
   by_cases h0:i=0
   .have:L=[]:=List.eq_nil_of_length_eq_zero (by omega);simp[this,h0]
   .rw[if_neg h0,gY (by omega)]
  refine hP _ _ _ _ h (bY _) ⟨c2+1+1+1,_,L++[⟨x.Name,x.zJ,.mk tf F,.mk (c2+1) x.Methods.aG⟩],_,W,rfl,by simp[aK,hst],(hR.mono (G':=_) ?_).snoc (ZL (L:=F) (M:=x.Methods.aG) ?_ ?_ ?_ ?_) ?_,by simp[hL],?_,rfl⟩
  .intro o ho;simp[ho]
  .simp
  .simp
  .rfl
  .rfl
  .exact⟨J.nl,J.pl,hF,J.m⟩
  .intro u w hu J he;rw[T] at J;by_cases T:i=0
   .subst T;rw[hx] at hu;cases hu;simp at J;subst J;exact⟨he.1,by have:=he.2;simp only[SL.aG];omega⟩
   .rw[if_neg T] at J;exact h0 u w hu J he
 .have hlt:¬(i:Int)<(A.length:Int):=by omega
  simp[W,e3,e4,hlt];have J:i=A.length:=by omega
  refine⟨⟨false,Z,4,A.map bG.enc⟩::⟨false,t,4,E⟩::G,[],[],(SL.mk t L).av 4 bG.enc,eX _,.nil,λo h=>h,by simp[aV],crows_view (by simp) (by omega) (hR.mono λo h=>by simp[h]),rfl,_,rfl,hR.ok,by simp;omega,λx hx J=>?_⟩;have E:0<L.length:=by have:=(bQ.1 hx).1;omega
  exact⟨L[0],bC E,h0 x _ hx (bC E) J⟩
def ZY {P} {H H1:aC} {c} {K:aD} {f} {T} {Q:AV->Prop} (E:H1.Sublist H) (Z:cA P f T H1 c λr W _=>W=[]/\Q r) (k:∀r J,c<=J->Q r->Av [] r/\K r [] J):bO P f T H c K:=
 ZW (S:=[]) E (by simp) (by simp[aV]) (.refl _ _) Z λr W J W ⟨E,Z⟩ _ _=>by
  obtain⟨T,E⟩:=k r J W Z;exact⟨[],r,by simp,by simp[aV],.refl _,by simpa[aV] using T,by simp,E⟩
def LkQ (N:aF aA) (D:aA->aA->Prop) (r:AV):Prop:=∃(s:SL bG) (E:Int),r=.aX [s.av 4 bG.enc,.I E]/\0<=E/\E<=5/\(E=0->(∀x,x∈s.aG->CK N D x)/\s.aG.length<=200000/\∃y,s.aG[0]?=some y/\Er y)
def oG {H} {c' i t} {code:Int} (T:(⟨false,t,4,[]⟩:aH)∈H) (E:0<code) (W:code<=5):cE (λr E _=>E=[]/\LkQ N D r) (.aX [.ref i t 4 0,.I code]) H c':=by
 refine⟨H,[],[],.aX [(SL.mk t ([]:aF bG)).av 4 bG.enc,.I code],eX _,.nil,λo h=>h,by simp[aV],.aX rfl λk x E J E=>?_,rfl,_,_,rfl,by omega,W,λh=>by omega⟩
 match k,J,E with
 |0,J,E=>simp at J E;subst J;subst E;exact jK (l:=([]:aF bG)) T rfl (by simp)
 |1,J,E=>simp at J E;subst J;subst E;exact .refl _
 |k+2,J,E=>simp at J
def B4 {H} {i t n} {L:aF bG} (E:(⟨false,t,4,L.map bG.enc⟩:aH)∈H) (J:L.length=n):View H (.ref i t 4 n) ((SL.mk t L).av 4 bG.enc):=jK E J λx _=>bG.cells x
def set_same {α:Type} {l:aF α} {i:Nat} {a:α} (h:l[i]?=some a):l.set i a=l:=by
 refine Q8 λj=>?_;rw[r8];by_cases e:i=j
 .subst e;rw[if_pos rfl,if_pos (bQ.1 h).1,h]
 .rw[if_neg e]
def CA {H:aC} {c i tb n:Nat} {K:aD} {x:aQ} {p:bG} {B:aF bG} (hH:H[i]?=some ⟨false,tb,4,B.map bG.enc⟩) (hn:n=B.length) (hN:N.length<=10000000000) (hx:cU 20000 x) (hv:V x)
  (h54:∀y,y∈x.aP.aG->y.bR∈N) (Z:∀y,y∈x.aP.aG->y.aJ=55->D y.bR x.bR) (hp:CK N D p) (T:∀y,y∈B->CK N D y) (W:B.length<=1048576)
  (k:∀z E J,c<=J->CK N D z->0<=E->E<=5->K (.aX [.agg (bG.enc z),.I E]) H J):bO aE 157 [.agg x.enc,.agg p.enc,.ref i tb 4 n] H c K:=by subst hn;refine B9 hH (build_s (B:=B) (tb:=tb) hN hx hv h54 Z hp T W) (.cons (.refl _) (.cons (.refl _) (.cons .name .nil))) (λr T J h=>⟨_,h.1⟩) λr T J hc ⟨T,z,E,Z,W,h2,h3⟩=>?_;simp at T;subst T;subst Z;refine⟨_,.refl _,hY (EA z) .int,KG EA _ _ _ _,?_⟩;rw[set_same hH];exact k z E J hc W h2 h3
def wM a b d e (z:bG):aR [a,b,d,e] 0 z.enc=z.enc:=by simp[aR,bG.enc]
def LkS (N:aF aA) (D:aA->aA->Prop) (m:Nat) (S:AV) (X:aC) (e:Env) (H:aC):Prop:=
 ∃(J E:Nat) (A B:aF bG),e 0=S/\e 4=.ref 0 J 4 A.length/\e 5=.ref 1 E 4 B.length/\(∀x,x∈A->CK N D x)/\(∀x,x∈B->CK N D x)/\A.length+B.length<=m/\(∃y,A[0]?=some y/\Er y)/\
  H=⟨false,J,4,A.map bG.enc⟩::⟨false,E,4,B.map bG.enc⟩::X
def link_s {S:SL aQ} (hm:rF∈N) (hN:N.length<=10000000000) (hl:S.aG.length<=8) (hS:∀x,x∈S.aG->cU 20000 x)
  (hT:∀x,x∈S.aG->∀n,n∈x.aP.aG->∀y,y∈n.aP.aG->y.bR∈N)
  (hD:∀x,x∈S.aG->∀n,n∈x.aP.aG->n.aJ=50\/n.aJ=51->∀y,y∈n.aP.aG->y.aJ=55->D y.bR n.bR):
  bM aE 120 [S.av 4 aQ.enc] (LkQ N D):=by
 intro c0
 refine cO F120 ?_
 unfold F120
 simp
 refine cV (error_s (N:=N) (D:=D) hm) λr c1 _ ⟨x0,hr,hx0,he0⟩=>?_
 subst hr
 refine⟨EA _,?_⟩
 simp
 refine b6 S.aG.length (λi e H c'=>e 6=.int .i64 i/\LkS N D (1+20000*i) (S.av 4 aQ.enc) [] e H) ?_ ?_
 .exact⟨by simp[aK],c1,c1+1,[x0],[],by simp[aK,gZ],by simp[aK],by simp[aK],by simpa using hx0,by simp,by simp,⟨x0,rfl,he0⟩,rfl⟩
 intro i e H c hi ⟨e6,t1,t2,A,B,e0,e4,e5,hA,hB,hAB,hEr,hH⟩ P hP
 subst hH
 by_cases h:i<S.aG.length
 rotate_left
 .have hlt:¬(i:Int)<(S.aG.length:Int):=by omega
  simp[e0,e4,e6,hlt]
  refine ZY (H1:=[⟨false,t1,4,A.map bG.enc⟩]) (by simp) (copies_s hN hA (by omega)) λr c' hc ⟨s,hr,h1,h2,h3⟩=>?_
  subst hr
  refine⟨xF EA _,?_⟩
  simp
  obtain⟨y,hy,hy2⟩:=hEr
  exact aS ⟨rfl,s,0,rfl,by decide,by decide,λ_=>⟨h1,by omega,h3 y hy hy2⟩⟩
 obtain⟨x,hx⟩:∃x,S.aG[i]?=some x:=⟨_,bC h⟩
 have hxm:=bA hx
 have hxo:=hS x hxm
 have hxl:=hxo.l
 have hlt:(i:Int)<(S.aG.length:Int):=by omega
 have hst:=cD (i:=i) (n:=S.aG.length) (cL hl (by decide)) h
 simp[e0,e6,hlt]
 refine b6 x.aP.aG.length (λk e H c'=>e 6=.int .i64 i/\e 7=.int .i64 k/\LkS N D (1+20000*i+k) (S.av 4 aQ.enc) [] e H) ?_ ?_
 .exact⟨by simp[aK,e6],by simp[aK],t1,t2,A,B,by simp[aK,e0],by simp[aK,e4],by simp[aK,e5],hA,hB,by omega,hEr,rfl⟩
 clear e0 e4 e5 e6 hA hB hAB hEr
 clear t1 t2 A B
 intro k e H c2 hk ⟨e6,e7,t1,t2,A,B,e0,e4,e5,hA,hB,hAB,hEr,hH⟩ P2 hP2
 subst hH
 simp[e0,e6,aL hx]
 have next:∀{e':Env} {X:aC} {c':Nat},e' 6=.int .i64 ((i+1:Nat):Int)->e' 0=S.av 4 aQ.enc->e' 4=.ref 0 t1 4 A.length->e' 5=.ref 1 t2 4 B.length->P e' (⟨false,t1,4,A.map bG.enc⟩::⟨false,t2,4,B.map bG.enc⟩::X) c':=λh6 h0 h4 h5=>
  hP _ _ _ _ h (fN 2 _) ⟨h6,t1,t2,A,B,h0,h4,h5,hA,hB,by omega,hEr,rfl⟩
 refine fR (N6 hxo) (λhv c3 _=>?_) λc3 _=>?_
 rotate_left
 .simp[e6]
  exact next (by simp[aK,hst]) (by simp[aK,e0]) (by simp[aK,e4]) (by simp[aK,e5])
 by_cases hkl:k<x.aP.aG.length
 rotate_left
 .have hlt2:¬(k:Int)<(x.aP.aG.length:Int):=by omega
  simp[e0,e6,e7,aL hx,hlt2]
  exact next (by simp[aK,hst]) (by simp[aK,e0]) (by simp[aK,e4]) (by simp[aK,e5])
 have hlt2:(k:Int)<(x.aP.aG.length:Int):=by omega
 have hst2:=cD (i:=k) (n:=x.aP.aG.length) (cL hxl (by decide)) hkl
 obtain⟨n,hn⟩:∃n,x.aP.aG[k]?=some n:=⟨_,bC hkl⟩
 have hnm:=bA hn
 have hno:=hxo.i n hnm
 have next2:∀{e':Env} {X:aC} {c':Nat},e' 6=.int .i64 i->e' 7=.int .i64 ((k+1:Nat):Int)->e' 0=S.av 4 aQ.enc->e' 4=.ref 0 t1 4 A.length->e' 5=.ref 1 t2 4 B.length->P2 e' (⟨false,t1,4,A.map bG.enc⟩::⟨false,t2,4,B.map bG.enc⟩::X) c':=λh6 h7 h0 h4 h5=>
  hP2 _ _ _ _ hkl (fN 2 _) ⟨h6,h7,t1,t2,A,B,h0,h4,h5,hA,hB,by omega,hEr,rfl⟩
 simp[e0,e6,e7,aL hx,aL hn,hlt2]
 by_cases hk1:n.aJ=50\/n.aJ=51
 rotate_left
 .have n50:n.aJ≠50:=λh=>hk1 (.inl h)
  have n51:n.aJ≠51:=λh=>hk1 (.inr h)
  simp[n50,n51,e7]
  exact next2 (by simp[aK,e6]) (by simp[aK,hst2]) (by simp[aK,e0]) (by simp[aK,e4]) (by simp[aK,e5])
 have hlA:A.length<=1048576:=by omega
 have hlB:B.length<=1048576:=by omega
 have hT':=hT x hxm n hnm
 have hD':=hD x hxm n hnm hk1
 have hvn:=hv.1.k n hnm
 have n56:n.aJ=50\/n.aJ=51:=hk1
 have hcut:∀{R:Prop},(n.aJ=50->R)->(n.aJ=51->R)->R:=λh1 h2=>hk1.elim h1 h2
 by_cases n50:n.aJ=50
 .simp[n50]
  by_cases t1s:n.bR=[115,101,108,102]
  .simp[t1s]
   exact oG (by simp) (by decide) (by decide)
  by_cases t1p:n.bR=[112,97,114,101,110,116]
  .simp[t1p]
   exact oG (by simp) (by decide) (by decide)
  simp[t1s,t1p,e4]
  refine qJ (B4 (by simp) rfl) hlA (λc4 _ _=>?_) λj z c4 _ hz hzn _=>?_
  rotate_left
  .have hj0:(0:Int)<=(j:Int):=by omega
   simp[hj0]
   exact oG (by simp) (by decide) (by decide)
  simp[e5]
  refine qJ (B4 (by simp) rfl) hlB (λc5 _ _=>?_) λj z c5 _ hz hzn _=>?_
  rotate_left
  .have hj0:(0:Int)<=(j:Int):=by omega
   simp[hj0]
   exact oG (by simp) (by decide) (by decide)
  by_cases hk0:0<n.aP.aG.length
  .obtain⟨y,hy⟩:∃y,n.aP.aG[0]?=some y:=⟨_,bC hk0⟩
   by_cases h52:y.aJ=52
   .simp[hk0,aL hy,h52,e4]
    refine qJ (B4 (by simp) rfl) hlA (λc6 _ _=>?_) λj z c6 _ hz hzn _=>?_
    .simp
     exact oG (by simp) (by decide) (by decide)
    have hj0:¬(j:Int)<0:=by omega
    have hzm:z∈A:=bA hz
    have hzl:=(bQ.1 hz).1
    have hzg:(A.map bG.enc)[j]?=some z.enc:=by rw[kL];exact congrArg _ hz
    simp[hj0,e4,e5,aL hzg,wM]
    refine⟨hzl,?_⟩
    refine CA rfl rfl hN hno hvn hT' (λy hy h5=>hD' y hy h5) (hA z hzm) hB hlB λw code c7 _ hw hc0 hc5=>?_
    by_cases hc:code=0
    rotate_left
    .simp[hc]
     exact oG (by simp) (by omega) hc5
    have hcA:(∀x,x∈A++[w]->CK N D x):=λx hx=>by rcases dI.1 hx with h|h;exact hA x h;simp at h;exact h▸hw
    have hcB:(∀x,x∈B++[w]->CK N D x):=λx hx=>by rcases dI.1 hx with h|h;exact hB x h;simp at h;exact h▸hw
    have hcE:∃y,(A++[w])[0]?=some y/\Er y:=by obtain⟨y,hy,hy2⟩:=hEr;exact⟨y,by rw[gY (bQ.1 hy).1];exact hy,hy2⟩
    simp[hc,n50,wM,e4,e7]
    refine⟨by omega,by unfold mx;omega,?_⟩
    exact hP2 _ _ (List.take 2 _) _ hkl (fN 2 _) ⟨by simp[aK,e6],by simp[aK,hst2],c7+1+1,t2,A++[w],B,by simp[aK,e0],by simp[aK],by simp[aK,e5],hcA,hB,by simp;omega,hcE,by simp⟩
   .simp[hk0,aL hy,h52,e5]
    refine CA rfl rfl hN hno hvn hT' (λy hy h5=>hD' y hy h5) (p:=qN) B5 hB hlB λw code c7 _ hw hc0 hc5=>?_
    by_cases hc:code=0
    rotate_left
    .simp[hc]
     exact oG (by simp) (by omega) hc5
    have hcA:(∀x,x∈A++[w]->CK N D x):=λx hx=>by rcases dI.1 hx with h|h;exact hA x h;simp at h;exact h▸hw
    have hcB:(∀x,x∈B++[w]->CK N D x):=λx hx=>by rcases dI.1 hx with h|h;exact hB x h;simp at h;exact h▸hw
    have hcE:∃y,(A++[w])[0]?=some y/\Er y:=by obtain⟨y,hy,hy2⟩:=hEr;exact⟨y,by rw[gY (bQ.1 hy).1];exact hy,hy2⟩
    simp[hc,n50,wM,e4,e7]
    refine⟨by omega,by unfold mx;omega,?_⟩
    exact hP2 _ _ (List.take 2 _) _ hkl (fN 2 _) ⟨by simp[aK,e6],by simp[aK,hst2],c7+1+1,t2,A++[w],B,by simp[aK,e0],by simp[aK],by simp[aK,e5],hcA,hB,by simp;omega,hcE,by simp⟩
  .simp[hk0,e5]
   refine CA rfl rfl hN hno hvn hT' (λy hy h5=>hD' y hy h5) (p:=qN) B5 hB hlB λw code c7 _ hw hc0 hc5=>?_
   by_cases hc:code=0
   rotate_left
   .simp[hc]
    exact oG (by simp) (by omega) hc5
   have hcA:(∀x,x∈A++[w]->CK N D x):=λx hx=>by rcases dI.1 hx with h|h;exact hA x h;simp at h;exact h▸hw
   have hcB:(∀x,x∈B++[w]->CK N D x):=λx hx=>by rcases dI.1 hx with h|h;exact hB x h;simp at h;exact h▸hw
   have hcE:∃y,(A++[w])[0]?=some y/\Er y:=by obtain⟨y,hy,hy2⟩:=hEr;exact⟨y,by rw[gY (bQ.1 hy).1];exact hy,hy2⟩
   simp[hc,n50,wM,e4,e7]
   refine⟨by omega,by unfold mx;omega,?_⟩
   exact hP2 _ _ (List.take 2 _) _ hkl (fN 2 _) ⟨by simp[aK,e6],by simp[aK,hst2],c7+1+1,t2,A++[w],B,by simp[aK,e0],by simp[aK],by simp[aK,e5],hcA,hB,by simp;omega,hcE,by simp⟩
 .have n51:n.aJ=51:=hk1.resolve_left n50
  simp[n51]
  by_cases t1s:n.bR=[115,101,108,102]
  .simp[t1s]
   exact oG (by simp) (by decide) (by decide)
  by_cases t1p:n.bR=[112,97,114,101,110,116]
  .simp[t1p]
   exact oG (by simp) (by decide) (by decide)
  simp[t1s,t1p,e4]
  refine qJ (B4 (by simp) rfl) hlA (λc4 _ _=>?_) λj z c4 _ hz hzn _=>?_
  rotate_left
  .have hj0:(0:Int)<=(j:Int):=by omega
   simp[hj0]
   exact oG (by simp) (by decide) (by decide)
  simp[e5]
  refine qJ (B4 (by simp) rfl) hlB (λc5 _ _=>?_) λj z c5 _ hz hzn _=>?_
  rotate_left
  .have hj0:(0:Int)<=(j:Int):=by omega
   simp[hj0]
   exact oG (by simp) (by decide) (by decide)
  by_cases hk0:0<n.aP.aG.length
  .obtain⟨y,hy⟩:∃y,n.aP.aG[0]?=some y:=⟨_,bC hk0⟩
   by_cases h52:y.aJ=52
   .simp[hk0,aL hy,h52,e4]
    refine qJ (B4 (by simp) rfl) hlA (λc6 _ _=>?_) λj z c6 _ hz hzn _=>?_
    .simp
     exact oG (by simp) (by decide) (by decide)
    have hj0:¬(j:Int)<0:=by omega
    have hzm:z∈A:=bA hz
    have hzl:=(bQ.1 hz).1
    have hzg:(A.map bG.enc)[j]?=some z.enc:=by rw[kL];exact congrArg _ hz
    simp[hj0,e4,e5,aL hzg,wM]
    refine⟨hzl,?_⟩
    refine CA rfl rfl hN hno hvn hT' (λy hy h5=>hD' y hy h5) (hA z hzm) hB hlB λw code c7 _ hw hc0 hc5=>?_
    by_cases hc:code=0
    rotate_left
    .simp[hc]
     exact oG (by simp) (by omega) hc5
    have hcA:(∀x,x∈A++[w]->CK N D x):=λx hx=>by rcases dI.1 hx with h|h;exact hA x h;simp at h;exact h▸hw
    have hcB:(∀x,x∈B++[w]->CK N D x):=λx hx=>by rcases dI.1 hx with h|h;exact hB x h;simp at h;exact h▸hw
    have hcE:∃y,(A++[w])[0]?=some y/\Er y:=by obtain⟨y,hy,hy2⟩:=hEr;exact⟨y,by rw[gY (bQ.1 hy).1];exact hy,hy2⟩
    simp[hc,n51,wM,e5,e7]
    refine⟨by omega,by unfold mx;omega,?_⟩
    exact hP2 _ _ (List.take 2 _) _ hkl (fN 2 _) ⟨by simp[aK,e6],by simp[aK,hst2],t1,c7+1+1,A,B++[w],by simp[aK,e0],by simp[aK,e4],by simp[aK],hA,hcB,by simp;omega,hEr,by simp⟩
   .simp[hk0,aL hy,h52,e5]
    refine CA rfl rfl hN hno hvn hT' (λy hy h5=>hD' y hy h5) (p:=qN) B5 hB hlB λw code c7 _ hw hc0 hc5=>?_
    by_cases hc:code=0
    rotate_left
    .simp[hc]
     exact oG (by simp) (by omega) hc5
    have hcA:(∀x,x∈A++[w]->CK N D x):=λx hx=>by rcases dI.1 hx with h|h;exact hA x h;simp at h;exact h▸hw
    have hcB:(∀x,x∈B++[w]->CK N D x):=λx hx=>by rcases dI.1 hx with h|h;exact hB x h;simp at h;exact h▸hw
    have hcE:∃y,(A++[w])[0]?=some y/\Er y:=by obtain⟨y,hy,hy2⟩:=hEr;exact⟨y,by rw[gY (bQ.1 hy).1];exact hy,hy2⟩
    simp[hc,n51,wM,e5,e7]
    refine⟨by omega,by unfold mx;omega,?_⟩
    exact hP2 _ _ (List.take 2 _) _ hkl (fN 2 _) ⟨by simp[aK,e6],by simp[aK,hst2],t1,c7+1+1,A,B++[w],by simp[aK,e0],by simp[aK,e4],by simp[aK],hA,hcB,by simp;omega,hEr,by simp⟩
  .simp[hk0,e5]
   refine CA rfl rfl hN hno hvn hT' (λy hy h5=>hD' y hy h5) (p:=qN) B5 hB hlB λw code c7 _ hw hc0 hc5=>?_
   by_cases hc:code=0
   rotate_left
   .simp[hc]
    exact oG (by simp) (by omega) hc5
   have hcA:(∀x,x∈A++[w]->CK N D x):=λx hx=>by rcases dI.1 hx with h|h;exact hA x h;simp at h;exact h▸hw
   have hcB:(∀x,x∈B++[w]->CK N D x):=λx hx=>by rcases dI.1 hx with h|h;exact hB x h;simp at h;exact h▸hw
   have hcE:∃y,(A++[w])[0]?=some y/\Er y:=by obtain⟨y,hy,hy2⟩:=hEr;exact⟨y,by rw[gY (bQ.1 hy).1];exact hy,hy2⟩
   simp[hc,n51,wM,e5,e7]
   refine⟨by omega,by unfold mx;omega,?_⟩
   exact hP2 _ _ (List.take 2 _) _ hkl (fN 2 _) ⟨by simp[aK,e6],by simp[aK,hst2],t1,c7+1+1,A,B++[w],by simp[aK,e0],by simp[aK,e4],by simp[aK],hA,hcB,by simp;omega,hEr,by simp⟩
end
set_option maxRecDepth 100000
def PK {P} {f} {Z E} {H H1 S:aC} {c} {Q:aD} (J:H1.Sublist H) (h2:∀o,o∈S->o∈H) (hd:∀t,t∈aV H1->t∉aV S) (T:fG S Z E) (hf:cA P f E H1 c Q):cA P f Z H c Q:=by
 intro G w E hc I hs hr;obtain⟨W,q2⟩:=T.spec;have hS:∀t,t∈aV S->t∈aV H:=λt T=>by obtain⟨o,ho,rfl⟩:=qF T;exact iJ (h2 o ho)
 refine(hf (G.freeze S) w E hc (I.freeze J h2 hd) (hs.trans W) λj a ha=>?_).mono λE E ⟨v,E,H',G',e,W,x,I',r⟩=>
  ⟨v,E,H',G',e,W,⟨(fH.freeze G S w.heap).trans x.x,x.os,x.tape,x.output,x.size,λb W E=>x.frame b W λt T=>E t ((J.map _).subset T),λt T E=>?_,λt T E=>(J.map _).subset (x.j6 t T E),λt T E=>?_⟩,I',r⟩
 .obtain⟨b,W⟩:∃b,Z[j]?=some b:=⟨_,bC (by have:=(bQ.1 ha).1;omega)⟩
  exact(q2 j b a W ha).rep I h2 (hr j b W)
 .rcases x.mL t T E with h|⟨u,W,h⟩
  .exact .inl h
  .exact .inr ⟨u,(J.map _).subset W,h⟩
 .rcases x.nV t T E with(h|h)|h
  .exact .inl h
  .exact .inr (hS t h)
  .exact .inr ((J.map _).subset h)
def ZX {P} {H} {c} {K:aD} {f} {J E} {Q:AV->Prop} (W:bM P f E Q) (T:fG H J E) (k:∀r E,c<=E->Q r->Av [] r/\K r [] E):bO P f J H c K:=
 ZY (Q:=Q) (bY _) (PK (H1:=[]) (S:=H) (eX _) (λo h=>h) (by simp[aV]) T (W c)) k
structure bU where
 Path:aA
 dE:aQ
def bU.enc (s:bU):aF AV:=.str s.Path::s.dE.enc
@[simp] theorem bU.len (s:bU):s.enc.length=5:=by simp[bU.enc]
@[simp] theorem bU.all (s:bU):s.enc.take 5=s.enc:=by rw[fJ];simp
@[simp] theorem bU.g0 (s:bU) (K:AV->Prop):aZ s.enc 0 K=K (.str s.Path):=by simp[bU.enc]
@[simp] theorem bU.t1 (s:bU):s.enc.tail=s.dE.enc:=by simp[bU.enc]
@[simp] theorem bU.g4 (s:bU) (K:AV->Prop):aZ s.enc 4 K=K (s.dE.aP.av 4 aQ.enc):=by simp[bU.enc,aQ.dW]
def bU.cells (s:bU):∀a,a∈s.enc->a.cell=true:=λa E=>by
 simp[bU.enc] at E;rcases E with rfl|h
 .rfl
 .exact aQ.cells _ _ h
structure QE (u:bU):Prop where
 p:u.Path.length<=1048576
 n:cU 20000 u.dE
 v:V u.dE
 k:u.dE.aJ=56
 c:u.dE.iD<=600
structure uI (us:List bU):Prop where
 n:us.length<=1048576
 a:∀u,u∈us->QE u
section
variable {us:SL bU}
def OR (h:uI us.aG) {name}:bM aE 91 [us.av 5 bU.enc,.str name] (λr=>r=.I (-1)\/∃i:Nat,r=.I i/\i<us.aG.length):=by
 intro E;refine cO F91 ?_;simp[F91];refine b6 us.aG.length (λi e H E=>e 0=us.av 5 bU.enc/\e 1=.str name/\e 5=.I i/\H=[]) ⟨rfl,rfl,rfl,rfl⟩ ?_;intro i e H c E ⟨T,e1,Z,E⟩ N hN;subst E;by_cases J:i<us.aG.length
 .obtain⟨x,hx⟩:∃x,us.aG[i]?=some x:=⟨_,bC J⟩
  have E:(i:Int)<(us.aG.length:Int):=by omega
  have W:=cD (i:=i) (n:=us.aG.length) (cL h.n (by decide)) J;by_cases hq:x.Path=name
  .simp[T,e1,Z,E,aL hx,hq];exact aS ⟨rfl,.inr ⟨i,rfl,J⟩⟩
  .simp[T,e1,Z,E,aL hx,hq];exact hN _ _ _ _ J (bY _) ⟨T,e1,by simp[aK,W],rfl⟩
 .have E:¬(i:Int)<(us.aG.length:Int):=by omega
  simp[T,Z,E];exact aS ⟨rfl,.inl rfl⟩
def D3 {x y:aQ} (h:y∈x.aP.aG):y.iD<=x.iD:=by have:=AR (sz:=aQ.iD) h;rw[aQ.B3 x];omega
def FnQ (r:AV):Prop:=∃(x:aQ) (b:Bool),r=.aX [.agg x.enc,.bool b]/\cU 20000 x/\(b=true->V x/\Us false x.aP.aG/\x.iD<=600)
def fn23_s (h:uI us.aG) {name}:bM aE 267 [us.av 5 bU.enc,.str name] FnQ:=by
 intro Z;refine cO F267 ?_;simp[F267];refine b6 us.aG.length (λi e H c'=>e 0=us.av 5 bU.enc/\e 1=.str name/\e 4=.ptr 0 Z 4 0 0/\e 6=.I i/\H=[⟨false,Z,4,[[.I 0,.I 0,.str [],.aU]]⟩]) ⟨rfl,rfl,rfl,rfl,rfl⟩ ?_;intro i e H c E ⟨J,e1,e4,W,hH⟩ N hN;subst hH;by_cases hl:i<us.aG.length;rotate_left
 .have E:¬(i:Int)<(us.aG.length:Int):=by omega
  simp[J,e4,W,E];exact aS ⟨rfl,vD,false,by rw[DO],pQ,λh=>by cases h⟩
 obtain⟨x,hx⟩:∃x,us.aG[i]?=some x:=⟨_,bC hl⟩
 have T:=h.a x (bA hx);have hxl:=T.n.l;have E:(i:Int)<(us.aG.length:Int):=by omega
 have hst:=cD (i:=i) (n:=us.aG.length) (cL h.n (by decide)) hl;simp[J,W,E];refine b6 x.dE.aP.aG.length (λk e H c'=>e 0=us.av 5 bU.enc/\e 1=.str name/\e 4=.ptr 0 Z 4 0 0/\e 6=.I i/\e 7=.I k/\H=[⟨false,Z,4,[[.I 0,.I 0,.str [],.aU]]⟩]) ⟨J,e1,e4,W,rfl,rfl⟩ ?_;clear J e1 e4 W;intro k e H E E ⟨J,e1,e4,W,e7,hH⟩ E hN2;subst hH;by_cases hkl:k<x.dE.aP.aG.length
 .obtain⟨y,hy⟩:∃y,x.dE.aP.aG[k]?=some y:=⟨_,bC hkl⟩
  have Z:=bA hy;have E:(k:Int)<(x.dE.aP.aG.length:Int):=by omega
  have hst2:=cD (i:=k) (n:=x.dE.aP.aG.length) (cL hxl (by decide)) hkl;by_cases h49:y.aJ=49
  .by_cases hq:y.bR=name
   .simp[J,e1,e4,W,e7,aL hx,aL hy,E,h49,hq];exact aS ⟨rfl,y,true,rfl,T.n.i y Z,λ_=>⟨T.v.k y Z,(T.v.k y Z).sh.CW (by omega),cL (D3 Z) T.c⟩⟩
   .simp[J,e1,W,e7,aL hx,aL hy,E,h49,hq];exact hN2 _ _ _ _ hkl (fN 1 _) ⟨J,e1,e4,W,by simp[aK,hst2],rfl⟩
  .simp[J,W,e7,aL hx,aL hy,E,h49];exact hN2 _ _ _ _ hkl (fN 1 _) ⟨J,e1,e4,W,by simp[aK,hst2],rfl⟩
 .have E:¬(k:Int)<(x.dE.aP.aG.length:Int):=by omega
  simp[J,W,e7,aL hx,E];exact hN _ _ _ _ hl (bY _) ⟨J,e1,e4,by simp[aK,hst],rfl⟩
end
set_option maxRecDepth 100000
def AO {α:Type} {p:α->Prop} {l:aF α} {i:Nat} {a:α} (h:∀x,x∈l.take i->p x) (E:l[i]?=some a) (J:p a):∀x,x∈l.take (i+1)->p x:=by
 rw[wB,E];intro x E;rcases dI.1 E with E|E
 .exact h x E
 .simp at E;exact E▸J
def AP {α:Type} {p:α->Prop} {l:aF α} {i} (h:∀x,x∈l.take i->p x) (E:l.length<=i):∀x,x∈l->p x:=by rwa [fJ E] at h
def Dy (name:aA) (y:aQ):Prop:=y.aJ=55/\y.bR=name
def Dn (fr name:aA) (n:aQ):Prop:=(n.aJ=50\/n.aJ=51)/\n.bR=fr/\∃y,y∈n.aP.aG/\Dy name y
def Du (fr name:aA) (x:aQ):Prop:=∃n,n∈x.aP.aG/\Dn fr name n
def DD (us:aF bU) (name fr:aA):Prop:=∃u,u∈us/\Du fr name u.dE
section
variable {us:SL bU}
def MtQ (us:aF bU) (name fr:aA) (r:AV):Prop:=∃(x:aQ) (b:Bool),r=.aX [.agg x.enc,.bool b]/\cU 20000 x/\(b=true->V x/\Us false x.aP.aG/\x.iD<=600)/\(DD us name fr->b=true)
def mt23_s (h:uI us.aG) {fr name:aA}:bM aE 131 [us.av 5 bU.enc,.str fr,.str name] (MtQ us.aG name fr):=by
 intro c0;refine cO F131 ?_;simp[F131];refine b6 us.aG.length (λi e H c'=>e 0=us.av 5 bU.enc/\e 1=.str fr/\e 2=.str name/\e 6=.ptr 0 c0 4 0 0/\e 8=.I i/\(∀u,u∈us.aG.take i->¬Du fr name u.dE)/\H=[⟨false,c0,4,[[.I 0,.I 0,.str [],.aU]]⟩]) ⟨rfl,rfl,rfl,rfl,rfl,by simp,rfl⟩ ?_;intro i e H c E ⟨e0,T,e2,e6,e8,Z,hH⟩ N hN;subst hH;by_cases hl:i<us.aG.length;rotate_left
 .have E:¬(i:Int)<(us.aG.length:Int):=by omega
  simp[e0,e6,e8,E];exact aS ⟨rfl,vD,false,by rw[DO],pQ,(λh=>by cases h),λ⟨u,J,hd⟩=>absurd hd (AP Z (by omega) u J)⟩
 obtain⟨x,hx⟩:∃x,us.aG[i]?=some x:=⟨_,bC hl⟩
 have hxo:=h.a x (bA hx);have hxl:=hxo.n.l;have E:(i:Int)<(us.aG.length:Int):=by omega
 have hst:=cD (i:=i) (n:=us.aG.length) (cL h.n (by decide)) hl;simp[e0,e8,E];refine b6 x.dE.aP.aG.length (λk e H c'=>e 0=us.av 5 bU.enc/\e 1=.str fr/\e 2=.str name/\e 6=.ptr 0 c0 4 0 0/\e 8=.I i/\e 9=.I k/\(∀n,n∈x.dE.aP.aG.take k->¬Dn fr name n)/\H=[⟨false,c0,4,[[.I 0,.I 0,.str [],.aU]]⟩]) ⟨e0,T,e2,e6,e8,rfl,by simp,rfl⟩ ?_;clear e0 T e2 e6 e8;intro k e H c2 E ⟨e0,T,e2,e6,e8,e9,J,hH⟩ N2 hN2;subst hH;by_cases W:k<x.dE.aP.aG.length;rotate_left
 .have E:¬(k:Int)<(x.dE.aP.aG.length:Int):=by omega
  simp[e0,e8,e9,aL hx,E];exact hN _ _ _ _ hl (bY _) ⟨e0,T,e2,e6,by simp[aK,hst],AO Z hx (λ⟨n,Z,hd⟩=>AP J (by omega) n Z hd),rfl⟩
 obtain⟨y,hy⟩:∃y,x.dE.aP.aG[k]?=some y:=⟨_,bC W⟩
 have hym:=bA hy;have hyo:=hxo.n.i y hym;have hyl:=hyo.l;have E:(k:Int)<(x.dE.aP.aG.length:Int):=by omega
 have Z:=cD (i:=k) (n:=x.dE.aP.aG.length) (cL hxl (by decide)) W;simp[e0,e8,e9,aL hx,aL hy,E];refine b6 y.aP.aG.length (λj e H c'=>e 0=us.av 5 bU.enc/\e 1=.str fr/\e 2=.str name/\e 6=.ptr 0 c0 4 0 0/\e 8=.I i/\e 9=.I k/\e 10=.ptr 1 c2 4 0 0/\e 11=.I j/\(∀z,z∈y.aP.aG.take j->¬Dy name z)/\H=[⟨false,c0,4,[[.I 0,.I 0,.str [],.aU]]⟩,⟨false,c2,4,[y.enc]⟩]) ⟨e0,T,e2,e6,e8,e9,rfl,rfl,by simp,rfl⟩ ?_;clear e0 T e2 e6 e8 e9;intro j e H E E ⟨e0,T,e2,e6,e8,e9,E,e11,hno3,hH⟩ N3 hN3;subst hH;have out:∀{e':Env} {H':aC} {c':Nat},¬Dn fr name y->e' 0=us.av 5 bU.enc->e' 1=.str fr->e' 2=.str name->e' 6=.ptr 0 c0 4 0 0->e' 8=.I i->e' 9=.I ((k+1:Nat):Int)->N2 e' (⟨false,c0,4,[[.I 0,.I 0,.str [],.aU]]⟩::H') c':=λhd h0 h1 h2 h6 h8 h9=>
  hN2 _ _ _ _ W (fN 1 _) ⟨h0,h1,h2,h6,h8,h9,AO J hy hd,rfl⟩
 by_cases J:(y.aJ=50\/y.aJ=51)/\y.bR=fr;rotate_left
 .by_cases W:y.aJ=50
  .have ht:¬y.bR=fr:=λh=>J ⟨.inl W,h⟩;simp[T,E,W,ht,e9];exact out (λh=>J ⟨h.1,h.2.1⟩) (e0) (T) (e2) (e6) (e8) (by simp[aK,Z])
  .by_cases k51:y.aJ=51
   .have ht:¬y.bR=fr:=λh=>J ⟨.inr k51,h⟩;simp[T,E,k51,ht,e9];exact out (λh=>J ⟨h.1,h.2.1⟩) (e0) (T) (e2) (e6) (e8) (by simp[aK,Z])
   .simp[T,E,W,k51,e9];exact out (λh=>J ⟨h.1,h.2.1⟩) (e0) (T) (e2) (e6) (e8) (by simp[aK,Z])
 obtain⟨hk5,ht⟩:=J;by_cases hjl:j<y.aP.aG.length;rotate_left
 .have J:¬(j:Int)<(y.aP.aG.length:Int):=by omega
  have hd:¬Dn fr name y:=λ⟨_,_,z,hz,hdz⟩=>AP hno3 (by omega) z hz hdz;by_cases W:y.aJ=50
  .simp[T,E,e11,W,ht,e9,J];exact out hd (e0) (T) (e2) (e6) (e8) (by simp[aK,Z])
  .have k51:=hk5.resolve_left W;simp[T,E,e11,k51,ht,e9,J];exact out hd (e0) (T) (e2) (e6) (e8) (by simp[aK,Z])
 obtain⟨z,hz⟩:∃z,y.aP.aG[j]?=some z:=⟨_,bC hjl⟩
 have Z:=bA hz;have J:(j:Int)<(y.aP.aG.length:Int):=by omega
 have hst3:=cD (i:=j) (n:=y.aP.aG.length) (cL hyl (by decide)) hjl;have hgo:∀{e':Env} {c':Nat},¬Dy name z->e' 0=us.av 5 bU.enc->e' 1=.str fr->e' 2=.str name->e' 6=.ptr 0 c0 4 0 0->e' 8=.I i->e' 9=.I k->e' 10=.ptr 1 c2 4 0 0->e' 11=.I ((j+1:Nat):Int)->N3 e' [⟨false,c0,4,[[.I 0,.I 0,.str [],.aU]]⟩,⟨false,c2,4,[y.enc]⟩] c':=λhd h0 h1 h2 h6 h8 h9 h10 h11=>
  hN3 _ _ _ _ hjl (bY _) ⟨h0,h1,h2,h6,h8,h9,h10,h11,AO hno3 hz hd,rfl⟩
 have fin:∀{H:aC} {c':Nat},Dy name z->cE (λr H' _=>H'=[]/\MtQ us.aG name fr r) (.aX [.agg z.enc,.bool true]) H c':=λhd=>
  aS ⟨rfl,z,true,rfl,hyo.i z Z,(λ_=>⟨(hxo.v.k y hym).k z Z,((hxo.v.k y hym).k z Z).sh.CW (by have:=hd.1;omega),cL (D3 Z) (cL (D3 hym) hxo.c)⟩),λ_=>rfl⟩
 by_cases W:y.aJ=50
 .by_cases Z:z.aJ=55
  .by_cases hzt:z.bR=name
   .simp[T,e2,e6,E,e11,W,ht,J,aL hz,Z,hzt];exact fin ⟨Z,hzt⟩
   .simp[T,e2,E,e11,W,ht,J,aL hz,Z,hzt];exact hgo (λh=>hzt h.2) (e0) (T) (e2) (e6) (e8) (e9) (E) (by simp[aK,hst3])
  .simp[T,E,e11,W,ht,J,aL hz,Z];exact hgo (λh=>Z h.1) (e0) (T) (e2) (e6) (e8) (e9) (E) (by simp[aK,hst3])
 .have k51:=hk5.resolve_left W;by_cases Z:z.aJ=55
  .by_cases hzt:z.bR=name
   .simp[T,e2,e6,E,e11,k51,ht,J,aL hz,Z,hzt];exact fin ⟨Z,hzt⟩
   .simp[T,e2,E,e11,k51,ht,J,aL hz,Z,hzt];exact hgo (λh=>hzt h.2) (e0) (T) (e2) (e6) (e8) (e9) (E) (by simp[aK,hst3])
  .simp[T,E,e11,k51,ht,J,aL hz,Z];exact hgo (λh=>Z h.1) (e0) (T) (e2) (e6) (e8) (e9) (E) (by simp[aK,hst3])
end
set_option maxRecDepth 100000
def NN (us:aF bU):aF aA:=rF::us.flatMap λu=>u.dE.aP.aG.flatMap λn=>n.aP.aG.map aQ.bR
def OO {α β:Type} {f:α->aF β} {k}:∀(l:aF α),(∀x,x∈l->(f x).length<=k)->(l.flatMap f).length<=l.length*k
 |[],_=>by simp
 |a::l,h=>by
  have E:=h a (by simp);have E:=OO l λx E=>h x (by simp[E]);rw[CS,kW,lE,rW];omega
def NN.len {us:aF bU} (h:uI us) (T:us.length<=8):(NN us).length<=10000000000:=by
 have Z:∀u,u∈us->(u.dE.aP.aG.flatMap λn=>n.aP.aG.map aQ.bR).length<=400000000:=λu E=>by
  have J:=(h.a u E).n;have W:=OO (f:=λn:aQ=>n.aP.aG.map aQ.bR) (k:=20000) u.dE.aP.aG λn E=>by
   rw[nR];exact(J.i n E).l
  have E:=J.l;have J:=uQ 20000 E;omega
 have W:=OO us Z;have E:=uQ 400000000 T;simp only[NN,lE];omega
section
variable {us:SL bU}
def isn_c {H} {c} {K:aD} {l:aA} (J:l.length<=mx) (k:∀b E,c<=E->K (.bool b) H E):bO aE 83 [.str l] H c K:=cX (MT J) .bool λE J=>k _ E J
def LuQ (us:aF bU) (r:AV):Prop:=∃(s:SL bG) (E:Int),r=.aX [s.av 4 bG.enc,.I E]/\0<=E/\E<=5/\(E=0->us.length<=8/\(∀x,x∈s.aG->CK (NN us) (DD us) x)/\s.aG.length<=200000/\∃y,s.aG[0]?=some y/\Er y)
def EI {us:aF bU} {H:aC} {c' i t:Nat} {code:Int} (T:(⟨false,t,4,[]⟩:aH)∈H) (E:0<code) (W:code<=5):cE (λr E _=>E=[]/\LuQ us r) (.aX [.ref i t 4 0,.I code]) H c':=by
 refine⟨H,[],[],.aX [(SL.mk t ([]:aF bG)).av 4 bG.enc,.I code],eX _,.nil,λo h=>h,by simp[aV],.aX rfl λk x E J E=>?_,rfl,_,_,rfl,by omega,W,λh=>by omega⟩
 match k,J,E with
 |0,J,E=>simp at J E;subst J;subst E;exact jK (l:=([]:aF bG)) T rfl (by simp)
 |1,J,E=>simp at J E;subst J;subst E;exact .refl _
 |k+2,J,E=>simp at J
def linkU_s (h:uI us.aG):bM aE 90 [us.av 5 bU.enc] (LuQ us.aG):=by
 intro T;refine cO F90 ?_;unfold F90;have hmx:=h.n;by_cases h8:us.aG.length<=8;rotate_left
 .have:(8:Int)<((us.aG.length:Nat):Int):=by omega
  simp[this];exact EI (by simp) (by decide) (by decide)
 have E:¬(8:Int)<((us.aG.length:Nat):Int):=by omega
 simp[E];refine b6 us.aG.length (λi e H c'=>∃(J tb:Nat) (L:aF aQ),e 0=us.av 5 bU.enc/\e 4=.ref 0 J 1 0/\e 5=.ref 1 tb 4 L.length/\e 6=.I i/\L=(us.aG.take i).map bU.dE/\H=[⟨false,J,1,[]⟩,⟨false,tb,4,L.map aQ.enc⟩]) ⟨T,T+1,[],rfl,rfl,rfl,rfl,by simp,rfl⟩ ?_;intro i e H c hi ⟨J,tb,L,E,W,Z,e6,hL,hH⟩ P hP;subst hH;have hLl:L.length<=i:=by rw[hL];simp;omega
 by_cases hl:i<us.aG.length
 .obtain⟨x,hx⟩:∃x,us.aG[i]?=some x:=⟨_,bC hl⟩
  have hxo:=h.a x (bA hx);have T:(i:Int)<(us.aG.length:Int):=by omega
  have hst:=cD (i:=i) (n:=us.aG.length) (cL hmx (by decide)) hl;have hL':L++[x.dE]=(us.aG.take (i+1)).map bU.dE:=by rw[wB,hx,hL];simp
  have hpl:x.Path.length<=mx:=cL hxo.p (by decide);simp[E,e6,T,aL hx];refine isn_c hpl λb c1 _=>?_;cases b
  .simp;exact EI (by simp) (by decide) (by decide)
  simp[E,e6,aL hx];refine cV (OR (us:=us) h (name:=x.Path)) λr c2 _ hr=>?_;obtain⟨q,rfl⟩:∃q,r=.I q:=by rcases hr with h|⟨i,h,_⟩;exact⟨_,h⟩;exact⟨_,h⟩
  refine⟨.int,?_⟩;by_cases hq:q=i;rotate_left
  .simp[e6,hq];exact EI (by simp) (by decide) (by decide)
  simp[E,e6,hq,aL hx];refine cV (ZR hxo.n) λr c3 _ ⟨n,hr,hn0,hn5,hn⟩=>?_;subst hr;refine⟨.int,?_⟩;by_cases hn0:n=0;rotate_left
  .simp[hn0];exact EI (by simp) (by decide) (by decide)
  simp[hn0,E,Z,e6,aL hx];refine⟨by omega,by unfold mx;omega,?_⟩;exact hP _ _ (List.take 2 _) _ hl (fN 2 _) ⟨J,_,L++[x.dE],E,W,by simp[aK];rfl,by simp[aK,hst],hL',by simp⟩
 have T:¬(i:Int)<(us.aG.length:Int):=by omega
 simp[E,e6,T];have hall:∀y,y∈L->∃u,u∈us.aG/\u.dE=y:=λy hy=>by
  rw[hL,fJ (by omega)] at hy;obtain⟨u,hu,rfl⟩:=fZ.1 hy;exact⟨u,hu,rfl⟩
 have hL8:L.length<=8:=by omega
 clear hL hP;refine b6 us.aG.length (λk e H c'=>∃(J:Nat) (M:aF aA),e 0=us.av 5 bU.enc/\e 4=.ref 0 J 1 M.length/\e 5=.ref 1 tb 4 L.length/\e 7=.I k/\M.length<=20000*k/\H=[⟨false,J,1,M.map eK⟩,⟨false,tb,4,L.map aQ.enc⟩]) ⟨J,[],E,W,Z,rfl,by simp,rfl⟩ ?_;clear E W Z e6;clear J hl T hLl hi P i;intro i e H c hi ⟨J,M,E,W,Z,e7,hM,hH⟩ P hP;subst hH;by_cases hl:i<us.aG.length
 .obtain⟨x,hx⟩:∃x,us.aG[i]?=some x:=⟨_,bC hl⟩
  have hxo:=h.a x (bA hx);have hxl:=hxo.n.l;have T:(i:Int)<(us.aG.length:Int):=by omega
  have hst:=cD (i:=i) (n:=us.aG.length) (cL hmx (by decide)) hl;simp[E,e7,T];refine b6 x.dE.aP.aG.length (λk e H c'=>∃(J:Nat) (M:aF aA),e 0=us.av 5 bU.enc/\e 4=.ref 0 J 1 M.length/\e 5=.ref 1 tb 4 L.length/\e 7=.I i/\e 8=.I k/\M.length<=20000*i+k/\H=[⟨false,J,1,M.map eK⟩,⟨false,tb,4,L.map aQ.enc⟩]) ⟨J,M,E,W,Z,e7,rfl,by omega,rfl⟩ ?_;clear E W Z e7;clear J hM M;intro k e H c2 hk ⟨J,M,E,W,Z,e7,e8,hM,hH⟩ P2 hP2;subst hH;by_cases hkl:k<x.dE.aP.aG.length
  .obtain⟨y,hy⟩:∃y,x.dE.aP.aG[k]?=some y:=⟨_,bC hkl⟩
   have hym:=bA hy;have hlt2:(k:Int)<(x.dE.aP.aG.length:Int):=by omega
   have hst2:=cD (i:=k) (n:=x.dE.aP.aG.length) (cL hxl (by decide)) hkl;by_cases h49:y.aJ=49
   .simp[E,e7,e8,aL hx,aL hy,hlt2,h49];refine b6 M.length (λj e H c'=>e 0=us.av 5 bU.enc/\e 4=.ref 0 J 1 M.length/\e 5=.ref 1 tb 4 L.length/\e 7=.I i/\e 8=.I k/\e 9=.ptr 2 c2 4 0 0/\e 10=.I j/\H=[⟨false,J,1,M.map eK⟩,⟨false,tb,4,L.map aQ.enc⟩,⟨false,c2,4,[y.enc]⟩]) ⟨E,W,Z,e7,e8,rfl,rfl,rfl⟩ ?_;clear E W Z e7 e8;intro j e H c3 hj ⟨E,W,Z,e7,e8,e9,e10,hH⟩ P3 hP3;subst hH;by_cases hjl:j<M.length
    .obtain⟨z,hz⟩:∃z,M[j]?=some z:=⟨_,bC hjl⟩
     have hlt3:(j:Int)<(M.length:Int):=by omega
     have hst3:=cD (i:=j) (n:=M.length) (by unfold mx;omega) hjl;have hg:(M.map eK)[j]?=some (eK z):=by simp[hz]
     by_cases hq:z=y.bR
     .simp[W,e9,e10,hlt3,aL hg,eK,hq];exact EI (by simp) (by decide) (by decide)
     .simp[W,e9,e10,hlt3,aL hg,eK,hq];exact hP3 _ _ _ _ hjl (bY _) ⟨E,W,Z,e7,e8,e9,by simp[aK,hst3],rfl⟩
    .have hlt3:¬(j:Int)<(M.length:Int):=by omega
     simp[W,e8,e9,e10,hlt3];refine⟨by omega,by unfold mx;omega,?_⟩;exact hP2 _ _ (List.take 2 _) _ hkl (fN 2 _) ⟨_,M++[y.bR],E,by simp[aK];rfl,Z,e7,by simp[aK,hst2],by simp;omega,by simp[eK]⟩
   .simp[E,e7,e8,aL hx,aL hy,hlt2,h49];exact hP2 _ _ (List.take 2 _) _ hkl (fN 2 _) ⟨J,M,E,W,Z,e7,by simp[aK,hst2],by omega,rfl⟩
  .have hlt2:¬(k:Int)<(x.dE.aP.aG.length:Int):=by omega
   simp[E,e7,e8,aL hx,hlt2];exact hP _ _ (List.take 2 _) _ hl (fN 2 _) ⟨J,M,E,W,Z,by simp[aK,hst],by omega,rfl⟩
 have T:¬(i:Int)<(us.aG.length:Int):=by omega
 simp[E,Z,e7,T];have E:∀y,y∈L->cU 20000 y:=λy hy=>by obtain⟨u,hu,rfl⟩:=hall y hy;exact(h.a u hu).n
 refine ZX (link_s (S:=.mk tb L) (N:=NN us.aG) (D:=DD us.aG) (by simp[NN]) (NN.len h h8) hL8 E (λy hy n hn z hz=>?_) (λy hy n hn hk z hz Z=>?_)) (.cons (jK (by simp) rfl λx _=>aQ.cells x) .nil) λr c1 _ ⟨s,E,hr,T,J,W⟩=>?_
 .obtain⟨u,hu,rfl⟩:=hall y hy;exact iI _ (LJ.2 ⟨u,hu,LJ.2 ⟨n,hn,fZ.2 ⟨z,hz,rfl⟩⟩⟩)
 .obtain⟨u,hu,rfl⟩:=hall y hy;exact⟨u,hu,n,hn,hk,rfl,z,hz,Z,rfl⟩
 subst hr;refine⟨hY (xF EA _) .int,?_⟩;simp;exact aS ⟨rfl,s,E,rfl,T,J,λE=>⟨h8,W E⟩⟩
end
structure TP (L:List aA):Prop where
 d:L.Nodup
 n:∀p,p∈L->jY p=some p
def TP.snoc {L} {p} (h:TP L) (J:jY p=some p) (T:p∉L):TP (L++[p]):=
 ⟨mI.2 ⟨h.d,by simp,λa W b E e=>by simp at E;subst E;subst e;exact T W⟩,λq E=>by rcases dI.1 E with E|E;exact h.n q E;simp at E;exact E▸J⟩
def IncQ (L:aF aA) (m:Nat) (r:AV) (T:aC) (_:Nat):Prop:=
 ∃(J:Nat) (E:aF aA),T=[⟨false,J,1,E.map eK⟩]/\r=.ref 0 J 1 E.length/\TP E/\L <+: E/\E.length<=L.length+m
def av_str1 l:Av [] (.agg (eK l)):=.agg λj a E=>by
 have:=bA E;simp[eK] at this;subst this;exact .str
def WV {H:aC} {c i t n m:Nat} {K:aD} {x:aQ} {L:aF aA} (Z:∀c,cA aE 89 [.agg x.enc,.ref 0 t 1 L.length] [⟨false,t,1,L.map eK⟩] c (IncQ L m)) (hH:H[i]?=some ⟨false,t,1,L.map eK⟩) (W:n=L.length)
  (k:∀J E T,c<=T->TP E->L <+: E->E.length<=L.length+m->K (.ref i J 1 (List.length E)) (H.set i ⟨false,J,1,List.map eK E⟩) T):bO aE 89 [.agg x.enc,.ref i t 1 n] H c K:=by subst W;refine B9 hH (Z c) (.cons (.refl _) (.cons .name .nil)) (λr W T ⟨J,E,h,_⟩=>⟨_,h⟩) λr W T Z ⟨J,E,W,h2,h3,h4,h5⟩=>?_;simp at W;subst W;subst h2;exact⟨.ref i J 1 E.length,.name,.ref,KG av_str1 _ _ _ _,k J E T Z h3 h4 h5⟩
def tB {α:Type} {f:α->Nat} {l:aF α} {i}:bE f (l.take i)<=bE f l:=by
 have:bE f l=bE f (l.take i)+bE f (l.drop i):=by
  have h:=congrArg (bE f) (wA i l);rw[<-h];simp only[bE,qB,FY]
 omega
def incl_s:∀x:aQ,cU 20000 x->∀(L:aF aA) (t c0:Nat),L.length+x.iD<=100000->TP L->cA aE 89 [.agg x.enc,.ref 0 t 1 L.length] [⟨false,t,1,L.map eK⟩] c0 (IncQ L x.iD):=by
 refine aQ.ind λx ih hx L t c0 E hT=>?_;have E:=hx.l;have E:=hx.s;have J:=x.B3;refine cO F89 ?_;unfold F89;dsimp only;rw[dT,dT];refine gK (λe H c'=>∃(t':Nat) (L':aF aA) (X:aC),e 1=.ref 0 t' 1 L'.length/\e 2=.ptr 1 c0 4 0 0/\TP L'/\L <+: L'/\L'.length<=L.length+1/\H=⟨false,t',1,L'.map eK⟩::⟨false,c0,4,[x.enc]⟩::X) ?_ ?_;rotate_left
 .intro K hK;simp;refine cX (C4 (l:=x.bR) (cL E (by decide))) (by unfold pP;exact hY .str .bool) λE _=>?_;simp[pP];have T:∀{E:Env} {c':Nat},E 1=.ref 0 t 1 L.length->E 2=.ptr 1 c0 4 0 0->K E [⟨false,t,1,L.map eK⟩,⟨false,c0,4,[x.enc]⟩] c':=λJ E=>hK _ _ _ ⟨t,L,[],J,E,hT,List.prefix_refl _,by omega,rfl⟩;by_cases E:x.aJ=47;rotate_left
  .simp[E];exact T (by simp[aK,gZ]) (rfl)
  cases hp:jY x.bR with
  |none=>
   simp[E];exact T (by simp[aK,gZ]) (rfl)
  |some p=>
   have hpi:=norm_idem hp;simp[E];refine b6 L.length (λi e H c'=>∃q:Bool,e 1=.ref 0 t 1 L.length/\e 2=.ptr 1 c0 4 0 0/\e 5=.str p/\e 6=.bool q/\e 7=.I i/\(q=true->∀y,y∈L.take i->y≠p)/\H=[⟨false,t,1,L.map eK⟩,⟨false,c0,4,[x.enc]⟩]) ⟨true,by simp[aK,gZ],rfl,rfl,rfl,rfl,by simp,rfl⟩ ?_;intro i e H c hi ⟨q,J,Z,e5,e6,W,hq,hH⟩ P hP;subst hH;by_cases h:i<L.length
   .obtain⟨z,hz⟩:∃z,L[i]?=some z:=⟨_,bC h⟩
    have E:(i:Int)<(L.length:Int):=by omega
    have hst:=cD (i:=i) (n:=L.length) (by unfold mx;omega) h;have hg:(L.map eK)[i]?=some (eK z):=by simp[hz]
    cases q
    .simp[J,e6,W,E];exact hP _ _ _ _ h (bY _) ⟨false,J,Z,e5,rfl,by simp[aK,hst],by simp,rfl⟩
    .simp[J,e5,e6,W,E,aL hg,eK];exact hP _ _ _ _ h (bY _) ⟨!decide (z=p),J,Z,e5,rfl,by simp[aK,hst],λhb=>AO (hq rfl) hz (by simpa using hb),rfl⟩
   .have E:¬(i:Int)<(L.length:Int):=by omega
    cases q
    .simp[J,e6,W,E];exact T (J) (Z)
    .have T:p∉L:=λhm=>AP (hq rfl) (by omega) p hm rfl;simp[J,e5,e6,W,E];refine⟨by omega,by unfold mx;omega,?_⟩;exact hK _ _ _ ⟨_,L++[p],_,by simp[aK];rfl,Z,hT.snoc hpi T,List.prefix_append _ _,by simp,by simp[eK];rfl⟩
 intro e H c ⟨t1,L1,X,J,Z,W,T,hl1,hH⟩;subst hH;simp;refine b6 x.aP.aG.length (λi e H c'=>∃(t':Nat) (L':aF aA) (X:aC),e 1=.ref 0 t' 1 L'.length/\e 2=.ptr 1 c0 4 0 0/\e 8=.I i/\TP L'/\L <+: L'/\L'.length<=L.length+1+bE aQ.iD (x.aP.aG.take i)/\H=⟨false,t',1,L'.map eK⟩::⟨false,c0,4,[x.enc]⟩::X) ⟨t1,L1,X,J,Z,rfl,W,T,by simp[bE];omega,rfl⟩ ?_;clear J Z W T hl1;clear t1 L1 X;intro i e H c hi ⟨t1,L1,X,J,Z,e8,W,T,hl1,hH⟩ P hP;subst hH;have hle:=tB (f:=aQ.iD) (l:=x.aP.aG) (i:=i);by_cases h:i<x.aP.aG.length
 .obtain⟨y,hy⟩:∃y,x.aP.aG[i]?=some y:=⟨_,bC h⟩
  have hym:=bA hy;have E:(i:Int)<(x.aP.aG.length:Int):=by omega
  have hst:=cD (i:=i) (n:=x.aP.aG.length) (by unfold mx;omega) h;have hsz:=tD aQ.iD hy;have hle2:=tB (f:=aQ.iD) (l:=x.aP.aG) (i:=i+1);simp[J,Z,e8,E,aL hy];refine WV (λc=>ih y hym (hx.i y hym) L1 t1 c (by omega) W) rfl rfl λt2 L2 c2 _ hT2 hp2 hl2=>?_;simp[e8];exact hP _ _ _ _ h (bY _) ⟨t2,L2,_,rfl,Z,by simp[aK,hst],hT2,T.trans hp2,by omega,rfl⟩
 .have E:¬(i:Int)<(x.aP.aG.length:Int):=by omega
  simp[J,Z,e8,E];rw[fJ (by omega)] at hl1;exact fI (Hk:=[⟨false,t1,1,L1.map eK⟩]) (by simp) (.refl _) ⟨t1,L1,rfl,rfl,W,T,by omega⟩
set_option maxRecDepth 100000
def mu_c {H} {c} {K:aD} {p l:aA} (T:l.length<=1048576) (k:∀(s:aA) (x:aQ) (E:Int) (J:Nat),c<=J->cU 20000 x->0<=E->E<=30->(E=0->V x/\x.aJ=56/\x.iD<=600/\s=p)->K (.aX [.agg (bU.mk s x).enc,.I E]) H J):bO aE 88 [.str p,.str l] H c K:=
 cV (mu_s T) λr J T ⟨s,x,E,h,h1,h2,h3,Z⟩=>by
  subst h;refine⟨hY (.agg λj a W=>?_) .int,k s x E J T h1 h2 h3 Z⟩;have E:=bA W;simp at E;rcases E with rfl|E
  .exact .str
  .obtain⟨i,J⟩:=List.getElem?_of_mem E;cases yZ x with
   |agg E=>exact E i a J
   |any _ h=>exact .any _ h
def OS p:∀(l:aF cS) (j:Nat),(findF p l j = -1/\p∉l.map cS.Path)\/∃(i:Nat) (x:cS),findF p l j=((i+j:Nat):Int)/\l[i]?=some x/\x.Path=p
 |[],j=>.inl ⟨rfl,by simp⟩
 |a::l,j=>by
  by_cases h:a.Path=p
  .exact .inr ⟨0,a,by rw[findF,if_pos h];simp,rfl,h⟩
  .rw[findF,if_neg h];rcases OS p l (j+1) with⟨J,E⟩|⟨i,x,J,E,T⟩
   .exact .inl ⟨J,by simp[E];exact λe=>h e.symm⟩
   .exact .inr ⟨i+1,x,by rw[J];omega,by simpa using E,T⟩
section
variable {fs:SL cS}
def UsQ (r:AV):Prop:=∃(s:SL bU) (E:Int),r=.aX [s.av 5 bU.enc,.I E]/\0<=E/\E<=30/\(E=0->uI s.aG)
def JJ {H} {c' i t n} {code:Int} {U:aF bU} (T:(⟨false,t,5,U.map bU.enc⟩:aH)∈H) (W:U.length=n) (E:0<=code) (h2:code<=30) (Z:code=0->uI U):cE (λr E _=>E=[]/\UsQ r) (.aX [.ref i t 5 n,.I code]) H c':=by
 refine⟨H,[],[],.aX [(SL.mk t U).av 5 bU.enc,.I code],eX _,.nil,λo h=>h,by simp[aV],.aX rfl λk x E J E=>?_,rfl,_,_,rfl,by omega,h2,Z⟩
 match k,J,E with
 |0,J,E=>simp at J E;subst J;subst E;exact jK T W λx _=>bU.cells x
 |1,J,E=>simp at J E;subst J;subst E;exact .refl _
 |k+2,J,E=>simp at J
def unitsOf_s (hf:A1 fs) {main:aA} (hm:main.length<=mx):bM aE 67 [fs.av 3 cS.enc,.str main] UsQ:=by
 intro c0
 refine cO F67 ?_
 unfold F67
 simp
 refine cX (C6 hf.1 hm) .int λc1 _=>?_
 simp
 refine cX (MS hf) .bool λc2 _=>?_
 cases hsite:qH fs.aG
 .simp
  exact JJ (U:=[]) (by simp) rfl (by decide) (by decide) (λh=>by cases h)
 have h8:=site_len hsite
 have hfok:∀x,x∈fs.aG->jY x.Path=some x.Path/\x.Source.length<=4000:=λx hx=>by
  simp only[qH,eY,kM] at hsite
  have:=hsite.1.1 x hx
  simp only[sQ,eY,xB,decide_eq_true_eq] at this
  exact⟨this.1.1,this.1.2⟩
 have hcase:nH main fs.aG = -1\/∃(i:Nat) (x:cS),nH main fs.aG=(i:Int)/\fs.aG[i]?=some x:=by
  unfold nH
  split
  .rename_i q _
   rcases OS q fs.aG 0 with⟨h,_⟩|⟨i,x,h1,h2,_⟩
   .exact .inl h
   .exact .inr ⟨i,x,h1,h2⟩
  .exact .inl rfl
 rcases hcase with hcase|⟨i0,x0,hi0,hx0⟩
 .simp[hcase]
  exact JJ (U:=[]) (by simp) rfl (by decide) (by decide) (λh=>by cases h)
 have hge:¬(i0:Int)<0:=by omega
 have hx0p:=(hfok x0 (bA hx0)).1
 simp[hi0,hge,aL hx0]
 refine⟨by decide,?_⟩
 refine b6 4801 (λk e H c'=>∃(tu tt:Nat) (U:aF bU) (L:aF aA),e 0=fs.av 3 cS.enc/\e 6=.ref 0 tu 5 U.length/\e 7=.ref 1 tt 1 L.length/\e 9=.int .i64 k/\TP L/\(∀u,u∈U->QE u)/\
  U.length=((L.take k).filter λp=>decide (p∈fs.aG.map cS.Path)).length/\L.length<=1+600*U.length/\k<=L.length/\∃X,H=⟨false,tu,5,U.map bU.enc⟩::⟨false,tt,1,L.map eK⟩::X) ?_ ?_
 .exact⟨c0,c2+1,[],[x0.Path],by simp[aK,gZ],by simp[aK],by simp[aK],by simp[aK],⟨by simp,by simpa using hx0p⟩,by simp,by simp,by simp,by simp,_,by simp[eK];rfl⟩
 intro k e H c hk ⟨tu,tt,U,L,e0,e6,e7,e9,hT,hU,hUl,hLl,hkl,X,hH⟩ P hP
 subst hH
 have hU8:U.length<=8:=by
  have h1:((L.take k).filter λp=>decide (p∈fs.aG.map cS.Path)).Nodup:=(hT.d.sublist (fN _ _)).filter _
  have h2:=IG _ (fs.aG.map cS.Path) h1 λp hp=>by simpa using (r6.1 hp).2
  rw[nR] at h2
  omega
 have hUK:uI U:=⟨by omega,hU⟩
 by_cases h:k<L.length
 rotate_left
 .have hlt:¬(k:Int)<(L.length:Int):=by omega
  simp[e6,e7,e9,hlt]
  exact JJ (U:=U) (by simp) rfl (by decide) (by decide) λ_=>hUK
 obtain⟨p,hp⟩:∃p,L[k]?=some p:=⟨_,bC h⟩
 have hpn:=hT.n p (bA hp)
 have hpl:=U1 hpn
 have hg:(L.map eK)[k]?=some (eK p):=by simp[hp]
 have hlt:(k:Int)<(L.length:Int):=by omega
 have hk1:k<4801:=by omega
 have hst:=cD (i:=k) (n:=L.length) (by unfold mx;omega) h
 have hfind:nH p fs.aG=findF p fs.aG 0:=by unfold nH;rw[hpn]
 simp[e0,e7,e9,hlt,aL hg,eK]
 refine cX (C6 hf.1 (p:=p) (cL hpl (by decide))) .int λc3 _=>?_
 rw[hfind]
 rcases OS p fs.aG 0 with⟨h1,h2⟩|⟨i,x,h1,hx,hxp⟩
 .simp[h1,e9]
  refine hP _ _ _ _ hk1 (bY _) ⟨tu,tt,U,L,by simp[aK,e0],by simp[aK,e6],by simp[aK,e7],by simp[aK,hst],hT,hU,?_,hLl,h,_,rfl⟩
  rw[hUl,wB,hp]
  simp only[Option.toList_some,List.filter_append,List.filter_cons,List.filter_nil]
  rw[if_neg (by simpa using h2)]
  simp
 have hi0':¬(i:Int)<0:=by omega
 obtain⟨hxn,hxs⟩:=hfok x (bA hx)
 simp[h1,hi0',e0,aL hx,-jN]
 refine nK (λe H c'=>∃(s:aA) (y:aQ) (code:Int) (t:Nat),e 0=fs.av 3 cS.enc/\e 6=.ref 0 tu 5 U.length/\e 7=.ref 1 tt 1 L.length/\e 9=.int .i64 k/\e 10=.ptr (X.length+1+1) t 5 0 0/\e 60=.int .i64 code/\cU 20000 y/\0<=code/\code<=30/\(code=0->V y/\y.aJ=56/\y.iD<=600/\s=x.Path)/\
  H=⟨false,tu,5,U.map bU.enc⟩::⟨false,tt,1,L.map eK⟩::(X++[⟨false,t,5,[(bU.mk s y).enc]⟩])) ?_ ?_
 rotate_left
 .intro K5 hK5
  simp
  repeat' first
   |with_reducible apply And.intro
   |(with_reducible refine mu_c (cL hxs (by decide)) λs y code c4 _ hy hc0 hc30 hc=>?_
     simp[bW,aR]
     exact hK5 _ _ _ ⟨s,y,code,_,by simp[aK,e0],by simp[aK,e6],by simp[aK,e7],by simp[aK,e9],by simp[aK];rfl,by simp[aK],hy,hc0,hc30,hc,by simp[bU.enc]⟩)
 intro e H c ⟨s,y,code,t,e0,e6,e7,e9,e10,e60,hy,hc0,hc30,hc,hH⟩
 subst hH
 by_cases hcode:code=0
 rotate_left
 .simp[e60,hcode]
  exact JJ (U:=[]) (by simp) rfl hc0 hc30 λh=>absurd h hcode
 obtain⟨hv,h56,hcnt,rfl⟩:=hc hcode
 have hl1:=U1 hxn
 have huok:QE ⟨x.Path,y⟩:=⟨by simp only;omega,hy,hv,h56,hcnt⟩
 simp[e6,e7,e10,e60,hcode,bW]
 refine⟨by omega,by unfold mx;omega,?_⟩
 refine WV (λc=>incl_s y hy L tt c (by omega) hT) rfl rfl λt2 L2 c2 _ hT2 hp2 hl2=>?_
 simp[e9]
 have htk:L2.take (k+1)=L.take (k+1):=by
  obtain⟨M,rfl⟩:=hp2
  rw[List.take_append_of_le_length (by omega)]
 have hle2:=hp2.length_le
 refine hP _ _ _ _ hk1 (bY _) ⟨c+1,t2,U++[⟨x.Path,y⟩],L2,by simp[aK,e0],by simp[aK],by simp[aK],by simp[aK,hst],hT2,λu hu=>?_,?_,by simp;omega,by omega,_,by simp;rfl⟩
 .rcases dI.1 hu with h1|h1
  .exact hU u h1
  .simp at h1;exact h1▸huok
 .rw[htk,wB,hp,kW,hUl]
  simp only[Option.toList_some,List.filter_append,List.filter_cons,List.filter_nil]
  rw[if_pos (by simp only[decide_eq_true_eq];exact fZ.2 ⟨x,bA hx,hxp⟩)]
  simp
end
set_option maxRecDepth 100000
def HdOK (h:bK):Prop:=h.Name.length<=20/\h.Value.length<=60
def BfOK (b:eI):Prop:=0<=b.Filter/\b.Filter<=3
def jJ (L:aF eI):Nat:=bE (λb=>b.bR.length) L
structure qP (s:aA) (hs:List bK) (bs:List eI):Prop where
 t:s.length+jJ bs<=3000
 hn:hs.length<=8
 h:∀x,x∈hs->HdOK x
 bn:bs.length<=5
 b:∀x,x∈bs->BfOK x
def jW (o:dM):Prop:=qP o.mT o.cK.aG o.cI.aG
def free_hdr (x:bK):Av [] (.agg x.enc):=.agg λj a J=>by
 have E:=bA J;simp[bK.enc] at E;rcases E with rfl|rfl<;>exact .str
def free_buf (x:eI):Av [] (.agg x.enc):=.agg λj a J=>by
 have E:=bA J;simp[eI.enc] at E;rcases E with rfl|rfl
 .exact .int
 .exact .str
def av_tri {a b d} (E:Av [] a) (E:Av [] b) (E:Av [] d):Av [] (.agg [a,b,d]):=.agg λj x E=>by
 have:=bA E;simp at this;rcases this with rfl|rfl|rfl<;>assumption
def tW (o:dM):Av [] (.agg o.enc):=av_tri .str (xF free_hdr _) (xF free_buf _)
def LZ {S} {a b d a' b' d':AV} (ha:a'.cell=true) (hb:b'.cell=true) (hd:d'.cell=true) (h1:View S a a') (h2:View S b b') (h3:View S d d'):View S (.agg [a,b,d]) (.agg [a',b',d']):=
 .agg rfl (λj x hx=>by
  have:=bA hx;simp at this;rcases this with rfl|rfl|rfl<;>assumption) λj x x' hx hx'=>by
  match j,hx,hx' with
  |0,hx,hx'=>simp at hx hx';subst hx;subst hx';exact h1
  |1,hx,hx'=>simp at hx hx';subst hx;subst hx';exact h2
  |2,hx,hx'=>simp at hx hx';subst hx;subst hx';exact h3
  |j+3,hx,hx'=>simp at hx
def ZI {o:dM} (E:o.cK.aG.length<=1000) (E:o.cI.aG.length<=1000) c0:
  cA aE 166 [.agg o.enc] [] c0 (λr T _=>∃E J:Nat,r=.agg [.str o.mT,.ref 0 E 2 o.cK.aG.length,.ref 1 J 2 o.cI.aG.length]/\T=[⟨false,E,2,o.cK.aG.map bK.enc⟩,⟨false,J,2,o.cI.aG.map eI.enc⟩]):=by refine cO F166 ?_;simp[F166,aR,dM.enc];refine⟨by omega,by unfold mx;omega,by omega,by unfold mx;omega,?_⟩;refine fI (Hk:=[⟨false,c0+1+1+1,2,o.cK.aG.map bK.enc⟩,⟨false,c0+1+1+1+1+1,2,o.cI.aG.map eI.enc⟩]) (by simp) (LZ rfl rfl rfl (.refl _) .name .name) ⟨_,_,rfl,rfl⟩
section
variable {H:aC} {c:Nat} {K:aD} {o:dM}
def JS (W:o.cK.aG.length<=1000) (Z:o.cI.aG.length<=1000)
  (k:∀E J T,c<=T->K (.agg [.str o.mT,.ref H.length E 2 o.cK.aG.length,.ref (H.length+1) J 2 o.cI.aG.length]) (H++[⟨false,E,2,o.cK.aG.map bK.enc⟩,⟨false,J,2,o.cI.aG.map eI.enc⟩]) T):bO aE 166 [.agg o.enc] H c K:=
 B7 (ZI W Z c) (.refl _ _) λr O T Z ⟨E,J,W,hO⟩ h3 h4=>by
  subst W;subst hO;refine⟨_,LZ rfl rfl rfl (.refl _) .name .name,?_,λo W=>?_,k E J T Z⟩
  .exact .agg λj x E=>by
    have:=bA E;simp at this;rcases this with rfl|rfl|rfl
    .exact .str
    .exact .ref
    .exact .ref
  .simp at W;rcases W with rfl|rfl
   .exact λr j x a E T=>by
     obtain⟨y,W,rfl⟩:=fZ.1 (bA E);have J:=bA T;simp[bK.enc] at J;rcases J with rfl|rfl<;>exact .str
   .exact λr j x a E T=>by
     obtain⟨y,W,rfl⟩:=fZ.1 (bA E);have J:=bA T;simp[eI.enc] at J;rcases J with rfl|rfl
     .exact .int
     .exact .str
end
def total_s {o:dM} (h:jW o):dA aE 34 [.agg o.enc] (.I ((o.mT.length+jJ o.cI.aG:Nat):Int)):=by
 have ht:=h.t;have E:=h.bn;refine fO KR λE=>?_;simp[KR];refine b6 o.cI.aG.length (λi e H J=>e 1=.ptr 0 E 3 0 0/\e 3=.I ((o.mT.length+jJ (o.cI.aG.take i):Nat):Int)/\e 4=.I i/\H=[⟨false,E,3,[o.enc]⟩]) ⟨rfl,by simp[aK,jJ,bE],rfl,rfl⟩ ?_;intro i e H c E ⟨W,e3,e4,E⟩ N hN;subst E;by_cases T:i<o.cI.aG.length
 .obtain⟨x,Z⟩:∃x,o.cI.aG[i]?=some x:=⟨_,bC T⟩
  have E:(i:Int)<(o.cI.aG.length:Int):=by omega
  have J:=cD (i:=i) (n:=o.cI.aG.length) (by unfold mx;omega) T;have hs:=tD (λb:eI=>b.bR.length) Z;have hs2:=tB (f:=λb:eI=>b.bR.length) (l:=o.cI.aG) (i:=i+1);have hw:IntKind.i64.wrap (((o.mT.length+jJ (o.cI.aG.take i):Nat):Int)+(x.bR.length:Int))=((o.mT.length+jJ (o.cI.aG.take (i+1)):Nat):Int):=by
   simp only[jJ] at ht ⊢;rw[wrap64 (by omega) (by omega)];omega
  simp[W,e3,e4,E,aL Z,hw,-Int.natCast_add];exact hN _ _ _ _ T (bY _) ⟨W,by simp[aK,-Int.natCast_add],by simp[aK,J],rfl⟩
 .have E:¬(i:Int)<(o.cI.aG.length:Int):=by omega
  simp[W,e3,e4,E,-Int.natCast_add];rw[fJ (by omega)];exact aS ⟨rfl,rfl⟩
def QK (r:AV):Prop:=∃(o:dM) (b:Bool),r=.aX [.agg o.enc,.bool b]/\jW o
def QJ (r:AV):Prop:=∃(o:dM) (n:Int),r=.aX [.agg o.enc,.I n]/\jW o/\0<=n/\n<=10
def UM {H} {s} {i j th tb a b} {hs:aF bK} {bs:aF eI} {aN:aF (aF AV)} (T:(⟨false,th,2,hs.map bK.enc⟩:aH)∈H) (J:(⟨false,tb,2,aN⟩:aH)∈H) (W:aN.take b=bs.map eI.enc) (E:a=hs.length) (Z:b=bs.length):
  View H (.agg [.str s,.ref i th 2 a,.ref j tb 2 b]) (.agg (dM.mk s (.mk th hs) (.mk tb bs)).enc):=by
 refine LZ rfl (nI _ _ _) (nI _ _ _) (.refl _) (jK T E.symm λx _=>bK.cells x) ?_;have E:=congrArg List.length W;simp at E;refine .ref (aN:=aN) (rows':=bs.map eI.enc) J (by omega) (by simp;omega) (λr x T J E=>?_) (λr Z x a J E=>?_) λr Z x T a Z J E q3 Z=>?_
 .have:(aN.take b)[r]?=some T:=by rw[W];exact E
  rw[GB] at this;split at this
  .rw[J] at this;cases this;rfl
  .cases this
 .obtain⟨y,_,rfl⟩:=fZ.1 (bA J);exact eI.cells _ _ (bA E)
 .have:(aN.take b)[r]?=some T:=by rw[W];exact E
  rw[GB] at this;split at this
  .rw[J] at this;cases this;rw[q3] at Z;cases Z;exact .refl _
  .cases this
def tX {H} {c'} {s} {i j th tb a b} {hs:aF bK} {bs:aF eI} {aN:aF (aF AV)} {x} {Q:AV->Prop} (h1:(⟨false,th,2,hs.map bK.enc⟩:aH)∈H) (h2:(⟨false,tb,2,aN⟩:aH)∈H) (T:aN.take b=bs.map eI.enc) (Z:a=hs.length) (W:b=bs.length)
  (h:Q (.aX [.agg (dM.mk s (.mk th hs) (.mk tb bs)).enc,x])):cE (λr E _=>E=[]/\Q r) (.aX [.agg [.str s,.ref i th 2 a,.ref j tb 2 b],x]) H c':=by
 refine⟨H,[],[],.aX [.agg (dM.mk s (.mk th hs) (.mk tb bs)).enc,x],eX _,.nil,λo h=>h,by simp[aV],.aX rfl λk x E J E=>?_,rfl,h⟩
 match k,J,E with
 |0,J,E=>simp at J E;subst J;subst E;exact UM h1 h2 T Z W
 |1,J,E=>simp at J E;subst J;subst E;exact .refl _
 |k+2,J,E=>simp at J
set_option maxRecDepth 100000
def oub_c {H} {c} {K:aD} {f} {J} (T:bM aE f J QK) (k:∀o b E,c<=E->jW o->K (.aX [.agg (dM.enc o),.bool b]) H E):bO aE f J H c K:=
 cV T λr E J ⟨o,b,h,T⟩=>by subst h;exact⟨hY (tW o) .bool,k o b E J T⟩
def oun_c {H} {c} {K:aD} {f} {J} (T:bM aE f J QJ) (k:∀o n E,c<=E->jW o->0<=n->n<=10->K (.aX [.agg (dM.enc o),.I n]) H E):bO aE f J H c K:=
 cV T λr E J ⟨o,b,h,Z,W,T⟩=>by subst h;exact⟨hY (tW o) .int,k o b E J Z W T⟩
def bfs_set {L:aF eI} {i:Nat} {x y:eI} (h:L[i]?=some x):jJ (L.set i y)+x.bR.length=jJ L+y.bR.length:=by
 induction L generalizing i with
 |nil=>simp at h
 |cons a L E=>
  cases i with
  |zero=>simp at h;subst h;simp[jJ,bE];omega
  |succ i=>
   have:=E (by simpa using h);simp[jJ,bE] at this ⊢;omega
def qP.put {s:aA} {hs} {bs:aF eI} {i:Nat} {x:eI} {t:aA} (h:qP s hs bs) (J:bs[i]?=some x) (E:t.length+(s.length+jJ bs)<=3000):qP s hs (bs.set i ⟨x.Filter,x.bR++t⟩):=
 ⟨by have:=bfs_set (y:=⟨x.Filter,x.bR++t⟩) J;simp at this;omega,h.hn,h.h,by simpa using h.bn,λy E=>by
  rcases rZ E with E|E
  .exact h.b y E
  .subst E;exact h.b x (bA J)⟩
def putB (x:eI) t:aR x.enc 1 [.str t]=(eI.mk x.Filter t).enc:=by simp[aR,eI.enc]
def EcQ (n:Nat) (r:AV):Prop:=∃(o:dM) (b:Bool),r=.aX [.agg o.enc,.bool b]/\jW o/\o.cI.aG.length=n
def YG {o:dM} {t:aA} (h:jW o) (E:t.length<=1048576):bM aE 207 [.agg o.enc,.str t] (EcQ o.cI.aG.length):=by
 intro E;have E:=h.hn;have E:=h.bn;have E:=h.t;refine cO F207 ?_;simp[F207];refine JS (by omega) (by omega) λE E E _=>?_;simp[aR];refine cX (total_s h) .int λE _=>?_;have E:IntKind.i64.wrap (3000-((o.mT.length+jJ o.cI.aG:Nat):Int))=3000-((o.mT.length+jJ o.cI.aG:Nat):Int):=wrap64 (by omega) (by omega);by_cases J:(3000-((o.mT.length+jJ o.cI.aG:Nat):Int))<(t.length:Int)
 .simp[E,J,-Int.natCast_add,aR];exact tX (hs:=o.cK.aG) (bs:=o.cI.aG) (aN:=o.cI.aG.map eI.enc) (by simp) (by simp) (fJ (by simp)) rfl rfl ⟨_,_,rfl,h,rfl⟩
 have W:t.length+(o.mT.length+jJ o.cI.aG)<=3000:=by omega
 simp[E,J,-Int.natCast_add,aR];refine⟨λJ=>?_,λJ=>?_⟩
 .refine⟨by unfold mx;omega,?_⟩;refine tX (hs:=o.cK.aG) (bs:=o.cI.aG) (aN:=o.cI.aG.map eI.enc) (by simp) (by simp) (fJ (by simp)) rfl rfl ⟨_,_,rfl,⟨?_,h.hn,h.h,h.bn,h.b⟩,rfl⟩;simp;omega
 .have E:0<o.cI.aG.length:=r7.2 J;have T:IntKind.i64.wrap ((o.cI.aG.length:Int)-1)=((o.cI.aG.length-1:Nat):Int):=by rw[wrap64 (by omega) (by omega)];omega
  obtain⟨x,J⟩:∃x,o.cI.aG[o.cI.aG.length-1]?=some x:=⟨_,bC (by omega)⟩
  have E:x.bR.length<=3000:=by
   have E:=tD (λb:eI=>b.bR.length) J;have E:=tB (f:=λb:eI=>b.bR.length) (l:=o.cI.aG) (i:=o.cI.aG.length-1+1);have E:bE (λb:eI=>b.bR.length) o.cI.aG=jJ o.cI.aG:=rfl;omega
  have Z:(o.cI.aG.map eI.enc)[o.cI.aG.length-1]?=some x.enc:=by simp[J]
  have E:o.cI.aG.length-1<o.cI.aG.length:=by omega
  simp[-Int.natCast_add,T,E,aL Z,aL J,putB];refine⟨by unfold mx;omega,?_⟩;exact tX (hs:=o.cK.aG) (bs:=o.cI.aG.set (o.cI.aG.length-1) ⟨x.Filter,x.bR++t⟩) (by simp) (iI _ (iI _ (iI _ (kB ..)))) (by rw[fJ (by simp),lT]) rfl (by simp) ⟨_,_,rfl,h.put J W,by simp⟩
def bfs_snoc L (x:eI):jJ (L++[x])=jJ L+x.bR.length:=by simp[jJ,bE]
def start_s {o:dM} {f:Int} (h:jW o):bM aE 315 [.agg o.enc,.I f] QK:=by
 intro E;have E:=h.hn;have E:=h.bn;refine cO F315 ?_;simp[F315];refine JS (by omega) (by omega) λE J T _=>?_;simp[aR];refine cX (fA f 0 3) .bool λT _=>?_;have no:∀{H:aC} {T:Nat},(⟨false,E,2,o.cK.aG.map bK.enc⟩:aH)∈H->(⟨false,J,2,o.cI.aG.map eI.enc⟩:aH)∈H->cE (λr W _=>W=[]/\QK r) (.aX [.agg [.str o.mT,.ref 2 E 2 o.cK.aG.length,.ref 3 J 2 o.cI.aG.length],.bool false]) H T:=λE J=>
  tX E J (fJ (by simp)) rfl rfl ⟨_,_,rfl,h⟩
 cases hf:cT f 0 3
 .simp[aR];exact no (by simp) (by simp)
 simp;have J:0<=f/\f<=3:=by simpa[cT] using hf
 simp[aR];refine⟨λ_=>no (by simp) (by simp),λT=>?_⟩;refine⟨by omega,by unfold mx;omega,?_⟩;exact tX (hs:=o.cK.aG) (bs:=o.cI.aG++[⟨f,[]⟩]) (aN:=o.cI.aG.map eI.enc++[[.I f,.str []]]) (by simp) (by simp) (by rw[fJ (by simp)];simp[eI.enc]) rfl (by simp) ⟨_,_,rfl,by have:=h.t;simp[bfs_snoc];omega,h.hn,h.h,by simp;omega,λx T=>by
  rcases dI.1 T with E|E
  .exact h.b x E
  .simp at E;subst E;exact J⟩
def ClnQ (n:Nat) (r:AV):Prop:=∃(o:dM) (b:Bool),r=.aX [.agg o.enc,.bool b]/\jW o/\(b=true->0<n)/\o.cI.aG.length=n-1
def ZN {o:dM} (h:jW o):bM aE 206 [.agg o.enc] (ClnQ o.cI.aG.length):=by
 intro E;have E:=h.hn;have E:=h.bn;refine cO F206 ?_;simp[F206];refine JS (by omega) (by omega) λE E E _=>?_;simp[aR];refine⟨λJ=>?_,λJ=>?_⟩
 .exact tX (hs:=o.cK.aG) (bs:=o.cI.aG) (aN:=o.cI.aG.map eI.enc) (by simp) (by simp) (fJ (by simp)) rfl rfl ⟨_,_,rfl,h,by simp,by simp[J]⟩
 .have E:0<o.cI.aG.length:=r7.2 J;have T:IntKind.i64.wrap ((o.cI.aG.length:Int)-1)=((o.cI.aG.length-1:Nat):Int):=by rw[wrap64 (by omega) (by omega)];omega
  have J:o.cI.aG.length-1<=o.cI.aG.length:=by omega
  simp[-Int.natCast_add,T,J];have J:o.cI.aG.dropLast.length=o.cI.aG.length-1:=by simp
  have J:jJ o.cI.aG.dropLast<=jJ o.cI.aG:=by
   rw[List.dropLast_eq_take];exact tB
  refine tX (hs:=o.cK.aG) (bs:=o.cI.aG.dropLast) (aN:=o.cI.aG.map eI.enc) (by simp) (by simp) (by rw[List.dropLast_eq_take,zV]) rfl (by simp) ⟨_,_,rfl,⟨by have:=h.t;simp;omega,h.hn,h.h,by simp;omega,λx J=>h.b x ((List.dropLast_sublist _).subset J)⟩,λ_=>E,by simp⟩
set_option maxRecDepth 100000
def bufText_s {o:dM} (h:jW o):bM aE 316 [.agg o.enc] (λr=>∃(t:aA) (b:Bool),r=.aX [.str t,.bool b]/\t.length<=3000):=by
 intro E;have E:=h.bn;refine cO F316 ?_;unfold F316;by_cases T:o.cI.aG=[]
 .simp[T];exact aS ⟨rfl,[],by simp,by simp⟩
 .have E:0<o.cI.aG.length:=r7.2 T;have J:IntKind.i64.wrap ((o.cI.aG.length:Int)-1)=((o.cI.aG.length-1:Nat):Int):=by rw[wrap64 (by omega) (by omega)];omega
  obtain⟨x,W⟩:∃x,o.cI.aG[o.cI.aG.length-1]?=some x:=⟨_,bC (by omega)⟩
  have E:x.bR.length<=3000:=by
   have Z:=tD (λb:eI=>b.bR.length) W;have Z:=tB (f:=λb:eI=>b.bR.length) (l:=o.cI.aG) (i:=o.cI.aG.length-1+1);have Z:bE (λb:eI=>b.bR.length) o.cI.aG=jJ o.cI.aG:=rfl;have:=h.t;omega
  have Z:o.cI.aG.length-1<o.cI.aG.length:=by omega
  simp[T,J,aL W];exact aS ⟨rfl,x.bR,by simp,E⟩
def EndQ (n:Nat) (r:AV):Prop:=∃(o:dM) (k:Int),r=.aX [.agg o.enc,.I k]/\jW o/\0<=k/\k<=2/\o.cI.aG.length=n-1
def putO a b d (o:dM):aR [a,b,d] 0 o.enc=o.enc:=by simp[aR,dM.enc]
def putB2 a b (o:eI):aR [a,b] 0 o.enc=o.enc:=by simp[aR,eI.enc]
def YC {o:dM} (h:jW o):bM aE 167 [.agg o.enc] (EndQ o.cI.aG.length):=by
 intro c0;have hbn:=h.bn;refine cO F167 ?_;simp[F167];refine cV (ZN h) λr c1 _ ⟨o1,b,hr,h1,hb1,hb2⟩=>?_;subst hr;refine⟨hY (tW o1) .bool,?_⟩;cases b
 .simp;exact aS ⟨rfl,o1,1,rfl,h1,by decide,by decide,hb2⟩
 have hpos:=hb1 rfl;have hw2:IntKind.i64.wrap ((o.cI.aG.length:Int)-1)=((o.cI.aG.length-1:Nat):Int):=by rw[wrap64 (by omega) (by omega)];omega
 obtain⟨x,hx⟩:∃x,o.cI.aG[o.cI.aG.length-1]?=some x:=⟨_,bC (by omega)⟩
 have hxl:x.bR.length<=3000:=by
  have h1:=tD (λb:eI=>b.bR.length) hx;have h2:=tB (f:=λb:eI=>b.bR.length) (l:=o.cI.aG) (i:=o.cI.aG.length-1+1);have h3:bE (λb:eI=>b.bR.length) o.cI.aG=jJ o.cI.aG:=rfl;have:=h.t;omega
 have hlt':o.cI.aG.length-1<o.cI.aG.length:=by omega
 simp[hw2,aL hx,-jN];refine nK (λe H c'=>∃t:aA,t.length<=18000/\e 2=.ptr 1 (c0+1) 3 0 0/\e 4=.ptr 2 c1 3 0 0/\e 24=.agg o1.enc/\e 29=.str t/\H=[⟨false,c0,3,[o.enc]⟩,⟨false,c0+1,3,[[.str [],.aU,.aU]]⟩,⟨false,c1,3,[o1.enc]⟩,⟨false,c1+1,2,[x.enc]⟩]) ?_ ?_;rotate_left
 .intro K5 hK5;simp
  repeat' first
   |with_reducible apply And.intro
   |(with_reducible refine sB (X7 _ (cL hxl (by decide))) λt c4 _ ht=>?_
     simp;exact hK5 _ _ _ ⟨t,by omega,rfl,rfl,rfl,rfl,rfl⟩)
 intro e H c ⟨t,ht,e2,e4,e24,e29,hH⟩;subst hH;simp[e24,e29];refine cV (YG h1 (by omega)) λr c2 _ ⟨o2,b,hr,h2,hb3⟩=>?_;subst hr;refine⟨hY (tW o2) .bool,?_⟩;cases b
 .simp[e2,e4];exact aS ⟨rfl,o2,2,rfl,h2,by decide,by decide,hb3.trans hb2⟩
 .simp[e2,e4];exact aS ⟨rfl,o2,0,rfl,h2,by decide,by decide,hb3.trans hb2⟩
def copy20_t {o:dM} (h:jW o):bM aE 166 [.agg o.enc] (λr=>∃o':dM,r=.agg o'.enc/\jW o'/\o'.cI.aG.length=o.cI.aG.length):=λc=>by
 have hhn:=h.hn;have hbn:=h.bn;refine(ZI (o:=o) (by omega) (by omega) c).fin λr O c' hc ⟨th,tb,hr,hO⟩ _ _=>?_;subst hr;subst hO;refine⟨_,[],[],_,eX _,.nil,λo h=>h,by simp[aV],UM (aN:=o.cI.aG.map eI.enc) (by simp) (by simp) (fJ (by simp)) rfl rfl,rfl,_,rfl,h,rfl⟩
def FlQ20 (r:AV):Prop:=∃E:dM,r=.agg E.enc/\jW E
def flush_s {o:dM} (h:jW o):bM aE 133 [.agg o.enc] FlQ20:=by
 intro c0;have hhn:=h.hn;have hbn:=h.bn;refine cO F133 ?_;simp[F133];refine cV (copy20_t h) λr c1 _ ⟨o1,hr,h1,hb1⟩=>?_;subst hr;refine⟨tW o1,?_⟩;simp;refine b6 o.cI.aG.length (λi e H c'=>∃(o1:dM),jW o1/\o1.cI.aG.length+i=o.cI.aG.length/\e 2=.ptr 1 (c0+1) 3 0 0/\e 3=.ptr 2 c1 3 0 0/\H=[⟨false,c0,3,[o.enc]⟩,⟨false,c0+1,3,[[.str [],.aU,.aU]]⟩,⟨false,c1,3,[o1.enc]⟩]) ⟨o1,h1,by omega,rfl,rfl,rfl⟩ ?_;clear h1 hb1;intro i e H c hi ⟨o1,h1,hb1,e2,e3,hH⟩ N hN;subst hH;by_cases hb:o1.cI.aG.length=0
 .have hb':¬(0:Int)<(o1.cI.aG.length:Int):=by omega
  have hb2:o1.cI.aG=[]:=CQ.1 hb;simp[e2,e3,hb2];exact aS ⟨rfl,o1,rfl,h1⟩
 .have hb':0<o1.cI.aG.length:=by omega
  simp[e3,hb'];refine cV (YC h1) λr c2 _ ⟨o2,k,hr,h2,hk0,hk2,hb2⟩=>?_;subst hr;refine⟨hY (tW o2) .int,?_⟩;simp[e3];exact hN _ _ _ _ (by omega) (bY _) ⟨o2,h2,by omega,e2,e3,rfl⟩
def putHd (h:bK) v:aR h.enc 1 [.str v]=(bK.mk h.Name v).enc:=by simp[aR,bK.enc]
def header_s {o:dM} {n v:aA} (h:jW o) (hn:n.length<=mx) (hv:v.length<=mx):bM aE 303 [.agg o.enc,.str n,.str v] QJ:=by
 intro c0;have E:=h.hn;have E:=h.bn;refine cO F303 ?_;simp[F303];refine JS (by omega) (by omega) λJ Z c1 _=>?_;have no:∀{H:aC} {c':Nat} {k:Int},0<=k->k<=10->(⟨false,J,2,o.cK.aG.map bK.enc⟩:aH)∈H->(⟨false,Z,2,o.cI.aG.map eI.enc⟩:aH)∈H->cE (λr E _=>E=[]/\QJ r) (.aX [.agg [.str o.mT,.ref 2 J 2 o.cK.aG.length,.ref 3 Z 2 o.cI.aG.length],.I k]) H c':=λW T E h2=>
  tX E h2 (fJ (by simp)) rfl rfl ⟨_,_,rfl,h,W,T⟩
 by_cases hs:o.mT=[]
 rotate_left
 .simp[aR,hs];exact no (by decide) (by decide) (by simp) (by simp)
 simp[aR,hs];refine cX (SW hn) .bool λT _=>?_;cases hnn:oZ n
 .simp[aR];have:=@no;rw[hs] at this;exact this (by decide) (by decide) (by simp) (by simp)
 simp;refine cX (SV hv) .bool λT _=>?_;cases hvv:oY v
 .simp[aR];have:=@no;rw[hs] at this;exact this (by decide) (by decide) (by simp) (by simp)
 have W:n.length<=20:=by simp only[oZ,eY,cT,decide_eq_true_eq] at hnn;omega
 have T:v.length<=60:=by simp only[oY,eY,decide_eq_true_eq] at hvv;omega
 simp;refine b6 o.cK.aG.length (λi e H c'=>e 1=.str n/\e 2=.str v/\e 6=.ptr 1 (c0+1) 3 0 0/\e 8=.ptr 4 c1 3 0 0/\e 9=.I i/\H=[⟨false,c0,3,[o.enc]⟩,⟨false,c0+1,3,[[.str [],.aU,.aU]]⟩,⟨false,J,2,o.cK.aG.map bK.enc⟩,⟨false,Z,2,o.cI.aG.map eI.enc⟩,⟨false,c1,3,[[.str [],.ref 2 J 2 o.cK.aG.length,.ref 3 Z 2 o.cI.aG.length]]⟩]) ⟨rfl,rfl,rfl,rfl,rfl,rfl⟩ ?_;intro i e H c J ⟨e1,e2,e6,Z,e9,J⟩ N hN;subst J;by_cases hl:i<o.cK.aG.length
 .obtain⟨x,hx⟩:∃x,o.cK.aG[i]?=some x:=⟨_,bC hl⟩
  have J:(i:Int)<(o.cK.aG.length:Int):=by omega
  have hst:=cD (i:=i) (n:=o.cK.aG.length) (by unfold mx;omega) hl;have hg:(o.cK.aG.map bK.enc)[i]?=some x.enc:=by simp[hx]
  by_cases hq:x.Name=n
  .simp[e1,e2,e6,Z,e9,J,aL hg,hq,aR];refine tX (hs:=o.cK.aG.set i ⟨x.Name,v⟩) (bs:=o.cI.aG) (aN:=o.cI.aG.map eI.enc) (by simp[lT,bK.enc,hq]) (by simp) (fJ (by simp)) (by simp) rfl ⟨_,0,rfl,⟨by have:=h.t;simp;omega,by simpa using h.hn,λy hy=>?_,h.bn,h.b⟩,by decide,by decide⟩;rcases rZ hy with E|E
   .exact h.h y E
   .subst E;exact⟨(h.h x (bA hx)).1,T⟩
  .simp[e1,Z,e9,J,aL hg,hq];exact hN _ _ _ _ hl (bY _) ⟨e1,e2,e6,Z,by simp[aK,hst],rfl⟩
 .have J:¬(i:Int)<(o.cK.aG.length:Int):=by omega
  simp[e1,e2,e6,Z,e9,J,aR];have J:=@no;rw[hs] at J;refine⟨λ_=>J (by decide) (by decide) (by simp) (by simp),λJ=>?_⟩;refine⟨by omega,by unfold mx;omega,?_⟩;exact tX (hs:=o.cK.aG++[⟨n,v⟩]) (bs:=o.cI.aG) (aN:=o.cI.aG.map eI.enc) (by simp[bK.enc]) (by simp) (fJ (by simp)) (by simp) rfl ⟨_,0,rfl,⟨by have:=h.t;simp;omega,by simp;omega,λy hy=>by
   rcases dI.1 hy with E|E
   .exact h.h y E
   .simp at E;subst E;exact⟨W,T⟩,h.bn,h.b⟩,by decide,by decide⟩
set_option maxRecDepth 100000
def P0 {P} {A B} {c} {K:aD} {f} {T E} {Q:AV->Prop} (hf:bM P f E Q) (hv:fG B T E) (k:∀r J,c<=J->Q r->Av [] r/\K r A J):bO P f T (A++B) c K:=by
 intro E T;have e:aV (A++B)=aV A++aV B:=by simp[aV]
 have hd:∀t,t∈aV A->t∉aV B:=λt Z W=>by
  rw[e] at E;exact(mI.1 E).2.2 t Z t W rfl
 refine ZW (S:=[]) (H1:=B) (LG A B) (by simp) (by simp[aV]) (.refl _ _) (PK (H1:=[]) (S:=B) (eX _) (λo h=>h) (by simp[aV]) hv (hf c)) (λr H' J hc ⟨Z,W⟩ _ _=>?_) E T;obtain⟨k1,T⟩:=k r J hc W;refine⟨A,r,λo J=>.inr ⟨by simp[J],hd _ (iJ J)⟩,?_,.refl _,by simpa[aV] using k1,λo _ h=>by rw[Z] at h;simp at h,T⟩;rw[e] at E;exact(mI.1 E).1
def putV a b d e f (v:aO):aR [a,b,d,e,f] 0 v.enc=v.enc:=by rw[aO.dW];simp[aR]
section
variable {o c g:Nat}
def BO {v:aO} {n:Int} {H} {c'} (E:VM o c g v) (T:0<=n) (J:n<=10):cE (λr W _=>W=[]/\mG (VM o c g) r) (.aX [.agg v.enc,.I n]) H c':=aS ⟨rfl,v,n,rfl,T,J,E⟩
def EH {n:Int} {H} {c'} (J:0<=n) (E:n<=10):cE (λr T _=>T=[]/\mG (VM o c g) r) (.aX [.agg [.I 0,.I 0,.str [],.I 0,.aU],.I n]) H c':=by
 have:=BO (o:=o) (c:=c) (g:=g) (v:=sV 0 0 []) (H:=H) (c':=c') (.sc (by decide) (by decide) (by simp)) J E
 rwa [iB] at this
def yI {s}:bM aE 295 [.str s] (mG (VM o c g)):=by
 intro E;refine cO F295 ?_;unfold F295;by_cases h:(400:Int)<(s.length:Int)
 .simp[h];exact EH (by decide) (by decide)
 .simp[h];refine cX (nU _) (eL _) λE _=>?_;simp;exact BO (.sc (by decide) (by decide) (by omega)) (by decide) (by decide)
def upper_s {s:aA} (hs:s.length<=1048576):bM aE 296 [.str s] (Tx s.length):=by
 intro E;refine cO F296 ?_;simp[F296,AK];refine b6 s.length (λi e H J=>∃l:aA,l.length=s.length/\e 3=.ref 0 E 1 s.length/\e 4=.I i/\H=[⟨false,E,1,l.map iQ⟩]) ⟨s,rfl,rfl,rfl,rfl⟩ ?_;intro i e H c E ⟨l,hl,T,W,E⟩ N hN;subst E;by_cases h:i<s.length
 .obtain⟨b,Z⟩:∃b,l[i]?=some b:=⟨_,bC (by omega)⟩
  have E:(i:Int)<(s.length:Int):=by omega
  have J:=cD (i:=i) (n:=s.length) (cL hs (by decide)) h;have hg:(l.map iQ)[i]?=some (iQ b):=by simp[Z]
  have Z:=b.toNat_lt;have Z:IntKind.i64.wrap (b.toNat:Int)=b.toNat:=wrap64 (by omega) (by omega);simp[T,W,E,aL hg,iQ,Z];refine cX (fA _ 97 122) .bool λZ _=>?_;cases hq:cT b.toNat 97 122
  .simp[W];exact hN _ _ _ _ h (bY _) ⟨l,hl,T,by simp[aK,J],rfl⟩
  .have Z:97<=b.toNat/\b.toNat<=122:=by simp[cT] at hq;omega
   have Z:IntKind.u8.wrap ((b.toNat:Int)-32)=((UInt8.ofNat (b.toNat-32)).toNat:Int):=by
    rw[RF];simp[FT];omega
   simp[T,W,h,aL hg,iQ,Z,aR];exact hN _ _ _ _ h (bY _) ⟨l.set i (UInt8.ofNat (b.toNat-32)),by simpa using hl,T,by simp[aK,J],by simp[lT,iQ]⟩
 .have E:¬(i:Int)<(s.length:Int):=by omega
  simp[T,W,E];refine yF (l:=l) rfl hl (by unfold mx;omega) ?_;simp;exact aS ⟨rfl,l,rfl,by omega⟩
def substr_s {s:aA} {n m:Int} (hs:s.length<=1048576) (hn:-1000000001<=n/\n<=1000000001) (hm:-1000000001<=m/\m<=1000000001):bM aE 297 [.str s,.I n,.I m] (Tx s.length):=by
 intro c0;refine cO F297 ?_;unfold F297;dsimp only;rw[dT];refine gK (λe H c'=>∃k:Int,e 0=.str s/\e 1=.I k/\e 2=.I m/\0<=k/\k<=1000000001/\H=[]) ?_ ?_;rotate_left
 .intro K hK;have hw:IntKind.i64.wrap (n+s.length)=n+s.length:=wrap64 (by omega) (by omega);by_cases h:n<0
  .simp[h,hw];refine bZ (BA _ _) .int λc2 _=>?_;simp;exact hK _ _ _ ⟨max 0 (n+s.length),by simp[aK,gZ],rfl,by simp[aK,gZ],by omega,by omega,rfl⟩
  .simp[h];exact hK _ _ _ ⟨n,by simp[aK,gZ],by simp[aK,gZ],by simp[aK,gZ],by omega,by omega,rfl⟩
 intro e H c ⟨k,e0,e1,e2,hk0,hk1,hH⟩;subst hH;by_cases h1:(s.length:Int)<=k
 .simp[e0,e1,h1];exact aS ⟨rfl,[],rfl,by simp⟩
 by_cases h2:m<1
 .simp[e0,e1,e2,h1,h2];exact aS ⟨rfl,[],rfl,by simp⟩
 have hw:IntKind.i64.wrap ((s.length:Int)-k)=(s.length:Int)-k:=wrap64 (by omega) (by omega);simp[e0,e1,e2,h1,h2,hw];refine bZ (DS _ _) .int λc2 _=>?_;have hw2:IntKind.i64.wrap (k+min m ((s.length:Int)-k))=k+min m ((s.length:Int)-k):=wrap64 (by omega) (by omega);simp[hw2];refine⟨hk0,by omega,by omega,by omega,aS ⟨rfl,_,rfl,by simp;omega⟩⟩
def repeat_s {s:aA} {n:Int} (hs:s.length<=1048576) (E:n<=1000000001):bM aE 298 [.str s,.I n] (mG (VM o c g)):=by
 intro J;refine cO F298 ?_;unfold F298;by_cases E:n<0
 .simp[E];exact EH (by decide) (by decide)
 simp[E];refine b6 n.toNat (λi e H W=>∃t:aA,t.length<=400/\e 0=.str s/\e 1=.I n/\e 4=.ptr 0 J 5 0 0/\e 6=.str t/\e 7=.I i/\H=[⟨false,J,5,[[.I 0,.I 0,.str [],.I 0,.aU]]⟩]) ⟨[],by simp,rfl,rfl,rfl,rfl,rfl,rfl⟩ ?_;intro i e H c E ⟨t,ht,e0,T,J,e6,Z,E⟩ N hN;subst E;have E:∀{e:Env} {W:Nat},True:=λ{_ _}=>trivial;by_cases h:(i:Int)<n
 .by_cases E:s=[]
  .simp[e0,T,e6,Z,h,E];refine cX (nU _) (eL _) λc1 _=>?_;simp[J];exact BO (.sc (by decide) (by decide) ht) (by decide) (by decide)
  .have W:=cD (i:=i) (n:=n.toNat) (by unfold mx;omega) (by omega);simp[e0,T,J,e6,Z,h,E];refine⟨by unfold mx;omega,λ_=>EH (by decide) (by decide),λE=>?_⟩;exact hN _ _ _ _ (by omega) (bY _) ⟨t++s,by simp;omega,e0,T,J,rfl,by simp[aK,W],rfl⟩
 .simp[T,e6,Z,h];refine cX (nU _) (eL _) λc1 _=>?_;simp[J];exact BO (.sc (by decide) (by decide) ht) (by decide) (by decide)
def implode_s {s:aA} {a:aO} (hs:s.length<=1048576) (ha:VM o c g a):bM aE 300 [.str s,.agg a.enc] (mG (VM o c g)):=by
 intro c0;have hl:=ha.len;refine cO F300 ?_;simp[F300];refine b6 a.bF.aG.length (λi e H c'=>∃t:aA,t.length<=2000000*i/\e 0=.str s/\e 3=.ptr 0 c0 5 0 0/\e 4=.ptr 1 (c0+1) 5 0 0/\e 6=.str t/\e 7=.I i/\H=[⟨false,c0,5,[a.enc]⟩,⟨false,c0+1,5,[[.I 0,.I 0,.str [],.I 0,.aU]]⟩]) ⟨[],by simp,rfl,rfl,rfl,rfl,rfl,rfl⟩ ?_;intro i e H c1 hi ⟨t,ht,e0,e3,e4,e6,e7,hH⟩ N hN;subst hH;by_cases h:i<a.bF.aG.length
 .obtain⟨x,hx⟩:∃x,a.bF.aG[i]?=some x:=⟨_,bC h⟩
  have hxv:=(ha.get hx).2;have hlt:(i:Int)<(a.bF.aG.length:Int):=by omega
  have hst:=cD (i:=i) (n:=a.bF.aG.length) (by unfold mx;omega) h;simp[e3,e7,hlt,aL hx];refine wF (wG hxv.ok.s hxv.ok.n) λu n c2 _ hu hn0 hn1=>?_;by_cases hn:n=0;rotate_left
  .simp[e4,hn];exact EH hn0 hn1
  by_cases hi0:i=0
  .subst hi0;simp[e6,e7,hn];refine⟨by unfold mx;omega,?_⟩;exact hN _ _ _ _ h (bY _) ⟨t++u,by simp;omega,e0,e3,e4,rfl,by simp[aK];exact hst,rfl⟩
  .have hi1:(0:Int)<(i:Int):=by omega
   have hi2:0<i:=by omega
   simp[e0,e6,e7,hn,hi2];refine⟨by unfold mx;omega,by unfold mx;omega,?_⟩;exact hN _ _ _ _ h (bY _) ⟨t++(s++u),by simp;omega,e0,e3,e4,rfl,by simp[aK,hst],rfl⟩
 .have hlt:¬(i:Int)<(a.bF.aG.length:Int):=by omega
  simp[e3,e6,e7,hlt];refine qD (yI (o:=o) (c:=c) (g:=g)) λv n c2 _ hn0 hn1 hv=>?_;simp[e4];exact BO hv hn0 hn1
def range_s {n m:Int} (hn:-1000000001<=n/\n<=1000000001) (hm:-1000000001<=m/\m<=1000000001):bM aE 301 [.int .i64 n,.int .i64 m] (mG (VM o c g)):=by
 intro c0
 refine cO F301 ?_
 unfold F301
 simp
 refine b6 200 (λi e H c'=>∃(t:Nat) (L:aF aO),L.length=i/\i<=199/\(∀v,v∈L->dU o c g v/\v.wt<=1)/\e 1=.int .i64 m/\e 4=.ptr 0 c0 5 0 0/\e 6=.ref 1 t 5 i/\e 7=.int .i64 (n+i)/\H=[⟨false,c0,5,[[.int .i64 0,.int .i64 0,.str [],.int .i64 0,.aU]]⟩,⟨false,t,5,L.map aO.enc⟩]) ⟨c0+1,[],rfl,by decide,by simp,rfl,rfl,rfl,by simp[aK],rfl⟩ ?_
 intro i e H c1 hi ⟨t,L,hL,hi9,hv,e1,e4,e6,e7,hH⟩ N hN
 subst hH
 by_cases h:n+(i:Int)<=m
 .by_cases h9:199<=(i:Int)
  .simp[e1,e4,e6,e7,h,h9]
   exact EH (by decide) (by decide)
  .have hw:IntKind.i64.wrap (n+(i:Int)+1)=n+((i+1:Nat):Int):=by rw[wrap64 (by omega) (by omega)];omega
   simp[e1,e6,e7,h,h9]
   refine cX (pT _) (eL _) λc2 _=>?_
   simp[e7,hL,hw]
   refine⟨by omega,by unfold mx;omega,?_⟩
   have hs:VM o c g (sV 2 (n+(i:Int)) []):=.sc (by decide) (by omega) (by simp)
   refine hN _ _ (List.take 2 _) _ (by omega) (fN 2 _) ⟨c2+1,L++[sV 2 (n+(i:Int)) []],by simp[hL],by omega,λv hm=>?_,by simp[aK,e1],by simp[aK,e4],by simp[aK],by simp[aK],by simp⟩
   rcases dI.1 hm with h1|h1
   .exact hv v h1
   .simp at h1
    subst h1
    refine⟨hs.ok,?_⟩
    rw[sV,aO.nS]
    simp
 .simp[e1,e6,e7,h]
  have hsz:∀M:aF aO,(∀v,v∈M->dU o c g v/\v.wt<=1)->bE aO.wt M<=M.length:=λM hM=>by
   have:=MM aO.wt 1 M λx hx=>(hM x hx).2
   omega
  refine P0 (A:=[⟨false,c0,5,[[.int .i64 0,.int .i64 0,.str [],.int .i64 0,.aU]]⟩]) (B:=[⟨false,t,5,L.map aO.enc⟩]) (DU (o:=o) (c:=c) (g:=g) (l:=.mk t L) (by simp;omega) (λv hm=>(hv v hm).1)) (.cons (jK (by simp) hL λx _=>aO.cells x) .nil) λr c2 _ ⟨v,hr,h4,hok,hwt,hlen⟩=>?_
  subst hr
  refine⟨eL v,?_⟩
  simp[e4]
  refine BO ⟨hok,?_⟩ (by decide) (by decide)
  have:=hsz L hv
  simp at hwt
  omega
def AlQ (o c g:Nat) (n w:Nat) (r:AV):Prop:=∃s:SL aO,r=s.av 5 aO.enc/\s.aG.length=n/\(∀v,v∈s.aG->VM o c g v)/\bE aO.wt s.aG=w
def VM.copy {a:aO} (h:VM o c g a):bM aE 135 [.agg a.enc] (Va λx=>VM o c g x/\x.wt=a.wt):=λE=>
 (PI a ⟨h.ok,by have:=h.wt;omega⟩ E).mono λr E E _ ⟨W,x,T,J,E⟩=>⟨W,x,T,⟨J,by have:=h.wt;omega⟩,E⟩
def all5_s {l:SL aO} (E:l.aG.length<=100000) (E:∀v,v∈l.aG->VM o c g v):bM aE 321 [l.av 5 aO.enc] (AlQ o c g l.aG.length (bE aO.wt l.aG)):=by
 intro J;refine cO F321 ?_;simp[F321];refine b6 l.aG.length (λi e H T=>∃(t:Nat) (L:aF aO),L.length=i/\(∀v,v∈L->VM o c g v)/\bE aO.wt L=bE aO.wt (l.aG.take i)/\e 0=l.av 5 aO.enc/\e 3=.ref 0 t 5 i/\e 4=.I i/\H=[⟨false,t,5,L.map aO.enc⟩]) ⟨J,[],rfl,by simp,by simp[bE],rfl,rfl,rfl,rfl⟩ ?_;intro i e H J J ⟨t,L,hL,T,J,e0,e3,e4,W⟩ N hN;subst W;by_cases h:i<l.aG.length
 .obtain⟨x,hx⟩:∃x,l.aG[i]?=some x:=⟨_,bC h⟩
  have W:=E x (bA hx);have E:(i:Int)<(l.aG.length:Int):=by omega
  have hst:=cD (i:=i) (n:=l.aG.length) (by unfold mx;omega) h;simp[e0,e3,e4,E,aL hx];refine nT W.copy λy W _ ⟨hy,Z⟩=>?_;simp[e4,hL];refine⟨by omega,by unfold mx;omega,?_⟩;refine hN _ _ (List.take 1 _) _ h (fN 1 _) ⟨W+1,L++[y],by simp[hL],λv W=>?_,?_,e0,rfl,by simp[aK,hst],by simp⟩
  .rcases dI.1 W with W|W
   .exact T v W
   .simp at W;subst W;exact hy
  .rw[tD _ hx,C2,J,Z]
 .have E:¬(i:Int)<(l.aG.length:Int):=by omega
  simp[e0,e3,e4,E];rw[fJ (by omega)] at J;refine fin_slc rfl (by simp;omega) (λaM E a W=>?_) ⟨rfl,.mk t L,rfl,by simp;omega,T,J⟩;obtain⟨v,_,rfl⟩:=fZ.1 E;exact aO.cells v a W
set_option maxHeartbeats 8000000 in
def sort_s {l:SL aO} (E:l.aG.length<=100000) (hv:∀v,v∈l.aG->VM o c g v):bM aE 314 [l.av 5 aO.enc] (AlQ o c g l.aG.length (bE aO.wt l.aG)):=by
 intro E;refine cO F314 ?_;simp[F314];refine b6 l.aG.length (λi e H c'=>∃(p t:Nat) (L:aF aO),L.length=i/\(∀v,v∈L->VM o c g v)/\bE aO.wt L=bE aO.wt (l.aG.take i)/\e 0=l.av 5 aO.enc/\e 3=.ref p t 5 i/\e 4=.I i/\H[p]?=some ⟨false,t,5,L.map aO.enc⟩) ⟨0,E,[],rfl,by simp,by simp[bE],rfl,rfl,rfl,rfl⟩ ?_;intro i e H E E ⟨p,t,L,hL,Z,hLw,J,T,E,hp⟩ N hN;by_cases h:i<l.aG.length;rotate_left
 .have W:¬(i:Int)<(l.aG.length:Int):=by omega
  simp[J,T,E,W];rw[fJ (by omega)] at hLw;refine ZX (all5_s (o:=o) (c:=c) (g:=g) (l:=.mk t L) (by simp;omega) Z) (.cons (jK (bA hp) hL λx _=>aO.cells x) .nil) λr c2 _ ⟨s,hr,h1,h2,h3⟩=>?_;subst hr;refine⟨xF eL _,?_⟩;simp;exact aS ⟨rfl,s,rfl,by simp at h1;omega,h2,by simp at h3;omega⟩
 obtain⟨x,hx⟩:∃x,l.aG[i]?=some x:=⟨_,bC h⟩
 have hxv:=hv x (bA hx);have W:(i:Int)<(l.aG.length:Int):=by omega
 have hst:=cD (i:=i) (n:=l.aG.length) (by unfold mx;omega) h;simp[J,T,E,W];have hpl:p<H.length:=(bQ.1 hp).1;refine IU (λe H' c'=>∃k:Nat,k<=i/\e 0=l.av 5 aO.enc/\e 3=.ref p t 5 i/\e 4=.I i/\e 5=.I k/\H'=H) ?_ ?_;rotate_left
 .intro K hK;refine b6 i (λj e H' c'=>∃k:Nat,k+j=i/\e 0=l.av 5 aO.enc/\e 3=.ref p t 5 i/\e 4=.I i/\e 5=.I k/\H'=H) ⟨i,rfl,J,T,E,rfl,rfl⟩ ?_;clear J T E;intro j e H' c2 W ⟨k,hk,J,T,E,e5,hH⟩ W hN2;subst hH;by_cases W:k=0
  .subst W;simp[e5];exact hK _ _ _ ⟨0,by omega,J,T,E,e5,rfl⟩
  .have hkp:0<k:=by omega
   have hkp':(0:Int)<(k:Int):=by omega
   obtain⟨y,hy⟩:∃y,L[k-1]?=some y:=⟨_,bC (by omega)⟩
   have hyv:=Z y (bA hy);have hg:(L.map aO.enc)[k-1]?=some y.enc:=by simp[hy]
   have hw:IntKind.i64.wrap ((k:Int)-1)=((k-1:Nat):Int):=by rw[wrap64 (by omega) (by omega)];omega
   have hki:k-1<i:=by omega
   simp[J,T,E,e5,hkp,hw,hki,aL hp,aL hg,aL hx];refine nX (JY y hyv x hxv) λn c3 _ hn0 hn1=>?_;by_cases hn:n=1
   .simp[hn,e5,hw];exact hN2 _ _ _ _ (by omega) (bY _) ⟨k-1,by omega,J,T,E,rfl,rfl⟩
   .simp[hn];exact hK _ _ _ ⟨k,by omega,J,T,E,e5,rfl⟩
 clear J T E;intro e H' c2 ⟨k,hk,J,T,E,e5,hH⟩;subst hH;simp[J,T,E,e5,aL hx,-jN];have apL:∀(M:aC) (K:aH->Prop),aZ (H'++M) p K=K ⟨false,t,5,L.map aO.enc⟩:=λM K=>by
  rw[aL (l:=H'++M) (x:=⟨false,t,5,L.map aO.enc⟩) (by rw[gY hpl];exact hp)]
 have hpr:∀K:aH->Prop,aZ H' p K=K ⟨false,t,5,L.map aO.enc⟩:=aL hp;have hkm:k<=mx:=by unfold mx;omega
 have hkm1:k+1<=mx:=by unfold mx;omega
 have hkb:k*64<=140737488355328:=by omega
 have hkb1:(k+1)*64<=140737488355328:=by omega
 have hki:(k:Int)<=(i:Int):=by omega
 have hs1:∀K:AV->Prop,qX 5 (.ref p t 5 i) none (some (.I k)) K=K (.ref p t 5 k):=λK=>by simp[fP,hk]
 have hs2:∀K:AV->Prop,qX 5 (.ref p t 5 i) (some (.I k)) none K=K (if k=0 then .ref p t 5 i else .sub p t 5 k (i-k)):=λK=>by
  by_cases h0:k=0
  .subst h0;simp[fP]
  .simp[fP,h0,hk]
 have hmin:min k i=k:=Nat.min_eq_left hk;generalize hS:(if k=0 then AV.ref p t 5 i else AV.sub p t 5 k (i-k))=S at hs2;refine nK (λe H2 c'=>∃(q t2:Nat),e 0=l.av 5 aO.enc/\e 4=.I i/\e 42=.ref q t2 5 (k+1)/\H2[q]?=some ⟨false,t2,5,(L.take k++[x]).map aO.enc⟩/\H2[p]?=some ⟨false,t,5,L.map aO.enc⟩/\e 45=S) ?_ ?_;rotate_left
 .intro K hK
  repeat' first
   |with_reducible apply And.intro
   |exact hK _ _ _ ⟨_,_,J,E,by simp[aK];exact⟨rfl,rfl⟩,by simp[zV];done,by simp[gY hpl,hp];done,by simp[aK];done⟩
   |rw[jN]
   |(simp[-jN,-S5,hs1,hs2,apL,bW,cM,hL,hmin,hk,hkm,hkm1,hkb,hkb1];done)
   |simp[-jN,-S5,hs1,hs2,apL,bW,cM,hL,hmin,hk,hkm,hkm1,hkb,hkb1]
 clear J T E e5;intro e H2 T ⟨q,t2,J,E,e42,hq,hp2,e45⟩;have hql:q<H2.length:=(bQ.1 hq).1;have hlen:((L.take k++[x]++L.drop k).length)=i+1:=by simp;omega
 have hmem:∀v,v∈L.take k++[x]++L.drop k->VM o c g v:=λv hm=>by
  rcases dI.1 hm with h1|h1
  .rcases dI.1 h1 with h2|h2
   .exact Z v (zT h2)
   .simp at h2;subst h2;exact hxv
  .exact Z v (List.mem_of_mem_drop h1)
 have hwt:bE aO.wt (L.take k++[x]++L.drop k)=bE aO.wt (l.aG.take (i+1)):=by
  rw[tD _ hx,<-hLw];have h2:bE aO.wt L=bE aO.wt (L.take k)+bE aO.wt (L.drop k):=by
   have h3:=congrArg (bE aO.wt) (wA k L);rw[<-h3];simp only[bE,qB,FY]
  rw[h2];simp only[bE,qB,FY,gJ,xY,nP,List.sum_nil];omega
 have Z:∀{e':Env} {c':Nat} {t3 m:Nat} {T:aF (aF AV)},m=i+1->T=(L.take k++[x]++L.drop k).map aO.enc->e' 0=l.av 5 aO.enc->e' 3=.ref q t3 5 m->e' 4=.I ((i+1:Nat):Int)->N e' (H2.set q ⟨false,t3,5,T⟩) c':=λ{e' c' t3 m T} hm hr h0 h3 T=>by
  subst hm;subst hr;exact hN _ _ _ _ h (bY _) ⟨q,t3,_,hlen,hmem,hwt,h0,h3,T,by rw[eP hql]⟩
 by_cases W:k=0
 .subst W;simp at hS;subst hS;simp[e42,e45,aL hq,aL hp2,hL,E];refine⟨by omega,by unfold mx;omega,Z (m:=1+i) (by omega) ?_ (J) (rfl) (by simp[aK,hst])⟩;rw[fJ (by simp;omega)];simp
 .rw[if_neg W] at hS;subst hS;simp[e42,e45,aL hq,aL hp2,hL,E];refine⟨by omega,?_⟩;rw[PF (by simp;omega)];refine⟨by omega,by unfold mx;omega,Z (m:=k+1+(i-k)) (by omega) ?_ (J) (rfl) (by simp[aK,hst])⟩;have E:List.take (i-k) (List.drop k (L.map aO.enc))=List.drop k (L.map aO.enc):=fJ (by simp;omega);rw[E];simp[zV,Q5]
def RO {a:aO} (E:a.aJ=4):a.wt=1+bE eT a.bF.aG:=by rw[aO.uV,if_pos E]
def HK (k n:Int) s:(sV k n s).wt=1:=by rw[sV,aO.nS];split<;>simp[bE]
def WA {k:bX} {o c g} (E:kV k):bM aE 117 [.agg k.enc] (Va λx=>VM o c g x/\x.wt=1):=by
 intro c;refine cO CN ?_;unfold CN;have T:=E.1;have J:=E.2.1;cases hT:k.bR
 .simp[hT];refine cX (pT _) (eL _) λ_ _=>?_;simp[aR];exact aS ⟨rfl,_,rfl,VM.sc (by decide) ⟨T,J⟩ (by simp),HK _ _ _⟩
 .simp[hT];refine cX (nU _) (eL _) λ_ _=>?_;simp[aR];exact aS ⟨rfl,_,rfl,VM.sc (by decide) (by decide) E.2.2,HK _ _ _⟩
def aaG {name:aA} {v a:aO} (hv:VM o c g v) (ha:VM o c g a) (h4:a.aJ=4):bM aE 299 [.str name,.agg v.enc,.agg a.enc] (Va (VM o c g)):=by
 intro c0
 have hl:=ha.len
 refine cO F299 ?_
 unfold F299
 simp
 refine b6 a.bF.aG.length (λi e H c'=>∃(t:Nat) (L:aF aO) (b:Bool),L.length=i/\(∀v,v∈L->VM o c g v)/\bE aO.wt L<=bE eT (a.bF.aG.take i)/\e 0=.str name/\e 4=.ptr 0 c0 5 0 0/\e 5=.ptr 1 (c0+1) 5 0 0/\e 6=.ptr 2 (c0+1+1) 5 0 0/\e 7=.ref 3 t 5 i/\e 8=.bool b/\e 9=.int .i64 i/\
  H=[⟨false,c0,5,[v.enc]⟩,⟨false,c0+1,5,[a.enc]⟩,⟨false,c0+1+1,5,[[.int .i64 0,.int .i64 0,.str [],.int .i64 0,.aU]]⟩,⟨false,t,5,L.map aO.enc⟩]) ⟨c0+1+1+1,[],false,rfl,by simp,by simp[bE],rfl,rfl,rfl,rfl,rfl,rfl,rfl,rfl⟩ ?_
 intro i e H c1 hi ⟨t,L,b,hL,hLv,hLw,e0,e4,e5,e6,e7,e8,e9,hH⟩ N hN
 subst hH
 by_cases h:i<a.bF.aG.length
 .obtain⟨x,hx⟩:∃x,a.bF.aG[i]?=some x:=⟨_,bC h⟩
  obtain⟨hxk,hxv⟩:=ha.get hx
  have hlt:(i:Int)<(a.bF.aG.length:Int):=by omega
  have hst:=cD (i:=i) (n:=a.bF.aG.length) (by unfold mx;omega) h
  simp[e0,e5,e7,e8,e9,hlt,aL hx]
  have tk:=tD eT hx
  have xp:=aO.GK x.2
  have xe:eT x=x.2.wt:=rfl
  have mem:∀y,VM o c g y->∀u,u∈L++[y]->VM o c g u:=λy hy u hu=>by
   rcases dI.1 hu with h1|h1
   .exact hLv u h1
   .simp at h1;exact h1▸hy
  have next:∀{y:aO} {e':Env} {c' t':Nat} {X:aC},VM o c g y->y.wt<=x.2.wt->e' 0=.str name->e' 4=.ptr 0 c0 5 0 0->e' 5=.ptr 1 (c0+1) 5 0 0->e' 6=.ptr 2 (c0+1+1) 5 0 0->e' 7=.ref 3 t' 5 (i+1)->(∃b,e' 8=.bool b)->e' 9=.int .i64 ((i+1:Nat):Int)->
    N e' (⟨false,c0,5,[v.enc]⟩::⟨false,c0+1,5,[a.enc]⟩::⟨false,c0+1+1,5,[[.int .i64 0,.int .i64 0,.str [],.int .i64 0,.aU]]⟩::⟨false,t',5,L.map aO.enc++[y.enc]⟩::X) c':=λ{y e' c' t' X} hy hyw f0 f4 f5 f6 f7 ⟨b',f8⟩ f9=>
   hN _ _ (List.take 4 _) _ h (fN 4 _) ⟨t',L++[y],b',by simp[hL],mem y hy,by rw[C2,tk];omega,f0,f4,f5,f6,f7,f8,f9,by simp⟩
  refine⟨λhkey=>?_,λhkey=>?_⟩
  .refine nT (WA (o:=o) (c:=c) (g:=g) hxk) λy c2 _ ⟨hy,hyw⟩=>?_
   simp[e7,e8,hkey,hL]
   refine⟨by omega,by unfold mx;omega,?_⟩
   cases b
   .simp[e0,e9,hkey]
    exact next hy (by omega) (by simp[aK,e0]) (by simp[aK,e4]) (by simp[aK,e5]) (by simp[aK,e6]) (by simp[aK]) (by simp[aK]) (by simp[aK,hst])
   .simp[e9]
    exact next hy (by omega) (by simp[aK,e0]) (by simp[aK,e4]) (by simp[aK,e5]) (by simp[aK,e6]) (by simp[aK]) (by simp[aK]) (by simp[aK,hst])
  .rw[PF (by simp;omega)]
   refine⟨by omega,by unfold mx;omega,?_⟩
   cases b
   rotate_left
   .simp[e9]
    exact next hxv (bB _) (by simp[aK,e0]) (by simp[aK,e4]) (by simp[aK,e5]) (by simp[aK,e6]) (by simp[aK]) (by simp[aK]) (by simp[aK,hst])
   .by_cases hin:name=[105,110,95,97,114,114,97,121]
    .simp[e0,e4,hin]
     refine hJ (loose_s hv hxv) λq c2 _=>?_
     simp[e9]
     exact next hxv (bB _) (by simp[aK,e0]) (by simp[aK,e4]) (by simp[aK,e5]) (by simp[aK,e6]) (by simp[aK]) (by simp[aK]) (by simp[aK,hst])
    .simp[e0,e9,hin]
     exact next hxv (bB _) (by simp[aK,e0]) (by simp[aK,e4]) (by simp[aK,e5]) (by simp[aK,e6]) (by simp[aK]) (by simp[aK]) (by simp[aK,hst])
 .have hlt:¬(i:Int)<(a.bF.aG.length:Int):=by omega
  rw[fJ (by omega)] at hLw
  have hw:=RO h4
  have hwt:=ha.wt
  simp[e0,e5,e7,e8,e9,hlt]
  have lst:∀{r:AV} {n w:Nat} {M:aF aO},KN o c g M r->bE aO.wt M<=bE eT a.bF.aG->∃v,r=.agg (aO.enc v)/\VM o c g v:=λ{r n w M} ⟨v,h1,h2,h3,h5,h6⟩ h7=>⟨v,h1,h3,by omega⟩
  refine⟨λ_=>?_,λ_=>⟨λ_=>?_,λ_=>⟨λ_=>?_,λ_=>?_⟩⟩⟩
  .refine cX (pT _) (eL _) λ_ _=>?_
   simp[e6]
   exact aS ⟨rfl,_,rfl,VM.sc (by decide) (by omega) (by simp)⟩
  .refine cX (oL _) (eL _) λ_ _=>?_
   simp[e6]
   exact aS ⟨rfl,_,rfl,VM.sc (by decide) (by split<;>decide) (by simp)⟩
  .refine P0 (A:=[⟨false,c0,5,[v.enc]⟩,⟨false,c0+1,5,[a.enc]⟩,⟨false,c0+1+1,5,[[.int .i64 0,.int .i64 0,.str [],.int .i64 0,.aU]]⟩]) (B:=[⟨false,t,5,L.map aO.enc⟩]) (sort_s (o:=o) (c:=c) (g:=g) (l:=.mk t L) (by simp;omega) hLv) (.cons (jK (by simp) hL λx _=>aO.cells x) .nil) λr c2 _ ⟨s,hr,h1,h2,h3⟩=>?_
   subst hr
   refine⟨xF eL _,?_⟩
   simp at h1 h3
   simp
   refine cV (DU (o:=o) (c:=c) (g:=g) (l:=s) (by omega) λv hm=>(h2 v hm).ok) λr c3 _ hq=>?_
   obtain⟨y,rfl,hy⟩:=lst (n:=0) (w:=0) hq (by omega)
   refine⟨eL y,?_⟩
   simp[e6]
   exact aS ⟨rfl,y,rfl,hy⟩
  .refine P0 (A:=[⟨false,c0,5,[v.enc]⟩,⟨false,c0+1,5,[a.enc]⟩,⟨false,c0+1+1,5,[[.int .i64 0,.int .i64 0,.str [],.int .i64 0,.aU]]⟩]) (B:=[⟨false,t,5,L.map aO.enc⟩]) (DU (o:=o) (c:=c) (g:=g) (l:=.mk t L) (by simp;omega) λv hm=>(hLv v hm).ok) (.cons (jK (by simp) hL λx _=>aO.cells x) .nil) λr c2 _ hq=>?_
   obtain⟨y,rfl,hy⟩:=lst (n:=0) (w:=0) hq (by simpa using hLw)
   refine⟨eL y,?_⟩
   simp[e6]
   exact aS ⟨rfl,y,rfl,hy⟩
end
set_option maxRecDepth 100000
def vQ:aF aA:=[[111,98,95,103,101,116],[111,98,95,101,110,100],[111,98,95,99,108,101,97,110],[115,116,114,108,101,110],[117,112,112,101,114],[99,111,117,110,116],[107,101,121,115],[118,97,108,117,101,115],[115,111,114,116],[105,110,116,118,97,108],[115,116,114,118,97,108],[107,105,110,100],[115,101,114,105,97,108,105,122,101],[117,110,115,101,114,105,97,108,105,122,101],[111,98,95,115,116,97,114,116],[114,101,112,101,97,116],[101,115,99,97,112,101],[105,110,95,97,114,114,97,121],[105,109,112,108,111,100,101],[114,97,110,103,101],[104,101,97,100,101,114],[115,117,98,115,116,114]]
def nJ (i:Nat):Nat:=if i<3 then 0 else if i<15 then 1 else if i<21 then 2 else 3
def ArQ (name:aA) (r:AV):Prop:=r=.I (-1)\/∃i:Nat,vQ[i]?=some name/\r=.I (nJ i:Nat)
def aaI {name}:bM aE 269 [.str name] (ArQ name):=by
 intro E;refine cO F269 ?_;simp[F269];refine b6 22 (λi e H c'=>e 0=.str name/\e 3=.ref 0 E 1 22/\e 4=.I i/\H=[⟨false,E,1,vQ.map eK⟩]) ⟨rfl,rfl,rfl,rfl⟩ ?_;intro i e H E E ⟨e0,T,Z,E⟩ N hN;subst E;by_cases h:i<22
 .obtain⟨x,hx⟩:∃x,vQ[i]?=some x:=⟨_,bC (by exact h)⟩
  have hg:(vQ.map eK)[i]?=some (eK x):=by rw[kL,hx];rfl
  have E:(i:Int)<22:=by omega
  have W:=cD (i:=i) (n:=22) (by decide) h;by_cases hq:x=name
  .subst hq;have J:∀{H:aC} {c':Nat} {n:Int},n=((nJ i:Nat):Int)->cE (λr H' _=>H'=[]/\ArQ x r) (.I n) H c':=λhn=>by subst hn;exact aS ⟨rfl,.inr ⟨i,hx,rfl⟩⟩
   simp[e0,T,Z,E,aL hg,eK];refine⟨λa=>J (by rw[show nJ i=0 from by unfold nJ;(repeat' split)<;>omega];rfl),λa=>⟨λb=>J (by rw[show nJ i=1 from by unfold nJ;(repeat' split)<;>omega];rfl),λb=>⟨λd=>J (by rw[show nJ i=2 from by unfold nJ;(repeat' split)<;>omega];rfl),λd=>J (by rw[show nJ i=3 from by unfold nJ;(repeat' split)<;>omega];rfl)⟩⟩⟩
  .simp[e0,T,Z,E,aL hg,eK,hq];exact hN _ _ _ _ h (bY _) ⟨e0,T,by simp[aK,W],rfl⟩
 .have E:¬(i:Int)<22:=by omega
  simp[T,Z,E];exact aS ⟨rfl,.inl rfl⟩
def xA (i:Nat):aA:=([[48,48,48],[48,48,48],[48,48,48],[49],[49],[50],[50],[50],[50],[48,48,48],[49],[48,48,48],[48,48,48],[49],[48,48,48],[49,48],[48,49],[48,50],[49,50],[48,48,48],[49,49],[49,48,48]]:aF aA).getD i []
def kinds_fn {i:Nat} {name} (h:vQ[i]?=some name):dA aE 293 [.str name] (.str (xA i)):=by
 rcases i with _|_|_|_|_|_|_|_|_|_|_|_|_|_|_|_|_|_|_|_|_|_|i
 all_goals
  simp[vQ] at h
 all_goals
  subst h;refine fO F293 λc=>?_;simp[F293];exact aS ⟨rfl,rfl⟩
section
variable {o c g:Nat}
def CF (o c g:Nat) (r:AV):Prop:=∃(v:aO) (u:dM) (n:Int),r=.aX [.agg v.enc,.agg u.enc,.I n]/\VM o c g v/\jW u/\0<=n/\n<=10
def BN {v:aO} {u:dM} {n:Int} {H} {c'} (E:VM o c g v) (J:jW u) (W:0<=n) (T:n<=10):cE (λr Z _=>Z=[]/\CF o c g r) (.aX [.agg v.enc,.agg u.enc,.I n]) H c':=aS ⟨rfl,v,u,n,rfl,E,J,W,T⟩
def EG {u:dM} {n:Int} {H} {c'} (E:jW u) (T:0<=n) (J:n<=10):cE (λr W _=>W=[]/\CF o c g r) (.aX [.agg [.I 0,.I 0,.str [],.I 0,.aU],.agg u.enc,.I n]) H c':=by
 have:=BN (o:=o) (c:=c) (g:=g) (v:=sV 0 0 []) (H:=H) (c':=c') (.sc (by decide) (by decide) (by simp)) E T J
 rwa [iB] at this
def buffer_s {name} {u:dM} {n:Int} (J:jW u):bM aE 304 [.str name,.agg u.enc,.I n] (CF o c g):=by
 intro E;refine cO F304 ?_;unfold F304;have Z:∀{q:Int} {w:dM} {H:aC} {E:Nat},0<=q/\q<=1->jW w->cE (λr T _=>T=[]/\CF o c g r) (.aX [.agg (sV 1 q []).enc,.agg w.enc,.I 0]) H E:=λE E=>BN (.sc (by decide) (by omega) (by simp)) E (by decide) (by decide);simp;refine⟨λ_=>?_,λ_=>⟨λ_=>?_,λ_=>⟨λ_=>?_,λ_=>?_⟩⟩⟩
 .refine oub_c (start_s J) λw b c1 _ E=>?_;simp;refine cX (oL _) (eL _) λ_ _=>?_;simp;exact Z (by split<;>decide) E
 .refine cV (ZN J) λr c1 _ ⟨w,b,T,E,_⟩=>?_;subst T;refine⟨hY (tW w) .bool,?_⟩;simp;refine cX (oL _) (eL _) λ_ _=>?_;simp;exact Z (by split<;>decide) E
 .refine cV (YC J) λr c1 _ ⟨w,k,T,E,W,hk2,_⟩=>?_;subst T;refine⟨hY (tW w) .int,?_⟩;by_cases hk:k=2
  .simp[hk];exact EG E (by decide) (by decide)
  .simp[hk];refine cX (oL _) (eL _) λ_ _=>?_;simp;exact Z (by split<;>decide) E
 .refine cV (bufText_s J) λr c1 _ ⟨t,b,T,E⟩=>?_;subst T;refine⟨hY .str .bool,?_⟩;cases b
  .simp;refine cX (oL _) (eL _) λ_ _=>?_;simp;exact Z (by decide) J
  .simp;refine qD (yI (o:=o) (c:=c) (g:=g)) λv k E _ W E T=>?_;simp;exact BN T J W E
end
set_option maxRecDepth 100000
def NA:∀v:aO,v.sz<=1048576->bM aE 86 [.agg v.enc] (BQ (∀o c g,dU o c g v->dU 0 0 0 v)):=by
 refine aO.xD λv ih E=>?_;intro E;have J:=v.C0;have J:v.bF.aG.length<=1048576:=by omega
 refine cO F86 ?_;unfold F86;by_cases T:v.aJ=4;rotate_left
 .simp[T];refine cX (fA _ 0 3) .bool λc1 _=>?_;simp;refine EJ λJ o c g hv=>?_;have Z:0<=v.aJ/\v.aJ<=3:=by simpa[cT] using J
  cases hv with
  |mk q1 q2 q3 q4 q6 q7 q8 W qK qI=>
   simp only[aO.aJ] at Z T;refine .mk q1 q2 q3 q4 (λh=>by omega) (λh=>by omega) (λh=>by omega) W qK λe J=>?_;rw[W T] at J;simp at J
 simp[T];refine b6 v.bF.aG.length (λi e H Z=>e 1=.ptr 0 E 5 0 0/\e 3=.I i/\(∀e,e∈v.bF.aG.take i->∀o c g,dU o c g e.2->dU 0 0 0 e.2)/\H=[⟨false,E,5,[v.enc]⟩]) ⟨rfl,rfl,by simp,rfl⟩ ?_;intro i e H c1 E ⟨e1,e3,ha,E⟩ N hN;subst E;by_cases h:i<v.bF.aG.length
 .obtain⟨x,Z⟩:∃x,v.bF.aG[i]?=some x:=⟨_,bC h⟩
  have E:(i:Int)<(v.bF.aG.length:Int):=by omega
  have hst:=cD (i:=i) (n:=v.bF.aG.length) (by unfold mx;omega) h;have hxz:x.2.sz<=1048576:=by
   have h1:=tD kN Z;have h2:=tB (f:=kN) (l:=v.bF.aG) (i:=i+1);have h3:kN x=x.1.dN.length+x.2.sz:=rfl;omega
  simp[e1,e3,E,aL Z];refine fR (ih x (bA Z) hxz) (λhp c2 _=>?_) λc2 _=>?_
  .simp[e3];exact hN _ _ _ _ h (bY _) ⟨e1,by simp[aK,hst],AO ha Z hp,rfl⟩
  .simp;exact b8
 .have E:¬(i:Int)<(v.bF.aG.length:Int):=by omega
  simp[e1,e3,E];have E:=AP ha (by omega);refine jQ λo c g hv=>?_;cases hv with
  |mk q1 q2 q3 q4 q6 q7 q8 W qK qI=>
   simp only[aO.aJ] at T;exact .mk q1 q2 q3 q4 (λh=>by omega) (λh=>by omega) (λh=>by omega) W qK λe J=>E e J o c g (qI e J)
def BL {n:Int} (h:-1000000002<=n/\n<=1000000002):∃t:aA,dA aE 116 [.I n] (.str t)/\t.length<=21:=
 ⟨Lib.itoa n,SY (by omega) (by omega),itoa_len21 (by
  have E:IntKind.i64.min = -9223372036854775808:=by decide
  have E:IntKind.i64.max=9223372036854775807:=by decide
  exact⟨by omega,by omega⟩)⟩
def T11 (v:aO) (t:aA):Prop:=dA aE 87 [.agg v.enc] (.str t)/\t.length+500<=1000*v.wt
def aaH {o c g:Nat} {v:aO} (E:dU o c g v) (J:v.bF.aG.length<=1000/\bE eT v.bF.aG<=1000) (J:¬(0<=v.aJ/\v.aJ<=3)) (F:bX×aO->aO×aA×aA)
  (hF:∀e,e∈v.bF.aG->dA aE 117 [.agg e.1.enc] (.agg (F e).1.enc)/\dA aE 87 [.agg (F e).1.enc] (.str (F e).2.1)/\dA aE 87 [.agg e.2.enc] (.str (F e).2.2)/\(F e).2.1.length+(F e).2.2.length<=1000*eT e/\∀c,fX c (.agg (F e).1.enc)):
  ∃t,dA aE 87 [.agg v.enc] (.str t)/\t.length<=47+1000*bE eT v.bF.aG:=by
 have W:=E.x;obtain⟨T,f3,E⟩:=BL (n:=v.Next) (by omega);obtain⟨J,f4,E⟩:=BL (n:=(v.bF.aG.length:Int)) (by omega);have E:(2000000:Nat)<=mx:=by decide
 have k0:¬v.aJ=0:=by omega
 have k1:¬v.aJ=1:=by omega
 have k2:¬v.aJ=2:=by omega
 have k3:¬v.aJ=3:=by omega
 generalize E:([97,58]++(J++(58::(T++[123]))):aA)=T;have J:T.length<=46:=by rw[<-E];simp;omega
 have Z:∀i,i<=v.bF.aG.length->(T++(v.bF.aG.take i).flatMap λe=>(F e).2.1++(F e).2.2).length<=46+1000*bE eT (v.bF.aG.take i):=λi hi=>by
  have:∀l:aF (bX×aO),(∀e,e∈l->e∈v.bF.aG)->(l.flatMap λe=>(F e).2.1++(F e).2.2).length<=1000*bE eT l:=by
   intro l
   induction l with
   |nil=>intro _;simp
   |cons a l J=>
    intro h;have h1:=J λe J=>h e (by simp[J]);have h2:=(hF a (h a (by simp))).2.2.2.1;simp only[CS,kW,bE,gJ,nP] at h1 ⊢;omega
  have:=this (v.bF.aG.take i) λe J=>zT J;rw[kW];omega
 refine⟨T++(v.bF.aG.flatMap λe=>(F e).2.1++(F e).2.2)++[125],?_,?_⟩;rotate_left
 .have:=Z v.bF.aG.length (bB _);rw[mU] at this;simp at this ⊢;omega
 refine fO uM λJ=>?_;simp[uM,k0,k1,k2,k3];refine xP f4 .str λc1 _=>?_;simp;refine⟨by omega,by omega,xP f3 .str λc2 _=>?_⟩;simp;refine⟨by omega,by omega,?_⟩;refine b6 v.bF.aG.length (λi e H c'=>e 1=.ptr 0 J 5 0 0/\e 3=.str (T++(v.bF.aG.take i).flatMap λe=>(F e).2.1++(F e).2.2)/\e 4=.I i/\H=[⟨false,J,5,[v.enc]⟩]) ⟨rfl,by simp[aK,<-E],rfl,rfl⟩ ?_;intro i e H E hi ⟨e1,e3,e4,E⟩ N hN;subst E;have hSi:=Z i hi;have E:=tB (f:=eT) (l:=v.bF.aG) (i:=i);by_cases h:i<v.bF.aG.length
 .obtain⟨x,W⟩:∃x,v.bF.aG[i]?=some x:=⟨_,bC h⟩
  obtain⟨q1,q2,q3,E,q5⟩:=hF x (bA W);have J:(i:Int)<(v.bF.aG.length:Int):=by omega
  have hst:=cD (i:=i) (n:=v.bF.aG.length) (by unfold mx;omega) h;have hSj:=Z (i+1) h;have E:=tB (f:=eT) (l:=v.bF.aG) (i:=i+1);have E:T++(v.bF.aG.take (i+1)).flatMap (λe=>(F e).2.1++(F e).2.2)=T++(v.bF.aG.take i).flatMap (λe=>(F e).2.1++(F e).2.2)++(F x).2.1++(F x).2.2:=by
   rw[wB,W];simp
  rw[E] at hSj;generalize T++(v.bF.aG.take i).flatMap (λe=>(F e).2.1++(F e).2.2)=Z at *;simp only[kW] at hSj;simp[e1,e3,e4,J,aL W];refine⟨λn a=>if n=60 then a=.agg (F x).1.enc else if n=61 then a=.str (F x).2.1 else a=.str (F x).2.2,?_⟩;refine P4 q1 (by simp) q5 ?_;simp;refine P4 q2 (by simp) (λc=>OJ _ _) ?_;simp[e1,e4,aL W];refine⟨by omega,?_⟩;refine P4 q3 (by simp) (λc=>OJ _ _) ?_;simp[e4];refine⟨by omega,λc' _=>?_⟩;exact hN _ _ _ _ h (bY _) ⟨e1,by simp[aK,E],by simp[aK,hst],rfl⟩
 .have J:¬(i:Int)<(v.bF.aG.length:Int):=by omega
  rw[fJ (by omega)] at hSi;have E:v.bF.aG.take i=v.bF.aG:=fJ (by omega);rw[E] at e3;generalize (v.bF.aG.flatMap λe=>(F e).2.1++(F e).2.2)=Z at *;simp only[kW] at hSi;simp[e1,e3,e4,J];refine⟨by omega,aS ⟨rfl,rfl⟩⟩
def TG {o c g:Nat} {v:aO} (E:dU o c g v) (h4:v.aJ≠4):∃t,T11 v t:=by
 have J:=aO.GK v;have J:=E.n;have J:=E.s;have J:=E.k;have J:=E.x;obtain⟨T,W,J⟩:=BL (n:=v.bN) (by omega);obtain⟨t2,f2,J⟩:=BL (n:=(v.dN.length:Int)) (by omega);obtain⟨J,J,J⟩:=BL (n:=v.Next) (by omega);obtain⟨J,J,J⟩:=BL (n:=0) (by omega);have J:(1000000:Nat)<=mx:=by decide
 by_cases Z:v.aJ=0
 .refine⟨[78,59],?_,by simp;omega⟩;refine fO uM λc=>?_;simp[uM,Z];exact aS ⟨rfl,rfl⟩
 by_cases Z:v.aJ=1
 .refine⟨[98,58]++T++[59],?_,by simp;omega⟩;refine fO uM λc=>?_;simp[uM,Z];refine bZ W .str λZ _=>?_;simp;exact⟨by omega,by omega,aS ⟨rfl,rfl⟩⟩
 by_cases k2:v.aJ=2
 .refine⟨[105,58]++T++[59],?_,by simp;omega⟩;refine fO uM λc=>?_;simp[uM,k2];refine bZ W .str λZ _=>?_;simp;exact⟨by omega,by omega,aS ⟨rfl,rfl⟩⟩
 by_cases T:v.aJ=3
 .refine⟨[115,58]++t2++[58]++v.dN++[59],?_,by simp;omega⟩;refine fO uM λc=>?_;simp[uM,T];refine bZ f2 .str λZ _=>?_;simp;exact⟨by omega,by omega,by omega,by omega,aS ⟨rfl,rfl⟩⟩
 .have T:=E.e h4;obtain⟨t,Z,W⟩:=aaH E (by rw[T];simp[bE]) (by omega) (λ_=>(v,[],[])) (λe J=>by rw[T] at J;simp at J);refine⟨t,Z,?_⟩;rw[T] at W;simp[bE] at W;omega
def XB (k n:Int) s c:fX c (.agg (sV k n s).enc):=λT _=>by
 rw[iB];refine .agg λj a E=>?_;have:=bA E;simp at this;rcases this with rfl|rfl|rfl|rfl|rfl
 .exact .int
 .exact .int
 .exact .str
 .exact .int
 .exact .aU
def keyF_ex {k:bX} (E:kV k):∃v:aO,dA aE 117 [.agg k.enc] (.agg v.enc)/\dU 0 0 0 v/\v.aJ≠4/\v.wt=1/\∀c,fX c (.agg v.enc):=by
 have T:=E.1;have J:=E.2.1;cases hT:k.bR
 .refine⟨sV 2 k.bN [],?_,(VM.sc (o:=0) (c:=0) (g:=0) (by decide) ⟨T,J⟩ (by simp)).ok,by show(2:Int)≠4;decide,HK _ _ _,λc=>XB _ _ _ _⟩;refine fO CN λc=>?_;simp[CN,hT];refine cX (pT _) (eL _) λ_ _=>?_;simp;exact aS ⟨rfl,rfl⟩
 .refine⟨sV 3 0 k.dN,?_,(VM.sc (o:=0) (c:=0) (g:=0) (by decide) (by decide) E.2.2).ok,by show(3:Int)≠4;decide,HK _ _ _,λc=>XB _ _ _ _⟩;refine fO CN λc=>?_;simp[CN,hT];refine cX (nU _) (eL _) λ_ _=>?_;simp;exact aS ⟨rfl,rfl⟩
def text_ex {o c g:Nat}:∀v:aO,VM o c g v->∃t,T11 v t:=by
 refine aO.xD λv ih E=>?_;by_cases J:v.aJ=4;rotate_left
 .exact TG E.ok J
 have T:=E.wt;have T:=RO J;have J:=E.len;have J:∀e:bX×aO,∃x:aO×aA×aA,e∈v.bF.aG->dA aE 117 [.agg e.1.enc] (.agg x.1.enc)/\dA aE 87 [.agg x.1.enc] (.str x.2.1)/\dA aE 87 [.agg e.2.enc] (.str x.2.2)/\x.2.1.length+x.2.2.length<=1000*eT e/\∀c,fX c (.agg x.1.enc):=λe=>by
  by_cases W:e∈v.bF.aG
  .obtain⟨i,Z⟩:=lS.1 W;obtain⟨hk,T⟩:=E.get Z;obtain⟨w,w1,w2,w3,Z,Z⟩:=keyF_ex hk;obtain⟨t1,a1,a2⟩:=TG w2 w3;obtain⟨t2,b1,b2⟩:=ih e W T;refine⟨(w,t1,t2),λ_=>⟨w1,a1,b1,?_,Z⟩⟩;have:eT e=e.2.wt:=rfl;simp only;omega
  .exact⟨(v,[],[]),λh=>absurd h W⟩
 obtain⟨F,T⟩:=Classical.axiomOfChoice J;obtain⟨t,J,W⟩:=aaH E.ok (by omega) (by omega) F T;exact⟨t,J,by omega⟩
def TD {o c g:Nat} {v:aO} (E:VM o c g v):bM aE 66 [.agg v.enc] (λr=>∃(t:aA) (b:Bool),r=.aX [.str t,.bool b]/\t.length<=200000):=by
 intro J;have J:=E.CY;obtain⟨t,T,J⟩:=text_ex v E;have J:=E.wt;refine cO F66 ?_;simp[F66];refine cX (C5 (by omega)) .bool λE _=>?_;cases isVal v
 .simp;exact aS ⟨rfl,[],by simp,by simp⟩
 simp;refine fR (NA v (by omega)) (λ_ E _=>?_) λE _=>?_
 .simp;refine cX T .str λE _=>?_;simp;exact aS ⟨rfl,t,by simp,by omega⟩
 .simp;exact aS ⟨rfl,[],by simp,by simp⟩
set_option maxRecDepth 100000
def NuQ (s:aA) (a:Nat) (r:AV):Prop:=∃n E:Int,r=.aX [.I n,.I E]/\-1000000001<=n/\n<=1000000001/\(E = -1\/∃j:Nat,E=j/\a<j/\j<=s.length)
def UZ {s:aA} {a:Nat} {b:UInt8} (hs:s.length<=1048576) (E:a<=1048600):bM aE 168 [.str s,.I a,.int .u8 b.toNat] (NuQ s a):=by
 intro E;refine cO F168 ?_;unfold F168;have no:∀{H:aC} {E:Nat},cE (λr J _=>J=[]/\NuQ s a r) (.aX [.I 0,.I (-1)]) H E:=aS ⟨rfl,0,-1,rfl,by decide,by decide,.inl rfl⟩;simp;refine IU (λe H E=>∃i:Nat,a<=i/\i<=1048600/\e 0=.str s/\e 1=.I a/\e 2=.int .u8 b.toNat/\e 8=.I i/\H=[]) ?_ ?_;rotate_left
 .intro K hK;refine b6 13 (λj e H E=>e 0=.str s/\e 1=.I a/\e 2=.int .u8 b.toNat/\e 8=.I ((a+j:Nat):Int)/\(a+j<=s.length\/j=0)/\H=[]) ⟨rfl,rfl,rfl,rfl,.inr rfl,rfl⟩ ?_;intro j e H c1 E ⟨J,e1,W,E,T,hH⟩ N hN;subst hH;by_cases h:a+j<s.length
  .have T:((a+j:Nat):Int)<(s.length:Int):=by omega
   obtain⟨x,hx⟩:∃x,s[a+j]?=some x:=⟨_,bC h⟩
   by_cases hq:x.toNat=b.toNat
   .simp[J,W,E,T,aL hx,hq,-Int.natCast_add];exact hK _ _ _ ⟨a+j,by omega,by omega,J,e1,W,by simp[aK,E,-Int.natCast_add],rfl⟩
   .have Z:¬((x.toNat:Int)=(b.toNat:Int)):=by omega
    have hw:IntKind.i64.wrap ((a:Int)+12)=((a+12:Nat):Int):=by rw[wrap64 (by omega) (by omega)];omega
    have hw2:IntKind.i64.wrap (((a+j:Nat):Int)+1)=((a+(j+1):Nat):Int):=by rw[wrap64 (by omega) (by omega)];omega
    by_cases hj12:j<12
    .have h12:((a+j:Nat):Int)<((a+12:Nat):Int):=by omega
     simp[J,e1,W,E,T,aL hx,Z,hw,h12,hw2,-Int.natCast_add];exact hN _ _ _ _ (by omega) (bY _) ⟨J,e1,W,by simp[aK,-Int.natCast_add],.inl (by omega),rfl⟩
    .have h12:¬((a+j:Nat):Int)<((a+12:Nat):Int):=by omega
     simp[J,e1,W,E,T,aL hx,Z,hw,h12,-Int.natCast_add];exact hK _ _ _ ⟨a+j,by omega,by omega,J,e1,W,by simp[aK,E,-Int.natCast_add],rfl⟩
  .have T:¬((a+j:Nat):Int)<(s.length:Int):=by omega
   simp[J,E,T,-Int.natCast_add];exact hK _ _ _ ⟨a+j,by omega,by omega,J,e1,W,by simp[aK,E,-Int.natCast_add],rfl⟩
 intro e H c1 ⟨i,hi,T,J,e1,W,E,hH⟩;subst hH;by_cases h:i<s.length;rotate_left
 .have T:(s.length:Int)<=(i:Int):=by omega
  simp[J,E,T];exact no
 have T:¬(s.length:Int)<=(i:Int):=by omega
 obtain⟨x,hx⟩:∃x,s[i]?=some x:=⟨_,bC h⟩
 by_cases hq:x.toNat=b.toNat;rotate_left
 .have Z:¬((x.toNat:Int)=(b.toNat:Int)):=by omega
  simp[J,W,E,T,aL hx,Z];exact no
 have hb1:∀K:Nat->Prop,fP (some (.I (a:Int))) 0 K=K a:=λK=>by simp[fP]
 have Z:∀K:Nat->Prop,fP (some (.I (i:Int))) s.length K=K i:=λK=>by simp[fP]
 simp[J,e1,W,E,T,aL hx,hq,hb1,Z];refine⟨hi,by omega,?_⟩;refine cX (MU (l:=(s.take i).drop a) (by simp;unfold mx;omega)) (hY .int .bool) λT _=>?_;have hw:IntKind.i64.wrap ((i:Int)+1)=((i+1:Nat):Int):=by rw[wrap64 (by omega) (by omega)];omega
 cases hp:pK ((s.take i).drop a) with
 |some n=>
  have T:=((S7 _ n).1 hp).2;simp[E,hw];exact aS ⟨rfl,n,_,rfl,by omega,by omega,.inr ⟨i+1,by simp,by omega,by omega⟩⟩
 |none=>
  simp[J,e1,E,hb1,Z,hw];exact⟨hi,by omega,λ_=>no,λ_=>aS ⟨rfl,1000000001,_,rfl,by decide,by decide,.inr ⟨i+1,by simp,by omega,by omega⟩⟩⟩
def ID {H} {c a} {b:UInt8} {s:aA} {K:aD} {w:Int} (hw:w=b.toNat) (hs:s.length<=1048576) (ha:a<=1048600) (k0:∀n c',c<=c'->-1000000001<=n->n<=1000000001->K (.aX [.I n,.I (-1)]) H c') (k1:∀n (j:Nat) c',c<=c'->-1000000001<=n->n<=1000000001->a<j->j<=s.length->K (.aX [.I n,.I j]) H c'):
  bO aE 168 [.str s,.I a,.int .u8 w] H c K:=by
 subst hw;refine cV (UZ hs ha) λr c' hc ⟨n,next,hr,h0,h1,h2⟩=>?_;subst hr;refine⟨hY .int .int,?_⟩;rcases h2 with rfl|⟨j,rfl,h3,h4⟩
 .exact k0 n c' hc h0 h1
 .exact k1 n j c' hc h0 h1 h3 h4
inductive qO (m:Nat):aO->Prop where
 |mk {k n:Int} {s:aA} {x:Int} {I:SL (bX×aO)} (hk:0<=k/\k<=4) (hn:-1000000001<=n/\n<=1000000001) (hs:s.length<=m) (hx:-1000000002<=x/\x<=1000000002)
   (h4:k≠4->I.aG=[]) (hl:I.aG.length<=200) (hK:∀e,e∈I.aG->-1000000001<=e.1.bN/\e.1.bN<=1000000001/\e.1.dN.length<=m) (hI:∀e,e∈I.aG->qO m e.2):qO m (.mk k n s x I)
def uJ (s:aA) (a:Nat) (r:AV):Prop:=∃(v:aO) (E:Int),r=.aX [.agg v.enc,.I E]/\qO s.length v/\(E = -1\/∃j:Nat,E=j/\a+v.sz<j/\j<=s.length)
def yM {m} {k n:Int} {s:aA} (J:0<=k/\k<=4) (E:-1000000001<=n/\n<=1000000001) (hs:s.length<=m):qO m (sV k n s):=.mk J E hs (by decide) (λ_=>rfl) (by simp) (λe h=>by simp at h) (λe h=>by simp at h)
set_option maxRecDepth 100000
def HN (k n:Int) (s:aA):(sV k n s).sz=s.length:=by rw[sV,aO.CZ];simp[bE]
set_option maxHeartbeats 4000000 in
def TU {s:aA} {a d} (hs:s.length<=1048576) (ha:a<=s.length) (hd:d<=201)
  (ih:d<=200->∀b,b<=s.length->bM aE 136 [.str s,.I b,.I ((d+1:Nat):Int)] (uJ s b)):bM aE 136 [.str s,.I a,.I d] (uJ s a):=by
 intro c0;refine cO F136 ?_;unfold F136;have no:∀{v:aO} {H:aC} {c':Nat},qO s.length v->cE (λr H' _=>H'=[]/\uJ s a r) (.aX [.agg v.enc,.I (-1)]) H c':=λhv=>aS ⟨rfl,_,-1,rfl,hv,.inl rfl⟩;have no0:∀{H:aC} {c':Nat},cE (λr H' _=>H'=[]/\uJ s a r) (.aX [.agg [.I 0,.I 0,.str [],.I 0,.aU],.I (-1)]) H c':=λ{H c'}=>by
  have:=no (v:=sV 0 0 []) (H:=H) (c':=c') (yM (by decide) (by decide) (by simp))
  rwa [iB] at this
 have hw1:IntKind.i64.wrap ((s.length:Int)-1)=(s.length:Int)-1:=wrap64 (by omega) (by omega);by_cases hin:(s.length:Int)-1<=(a:Int)
 .simp[hw1,hin,aR];exact no0
 by_cases hdp:(200:Int)<(d:Int)
 .simp[hw1,hin,hdp,aR];exact no0
 have hd2:d<=200:=by omega
 have hw2:IntKind.i64.wrap ((a:Int)+2)=((a+2:Nat):Int):=by rw[wrap64 (by omega) (by omega)];omega
 have hb1:∀K:Nat->Prop,fP (some (.I (a:Int))) 0 K=K a:=λK=>by simp[fP]
 have hb2:∀K:Nat->Prop,fP (some (.I ((a+2:Nat):Int))) s.length K=K (a+2):=λK=>by
  show(0<=((a+2:Nat):Int)/\K (((a+2:Nat):Int)).toNat) = _;rw[Int.toNat_natCast];simp only[eq_iff_iff,and_iff_right_iff_imp];exact λ_=>by omega
 have hal:a+2<=s.length:=by omega
 generalize hh:(s.take (a+2)).drop a=h;have ha2:a+2<=1048600:=by omega
 by_cases hN:h=[78,59]
 .simp[hw1,hin,hdp,hw2,hb1,hb2,hh,hN,aR,-Int.natCast_add];refine⟨hal,?_⟩;have hz:=HN 0 0 [];have:cE (λr H' _=>H'=[]/\uJ s a r) (.aX [.agg (sV 0 0 []).enc,.I ((a+2:Nat):Int)]) [⟨false,c0,5,[[.I 0,.I 0,.str [],.I 0,.aU]]⟩] (c0+1):=aS ⟨rfl,_,_,rfl,yM (by decide) (by decide) (by simp),.inr ⟨a+2,rfl,by rw[hz];simp,hal⟩⟩;rw[iB] at this;exact this
 by_cases hB:h=[98,58]
 .simp[hw1,hin,hdp,hw2,hb1,hb2,hh,hB,aR,-Int.natCast_add];refine⟨hal,?_⟩;refine ID (b:=59) rfl hs ha2 (λn c1 _ h0 h1=>?_) λn j c1 _ h0 h1 hj1 hj2=>?_
  .simp[hh,hB,aR];have:=no (v:=sV 1 n []) (H:=[⟨false,c0,5,[[.I 1,.I n,.str [],.I 0,.aU]]⟩]) (c':=c1) (yM (by decide) ⟨h0,h1⟩ (by simp));rw[iB] at this;exact this
  .simp[hh,hB,aR];have hz:=HN 1 n [];have:cE (λr H' _=>H'=[]/\uJ s a r) (.aX [.agg (sV 1 n []).enc,.I (j:Int)]) [⟨false,c0,5,[[.I 1,.I n,.str [],.I 0,.aU]]⟩] c1:=aS ⟨rfl,_,_,rfl,yM (by decide) ⟨h0,h1⟩ (by simp),.inr ⟨j,rfl,by rw[hz];simp;omega,hj2⟩⟩;rw[iB] at this;exact this
 by_cases hI:h=[105,58]
 .simp[hw1,hin,hdp,hw2,hb1,hb2,hh,hI,aR,-Int.natCast_add];refine⟨hal,?_⟩;refine ID (b:=59) rfl hs ha2 (λn c1 _ h0 h1=>?_) λn j c1 _ h0 h1 hj1 hj2=>?_
  .simp[hh,hI];refine cX (pT _) (eL _) λ_ _=>?_;simp;exact no (yM (by decide) ⟨h0,h1⟩ (by simp))
  .simp[hh,hI];refine cX (pT _) (eL _) λ_ _=>?_;simp;exact aS ⟨rfl,_,_,rfl,yM (by decide) ⟨h0,h1⟩ (by simp),.inr ⟨j,rfl,by rw[HN];simp;omega,hj2⟩⟩
 by_cases hS:h=[115,58]
 .simp[hw1,hin,hdp,hw2,hb1,hb2,hh,hS,aR,-Int.natCast_add];refine⟨hal,?_⟩;refine ID (b:=58) rfl hs ha2 (λn c1 _ h0 h1=>?_) λn j c1 _ h0 h1 hj1 hj2=>?_
  .simp[aR];exact no0
  .have hj0:¬(j:Int)<0:=by omega
   by_cases hn0:n<0
   .simp[hn0,hj0,aR];exact no0
   obtain⟨m,rfl⟩:∃m:Nat,n=m:=⟨n.toNat,by omega⟩
   have hm0:¬(m:Int)<0:=by omega
   have hw3:IntKind.i64.wrap ((s.length:Int)-(j:Int))=(s.length:Int)-(j:Int):=wrap64 (by omega) (by omega);by_cases hge:(s.length:Int)-(j:Int)<=(m:Int)
   .simp[hw3,hge,hj0,hm0,aR];exact no0
   have hjm:j+m<s.length:=by omega
   obtain⟨x,hx⟩:∃x,s[j+m]?=some x:=⟨_,bC hjm⟩
   have hw4:IntKind.i64.wrap ((j:Int)+(m:Int))=((j+m:Nat):Int):=by rw[wrap64 (by omega) (by omega)];omega
   have hw5:IntKind.i64.wrap (((j+m:Nat):Int)+1)=((j+m+1:Nat):Int):=by rw[wrap64 (by omega) (by omega)];omega
   have hb3:∀K:Nat->Prop,fP (some (.I (j:Int))) 0 K=K j:=λK=>by simp[fP]
   have hb4:∀K:Nat->Prop,fP (some (.I ((j+m:Nat):Int))) s.length K=K (j+m):=λK=>by
    show(0<=((j+m:Nat):Int)/\K (((j+m:Nat):Int)).toNat) = _;rw[Int.toNat_natCast];simp only[eq_iff_iff,and_iff_right_iff_imp];exact λ_=>by omega
   by_cases hq:x.toNat=59
   .simp[hw3,hge,hj0,hm0,hw4,aL hx,hq,hb3,hb4,-Int.natCast_add];refine⟨by omega,?_⟩;refine cX (nU _) (eL _) λ_ _=>?_;simp[hw4,hw5,-Int.natCast_add];exact aS ⟨rfl,_,_,rfl,yM (by decide) (by decide) (by simp;omega),.inr ⟨j+m+1,rfl,by rw[HN];simp;omega,by omega⟩⟩
   .have hq':¬(x.toNat:Int)=59:=by omega
    simp[hw3,hge,hj0,hm0,hw4,aL hx,hq',aR,-Int.natCast_add];exact no0
 by_cases hA:h=[97,58]
 rotate_left
 .simp[hw1,hin,hdp,hw2,hb1,hb2,hh,hN,hB,hI,hS,hA,aR,-Int.natCast_add];exact⟨hal,no0⟩
 simp[hw1,hin,hdp,hw2,hb1,hb2,hh,hA,aR,-Int.natCast_add];refine⟨hal,?_⟩;refine ID (b:=58) rfl hs ha2 (λn c1 _ h0 h1=>?_) λn j c1 _ h0 h1 hj1 hj2=>?_
 .simp[aR];exact no0
 have hj0:¬(j:Int)<0:=by omega
 by_cases hn0:n<0
 .simp[hn0,hj0,aR];exact no0
 by_cases hn2:200<n
 .simp[hn0,hj0,hn2,aR];exact no0
 obtain⟨m,rfl⟩:∃m:Nat,n=m:=⟨n.toNat,by omega⟩
 simp[hn0,hj0,hn2];refine cX CE (eL _) λc2 _=>?_;have fz:∀(nx:Int),sV 4 0 []=aO.mk 4 0 [] 0 .nil:=λ_=>rfl;have arr:∀{nx:Int} {X:AV} {L:aF (bX×aO)} {H:aC} {c':Nat} {q:Int},-1000000002<=nx->nx<=1000000002->L.length<=200->(∀e,e∈L->-1000000001<=e.1.bN/\e.1.bN<=1000000001/\e.1.dN.length<=s.length)->(∀e,e∈L->qO s.length e.2)->
   (L=[]/\X=.aU\/∃i t k,X=.ref i t 8 k/\k=L.length/\(⟨false,t,8,L.map iW⟩:aH)∈H)->(q = -1\/∃j:Nat,q=j/\a+(L.length+bE kN L)<j/\j<=s.length)->
   cE (λr H' _=>H'=[]/\uJ s a r) (.aX [.agg [.I 4,.I 0,.str [],.I nx,X],.I q]) H c':=λ{nx X L H c' q} h1 h2 h3 h4 h5 h6 h7=>by
  have hz:∀I:SL (bX×aO),I.aG=L->(aO.mk 4 0 [] nx I).sz=L.length+bE kN L:=λI hI=>by rw[aO.CZ,hI];simp
  have hr:∀I:SL (bX×aO),I.aG=L->qO s.length (.mk 4 0 [] nx I):=λI hI=>.mk (by decide) (by decide) (by simp) ⟨h1,h2⟩ (λh=>absurd rfl h) (by rw[hI];exact h3) (by rw[hI];exact h4) (by rw[hI];exact h5);rcases h6 with⟨rfl,rfl⟩|⟨i,t,k,rfl,rfl,ho⟩
  .have:cE (λr H' _=>H'=[]/\uJ s a r) (.aX [.agg (aO.mk 4 0 [] nx .nil).enc,.I q]) H c':=aS ⟨rfl,_,_,rfl,hr .nil rfl,by rw[hz .nil rfl];exact h7⟩;rw[aO.oJ] at this;exact this
  .refine⟨H,[],[],.aX [.agg (aO.mk 4 0 [] nx (.mk t L)).enc,.I q],eX _,.nil,λo h=>h,by simp[aV],.aX rfl λk x x' hx hx'=>?_,rfl,_,_,rfl,hr (.mk t L) rfl,by rw[hz (.mk t L) rfl];exact h7⟩
   match k,hx,hx' with
   |0,hx,hx'=>
    simp at hx hx';subst hx;subst hx';rw[aO.oJ];refine .agg rfl (λj x hx=>?_) λj x x' hx hx'=>?_
    .have:=bA hx;simp at this;rcases this with rfl|rfl|rfl|rfl|rfl<;>first|rfl|exact nI _ _ _
    .match j,hx,hx' with
     |0,hx,hx'=>simp at hx hx';subst hx;subst hx';exact .refl _
     |1,hx,hx'=>simp at hx hx';subst hx;subst hx';exact .refl _
     |2,hx,hx'=>simp at hx hx';subst hx;subst hx';exact .refl _
     |3,hx,hx'=>simp at hx hx';subst hx;subst hx';exact .refl _
     |4,hx,hx'=>simp at hx hx';subst hx;subst hx';exact jK ho rfl λx _=>YE x
     |j+5,hx,hx'=>simp at hx
   |1,hx,hx'=>simp at hx hx';subst hx;subst hx';exact .refl _
   |k+2,hx,hx'=>simp at hx
 have hdw:IntKind.i64.wrap ((d:Int)+1)=((d+1:Nat):Int):=by rw[wrap64 (by omega) (by omega)];omega
 have ih':=ih hd2;simp[iB];refine cV (UZ (b:=123) hs (a:=j) (by omega)) λr c3 _ ⟨nn,nx2,hr,hnn0,hnn1,hb3⟩=>?_;subst hr;refine⟨hY .int .int,?_⟩;simp[aR];refine b6 200 (λk e H c''=>∃(L:aF (bX×aO)) (X:AV) (M:aC) (nx:Int),H=⟨false,c0,5,[[.I 0,.I 0,.str [],.I 0,.aU]]⟩::⟨false,c2,5,[[.I 4,.I 0,.str [],.I nn,X]]⟩::M/\
  (L=[]/\X=.aU/\M=[]\/∃o1 o2 o3 o4 tj aN n,X=.ref 6 tj 8 n/\n=L.length/\M=[o1,o2,o3,o4,⟨false,tj,8,aN⟩]/\aN=L.map iW)/\
  (∀e,e∈L->-1000000001<=e.1.bN/\e.1.bN<=1000000001/\e.1.dN.length<=s.length)/\(∀e,e∈L->qO s.length e.2)/\L.length=k/\(nx = -1\/∃a1:Nat,nx=a1/\a+(L.length+bE kN L)<a1/\a1<=s.length)/\e 0=.str s/\e 2=.I d/\e 6=.ptr 0 c0 5 0 0/\e 9=.I m/\e 10=.I nx/\e 11=.ptr 1 c2 5 0 0/\e 12=.I k)
  ⟨[],.aU,[],nx2,rfl,.inl ⟨rfl,rfl,rfl⟩,by simp,by simp,rfl,by rcases hb3 with h|⟨j,h1,h2,h3⟩;exact .inl h;exact .inr ⟨j,h1,by simp[bE];omega,h3⟩,by simp[aK,gZ],by simp[aK,gZ],rfl,rfl,rfl,rfl,rfl⟩ ?_
 clear hb3;intro k e H c4 hk ⟨L,X,M,nx,hH,hX,hLK,hLV,hLk,hnx,e0,e2,e6,e9,e10,e11,e12⟩ N hN;subst hH;have hXH:∀{H:aC},(∀o,o∈M->o∈H)->(L=[]/\X=.aU)\/∃i tj n,X=.ref i tj 8 n/\n=L.length/\(⟨false,tj,8,L.map iW⟩:aH)∈H:=λ{H} hM=>by
  rcases hX with⟨h1,h2,_⟩|⟨o1,o2,o3,o4,tj,aN,n,h2,h3,h4,h5⟩
  .exact .inl ⟨h1,h2⟩
  .exact .inr ⟨6,tj,n,h2,h3,hM _ (by rw[h4,h5];simp)⟩
 have fail:∀{H:aC} {c':Nat},(∀o,o∈M->o∈H)->cE (λr H' _=>H'=[]/\uJ s a r) (.aX [.agg [.I 4,.I 0,.str [],.I nn,X],.I (-1)]) H c':=λ{H c'} hM=>arr (by omega) (by omega) (by omega) hLK hLV (hXH hM) (.inl rfl);rcases hnx with rfl|⟨a1,rfl,ha1,hal1⟩
 .by_cases hkm:k<m
  .simp[e6,e9,e10,e11,e12,hkm,aR];exact fail λo ho=>by simp[ho]
  .have hkm':¬(k:Int)<(m:Int):=by omega
   simp[e6,e9,e10,e11,e12,hkm',aR];exact fail λo ho=>by simp[ho]
 have hnn1:¬((a1:Int)<0):=by omega
 have hnn2:(0:Int)<=(a1:Int):=by omega
 by_cases hkm:k<m;rotate_left
 .have hkm':¬(k:Int)<(m:Int):=by omega
  by_cases ha1l:a1<s.length;rotate_left
  .have hge:(s.length:Int)<=(a1:Int):=by omega
   have hge':s.length<=a1:=by omega
   simp[e0,e6,e9,e10,e11,e12,hkm',hnn1,hge,aR];exact fail λo ho=>by simp[ho]
  have hge:¬(s.length:Int)<=(a1:Int):=by omega
  have hge':¬s.length<=a1:=by omega
  obtain⟨z,hz⟩:∃z,s[a1]?=some z:=⟨_,bC ha1l⟩
  by_cases hz59:z=125;rotate_left
  .have hz1:¬z.toNat=125:=λh=>hz59 (zP.1 h);have hz2:¬(z.toNat:Int)=125:=by omega
   simp[e0,e6,e9,e10,e11,e12,hkm',hnn1,hnn2,hge,aL hz,hz2,aR];exact fail λo ho=>by simp[ho]
  subst hz59;have hw5:IntKind.i64.wrap ((a1:Int)+1)=((a1+1:Nat):Int):=by rw[wrap64 (by omega) (by omega)];omega
  simp[e0,e6,e9,e10,e11,e12,hkm',hnn1,hnn2,hge,aL hz,hw5,aR,-Int.natCast_add];exact arr (by omega) (by omega) (by omega) hLK hLV (hXH λo ho=>by simp[ho]) (.inr ⟨a1+1,rfl,by omega,by omega⟩)
 have hk200:k<200:=by omega
 have stepQ:∀(v1 v2:aO) (n2:Int) (k1:bX) (a3:Nat),k1.dN.length<=v1.sz->a1+v1.sz<a3->(n2 = -1\/∃a':Nat,n2=a'/\a3+v2.sz<a'/\a'<=s.length)->
   (n2 = -1\/∃a':Nat,n2=a'/\a+((L++[(k1,v2)]).length+bE kN (L++[(k1,v2)]))<a'/\a'<=s.length):=λv1 v2 n2 k1 a3 h1 h2 h3=>h3.imp id λ⟨a',q1,q2,q3⟩=>⟨a',q1,by
    have e:bE kN (L++[(k1,v2)])=bE kN L+(k1.dN.length+v2.sz):=by simp[bE,kN]
    rw[e,kW,List.length_singleton];omega,q3⟩
 have RVn:∀{v:aO},qO s.length v->-1000000001<=v.bN/\v.bN<=1000000001/\v.dN.length<=s.length:=λhv=>by cases hv with|mk _ q2 q3 _ _ _ _ _=>exact⟨q2.1,q2.2,q3⟩
 have memK:∀{k1:bX} {v2:aO},(-1000000001<=k1.bN/\k1.bN<=1000000001/\k1.dN.length<=s.length)->∀e,e∈L++[(k1,v2)]->-1000000001<=e.1.bN/\e.1.bN<=1000000001/\e.1.dN.length<=s.length:=λhk e he=>by
  rcases dI.1 he with h|h
  .exact hLK e h
  .simp at h;subst h;exact hk
 have memV:∀{k1:bX} {v2:aO},qO s.length v2->∀e,e∈L++[(k1,v2)]->qO s.length e.2:=λhv e he=>by
  rcases dI.1 he with h|h
  .exact hLV e h
  .simp at h;subst h;exact hv
 rcases hX with⟨rfl,rfl,rfl⟩|⟨p1,p2,p3,p4,tj,aN,n5,rfl,hn5,rfl,hrows⟩
 .simp[e0,e2,e6,e9,e10,e11,e12,hkm,hnn1,hnn2,hdw,aR,-Int.natCast_add];refine cV (ih' a1 hal1) λr c4 hc4 ⟨v1,n1,hr,hv1,hz1⟩=>?_;subst hr;refine⟨hY (eL v1) .int,?_⟩;have hs1:v1.dN.length<=v1.sz:=by rw[aO.C0];omega
  rcases hz1 with rfl|⟨a3,rfl,hz1,hl1⟩
  .simp[e6,e11,aR,-Int.natCast_add];exact fail λo ho=>by simp at ho
  have hnn3:¬((a3:Int)<0):=by omega
  simp[hnn3,aR,-Int.natCast_add];refine bZ (fA _ _ _) .bool λ_ _=>?_;cases hin1:cT v1.aJ 2 3
  .simp[e6,e11,aR,-Int.natCast_add];exact fail λo ho=>by simp at ho
  simp[e0,e2,e6,e11,hdw,aR,-Int.natCast_add];refine cV (ih' a3 hl1) λr c5 hc5 ⟨v2,n2,hr,hv2,hz2⟩=>?_;subst hr;refine⟨hY (eL v2) .int,?_⟩;have hst:=stepQ v1 v2 n2 ⟨decide (v1.aJ=3),v1.bN,v1.dN⟩ a3 hs1 hz1 hz2;simp[e11,e12,aR,-Int.natCast_add];exact⟨by unfold mx;omega,hN _ _ (List.take 7 _) _ hk200 (fN 7 _) ⟨[]++[(⟨decide (v1.aJ=3),v1.bN,v1.dN⟩,v2)],_,_,n2,rfl,.inr ⟨_,_,_,_,_,_,_,rfl,by simp,rfl,by simp[iW,bX.enc]⟩,memK (RVn hv1),memV hv2,by simp[hLk],hst,e0,e2,e6,e9,rfl,e11,by simp[aK];exact cD (n:=200) (by unfold mx;omega) hk200⟩⟩
 .subst hn5 hrows;have hg1:(L.length+1)*96<=140737488355328:=by omega
  have hg2:L.length+1<=mx:=by unfold mx;omega
  simp[e0,e2,e6,e9,e10,e11,e12,hkm,hnn1,hnn2,hdw,aR,-Int.natCast_add];refine cV (ih' a1 hal1) λr c4 hc4 ⟨v1,n1,hr,hv1,hz1⟩=>?_;subst hr;refine⟨hY (eL v1) .int,?_⟩;have hs1:v1.dN.length<=v1.sz:=by rw[aO.C0];omega
  rcases hz1 with rfl|⟨a3,rfl,hz1,hl1⟩
  .simp[e6,e11,aR,-Int.natCast_add];exact fail λo ho=>by simp only[fK,nQ,or_false] at ho;rcases ho with h|h|h|h|h<;>simp[h]
  have hnn3:¬((a3:Int)<0):=by omega
  simp[hnn3,aR,-Int.natCast_add];refine bZ (fA _ _ _) .bool λ_ _=>?_;cases hin1:cT v1.aJ 2 3
  .simp[e6,e11,aR,-Int.natCast_add];exact fail λo ho=>by simp only[fK,nQ,or_false] at ho;rcases ho with h|h|h|h|h<;>simp[h]
  simp[e0,e2,e6,e11,hdw,aR,-Int.natCast_add];refine cV (ih' a3 hl1) λr c5 hc5 ⟨v2,n2,hr,hv2,hz2⟩=>?_;subst hr;refine⟨hY (eL v2) .int,?_⟩;have hst:=stepQ v1 v2 n2 ⟨decide (v1.aJ=3),v1.bN,v1.dN⟩ a3 hs1 hz1 hz2;simp[e11,e12,aR,hg1,hg2,-Int.natCast_add];exact hN _ _ (List.take 7 _) _ hk200 (fN 7 _) ⟨L++[(⟨decide (v1.aJ=3),v1.bN,v1.dN⟩,v2)],_,_,n2,rfl,.inr ⟨_,_,_,_,_,_,_,rfl,by simp,rfl,by simp[iW,bX.enc]⟩,memK (RVn hv1),memV hv2,by simp[hLk],hst,e0,e2,e6,e9,rfl,e11,by simp[aK];exact cD (n:=200) (by unfold mx;omega) hk200⟩
def TT {s:aA} (hs:s.length<=1048576):∀k d:Nat,d+k=201->∀a,a<=s.length->bM aE 136 [.str s,.I a,.I (d:Int)] (uJ s a)
 |0,d,h,a,E=>TU hs E (by omega) λJ=>by omega
 |k+1,d,h,a,E=>TU hs E (by omega) λJ b E=>TT hs k (d+1) (by omega) b E
set_option maxRecDepth 100000
def isVal_gd9 {v:aO} (h:isVal v=true):v.wt<=200/\Gd v:=by unfold isVal at h;simp only[eY,decide_eq_true_eq] at h;exact⟨h.1,(BJ v).1 (pdec_iff.1 h.2)⟩
def gd_vok {m}:∀v:aO,qO m v->Gd v->dU 0 0 0 v:=by
 refine aO.ind (p:=λv=>qO m v->Gd v->dU 0 0 0 v) λk n s x I ih E W=>?_;cases E with
 |mk T J E E Z hl hK hI=>
  refine .mk ⟨T.1,by omega⟩ J ?_ E (λh=>by omega) (λh=>by omega) (λh=>by omega) Z (λe J=>?_) λe J=>?_
  .by_cases E:k=3
   .exact(W.n3 E).2
   .have:=W.s3 E;simp only[aO.dN] at this;rw[this];simp
  .by_cases E:k=4
   .have T:=(W.a3 E e J).1;obtain⟨q1,q2,q3⟩:=hK e J;refine⟨q1,q2,?_⟩;unfold isKey at T;cases hT:e.1.bR
    .rw[hT] at T;simp only[jF,if_false,eY,decide_eq_true_eq] at T;rw[T.1];simp
    .rw[hT] at T;simp only[if_true,eY,decide_eq_true_eq] at T;exact T.1.2
   .rw[Z E] at J;simp at J
  .by_cases E:k=4
   .exact ih e J (hI e J) ((BJ _).1 (W.a4 E e J))
   .rw[Z E] at J;simp at J
def QD (r:AV):Prop:=∃(v:aO) (b:Bool),r=.aX [.agg v.enc,.bool b]/\VM 0 0 0 v
def R1 {s:aA} (hs:s.length<=1048576):bM aE 99 [.str s] QD:=by
 intro E;refine cO F99 ?_;unfold F99;have no:∀{H:aC} {E:Nat},cE (λr J _=>J=[]/\QD r) (.aX [.agg [.I 0,.I 0,.str [],.I 0,.aU],.bool false]) H E:=λ{H E}=>by
  have:cE (λr J _=>J=[]/\QD r) (.aX [.agg (sV 0 0 []).enc,.bool false]) H E:=aS ⟨rfl,_,_,rfl,.sc (by decide) (by decide) (by simp)⟩
  rwa [iB] at this
 simp;refine cV (TT hs 201 0 (by decide) 0 (kH _)) λr E _ ⟨v,E,T,W,J⟩=>?_;subst T;refine⟨hY (eL v) .int,?_⟩;by_cases T:E=(s.length:Int)
 rotate_left
 .simp[T];exact no
 have E:v.sz<=1048576:=by
  rcases J with h|⟨j,J,J,J⟩
  .omega
  .omega
 simp[T];refine cX (C5 E) .bool λE _=>?_;cases hv2:isVal v
 .simp;exact no
 .obtain⟨J,E⟩:=isVal_gd9 hv2;simp;exact aS ⟨rfl,v,true,rfl,⟨gd_vok v W E,J⟩⟩
set_option maxRecDepth 100000
def kd_len {i:Nat} {name} (h:vQ[i]?=some name):nJ i<=(xA i).length:=by
 have E:i<22:=(bQ.1 h).1;have:∀i,i<22->nJ i<=(xA i).length:=by decide
 exact this i E
def u49 (y:UInt8):(y.toNat:Int)=49↔y=49:=by
 constructor
 .intro h;have E:(49:UInt8).toNat=49:=rfl;exact zP.1 (by omega)
 .intro h;subst h;rfl
def u50 (y:UInt8):(y.toNat:Int)=50↔y=50:=by
 constructor
 .intro h;have E:(50:UInt8).toNat=50:=rfl;exact zP.1 (by omega)
 .intro h;subst h;rfl
section
variable {o c g:Nat}
structure Rd21 (i:Nat) (l:List aO) (T:List aA) (Nn:List Int):Prop where
 t3:T.length=3
 n3:Nn.length=3
 t:∀x,x∈T->x.length<=400
 n:∀x,x∈Nn->-1000000001<=x/\x<=1000000001
def rS (u:dM) (c0 J E:Nat) (T:aF aA) (W:aF Int):aC:=
 [⟨false,c0,3,[u.enc]⟩,⟨false,c0+1,5,[[.I 0,.I 0,.str [],.I 0,.aU]]⟩,⟨false,c0+1+1,3,[[.str [],.aU,.aU]]⟩,⟨false,J,1,T.map eK⟩,⟨false,E,1,W.map qL⟩]
set_option maxHeartbeats 4000000 in
def call21_s {name} {l:SL aO} {u:dM} (hl:l.aG.length<=100000) (hv:∀v,v∈l.aG->VM o c g v) (hu:jW u):bM aE 270 [.str name,l.av 5 aO.enc,.agg u.enc] (CF o c g):=by
 intro c0;refine cO F270 ?_;simp[F270];refine cV (aaI (name:=name)) λr c1 _ hr=>?_;obtain⟨ar,rfl,har⟩:∃ar:Int,r=.I ar/\(ar=(l.aG.length:Int)->∃i,vQ[i]?=some name/\nJ i=l.aG.length):=by
  rcases hr with h|⟨i,h1,h2⟩
  .exact⟨_,h,λh=>by omega⟩
  .exact⟨_,h2,λh=>⟨i,h1,by omega⟩⟩
 refine⟨.int,?_⟩;by_cases hq:ar=(l.aG.length:Int)
 rotate_left
 .simp[hq];exact EG hu (by decide) (by decide)
 obtain⟨i,hi,hil⟩:=har hq;have hkl:=kd_len hi;simp[hq];refine cX (kinds_fn hi) .str λc2 _=>?_;simp;refine IU (λe H c'=>∃(T:aF aA) (Nn:aF Int),Rd21 i l.aG T Nn/\(∀(k:Nat) (x:aO),l.aG[k]?=some x->(xA i)[k]?=some 50->x.aJ=4)/\e 0=.str name/\e 1=l.av 5 aO.enc/\e 5=.ptr 0 c0 3 0 0/\e 6=.ptr 1 (c0+1) 5 0 0/\e 7=.ptr 2 (c0+1+1) 3 0 0/\e 9=.ref 3 c1 1 3/\e 10=.ref 4 (c1+1) 1 3/\H=rS u c0 c1 (c1+1) T Nn) ?_ ?_;rotate_left
 .intro K hK;refine b6 l.aG.length (λk e H c'=>∃(T:aF aA) (Nn:aF Int),Rd21 i l.aG T Nn/\(∀(j:Nat) (x:aO),j<k->l.aG[j]?=some x->(xA i)[j]?=some 50->x.aJ=4)/\e 0=.str name/\e 1=l.av 5 aO.enc/\e 5=.ptr 0 c0 3 0 0/\e 6=.ptr 1 (c0+1) 5 0 0/\e 7=.ptr 2 (c0+1+1) 3 0 0/\e 9=.ref 3 c1 1 3/\e 10=.ref 4 (c1+1) 1 3/\e 11=.str (xA i)/\e 12=.I k/\H=rS u c0 c1 (c1+1) T Nn) ?_ ?_
  .exact⟨[[],[],[]],[0,0,0],⟨rfl,rfl,by simp,by simp⟩,λj x h=>by omega,rfl,rfl,rfl,rfl,rfl,rfl,rfl,rfl,rfl,rfl⟩
  intro k e H c3 hk ⟨T,Nn,hR,hK4,e0,e1,e5,e6,e7,e9,e10,e11,e12,hH⟩ N hN;subst hH;by_cases h:k<l.aG.length
  .obtain⟨x,hx⟩:∃x,l.aG[k]?=some x:=⟨_,bC h⟩
   have hxv:=hv x (bA hx);have hlt:(k:Int)<(l.aG.length:Int):=by omega
   have hst:=cD (i:=k) (n:=l.aG.length) (by unfold mx;omega) h;obtain⟨y,hy⟩:∃y,(xA i)[k]?=some y:=⟨_,bC (by omega)⟩
   have hk3:k<3:=by(have:nJ i<=3:=by(unfold nJ;(repeat' split)<;>omega));omega
   simp[e1,e12,hlt,aL hx];refine wF (wG hxv.ok.s hxv.ok.n) λt n c4 _ ht hn0 hn1=>?_;have hkT:k<T.length:=by rw[hR.t3];omega
   have hkN:k<Nn.length:=by rw[hR.n3];omega
   obtain⟨z0,hz0⟩:∃z0,T[k]?=some z0:=⟨_,bC hkT⟩
   obtain⟨n0,hn00⟩:∃n0,Nn[k]?=some n0:=⟨_,bC hkN⟩
   have htx:(T.map eK)[k]?=some (eK z0):=by simp[hz0]
   have hnx:(Nn.map qL)[k]?=some (qL n0):=by simp[hn00]
   have hk3':(k:Int)<3:=by omega
   have go:(y=50->x.aJ=4)->∀{e':Env} {H':aC} {c':Nat} {q:Int},-1000000001<=q->q<=1000000001->e' 0=.str name->e' 1=l.av 5 aO.enc->e' 5=.ptr 0 c0 3 0 0->e' 6=.ptr 1 (c0+1) 5 0 0->e' 7=.ptr 2 (c0+1+1) 3 0 0->e' 9=.ref 3 c1 1 3->e' 10=.ref 4 (c1+1) 1 3->e' 11=.str (xA i)->e' 12=.I ((k+1:Nat):Int)->
     H'=rS u c0 c1 (c1+1) (T.set k t) (Nn.set k q)->N e' H' c':=λhy4 {e' H' c' q} q0 q1 f0 f1 f5 f6 f7 f9 f10 f11 f12 hH'=>by
    refine hN _ _ _ _ h (bY _) ⟨T.set k t,Nn.set k q,⟨by simp[hR.t3],by simp[hR.n3],λz hz=>?_,λz hz=>?_⟩,λj z hj hz h50=>?_,f0,f1,f5,f6,f7,f9,f10,f11,f12,hH'⟩
    .rcases rZ hz with h1|h1
     .exact hR.t z h1
     .exact h1▸ht
    .rcases rZ hz with h1|h1
     .exact hR.n z h1
     .exact h1▸⟨q0,q1⟩
    .by_cases hjk:j=k
     .subst hjk;rw[hx] at hz;cases hz;rw[hy] at h50;cases h50;exact hy4 rfl
     .exact hK4 j z (by omega) hz h50
   have y49:=u49 y;have y50:=u50 y;by_cases h49:y=49
   .subst h49;by_cases hn:n=0
    .simp[e1,e9,e10,e11,e12,aL hx,aL hy,hn,rS,hk3',aL htx,eK,aR];refine cV (GV (by have:=hxv.ok.s;omega) hxv.ok.n) λr c5 _ ⟨q,hr,q0,q1⟩=>?_;subst hr;refine⟨.int,?_⟩;simp[e12,hk3',aL hnx,qL,aR];exact go (λh=>absurd h (by decide)) q0 q1 (e0) (e1) (e5) (e6) (e7) (e9) (e10) (e11) (by simp[aK,hst]) (by simp[rS,eK,qL,lT])
    .simp[e1,e5,e6,e7,e9,e10,e11,e12,aL hx,aL hy,hn,rS];exact EG hu hn0 hn1
   .have h49':¬(y.toNat:Int)=49:=λh=>h49 (y49.1 h);have h49n:¬y.toNat=49:=λh=>h49' (by omega);by_cases h50:y=50
    .subst h50;by_cases h4:x.aJ=4
     .simp[e1,e9,e10,e11,e12,aL hx,aL hy,h4,rS,hk3',aL htx,eK,aR];refine cV (GV (by have:=hxv.ok.s;omega) hxv.ok.n) λr c5 _ ⟨q,hr,q0,q1⟩=>?_;subst hr;refine⟨.int,?_⟩;simp[e12,hk3',aL hnx,qL,aR];exact go (λ_=>h4) q0 q1 (e0) (e1) (e5) (e6) (e7) (e9) (e10) (e11) (by simp[aK,hst]) (by simp[rS,eK,qL,lT])
     .simp[e1,e5,e6,e7,e9,e10,e11,e12,aL hx,aL hy,h4,rS];exact EG hu (by decide) (by decide)
    .have h50':¬(y.toNat:Int)=50:=λh=>h50 (y50.1 h);have h50n:¬y.toNat=50:=λh=>h50' (by omega);simp[e1,e9,e10,e11,e12,aL hx,aL hy,h49',h50',rS,hk3',aL htx,eK,aR];refine cV (GV (by have:=hxv.ok.s;omega) hxv.ok.n) λr c5 _ ⟨q,hr,q0,q1⟩=>?_;subst hr;refine⟨.int,?_⟩;simp[e12,hk3',aL hnx,qL,aR];exact go (λh=>absurd h h50) q0 q1 (e0) (e1) (e5) (e6) (e7) (e9) (e10) (e11) (by simp[aK,hst]) (by simp[rS,eK,qL,lT])
  .have hlt:¬(k:Int)<(l.aG.length:Int):=by omega
   simp[e1,e12,hlt];exact hK _ _ _ ⟨T,Nn,hR,λj x hx=>hK4 j x (by have:=(bQ.1 hx).1;omega) hx,e0,e1,e5,e6,e7,e9,e10,rfl⟩
 intro e H c3 ⟨T,Nn,hR,hK4,e0,e1,e5,e6,e7,e9,e10,hH⟩;subst hH;obtain⟨t0,t1,t2,rfl⟩:=NU hR.t3;obtain⟨n0,n1,n2,rfl⟩:=NU hR.n3;have h0:=hR.t t0 (by simp);have h1:=hR.t t1 (by simp);have h2:=hR.t t2 (by simp);have m0:=hR.n n0 (by simp);have m1:=hR.n n1 (by simp);have m2:=hR.n n2 (by simp);have nv:∀{v:aO} {n:Int} {H:aC} {c':Nat},VM o c g v->0<=n->n<=10->cE (λr H' _=>H'=[]/\CF o c g r) (.aX [.agg v.enc,.agg u.enc,.I n]) H c':=λhv h0 h1=>BN hv hu h0 h1;have sub:∀{k:Nat} {x:aO},l.aG[k]?=some x->VM o c g x:=λh=>hv _ (bA h);generalize hll:l.aG=ll at hil sub hK4;rcases i with _|_|_|_|_|_|_|_|_|_|_|_|_|_|_|_|_|_|_|_|_|_|i
 all_goals simp[vQ] at hi
 all_goals subst hi
 all_goals simp[nJ] at hil
 all_goals simp[e0,e5,e9,e10,rS,eK,qL]
 all_goals repeat' with_reducible apply And.intro
 all_goals first
  |(refine cV (buffer_s (o:=o) (c:=c) (g:=g) hu) λr c4 _ ⟨w,q,k,hr,hw,hq,k0,k1⟩=>?_
    subst hr;refine⟨KF (eL w) (tW q) .int,?_⟩;simp[e6,e7];exact BN hw hq k0 k1)
  |(refine cX (pT _) (eL _) λ_ _=>?_
    simp[e5,e6,e7];exact nv (.sc (by decide) (by omega) (by simp)) (by decide) (by decide))
  |(refine qD (yI (o:=o) (c:=c) (g:=g)) λv n c5 _ k0 k1 hv'=>?_
    simp[e5,e6,e7];exact nv hv' k0 k1)
  |(refine sB (upper_s (by omega)) λt c4 _ ht=>?_
    simp;refine qD (yI (o:=o) (c:=c) (g:=g)) λv n c5 _ k0 k1 hv'=>?_;simp[e5,e6,e7];exact nv hv' k0 k1)
  |(refine qD (repeat_s (o:=o) (c:=c) (g:=g) (by omega) (by omega)) λv n c5 _ k0 k1 hv'=>?_
    simp[e5,e6,e7];exact nv hv' k0 k1)
  |(refine qD (range_s (o:=o) (c:=c) (g:=g) (by omega) (by omega)) λv n c5 _ k0 k1 hv'=>?_
    simp[e5,e6,e7];exact nv hv' k0 k1)
  |(refine sB (X7 _ (by omega)) λt c4 _ ht=>?_
    simp;refine qD (yI (o:=o) (c:=c) (g:=g)) λv n c5 _ k0 k1 hv'=>?_;simp[e5,e6,e7];exact nv hv' k0 k1)
  |(obtain⟨x,rfl⟩:=vG hil.symm
    have hx:VM o c g x:=sub (k:=0) rfl;have hx4:=hK4 0 x rfl rfl;simp[e1,hll];refine nT (by rw[<-iB 0 0 []];exact aaG (o:=o) (c:=c) (g:=g) (v:=sV 0 0 []) (VM.sc (by decide) (by decide) (by simp)) hx hx4) λv c5 _ hv'=>?_;simp[e1,e5,e6,e7];exact nv hv' (by decide) (by decide))
  |(obtain⟨x,rfl⟩:=vG hil.symm
    have hx:VM o c g x:=sub (k:=0) rfl;simp[e1,hll];refine sB (kindName_s _) λt c4 _ ht=>?_;simp[e1];refine cX (nU _) (eL _) λ_ _=>?_;simp[e1,e5,e6,e7];exact nv (.sc (by decide) (by decide) (by omega)) (by decide) (by decide))
  |(obtain⟨x,rfl⟩:=vG hil.symm
    have hx:VM o c g x:=sub (k:=0) rfl;simp[e1,hll];refine cV (TD hx) λr c4 _ ⟨t,b,hr,ht⟩=>?_;subst hr;refine⟨hY .str .bool,?_⟩;cases b
    .simp[e1,e5,e6,e7];exact EG hu (by decide) (by decide)
    .simp[e1];refine qD (yI (o:=o) (c:=c) (g:=g)) λv n c5 _ k0 k1 hv'=>?_;simp[e5,e6,e7];exact nv hv' k0 k1)
  |(refine cV (R1 (by omega)) λr c4 _ ⟨v,b,hr,hv'⟩=>?_
    subst hr;refine⟨hY (eL v) .bool,?_⟩;cases b
    .simp;refine cX (oL _) (eL _) λ_ _=>?_;simp[e5,e6,e7];exact nv (.sc (by decide) (by decide) (by simp)) (by decide) (by decide)
    .simp[e5,e6,e7];exact nv (hv'.mono (kH _) (kH _) (kH _)) (by decide) (by decide))
  |(obtain⟨x,y,rfl⟩:=DV hil.symm
    have hx:VM o c g x:=sub (k:=0) rfl;have hy:VM o c g y:=sub (k:=1) rfl;have hy4:=hK4 1 y rfl rfl;simp[e1,hll];refine nT (aaG hx hy hy4) λv c5 _ hv'=>?_;simp[e1,e5,e6,e7];exact nv hv' (by decide) (by decide))
  |(obtain⟨x,y,rfl⟩:=DV hil.symm
    have hx:VM o c g x:=sub (k:=0) rfl;have hy:VM o c g y:=sub (k:=1) rfl;simp[e1,hll]
    repeat' with_reducible apply And.intro
    all_goals
     refine qD (implode_s (by omega) hy) λv n c5 _ k0 k1 hv'=>?_;simp[e5,e6,e7];exact nv hv' k0 k1)
  |(refine sB (substr_s (by omega) (by omega) (by omega)) λt c4 _ ht=>?_
    simp;refine qD (yI (o:=o) (c:=c) (g:=g)) λv n c5 _ k0 k1 hv'=>?_;simp[e5,e6,e7];exact nv hv' k0 k1)
  |(refine oun_c (header_s (n:=t0) (v:=t1) hu (by unfold mx;omega) (by unfold mx;omega)) λw n c4 _ hw k0 k1=>?_
    simp;refine cX (oL _) (eL _) λ_ _=>?_;simp[e6,e7];exact BN (.sc (by decide) (by split<;>decide) (by simp)) hw (by decide) (by decide))
end
end A
end Go.Proofs.YtbdgahjfipdeoaaGreatDoor
