import Derived.Lib.AtoiAllCases
import Derived.Lib.ItoaMem
import Derived.Below
import Derived.Test.YtbdgahjfipdeoaaGreatDoorB08
/- FnResponses: a part of its proof. No condition. -/
set_option linter.all false
set_option maxRecDepth 100000
namespace Go.Proofs.YtbdgahjfipdeoaaGreatDoor
namespace A
set_option maxRecDepth 100000
def cT (x E J:Int):Bool:=decide (E<=x)&&decide (x<=J)
def fA (x E J:Int):dA aE 37 [.I x,.I E,.I J] (.bool (cT x E J)):=by refine fO F37 λc=>?_;unfold F37 cT;by_cases J:E<=x<;>simp[J]<;>exact aS ⟨rfl,rfl⟩
def inRange_fn (x E J:Int):dA aE 51 [.I x,.I E,.I J] (.bool (cT x E J)):=by refine fO F51 λc=>?_;unfold F51 cT;by_cases J:E<=x<;>simp[J]<;>exact aS ⟨rfl,rfl⟩
def mN {x E J:Int} (h:cT x E J=true):E<=x/\x<=J:=by simpa[cT] using h
def FA {α:Type} {p:α->Bool} {l:aF α} {i:Nat} (h:(l.take i).all p=true) (J:i<l.length) (E:p l[i]=true):(l.take (i+1)).all p=true:=by rw[nO J,GF,h];simp[E]
set_option maxRecDepth 100000
def rL (n:Int):aF AV:=[.int .u8 n]
def av_code (s:SL Int):Av [] (s.av 1 rL):=by
 cases s with
 |nil=>exact .aU
 |mk t l=>
  exact .dX (by simp) λr j x a E J=>by
   obtain⟨n,_,rfl⟩:=fZ.1 (bA E);have:=bA J;simp[rL] at this;subst this;exact .int
def cur (t:Nat) (s:SL Int) (i:Nat) (h:Int):aH:=⟨false,t,3,[[s.av 1 rL,.I i,.I h]]⟩
def vO t (s:SL Int) i (h:Int):iX [] (cur t s i h):=E8 λaM E a J=>by
 simp[cur] at E;subst E;simp at J;rcases J with rfl|rfl|rfl
 .exact av_code s
 .exact .int
 .exact .int
def FH (t:Nat) (s:SL Int) (E:Int) (r:AV) (O:aC):Prop:=∃(x:Int) (i:Nat) (h:Int),r=.I x/\0<=x/\x<=E/\i<=s.aG.length/\O=[cur t s i h]
def KH (a b:Int):Int:=IntKind.i64.wrap ((BitVec.ofInt 64 a &&& BitVec.ofInt 64 b).toNat:Int)
def xorI (a b:Int):Int:=IntKind.i64.wrap ((BitVec.ofInt 64 a ^^^ BitVec.ofInt 64 b).toNat:Int)
def shrI (a b:Int):Int:=a.fdiv (2^(min b.toNat 64))
def OB (a b:Int) (K:AV->Prop):lJ .and .i64 a b K=K (.I (KH a b)):=rfl
def intW_xor (a b:Int) (K:AV->Prop):lJ .xor .i64 a b K=K (.I (xorI a b)):=rfl
def binW_shr (a b:Int) (K:AV->Prop):sT .shr (.I a) (.int .u64 b) K=(0<=b/\K (.I (shrI a b))):=rfl
def IY (a:Int):0<=KH a 255/\KH a 255<=255:=by
 have h:(BitVec.ofInt 64 a &&& BitVec.ofInt 64 255).toNat<=255:=by
  rw[BitVec.toNat_and];exact cL Nat.and_le_right (by decide)
 unfold KH;rw[wrap64 (by omega) (by omega)];omega
def IZ {t i} {h:Int} {s:SL Int} (Z:i<=s.aG.length) (E:s.aG.length<=1048576) c:cA aE 49 [.ptr 0 t 3 0 0] [cur t s i h] c λr O _=>FH t s 255 r O:=by
 refine cO F49 ?_;simp[F49,cur,aR,OB,intW_xor,binW_shr];generalize IntKind.i64.wrap (IntKind.i64.wrap (h*6364136223846793005)+1442695040888963407)=W;refine⟨λE=>?_,λJ=>?_⟩
 .have T:s.aG[i]?=some s.aG[i]:=bC E;generalize s.aG[i]=b at T;have J:IntKind.i64.wrap ((i:Int)+1)=((i+1:Nat):Int):=by rw[wrap64 (by omega) (by omega)];omega
  refine⟨b,T,?_⟩;simp[aR,OB,rL,E];refine dD ⟨_,i+1,W,rfl,(IY _).1,(IY _).2,by omega,?_⟩;rw[cur,J]
 .exact dD ⟨_,i,W,rfl,(IY _).1,(IY _).2,Z,rfl⟩
def rE {t} {s} {E:Int} {r} {O} (h:FH t s E r O):Av [] r/\∀o,o∈O->iX [] o:=by obtain⟨x,i,h,rfl,_,_,_,rfl⟩:=h;exact⟨.int,λo E=>by simp at E;subst E;exact vO t s i h⟩
def sL {t i} {h n:Int} {s:SL Int} (hi:i<=s.aG.length) (hn:s.aG.length<=1048576) (E:n<=1000000000000) c:
  cA aE 25 [.ptr 0 t 3 0 0,.I n] [cur t s i h] c λr O _=>FH t s (if n<=0 then 0 else n-1) r O:=by
 refine cO F25 ?_;unfold F25;have E:0<n->∀x:Int,0<=x->0<=x.tmod n/\x.tmod n<=n-1:=λZ x J=>by
  have h1:=Int.tmod_nonneg n J;have J:=Int.tmod_lt_of_pos x Z;omega
 by_cases Z:n<=0
 .simp[Z];exact dD ⟨0,i,h,rfl,by omega,by simp,hi,rfl⟩
 have J:0<n:=by omega
 have T:n≠0:=by omega
 by_cases h1:n<=256
 .simp[Z,h1];refine zB (IZ hi hn _) λr O c1 _ q _ _=>⟨(rE q).1,(rE q).2,?_⟩
  obtain⟨x,i1,W,rfl,x0,x1,k1,rfl⟩:=q;simp[T];exact dD ⟨_,i1,W,rfl,(E J x x0).1,(E J x x0).2,k1,rfl⟩
 .simp[Z,h1];refine zB (IZ hi hn _) λr O c1 _ q _ _=>⟨(rE q).1,(rE q).2,?_⟩
  obtain⟨x,i1,W,rfl,x0,x1,k1,rfl⟩:=q;simp;refine zB (IZ k1 hn _) λr O c1 _ q _ _=>⟨(rE q).1,(rE q).2,?_⟩
  obtain⟨y,W,W,rfl,W,W,W,rfl⟩:=q;simp;refine zB (IZ W hn _) λr O c1 _ q _ _=>⟨(rE q).1,(rE q).2,?_⟩
  obtain⟨z,i3,W,rfl,Z,Z,k3,rfl⟩:=q;have w1:IntKind.i64.wrap (x*65536)=x*65536:=wrap64 (by omega) (by omega);have w2:IntKind.i64.wrap (y*256)=y*256:=wrap64 (by omega) (by omega);have w3:IntKind.i64.wrap (x*65536+y*256)=x*65536+y*256:=wrap64 (by omega) (by omega);have Z:IntKind.i64.wrap (x*65536+y*256+z)=x*65536+y*256+z:=wrap64 (by omega) (by omega);simp[T,w1,w2,w3,Z];exact dD ⟨_,i3,W,rfl,(E J _ (by omega)).1,(E J _ (by omega)).2,k3,rfl⟩
def QS (t:Nat) (s:SL Int) (r:AV) (O:aC):Prop:=∃(b:Bool) (i:Nat) (h:Int),r=.bool b/\i<=s.aG.length/\O=[cur t s i h]
def Z1 {t} {s} {r} {O} (h:QS t s r O):Av [] r/\∀o,o∈O->iX [] o:=by obtain⟨x,i,h,rfl,_,rfl⟩:=h;exact⟨.bool,λo E=>by simp at E;subst E;exact vO t s i h⟩
def l1Once_con {t i} {h n:Int} {s:SL Int} (T:i<=s.aG.length) (J:s.aG.length<=1048576) (E:n<=1000000000000) c:
  cA aE 46 [.ptr 0 t 3 0 0,.I n] [cur t s i h] c λr O _=>QS t s r O:=by
 refine cO F46 ?_;simp[F46];refine zB (sL T J E _) λr O E _ q _ _=>⟨(rE q).1,(rE q).2,?_⟩
 obtain⟨x,T,E,rfl,J,J,J,rfl⟩:=q;by_cases W:x=0<;>simp[W]
 .exact dD ⟨true,T,E,rfl,J,rfl⟩
 .exact dD ⟨false,T,E,rfl,J,rfl⟩
def J7 {P} {f} {l} {t i} {h:Int} {s} {C} {c} {Q:aD} {K:aD} (T:cA P f l [cur t s i h] c Q)
  (k:∀r E J,c<=J->Q r E J->aV E=[t]/\Av [] r/\(∀o,o∈E->iX [] o)/\K r (E++C) J):bO P f l (cur t s i h::C) c K:=
 PY (A:=[]) (B:=[cur t s i h]) (C:=C) T (fG.refl _ _) k
def numQ_tags {t} {s} {E:Int} {r} {O} (h:FH t s E r O):aV O=[t]:=by obtain⟨x,i,h,rfl,_,_,_,rfl⟩:=h;rfl
def uC {P} {f} {l} {t i} {h W:Int} {s:SL Int} {C} {c} {K:aD} (Z:cA P f l [cur t s i h] c λr O _=>FH t s W r O)
  (k:∀(x:Int) (E:Nat) (T:Int) (J:Nat),c<=J->0<=x->x<=W->E<=s.aG.length->K (.I x) (cur t s E T::C) J):bO P f l (cur t s i h::C) c K:=
 J7 Z λr W J hc q=>⟨numQ_tags q,(rE q).1,(rE q).2,by
  obtain⟨x,E,T,rfl,Z,W,k1,rfl⟩:=q;exact k x E T J hc Z W k1⟩
def call_bool {P} {f} {l} {t i} {h:Int} {s:SL Int} {C} {c} {K:aD} (W:cA P f l [cur t s i h] c λr O _=>QS t s r O)
  (k:∀(b:Bool) (E:Nat) (T:Int) (J:Nat),c<=J->E<=s.aG.length->K (.bool b) (cur t s E T::C) J):bO P f l (cur t s i h::C) c K:=
 J7 W λr W J Z q=>⟨by obtain⟨x,i,h,rfl,_,rfl⟩:=q;rfl,(Z1 q).1,(Z1 q).2,by
  obtain⟨x,E,T,rfl,W,rfl⟩:=q;exact k x E T J Z W⟩
def OneQ {α:Type} (t:Nat) (s:SL Int) (v:α->AV) (l:aF α) (o:aH) (r:AV) (O:aC):Prop:=∃(x:α) (i:Nat) (h:Int),r=v x/\x∈l/\i<=s.aG.length/\O=[cur t s i h,o]
def l1Int_con {t tl i} {h:Int} {s:SL Int} {l:aF Int} (J:i<=s.aG.length) (E:s.aG.length<=1048576) (T:0<l.length) (T:l.length<=256) c:
  cA aE 26 [.ptr 0 t 3 0 0,.ref 1 tl 1 l.length] [cur t s i h,⟨false,tl,1,l.map qL⟩] c λr O _=>OneQ t s (AV.int .i64) l ⟨false,tl,1,l.map qL⟩ r O:=by
 refine cO F26 ?_;simp[F26];refine uC (sL J E (by omega) _) λx Z h' E _ J E W=>?_;rw[if_neg (by omega)] at E;obtain⟨k,rfl⟩:=iY J;have E:k<l.length:=by omega
 have T:l[k]?=some l[k]:=bC E;have J:=oR E;generalize l[k]=y at T J;simp[E];refine⟨y,T,?_⟩;simp[qL];exact dD ⟨y,Z,h',rfl,J,W,rfl⟩
def V4 {t tl i} {h:Int} {s:SL Int} {l:aF aA} (J:i<=s.aG.length) (E:s.aG.length<=1048576) (T:0<l.length) (T:l.length<=256) c:
  cA aE 45 [.ptr 0 t 3 0 0,.ref 1 tl 1 l.length] [cur t s i h,⟨false,tl,1,l.map λx=>[AV.str x]⟩] c λr O _=>OneQ t s AV.str l ⟨false,tl,1,l.map λx=>[AV.str x]⟩ r O:=by
 refine cO F45 ?_;simp[F45];refine uC (sL J E (by omega) _) λx Z h' E _ J E W=>?_;rw[if_neg (by omega)] at E;obtain⟨k,rfl⟩:=iY J;have E:k<l.length:=by omega
 have T:l[k]?=some l[k]:=bC E;have J:=oR E;generalize l[k]=y at T J;simp[E];refine⟨y,T,?_⟩;simp;exact dD ⟨y,Z,h',rfl,J,W,rfl⟩
set_option maxRecDepth 100000
def Z9 tl (l:aF aA):iX [] ⟨false,tl,1,l.map λx=>[AV.str x]⟩:=E8 λaM J a E=>by
 obtain⟨x,_,rfl⟩:=fZ.1 J;simp at E;subst E;exact .str
def PX {t tl i} {h:Int} {s:SL Int} (l:aF aA) {c} {K:aD} (Z:i<=s.aG.length) (W:s.aG.length<=1048576) (h0:0<l.length) (h1:l.length<=256)
  (k:∀(x:aA) (E:Nat) (J:Int) (T:Nat),c<=T->x∈l->E<=s.aG.length->K (.str x) [cur t s E J,⟨false,tl,1,l.map λx=>[AV.str x]⟩] T):
  bO aE 45 [.ptr 0 t 3 0 0,.ref 1 tl 1 l.length] [cur t s i h,⟨false,tl,1,l.map λx=>[AV.str x]⟩] c K:=
 zB (V4 Z W h0 h1 c) λr O T hc q _ _=>by
  obtain⟨x,E,J,rfl,hx,Z,rfl⟩:=q;exact⟨.str,λo W=>by
   simp at W;rcases W with rfl|rfl
   .exact vO t s E J
   .exact Z9 tl l,k x E J T hc hx Z⟩
def NewQc (s:SL Int) (r:AV) (O:aC):Prop:=∃(t:Nat) (h:Int),r=.ptr 0 t 3 0 0/\O=[cur t s 0 h]
def l1New_con {s:SL Int} (E:s.aG.length<=1048576) c:cA aE 11 [s.av 1 rL] [] c λr O _=>NewQc s r O:=by
 refine cO F11 ?_;simp[F11];refine b6 s.aG.length (λi e H E=>e 0=s.av 1 rL/\e 4=.I i/\(∃h:Int,e 3=.I h)/\H=[]) ⟨rfl,rfl,⟨_,rfl⟩,rfl⟩ ?_;intro i e H E E ⟨T,J,⟨h,W⟩,E⟩ N hN;subst E;by_cases E:i<s.aG.length
 .have Z:s.aG[i]?=some s.aG[i]:=bC E;generalize s.aG[i]=b at Z;by_cases h4:(i:Int)<4000
  .simp[T,W,J,E,h4];refine⟨b,Z,?_⟩;simp[J,rL,OB];exact hN _ _ _ _ E (eX _) ⟨T,by simp[aK];exact cD (by unfold mx;omega) E,⟨_,by simp[aK];rfl⟩,rfl⟩
  .simp[T,W,J,E,h4,aR];exact dD ⟨_,h,rfl,rfl⟩
 .simp[T,W,J,E,aR];exact dD ⟨_,h,rfl,rfl⟩
structure cS where
 Path:aA
 Source:aA
 Version:Int
def cS.enc (s:cS):aF AV:=[.str s.Path,.str s.Source,.I s.Version]
@[simp] theorem cS.g0 (s:cS) (K:AV->Prop):aZ s.enc 0 K=K (.str s.Path):=by simp[cS.enc]
@[simp] theorem cS.g1 (s:cS) (K:AV->Prop):aZ s.enc 1 K=K (.str s.Source):=by simp[cS.enc]
@[simp] theorem cS.g2 (s:cS) (K:AV->Prop):aZ s.enc 2 K=K (.I s.Version):=by simp[cS.enc]
def cS.cells (s:cS):∀a,a∈s.enc->a.cell=true:=by simp[cS.enc]
def cS.ok (s:cS):Prop:=s.Path.length<=mx/\s.Source.length<=mx
def A1 (s:SL cS):Prop:=s.aG.length<=mx/\∀x,x∈s.aG->cS.ok x
structure fW where
 Name:aA
 Value:aA
def fW.enc (s:fW):aF AV:=[.str s.Name,.str s.Value]
@[simp] theorem fW.g0 (s:fW) (K:AV->Prop):aZ s.enc 0 K=K (.str s.Name):=by simp[fW.enc]
@[simp] theorem fW.g1 (s:fW) (K:AV->Prop):aZ s.enc 1 K=K (.str s.Value):=by simp[fW.enc]
structure bK where
 Name:aA
 Value:aA
def bK.enc (s:bK):aF AV:=[.str s.Name,.str s.Value]
@[simp] theorem bK.len (s:bK):s.enc.length=2:=(rfl)
@[simp] theorem bK.all (s:bK):s.enc.take 2=s.enc:=(rfl)
@[simp] theorem bK.g0 (s:bK) (K:AV->Prop):aZ s.enc 0 K=K (.str s.Name):=by simp[bK.enc]
@[simp] theorem bK.g1 (s:bK) (K:AV->Prop):aZ s.enc 1 K=K (.str s.Value):=by simp[bK.enc]
def bK.cells (s:bK):∀a,a∈s.enc->a.cell=true:=by simp[bK.enc]
def bK.sz (s:bK):Nat:=s.Name.length+s.Value.length
def bK.ok (s:bK):Prop:=s.Name.length<=mx/\s.Value.length<=mx
def bK.jE (s:bK):bK:=s
def yJ (s:SL bK):Nat:=s.aG.length+bE bK.sz s.aG
def DL (s:SL bK):Prop:=s.aG.length<=mx/\∀x,x∈s.aG->bK.ok x
structure eI where
 Filter:Int
 bR:aA
def eI.enc (s:eI):aF AV:=[.I s.Filter,.str s.bR]
@[simp] theorem eI.len (s:eI):s.enc.length=2:=(rfl)
@[simp] theorem eI.all (s:eI):s.enc.take 2=s.enc:=(rfl)
@[simp] theorem eI.g0 (s:eI) (K:AV->Prop):aZ s.enc 0 K=K (.I s.Filter):=by simp[eI.enc]
@[simp] theorem eI.g1 (s:eI) (K:AV->Prop):aZ s.enc 1 K=K (.str s.bR):=by simp[eI.enc]
def eI.cells (s:eI):∀a,a∈s.enc->a.cell=true:=by simp[eI.enc]
structure dB where
 aJ:Int
 bN:Int
 bR:aA
 At:Int
def dB.enc (s:dB):aF AV:=[.I s.aJ,.I s.bN,.str s.bR,.I s.At]
@[simp] theorem dB.len (s:dB):s.enc.length=4:=(rfl)
@[simp] theorem dB.all (s:dB):s.enc.take 4=s.enc:=(rfl)
@[simp] theorem dB.g0 (s:dB) (K:AV->Prop):aZ s.enc 0 K=K (.I s.aJ):=by simp[dB.enc]
@[simp] theorem dB.g1 (s:dB) (K:AV->Prop):aZ s.enc 1 K=K (.I s.bN):=by simp[dB.enc]
@[simp] theorem dB.g2 (s:dB) (K:AV->Prop):aZ s.enc 2 K=K (.str s.bR):=by simp[dB.enc]
@[simp] theorem dB.g3 (s:dB) (K:AV->Prop):aZ s.enc 3 K=K (.I s.At):=by simp[dB.enc]
def dB.cells (s:dB):∀a,a∈s.enc->a.cell=true:=by simp[dB.enc]
structure dJ where
 Name:aA
 lQ:aA
 fX:aA
 pI:Bool
 Static:Bool
def dJ.enc (s:dJ):aF AV:=[.str s.Name,.str s.lQ,.str s.fX,.bool s.pI,.bool s.Static]
@[simp] theorem dJ.len (s:dJ):s.enc.length=5:=(rfl)
@[simp] theorem dJ.all (s:dJ):s.enc.take 5=s.enc:=(rfl)
@[simp] theorem dJ.g0 (s:dJ) (K:AV->Prop):aZ s.enc 0 K=K (.str s.Name):=by simp[dJ.enc]
@[simp] theorem dJ.g1 (s:dJ) (K:AV->Prop):aZ s.enc 1 K=K (.str s.lQ):=by simp[dJ.enc]
@[simp] theorem dJ.g3 (s:dJ) (K:AV->Prop):aZ s.enc 3 K=K (.bool s.pI):=by simp[dJ.enc]
@[simp] theorem dJ.g4 (s:dJ) (K:AV->Prop):aZ s.enc 4 K=K (.bool s.Static):=by simp[dJ.enc]
def dJ.cells (s:dJ):∀a,a∈s.enc->a.cell=true:=by simp[dJ.enc]
structure eW where
 Path:aA
 Query:SL fW
 CO:SL fW
def eW.enc (s:eW):aF AV:=[.str s.Path,s.Query.av 2 fW.enc,s.CO.av 2 fW.enc]
@[simp] theorem eW.len (s:eW):s.enc.length=3:=(rfl)
@[simp] theorem eW.all (s:eW):s.enc.take 3=s.enc:=(rfl)
@[simp] theorem eW.g0 (s:eW) (K:AV->Prop):aZ s.enc 0 K=K (.str s.Path):=by simp[eW.enc]
@[simp] theorem eW.g1 (s:eW) (K:AV->Prop):aZ s.enc 1 K=K (s.Query.av 2 fW.enc):=by simp[eW.enc]
@[simp] theorem eW.g2 (s:eW) (K:AV->Prop):aZ s.enc 2 K=K (s.CO.av 2 fW.enc):=by simp[eW.enc]
def eW.cells (s:eW):∀a,a∈s.enc->a.cell=true:=by simp[eW.enc]
structure eG where
 Code:Int
 cK:SL bK
 dE:aA
def eG.enc (s:eG):aF AV:=[.I s.Code,s.cK.av 2 bK.enc,.str s.dE]
@[simp] theorem eG.len (s:eG):s.enc.length=3:=(rfl)
@[simp] theorem eG.all (s:eG):s.enc.take 3=s.enc:=(rfl)
@[simp] theorem eG.g0 (s:eG) (K:AV->Prop):aZ s.enc 0 K=K (.I s.Code):=by simp[eG.enc]
@[simp] theorem eG.g1 (s:eG) (K:AV->Prop):aZ s.enc 1 K=K (s.cK.av 2 bK.enc):=by simp[eG.enc]
@[simp] theorem eG.g2 (s:eG) (K:AV->Prop):aZ s.enc 2 K=K (.str s.dE):=by simp[eG.enc]
def eG.cells (s:eG):∀a,a∈s.enc->a.cell=true:=by simp[eG.enc]
def eG.sz (s:eG):Nat:=(yJ s.cK)+s.dE.length
def eG.ok (s:eG):Prop:=DL s.cK/\s.dE.length<=mx
def eG.jE (s:eG):eG:={s with cK:=s.cK.jE bK.jE}
structure dM where
 mT:aA
 cK:SL bK
 cI:SL eI
def dM.enc (s:dM):aF AV:=[.str s.mT,s.cK.av 2 bK.enc,s.cI.av 2 eI.enc]
@[simp] theorem dM.len (s:dM):s.enc.length=3:=(rfl)
@[simp] theorem dM.all (s:dM):s.enc.take 3=s.enc:=(rfl)
@[simp] theorem dM.g0 (s:dM) (K:AV->Prop):aZ s.enc 0 K=K (.str s.mT):=by simp[dM.enc]
@[simp] theorem dM.g1 (s:dM) (K:AV->Prop):aZ s.enc 1 K=K (s.cK.av 2 bK.enc):=by simp[dM.enc]
@[simp] theorem dM.g2 (s:dM) (K:AV->Prop):aZ s.enc 2 K=K (s.cI.av 2 eI.enc):=by simp[dM.enc]
def dM.cells (s:dM):∀a,a∈s.enc->a.cell=true:=by simp[dM.enc]
set_option maxRecDepth 100000
def fW.flat:Flat fW.enc:=λx a ha=>by
 simp[fW.enc] at ha;rcases ha with rfl|rfl<;>exact⟨rfl,λT=>by constructor⟩
def eW.iF (s:eW):aF AV:=[.str s.Path,s.Query.ref 2,s.CO.ref 2]
def eW.iV (s:eW):aC:=s.Query.mV 2 fW.enc tM++(s.CO.mV 2 fW.enc tM)
def eW.freeO:∀(x:eW) a,a∈x.iF->p9 a:=λx a E=>by
 simp[eW.iF] at E;rcases E with rfl|rfl|rfl
 .exact BK _
 .exact XH _ _
 .exact XH _ _
def eW.freeI:∀(x:eW) o,o∈x.iV->∀T,iX T o:=λx o E=>by
 simp only[eW.iV,dI] at E;rcases E with E|E
 .exact XS fW.flat _ _ o E
 .exact XS fW.flat _ _ o E
def eW.viewO {S} (x:eW) (h:∀o,o∈x.iV->o∈S):∀(j:Nat) (a E:AV),x.iF[j]?=some a->x.enc[j]?=some E->View S a E:=λj a E E J=>by
 match j,E,J with
 |0,E,J=>simp[eW.iF] at E;simp[eW.enc] at J;subst E;subst J;exact .refl _
 |1,E,J=>simp[eW.iF] at E;simp[eW.enc] at J;subst E;subst J;exact GN (λo T=>h o (by simp[eW.iV,T])) fW.flat.cells
 |2,E,J=>simp[eW.iF] at E;simp[eW.enc] at J;subst E;subst J;exact GN (λo T=>h o (by simp[eW.iV,T])) fW.flat.cells
 |j+3,E,J=>simp[eW.iF] at E
def view_ARequest {S} {s:eW} (hs:∀o,o∈s.iV->o∈S):View S (.agg s.iF) (.agg s.enc):=
 .agg rfl (λj a E=>eW.cells s a (bA E)) (eW.viewO s hs)
set_option maxRecDepth 100000
def QF (t:Nat) (s:SL Int) (r:AV) (O:aC):Prop:=∃(x:aA) (i:Nat) (h:Int),r=.str x/\x.length<=64/\i<=s.aG.length/\O=[cur t s i h]
def PU {P} {f} {l} {t i} {h:Int} {s:SL Int} {C} {c} {K:aD} (W:cA P f l [cur t s i h] c λr O _=>QF t s r O)
  (k:∀(x:aA) (E:Nat) (T:Int) (J:Nat),c<=J->x.length<=64->E<=s.aG.length->K (.str x) (cur t s E T::C) J):bO P f l (cur t s i h::C) c K:=
 J7 W λr W J hc q=>⟨by obtain⟨x,i,h,rfl,_,_,rfl⟩:=q;rfl,by obtain⟨x,i,h,rfl,_,_,rfl⟩:=q;exact .str,by
  obtain⟨x,i,h,rfl,_,_,rfl⟩:=q;intro o W;simp at W;subst W;exact vO t s i h,by
  obtain⟨x,E,T,rfl,W,Z,rfl⟩:=q;exact k x E T J hc W Z⟩
def PW {t tl i} {h:Int} {s:SL Int} (l:aF aA) {W} {c} {K:aD} (hi:i<=s.aG.length) (hn:s.aG.length<=1048576) (h0:0<l.length) (h1:l.length<=256)
  (k:∀(x:aA) (E:Nat) (T:Int) (Z:Nat),c<=Z->x∈l->E<=s.aG.length->K (.str x) [cur t s E T,W,⟨false,tl,1,l.map λx=>[AV.str x]⟩] Z):
  bO aE 45 [.ptr 0 t 3 0 0,.ref 2 tl 1 l.length] [cur t s i h,W,⟨false,tl,1,l.map λx=>[AV.str x]⟩] c K:=by
 intro J hlt;have hv:fG [] [AV.ptr 0 t 3 0 0,.ref 2 tl 1 l.length] [.ptr 0 t 3 0 0,.ref 1 tl 1 l.length]:=.cons (.refl _) (.cons .name .nil);obtain⟨e1,e2⟩:=hv.spec;have hd:=J;simp only[aV,gJ,xY,qA,fK,nQ,or_false,not_or,List.nodup_nil,and_true] at hd;obtain⟨⟨d1,d2⟩,d3,_⟩:=hd;refine⟨[cur t s i h,⟨false,tl,1,l.map λx=>[AV.str x]⟩],[],_,_,.cons_cons _ (.cons _ (.cons_cons _ .slnil)),by simp,by simp[aV],e1,e2,V4 hi hn h0 h1 c,λr O Z hc q _ _=>?_⟩;obtain⟨x,E,T,rfl,hx,k1,rfl⟩:=q;refine⟨[cur t s E T,W,⟨false,tl,1,l.map λx=>[AV.str x]⟩],_,λo W=>?_,J,.refl _,.str,λo W J=>?_,k x E T Z hc hx k1⟩
 .simp only[fK,nQ,or_false] at W;rcases W with rfl|rfl|rfl
  .exact .inl (by simp)
  .refine .inr ⟨by simp,?_⟩;simp only[aV,gJ,xY,fK,nQ,or_false,not_or];exact⟨λe=>d1 e.symm,d3⟩
  .exact .inl (by simp)
 .simp at J;rcases J with rfl|rfl
  .exact vO t s E T
  .exact Z9 tl l
def J6 {P} {f} {l} {t i} {h:Int} {s} {C} {c} {Q:aD} {K:aD} (hf:cA P f l [cur t s i h] c Q)
  (k:∀r O T,c<=T->Q r O T->∃(Z:Nat) (J:Int) (E:aC) (W:AV),O=cur t s Z J::E/\View [] r W/\Av [] W/\(∀o,o∈E->iX [] o)/\K W (cur t s Z J::(C++E)) T):bO P f l (cur t s i h::C) c K:=by
 intro hnd hlt;obtain⟨e1,e2⟩:=(fG.refl [] l).spec;have hd:t∉aV C/\(aV C).Nodup:=by
  have:=qA.1 (show(t::aV C).Nodup from hnd);exact this
 refine⟨[cur t s i h],[],l,Q,.cons_cons _ (eX _),by simp,by simp[aV],e1,e2,hf,λr O T hc q ho hO=>?_⟩;obtain⟨Z,J,E,W,rfl,k1,k2,k3,k4⟩:=k r O T hc q;have T:t∉aV E/\(aV E).Nodup:=qA.1 (show(t::aV E).Nodup from hO);have hnew:∀u,u∈aV E->c<=u:=λu hu=>by
  rcases iA u c with h1|h1
  .have h2:=ho u h1 (iI _ hu);have h3:u=t:=by simpa[aV,cur] using h2
   exact absurd (h3▸hu) T.1
  .exact h1
 refine⟨cur t s Z J::(C++E),W,λo h=>?_,?_,k1,k2,λo h J=>?_,k4⟩
 .rcases fK.1 h with rfl|h
  .exact .inl (by simp)
  .rcases dI.1 h with h|h
   .refine .inr ⟨iI _ h,λW=>?_⟩;have h3:o.tag=t:=by simpa[aV,cur] using W
    exact hd.1 (h3▸iJ h)
   .exact .inl (iI _ h)
 .have e:aV (cur t s Z J::(C++E))=t::(aV C++aV E):=by simp[aV,cur]
  rw[e];refine qA.2 ⟨λW=>?_,mI.2 ⟨hd.2,T.2,λu hu v E e=>?_⟩⟩
  .rcases dI.1 W with h|h
   .exact hd.1 h
   .exact T.1 h
  .subst e;exact absurd (hlt u (iI _ hu)) (zQ.2 (hnew u E))
 .rcases fK.1 J with rfl|J
  .exact vO t s _ _
  .exact k3 o J
def paths:aF aA:=[[109,97,105,110],[108,105,98,47,97],[46,47,109,97,105,110],[108,105,98,47,46,46,47,109,97,105,110],[46,46,47,109,97,105,110],[47,109,97,105,110],[108,105,98,47,47,98],[97,32,98],[],[46],[46,46],[108,105,98,47,97,47],[120],[97,47,46,46,47,46,46,47,98],[97,98,99,100,101,102,103,104,105,106,107,108,109,110,111,112,113,114,115,116,117],[97,45,98,46,99,95,100]]
def l22Path_con {t i} {h:Int} {s:SL Int} (J:i<=s.aG.length) (E:s.aG.length<=1048576) c:cA aE 48 [.ptr 0 t 3 0 0] [cur t s i h] c λr O _=>QF t s r O:=by refine cO F48 ?_;simp[F48];refine PX paths J E (by decide) (by decide) λx E J T _ W T=>?_;simp;refine fI (Hk:=[cur t s E J]) ((eX _).cons_cons _) (.refl _) ⟨x,E,J,rfl,?_,T,rfl⟩;exact(by decide:∀x,x∈paths->x.length<=64) x W
def Z3:aF aA:=[[97],[60,98,62],[38],[34],[39],[92],[10],[32],[37],[43],[38,97,109,112,59],[38,35,51,57,59],[37,52,49],[37,52],[92,120,51,67],[92,120],[126,122],[255],[81,57],[38,108,116]]
def V1 {t i:Nat} {h:Int} {s:SL Int} (hi:i<=s.aG.length) (hn:s.aG.length<=1048576) (c:Nat):cA aE 27 [.ptr 0 t 3 0 0] [cur t s i h] c λr O _=>QF t s r O:=by
 refine cO F27 ?_;unfold F27;simp;refine uC (sL hi hn (by omega) _) λx i1 h1 c1 _ x0 x1 k1=>?_;rw[if_neg (by omega)] at x1;obtain⟨x,rfl⟩:=iY x0;simp;refine b6 x (λj e H c'=>e 0=.ptr 0 t 3 0 0/\e 4=.I (x-j:Nat)/\∃(acc:aA) (i:Nat) (h:Int),e 3=.str acc/\acc.length<=5*j/\i<=s.aG.length/\H=[cur t s i h]) ⟨rfl,rfl,[],i1,h1,rfl,by simp,k1,rfl⟩ ?_;intro j e H c' hj ⟨e0,e4,acc,i2,h2,e3,ha,k2,hH⟩ N hN;subst hH;by_cases hd:x-j=0
 .simp[e3,e4,hd];exact fI (.refl _) (.refl _) ⟨acc,i2,h2,rfl,by omega,k2,rfl⟩
 .have hp:0<x-j:=by omega
  have hw:IntKind.i64.wrap (((x-j:Nat):Int)-1)=((x-(j+1):Nat):Int):=by rw[wrap64 (by omega) (by omega)];omega
  simp[e0,e3,e4,hp];refine PX Z3 k2 hn (by decide) (by decide) λy i3 h3 c3 _ hy k3=>?_;have hy5:y.length<=5:=(by decide:∀x,x∈Z3->x.length<=5) y hy;have hmx:acc.length+y.length<=mx:=by unfold mx;omega
  simp[e4,hmx,hw];exact hN _ _ _ _ (by omega) ((eX _).cons_cons _) ⟨e0,rfl,acc++y,i3,h3,rfl,by rw[kW];omega,k3,rfl⟩
def xT (l:aF fW) (n:Nat):Prop:=l.length<=n/\∀x,x∈l->x.Name.length<=64/\x.Value.length<=64
def PrsD (t:Nat) (s:SL Int) (r:AV) (O:aC):Prop:=∃(J:Nat) (E:aF fW) (i:Nat) (h:Int),r=.ref 1 J 2 E.length/\xT E 4/\i<=s.aG.length/\O=[cur t s i h,⟨false,J,2,E.map fW.enc⟩]
def U3:aF aA:=[[113],[97,32,98],[],[53],[120,38,121],[105,100]]
def V3 {t i:Nat} {h:Int} {s:SL Int} (hi:i<=s.aG.length) (hn:s.aG.length<=1048576) (c:Nat):cA aE 47 [.ptr 0 t 3 0 0] [cur t s i h] c λr O _=>PrsD t s r O:=by
 refine cO F47 ?_
 unfold F47
 simp
 have hm1:1<=mx:=by decide
 refine uC (sL hi hn (by omega) _) λx i1 h1 c1 _ x0 x1 k1=>?_
 rw[if_neg (by omega)] at x1
 obtain⟨x,rfl⟩:=iY x0
 simp
 refine b6 x (λj e H c'=>e 0=.ptr 0 t 3 0 0/\e 4=.int .i64 (x-j:Nat)/\∃(tq:Nat) (ps:aF fW) (i:Nat) (h:Int),e 3=.ref 1 tq 2 ps.length/\ps.length=j/\xT ps 4/\i<=s.aG.length/\H=[cur t s i h,⟨false,tq,2,ps.map fW.enc⟩]) ⟨rfl,rfl,_,[],i1,h1,rfl,rfl,⟨by simp,by simp⟩,k1,rfl⟩ ?_
 intro j e H c' hj ⟨e0,e4,tq,ps,i2,h2,e3,hpl,hps,k2,hH⟩ N hN
 subst hH
 by_cases hd:x-j=0
 .simp[e3,e4,hd]
  exact fI (.refl _) (.refl _) ⟨tq,ps,i2,h2,rfl,hps,k2,rfl⟩
 .have hp:0<x-j:=by omega
  have hw:IntKind.i64.wrap (((x-j:Nat):Int)-1)=((x-(j+1):Nat):Int):=by rw[wrap64 (by omega) (by omega)];omega
  simp[e0,e3,e4,hp]
  refine PW U3 k2 hn (by decide) (by decide) λy i3 h3 c3 _ hy k3=>?_
  have hy5:y.length<=64:=(by decide:∀x,x∈U3->x.length<=64) y hy
  simp[e0]
  refine PU (V1 k3 hn _) λz i4 h4 c4 _ hz k4=>?_
  have hm2:(ps.length+1)*32<=140737488355328:=by have:=hps.1;omega
  have hm3:ps.length+1<=mx:=by have:=hps.1;unfold mx;omega
  simp[e4,hw,hm2,hm3,aR]
  refine hN _ _ _ _ (by omega) (((eX _).cons_cons _).cons_cons _) ⟨by simp[aK,e0],by simp[aK],c4+1,ps++[⟨y,z⟩],i4,h4,by simp[aK],by simp[hpl],⟨by simp;omega,λu hu=>?_⟩,k4,by simp[fW.enc]⟩
  rcases dI.1 hu with h|h
  .exact hps.2 u h
  .rw[rY.1 h];exact⟨hy5,hz⟩
def SmReq (x:eW):Prop:=x.Path.length<=64/\xT x.Query.aG 5/\xT x.CO.aG 5
def ReqD (t:Nat) (s:SL Int) (r:AV) (O:aC):Prop:=∃(x:eW) (i:Nat) (h:Int),r=.agg x.iF/\SmReq x/\i<=s.aG.length/\O=cur t s i h::x.iV
def VL:aF aA:=[[109,97,105,110],[118,105,101,119],[108,105,98,47,97],[110,111,110,101]]
def xT.le {l} {m n} (h:xT l m) (E:m<=n):xT l n:=⟨cL h.1 E,h.2⟩
def UI tq (ps:aF fW):iX [] ⟨false,tq,2,ps.map fW.enc⟩:=aaC λaM E a J=>by
 obtain⟨x,_,rfl⟩:=fZ.1 E;exact(fW.flat x a J).2
def L9 {S} {l l'} (h:fG S l l') (E:∀a,a∈l'->a.cell=true):View S (.agg l) (.agg l'):=.agg h.spec.1 (λj a J=>E a (bA J)) h.spec.2
def l36Request_con {t i} {h:Int} {s:SL Int} (hi:i<=s.aG.length) (W:s.aG.length<=1048576) c:cA aE 23 [.ptr 0 t 3 0 0] [cur t s i h] c λr O _=>ReqD t s r O:=by
 refine cO F23 ?_;simp[F23];have E:1<=mx:=by decide
 refine PW VL hi W (by decide) (by decide) λp E h1 E _ hp E=>?_;have J:p.length<=64:=(by decide:∀x,x∈VL->x.length<=64) p hp;simp;refine J6 (V3 E W _) λr O E _ ⟨T,q,Z,h2,e1,E,k2,hO⟩=>⟨Z,h2,_,.ref 3 T 2 q.length,hO,by rw[e1];exact .name,.ref,λo Z=>by rw[rY.1 Z];exact UI _ _,?_⟩
 simp;refine J6 (V3 k2 W _) λr O c3 _ ⟨t2,ck,i3,h3,e2,hck,k3,hO⟩=>⟨i3,h3,_,.ref 4 t2 2 ck.length,hO,by rw[e2];exact .name,.ref,λo Z=>by rw[rY.1 Z];exact UI _ _,?_⟩
 simp[aR];refine uC (sL k3 W (by omega) _) λx Z Z Z _ Z Z k4=>?_;rw[if_neg (by omega)] at Z;have Z:∀{p:aA} {q:aF fW} {i T n c:Nat} {h:Int} {R S V G:aH},p.length<=64->xT q 5->n=q.length->i<=s.aG.length->∀{H:aC},[cur t s i h,⟨false,T,2,q.map fW.enc⟩,⟨false,t2,2,ck.map fW.enc⟩].Sublist H->
   cE (λr O _=>ReqD t s r O) (.agg [.str p,.ref 3 T 2 n,.ref 4 t2 2 ck.length]) H c:=λ{p q i T n c h R S V G} hp E W hi {H} hs=>by
  subst W;exact fI (v':=.agg (eW.iF ⟨p,.mk T q,.mk t2 ck⟩)) hs (L9 (.cons (.refl _) (.cons .name (.cons .name .nil))) (by simp[eW.iF])) ⟨⟨p,.mk T q,.mk t2 ck⟩,i,h,rfl,⟨hp,E,hck.le (by omega)⟩,hi,by simp[eW.iV,ED]⟩
 have T:∀{a b d e f g:aH},[a,d,e].Sublist [a,b,f,d,e,g]:=.cons_cons _ (.cons _ (.cons _ (.cons_cons _ (.cons_cons _ (eX _)))));have hs4:∀{a b d e f g k:aH},[a,d,e].Sublist [a,b,f,d,e,g,k]:=.cons_cons _ (.cons _ (.cons _ (.cons_cons _ (.cons_cons _ (eX _)))));have o:aH:=⟨false,0,0,[]⟩
 by_cases h0:x=0
 .simp[h0];refine PU (l22Path_con k4 W _) λy W W W _ hy W=>?_;simp[aR];exact Z (R:=o) (S:=o) (V:=o) (G:=o) hy (E.le (by omega)) rfl W T
 .by_cases h1:x=1
  .have hm2:(q.length+1)*32<=140737488355328:=by have:=E.1;omega
   have W:q.length+1<=mx:=by have:=E.1;unfold mx;omega
   simp[h1,hm2,W,aR];refine Z (R:=o) (S:=o) (V:=o) (G:=o) (q:=q++[⟨[48,49,50,51,52,53,54,55,56,57,48,49,50,51,52,53,54,55,56,57,48,49,50,51,52,53,54,55,56,57,48,49,50,51,52,53,54,55,56,57,48,49,50,51,52,53,54,55,56,57,48,49,50,51,52,53,54,55,56,57,48],[]⟩]) J ⟨by simp;exact E.1,λu W=>?_⟩ (by simp) k4 (by rw[qB];exact hs4);rcases dI.1 W with h|h
   .exact E.2 u h
   .rw[rY.1 h];exact⟨by decide,by decide⟩
  .simp[h0,h1,aR];exact Z (R:=o) (S:=o) (V:=o) (G:=o) J (E.le (by omega)) rfl k4 T
def call_tail1 {P} {K:aD} {f} {l l'} {a} {B} {c} {Q:aD} (hf:cA P f l' B c Q) (J:fG [] l l')
  (k:∀r E T,c<=T->Q r E T->Av [] r/\(∀o,o∈E->iX [] o)/\K r (a::E) T):bO P f l (a::B) c K:=by
 intro Z W;obtain⟨h1,h2⟩:=J.spec;have J:a.tag∉aV B:=(qA.1 Z).1;refine⟨B,[],l',Q,List.sublist_cons_self _ _,by simp,by simp[aV],h1,h2,hf,λr E T hc hq ho hd=>?_⟩;obtain⟨k1,k2,Z⟩:=k r E T hc hq;refine⟨a::E,r,λo h=>?_,qA.2 ⟨λE=>J (ho _ (W _ (by simp[aV])) E),hd⟩,.refl r,k1,λo _ h=>k2 o h,Z⟩;rcases fK.1 h with rfl|h
 .exact .inr ⟨by simp,J⟩
 .exact .inl h
def call_newS {P} {f c} {l l'} {H} {Q K:aD} (Z:cA P f l' [] c Q) (E:fG [] l l')
  (k:∀r O T,c<=T->Q r O T->∃J,View [] r J/\Av [] J/\(∀o,o∈O->iX [] o)/\K J (H++O) T):bO P f l H c K:=by
 intro hn W;obtain⟨h1,h2⟩:=E.spec;refine⟨[],[],l',Q,eX _,by simp,by simp[aV],h1,h2,Z,λr O T hc hq ho hd=>?_⟩;have E:∀t,t∈aV O->c<=t:=λt Z=>by
  rcases iA t c with h|h
  .have:=ho t h Z;simp[aV] at this
  .exact h
 obtain⟨J,k1,k2,k3,Z⟩:=k r O T hc hq;refine⟨_,J,λo h=>?_,?_,k1,k2,λo _ h=>k3 o h,Z⟩
 .rcases dI.1 h with h|h
  .exact .inr ⟨h,by simp[aV]⟩
  .exact .inl h
 .have:aV (H++O)=aV H++aV O:=by simp[aV]
  rw[this];refine mI.2 ⟨hn,hd,λx Z y T J=>?_⟩;subst J;exact absurd (W x Z) (zQ.2 (E x T))
structure bX where
 bR:Bool
 bN:Int
 dN:aA
 deriving DecidableEq
inductive aO where
 |mk (aJ bN:Int) (dN:aA) (Next:Int) (bF:SL (bX×aO))
namespace aO
def aJ:aO->Int|.mk k _ _ _ _=>k
def bN:aO->Int|.mk _ n _ _ _=>n
def dN:aO->aA|.mk _ _ s _ _=>s
def Next:aO->Int|.mk _ _ _ x _=>x
def bF:aO->SL (bX×aO)|.mk _ _ _ _ i=>i
end aO
def D6 {k n:Int} {s} {x:Int} {I:SL (bX×aO)} {e:bX×aO} (h:e∈I.aG):SizeOf.sizeOf e.2<SizeOf.sizeOf (aO.mk k n s x I):=by
 cases I with
 |nil=>simp at h
 |mk t E=>
  have J:=List.sizeOf_lt_of_mem (show e∈E from h);obtain⟨a,b⟩:=e;simp only[aO.mk.sizeOf_spec,SL.mk.sizeOf_spec,Prod.mk.sizeOf_spec] at J ⊢;omega
def aO.ind {p:aO->Prop} (h:∀k n s x I,(∀e,e∈I.aG->p e.2)->p (.mk k n s x I)):∀v,p v
 |.mk k n s x I=>h k n s x I λe E=>aO.ind h e.2
termination_by v=>SizeOf.sizeOf v
decreasing_by exact D6 E
def bX.enc (k:bX):aF AV:=[.bool k.bR,.I k.bN,.str k.dN]
@[simp] theorem bX.len (s:bX):s.enc.length=3:=(rfl)
@[simp] theorem bX.all (s:bX):s.enc.take 3=s.enc:=(rfl)
@[simp] theorem bX.g0 (s:bX) (K:AV->Prop):aZ s.enc 0 K=K (.bool s.bR):=by simp[bX.enc]
@[simp] theorem bX.g1 (s:bX) (K:AV->Prop):aZ s.enc 1 K=K (.I s.bN):=by simp[bX.enc]
@[simp] theorem bX.g2 (s:bX) (K:AV->Prop):aZ s.enc 2 K=K (.str s.dN):=by simp[bX.enc]
def bX.cells (s:bX):∀a,a∈s.enc->a.cell=true:=by simp[bX.enc]
def aO.enc:aO->aF AV
 |.mk k n s x I=>[.I k,.I n,.str s,.I x,match I with|.nil=>.aU|.mk t E=>.dX t 8 (E.attach.map λe=>e.1.1.enc++e.1.2.enc)]
termination_by v=>SizeOf.sizeOf v
decreasing_by exact D6 (I:=.mk t E) e.2
def iW (e:bX×aO):aF AV:=e.1.enc++e.2.enc
def aO.oJ (k n:Int) s (x:Int) (I:SL (bX×aO)):(aO.mk k n s x I).enc=[.I k,.I n,.str s,.I x,I.av 8 iW]:=by
 rw[aO.enc.eq_def];cases I with
 |nil=>rfl
 |mk t E=>
  show([AV.int .i64 k,.I n,.str s,.I x,.dX t 8 (E.attach.map λe=>e.1.1.enc++e.1.2.enc)]:aF AV)=[AV.int .i64 k,.I n,.str s,.I x,.dX t 8 (E.map iW)]
  rw[show(E.attach.map λe=>e.1.1.enc++e.1.2.enc)=E.map iW from by
   rw[show(λe:{x // x∈E}=>e.1.1.enc++e.1.2.enc)=iW∘Subtype.val from rfl,<-GA,LQ]]
def aO.dW (v:aO):v.enc=[.I v.aJ,.I v.bN,.str v.dN,.I v.Next,v.bF.av 8 iW]:=by cases v;exact aO.oJ _ _ _ _ _
@[simp] theorem aO.len (v:aO):v.enc.length=5:=by rw[aO.dW];rfl
@[simp] theorem aO.all (v:aO):v.enc.take 5=v.enc:=by rw[aO.dW];rfl
@[simp] theorem aO.g0 (v:aO) (K:AV->Prop):aZ v.enc 0 K=K (.I v.aJ):=by simp[aO.dW]
@[simp] theorem aO.g1 (v:aO) (K:AV->Prop):aZ v.enc 1 K=K (.I v.bN):=by simp[aO.dW]
@[simp] theorem aO.g2 (v:aO) (K:AV->Prop):aZ v.enc 2 K=K (.str v.dN):=by simp[aO.dW]
@[simp] theorem aO.g3 (v:aO) (K:AV->Prop):aZ v.enc 3 K=K (.I v.Next):=by simp[aO.dW]
@[simp] theorem aO.g4 (v:aO) (K:AV->Prop):aZ v.enc 4 K=K (v.bF.av 8 iW):=by simp[aO.dW]
def aO.cells (v:aO):∀a,a∈v.enc->a.cell=true:=by simp[aO.dW]
@[simp] theorem encE_len (e:bX×aO):(iW e).length=8:=by simp[iW,bX.enc]
@[simp] theorem encE_key (e:bX×aO):(iW e).take 3=e.1.enc:=rfl
@[simp] theorem encE_val (e:bX×aO):(iW e).drop 3=e.2.enc:=rfl
def YE (e:bX×aO):∀a,a∈iW e->a.cell=true:=λa E=>by
 simp only[iW,bX.enc,dI,fK,nQ,or_false] at E;rcases E with(rfl|rfl|rfl)|E
 .rfl
 .rfl
 .rfl
 .exact e.2.cells a E
def aO.sz:aO->Nat
 |.mk k n s x I=>s.length+(match I with|.nil=>0|.mk _ E=>E.length+(E.attach.map λe=>e.1.1.dN.length+e.1.2.sz).sum)
termination_by v=>SizeOf.sizeOf v
decreasing_by exact D6 (I:=.mk _ E) e.2
def kN (e:bX×aO):Nat:=e.1.dN.length+e.2.sz
def aO.CZ (k n:Int) (s:aA) (x:Int) (I:SL (bX×aO)):(aO.mk k n s x I).sz=s.length+(I.aG.length+bE kN I.aG):=by
 rw[aO.sz.eq_def];cases I with
 |nil=>rfl
 |mk t E=>
  show s.length+(E.length+(E.attach.map λe=>e.1.1.dN.length+e.1.2.sz).sum)=s.length+(E.length+bE kN E);simp only[bE];rw[show(E.attach.map λe=>e.1.1.dN.length+e.1.2.sz)=E.map kN from by
   rw[show(λe:{x // x∈E}=>e.1.1.dN.length+e.1.2.sz)=kN∘Subtype.val from rfl,<-GA,LQ]]
def aO.C0 (v:aO):v.sz=v.dN.length+(v.bF.aG.length+bE kN v.bF.aG):=by cases v;exact aO.CZ _ _ _ _ _
set_option maxRecDepth 100000
def bM (P:Program) (f:Nat) (E:aF AV) (Q:AV->Prop):Prop:=∀c,cA P f E [] c λr E _=>E=[]/\Q r
def call_trn {P} {H} {c} {K:aD} {f} {T E} {Q:AV->Prop} (hf:bM P f E Q) (W:fG [] T E) (k:∀r J,c<=J->Q r->Av [] r/\K r H J):bO P f T H c K:=by intro Z T;obtain⟨h1,T⟩:=W.spec;refine⟨[],[],E,_,eX _,by simp,by simp[aV],h1,T,hf c,λr E J hc ⟨E,W⟩ _ _=>?_⟩;subst E;obtain⟨T,E⟩:=k r J hc W;exact⟨H,r,λo J=>.inr ⟨J,by simp[aV]⟩,Z,.refl r,T,by simp,E⟩
def cV {P} {H} {c} {K:aD} {f} {E} {Q:AV->Prop} (T:bM P f E Q) (k:∀r J,c<=J->Q r->Av [] r/\K r H J):bO P f E H c K:=call_trn T (fG.refl _ _) k
def cX {P} {H} {c} {K:aD} {f} {la} {res} (hf:dA P f la res) (hres:Av [] res) (k:∀c',c<=c'->K res H c'):bO P f la H c K:=
 cV (Q:=λr=>r=res) (λc=>(hf c).mono λr H' _ _ ⟨h1,h2⟩=>⟨h2,h1⟩) λr c' hc hr=>by subst hr;exact⟨hres,k c' hc⟩
def W5 b t (r s:Prop) (u v):jO (.bool b) t (gW r u) (gW s v)=((b=t->r)/\(¬b=t->s)):=by cases b<;>cases t<;>simp[jO,gW]
def JC {α:Type} {l:aF α} {i:Nat} {K:α->Prop} (h:i<l.length) (k:∀x,l[i]?=some x->K x):aZ l i K:=by have e:l[i]?=some l[i]:=bC h;rw[aL e];exact k _ e
def Bo (r:AV):Prop:=∃b,r=.bool b
def Nu (E J:Int) (r:AV):Prop:=∃n,r=.I n/\E<=n/\n<=J
def Tx (n:Nat) (r:AV):Prop:=∃s,r=.str s/\s.length<=n
def hJ {P} {H} {c} {K:aD} {f} {J} (T:bM P f J Bo) (k:∀b E,c<=E->K (.bool b) H E):bO P f J H c K:=
 cV T λr E J ⟨b,T⟩=>by subst T;exact⟨.bool,k b E J⟩
def nX {P} {H} {c} {K:aD} {f} {T} {J W:Int} (Z:bM P f T (Nu J W)) (k:∀n E,c<=E->J<=n->n<=W->K (.I n) H E):bO P f T H c K:=
 cV Z λr E J ⟨n,T,Z,W⟩=>by subst T;exact⟨.int,k n E J Z W⟩
def sB {P} {H} {c} {K:aD} {f} {J} {m} (T:bM P f J (Tx m)) (k:∀s E,c<=E->s.length<=m->K (.str s) H E):bO P f J H c K:=
 cV T λr E J ⟨s,T,W⟩=>by subst T;exact⟨.str,k s E J W⟩
inductive aQ where
 |mk (aJ bN:Int) (bR:aA) (aP:SL aQ)
namespace aQ
def aJ:aQ->Int|.mk k _ _ _=>k
def bN:aQ->Int|.mk _ n _ _=>n
def bR:aQ->aA|.mk _ _ s _=>s
def aP:aQ->SL aQ|.mk _ _ _ i=>i
end aQ
def D2 {k n:Int} {s} {I:SL aQ} {e} (h:e∈I.aG):SizeOf.sizeOf e<SizeOf.sizeOf (aQ.mk k n s I):=by
 cases I with
 |nil=>simp at h
 |mk t E=>
  have J:=List.sizeOf_lt_of_mem (show e∈E from h);simp only[aQ.mk.sizeOf_spec,SL.mk.sizeOf_spec] at J ⊢;omega
def aQ.ind {p:aQ->Prop} (h:∀n:aQ,(∀e,e∈n.aP.aG->p e)->p n):∀n,p n
 |.mk k n s I=>h _ λe E=>aQ.ind h e
termination_by n=>SizeOf.sizeOf n
decreasing_by exact D2 E
def aQ.enc:aQ->aF AV
 |.mk k n s I=>[.I k,.I n,.str s,match I with|.nil=>.aU|.mk t E=>.dX t 4 (E.attach.map λe=>e.1.enc)]
termination_by n=>SizeOf.sizeOf n
decreasing_by exact D2 (I:=.mk t E) e.2
def aQ.oJ (k n:Int) s (I:SL aQ):(aQ.mk k n s I).enc=[.I k,.I n,.str s,I.av 4 aQ.enc]:=by
 rw[aQ.enc.eq_def];cases I with
 |nil=>rfl
 |mk t E=>
  show([AV.int .i64 k,.I n,.str s,.dX t 4 (E.attach.map λe=>e.1.enc)]:aF AV)=[AV.int .i64 k,.I n,.str s,.dX t 4 (E.map aQ.enc)]
  rw[show(E.attach.map λe=>e.1.enc)=E.map aQ.enc from by
   rw[show(λe:{x // x∈E}=>e.1.enc)=aQ.enc∘Subtype.val from rfl,<-GA,LQ]]
def aQ.dW (v:aQ):v.enc=[.I v.aJ,.I v.bN,.str v.bR,v.aP.av 4 aQ.enc]:=by cases v;exact aQ.oJ _ _ _ _
@[simp] theorem aQ.len (v:aQ):v.enc.length=4:=by rw[aQ.dW];rfl
@[simp] theorem aQ.all (v:aQ):v.enc.take 4=v.enc:=by rw[aQ.dW];rfl
@[simp] theorem aQ.g0 (v:aQ) (K:AV->Prop):aZ v.enc 0 K=K (.I v.aJ):=by simp[aQ.dW]
@[simp] theorem aQ.g1 (v:aQ) (K:AV->Prop):aZ v.enc 1 K=K (.I v.bN):=by simp[aQ.dW]
@[simp] theorem aQ.g2 (v:aQ) (K:AV->Prop):aZ v.enc 2 K=K (.str v.bR):=by simp[aQ.dW]
@[simp] theorem aQ.g3 (v:aQ) (K:AV->Prop):aZ v.enc 3 K=K (v.aP.av 4 aQ.enc):=by simp[aQ.dW]
def aQ.cells (v:aQ):∀a,a∈v.enc->a.cell=true:=by simp[aQ.dW]
def yZ:∀v:aQ,Av [] (.agg v.enc):=by
 refine aQ.ind λv T=>.agg λj a E=>?_;have J:=bA E;rw[aQ.dW] at J;simp at J;rcases J with rfl|rfl|rfl|rfl
 .exact .int
 .exact .int
 .exact .str
 .cases hI:v.aP with
  |nil=>exact .aU
  |mk t l=>
   refine .dX (by simp) λr j x a J E=>?_;obtain⟨e,W,rfl⟩:=fZ.1 (bA J);cases T e (by rw[hI];exact W) with
   |agg h=>exact h j a E
   |any _ h=>exact .any _ h
inductive cU (m:Nat):aQ->Prop where
 |mk {k n:Int} {s:aA} {I:SL aQ} (hs:s.length<=m) (hl:I.aG.length<=m) (hI:∀e,e∈I.aG->cU m e):cU m (.mk k n s I)
def cU.s {m} {n:aQ} (h:cU m n):n.bR.length<=m:=by cases h;assumption
def cU.l {m} {n:aQ} (h:cU m n):n.aP.aG.length<=m:=by cases h;assumption
def cU.i {m} {n:aQ} (h:cU m n):∀e,e∈n.aP.aG->cU m e:=by cases h;assumption
def cU.get {m} {n e:aQ} {i:Nat} (h:cU m n) (E:n.aP.aG[i]?=some e):cU m e:=h.i e (bA E)
def View.mono {S E} (hs:∀o,o∈S->o∈E) {a b} (v:View S a b):View E a b:=by
 induction v with
 |refl a=>exact .refl a
 |oE a=>exact .oE a
 |aU t w=>exact .aU t w
 |j5 t w J E=>exact .j5 t w J E
 |name=>exact .name
 |yT=>exact .yT
 |NM=>exact .NM
 |agg J T h E=>exact .agg J T E
 |aX J h E=>exact .aX J E
 |dX J W T h E=>exact .dX J W T E
 |ref Z hle J W T h E=>exact .ref (hs _ Z) hle J W T E
 |ptr Z W J T h E=>exact .ptr (hs _ Z) W J T E
def RX {S} {l l'} (h:fG S l l') (E:∀a,a∈l'->a.cell=true):View S (.agg l) (.agg l'):=.agg h.spec.1 (λj a J=>E a (bA J)) h.spec.2
def GO {S} {l l':aF AV} (v:View S (.agg l) (.agg l')):l.length=l'.length/\∀(j:Nat) (a E:AV),l[j]?=some a->l'[j]?=some E->View S a E:=by
 cases v with
 |refl=>exact⟨rfl,λj a E J E=>by rw[J] at E;cases E;exact .refl _⟩
 |agg E J h=>exact⟨E,h⟩
def NV (G:aC) (aM:aF AV) (x:aQ):Prop:=View G (.agg aM) (.agg x.enc)
def NV.refl G (x:aQ):NV G x.enc x:=View.refl _
def NV.mono {G G'} (hs:∀o,o∈G->o∈G') {aM} {x} (h:NV G aM x):NV G' aM x:=View.mono hs h
def NV.len {G} {aM:aF AV} {x} (h:NV G aM x):aM.length=4:=by rw[(GO h).1,aQ.len]
inductive vV (G:aC):List (List AV)->List aQ->Prop where
 |nil:vV G [] []
 |cons {aM:List AV} {x:aQ} {aN:List (List AV)} {L:List aQ} (h:NV G aM x) (t:vV G aN L):vV G (aM::aN) (x::L)
def vV.len {G} {aN:aF (aF AV)} {L:aF aQ} (h:vV G aN L):aN.length=L.length:=by
 induction h with
 |nil=>rfl
 |cons h t E=>simp[E]
def vV.get {G} {aN:aF (aF AV)} {L:aF aQ} (h:vV G aN L):∀{r:Nat} {aM:aF AV} {x:aQ},aN[r]?=some aM->L[r]?=some x->NV G aM x:=by
 induction h with
 |nil=>intro r aM x E;simp at E
 |cons h t T=>
  intro r aM x E J;cases r with
  |zero=>simp at E J;subst E;subst J;exact h
  |succ r=>exact T (by simpa using E) (by simpa using J)
def D1 {G} {i t n} {aN:aF (aF AV)} {L} (ho:(⟨false,t,4,aN⟩:aH)∈G) (hn:n=aN.length) (hv:vV G aN L):View G (.ref i t 4 n) ((SL.mk t L).av 4 aQ.enc):=by
 have T:∀(r:Nat) (x E:aF AV),aN[r]?=some x->(L.map aQ.enc)[r]?=some E->∃y,E=aQ.enc y/\NV G x y:=λr x E W J=>by
  rw[kL,iH] at J;obtain⟨y,Z,rfl⟩:=J;exact⟨y,rfl,hv.get W Z⟩
 refine .ref ho (by omega) (by rw[nR,hn,hv.len]) (λr x E W J=>?_) (λr j x a hx ha=>?_) (λr j x E a a' W J Z h4=>?_)
 .obtain⟨y,rfl,h⟩:=T r x E W J;rw[h.len,aQ.len]
 .obtain⟨y,hy,rfl⟩:=fZ.1 (bA hx);exact aQ.cells y a (bA ha)
 .obtain⟨y,rfl,h⟩:=T r x E W J;exact(GO h).2 j a a' Z h4
def yR {G} {k n:Int} {s} {a} {K:SL aQ} (h:View G a (K.av 4 aQ.enc)):NV G [.I k,.I n,.str s,a] (.mk k n s K):=by unfold NV;rw[aQ.oJ];refine RX (.cons (.refl _) (.cons (.refl _) (.cons (.refl _) (.cons h .nil)))) λb E=>?_;simp at E;rcases E with rfl|rfl|rfl|rfl<;>first|rfl|exact nI _ _ _
def pG (b:UInt8):Bool:=decide (48<=b.toNat)&&decide (b.toNat<=57)
def gH:aA->Nat->Nat
 |[],n=>n
 |b::l,n=>gH l (10*n+(b.toNat-48))
def YK l m:∀n,gH (l++m) n=gH m (gH l n):=by
 induction l with
 |nil=>intro n;rfl
 |cons b l E=>intro n;exact E _
def YJ:∀(l:aA) (n:Nat),l.all pG=true->gH l n+1<=(n+1)*10^l.length
 |[],n,_=>by simp[gH]
 |b::l,n,h=>by
  simp only[LR,eY] at h;have E:=h.1;simp only[pG,eY,decide_eq_true_eq] at E;have E:=YJ l (10*n+(b.toNat-48)) h.2;rw[gH,lE,FU];refine cL E ?_;have E:10*n+(b.toNat-48)+1<=(n+1)*10:=by omega
  calc (10*n+(b.toNat-48)+1)*10^l.length<=((n+1)*10)*10^l.length:=uQ _ E
   _ = (n+1)*(10^l.length*10):=by rw[Q1,FV 10]
def JR:∀(k n:Nat),n<k->(Lib.decDigits n).all pG=true/\gH (Lib.decDigits n) 0=n/\Lib.decDigits n≠[]
 |0,_,h=>by omega
 |k+1,n,h=>by
  rw[Lib.decDigits];split
  .rename_i E;have e:(UInt8.ofNat (48+n)).toNat=48+n:=by rw[FT];omega
   refine⟨?_,?_,by simp⟩
   .simp[pG];omega
   .simp[gH];omega
  .rename_i E;obtain⟨J,E,T⟩:=JR k (n/10) (by omega);have e:(UInt8.ofNat (48+n%10)).toNat=48+n%10:=by rw[FT];omega
   refine⟨?_,?_,by simp⟩
   .rw[GF,J];simp[pG];omega
   .rw[YK,E];simp[gH];omega
def O8 n:(Lib.decDigits n).all pG=true:=(JR (n+1) n (by omega)).1
def JQ n:gH (Lib.decDigits n) 0=n:=(JR (n+1) n (by omega)).2.1
def ZD n:Lib.decDigits n≠[]:=(JR (n+1) n (by omega)).2.2
def O7 {m k} (h:m<10^k) (J:1<=k):(Lib.decDigits m).length<=k:=by
 have E:∀(k m:Nat),1<=k->m<10^k->(Lib.decDigits m).length<=k:=by
  intro k
  induction k with
  |zero=>intro m h;omega
  |succ k T=>
   intro m _ W;rw[Lib.decDigits];split
   .simp
   .rename_i Z;rw[kW];have:(Lib.decDigits (m/10)).length<=k:=by
     rcases Q4 k with rfl|J
     .omega
     .exact T _ J (by rw[FU] at W;omega)
    simp only[lE,Q7];omega
 exact E k m J h
def kQ (l:aA):Bool:=decide (1<=l.length)&&decide (l.length<=13)&&l.all pG&&decide (gH l 0<=1000000000000)&&decide (Lib.decDigits (gH l 0)=l)
def qY (l:aA):Bool:=l.headD 0==45
def mY (l:aA):aA:=if qY l then l.drop 1 else l
def pK (l:aA):Option Int:=
 if kQ (mY l)&&decide (gH (mY l) 0<=1000000000)&&!(qY l&&decide (gH (mY l) 0=0)) then
  some (if qY l then -(gH (mY l) 0:Int) else gH (mY l) 0)
 else none
def S7 (l:aA) (n:Int):pK l=some n↔Lib.itoa n=l/\-1000000000<=n/\n<=1000000000:=by
 constructor
 .intro h;unfold pK at h;split at h
  .rename_i hc;simp only[kQ,eY,decide_eq_true_eq,z6,Bool.and_eq_false_iff,decide_eq_false_iff_not] at hc;obtain⟨⟨⟨⟨⟨⟨h1,h2⟩,h3⟩,h4⟩,h5⟩,h6⟩,h7⟩:=hc;cases hs:qY l with
   |false=>
    have hb:mY l=l:=by unfold mY;rw[hs];rfl
    rw[hs,hb] at h;rw[hb] at h5 h6;simp only[jF,if_false,eH] at h;subst h;exact⟨by rw[Lib.itoa_nonneg,h5],by omega,by omega⟩
   |true=>
    have hb:mY l=l.drop 1:=by unfold mY;rw[hs];rfl
    have hl:l=45::l.drop 1:=by
     unfold qY at hs;cases l with
     |nil=>simp at hs
     |cons b r=>simp at hs;subst hs;rfl
    rw[hs,hb] at h;rw[hb] at h5 h6 h7;simp only[if_true,eH] at h;subst h;have h8:gH (l.drop 1) 0≠0:=by
     rcases h7 with h7|h7
     .rw[hs] at h7;cases h7
     .exact h7
    refine⟨?_,by omega,by omega⟩;rw[Lib.itoa_neg _ (by omega),h5];exact hl.symm
  .cases h
 .rintro⟨rfl,h0,h1⟩;by_cases hn:n<0
  .obtain⟨m,rfl⟩:∃m:Nat,n = -(m:Int):=⟨n.natAbs,by omega⟩
   rw[Lib.itoa_neg m (by omega)];have hl:=O7 (m:=m) (k:=13) (by omega) (by omega);have hl1:=r7.2 (ZD m);have e1:qY (45::Lib.decDigits m)=true:=rfl;have e2:mY (45::Lib.decDigits m)=Lib.decDigits m:=rfl;unfold pK;rw[e1,e2,JQ,if_pos]
   .rfl
   .simp only[kQ,eY,decide_eq_true_eq,JQ,O8];simp;omega
  .obtain⟨m,rfl⟩:∃m:Nat,n=(m:Int):=⟨n.toNat,by omega⟩
   rw[Lib.itoa_nonneg];have hl:=O7 (m:=m) (k:=13) (by omega) (by omega);have hl1:=r7.2 (ZD m);have e1:qY (Lib.decDigits m)=false:=by
    have hd:=O8 m;unfold qY;cases hc:Lib.decDigits m with
    |nil=>rfl
    |cons b r=>
     rw[hc] at hd;simp only[LR,eY,pG,decide_eq_true_eq] at hd;simp only[List.headD_cons,beq_eq_false_iff_ne,ne_eq];rintro rfl;have:(45:UInt8).toNat=45:=rfl;omega
   have e2:mY (Lib.decDigits m)=Lib.decDigits m:=by unfold mY;rw[e1];rfl
   unfold pK;rw[e1,e2,JQ,if_pos]
   .rfl
   .simp only[kQ,eY,decide_eq_true_eq,JQ,O8];simp;omega
set_option maxRecDepth 100000
def isKey (k:bX):Bool:=if k.bR then decide (k.bN=0)&&decide (k.dN.length<=400)&&!(pK k.dN).isSome else decide (k.dN=[])&&cT k.bN (-1000000000) 1000000000
def aO.wt:aO->Nat
 |.mk k _ _ _ I=>if k=4 then 1+(match I with|.nil=>0|.mk _ E=>(E.attach.map λe=>e.1.2.wt).sum) else 1
termination_by v=>SizeOf.sizeOf v
decreasing_by exact D6 (I:=.mk _ E) e.2
def eT (e:bX×aO):Nat:=e.2.wt
def aO.nS (k n:Int) s (x:Int) (I:SL (bX×aO)):(aO.mk k n s x I).wt=if k=4 then 1+bE eT I.aG else 1:=by
 rw[aO.wt.eq_def];cases I with
 |nil=>rfl
 |mk t E=>
  show(if k=4 then 1+(E.attach.map λe=>e.1.2.wt).sum else 1)=if k=4 then 1+bE eT E else 1;simp only[bE];rw[show(E.attach.map λe=>e.1.2.wt)=E.map eT from by
   rw[show(λe:{x // x∈E}=>e.1.2.wt)=eT∘Subtype.val from rfl,<-GA,LQ]]
def aO.uV (v:aO):v.wt=if v.aJ=4 then 1+bE eT v.bF.aG else 1:=by cases v;exact aO.nS _ _ _ _ _
def SB {α:Type} {f g:α->Nat}:∀{l:aF α},(∀x,x∈l->f x<=g x+1)->bE f l<=bE g l+l.length
 |[],_=>by simp[bE]
 |x::l,h=>by
  have E:=SB (l:=l) λy E=>h y (iI _ E);have:=h x (kB ..);simp only[bE,gJ,nP,lE] at *;omega
def aO.wt_le:∀v:aO,v.wt<=v.sz+1:=aO.ind λk n s x I E=>by
 rw[aO.nS,aO.CZ];split
 .have:=SB (f:=eT) (g:=kN) (l:=I.aG) λe J=>by
   have:=E e J;show e.2.wt<=e.1.dN.length+e.2.sz+1;omega
  omega
 .omega
def aO.GK (v:aO):1<=v.wt:=by rw[aO.uV];split<;>omega
def aO.gd:aO->Prop
 |.mk k n s x I=>(0<=k/\k<=8/\k≠5)/\(k≠3->s=[])/\(k≠4->x=0/\I.aG=[])/\(k=0->n=0)/\(k=1->n=0\/n=1)/\(k=2->cT n (-1000000000) 1000000000=true)/\(k=3->n=0/\s.length<=400)/\
  (k=6\/k=7\/k=8->cT n 0 255=true)/\
  (k=4->n=0/\cT x 0 1000000001=true/\(I.aG.map Prod.fst).Nodup/\(∀e,e∈I.aG->isKey e.1=true/\(e.1.bR=false->e.1.bN<x))/\∀e:{e // e∈I.aG},e.1.2.gd)
termination_by v=>SizeOf.sizeOf v
decreasing_by exact D6 e.2
structure Gd (v:aO):Prop where
 k0:0<=v.aJ
 k8:v.aJ<=8
 k5:v.aJ≠5
 s3:v.aJ≠3->v.dN=[]
 x4:v.aJ≠4->v.Next=0/\v.bF.aG=[]
 n0:v.aJ=0->v.bN=0
 n1:v.aJ=1->v.bN=0\/v.bN=1
 n2:v.aJ=2->cT v.bN (-1000000000) 1000000000=true
 n3:v.aJ=3->v.bN=0/\v.dN.length<=400
 n6:v.aJ=6\/v.aJ=7\/v.aJ=8->cT v.bN 0 255=true
 a0:v.aJ=4->v.bN=0
 a1:v.aJ=4->cT v.Next 0 1000000001=true
 a2:v.aJ=4->(v.bF.aG.map Prod.fst).Nodup
 a3:v.aJ=4->∀e,e∈v.bF.aG->isKey e.1=true/\(e.1.bR=false->e.1.bN<v.Next)
 a4:v.aJ=4->∀e,e∈v.bF.aG->e.2.gd
def BJ (v:aO):v.gd↔Gd v:=by
 cases v with
 |mk k n s x I=>
  rw[aO.gd.eq_def];constructor
  .rintro⟨⟨h1,h2,h3⟩,h4,h5,h6,Z,W,T,J,E⟩;exact⟨h1,h2,h3,h4,h5,h6,Z,W,T,J,λh=>(E h).1,λh=>(E h).2.1,λh=>(E h).2.2.1,λh=>(E h).2.2.2.1,λh e J=>(E h).2.2.2.2 ⟨e,J⟩⟩
  .intro h;exact⟨⟨h.k0,h.k8,h.k5⟩,h.s3,h.x4,h.n0,h.n1,h.n2,h.n3,h.n6,λk=>⟨h.a0 k,h.a1 k,h.a2 k,h.a3 k,λe=>h.a4 k e.1 e.2⟩⟩
noncomputable def vA (p:Prop):Bool:=@decide p (Classical.propDecidable _)
def HU {p} (h:p):vA p=true:=@decide_eq_true _ (Classical.propDecidable _) h
def mK {p} (h:¬p):vA p=false:=@decide_eq_false _ (Classical.propDecidable _) h
def pdec_iff {p}:vA p=true↔p:=⟨λh=>yB λE=>(by rw[mK E] at h;cases h),HU⟩
def DH {p} {b} (h:b=true↔p):vA p=b:=by
 cases b with
 |true=>exact HU (h.1 rfl)
 |false=>exact mK λE=>by have:=h.2 E;cases this
noncomputable def isVal (v:aO):Bool:=decide (v.wt<=200)&&vA v.gd
set_option maxRecDepth 100000
def kV (k:bX):Prop:=-1000000001<=k.bN/\k.bN<=1000000001/\k.dN.length<=400
inductive dU (o c g:Nat):aO->Prop where
 |mk {k n:Int} {s:aA} {x:Int} {I:SL (bX×aO)} (hk:0<=k/\k<=8) (hn:-1000000001<=n/\n<=1000000001) (hs:s.length<=400) (hx:-1000000002<=x/\x<=1000000002)
   (h6:k=6->0<=n/\n<o) (h7:k=7->0<=n/\n<c) (h8:k=8->0<=n/\n<g) (h4:k≠4->I.aG=[]) (hK:∀e,e∈I.aG->kV e.1) (hI:∀e,e∈I.aG->dU o c g e.2):dU o c g (.mk k n s x I)
section
variable {o c g:Nat} {v:aO}
def dU.k (h:dU o c g v):0<=v.aJ/\v.aJ<=8:=by cases h;assumption
def dU.n (h:dU o c g v):-1000000001<=v.bN/\v.bN<=1000000001:=by cases h;assumption
def dU.s (h:dU o c g v):v.dN.length<=400:=by cases h;assumption
def dU.x (h:dU o c g v):-1000000002<=v.Next/\v.Next<=1000000002:=by cases h;assumption
def dU.o6 (h:dU o c g v) (E:v.aJ=6):0<=v.bN/\v.bN<o:=by cases h with|mk _ _ _ _ h _ _ _ _ _=>exact h E
def dU.o7 (h:dU o c g v) (E:v.aJ=7):0<=v.bN/\v.bN<c:=by cases h with|mk _ _ _ _ _ h _ _ _ _=>exact h E
def dU.o8 (h:dU o c g v) (E:v.aJ=8):0<=v.bN/\v.bN<g:=by cases h with|mk _ _ _ _ _ _ h _ _ _=>exact h E
def dU.e (h:dU o c g v) (E:v.aJ≠4):v.bF.aG=[]:=by cases h with|mk _ _ _ _ _ _ _ h _ _=>exact h E
def dU.i (h:dU o c g v):∀e,e∈v.bF.aG->kV e.1/\dU o c g e.2:=by cases h with|mk _ _ _ _ _ _ _ _ J T=>exact λe E=>⟨J e E,T e E⟩
def dU.get (h:dU o c g v) {i:Nat} {e:bX×aO} (E:v.bF.aG[i]?=some e):kV e.1/\dU o c g e.2:=h.i e (bA E)
def dU.mono {E c' J} (T:o<=E) (T:c<=c') (T:g<=J):∀v:aO,dU o c g v->dU E c' J v:=by
 refine aO.ind (p:=λv=>dU o c g v->dU E c' J v) λk n s x I J h=>?_;cases h with
 |mk Z W T E h6 h7 h8 h4 hK hI=>exact .mk Z W T E (λh=>by have:=h6 h;omega) (λh=>by have:=h7 h;omega) (λh=>by have:=h8 h;omega) h4 hK λe E=>J e E (hI e E)
def sV (k n:Int) (s:aA):aO:=.mk k n s 0 .nil
def iB (k n:Int) s:(sV k n s).enc=[.I k,.I n,.str s,.I 0,.aU]:=aO.oJ _ _ _ _ _
def dU.sc {k n:Int} {s:aA} (J:0<=k/\k<=5) (E:-1000000001<=n/\n<=1000000001) (hs:s.length<=400):dU o c g (sV k n s):=
 .mk ⟨J.1,by omega⟩ E hs (by omega) (λh=>by omega) (λh=>by omega) (λh=>by omega) (λ_=>rfl) (λe E=>by simp at E) λe E=>by simp at E
def HB {α:Type} {f h:α->Nat} {a}:∀{l:aF α},(∀x,x∈l->f x<=a*h x)->bE f l<=a*bE h l
 |[],_=>by simp[bE]
 |x::l,E=>by
  have J:=E x (kB ..);have T:=HB (l:=l) λy J=>E y (iI _ J);simp only[bE,gJ,nP] at T ⊢;rw[Nat.mul_add];omega
def dU.sz:∀v:aO,dU o c g v->v.sz+500<=1000*v.wt:=by
 refine aO.ind (p:=λv=>dU o c g v->v.sz+500<=1000*v.wt) λk n s x I E h=>?_;have J:=h.s;have Z:=h.e;have T:=h.i;rw[aO.CZ,aO.nS];simp only[aO.dN,aO.aJ,aO.bF] at J Z T;by_cases W:k=4
 .rw[if_pos W];have J:bE (λe:bX×aO=>1+kN e) I.aG<=1000*bE eT I.aG:=HB λe J=>by
   have h6:=E e J (T e J).2;have h7:=(T e J).1.2.2;simp only[kN,eT];omega
  have h6:bE (λe:bX×aO=>1+kN e) I.aG=I.aG.length+bE kN I.aG:=by
   generalize I.aG=l
   induction l with
   |nil=>rfl
   |cons a l E=>simp only[bE,gJ,nP,lE] at E ⊢;omega
  omega
 .rw[if_neg W,Z W];simp[bE];omega
def wt_items:v.aJ=4->v.bF.aG.length+1<=v.wt:=λE=>by
 rw[aO.uV,if_pos E];generalize v.bF.aG=l;have:l.length<=bE eT l:=by
  induction l with
  |nil=>simp[bE]
  |cons a l E=>
   have:=aO.GK a.2;simp only[bE,eT,gJ,nP,lE] at E ⊢;omega
 omega
def dU.len (h:dU o c g v):v.bF.aG.length<=v.wt:=by
 by_cases E:v.aJ=4
 .have:=wt_items E;omega
 .rw[h.e E];simp
def RP {i:Nat} {e:bX×aO} (J:v.aJ=4) (E:v.bF.aG[i]?=some e):e.2.wt+1<=v.wt:=by rw[aO.uV v,if_pos J];have:=AR (sz:=eT) (bA E);simp only[eT] at this ⊢;omega
structure VM (o c g:Nat) (v:aO):Prop where
 ok:dU o c g v
 wt:v.wt<=200
def VM.CY (h:VM o c g v):v.sz<=200000:=by have E:=dU.sz v h.ok;have:=h.wt;omega
def VM.len (h:VM o c g v):v.bF.aG.length<=200:=cL h.ok.len h.wt
def VM.get (h:VM o c g v) {i:Nat} {e:bX×aO} (E:v.bF.aG[i]?=some e):kV e.1/\VM o c g e.2:=by
 have J:=h.ok.get E;have W:v.aJ=4:=yB λT=>by rw[h.ok.e T] at E;simp at E
 have:=RP W E;have:=h.wt;exact⟨J.1,J.2,by omega⟩
def VM.mono {E c' J} (h:VM o c g v) (T:o<=E) (Z:c<=c') (W:g<=J):VM E c' J v:=⟨dU.mono T Z W v h.ok,h.wt⟩
def VM.sc {k n:Int} {s:aA} (J:0<=k/\k<=5) (E:-1000000001<=n/\n<=1000000001) (hs:s.length<=400):VM o c g (sV k n s):=⟨.sc J E hs,by
 rw[sV,aO.nS];split<;>simp[bE]⟩
end
open Go.RowKit
def ES {P} {f} {E:aF AV} {H} {c} {res} {Q:aD}
  (h:∀(G:Gh) (w:World) (J:Array Value),G.c=c->Inv G H w.heap->J.size=E.length->(∀(j:Nat) (a:AV),E[j]?=some a->bJ G w.heap (J.getD j undef) a)->
   Calls P f J w λe W=>∃v,e=.returned v/\Below w.heap.size w W/\bJ G w.heap v res) (hq:Q res H c):cA P f E H c Q:=by
 intro G w J Z I E T;subst Z;refine(h G w J rfl I E T).mono λe W ⟨v,he,E,hv⟩=>?_;have T:fH G w.heap G W.heap:=
  ⟨bB _,λ_ _=>rfl,λ_ _ x=>x,λt J W=>E.block _ (I.fz t W).2,λb c e Z J=>⟨c,Z,by
   rw[E.block b (by
    rcases iA b w.heap.size with Z|Z
    .exact Z
    .rw[z8 Z] at J;cases J),J],rfl⟩⟩
 refine⟨v,res,H,G,he,hq,⟨T,E.os,E.tape,E.output,E.size,λb J _=>E.block b J,λt Z J=>absurd J (by omega),λ_ _ h=>h,λ_ _ h=>.inl h⟩,?_,hv.ext T⟩;exact⟨λt W=>⟨(I.fz t W).1,fM (I.fz t W).2 E.size⟩,λo J=>(I.obj o J).ext T (E.block _ (I.obj o J).block),I.nY,I.nodup,I.inj,I.gl.ext T⟩
end A
end Go.Proofs.YtbdgahjfipdeoaaGreatDoor
namespace Go.Proofs.YtbdgahjfipdeoaaGreatDoor
namespace A
def shByteS {n} {a} (h:nL aE n 22 [a]):∃s:SL Int,a=s.av 1 rL/\s.aG.length<=mx:=by obtain⟨s,E,J,T⟩:=sh_slc (P:=aE) (t:=22) (el:=5) (w:=1) (enc:=rL) (ok:=λ_=>True) (by kernel_rfl) (by kernel_rfl) (λn aM h=>by obtain⟨i,E,_⟩:=sh_int1 (k:=.u8) (P:=aE) (t:=5) (by kernel_rfl) h;exact⟨i,E,trivial⟩) h;exact⟨s,E,J⟩
end A
end Go.Proofs.YtbdgahjfipdeoaaGreatDoor
