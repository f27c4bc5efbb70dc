import Derived.Lib.Split
import Derived.Lib.Join
import Derived.Test.YtbdgahjfipdeoaaGreatDoorB04
import Derived.Test.YtbdgahjfipdeoaaGreatDoorB09
/- FnResponses: a part of its proof. No condition. -/
set_option linter.all false
set_option maxRecDepth 100000
namespace Go.Proofs.YtbdgahjfipdeoaaGreatDoor
namespace A
open Go.RowKit
def IK:∀(k u:Nat),u<10^(k+1)->Lib.nDigits u<=k+1
 |0,u,h=>by rw[Lib.nDigits_small (by simpa using h)];omega
 |k+1,u,h=>by
  by_cases E:u<10
  .rw[Lib.nDigits_small E];omega
  .rw[Lib.nDigits_big E];have:=IK k (u/10) (by rw[FU] at h;omega);omega
def BY {u} (h:u<9223372036854775808):(Lib.decDigits u).length<=19:=by rw[Lib.decDigits_length];exact IK 18 u (by omega)
def UA {G} {H} {w:World} (I:Inv G H w.heap):Lib.TabIs aE w "internal/strconv.uint64pow10" .u64 Lib.pow10Tab:=by
 obtain⟨_,_,E,J⟩:=I.gl 1 (by decide);obtain⟨t,E,E⟩:=gl_pow J;unfold Lib.TabIs World.var?;rw[show Tryz.prog.globalNamed "internal/strconv.uint64pow10" =some 1 by kernel_rfl]
 simp only[uP,E]
def itoa_fn {n:Int} (E:0<=n) (T:n<=9223372036854775807):dA aE 29 [.I n] (.str (Lib.decDigits n.toNat)):=by
 intro c;refine ES (res:=.str (Lib.decDigits n.toNat)) (λG w E J I W Z=>?_) ⟨rfl,rfl⟩;obtain⟨J,rfl⟩:∃J,E=#[J]:=by
  match E,W with
  |⟨[a]⟩,_=>exact⟨a,rfl⟩
 have J:=Z 0 _ rfl;simp at J;cases J;have e:Lib.itoa n=Lib.decDigits n.toNat:=by unfold Lib.itoa;rw[if_neg (by omega)]
 have E:=BY (u:=n.toNat) (by omega);have E:=Tryz.strconv_Itoa n (by omega) T w (UA I);rw[e] at E;refine E.mono λe E ⟨T,k,E,J⟩=>⟨_,T,?_,.str (by simp) (by unfold mx;omega)⟩
 subst J;refine⟨rfl,rfl,rfl,?_,λj J=>?_⟩
 .show w.heap.size<=(w.heap++E).size;simp
 .show(w.heap++E)[j]?=w.heap[j]?;exact AA J
def WW {n:Int} (J:0<=n) (E:n<=9223372036854775807):dA aE 14 [.I n] (.str (Lib.decDigits n.toNat)):=by refine fO F14 λc=>?_;simp[F14];refine bZ (itoa_fn J E) .str λ_ _=>?_;simp;exact aS ⟨rfl,rfl⟩
def SX {n:Nat} (h1:n<=9223372036854775807):dA aE 116 [.int .i64 n] (.str (Lib.decDigits n)):=by
 refine fO K8 λc=>?_
 unfold K8
 by_cases hn:n=0
 .subst hn
  simp
  exact aS ⟨by rw[Lib.decDigits_one (by omega)];rfl,rfl⟩
 have hn':¬(n:Int)=0:=by omega
 have hlt:¬(n:Int)<0:=by omega
 simp[hn]
 refine b6 19 (λi e H c'=>∃(x:Nat) (s:aA),e 0=.int .i64 n/\e 4=.int .i64 x/\e 3=.str s/\s.length=i/\x*10^i<=n/\(if x=0 then s else Lib.decDigits x++s)=Lib.decDigits n/\H=[]) ?_ ?_
 .exact⟨n,[],rfl,rfl,rfl,rfl,by simp,by simp[hn],rfl⟩
 intro i e H c hi ⟨x,s,e0,e4,e3,hl,hx,hd,hH⟩ N hN
 subst hH
 by_cases h:x=0
 .subst h
  simp at hd
  subst hd
  simp[e0,e3,e4,hlt]
  exact aS ⟨rfl,rfl⟩
 rw[if_neg h] at hd
 have hi':i<19:=by
  rcases iA i 19 with h1|h1
  .exact h1
  .have:i=19:=by omega
   subst this
   omega
 have hx':¬(x:Int)=0:=by omega
 have hxn:x<=n:=cL (Nat.le_mul_of_pos_right x (QZ (by simp))) hx
 have h10:((x:Int)).tmod 10=((x%10:Nat):Int):=by rw[Int.tmod_eq_emod_of_nonneg (by omega)];omega
 have hq:((x:Int)).tdiv 10=((x/10:Nat):Int):=by rw[Int.tdiv_eq_ediv_of_nonneg (by omega)];omega
 have hneg:¬((x%10:Nat):Int)<0:=by omega
 have h48:(48:Int)+((x%10:Nat):Int)=((48+x%10:Nat):Int):=by omega
 have hw:IntKind.u8.wrap (IntKind.i64.wrap (48+((x%10:Nat):Int)))=((UInt8.ofNat (48+x%10)).toNat:Int):=by rw[h48];exact wrap_u8 (by omega)
 simp[e4,h,h10,hneg,-Int.natCast_emod]
 refine yF (l:=[UInt8.ofNat (48+x%10)]) (by rw[hw];rfl) rfl (by simp[mx]) ?_
 have hm1:1+s.length<=mx:=by unfold mx;omega
 have hq':IntKind.i64.wrap ((x/10:Nat):Int)=((x/10:Nat):Int):=wrap64 (by omega) (by omega)
 simp[e3,e4,hm1,hq,hq',-Int.natCast_ediv]
 refine hN _ _ [] _ hi' (by simp) ⟨x/10,UInt8.ofNat (48+x%10)::s,by simp[aK,e0],by simp[aK],by simp[aK],by simp[hl],?_,?_,rfl⟩
 .refine cL ?_ hx
  rw[FU,FV (10^i) 10,<-Q1]
  exact uQ _ (Nat.div_mul_le_self x 10)
 .have hdx:Lib.decDigits x=if h:x<10 then [UInt8.ofNat (48+x)] else Lib.decDigits (x/10)++[UInt8.ofNat (48+x%10)]:=by rw[Lib.decDigits]
  rw[<-hd,hdx]
  by_cases h9:x<10
  .have:x/10=0:=by omega
   rw[dif_pos h9,if_pos this,Nat.mod_eq_of_lt h9];rfl
  .rw[dif_neg h9,if_neg (by omega)];simp
end A
end Go.Proofs.YtbdgahjfipdeoaaGreatDoor
namespace Go.Proofs.YtbdgahjfipdeoaaGreatDoor
namespace A
open Go.RowKit
def jS (l:aA):Int:=match Lib.atoiAll l with|.ok v=>v|.range=>Lib.atoiSat l|_=>0
def sU (l:aA):Bool:=match Lib.atoiAll l with|.ok _=>true|_=>false
def X8 {G} {H} {w:World} (I:Inv G H w.heap) {b} (E:b=4\/b=5):∃ev,w.cell? ⟨b,0,none⟩=some ev/\(ev=.nilIface\/∃J T,ev=.iface J T):=by obtain⟨_,_,J,T⟩:=I.gl b (by rcases E with rfl|rfl<;>decide);obtain⟨c,t,J,ev,J,Z,W⟩:=gl_err E T;exact⟨ev,by unfold World.cell?;simp only[J];exact Z,W⟩
def aaD l:-9223372036854775808<=jS l/\jS l<=9223372036854775807:=by
 unfold jS;cases h:Lib.atoiAll l with
 |ok v=>exact Lib.atoiAll_bounds h
 |range=>exact Lib.atoiSat_bounds l
 |_=>exact⟨(by decide:(-9223372036854775808:Int)<=0),(by decide:(0:Int)<=9223372036854775807)⟩
def atoi_fn {l:aA} (hl:l.length<=1048576):dA aE 60 [.str l] (.aX [.I (jS l),.mC (sU l)]):=by
 intro c;refine ES (res:=.aX [.I (jS l),.mC (sU l)]) (λG w vs hc I hs hr=>?_) ⟨rfl,rfl⟩;obtain⟨v0,rfl⟩:∃v0,vs=#[v0]:=by
  match vs,hs with
  |⟨[a]⟩,_=>exact⟨a,rfl⟩
 have h0:=hr 0 _ rfl;simp at h0;have hb:=aaD l;have hi:qQ .i64 (jS l):=by
  have e1:IntKind.i64.min = -9223372036854775808:=by decide
  have e2:IntKind.i64.max=9223372036854775807:=by decide
  exact⟨by omega,by omega⟩
 cases h0 with
 |@str s _ e hl0=>
 have hsz:s.size<=1048576:=by rw[Lib.size_eq,e];exact hl
 cases h:Lib.atoiAll l with
 |ok v=>
  have hn:jS l=v:=by unfold jS;rw[h]
  have he:sU l=true:=by unfold sU;rw[h]
  rw[hn,he];rw[hn] at hi;refine(Tryz.strconv_Atoi_ok s (by omega) v (by rw[e];exact h) w).mono λe w' ⟨h1,h2⟩=>⟨_,h1,?_,?_⟩
  .rcases h2 with rfl|⟨t,rfl⟩
   .exact Below.refl _ _
   .exact Lib.bytesWorld_below _ _ _
  .refine .aX rfl λj a hj=>?_
   match j,hj with
   |0,hj=>cases hj;exact .int hi
   |1,hj=>cases hj;exact .A4
 |range=>
  have hn:jS l=Lib.atoiSat l:=by unfold jS;rw[h]
  have he:sU l=false:=by unfold sU;rw[h]
  rw[hn,he];rw[hn] at hi;obtain⟨ev,hv,hev⟩:=X8 I (.inr rfl);refine(Tryz.strconv_Atoi_range s (by omega) (by rw[e];exact h) ev w hv hev).mono λe' w' ⟨B,h1,h2,h3,h4⟩=>⟨_,h1,h4,?_⟩
  refine .aX rfl λj a hj=>?_
  match j,hj with
  |0,hj=>cases hj;rw[e];exact .int hi
  |1,hj=>cases hj;exact .mC
 |_=>
  have hn:jS l=0:=by unfold jS;rw[h]
  have he:sU l=false:=by unfold sU;rw[h]
  rw[hn,he];rw[hn] at hi;obtain⟨ev,hv,hev⟩:=X8 I (.inl rfl);refine(Tryz.strconv_Atoi_syntax s (by omega) (by rw[e,h];intro v hc;cases hc) (by rw[e,h];intro hc;cases hc) ev w hv hev).mono λe w' ⟨B,h1,h2,h3,h4⟩=>⟨_,h1,h4,?_⟩
  refine .aX rfl λj a hj=>?_
  match j,hj with
  |0,hj=>cases hj;exact .int hi
  |1,hj=>cases hj;exact .mC
def WH {n:Int} (E:-9223372036854775808<=n) (E:n<=9223372036854775807):(Lib.itoa n).length<=21:=by
 unfold Lib.itoa;split
 .have:=IK 19 n.natAbs (by omega);rw[lE,Lib.decDigits_length];omega
 .have:=IK 19 n.toNat (by omega);rw[Lib.decDigits_length];omega
def itoa_len21 {n:Int} (h:qQ .i64 n):(Lib.itoa n).length<=21:=by
 have E:IntKind.i64.min = -9223372036854775808:=by decide
 have E:IntKind.i64.max=9223372036854775807:=by decide
 exact WH (by have:=h.1;omega) (by have:=h.2;omega)
def itoa_all {n:Int} (h0:-9223372036854775808<=n) (J:n<=9223372036854775807):dA aE 29 [.I n] (.str (Lib.itoa n)):=by
 intro c;refine ES (res:=.str (Lib.itoa n)) (λG w E T I W Z=>?_) ⟨rfl,rfl⟩;obtain⟨T,rfl⟩:∃T,E=#[T]:=by
  match E,W with
  |⟨[a]⟩,_=>exact⟨a,rfl⟩
 have E:=Z 0 _ rfl;simp at E;cases E;have T:=WH h0 J;refine(Tryz.strconv_Itoa n (by omega) J w (UA I)).mono λe T ⟨J,k,T,E⟩=>⟨_,J,?_,.str (by simp) (by unfold mx;omega)⟩
 subst E;refine⟨rfl,rfl,rfl,?_,λj E=>?_⟩
 .show w.heap.size<=(w.heap++T).size;simp
 .show(w.heap++T)[j]?=w.heap[j]?;exact AA E
def oT (l:aA) (E J:Int):Bool:=decide (l.length<=20)&&sU l&&decide (Lib.itoa (jS l)=l)&&decide (E<=jS l)&&decide (jS l<=J)
def pw_fn {l:aA} {E J:Int} (W:l.length<=1048576):dA aE 33 [.str l,.I E,.I J] (.aX [.I (if oT l E J then jS l else 0),.bool (oT l E J)]):=by
 refine fO F33 λc=>?_;unfold F33;by_cases h1:l.length<=20;rotate_left
 .have T:(20:Int)<l.length:=by omega
  simp[T];exact aS ⟨by simp[oT,h1],rfl⟩
 have T:¬((20:Int)<l.length):=by omega
 simp[T];refine bZ (atoi_fn W) (.aX (by intro j a T;match j,T with|0,T=>cases T;exact .int|1,T=>cases T;exact .mC)) λ_ _=>?_;cases h2:sU l
 .simp;exact aS ⟨by simp[oT,h2],rfl⟩
 simp;obtain⟨W,T⟩:=aaD l;refine bZ (itoa_all W T) .str λ_ _=>?_;by_cases T:Lib.itoa (jS l)=l;rotate_left
 .simp[T];exact aS ⟨by simp[oT,T],rfl⟩
 by_cases h4:E<=jS l;rotate_left
 .have W:jS l<E:=by omega
  simp[T,W];exact aS ⟨by simp[oT,h4],rfl⟩
 have W:¬(jS l<E):=by omega
 by_cases Z:jS l<=J;rotate_left
 .have E:J<jS l:=by omega
  simp[T,W,E];exact aS ⟨by simp[oT,Z],rfl⟩
 have E:¬(J<jS l):=by omega
 simp[T,W,E];exact aS ⟨by simp[oT,h1,h2,T,h4,Z],rfl⟩
def parseInt_fn {l:aA} (E:l.length<=1048576):dA aE 18 [.str l] (.aX [.I (if oT l 0 1000000000000 then jS l else 0),.bool (oT l 0 1000000000000)]):=by refine fO F18 λc=>?_;simp[F18];refine bZ (pw_fn E) (.aX (by intro j a E;match j,E with|0,E=>cases E;exact .int|1,E=>cases E;exact .bool)) λ_ _=>?_;simp;exact aS ⟨rfl,rfl⟩
end A
end Go.Proofs.YtbdgahjfipdeoaaGreatDoor
namespace Go.Proofs.YtbdgahjfipdeoaaGreatDoor
namespace A
set_option maxRecDepth 100000
def mB (b:UInt8):Bool:=cT b.toNat 97 122||cT b.toNat 65 90||decide (b.toNat=95)
def kE (b:UInt8):Bool:=cT b.toNat 48 57
def wE (b:UInt8):IntKind.i64.wrap (b.toNat:Int)=b.toNat:=by have:=b.toNat_lt;exact wrap64 (by omega) (by omega)
def DW (b:UInt8):dA aE 61 [.int .u8 b.toNat] (.bool (mB b)):=by
 refine fO F61 λc=>?_;simp[F61,wE];refine bZ (fA _ _ _) .bool λ_ _=>?_;cases h1:cT b.toNat 97 122<;>simp[wE]
 .refine bZ (fA _ _ _) .bool λ_ _=>?_;cases h2:cT b.toNat 65 90<;>simp
  .exact aS ⟨by simp[mB,h1,h2];omega,rfl⟩
  .exact aS ⟨by simp[mB,h1,h2],rfl⟩
 .exact aS ⟨by simp[mB,h1],rfl⟩
def BV (b:UInt8):dA aE 62 [.int .u8 b.toNat] (.bool (kE b)):=by refine fO F62 λc=>?_;simp[F62,wE];refine bZ (fA _ _ _) .bool λ_ _=>?_;simp;exact aS ⟨rfl,rfl⟩
def nF (b:UInt8):Bool:=cT b.toNat 65 90||cT b.toNat 97 122
def isLetter_fn (b:UInt8):dA aE 71 [.int .u8 b.toNat] (.bool (nF b)):=by refine fO F71 λc=>?_;unfold F71 nF cT;by_cases T:(65:Int)<=b.toNat<;>by_cases J:(b.toNat:Int)<=90<;>by_cases E:(97:Int)<=b.toNat<;>simp[T,J,E]<;>exact aS (by simp)
def isDigit_fn (b:UInt8):dA aE 72 [.int .u8 b.toNat] (.bool (kE b)):=by refine fO F72 λc=>?_;unfold F72 kE cT;by_cases E:(48:Int)<=b.toNat<;>simp[E]<;>exact aS (by simp)
def WR (b:UInt8):mB b=(nF b||decide (b.toNat=95)):=by simp[mB,nF,Bool.or_comm (cT b.toNat 97 122)]
set_option maxRecDepth 100000
def inR_dgt (b:UInt8):cT b.toNat 48 57=pG b:=by unfold cT pG;congr 1<;>exact decide_eq_decide.2 (by omega)
def HD {l:aA} (hl:l.length<=mx):dA aE 209 [.str l] (.aX [.I (if kQ l then (gH l 0:Int) else 0),.bool (kQ l)]):=by
 refine fO F209 λc=>?_;unfold F209;simp;refine bZ (fA _ _ _) .bool λ_ _=>?_;cases hin:cT l.length 1 13
 .have:kQ l=false:=by
   have h:¬(1<=l.length/\l.length<=13):=λ⟨h1,h2⟩=>by
    have:cT l.length 1 13=true:=by simp[cT];omega
    rw[hin] at this;cases this
   unfold kQ;simp;omega
  simp;exact aS ⟨by simp[this],rfl⟩
 have hlen:1<=l.length/\l.length<=13:=by have:=mN hin;omega
 simp;refine b6 l.length (λi e H c'=>e 0=.str l/\e 4=.I (gH (l.take i) 0)/\e 5=.I i/\(l.take i).all pG=true/\H=[]) ⟨rfl,by simp[aK,gH],rfl,by simp,rfl⟩ ?_;intro i e H c' hi ⟨e0,e4,e5,hall,hH⟩ N hN;subst hH;have hbd:=YJ (l.take i) 0 hall;have hbd2:gH (l.take i) 0<10000000000000:=by
  have:10^(l.take i).length<=10^13:=Nat.pow_le_pow_right (by omega) (by simp;omega);omega
 by_cases h:i<l.length
 .have hx:l[i]?=some l[i]:=bC (by omega);have htk:l.take (i+1)=l.take i++[l[i]]:=nO (by omega);generalize l[i]=b at hx htk;have hstep:IntKind.i64.wrap ((i:Int)+1)=((i+1:Nat):Int):=by rw[wrap64 (by omega) (by omega)];rfl
  have hbl:=b.toNat_lt;simp[e0,e5,h,aL hx,wE];refine bZ (fA _ _ _) .bool λ_ _=>?_;have bad:pG b=false->kQ l=false:=λhb=>by
   have:l.all pG=false:=by
    rw[RE];exact⟨b,bA hx,by simp[hb]⟩
   unfold kQ;rw[this];simp
  rw[inR_dgt];cases hb:pG b
  .simp;have:=bad hb;exact aS ⟨by simp[this],rfl⟩
  have hb':=hb;simp only[pG,eY,decide_eq_true_eq] at hb';generalize hD:gH (l.take i) 0=D at e4 hbd2;have hw1:IntKind.i64.wrap (10*(D:Int))=((10*D:Nat):Int):=by rw[wrap64 (by omega) (by omega)];omega
  have hw2:IntKind.u8.wrap ((b.toNat:Int)-48)=((b.toNat-48:Nat):Int):=by rw[RF];omega
  have hw3:IntKind.i64.wrap ((b.toNat-48:Nat):Int)=((b.toNat-48:Nat):Int):=wrap64 (by omega) (by omega);have hw4:IntKind.i64.wrap (((10*D:Nat):Int)+((b.toNat-48:Nat):Int))=((10*D+(b.toNat-48):Nat):Int):=by rw[wrap64 (by omega) (by omega)];omega
  simp[e0,e4,e5,aL hx,hw1,hw2,hw3,hw4,hstep,-Int.natCast_add,-Int.natCast_mul];exact hN _ _ _ _ h (bY _) ⟨e0,by simp[aK,htk,YK,hD,gH,-Int.natCast_add,-Int.natCast_mul],by simp[aK,-Int.natCast_add],by rw[htk,GF,hall];simp[hb],rfl⟩
 .have hie:i=l.length:=by omega
  subst hie;rw[mU] at e4 hall hbd2;by_cases hk:gH l 0<=1000000000000;rotate_left
  .have hk':(1000000000000:Int)<(gH l 0:Int):=by omega
   have:kQ l=false:=by unfold kQ;simp[hk]
   simp[e0,e4,e5,hk'];exact aS ⟨by simp[this],rfl⟩
  have hk':¬((1000000000000:Int)<(gH l 0:Int)):=by omega
  simp[e0,e4,e5,hk'];refine bZ (SX (n:=gH l 0) (by omega)) .str λ_ _=>?_;by_cases hf:Lib.decDigits (gH l 0)=l
  .have:kQ l=true:=by unfold kQ;simp[hall,hf,hk,hlen.2];omega
   simp[e0,e4,hf];exact aS ⟨by simp[this],rfl⟩
  .have:kQ l=false:=by unfold kQ;simp[hf]
   simp[e0,hf];exact aS ⟨by simp[this],rfl⟩
def JF (n:Int) b {T}:Av T (.aX [.I n,.bool b]):=.aX λj a E=>by
 match j,E with
 |0,E=>cases E;exact .int
 |1,E=>cases E;exact .bool
def MU {l:aA} (hl:l.length<=mx):dA aE 176 [.str l] (.aX [.I ((pK l).getD 0),.bool (pK l).isSome]):=by
 refine fO F176 λc=>?_;unfold F176;have E:∀b:Bool,qY l=b->(b=true->∃r,l=45::r)->(b=false->mY l=l):=λb E Z W=>by subst W;unfold mY;rw[E];rfl
 cases hl0:l with
 |nil=>
  subst hl0;have E:pK []=none:=by decide
  simp;refine bZ (HD (l:=[]) (by decide)) (JF _ _) λ_ _=>?_;have:kQ []=false:=by decide
  simp[this];exact aS ⟨by rw[E];rfl,rfl⟩
 |cons b r=>
  subst hl0;have J:(0:Int)<((r.length:Int)+1):=by omega
  have T:r.length<=mx:=by simp at hl;omega
  have E:=b.toNat_lt;by_cases hb:b=45
  .subst hb;have e1:qY (45::r)=true:=rfl;have e2:mY (45::r)=r:=rfl;have E:pK (45::r)=if kQ r&&decide (gH r 0<=1000000000)&&!decide (gH r 0=0) then some (-(gH r 0:Int)) else none:=by
    unfold pK;rw[e1,e2];simp
   simp[J];refine bZ (HD T) (JF _ _) λ_ _=>?_;cases hp:kQ r
   .rw[hp] at E;simp;exact aS ⟨by rw[E];rfl,rfl⟩
   rw[hp] at E;by_cases Z:gH r 0<=1000000000;rotate_left
   .have T:(1000000000:Int)<(gH r 0:Int):=by omega
    simp[T];exact aS ⟨by rw[E];simp[Z],rfl⟩
   have T:¬((1000000000:Int)<(gH r 0:Int)):=by omega
   by_cases W:gH r 0=0
   .simp[W];exact aS ⟨by rw[E];simp[W],rfl⟩
   have hw:IntKind.i64.wrap (-(gH r 0:Int)) = -(gH r 0:Int):=wrap64 (by omega) (by omega);simp[T,W,hw];exact aS ⟨by rw[E];simp[Z,W],rfl⟩
  .have W:¬(b.toNat:Int)=45:=λh=>hb (zP.1 (by rw[show(45:UInt8).toNat=45 from rfl];omega));have e1:qY (b::r)=false:=by unfold qY;simp[hb]
   have e2:mY (b::r)=b::r:=by unfold mY;rw[e1];rfl
   have E:pK (b::r)=if kQ (b::r)&&decide (gH (b::r) 0<=1000000000) then some (gH (b::r) 0:Int) else none:=by
    unfold pK;rw[e1,e2];simp
   simp[J,W];refine bZ (HD (l:=b::r) hl) (JF _ _) λ_ _=>?_;generalize b::r=l at E ⊢;cases hp:kQ l
   .rw[hp] at E;simp;exact aS ⟨by rw[E];rfl,rfl⟩
   rw[hp] at E;by_cases Z:gH l 0<=1000000000;rotate_left
   .have T:(1000000000:Int)<(gH l 0:Int):=by omega
    simp[T,W];exact aS ⟨by rw[E];simp[Z],rfl⟩
   have T:¬((1000000000:Int)<(gH l 0:Int)):=by omega
   simp[T,W];exact aS ⟨by rw[E];simp[Z],rfl⟩
def specFmtN_fn {m:Nat} (h0:0<m) (h1:m<=1000000000000000000):dA aE 116 [.int .i64 (-(m:Int))] (.str (45::Lib.decDigits m)):=by
 refine fO K8 λc=>?_
 unfold K8
 have hn':¬(m:Int)=0:=by omega
 have hlt:-(m:Int)<0:=by omega
 have hpos:0<m:=h0
 have hm0:¬m=0:=by omega
 simp[hm0]
 refine b6 19 (λi e H c'=>∃(x:Nat) (s:aA),e 0=.int .i64 (-(m:Int))/\e 4=.int .i64 (-(x:Int))/\e 3=.str s/\s.length=i/\x*10^i<=m/\(if x=0 then s else Lib.decDigits x++s)=Lib.decDigits m/\H=[]) ?_ ?_
 .exact⟨m,[],rfl,rfl,rfl,rfl,by simp,by simp;omega,rfl⟩
 intro i e H c hi ⟨x,s,e0,e4,e3,hl,hx,hd,hH⟩ N hN
 subst hH
 by_cases h:x=0
 .subst h
  simp at hd
  subst hd
  have hm1:1+(Lib.decDigits m).length<=mx:=by have:=BY (u:=m) (by omega);unfold mx;omega
  simp[e0,e3,e4,hpos,hm1]
  exact aS ⟨rfl,rfl⟩
 rw[if_neg h] at hd
 have hi':i<19:=by
  rcases iA i 19 with h1|h1
  .exact h1
  .have:i=19:=by omega
   subst this
   omega
 have hx':¬(x:Int)=0:=by omega
 have hxn:x<=m:=cL (Nat.le_mul_of_pos_right x (QZ (by simp))) hx
 have h10:(-(x:Int)).tmod 10 = -((x%10:Nat):Int):=by rw[Int.neg_tmod,Int.tmod_eq_emod_of_nonneg (by omega)];omega
 have hq:(-(x:Int)).tdiv 10 = -((x/10:Nat):Int):=by rw[Int.neg_tdiv,Int.tdiv_eq_ediv_of_nonneg (by omega)];omega
 have h48:(48:Int)+((x%10:Nat):Int)=((48+x%10:Nat):Int):=by omega
 have hw:IntKind.u8.wrap (IntKind.i64.wrap (48+((x%10:Nat):Int)))=((UInt8.ofNat (48+x%10)).toNat:Int):=by rw[h48];exact wrap_u8 (by omega)
 have hm1:1+s.length<=mx:=by unfold mx;omega
 have hq':IntKind.i64.wrap (-((x/10:Nat):Int)) = -((x/10:Nat):Int):=wrap64 (by omega) (by omega)
 have hnn:IntKind.i64.wrap (-(-((x%10:Nat):Int)))=((x%10:Nat):Int):=by rw[wrap64 (by omega) (by omega)];omega
 have hnn':IntKind.i64.wrap ((x%10:Nat):Int)=((x%10:Nat):Int):=by rw[wrap64 (by omega) (by omega)]
 by_cases hz:x%10=0
 .rw[hz] at h10 hw
  simp at h10 hw
  simp[e4,h,h10]
  refine yF (l:=[UInt8.ofNat (48+x%10)]) (by rw[hz];rfl) rfl (by simp[mx]) ?_
  simp[e3,e4,hm1,hq,hq',-Int.natCast_ediv]
  refine hN _ _ [] _ hi' (by simp) ⟨x/10,UInt8.ofNat (48+x%10)::s,by simp[aK,e0],by simp[aK],by simp[aK],by simp[hl],?_,?_,rfl⟩
  .refine cL ?_ hx
   rw[FU,FV (10^i) 10,<-Q1]
   exact uQ _ (Nat.div_mul_le_self x 10)
  .have hdx:Lib.decDigits x=if h:x<10 then [UInt8.ofNat (48+x)] else Lib.decDigits (x/10)++[UInt8.ofNat (48+x%10)]:=by rw[Lib.decDigits]
   rw[<-hd,hdx]
   by_cases h9:x<10
   .omega
   .rw[dif_neg h9,if_neg (by omega)];simp
 have hneg:-((x%10:Nat):Int)<0:=by omega
 have hposx:(0:Int)<((x%10:Nat):Int):=by omega
 have hposn:0<x%10:=by omega
 simp[e4,h,h10,hnn',hposn,-Int.natCast_emod]
 refine yF (l:=[UInt8.ofNat (48+x%10)]) (by rw[hw];rfl) rfl (by simp[mx]) ?_
 simp[e3,e4,hm1,hq,hq',-Int.natCast_ediv]
 refine hN _ _ [] _ hi' (by simp) ⟨x/10,UInt8.ofNat (48+x%10)::s,by simp[aK,e0],by simp[aK],by simp[aK],by simp[hl],?_,?_,rfl⟩
 .refine cL ?_ hx
  rw[FU,FV (10^i) 10,<-Q1]
  exact uQ _ (Nat.div_mul_le_self x 10)
 .have hdx:Lib.decDigits x=if h:x<10 then [UInt8.ofNat (48+x)] else Lib.decDigits (x/10)++[UInt8.ofNat (48+x%10)]:=by rw[Lib.decDigits]
  rw[<-hd,hdx]
  by_cases h9:x<10
  .have:x/10=0:=by omega
   rw[dif_pos h9,if_pos this,Nat.mod_eq_of_lt h9];rfl
  .rw[dif_neg h9,if_neg (by omega)];simp
def SY {n:Int} (E:-1000000000000000000<=n) (E:n<=1000000000000000000):dA aE 116 [.I n] (.str (Lib.itoa n)):=by
 by_cases h:n<0
 .obtain⟨m,rfl⟩:∃m:Nat,n = -(m:Int):=⟨n.natAbs,by omega⟩
  rw[Lib.itoa_neg m (by omega)];exact specFmtN_fn (by omega) (by omega)
 .obtain⟨m,rfl⟩:∃m:Nat,n=(m:Int):=⟨n.toNat,by omega⟩
  rw[Lib.itoa_nonneg];exact SX (by omega)
set_option maxRecDepth 100000
def thenQ_then (X K:Env->aC->Nat->Prop) (Q:kU):iO X (iO K Q)=iO X Q:=by funext x;cases x<;>rfl
def dT {P} {A B C:IR} {Q} {e} {H} {c}:cC P (A.seq (B.seq C)) Q e H c=cC P ((A.seq B).seq C) Q e H c:=by show cC P A (iO (cC P B (iO (cC P C Q) Q)) Q) e H c=cC P A (iO (cC P B (iO (cC P C Q) Q)) (iO (cC P C Q) Q)) e H c;rw[thenQ_then]
def call_pairS {P} {K:aD} {f} {l l'} {a b:aH} {H:aC} {i c:Nat} {Q:aD} (hi:H[i]?=some a) (hf:cA P f l' [a,b] c Q) (J:fG [] l l')
  (k:∀r O T,c<=T->Q r O T->∃E W,O=[E,b]/\(E.tag=a.tag\/c<=E.tag)/\View [] r W/\Av [] W/\iX [] E/\iX [] b/\K W (H.set i E++[b]) T):bO P f l (H++[b]) c K:=by
 intro hn hlt;obtain⟨h1,h2⟩:=J.spec;obtain⟨J,Z⟩:=bQ.1 hi;have e:H=H.take i++a::H.drop (i+1):=by rw[<-Z,<-uS J,wA]
 have e2:∀x,H.set i x=H.take i++x::H.drop (i+1):=λx=>by rw[List.set_eq_take_append_cons_drop,if_pos J]
 have J:[a,b].Sublist (H++[b]):=by
  have:[a].Sublist H:=by rw[CP];exact bA hi
  exact this.append (bY [b])
 refine⟨[a,b],[],l',Q,J,by simp,by simp[aV],h1,h2,hf,λr O T hc J ho hd=>?_⟩;obtain⟨E,W,rfl,ht,k1,k2,k3,k3b,k4⟩:=k r O T hc J;have T:(aV (H.take i)++a.tag::(aV (H.drop (i+1))++[b.tag])).Nodup:=by
  have e3:aV (H++[b])=aV (H.take i)++a.tag::(aV (H.drop (i+1))++[b.tag]):=by
   conv=>lhs;rw[e]
   simp[aV]
  rw[<-e3];exact hn
 have J:∀t,t∈aV (H.take i)++a.tag::(aV (H.drop (i+1))++[b.tag])->t<c:=λt ht'=>hlt t (by
  have e3:aV (H++[b])=aV (H.take i)++a.tag::(aV (H.drop (i+1))++[b.tag]):=by
   conv=>lhs;rw[e]
   simp[aV]
  rw[e3];exact ht')
 have et:aV (H.set i E++[b])=aV (H.take i)++E.tag::(aV (H.drop (i+1))++[b.tag]):=by rw[e2];simp[aV]
 refine⟨H.set i E++[b],W,λo h=>?_,?_,k1,k2,λo _ h=>?_,k4⟩
 .obtain⟨n1,n2,W⟩:=mI.1 T;obtain⟨n4,n5⟩:=qA.1 n2;obtain⟨E,E,n8⟩:=mI.1 n5;rw[e2] at h;simp only[zY,zX,dI,fK,nQ,or_false] at h;rcases h with h|rfl|h|rfl
  .refine .inr ⟨by rw[e];simp[h],?_⟩;simp only[aV,gJ,xY,fK,nQ,or_false,not_or];exact⟨λE=>W _ (iJ h) _ kB E,λE=>W _ (iJ h) _ (iI _ (wC _ kB)) E⟩
  .exact .inl kB
  .refine .inr ⟨by rw[e];simp[h],?_⟩;simp only[aV,gJ,xY,fK,nQ,or_false,not_or];exact⟨λE=>n4 (kC _ (E▸iJ h)),λE=>n8 _ (iJ h) _ kB E⟩
  .exact .inl (iI _ kB)
 .rw[et];rcases ht with ht|ht
  .rw[ht];exact T
  .obtain⟨n1,n2,W⟩:=mI.1 T;obtain⟨n4,n5⟩:=qA.1 n2;refine mI.2 ⟨n1,qA.2 ⟨λh=>?_,n5⟩,λx E y Z=>?_⟩
   .have:=J _ (wC _ (iI _ h));omega
   .rcases fK.1 Z with rfl|Z
    .have:=J _ (kC _ E);omega
    .exact W _ E _ (iI _ Z)
 .simp only[fK,nQ,or_false] at h;rcases h with rfl|rfl
  .exact k3
  .exact k3b
def VH {H:aC} {i:Nat} {x a o:aH} (T:H[i]?=some a) (W:o∈H) (E:o≠a):o∈H.set i x:=by
 obtain⟨j,J⟩:=lS.1 W;have:i≠j:=λe=>by rw[e] at T;rw[T] at J;cases J;exact E rfl
 exact lS.2 ⟨j,by rw[uR this];exact J⟩
def callF_fnv {P} {H} {c} {K:aD} {f} {l l'} {res} (W:dA P f l' res) (T:fG H l l') (E:Av (aV H) res) (k:∀J,c<=J->K res H J):zC P f l H c K:=⟨l',res,T,W,E,k⟩
def gK {P} {A B:IR} {Q} {e} {H} {c} (R:Env->aC->Nat->Prop) (E:∀e H c,R e H c->cC P B Q e H c)
  (J:∀K:Env->aC->Nat->Prop,(∀e H c,R e H c->K e H c)->cC P A (iO K Q) e H c):cC P (A.seq B) Q e H c:=J _ E
def E6 {P:Program} {A:IR} {Q:kU} {id:Nat} {e:Env} {H:aC} {c:Nat} (h:cC P A (uF id Q) e H c):cC P (.block id A) Q e H c:=h
set_option maxRecDepth 100000
def VO {H:aC} {d:TypeDesc} {z k} {i tag:Nat} {aN} {w} {K:AV->Prop} (T:lC d k=true) (E:H[i]?=some ⟨true,tag,w,aN⟩) (J:jM k aN 0=some none) (h:K z):rG d z false (.jG i tag) k H K:=
 ⟨T,_,E,rfl,rfl,by rw[J];exact h⟩
def VN {H:aC} {d:TypeDesc} {z k v} {i tag j:Nat} {aN} {w} {K:AV->Prop} (T:lC d k=true) (E:H[i]?=some ⟨true,tag,w,aN⟩) (J:jM k aN 0=some (some (j,v))) (h:K v):rG d z false (.jG i tag) k H K:=
 ⟨T,_,E,rfl,rfl,by rw[J];exact h⟩
def VD {H:aC} {c} {d:TypeDesc} {k v} {i tag:Nat} {aN:aF (aF AV)} {w} {K:aD} (W:lC d k=true) (E:H[i]?=some ⟨true,tag,w,aN⟩) (J:jM k aN 0=some none) (T:aN.length<mx) (h:K .dS (H.set i ⟨true,tag,w,aN++[[k,v]]⟩) c):A6 d (.jG i tag) k v H c K:=
 ⟨W,_,E,rfl,rfl,by rw[J];exact⟨T,h⟩⟩
def nodup_snoc {α:Type} {l:aF α} {x:α} (h:l.Nodup) (E:x∉l):(l++[x]).Nodup:=mI.2 ⟨h,by simp,λa T b J=>by rw[rY.1 J];exact λe=>E (e▸T)⟩
def nodup_at {α:Type} {l:aF α} {i:Nat} {x:α} (J:l[i]?=some x) (T:x∈l.take i):¬l.Nodup:=λh=>by
 obtain⟨W,E⟩:=bQ.1 J;have e:l=l.take i++x::l.drop (i+1):=by rw[<-E,<-uS W,wA]
 rw[e] at h;exact(mI.1 h).2.2 x T x (kB ..) rfl
set_option maxRecDepth 100000
def aO.xD {p:aO->Prop} (h:∀v:aO,(∀e,e∈v.bF.aG->p e.2)->p v):∀v,p v:=aO.ind λk n s x I E=>h _ E
def spec_isKey {k:bX} (E:k.dN.length<=1048576):dA aE 147 [.agg k.enc] (.bool (isKey k)):=by
 refine fO F147 λc=>?_;unfold F147;cases hT:k.bR
 .simp[hT];refine bZ (fA _ _ _) .bool λ_ _=>?_;cases T:cT k.bN (-1000000000) 1000000000
  .simp;exact aS ⟨by simp[isKey,hT,T],rfl⟩
  .simp;exact aS ⟨by simp[isKey,hT,T],rfl⟩
 .simp[hT];refine bZ (MU (by unfold mx;omega)) (JF _ _) λ_ _=>?_;by_cases J:k.bN=0
  .by_cases T:k.dN.length<=400
   .have E:(k.dN.length:Int)<=400:=by omega
    simp[J,E];exact aS ⟨by simp[isKey,hT,J,T],rfl⟩
   .have E:¬(k.dN.length:Int)<=400:=by omega
    simp[J,E];exact aS ⟨by simp[isKey,hT,J,T],rfl⟩
  .simp[J];exact aS ⟨by simp[isKey,hT,J],rfl⟩
def WJ (v:aO):v.bF.aG.length<=v.sz:=by rw[aO.C0];omega
def WI {v:aO} {e:bX×aO} (E:e∈v.bF.aG):e.1.dN.length+e.2.sz<=v.sz:=by have:=AR (sz:=kN) E;have E:kN e=e.1.dN.length+e.2.sz:=rfl;rw[aO.C0 v];omega
def wt_arr {v:aO} (h:v.aJ=4):v.wt=1+bE eT v.bF.aG:=by rw[aO.uV,if_pos h]
def wt_one {v:aO} (h:v.aJ≠4):v.wt=1:=by rw[aO.uV,if_neg h]
def SU:∀v:aO,v.sz<=1099511627776->∀most:Nat,most<=200->Tr aE 114 [.agg v.enc,.I most] λ_ r=>∃n:Nat,r=.I n/\n<=v.wt/\(v.wt<=most->n=v.wt)/\(most<v.wt->most<n):=by
 refine aO.xD (p:=λv=>v.sz<=1099511627776->∀most:Nat,most<=200->Tr aE 114 [.agg v.enc,.I most] λ_ r=>∃n:Nat,r=.I n/\n<=v.wt/\(v.wt<=most->n=v.wt)/\(most<v.wt->most<n)) λv ih hz most hm=>?_;intro c;refine cO F114 ?_;unfold F114;by_cases h4:v.aJ=4;rotate_left
 .simp;refine b6 0 (λi e H c'=>e 2=.ptr 0 c 5 0 0/\e 5=.I 1/\H=[⟨false,c,5,[v.enc]⟩]) ⟨rfl,rfl,rfl⟩ ?_;intro i e H c' hi ⟨e2,e5,hH⟩ N hN;subst hH;simp[e2,e5,h4];exact aS ⟨rfl,⟨1,rfl,by rw[wt_one h4];exact⟨bB _,λ_=>rfl,λh=>h⟩⟩,by simp⟩
 have hwt:=wt_arr h4;have hwl:=aO.wt_le v;have hil:=WJ v;simp;refine b6 v.bF.aG.length (λi e H c'=>∃n:Nat,e 1=.I most/\e 2=.ptr 0 c 5 0 0/\e 5=.I n/\e 6=.I i/\n<=1+bE eT (v.bF.aG.take i)/\(1+bE eT (v.bF.aG.take i)<=most->n=1+bE eT (v.bF.aG.take i))/\(most<1+bE eT (v.bF.aG.take i)->most<n)/\H=[⟨false,c,5,[v.enc]⟩]) ⟨1,rfl,rfl,rfl,rfl,by simp[bE],by simp[bE],by simp[bE],rfl⟩ ?_;intro i e H c' hi ⟨n,e1,e2,e5,e6,hn,hn1,hn2,hH⟩ N hN;subst hH;have hle0:=HA eT v.bF.aG i;by_cases h:i<v.bF.aG.length
 .have hx:v.bF.aG[i]?=some v.bF.aG[i]:=bC h;have hst:=SA eT v.bF.aG h;have hle:=HA eT v.bF.aG (i+1);have hxm:v.bF.aG[i]∈v.bF.aG:=oR h;generalize v.bF.aG[i]=x at hx hst hxm;have hwx:eT x=x.2.wt:=rfl;by_cases hle2:n<=most
  .have hle2':(n:Int)<=(most:Int):=by omega
   have hw1:IntKind.i64.wrap ((most:Int)-(n:Int))=((most-n:Nat):Int):=by rw[wrap64 (by omega) (by omega)];omega
   simp[e1,e2,e5,e6,h4,h,hle2,aL hx,hw1];refine E0 (ih x hxm (by have:=WI hxm;omega) (most-n) (by omega)) λr c2 _ ⟨m,hr,m1,m2,m3⟩ _=>?_;subst hr;have hw:IntKind.i64.wrap ((n:Int)+(m:Int))=((n+m:Nat):Int):=by rw[wrap64 (by omega) (by omega)];omega
   simp[e6,hw,-Int.natCast_add];exact hN _ _ [_] _ h (by simp) ⟨n+m,e1,e2,rfl,by simp[aK];exact cD (by unfold mx;omega) h,by omega,by omega,by omega,rfl⟩
  .have hle2':¬(n:Int)<=(most:Int):=by omega
   simp[e1,e2,e5,e6,h4,h,hle2];exact aS ⟨rfl,⟨n,rfl,by omega,by omega,by omega⟩,by simp⟩
 .have hie:i=v.bF.aG.length:=by omega
  subst hie;rw[mU] at hn hn1 hn2;simp[e2,e5,e6,h4];exact aS ⟨rfl,⟨n,rfl,by omega,by omega,by omega⟩,by simp⟩
def TF (l:aF bX):aF (aF AV):=l.map λk=>[.agg k.enc,.bool true]
def keyEq_k (a b:bX):iM (.agg a.enc) (.agg b.enc)=some (decide (a=b)):=by obtain⟨a1,a2,Z⟩:=a;obtain⟨J,E,W⟩:=b;simp only[bX.enc,iM,if_true,EP,bX.mk.injEq];congr 1;by_cases T:a1=J<;>by_cases J:a2=E<;>by_cases E:Z=W<;>simp[T,J,E]
def mfK_no {k:bX}:∀(l:aF bX) (i:Nat),k∉l->jM (.agg k.enc) (TF l) i=some none
 |[],_,_=>rfl
 |p::l,i,h=>by
  simp only[fK,not_or] at h;simp only[TF,gJ,jM,keyEq_k,h.1,decide_false];exact mfK_no l (i+1) h.2
def gd_scalar {v:aO} (E:v.aJ≠4) (hs:v.aJ≠3->v.dN=[]) (J:v.Next=0/\v.bF.aG=[]):v.gd↔0<=v.aJ/\v.aJ<=8/\v.aJ≠5/\(v.aJ=0->v.bN=0)/\(v.aJ=1->v.bN=0\/v.bN=1)/\(v.aJ=2->cT v.bN (-1000000000) 1000000000=true)/\(v.aJ=3->v.bN=0/\v.dN.length<=400)/\(v.aJ=6\/v.aJ=7\/v.aJ=8->cT v.bN 0 255=true):=by rw[BJ];exact⟨λh=>⟨h.k0,h.k8,h.k5,h.n0,h.n1,h.n2,h.n3,h.n6⟩,λ⟨a,b,c,d,e,f,g,h⟩=>⟨a,b,c,hs,λ_=>J,d,e,f,g,h,λk=>absurd k E,λk=>absurd k E,λk=>absurd k E,λk=>absurd k E,λk=>absurd k E⟩⟩
def gd_arr {v:aO} (J:v.aJ=4) (hs:v.dN=[]):v.gd↔v.bN=0/\cT v.Next 0 1000000001=true/\(v.bF.aG.map Prod.fst).Nodup/\(∀e,e∈v.bF.aG->isKey e.1=true/\(e.1.bR=false->e.1.bN<v.Next)/\e.2.gd):=by
 rw[BJ];constructor
 .intro h;exact⟨h.a0 J,h.a1 J,h.a2 J,λe E=>⟨(h.a3 J e E).1,(h.a3 J e E).2,h.a4 J e E⟩⟩
 .rintro⟨a,b,c,d⟩;exact⟨by omega,by omega,by omega,λ_=>hs,λk=>absurd J k,by omega,by omega,by omega,by omega,by omega,λ_=>a,λ_=>b,λ_=>c,λ_ e E=>⟨(d e E).1,(d e E).2.1⟩,λ_ e E=>(d e E).2.2⟩
def kK {α:Type} [DecidableEq α] (s:α):aF α->Nat->Int
 |[],_=>-1
 |x::l,i=>if x=s then i else kK s l (i+1)
def firstAt_go {α:Type} [DecidableEq α] {s:α} {l:aF α} {i:Nat} {x:α} (hx:l[i]?=some x):kK s (l.drop i) i=if x=s then (i:Int) else kK s (l.drop (i+1)) (i+1):=by obtain⟨E,rfl⟩:=bQ.1 hx;rw[uS E];rfl
def XW {α:Type} [DecidableEq α] {s:α}:∀(l:aF α) (i k:Nat),l[k]?=some s->s∉l.take k->kK s l i=((i+k:Nat):Int)
 |[],_,_,h,_=>by simp at h
 |x::l,i,0,h,_=>by simp at h;simp[kK,h]
 |x::l,i,k+1,h,E=>by
  simp at h E;rw[kK,if_neg (λe=>E.1 e.symm),XW l (i+1) k h E.2];congr 1;omega
def XV {α:Type} [DecidableEq α] {s:α}:∀(l:aF α) (i k:Nat),s∈l.take k->kK s l i<((i+k:Nat):Int)
 |[],_,_,h=>by simp at h
 |x::l,i,0,h=>by simp at h
 |x::l,i,k+1,h=>by
  rw[kK];split
  .omega
  .rename_i E;simp only[List.take_succ_cons,fK] at h;have:=XV l (i+1) k (h.resolve_left λe=>E e.symm);omega
def eqKeyC (a b:bX):oI a.enc b.enc=some (decide (a=b)):=by obtain⟨a1,Z,W⟩:=a;obtain⟨T,J,E⟩:=b;simp only[bX.enc,oI,iM,bX.mk.injEq];cases h1:(a1==T)<;>cases h2:(Z==J)<;>cases h3:(W==E)<;>simp only[beq_iff_eq,beq_eq_false_iff_ne] at h1 h2 h3<;>simp[h1,h2,h3]
@[simp high] theorem beqK neg (a b:bX) (K:AV->Prop):xR neg [2,0,1] (.agg a.enc) (.agg b.enc) K=K (.bool (decide (a=b) !=neg)):=by
 unfold xR;have e:pB [2,0,1] a.enc=true:=by simp[bX.enc,pB]
 simp only[e,eqKeyC,true_and]
def VZ {v:aO} (Z:v.aJ=4) (E:v.bF.aG.length<=1048576) (k:bX):dA aE 148 [.agg v.enc,.agg k.enc] (.I (kK k (v.bF.aG.map Prod.fst) 0)):=by
 refine fO K6 λc=>?_;simp[K6];refine b6 v.bF.aG.length (λi e H E=>e 2=.ptr 0 c 5 0 0/\e 3=.ptr 1 (c+1) 3 0 0/\e 5=.I i/\kK k (v.bF.aG.map Prod.fst) 0=kK k ((v.bF.aG.map Prod.fst).drop i) i/\H=[⟨false,c,5,[v.enc]⟩,⟨false,c+1,3,[k.enc]⟩]) ⟨rfl,rfl,rfl,by simp,rfl⟩ ?_;intro i e H E E ⟨T,e3,e5,J,E⟩ N hN;subst E;by_cases h:i<v.bF.aG.length
 .obtain⟨x,W⟩:∃x,v.bF.aG[i]?=some x:=⟨_,bC h⟩
  have E:(v.bF.aG.map Prod.fst)[i]?=some x.1:=by simp[W]
  rw[firstAt_go E] at J;by_cases E:x.1=k
  .simp[T,e3,e5,Z,h,aL W,E,-Z7];rw[J,if_pos E];exact aS ⟨rfl,rfl⟩
  .simp[T,e3,e5,Z,h,aL W,E,-Z7];rw[if_neg E] at J;exact hN _ _ _ _ h (bY _) ⟨T,e3,by simp[aK];exact cD (by unfold mx;omega) h,J,rfl⟩
 .have E:i=v.bF.aG.length:=by omega
  subst E;simp[T,e5,Z];rw[J,List.drop_of_length_le (by simp)];exact aS ⟨rfl,rfl⟩
set_option maxHeartbeats 4000000 in
def spec_wf0 (v:aO) (h4:¬(v.aJ=4/\v.dN=[])):dA aE 115 [.agg v.enc] (.bool (vA v.gd)):=by
 refine fO K9 λc=>?_;unfold K9;by_cases J:v.aJ≠3/\v.dN≠[]
 .simp[J.1,J.2];exact aS ⟨by rw[mK λh=>J.2 (((BJ v).1 h).s3 J.1)],rfl⟩
 have E:v.aJ≠3->v.dN=[]:=λh=>yB λW=>J ⟨h,W⟩;by_cases J:v.aJ≠4/\(v.Next≠0\/v.bF.aG≠[])
 .have no:¬v.gd:=λh=>by
   have:=((BJ v).1 h).x4 J.1;rcases J.2 with W|W
   .exact W this.1
   .exact W this.2
  by_cases Z:v.aJ=3
  .by_cases T:v.Next=0
   .have hl:0<v.bF.aG.length:=r7.2 (J.2.resolve_left (λh=>h T));simp[Z,T,hl];exact aS ⟨by rw[mK no],rfl⟩
   .simp[Z,T];exact aS ⟨by rw[mK no],rfl⟩
  .by_cases T:v.Next=0
   .have hl:0<v.bF.aG.length:=r7.2 (J.2.resolve_left (λh=>h T));simp[Z,E Z,J.1,T,hl];exact aS ⟨by rw[mK no],rfl⟩
   .simp[Z,E Z,J.1,T];exact aS ⟨by rw[mK no],rfl⟩
 have hx4:v.aJ≠4->v.Next=0/\v.bF.aG=[]:=λh=>⟨yB λW=>J ⟨h,.inl W⟩,yB λW=>J ⟨h,.inr W⟩⟩
 replace h4:v.aJ≠4:=λh=>h4 ⟨h,E (by omega)⟩
 .obtain⟨J,T⟩:=hx4 h4;have sc:=gd_scalar h4 E ⟨J,T⟩;by_cases h0:v.aJ=0
  .simp[h0,E (by omega),J,T];exact aS ⟨by rw[DH (b:=decide (v.bN=0)) (by rw[sc,decide_eq_true_iff];omega)],rfl⟩
  by_cases h1:v.aJ=1
  .simp[h1,E (by omega),J,T];refine bZ (fA _ _ _) .bool λ_ _=>?_;simp;exact aS ⟨by rw[DH (b:=cT v.bN 0 1) (by rw[sc];simp only[cT,eY,decide_eq_true_eq];omega)],rfl⟩
  by_cases W:v.aJ=2
  .simp[W,E (by omega),J,T];refine bZ (fA _ _ _) .bool λ_ _=>?_;simp;exact aS ⟨by rw[DH (b:=cT v.bN (-1000000000) 1000000000) (by rw[sc];exact⟨λh=>⟨by omega,by omega,by omega,by omega,by omega,λ_=>h,by omega,by omega⟩,λh=>h.2.2.2.2.2.1 W⟩)],rfl⟩
  by_cases Z:v.aJ=3
  .by_cases n0:v.bN=0
   .simp[Z,J,T,n0];exact aS ⟨by rw[DH (b:=decide (v.dN.length<=400)) (by rw[sc,decide_eq_true_iff];omega)];congr 1;exact decide_eq_decide.2 (by omega),rfl⟩
   .simp[Z,J,T,n0];exact aS ⟨by rw[mK λh=>n0 ((sc.1 h).2.2.2.2.2.2.1 Z).1],rfl⟩
  by_cases h6:v.aJ=6\/v.aJ=7\/v.aJ=8
  .have key:vA v.gd=cT v.bN 0 255:=DH (by rw[sc];exact⟨λh=>⟨by omega,by omega,by omega,by omega,by omega,by omega,by omega,λ_=>h⟩,λh=>h.2.2.2.2.2.2.2 h6⟩);rcases h6 with h6|h6|h6<;>
   .simp[h6,E (by omega),J,T];refine bZ (fA _ _ _) .bool λ_ _=>?_;simp;exact aS ⟨by rw[key],rfl⟩
  .have h6':¬v.aJ=6:=by omega
   have h7':¬v.aJ=7:=by omega
   have h8':¬v.aJ=8:=by omega
   simp[h0,h1,W,Z,h4,h6',h7',h8',E (by omega),J,T];exact aS ⟨by rw[mK λh=>by have:=sc.1 h;omega],rfl⟩
set_option maxHeartbeats 4000000 in
def spec_wf:∀v:aO,v.sz<=1048576->dA aE 115 [.agg v.enc] (.bool (vA v.gd)):=by
 refine aO.xD (p:=λv=>v.sz<=1048576->dA aE 115 [.agg v.enc] (.bool (vA v.gd))) λv ih E=>?_;by_cases J:v.aJ=4/\v.dN=[]
 rotate_left
 .exact spec_wf0 v J
 obtain⟨Z,E⟩:=J;refine fO K9 λc=>?_;unfold K9;have J:=WJ v;have ar:=gd_arr Z E;by_cases n0:v.bN=0;rotate_left
 .simp[Z,E,n0];exact aS ⟨by rw[mK λh=>n0 (ar.1 h).1],rfl⟩
 simp[Z,E,n0];refine bZ (fA _ _ _) .bool λ_ _=>?_;cases hR:cT v.Next 0 1000000001
 .simp;exact aS ⟨by rw[mK λh=>by have:=(ar.1 h).2.1;rw[hR] at this;cases this],rfl⟩
 simp;refine b6 v.bF.aG.length (λi e H E=>e 1=.ptr 0 c 5 0 0/\e 3=.I i/\((v.bF.aG.map Prod.fst).take i).Nodup/\(∀x,x∈v.bF.aG.take i->isKey x.1=true/\(x.1.bR=false->x.1.bN<v.Next)/\x.2.gd)/\H=[⟨false,c,5,[v.enc]⟩]) ⟨rfl,rfl,by simp,by simp,rfl⟩ ?_;intro i e H E J ⟨e1,e3,hnd,hall,J⟩ N hN;subst J;by_cases h:i<v.bF.aG.length
 .have hx:v.bF.aG[i]?=some v.bF.aG[i]:=bC h;have htk:v.bF.aG.take (i+1)=v.bF.aG.take i++[v.bF.aG[i]]:=nO h;have W:v.bF.aG[i]∈v.bF.aG:=oR h;generalize v.bF.aG[i]=x at hx htk W;have J:=WI W;have J:(v.bF.aG.map Prod.fst)[i]?=some x.1:=by simp[hx]
  have hkt:(v.bF.aG.map Prod.fst).take (i+1)=(v.bF.aG.map Prod.fst).take i++[x.1]:=by obtain⟨T,h2⟩:=bQ.1 J;rw[nO T,h2]
  simp[e1,e3,h,aL hx];refine bZ (spec_isKey (by omega)) .bool λ_ _=>?_;cases hk:isKey x.1
  .simp;exact aS ⟨by rw[mK λhh=>by have:=((ar.1 hh).2.2.2 x W).1;rw[hk] at this;cases this],rfl⟩
  simp;have hfi:kK x.1 (v.bF.aG.map Prod.fst) 0=if x.1∈(v.bF.aG.map Prod.fst).take i then kK x.1 (v.bF.aG.map Prod.fst) 0 else (i:Int):=by
   split
   .rfl
   .rename_i hn;rw[XW _ 0 i J hn];simp
  have rest:(x.1.bR=false->x.1.bN<v.Next)->∀(K:aD) (H:aC) (c:Nat),(∀n:Int,n≠i->¬v.gd->∀E,K (.I n) H E)->(x.1∉(v.bF.aG.map Prod.fst).take i->∀E,K (.I i) H E)->bO aE 148 [.agg v.enc,.agg x.1.enc] H c K:=λT K H c k1 k2=>by
   refine bZ (VZ Z (by omega) x.1) .int λE _=>?_;by_cases hm:x.1∈(v.bF.aG.map Prod.fst).take i
   .refine k1 _ ?_ (λhh=>?_) E
    .have Z:=hm
     skip
     have:=XV _ 0 i Z;omega
    .exact nodup_at J hm (ar.1 hh).2.2.1
   .rw[hfi,if_neg hm];exact k2 hm E
  have Z:∀(K:aD) (H:aC) (c:Nat),(x.2.gd->∀E,K (.bool true) H E)->(¬x.2.gd->∀E,K (.bool false) H E)->bO aE 115 [.agg x.2.enc] H c K:=λK H c k1 k2=>by
   refine bZ (ih x W (by omega)) .bool λE _=>?_;by_cases J:x.2.gd
   .rw[HU J];exact k1 J E
   .rw[mK J];exact k2 J E
  by_cases T:x.1.bR=false->x.1.bN<v.Next;rotate_left
  .obtain⟨ht,hlt2⟩:x.1.bR=false/\¬x.1.bN<v.Next:=⟨yB λh=>T λh2=>absurd h2 h,λh=>T λ_=>h⟩
   have hle:v.Next<=x.1.bN:=by omega
   simp[e1,ht,hle];exact aS ⟨by rw[mK λhh=>T ((ar.1 hh).2.2.2 x W).2.1],rfl⟩
  have fin1:∀e E ob,x.1∉(v.bF.aG.map Prod.fst).take i->x.2.gd->e 1=.ptr 0 c 5 0 0->e 3=.I ((i:Int)+1)->N e [⟨false,c,5,[v.enc]⟩,ob] E:=λe E ob hm J e1 e3=>by
   refine hN _ _ [⟨false,c,5,[v.enc]⟩] _ h (by simp) ⟨e1,e3,?_,?_,rfl⟩
   .rw[hkt];exact nodup_snoc hnd hm
   .intro y hy;rw[htk,dI,rY] at hy;rcases hy with hy|rfl
    .exact hall y hy
    .exact⟨hk,T,J⟩
  cases ht:x.1.bR
  .have hle:¬v.Next<=x.1.bN:=by have:=T ht;omega
   simp[e1,hle];refine rest T _ _ _ (λn hn J E=>?_) λhm E=>?_
   .simp[e3,hn];exact aS ⟨by rw[mK J],rfl⟩
   simp[e1,e3,aL hx];refine Z _ _ _ (λJ E=>?_) λJ E=>?_
   .simp[e3];exact fin1 _ _ _ hm J (e1) (by simp[aK];exact cD (by unfold mx;omega) h)
   .simp;exact aS ⟨by rw[mK λhh=>J ((ar.1 hh).2.2.2 x W).2.2],rfl⟩
  .simp[e1];refine rest T _ _ _ (λn hn J E=>?_) λhm E=>?_
   .simp[e3,hn];exact aS ⟨by rw[mK J],rfl⟩
   simp[e1,e3,aL hx];refine Z _ _ _ (λJ E=>?_) λJ E=>?_
   .simp[e3];exact fin1 _ _ _ hm J (e1) (by simp[aK];exact cD (by unfold mx;omega) h)
   .simp;exact aS ⟨by rw[mK λhh=>J ((ar.1 hh).2.2.2 x W).2.2],rfl⟩
 .have E:i=v.bF.aG.length:=by omega
  subst E;rw[fJ (by simp)] at hnd;rw[mU] at hall;simp[e1,e3];exact aS ⟨by rw[HU (ar.2 ⟨n0,hR,hnd,hall⟩)],rfl⟩
def C5 {v:aO} (hz:v.sz<=1048576):dA aE 85 [.agg v.enc] (.bool (isVal v)):=by
 refine fO F85 λc=>?_;simp[F85];refine E0 (SU v (by omega) 200 (by omega)) λr c2 _ ⟨n,hr,n1,n2,n3⟩ _=>?_;subst hr;by_cases h:v.wt<=200
 .have h':(n:Int)<=200:=by omega
  simp[h'];refine bZ (spec_wf v hz) .bool λ_ _=>?_;simp;exact aS ⟨by simp[isVal,h],rfl⟩
 .have h':¬(n:Int)<=200:=by omega
  simp[h'];exact aS ⟨by simp[isVal,h],rfl⟩
set_option maxRecDepth 100000
def I9:aA:=[48,49,50,51,52,53,54,55,56,57,65,66,67,68,69,70]
def up (n:Nat):UInt8:=I9.getD n 0
def R0 {n:Nat} (h:n<16):I9[n]?=some (up n):=by
 have:∀n,n<16->I9[n]?=some (up n):=by decide
 exact this n h
def sF (b:UInt8):Bool:=nF b||kE b||decide (b.toNat=45)||decide (b.toNat=95)||decide (b.toNat=46)||decide (b.toNat=126)
def BS (b:UInt8):aA:=if sF b then [b] else [37,up (b.toNat/16),up (b.toNat%16)]
def xJ (l:aA):aA:=l.flatMap BS
def escB_len b:(BS b).length<=3:=by unfold BS;split<;>simp
def X6 (l:aA):(xJ l).length<=3*l.length:=by
 unfold xJ
 induction l with
 |nil=>simp
 |cons b l E=>have:=escB_len b;simp[CS] at E ⊢;omega
def escL_step (l:aA) {i:Nat} (h:i<l.length):xJ (l.take (i+1))=xJ (l.take i)++BS l[i]:=by unfold xJ;rw[nO h,List.flatMap_append];simp
def QB (a b:Int):Int:=IntKind.i64.wrap ((BitVec.ofInt 64 a &&& BitVec.ofInt 64 b).toNat:Int)
def intW_andE (a b:Int) (K:AV->Prop):lJ .and .i64 a b K=K (.I (QB a b)):=rfl
def shr4 (a:Int) (K:AV->Prop):sT .shr (.I a) (.int .u64 4) K=K (.I (a.fdiv 16)):=by simp[sT,IntKind.bits]
def aaN {n:Nat} (h:n<256):QB (n:Int) 15=((n%16:Nat):Int):=by
 have:∀n:Nat,n<256->QB (n:Int) 15=((n%16:Nat):Int):=by decide
 exact this n h
def V2 (b:UInt8):dA aE 285 [.I b.toNat] (.str [up (b.toNat/16),up (b.toNat%16)]):=by
 refine fO F285 λc=>?_;unfold F285;have E:b.toNat<256:=b.toNat_lt;have T:=R0 (n:=b.toNat/16) (by omega);have J:=R0 (n:=b.toNat%16) (by omega);unfold I9 at T J;have q1:((b.toNat:Int)).fdiv 16=((b.toNat/16:Nat):Int):=by
  rw[Int.fdiv_eq_ediv_of_nonneg _ (by omega)];omega
 have Z:((b.toNat/16%16:Nat):Int)=((b.toNat/16:Nat):Int):=by omega
 have W:=aaN (n:=b.toNat/16) (by omega);have a2:=aaN E;rw[Z] at W;simp[shr4,q1,-Int.natCast_ediv,-Int.natCast_emod,intW_andE,W,a2];refine⟨_,T,_,J,?_⟩;simp[-Int.natCast_ediv,-Int.natCast_emod];refine yF (l:=[up (b.toNat/16),up (b.toNat%16)]) rfl rfl (by unfold mx;simp) ?_;simp;exact fI (eX _) (.refl _) ⟨rfl,rfl⟩
def l4Plain_fn (b:UInt8):dA aE 284 [.int .u8 b.toNat] (.bool (sF b)):=by
 refine fO F284 λc=>?_;simp[F284,wE];refine bZ (fA _ _ _) .bool λ_ _=>?_;cases h1:cT b.toNat 97 122<;>simp
 .refine bZ (fA _ _ _) .bool λ_ _=>?_;cases h2:cT b.toNat 65 90<;>simp
  .refine bZ (fA _ _ _) .bool λ_ _=>?_;cases h3:cT b.toNat 48 57<;>simp
   .by_cases W:(b.toNat:Int)=45
    .simp[W];exact aS ⟨by simp[sF];omega,rfl⟩
    by_cases T:(b.toNat:Int)=95
    .simp[T];exact aS ⟨by simp[sF];omega,rfl⟩
    by_cases J:(b.toNat:Int)=46
    .simp[J];exact aS ⟨by simp[sF];omega,rfl⟩
    by_cases E:(b.toNat:Int)=126
    .simp[E];exact aS ⟨by simp[sF];omega,rfl⟩
    .simp[W,T,J,E];exact aS ⟨by simp[sF,nF,kE,h1,h2,h3];omega,rfl⟩
   .exact aS ⟨by simp[sF,kE,nF,h1,h2,h3],rfl⟩
  .exact aS ⟨by simp[sF,nF,h1,h2],rfl⟩
 .exact aS ⟨by simp[sF,nF,h1],rfl⟩
def MI {l:aA} {i:Nat} {b} (h:l[i]?=some b):List.drop i (List.take (i+1) l)=[b]:=by obtain⟨E,rfl⟩:=bQ.1 h;rw[nO E,List.drop_append_of_le_length (by simp;omega)];simp
def specEsc_fn {l:aA} (E:l.length<=1048576):dA aE 255 [.str l] (.str (xJ l)):=by
 refine fO F255 λc=>?_;simp[F255];refine b6 l.length (λi e H E=>e 0=.str l/\e 3=.str (xJ (l.take i))/\e 4=.I i/\H=[]) ⟨rfl,by simp[xJ],rfl,rfl⟩ ?_;intro i e H c E ⟨J,e3,W,E⟩ N hN;subst E;simp[J,e3,W];refine⟨λh=>?_,λh=>?_⟩
 .have T:l[i]?=some l[i]:=bC h;have E:=escL_step l h;have Z:=X6 (l.take i);simp at Z;have Z:IntKind.i64.wrap ((i:Int)+1)=((i+1:Nat):Int):=by rw[cD (by unfold mx;omega) h];rfl
  generalize l[i]=b at T E;have ht:=MI T;refine⟨_,T,?_⟩;simp;refine bZ (l4Plain_fn b) .bool λ_ _=>?_;cases h1:sF b
  .simp[J,e3,W];refine⟨by unfold mx;omega,_,T,?_⟩;simp only[wE];refine bZ (V2 b) .str λ_ _=>?_;simp[W];refine⟨by unfold mx;omega,hN _ _ _ _ h (bY _) ⟨J,?_,by simp[aK,Z],rfl⟩⟩;simp[aK,E,BS,h1]
  .simp[J,e3,W,Z,ht];refine⟨by omega,by omega,by unfold mx;omega,hN _ _ _ _ h (bY _) ⟨J,?_,rfl,rfl⟩⟩;simp[aK,E,BS,h1]
 .have:i=l.length:=by omega
  subst this;exact aS ⟨by simp,rfl⟩
set_option maxRecDepth 100000
def nm:aA->Nat->Nat
 |[],i=>i
 |b::l,i=>if mB b||(decide (0<i)&&kE b) then nm l (i+1) else i
def nm_go {l:aA} {i:Nat} (h:i<l.length) (e:(mB l[i]||(decide (0<i)&&kE l[i]))=true):nm (l.drop i) i=nm (l.drop (i+1)) (i+1):=by rw[uS h,nm,if_pos e]
def nm_stop {l:aA} {i:Nat} (h:i<l.length) (e:(mB l[i]||(decide (0<i)&&kE l[i]))=false):nm (l.drop i) i=i:=by rw[uS h,nm,if_neg (by simp only[e];simp)]
def nm_end {l:aA} {i} (h:l.length<=i):nm (l.drop i) i=i:=by rw[LO h];rfl
def specName_fn {l:aA} (hl:l.length<=mx):dA aE 198 [.str l,.I 0] (.I (nm l 0)):=by
 refine fO K0 λc=>?_;unfold K0;simp;refine b6 l.length (λi e H c'=>e 0=.str l/\e 1=.I 0/\e 5=.I i/\nm (l.drop i) i=nm l 0/\H=[]) ⟨rfl,rfl,rfl,by simp,rfl⟩ ?_;intro i e H c hi ⟨e0,e1,e5,hd,hH⟩ N hN;subst hH;rcases iA i l.length with h|h
 .have hb:l[i]?=some l[i]:=bC h;have next:(mB l[i]||(decide (0<i)&&kE l[i]))=true->nm (l.drop (i+1)) (i+1)=nm l 0:=λe=>by rw[<-hd,nm_go h e]
  have stop:(mB l[i]||(decide (0<i)&&kE l[i]))=false->i=nm l 0:=λe=>by rw[<-hd,nm_stop h e]
  generalize l[i]=b at hb next stop
  simp[e0,e5,h];refine⟨_,hb,?_⟩;simp;refine bZ (DW b) .bool λ_ _=>?_;cases h1:mB b
  .by_cases h2:0<i
   .simp[e0,e1,e5,h2];refine⟨_,hb,?_⟩;simp;refine bZ (BV b) .bool λ_ _=>?_;cases h3:kE b
    .simp[e5];exact aS ⟨by rw[stop (by simp[h1,h3])],rfl⟩
    .simp[e5];exact hN _ _ _ _ h (bY _) ⟨e0,e1,by simp[aK];exact cD hl h,next (by simp[h1,h2,h3]),rfl⟩
   .simp[e1,e5,h2];exact aS ⟨by rw[stop (by simp[h1,h2])],rfl⟩
  .simp[e5];exact hN _ _ _ _ h (bY _) ⟨e0,e1,by simp[aK];exact cD hl h,next (by simp[h1]),rfl⟩
 .have:¬(i<l.length):=by omega
  simp[e0,e5,this];exact aS ⟨by rw[<-hd,nm_end h],rfl⟩
def isName (l:aA):Bool:=decide (1<=l.length)&&decide (l.length<=20)&&decide (nm l 0=l.length)
def spec_isName {l:aA} (E:l.length<=mx):dA aE 159 [.str l] (.bool (isName l)):=by
 refine fO F159 λc=>?_;unfold F159;by_cases T:(1:Int)<=l.length
 .by_cases W:(l.length:Int)<=20
  .simp[T,W];refine bZ (specName_fn E) .int λ_ _=>?_;by_cases J:nm l 0=l.length
   .simp[J];exact aS ⟨by simp[isName,J];omega,rfl⟩
   .have E:¬(nm l 0:Int)=l.length:=by omega
    simp[E];exact aS ⟨by simp[isName,J],rfl⟩
  .simp[T,W];exact aS ⟨by simp[isName];intros;omega,rfl⟩
 .simp[T];exact aS ⟨by simp[isName];intros;omega,rfl⟩
set_option maxRecDepth 100000
def yO:aF aA:=[[101,99,104,111],[105,102],[101,108,115,101],[119,104,105,108,101],[102,111,114,101,97,99,104],[97,115],[98,114,101,97,107],[99,111,110,116,105,110,117,101],[114,101,116,117,114,110],[103,108,111,98,97,108],[117,110,115,101,116],[116,104,114,111,119],[116,114,121],[99,97,116,99,104],[102,105,110,97,108,108,121],[121,105,101,108,100],[105,110,99,108,117,100,101],[102,117,110,99,116,105,111,110],[99,108,97,115,115],[116,114,97,105,116],[101,120,116,101,110,100,115],[117,115,101],[112,114,105,118,97,116,101],[115,116,97,116,105,99],[110,101,119],[116,114,117,101],[102,97,108,115,101],[110,117,108,108]]
def sO (s:aA):Bool:=decide (s∈yO)
def spec_isReserved (s:aA):dA aE 160 [.str s] (.bool (sO s)):=by
 refine fO F160 λc=>?_;unfold F160;simp;have hr:yO.length=28:=by decide
 have hd:sO s=decide (s∈yO):=rfl;refine b6 yO.length (λi e H c'=>e 0=.str s/\e 3=.ref 0 c 1 28/\e 4=.I i/\H=[⟨false,c,1,yO.map λx=>[.str x]⟩]/\∀k,k<i->∀w,yO[k]?=some w->w≠s) ⟨rfl,rfl,rfl,rfl,λk hk=>absurd hk (Nat.not_lt_zero _)⟩ ?_;rw[hd];clear hd;generalize yO=L at hr;intro i e H c' hi ⟨e0,e3,e4,hH,hn⟩ N hN;subst hH;by_cases h:i<L.length
 .have hx:L[i]?=some L[i]:=bC h;have hb:L[i]∈L:=oR h;generalize L[i]=b at hx hb;have h28:(i:Int)<28:=by omega
  by_cases he:b=s
  .subst he;simp[e0,e3,e4,aL hx,h28];exact aS ⟨by rw[decide_eq_true hb],rfl⟩
  .simp[e0,e3,e4,aL hx,h28,he];exact hN _ _ _ _ h (bY _) ⟨e0,e3,by simp[aK];exact cD (by unfold mx;omega) h,rfl,λk hk w hw=>by
    rcases Nat.lt_or_eq_of_le (Nat.le_of_lt_succ hk) with h1|h1
    .exact hn k h1 w hw
    .subst h1;rw[hx] at hw;cases hw;exact he⟩
 .have hie:i=L.length:=by omega
  subst hie;simp[e3,e4,hr];refine aS ⟨?_,rfl⟩;rw[decide_eq_false λhm=>?_];obtain⟨k,hk,hw⟩:=List.getElem_of_mem hm;exact hn k hk s (by rw[bC hk,hw]) rfl
def sM {l:aA} (E:l.length<=mx):dA aE 121 [.str l] (.bool (isName l&&!sO l)):=by
 refine fO F121 λc=>?_;simp[F121];refine bZ (spec_isName E) .bool λ_ _=>?_;cases isName l
 .simp;exact aS ⟨rfl,rfl⟩
 .simp;refine bZ (spec_isReserved l) .bool λ_ _=>?_;simp;exact aS ⟨rfl,rfl⟩
def SI {s sep} (h:Lib.index s sep = -1):Lib.split s sep=[s]:=by unfold Lib.split;rw[Lib.count_miss h];rfl
def SN {s sep:aA} {i:Nat} (hs:sep≠[]) (h:Lib.index s sep=i):Lib.split s sep=s.take i::Lib.split (s.drop (i+sep.length)) sep:=by
 have E:¬(Lib.index s sep==-1)=true:=λe=>by have:=beq_iff_eq.1 e;omega
 have e:(Lib.index s sep).toNat=i:=by omega
 unfold Lib.split;rw[Lib.count_hit hs h,Nat.add_comm,Lib.splitK,if_neg E,e];rfl
def NI (l sep:aA) a j:Lib.occAt (l.drop a) sep j=Lib.occAt l sep (a+j):=by unfold Lib.occAt;rw[List.drop_drop]
def drop_take' (l:aA) a i:(l.drop a).take (i-a)=(l.take i).drop a:=by rw[List.drop_take]
def index_at {l sep:aA} {a i:Nat} (E:a<=i) (E:i<=l.length) (E:∀j,a<=j->j<i->Lib.occAt l sep j=false) (J:Lib.occAt l sep i=true):Lib.index (l.drop a) sep=((i-a:Nat):Int):=by refine Lib.index_first (by simp;omega) (by rw[NI,show a+(i-a)=i by omega];exact J) λj J=>?_;rw[NI];exact E _ (by omega) (by omega)
def SP {l sep:aA} {a i} (hs:sep≠[]) (W:a<=i) (T:i<=l.length) (E:∀j,a<=j->j<i->Lib.occAt l sep j=false) (J:Lib.occAt l sep i=true):
  Lib.split (l.drop a) sep=(l.take i).drop a::Lib.split (l.drop (i+sep.length)) sep:=by rw[SN hs (index_at W T E J),drop_take',List.drop_drop,show a+(i-a+sep.length)=i+sep.length by omega]
def occ_end {l sep:aA} (hs:sep≠[]) {i} (E:l.length<=i):Lib.occAt l sep i=false:=by
 cases h:Lib.occAt l sep i
 .rfl
 .have:=Lib.occAt_room h;have E:sep.length≠0:=λe=>hs (CQ.1 e);rcases this with E|E
  .omega
  .exact absurd E hs
def index_no {l sep:aA} {a} (hs:sep≠[]) (E:∀j,a<=j->j<l.length->Lib.occAt l sep j=false):Lib.index (l.drop a) sep = -1:=by
 refine Lib.index_none λj J=>?_;rw[NI];rcases iA (a+j) l.length with h|h
 .exact E _ (by omega) h
 .exact occ_end hs h
def SO {l sep:aA} {a} (hs:sep≠[]) (E:∀j,a<=j->j<l.length->Lib.occAt l sep j=false):Lib.split (l.drop a) sep=[l.drop a]:=SI (index_no hs E)
def DM (l:aA) b (i:Nat):Lib.occAt l [b] i=decide (l[i]?=some b):=by
 unfold Lib.occAt;cases h:l.drop i with
 |nil=>
  have:l[i]?=none:=by
   rw[List.getElem?_eq_none_iff];have:=List.drop_eq_nil_iff.1 h;exact this
  simp[this]
 |cons x r=>
  have:l[i]?=some x:=by
   have E:(l.drop i)[0]?=some x:=by rw[h];rfl
   simpa using E
  rw[this];simp only[List.isPrefixOf,Bool.and_true,eH];by_cases E:b=x
  .subst E;simp
  .have:¬x=b:=λe=>E e.symm;simp[E,this]
open Go.RowKit
def VI {G:Gh} {H:aC} {w:World} (I:Inv G H w.heap):∃m,w.cell? ⟨0,0,none⟩=some (.int .i64 m):=by obtain⟨_,_,hm,hg⟩:=I.gl 0 (by decide);obtain⟨c,t,fr,m,ho,hc⟩:=gl_max hg;exact⟨m,by unfold World.cell?;simp only[ho];exact hc⟩
def Z8 {w:World}:∀n,Below w.heap.size w (w.drewN n)
 |0=>Below.refl _ _
 |n+1=>by
  have:=Z8 (w:=w) n;unfold World.drewN;exact⟨this.os,this.tape,this.output,this.size,this.block⟩
def PD {l sep:aA} (hl:l.length<4294967281):dA aE 15 [.str l,.str sep] (.aX [.str (Lib.cut l sep).1,.str (Lib.cut l sep).2.1,.bool (Lib.cut l sep).2.2]):=by
 intro c;refine ES (res:=.aX [.str (Lib.cut l sep).1,.str (Lib.cut l sep).2.1,.bool (Lib.cut l sep).2.2]) (λG w vs hc I hs hr=>?_) ⟨rfl,rfl⟩;obtain⟨v0,v1,rfl⟩:∃v0 v1,vs=#[v0,v1]:=by
  match vs,hs with
  |⟨[a,b]⟩,_=>exact⟨a,b,rfl⟩
 have h0:=hr 0 _ rfl;have h1:=hr 1 _ rfl;simp at h0 h1;obtain⟨m,hm⟩:=VI I;cases h0 with
 |@str s _ e hl0=>
 cases h1 with
 |@str t _ e1 hl1=>
 have hsz:s.size<4294967281:=by rw[Lib.size_eq,e];exact hl
 have key:=Tryz.strings_Cut s t m w hsz hm;rw[e,e1] at key;have hle:(Lib.cut l sep).1.length<=l.length/\(Lib.cut l sep).2.1.length<=l.length:=by
  unfold Lib.cut;split<;>simp;omega
 refine key.mono λe w' ⟨h1,n,h2⟩=>⟨_,h1,h2▸Z8 n,?_⟩
 refine .aX rfl λj a hj=>?_
 match j,hj with
 |0,hj=>cases hj;exact .str (by simp) (by unfold mx;omega)
 |1,hj=>cases hj;exact .str (by simp) (by unfold mx;omega)
 |2,hj=>cases hj;exact .bool
def split_con {l sep:aA} (hl:l.length<4294967281) (hs:sep≠[]) c:
  cA aE 16 [.str l,.str sep] [] c λr O _=>r=.ref 0 c 1 (Lib.split l sep).length/\O=[⟨false,c,1,(Lib.split l sep).map eK⟩]:=by
 intro G w vs hc I hsz hr;subst hc;obtain⟨v0,v1,rfl⟩:∃v0 v1,vs=#[v0,v1]:=by
  match vs,hsz with
  |⟨[a,b]⟩,_=>exact⟨a,b,rfl⟩
 have h0:=hr 0 _ rfl;have h1:=hr 1 _ rfl;simp at h0 h1;obtain⟨m,hm⟩:=VI I;cases h0 with
 |@str s _ e hl0=>
 cases h1 with
 |@str t _ e1 hl1=>
 have hsl:s.size=l.length:=by rw[Lib.size_eq,e]
 have hsz:s.size<4294967281:=by omega
 have hts:1<=t.size:=by
  rw[Lib.size_eq,e1];exact Nat.one_le_iff_ne_zero.2 λh=>hs (CQ.1 h)
 have key:=Tryz.strings_Split s t m w hsz hm hts;have hdat:(Lib.splitB t 0 (Lib.countB s t) s).map (·.data.toList)=Lib.split l sep:=by
  rw[Lib.splitB_data,e,e1];show _ = Lib.splitK sep 0 (Lib.count l sep) l;unfold Lib.countB;rw[e,e1]
 have hlen:(Lib.splitB t 0 (Lib.countB s t) s).length=Lib.countB s t+1:=Lib.splitB_all t hts 0 _ s rfl;have hlen2:(Lib.split l sep).length=Lib.countB s t+1:=by rw[<-hlen,<-hdat,nR]
 have hcle:Lib.countB s t+1<=s.size+2:=by
  have:=Lib.count_le s.data.toList t.data.toList;rw[<-Lib.size_eq] at this;show Lib.count _ _+1<=_;omega
 generalize hps:Lib.splitB t 0 (Lib.countB s t) s=ps at key hdat hlen;have hsmall:∀x,x∈Lib.split l sep->x.length<=mx:=by
  have:∀(k:Nat) (l:aA),∀x,x∈Lib.splitK sep 0 k l->x.length<=l.length:=by
   intro k
   induction k with
   |zero=>intro l x hx;simp[Lib.splitK] at hx;rw[hx];exact bB _
   |succ k ih=>
    intro l x hx;unfold Lib.splitK at hx;split at hx
    .simp at hx;rw[hx];exact bB _
    .rcases fK.1 hx with rfl|hx
     .simp;omega
     .have:=ih _ x hx;simp at this;omega
  intro x hx;have:=this _ _ x hx;unfold mx;omega
 have hget:∀(r:Nat) (x:aA),(Lib.split l sep)[r]?=some x->∃y:ByteArray,ps[r]?=some y/\y.data.toList=x:=λr x h=>by
  rw[<-hdat,kL,iH] at h;exact h
 obtain⟨x,I'⟩:=A5 I (cs:=(ps.map Value.string).toArray) (e:=9) (wd:=1) (aN:=(Lib.split l sep).map eK) (by simp[hlen,hlen2]) (by simp;unfold mx;omega)
  (λr aM h=>by
   rw[kL,iH] at h;obtain⟨y,_,rfl⟩:=h;rfl)
  (λr j aM a h ha=>by
   rw[kL,iH] at h;obtain⟨y,hy,rfl⟩:=h;obtain⟨z,hz,e2⟩:=hget r y hy
   match j,ha with
   |0,ha=>
    simp[eK] at ha;subst ha;refine⟨.string z,by simp[hz],rfl,.str e2 (hsmall _ (bA hy))⟩)
  (0,0) (λ_ _ h=>by omega)
 refine key.mono λe w' ⟨he,hw⟩=>?_;subst hw;refine⟨_,.ref 0 G.c 1 (Lib.split l sep).length,_,_,he,⟨rfl,rfl⟩,x,I',?_⟩;have hm':(G.new w.heap.size).m G.c=w.heap.size:=by simp[Gh.new]
 have hb:(w.alloc (.cells (ps.map Value.string).toArray 9)).heap[(G.new w.heap.size).m G.c]?=some (.cells (ps.map Value.string).toArray 9 (0,0)):=by rw[hm'];show(w.heap.push _)[w.heap.size]? = _;simp
 have hR:=bJ.ref (G:=G.new w.heap.size) (i:=0) (tag:=G.c) (w:=1) (len:=Lib.countB s t+1) (cap:=Lib.countB s t+1) (by simp[Gh.new]) hb (by simp;omega) (bB _) (by unfold mx;omega);rw[hm'] at hR;rw[hlen2];exact hR
def O4:Flat eK:=λx a E=>by
 simp[eK] at E;subst E;exact⟨rfl,BK _⟩
def split_tr {l sep:aA} (E:l.length<4294967281) (hs:sep≠[]):
  Tr aE 16 [.str l,.str sep] λ_ r=>∃b:SL aA,r=b.av 1 eK/\b.aG=Lib.split l sep:=
 flat_tr O4 λc=>(split_con E hs c).mono λr O E _ ⟨J,E⟩=>⟨.mk c (Lib.split l sep),J,by rw[E,ED],rfl⟩
def SR sep:∀(k:Nat) (l:aA),(Lib.splitK sep 0 k l).length<=k+1/\∀x,x∈Lib.splitK sep 0 k l->x.length<=l.length:=by
 intro k
 induction k with
 |zero=>intro l;refine⟨by simp[Lib.splitK],λx E=>?_⟩;simp[Lib.splitK] at E;rw[E];exact bB _
 |succ k J=>
  intro l;unfold Lib.splitK;split
  .exact⟨by simp,λx E=>by simp at E;rw[E];exact bB _⟩
  .refine⟨by have:=(J (l.drop ((Lib.index l sep).toNat+sep.length))).1;simp;omega,λx E=>?_⟩;rcases fK.1 E with rfl|E
   .simp;omega
   .have:=(J _).2 x E;simp at this;omega
def SJ (l sep:aA):(Lib.split l sep).length<=l.length+2:=by have E:=(SR sep (Lib.count l sep) l).1;have E:=Lib.count_le l sep;unfold Lib.split;omega
def split_mem {l sep x:aA} (E:x∈Lib.split l sep):x.length<=l.length:=(SR sep _ l).2 x E
end A
end Go.Proofs.YtbdgahjfipdeoaaGreatDoor
namespace Go.Proofs.YtbdgahjfipdeoaaGreatDoor
namespace A
open Go.RowKit
def j7 (sep:aA) (l:aF aA):aA:=Lib.join l sep
def D5 sep:j7 sep []=[]:=rfl
def joinL_snoc sep x (l:aF aA):j7 sep (l++[x])=(if 0<l.length then j7 sep l++sep else [])++x:=by
 cases l with
 |nil=>simp[j7,Lib.join_one]
 |cons a l=>simp[j7,Lib.join_cons,Lib.joinTail]
def joinL_len {sep:aA} (hs:sep.length<=2) l:(j7 sep l).length<=bE (λx=>x.length+2) l:=by
 cases l with
 |nil=>simp[D5,bE]
 |cons a l=>
  have:(Lib.joinTail sep l).length<=bE (λx=>x.length+2) l:=by
   induction l with
   |nil=>simp[Lib.joinTail,bE]
   |cons b l E=>simp[Lib.joinTail,bE] at E ⊢;omega
  simp[j7,Lib.join_cons,bE] at this ⊢;omega
end A
end Go.Proofs.YtbdgahjfipdeoaaGreatDoor
namespace Go.Proofs.YtbdgahjfipdeoaaGreatDoor
namespace A
set_option maxRecDepth 100000
def pC (b:UInt8):Bool:=nF b||kE b||decide (b.toNat=95)||decide (b.toNat=45)||decide (b.toNat=46)
def pN (l:aA):Bool:=l.all pC&&decide (l.length<=20)
def kY (o:aF aA) (x:aA):Option (aF aA):=
 if x=[]\/x=[46] then some o else if x=[46,46] then (if o=[] then none else some o.dropLast) else if pN x then some (o++[x]) else none
def pM:aF aA->aF aA->Option (aF aA)
 |o,[]=>some o
 |o,x::r=>(kY o x).bind λE=>pM E r
def iL (l:aA):Option (aF aA):=pM [] (Lib.split l [47])
def jY (l:aA):Option aA:=if 400<l.length then none else (iL l).bind λo=>if cT (j7 [47] o).length 1 60 then some (j7 [47] o) else none
def xB (l:aA):Bool:=decide (jY l=some l)
def pstep_ok {o E:aF aA} {x} (h:kY o x=some E) (J:∀y,y∈o->pN y=true):(∀y,y∈E->pN y=true)/\E.length<=o.length+1:=by
 unfold kY at h;split at h
 .cases h;exact⟨J,by omega⟩
 .split at h
  .split at h
   .cases h
   .cases h;exact⟨λy E=>J y ((List.dropLast_sublist o).subset E),by simp;omega⟩
  .split at h
   .cases h;refine⟨λy E=>?_,by simp⟩;rcases dI.1 E with E|E
    .exact J y E
    .simp at E;subst E;assumption
   .cases h
def UD:∀{r o E:aF aA},pM o r=some E->(∀y,y∈o->pN y=true)->(∀y,y∈E->pN y=true)/\E.length<=o.length+r.length
 |[],o,E,h,J=>by simp[pM] at h;subst h;exact⟨J,by simp⟩
 |x::r,o,E,h,J=>by
  simp only[pM] at h;cases hp:kY o x with
  |none=>rw[hp] at h;cases h
  |some E=>
   rw[hp] at h;obtain⟨T,E⟩:=pstep_ok hp J;obtain⟨E,J⟩:=UD h T;exact⟨E,by simp;omega⟩
def UK {l:aA} (h:pN l=true):l.length<=20:=by simp only[pN,eY,decide_eq_true_eq] at h;exact h.2
def MR {l:aA} {o:aF aA} (h:iL l=some o):(∀y,y∈o->pN y=true)/\o.length<=l.length+2:=by obtain⟨J,E⟩:=UD h (by simp);have:=SJ l [47];exact⟨J,by simp at E;omega⟩
def MM {α:Type} (f:α->Nat) k:∀(l:aF α),(∀x,x∈l->f x<=k)->bE f l<=k*l.length
 |[],_=>by simp[bE]
 |x::l,h=>by
  have:=MM f k l λy E=>h y (iI _ E);have E:=h x (kB ..);simp[bE,Nat.mul_add] at this ⊢;omega
def join_short {l:aA} {o:aF aA} (h:iL l=some o) i:(j7 [47] (o.take i)).length<=22*(l.length+2):=by
 obtain⟨J,E⟩:=MR h;have E:=joinL_len (sep:=[47]) (by simp) (o.take i);have E:=MM (λx:aA=>x.length+2) 22 (o.take i) λx E=>by have:=UK (J x (zT E));omega
 have E:(o.take i).length<=o.length:=by simp;omega
 have E:22*(o.take i).length<=22*(l.length+2):=Nat.mul_le_mul_left _ (by omega);omega
def spec_part {l:aA} (T:l.length<=mx):dA aE 138 [.str l] (.bool (l.all pC&&cT l.length 1 20)):=by
 refine fO F138 λc=>?_;simp[F138];refine b6 l.length (λi e H E=>e 0=.str l/\e 3=.I i/\(l.take i).all pC=true/\H=[]) ⟨rfl,rfl,by simp,rfl⟩ ?_;intro i e H c E ⟨W,e3,ha,E⟩ N hN;subst E;by_cases h:i<l.length
 .have Z:l[i]?=some l[i]:=bC h;have bad:pC l[i]=false->(l.all pC&&cT l.length 1 20)=false:=λZ=>by
   have:l.all pC=false:=by rw[RE];exact⟨_,oR h,by simp[Z]⟩
   rw[this];rfl
  have J:pC l[i]=true->(l.take (i+1)).all pC=true:=λE=>FA ha h E;have E:IntKind.i64.wrap ((i:Int)+1)=((i+1:Nat):Int):=by rw[cD T h];rfl
  generalize l[i]=b at Z bad J;have hLA:=WR b;have T:pC b=(mB b||kE b||decide (b.toNat=45)||decide (b.toNat=46)):=by
   rw[hLA];unfold pC;cases nF b<;>cases kE b<;>cases decide (b.toNat=95)<;>rfl
  simp[W,e3,h,aL Z];refine bZ (DW b) .bool λ_ _=>?_;cases hL:mB b
  .simp[W,e3,aL Z];refine bZ (BV b) .bool λ_ _=>?_;cases hD:kE b
   .by_cases h45:b.toNat=45
    .have k45:(b.toNat:Int)=45:=by omega
     simp[W,e3,aL Z,k45,E];exact hN _ _ _ _ h (bY _) ⟨W,rfl,J (by simp[T,h45]),rfl⟩
    .have k45:¬(b.toNat:Int)=45:=by omega
     by_cases h46:b.toNat=46
     .have k46:(b.toNat:Int)=46:=by omega
      simp[W,e3,aL Z,k46,E];exact hN _ _ _ _ h (bY _) ⟨W,rfl,J (by simp[T,h46]),rfl⟩
     .have k46:¬(b.toNat:Int)=46:=by omega
      simp[W,e3,aL Z,k45,k46,E];exact aS ⟨by rw[bad (by simp[T,hL,hD,h45,h46])],rfl⟩
   .simp[e3,E];exact hN _ _ _ _ h (bY _) ⟨W,rfl,J (by simp[T,hD]),rfl⟩
  .simp[e3,E];exact hN _ _ _ _ h (bY _) ⟨W,rfl,J (by simp[T,hL]),rfl⟩
 .have E:i=l.length:=by omega
  subst E;rw[mU] at ha;simp[W,e3];refine bZ (fA _ _ _) .bool λ_ _=>?_;simp;exact aS ⟨by simp[ha],rfl⟩
def SplQ (l:aA) (r:AV) (O:aC):Prop:=
 (iL l=none/\r=.aX [.aU,.bool false]/\O=[])\/
 ∃(t:Nat) (E:aF (aF AV)),r=.aX [.ref 0 t 1 ((iL l).getD []).length,.bool (iL l).isSome]/\O=[⟨false,t,1,E⟩]/\E.take ((iL l).getD []).length=((iL l).getD []).map eK
def ZE {aN:aF (aF AV)} {o:aF aA} (h:aN.take o.length=o.map eK):o.length<=aN.length:=by have:=congrArg List.length h;simp at this;omega
def cut_view {i t} {aN:aF (aF AV)} {o:aF aA} {S} (h:aN.take o.length=o.map eK) (Z:(⟨false,t,1,aN⟩:aH)∈S):View S (.ref i t 1 o.length) ((SL.mk t o).av 1 eK):=by
 have W:∀(r:Nat) (E:aF AV),(o.map eK)[r]?=some E->aN[r]?=some E:=λr E J=>by
  have T:r<o.length:=by have:=(bQ.1 J).1;simpa using this
  rw[<-h,wD T] at J;exact J
 refine .ref Z (ZE h) (by simp) (λr x E J T=>?_) (λr j x a J T=>?_) λr j x E a Z J T h3 Z=>?_
 .rw[W r E T] at J;cases J;rfl
 .obtain⟨y,_,rfl⟩:=fZ.1 (bA J);exact(O4 y a (bA T)).1
 .rw[W r E T] at J;cases J;rw[h3] at Z;cases Z;exact .refl _
def cut_last {aN:aF (aF AV)} {o:aF aA} (h:aN.take o.length=o.map eK):aN.take o.dropLast.length=o.dropLast.map eK:=by rw[List.length_dropLast,List.dropLast_eq_take,zV,<-h,List.take_take];congr 1;omega
def spl_tr {f} {l} (h:∀c,cA aE f [.str l] [] c λr O _=>SplQ l r O):
  Tr aE f [.str l] λ_ r=>∃b:SL aA,r=.aX [b.av 1 eK,.bool (iL l).isSome]/\b.aG=(iL l).getD []:=
 ME h λc r O E _ E Z=>by
  rcases E with⟨W,E,J⟩|⟨t,T,E,J,T⟩
  .exact⟨.aX [.aU,.bool false],by rw[E];exact .refl _,⟨.nil,by rw[W];rfl,by rw[W];rfl⟩,OI (by simp)⟩
  .refine⟨.aX [(SL.mk t ((iL l).getD [])).av 1 eK,.bool (iL l).isSome],by rw[E];exact CV (.cons (cut_view T (by rw[J];simp)) (fG.refl _ _)),⟨_,rfl,rfl⟩,OI λa E=>?_⟩;rcases fK.1 E with rfl|E
   .refine OP O4 λu T=>Z u ?_;rw[ED] at T;rw[J];simpa[aV] using T
   .simp at E;subst E;simp
def spec_splitP {l:aA} (hl:l.length<=1048576) (c:Nat):cA aE 101 [.str l] [] c λr O _=>SplQ l r O:=by
 refine cO F101 ?_
 unfold F101
 simp
 refine b6 (l.length+1) (λi e H c'=>e 0=.str l/\e 6=.int .i64 i/\∃(a:Nat) (o:aF aA) (t:Nat) (aN:aF (aF AV)),e 5=.int .i64 a/\e 4=.ref 0 t 1 o.length/\H=[⟨false,t,1,aN⟩]/\aN.take o.length=o.map eK/\o.length<=i/\
   (i<=l.length->a<=i/\(∀j,a<=j->j<i->Lib.occAt l [47] j=false)/\iL l=pM o (Lib.split (l.drop a) [47]))/\(l.length<i->iL l=some o)) ?_ ?_
 .exact⟨rfl,rfl,0,[],c,[],rfl,rfl,rfl,rfl,by simp,λ_=>⟨by omega,λj h1 h2=>by omega,by simp[iL]⟩,λh=>by omega⟩
 intro i e H c' hi ⟨e0,e6,a,o,t,aN,e5,e4,hH,hrows,hoi,hinv,hend⟩ N hN
 subst hH
 have hcl:=ZE hrows
 have hm1:(o.length+1)*16<=140737488355328:=by omega
 have hm2:o.length+1<=mx:=by unfold mx;omega
 by_cases hle:i<=l.length
 case neg=>
  have ho:=hend (by omega)
  simp[e0,e4,e6,hle]
  exact dD (.inr ⟨t,aN,by simp[ho],rfl,by simp[ho,hrows]⟩)
 obtain⟨ha,hno,hsp⟩:=hinv hle
 have hstep:IntKind.i64.wrap ((i:Int)+1)=((i+1:Nat):Int):=by rw[wrap64 (by omega) (by omega)];rfl
 by_cases hA:i<l.length/\l[i]?≠some 47
 .obtain⟨h,hx⟩:=hA
  have hb:l[i]?=some l[i]:=bC h
  generalize l[i]=b at hb
  have hb47:¬(b.toNat:Int)=47:=λe=>hx (by rw[hb];congr 1;exact zP.1 (by have:(47:UInt8).toNat=47:=rfl;omega))
  simp[e0,e6,hle,h,aL hb,hb47,hstep]
  refine hN _ _ _ _ (by omega) (bY _) ⟨by simp[aK,e0],by simp[aK],a,o,t,aN,by simp[aK,e5],by simp[aK,e4],rfl,hrows,by omega,λ_=>⟨by omega,λj h1 h2=>?_,hsp⟩,λh2=>by omega⟩
  rcases iA j i with h3|h3
  .exact hno j h1 h3
  .have:j=i:=by omega
   subst this;rw[DM];simp[hx]
 have hocc:i<l.length->l[i]?=some 47:=λh=>yB λhx=>hA ⟨h,hx⟩
 obtain⟨x,hx⟩:∃x,(l.take i).drop a=x:=⟨_,rfl⟩
 obtain⟨R,hR⟩:∃R,(if i<l.length then Lib.split (l.drop (i+1)) [47] else [])=R:=⟨_,rfl⟩
 have hcons:Lib.split (l.drop a) [47]=x::R:=by
  rw[<-hx,<-hR]
  by_cases h:i<l.length
  .rw[if_pos h]
   exact SP (by simp) ha hle hno (by rw[DM];simp[hocc h])
  .have hie:i=l.length:=by omega
   subst hie
   rw[if_neg h,mU];exact SO (by simp) hno
 rw[hcons] at hsp
 simp only[pM] at hsp
 have hxl:x.length<=mx:=by rw[<-hx];simp;unfold mx;omega
 have next:∀(o':aF aA),kY o x=some o'->(i+1<=l.length->i+1<=i+1/\(∀j,i+1<=j->j<i+1->Lib.occAt l [47] j=false)/\iL l=pM o' (Lib.split (l.drop (i+1)) [47]))/\(l.length<i+1->iL l=some o'):=λo' ho'=>by
  rw[ho'] at hsp
  simp only[uP] at hsp
  refine⟨λh2=>⟨bB _,λj h3 h4=>by omega,?_⟩,λh2=>?_⟩
  .rw[hsp,<-hR,if_pos (by omega)]
  .rw[hsp,<-hR,if_neg (by omega)];rfl
 have fails:kY o x=none->iL l=none:=λh=>by rw[hsp,h];rfl
 have hsl:∀K:AV->Prop,yK (.str l) (some (.int .i64 a)) (some (.int .i64 i)) K=K (.str x):=λK=>by rw[<-hx];simp[ha,hle]
 rcases iA i l.length with h|h
 focus
  simp[e0,e5,e6,hle,h,aL (hocc h),hstep,hsl,-SE]
 rotate_left
 focus
  have h':¬i<l.length:=by omega
  simp[e0,e5,e6,hle,h',hstep,hsl,-SE]
 rotate_left
 all_goals
  by_cases x0:x=[]
  .have hp:kY o x=some o:=by simp[kY,x0]
   obtain⟨n1,n2⟩:=next o hp
   simp[x0,e6,hstep]
   exact hN _ _ _ _ (by omega) (bY _) ⟨by simp[aK,e0],by simp[aK],i+1,o,t,aN,by simp[aK],by simp[aK,e4],rfl,hrows,by omega,n1,n2⟩
  by_cases x1:x=[46]
  .have hp:kY o x=some o:=by simp[kY,x1]
   obtain⟨n1,n2⟩:=next o hp
   simp[x1,e6,hstep]
   exact hN _ _ _ _ (by omega) (bY _) ⟨by simp[aK,e0],by simp[aK],i+1,o,t,aN,by simp[aK],by simp[aK,e4],rfl,hrows,by omega,n1,n2⟩
  by_cases x2:x=[46,46]
  .by_cases o0:o=[]
   .have hp:=fails (by simp[kY,x2,o0])
    simp[x2,e4,o0]
    exact fI (Hk:=[⟨false,_,1,[]⟩]) ((bY _).cons _) (CV (.cons .name (fG.refl _ _))) (.inr ⟨_,[],by rw[hp];rfl,rfl,by rw[hp];rfl⟩)
   .have hp:kY o x=some o.dropLast:=by simp[kY,x2,o0]
    obtain⟨n1,n2⟩:=next _ hp
    have hol:0<o.length:=r7.2 o0
    have hw:IntKind.i64.wrap ((o.length:Int)-1)=((o.length-1:Nat):Int):=by rw[wrap64 (by omega) (by omega)];omega
    have hol':¬((o.length:Int)=0):=by omega
    simp[x2,e4,e6,o0,hw,hstep]
    exact hN _ _ _ _ (by omega) (bY _) ⟨by simp[aK,e0],by simp[aK],i+1,o.dropLast,t,aN,by simp[aK],by simp[aK],rfl,cut_last hrows,by simp;omega,n1,n2⟩
  simp[x0,x1,x2]
  refine bZ (spec_part hxl) .bool λ_ _=>?_
  have hlen:0<x.length:=r7.2 x0
  have hpp:(x.all pC&&cT x.length 1 20)=pN x:=by
   unfold pN cT
   have:((1:Int)<=x.length):=by omega
   have k:((x.length:Int)<=20)=(x.length<=20):=by simp only[eq_iff_iff];omega
   simp[this,k]
  rw[hpp]
  cases hP:pN x
  .have hp:=fails (by simp[kY,x0,x1,x2,hP])
   simp
   exact fI (Hk:=[⟨false,_,1,[]⟩]) ((bY _).cons _) (CV (.cons .name (fG.refl _ _))) (.inr ⟨_,[],by rw[hp];rfl,rfl,by rw[hp];rfl⟩)
  .have hp:kY o x=some (o++[x]):=by simp[kY,x0,x1,x2,hP]
   obtain⟨n1,n2⟩:=next _ hp
   simp[e4,e6,hm1,hm2,pV,hcl,hrows,hstep]
   exact hN _ _ _ _ (by omega) (sub_one _ _) ⟨by simp[aK,e0],by simp[aK],i+1,o++[x],_,_,by simp[aK],by simp[aK]<;>rfl,rfl,by rw[qB];exact fJ (by simp),by simp;omega,n1,n2⟩
def pP (l:aA):aF AV:=[.str ((jY l).getD []),.bool (jY l).isSome]
def XI l:p9 (.aX (pP l)):=JE λa E=>by
 simp[pP] at E;rcases E with rfl|rfl
 .exact BK _
 .exact JG _
def joinL_step (l:aF aA) {i:Nat} (h:i<l.length):j7 [47] (l.take (i+1))=(if 0<i then j7 [47] (l.take i)++[47] else j7 [47] (l.take i))++l[i]:=by
 rw[nO h,joinL_snoc];simp only[Q6,Nat.min_eq_left (zS h)];by_cases E:0<i
 .rw[if_pos E,if_pos E]
 .have:i=0:=by omega
  subst this;simp[D5]
def join_part {l:aA} i:(j7 [47] (((iL l).getD []).take i)).length<=22*(l.length+2):=by
 cases h:iL l with
 |none=>simp[D5]
 |some o=>exact join_short h i
def part_len {l x:aA} (h:x∈(iL l).getD []):x.length<=20:=by
 cases hs:iL l with
 |none=>rw[hs] at h;cases h
 |some o=>rw[hs] at h;exact UK ((MR hs).1 x h)
def parts_len (l:aA):((iL l).getD []).length<=l.length+2:=by
 cases hs:iL l with
 |none=>simp
 |some o=>exact(MR hs).2
def norm_eq {l:aA} (h:¬400<l.length):jY l=if (iL l).isSome&&cT (j7 [47] ((iL l).getD [])).length 1 60 then some (j7 [47] ((iL l).getD [])) else none:=by unfold jY;rw[if_neg h];cases iL l<;>simp
def C4 {l:aA} (E:l.length<=mx):dA aE 70 [.str l] (.aX (pP l)):=by
 refine fO F70 λc=>?_;unfold F70;by_cases J:400<l.length
 .have k:(400:Int)<l.length:=by omega
  simp[k];exact aS ⟨by simp[pP,jY,J],rfl⟩
 have k:¬(400:Int)<l.length:=by omega
 simp[k];refine E0 (spl_tr λc=>spec_splitP (by omega) c) λr _ E ⟨b,E,Z⟩ _=>?_;subst E;simp;have hj:=λi=>join_part (l:=l) i;have W:=parts_len l;have T:=λx=>part_len (l:=l) (x:=x);have E:=norm_eq J;rw[<-Z] at hj W T E;refine b6 b.aG.length (λi e H J=>e 4=b.av 1 eK/\e 5=.bool (iL l).isSome/\e 6=.str (j7 [47] (b.aG.take i))/\e 7=.I i/\H=[]) ⟨rfl,rfl,by simp[aK,D5],rfl,rfl⟩ ?_;intro i e H J J ⟨e4,e5,Z,e7,J⟩ N hN;subst J;by_cases h:i<b.aG.length
 .have hg:b.aG[i]?=some b.aG[i]:=bC h;have W:IntKind.i64.wrap ((i:Int)+1)=((i+1:Nat):Int):=by rw[cD (by unfold mx;omega) h];rfl
  have J:=T _ (oR h);have T:=joinL_step b.aG h;have hji:=hj i;generalize b.aG[i]=x at hg J T;generalize j7 [47] (b.aG.take i)=J at Z T hji;by_cases h0:0<i
  .rw[if_pos h0] at T;simp[e4,Z,e7,h,h0,aL hg,W];refine⟨by unfold mx;omega,by unfold mx;omega,?_⟩;exact hN _ _ _ _ h (bY _) ⟨e4,e5,by simp[aK,T],rfl,rfl⟩
  .rw[if_neg h0] at T;simp[e4,Z,e7,h,h0,aL hg,W];refine⟨by unfold mx;omega,?_⟩;exact hN _ _ _ _ h (bY _) ⟨e4,e5,by simp[aK,T],rfl,rfl⟩
 .have T:i=b.aG.length:=by omega
  subst T;rw[mU] at Z;generalize j7 [47] b.aG=J at Z E;cases hs:(iL l).isSome
  .rw[hs] at E e5;simp at E;simp[e4,e5,e7];exact aS ⟨by simp[pP,E],rfl⟩
  .rw[hs] at E e5;simp[e4,e5,Z,e7];refine bZ (fA _ _ _) .bool λ_ _=>?_;cases hr:cT J.length 1 60
   .rw[hr] at E;simp at E;simp;exact aS ⟨by simp[pP,E],rfl⟩
   .rw[hr] at E;simp at E;simp[Z];exact aS ⟨by simp[pP,E],rfl⟩
def isN_norm l:xB l=((jY l).isSome&&decide ((jY l).getD []=l)):=by unfold xB;cases jY l<;>simp
def MT {l:aA} (E:l.length<=mx):dA aE 83 [.str l] (.bool (xB l)):=by
 refine fO F83 λc=>?_;simp[F83];refine bZ (C4 E) (XI _ _) λ_ _=>?_;rw[isN_norm];cases h:(jY l).isSome<;>simp[pP,h]
 .exact aS ⟨rfl,rfl⟩
 .exact aS ⟨rfl,rfl⟩
set_option maxRecDepth 100000
def findF (p:aA):aF cS->Nat->Int
 |[],_=>-1
 |x::l,i=>if x.Path=p then i else findF p l (i+1)
def findF_hit {id:aA} {l:aF cS} {i:Nat} (h:i<l.length) (e:l[i].Path=id):findF id (l.drop i) i=i:=by rw[uS h,findF,if_pos e]
def findF_miss {id:aA} {l:aF cS} {i:Nat} (h:i<l.length) (e:l[i].Path≠id):findF id (l.drop i) i=findF id (l.drop (i+1)) (i+1):=by rw[uS h,findF,if_neg e]
def nH (p:aA) (l:aF cS):Int:=match jY p with|some q=>findF q l 0|none=>-1
def C6 {s:SL cS} {p:aA} (Z:s.aG.length<=mx) (E:p.length<=mx):dA aE 65 [s.av 3 cS.enc,.str p] (.I (nH p s.aG)):=by
 refine fO F65 λc=>?_;simp[F65];refine bZ (C4 E) (XI _ _) λ_ _=>?_;cases hq:jY p with
 |none=>
  simp[pP,hq];refine b6 0 (λi e H T=>e 6=.bool false/\H=[]) ⟨rfl,rfl⟩ ?_;intro i e H c J ⟨W,E⟩ N hN;subst E;simp[W];exact aS ⟨by simp[nH,hq],rfl⟩
 |some q=>
  simp[pP,hq];refine b6 s.aG.length (λi e H T=>e 0=s.av 3 cS.enc/\e 5=.str q/\e 6=.bool true/\e 7=.I i/\findF q s.aG 0=findF q (s.aG.drop i) i/\H=[]) ⟨rfl,rfl,rfl,rfl,rfl,rfl⟩ ?_;intro i e H c J ⟨e0,e5,W,e7,hf,E⟩ N hN;subst E;have hP:nH p s.aG=findF q s.aG 0:=by unfold nH;rw[hq]
  by_cases h:i<s.aG.length
  .have hg:s.aG[i]?=some s.aG[i]:=bC h;have J:=λe=>findF_hit (id:=q) h e;have E:=λe=>findF_miss (id:=q) h e;have T:IntKind.i64.wrap ((i:Int)+1)=((i+1:Nat):Int):=by rw[cD Z h];rfl
   generalize s.aG[i]=x at hg J E;by_cases Z:x.Path=q
   .simp[e0,e5,W,e7,h,aL hg,Z];exact aS ⟨by rw[hP,hf,J Z],rfl⟩
   .simp[e0,e5,W,e7,h,aL hg,Z,T];exact hN _ _ _ _ h (bY _) ⟨e0,e5,W,rfl,by rw[hf,E Z],rfl⟩
  .have E:i=s.aG.length:=by omega
   subst E;simp[e0,W,e7];exact aS ⟨by rw[hP,hf,List.drop_length];rfl,rfl⟩
def findP_norm {p} (h:xB p=true) l:nH p l=findF p l 0:=by unfold nH;rw[of_decide_eq_true h]
def sQ (x:cS):Bool:=xB x.Path&&decide (x.Source.length<=4000)&&cT x.Version 1 1000000000
def yQ:aF cS->Bool
 |[]=>true
 |x::l=>!(l.map (·.Path)).contains x.Path&&yQ l
def qH (l:aF cS):Bool:=l.all sQ&&yQ l.reverse&&decide (l.length<=8)
def findF_miss_iff id:∀(l:aF cS) (i:Nat),(l.map (·.Path)).contains id=false->findF id l i = -1
 |[],i,_=>rfl
 |x::l,i,h=>by
  simp only[gJ,zW,Bool.or_eq_false_iff] at h;unfold findF;rw[if_neg (by intro e;simp[e] at h)];exact findF_miss_iff id l (i+1) h.2
def X0 {id:aA} (m:aF cS):∀(l:aF cS) (i:Nat),(l.map (·.Path)).contains id=false->findF id (l++m) i=findF id m (i+l.length)
 |[],i,_=>by simp
 |x::l,i,h=>by
  simp only[gJ,zW,Bool.or_eq_false_iff] at h;rw[zX,findF,if_neg (by intro e;simp[e] at h),X0 m l (i+1) h.2];simp only[lE];congr 1;omega
def XY {id:aA} (m:aF cS):∀(l:aF cS) (i:Nat),(l.map (·.Path)).contains id=true->findF id (l++m) i<i+l.length
 |[],i,h=>by simp at h
 |x::l,i,h=>by
  rw[zX,findF];by_cases e:x.Path=id
  .rw[if_pos e];simp;omega
  .rw[if_neg e];have E:(l.map (·.Path)).contains id=true:=by
    simp only[gJ,zW,CT] at h;rcases h with h|h
    .exact absurd (by simpa using h:id=x.Path).symm e
    .exact h
   have:=XY m l (i+1) E;simp;omega
def find_selfF {l:aF cS} {i:Nat} (h:i<l.length):(findF l[i].Path l 0=i)↔((l.take i).map (·.Path)).contains l[i].Path=false:=by
 have e:l=l.take i++l.drop i:=(wA i l).symm;have J:(l.take i).length=i:=by simp;omega
 constructor
 .intro T;cases E:((l.take i).map (·.Path)).contains l[i].Path with
  |false=>rfl
  |true=>
   have:=XY (l.drop i) (l.take i) 0 E;rw[<-e,T,J] at this;omega
 .intro E;have:=X0 (l.drop i) (l.take i) 0 E;rw[<-e,J] at this;rw[this,uS h,findF,if_pos rfl];simp
def once_stepF {l:aF cS} {i:Nat} (h:i<l.length):yQ (l.take (i+1)).reverse=(!((l.take i).map (·.Path)).contains l[i].Path&&yQ (l.take i).reverse):=by rw[nO h,List.reverse_append];simp only[List.reverse_cons,List.reverse_nil,F0,List.singleton_append,yQ,List.map_reverse];congr 2;rw[Bool.eq_iff_iff];simp
def tK (l:aF cS) (i:Nat):Bool:=(l.take i).all sQ&&yQ (l.take i).reverse
def UY {l:aF cS} {i:Nat} (h:i<l.length):tK l (i+1)=(tK l i&&sQ l[i]&&!((l.take i).map (·.Path)).contains l[i].Path):=by unfold tK;rw[once_stepF h,nO h,GF];simp only[LR,List.all_nil,Bool.and_true];cases (l.take i).all sQ<;>cases sQ l[i]<;>cases yQ (l.take i).reverse<;>simp
def okTo_monoF {l} {i} (h:tK l i=false):qH l=false:=by
 have E:∀j,i<=j->j<=l.length->tK l j=false:=by
  intro j J
  induction J with
  |refl=>exact λ_=>h
  |step J J=>intro T;rw[UY (by omega),J (by omega)];simp
 rcases iA i l.length with J|J
 .have:=E l.length (zS J) (bB _);unfold tK at this;rw[mU] at this;unfold qH;rw[this];rfl
 .unfold tK at h;rw[fJ J] at h;unfold qH;rw[h];rfl
def okTo_allF {l:aF cS} (h:tK l l.length=true):qH l=decide (l.length<=8):=by unfold tK at h;rw[mU] at h;unfold qH;rw[h];rfl
def MS {s:SL cS} (hs:A1 s):dA aE 64 [s.av 3 cS.enc] (.bool (qH s.aG)):=by
 have hn:=hs.1;refine fO F64 λc=>?_;simp[F64];refine b6 s.aG.length (λi e H E=>e 0=s.av 3 cS.enc/\e 3=.I i/\tK s.aG i=true/\H=[]) ⟨rfl,rfl,rfl,rfl⟩ ?_;intro i e H c E ⟨e0,e3,W,E⟩ N hN;subst E;simp[e0,e3];refine⟨λh=>⟨s.aG[i],bC h,?_⟩,λh=>?_⟩
 .have J:=UY h;have E:=find_selfF h;have Z:=hs.2 _ (oR h);rw[W] at J;have hg:s.aG[i]?=some s.aG[i]:=bC h;generalize T:s.aG[i]=x at J E Z hg;have T:(sQ x&&!((s.aG.take i).map (·.Path)).contains x.Path)=false->qH s.aG=false:=λhb=>okTo_monoF (i:=i+1) (by rw[J];simpa using hb);simp;refine bZ (MT Z.1) .bool λ_ _=>?_;cases h1:xB x.Path
  .simp;exact aS ⟨by rw[T (by simp[sQ,h1])],rfl⟩
  simp[e0,e3,aL hg];refine bZ (C6 hn Z.1) .int λ_ _=>?_;rw[findP_norm h1];by_cases h2:findF x.Path s.aG 0=i;rotate_left
  .simp[e3,h2];have Z:((s.aG.take i).map (·.Path)).contains x.Path=true:=by
    cases Z:((s.aG.take i).map (·.Path)).contains x.Path with
    |true=>rfl
    |false=>exact absurd (E.2 Z) h2
   exact aS ⟨by rw[T (by rw[Z];simp)],rfl⟩
  have Z:=E.1 h2;simp[e0,e3,aL hg,h2];by_cases E:(4000:Int)<x.Source.length
  .simp[E];exact aS ⟨by rw[T (by simp[sQ];intros;omega)],rfl⟩
  simp[e0,e3,aL hg,E];refine bZ (fA _ _ _) .bool λ_ _=>?_;cases h5:cT x.Version 1 1000000000
  .simp[E];exact aS ⟨by rw[T (by simp[sQ,h5])],rfl⟩
  simp[e3,E];exact hN _ _ _ _ h (eX _) ⟨e0,by simp[aK];exact cD hn h,by rw[J];simp only[sQ,h1,h5,Z];simp;omega,rfl⟩
 .have:i=s.aG.length:=by omega
  subst this;refine aS ⟨?_,rfl⟩;rw[okTo_allF W];simp;omega
def site_len {l:aF cS} (h:qH l=true):l.length<=8:=by simp only[qH,eY,decide_eq_true_eq] at h;exact h.2
structure FM (y:aA):Prop where
 p:pN y=true
 a:y≠[]
 b:y≠[46]
 c:y≠[46,46]
def pstep_gd {o E:aF aA} {x:aA} (h:kY o x=some E) (J:∀y,y∈o->FM y):∀y,y∈E->FM y:=by
 unfold kY at h;split at h
 .cases h;exact J
 .rename_i T;split at h
  .split at h
   .cases h
   .cases h;exact λy E=>J y ((List.dropLast_sublist o).subset E)
  .rename_i Z;split at h
   .rename_i W;cases h;intro y E;rcases dI.1 E with E|E
    .exact J y E
    .simp at E;subst E;exact⟨W,λe=>T (.inl e),λe=>T (.inr e),Z⟩
   .cases h
def UE:∀{r o E:aF aA},pM o r=some E->(∀y,y∈o->FM y)->∀y,y∈E->FM y
 |[],o,E,h,J=>by simp[pM] at h;subst h;exact J
 |x::r,o,E,h,J=>by
  simp only[pM] at h;cases hp:kY o x with
  |none=>rw[hp] at h;cases h
  |some E=>rw[hp] at h;exact UE h (pstep_gd hp J)
def UC:∀{r o:aF aA},(∀y,y∈r->FM y)->pM o r=some (o++r)
 |[],o,_=>by simp[pM]
 |x::r,o,h=>by
  have E:=h x (by simp);have J:kY o x=some (o++[x]):=by
   unfold kY;rw[if_neg (λe=>e.elim E.a E.b),if_neg E.c,if_pos E.p]
  simp only[pM,J,uP];rw[UC λy E=>h y (by simp[E])];simp
def pPart_no {y} (h:pN y=true):(47:UInt8)∉y:=λE=>by
 simp only[pN,eY,kM] at h;have:=h.1 47 E
 revert this
 decide
def SK:∀(o:aF aA),o≠[]->(∀y,y∈o->(47:UInt8)∉y)->Lib.split (j7 [47] o) [47]=o
 |[],h,_=>absurd rfl h
 |[x],_,h=>by
  have T:=h x (by simp);have:j7 [47] [x]=x:=Lib.join_one x [47];rw[this];have J:=SO (l:=x) (sep:=[47]) (a:=0) (by simp) λj _ E=>by
   rw[DM];simp only[decide_eq_false_iff_not];intro e;exact T (bA e)
  simpa using J
 |x::y::r,_,h=>by
  have T:=h x (by simp);have W:=SK (y::r) (by simp) λz W=>h z (by simp[W]);have E:j7 [47] (x::y::r)=x++47::j7 [47] (y::r):=by
   show Lib.join (x::y::r) [47]=x++47::Lib.join (y::r) [47];simp[Lib.join,List.intercalate]
  rw[E];have J:=SP (l:=x++47::j7 [47] (y::r)) (sep:=[47]) (a:=0) (i:=x.length) (by simp) (kH _) (by simp) (λj _ E=>by
   rw[DM];simp only[decide_eq_false_iff_not];intro e;rw[gY E] at e;exact T (bA e)) (by rw[DM];simp)
  simp at J;rw[J];congr 1
def norm_idem {l q} (h:jY l=some q):jY q=some q:=by
 unfold jY at h;split at h
 .cases h
 .cases ho:iL l with
  |none=>rw[ho] at h;cases h
  |some o=>
   rw[ho] at h;simp only[uP] at h;split at h
   .rename_i E;cases h;have T:=UE ho (by simp);have J:o≠[]:=λe=>by subst e;rw[D5] at E;simp[cT] at E
    have W:iL (j7 [47] o)=some o:=by
     unfold iL;rw[SK o J λy J=>pPart_no (T y J).p];exact UC T
    unfold jY;rw[if_neg (by simp[cT] at E;omega),W,uP,if_pos E]
   .cases h
def U1 {l q:aA} (h:jY l=some q):q.length<=60:=by
 unfold jY at h;split at h
 .cases h
 .cases ho:iL l with
  |none=>rw[ho] at h;cases h
  |some o=>
   rw[ho] at h;simp only[uP] at h;split at h
   .rename_i E;cases h;simp[cT] at E;omega
   .cases h
set_option maxRecDepth 100000
def reason (c:Int):aA:=
 if c=200 then [79,75] else if c=400 then [66,97,100,32,82,101,113,117,101,115,116] else if c=404 then [78,111,116,32,70,111,117,110,100]
 else if c=500 then [69,114,114,111,114] else if c=503 then [66,117,115,121] else []
def spec_reason (c:Int):dA aE 19 [.I c] (.str (reason c)):=by
 refine fO F19 λ_=>?_;unfold F19 reason;by_cases Z:c=200
 .simp[Z];exact aS ⟨rfl,rfl⟩
 by_cases W:c=400
 .simp[W];exact aS ⟨rfl,rfl⟩
 by_cases T:c=404
 .simp[T];exact aS ⟨rfl,rfl⟩
 by_cases J:c=500
 .simp[J];exact aS ⟨rfl,rfl⟩
 by_cases E:c=503
 .simp[E];exact aS ⟨rfl,rfl⟩
 simp[Z,W,T,J,E];exact aS ⟨rfl,rfl⟩
def OC (c:Int):dA aE 10 [.I c] (.str (reason c)):=by
 refine fO F10 λ_=>?_;unfold F10 reason;by_cases Z:c=200
 .simp[Z];exact aS ⟨rfl,rfl⟩
 by_cases W:c=400
 .simp[W];exact aS ⟨rfl,rfl⟩
 by_cases T:c=404
 .simp[T];exact aS ⟨rfl,rfl⟩
 by_cases J:c=500
 .simp[J];exact aS ⟨rfl,rfl⟩
 by_cases E:c=503
 .simp[E];exact aS ⟨rfl,rfl⟩
 simp[Z,W,T,J,E];exact aS ⟨rfl,rfl⟩
def mE (b:UInt8):Bool:=nF b||kE b||decide (b.toNat=45)
def oZ (l:aA):Bool:=l.all mE&&cT l.length 1 20
def KE {α:Type} {p:α->Bool} {l:aF α} {i:Nat} (h:i<l.length) (E:p l[i]=false):l.all p=false:=by rw[RE];exact⟨_,oR h,by simp[E]⟩
def isD_not {b:UInt8} (h:b.toNat=95):kE b=false:=by simp[kE,cT,h]
def isA_not {b:UInt8} (h:b.toNat=95):nF b=false:=by simp[nF,cT,h]
def SW {l:aA} (hl:l.length<=mx):dA aE 35 [.str l] (.bool (oZ l)):=by
 refine fO F35 λc=>?_;simp[F35];refine b6 l.length (λi e H E=>e 0=.str l/\e 3=.I i/\(l.take i).all mE=true/\H=[]) ⟨rfl,rfl,by simp,rfl⟩ ?_;intro i e H c E ⟨e0,e3,ha,E⟩ N hN;subst E;simp[e0,e3];refine⟨λh=>?_,λh=>?_⟩
 .have hb:l[i]?=some l[i]:=bC h;have bad:mE l[i]=false->oZ l=false:=λhb=>by unfold oZ;rw[KE h hb];rfl
  have T:mE l[i]=true->(l.take (i+1)).all mE=true:=λE=>FA ha h E;generalize l[i]=b at hb bad T;refine⟨_,hb,?_⟩;simp;refine bZ (DW b) .bool λ_ _=>?_;have E:=WR b;by_cases W:b.toNat=95
  .have J:(b.toNat:Int)=95:=by omega
   have hL:mB b=true:=by rw[E];simp[W]
   simp[e0,e3,hL];refine⟨_,hb,?_⟩;simp[J];exact aS ⟨by rw[bad (by simp[mE,isA_not W,isD_not W,W])],rfl⟩
  have J:¬(b.toNat:Int)=95:=by omega
  cases hL:mB b
  .have hA:nF b=false:=by rw[hL] at E;simp at E;exact E.1
   simp[e0,e3];refine⟨_,hb,?_⟩;simp;refine bZ (BV b) .bool λ_ _=>?_;cases hD:kE b
   .simp[e0,e3];refine⟨_,hb,?_⟩;by_cases h45:(b.toNat:Int)=45
    .have Z:b.toNat=45:=by omega
     simp[e0,e3,h45];refine⟨_,hb,?_⟩;simp[h45];exact hN _ _ _ _ h (bY _) ⟨e0,by simp[aK];exact cD hl h,T (by simp[mE,Z]),rfl⟩
    .have Z:¬b.toNat=45:=by omega
     simp[h45];exact aS ⟨by rw[bad (by simp[mE,hA,hD,Z])],rfl⟩
   .simp[e0,e3];refine⟨_,hb,?_⟩;simp[J];exact hN _ _ _ _ h (bY _) ⟨e0,by simp[aK];exact cD hl h,T (by simp[mE,hD]),rfl⟩
  .have hA:nF b=true:=by rw[hL] at E;simp[W] at E;exact E
   simp[e0,e3];refine⟨_,hb,?_⟩;simp[J];exact hN _ _ _ _ h (bY _) ⟨e0,by simp[aK];exact cD hl h,T (by simp[mE,hA]),rfl⟩
 .have E:i=l.length:=by omega
  subst E;rw[mU] at ha;refine bZ (fA _ _ _) .bool λ_ _=>?_;simp;exact aS ⟨by simp[oZ,ha],rfl⟩
def impl_hName {l:aA} (hl:l.length<=mx):dA aE 52 [.str l] (.bool (oZ l)):=by
 refine fO F52 λc=>?_;simp[F52];refine b6 l.length (λi e H E=>e 0=.str l/\e 3=.I i/\(l.take i).all mE=true/\H=[]) ⟨rfl,rfl,by simp,rfl⟩ ?_;intro i e H c E ⟨T,Z,ha,E⟩ N hN;subst E;simp[T,Z];refine⟨λh=>?_,λh=>?_⟩
 .have J:l[i]?=some l[i]:=bC h;have bad:mE l[i]=false->oZ l=false:=λJ=>by unfold oZ;rw[KE h J];rfl
  have E:mE l[i]=true->(l.take (i+1)).all mE=true:=λW=>FA ha h W;generalize l[i]=b at J bad E;refine⟨_,J,?_⟩;simp;refine bZ (isLetter_fn b) .bool λ_ _=>?_;cases hA:nF b
  .simp[T,Z];refine⟨_,J,?_⟩;simp;refine bZ (isDigit_fn b) .bool λ_ _=>?_;cases hD:kE b
   .simp[T,Z];refine⟨_,J,?_⟩;by_cases W:(b.toNat:Int)=45
    .have J:b.toNat=45:=by omega
     simp[W];exact hN _ _ _ _ h (bY _) ⟨T,by simp[aK];exact cD hl h,E (by simp[mE,J]),rfl⟩
    .have J:¬b.toNat=45:=by omega
     simp[W];exact aS ⟨by rw[bad (by simp[mE,hA,hD,J])],rfl⟩
   .simp[Z];exact hN _ _ _ _ h (bY _) ⟨T,by simp[aK];exact cD hl h,E (by simp[mE,hD]),rfl⟩
  .simp[Z];exact hN _ _ _ _ h (bY _) ⟨T,by simp[aK];exact cD hl h,E (by simp[mE,hA]),rfl⟩
 .have E:i=l.length:=by omega
  subst E;rw[mU] at ha;refine bZ (inRange_fn _ _ _) .bool λ_ _=>?_;simp;exact aS ⟨by simp[oZ,ha],rfl⟩
def qW (b:UInt8):Bool:=cT b.toNat 32 126
def oY (l:aA):Bool:=l.all qW&&decide (l.length<=60)
def SV {l:aA} (hl:l.length<=mx):dA aE 36 [.str l] (.bool (oY l)):=by
 refine fO F36 λc=>?_;simp[F36];refine b6 l.length (λi e H E=>e 0=.str l/\e 3=.I i/\(l.take i).all qW=true/\H=[]) ⟨rfl,rfl,by simp,rfl⟩ ?_;intro i e H c E ⟨e0,Z,W,E⟩ N hN;subst E;simp[e0,Z];refine⟨λh=>?_,λh=>?_⟩
 .have T:l[i]?=some l[i]:=bC h;have J:qW l[i]=false->oY l=false:=λT=>by unfold oY;rw[KE h T];rfl
  have E:qW l[i]=true->(l.take (i+1)).all qW=true:=λhx=>FA W h hx;generalize l[i]=b at T J E;refine⟨_,T,?_⟩;simp[wE];refine bZ (fA _ _ _) .bool λ_ _=>?_;cases hv:cT b.toNat 32 126
  .simp;exact aS ⟨by rw[J hv],rfl⟩
  .simp[Z];exact hN _ _ _ _ h (bY _) ⟨e0,by simp[aK];exact cD hl h,E hv,rfl⟩
 .have E:i=l.length:=by omega
  subst E;rw[mU] at W;refine aS ⟨?_,rfl⟩;simp[oY,W];omega
def impl_hVal {l:aA} (hl:l.length<=mx):dA aE 53 [.str l] (.bool (oY l)):=by
 refine fO F53 λc=>?_;simp[F53];refine b6 l.length (λi e H E=>e 0=.str l/\e 3=.I i/\(l.take i).all qW=true/\H=[]) ⟨rfl,rfl,by simp,rfl⟩ ?_;intro i e H c E ⟨e0,e3,Z,E⟩ N hN;subst E;simp[e0,e3];refine⟨λh=>?_,λh=>?_⟩
 .have T:l[i]?=some l[i]:=bC h;have J:qW l[i]=false->oY l=false:=λT=>by unfold oY;rw[KE h T];rfl
  have E:qW l[i]=true->(l.take (i+1)).all qW=true:=λW=>FA Z h W;generalize l[i]=b at T J E;refine⟨_,T,?_⟩;by_cases W:(b.toNat:Int)<32
  .simp[W];exact aS ⟨by rw[J (by simp[qW,cT];intros;omega)],rfl⟩
  simp[e0,e3,W];refine⟨_,T,?_⟩;simp;refine⟨λT=>?_,λT=>?_⟩
  .exact aS ⟨by rw[J (by simp[qW,cT];intros;omega)],rfl⟩
  .exact hN _ _ _ _ h (bY _) ⟨e0,by simp[aK];exact cD hl h,E (by simp[qW,cT];omega),rfl⟩
 .have W:i=l.length:=by omega
  subst W;rw[mU] at Z;refine aS ⟨?_,rfl⟩;simp[oY,Z];omega
def nG (x:bK):Bool:=oZ x.Name&&oY x.Value
def IA:aF aA->Bool
 |[]=>true
 |x::l=>!l.contains x&&IA l
def vL (l:aF bK) (i:Nat):Bool:=(l.take i).all nG&&IA ((l.take i).map (·.Name)).reverse
def vK (l:aF bK):Bool:=vL l l.length
def OE {l:aF bK} {i:Nat} (h:i<l.length):vL l (i+1)=(vL l i&&nG l[i]&&!((l.take i).map (·.Name)).contains l[i].Name):=by
 unfold vL;rw[nO h,GF,qB,List.reverse_append];simp only[gJ,xY,List.reverse_cons,List.reverse_nil,F0,List.singleton_append,IA,LR,List.all_nil,Bool.and_true];have:((l.take i).map (·.Name)).reverse.contains l[i].Name=((l.take i).map (·.Name)).contains l[i].Name:=by rw[Bool.eq_iff_iff];simp
 rw[this];cases (l.take i).all nG<;>cases nG l[i]<;>cases IA ((l.take i).map (·.Name)).reverse<;>simp
def W2 {l:aF bK} {i} (T:i<=l.length) (h:vL l i=false):vK l=false:=by
 have E:∀j,i<=j->j<=l.length->vL l j=false:=by
  intro j J
  induction J with
  |refl=>exact λ_=>h
  |step J J=>intro W;rw[OE (by omega),J (by omega)];simp
 exact E l.length T (bB _)
def rB (E:aA) (l:aF bK):Bool:=decide (E.length<=3000)&&decide (l.length<=8)&&vK l
def wQ (b:aA) (s:SL bK):aF AV:=[.str b,s.av 2 bK.enc,.aU]
def spec_total {b:aA} {s}:dA aE 34 [.agg (wQ b s)] (.I b.length):=by refine fO KR λc=>?_;unfold KR wQ;simp;refine b6 0 (λi e H E=>e 1=.ptr 0 c 3 0 0/\e 3=.I b.length/\e 4=.I 0/\H=[⟨false,c,3,[[.str b,s.av 2 bK.enc,.aU]]⟩]) ⟨rfl,rfl,rfl,rfl⟩ ?_;intro i e H E E ⟨W,T,J,E⟩ N Z;subst E;simp[W,T,J];exact aS ⟨rfl,rfl⟩
def impl_total {b:aA} {s}:dA aE 50 [.agg (wQ b s)] (.I b.length):=by refine fO F50 λc=>?_;unfold F50 wQ;simp;refine b6 0 (λi e H E=>e 3=.I b.length/\e 11=.I 0/\e 12=.I 0/\H=[⟨false,c,3,[[.str b,s.av 2 bK.enc,.aU]]⟩]) ⟨rfl,rfl,rfl,rfl⟩ ?_;intro i e H E E ⟨W,J,E,T⟩ N Z;subst T;simp[W,J,E];exact aS ⟨rfl,rfl⟩
def contains_step {l:aF bK} {j:Nat} {x} (h:j<l.length) (E:((l.take j).map (·.Name)).contains x=false) (J:l[j].Name≠x):((l.take (j+1)).map (·.Name)).contains x=false:=by rw[nO h,qB,List.contains_eq_any_beq] at *;simp at E ⊢;exact⟨E,λe=>J e.symm⟩
def contains_hit {l:aF bK} {i j:Nat} {x} (E:j<i) (h:i<=l.length) (E:l[j].Name=x):((l.take i).map (·.Name)).contains x=true:=by rw[List.contains_iff_mem];exact fZ.2 ⟨l[j],LH.2 ⟨j,by simp;omega,by simp⟩,E⟩
def spec_out {b:aA} {s:SL bK} (J:b.length<=mx) (hs:DL s):dA aE 20 [.agg (wQ b s)] (.bool (rB b s.aG)):=by
 have hn:=hs.1;refine fO F20 λc=>?_;unfold F20 wQ;simp;refine bZ spec_total .int λE _=>?_;by_cases E:(3000:Int)<b.length
 .simp[E];exact aS ⟨by simp[rB];intros;omega,rfl⟩
 by_cases T:(8:Int)<s.aG.length
 .simp[E,T];exact aS ⟨by simp[rB];intros;omega,rfl⟩
 simp[E,T];have mD:rB b s.aG=vK s.aG:=by
  have E:b.length<=3000:=by omega
  have T:s.aG.length<=8:=by omega
  simp[rB,E,T]
 rw[mD];refine b6 s.aG.length (λi e H c'=>e 1=.ptr 0 c 3 0 0/\e 3=.I i/\vL s.aG i=true/\H=[⟨false,c,3,[[.str b,s.av 2 bK.enc,.aU]]⟩]) ⟨rfl,rfl,rfl,rfl⟩ ?_;intro i e H c' T ⟨E,T,ht,hH⟩ N hN;subst hH;simp[E,T];refine⟨λh=>?_,λh=>?_⟩
 .have W:=OE h;have hg:s.aG[i]?=some s.aG[i]:=bC h;have hok:=hs.2 _ (oR h);rw[ht] at W;have Z:(nG s.aG[i]&&!((s.aG.take i).map (·.Name)).contains s.aG[i].Name)=false->vK s.aG=false:=λJ=>W2 (i:=i+1) h (by rw[W];simpa using J);refine b6 i (λj e H c'=>e 1=.ptr 0 c 3 0 0/\e 3=.I i/\e 4=.I j/\((s.aG.take j).map (·.Name)).contains s.aG[i].Name=false/\H=[⟨false,c,3,[[.str b,s.av 2 bK.enc,.aU]]⟩]) ⟨E,T,rfl,by simp,rfl⟩ ?_;intro j e H c' hj ⟨E,T,e4,hc,hH⟩ N' hN';subst hH;simp[E,T,e4];refine⟨λJ=>?_,λJ=>?_⟩
  .have hgj:s.aG[j]?=some s.aG[j]:=bC (by omega);refine⟨_,hgj,?_⟩;simp[E,T];refine⟨_,hg,?_⟩;by_cases hq:s.aG[j].Name=s.aG[i].Name
   .simp[hq];exact aS ⟨by rw[Z (by rw[contains_hit J (by omega) hq];simp)],rfl⟩
   .simp[e4,hq];exact hN' _ _ _ _ J (bY _) ⟨E,T,by simp[aK];exact cD (by unfold mx;omega) J,contains_step (by omega) hc hq,rfl⟩
  .have J:j=i:=by omega
   subst J;refine⟨_,hg,?_⟩;simp;refine bZ (SW hok.1) .bool λ_ _=>?_;cases h3:oZ s.aG[j].Name
   .simp;exact aS ⟨by rw[Z (by simp[nG,h3])],rfl⟩
   simp[E,T];refine⟨_,hg,?_⟩;simp;refine bZ (SV hok.2) .bool λ_ _=>?_;cases h4:oY s.aG[j].Value
   .simp;exact aS ⟨by rw[Z (by simp[nG,h4])],rfl⟩
   simp[T];exact hN _ _ _ _ h (bY _) ⟨E,by simp[aK];exact cD hn h,by rw[W,hc];simp[nG,h3,h4],rfl⟩
 .have J:i=s.aG.length:=by omega
  subst J;refine b6 0 (λj e H c'=>e 1=.ptr 0 c 3 0 0/\e 5=.I 0/\H=[⟨false,c,3,[[.str b,s.av 2 bK.enc,.aU]]⟩]) ⟨E,rfl,rfl⟩ ?_;intro j e H c' hj ⟨E,J,hH⟩ N' hN';subst hH;simp[E,J];exact aS ⟨by unfold vK;rw[ht],rfl⟩
def yS (x:bK):aF AV:=[.str x.Name,.bool true]
def U7 {id:aA}:∀(l:aF bK) (k:Nat),(l.map (·.Name)).contains id=false->jM (.str id) (l.map yS) k=some none
 |[],k,_=>rfl
 |x::l,k,h=>by
  simp only[gJ,zW,Bool.or_eq_false_iff] at h;have e:iM (.str id) (.str x.Name)=some false:=by simp only[iM];rw[h.1]
  simp only[gJ,yS,jM,e];exact U7 l (k+1) h.2
def U6 {id:aA}:∀(l:aF bK) (k:Nat),(l.map (·.Name)).contains id=true->∃j,jM (.str id) (l.map yS) k=some (some (j,.bool true))
 |[],k,h=>by simp at h
 |x::l,k,h=>by
  cases e:(id==x.Name) with
  |true=>
   have E:iM (.str id) (.str x.Name)=some true:=by simp only[iM];rw[e]
   exact⟨k,by simp only[gJ,yS,jM,E]⟩
  |false=>
   have E:iM (.str id) (.str x.Name)=some false:=by simp only[iM];rw[e]
   simp only[gJ,zW,e,LW] at h;obtain⟨j,J⟩:=U6 l (k+1) h;exact⟨j,by simp only[gJ,yS,jM,E];exact J⟩
def wS (l:aF bK) (i:Nat):aF (aF AV):=(l.take i).map yS
def nmRows_step {l:aF bK} {i:Nat} (h:i<l.length):wS l (i+1)=wS l i++[yS l[i]]:=by unfold wS;rw[nO h,qB];rfl
def nmRows_len {l} {i}:(wS l i).length<=i:=by unfold wS;simp;omega
def impl_out {b:aA} {s:SL bK} (hb:b.length<=mx) (hs:DL s):dA aE 28 [.agg (wQ b s)] (.bool (rB b s.aG)):=by
 have hn:=hs.1;refine fO F28 λc=>?_;unfold F28 wQ;simp;refine bZ impl_total .int λcc _=>?_;by_cases h1:(3000:Int)<b.length
 .simp[h1];exact aS ⟨by simp[rB];intros;omega,rfl⟩
 by_cases h2:(8:Int)<s.aG.length
 .simp[h1,h2];exact aS ⟨by simp[rB];intros;omega,rfl⟩
 simp[h1,h2];have mD:rB b s.aG=vK s.aG:=by
  have e1:b.length<=3000:=by omega
  have e2:s.aG.length<=8:=by omega
  simp[rB,e1,e2]
 rw[mD];refine b6 0 (λj e H c'=>e 1=.ptr 0 c 3 0 0/\e 25=.I 0/\e 26=.I 0/\c<=c'/\H=[⟨false,c,3,[[.str b,s.av 2 bK.enc,.aU]]⟩]) ⟨rfl,rfl,rfl,by omega,rfl⟩ ?_;intro j e H c2 hj ⟨e1,e25,e26,hc2,hH⟩ N' hN';subst hH;simp[e1,e25,e26];refine b6 s.aG.length (λi e H c'=>e 5=.jG 1 c2/\e 37=s.av 2 bK.enc/\e 38=.I s.aG.length/\e 39=.I i/\vL s.aG i=true/\H=[⟨false,c,3,[[.str b,s.av 2 bK.enc,.aU]]⟩,⟨true,c2,0,wS s.aG i⟩]) ⟨rfl,rfl,rfl,rfl,rfl,rfl⟩ ?_;intro i e H c' hi ⟨e5,e37,e38,e39,ht,hH⟩ N hN;subst hH;simp[e37,e38,e39];refine⟨λh=>⟨s.aG[i],bC h,?_⟩,λh=>?_⟩
 .have hst:=OE h;have hok:=hs.2 _ (oR h);have htk:=nmRows_step h;rw[ht] at hst;have bad:(nG s.aG[i]&&!((s.aG.take i).map (·.Name)).contains s.aG[i].Name)=false->vK s.aG=false:=λhb=>W2 (i:=i+1) h (by rw[hst];simpa using hb);generalize s.aG[i]=x at hst hok htk bad;simp[e5];cases hc:((s.aG.take i).map (·.Name)).contains x.Name;rotate_left
  .obtain⟨j,hj⟩:∃j,jM (.str x.Name) (wS s.aG i) 0=some (some (j,.bool true)):=U6 _ 0 hc;refine VN rfl rfl hj ?_;simp;exact aS ⟨by rw[bad (by rw[hc];simp)],rfl⟩
  have hm:jM (.str x.Name) (wS s.aG i) 0=some none:=U7 _ 0 hc;refine VO rfl rfl hm ?_;simp;refine bZ (impl_hName hok.1) .bool λ_ _=>?_;cases h3:oZ x.Name
  .simp;exact aS ⟨by rw[bad (by simp[nG,h3])],rfl⟩
  simp;refine bZ (impl_hVal hok.2) .bool λ_ _=>?_;cases h4:oY x.Value
  .simp;exact aS ⟨by rw[bad (by simp[nG,h4])],rfl⟩
  simp[e5];refine VD rfl rfl hm (by have:=nmRows_len (l:=s.aG) (i:=i);unfold mx;omega) ?_;simp[e39];exact hN _ _ _ _ h (sub_two _ _ _) ⟨e5,e37,e38,by simp[aK];exact cD hn h,by rw[hst,hc];simp[nG,h3,h4],by rw[htk];rfl⟩
 .have h1':i=s.aG.length:=by omega
  subst h1';exact aS ⟨by unfold vK;rw[ht],rfl⟩
def jA (x:eG):Bool:=!decide (reason x.Code=[])&&rB x.dE x.cK.aG
def spec_isR {x:eG} (J:x.ok):dA aE 8 [.agg x.enc] (.bool (jA x)):=by
 have E:DL x.cK/\x.dE.length<=mx:=J;refine fO F8 λc=>?_;simp[F8];refine bZ (spec_reason _) .str λ_ _=>?_;by_cases J:reason x.Code=[]
 .simp[J];exact aS ⟨by simp[jA,J],rfl⟩
 simp[J,aR];refine bZ (spec_out E.2 E.1) .bool λ_ _=>?_;simp;exact aS ⟨by simp[jA,J],rfl⟩
def impl_isR {x:eG} (J:x.ok):dA aE 13 [.agg x.enc] (.bool (jA x)):=by
 have E:DL x.cK/\x.dE.length<=mx:=J;refine fO F13 λc=>?_;simp[F13];refine bZ (OC _) .str λ_ _=>?_;by_cases J:reason x.Code=[]
 .simp[J];exact aS ⟨by simp[jA,J],rfl⟩
 simp[J,aR];refine bZ (impl_out E.2 E.1) .bool λ_ _=>?_;simp;exact aS ⟨by simp[jA,J],rfl⟩
def resp_same {a b:eG} (h:a.jE=b.jE):a.Code=b.Code/\a.dE=b.dE/\a.cK.aG=b.cK.aG:=
 ⟨(congrArg eG.Code h:a.jE.Code=b.jE.Code),(congrArg eG.dE h:a.jE.dE=b.jE.dE),by
  have E:(a.jE.cK).aG=(b.jE.cK).aG:=congrArg (λz=>z.cK.aG) h;have e:∀l:aF bK,l.map bK.jE=l:=λl=>List.map_id' l;simpa[eG.jE,e] using E⟩
set_option maxRecDepth 100000
def jZ (b:UInt8) (l:aA):Prop:=∀x,x∈l->x≠b
def DP {b} {l:aA} (h:jZ b l) {j:Nat} (E:j<l.length):l[j]?≠some b:=by rw[bC E];intro e;exact h _ (oR E) (oN e)
def A3 {b} {l m} (h:jZ b l) (J:jZ b m):jZ b (l++m):=λx E=>by
 rcases dI.1 E with E|E
 .exact h x E
 .exact J x E
def occ_here (p sep t:aA):Lib.occAt (p++(sep++t)) sep p.length=true:=by unfold Lib.occAt;rw[List.drop_left];exact List.isPrefixOf_iff_prefix.2 (List.prefix_append _ _)
def WT {p sep t:aA} (E:∀j,j<p.length->Lib.occAt (p++(sep++t)) sep j=false):Lib.index (p++(sep++t)) sep=p.length:=
 Lib.index_first (by simp) (occ_here p sep t) E
def ZF {p sep t:aA} (E:∀j,j<p.length->Lib.occAt (p++(sep++t)) sep j=false):Lib.cut (p++(sep++t)) sep=(p,t,true):=by unfold Lib.cut;rw[WT E,if_pos (by omega)];simp
def U2 {p t:aA} {c} {u} (h:jZ c p):∀j,j<p.length->Lib.occAt (p++t) (c::u) j=false:=λj E=>by
 cases ho:Lib.occAt (p++t) (c::u) j
 .rfl
 .have:=Lib.occAt_head rfl ho;rw[gY E] at this;exact absurd this (DP h E)
def ZG {p t} {c} {u} (h:jZ c p):Lib.cut (p++(c::u++t)) (c::u)=(p,t,true):=ZF (U2 h)
def jn:aF aA->aA
 |[]=>[]
 |[l]=>l
 |l::m::r=>l++([13,10]++jn (m::r))
def jn_head {m:aA} r (h:m≠[]) t:(jn (m::r)++t)[0]?=m[0]?:=by
 cases m with
 |nil=>exact absurd rfl h
 |cons x m=>cases r<;>simp[jn]
def WG:∀(E:aF aA) (t:aA),(∀l,l∈E->jZ 13 l/\l≠[])->∀j,j<(jn E).length->¬((jn E++13::10::13::10::t)[j]?=some 13/\(jn E++13::10::13::10::t)[j+2]?=some 13)
 |[],t,h,j,J=>by simp[jn] at J
 |[l],t,h,j,J=>λ⟨E,_⟩=>by
  have Z:=(h l (by simp)).1;simp only[jn] at J E;rw[gY J] at E;exact DP Z J E
 |l::m::r,t,h,j,J=>λ⟨E,J⟩=>by
  have Z:=(h l (by simp)).1;have W:=h m (by simp);have ih:=WG (m::r) t λx T=>h x (iI _ T);have e:jn (l::m::r)++13::10::13::10::t=l++(13::10::(jn (m::r)++13::10::13::10::t)):=by simp[jn]
  have T:(jn (l::m::r)).length=l.length+(2+(jn (m::r)).length):=by simp[jn];omega
  rw[e] at E J;rcases iA j l.length with T|T
  .rw[gY T] at E;exact DP Z T E
  .rw[qV T] at E;rw[qV (by omega)] at J;obtain⟨k,rfl⟩:∃k,j=l.length+k:=⟨j-l.length,by omega⟩
   rw[FX] at E;rw[show l.length+k+2-l.length=k+2 by omega] at J
   match k,E,J with
   |0,E,J=>
    simp only[oO,List.getElem?_cons_succ] at J;rw[jn_head r W.2] at J;have:0<m.length:=r7.2 W.2;exact DP W.1 this J
   |1,E,J=>simp at E
   |k+2,E,J=>
    simp only[List.getElem?_cons_succ] at E J;exact ih k (by omega) ⟨E,J⟩
def occ_third {s:aA} {i:Nat} {c0 c1 E} {t} (h:Lib.occAt s (c0::c1::E::t) i=true):s[i+2]?=some E:=by unfold Lib.occAt at h;obtain⟨r,E⟩:=List.isPrefixOf_iff_prefix.1 h;have:=congrArg (λl:aA=>l[2]?) E;simp at this;rw[show i+2=i+2 from rfl,this]
def cut_head {ls} t (h:∀l,l∈ls->jZ 13 l/\l≠[]):Lib.cut (jn ls++([13,10,13,10]++t)) [13,10,13,10]=(jn ls,t,true):=
 ZF λj E=>by
  cases ho:Lib.occAt (jn ls++([13,10,13,10]++t)) [13,10,13,10] j
  .rfl
  .exact absurd ⟨Lib.occAt_head rfl ho,occ_third ho⟩ (WG ls t h j E)
def SM:∀(E:aF aA),E≠[]->(∀l,l∈E->jZ 13 l)->Lib.split (jn E) [13,10]=E
 |[],h,_=>absurd rfl h
 |[l],_,h=>by
  have J:=h l (by simp);refine SI (Lib.index_none λj _=>?_);cases ho:Lib.occAt (jn [l]) [13,10] j
  .rfl
  .have E:=Lib.occAt_head rfl ho;have W:j<l.length:=by
    rcases iA j l.length with T|T
    .exact T
    .simp only[jn] at E;rw[CR T] at E;cases E
   exact absurd E (DP J W)
 |l::m::r,_,h=>by
  have J:=h l (by simp);have E:=SM (m::r) (by simp) λx T=>h x (iI _ T);have T:=WT (sep:=[13,10]) (t:=jn (m::r)) (U2 (u:=[10]) J (t:=[13,10]++jn (m::r)));show Lib.split (l++([13,10]++jn (m::r))) [13,10] = _;rw[SN (by simp) T];simp[E]
set_option maxRecDepth 100000
def EC (h:bK):aA:=h.Name++([58,32]++(h.Value++[13,10]))
def mD (l:aF bK):aA:=l.flatMap EC
def xG (x:eG):aA:=[72,84,84,80,47,49,46,49,32]++(Lib.decDigits x.Code.toNat++([32]++(reason x.Code++[13,10])))
def EB (b:aA):aA:=[67,111,110,116,101,110,116,45,76,101,110,103,116,104,58,32]++(Lib.decDigits b.length++([13,10,13,10]++b))
def jP (x:eG):aA:=xG x++(mD x.cK.aG++EB x.dE)
def WZ (l:aF bK):(mD l).length=bE bK.sz l+4*l.length:=by
 induction l with
 |nil=>simp[mD,bE]
 |cons h l E=>
  simp only[mD,CS,kW,bE,gJ,nP,lE,EC,bK.sz] at E ⊢;simp at E ⊢;omega
def TS {c:Int} (h:¬reason c=[]):0<=c/\c<=503/\(reason c).length<=20:=by
 unfold reason at h ⊢;split at h
 .subst_vars;simp
 split at h
 .subst_vars;simp
 split at h
 .subst_vars;simp
 split at h
 .subst_vars;simp
 split at h
 .subst_vars;simp
 .exact absurd rfl h
def XQ {x:eG} (E:¬reason x.Code=[]):(xG x).length<=60:=by obtain⟨J,J,J⟩:=TS E;have E:=BY (u:=x.Code.toNat) (by omega);simp only[xG,kW,lE,Q7];omega
def hsum_step (l:aF bK) {i:Nat} (h:i<l.length):mD (l.take (i+1))=mD (l.take i)++EC l[i]:=by unfold mD;rw[nO h,List.flatMap_append];simp
def W0 (l:aF bK) i:(mD (l.take i)).length<=bE bK.sz l+4*l.length:=by
 have E:=WZ (l.take i);have E:=HA bK.sz l i;have E:(l.take i).length<=l.length:=by simp;omega
 omega
def OD {x:eG} (T:x.ok) (J:x.sz<=1048576):dA aE 6 [.agg x.enc] (.str (if jA x then jP x else [])):=by
 have E:yJ x.cK+x.dE.length<=1048576:=J;unfold yJ at E;refine fO F6 λc=>?_;simp[F6];refine bZ (impl_isR T) .bool λ_ _=>?_;cases T:jA x
 .simp;exact aS ⟨rfl,rfl⟩
 have E:¬reason x.Code=[]:=by
  intro h;unfold jA at T;simp[h] at T
 obtain⟨Z,J,W⟩:=TS E;obtain⟨k,J⟩:=iY Z;have Z:=BY (u:=k) (by omega);have Z:=BY (u:=x.dE.length) (by omega);simp[J];refine xP (WW (n:=(k:Int)) (by omega) (by omega)) .str λ_ _=>?_;simp[J];refine⟨by unfold mx;omega,by unfold mx;omega,?_⟩;refine xP (OC _) .str λ_ _=>?_;have Z:=XQ E;have E:xG x=72::84::84::80::47::49::46::49::32::(Lib.decDigits k++32::(reason (k:Int)++[13,10])):=by simp[xG,J]
 rw[J] at W;simp;refine⟨by unfold mx;omega,by unfold mx;omega,?_⟩;rw[<-E];obtain⟨A,J⟩:∃A,xG x=A:=⟨_,rfl⟩
 rw[J] at Z E ⊢;refine b6 x.cK.aG.length (λi e H E=>e 1=.ptr 0 c 3 0 0/\e 3=.str (A++mD (x.cK.aG.take i))/\e 20=x.cK.av 2 bK.enc/\e 21=.I x.cK.aG.length/\e 22=.I i/\H=[⟨false,c,3,[x.enc]⟩]) ⟨rfl,by simp[aK,mD],rfl,rfl,rfl,rfl⟩ ?_;intro i e H E T ⟨e1,e3,e20,e21,Z,E⟩ N hN;subst E;have W:=W0 x.cK.aG i;by_cases h:i<x.cK.aG.length
 .have hg:x.cK.aG[i]?=some x.cK.aG[i]:=bC h;have T:=hsum_step x.cK.aG h;have E:=W0 x.cK.aG (i+1);have E:=AR (sz:=bK.sz) (oR h);generalize x.cK.aG[i]=y at hg T E;generalize mD (x.cK.aG.take i)=S at e3 T W;have hyl:y.Name.length+y.Value.length<=1048576:=by simp only[bK.sz] at E;omega
  have E:IntKind.i64.wrap ((i:Int)+1)=((i+1:Nat):Int):=by rw[cD (by unfold mx;omega) h];rfl
  simp[e20,e21,Z,h];refine⟨y,hg,?_⟩;simp[e3,Z,E,aR];refine⟨by unfold mx;omega,by unfold mx;omega,by unfold mx;omega,by unfold mx;omega,?_⟩;exact hN _ _ _ _ h (sub_one _ _) ⟨e1,by simp[aK,T,EC],e20,e21,rfl,rfl⟩
 .have E:i=x.cK.aG.length:=by omega
  subst E;rw[mU] at e3 W;have E:jP x=A++(mD x.cK.aG++EB x.dE):=by unfold jP;rw[J]
  generalize mD x.cK.aG=S at e3 W E;simp[e1,e3,e21,Z];refine⟨by unfold mx;omega,?_⟩;refine bZ (WW (n:=(x.dE.length:Int)) (by omega) (by omega)) .str λ_ _=>?_;simp;refine⟨by unfold mx;omega,by unfold mx;omega,by unfold mx;omega,?_⟩;exact aS ⟨by rw[E];simp[EB],rfl⟩
set_option maxRecDepth 100000
def rA:aA:=[72,84,84,80,47,49,46,49,32]
def JV:aA:=[67,111,110,116,101,110,116,45,76,101,110,103,116,104,58,32]
def wW (c:Int):aA:=rA++(Lib.decDigits c.toNat++([32]++reason c))
def tQ (h:bK):aA:=h.Name++([58,32]++h.Value)
def DT (b:aA):aA:=JV++Lib.decDigits b.length
def nZ (c:Int) (hs:aF bK) (b:aA):aF aA:=wW c::(hs.map tQ++[DT b])
def N0:∀(E:aF aA) (z:aA),jn (E++[z])=E.flatMap (λl=>l++[13,10])++z
 |[],z=>by simp[jn]
 |[l],z=>by simp[jn]
 |l::m::r,z=>by
  have E:=N0 (m::r) z;simp only[zX] at E ⊢;rw[jn,E];simp
def XP (x:eG):jP x=jn (nZ x.Code x.cK.aG x.dE)++([13,10,13,10]++x.dE):=by
 have e:nZ x.Code x.cK.aG x.dE=(wW x.Code::x.cK.aG.map tQ)++[DT x.dE]:=by simp[nZ]
 have E:(x.cK.aG.map tQ).flatMap (λl=>l++[13,10])=mD x.cK.aG:=by
  rw[List.flatMap_map];unfold mD;congr 1;funext h;simp[tQ,EC]
 rw[e,N0,CS,E];simp[jP,xG,EB,wW,DT,rA,JV]
def YO:∀(k n:Nat),n<k->∀b,b∈Lib.decDigits n->48<=b.toNat/\b.toNat<=57
 |0,n,h=>by omega
 |k+1,n,h=>λb E=>by
  rw[Lib.decDigits] at E;split at E
  .rename_i J;rw[rY.1 E,FT];omega
  .rcases dI.1 E with E|E
   .exact YO k (n/10) (by omega) b E
   .rw[rY.1 E,FT];omega
def O6 {n} {c:UInt8} (E:¬(48<=c.toNat/\c.toNat<=57)):jZ c (Lib.decDigits n):=λb J e=>by
 subst e;exact E (YO (n+1) n (by omega) b J)
def reason_no (c:Int):jZ 13 (reason c):=by
 unfold reason;split
 .unfold jZ;decide
 split
 .unfold jZ;decide
 split
 .unfold jZ;decide
 split
 .unfold jZ;decide
 split
 .unfold jZ;decide
 .unfold jZ;decide
def W3 {l} (h:oZ l=true) {c} (E:mE c=false):jZ c l:=λb J e=>by
 subst e;simp only[oZ,eY] at h;have:=kM.1 h.1 b J;rw[E] at this;cases this
def hVal_no {l} (h:oY l=true):jZ 13 l:=λb E e=>by
 subst e;simp only[oY,eY] at h;have:=kM.1 h.1 13 E
 revert this;decide
def TQ {x:eG} (h:jA x=true):∀y,y∈x.cK.aG->nG y=true:=λy E=>by
 simp only[jA,rB,vK,vL,eY,mU] at h;exact kM.1 h.2.2.1 y E
def VU {x:eG} (h:jA x=true):∀l,l∈nZ x.Code x.cK.aG x.dE->jZ 13 l/\l≠[]:=λl E=>by
 unfold nZ at E;rcases fK.1 E with rfl|E
 .exact⟨A3 (by unfold jZ rA;decide) (A3 (O6 (by decide)) (A3 (by unfold jZ;decide) (reason_no _))),by simp[wW,rA]⟩
 rcases dI.1 E with E|E
 .obtain⟨y,T,rfl⟩:=fZ.1 E;have J:=TQ h y T;simp only[nG,eY] at J;exact⟨A3 (W3 J.1 (by decide)) (A3 (by unfold jZ;decide) (hVal_no J.2)),by simp[tQ]⟩
 .simp at E;subst E;exact⟨A3 (by unfold jZ JV;decide) (O6 (by decide)),by simp[DT,JV]⟩
def jB (s:aA):aF aA:=Lib.split (Lib.cut s [13,10,13,10]).1 [13,10]
def rdNum (s:aA):aA:=(Lib.cut (Lib.trimPrefix ((jB s).headD []) rA) [32]).1
def nB (l:aA):bK:=⟨(Lib.cut l [58,32]).1,(Lib.cut l [58,32]).2.1⟩
def kP (s:aA):aF bK:=(((jB s).drop 1).take ((jB s).length-2)).map nB
def lV (s:aA):aA:=(Lib.cut s [13,10,13,10]).2.1
def rdHdr_eq {y} (h:nG y=true):nB (tQ y)=y:=by simp only[nG,eY] at h;have:=ZG (t:=y.Value) (u:=[32]) (W3 h.1 (c:=58) (by decide));unfold nB tQ;rw[show y.Name++([58,32]++y.Value)=y.Name++(58::[32]++y.Value) from rfl,this]
def M4 {x:eG} (h:jA x=true):jB (jP x)=nZ x.Code x.cK.aG x.dE/\lV (jP x)=x.dE:=by have E:=VU h;have J:=cut_head (ls:=nZ x.Code x.cK.aG x.dE) x.dE E;unfold jB lV;rw[XP,J];exact⟨SM _ (by simp[nZ]) λl J=>(E l J).1,rfl⟩
def TV {x:eG} (h:jA x=true):rdNum (jP x)=Lib.decDigits x.Code.toNat:=by
 unfold rdNum;rw[(M4 h).1];have e:Lib.trimPrefix (wW x.Code) rA=Lib.decDigits x.Code.toNat++(32::[]++reason x.Code):=by
  unfold Lib.trimPrefix wW;have E:Lib.hasPrefix (rA++(Lib.decDigits x.Code.toNat++([32]++reason x.Code))) rA=true:=by
   unfold Lib.hasPrefix;exact List.isPrefixOf_iff_prefix.2 (List.prefix_append _ _)
  rw[if_pos E,List.drop_left]
 show(Lib.cut (Lib.trimPrefix (wW x.Code) rA) [32]).1 = _;rw[e,ZG (O6 (by decide))]
def rdHdrs_eq {x:eG} (h:jA x=true):kP (jP x)=x.cK.aG:=by
 unfold kP;rw[(M4 h).1];have e:((nZ x.Code x.cK.aG x.dE).drop 1).take ((nZ x.Code x.cK.aG x.dE).length-2)=x.cK.aG.map tQ:=by
  simp[nZ]
 rw[e,GA];have:∀l:aF bK,(∀y,y∈l->nG y=true)->l.map (nB∘tQ)=l:=λl E=>by
  induction l with
  |nil=>rfl
  |cons y l J=>rw[gJ,J λz J=>E z (iI _ J)];simp only[Function.comp];rw[rdHdr_eq (E y (by simp))]
 exact this _ (TQ h)
def code_ok {c:Int} (h:¬reason c=[]):oT (Lib.decDigits c.toNat) 0 1000000000000=true/\jS (Lib.decDigits c.toNat)=c:=by
 have E:c=200\/c=400\/c=404\/c=500\/c=503:=by
  unfold reason at h;split at h
  .exact .inl (by assumption)
  split at h
  .exact .inr (.inl (by assumption))
  split at h
  .exact .inr (.inr (.inl (by assumption)))
  split at h
  .exact .inr (.inr (.inr (.inl (by assumption))))
  split at h
  .exact .inr (.inr (.inr (.inr (by assumption))))
  .exact absurd rfl h
 rcases E with rfl|rfl|rfl|rfl|rfl<;>simp[oT,sU,jS,Lib.atoiAll,Lib.parseMag,Lib.parseUint10,Lib.itoa,Lib.decDigits]
open Go.RowKit
def trim_fn {l p:aA} (hl:l.length<=1048576):dA aE 17 [.str l,.str p] (.str (Lib.trimPrefix l p)):=by
 intro c;refine ES (res:=.str (Lib.trimPrefix l p)) (λG w vs hc I hs hr=>?_) ⟨rfl,rfl⟩;obtain⟨v0,v1,rfl⟩:∃v0 v1,vs=#[v0,v1]:=by
  match vs,hs with
  |⟨[a,b]⟩,_=>exact⟨a,b,rfl⟩
 have h0:=hr 0 _ rfl;have h1:=hr 1 _ rfl;simp at h0 h1;cases h0 with
 |@str s _ e hl0=>
 cases h1 with
 |@str t _ e1 hl1=>
 have key:=Tryz.strings_TrimPrefix s t w;rw[e,e1] at key;have hle:(Lib.trimPrefix l p).length<=l.length:=by
  unfold Lib.trimPrefix;split<;>simp
 exact key.mono λe w' ⟨h1,h2⟩=>⟨_,h1,h2▸Below.refl _ _,.str (by simp) (by unfold mx;omega)⟩
def split_ne l sep:Lib.split l sep≠[]:=by
 unfold Lib.split;cases Lib.count l sep with
 |zero=>simp[Lib.splitK]
 |succ k=>rw[Lib.splitK];split<;>simp
def SQ (sep:aA) (hs:sep.length=2):∀(k:Nat) (l:aA),bE (λx=>x.length+2) (Lib.splitK sep 0 k l)<=l.length+2
 |0,l=>by simp[Lib.splitK,bE]
 |k+1,l=>by
  rw[Lib.splitK];split
  .simp[bE]
  .rename_i h;have E:=SQ sep hs k (l.drop ((Lib.index l sep).toNat+sep.length));have J:=Lib.index_ge l sep;have J:¬Lib.index l sep = -1:=λe=>h (by rw[e];rfl);have J:(Lib.index l sep).toNat+2<=l.length:=by
    have J:=Lib.index_room l sep (by omega);omega
   simp only[bE,gJ,nP,Q6,List.length_drop,FW] at E ⊢;omega
def SC {α:Type} (f:α->Nat) (l m:aF α):bE f (l++m)=bE f l+bE f m:=by simp[bE]
def rdHdr_sz (l:aA):(nB l).sz<=l.length:=by
 unfold nB bK.sz Lib.cut;split
 .simp;omega
 .simp
def map_sz (l:aF aA):(l.map nB).length+bE bK.sz (l.map nB)<=bE (λx=>x.length+2) l:=by
 induction l with
 |nil=>simp[bE]
 |cons x l E=>
  have:=rdHdr_sz x;simp only[bE,gJ,nP,lE] at E ⊢;omega
def cut_sz (s sep:aA):(Lib.cut s sep).1.length+(Lib.cut s sep).2.1.length<=s.length:=by
 unfold Lib.cut;split
 .simp;omega
 .simp
def rd_sz {s:aA} (h:2<=(jB s).length):(kP s).length+bE bK.sz (kP s)+(lV s).length<=s.length:=by
 have E:=SQ [13,10] rfl (Lib.count (Lib.cut s [13,10,13,10]).1 [13,10]) (Lib.cut s [13,10,13,10]).1;have E:bE (λx=>x.length+2) (jB s)<=(Lib.cut s [13,10,13,10]).1.length+2:=E;have E:=cut_sz s [13,10,13,10];have E:=map_sz (((jB s).drop 1).take ((jB s).length-2));have E:bE (λx:aA=>x.length+2) (jB s)=bE (λx:aA=>x.length+2) ((jB s).take 1)+(bE (λx:aA=>x.length+2) (((jB s).drop 1).take ((jB s).length-2))+bE (λx:aA=>x.length+2) (((jB s).drop 1).drop ((jB s).length-2))):=by
  rw[<-SC,wA,<-SC,wA]
 have E:2<=bE (λx:aA=>x.length+2) ((jB s).take 1):=by
  cases hc:jB s with
  |nil=>rw[hc] at h;simp at h
  |cons x l=>simp[bE]
 unfold kP lV;omega
def lM (s:aA):eG:=⟨if oT (rdNum s) 0 1000000000000 then jS (rdNum s) else 0,.mk 0 (kP s),lV s⟩
def lW (s:aA):Bool:=oT (rdNum s) 0 1000000000000&&decide (2<=(jB s).length)&&!decide (s=[])&&decide ((if jA (lM s) then jP (lM s) else [])=s)
def eG.iF (s:eG):aF AV:=[.I s.Code,s.cK.ref 2,.str s.dE]
def eG.iV (s:eG):aC:=s.cK.mV 2 bK.enc tM
def AB:eG:=⟨0,.nil,[]⟩
def tJ (s:aA):eG:=if lW s then lM s else AB
def GQ {S} {l l'} (h:fG S l l') (E:∀a,a∈l'->a.cell=true):View S (.agg l) (.agg l'):=.agg h.spec.1 (λj a J=>E a (bA J)) h.spec.2
def zL (ys:aF bK) (v:AV) (T:aC):Prop:=(ys=[]/\v=.aU)\/∃(P B:aC) (t:Nat),v=.ref (P.length+2) t 2 ys.length/\T=P++⟨false,t,2,ys.map bK.enc⟩::B
def slice_av {α:Type} {s:SL α} {w a b} {enc:α->aF AV} (hs:s.aG≠[]) (J:a<=b) (E:b<=s.aG.length) {K:AV->Prop} (k:∀t,K ((SL.mk t ((s.aG.take b).drop a)).av w enc)):qX w (s.av w enc) (some (.I a)) (some (.I b)) K:=by
 cases s with
 |nil=>exact absurd rfl hs
 |mk t l=>
  refine⟨rfl,by omega,by omega,?_,?_,?_⟩
  .simpa using J
  .simpa using E
  .have e:((l.map enc).take (b:Int).toNat).drop (a:Int).toNat=((l.take b).drop a).map enc:=by simp[zV,Q5]
   rw[e];exact k t
@[simp] theorem getW_pb {α:Type} (P B:aF α) (q b:α) (K:α->Prop):aZ (P++q::(B++[b])) (P.length+(B.length+1)) K=K b:=
 aL (by rw[qV (by omega),FX,List.getElem?_cons_succ,qV (by omega)];simp) K
def zL.step0 {T:aC} {g} {y:bK} {t}:zL [y] (.ref (T.length+1+1+1) t 2 1) (T++[g,⟨false,t,2,[y.enc]⟩]):=.inr ⟨T++[g],[],t,by simp,by simp⟩
def zL.step1 {P B:aC} {g} {ys:aF bK} {y:bK} {t n} (E:ys.length=n):zL (ys++[y]) (.ref (P.length+2) t 2 (n+1)) (P++⟨false,t,2,ys.map bK.enc++[y.enc]⟩::(B++[g])):=.inr ⟨P,B++[g],t,by simp[E],by simp⟩
def impl_parseR {s:aA} (hl:s.length<=1048576) c:cA aE 7 [.str s] [] c λr O _=>∃b:eG,r=.aX [.agg b.iF,.bool (lW s)]/\O=b.iV/\b.jE=(tJ s).jE:=by
 refine cO F7 ?_;unfold F7;have hcl:(Lib.cut s [13,10,13,10]).1.length<=s.length/\(Lib.cut s [13,10,13,10]).2.1.length<=s.length:=by
  unfold Lib.cut;split<;>simp;omega
 simp;refine bZ (PD (by omega)) (JE (by simp[BK,JG]) _) λ_ _=>?_;simp;refine E0 (split_tr (by omega) (by simp)) λr _ hc1 ⟨b,e1,q1⟩ _=>?_;subst e1;have q1:b.aG=jB s:=q1;have hlen:=SJ (Lib.cut s [13,10,13,10]).1 [13,10];have hmem:∀x,x∈jB s->x.length<=s.length:=λx hx=>cL (split_mem hx) hcl.1;have hne:jB s≠[]:=split_ne _ _;have hrl:(jB s).length<=1048578:=by unfold jB;omega
 rw[<-q1] at hne hmem hrl;have h0:b.aG[0]?=some ((jB s).headD []):=by
  rw[q1] at hne ⊢;cases h:jB s with
  |nil=>exact absurd h hne
  |cons x l=>rfl
 have hl0:=hmem _ (bA h0);have hN:(Lib.cut (Lib.trimPrefix ((jB s).headD []) rA) [32]).1=rdNum s:=rfl;generalize hL0:(jB s).headD []=l0 at h0 hl0 hN;have htr:(Lib.trimPrefix l0 rA).length<=l0.length:=by unfold Lib.trimPrefix;split<;>simp
 have hnl:(rdNum s).length<=s.length:=by
  rw[<-hN];unfold Lib.cut;split
  .simp;omega
  .simp;omega
 simp[aL h0];refine bZ (trim_fn (by omega)) .str λ_ _=>?_;simp;refine bZ (PD (by have:([72,84,84,80,47,49,46,49,32]:aA)=rA:=rfl;rw[this];omega)) (JE (by simp[BK,JG]) _) λ_ _=>?_;rw[show(Lib.cut (Lib.trimPrefix l0 [72,84,84,80,47,49,46,49,32]) [32]).1=rdNum s from hN];simp;refine bZ (parseInt_fn (by omega)) (.aX (by intro j a hj;match j,hj with|0,hj=>cases hj;exact .int|1,hj=>cases hj;exact .bool)) λ_ _=>?_;cases hpw:oT (rdNum s) 0 1000000000000
 .simp[aR];have:lW s=false:=by simp[lW,hpw]
  exact fI (eX _) (.refl _) ⟨AB,by rw[this];rfl,rfl,by unfold tJ;rw[this];rfl⟩
 by_cases h2:2<=(jB s).length;rotate_left
 .have k2:(b.aG.length:Int)<2:=by rw[q1];omega
  simp[aR,k2];have:lW s=false:=by simp[lW,h2]
  exact fI (eX _) (.refl _) ⟨AB,by rw[this];rfl,rfl,by unfold tJ;rw[this];rfl⟩
 have k2:¬((b.aG.length:Int)<2):=by rw[q1];omega
 have hw1:IntKind.i64.wrap ((b.aG.length:Int)-1)=((b.aG.length-1:Nat):Int):=by rw[wrap64 (by omega) (by omega)];omega
 simp[aR,k2,hw1];refine slice_av (a:=1) (b:=b.aG.length-1) hne (by rw[q1];omega) (by omega) λtl=>?_;obtain⟨L,hL⟩:∃L,L=(b.aG.take (b.aG.length-1)).drop 1:=⟨_,rfl⟩
 have hLr:L.map nB=kP s:=by
  rw[hL,q1,List.drop_take];unfold kP;rw[show(jB s).length-1-1=(jB s).length-2 by omega]
 have hLm:∀x,x∈L->x.length<=s.length:=λx hx=>by
  rw[hL] at hx;exact hmem x (zT (List.mem_of_mem_drop hx))
 have hLl:L.length<=1048578:=by rw[hL];simp;omega
 rw[<-hL];simp;obtain⟨code,hcode⟩:∃code,code=jS (rdNum s):=⟨_,rfl⟩
 rw[<-hcode];have hbody:(Lib.cut s [13,10,13,10]).2.1=lV s:=rfl;rw[hbody];refine b6 L.length (λi e H c'=>e 0=.str s/\e 2=.ptr 0 c 3 0 0/\e 58=(SL.mk tl L).av 1 eK/\e 59=.I L.length/\e 60=.I i/\∃(cx:Nat) (v:AV) (T:aC),e 14=.ptr 1 cx 3 0 0/\zL ((L.take i).map nB) v T/\
  H=⟨false,c,3,[[.I 0,.aU,.str []]]⟩::⟨false,cx,3,[[.I code,v,.str (lV s)]]⟩::T) ⟨rfl,rfl,rfl,rfl,rfl,_,.aU,[],rfl,.inl ⟨by simp,rfl⟩,rfl⟩ ?_
 intro i e H c' hi ⟨e0,e2,e58,e59,e60,cx,v,T,e14,hlive,hH⟩ N hN;subst hH;by_cases h:i<L.length
 .have hx:L[i]?=some L[i]:=bC h;have hxl:=hLm _ (oR h);have htk:(L.take (i+1)).map nB=(L.take i).map nB++[nB L[i]]:=by rw[nO h,qB];rfl
  have htl:((L.take i).map nB).length=i:=by simp;omega
  generalize L[i]=x at hx hxl htk;generalize (L.take i).map nB=ys at htk htl hlive;have hstep:IntKind.i64.wrap ((i:Int)+1)=((i+1:Nat):Int):=by rw[cD (by unfold mx;omega) h];rfl
  have hm1:(i+1)*32<=140737488355328:=by omega
  have hm2:i+1<=mx:=by unfold mx;omega
  have hm3:1<=mx:=by decide
  simp[e58,e59,e60,h,aL hx];refine bZ (PD (by omega)) (JE (by simp[BK,JG]) _) λ_ _=>?_;rcases hlive with⟨l1,l2⟩|⟨P,B,t,l1,l2⟩
  .subst l2;subst l1;simp at htl;subst htl;have hw0:IntKind.i64.wrap 1=1:=by decide
   simp[e14,e60,aR,hw0,hm3];exact hN _ _ _ _ h (bY _) ⟨e0,e2,e58,e59,rfl,cx,_,_,e14,by rw[htk];exact zL.step0 (y:=nB x),rfl⟩
  .subst l1;subst l2;simp[e14,e60,aR,hstep,htl,hm1,hm2];exact hN _ _ _ _ h (bY _) ⟨e0,e2,e58,e59,rfl,cx,_,_,e14,by rw[htk];exact zL.step1 (y:=nB x) htl,rfl⟩
 have hie:i=L.length:=by omega
 subst hie;rw[mU,hLr] at hlive;have hcand:lM s=⟨code,.mk 0 (kP s),lV s⟩:=by unfold lM;rw[hpw,hcode];rfl
 have hokI:lW s=(!decide (s=[])&&decide ((if jA (lM s) then jP (lM s) else [])=s)):=by unfold lW;rw[hpw];simp[h2]
 by_cases hs0:s=[]
 .have:lW s=false:=by rw[hokI];simp[hs0]
  simp[e0,e2,e59,e60,hs0,aR];rw[hs0] at this;subst hs0;exact fI (eX _) (.refl _) ⟨AB,by rw[this];rfl,rfl,by unfold tJ;rw[this];rfl⟩
 simp[e0,e14,e59,e60,hs0];have hsz:=rd_sz h2;have hok:∀t,eG.ok ⟨code,.mk t (kP s),lV s⟩:=λt=>by
  refine⟨⟨by show(kP s).length<=mx;unfold mx;omega,λx hx=>?_⟩,by show(lV s).length<=mx;unfold mx;omega⟩;have h3:=AR (sz:=bK.sz) (show x∈kP s from hx);have h4:x.sz<=1048576:=by omega
  unfold bK.sz at h4;unfold bK.ok mx;omega
 have hz:∀t,eG.sz ⟨code,.mk t (kP s),lV s⟩<=1048576:=λt=>by
  show yJ (.mk t (kP s))+(lV s).length<=_;unfold yJ;show(kP s).length+bE bK.sz (kP s)+(lV s).length<=_;omega
 have hfm:∀t,(if jA ⟨code,.mk t (kP s),lV s⟩ then jP ⟨code,.mk t (kP s),lV s⟩ else [])=(if jA (lM s) then jP (lM s) else []):=λt=>by rw[hcand];rfl
 have hcells:∀t,∀a,a∈(eG.mk code (.mk t (kP s)) (lV s)).enc->a.cell=true:=λt=>eG.cells _;rcases hlive with⟨l1,l2⟩|⟨P,B,t,l1,l2⟩
 .subst l2;refine E5 (OD (hok 0) (hz 0)) (.cons (GQ (.cons (.refl _) (.cons (by rw[l1];exact .aU _ _) (.cons (.refl _) .nil))) (hcells 0)) .nil) .str λ_ _=>?_;rw[hfm];by_cases hf:(if jA (lM s) then jP (lM s) else [])=s
  .have ho:lW s=true:=by rw[hokI];simp[hs0,hf]
   rw[hf];simp[e0,e2,e14,aR];exact fI (eX _) (.refl _) ⟨⟨code,.nil,lV s⟩,by rw[ho];rfl,rfl,by unfold tJ;rw[ho,if_pos rfl,hcand];simp[eG.jE,SL.jE,l1]⟩
  .have ho:lW s=false:=by rw[hokI];simp[hs0,hf]
   generalize (if jA (lM s) then jP (lM s) else [])=fm at hf;simp[e0,e2,hf,aR];exact fI (eX _) (.refl _) ⟨AB,by rw[ho];rfl,rfl,by unfold tJ;rw[ho];rfl⟩
 .subst l1;subst l2;refine E5 (OD (hok t) (hz t)) (.cons (GQ (.cons (.refl _) (.cons (jK (by simp) rfl λx _=>bK.cells x) (.cons (.refl _) .nil))) (hcells t)) .nil) .str λ_ _=>?_;rw[hfm];by_cases hf:(if jA (lM s) then jP (lM s) else [])=s
  .have ho:lW s=true:=by rw[hokI];simp[hs0,hf]
   rw[hf];simp[e0,e2,e14,aR];exact fI (v':=.aX [.agg [.I code,.ref 0 t 2 (kP s).length,.str (lV s)],.bool true]) (Hk:=[⟨false,t,2,(kP s).map bK.enc⟩]) (by simp) (.aX rfl λj a a' h1 h2=>by
    match j,h1,h2 with
    |0,h1,h2=>cases h1;cases h2;exact GQ (.cons (.refl _) (.cons .name (.cons (.refl _) .nil))) (λa ha=>by simp at ha;rcases ha with rfl|rfl|rfl<;>rfl)
    |1,h1,h2=>cases h1;cases h2;exact .refl _) ⟨⟨code,.mk t (kP s),lV s⟩,by rw[ho];rfl,by simp[eG.iV,ED],by unfold tJ;rw[ho,if_pos rfl,hcand];rfl⟩
  .have ho:lW s=false:=by rw[hokI];simp[hs0,hf]
   generalize (if jA (lM s) then jP (lM s) else [])=fm at hf;simp[e0,e2,hf,aR];exact fI (eX _) (.refl _) ⟨AB,by rw[ho];rfl,rfl,by unfold tJ;rw[ho];rfl⟩
end A
end Go.Proofs.YtbdgahjfipdeoaaGreatDoor
