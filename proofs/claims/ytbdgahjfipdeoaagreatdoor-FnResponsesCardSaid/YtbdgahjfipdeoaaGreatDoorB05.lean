import Derived.Test.YtbdgahjfipdeoaaGreatDoorProg
import Derived.Test.YtbdgahjfipdeoaaGreatDoorB03
/- FnResponses: a part of its proof. No condition. -/
set_option linter.all false
set_option maxRecDepth 100000
namespace Go.Proofs.YtbdgahjfipdeoaaGreatDoor
namespace A
noncomputable abbrev aE:=Tryz.prog
set_option maxRecDepth 1000000
noncomputable def Qp:Program:={(default:Program) with types:=Tryz.types,follow:=[.mixedOrders],funcs:=(List.replicate 330 Tryz.f4).toArray}
def pk (m:aF b7) (k:Nat):b7:=
 if k<100 then m.getD k kZ else
 if k<200 then (match m.getD (k-100) kZ with|y=>{y with op:=(gQ y.op).getD (.mv (.c .dS))}) else
 match m.getD (k-200) kZ with
 |⟨some d,.load E (.t t),none⟩=>⟨none,.vP E (.t t) (.t d),none⟩
 |y=>y
def nd (m:aF b7) (T:aF IR):aF Nat->IR
 |[a,b,_]=>.seq (T.getD a .skip) (T.getD b .skip)
 |[i,j]=>.seq (.nA [m.getD i kZ]) (T.getD j .skip)
 |i::j::l=>.alt (.seq (.nA [m.getD i kZ]) (T.getD j .skip)) (nd m T l)
 |_=>.skip
def rg (m:aF b7):aF (aF Nat)->IR
 |[l]=>.nA (l.map (pk m))
 |[l,[_]]=>.draw (l.map (pk m))
 |L=>(L.foldl (λT l=>nd m T l::T) []).headD .skip
noncomputable def cq (n:Nat):Code->aF (aF (aF Nat))->Option (IR×aF (aF (aF Nat)))
 |.skip,q=>some (.skip,q)
 |.region _ E true,q=>(E.toList.mapM (j3 Qp n E)).map λm=>(rg m (q.headD []),q.tail)
 |.region _ E false,q=>(E.toList.mapM (j3 Qp n E)).map λm=>(.nA m,q)
 |.seq a b,q=>do let x<-cq n a q;let y<-cq n b x.2;some (.seq x.1 y.1,y.2)
 |.cond c a b,q=>do let d<-eE c;let x<-cq n a q;let y<-cq n b x.2;some (.cond d x.1 y.1,y.2)
 |.block E b,q=>do let x<-cq n b q;some (.block E x.1,x.2)
 |.loop b,q=>do let x<-cq n b q;some (.loop x.1,x.2)
 |.exit E,q=>some (.exit E,q)
 |.ret,q=>some (.ret,q)
 |_,_=>none
def rn (n:Nat):aF (aF Nat):=[List.range n]
noncomputable def cF (E:Func) (q:aF (aF (aF Nat))):Option zM:=do
 let code<-E.body
 let x<-cq E.ntmps code q
 let rs<-xM Qp E.results.toList
 some ⟨E.ntmps,x.1,rs⟩
abbrev Cp (f:Nat) (fn:Func) (q:List (List (List Nat)):=[]):={F:zM // cF fn q=some F/\xO aE f=some F}
def kk {f} {E} {q} {F} (h:cF E q=some F:=by cbv) (c:xO aE f=some F:=by kernel_rfl):cF E q=some F/\xO aE f=some F:=⟨h,c⟩
def cO {H} {f} {E} {q} (F:Cp f E q) {E:aF AV} {c} {Q:aD} (T:cC aE F.1.ir (yN F.1.rs Q) (gZ E) H c) (J:Nat.ble E.length F.1.n=true:=by rfl):cA aE f E H c Q:=ZK F.2.2 (Nat.le_of_ble_eq_true J) T
def cN {H} {f} {E} {q} (F:Cp f E q) {E:aF AV} {c} {Q:aD} (T:(aV H).Nodup->(∀t,t∈aV H->t<c)->cC aE F.1.ir (AX F.1.rs (pU Q)) (gZ E) H c) (J:Nat.ble E.length F.1.n=true:=by rfl):cA aE f E H c Q:=con_ofN F.2.2 (Nat.le_of_ble_eq_true J) T
def fO {f} {E} {q} (F:Cp f E q) {E:aF AV} {res} (h:∀c,cC aE F.1.ir (yN F.1.rs λr J _=>r=res/\J=[]) (gZ E) [] c) (J:Nat.ble E.length F.1.n=true:=by rfl):dA aE f E res:=fn_of F.2.2 (Nat.le_of_ble_eq_true J) h
end A
end Go.Proofs.YtbdgahjfipdeoaaGreatDoor
namespace Go.Proofs.YtbdgahjfipdeoaaGreatDoor
namespace A
set_option maxRecDepth 1000000
section
open _root_.Go.Proofs.Tryz
def F3:Cp 3 f3:=⟨_,kk⟩
def F4:Cp 4 f4:=⟨_,kk⟩
def F5:Cp 5 f5:=⟨_,kk⟩
def F6:Cp 6 f6 [[[0,1,102,3,4,5,6,107,8,9,10]],[[0,1,2,3,4,8,9,5,209,6,209,7,209,10,11]]]:=⟨_,kk⟩
def F7:Cp 7 f7:=⟨_,kk⟩
def F8:Cp 8 f8:=⟨_,kk⟩
def F9:Cp 9 f9 [rn 11]:=⟨_,kk⟩
def F10:Cp 10 f10:=⟨_,kk⟩
def F11:Cp 11 f11:=⟨_,kk⟩
def F12:Cp 12 f12 [[[0,1,2,3,201,4,201,5,201,6,7,8]]]:=⟨_,kk⟩
def F13:Cp 13 f13:=⟨_,kk⟩
def F14:Cp 14 f14:=⟨_,kk⟩
def F18:Cp 18 f18:=⟨_,kk⟩
def F19:Cp 19 f19:=⟨_,kk⟩
def F20:Cp 20 f20 [rn 13]:=⟨_,kk⟩
def F21:Cp 21 f21:=⟨_,kk⟩
def F22:Cp 22 f22:=⟨_,kk⟩
def F23:Cp 23 f23:=⟨_,kk⟩
def F24:Cp 24 f24:=⟨_,kk⟩
def F25:Cp 25 f25:=⟨_,kk⟩
def F26:Cp 26 f26:=⟨_,kk⟩
def F27:Cp 27 f27:=⟨_,kk⟩
def F28:Cp 28 f28:=⟨_,kk⟩
def F33:Cp 33 f33:=⟨_,kk⟩
def KR:Cp 34 f34:=⟨_,kk⟩
def F35:Cp 35 f35:=⟨_,kk⟩
def F36:Cp 36 f36:=⟨_,kk⟩
def F37:Cp 37 f37:=⟨_,kk⟩
def F38:Cp 38 f38:=⟨_,kk⟩
def F39:Cp 39 f39 [[[],[7,0],[6,0],[6,2],[5,0],[5,2,7,0],[3,2],[3,4,7,0],[3,3,5,1],[3,3,5,1,7,0],[2,3],[2,3,7,0],[2,3,5,1],[2,3,5,1,7,0],[0,7],[0,7,7,0],[0,7,5,1],[0,7,5,1,7,0],[0,7,2,3],[0,7,2,3,7,0],[0,7,2,3,5,1],[0,7,2,3,5,1,7,0],[8,21],[1,0,0],[4,0],[1,0]],[[1,2,4,5,7,0,205,3,205,6,8,9]]]:=⟨_,kk⟩
def F40:Cp 40 f40 [[[0,1,2,3,4,5,202,6,7]]]:=⟨_,kk⟩
def F41:Cp 41 f41:=⟨_,kk⟩
def F42:Cp 42 f42:=⟨_,kk⟩
def F43:Cp 43 f43:=⟨_,kk⟩
def F44:Cp 44 f44:=⟨_,kk⟩
def F45:Cp 45 f45:=⟨_,kk⟩
def F46:Cp 46 f46:=⟨_,kk⟩
def F47:Cp 47 f47:=⟨_,kk⟩
def F48:Cp 48 f48:=⟨_,kk⟩
def F49:Cp 49 f49 [rn 13,rn 10,rn 15]:=⟨_,kk⟩
def F50:Cp 50 f50:=⟨_,kk⟩
def F51:Cp 51 f51:=⟨_,kk⟩
def F52:Cp 52 f52:=⟨_,kk⟩
def F53:Cp 53 f53:=⟨_,kk⟩
def F61:Cp 61 f61:=⟨_,kk⟩
def F62:Cp 62 f62:=⟨_,kk⟩
def F63:Cp 63 f63:=⟨_,kk⟩
def F64:Cp 64 f64:=⟨_,kk⟩
def F65:Cp 65 f65:=⟨_,kk⟩
def F66:Cp 66 f66:=⟨_,kk⟩
def F67:Cp 67 f67 [[[],[15,0],[14,0],[13,0],[12,0],[11,0],[13,4],[12,0],[11,0],[10,0],[10,4,14,0],[9,1],[9,1,14,0],[4,3],[4,3,14,0],[4,3,9,1],[4,3,9,1,14,0],[16,16],[1,0,0],[8,0],[7,0],[6,0],[5,0],[3,0],[2,0],[1,0],[0,0]]]:=⟨_,kk⟩
def F68:Cp 68 f68 [rn 15]:=⟨_,kk⟩
def F69:Cp 69 f69 [[[],[4,0],[3,0],[2,0],[1,3],[1,3,4,0],[3,0],[1,3,2,0],[0,3],[0,3,4,0],[3,0],[0,3,2,0],[6,11],[5,0],[2,0,0]]]:=⟨_,kk⟩
def F70:Cp 70 f70:=⟨_,kk⟩
def F71:Cp 71 f71:=⟨_,kk⟩
def F72:Cp 72 f72:=⟨_,kk⟩
def F83:Cp 83 f83:=⟨_,kk⟩
def F84:Cp 84 f84:=⟨_,kk⟩
def F85:Cp 85 f85:=⟨_,kk⟩
def F86:Cp 86 f86:=⟨_,kk⟩
def uM:Cp 87 f87 [[[0,1,2,6,7,3,207,4,207,5,207,8,9,10]],[[0,1,2,103,4,5,6,7,108,9,10,11]],[[0,1,2,3,4,5,6,107,108,9,10,11,12,13,14,15,116,17,18],[0]]]:=⟨_,kk⟩
def F88:Cp 88 f88:=⟨_,kk⟩
def F89:Cp 89 f89:=⟨_,kk⟩
def F90:Cp 90 f90 [rn 7]:=⟨_,kk⟩
def F91:Cp 91 f91:=⟨_,kk⟩
def F92:Cp 92 f92 [rn 11]:=⟨_,kk⟩
def F93:Cp 93 f93 [rn 13]:=⟨_,kk⟩
def F94:Cp 94 f94:=⟨_,kk⟩
def F95:Cp 95 f95:=⟨_,kk⟩
def F96:Cp 96 f96 [rn 12]:=⟨_,kk⟩
def F97:Cp 97 f97 [[[],[13,0],[12,0],[11,0],[10,0],[9,0],[11,4],[10,0],[9,0],[8,0],[8,4,12,0],[7,1],[7,1,12,0],[5,3],[5,3,12,0],[5,3,7,1],[5,3,7,1,12,0],[3,7],[3,7,12,0],[3,7,7,1],[3,7,7,1,12,0],[3,7,5,3],[3,7,5,3,12,0],[3,7,5,3,7,1],[3,7,5,3,7,1,12,0],[14,24],[1,0,0],[6,0],[4,0],[2,0],[1,0],[0,0]]]:=⟨_,kk⟩
def F98:Cp 98 f98 [rn 13]:=⟨_,kk⟩
def F99:Cp 99 f99:=⟨_,kk⟩
def F100:Cp 100 f100 [[[],[7,0],[6,0],[5,0],[3,0],[3,2],[2,0],[2,2,5,0],[1,1],[1,1,5,0],[9,9],[8,0],[2,0,0],[4,0],[0,0]]]:=⟨_,kk⟩
def F101:Cp 101 f101:=⟨_,kk⟩
def F114:Cp 114 f114:=⟨_,kk⟩
def K9:Cp 115 f115:=⟨_,kk⟩
def K8:Cp 116 f116:=⟨_,kk⟩
def CN:Cp 117 f117:=⟨_,kk⟩
def F118:Cp 118 f118 [[[1,2,0,202,3,202,4,202,5]]]:=⟨_,kk⟩
def F119:Cp 119 f119:=⟨_,kk⟩
def F120:Cp 120 f120:=⟨_,kk⟩
def F121:Cp 121 f121:=⟨_,kk⟩
def F122:Cp 122 f122:=⟨_,kk⟩
def F123:Cp 123 f123:=⟨_,kk⟩
def F124:Cp 124 f124 [rn 11]:=⟨_,kk⟩
end
end A
end Go.Proofs.YtbdgahjfipdeoaaGreatDoor
