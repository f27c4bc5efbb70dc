import Derived.OpenShut
import Derived.ProofKit
import Derived.LaidMore
import Derived.Lay
import Derived.LaidLaws
import Derived.LaidSub
import Derived.SevenTiedAt
import Derived.Stop.Joined
import Derived.Lib.LaidTab
import Derived.Test.YtbdgahjfipdeoaaGreatDoorTie
import Derived.Test.YtbdgahjfipdeoaaGreatDoorCards
import Derived.Test.YtbdgahjfipdeoaaGreatDoorB11
import Derived.Test.YtbdgahjfipdeoaaGreatDoorB17
/- FnResponses: a part of its proof. No condition. -/
set_option linter.all false
set_option maxRecDepth 100000
namespace Go.Proofs.YtbdgahjfipdeoaaGreatDoor.fnResponses
open Go.ChangeShapes Go.WideShapes Go.ChangeAt Go.RowKit
open Go.Proofs.YtbdgahjfipdeoaaGreatDoor.A
theorem own:ownKnob Tryz.prog.godebug=none:=by kernel_rfl
def types:List TypeId:=[22,5,4]
set_option maxRecDepth 100000 in
theorem lifted (os:Os) (E:os.Started) (H:Type) (enc:TypeId×Value->H):
  ReturnsInHanded {} Tryz.checked os 3 .any (λw J=>(Rows.fnResponsesSpec.pre enc Tryz.prog Tryz.f3 Rows.fnResponsesRow.domain false w J/\laidMetH Tryz.prog Rows.fnResponsesRow.laid w)/\sizedMet enc Tryz.prog Tryz.f3 (OpenSpec.ofChange Rows.fnResponsesSpec) false w J) (Rows.fnResponsesSpec.post enc Tryz.prog Tryz.f3 false true false false):=by
 refine A.returns_shaped (C:=Tryz.checked) (X:=λw _=>laidMetH Tryz.prog Rows.fnResponsesRow.laid w) (λ_ _ _ T h=>h.of_heap T) own E (by kernel_rfl) Tryz.func3
  (ChangeSpec.witness_shaped (enc:=enc) (C:=Tryz.checked) (os:=os) (X:=λw _=>laidMetH Tryz.prog Rows.fnResponsesRow.laid w) false (World.laidAll Tryz.prog os Rows.fnResponsesRow.laid) #[.slice none 0 0] 8 (World.laidAll_os _ _ _)
   (World.shaped_of_ZipB (by kernel_rfl) (by kernel_rfl)) (by kernel_rfl) (by kernel_rfl) (by kernel_rfl)
   (by rw[MakeChecks.laidMetH_plain _ _ _ (by kernel_rfl)];exact laidMet_laidAll _ (by kernel_rfl) (by kernel_rfl))) ?_
 intro W base J ds E E Z hW E hL E;obtain⟨m,hm⟩:=Tryz.laysM146.s1_3 W E;have E:Lib.TabIs Tryz.prog W "internal/strconv.uint64pow10" .u64 Lib.pow10Tab:=by
  have T:=hL.filter λx=>x.1== "internal/strconv.uint64pow10"
  rw[show(Rows.fnResponsesRow.laid.filter λx=>x.1== "internal/strconv.uint64pow10")=[("internal/strconv.uint64pow10",Lib.tabData .u64 Lib.pow10Tab)] from by kernel_rfl,MakeChecks.laidMetH_plain _ _ _ (by kernel_rfl)] at T
  exact Lib.tabIs_of_head (g:=1) (t:=222) (e:=162) (n:=20) (by kernel_rfl) (by kernel_rfl) (by kernel_rfl) (by kernel_rfl) (by kernel_rfl) (by kernel_rfl) T
 have heS:∃t fr u v,W.heap[4]?=some (.cells #[.iface u v] t fr):=by
  have T:=hL.filter λx=>x.1== "strconv.ErrSyntax"
  rw[show(Rows.fnResponsesRow.laid.filter λx=>x.1== "strconv.ErrSyntax")=[("strconv.ErrSyntax",Rows.laid_strconv_ErrSyntax)] from by kernel_rfl,MakeChecks.laidMetH_plain _ _ _ (by kernel_rfl)] at T
  exact WX (ti:=91) (by kernel_rfl) (by kernel_rfl) (by kernel_rfl) T
 have heR:∃t fr u v,W.heap[5]?=some (.cells #[.iface u v] t fr):=by
  have T:=hL.filter λx=>x.1== "strconv.ErrRange"
  rw[show(Rows.fnResponsesRow.laid.filter λx=>x.1== "strconv.ErrRange")=[("strconv.ErrRange",Rows.laid_strconv_ErrRange)] from by kernel_rfl,MakeChecks.laidMetH_plain _ _ _ (by kernel_rfl)] at T
  exact WX (ti:=91) (by kernel_rfl) (by kernel_rfl) (by kernel_rfl) T
 have hg:∀b,b<NB->b<W.heap.size/\GL b W.heap[b]?:=by
  obtain⟨h0,c,t,fr,hc,hcm⟩:=cell_block hm;obtain⟨t4,fr4,u4,v4,h4⟩:=heS;obtain⟨t5,fr5,u5,v5,h5⟩:=heR;have T:=(lF.1 h4).1;have T:=(lF.1 h5).1;unfold Lib.TabIs World.var? at E;rw[show Tryz.prog.globalNamed "internal/strconv.uint64pow10" =some 1 by kernel_rfl] at E
  simp only[uP] at E;split at E
  .rename_i T t1 fr1 T;have hs1:=(lF.1 T).1;intro b hb;have hb6:b<6:=hb;refine⟨by omega,?_,?_,?_⟩
   .intro e;subst e;exact⟨c,t,fr,m,hc,hcm⟩
   .intro e;subst e;exact⟨t1,fr1,by rw[T,oN E]⟩
   .rintro(e|e)
    .subst e;exact⟨_,t4,fr4,.iface u4 v4,h4,rfl,.inr ⟨u4,v4,rfl⟩⟩
    .subst e;exact⟨_,t5,fr5,.iface u5 v5,h5,rfl,.inr ⟨u5,v5,rfl⟩⟩
  .cases E
 have E:∀(j:Nat) t v,Tryz.f3.params[j]?=some t->J[j]?=some v->Value.okWide Tryz.prog W .any base t v:=Z;refine law_post (rs:=types) (bt:=4) (by kernel_rfl) (by kernel_rfl) (λt J=>?_) Tryz.underlying4 (by kernel_rfl) rfl (λds T=>?_) hW E (λl E=>?_) hg
 .rw[Tryz.params3] at J;simp at J
  first
   |(subst J;exact⟨by simp[types],by kernel_rfl,of_decide_eq_true (by kernel_rfl)⟩)
   |(rcases J with rfl|rfl<;>exact⟨by simp[types],by kernel_rfl,of_decide_eq_true (by kernel_rfl)⟩)
   |(rcases J with rfl|rfl|rfl<;>exact⟨by simp[types],by kernel_rfl,of_decide_eq_true (by kernel_rfl)⟩)
   |(rcases J with rfl|rfl|rfl|rfl<;>exact⟨by simp[types],by kernel_rfl,of_decide_eq_true (by kernel_rfl)⟩)
   |(rcases J with rfl|rfl|rfl|rfl|rfl<;>exact⟨by simp[types],by kernel_rfl,of_decide_eq_true (by kernel_rfl)⟩)
   |(rcases J with rfl|rfl|rfl|rfl|rfl|rfl<;>exact⟨by simp[types],by kernel_rfl,of_decide_eq_true (by kernel_rfl)⟩)
 .rw[<-Array.length_toList,Tryz.params3] at T
  match ds,T with
  |[J],_=>exact⟨rfl,rfl,rfl⟩
 .rw[Tryz.params3] at E;cases E with
  |cons h0 E=>
   cases E;obtain⟨E,h0⟩:=h0;rw[if_neg (by decide)] at h0;obtain⟨E,rfl,E⟩:=shByteS h0;exact A.law_responses E _
set_option maxHeartbeats 4000000 in
theorem facts:joinedFacts Tryz.pinned.checked.prog 3 Tryz.f3 Rows.fnResponsesSpec Rows.fnResponsesRow=true:=by
 unfold joinedFacts;rw[Closed.heard,Closed.enter,Closed.lifts,Closed.make];simp only[eY]
 iterate 6 (refine⟨?_,by as_aux_lemma=>kernel_rfl⟩)
 refine⟨⟨?_,trivial⟩,trivial⟩
 iterate 23 (refine⟨?_,by as_aux_lemma=>kernel_rfl⟩)
 kernel_rfl
theorem named:Tryz.pinned.checked.prog.funcNamed Rows.fnResponsesRow.func=some 3:=by kernel_rfl
theorem inst:Tryz.f3.isInstance Tryz.pinned.checked.prog Rows.fnResponsesRow.origin Rows.fnResponsesRow.targs:=of_decide_eq_true (by kernel_rfl)
theorem wrap:Tryz.f3.isWrapper Tryz.pinned.checked.prog Rows.fnResponsesRow.wrapper Rows.fnResponsesRow.mainSum:=by
 unfold Func.isWrapper
 first
  |(rw[if_pos (by decide +kernel)];kernel_rfl)
  |(rw[if_neg (by decide +kernel)];exact⟨rfl,rfl⟩)
theorem over:Rows.fnResponsesRow.holds Tryz.pinned (OpenSpec.ofChange Rows.fnResponsesSpec):=
 OpenClaim.holds_of_wide 3 Tryz.f3 rfl rfl rfl rfl rfl rfl rfl ⟨rfl,rfl,rfl,rfl,rfl⟩ rfl rfl rfl rfl rfl named Tryz.func3 facts inst wrap
  (λT E H J _=>lifted T E H J)
theorem row:Rows.FnResponsesSaid:=over
theorem proved:Rows.FnResponsesCardSaid:=
 Claim7.holds_tied_plain_at .later [] [.data,.data,.data,.data,.sentinel,.sentinel,.pinned] true Rows.fnResponsesCard.stood.harness true row (λ_ h=>by cases h) (by kernel_rfl) (λ_ h=>by cases h) fnResponses_row_tie rfl ⟨rfl,rfl⟩ (by kernel_rfl) rfl
  (λf T J E=>by
   obtain rfl:f=3:=oN (named.symm.trans J) |>.symm;obtain rfl:T=Tryz.f3:=(oN (Tryz.func3.symm.trans E)).symm;exact⟨by kernel_rfl,λj t E=>by
    rw[Tryz.params3] at E;have J:t∈[22]:=by simpa using Array.mem_of_getElem? E
    have E:([22].all λu=>!Tryz.prog.wantsStandIn u)=true:=by kernel_rfl
    exact(show Tryz.prog.wantsStandIn t=false by simpa using kM.1 E t J)⟩)
  (by kernel_rfl)
#print axioms proved
end Go.Proofs.YtbdgahjfipdeoaaGreatDoor.fnResponses
