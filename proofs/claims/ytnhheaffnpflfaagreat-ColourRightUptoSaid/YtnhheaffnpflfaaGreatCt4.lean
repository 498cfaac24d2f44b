/-
  Lemmas for S, part 4.
  Conditions: as each lemma says.
-/
import Derived.Test.YtnhheaffnpflfaaGreatCt3
import Derived.Shelf.Spec.SlicesInsertGrow
import Derived.Laws.Cover3
set_option maxRecDepth 100000
set_option maxHeartbeats 4000000
set_option linter.unusedSimpArgs false
set_option linter.unusedVariables false
open Array renaming getElem?_eq_some_iff->aA,getElem?_modify->aB,getElem?_toList->aC,replicate->aD,size_append->aE,toList_append->aF
open Bool renaming and_eq_true->aG,false->aH,not_eq_true'->aI,true->aJ
open Decidable renaming decide->aK
open Go renaming Calls->aL,FuncId->aM,Oper->aR,Operand->aS,Program->aT,TypeId->bX,Value->bY,World->cA,execOp->cG,exitTo->cH,grownCap->cI,grownCap_ge->cJ,heap_alloc_new->cL,heap_alloc_old->cM,maxLen->cN,setRow_heap->cO,size_zeroCells->cP
open Go.IntKind renaming i64->aN
open Go.Lib renaming compareInt->aO,hid->aP
open Go.Proofs.Tryz renaming cmpIntP->aU,func177->aV,func192->aW,func47->aX,func85->aY,isAgg0->aZ,isAgg27->a6,isAgg3->a7,isAgg4->a8,ntmps177->bA,ntmps47->bB,prog->bC,sizeOf0->bD,sizeOf27->bE,sizeOf3->bF,sizeOf4->bG,sortFI->bH,underlying0->bI,underlying27->bJ,underlying3->bK,underlying4->bL,underlying51->bM,underlying77->bN,zeroValue0->bO,zeroValue27->bP,zeroValue3->bR,zeroValue4->bS
open Go.RowKit renaming intOf->bU
open Go.RowKit.Below renaming refl->bT
open Go.Sort renaming ahead->bV,putCells->bW
open Go.Value renaming func->bZ,int->b9
open Go.World renaming cell?->cB,drew->cC,frozen?->cD,setRow->cE,shape?->cF
open Int renaming max_def->cQ,min_def->cR,toNat->cT
open List renaming all_eq_true->cU,any_append->cV,any_eq_true->cW,append_assoc->cX,append_nil->cY,contains_eq_mem->cZ,contains_iff_mem->dA,drop->dB,drop_drop->dC,eq_nil_of_length_eq_zero->dD,ext_getElem?->dE,filter_append->dF,filter_cons->dG,filter_eq_self->dH,find?_cons->dI,find?_some->dJ,findIdx?_eq_none_iff->dK,findIdx?_eq_some_iff_getElem->dL,foldl->dM,foldl_append->dN,foldl_cons->dO,getD_eq_getElem?_getD->dP,getElem?_append_left->dQ,getElem?_append_right->dR,getElem?_cons_zero->dT,getElem?_drop->dU,getElem?_eq_getElem->dV,getElem?_eq_none->dW,getElem?_eq_some_iff->dX,getElem?_map->dY,getElem?_set_self->dZ,getElem?_take->eA,getElem?_take_of_lt->eB,head?_drop->eC,length_append->eD,length_cons->eE,length_filterMap_le->eF,length_filter_le->eG,length_map->eH,length_nil->eI,length_take->eJ,map_append->eK,map_cons->eL,map_map->eM,map_nil->eN,mem_append->eO,mem_append_left->eP,mem_append_right->eQ,mem_cons->eR,mem_cons_of_mem->eS,mem_cons_self->eT,mem_flatMap->eU,mem_iff_getElem?->eV,mem_map->eW,mem_of_getElem?->eX,mem_of_mem_drop->eY,mem_of_mem_take->eZ,mem_singleton->fA,mem_take_iff_getElem->fB,nodup_append->fC,nodup_nil->fD,perm_ext_iff_of_nodup->fE,replicate->fF,size_toArray->fG,take->fH,take_add_one->fI,take_append_drop->fJ,take_append_of_le_length->fK,take_left'->fL,take_length->fM,take_of_length_le->fN,take_one->fO,take_succ_cons->fP,take_take->fQ,take_zero->fR,toList_toArray->fS
open Mu renaming ABlk->fT,Block->gE,CGraph->gF,Func->gO,Pair->iA
open Mu.ABlk renaming fz->fU,live->fV,mrk->fW,ver->fX
open Mu.AV renaming cl->fY,fz->fZ,rel->gB
open Mu.Awp renaming region->gC,upto->gD
open Mu.Cut renaming cons->gG,dead->gH,nil->gI
open Mu.Fin renaming cl->gJ,own->gK
open Mu.Fit renaming bool->gL,int->gN
open Mu.M renaming bnd->gP,chk->gQ,cnd->gR,loop->gT,ok->gU,to_whn->gV,whn->gW
open Mu.One renaming lit->gX,own->gY
open Mu.OpnB renaming any->gZ,keep->g8,nil->g9,ptr->hZ
open Mu.St.le renaming refl->iB,trans->iC
open Mu.Ty renaming below->iD,bool->iE
open Nat renaming add_comm->iF,le_of_ble_eq_true->iG,le_of_not_lt->iH,le_refl->iI,le_trans->iJ,lt_of_lt_of_le->iK,lt_or_ge->iL,lt_succ_self->iM,min_eq_left->iN,mul_one->iO,zero_add->iP,zero_le->iQ
open Option renaming isSome_iff_exists->iR,isSome_map->iS,none->iT,some->iU,toList_some->iW
open Option.some renaming injEq->iV
abbrev Mu.zan:=And.intro @and_self (And.intro @and_true (And.intro @true_and (@false_and)))
abbrev Mu.zag.{u}:=And.intro @List.drop_zero.{u} (And.intro @fP.{u} (And.intro @fR.{u} (And.intro @List.set_cons_succ.{u} (And.intro @List.set_cons_zero.{u} (And.intro @if_true.{u} (@if_false.{u}))))))
namespace Mu
open Go Go.RowKit Go.Proofs Go.Maps
variable{f:gO}
instance Atk:AG bC 109 aH 1:=⟨by kernel_rfl⟩
instance Atj:SZ bC 109 1:=⟨by kernel_rfl⟩
instance Ati:ZC bC 109 [.map iT]:=⟨by kernel_rfl⟩
section
variable{C:Ctx}{t:List AV}{h:List fT}{o:aR}{K:St->Prop}
theorem P4{ty:bX}(c:o.op= .makeMap ty iT)(e:∀m,K ⟨Bl t o.dst (.lit (.map (iU m))),h++[.res (DP (λ_=>aH) m)]⟩):AOp bC C o ⟨t,h⟩ K:=by
 refine CX (ι:=Nat) (Rs:=DP λ_=>aH) (val:=λm=>.map (iU m)) (λ_=>rfl) (λS ψ w ρ H b=>?_) e;have d:(cG ρ o).run bC w= .ok (.value (.map (iU w.heap.size))) (w.alloc (.map #[] 0)):=by simp[cG,c,run_makeMap]
 rw[d];have a:=(bT w.heap.size w).alloc (iI _) (.map #[] 0);refine⟨⟨a.os,a.tape,a.output,a.size,λk hk _=>a.block k hk⟩,w.heap.size,rfl,⟨.map [],Q0 (World.ownsMap_made w bC 41 (plainElem bC 3)),λx _=>by simp[has_eq]⟩,λk hk=>?_⟩;have hk:k=w.heap.size:=hk;subst hk;exact⟨.inr (iI _),by simp⟩
end
theorem Ls(a:(Nv f).length<=2097152):(AF f).length<=2097152:=iJ (FH _).1 a
theorem OK(c:okFunc f):∀r∈AF f,Ch r:=λr a=>by
 refine(FH (Nv f)).2 (λq hq=>?_) r a;unfold Nv Nt at hq;obtain⟨b,d,hq⟩:=eU.1 hq;obtain⟨x,hx,hq⟩:=eU.1 hq;exact Lp ((c.blocks b d).ins x hx) q hq
theorem RP{R:List Int}{S:iA->Bool}{m:Nat}{a b:Int}(i:R.length<=2097152)(d:InP R S)(g:Ch a)(e:Ch b):
 DK bC 89 (DP S m) [.lit (.map (iU m)),.lit (.int .i64 a),.lit (.int .i64 b)] (λ_:Unit=>DP (EK S (Dg a b)) m) (λ_=>.tuple #[]):=by
 have n:∀x,okPair x->S x=aJ->x∈R.flatMap λa=>R.map λb=>(⟨a,b⟩:iA):=λx _ hx=>by
  obtain⟨h1,h2,_⟩:=d x hx;exact eU.2 ⟨x.a,h1,eW.2 ⟨x.b,h2,rfl⟩⟩
 have c:∀l:List Int,(l.flatMap λa=>R.map λb=>(⟨a,b⟩:iA)).length=l.length * R.length:=λl=>by
  induction l with
  |nil=>simp
  |cons a l j=>rw[List.flatMap_cons,eD,j,eH,eE,Nat.add_mul,Nat.one_mul,iF]
 have k:(R.flatMap λa=>R.map λb=>(⟨a,b⟩:iA)).length < cN:=by
  rw[c];have:R.length * R.length<=2097152 * 2097152:=Nat.mul_le_mul i i;unfold cN;omega
 refine Wj n k ?_;unfold OT Dg;by_cases h:a=b
 ·subst h;rw[if_pos V,Dr];refine AJ ?_ (Aj _);simp
 ·rw[if_neg h,Ah4];have r:(if b < a then b else a)=min a b:=by rw[cR];split <;> split <;> omega
  have q:(if b > a then b else a)=max a b:=by rw[cQ];split <;> split <;> omega
  rw[r,q];refine AI ?_ (Af ?_ (Aj _))
  ·have:min a b≠max a b:=by rw[cR,cQ];split <;> omega
   simp[this]
  ·unfold RW;rw[aG];constructor
   ·show wfB .i64 (min a b)=aJ;rw[cR];split
    ·exact g
    ·exact e
   ·show wfB .i64 (max a b)=aJ;rw[cQ];split
    ·exact e
    ·exact g
theorem Ag3(f:gO)(Q:okFunc f)(U:smallF f)(hT:(Ce f).length<=2097152)(hA:(Nv f).length<=2097152)(ae:∀b∈f.blocks,b.ins.length+1<=2097152):M3 bC 77 [.agg (Ak f)] (λm=>DP (Hf f) m) (λm=>.map (iU m)):=by
 have bn:=U.blocks;have L:(AF f).length<=2097152:=Ls hA;have al:(Bz f).length<=2097152:=iJ (Dm _) hT;have B:∀r∈AF f,Ch r:=OK Q;refine SN Tryz.func77 V (by kernel_rfl) V Tryz.ntmps77 (λ_ _ _ _ h=>h) λC hC X=>?_
 refine nS ?_;refine Ab λK1 h1=>?_
 refine rC ?_;refine h1 _ ?_;refine nT ?_;refine Ab λK2 h2=>?_
 (refine gC ?_;(repeat(first|refine sQ ?_ (Ax V V V V)|refine sQ ?_ (Av V V V V)|refine sQ ?_|refine AM ?_|refine sG ?_|refine Bp ?_)))
 refine AC V (P4 V λm=>?_);refine sNt ?_
 (repeat(first|refine sQ ?_ (Ax V V V V)|refine sQ ?_ (Av V V V V)|refine sQ ?_|refine AM ?_|refine sG ?_|refine Bp ?_))
 refine Au ?_;refine h2 _ ?_;refine nT ?_;refine Bt 1 V V V (λg=>(.any::.lit (.pointer (iU ⟨g,0,iT⟩))::.lit (.map iT)::.ptr 3 0::A40 (A20 (A10 (A4 []))))) (λg=>(by(repeat(first|exact g9|refine hZ ?_|refine gZ ?_|refine g8 V ?_)))) λe=>?_
 refine Bt 3 V V V (λg=>(.any::.lit (.pointer (iU ⟨e,0,iT⟩))::.any::.lit (.pointer (iU ⟨g,0,iT⟩))::A40 (A20 (A10 (A4 []))))) (λg=>(by(repeat(first|exact g9|refine hZ ?_|refine gZ ?_|refine g8 V ?_)))) λd=>?_
 refine Ab λK3 h3=>?_
 refine Ab λK4 h4=>?_
 (refine gC ?_;(repeat(first|refine sQ ?_ (Ax V V V V)|refine sQ ?_ (Av V V V V)|refine sQ ?_|refine AM ?_|refine sG ?_|refine Bp ?_)))
 (repeat(first|refine sQ ?_ (Ax V V V V)|refine sQ ?_ (Av V V V V)|refine sQ ?_|refine AM ?_|refine sG ?_|refine Bp ?_))
 refine AC V (Cr V (Ov f) (λ_=>rfl) V V λp=>?_);refine sNt ?_;refine Au ?_;refine h4 _ ?_;refine nT ?_;refine Ac ?_;refine AE ⟨(.any::.lit (.pointer (iU ⟨e,0,iT⟩))::.any::.lit (.pointer (iU ⟨d,0,iT⟩))::A10 (A3 (.lit (stF p)::A40 (A20 [])))),[.res (Bk []),.res (Be e (Ak f)),.res (DP (Hg f 0) m),.res (Be d [.lit (.map (iU m))]),.res (Be p (Ak f))]⟩ (Ki (.cons (.cons (.cons (.cons (.cons (gI _))))))) ?_;refine Hw 4 0 (λk=>[.dead,.res (Be e (Ak f)),.res (DP (Hg f k) m),.res (Be d [.lit (.map (iU m))]),.dead]) X (by kernel_rfl) (by decide) V V V ?hdrop V (λ_=>rfl) (λ_=>rfl) V (Adh f) (VU f) (Mo f Q U hT ae p) ?hround ?hdone
 case hdrop=>
  exact⟨gH (gG (gG (gG (gH (gI _))))),λb hb=>cU.1 (show bdH [.dead,.res (Be e (Ak f)),.res (DP (Hg f 0) m),.res (Be d [.lit (.map (iU m))]),.dead]=aJ from V) b hb⟩
 case hround=>
  intro k hk C' bi;obtain⟨q,hq⟩:∃q,(stepsL f)[k]? =iU q:=⟨_,dV hk⟩
  have x:=eX hq;obtain⟨⟨bl,ai,T⟩,Z⟩:=Li x;have bj:=(C8 x).2.2;have ab:=(Q.blocks bl ai).ins q.1 T;have J:=Rc hq;have j:=L3 f k;try dsimp only
  rw[XJ hq];generalize bq:Hg f k=S0 at J j⊢;refine C3 (t':=(.any::.lit (.pointer (iU ⟨e,0,iT⟩))::.any::.lit (.pointer (iU ⟨d,0,iT⟩))::A10 (A3 (.lit (stF p)::.agg (BV q.1)::.bs tInt q.2::A40 (A10 (A8 [])))))) V V ?_;refine Ab λK6 h6=>?_
  refine rC ?_;refine h6 _ ?_;refine nT ?_;refine rC ?_;refine An λcm bg=>?_
  refine nT ?_;refine Ac ?_;refine Ab λK8 h8=>?_
  (refine gC ?_;(repeat(first|refine sQ ?_ (AT.call V (FR q.1 ab) V V V)|refine sQ ?_ (Ax V V V V)|refine sQ ?_ (Av V V V V)|refine sQ ?_|refine AM ?_|refine sG ?_|refine Bp ?_));refine Au ?_)
  refine h8 _ ?_;refine nT ?_;refine Ab λK9 h9=>?_
  refine rC ?_;refine h9 _ ?_;refine nT ?_;refine Ac ?_;have aa:=λi=>YE j x i
  refine AB (λi:Nat=>⟨(.any::.lit (.pointer (iU ⟨e,0,iT⟩))::.any::.lit (.pointer (iU ⟨d,0,iT⟩))::.ptr 5 0::.any::.lit (.int .i64 (if Bd q.1 then q.1.d else 0))::.lit (.bool (Bd q.1))::A10 (A7 (.bs tInt q.2::.lit (.int .i64 (q.2.length:Int))::.lit (.int .i64 (i:Int))::A40 (A10 [])))),[.dead,.res (Be e (Ak f)),.res (DP (IE S0 q i) m),.res (Be d [.lit (.map (iU m))]),.dead,.box (BV q.1)]⟩) (λi=>i<=q.2.length) (λi=>q.2.length - i) 0 (iQ _) (by rw[Aas];exact BU) ?_;intro i hi
  (try dsimp only at hi);(try dsimp only)
  refine Ab λck be=>?_
  refine rC ?_;refine be _ ?_;refine nT ?_;refine Ab λcj bc=>?_
  refine Ag V (λw=>?_) (λw=>?_)
  ·have y:i < q.2.length:=by simpa using w
   obtain⟨r,Y⟩:∃r,q.2[i]? =iU r:=⟨_,dV y⟩
   have W:=B r (Z r (eX Y));refine Al ?_;refine bc _ ?_;refine nT ?_;refine Ab λci O=>?_
   refine Ac ?_;refine Ab λch bb=>?_
   refine rC ?_;refine bb _ ?_;refine nT ?_;refine Ab λcg ba=>?_
   refine rC ?_;refine ba _ ?_;refine nT ?_;refine Ag V (λv=>?_) (λv=>?_)
   ·have A:MR q r=aJ:=v;have hw:Bd q.1=aJ:=by unfold MR at A;rw[aG]at A;exact A.1
    have hd:(if Bd q.1 then q.1.d else 0)=q.1.d:=if_pos hw;have P:IE S0 q (i+1)=EK (IE S0 q i) (Dg (if Bd q.1 then q.1.d else 0) r):=by rw[hd];exact Ag6 Y A
    have ag:Ch (if Bd q.1 then q.1.d else 0):=by rw[hd];exact B _ (NX x hw)
    (refine gC ?_;(repeat(first|refine sQ ?_ (Ax V V V V)|refine sQ ?_ (Av V V V V)|refine sQ ?_|refine AM ?_|refine sG ?_|refine Bp ?_)))
    (repeat(first|refine sQ ?_ (Ax V V V V)|refine sQ ?_ (Av V V V V)|refine sQ ?_|refine AM ?_|refine sG ?_|refine Bp ?_))
    refine AC V (BQ (i:=2) V V (RP L (aa i) ag W) (λ_=>rfl) V V λ_=>?_);refine sNt ?_;refine Au ?_;refine O _ ?_;refine nT ?_;refine rC ?_;refine An ⟨i+1,by omega,by omega,?_⟩;rw[P];exact BU
   ·have P:IE S0 q (i+1)=IE S0 q i:=All Y v;refine Al ?_;refine O _ ?_;refine nT ?_;refine rC ?_;refine An ⟨i+1,by omega,by omega,?_⟩;rw[P];exact BU
  ·have E:i=q.2.length:=by
    have:¬i < q.2.length:=by simpa using w
    omega
   subst E;have e3:IE S0 q q.2.length=Hg f (k+1):=by rw[J,UP]
   rw[e3];refine Ay ?_;exact⟨rfl,⟨.cons (.cons (.cons (.cons (.cons (gI _))))),λb hb=>cU.1 (show bdH [.dead,.res (Be e (Ak f)),.res (DP (Hg f (k+1)) m),.res (Be d [.lit (.map (iU m))]),.dead]=aJ from V) b hb⟩⟩
 case hdone=>
  intro D;refine h3 _ ?_;refine C3 (t':=(.any::.lit (.pointer (iU ⟨e,0,iT⟩))::.any::.lit (.pointer (iU ⟨d,0,iT⟩))::A10 (A3 (.lit (stF p)::A40 (A20 []))))) (h':=[.res (Bk [D]),.res (Be e (Ak f)),.res (DP (Hg f (stepsL f).length) m),.res (Be d [.lit (.map (iU m))]),.dead]) V V ?_;have j:=L3 f (stepsL f).length;have z:Hf f=EK (Hg f (stepsL f).length) (edgeF (CW f)):=rfl;generalize bo:Hg f (stepsL f).length=S1 at j z⊢;refine Ab λcf N=>?_
  refine Ab λce az=>?_
  refine rC ?_;refine az _ ?_;refine nT ?_;refine Ag V (λu=>?_) (λu=>?_)
  ·have I:0 < f.blocks.length:=by simpa using u
   have ak:(atF f 0)[0]? =iU (CW f):=by
    unfold atF CW;rw[if_pos ⟨by decide,by omega⟩,if_neg (by omega),show(0:Int).toNat=0 from V,Gy];rfl
   have c:=UH f;have F:(CW f).length<=2097152:=by
    unfold CW;rw[if_neg (by omega),Gy];exact iJ (eG _ _) al
   generalize bk:CW f=l at ak z c F;refine Ab λcd ay=>?_
   (refine gC ?_;(repeat(first|refine sQ ?_ (AT.call V (Ax6 f 0 Q U hT) V V V)|refine sQ ?_ (Ax V V V V)|refine sQ ?_ (Av V V V V)|refine sQ ?_|refine AM ?_|refine sG ?_|refine Bp ?_));refine Au ?_)
   refine ay _ ?_;refine nT ?_;refine Ab λcc ax=>?_
   refine rC ?_;refine ax _ ?_;refine nT ?_;refine Ac ?_;refine AB (λi:Nat=>⟨(A3 (.lit (.pointer (iU ⟨d,0,iT⟩))::A6 (.bs tInt l::A40 (A5 (.bs tInt l::.lit (.int .i64 (l.length:Int))::.lit (.int .i64 (i:Int))::A10 (A9 [])))))),[.res (Bk [D]),.res (Be e (Ak f)),.res (DP (L4 S1 l i 0) m),.res (Be d [.lit (.map (iU m))]),.dead]⟩) (λi=>i<=l.length) (λi=>l.length - i) 0 (iQ _) (by rw[Aat];exact BU) ?_;intro i hi
   (try dsimp only at hi);(try dsimp only)
   refine Ab λcb aw=>?_
   refine rC ?_;refine aw _ ?_;refine nT ?_;refine Ab λca av=>?_
   refine Ag V (λs=>?_) (λs=>?_)
   ·have y:i < l.length:=by simpa using s
    obtain⟨a,ha⟩:∃a,l[i]? =iU a:=⟨_,dV y⟩
    have aj:=B a (c a (eX ha));have bh:(l.take i).length=i:=by rw[eJ];omega
    refine Al ?_;refine av _ ?_;refine nT ?_;refine Ab λbz au=>?_
    refine Ac ?_;refine Ab λbx ar=>?_
    refine rC ?_;refine ar _ ?_;refine nT ?_;refine Ab λbw aq=>?_
    (refine gC ?_;(repeat(first|refine sQ ?_ (PQ (l:=0) (m:=i) V V V V ⟨_,rfl⟩ (iQ _) (by omega))|refine sQ ?_ (Ax V V V V)|refine sQ ?_ (Av V V V V)|refine sQ ?_|refine AM ?_|refine sG ?_|refine Bp ?_));refine Au ?_)
    refine aq _ ?_;refine nT ?_;refine Ac ?_;refine AB (λk:Nat=>⟨(A3 (.lit (.pointer (iU ⟨d,0,iT⟩))::A6 (.bs tInt l::.any::.lit (.int .i64 a)::A40 (A3 (.bs tInt l::.lit (.int .i64 (l.length:Int))::.lit (.int .i64 (i:Int))::A6 (.bs tInt (l.take i)::.lit (.int .i64 ((l.take i).length:Int))::.lit (.int .i64 (k:Int))::A10 [])))))),[.res (Bk [D]),.res (Be e (Ak f)),.res (DP (L4 S1 l i k) m),.res (Be d [.lit (.map (iU m))]),.dead]⟩) (λk=>k<=i) (λk=>i - k) 0 (iQ _) (BU) ?_;intro k hk
    (try dsimp only at hk);(try dsimp only)
    refine Ab λbv ap=>?_
    refine rC ?_;refine ap _ ?_;refine nT ?_;refine Ab λbu ao=>?_
    refine Ag V (λn=>?_) (λn=>?_)
    ·have ac:k < i:=by
      have:(k:Int) < ((l.take i).length:Int):=of_decide_eq_true n;omega
     obtain⟨b,G⟩:∃b,l[k]? =iU b:=⟨_,dV (by omega)⟩
     have bm:(l.take i)[k]? =iU b:=by rw[eA,if_pos ac];exact G
     have ah:=B b (c b (eX G));have P:=Aau (S:=S1) ha G;refine Al ?_;refine ao _ ?_;refine nT ?_;refine Ab λbt an=>?_
     refine Ac ?_;refine Ab λbr am=>?_
     refine rC ?_;refine am _ ?_;refine nT ?_
     (refine gC ?_;(repeat(first|refine sQ ?_ (Ax V V V V)|refine sQ ?_ (Av V V V V)|refine sQ ?_|refine AM ?_|refine sG ?_|refine Bp ?_)))
     (repeat(first|refine sQ ?_ (Ax V V V V)|refine sQ ?_ (Av V V V V)|refine sQ ?_|refine AM ?_|refine sG ?_|refine Bp ?_))
     refine AC V (BQ (i:=2) V V (RP L (YF j c hi (.inr y)) aj ah) (λ_=>rfl) V V λ_=>?_);refine sNt ?_;refine Au ?_;refine an _ ?_;refine nT ?_;refine rC ?_;refine An ⟨k+1,by omega,by omega,?_⟩;rw[P];exact BU
    ·have ad:k=i:=by
      have:¬(k:Int) < ((l.take i).length:Int):=of_decide_eq_false n;omega
     subst ad;rw[Aav];refine Ay (BG (BG (exN (abN (An (au _ ?_))))));refine nT ?_;refine rC ?_;refine An ⟨k+1,by omega,by omega,?_⟩;exact BU
   ·have E:i=l.length:=by
     have:¬i < l.length:=by simpa using s
     omega
    subst E;rw[UQ,<-z];refine Ay (BG (BG (exN (An (N _ ?_)))));refine nT ?_;refine Ab λbf H=>?_
    refine rC ?_;refine H _ ?_;refine nT ?_;exact Aw ⟨.inr V,[D],2,m,rfl,rfl,by decide,rfl,rfl⟩
  ·have I:f.blocks.length=0:=by
    have:¬0 < f.blocks.length:=by simpa using u
    omega
   have F:CW f= []:=by unfold CW;rw[if_pos I]
   have af:Hf f=S1:=by rw[z,F];exact Dr _
   rw[<-af];refine Al ?_;refine N _ ?_;refine nT ?_;refine Ab λbf H=>?_
   refine rC ?_;refine H _ ?_;refine nT ?_;exact Aw ⟨.inr V,[D],2,m,rfl,rfl,by decide,rfl,rfl⟩
instance Aqc:AG bC 109 aH 1:=⟨by kernel_rfl⟩
instance Aqb:SZ bC 109 1:=⟨by kernel_rfl⟩
instance Aqa:ZC bC 109 [.map iT]:=⟨by kernel_rfl⟩
theorem UO(a:(Nv f).length<=2097152):InRow (AF f) (Hf f):=⟨(CL f).1,Ls a,Ag4 f⟩
theorem Afj(a:(Nv f).length<=2097152):InRow (AF f) (mvK f (stepsL f).length):=⟨(CL f).1,Ls a,LL f _⟩
theorem YD(f:gO)(c:okFunc f)(e:smallF f)(g:(Ce f).length<=2097152)(d:(Nv f).length<=2097152)(a:∀b∈f.blocks,b.ins.length+1<=2097152):Fn bC 41 [.agg (Ak f)] (.bs Dk (CC f)):=by
 refine AQ Tryz.func41 V (by kernel_rfl) V Tryz.ntmps41 λC j=>?_
 refine nS ?_;refine Ab λl h1=>?_
 refine rR ?_;refine h1 _ ?_;refine nT ?_;refine Ab λk h2=>?_
 (refine gC ?_;(repeat(first|refine sQ ?_|refine AM ?_|refine Bp ?_)))
 refine AC V (Cr V (Ag3 f c e g d a) (λ_=>rfl) V V λm=>?_);refine sNt ?_;refine AC V (BQ (i:=1) V V (Q5 (UO d) (OK c) m) (λ_=>rfl) V V λv=>?_);refine sNt ?_
 (repeat(first|refine sQ ?_|refine AM ?_|refine Bp ?_))
 refine Au ?_;refine h2 _ ?_;refine nT ?_;refine AE _ (Im 1 (ver:=0) (t':=(A2 (.own 1 0::A3 []))) V V (by(try simp only[Bl,zac]);(repeat(first|exact Cls.nil|refine Cls.own ?_|refine Cls.any ?_|refine Cls.keep V ?_)))) ?_;refine nT ?_;exact Aw ⟨.inr V,gK V⟩
theorem Akk(f:gO)(G:okFunc f)(E:smallF f)(L:(Ce f).length<=2097152)(H:(Nv f).length<=2097152)(w:∀b∈f.blocks,b.ins.length+1<=2097152):Fn bC 50 [.agg (Ak f)] (.bs Dk (mvL f)):=by
 have J:=E.blocks;have z:(AF f).length<=2097152:=Ls H;have j:∀r∈AF f,Ch r:=OK G;refine FM Tryz.func50 V (by kernel_rfl) V Tryz.ntmps50 λC U u=>?_
 refine nS ?_;refine Ab λK1 h1=>?_
 refine rR ?_;refine h1 _ ?_;refine nT ?_;refine Ab λZ h2=>?_
 (refine gC ?_;(repeat(first|refine sQ ?_|refine AM ?_|refine Bp ?_)))
 refine AC V (P4 V λm=>?_);refine sNt ?_
 (repeat(first|refine sQ ?_|refine AM ?_|refine Bp ?_))
 refine Au ?_;refine h2 _ ?_;refine nT ?_;refine Bt 1 V V V (λg=>(.any::.lit (.pointer (iU ⟨g,0,iT⟩))::.any::.ptr 3 0::A10 (A7 []))) (λg=>(by(repeat(first|exact g9|refine hZ ?_|refine gZ ?_|refine g8 V ?_)))) λc=>?_
 refine Bt 3 V V V (λg=>(.any::.lit (.pointer (iU ⟨c,0,iT⟩))::.any::.lit (.pointer (iU ⟨g,0,iT⟩))::A10 (A7 []))) (λg=>(by(repeat(first|exact g9|refine hZ ?_|refine gZ ?_|refine g8 V ?_)))) λd=>?_
 refine Ab λY Q=>?_
 refine Ab λX P=>?_
 (refine gC ?_;(repeat(first|refine sQ ?_|refine AM ?_|refine Bp ?_)))
 (repeat(first|refine sQ ?_|refine AM ?_|refine Bp ?_))
 refine AC V (Cr V (Ov f) (λ_=>rfl) V V λp=>?_);refine sNt ?_;refine Au ?_;refine P _ ?_;refine nT ?_;refine Ac ?_;refine AE ⟨(.any::.lit (.pointer (iU ⟨c,0,iT⟩))::.any::.lit (.pointer (iU ⟨d,0,iT⟩))::A3 (.lit (stF p)::A10 (A3 []))),[.res (Bk []),.res (Be c (Ak f)),.res (DP (mvK f 0) m),.res (Be d [.lit (.map (iU m))]),.res (Be p (Ak f))]⟩ (Ki (.cons (.cons (.cons (.cons (.cons (gI _))))))) ?_;refine Hw 4 0 (λk=>[.dead,.res (Be c (Ak f)),.res (DP (mvK f k) m),.res (Be d [.lit (.map (iU m))]),.dead]) u (by kernel_rfl) (by decide) V V V ?hdrop V (λ_=>rfl) (λ_=>rfl) V (Adh f) (VU f) (Mo f G E L w p) ?hround ?hdone
 case hdrop=>
  exact⟨gH (gG (gG (gG (gH (gI _))))),λb s=>cU.1 (show bdH [.dead,.res (Be c (Ak f)),.res (DP (mvK f 0) m),.res (Be d [.lit (.map (iU m))]),.dead]=aJ from V) b s⟩
 case hround=>
  intro k hk C' I;obtain⟨q,hq⟩:∃q,(stepsL f)[k]? =iU q:=⟨_,dV hk⟩
  have l:=eX hq;have e:=O9 hq;have n:=LL f k;try dsimp only
  rw[XJ hq];generalize N:mvK f k=S0 at e n⊢;refine C3 (t':=(.any::.lit (.pointer (iU ⟨c,0,iT⟩))::.any::.lit (.pointer (iU ⟨d,0,iT⟩))::A3 (.lit (stF p)::.agg (BV q.1)::.bs tInt q.2::A10 [.any]))) V V ?_;refine rR ?_;refine An λT F=>?_
  refine nT ?_;refine Ac ?_;refine Ab λW O=>?_
  refine rR ?_;refine O _ ?_;refine nT ?_;refine Ag V (λa=>?_) (λa=>?_)
  ·have h2:q.1.op=2:=by simpa using a
   have B:mvK f (k+1)=EK S0 (Dg q.1.d q.1.a):=by rw[e];unfold mvA;rw[if_pos h2]
   have x:Ch q.1.d:=j _ (NX l (MC h2).1);have y:Ch q.1.a:=j _ (XS l h2)
   (refine gC ?_;(repeat(first|refine sQ ?_|refine AM ?_|refine Bp ?_)))
   (repeat(first|refine sQ ?_|refine AM ?_|refine Bp ?_))
   refine AC V (BQ (i:=2) V V (RP z n x y) (λ_=>rfl) V V λ_=>?_);refine sNt ?_;refine Au ?_;rw[<-B];exact⟨rfl,⟨.cons (.cons (.cons (.cons (.cons (gI _))))),λb s=>cU.1 (show bdH [.dead,.res (Be c (Ak f)),.res (DP (mvK f (k+1)) m),.res (Be d [.lit (.map (iU m))]),.dead]=aJ from V) b s⟩⟩
  ·have B:mvK f (k+1)=S0:=by
    rw[e];unfold mvA;rw[if_neg (by simpa using a),Dr]
   refine Al ?_;rw[B];exact⟨rfl,⟨.cons (.cons (.cons (.cons (.cons (gI _))))),λb s=>cU.1 (show bdH [.dead,.res (Be c (Ak f)),.res (DP S0 m),.res (Be d [.lit (.map (iU m))]),.dead]=aJ from V) b s⟩⟩
 case hdone=>
  intro D;refine Q _ ?_;refine C3 (t':=(.any::.lit (.pointer (iU ⟨c,0,iT⟩))::.any::.lit (.pointer (iU ⟨d,0,iT⟩))::A3 (.lit (stF p)::A10 (A3 [])))) (h':=[.res (Bk [D]),.res (Be c (Ak f)),.res (DP (mvK f (stepsL f).length) m),.res (Be d [.lit (.map (iU m))]),.dead]) V V ?_;refine Ab λS A=>?_
  (refine gC ?_;(repeat(first|refine sQ ?_|refine AM ?_|refine Bp ?_)))
  refine AC V (BQ (i:=2) V V (Q5 (Afj H) j m) (λ_=>rfl) V V λv=>?_);refine sNt ?_
  (repeat(first|refine sQ ?_|refine AM ?_|refine Bp ?_))
  refine Au ?_;refine A _ ?_;refine nT ?_;refine AE _ (Im 2 (ver:=0) (t':=(A2 (.own 2 0::A10 (A8 [])))) V V (by(try simp only[Bl,zac]);(repeat(first|exact Cls.nil|refine Cls.own ?_|refine Cls.any ?_|refine Cls.keep V ?_)))) ?_;refine nT ?_;exact Aw ⟨.inr V,[D],rfl,rfl,gK V⟩
end Mu
namespace Mu
open Go Go.RowKit Go.Proofs
variable{a:Int}{all:List (List (List Int))}{b:Int}{bs:List gE}{f:gO}{j:Nat}{l:List Int}{n:Int}{q:Nat}{r:Bool}{x y:Ins}
def E5(x:Ins):Bool:=wfB .u8 x.op&&wfB .i64 x.d&&wfB .i64 x.a&&wfB .i64 x.b&&wfB .u32 x.n&&wfB .i64 x.f&&wfB .i64 x.l1&&wfB .i64 x.l2&&x.args.all (wfB .i64)
def LG(b:gE):Bool:=Ay8 b.name&&b.ins.all E5
def Ws(f:gO):Bool:=Ay8 f.name&&wfB .i64 f.args&&wfB .i64 f.regs&&f.blocks.all LG
def Adq(b:gE):Bool:=aK (b.ins.length+1<=2097152)&&b.ins.all λx=>decide (x.args.length+8<=2097152)
def Adp(f:gO):Bool:=aK (f.blocks.length<=2097152)&&f.blocks.all Adq
def MQ(f:gO):Bool:=Ws f&&Adp f&&aK ((Ce f).length<=2097152)&&aK ((Nv f).length<=2097152)
theorem DC:E5 x=aJ↔okIns x:=by
 unfold E5;simp only[aG,cU];exact⟨λ⟨⟨⟨⟨⟨⟨⟨⟨a,b⟩,c⟩,d⟩,e⟩,f⟩,g⟩,i⟩,j⟩=>⟨a,b,c,d,e,f,g,i,j⟩,λh=>⟨⟨⟨⟨⟨⟨⟨⟨h.op,h.d⟩,h.a⟩,h.b⟩,h.n⟩,h.f⟩,h.l1⟩,h.l2⟩,h.args⟩⟩
theorem I9{b:gE}:LG b=aJ↔okBlock b:=by
 unfold LG;simp only[aG,cU];exact⟨λ⟨a,b⟩=>⟨Adc a,λx hx=>DC.1 (b x hx)⟩,λh=>⟨decide_eq_true h.name,λx hx=>DC.2 (h.ins x hx)⟩⟩
theorem O2:Ws f=aJ↔okFunc f:=by
 unfold Ws;simp only[aG,cU];exact⟨λ⟨⟨⟨a,b⟩,c⟩,d⟩=>⟨Adc a,b,c,λx hx=>I9.1 (d x hx)⟩,λh=>⟨⟨⟨decide_eq_true h.name,h.args⟩,h.regs⟩,λx hx=>I9.2 (h.blocks x hx)⟩⟩
structure FineF(f:Func):Prop where
 ok:okFunc f
 small:smallF f
 reads:(Ce f).length<=2097152
 all:(Nv f).length<=2097152
 ins:∀b∈f.blocks,b.ins.length+1<=2097152
theorem BM:MQ f=aJ↔FineF f:=by
 unfold MQ Adp Adq;simp only[cU,zaf];exact⟨λ⟨⟨⟨a,b,c⟩,d⟩,e⟩=>⟨O2.1 a,⟨b,λx hx=>⟨Nat.le_of_succ_le (c x hx).1,(c x hx).2⟩⟩,d,e,λx hx=>(c x hx).1⟩,
  λh=>⟨⟨⟨O2.2 h.ok,h.small.blocks,λx hx=>⟨h.ins x hx,(h.small.all x hx).all⟩⟩,h.reads⟩,h.all⟩⟩
def Mx(x:Ins):M (Int×Bool):=gQ (E5 x) (gU (if Bd x then x.d else 0,Bd x))
theorem TF{r:Int×Bool}(H:(Mx x).to r):Fn bC 44 [.agg (BV x)] (.tup [.lit (.int .i64 r.1),.lit (.bool r.2)]):=by
 obtain⟨c,H⟩:=Ah.1 H;obtain rfl:=Ad.1 H;exact Fu x (DC.1 c)
def Ael(f:gO):M (List (List (List Int))):=gQ (MQ f) (gU (PH f))
theorem Aek{r:List (List (List Int))}(H:(Ael f).to r):Fn bC 33 [.agg (Ak f)] (.bs tInt.slice.slice r):=by
 obtain⟨c,H⟩:=Ah.1 H;obtain rfl:=Ad.1 H;have c:=BM.1 c;exact YU f c.ok c.small c.reads
def OQ(f:gO):M Bool:=gQ (MQ f) (gU (CF f))
theorem Wc(H:(OQ f).to r):Fn bC 7 [.agg (Ak f)] (.lit (.bool r)):=by
 obtain⟨c,H⟩:=Ah.1 H;obtain rfl:=Ad.1 H;have c:=BM.1 c;exact Aab f c.ok c.small c.all
def CD(f:gO)(leaf:Bool)(l:List Int):List (List Int):=l.map λr=>BA (B5 f) r leaf
theorem WZ(f:gO)(leaf:Bool){k:Nat}{r:Int}(h:l[k]? =iU r):CD f leaf (l.take (k+1))=CD f leaf (l.take k)++[BA (B5 f) r leaf]:=by
 unfold CD;rw[fI,h,eK];rfl
theorem Nr(f:gO)(leaf:Bool)(z:okFunc f)(w:smallF f)(A:(Ce f).length<=2097152)(s:∀b∈f.blocks,b.ins.length+1<=2097152)(E:(Nv f).length<=2097152):Fn bC 37 [.agg (Ak f),.lit (.bool leaf)] (.bs tInt.slice (CD f leaf (regsB f))):=by
 have u:(B5 f).length<=2147483648:=by have:=Rd f;have:=iJ (Dm _) A;unfold Bz at *;omega
 have B:(regsB f).length<=2097158:=by
  have h1:=Ad9 f;have h2:=N7 (argsK f);have L:=(Gz f).2;unfold Ace at h1;rw[eD]at h1;omega
 refine AQ Tryz.func37 V (by kernel_rfl) V Tryz.ntmps37 λC J=>?_
 refine nS ?_;refine rCS ?_;refine Ab λQ h2=>?_
 (refine gC ?_;(repeat(first|refine sQ ?_ (AT.call V (Alr f z w A s) V V V)|refine sQ ?_ (Ax V V V V)|refine sQ ?_ (Av V V V V)|refine sQ ?_|refine AM ?_|refine sG ?_|refine Bp ?_));refine Au ?_)
 refine h2 _ ?_;refine nT ?_;refine rCS ?_;refine Ab λP H=>?_
 refine Ab λO G=>?_
 (refine gC ?_;(repeat(first|refine sQ ?_ (AT.call V (Lr f z w E) V V V)|refine sQ ?_ (Ax V V V V)|refine sQ ?_ (Av V V V V)|refine sQ ?_|refine AM ?_|refine sG ?_|refine Bp ?_));refine Au ?_)
 refine G _ ?_;refine nT ?_;refine Ac ?_;refine AB (λp:Nat×Nat=>⟨(.any::.lit (.bool leaf)::.ptr 0 0::A2 (.bs tInt (B5 f)::.own 1 p.2::A5 (.bs tInt (regsB f)::.lit (.int .i64 ((regsB f).length:Int))::.lit (.int .i64 (p.1:Int))::A10 (A2 [])))),[.box (Ak f),.row p.2 27 tInt.slice (CD f leaf ((regsB f).take p.1))]⟩) (λp=>p.1<=(regsB f).length) (λp=>(regsB f).length - p.1) (0,0) (iQ _) ((Cz 6 27 tInt.slice V (by decide)).trans (BU)) ?_;rintro⟨k,ver⟩ hk;dsimp only at hk⊢;refine rCS ?_;refine Ab λN F=>?_
 refine Ag V (λc=>?_) (λc=>?_)
 ·have g:k < (regsB f).length:=by simpa using c
  obtain⟨r,D⟩:∃r,(regsB f)[k]? =iU r:=⟨_,dV g⟩
  have d:=WZ f leaf D;have i:(CD f leaf ((regsB f).take k)).length<=2097158:=by unfold CD;rw[eH,eJ];omega
  generalize CD f leaf ((regsB f).take k)=L0 at d i⊢;refine Al ?_;refine F _ ?_;refine nT ?_;refine Ab λI v=>?_
  refine Ac ?_;refine rCS ?_
  (refine gC ?_;(repeat(first|refine sQ ?_ (AT.call V (Wf (B5 f) r leaf (Re f) u) V V V)|refine sQ ?_ (Ax V V V V)|refine sQ ?_ (Av V V V V)|refine sQ ?_|refine AM ?_|refine sG ?_|refine Bp ?_));refine Au ?_)
  refine v _ ?_;refine nT ?_;refine rC ?_;refine An ⟨(k+1,ver+1),by dsimp only;omega,by dsimp only;omega,?_⟩;dsimp only;rw[d];exact BU
 ·have m:k=(regsB f).length:=by have:¬k < (regsB f).length:=(by simpa using c);omega
  have e:CD f leaf (regsB f)=CD f leaf ((regsB f).take k):=by rw[m,fM]
  refine Ay ?_;refine H _ ?_;refine nT ?_;refine rCS ?_;refine Aw ?_;rw[e];exact⟨.inr V,gK V⟩
theorem Apo:∀(w:cA) (S S':Nat->Prop) (cs:List bY) (d:Int),tInt.RS w S cs d->tInt.RS w S' cs d:=λ_ _ _ _ _ h=>DJ.2 (DJ.1 h)
theorem WC(l:List Int)(n:Int)(w:l.length<=2097160):Fn bC 64 [.bs tInt l,.lit (.int .i64 n)] (.lit (.bool (l.contains n))):=by
 refine AQ Tryz.func64 V (by kernel_rfl) V Tryz.ntmps64 λC z=>?_
 refine nS ?_;refine rCS ?_;refine Ab λD h2=>?_
 refine rCS ?_;refine Ac ?_;refine AB (λi:Nat=>⟨(.bs tInt l::.lit (.int .i64 n)::A3 (.lit (.int .i64 (i:Int))::A10 (A2 []))),[]⟩) (λi=>i<=l.length/\(l.take i).contains n=aH) (λi=>l.length - i) 0 ⟨iQ _,rfl⟩ (BU) ?_;rintro i ⟨hi,hc⟩;refine Ab λB v=>?_
 refine rCS ?_;refine Ag V (λs=>?_) (λs=>?_)
 ·have g:i < l.length:=by simpa using s
  obtain⟨x,hx⟩:∃x,l[i]? =iU x:=⟨_,dV g⟩
  refine Al ?_;refine v _ ?_;refine nT ?_;refine Ab λA u=>?_
  refine Ac ?_;refine rCS ?_;refine Ag V (λd=>?_) (λd=>?_)
  ·have c:x=n:=by simpa using d
   have m:l.contains n=aJ:=by rw[<-c];exact dA.2 (eX hx)
   refine rCS ?_;refine Aw ?_;rw[m];exact⟨.inr V,gJ V⟩
  ·have c:¬x=n:=by simpa using d
   refine Al ?_;refine u _ ?_;refine nT ?_;refine rC ?_;refine An ⟨i+1,⟨by omega,?_⟩,by omega,BU⟩;rw[fI,hx,cZ]at *;simp only[iW,eO,eR,List.not_mem_nil,or_false,decide_eq_false_iff_not,not_or]at hc⊢;exact⟨by simpa[cZ]using hc,λe=>c e.symm⟩
 ·have k:i=l.length:=by have:¬i < l.length:=(by simpa using s);omega
  rw[k,fM]at hc;refine Ay ?_;refine h2 _ ?_;refine nT ?_;refine rCS ?_;refine Aw ?_;rw[hc];exact⟨.inr V,gJ V⟩
def L1(n:Int)(k:Nat):List Int:=(List.range k).map λ(j:Nat)=>n+(j:Int)
theorem Aae(n:Int)(k:Nat):L1 n (k+1)=L1 n k++[n+(k:Int)]:=by unfold L1;rw[List.range_succ,eK];rfl
theorem Agn(n:Int)(k:Nat):(L1 n k).length=k:=by simp[L1]
theorem MN(n:Int)(m:Nat)(B:0<=n)(s:n<=100)(D:m<=100):JA bC 104 [.lit (.int .i64 n),.lit (.int .i64 (m:Int))] 3 tInt (L1 n m):=by
 refine Eg Tryz.func104 V (by kernel_rfl) V Tryz.ntmps104 Apo λC E=>?_
 refine nS ?_;refine rCS ?_;refine rCS ?_;refine Ab λH z=>?_
 refine rCS ?_;refine Ac ?_;refine AB (λp:Nat×Nat=>⟨(.lit (.int .i64 n)::.lit (.int .i64 (m:Int))::A3 (.own 0 p.2::.lit (.int .i64 (p.1:Int))::A10 (A2 []))),[.row p.2 3 tInt (L1 n p.1)]⟩) (λp=>p.1<=m) (λp=>m - p.1) (0,0) (iQ _) ((Cz 5 3 tInt V (by decide)).trans (BU)) ?_;rintro⟨i,ver⟩ hi;dsimp only at hi⊢;refine Ab λG w=>?_
 refine rCS ?_;refine Ag V (λc=>?_) (λc=>?_)
 ·have u:i < m:=by simpa using c
  have A:wfI .i64 (n+(i:Int)):=by
   obtain⟨k,rfl⟩:∃k:Nat,n=(k:Int):=⟨n.toNat,by omega⟩
   exact LK (k:=k+i) (by omega)
  have e:=Agn n i;have d:=Aae n i;generalize L1 n i=L0 at e d⊢;refine Al ?_;refine w _ ?_;refine nT ?_;refine Ab λF v=>?_
  refine Ac ?_;refine rC ?_;refine v _ ?_;refine nT ?_;refine rC ?_;refine An ⟨(i+1,ver+1),by dsimp only;omega,by dsimp only;omega,?_⟩;dsimp only;rw[d];exact BU
 ·have g:i=m:=by have:¬i < m:=(by simpa using c);omega
  subst g;refine Ay ?_;refine z _ ?_;refine nT ?_;refine rCS ?_;refine Aw ?_;exact⟨.inr V,rfl,_,_,rfl,rfl⟩
theorem Alb:L1 8 6= [8,9,10,11,12,13]:=by decide
theorem Ak9:L1 16 8=Aiv:=by decide
theorem Ala:L1 24 6=Aix:=by decide
theorem TN(f:gO)(r:Int)(leaf:Bool)(B:okFunc f)(A:smallF f)(s:(Ce f).length<=2097152)(i:∀b∈f.blocks,b.ins.length+1<=2097152):Fn bC 70 [.agg (Ak f),.lit (.int .i64 r),.lit (.bool leaf)] (.bs tInt (BA (B5 f) r leaf)):=by
 have k:(B5 f).length<=2097160:=by have:=Rd f;have:=iJ (Dm _) s;unfold Bz at *;omega
 have w:JA bC 104 [.lit (.int .i64 8),.lit (.int .i64 6)] 3 tInt (L1 8 6):=MN 8 6 (by decide) (by decide) (by decide);have v:JA bC 104 [.lit (.int .i64 16),.lit (.int .i64 8)] 3 tInt (L1 16 8):=MN 16 8 (by decide) (by decide) (by decide);have u:JA bC 104 [.lit (.int .i64 24),.lit (.int .i64 6)] 3 tInt (L1 24 6):=MN 24 6 (by decide) (by decide) (by decide);rw[Alb]at w;rw[Ak9]at v;rw[Ala]at u;have g:=u.fn;have E:Aiv.length+Aix.length<=cN:=by decide
 have D:(Aiv.length+Aix.length) * 8<=140737488355328:=by decide
 have z:wfI .i64 4:=Atu (by decide);have e:=WC (B5 f) r k;have hc:=Aa1 f B A s i;rw[Dn];refine AQ Tryz.func70 V (by kernel_rfl) V Tryz.ntmps70 λC H=>?_
 refine nS ?_;refine rCS ?_;refine Ab λU h2=>?_
 (refine gC ?_;(repeat(first|(refine AC V (La V w (by decide) V V ?_);refine sNt ?_)|refine sQ ?_ (Ax V V V V)|refine sQ ?_ (Av V V V V)|refine sQ ?_|refine AM ?_|refine sG ?_|refine Bp ?_));refine Au ?_)
 refine h2 _ ?_;refine nT ?_;refine Ab λT N=>?_
 refine gC ?_;refine AC V (La V v (by decide) V V ?_);refine sNt ?_
 (repeat(first|refine sQ ?_ (AT.call V g V V V)|refine sQ ?_ (Ax V V V V)|refine sQ ?_ (Av V V V V)|refine sQ ?_|refine AM ?_|refine sG (hq:=by(intro hg;(try simp only[Bool.and_eq_true,beq_iff_eq]at hg);(try simp only[hg,Bool.true_and,zaj]);exact AT.call V g V V V)) ?_|refine sG ?_|refine Bp ?_))
 refine Au ?_;refine N _ ?_;refine nT ?_;refine Ab λS L=>?_
 refine rCS ?_;refine Ag V (λd=>?_) (λd=>?_)
 ·refine rCS ?_;refine Aw ?_;rw[if_pos d];exact⟨.inr V,gK V⟩
 ·have d:leaf=aH:=d;refine Al ?_;refine L _ ?_;refine nT ?_;refine Ab λQ J=>?_
  refine Ab λP I=>?_
  (refine gC ?_;(repeat(first|refine sQ ?_ (AT.call V hc V V V)|refine sQ ?_ (AT.call V e V V V)|refine sQ ?_ (Ax V V V V)|refine sQ ?_ (Av V V V V)|refine sQ ?_|refine AM ?_|refine sG (hq:=by(intro hg;(try simp only[Bool.and_eq_true,beq_iff_eq]at hg);(try simp only[hg,Bool.true_and,zaj]);exact AT.call V hc V V V)) ?_|refine sG (hq:=by(intro hg;(try simp only[Bool.and_eq_true,beq_iff_eq]at hg);(try simp only[hg,Bool.true_and,zaj]);exact AT.call V e V V V)) ?_|refine sG ?_|refine Bp ?_));refine Au ?_)
  refine I _ ?_;refine nT ?_;refine Ag V (λc=>?_) (λc=>?_)
  ·have c:(B5 f).contains r=aJ:=c;refine rCS ?_;refine Aw ?_;rw[if_neg (by rw[d];simp),if_pos c];exact⟨.inr V,gK V⟩
  ·have c:(B5 f).contains r=aH:=c;refine Al ?_;refine J _ ?_;refine nT ?_;refine Ab λO m=>?_
   refine AE _ (Oi H 2 V) ?_;refine AE ⟨(A3 (.ptr 0 0::A3 (.own 1 1::.bs tInt KK::A10 (A6 [])))),[.box (Ak f),.row 1 3 tInt Aak,.dead]⟩ (BU) ?_;have G:Aak.length+KK.length<=cN:=by decide
   have F:(Aak.length+KK.length) * 8<=140737488355328:=by decide
   refine rC ?_;refine m _ ?_;refine nT ?_;refine Aw ?_;rw[if_neg (by rw[d];simp),if_neg (by rw[c];simp)];exact⟨.inr V,gK V⟩
theorem Tw(c:(Nv f).length<=2097152):(AF f).length<=2097152:=iJ (FH _).1 c
theorem Aeb(c:okFunc f):Bg (AF f):=(FH _).2 (Xg c)
theorem Afo(f:gO)(n:Nat):Ue f (n+1)=Ue f n++if(aK ((n:Int) < f.args)||(AF f).contains (n:Int))=aJ then [(n:Int)]else []:=by
 unfold Ue;rw[Ua,dF,dG,List.filter_nil]
theorem Yd(f:gO)(n:Nat):(Ue f n).length<=n:=by
 unfold Ue;have:=eG (λr=>decide (r < f.args)||(AF f).contains r) (NM n);rw[N7]at this;exact this
theorem Kg{p:Int->Bool}:∀{l:List Int} {k:Nat},(∀x∈l.take k,p x=aJ)->(k=l.length\/∃x,l[k]? =iU x/\p x=aH)->l.takeWhile p=l.take k
 | [],k,_,_=>by simp
 |x::l,0,_,h=>by
  rcases h with h|⟨y,c,d⟩
  ·simp at h
  ·simp only[dT,iV]at c;subst c;rw[List.takeWhile_cons_of_neg (by rw[d];simp),fR]
 |x::l,k+1,h1,h2=>by
  rw[fP,List.takeWhile_cons_of_pos (h1 x (by simp)),Kg (λy c=>h1 y (by rw[fP];exact eS _ c)) ?_];rcases h2 with h2|⟨y,c,d⟩
  ·exact .inl (by simpa using h2)
  ·exact .inr ⟨y,by simpa using c,d⟩
theorem Zv(f:gO)(O:okFunc f)(hs:smallF f)(U:(Nv f).length<=2097152):Fn bC 32 [.agg (Ak f)] (.bs tInt (regsB f)):=by
 have af:=Tw U;have G:=Aeb O;rw[<-G3];refine AQ Tryz.func32 V (by kernel_rfl) V Tryz.ntmps32 λC hC=>?_
 refine nS ?_;refine rCS ?_;refine Ab λK2 h2=>?_
 (refine gC ?_;(repeat(first|refine sQ ?_ (AT.call V (OM f O hs U) V V V)|refine sQ ?_ (Ax V V V V)|refine sQ ?_ (Av V V V V)|refine sQ ?_|refine AM ?_|refine sG (hq:=by(intro hg;(try simp only[Bool.and_eq_true,beq_iff_eq]at hg);(try simp only[hg,Bool.true_and,zaj]);exact AT.call V (OM f O hs U) V V V)) ?_|refine sG ?_|refine Bp ?_));refine Au ?_)
 refine h2 _ ?_;refine nT ?_;refine rCS ?_;refine Ab λK4 h4=>?_
 refine rCS ?_;refine Ac ?_;refine AB (λp:Nat×Nat=>⟨(.any::.ptr 0 0::.any::.bs tInt (AF f)::.own 1 p.2::.lit (.int .i64 (p.1:Int))::A40 (A20 [])),[.box (Ak f),.row p.2 3 tInt ((AF f).take p.1)]⟩) (λp=>p.1<=(AF f).length/\∀x∈(AF f).take p.1,aK (x < 0)=aJ) (λp=>(AF f).length - p.1) (0,0) ⟨iQ _,λx hx=>by cases hx⟩ ((Cz 4 3 tInt V (by decide)).trans (BU)) ?_;rintro⟨i,ver⟩ ⟨hi,g⟩
 (try dsimp only at hi);(try dsimp only at g);(try dsimp only)
 obtain⟨x,J⟩:∃x,(AF f).getD i 0=x:=⟨_,rfl⟩
 have A:aK ((i:Int) < ((AF f).length:Int))=aJ->(AF f)[i]? =iU x:=λh=>by
  have h:(i:Int) < ((AF f).length:Int):=of_decide_eq_true h;have m:i < (AF f).length:=by omega
  rw[<-J,dP,dV m];rfl
 refine Ab λK7 h7=>?_
 refine Ab λK8 h8=>?_
 (refine gC ?_;(repeat(first|refine sQ ?_ (Is V V V V (A hg))|refine sQ ?_ (Ax V V V V)|refine sQ ?_ (Av V V V V)|refine sQ ?_|refine AM ?_|refine sG (hq:=by(intro hg;(try simp only[Bool.and_eq_true,beq_iff_eq]at hg);(try simp only[hg,Bool.true_and,zaj]);exact Is V V V V (A hg))) ?_|refine sG ?_|refine Bp ?_));refine Au ?_)
 refine h8 _ ?_;refine nT ?_;refine Ag V (λd=>?_) (λd=>?_)
 ·have d:(aK ((i:Int) < ((AF f).length:Int))&&aK (x < 0))=aJ:=d;rw[aG]at d;have hx:=A d.1;have L:=d.2;have m:=(dX.1 hx).1;have ae:=G x (eX hx);have D:(AF f).take (i+1)=(AF f).take i++[x]:=by rw[fI,hx];rfl
  have N:((AF f).take i).length<=2097152:=by rw[eJ];omega
  generalize ai:(AF f).take i=T0 at D N g⊢;refine Al ?_;refine h7 _ ?_;refine nT ?_;refine Ab λaq ac=>?_
  refine Ac ?_;refine rC ?_;refine ac _ ?_;refine nT ?_;refine rC ?_;refine An ⟨(i+1,ver+1),⟨by dsimp only;omega,?_⟩,by dsimp only;omega,?_⟩
  ·try dsimp only
   rw[D];intro y hy;rcases eO.1 hy with hy|hy
   ·exact g y hy
   ·rw[fA.1 hy];exact L
  ·try dsimp only
   rw[D];exact BU
 ·have d:(aK ((i:Int) < ((AF f).length:Int))&&aK (x < 0))=aH:=d;have F:(AF f).takeWhile (λr=>decide (r < 0))=(AF f).take i:=by
   refine Kg g ?_;by_cases m:i < (AF f).length
   ·refine .inr ⟨x,A (decide_eq_true (by omega)),?_⟩;rw[decide_eq_true (by omega:(i:Int) < ((AF f).length:Int)),Bool.true_and]at d;exact d
   ·exact .inl (by omega)
  rw[<-F];have W:((AF f).takeWhile λr=>decide (r < 0)).length<=2097152:=by rw[F,eJ];omega
  generalize hT:(AF f).takeWhile (λr=>decide (r < 0))=TW at W⊢;refine Ay ?_;refine h4 _ ?_;refine nT ?_;refine Ab λap ab=>?_
  refine rCS ?_;refine Ac ?_;refine AB (λp:Nat×Nat=>⟨(.any::.ptr 0 0::.any::.bs tInt (AF f)::.own 1 p.2::.any::.lit (.int .i64 (p.1:Int))::A40 (A10 (A9 []))),[.box (Ak f),.row p.2 3 tInt (TW++Ue f p.1)]⟩) (λp=>p.1<=6) (λp=>6 - p.1) (0,ver) (iQ _) (by rw[show TW++Ue f (0,ver).1=TW by simp[Ue,NM]];exact BU) ?_;rintro⟨n,e⟩ hn
  (try dsimp only at hn);(try dsimp only)
  have ag:=LK (k:=n) (by omega);have ah:=Yd f n;have P:=Afo f n;refine Ab λao aa=>?_
  refine rCS ?_;refine Ag V (λz=>?_) (λz=>?_)
  ·have m:n < 6:=by have:(n:Int) < 6:=(by simpa using z);omega
   have E:(TW++Ue f n).length<=2097160:=by rw[eD];omega
   have c:TW++Ue f (n+1)=(TW++Ue f n)++if(aK ((n:Int) < f.args)||(AF f).contains (n:Int))=aJ then [(n:Int)]else []:=by rw[P,cX]
   generalize TW++Ue f n=R0 at E c⊢;refine Al ?_;refine aa _ ?_;refine nT ?_;refine Ab λan I=>?_
   refine Ac ?_;refine Ab λam Z=>?_
   (refine gC ?_;(repeat(first|refine sQ ?_ (AT.call V (WC (AF f) (n:Int) (by omega)) V V V)|refine sQ ?_ (Ax V V V V)|refine sQ ?_ (Av V V V V)|refine sQ ?_|refine AM ?_|refine sG (hq:=by(intro hg;(try simp only[Bool.and_eq_true,beq_iff_eq]at hg);(try simp only[hg,Bool.true_and,zaj]);exact AT.call V (WC (AF f) (n:Int) (by omega)) V V V)) ?_|refine sG ?_|refine Bp ?_));refine Au ?_)
   refine Z _ ?_;refine nT ?_;refine Ag V (λw=>?_) (λw=>?_)
   ·rw[if_pos w]at c;refine rC ?_;refine I _ ?_;refine nT ?_;refine rC ?_;refine An ⟨(n+1,e+1),by dsimp only;omega,by dsimp only;omega,?_⟩;try dsimp only
    rw[c];exact BU
   ·rw[if_neg (by rw[show(aK ((n:Int) < f.args)||(AF f).contains (n:Int))=aH from w];simp),cY]at c;refine Al ?_;refine I _ ?_;refine nT ?_;refine rC ?_;refine An ⟨(n+1,e),by dsimp only;omega,by dsimp only;omega,?_⟩;try dsimp only
    rw[c];exact BU
  ·have Q:n=6:=by have:¬(n:Int) < 6:=(by simpa using z);omega
   subst Q;have E:(TW++Ue f 6).length<=2097160:=by rw[eD];omega
   have s:Mt f=TW++Ue f 6++(AF f).filter (λr=>decide (r > 5)):=by unfold Mt;rw[hT]
   generalize TW++Ue f 6=R0 at E s⊢;refine Ay ?_;refine ab _ ?_;refine nT ?_;refine Ab λal Y=>?_
   refine rCS ?_;refine Ac ?_;refine AB (λp:Nat×Nat=>⟨(.any::.ptr 0 0::.any::.bs tInt (AF f)::.own 1 p.2::A2 (.lit (.int .i64 (p.1:Int))::A40 (A10 (A8 [])))),[.box (Ak f),.row p.2 3 tInt (R0++((AF f).take p.1).filter λr=>decide (r > 5))]⟩) (λp=>p.1<=(AF f).length) (λp=>(AF f).length - p.1) (0,e) (iQ _) (by rw[show(R0++((AF f).take (0,e).1).filter λr=>decide (r > 5))=R0 by simp];exact BU) ?_;rintro⟨k,B⟩ hk
   (try dsimp only at hk);(try dsimp only)
   refine Ab λak X=>?_
   refine rCS ?_;refine Ag V (λv=>?_) (λv=>?_)
   ·have m:k < (AF f).length:=by simpa using v
    obtain⟨y,hy⟩:∃y,(AF f)[k]? =iU y:=⟨_,dV m⟩
    have ad:=G y (eX hy);have T:(R0++((AF f).take k).filter λr=>decide (r > 5)).length<=4194320:=by
     have h1:=eG (λr:Int=>decide (r > 5)) ((AF f).take k);rw[eJ]at h1;rw[eD];omega
    have c:(R0++((AF f).take (k+1)).filter λr=>decide (r > 5))=(R0++((AF f).take k).filter λr=>decide (r > 5))++if aK (y > 5)=aJ then [y]else []:=by rw[DZ hy,cX]
    generalize (R0++((AF f).take k).filter λr=>decide (r > 5))=R1 at T c⊢;refine Al ?_;refine X _ ?_;refine nT ?_;refine Ab λaj H=>?_
    refine Ac ?_;refine rCS ?_;refine Ag V (λu=>?_) (λu=>?_)
    ·rw[if_pos u]at c;refine rC ?_;refine H _ ?_;refine nT ?_;refine rC ?_;refine An ⟨(k+1,B+1),by dsimp only;omega,by dsimp only;omega,?_⟩;try dsimp only
     rw[c];exact BU
    ·rw[if_neg (by rw[show aK (y > 5)=aH from u];simp),cY]at c;refine Al ?_;refine H _ ?_;refine nT ?_;refine rC ?_;refine An ⟨(k+1,B),by dsimp only;omega,by dsimp only;omega,?_⟩;try dsimp only
     rw[c];exact BU
   ·have S:k=(AF f).length:=by have:¬k < (AF f).length:=(by simpa using v);omega
    subst S;rw[fM];refine Ay ?_;refine Y _ ?_;refine nT ?_;refine rCS ?_;refine Aw ?_;rw[s];exact⟨.inr V,gK V⟩
def SV(x:Ins):Bool:=x.op ==5||x.op ==7
def D6(l:List Ins):Bool:=l.any SV
def leaf(bs:List gE):Bool:=!(bs.any λb=>D6 b.ins)
theorem Uf{l:List Ins}(c:l[j]? =iU y)(h:D6 (l.take j)=aH)(d:SV y=aH):Hid (D6 (l.take (j+1))=aH):=by
 show D6 _=_;unfold D6 at h⊢;rw[fI,c,cV,h];simp[d]
theorem R9{l:List Ins}(c:l[j]? =iU y)(d:SV y=aJ):D6 l=aJ:=by
 unfold D6;rw[cW];exact⟨y,eX c,d⟩
theorem Uj{x:gE}(hx:bs[q]? =iU x)(h:leaf (bs.take q)=aJ)(c:D6 x.ins=aH):Hid (leaf (bs.take (q+1))=aJ):=by
 show leaf _=_;unfold leaf at h⊢;rw[fI,hx,cV];simp only[aI]at h⊢;rw[h];simp[c]
theorem Wy{x:gE}(hx:bs[q]? =iU x)(c:D6 x.ins=aJ):leaf bs=aH:=by
 unfold leaf;simp only[Bool.not_eq_false',cW];exact⟨x,eX hx,c⟩
theorem Aju(fn:gO)(w:cA)(cs:List bY)(hR:Dc.R w w.heap.size cs fn)(hsm:Dc.bulk fn<=2097152):
 aL bC 14 #[.agg cs.toArray] w λe w'=>e= .returned (.bool (leaf fn.blocks))/\Below w.heap.size w w':=by
 obtain⟨A,c,rfl,_,_,_,hBR⟩:=Or.1 hR;have hbl:=GI fn;have HBR:=aP hBR;clear hR hBR
 go_enter Tryz.func14,Tryz.ntmps14
 go_wp2
 go_loopw [3] (λi wr=>∃q:Nat,q<=fn.blocks.length/\i= .int .i64 q/\Hid (leaf (fn.blocks.take q)=aJ)/\Below (w.heap.size+1) (w.alloc (.cells [.string fn.name,.int .i64 fn.args,.int .i64 fn.regs,.slice A fn.blocks.length c].toArray 24)) wr) (λi _=>fn.blocks.length - (bU i).toNat)
 case atStart=>exact⟨0,iQ _,rfl,rfl,bT _ _⟩
 case round=>
  obtain⟨q,hq,rfl,hno,hbe⟩:=hrel;obtain⟨hfar,hbox,_,_⟩:=U4 hbe;have hb3:=hbox 3 _ V;have HBE:=aP hbe;clear hbe hbox;by_cases hlt:q < fn.blocks.length
  ·obtain⟨x,hx⟩:∃x,fn.blocks[q]? =iU x:=⟨_,dV hlt⟩
   obtain⟨bb,bo,Ai,ci,rfl,hbb,_,hc1,_,hIR⟩:=YM HBR.out hx;have hil:=Jq x;have hxb:=Fw (eX hx);have HX:=aP hx;have HIR:=aP hIR;clear hx hIR
   go_wp2
   obtain⟨wo,rfl⟩:∃wo:cA,wo=wr:=⟨_,rfl⟩
   clear hfar hb3
   go_loopw [4] (λi wr=>∃j:Nat,j<=x.ins.length/\i= .int .i64 j/\Hid (D6 (x.ins.take j)=aH)/\Below (w.heap.size+1) (w.alloc (.cells [.string fn.name,.int .i64 fn.args,.int .i64 fn.regs,.slice (iU ⟨bb,bo,iT⟩) fn.blocks.length c].toArray 24)) wr) (λi _=>x.ins.length - (bU i).toNat)
   case atStart=>exact⟨0,iQ _,rfl,rfl,HBE.out⟩
   case round=>
    obtain⟨j,hj,rfl,hno2,hbe⟩:=hrel;obtain⟨hfar,hbox,hlt0,_⟩:=U4 hbe;have hb3:=hbox 3 _ V;have HBE2:=aP hbe;clear hbe hbox;by_cases hlt2:j < x.ins.length
    ·obtain⟨y,hy⟩:∃y,x.ins[j]? =iU y:=⟨_,dV hlt2⟩
     obtain⟨ib,io,Aa,ca,rfl,hib,e0,_⟩:=Af5 (HIR.out) hy;have HY:=aP hy;clear hy;by_cases h5:y.op=5
     ·have d5:(y.op ==5)=aJ:=by simp[h5]
      have HL:Hid (SV y=aJ):=by simp[Hid,SV,h5]
      clear h5
      go_wp2
      go_ret
      exact⟨DA (Wy HX.out (R9 HY.out HL.out)).symm,(U4 HBE2.out).2.2.2⟩
     ·have d5:(y.op ==5)=aH:=by simp[h5]
      by_cases h7:y.op=7
      ·have d7:(y.op ==7)=aJ:=by simp[h7]
       have HL:Hid (SV y=aJ):=by simp[Hid,SV,h7]
       clear h5 h7
       go_wp2
       go_ret
       exact⟨DA (Wy HX.out (R9 HY.out HL.out)).symm,(U4 HBE2.out).2.2.2⟩
      ·have d7:(y.op ==7)=aH:=by simp[h7]
       have HL:Hid (SV y=aH):=by simp[Hid,SV,h5,h7]
       clear h5 h7
       go_wp2
       go_roundw
       case rel=>exact⟨j+1,by omega,by go_num,Uf HY.out hno2.out HL.out,HBE2.out⟩
       case measure=>simp[bU];omega
    ·obtain rfl:j=x.ins.length:=by omega
     go_wp2
     go_roundw
     case rel=>exact⟨q+1,by omega,by go_num,Uj HX.out hno.out (by have:=hno2.out;rwa [fM]at this),HBE2.out⟩
     case measure=>simp[bU];omega
  ·obtain rfl:q=fn.blocks.length:=by omega
   go_wp2
   go_ret
   have hno':=hno.out;rw[fM]at hno';exact⟨DA hno'.symm,(U4 HBE.out).2.2.2⟩
theorem Ui(y:Ins)(w:cA)(cs:List bY)(hR:Ei.R w w.heap.size cs y):
 aL bC 47 #[.agg cs.toArray] w λe w'=>e= .returned (.bool (SV y))/\Below w.heap.size w w':=by
 obtain⟨A,c,hI⟩:=IL.1 hR;obtain rfl:=hI.cs;clear hR hI;have hB:Hid (Below w.heap.size w (w.alloc (.cells [.int .u8 y.op,.int .i64 y.d,.int .i64 y.a,.int .i64 y.b,.int .u32 y.n,.int .i64 y.f,.slice A y.args.length c,.int .i64 y.l1,.int .i64 y.l2].toArray 47))):=(bT _ _).alloc (iI _) _;by_cases h5:y.op=5
 ·have d5:(y.op ==5)=aJ:=by simp[h5]
  have HL:Hid (SV y=aJ):=by simp[Hid,SV,h5]
  clear h5
  go_enter aX,bB
  go_wp2
  go_ret
  exact⟨DA HL.out.symm,hB.out⟩
 ·have d5:(y.op ==5)=aH:=by simp[h5]
  by_cases h7:y.op=7
  ·have d7:(y.op ==7)=aJ:=by simp[h7]
   have HL:Hid (SV y=aJ):=by simp[Hid,SV,h7]
   clear h5 h7
   go_enter aX,bB
   go_wp2
   go_ret
   exact⟨DA HL.out.symm,hB.out⟩
  ·have d7:(y.op ==7)=aH:=by simp[h7]
   have HL:Hid (SV y=aH):=by simp[Hid,SV,h5,h7]
   clear h5 h7
   go_enter aX,bB
   go_wp2
   go_ret
   exact⟨DA HL.out.symm,hB.out⟩
def Arm(w:cA)(b:Bool)(e:Ending)(w':cA):Prop:=∃z:Int,e= .returned (.int .i64 z)/\aK (0<=z)=b/\Below w.heap.size w w'
theorem Z1(l:List Ins)(va:bY)(w:cA)(hR:Ei.slice.R w w.heap.size [va] l)(hl:l.length<=2097152):
 aL bC 81 #[va,.func (.func 47) #[] #[]] w (Arm w (D6 l)):=by
 obtain⟨A,c,rfl⟩:=Ci hR;have HR:=aP hR;clear hR
 go_enter Tryz.func81,Tryz.ntmps81
 go_wp2_with fail
 go_loopw [8] (λi wr=>∃j:Nat,j<=l.length/\i= .int .i64 j/\Hid (D6 (l.take j)=aH)/\Below w.heap.size w wr) (λi _=>l.length - (bU i).toNat)
 case atStart=>exact⟨0,iQ _,rfl,rfl,bT _ _⟩
 case round=>
  obtain⟨j,hj,rfl,hno,hbe⟩:=hrel;have hfar:=far hbe;have HBE:=aP hbe;clear hbe;by_cases hlt:j < l.length
  ·obtain⟨y,hy⟩:∃y,l[j]? =iU y:=⟨_,dV hlt⟩
   obtain⟨ib,io,Aa,ca,rfl,hib,e0,e1,e2,e3,e4,e5,e6,e7,e8,hraw⟩:=Af5 (HR.out) hy;have hRw:Ei.R wr wr.heap.size [.int .u8 y.op,.int .i64 y.d,.int .i64 y.a,.int .i64 y.b,.int .u32 y.n,.int .i64 y.f,.slice Aa y.args.length ca,.int .i64 y.l1,.int .i64 y.l2] y:=
    iD (IL.2 ⟨_,_,hraw⟩) HBE.out HBE.out.size
   have HY:=aP hy;have HRW:=aP hRw;clear hy hraw hRw;by_cases hL:SV y=aJ
   ·have HL:=aP hL;clear hL
    go_wp2_with fail
    refine(Ui y _ _ HRW.out).mono ?_;rintro e w1 ⟨rfl,hb1⟩;rw[HL.out];have HB1:=aP hb1;clear hb1
    go_wp2_with fail
    go_ret
    exact⟨_,rfl,by rw[R9 HY.out HL.out];simp,HBE.out.trans (HB1.out.mono HBE.out.size)⟩
   ·have hL':SV y=aH:=by simpa using hL
    have HL:=aP hL';clear hL hL'
    go_wp2_with fail
    refine(Ui y _ _ HRW.out).mono ?_;rintro e w1 ⟨rfl,hb1⟩;rw[HL.out];have HB1:=aP hb1;clear hb1
    go_wp2_with fail
    go_roundw
    case rel=>exact⟨j+1,by omega,by go_num,Uf HY.out hno.out HL.out,HBE.out.trans (HB1.out.mono HBE.out.size)⟩
    case measure=>simp[bU];omega
  ·obtain rfl:j=l.length:=by omega
   go_wp2_with fail
   go_ret
   have hno':=hno.out;rw[fM]at hno';exact⟨_,rfl,by rw[hno'];simp,HBE.out⟩
theorem Ni(l:List Ins)(va:bY)(w:cA)(hR:Ei.slice.R w w.heap.size [va] l)(hl:l.length<=2097152):
 aL bC 46 #[va,.func (.func 47) #[] #[]] w λe w'=>e= .returned (.bool (D6 l))/\Below w.heap.size w w':=by
 have HR:=aP hR;clear hR
 go_enter Tryz.func46,Tryz.ntmps46
 go_wp2_with fail
 refine(Z1 l va _ HR.out hl).mono ?_;rintro e w1 ⟨z,rfl,hz,hb1⟩;have HZ:=aP hz;have HB1:=aP hb1;clear hz hb1
 go_wp2_with fail
 go_ret
 exact⟨DA HZ.out,HB1.out⟩
theorem Akt(fn:gO)(w:cA)(cs:List bY)(hR:Dc.R w w.heap.size cs fn)(hsm:Dc.bulk fn<=2097152):
 aL bC 24 #[.agg cs.toArray] w λe w'=>e= .returned (.bool (leaf fn.blocks))/\Below w.heap.size w w':=by
 obtain⟨A,c,rfl,_,_,_,hBR⟩:=Or.1 hR;have hbl:=GI fn;have HBR:=aP hBR;clear hR hBR
 go_enter Tryz.func24,Tryz.ntmps24
 go_wp2_with fail
 go_loopw [8] (λi wr=>∃q:Nat,q<=fn.blocks.length/\i= .int .i64 q/\Hid (leaf (fn.blocks.take q)=aJ)/\Below w.heap.size w wr) (λi _=>fn.blocks.length - (bU i).toNat)
 case atStart=>exact⟨0,iQ _,rfl,rfl,(bT _ _).alloc (iI _) _⟩
 case round=>
  obtain⟨q,hq,rfl,hno,hbe⟩:=hrel;have hfar:=far hbe;have HBE:=aP hbe;clear hbe;by_cases hlt:q < fn.blocks.length
  ·obtain⟨x,hx⟩:∃x,fn.blocks[q]? =iU x:=⟨_,dV hlt⟩
   obtain⟨bb,bo,Ai,ci,rfl,hbb,hc0,hc1,_,hIR⟩:=YM HBR.out hx;have hil:=Jq x;have hxb:=Fw (eX hx);have HX:=aP hx;have HIR:=aP hIR;clear hx hIR;have hal:∀o,Hid (Below w.heap.size w (wr.alloc o)):=λo=>HBE.out.alloc HBE.out.size o
   by_cases hL:D6 x.ins=aJ
   ·have HL:=aP hL;have HAL:=aP hal;clear hL hal
    go_wp2_with fail
    refine(Ni x.ins _ _ (iD HIR.out (HAL.out _).out (HAL.out _).out.size) (by omega)).mono ?_;rintro e w1 ⟨rfl,hb1⟩;rw[HL.out];have HB1:=aP hb1;clear hb1
    go_wp2_with fail
    go_ret
    exact⟨DA (Wy HX.out HL.out).symm,(HAL.out _).out.trans (HB1.out.mono (HAL.out _).out.size)⟩
   ·have hL':D6 x.ins=aH:=by simpa using hL
    have HL:=aP hL';have HAL:=aP hal;clear hL hL' hal
    go_wp2_with fail
    refine(Ni x.ins _ _ (iD HIR.out (HAL.out _).out (HAL.out _).out.size) (by omega)).mono ?_;rintro e w1 ⟨rfl,hb1⟩;rw[HL.out];have HB1:=aP hb1;clear hb1
    go_wp2_with fail
    go_roundw
    case rel=>exact⟨q+1,by omega,by go_num,Uj HX.out hno.out HL.out,(HAL.out _).out.trans (HB1.out.mono (HAL.out _).out.size)⟩
    case measure=>simp[bU];omega
  ·obtain rfl:q=fn.blocks.length:=by omega
   go_wp2_with fail
   go_ret
   have hno':=hno.out;rw[fM]at hno';exact⟨DA hno'.symm,HBE.out⟩
def I6(l:List Int)(n:Int):Int->M (Int⊕((Unit)⊕(Bool))):=λc=>gR (aK (c < (l.length:Int))) (gQ (Cm l c) (gR ((ixD l c) ==n) (gU (.inr (.inr aJ))) (gU (.inl (aN.wrap (c+1)))))) (gU (.inr (.inl ())))
def OP(l:List Int)(n:Int):M Bool:=M.els (gT (I6 l n) 0) λ_=>gU aH
theorem RN(H:(OP l n).to r):Fn bC 69 [.bs tInt l,.lit (.int .i64 n)] (.lit (.bool r)):=by
 delta OP at H;try dsimp only at H
 refine AQ Tryz.func69 V (by kernel_rfl) V Tryz.ntmps69 λC I=>?_
 simp only[Nat.reduceAdd,Nat.reduceSub,zaa];refine wS (sT (wN ?_));obtain⟨B,v,u,s⟩:=CH H;refine Bn (β:=(Unit)×(Unit)) (λw=>B= .inl w.1) (λw=>⟨A10 (A8 []),[]⟩) ?_ ?_
 ·refine wS (sT (wN ?_));refine Ac ?_;refine BB v (λD J=>⟨.bs tInt l::.lit (.int .i64 n)::A3 (.lit (.int .i64 D)::A10 (A2 [])),[]⟩) () (?_) ?_
  ·try dsimp only
   exact AS
  ·rintro G _ F H g;try dsimp only
   dsimp only[I6]at H;refine Ab λA k=>?_
   refine wS (sT (sT (sT (sT (wN ?_)))));refine Ag V (λd=>?_) (λd=>?_)
   ·have H:=AN d H;refine Al ?_;refine k _ ?_;refine nT ?_;refine Ab λz i=>?_
    refine Ac ?_;obtain⟨E,H⟩:=Ah.1 H;refine wS (sT (sT (sX E (sT (sT (sT (wN ?_)))))));refine Ag V (λc=>?_) (λc=>?_)
    ·have H:=AN c H;refine wS (sT (wN ?_));have H:=Ad.2 (s _ (g _ (Ad.1 H).symm).symm);obtain rfl:=Ad.1 H;exact Aw ⟨.inr V,gJ V⟩
    ·have H:=AO c H;refine Al ?_;refine i _ ?_;refine nT ?_;refine wSE (sT (sT (sT (wN ?_))));have m:=Ad.1 H;repeat(first|refine abN ?_|refine asN ?_)
     refine An ⟨_,(),m.symm,?_⟩;try dsimp only
     exact AS
   ·have H:=AO d H;refine Ay ?_;repeat(first|refine BG ?_|refine exO (by decide) ?_|refine asE ?_)
    refine exN ?_;have m:=g _ (Ad.1 H).symm;repeat(first|refine abN ?_|refine asN ?_)
    refine An ⟨(_,()),m.symm,?_⟩;try dsimp only
    exact AS
 ·rintro⟨_,_⟩ e;try dsimp only at e
  have H:=u _ e;try dsimp only
  refine wS (sT (wN ?_));obtain rfl:=Ad.1 H;exact Aw ⟨.inr V,gJ V⟩
def FW(f:gO)(all:List (List (List Int)))(a:Int)(b:Int)(d:Int):Int->M (Int⊕((Unit)⊕((Int)⊕((Unit)⊕(Bool))))):=λe=>gQ (Cm f.blocks d) (gR (aK (e < (((ixD f.blocks d).ins).length:Int))) (gQ (Cm f.blocks d) (gQ (Cm ((ixD f.blocks d).ins) e) (gP (Mx (ixD ((ixD f.blocks d).ins) e)) λc=>gQ (!(c.2&&(c.1 ==a))||(Cm all d)) (gQ (!(c.2&&(c.1 ==a))||(Cm (ixD all d) (aN.wrap (e+1)))) (gP (gW (c.2&&(c.1 ==a)) aH (OP (ixD (ixD all d) (aN.wrap (e+1))) b)) λg=>gR (((c.2&&(c.1 ==a))&&g)&&(!((((ixD ((ixD f.blocks d).ins) e).op) ==2)&&(((ixD ((ixD f.blocks d).ins) e).a) ==b)))) (gU (.inr (.inr (.inr (.inr aJ))))) (gU (.inl (aN.wrap (e+1))))))))) (gU (.inr (.inl ()))))
def G4(f:gO)(all:List (List (List Int)))(a:Int)(b:Int):Int->M (Int⊕((Unit)⊕(Bool))):=λc=>gR (aK (c < (f.blocks.length:Int))) (M.els (gT (FW f all a b c) 0) λ_=>gU (.inl (aN.wrap (c+1)))) (gU (.inr (.inl ())))
def Mw(f:gO)(all:List (List (List Int)))(a:Int)(b:Int):M Bool:=M.els (gT (G4 f all a b) 0) λ_=>gU aH
theorem TD(H:(Mw f all a b).to r):Fn bC 68 [.agg (Ak f),.bs tInt.slice.slice all,.lit (.int .i64 a),.lit (.int .i64 b)] (.lit (.bool r)):=by
 delta Mw at H;try dsimp only at H
 refine AQ Tryz.func68 V (by kernel_rfl) V Tryz.ntmps68 λC hC=>?_
 simp only[Nat.reduceAdd,Nat.reduceSub,zaa];refine wS (sB (sT (wN ?_)));obtain⟨z2,Y,W,T⟩:=CH H;refine Bn (β:=(Unit)×(Unit)) (λq2=>z2= .inl q2.1) (λq2=>⟨A40 (A20 (A10 (A6 []))),[.dead]⟩) ?_ ?_
 ·refine wS (sT (wN ?_));refine Ac ?_;refine BB Y (λs2 b2=>⟨.any::.bs tInt.slice.slice all::.lit (.int .i64 a)::.lit (.int .i64 b)::.ptr 0 0::A4 (.lit (.int .i64 s2)::A40 (A20 (A6 []))),[.box (Ak f)]⟩) () (?_) ?_
  ·try dsimp only
   exact AS
  ·rintro u _ x2 H B;try dsimp only
   dsimp only[G4]at H;refine Ab λab G=>?_
   refine wS (sT (sT (sT (sT (sT (wN ?_))))));refine Ag V (λs=>?_) (λs=>?_)
   ·have H:=AN s H;refine Al ?_;refine G _ ?_;refine nT ?_;obtain⟨z6,X,U,S⟩:=CH H;refine Bn (β:=(Unit)×(Unit)) (λZ=>z6= .inl Z.1) (λZ=>⟨.any::.bs tInt.slice.slice all::.lit (.int .i64 a)::.lit (.int .i64 b)::.ptr 0 0::A4 (.lit (.int .i64 u)::A40 (A20 (A6 []))),[.box (Ak f)]⟩) ?_ ?_
    ·refine Ac ?_;refine wS (sT (wN ?_));refine Ac ?_;refine BB X (λs6 b6=>⟨.any::.bs tInt.slice.slice all::.lit (.int .i64 a)::.lit (.int .i64 b)::.ptr 0 0::A4 (.lit (.int .i64 u)::.lit (.int .i64 s6)::A40 (A20 (A5 []))),[.box (Ak f)]⟩) () (?_) ?_
     ·try dsimp only
      exact AS
     ·rintro D _ x6 H A;try dsimp only
      dsimp only[FW]at H;refine Ab λaa F=>?_
      obtain⟨c8,H⟩:=Ah.1 H;refine wS (sT (sT (sT (sT (sX c8 (sT (sT (sT (sT (wN ?_))))))))));refine Ag V (λm=>?_) (λm=>?_)
      ·have H:=AN m H;refine Al ?_;refine F _ ?_;refine nT ?_;refine Ab λQ z=>?_
       refine Ac ?_;obtain⟨P,H⟩:=Ah.1 H;obtain⟨O,H⟩:=Ah.1 H;refine wS (sT (sT (sT (sX P (sT (sT (sT (sX O (sT (sA0 ?_))))))))));refine sW ?_;refine wN ?_;obtain⟨c,i,H⟩:=Aq.1 H;have i:=TF i;refine wS (sT (sC i (sT (sT (sT (sT (sT (wN ?_))))))));obtain⟨N,H⟩:=Ah.1 H;obtain⟨L,H⟩:=Ah.1 H;obtain⟨d,E,H⟩:=Aq.1 H;refine wS (sT (sT ?_));refine sGt V ?_;refine sGt V ?_;refine sGt V (sT (sT ?_));refine sGt V ?_;refine sGt V ?_;refine Aor V N ?_;refine sGt V ?_;refine sGt V ?_;refine sGt V ?_;refine Aor V L ?_;refine sGt V ?_;refine sGt V ?_;refine sG (g:=(c.2&&(c.1 ==a))) (hg:=Pm V) (hq:=λhg=>by((try simp only[BJ hg]);(try simp only[Qv hg]);exact AH V V (RN (gV E hg)) V V)) (ht:=(Ar (Ap (Ap (Ap HT))))) ?_;refine sT (sT ?_);refine sGt V ?_;refine sGt V ?_;refine sGt V ?_;refine sGt V ?_;refine sG (g:=(((c.2&&(c.1 ==a))&&d)&&(((ixD ((ixD f.blocks u).ins) D).op) ==2))) (hg:=LZ V V) (hq:=λhg=>by(have k:=Hn hg;exact Br V (Ao FF) V)) (ht:=(Ar (Ar GY))) (hk:=?_);refine sG (g:=(((c.2&&(c.1 ==a))&&d)&&(((ixD ((ixD f.blocks u).ins) D).op) ==2))) (hg:=LZ V V) (hq:=λhg=>by(have k:=Hn hg;exact Bf V ((As (As Fq)).trans (BJ hg _ _)) V V)) (ht:=(Ar (Ar HT))) (hk:=?_);refine sG (g:=(((c.2&&(c.1 ==a))&&d)&&(((ixD ((ixD f.blocks u).ins) D).op) ==2))) (hg:=LZ V V) (hq:=λhg=>by(have k:=Hn hg;exact AT.move V FF)) (ht:=(Ar (Ar Hy))) (hk:=?_);refine sG (g:=(((c.2&&(c.1 ==a))&&d)&&(((ixD ((ixD f.blocks u).ins) D).op) ==2))) (hg:=LZ V V) (hq:=λhg=>by(have k:=Hn hg;exact CQ V ((As (As Iy)).trans (BJ hg _ _)) ((As (As Hd)).trans (BJ hg _ _)) V)) (ht:=(Ar (Ar (Ap HU)))) (hk:=?_);refine sG (g:=((c.2&&(c.1 ==a))&&d)) (hg:=Pm V) (hq:=λhg=>DV V ((As (As GO)).trans (BJ hg _ _)) ((As (As (Ao IG))).trans (Qv hg _ _)) Acf) (ht:=(Ar (Ar (Ap JH)))) ?_;refine sGt V (sT (wN ?_));refine Ag V (λe=>?_) (λe=>?_)
       ·have H:=AN e H;refine wS (sT (wN ?_));have H:=Ad.2 (S _ (A _ (Ad.1 H).symm).symm);have H:=Ad.2 (T _ (B _ (Ad.1 H).symm).symm);obtain rfl:=Ad.1 H;exact Aw ⟨.inr V,gJ V⟩
       ·have H:=AO e H;refine Al ?_;refine z _ ?_;refine nT ?_;refine wSE (sT (sT (sT (wN ?_))));have I:=Ad.1 H;repeat(first|refine abN ?_|refine asN ?_)
        refine An ⟨_,(),I.symm,?_⟩;try dsimp only
        exact leC (gG (gI _))
      ·have H:=AO m H;refine Ay ?_;repeat(first|refine BG ?_|refine exO (by decide) ?_|refine asE ?_)
       refine exN ?_;have I:=A _ (Ad.1 H).symm;repeat(first|refine abN ?_|refine asN ?_)
       refine An ⟨(_,()),I.symm,?_⟩;try dsimp only
       exact AS
    ·rintro⟨_,_⟩ v;try dsimp only at v
     have H:=U _ v;try dsimp only
     refine wSE (sT (sT (sT (wN ?_))));have J:=Ad.1 H;repeat(first|refine abN ?_|refine asN ?_)
     refine An ⟨_,(),J.symm,?_⟩;try dsimp only
     exact AS
   ·have H:=AO s H;refine Ay ?_;repeat(first|refine BG ?_|refine exO (by decide) ?_|refine asE ?_)
    refine exN ?_;have J:=B _ (Ad.1 H).symm;repeat(first|refine abN ?_|refine asN ?_)
    refine An ⟨(_,()),J.symm,?_⟩;try dsimp only
    exact leC (gH (gI _))
 ·rintro⟨_,_⟩ w;try dsimp only at w
  have H:=W _ w;try dsimp only
  refine wS (sT (wN ?_));obtain rfl:=Ad.1 H;exact Aw ⟨.inr V,gJ V⟩
def Lt(f:gO)(all:List (List (List Int)))(a:Int)(b:Int):M Bool:=gR (a ==b) (gU aH) (gP (Mw f all a b) λe=>gP (gW (!e) aH (Mw f all b a)) λr5=>gR (e||r5) (gU aJ) (gQ (!(aK ((all.length:Int) > 0))||(Cm all 0)) (gQ (!(aK ((all.length:Int) > 0))||(Cm (ixD all 0) 0)) (gP (gW (aK ((all.length:Int) > 0)) aH (OP (ixD (ixD all 0) 0) a)) λc=>gQ (!((aK ((all.length:Int) > 0))&&c)||(Cm all 0)) (gQ (!((aK ((all.length:Int) > 0))&&c)||(Cm (ixD all 0) 0)) (gP (gW ((aK ((all.length:Int) > 0))&&c) aH (OP (ixD (ixD all 0) 0) b)) λd=>gU (((aK ((all.length:Int) > 0))&&c)&&d)))))))
theorem ZA(H:(Lt f all a b).to r):Fn bC 34 [.agg (Ak f),.bs tInt.slice.slice all,.lit (.int .i64 a),.lit (.int .i64 b)] (.lit (.bool r)):=by
 delta Lt at H;try dsimp only at H
 refine AQ Tryz.func34 V (by kernel_rfl) V Tryz.ntmps34 λC J=>?_
 simp only[Nat.reduceAdd,Nat.reduceSub,zaa];refine wS (sB (sT (wN ?_)));refine Ab λz m=>?_
 refine wS (sT (sT (sT (wN ?_))));refine Ag V (λd=>?_) (λd=>?_)
 ·have H:=AN d H;refine wS (sT (wN ?_));obtain rfl:=Ad.1 H;exact Aw ⟨.inr V,gJ V⟩
 ·have H:=AO d H;refine Al ?_;refine m _ ?_;refine nT ?_;refine Ab λw k=>?_
  obtain⟨v,e,H⟩:=Aq.1 H;have e:=TD e;obtain⟨I,E,H⟩:=Aq.1 H;refine wS (sT (sT (sT (sT (sC e (sT ?_))))));refine sG (g:=(!v)) (hg:=Ak8 V) (hq:=λhg=>AR V GO V V) (ht:=(Ap (Ap Mk))) ?_;refine sGf V ?_;refine sGf V ?_;refine sGf V ?_;refine sG (g:=(!v)) (hg:=Ak8 V) (hq:=λhg=>by((try simp only[BJ hg]);(try simp only[Qv hg]);exact AH V V (TD (gV E hg)) V V)) (ht:=(Ap (Ap HT))) ?_;refine sT (wN ?_);refine Ag V (λc=>?_) (λc=>?_)
  ·have H:=AN c H;refine wS (sT (wN ?_));obtain rfl:=Ad.1 H;exact Aw ⟨.inr V,gJ V⟩
  ·have H:=AO c H;refine Al ?_;refine k _ ?_;refine nT ?_;obtain⟨G,H⟩:=Ah.1 H;obtain⟨F,H⟩:=Ah.1 H;obtain⟨A,D,H⟩:=Aq.1 H;obtain⟨u,H⟩:=Ah.1 H;obtain⟨s,H⟩:=Ah.1 H;obtain⟨B,i,H⟩:=Aq.1 H;refine wS (sT (sT (sT (sT ?_))));refine sGt V ?_;refine Aor V G ?_;refine sGt V ?_;refine Aor V F ?_;refine sGt V ?_;refine sGt V ?_;refine sG (g:=(aK ((all.length:Int) > 0))) (hg:=Pm V) (hq:=λhg=>by((try simp only[BJ hg]);(try simp only[Qv hg]);exact AH V V (RN (gV D hg)) V V)) (ht:=(Ar Mk)) ?_;refine sT (sT ?_);refine sGt V ?_;refine Aor V u ?_;refine sGt V ?_;refine Aor V s ?_;refine sGt V ?_;refine sGt V ?_;refine sG (g:=((aK ((all.length:Int) > 0))&&A)) (hg:=Pm V) (hq:=λhg=>by((try simp only[BJ hg]);(try simp only[Qv hg]);exact AH V V (RN (gV i hg)) V V)) (ht:=(Ar (Ap JG))) ?_;refine sT (sT (wN ?_));obtain rfl:=Ad.1 H;exact Aw ⟨.inr V,gJ V⟩
noncomputable section
def Abc(f:gO):M Bool:=gQ (MQ f&&aK (Dc.bulk f<=2097152)) (gU (leaf f.blocks))
theorem Ns(H:(Abc f).to r):Fn bC 24 [.agg (Ak f)] (.lit (.bool r)):=by
 obtain⟨c,H⟩:=Ah.1 H;obtain rfl:=Ad.1 H;rw[aG]at c;have g:=BM.1 c.1;exact JB (by kernel_rfl) λw vs e=>by
  obtain⟨v,rfl,d⟩:=Ach e;obtain⟨cs,rfl,hc⟩:=IZ d;exact Akt f w cs (RQ g.ok hc) (of_decide_eq_true c.2)
def RM(f:gO):M Bool:=gQ (MQ f&&aK (Dc.bulk f<=2097152)) (gU (leaf f.blocks))
theorem Zz(H:(RM f).to r):Fn bC 14 [.agg (Ak f)] (.lit (.bool r)):=by
 obtain⟨c,H⟩:=Ah.1 H;obtain rfl:=Ad.1 H;rw[aG]at c;have g:=BM.1 c.1;exact JB (by kernel_rfl) λw vs e=>by
  obtain⟨v,rfl,d⟩:=Ach e;obtain⟨cs,rfl,hc⟩:=IZ d;exact Aju f w cs (RQ g.ok hc) (of_decide_eq_true c.2)
def NZ(f:gO):M (List Int):=gQ (MQ f) (gU (regsB f))
theorem QR{r:List Int}(H:(NZ f).to r):Fn bC 32 [.agg (Ak f)] (.bs tInt r):=by
 obtain⟨c,H⟩:=Ah.1 H;obtain rfl:=Ad.1 H;have c:=BM.1 c;exact Zv f c.ok c.small c.all
def QS(f:gO)(n:Int)(leaf:Bool):M (List Int):=gQ (MQ f) (gU (BA (B5 f) n leaf))
theorem TC{leaf:Bool}{r:List Int}(H:(QS f n leaf).to r):Fn bC 70 [.agg (Ak f),.lit (.int .i64 n),.lit (.bool leaf)] (.bs tInt r):=by
 obtain⟨c,H⟩:=Ah.1 H;obtain rfl:=Ad.1 H;have c:=BM.1 c;exact TN f n leaf c.ok c.small c.reads c.ins
def Kz(x:Ins):M (List Int):=gQ (E5 x&&aK (x.args.length<=2097152)) (gU (readsC x))
def IV(x:Ins):M (Int×Bool):=gQ (E5 x) (gU (if Bd x then x.d else 0,Bd x))
theorem Qh{r:Int×Bool}(H:(IV x).to r):Fn bC 61 [.agg (BV x)] (.tup [.lit (.int .i64 r.1),.lit (.bool r.2)]):=by
 obtain⟨c,H⟩:=Ah.1 H;obtain rfl:=Ad.1 H;exact FR x (DC.1 c)
def Ax8:List Int->Bool
 | []=>aJ
 |x::l=>l.all (λy=>decide (x < y))&&Ax8 l
theorem SA:∀{l:List Int},Ax8 l=aJ↔Asc l
 | []=>by simp[Ax8,Asc]
 |x::l=>by
  unfold Ax8;rw[aG,SA,cU];unfold Asc;rw[List.pairwise_cons];simp
def CY(l:List Int)(n:Int):M (Int×Bool):=gQ (Ax8 l&&aK (l.length<=2147483648)) (gU (((l.countP (· < n):Nat):Int),l.contains n))
theorem E2{r:Int×Bool}(H:(CY l n).to r):Fn bC 38 [.bs tInt l,.lit (.int .i64 n)] (.tup [.lit (.int .i64 r.1),.lit (.bool r.2)]):=by
 obtain⟨c,H⟩:=Ah.1 H;obtain rfl:=Ad.1 H;rw[aG]at c;exact OD l n (SA.1 c.1) (of_decide_eq_true c.2)
end
end Mu
section
namespace Go.Proofs
open Go.Shelf
def Tryz.lays112_ren:Go.Shelf.Ren:=⟨fun|112=>192|n=>n,fun|28=>27|3=>3|0=>0|4=>4|n=>n,fun|n=>n⟩
theorem Tryz.lays112:Go.Proofs.Lays.n112 bC Tryz.lays112_ren:={
 mixed:=by kernel_rfl
 f112:=aW.trans (congrArg iU (by kernel_rfl))
 t0:=bI
 a0:=aZ
 z0:=bD
 v0:=bO
 t3:=bK
 a3:=a7
 z3:=bF
 v3:=bR
 t4:=bL
 a4:=a8
 z4:=bG
 v4:=bS
 t28:=bJ
 a28:=a6
 z28:=bE
 v28:=bP}
end Go.Proofs
end
namespace Mu
open Go Go.RowKit Go.Proofs
variable{S:Nat->Prop}{α:Type}{T:Ty α}{β:Type}{T2:Ty β}{b:Int}{cs:List bY}{cur:List Int}{α0:Type}{d:α0}{e:bX}{enc:α0->List AV}{f:gO}{i j k k0:Nat}{l:List Int}{l2:List β}{off:Nat}{p:Int->Bool}{r:List Int}{ty:bX}{ver:Nat}{w:cA}{x:aS}
section
variable{P:aT}{C:Ctx}{t:List AV}{h:List fT}{o:aR}
theorem Hq{l:List α}(s:o.op= .nilCheck x)(hx:evA t x= .rp i ver k off)(hi:h[i]? =iU (.row ver e T l)):AT P C t h o (.rp i ver k off):=
 AL λS ψ w ρ _ m=>by
  have h1:=m x (by simp[s,Op.operands]);rw[hx]at h1;have h2:=h1;unfold gB at h1;obtain⟨g,n,c,_,u⟩:=(h1.2 _ (by rw[hi];rfl)).2 V;rw[u]at h2;exact⟨.pointer (iU ⟨g,k * Fo h[i]?+off,iT⟩),by simp[cG,s,u],h2⟩
theorem Ah9.bs{T:Ty α0}[EncOf T enc]{m:α0}(A:off+1<=T.size)(B:(enc d).take off++[.bs T2 l2]++(enc d).drop (off+1)=enc m)
 (c:∀(w:cA) (S:Nat->Prop) (cs:List bY),Ae w S [] ψ0 (enc m) cs->T.RS w S cs m):Ah9 h T d off (.bs T2 l2) 1 m:=λC S ψ w v cs H s z=>by
 have h1:v.oneCell'=aJ:=One.bs (h:=h) (T:=T2) (l:=l2) C S ψ w v H s;have u:v.cells.toList= [v]:=by rw[Hl h1]
 refine⟨by rw[u];rfl,A,λx hx=>by rw[u]at hx;rw[fA.1 hx];exact h1,c w S _ ?_⟩;have g:Ae w S [] ψ0 (enc d) cs:=EncOf.ok (T:=T) (enc:=enc) w S [] ψ0 cs d z;rw[<-B,u];refine BK (BK (Ln g off) ?_) (Lo g (off+1));unfold Ae;refine⟨v,[],rfl,by unfold gB at s⊢;exact s,?_⟩;unfold Ae;rfl
theorem Ab5{T:Ty α0}[EncOf T enc]{y:aS}{l:List α0}{K:St->Prop}(g:α0)[SZ P ty 1](v:o.op= .store ty x y)(hx:evA t x= .rp i ver k off)(u:evA t y= .bs T2 l2)(hi:h[i]? =iU (.row ver e T l))(hk:l[k]? =iU d)
 (m:off+1<=T.size)(z:(enc d).take off++[.bs T2 l2]++(enc d).drop (off+1)=enc g)(c:∀(w:cA) (S:Nat->Prop) (cs:List bY),Ae w S [] ψ0 (enc g) cs->T.RS w S cs g)
 (A:K ⟨Bl t o.dst (.lit undef),h.set i (.row ver e T (l.set k g))⟩):AOp P C o ⟨t,h⟩ K:=
 NG (s:=⟨t,h⟩) v hx hi hk (by rw[show evA (St.mk t h).t y=_ from u];exact Ah9.bs m z c) SZ.eq A
theorem Amt{z:aS}{ik:IntKind}{n:Nat}{l:List α}{K:St->Prop}[ES P ty n](m:o.op= .slice ty x iT (iU z) iT)(hx:evA t x= .own i ver)(hi:h[i]? =iU (.row ver e T l))(g:T.size=n)(c:evA t z= .lit (.int ik b))(hc:slB l 0 b=aJ)
 (s:K ⟨Bl t o.dst (.own i (ver+1)),h.set i (.row (ver+1) e T (l.take b.toNat))⟩):AOp P C o ⟨t,h⟩ K:=by
 obtain⟨h1,h2,u⟩:=Adt.1 hc;exact M5 m hx hi g (Aig c h2) u s
end
theorem V4{base:Nat}{v:bY}{zs:List Int}(c:Gf w base v zs)(F:zs.length<=2147483648):
 aL bC 192 #[v] w λe w'=>e= .returned (.tuple #[])/\Gf w' base v zs.reverse/\w.grownBy w' v.ownBlock:=by
 rcases c.2 with⟨rfl,h0⟩|⟨g,cap,cur,rfl,m,B,h1,h2,E,D⟩
 ·have:zs= []:=dD h0;subst this;refine(Any.slices_Reverse_int_empty Tryz.lays112 _ _ _).mono λe w' ⟨u,s⟩=>?_
  subst s;exact⟨u,by simpa using c,World.grownBy.refl _ _⟩
 ·refine(Any.slices_Reverse_int Tryz.lays112 g 0 cap zs w (JU B D) (by omega)).mono λe w' ⟨u,z,s⟩=>?_
  subst s;have A:=ownsRow_sortedI (os:=#[]) (n:=z) (ts:=zs.reverse) (ss:=zs) (by simp) m B h1 h2 E;have hg:=grownBy_sortedI (w:=w) (g:=g) (n:=z) (os:=#[]) zs.reverse.toArray;rw[Go.Sort.grow_empty]at A hg;exact⟨u,.of A (by simp) V,hg⟩
section
variable{C:Ctx}{t:List AV}{h:List fT}{o:aR}{K:St->Prop}
theorem Ab6{D:Array bX}(G:o.op= .call {callee:=.value (.func 192),args:=#[x],argTypes:=D})(hx:evA t x= .own i ver)(hi:h[i]? =iU (.row ver 3 tInt l))(O:l.length<=2147483648)
 (U:K ⟨Bl t o.dst .any,h.set i (.row ver 3 tInt l.reverse)⟩):AOp bC C o ⟨t,h⟩ K:=by
 rintro Q' a w ⟨Q,S,ψ,H,z⟩;refine⟨λc e=>(by rw[G]at e;cases e),?_⟩;have u:=Bv z x;rw[show evA (St.mk t h).t x= .own i ver from hx]at u;unfold gB at u;have L:=(u.2 _ (by rw[hi];rfl)).2 V;have B:=H.blk i _ hi;have v:=B.lt V;obtain⟨I,J⟩:=JI B;unfold Oper.wp;rw[Cv G (by kernel_rfl) a.eval w V];simp only[Oper.upon];rw[show(#[x].map a.eval)= #[ψ i]from by simp[L]];refine(V4 I O).mono ?_;rintro r w' ⟨rfl,F,E⟩;have m:w.grownBy w' (Bu (ψ i)):=by
  have e:Bu (ψ i)=(ψ i).ownBlock:=by
   rcases I.2 with⟨e,_⟩|⟨g,cap,cur,e,_⟩ <;> rw[e] <;> rfl
  rw[e];exact E
 have A:∀k,S k->w'.heap[k]? =w.heap[k]?:=λk hk=>m.block k (H.lt k hk) λe=>(v k e.symm).2.2 hk
 have X:Ext w S h ψ w' S (h.set i (.row ver 3 tInt l.reverse)) (Bo ψ i (ψ i)):=Ext.set A hi (λW hc=>by
  simp only[fX,iV]at hc;exact⟨ver,rfl,by omega,λ_=>⟨rfl,rfl⟩⟩) λh=>by simp[AZ]at h
 exact⟨_,U,Iw (s:=⟨t,h⟩) hi Q z (H.set hi V (Bs m) X (LE F (λr N=>J r (List.mem_reverse.1 N)) λg hg=>⟨(v g (AU hg)).1,(v g (AU hg)).2.2⟩) λg hg=>.inl hg) X (by unfold gB;trivial)⟩
end
theorem CO:∀(w:cA) (S S':Nat->Prop) (cs:List bY) (d:Int),tInt.RS w S cs d->tInt.RS w S' cs d:=λ_ _ _ _ _ h=>DJ.2 (DJ.1 h)
noncomputable section
structure FStep where
 b:Int
 next:List Int
def Lf:Ty FStep:=(tInt.cons (tInt.slice.cons Dj)).via (λx=>⟨x.1,x.2.1⟩) (λd=>(d.b,d.next,()))
theorem XH{x:FStep}:Lf.RS w S cs x↔∃c:bY,cs= [.int .i64 x.b,c]/\wfI .i64 x.b/\tInt.slice.RS w S [c] x.next:=by
 constructor
 ·rintro⟨⟨_,_,rfl,⟨rfl,h0⟩,_,_,rfl,h1,rfl⟩,_⟩;have g:=h1;obtain⟨s,m,rfl,_⟩:=h1;exact⟨_,rfl,h0,g⟩
 ·rintro⟨c,rfl,h0,h1⟩;exact⟨⟨[_],_,rfl,⟨rfl,h0⟩,[_],_,rfl,h1,rfl⟩,rfl⟩
@[reducible] def Gw(x:FStep):List AV:=[.lit (.int .i64 x.b),.bs tInt x.next]
theorem UN:Enc Lf Gw:=by
 intro w S h ψ cs d H;obtain⟨c,rfl,h0,h1⟩:=XH.1 H;simp only[Gw,Ae,gB];exact⟨_,_,rfl,rfl,_,_,rfl,h1,rfl⟩
theorem ZN:SK Lf:=D4 UN λd x hx=>by
 simp only[Gw,or_false,zak]at hx;rcases hx with rfl|rfl <;> first|exact .inl ⟨_,rfl,rfl⟩|exact .inr ⟨_,_,_,rfl⟩
instance Ay0:EncOf Lf Gw:=⟨UN,ZN,by decide⟩
structure okFStep(x:FStep):Prop where
 b:wfI .i64 x.b
theorem TI{h:List fT}{ψ:Nat->bY}{x:FStep}(c:okFStep x)(H:Ae w S h ψ (Gw x) cs):Lf.RS w S cs x:=by
 simp only[Gw,Ae,gB]at H;obtain⟨_,_,rfl,rfl,_,_,rfl,h1,rfl⟩:=H;exact XH.2 ⟨_,rfl,c.b,h1⟩
instance Ayz:Inhabited FStep:=⟨⟨0,[]⟩⟩
def Gn(x:FStep):Bool:=wfB .i64 x.b
theorem O3{x:FStep}(h:Gn x=aJ):okFStep x:=by
 unfold Gn at h;exact⟨h⟩
theorem UG{h:List fT}{x:FStep}(hk:Gn x=aJ):Fit h Lf (.agg (Gw x)) x:=Oj (enc:=Gw) λ_ _ _ _ H=>TI (O3 hk) H
theorem Aey:Eq bC 206=iU [(0,1),(1,1)]:=by kernel_rfl
instance Ayy:FO bC 206 0 0:=⟨by kernel_rfl⟩
instance Ayx:FO bC 206 1 1:=⟨by kernel_rfl⟩
instance Ayw:ZC bC 206 [.int .i64 0,.slice iT 0 0]:=⟨by kernel_rfl⟩
instance Axo:ES bC 207 2:=⟨by kernel_rfl⟩
instance Axn:SL bC 207:=⟨by kernel_rfl⟩
instance Axm:RT bC 207 206 2 32:=⟨by kernel_rfl⟩
def Pr(f:gO)(b:Int):M (List Int):=gQ (MQ f) (gU (nextL f b))
theorem Pq(H:(Pr f b).to r):Fn bC 190 [.agg (Ak f),.lit (.int .i64 b)] (.bs tInt r):=by
 obtain⟨c,H⟩:=Ah.1 H;obtain rfl:=Ad.1 H;have g:=BM.1 c;exact UD f b g.ok g.small.blocks λb m=>(g.small.all b m).ins
def Fx(f:gO)(c:Int):((List Bool)×(List FStep)×(List Int))->M (((List Bool)×(List FStep)×(List Int))⊕((List Int))):=λ(l8,l10,l12)=>gR (aK ((l10.length:Int) > 0)) (gQ (Cm l10 (aN.wrap ((l10.length:Int) - 1))) (gR ((((ixD l10 (aN.wrap ((l10.length:Int) - 1))).next).length:Int) ==0) (gQ (wfB .i64 ((ixD l10 (aN.wrap ((l10.length:Int) - 1))).b)) (gQ (Fj (l12.length+ [(ixD l10 (aN.wrap ((l10.length:Int) - 1))).b].length) 8) (gQ (slB l10 0 (aN.wrap ((l10.length:Int) - 1))) (gU (.inl (l8,fH (cT (aN.wrap ((l10.length:Int) - 1))) l10,l12++[(ixD l10 (aN.wrap ((l10.length:Int) - 1))).b])))))) (gQ (Cm ((ixD l10 (aN.wrap ((l10.length:Int) - 1))).next) 0) (gQ (slB ((ixD l10 (aN.wrap ((l10.length:Int) - 1))).next) 1 (((ixD l10 (aN.wrap ((l10.length:Int) - 1))).next).length:Int)) (gQ (Gn ⟨(ixD l10 (aN.wrap ((l10.length:Int) - 1))).b,slD ((ixD l10 (aN.wrap ((l10.length:Int) - 1))).next) 1 (((ixD l10 (aN.wrap ((l10.length:Int) - 1))).next).length:Int)⟩) (gQ (Cm l8 (ixD ((ixD l10 (aN.wrap ((l10.length:Int) - 1))).next) 0)) (gR ((!(ixD l8 (ixD ((ixD l10 (aN.wrap ((l10.length:Int) - 1))).next) 0)))&&((ixD ((ixD l10 (aN.wrap ((l10.length:Int) - 1))).next) 0) !=c)) (gQ (Cm l8 (ixD ((ixD l10 (aN.wrap ((l10.length:Int) - 1))).next) 0)) (gP (Pr f (ixD ((ixD l10 (aN.wrap ((l10.length:Int) - 1))).next) 0)) λg=>gQ (Gn ⟨ixD ((ixD l10 (aN.wrap ((l10.length:Int) - 1))).next) 0,g⟩) (gQ (Fj ((l10.set (cT (aN.wrap ((l10.length:Int) - 1))) ⟨(ixD l10 (aN.wrap ((l10.length:Int) - 1))).b,slD ((ixD l10 (aN.wrap ((l10.length:Int) - 1))).next) 1 (((ixD l10 (aN.wrap ((l10.length:Int) - 1))).next).length:Int)⟩).length+([⟨ixD ((ixD l10 (aN.wrap ((l10.length:Int) - 1))).next) 0,g⟩]:List FStep).length) 32) (gU (.inl (l8.set (cT (ixD ((ixD l10 (aN.wrap ((l10.length:Int) - 1))).next) 0)) aJ,(l10.set (cT (aN.wrap ((l10.length:Int) - 1))) ⟨(ixD l10 (aN.wrap ((l10.length:Int) - 1))).b,slD ((ixD l10 (aN.wrap ((l10.length:Int) - 1))).next) 1 (((ixD l10 (aN.wrap ((l10.length:Int) - 1))).next).length:Int)⟩)++([⟨ixD ((ixD l10 (aN.wrap ((l10.length:Int) - 1))).next) 0,g⟩]:List FStep),l12)))))) (gU (.inl (l8,l10.set (cT (aN.wrap ((l10.length:Int) - 1))) ⟨(ixD l10 (aN.wrap ((l10.length:Int) - 1))).b,slD ((ixD l10 (aN.wrap ((l10.length:Int) - 1))).next) 1 (((ixD l10 (aN.wrap ((l10.length:Int) - 1))).next).length:Int)⟩,l12)))))))))) (gU (.inr l12))
def E8(f:gO)(c:Int):M (List Int):=gR (((f.blocks.length:Int) ==0)||(c ==0)) (gU ([]:List Int)) (gQ (VN (f.blocks.length:Int) 1) (gQ (Cm (fF (cT (f.blocks.length:Int)) aH) 0) (gP (Pr f 0) λm=>gQ (Gn ⟨0,m⟩) (gP (gT (Fx f c) ((fF (cT (f.blocks.length:Int)) aH).set (cT 0) aJ,[⟨0,m⟩],([]:List Int))) λg=>gU g))))
theorem Pp{c:Int}(H:(E8 f c).to r):JA bC 179 [.agg (Ak f),.lit (.int .i64 c)] 3 tInt r:=by
 delta E8 at H;try dsimp only at H
 refine Eg Tryz.func179 V (by kernel_rfl) V Tryz.ntmps179 CO λC hC=>?_
 simp only[Nat.reduceAdd,Nat.reduceSub,zaa];refine wS (sB (sT (wN ?_)));refine Ab λam ab=>?_
 refine wS (sT (sT (sT (sT (sT ?_)))));refine sGf V ?_;refine sGf V (sT (wN ?_));refine Ag V (λI=>?_) (λI=>?_)
 ·have H:=AN I H;refine wS (sT (wN ?_));obtain rfl:=Ad.1 H;refine AE _ (EB 4 3 tInt V (by decide)) ?_;exact Aw ⟨.inr V,rfl,1,0,rfl,rfl⟩
 ·have H:=AO I H;refine Al ?_;refine ab _ ?_;refine nT ?_;refine wS (sT (wN ?_));obtain⟨c3,H⟩:=Ah.1 H;refine wS (sT (sT (sT ?_)));(refine AC V (P6 1 V (T:=iE) (e:=4) (v:=.bool aH) (bytes:=1) (aH:Bool) V (by kernel_rfl) V (λ_ _=>rfl) V V c3 ?_);refine D2 ?_ (Ap (Ap GY)));refine sT (wN ?_);obtain⟨c4,H⟩:=Ah.1 H;refine wS (sT ?_);refine sA ?_ (Cb V (Ao (Ao Iy)) V Acf V c4) (Ap (Ap Hy));(refine AC V (Dx V V V (BS c4) gL V ?_);refine D2 ?_ RG);refine wN ?_;obtain⟨r5,k5,H⟩:=Aq.1 H;have k5:=Pq k5;obtain⟨c6,H⟩:=Ah.1 H;refine wS (sT (sC k5 ?_));refine sA ?_ (BR (rs:=[.lit (.int .i64 0),.bs tInt r5]) V Aey V V) (Ap (Ap (Ap Mk)));(refine AC V (SQ 2 V (xs:=[.tmp 26]) (T:=Lf) (ds:=[⟨0,r5⟩]) V V V (RT.eq (n:=2) (bytes:=32)) (by decide) (by decide) (.cons (UG c6) .nil) ?_);refine D2 ?_ (Ap (Ap (Ap JG))));refine sT (wN ?_);refine AE _ (EB 5 3 tInt V (by decide)) ?_;obtain⟨Y,X,W⟩:=Aq.1 H;refine Bn (β:=((List Int))×(Nat)) (λu=>Y=u.1) (λu=>⟨A5 (.own 3 u.2::A80 (A4 [])),[.dead,.dead,.dead,.row u.2 3 tInt u.1]⟩) ?_ ?_
  ·refine Ac ?_;refine BB X (λF s=>⟨.any::.lit (.int .i64 c)::.ptr 0 0::A2 (.own 3 s.2.2::.own 1 s.1::.own 2 s.2.1::A80 (A2 [])),[.box (Ak f),.row s.1 4 iE F.1,.row s.2.1 206 Lf F.2.1,.row s.2.2 3 tInt F.2.2]⟩) (0,0,0) (?_) ?_
   ·try dsimp only
    exact AS
   ·rintro⟨l8,l10,ap⟩ ⟨v7,Z,D⟩ an H U;try dsimp only
    dsimp only[Fx]at H;refine Ab λal N=>?_
    refine wS (sT (sT (sT (wN ?_))));refine Ag V (λB=>?_) (λB=>?_)
    ·have H:=AN B H;refine Al ?_;refine N _ ?_;refine nT ?_;refine Ac ?_;obtain⟨m,H⟩:=Ah.1 H;refine wS (sT (sT (sT (sT ?_))));refine sA ?_ (Cb V (Ao (Ao (Ao Hd))) V (As FG) V m) (Ar JG);refine sT (wN ?_);refine Ab λak L=>?_
     refine wS (sT ?_);refine sA ?_ (Hq V (As GO) V) (Ar GY);refine sA ?_ (CI V (As Fq) V) (Ar HT);refine sA ?_ (Bq V (As Iy) V (BS m) V) (Ar Hy);refine sT (sT (wN ?_));refine Ag V (λA=>?_) (λA=>?_)
     ·have H:=AN A H;obtain⟨aj,H⟩:=Ah.1 H;obtain⟨ai,H⟩:=Ah.1 H;refine wS (sT (sT ?_));refine sA ?_ (Hq V (As (Ao FF)) V) (Ar (Ap Ka));refine sA ?_ (CI V (As (Ao GO)) V) (Ar (Ap GY));refine sA ?_ (Bq V (As (Ao Fq)) V (BS m) V) (Ar (Ap HT));refine sA (hq:=AT.lt (xs:=[.tmp 46]) (T:=tInt) (ds:=[(ixD l10 (aN.wrap ((l10.length:Int) - 1))).b]) V V V (by rfl) (by decide) (.cons (gN aj) .nil)) (ht:=(Ar (Ap Hy))) (hk:=?_);refine sP ai (sT (wN ?_));obtain⟨ah,H⟩:=Ah.1 H;refine wS (sT (sT (sT (sT ?_))));(refine AC V (Amt V V V V V ah ?_);refine D2 ?_ (Ar (Ap (Ap GY))));refine sT (wN ?_);refine Ay ?_;repeat(first|refine BG ?_|refine exO (by decide) ?_|refine asE ?_)
      refine exN ?_;have g:=Ad.1 H;repeat(first|refine abN ?_|refine asN ?_)
      refine An ⟨_,(v7,Z+1,D+1),g.symm,?_⟩;try dsimp only
      exact AS
     ·have H:=AO A H;refine Al ?_;refine L _ ?_;refine nT ?_;obtain⟨ag,H⟩:=Ah.1 H;refine wS (sT ?_);refine sA ?_ (Hq V (As (Ao (Ao Iy))) V) (Ar (Ap (Ap Hy)));refine sA ?_ (CI V (As (Ao (Ao Hd))) V) (Ar (Ap (Ap (Ap HU))));refine sA ?_ (Bq V (As (Ao (Ao (Ao IG)))) V (BS m) V) (Ar (Ap (Ap (Ap JH))));refine sX ag (sT (sT (wN ?_)));obtain⟨af,H⟩:=Ah.1 H;obtain⟨ae,H⟩:=Ah.1 H;refine wS (sT (sT ?_));refine sA ?_ (Hq V (As (Ao (Ao (Ao Fq)))) V) (Ar (Ap (Ap (Ap HT))));refine sA ?_ (CI V (As (Ao (Ao (Ao Iy)))) V) (Ar (Ap (Ap (Ap Hy))));refine sA ?_ (Bq V (As (Ao (Ao (Ao Hd)))) V (BS m) V) (Ar (Ar HU));refine sA ?_ (Abq V (As (As IG)) V Acf af) (Ar (Ar JH));refine sA ?_ (Hq V (As (Ao (Ao (Ao GO)))) V) (Ar (Ar Mk));refine sA ?_ (CI V (As (As FG)) V) (Ar (Ar JG));(refine AC V (Ab5 ⟨(ixD l10 (aN.wrap ((l10.length:Int) - 1))).b,slD ((ixD l10 (aN.wrap ((l10.length:Int) - 1))).next) 1 (((ixD l10 (aN.wrap ((l10.length:Int) - 1))).next).length:Int)⟩ V V V V (BS m) (by decide) V (λ_ _ _ hr=>TI (O3 ae) hr) ?_);refine D2 ?_ RG);refine wN ?_;obtain⟨Q,H⟩:=Ah.1 H;refine wS (sT (sT ?_));refine sA ?_ (Cb V (As (As GO)) V (As (As Fq)) V Q) (Ar (Ar HT));refine sA ?_ (Bq V (As (As Iy)) V (BS Q) V) (Ar (Ar Hy));refine sT (sT ?_);refine sGt V ?_;refine sGt V ?_;refine sGt V (sT (wN ?_));refine Ag V (λz=>?_) (λz=>?_)
      ·have H:=AN z H;obtain⟨O,H⟩:=Ah.1 H;refine wS (sT (sT ?_));refine sA ?_ (Cb V (As (As (Ao Iy))) V (As (As (Ao Hd))) V O) (Ar (Ar (Ap (Ap HU))));(refine AC V (Dx V V V (BS O) gL V ?_);refine D2 ?_ RG);refine wN ?_;obtain⟨J,G,H⟩:=Aq.1 H;have G:=Pq G;obtain⟨ad,H⟩:=Ah.1 H;obtain⟨ac,H⟩:=Ah.1 H;refine wSE (sT (sT (sT (sT (sC G ?_)))));refine sA (hq:=BR (rs:=[.lit (.int .i64 (ixD ((ixD l10 (aN.wrap ((l10.length:Int) - 1))).next) 0)),.bs tInt J]) V Aey V V) (ht:=(Ar (Ar (Ap (Ap HT))))) (hk:=?_);refine sA (hq:=AT.lt (xs:=[.tmp 86]) (T:=Lf) (ds:=[⟨ixD ((ixD l10 (aN.wrap ((l10.length:Int) - 1))).next) 0,J⟩]) V V V (by rfl) (by decide) (.cons (UG ad) .nil)) (ht:=(Ar (Ar (Ap (Ap Hy))))) (hk:=?_);refine sP ac (sT (wN ?_));have g:=Ad.1 H;repeat(first|refine abN ?_|refine asN ?_)
       refine An ⟨_,(v7,Z+1,D),g.symm,?_⟩;try dsimp only
       exact AS
      ·have H:=AO z H;refine Al ?_;have g:=Ad.1 H;repeat(first|refine abN ?_|refine asN ?_)
       refine An ⟨_,(v7,Z,D),g.symm,?_⟩;try dsimp only
       exact AS
    ·have H:=AO B H;refine Ay ?_;repeat(first|refine BG ?_|refine exO (by decide) ?_|refine asE ?_)
     refine exN ?_;have g:=U _ (Ad.1 H).symm;repeat(first|refine abN ?_|refine asN ?_)
     refine An ⟨(_,D),g.symm,?_⟩;try dsimp only
     exact leC (gH (gH (gH (gG (gI _)))))
  ·rintro⟨ao,aa⟩ E;try dsimp only at E
   have H:=W;rw[E]at H;try dsimp only
   refine wS (sT (sT (wN ?_)));obtain rfl:=Ad.1 H;exact Aw ⟨.inr V,rfl,3,aa,rfl,rfl⟩
def Ev(r2:List Int):(Int×(List Bool))->M ((Int×(List Bool))⊕((List Bool))):=λ(x3,l5)=>gR (aK (x3 < (r2.length:Int))) (gQ (Cm r2 x3) (gQ (Cm l5 (ixD r2 x3)) (gU (.inl (aN.wrap (x3+1),l5.set (cT (ixD r2 x3)) aJ))))) (gU (.inr l5))
def Gv(f:gO):M (List Bool):=gQ (VN (f.blocks.length:Int) 1) (gP (E8 f (-1)) λr2=>gP (gT (Ev r2) (0,fF (cT (f.blocks.length:Int)) aH)) λc=>gU c)
theorem Ql{r:List Bool}(H:(Gv f).to r):Fn bC 159 [.agg (Ak f)] (.bs iE r):=by
 delta Gv at H;try dsimp only at H
 refine AQ Tryz.func159 V (by kernel_rfl) V Tryz.ntmps159 λC hC=>?_
 simp only[Nat.reduceAdd,Nat.reduceSub,zaa];refine wS (sB (sT (wN ?_)));obtain⟨W,H⟩:=Ah.1 H;refine wS (sT (sT (sT ?_)));(refine AC V (P6 1 V (T:=iE) (e:=4) (v:=.bool aH) (bytes:=1) (aH:Bool) V (by kernel_rfl) V (λ_ _=>rfl) V V W ?_);refine D2 ?_ (Ap JH));refine sT (wN ?_);obtain⟨r2,D,H⟩:=Aq.1 H;have D:=Pp D;obtain⟨Q,L,J⟩:=Aq.1 H;refine Bn (β:=((List Bool))×(Nat)) (λg=>Q=g.1) (λg=>⟨A3 (.own 1 g.2::A10 (A8 [])),[.dead,.row g.2 4 iE g.1,.dead]⟩) ?_ ?_
 ·refine wS (sT ?_);(refine AC V (Dy 2 V V D (by decide) CO (.cons (.cl V) (.cons (.cl V) .nil)) ?_);refine D2 ?_ (Ap JG));refine sT (sT (wN ?_));refine Ac ?_;refine BB L (λO B=>⟨A3 (.own 1 B.1::A7 (.own 2 B.2::.lit (.int .i64 (r2.length:Int))::.lit (.int .i64 O.1)::A8 [])),[.dead,.row B.1 4 iE O.2,.row B.2 3 tInt r2]⟩) (0,0) (?_) ?_
  ·try dsimp only
   exact leC (gH (gG (gG (gI _))))
  ·rintro⟨Y,l5⟩ ⟨N,U⟩ X H I;try dsimp only
   dsimp only[Ev]at H;refine wS (sT (wN ?_));refine Ab λG u=>?_
   refine Ag V (λc=>?_) (λc=>?_)
   ·have H:=AN c H;refine Al ?_;refine u _ ?_;refine nT ?_;refine Ab λF s=>?_
    refine Ac ?_;obtain⟨A,H⟩:=Ah.1 H;refine wS ?_;refine sA ?_ (Cb V (Ao FF) V (Ao Fq) V A) (Ap Hy);refine sA ?_ (Bq V (Ao Hd) V (BS A) V) (Ap (Ap HU));refine sT (wN ?_);obtain⟨z,H⟩:=Ah.1 H;refine wSE (sT (sT ?_));refine sA ?_ (Cb V (Ao (Ao GP)) V (Ao (Ao FG)) V z) (Ap (Ap JG));(refine AC V (Dx V V V (BS z) gL V ?_);refine D2 ?_ RG);refine wN ?_;refine s _ ?_;refine nT ?_;refine wSE (sT (sT (wN ?_)));have E:=Ad.1 H;repeat(first|refine abN ?_|refine asN ?_)
    refine An ⟨_,(N,U),E.symm,?_⟩;try dsimp only
    exact AS
   ·have H:=AO c H;refine Ay ?_;repeat(first|refine BG ?_|refine exO (by decide) ?_|refine asE ?_)
    refine exN ?_;have E:=I _ (Ad.1 H).symm;repeat(first|refine abN ?_|refine asN ?_)
    refine An ⟨(_,N),E.symm,?_⟩;try dsimp only
    exact leC (gG (gG (gH (gI _))))
 ·rintro⟨l9,Z⟩ m;try dsimp only at m
  have H:=J;rw[m]at H;try dsimp only
  refine wS (sT (sT (wN ?_)));obtain rfl:=Ad.1 H;exact Aw ⟨.inr V,gK V⟩
def JV(f:gO):M (List Int):=gP (E8 f (-1)) λr1=>gQ (aK (r1.length<=2147483648)) (gU (List.reverse r1))
theorem UE(H:(JV f).to r):Fn bC 186 [.agg (Ak f)] (.bs tInt r):=by
 delta JV at H;try dsimp only at H
 refine AQ Tryz.func186 V (by kernel_rfl) V Tryz.ntmps186 λC m=>?_
 simp only[Nat.reduceAdd,Nat.reduceSub,zaa];refine wS (sB (sT (wN ?_)));obtain⟨r1,c,H⟩:=Aq.1 H;have c:=Pp c;refine wS (sT ?_);(refine AC V (Dy 1 V V c (by decide) CO (.cons (.cl V) (.cons (.cl V) .nil)) ?_);refine D2 ?_ GY);refine sT (wN ?_);obtain⟨g,H⟩:=Ah.1 H;refine wS (sT ?_);(refine AC V (Ab6 V V V (of_decide_eq_true g) ?_);refine D2 ?_ Hy);refine wN ?_;refine wS (sT (sT (wN ?_)));obtain rfl:=Ad.1 H;exact Aw ⟨.inr V,gK V⟩
def DS(a:List Int)(g:List Int):(Int×(List Int))->M ((Int×(List Int))⊕((List Int))):=λ(x1,l3)=>gR (aK (x1 < (a.length:Int))) (gP (gQ (Cm a x1) (gP (CY g (ixD a x1)) λc=>gR c.2 (gQ (wfB .i64 (ixD a x1)) (gQ (Fj (l3.length+ [ixD a x1].length) 8) (gU (l3++[ixD a x1])))) (gU l3))) λl10=>gU (.inl (aN.wrap (x1+1),l10))) (gU (.inr l3))
def FZ(a:List Int)(c:List Int):M (List Int):=gP (gT (DS a c) (0,([]:List Int))) λg=>gU g
theorem Sj{a:List Int}{m:List Int}(H:(FZ a m).to r):JA bC 187 [.bs tInt a,.bs tInt m] 3 tInt r:=by
 delta FZ at H;try dsimp only at H
 refine Eg Tryz.func187 V (by kernel_rfl) V Tryz.ntmps187 CO λC hC=>?_
 simp only[Nat.reduceAdd,Nat.reduceSub,zaa];refine wS (sT (wN ?_));refine wS (sT (wN ?_));refine AE _ (EB 5 3 tInt V (by decide)) ?_;obtain⟨z4,W,U⟩:=Aq.1 H;refine Bn (β:=((List Int))×(Nat)) (λA=>z4=A.1) (λA=>⟨A5 (.own 0 A.2::A20 (A3 [])),[.row A.2 3 tInt A.1]⟩) ?_ ?_
 ·refine wS (sT (sT (sT (wN ?_))));refine Ac ?_;refine BB W (λY Z=>⟨.any::.bs tInt m::A3 (.own 0 Z::A4 (.bs tInt a::.lit (.int .i64 (a.length:Int))::.lit (.int .i64 Y.1)::A10 (A6 []))),[.row Z 3 tInt Y.2]⟩) 0 (?_) ?_
  ·try dsimp only
   exact AS
  ·rintro⟨X,l3⟩ G x4 H Q;try dsimp only
   dsimp only[DS]at H;refine wS (sT (wN ?_));refine Ab λaa I=>?_
   refine Ag V (λv=>?_) (λv=>?_)
   ·have H:=AN v H;refine Al ?_;refine I _ ?_;refine nT ?_;obtain⟨F,E,D⟩:=Aq.1 H;refine Bn (β:=((List Int))×(Nat)) (λc=>F=c.1) (λc=>⟨.any::.bs tInt m::A3 (.own 0 c.2::A4 (.bs tInt a::.lit (.int .i64 (a.length:Int))::.lit (.int .i64 X)::A10 (A6 []))),[.row c.2 3 tInt c.1]⟩) ?_ ?_
    ·have H:=E;refine Ac ?_;obtain⟨O,H⟩:=Ah.1 H;refine wS (sX O (sT (sT (wN ?_))));obtain⟨ab,u,H⟩:=Aq.1 H;have u:=E2 u;refine wS (sT (sT (sC u (sT (sT (sT (sT (sT (wN ?_)))))))));refine wS (sT (wN ?_));refine Ag V (λg=>?_) (λg=>?_)
     ·have H:=AN g H;obtain⟨N,H⟩:=Ah.1 H;obtain⟨L,H⟩:=Ah.1 H;refine wSE (sT (sT ?_));refine sA ?_ (AT.lt (xs:=[.tmp 24]) (T:=tInt) (ds:=[ixD a X]) V V V (by rfl) (by decide) (.cons (gN N) .nil)) (Ap (Ap (Ap JH)));refine sP L (sT (wN ?_));have z:=Ad.1 H;repeat(first|refine abN ?_|refine asN ?_)
      refine An ⟨(_,G+1),z.symm,?_⟩;try dsimp only
      exact AS
     ·have H:=AO g H;refine Al ?_;have z:=Ad.1 H;repeat(first|refine abN ?_|refine asN ?_)
      refine An ⟨(_,G),z.symm,?_⟩;try dsimp only
      exact AS
    ·rintro⟨l10,v9⟩ s;try dsimp only at s
     have H:=D;rw[s]at H;try dsimp only
     refine wSE (sT (sT (wN ?_)));have J:=Ad.1 H;repeat(first|refine abN ?_|refine asN ?_)
     refine An ⟨_,v9,J.symm,?_⟩;try dsimp only
     exact AS
   ·have H:=AO v H;refine Ay ?_;repeat(first|refine BG ?_|refine exO (by decide) ?_|refine asE ?_)
    refine exN ?_;have J:=Q _ (Ad.1 H).symm;repeat(first|refine abN ?_|refine asN ?_)
    refine An ⟨(_,G),J.symm,?_⟩;try dsimp only
    exact AS
 ·rintro⟨l6,v5⟩ B;try dsimp only at B
  have H:=U;rw[B]at H;try dsimp only
  refine wS (sT (sT (wN ?_)));obtain rfl:=Ad.1 H;exact Aw ⟨.inr V,rfl,0,v5,rfl,rfl⟩
end
def Et(p:Int->Bool)(l:List Int)(j:Nat):List Int:=(l.take j).filter λx=>!p x
theorem FD{x:Int}(hx:l[j]? =iU x):Et p l (j+1)=if p x then Et p l j else Et p l j++[x]:=by
 unfold Et;rw[fI,hx,dF];cases h:p x <;> simp[h]
structure DelJ(p:Int->Bool)(l:List Int)(k0:Nat)(q:List Int×Nat):Prop where
 len:q.1.length=l.length
 j:q.2<=l.length
 k0:k0 < q.2
 pre:q.1.take (Et p l q.2).length=Et p l q.2
 post:q.1.drop q.2=l.drop q.2
 lt:(Et p l q.2).length < q.2
theorem Aax(hk:k0 < l.length)(s:∀x∈l.take k0,p x=aH){x:Int}(hx:l[k0]? =iU x)(m:p x=aJ):DelJ p l k0 (l,k0+1):=by
 have e:Et p l (k0+1)=l.take k0:=by
  rw[FD hx,if_pos m];unfold Et;exact dH.2 λy g=>by rw[s y g];rfl
 have c:(l.take k0).length=k0:=by rw[eJ];omega
 exact⟨rfl,hk,iM _,by rw[e,c],rfl,by rw[e,c];exact iM _⟩
theorem Ag9(H:DelJ p l k0 (cur,j)){x:Int}(hx:l[j]? =iU x)(c:p x=aJ):DelJ p l k0 (cur,j+1):=by
 have g:=(dX.1 hx).1;have e:Et p l (j+1)=Et p l j:=by rw[FD hx,if_pos c]
 have:=H.lt;have:=H.k0;refine⟨H.len,g,by simp only at *;omega,by rw[e];exact H.pre,?_,by rw[e];simp only at *;omega⟩;have:=congrArg (dB 1) H.post;rw[dC,dC]at this;exact this
theorem Aha(H:DelJ p l k0 (cur,j)){x:Int}(hx:l[j]? =iU x)(c:p x=aH):DelJ p l k0 (cur.set (Et p l j).length x,j+1):=by
 have g:=(dX.1 hx).1;have e:Et p l (j+1)=Et p l j++[x]:=by rw[FD hx,if_neg (by rw[c];simp)]
 have h1:(Et p l j).length < j:=H.lt;have h2:cur.length=l.length:=H.len;have u:k0 < j:=H.k0;have s:cur.take (Et p l j).length=Et p l j:=H.pre;have m:cur.drop j=l.drop j:=H.post;refine⟨by simp[h2],g,by simp only;omega,?_,?_,by rw[e,eD];simp only[zai];omega⟩
 ·simp only;rw[e,eD,eE,eI,iP,fI,dZ (by omega),List.take_set_of_le (iI _),s];rfl
 ·simp only;rw[List.drop_set_of_lt (by omega)];have:=congrArg (dB 1) m;rw[dC,dC]at this;exact this
theorem Alo(H:DelJ p l k0 (cur,j)):cur[j]? =l[j]?:=by
 have:=congrArg (λz=>z[0]?) H.post;simp only[dU,Nat.add_zero]at this;exact this
theorem Aga:(Aiy p l= -1/\l.filter (λx=>!p x)=l)\/∃(k:Nat) (x:Int),Aiy p l=(k:Int)/\k < l.length/\(∀y∈l.take k,p y=aH)/\l[k]? =iU x/\p x=aJ:=by
 unfold Aiy;cases h:l.findIdx? p with
 |none=>
  rw[dK]at h;exact .inl ⟨rfl,dH.2 λy c=>by rw[h y c];rfl⟩
 |some k=>
  obtain⟨h1,h2,g⟩:=dL.1 h;refine .inr ⟨k,l[k],rfl,h1,λy c=>?_,dV h1,h2⟩;obtain⟨j,m,rfl⟩:=fB.1 c;have:=g j (by omega);simpa using this
theorem Af4:∀(w w':cA) (S S':Nat->Prop) (cs:List bY) (d:Int),tInt.RS w S cs d->tInt.RS w' S' cs d:=λ_ _ _ _ _ _ h=>DJ.2 (DJ.1 h)
theorem Aes{cells news:List bY}(h:off<=cells.length):(Hz cells off news)[j]? =if j < off then cells[j]? else if j < off+news.length then news[j - off]? else cells[j]?:=by
 unfold Hz;have h1:(cells.take off).length=off:=by rw[eJ];omega
 by_cases g:j < off
 ·rw[if_pos g,cX,dQ (by omega),eB g]
 ·rw[if_neg g];by_cases c:j < off+news.length
  ·rw[if_pos c,dQ (by rw[eD];omega),dR (by omega),h1]
  ·rw[if_neg c,dR (by rw[eD];omega),dU,eD,h1];congr 1;omega
theorem Al2{A B:List bY}{m sz:Nat}(h:∀q,q < sz->A[m * sz+q]? =B[k * sz+q]?):(A.drop (m * sz)).take sz=(B.drop (k * sz)).take sz:=by
 apply dE;intro q;by_cases hq:q < sz
 ·rw[eB hq,eB hq,dU,dU,h q hq]
 ·rw[dW (by rw[eJ];omega),dW (by rw[eJ];omega)]
theorem Ajy{cells news:List bY}{l':List Int}(s:Amh tInt cells l)(hi:i * 1<=cells.length)(g:l'=l.take i):Amh tInt (Hz cells (i * 1) news) l':=λw S j d c=>by
 subst g;rw[eA]at c;split at c
 ·rename_i m;have:=s w S j d c;have e:((Hz cells (i * 1) news).drop (j * tInt.size)).take tInt.size=(cells.drop (j * tInt.size)).take tInt.size:=Al2 λq hq=>by
   have hq:q < 1:=hq;show(Hz cells (i * 1) news)[j * 1+q]? =cells[j * 1+q]?;rw[Aes hi,if_pos (by omega)]
  rw[e];exact this
 ·cases c
theorem Aaz(l:List Int)(f:aM)(c:List AV)(m:fY (.fn f c)=aJ)(s:Fn bC 58 [.bs tInt l,.fn f c] (.lit (.int .i64 (-1)))):Rv bC 177 3 tInt l [.fn f c] l:=by
 refine Mg aV V (by kernel_rfl) V bA CO λC=>?_
 simp only[Nat.reduceAdd,Nat.reduceSub,zaa];refine wR ?_;refine wR (hx:=by((repeat(first|refine sA ?_ (CJ V s (.cons (.own V) (.cons (.cl m) .nil)))|refine sA ?_|refine AM ?_|refine sAG ?_|refine Bp ?_));exact CS V)) (hk:=?_);refine Ab λv u=>?_
 refine wR ?_;refine Ag V (λg=>?_) (λg=>?_)
 ·refine wR ?_;exact Aw ⟨.inr V,0,0,rfl,rfl,rfl⟩
 ·have g:((-1:Int) == -1)=aH:=g;cases g
theorem Aay(l:List Int)(hl:l.length<=2147483648)(W:∀x∈l,wfI .i64 x)(f:aM)(m:List AV)(aa:fY (.fn f m)=aJ)(p:Int->Bool)(hp:∀x∈l,Fn bC f (.lit (.int .i64 x)::m) (.lit (.bool (p x))))(k0:Nat)(x0:Int)
 (Y:k0 < l.length)(I:∀y∈l.take k0,p y=aH)(D:l[k0]? =iU x0)(G:p x0=aJ)(hI:Fn bC 58 [.bs tInt l,.fn f m] (.lit (.int .i64 (k0:Int)))):Rv bC 177 3 tInt l [.fn f m] (l.filter λx=>!p x):=by
 refine Mg aV V (by kernel_rfl) V bA CO λC=>?_
 simp only[Nat.reduceAdd,Nat.reduceSub,zaa];refine wR ?_;refine wR (hx:=by((repeat(first|refine sA ?_ (CJ V hI (.cons (.own V) (.cons (.cl aa) .nil)))|refine sA ?_|refine AM ?_|refine sAG ?_|refine Bp ?_));exact CS V)) (hk:=?_);refine Ab λK3 h3=>?_
 refine wR ?_;refine Ag V (λA=>?_) (λA=>?_)
 ·have A:((k0:Int) == -1)=aJ:=A;have:=eq_of_beq A;omega
 ·refine Al ?_;refine h3 _ ?_;refine nT ?_;refine Ab λK8 h8=>?_
  refine wR ?_;refine Ac ?_;refine AB (λq:List Int×Nat=>⟨(.own 0 0::.fn f m::A3 (.lit (.int .i64 ((Et p l q.2).length:Int))::.lit (.int .i64 (q.2:Int))::A20 (A10 (A5 [])))),[.row 0 3 tInt q.1]⟩) (DelJ p l k0) (λq=>l.length - q.2) (l,k0+1) (Aax Y I D G) (by rw[show(Et p l (k0+1)).length=k0 from by rw[FD D,if_pos G];unfold Et;rw[dH.2 λy O=>by rw[I y O];rfl,eJ];omega];exact AS) ?_;rintro⟨cur,j⟩ H;have B:cur.length=l.length:=H.len;have af:j<=l.length:=H.j;have L:(Et p l j).length < j:=H.lt;dsimp only;refine Ab λah ad=>?_
  refine wR ?_;refine Ag V (λu=>?_) (λu=>?_)
  ·have X:j < l.length:=by have:(j:Int) < (cur.length:Int):=of_decide_eq_true u;omega
   obtain⟨x,hx⟩:∃x,l[j]? =iU x:=⟨_,dV X⟩
   have Q:cur[j]? =iU x:=(Alo H).trans hx;have ae:=hp x (eX hx);have U:=W x (eX hx);obtain⟨y,O⟩:∃y,cur[(Et p l j).length]? =iU y:=⟨_,dV (by omega)⟩
   refine Al ?_;refine ad _ ?_;refine nT ?_;refine Ab λag N=>?_
   refine Ac ?_;refine wR (hx:=by((repeat(first|refine sA ?_ (Bq V V V Q V)|refine sA ?_|refine AM ?_|refine sAG ?_|refine Bp ?_));exact CS V)) ?_;refine wR ?_;refine Ag V (λs=>?_) (λs=>?_)
   ·refine wR (hx:=by((repeat(first|(refine AC V (Dx V V V O (Fit.int U) V ?_);refine sNt ?_)|refine sA ?_|refine AM ?_|refine sAG ?_|refine Bp ?_));exact CS V)) (hk:=?_);refine wRE ?_;refine N _ ?_;refine nT ?_;refine wRE ?_;have c:p x=aH:=by have:(!p x)=aJ:=s;simpa using this
    refine An ⟨(cur.set (Et p l j).length x,j+1),Aha H hx c,by dsimp only;omega,?_⟩;dsimp only;have e:((Et p l (j+1)).length:Int)=((Et p l j).length:Int)+1:=by rw[FD hx,if_neg (by rw[c];simp)];simp
    rw[e];exact leC (gG (gI _))
   ·refine Al ?_;refine N _ ?_;refine nT ?_;refine wRE ?_;have c:p x=aJ:=by have:(!p x)=aH:=s;simpa using this
    refine An ⟨(cur,j+1),Ag9 H hx c,by dsimp only;omega,?_⟩;dsimp only;have e:((Et p l (j+1)).length:Int)=((Et p l j).length:Int):=by rw[FD hx,if_pos c]
    rw[e];exact leC (gG (gI _))
  ·refine Ay ?_;refine h8 _ ?_;refine nT ?_;have Z:j=l.length:=by have:¬(j:Int) < (cur.length:Int):=of_decide_eq_false u;omega
   subst Z;have E:Et p l l.length=l.filter λx=>!p x:=by unfold Et;rw[fM]
   have z:=H.pre;simp only at z;rw[E]at z L⊢;generalize hF:(l.filter λx=>!p x)=F at z L⊢;refine VD 0 V V (by intro e;rw[e]at B;simp at B;omega) Af4 JP (λv=>(.lit v::A4 (.lit (.int .i64 (F.length:Int))::A20 (A10 (A6 []))))) (λv=>(by(repeat(first|exact Opn.nil|refine Opn.own ?_|refine Opn.any ?_|refine Opn.keep V ?_)))) λg cap cells hc J hm hR h1=>?_
   have hc:cells.length=cap * 1:=hc;refine wR (hx:=by((repeat(first|refine sA ?_ (PR V V ⟨_,rfl⟩ V (by omega) J)|(refine AC V (Aca (i:=0) (by decide) V V V hc J ?_);refine sNt ?_)|refine sA ?_|refine AM ?_|refine sAG ?_|refine Bp ?_));exact CS V)) (hk:=?_);refine wR (hx:=by((repeat(first|refine sA ?_ (Xo V V ⟨_,rfl⟩ (by omega))|refine sA ?_|refine AM ?_|refine sAG ?_|refine Bp ?_));exact CS V)) (hk:=?_);have ac:=Ajy (news:=Y4 bC 3 (cur.length - F.length)) hR (i:=F.length) (by omega) z.symm;have ab:(Hz cells (F.length * 1) (Y4 bC 3 (cur.length - F.length))).length=cap * tInt.size:=by
    rw[Gk (by rw[Ack (ty:=27)];omega)];exact hc
   refine AE _ (Qz 0 (ver:=1) (t':=(A4 (.own 0 1::A20 (A10 (A7 []))))) V V ab (by omega) hm (by decide) ac (by(try simp only[Bl,zac]);(repeat(first|exact Cls.nil|refine Cls.own ?_|refine Cls.any ?_|refine Cls.keep V ?_)))) ?_;exact Aw ⟨.inr V,0,1,rfl,rfl,rfl⟩
theorem Alp(l:List Int)(F:l.length<=2147483648)(z:∀x∈l,wfI .i64 x)(f:aM)(c:List AV)(g:Bh c=aJ)(p:Int->Bool)(E:∀x∈l,Fn bC f (.lit (.int .i64 x)::c) (.lit (.bool (p x)))):Rv bC 177 3 tInt l [.fn f c] (l.filter λx=>!p x):=by
 have m:fY (.fn f c)=aJ:=by unfold fY;exact g
 have s:=Agc l F f c g p E;rcases Aga (p:=p) (l:=l)with⟨D,H⟩|⟨k0,G,D,B,A,u,v⟩
 ·rw[D]at s;rw[H];exact Aaz l f c m s
 ·rw[D]at s;exact Aay l F z f c m p E k0 G B A u v s
end Mu
section
namespace Go.Proofs
open Go.Shelf
def Tryz.laysI_ren:Go.Shelf.Ren:=⟨fun|21=>188|27=>193|28=>194|35=>195|39=>192|n=>n,fun|22=>27|3=>3|0=>0|4=>4|n=>n,fun|n=>n⟩
theorem Tryz.laysI:Go.Proofs.Lays2.n21 bC Tryz.laysI_ren:={
 mixed:=by kernel_rfl
 f21:=Tryz.func188.trans (congrArg iU (by kernel_rfl))
 f27:=Tryz.func193.trans (congrArg iU (by kernel_rfl))
 f28:=Tryz.func194.trans (congrArg iU (by kernel_rfl))
 f35:=Tryz.func195.trans (congrArg iU (by kernel_rfl))
 f39:=aW.trans (congrArg iU (by kernel_rfl))
 t0:=bI
 a0:=aZ
 z0:=bD
 v0:=bO
 t3:=bK
 a3:=a7
 z3:=bF
 v3:=bR
 t4:=bL
 a4:=a8
 z4:=bG
 v4:=bS
 t22:=bJ
 a22:=a6
 z22:=bE
 v22:=bP
 i3:=by kernel_rfl}
end Go.Proofs
end
namespace Mu
open Go Go.RowKit Go.ChangeShapes Go.WideShapes Go.Proofs
variable{D:List bY}{b:bY}{i n:Nat}
theorem MK(w:cA){base old:Nat}{xs:List Int}(c:base<=w.heap.size)(hx:xs.length=n)(m:n<=cN){cur:Array bY}(hc:cur.size=cI w n old 3)(ht:cur.toList.take n=xs.map (b9 .i64)){w':cA}(g:w'.heap[w.heap.size]? =iU (.cells cur 3 (0,0))):
 Gf w' base (.slice (iU ⟨w.heap.size,0,iT⟩) n (cI w n old 3)) xs:=
 .of (n:=n) (cs:=xs.map (b9 .i64)) ⟨by simp[hx],.inr ⟨w.heap.size,_,cur,rfl,c,g,cJ w n old _,grownCap_le_maxLen w n old _ m,by rw[hc,iO],by rw[iO];exact ht⟩⟩ hx.symm V
theorem Aer{cells news:List bY}{off:Nat}(h:off+news.length<=cells.length):(Hz cells off news).take (off+news.length)=cells.take off++news:=by
 unfold Hz;rw[fK (by simp;omega),fN (by simp;omega)]
theorem Z6{C:List bY}(hi:i<=n)(g:n+1<=C.length)(c:D.length=n - i):(Hz (Hz C (i+1) D) i [b]).take (n+1)=C.take i++b::D:=by
 unfold Hz;have h1:(C.take (i+1)++D++C.drop (i+1+D.length)).take i=C.take i:=by
  rw[cX,fK (by simp;omega),fQ,iN (by omega)]
 have h2:(C.take (i+1)++D++C.drop (i+1+D.length)).drop (i+ [b].length)=D++C.drop (i+1+D.length):=by
  rw[cX,List.drop_left' (by simp;omega)]
 rw[h1,h2,<-cX,fK (by simp;omega),fN (by simp;omega),cX];rfl
theorem Z5{C:List bY}(hi:i<=n)(g:n+1<=C.length)(c:D.length=n - i):(Hz (Hz C i [b]) (i+1) D).take (n+1)=C.take i++b::D:=by
 unfold Hz;have h1:(C.take i++[b]++C.drop (i+ [b].length)).take (i+1)=C.take i++[b]:=by
  rw[fL (by simp;omega)]
 rw[h1,fK (by simp;omega),fN (by simp;omega),cX];rfl
theorem N6(l:List Int):∀u∈l.map (b9 .i64),u.oneCell'=aJ:=λu c=>by
 obtain⟨x,_,rfl⟩:=eW.1 c;rfl
theorem Z4{base:Nat}{v u:bY}{zs:List Int}{b:Int}{w:cA}(I:Gf w base v zs)(hu:Gf w base u [b])(hi:i<=zs.length)(hn:zs.length<=2147483648)(am:∀g,v.ownBlock=iU g->u.ownBlock≠iU g)(F:base<=w.heap.size):
 aL bC 188 #[v,.int .i64 (i:Int),u] w λe w'=>∃v',e= .returned v'/\Gf w' base v' (zs.take i++b::zs.drop i)/\w.grownBy w' v.ownBlock/\(v'.ownBlock=v.ownBlock\/v'.ownBlock=iU w.heap.size):=by
 obtain⟨G,J,E,rfl,ay,aa,ax,aw,av,au⟩:∃G J E,u= .slice (iU ⟨G,0,iT⟩) 1 J/\base<=G/\w.heap[G]? =iU (.cells E 3 (0,0))/\1<=J/\J<=cN/\E.size=J * 1/\E.toList.take (1 * 1)= [b9 .i64 b]:=by
  rcases hu.2 with⟨_,h0⟩|⟨g,cap,cur,h⟩
  ·cases h0
  ·exact⟨g,cap,cur,h⟩
 have H:∀j x,[b9 .i64 b][j]? =iU x->w.cell? ⟨G,0+j,iT⟩=iU x:=λj x hx=>by
  have:=hu.cells (g:=G) V j x hx;simpa[add_plain]using this
 have B:∀x∈[b9 .i64 b],x.oneCell'=aJ:=N6 [b];have hl:(zs.take i++b::zs.drop i).length=zs.length+1:=by simp;omega
 have ac:zs.length+1<=cN:=by unfold cN;omega
 rcases I.2 with⟨rfl,h0⟩|⟨g,cap,cur,rfl,hb,hg,h1,h2,h3,h4⟩
 ·have hz:zs= []:=dD h0;subst hz;have ao:i=0:=by simpa using hi
  subst ao;refine(Any2.slices_Insert_int_end_grow Tryz.laysI iT 0 0 G 0 1 J [] [.int .i64 b] w (by omega) (iI _) (by omega) (by omega) V V (λ_=>rfl) (λa h=>by cases h) H B).mono λe w' ⟨N,z⟩=>?_
  subst z;refine⟨_,N,MK w (n:=0+1) (old:=0) (xs:=[b]) F V (by unfold cN;omega) (cur:=_) ?_ ?_ (cL w.drew _),⟨rfl,rfl,rfl,by simp,λk hk _=>cM w.drew _ hk⟩,.inr V⟩
  ·have:=cJ w (0+1) 0 3;simp only[List.nil_append,aE,fG,cP,eE,eI];show 0+1+_ * 1=_;rw[iO];show 0+1+(cI w (0+1) 0 3 - (0+1))=cI w (0+1) 0 3;omega
  ·simp
 ·have ar:g < w.heap.size:=(aA.1 hg).1;have ap:G≠g:=λe=>am g V (by rw[e];rfl)
  have Z:(zs.map (b9 .i64)).length=zs.length:=by simp
  have ai:∀j x,(zs.map (b9 .i64))[j]? =iU x->w.cell? ⟨g,0+j,iT⟩=iU x:=λj x hx=>by
   have:=I.cells (g:=g) V j x hx;simpa[add_plain]using this
  have ag:w.heap[g]? =iU (.cells cur.toList.toArray 3 (0,0)):=by simpa using hg
  have hcur:cur.toList.length=cap:=by simpa using h3
  have aj:cur.toList.take zs.length=zs.map (b9 .i64):=by simpa using h4
  have ab:∀j,j < cap->(w.cell? ⟨g,0+j,iT⟩).isSome=aJ:=λj hj=>by
   have:j < cur.size:=by omega
   simp[cB,hg,this]
  have ah:∀j,w.frozen? ⟨g,j,iT⟩=aH:=λj=>by simp[cD,hg]
  by_cases an:i=zs.length
  ·subst an;rw[fM,List.drop_length];by_cases c:zs.length+1<=cap
   ·refine(Any2.slices_Insert_int_end_room Tryz.laysI g 0 zs.length cap G 0 1 J [.int .i64 b] w (by omega) c (by unfold cN at h2;omega) V (λj hj=>by rw[show 0+zs.length+j=0+(zs.length+j)by omega];exact ab _ (by omega)) (λj _=>ah _) H B).mono λe w' ⟨N,z⟩=>?_
    have W:0+zs.length+ [b9 .i64 b].length<=cur.toList.length:=by rw[hcur];simp;omega
    rw[E3 bC ag W B]at z;subst z;refine⟨_,N,.of (n:=zs.length+1) (cs:=(zs++[b]).map (b9 .i64)) ⟨by simp,.inr ⟨g,cap,_,rfl,hb,cO w g _ _ _ _ hg,c,h2,by rw[fG,Gk W,hcur,iO],?_⟩⟩ (by simp) V,Cc w g _,.inl V⟩;have:=Aer W;rw[iO,show zs.length+1=0+zs.length+ [b9 .i64 b].length by simp,this,iP,aj];simp
   ·refine(Any2.slices_Insert_int_end_grow Tryz.laysI (iU ⟨g,0,iT⟩) zs.length cap G 0 1 J (zs.map (b9 .i64)) [.int .i64 b] w (by omega) h1 (by omega) (by omega) Z V (λh=>by cases h) (λa ha j x hx=>by cases ha;exact I.cells (g:=g) V j x hx) H B).mono λe w' ⟨N,z⟩=>?_
    subst z;refine⟨_,N,MK w (n:=zs.length+1) (old:=cap) (xs:=zs++[b]) F (by simp) ac (cur:=_) ?_ ?_ (cL w.drew _),⟨rfl,rfl,rfl,by simp,λk hk _=>cM w.drew _ hk⟩,.inr V⟩
    ·have:=cJ w (zs.length+1) cap 3;simp only[aE,fG,cP,eD,eH,eE,eI];show zs.length+(0+1)+(cI w (zs.length+1) cap 3 - (zs.length+1)) * 1=cI w (zs.length+1) cap 3;omega
    ·rw[aF,fK (by simp),fN (by simp)];simp
  ·have ae:i < zs.length:=by omega
   have O:(((zs.map (b9 .i64)).drop i)).length=zs.length - i:=by simp
   have ak:∀x∈(zs.map (b9 .i64)).drop i,x.oneCell'=aJ:=λx hx=>N6 zs x (eY hx)
   by_cases c:zs.length+1<=cap
   ·refine(Any2.slices_Insert_int_shift Tryz.laysI g 0 zs.length cap i G 0 1 J (zs.map (b9 .i64)) [.int .i64 b] w ae (by omega) c (by unfold cN at h2;omega) ap Z V ai (λj hj=>ab j (by omega)) (λj _=>ah _) H (N6 zs) B 3 3 E.size cur.size (by simp[cF,aa]) (by simp[cF,hg]) (by omega) (by simp[cD,aa]) (by simp[cD,aa])).mono λe w' ⟨N,z⟩=>?_
    have m:0+(i+1)+((zs.map (b9 .i64)).drop i).length<=cur.toList.length:=by rw[hcur,O];omega
    have X:w.drew.heap[g]? =iU (.cells cur.toList.toArray 3 (0,0)):=ag;rw[E3 bC X m ak]at z;have Y:=cO w.drew g _ (Hz cur.toList (0+(i+1)) ((zs.map (b9 .i64)).drop i)).toArray _ _ X;have A:0+i+ [b9 .i64 b].length<=(Hz cur.toList (0+(i+1)) ((zs.map (b9 .i64)).drop i)).length:=by rw[Gk m,hcur];simp;omega
    rw[E3 bC Y A B,setRow_setRow]at z;subst z;refine⟨_,N,.of (n:=zs.length+1) (cs:=(zs.take i++b::zs.drop i).map (b9 .i64)) ⟨by simp;omega,.inr ⟨g,cap,_,rfl,hb,cO w.drew g _ _ _ _ X,c,h2,by rw[fG,Gk A,Gk m,hcur,iO],?_⟩⟩ hl.symm V,⟨(Cc w.drew g _).os,(Cc w.drew g _).tape,(Cc w.drew g _).output,(Cc w.drew g _).size,(Cc w.drew g _).block⟩,.inl V⟩;rw[iO,fS,iP,iP,Z6 (n:=zs.length) hi (by rw[hcur];exact c) O];have e:=congrArg (fH i) aj;rw[fQ,iN hi]at e;rw[e];simp
   ·refine(Any2.slices_Insert_int_grow Tryz.laysI g 0 zs.length cap i G 0 1 J (zs.map (b9 .i64)) [.int .i64 b] w ae (by omega) h1 (by omega) (by omega) Z V ai H (N6 zs) B).mono λe w' ⟨N,z⟩=>?_
    have hG:=cJ w (zs.length+1) cap 3;obtain⟨s,aq,L,al⟩:∃s:List bY,(((zs.map (b9 .i64)).take i).toArray++Builtin.zeroCells (b9 .i64 0).cells (zs.length+1 - i)++Builtin.zeroCells (b9 .i64 0).cells (cI w (zs.length+1) cap 3 - (zs.length+1)))=s.toArray/\s.length=cI w (zs.length+1) cap 3/\s.take i=(zs.map (b9 .i64)).take i:=by
     refine⟨_,(Array.toArray_toList (xs:=_)).symm,?_,?_⟩
     ·have e1:(b9 .i64 0).cells.size=1:=rfl;simp only[Array.length_toList,aE,fG,cP,eJ,eH,e1];omega
     ·rw[aF,aF,cX];exact fL (by simp;omega)
    have z:w'=(((w.alloc (.cells s.toArray 3)).drew.setCells w.heap.size i [.int .i64 b]).drew).setCells w.heap.size (i+1) ((zs.map (b9 .i64)).drop i):=by
     rw[<-aq];exact z
    have af:(w.alloc (.cells s.toArray 3)).drew.heap[w.heap.size]? =iU (.cells s.toArray 3 (0,0)):=cL w _;have m:i+ [b9 .i64 b].length<=s.length:=by rw[L];simp;omega
    rw[E3 bC af m B]at z;have Y:=cO (w.alloc (.cells s.toArray 3)).drew w.heap.size _ (Hz s i [.int .i64 b]).toArray _ _ af;have A:i+1+((zs.map (b9 .i64)).drop i).length<=(Hz s i [.int .i64 b]).length:=by rw[Gk m,L,O];omega
    have Q:((w.alloc (.cells s.toArray 3)).drew.setRow w.heap.size (Hz s i [.int .i64 b]).toArray).drew.heap[w.heap.size]? =iU (.cells (Hz s i [.int .i64 b]).toArray 3 (0,0)):=Y;rw[E3 bC Q A ak]at z;have U:=cO ((w.alloc (.cells s.toArray 3)).drew.setRow w.heap.size (Hz s i [.int .i64 b]).toArray).drew w.heap.size _ (Hz (Hz s i [.int .i64 b]) (i+1) ((zs.map (b9 .i64)).drop i)).toArray _ _ Q;rw[<-z]at U;refine⟨_,N,MK w (n:=zs.length+1) (old:=cap) F hl ac (cur:=_) ?_ ?_ U,?_,.inr V⟩
    ·rw[fG,Gk A,Gk m,L]
    ·rw[fS,Z5 (n:=zs.length) hi (by rw[L];exact hG) O,al];simp
    ·have k1:w.grownBy (w.alloc (.cells s.toArray 3)).drew (iU w.heap.size):=⟨rfl,rfl,rfl,by simp[cC],λk hk _=>cM w _ hk⟩
     subst z;refine⟨rfl,rfl,rfl,by simp[cC,cE],λk hk _=>?_⟩;have ad:k≠w.heap.size:=by omega
     have a1:=(Cc ((w.alloc (.cells s.toArray 3)).drew.setRow w.heap.size (Hz s i [.int .i64 b]).toArray).drew w.heap.size (Hz (Hz s i [.int .i64 b]) (i+1) ((zs.map (b9 .i64)).drop i)).toArray).block k (by simp[cC,cE];omega) (λe=>ad (by injection e));have a2:=(Cc (w.alloc (.cells s.toArray 3)).drew w.heap.size (Hz s i [.int .i64 b]).toArray).block k (by simp[cC];omega) (λe=>ad (by injection e));exact a1.trans (a2.trans (cM w _ hk))
section
variable{C:Ctx}{t:List AV}{h:List fT}{o:aR}{K:St->Prop}
theorem Ab9{x y z:aS}{Y:Array bX}{ver k m:Nat}{l:List Int}{n b:Int}(ad:i≠k)(ho:o.op= .call {callee:=.value (.func 188),args:=#[x,y,z],argTypes:=Y})(hx:evA t x= .own i ver)(hi:h[i]? =iU (.row ver 3 tInt l))(hy:evA t y= .lit (.int .i64 n))(hn:0<=n/\n.toNat<=l.length)
 (hz:evA t z= .own k m)(hk:h[k]? =iU (.row m 3 tInt [b]))(hl:l.length<=2147483648)
 (hK:K ⟨Bl t o.dst (.own i (ver+1)),h.set i (.row (ver+1) 3 tInt (l.take n.toNat++b::l.drop n.toNat))⟩):AOp bC C o ⟨t,h⟩ K:=by
 rintro Q' a w ⟨hd,S,ψ,H,u⟩;refine⟨λc e=>(by rw[ho]at e;cases e),?_⟩;have E:=Bv u x;have B:=Bv u y;have A:=Bv u z;rw[show evA (St.mk t h).t x= .own i ver from hx]at E;rw[show evA (St.mk t h).t y=_ from hy]at B;rw[show evA (St.mk t h).t z= .own k m from hz]at A;unfold gB at E B A;have hv:=(E.2 _ (by rw[hi];rfl)).2 V;have hu:=(A.2 _ (by rw[hk];rfl)).2 V;have W:=H.blk i _ hi;have G:=W.lt V;obtain⟨hO,hw⟩:=JI W;obtain⟨af,Z⟩:=JI (H.blk k _ hk);have ac:∀g,(ψ i).ownBlock=iU g->(ψ k).ownBlock≠iU g:=λg h1 h2=>by
  refine H.dis i k ad (by rw[hi];rfl) (by rw[hk];rfl) g ?_ ?_
  ·rw[hi];exact AU h1
  ·rw[hk];exact AU h2
 have ab:n=((n.toNat:Nat):Int):=by omega
 unfold Oper.wp;rw[Cv ho (by kernel_rfl) a.eval w V];simp only[Oper.upon];rw[show(#[x,y,z].map a.eval)= #[ψ i,.int .i64 ((n.toNat:Nat):Int),ψ k]from by simp[hv,hu,B,<-ab]];refine(Z4 hO af hn.2 hl ac (iQ _)).mono ?_;rintro r w' ⟨v',rfl,O,I,N⟩;have v:(ψ i).ownBlock=Bu (ψ i):=by
  rcases hO.2 with⟨e1,_⟩|⟨g',cap,cur,e1,_⟩ <;> rw[e1] <;> rfl
 have ae:∀g,Bu v'=iU g->v'.ownBlock=iU g:=λg hg=>by
  rcases O.2 with⟨e1,_⟩|⟨g',cap,cur,e1,_⟩
  ·rw[e1]at hg;simp[Bu]at hg
  ·rw[e1]at hg⊢;simpa[Bu,Value.ownBlock]using hg
 have U:∀g,(ψ i).ownBlock=iU g->¬C.N g/\¬S g:=λg hg=>⟨(G g (AU hg)).1,(G g (AU hg)).2.2⟩
 have L:∀q,S q->w'.heap[q]? =w.heap[q]?:=λq hq=>I.block q (H.lt q hq) λe=>(U q e.symm).2 hq
 have X:Ext w S h ψ w' S (h.set i (.row (ver+1) 3 tInt (l.take n.toNat++b::l.drop n.toNat))) (Bo ψ i v'):=Ext.set L hi (λc' hc=>by
  simp only[fX,iV]at hc;exact⟨ver,rfl,by omega,λe=>by omega⟩) λh=>by simp[AZ]at h
 have Q:∀g,v'.ownBlock=iU g->¬C.N g/\¬S g:=λg hg=>by
  rcases N with e1|e1
  ·rw[e1]at hg;exact U g hg
  ·rw[e1]at hg;cases hg;exact⟨λhN=>by have:=H.nlt _ hN;have:=H.bel.size;omega,λhS=>by have:=H.lt _ hS;omega⟩
 have aa:Bg (l.take n.toNat++b::l.drop n.toNat):=λr hr=>by
  rcases eO.1 hr with h1|h1
  ·exact hw r (eZ h1)
  ·rcases eR.1 h1 with h1|h1
   ·rw[h1];exact Z b (by simp)
   ·exact hw r (eY h1)
 refine⟨_,hK,Iw (s:=⟨t,h⟩) hi hd u (H.set hi V (Bs (by rw[<-v];exact I)) X (LE O aa Q) λg hg=>?_) X ?_⟩
 ·have F:=ae g hg;rcases N with e1|e1
  ·left;show Bu (ψ i)=iU g;rw[<-v,<-e1];exact F
  ·right;rw[e1]at F;cases F;exact iI _
 ·unfold gB;refine⟨by simp[(dX.1 hi).1],λc' J=>?_⟩;rw[dZ (dX.1 hi).1]at J;simp only[fX,iV]at J;exact⟨by omega,λ_=>by rw[Bj]⟩
end
end Mu
namespace Mu
open Go Go.RowKit Go.Proofs
variable{K:St->Prop}{Q:Exit->St->Prop}{e:bX}{f:gO}{hP1:Int}{l':List AV}{n:Int}{q:Int->M Bool}{r:List Int}{s:St}{ty:bX}{tys:Array bX}{v:bY}{ver:Nat}{x:aS}{y:Code}
theorem Sm{xs:List Int}{x:Int}{w:cA}{S:Nat->Prop}(h:tInt.slice.RS w S [v] xs)(G:xs.length<=2147483648):
 aL bC 39 #[v,.int .i64 x] w λe w'=>e= .returned (.bool (xs.contains x))/\w=w':=by
 obtain⟨A,c,rfl⟩:=Ci h;by_cases z:xs= []
 ·subst z;refine(Tryz.slices_Contains_int_empty _ _ _ _).mono λe w' ⟨m,u⟩=>⟨m,u.symm⟩
 ·have g:0 < xs.length:=List.length_pos_iff.2 z;obtain⟨b,o,e,_⟩:=LT h (dV g);cases e;refine(Tryz.slices_Contains_int b o xs.length c xs x w (iI _) (by omega) (λj B=>?_)).mono λe w' ⟨m,u⟩=>?_
  ·obtain⟨b',F,E,_,hc,_⟩:=LT h (dV B);cases E;rw[hc];simp[List.getD,B]
  ·rw[fM]at m;exact⟨m,u.symm⟩
theorem Jn(xs:List Int)(x:Int)(B:xs.length<=2147483648):Fn bC 39 [.bs tInt xs,.lit (.int .i64 x)] (.lit (.bool (xs.contains x))):=by
 refine⟨by kernel_rfl,λw S vs F c=>?_⟩;unfold Ae at c;obtain⟨v,G,rfl,h1,h2⟩:=c;obtain⟨u,z,rfl,m,g⟩:=by unfold Ae at h2;exact h2
 unfold Ae at g;subst g;unfold gB at h1 m;subst m;refine(Sm h1 B).mono λe w' ⟨E,A⟩=>?_
 subst A;exact⟨_,E,bT _ _,S,λ_ h=>h,λ_ h=>.inl h,F,by unfold gB;rfl⟩
def Ty.sliceN{α:Type}(T:Ty α):Ty (List α) where
 size:=1
 bulk:=T.slice.bulk
 RS:=λw S cs ds=>T.slice.RS w S cs ds/\(ds= []->cs= [.slice iT 0 0])
 len:=λh=>T.slice.len h.1
 keepS:=λh c g=>⟨T.slice.keepS h.1 c g,h.2⟩
theorem Ty.sliceN_nilS{α:Type}(T:Ty α)(w:cA)(S:Nat->Prop):T.sliceN.RS w S [.slice iT 0 0] []:=⟨T.slice_nilS w S,λ_=>rfl⟩
section
variable{P:aT}{C:Ctx}{t:List AV}{h:List fT}{o:aR}{α:Type}{T:Ty α}
theorem Arn{l:List α}(g:(!l.isEmpty)=aJ):Fit h T.sliceN (.bs T l) l:=λC S ψ w v H c=>⟨Fit.bs C S ψ w v H c,λe=>by subst e;cases g⟩
theorem Aam(T:Ty α):Enc T.sliceN λl=>[.bs T l]:=λw S h ψ cs d H=>UL T w S h ψ cs d H.1
theorem Aq0(T:Ty α):Enc T.sliceN λl=>[.tv T.sliceN l]:=λw S h ψ cs d H=>by
 obtain⟨A,c,rfl,_⟩:=id H.1;unfold Ae;refine⟨_,_,rfl,?_,?_⟩
 ·unfold gB;exact H
 ·unfold Ae;rfl
instance Ay1(T:Ty α):EncOf T.sliceN λl=>[.bs T l]:=⟨Aam T,λw S cs d H=>one1_slice w S cs d H.1,Nat.zero_lt_one⟩
theorem QC{n i k off:Nat}{l:List (List α)}{d:List α}[AG P ty aH n](c:o.op= .load ty x)(hx:evA t x= .rp i ver k off)(hi:h[i]? =iU (.row ver e T.sliceN l))(hk:l[k]? =iU d)(h0:off=0:=by rfl):AT P C t h o (.tv T.sliceN d):=by
 subst h0;exact D9 c AG.eq hx (KY.rp hi hk (Aq0 T)) V
theorem At6{w:cA}{S:Nat->Prop}{l:List α}(g:T.sliceN.RS w S [v] l):∃A n c,v= .slice A n c/\A.isNone=l.isEmpty:=by
 obtain⟨⟨A,c,e,m,hc,hi⟩,h2⟩:=g;cases e;refine⟨A,_,_,rfl,?_⟩;cases l with
 |nil=>cases h2 rfl;rfl
 |cons x l=>
  obtain⟨b,o,rfl,_⟩:=hi 0 x V;rfl
theorem Acy(h:GG P ty=aJ):∃e,P.underlying ty=iU (.slice e):=by
 unfold GG at h;split at h
 ·exact⟨_,by assumption⟩
 ·cases h
theorem Xq{m z:bX}{y:aS}{l:List α}[SL P m](u:o.op= .binOp .eql m x y z)(hx:evA t x= .tv T.sliceN l)(B:evA t y= .lit (.slice iT 0 0)):AT P C t h o (.lit (.bool l.isEmpty)):=
 AL λS ψ w ρ _ g=>by
  have h1:=g x (by simp[u,Op.operands]);have h2:=g y (by simp[u,Op.operands]);rw[hx]at h1;rw[B]at h2;unfold gB at h1 h2;obtain⟨A,n,c,E,G⟩:=At6 h1;obtain⟨e,F⟩:=Acy (SL.eq (P:=P) (ty:=m));refine⟨.bool A.isNone,?_,by rw[G];unfold gB;rfl⟩;simp[cG,u,E,h2,eqGuard,binOp,run_equal_slice_nil _ _ _ _ _ _ F]
end
def IT(l:List Int):M (List Int):=gQ (aK (l.length<=2147483648)) (gU l)
theorem GD{l:List Int}(H:(IT l).to r):JA bC 92 [.bs tInt l] 3 tInt r:=by
 obtain⟨c,H⟩:=Ah.1 H;obtain rfl:=Ad.1 H;refine⟨by kernel_rfl,λw S vs E m=>?_⟩;unfold Ae at m;obtain⟨v,G,rfl,h1,h2⟩:=m;unfold Ae at h2;subst h2;unfold gB at h1;have g:tInt.slice.R w w.heap.size [v] l:=Ayb h1 E;obtain⟨A,I,rfl⟩:=Ci g;refine(U0 g (of_decide_eq_true c)).mono ?_;rintro e w' ⟨v',rfl,F,B⟩;refine⟨v',_,rfl,B,F,λi d u=>?_⟩;show tInt.RS w' S (((l.map (b9 .i64)).drop (i * 1)).take 1) d;have hi:(l.map (b9 .i64))[i]? =iU (.int .i64 d):=by rw[dY,u];rfl
 rw[iO,fO,eC,hi];obtain⟨_,_,_,_,z⟩:=LT g u;exact DJ.2 ⟨rfl,z.2⟩
def Ej(l:List Int)(n:Int):M Bool:=gQ (aK (l.length<=2147483648)) (gU (l.contains n))
theorem GU{l:List Int}{r:Bool}(H:(Ej l n).to r):Fn bC 39 [.bs tInt l,.lit (.int .i64 n)] (.lit (.bool r)):=by
 obtain⟨c,H⟩:=Ah.1 H;obtain rfl:=Ad.1 H;exact Jn l n (of_decide_eq_true c)
noncomputable section
def F1(f:gO):M (List (List Int)):=gQ (MQ f) (gU (GM f f.blocks.length))
theorem Ie{r:List (List Int)}(H:(F1 f).to r):Fn bC 154 [.agg (Ak f)] (.bs tInt.slice r):=by
 obtain⟨c,H⟩:=Ah.1 H;obtain rfl:=Ad.1 H;have g:=BM.1 c;exact Cu f g.ok g.small
def BO(g:List Int)(m:List Int):Int->M (Int⊕((Unit)⊕(Bool))):=λc=>gR (aK (c < (g.length:Int))) (gQ (Cm g c) (gQ (Cm m c) (gR ((ixD g c) !=(ixD m c)) (gU (.inr (.inr aH))) (gU (.inl (aN.wrap (c+1))))))) (gU (.inr (.inl ())))
def Cs(g:List Int)(c:List Int):M Bool:=gR ((g.length:Int) !=(c.length:Int)) (gU aH) (M.els (gT (BO g c) 0) λ_=>gU aJ)
theorem IC{A:List Int}{B:List Int}{r:Bool}(H:(Cs A B).to r):Fn bC 189 [.bs tInt A,.bs tInt B] (.lit (.bool r)):=by
 delta Cs at H;try dsimp only at H
 refine AQ Tryz.func189 V (by kernel_rfl) V Tryz.ntmps189 λC hC=>?_
 simp only[Nat.reduceAdd,Nat.reduceSub,zaa];refine wS (sT (wN ?_));refine Ab λX G=>?_
 refine wS (sT (sT (sT (sT (sT (wN ?_))))));refine Ag V (λm=>?_) (λm=>?_)
 ·have H:=AN m H;refine wS (sT (wN ?_));obtain rfl:=Ad.1 H;exact Aw ⟨.inr V,gJ V⟩
 ·have H:=AO m H;refine Al ?_;refine G _ ?_;refine nT ?_;obtain⟨Y,N,L,J⟩:=CH H;refine Bn (β:=(Unit)×(Unit)) (λO=>Y= .inl O.1) (λO=>⟨A20 (A6 []),[]⟩) ?_ ?_
  ·refine wS (sT (sT (sT (wN ?_))));refine Ac ?_;refine BB N (λZ b4=>⟨.bs tInt A::.bs tInt B::A10 (.lit (.int .i64 (A.length:Int))::.lit (.int .i64 Z)::A10 (A2 [])),[]⟩) () (?_) ?_
   ·try dsimp only
    exact AS
   ·rintro x3 _ x4 H z;try dsimp only
    dsimp only[BO]at H;refine wS (sT (wN ?_));refine Ab λW F=>?_
    refine Ag V (λg=>?_) (λg=>?_)
    ·have H:=AN g H;refine Al ?_;refine F _ ?_;refine nT ?_;refine Ab λU E=>?_
     refine Ac ?_;refine wS (sT (sT (wN ?_)));obtain⟨c8,H⟩:=Ah.1 H;obtain⟨c9,H⟩:=Ah.1 H;refine dS 9 (hq:=?_);refine qT (qT (qX c8 (qT (qT (qT (qX c9 (qT (qT (qN (wN ?_))))))))));refine Ag V (λc=>?_) (λc=>?_)
     ·have H:=AN c H;refine wS (sT (wN ?_));have H:=Ad.2 (J _ (z _ (Ad.1 H).symm).symm);obtain rfl:=Ad.1 H;exact Aw ⟨.inr V,gJ V⟩
     ·have H:=AO c H;refine Al ?_;refine E _ ?_;refine nT ?_;refine wSE (sT (sT (wN ?_)));have I:=Ad.1 H;repeat(first|refine abN ?_|refine asN ?_)
      refine An ⟨_,(),I.symm,?_⟩;try dsimp only
      exact AS
    ·have H:=AO g H;refine Ay ?_;repeat(first|refine BG ?_|refine exO (by decide) ?_|refine asE ?_)
     refine exN ?_;have I:=z _ (Ad.1 H).symm;repeat(first|refine abN ?_|refine asN ?_)
     refine An ⟨(_,()),I.symm,?_⟩;try dsimp only
     exact AS
  ·rintro⟨_,_⟩ u;try dsimp only at u
   have H:=L _ u;try dsimp only
   refine wS (sT (wN ?_));obtain rfl:=Ad.1 H;exact Aw ⟨.inr V,gJ V⟩
def Da(r1:List Int)(r2:List (List Int))(g:List (List Int))(c:Int):((List Int)×Bool×Int)->M (((List Int)×Bool×Int)⊕((List Int))):=λ(l29,some30,x31)=>gR (aK (x31 < ((ixD r2 (ixD r1 c)).length:Int))) (gP (gQ (Cm (ixD r2 (ixD r1 c)) x31) (gQ (Cm g (ixD (ixD r2 (ixD r1 c)) x31)) (gR ((ixD g (ixD (ixD r2 (ixD r1 c)) x31)).isEmpty) (gU (l29,some30)) (gR (!some30) (gQ (Cm g (ixD (ixD r2 (ixD r1 c)) x31)) (gU (ixD g (ixD (ixD r2 (ixD r1 c)) x31),aJ))) (gQ (Cm g (ixD (ixD r2 (ixD r1 c)) x31)) (gP (FZ l29 (ixD g (ixD (ixD r2 (ixD r1 c)) x31))) λm=>gU (m,some30))))))) λ(l38,some39)=>gU (.inl (l38,some39,aN.wrap (x31+1)))) (gU (.inr l29))
def CG(r1:List Int)(r2:List (List Int)):(Bool×Int×(List (List Int)))->M ((Bool×Int×(List (List Int)))⊕(Bool×(List (List Int)))):=λ(more12,x13,l15)=>gR (aK (x13 < (r1.length:Int))) (gP (gQ (Cm r1 x13) (gQ (Cm r2 (ixD r1 x13)) (gP (gT (Da r1 r2 l15 x13) ([],aH,0)) λA=>gP (gR ((ixD r1 x13) ==0) (gU []) (gU A)) λu=>gP (CY u (ixD r1 x13)) λc=>gP (gR (!c.2) (gP (IT u) λg=>gQ (wfB .i64 (ixD r1 x13)) (gQ (aK (0<=c.1/\cT c.1<=g.length)) (gQ (aK (g.length<=2147483648)) (gU (fH (cT c.1) g++(ixD r1 x13)::dB (cT c.1) g))))) (gU u)) λm=>gQ (Cm l15 (ixD r1 x13)) (gP (Cs m (ixD l15 (ixD r1 x13))) λz=>gR (!z) (gQ (Cm l15 (ixD r1 x13)) (gQ (!m.isEmpty) (gU (aJ,l15.set (cT (ixD r1 x13)) m)))) (gU (more12,l15)))))) λ(more22,l24)=>gU (.inl (more22,aN.wrap (x13+1),l24))) (gU (.inr (more12,l15)))
def If(r1:List Int)(r2:List (List Int)):(Bool×(List (List Int)))->M ((Bool×(List (List Int)))⊕((List (List Int)))):=λ(more4,l6)=>gR more4 (gP (gT (CG r1 r2) (aH,0,l6)) λ(more17,l19)=>gU (.inl (more17,l19))) (gU (.inr l6))
def Db(f:gO):M (List (List Int)):=gP (JV f) λr1=>gP (F1 f) λr2=>gQ (VN (f.blocks.length:Int) 24) (gP (gT (If r1 r2) (aJ,fF (cT (f.blocks.length:Int)) [])) λc=>gU c)
theorem UF{r:List (List Int)}(H:(Db f).to r):Fn bC 176 [.agg (Ak f)] (.bs tInt.sliceN r):=by
 delta Db at H;try dsimp only at H
 refine AQ Tryz.func176 V (by kernel_rfl) V Tryz.ntmps176 λC hC=>?_
 simp only[Nat.reduceAdd,Nat.reduceSub,zaa];refine wS (sB (sT (wN ?_)));obtain⟨r1,k1,H⟩:=Aq.1 H;have k1:=UE k1;obtain⟨r2,k2,H⟩:=Aq.1 H;have k2:=Ie k2;refine dS 6 (hq:=?_);refine qT (qC k1 (qT (qC k2 (qT (qT (qN (wN ?_)))))));obtain⟨c3,H⟩:=Ah.1 H;refine wS (sT (sT (sT ?_)));(refine AC V (P6 1 V (T:=tInt.sliceN) (e:=27) (v:=.slice iT 0 0) (bytes:=24) ([]:List Int) V (by kernel_rfl) V (λw S=>tInt.sliceN_nilS w S) V V c3 ?_);refine D2 ?_ (Ap (Ap HT)));refine sT (wN ?_);obtain⟨z7,dd,dc⟩:=Aq.1 H;refine Bn (β:=((List (List Int)))×(Nat)) (λq7=>z7=q7.1) (λq7=>⟨A5 (.own 1 q7.2::A80 (A2 [])),[.dead,.row q7.2 27 tInt.sliceN q7.1]⟩) ?_ ?_
 ·refine wS (sT (wN ?_));refine Ac ?_;refine BB dd (λs7 b7=>⟨A3 (.bs tInt r1::.bs tInt.slice r2::.own 1 b7::.lit (.bool s7.1)::A80 [.any]),[.dead,.row b7 27 tInt.sliceN s7.2]⟩) 0 (?_) ?_
  ·try dsimp only
   exact leC (gH (gG (gI _)))
  ·rintro⟨cp,l6⟩ v5 x7 H db;try dsimp only
   dsimp only[If]at H;refine Ab λda ba=>?_
   refine wS (sT (wN ?_));refine Ag V (λX=>?_) (λX=>?_)
   ·have H:=AN X H;refine Al ?_;refine ba _ ?_;refine nT ?_;obtain⟨cj,bz,br⟩:=Aq.1 H;refine P0 (β:=(Bool×(List (List Int)))×(Nat)) (λz=>cj=z.1) (λz=>⟨A3 (.bs tInt r1::.bs tInt.slice r2::.own 1 z.2::.lit (.bool z.1.1)::A80 [.any]),[.dead,.row z.2 27 tInt.sliceN z.1.2]⟩) ?_ ?_
    ·refine Ac ?_;refine wS (sT (wN ?_));refine wS (sT (sT (sT (wN ?_))));refine Ac ?_;refine BB bz (λaa bi=>⟨A3 (.bs tInt r1::.bs tInt.slice r2::.own 1 bi::.lit (.bool aa.1)::A10 (A7 (.bs tInt r1::.lit (.int .i64 (r1.length:Int))::.lit (.int .i64 aa.2.1)::A40 (A20 [.any])))),[.dead,.row bi 27 tInt.sliceN aa.2.2]⟩) v5 (?_) ?_
     ·try dsimp only
      exact AS
     ·rintro⟨g,c,F⟩ aw df H bk;try dsimp only
      dsimp only[CG]at H;refine wS (sT (wN ?_));refine Ab λcz az=>?_
      refine Ag V (λW=>?_) (λW=>?_)
      ·have H:=AN W H;refine Al ?_;refine az _ ?_;refine nT ?_;obtain⟨ci,bx,bq⟩:=Aq.1 H;refine Bn (β:=(Bool×(List (List Int)))×(Nat)) (λu=>ci=u.1) (λu=>⟨A3 (.bs tInt r1::.bs tInt.slice r2::.own 1 u.2::.lit (.bool u.1.1)::A10 (A7 (.bs tInt r1::.lit (.int .i64 (r1.length:Int))::.lit (.int .i64 c)::A40 (A20 [.any])))),[.dead,.row u.2 27 tInt.sliceN u.1.2]⟩) ?_ ?_
       ·have H:=bx;refine Ac ?_;obtain⟨cx,H⟩:=Ah.1 H;refine wS (sX cx (sT (sT (wN ?_))));refine wS (sT (wN ?_));refine wS (sT (wN ?_));refine AE _ (SE 9 tInt V) ?_;obtain⟨cw,H⟩:=Ah.1 H;obtain⟨ch,bw,bo⟩:=Aq.1 H;refine Bn (β:=((List Int))×(Nat)) (λE=>ch=E.1) (λE=>⟨A3 (.bs tInt r1::.bs tInt.slice r2::.own 1 E.2::.lit (.bool g)::.any::.lit (.int .i64 (ixD r1 c))::.bs tInt E.1::A10 (A4 (.bs tInt r1::.lit (.int .i64 (r1.length:Int))::.lit (.int .i64 c)::A40 (A20 [.any])))),[.dead,.row E.2 27 tInt.sliceN F]⟩) ?_ ?_
        ·refine wS (sT (sT (sX cw (sT (sT (sT (wN ?_)))))));refine Ac ?_;refine BB bw (λah bh=>⟨A3 (.bs tInt r1::.bs tInt.slice r2::.own 1 bh::.lit (.bool g)::.any::.lit (.int .i64 (ixD r1 c))::.bs tInt ah.1::.lit (.bool ah.2.1)::A10 (A3 (.bs tInt r1::.lit (.int .i64 (r1.length:Int))::.lit (.int .i64 c)::A6 (.bs tInt (ixD r2 (ixD r1 c))::.lit (.int .i64 ((ixD r2 (ixD r1 c)).length:Int))::.lit (.int .i64 ah.2.2)::A40 (A10 (A2 [])))))),[.dead,.row bh 27 tInt.sliceN F]⟩) aw (?_) ?_
         ·try dsimp only
          exact AS
         ·rintro⟨dp,cb,ck⟩ Z de H bj;try dsimp only
          dsimp only[Da]at H;refine wS (sT (wN ?_));refine Ab λcy ay=>?_
          refine Ag V (λU=>?_) (λU=>?_)
          ·have H:=AN U H;refine Al ?_;refine ay _ ?_;refine nT ?_;obtain⟨cg,bv,bn⟩:=Aq.1 H;refine Bn (β:=((List Int)×Bool)×(Nat)) (λm=>cg=m.1) (λm=>⟨A3 (.bs tInt r1::.bs tInt.slice r2::.own 1 m.2::.lit (.bool g)::.any::.lit (.int .i64 (ixD r1 c))::.bs tInt m.1.1::.lit (.bool m.1.2)::A10 (A3 (.bs tInt r1::.lit (.int .i64 (r1.length:Int))::.lit (.int .i64 c)::A6 (.bs tInt (ixD r2 (ixD r1 c))::.lit (.int .i64 ((ixD r2 (ixD r1 c)).length:Int))::.lit (.int .i64 ck)::A40 (A10 (A2 [])))))),[.dead,.row m.2 27 tInt.sliceN F]⟩) ?_ ?_
           ·have H:=bv;refine Ac ?_;obtain⟨cv,H⟩:=Ah.1 H;refine wS (sX cv (sT (sT (wN ?_))));refine Ac ?_;obtain⟨bg,H⟩:=Ah.1 H;refine wS (sT (sT ?_));refine sA ?_ (Cb V (As (Ao Iy)) V (As (Ao Hd)) V bg) (Ar (Ap (Ap HU)));refine sA ?_ (QC V (As (Ao (Ao IG))) V (BS bg)) (Ar (Ap (Ap JH)));refine sA ?_ (Xq V (As (Ao (Ao GP))) Acf) (Ar (Ap (Ap Mk)));refine sT (wN ?_);refine Ag V (λO=>?_) (λO=>?_)
            ·have H:=AN O H;refine Al ?_;have Y:=Ad.1 H;repeat(first|refine abN ?_|refine asN ?_)
             refine An ⟨(_,Z),Y.symm,?_⟩;try dsimp only
             exact AS
            ·have H:=AO O H;refine wS (sT (sT (sT (wN ?_))));refine Ag V (λN=>?_) (λN=>?_)
             ·have H:=AN N H;obtain⟨bf,H⟩:=Ah.1 H;refine wSE (sT (sT ?_));refine sA ?_ (Cb V (As (Ao (Ao Iy))) V (As (Ao (Ao Hd))) V bf) (Ar (Ap (Ap (Ap HU))));refine sA ?_ (Bq V (As (Ao (Ao (Ao IG)))) V (BS bf) V) (Ar (Ap (Ap (Ap JH))));refine sT (sT (wN ?_));have Y:=Ad.1 H;repeat(first|refine abN ?_|refine asN ?_)
              refine An ⟨(_,Z),Y.symm,?_⟩;try dsimp only
              exact AS
             ·have H:=AO N H;obtain⟨be,H⟩:=Ah.1 H;obtain⟨dj,al,H⟩:=Aq.1 H;have al:=Sj al;refine wSE (sT (sT (sT ?_)));refine sA ?_ (Cb V (As (Ao IG)) V (As (Ao GP)) V be) (Ar (Ap Mk));refine sA ?_ (Bq V (As (Ao FG)) V (BS be) V) (Ar (Ap JG));(refine AC V (Dy 2 V V al (by decide) CO (.cons (.cl V) (.cons (.cl V) .nil)) ?_);refine D2 ?_ (Ar (Ap Ka)));refine sT (wN ?_);have Y:=Ad.1 H;repeat(first|refine abN ?_|refine asN ?_)
              refine An ⟨(_,Z),Y.symm,?_⟩;try dsimp only
              refine(YX hC 2 V (by(simp only[fzH,Eh,fZ,fU,eL,eN,Nat.reduceEqDiff,zan,zag];first|done|exact V)) (by(simp only[fzH,Eh,fZ,fU,eL,eN,Nat.reduceEqDiff,zan,zag];first|done|exact V))).trans ?_;exact leC (gG (gG (gI _)))
           ·rintro⟨⟨dm,ca⟩,cm⟩ ad;try dsimp only at ad
            have H:=bn;rw[ad]at H;try dsimp only at H⊢
            refine wSE (sT (sT (wN ?_)));have ao:=Ad.1 H;repeat(first|refine abN ?_|refine asN ?_)
            refine An ⟨_,cm,ao.symm,?_⟩;try dsimp only
            exact AS
          ·have H:=AO U H;refine Ay ?_;repeat(first|refine BG ?_|refine exO (by decide) ?_|refine asE ?_)
           refine exN ?_;have ao:=bj _ (Ad.1 H).symm;repeat(first|refine abN ?_|refine asN ?_)
           refine An ⟨(_,Z),ao.symm,?_⟩;try dsimp only
           exact AS
        ·rintro⟨dn,av⟩ ae;try dsimp only at ae
         have H:=bo;rw[ae]at H;try dsimp only
         obtain⟨cf,bu,bm⟩:=Aq.1 H;refine Bn (β:=((List Int))×(Nat)) (λB=>cf=B.1) (λB=>⟨A3 (.bs tInt r1::.bs tInt.slice r2::.own 1 B.2::.lit (.bool g)::.any::.lit (.int .i64 (ixD r1 c))::.bs tInt B.1::A10 (A4 (.bs tInt r1::.lit (.int .i64 (r1.length:Int))::.lit (.int .i64 c)::A40 (A20 [.any])))),[.dead,.row B.2 27 tInt.sliceN F]⟩) ?_ ?_
         ·have H:=bu;refine wS (sT (sT (wN ?_)));refine Ag V (λL=>?_) (λL=>?_)
          ·have H:=AN L H;refine wSE (sT (wN ?_));have an:=Ad.1 H;repeat(first|refine abN ?_|refine asN ?_)
           refine An ⟨(_,av),an.symm,?_⟩;try dsimp only
           refine(SE 9 tInt V).trans ?_;exact AS
          ·have H:=AO L H;refine Al ?_;have an:=Ad.1 H;repeat(first|refine abN ?_|refine asN ?_)
           refine An ⟨(_,av),an.symm,?_⟩;try dsimp only
           exact AS
         ·rintro⟨dl,au⟩ ac;try dsimp only at ac
          have H:=bm;rw[ac]at H;try dsimp only
          obtain⟨di,ak,H⟩:=Aq.1 H;have ak:=E2 ak;refine wS (sT (sT (sC ak (sT (sT (sT (sT (sT (wN ?_)))))))));obtain⟨ce,bt,bl⟩:=Aq.1 H;refine Bn (β:=((List Int))×(Nat)) (λA=>ce=A.1) (λA=>⟨A3 (.bs tInt r1::.bs tInt.slice r2::.own 1 A.2::.lit (.bool g)::.any::.lit (.int .i64 (ixD r1 c))::.bs tInt A.1::A10 (A4 (.bs tInt r1::.lit (.int .i64 (r1.length:Int))::.lit (.int .i64 c)::A40 (A20 [.any])))),[.dead,.row A.2 27 tInt.sliceN F]⟩) ?_ ?_
          ·have H:=bt;refine wS (sT (sT (wN ?_)));refine Ag V (λJ=>?_) (λJ=>?_)
           ·have H:=AN J H;obtain⟨dh,aj,H⟩:=Aq.1 H;have aj:=GD aj;obtain⟨cu,H⟩:=Ah.1 H;obtain⟨ct,H⟩:=Ah.1 H;obtain⟨cr,H⟩:=Ah.1 H;refine wSE (sT ?_);(refine AC V (Dy 2 V V aj (by decide) CO (.cons (.cl V) .nil) ?_);refine D2 ?_ (Ar (Ar HT)));refine sT (sT ?_);(refine AC V (SQ 3 V (xs:=[.tmp 72]) (T:=tInt) (ds:=[ixD r1 c]) V V V (RT.eq (n:=1) (bytes:=8)) (by decide) (by decide) (.cons (gN cu) .nil) ?_);refine D2 ?_ (Ar (Ar (Ap JH))));(refine AC V (Ab9 (by decide) V V V V (of_decide_eq_true ct) V V (of_decide_eq_true cr) ?_);refine D2 ?_ (Ar (Ar (Ap Mk))));refine sT (wN ?_);have am:=Ad.1 H;repeat(first|refine abN ?_|refine asN ?_)
            refine An ⟨(_,au),am.symm,?_⟩;try dsimp only
            refine(YX hC 2 V (by(simp only[fzH,Eh,fZ,fU,eL,eN,Nat.reduceEqDiff,zan,zag];first|done|exact V)) (by(simp only[fzH,Eh,fZ,fU,eL,eN,Nat.reduceEqDiff,zan,zag];first|done|exact V))).trans ?_;exact leC (gG (gG (gI _)))
           ·have H:=AO J H;refine Al ?_;have am:=Ad.1 H;repeat(first|refine abN ?_|refine asN ?_)
            refine An ⟨(_,au),am.symm,?_⟩;try dsimp only
            exact AS
          ·rintro⟨dk,ar⟩ ab;try dsimp only at ab
           have H:=bl;rw[ab]at H;try dsimp only
           obtain⟨bc,H⟩:=Ah.1 H;obtain⟨dg,ai,H⟩:=Aq.1 H;have ai:=IC ai;refine wS (sT (sT (sT ?_)));refine sA ?_ (Cb V (As (As (Ao GO))) V (As (As (Ao Fq))) V bc) (Ar (Ar (Ap HT)));refine sA ?_ (Bq V (As (As (Ao Iy))) V (BS bc) V) (Ar (Ar (Ap Hy)));refine sC ai (sT (wN ?_));refine Ag V (λI=>?_) (λI=>?_)
           ·have H:=AN I H;obtain⟨bb,H⟩:=Ah.1 H;obtain⟨cq,H⟩:=Ah.1 H;refine wSE (sT (sT (sT ?_)));refine sA ?_ (Cb V (As (As (Ao (Ao FG)))) V (As (As (Ao (Ao FF)))) V bb) (Ar (Ar (Ap (Ap GY))));(refine AC V (Dx V V V (BS bb) (Arn cq) V ?_);refine D2 ?_ RG);refine sT (wN ?_);have ap:=Ad.1 H;repeat(first|refine abN ?_|refine asN ?_)
            refine An ⟨(_,ar),ap.symm,?_⟩;try dsimp only
            exact AS
           ·have H:=AO I H;refine Al ?_;have ap:=Ad.1 H;repeat(first|refine abN ?_|refine asN ?_)
            refine An ⟨(_,ar),ap.symm,?_⟩;try dsimp only
            exact AS
       ·rintro⟨⟨cc,dq⟩,cn⟩ af;try dsimp only at af
        have H:=bq;rw[af]at H;try dsimp only at H⊢
        refine wSE (sT (sT (wN ?_)));have aq:=Ad.1 H;repeat(first|refine abN ?_|refine asN ?_)
        refine An ⟨_,cn,aq.symm,?_⟩;try dsimp only
        exact AS
      ·have H:=AO W H;refine Ay ?_;repeat(first|refine BG ?_|refine exO (by decide) ?_|refine asE ?_)
       refine exN ?_;have aq:=bk _ (Ad.1 H).symm;repeat(first|refine abN ?_|refine asN ?_)
       refine An ⟨(_,aw),aq.symm,?_⟩;try dsimp only
       exact AS
    ·rintro⟨⟨cd,dr⟩,co⟩ aa ag G;try dsimp only at ag
     try dsimp only at G
     have H:=br;rw[ag]at H;try dsimp only at H
     have e7:=Ad.1 H;repeat(first|refine abN ?_|refine asN ?_)
     refine An ⟨_,co,e7.symm,?_⟩;try dsimp only
     refine iC G ?_;exact AS
   ·have H:=AO X H;refine Ay ?_;repeat(first|refine BG ?_|refine exO (by decide) ?_|refine asE ?_)
    refine exN ?_;have e7:=db _ (Ad.1 H).symm;repeat(first|refine abN ?_|refine asN ?_)
    refine An ⟨(_,v5),e7.symm,?_⟩;try dsimp only
    exact AS
 ·rintro⟨l9,v8⟩ ax;try dsimp only at ax
  have H:=dc;rw[ax]at H;try dsimp only
  refine wS (sT (sT (wN ?_)));obtain rfl:=Ad.1 H;exact Aw ⟨.inr V,gK V⟩
end
section
variable{h:List fT}{i:Nat}
inductive LendX(h:List ABlk)(i:Nat):List AV->List AV->Prop
 |nil:LendX h i [] []
 |boxI {j:Nat} {n:Int} {l l':List AV} (hij:i≠j) (hj:h[j]? =some (.box [.lit (.int .i64 n)])) (hw:wfB .i64 n=true) (hl:LendX h i l l'):LendX h i (.ptr j 0::l) (.bp tInt n 0::l')
 |boxS {j:Nat} {α:Type} {T:Ty α} {d:List α} {l l':List AV} (hij:i≠j) (hj:h[j]? =some (.box [.bs T d])) (hl:LendX h i l l'):LendX h i (.ptr j 0::l) (.bp T.slice d 0::l')
variable{C:Ctx}{w:cA}{S:Nat->Prop}{ψ:Nat->bY}
theorem Az0(H:HRel C h S ψ w)(F:fV h[i]? =aJ)(I:∀g,Bu (ψ i)=iU g->ftp h[i]? (ψ i) g){j:Nat}{x:AV}{α:Type}{T:Ty α}{d:α}(G:i≠j)(B:h[j]? =iU (.box [x]))(W:∀u,gB w S h ψ x u->T.RS w S [u] d)(X:∀k,S k->k < w.heap.size/\Bu (ψ i)≠iU k)(N:gB w S h ψ (.ptr j 0) v):
 gB w (λk=>k < w.heap.size/\Bu (ψ i)≠iU k) [] ψ0 (.bp T d 0) v:=by
 unfold gB at N⊢;obtain⟨g,hg,O⟩:=N.2 (by rw[B];rfl);obtain⟨g',cs,e',z,_,_,L,A⟩:=H.blk _ _ B;rw[hg]at z;cases z;have E:g < w.heap.size:=(aA.1 L).1;obtain⟨u,Y,rfl,U,m⟩:=by unfold Ae at A;exact A
 unfold Ae at m;subst m;refine⟨g,0,O,⟨E,λe=>?_⟩,[u],T.keepS (W u U) (λ_ _=>rfl) X,λJ Z c=>?_⟩
 ·exact H.dis i j G F (by rw[B];rfl) g (I g e) (by rw[B,hg];rfl)
 ·cases J with
  |zero=>
   simp only[dT,iV]at c;subst c;unfold cB;simp[L]
  |succ J=>simp at c
theorem LendX.rel(H:HRel C h S ψ w)(A:fV h[i]? =aJ)(B:∀g,Bu (ψ i)=iU g->ftp h[i]? (ψ i) g)(I:∀k,S k->k < w.heap.size/\Bu (ψ i)≠iU k){l:List AV}(L:LendX h i l l'):
 ∀{vs:List bY},Ae w S h ψ l vs->Ae w (λk=>k < w.heap.size/\Bu (ψ i)≠iU k) [] ψ0 l' vs:=by
 induction L with
 |nil=>intro vs c;unfold Ae at c⊢;exact c
 |boxI m G J _ F=>
  intro vs c;unfold Ae at c⊢;obtain⟨v,E,rfl,h1,h2⟩:=c;refine⟨v,E,rfl,Az0 H A B m G (λu z=>?_) I h1,F h2⟩;unfold gB at z;subst z;exact⟨rfl,J⟩
 |boxS m G _ F=>
  intro vs c;unfold Ae at c⊢;obtain⟨v,E,rfl,h1,h2⟩:=c;refine⟨v,E,rfl,Az0 H A B m G (λu z=>?_) I h1,F h2⟩;unfold gB at z;exact z
inductive LendF(h:List ABlk)(i:Nat):AV->AV->Prop
 |cl {x:AV} (hx:AV.cl x=true):LendF h i x x
 |fn {f:FuncId} {l l':List AV} (hl:LendX h i l l'):LendF h i (.fn f l) (.fn f l')
theorem LendF.of_eq{x y z:AV}(e:x=y)(c:LendF h i y z):LendF h i x z:=by rw[e];exact c
inductive LendFs(h:List ABlk)(i:Nat):List AV->List AV->Prop
 |nil:LendFs h i [] []
 |cons {x x':AV} {l l':List AV} (hx:LendF h i x x') (hl:LendFs h i l l'):LendFs h i (x::l) (x'::l')
theorem LendFs.rel(H:HRel C h S ψ w)(m:fV h[i]? =aJ)(z:∀g,Bu (ψ i)=iU g->ftp h[i]? (ψ i) g)(B:∀k,S k->k < w.heap.size/\Bu (ψ i)≠iU k){l:List AV}(u:LendFs h i l l'):
 ∀{vs:List bY},Ae w S h ψ l vs->Ae w (λk=>k < w.heap.size/\Bu (ψ i)≠iU k) [] ψ0 l' vs:=by
 induction u with
 |nil=>intro vs c;unfold Ae at c⊢;exact c
 |cons hx _ F=>
  intro vs c;unfold Ae at c⊢;obtain⟨v,E,rfl,h1,h2⟩:=c;refine⟨v,E,rfl,?_,F h2⟩;cases hx with
  |cl hc=>exact Dv _ _ hc (FN (Ext.grow h ψ (λ_ _=>rfl) B:Ext w S h ψ w (λk=>k < w.heap.size/\Bu (ψ i)≠iU k) h ψ) _ _ h1)
  |fn u=>
   unfold gB at h1⊢;obtain⟨cs,e,A⟩:=h1;exact⟨cs,e,u.rel H m z B A⟩
end
theorem VI{P:aT}{C:Ctx}{o:aR}{t:List AV}{h:List fT}{f:aM}{more:List aS}{args:Array aS}{i:Nat}{α:Type}{T:Ty α}{l l':List α}{xs:List AV}
 (ho:o.op= .call {callee:=.value (.func f),args:=args,argTypes:=tys})(ha:args.toList=x::more)(hF:Rv P f e T l xs l')(hx:evA t x= .own i ver)(hi:h[i]? =iU (.row ver e T l))(m:∀w S S' cs d,T.RS w S cs d->T.RS w S' cs d)(hm:LendFs h i (more.map (evA t)) xs)
 (hK:K ⟨Bl t o.dst (.own i (ver+1)),h.set i (.row (ver+1) e T l')⟩):AOp P C o ⟨t,h⟩ K:=by
 rintro Q' a w ⟨E,S,ψ,H,U⟩;refine⟨λc e=>(by rw[ho]at e;cases e),?_⟩;have u:=Bv U x;rw[show evA (St.mk t h).t x= .own i ver from hx]at u;unfold gB at u;have hv:=(u.2 _ (by rw[hi];rfl)).2 V;have I:=H.blk i _ hi;have z:=I.lt V;have W:∀g,Bu (ψ i)=iU g->ftp h[i]? (ψ i) g:=λg hg=>by rw[hi];exact hg
 have Y:∀k,S k->k < w.heap.size/\Bu (ψ i)≠iU k:=λk hk=>⟨H.lt k hk,λe=>(z k e).2.2 hk⟩
 have h1:Ae w S h ψ (more.map (evA t)) (more.map a.eval):=Cd λx _=>Bv U x
 have h2:=hm.rel H (by rw[hi];rfl) W Y h1;unfold Oper.wp;rw[Cv ho hF.1 a.eval w V];simp only[Oper.upon];have aa:Hv C.N w (λk=>k < w.heap.size/\Bu (ψ i)≠iU k) [] ψ0 (ψ i) (.row 0 e T l):=by
  obtain⟨cells,O,k0,N,L⟩:=I;exact⟨cells,O,k0,λj d E=>m _ _ _ _ _ (N j d E),λg hg=>⟨(L g hg).1,λJ=>J.2 (AU hg)⟩⟩
 have hc:=hF.2 C.N _ w (ψ i) (more.map a.eval) (λk hk=>iK (H.nlt k hk) H.bel.size) (λk hk=>hk.1) aa h2;rw[show(args.map a.eval)=(ψ i::more.map a.eval).toArray from by
  obtain rfl:args=(x::more).toArray:=by rw[<-ha]
  simp[hv]]
 refine hc.mono ?_;rintro r w' ⟨v',rfl,B,ab,A⟩;have G:∀k,S k->w'.heap[k]? =w.heap[k]?:=λk hk=>B.block k (H.lt k hk) λe=>(z k e.symm).2.2 hk
 have Z:Hv C.N w' S [] ψ0 v' (.row 0 e T l'):=by
  obtain⟨cells,O,k0,N,L⟩:=ab;refine⟨cells,O,k0,λj d E=>m _ _ _ _ _ (N j d E),λg hg=>⟨(L g hg).1,λJ=>?_⟩⟩;rcases A g (AU hg)with h3|h3
  ·exact(z g h3).2.2 J
  ·have:=H.lt g J;omega
 have X:Ext w S h ψ w' S (h.set i (.row (ver+1) e T l')) (Bo ψ i v'):=Ext.set G hi (λc' hc=>by
  simp only[fX,iV]at hc;exact⟨ver,rfl,by omega,λe=>by omega⟩) λh=>by simp[AZ]at h
 refine⟨_,hK,Iw (s:=⟨t,h⟩) hi E U (H.set hi V (Bs B) X Z A) X ?_⟩;unfold gB;refine⟨by simp[(dX.1 hi).1],λc' F=>?_⟩;rw[dZ (dX.1 hi).1]at F;simp only[fX,iV]at F;exact⟨by omega,λ_=>by rw[Bj]⟩
theorem VA{P:aT}{f:aM}{args:List AV}{α:Type}{T:Ty α}{l:List α}(H:JA P f args e T l):Aif P f args e T l:=
 ⟨H.1,λw S vs c z=>(H.2 w S vs c z).mono λr w' ⟨v,cells,h1,h2,m,A⟩=>⟨v,cells,h1,h2,m,S,λ_ h=>h,λ_ h=>.inl h,λk hk=>iK (c k hk) h2.size,A,λg hg u=>by
  have:=(m.lt g hg).1;have:=c g u;omega⟩⟩
noncomputable section
def Axx(q:Int->M Bool):List Int->M (List Int)
 | []=>gU []
 |x::l=>gP (q x) λb=>gP (Axx q l) λr=>gU (if b then r else x::r)
open Classical in
def Ats(q:Int->M Bool)(x:Int):Bool:=if h:∃b,(q x).to b then h.choose else aH
theorem Aqv{x:Int}{b:Bool}(h:(q x).to b):(q x).to (Ats q x):=by
 unfold Ats;rw[dif_pos ⟨b,h⟩];exact Exists.choose_spec (⟨b,h⟩:∃b,(q x).to b)
theorem Yy{q:Int->M Bool}:∀{l r:List Int},(Axx q l).to r->(∀x∈l,(q x).to (Ats q x))/\r=l.filter λx=>!Ats q x
 | [],r,h=>by
  obtain rfl:=Ad.1 h;exact⟨λx hx=>(by cases hx),rfl⟩
 |x::l,r,h=>by
  obtain⟨b,h1,h2⟩:=Aq.1 h;obtain⟨B,A,z⟩:=Aq.1 h2;obtain rfl:=Ad.1 z;obtain⟨u,m⟩:=Yy A;have c:=Aqv h1;have g:Ats q x=b:=Xh c h1;refine⟨λy hy=>?_,?_⟩
  ·rcases eR.1 hy with rfl|hy
   ·exact c
   ·exact u y hy
  ·rw[dG,g,<-m];cases b <;> rfl
theorem Aqw{l:List Int}(H:(Axx q l).to r)(u:l.length<=2147483648)(g:l.all (wfB .i64)=aJ){f:aM}{c:List AV}(m:∀x b,(q x).to b->Fn bC f (.lit (.int .i64 x)::c) (.lit (.bool b)))(hc:Bh c=true:=by rfl):
 Rv bC 177 3 tInt l [.fn f c] r:=by
 obtain⟨h1,rfl⟩:=Yy H;exact Alp l u (λx hx=>Xy (cU.1 g x hx)) f c hc (Ats q) λx hx=>m x _ (h1 x hx)
theorem Ag0{q:Int->M Bool}{p:Int->Bool}:∀{l:List Int},(∀x∈l,(q x).to (p x))->(Axx q l).to (l.filter λx=>!p x)
 | [],_=>Aj _
 |x::l,h=>by
  have h1:=Ag0 λy c=>h y (eS _ c)
  refine Am (h x (by simp)) (Am h1 ?_);rw[dG];cases p x <;> exact Aj _
instance As0:ZC bC 66 [.slice iT 0 0]:=⟨by kernel_rfl⟩
def Jj(c:Int)(g:List (List Int))(m:Int):M Bool:=gQ (Cm g c) (gP (Ej (ixD g c) m) λr2=>gU (!r2))
theorem Qn{c:Int}{u:List (List Int)}{g:Int}{r:Bool}(H:(Jj c u g).to r):Fn bC 178 [.lit (.int .i64 c),.bp tInt.sliceN.slice u 0,.bp tInt g 0] (.lit (.bool r)):=by
 delta Jj at H;try dsimp only at H
 refine AQ Tryz.func178 V (by kernel_rfl) V Tryz.ntmps178 λC z=>?_
 simp only[Nat.reduceAdd,Nat.reduceSub,zaa];refine wS (sT (wN ?_));obtain⟨g,H⟩:=Ah.1 H;obtain⟨r2,m,H⟩:=Aq.1 H;have m:=GU m;refine dS 8 (hq:=?_);refine qT (qT (qX g (qT (qT (qC m (qT (qT (qN (wN ?_)))))))));obtain rfl:=Ad.1 H;exact Aw ⟨.inr V,gJ V⟩
def FJ(f:gO)(hP1:Int):M (List Int):=gR ((aK (hP1 < 0))||(aK (hP1≥(f.blocks.length:Int)))) (gU ([]:List Int)) (gP (Db f) λu=>gP (F1 f) λm=>gQ (Cm m hP1) (gP (IT (ixD m hP1)) λc=>gQ (wfB .i64 hP1) (gQ (aK (c.length<=2147483648)) (gQ (c.all (wfB .i64)) (gP (Axx (λz=>Jj z u hP1) c) λg=>gU g)))))
theorem Np(H:(FJ f hP1).to r):JA bC 158 [.agg (Ak f),.lit (.int .i64 hP1)] 3 tInt r:=by
 delta FJ at H;try dsimp only at H
 refine Eg Tryz.func158 V (by kernel_rfl) V Tryz.ntmps158 CO λC hC=>?_
 simp only[Nat.reduceAdd,Nat.reduceSub,zaa];refine wS (sB ?_);(refine AC V (AOp.boxI 1 V V (PW.one (gX V)).weak ?_);refine D2 ?_ JG);refine sT (wN ?_);refine Ab λO L=>?_
 refine wS (sT (sT (sT ?_)));refine sGf V ?_;refine sGf V ?_;refine sGf V ?_;refine sGf V ?_;refine sGf V (sT (wN ?_));refine Ag V (λu=>?_) (λu=>?_)
 ·have H:=AN u H;refine wS (sT (wN ?_));obtain rfl:=Ad.1 H;refine AE _ (EB 4 3 tInt V (by decide)) ?_;exact Aw ⟨.inr V,rfl,2,0,rfl,rfl⟩
 ·have H:=AO u H;refine Al ?_;refine L _ ?_;refine nT ?_;obtain⟨A,J,H⟩:=Aq.1 H;have J:=UF J;refine wS (sT (sC J (sA0 (sW (wN ?_)))));obtain⟨z,I,H⟩:=Aq.1 H;have I:=Ie I;obtain⟨c5,H⟩:=Ah.1 H;obtain⟨X,G,H⟩:=Aq.1 H;have G:=VA (GD G);obtain⟨c7,H⟩:=Ah.1 H;obtain⟨c8,H⟩:=Ah.1 H;obtain⟨c9,H⟩:=Ah.1 H;obtain⟨B,m,H⟩:=Aq.1 H;have m:=Aqw m (of_decide_eq_true c8) c9 λ_ _ H=>Qn H
  refine AE ⟨.agg (Ak f)::.lit (.int .i64 hP1)::.ptr 0 0::.ptr 1 0::.lit (.slice iT 0 0)::.ptr 2 0::.lit (.int .i64 hP1)::.lit (.bool (aK (hP1 < 0)))::.lit (.bool (aK (hP1 < 0)))::A5 (.lit (.bool ((aK (hP1 < 0))||(aK (hP1≥(f.blocks.length:Int)))))::.agg (Ak f)::.bs tInt.sliceN A::A8 []),[.box (Ak f),.box [.lit (.int .i64 hP1)],.box [.bs tInt.sliceN A],.dead]⟩ (iC AS (KT 1 V)) ?_;refine Ab λU E=>?_
  refine P2 (n:=9) (λb=>⟨.agg (Ak f)::.lit (.int .i64 hP1)::.ptr 0 0::.ptr 1 0::(bif b 8 then .own 3 (0+1)else .lit (.slice iT 0 0))::.ptr 2 0::.lit (.int .i64 hP1)::.lit (.bool (aK (hP1 < 0)))::.lit (.bool (aK (hP1 < 0)))::A5 [.lit (.bool ((aK (hP1 < 0))||(aK (hP1≥(f.blocks.length:Int))))),.agg (Ak f),.bs tInt.sliceN A,(bif b 0 then .agg (Ak f)else .any),(bif b 1 then .bs tInt.slice z else .any),(bif b 2 then .lit (.int .i64 hP1)else .any),(bif b 3 then .bp tInt.slice (ixD z hP1) 0 else .any),(bif b 4 then .bs tInt (ixD z hP1)else .any),(bif b 5 then .own 3 0 else .any),(bif b 6 then .fn 178 [.ptr 2 0,.ptr 1 0]else .any),(bif b 7 then .own 3 (0+1)else .any)],[.box (Ak f),.box [.lit (.int .i64 hP1)],.box [.bs tInt.sliceN A],(bif b 7 then .row (0+1) 3 tInt B else(bif b 5 then .row 0 3 tInt X else .dead))]⟩) V (by kernel_rfl) (by kernel_rfl) ?_ (E _ ?_)
  ·refine BP (λb g c hc=>?_) ?_
   ·try dsimp only
    refine AX (AR V FG V V) ?_;exact iB
   refine BP (λb g c hc=>?_) ?_
   ·have h0:b 0=aJ:=c 0 _ V V;try dsimp only
    refine AX (AH V (Pb ((Ao (Ao GP)).trans (BJ h0 _ _)) V) I V V) ?_;exact iB
   refine BP (λb g c hc=>?_) ?_
   ·try dsimp only
    refine AX (Bf V FF V V) ?_;exact iB
   refine BP (λb g c hc=>?_) ?_
   ·have h1:b 1=aJ:=c 0 _ V V;have h2:b 2=aJ:=c 1 _ V V;try dsimp only
    refine AX (Fe V ((Ao (Ao FG)).trans (BJ h1 _ _)) ((Ao (Ao FF)).trans (BJ h2 _ _)) V c5) ?_;exact iB
   refine BP (λb g c hc=>?_) ?_
   ·have h3:b 3=aJ:=c 0 _ V V;try dsimp only
    refine AX (AA V ((Ao (Ao GO)).trans (BJ h3 _ _)) V) ?_;exact iB
   refine BP (λb g c hc=>?_) ?_
   ·have h4:b 4=aJ:=c 0 _ V V;have F:b 7=aH:=AW hc (i:=5) (j:=7) (k:=0) V V V V g;have Y:b 8=aH:=AW hc (i:=5) (j:=8) (k:=7) V V V V g;have W:upd b 5 7=aH:=F;try dsimp only
    refine Kr 3 V (Pb ((Ao (Ao Fq)).trans (BJ h4 _ _)) V) G (by decide) V (congrArg iU ((CT F _ _).trans (CT g _ _))) (by repeat(first|exact Afc|refine Gq V ?_|refine Gq (NL V V) ?_|refine Gq (NL V (NL V V)) ?_|refine Gq (NL V (NL V (NL V V))) ?_)) (by repeat(first|exact Afb|refine Fv V ?_|refine Fv (At5 g V) ?_|refine Fv (At5 F V) ?_|refine Fv (At5 Y V) ?_|refine Fv (Azx V V) ?_)) ?_;simp only[CT W];exact iB
   refine BP (λb g c hc=>?_) ?_
   ·try dsimp only
    refine AX (FK V) ?_;exact iB
   refine BP (λb g c hc=>?_) ?_
   ·have N:b 5=aJ:=c 0 _ V V;have Z:b 6=aJ:=c 1 _ V V;try dsimp only
    refine VI (i:=3) (more:=[.tmp 23]) V V m ((Ao (Ao Iy)).trans (BJ N _ _)) (congrArg iU ((CT g _ _).trans (Sp N _ _))) CO (.cons (.of_eq ((Ao (Ao Hd)).trans (BJ Z _ _)) (.fn (.boxS (j:=2) (by decide) V (.boxI (j:=1) (by decide) V c7 .nil)))) .nil) ?_;exact iB
   refine BP (λb g c hc=>?_) ?_
   ·have F:b 7=aJ:=c 0 _ V V;try dsimp only
    refine AX (AT.assign V ((Ao (Ao (Ao IG))).trans (BJ F _ _))) ?_;exact iB
   exact Agl
  ·refine AE ⟨.agg (Ak f)::.lit (.int .i64 hP1)::.ptr 0 0::.ptr 1 0::.own 3 (0+1)::.ptr 2 0::.lit (.int .i64 hP1)::.lit (.bool (aK (hP1 < 0)))::.lit (.bool (aK (hP1 < 0)))::A5 [.lit (.bool ((aK (hP1 < 0))||(aK (hP1≥(f.blocks.length:Int))))),.agg (Ak f),.bs tInt.sliceN A,.agg (Ak f),.bs tInt.slice z,.lit (.int .i64 hP1),.bp tInt.slice (ixD z hP1) 0,.bs tInt (ixD z hP1),.own 3 0,.fn 178 [.ptr 2 0,.ptr 1 0],.own 3 (0+1)],[.box (Ak f),.box [.lit (.int .i64 hP1)],.box [.bs tInt.sliceN A],.row (0+1) 3 tInt B]⟩ iB ?_;obtain rfl:=Ad.1 H;exact Aw ⟨.inr V,rfl,3,0+1,rfl,rfl⟩
end
def Amb(l:Nat)(J:St->Prop)(Q:Exit->St->Prop):Exit->St->Prop
 | .goto l',s=>l'=l/\J s
 |e,s=>Q e s
section
variable{P:aT}{C:Ctx}
inductive GoOn(P:Program)(C:Ctx)(l:Nat)(y:Code)(Q:Exit->St->Prop):St->Prop
 |mk {s:St} (J:St->Prop) (h:Awp P C y (Amb l J Q) s) (hJ:∀s',J s'->GoOn P C l y Q s'):GoOn P C l y Q s
theorem Ab2{c:Code}(l:Nat)(hf:findLabel c l=iU (.seq .skip y))(h:Awp P C c (Amb l (GoOn P C l y Q) Q) s):Awp P C (.scope c) Q s:=λa w H=>by
 intro b k cs W Y X;have hg:gotoIn l (.inScope c::k)=iU (.code (.seq .skip y)::.inScope c::k):=by simp[gotoIn,hf]
 have s1:∀m g,step P (lone (b.atR m (.inScope c::k)) cs g)= .next (lone (b.atR m k) cs g):=λm g=>step_lone_go (by simp[stepG,stepG.exec,Frame.atR])
 have h1:∀m g,(lone (b.atR m (.inScope c::k)) cs g).fenced P (fnc C.rd):=λm g=>fenced_calm Y X V
 have Z:∀s,GoOn P C l y Q s->∀a w,s.rel C a w->∃e a' w',(∃B,Q e B/\B.rel C a' w')/\ArrivesIn (Machine.fenced P (fnc C.rd)) P (lone (b.atR a (.code (.seq .skip y)::.inScope c::k)) cs w) b k cs e a' w':=by
  intro s hs;induction hs with
  |mk J hy hJ ih=>
   intro a w H;obtain⟨e,m,g,⟨B,hq,z⟩,u⟩:=(Ab λK hK=>Al (hK _ hy):Awp P C (.seq .skip y) _ _) a w H b (.inScope c::k) cs W Y X;cases e with
   |normal=>exact⟨.normal,m,g,⟨B,hq,z⟩,StepsIn.trans u (.one (h1 m g) (s1 m g))⟩
   |exit id=>
    refine⟨.exit id,m,g,⟨B,hq,z⟩,λk' hk=>u.1 k' (by simp[cH,hk]),λO hk=>?_⟩;obtain⟨G,h2,h3⟩:=u.2 O (by simp[cH,hk]);exact⟨G,h2,h3⟩
   |goto l'=>
    obtain⟨rfl,U⟩:=hq;obtain⟨I,L,F,E,A⟩:=ih B U m g z;exact⟨I,L,F,E,.of_steps (u.1 _ hg) A⟩
   |ret=>exact⟨_,m,g,⟨B,hq,z⟩,u⟩
   |panic ch=>exact⟨_,m,g,⟨B,hq,z⟩,u⟩
   |outgrown=>exact⟨_,m,g,⟨B,hq,z⟩,u⟩
 have h0:(lone (b.atR a (.code (.scope c)::k)) cs w).fenced P (fnc C.rd):=fenced_calm Y X V;have N:step P (lone (b.atR a (.code (.scope c)::k)) cs w)= .next (lone (b.atR a (.code c::.inScope c::k)) cs w):=step_lone_go (by simp[stepG,stepG.exec,Frame.atR]);obtain⟨e,m,g,⟨B,hq,z⟩,u⟩:=h a w H b (.inScope c::k) cs W Y X;cases e with
 |normal=>exact⟨.normal,m,g,⟨B,hq,z⟩,.head h0 N (StepsIn.trans u (.one (h1 m g) (s1 m g)))⟩
 |exit id=>
  refine⟨.exit id,m,g,⟨B,hq,z⟩,λk' hk=>.head h0 N (u.1 k' (by simp[cH,hk])),λO hk=>?_⟩;obtain⟨G,h2,h3⟩:=u.2 O (by simp[cH,hk]);exact⟨G,h2,.head h0 N h3⟩
 |goto l'=>
  obtain⟨rfl,U⟩:=hq;obtain⟨I,L,F,E,A⟩:=Z B U m g z;exact⟨I,L,F,E,.of_steps (.head h0 N (u.1 _ hg)) A⟩
 |ret=>exact⟨_,m,g,⟨B,hq,z⟩,.of_steps (.one h0 N) u⟩
 |panic ch=>exact⟨_,m,g,⟨B,hq,z⟩,.of_steps (.one h0 N) u⟩
 |outgrown=>exact⟨_,m,g,⟨B,hq,z⟩,.of_steps (.one h0 N) u⟩
theorem Ab4{l l':Nat}(hg:GoOn P C l y Q s):Awp P C (.seq (.label l') y) (Amb l (GoOn P C l y Q) Q) s:=
 Ab λK g=>Awp.label (g _ (by
  cases hg with
  |mk J h m=>
   refine h.mono λe c q=>?_
   cases e with
   |goto l'=>exact⟨q.1,m c q.2⟩
   |_=>exact q))
theorem Awp.goto{l:Nat}(h:Q (.goto l) s):Awp P C (.goto l) Q s:=λ_ _ H=>wpIn_goto ⟨s,h,H⟩
theorem Abx{l:Nat}{g ρ β:Type}{step:g->M (g⊕ρ)}{E:g}{r:ρ}(H:(gT step E).to r)(F:g->β->St)(z:β)(h0:St.le C s (F E z))
 (A:∀m b x,(step m).to x->(∀u,x= .inr u->u=r)->Awp P C y (Amb l (λG=>∃c b',x= .inl c/\St.le C G (F c b')) Q) (F m b)):GoOn P C l y Q s:=by
 obtain⟨k,hk⟩:=Nw.1 H;clear H;induction hk generalizing s z with
 |out hx=>exact .mk _ ((A _ z _ hx λu e=>by cases e;rfl).le h0) λm ⟨_,_,e,_⟩=>by cases e
 |on hx L I=>
  refine .mk _ ((A _ z _ hx λu e=>by cases e).le h0) λm ⟨J,b',e,B⟩=>?_
  cases e;exact I b' B A
end
noncomputable section
def Fz(f:gO):(Int×(List Int))->M ((Int×(List Int))⊕((List Int))):=λ(x1,l3)=>gR (aK (x1 < (f.blocks.length:Int))) (gP (gP (FJ f x1) λc=>gR (aK ((c.length:Int) > 0)) (gQ (wfB .i64 x1) (gQ (Fj (l3.length+ [x1].length) 8) (gU (l3++[x1])))) (gU l3)) λl10=>gU (.inl (aN.wrap (x1+1),l10))) (gU (.inr l3))
def Hh(f:gO):M (List Int):=gP (gT (Fz f) (0,([]:List Int))) λc=>gU c
theorem UT(H:(Hh f).to r):Fn bC 135 [.agg (Ak f)] (.bs tInt r):=by
 delta Hh at H;try dsimp only at H
 refine AQ Tryz.func135 V (by kernel_rfl) V Tryz.ntmps135 λC hC=>?_
 simp only[Nat.reduceAdd,Nat.reduceSub,zaa];refine wS (sB (sT (wN ?_)));refine wS (sT (wN ?_));refine AE _ (EB 3 3 tInt V (by decide)) ?_;obtain⟨z4,Y,X⟩:=Aq.1 H;refine Bn (β:=((List Int))×(Nat)) (λB=>z4=B.1) (λB=>⟨A3 (.own 1 B.2::A10 (A8 [])),[.dead,.row B.2 3 tInt B.1]⟩) ?_ ?_
 ·refine wS (sT (sT (sT (sT (wN ?_)))));refine Ac ?_;refine BB Y (λs4 b4=>⟨.any::.ptr 0 0::.any::.own 1 b4::A3 (.lit (.int .i64 (f.blocks.length:Int))::.lit (.int .i64 s4.1)::A10 (A3 [])),[.box (Ak f),.row b4 3 tInt s4.2]⟩) 0 (?_) ?_
  ·try dsimp only
   exact AS
  ·rintro⟨Z,l3⟩ J x4 H W;try dsimp only
   dsimp only[Fz]at H;refine wS (sT (wN ?_));refine Ab λaa L=>?_
   refine Ag V (λz=>?_) (λz=>?_)
   ·have H:=AN z H;refine Al ?_;refine L _ ?_;refine nT ?_;obtain⟨I,G,F⟩:=Aq.1 H;refine Bn (β:=((List Int))×(Nat)) (λc=>I=c.1) (λc=>⟨.any::.ptr 0 0::.any::.own 1 c.2::A3 (.lit (.int .i64 (f.blocks.length:Int))::.lit (.int .i64 Z)::A10 (A3 [])),[.box (Ak f),.row c.2 3 tInt c.1]⟩) ?_ ?_
    ·have H:=G;refine Ac ?_;refine wS (sT (sT (wN ?_)));obtain⟨ab,u,H⟩:=Aq.1 H;have u:=Np u;refine wS (sT (sT ?_));(refine AC V (Dy 2 V V u (by decide) CO (.cons (.cl V) (.cons (.cl V) .nil)) ?_);refine D2 ?_ (Ap GY));refine sT (sT (wN ?_));refine Ag V (λg=>?_) (λg=>?_)
     ·have H:=AN g H;obtain⟨U,H⟩:=Ah.1 H;obtain⟨O,H⟩:=Ah.1 H;refine wSE (sT (sT ?_));refine sA ?_ (AT.lt (xs:=[.tmp 17]) (T:=tInt) (ds:=[Z]) V V V (by rfl) (by decide) (.cons (gN U) .nil)) (Ap (Ap Mk));refine sP O (sT (wN ?_));have A:=Ad.1 H;repeat(first|refine abN ?_|refine asN ?_)
      refine An ⟨(_,J+1),A.symm,?_⟩;try dsimp only
      exact leC (gG (gG (gI _)))
     ·have H:=AO g H;refine Al ?_;have A:=Ad.1 H;repeat(first|refine abN ?_|refine asN ?_)
      refine An ⟨(_,J),A.symm,?_⟩;try dsimp only
      exact leC (gG (gG (gI _)))
    ·rintro⟨l10,v9⟩ m;try dsimp only at m
     have H:=F;rw[m]at H;try dsimp only
     refine wSE (sT (sT (wN ?_)));have N:=Ad.1 H;repeat(first|refine abN ?_|refine asN ?_)
     refine An ⟨_,v9,N.symm,?_⟩;try dsimp only
     exact AS
   ·have H:=AO z H;refine Ay ?_;repeat(first|refine BG ?_|refine exO (by decide) ?_|refine asE ?_)
    refine exN ?_;have N:=W _ (Ad.1 H).symm;repeat(first|refine abN ?_|refine asN ?_)
    refine An ⟨(_,J),N.symm,?_⟩;try dsimp only
    exact leC (gH (gG (gI _)))
 ·rintro⟨l6,v5⟩ E;try dsimp only at E
  have H:=X;rw[E]at H;try dsimp only
  refine wS (sT (sT (wN ?_)));obtain rfl:=Ad.1 H;exact Aw ⟨.inr V,gK V⟩
def Fy(g:List (List Int))(c:List Bool):(Int×(List Int)×(List Int))->M ((Int×(List Int)×(List Int))⊕(List Int)):=λ(at7,l9,l11)=>gR (at7 ==(l9.length:Int)) (gQ (aK (l11.length<=2147483648)) (gU (.inr (List.mergeSort l11 λx y=>decide (x<=y))))) (gP (gQ (Cm l9 at7) (gQ (Cm c (ixD l9 at7)) (gP (gW (ixD c (ixD l9 at7)) aH (Ej l11 (ixD l9 at7))) λm=>gR ((ixD c (ixD l9 at7))&&(!m)) (gQ (wfB .i64 (ixD l9 at7)) (gQ (Fj (l11.length+ [ixD l9 at7].length) 8) (gQ (Cm g (ixD l9 at7)) (gQ (Fj (l9.length+(ixD g (ixD l9 at7)).length) 8) (gU (l9++(ixD g (ixD l9 at7)),l11++[ixD l9 at7])))))) (gU (l9,l11))))) λ(l17,l19)=>gU (.inl (aN.wrap (at7+1),l17,l19)))
def Jm(f:gO)(hP1:Int):M (List Int):=gP (FJ f hP1) λr1=>gR ((r1.length:Int) ==0) (gU []) (gP (F1 f) λg=>gP (Gv f) λc=>gQ (wfB .i64 hP1) (gT (Fy g c) (0,r1,[hP1])))
theorem WQ(H:(Jm f hP1).to r):Fn bC 136 [.agg (Ak f),.lit (.int .i64 hP1)] (.bs tInt r):=by
 delta Jm at H;try dsimp only at H
 refine AQ Tryz.func136 V (by kernel_rfl) V Tryz.ntmps136 λC hC=>?_
 simp only[Nat.reduceAdd,Nat.reduceSub,zaa];refine wS (sB (sT (wN ?_)));refine Ab2 0 V ?_;obtain⟨r1,k1,H⟩:=Aq.1 H;have k1:=Np k1;refine wS (sT (sT ?_));(refine AC V (Dy 1 V V k1 (by decide) CO (.cons (.cl V) (.cons (.cl V) .nil)) ?_);refine D2 ?_ (Ap GY));refine sT (wN ?_);refine Ab λav ai=>?_
 refine wS (sT (sT (sT (wN ?_))));refine Ag V (λX=>?_) (λX=>?_)
 ·have H:=AN X H;refine wS (sT (wN ?_));obtain rfl:=Ad.1 H;refine AE _ (SE 4 tInt V) ?_;exact Aw ⟨.inr V,gJ V⟩
 ·have H:=AO X H;refine Al ?_;refine ai _ ?_;refine nT ?_;obtain⟨G,k4,H⟩:=Aq.1 H;have k4:=Ie k4;obtain⟨A,k5,H⟩:=Aq.1 H;have k5:=Ql k5;refine dS 6 (hq:=?_);refine qT (qC k4 (qT (qC k5 (qT (qT (qN (wN ?_)))))));obtain⟨c6,H⟩:=Ah.1 H;refine wS (sT ?_);(refine AC V (SQ 2 V (xs:=[.tmp 21]) (T:=tInt) (ds:=[hP1]) V V V (RT.eq (n:=1) (bytes:=8)) (by decide) (by decide) (.cons (gN c6) .nil) ?_);refine D2 ?_ (Ap (Ap HT)));refine sT (sT (wN ?_));refine Ab4 ?_;refine Abx H (λU N=>⟨A5 (.own 1 N.1::.bs tInt.slice G::.bs iE A::.own 2 N.2::.lit (.int .i64 U.1)::A40 (A6 [])),[.dead,.row N.1 3 tInt U.2.1,.row N.2 3 tInt U.2.2]⟩) (0,0) (?_) ?_
  ·try dsimp only
   exact leC (gH (gG (gG (gI _))))
  ·rintro⟨c,m,L⟩ ⟨z,u⟩ aw H ab;try dsimp only
   dsimp only[Fy]at H;refine Ab λau Z=>?_
   refine wS (sT (sT (sT (sT (wN ?_)))));refine Ag V (λJ=>?_) (λJ=>?_)
   ·have H:=AN J H;obtain⟨ar,H⟩:=Ah.1 H;refine wS (sT ?_);(refine AC V (P3 V V V (of_decide_eq_true ar) ?_);refine D2 ?_ (Ap (Ap (Ap Ka))));refine wN ?_;refine wS (sT (sT (wN ?_)));have H:=Ad.2 (ab _ (Ad.1 H).symm);obtain rfl:=Ad.1 H;exact Aw ⟨.inr V,gK V⟩
   ·have H:=AO J H;refine Al ?_;refine Z _ ?_;refine nT ?_;obtain⟨ae,ad,ac⟩:=Aq.1 H;refine Bn (β:=((List Int)×(List Int))×(Nat×Nat)) (λE=>ae=E.1) (λE=>⟨A5 (.own 1 E.2.1::.bs tInt.slice G::.bs iE A::.own 2 E.2.2::.lit (.int .i64 c)::A40 (A6 [])),[.dead,.row E.2.1 3 tInt E.1.1,.row E.2.2 3 tInt E.1.2]⟩) ?_ ?_
    ·have H:=ad;obtain⟨aa,H⟩:=Ah.1 H;refine wS (sT (sT ?_));refine sA ?_ (Cb V (Ao (Ao (Ao Iy))) V (Ao (Ao (Ao Hd))) V aa) (Ar HU);refine sA ?_ (Bq V (As IG) V (BS aa) V) (Ar JH);refine sT (wN ?_);obtain⟨aq,H⟩:=Ah.1 H;obtain⟨W,ah,H⟩:=Aq.1 H;refine wS (sT (sT (sX aq (sT (sT ?_)))));refine sGt V ?_;refine sGt V ?_;refine sG (g:=(ixD A (ixD m c))) (hg:=Pm V) (hq:=λhg=>by((try simp only[BJ hg]);(try simp only[Qv hg]);exact Vw V (GU (gV ah hg)) (.cons (.own V) (.cons (.cl V) .nil)))) (ht:=(Ar (Ap JH))) ?_;refine sGt V (sT (wN ?_));refine Ag V (λI=>?_) (λI=>?_)
     ·have H:=AN I H;obtain⟨ap,H⟩:=Ah.1 H;obtain⟨ao,H⟩:=Ah.1 H;obtain⟨an,H⟩:=Ah.1 H;obtain⟨am,H⟩:=Ah.1 H;refine AE ⟨A5 (.own 1 z::.bs tInt.slice G::.bs iE A::.own 2 u::.lit (.int .i64 c)::.lit (.int .i64 (ixD m c))::A10 (A2 (.lit (.int .i64 c)::.own 1 z::.lit (.int .i64 (m.length:Int))::.lit (.bool (c ==(m.length:Int)))::A3 (.own 1 z::.lit (.int .i64 c)::.rp 1 z (cT c) 0::.lit (.int .i64 (ixD m c))::.bs iE A::.lit (.int .i64 (ixD m c))::.bp iE (ixD A (ixD m c)) 0::.lit (.bool (ixD A (ixD m c)))::.lit (.bool (ixD A (ixD m c)))::A4 (.lit (.bool ((ixD A (ixD m c))&&(!W)))::A10 (A2 [])))))),[.dead,.row z 3 tInt m,.row u 3 tInt L]⟩ (iC AS (KT 0 V)) ?_;refine P2 (n:=12) (λb=>⟨A5 ((bif b 11 then .own 1 (z+1)else .own 1 z)::.bs tInt.slice G::.bs iE A::(bif b 10 then .own 2 (u+1)else .own 2 u)::.lit (.int .i64 c)::.lit (.int .i64 (ixD m c))::A10 (A2 (.lit (.int .i64 c)::.own 1 z::.lit (.int .i64 (m.length:Int))::.lit (.bool (c ==(m.length:Int)))::A3 (.own 1 z::.lit (.int .i64 c)::.rp 1 z (cT c) 0::.lit (.int .i64 (ixD m c))::.bs iE A::.lit (.int .i64 (ixD m c))::.bp iE (ixD A (ixD m c)) 0::.lit (.bool (ixD A (ixD m c)))::.lit (.bool (ixD A (ixD m c)))::A4 (.lit (.bool ((ixD A (ixD m c))&&(!W)))::(bif b 0 then .own 2 u else .any)::(bif b 1 then .lit (.int .i64 (ixD m c))else .any)::(bif b 2 then .bs tInt [ixD m c]else .any)::(bif b 3 then .own 2 (u+1)else .any)::(bif b 4 then .own 1 z else .any)::(bif b 5 then .bs tInt.slice G else .any)::(bif b 6 then .lit (.int .i64 (ixD m c))else .any)::(bif b 7 then .bp tInt.slice (ixD G (ixD m c)) 0 else .any)::(bif b 8 then .bs tInt (ixD G (ixD m c))else .any)::(bif b 9 then .own 1 (z+1)else .any)::A2 []))))),[.dead,(bif b 9 then .row (z+1) 3 tInt (m++(ixD G (ixD m c)))else .row z 3 tInt m),(bif b 3 then .row (u+1) 3 tInt (L++[ixD m c])else .row u 3 tInt L)]⟩) V (by kernel_rfl) (by kernel_rfl) ?_ ?_
      ·refine BP (λb F B hc=>?_) ?_
       ·have ak:b 10=aH:=AW hc (i:=0) (j:=10) (k:=2) V V V V F;try dsimp only
        refine AX (AT.move V ((Ao IG).trans (Azz ak _ _))) ?_;exact iB
       refine BP (λb F B hc=>?_) ?_
       ·try dsimp only
        refine AX (AT.move V (Ao FG)) ?_;exact iB
       refine BP (λb F B hc=>?_) ?_
       ·have h1:b 1=aJ:=B 0 _ V V;try dsimp only
        refine AX (AT.lt (xs:=[.tmp 45]) (T:=tInt) (ds:=[ixD m c]) V V V (by rfl) (by decide) (.cons (Fit.of_eq ((As (Ao Fq)).trans (BJ h1 _ _)) (gN ap)) .nil)) ?_;exact iB
       refine BP (λb F B hc=>?_) ?_
       ·have h0:b 0=aJ:=B 0 _ V V;have h2:b 2=aJ:=B 1 _ V V;try dsimp only
        refine J7 V ((As (Ao GO)).trans (BJ h0 _ _)) (congrArg iU (CT F _ _)) ((As (Ao Iy)).trans (BJ h2 _ _)) V ao ?_;exact iB
       refine BP (λb F B hc=>?_) ?_
       ·have aj:b 11=aH:=AW hc (i:=4) (j:=11) (k:=6) V V V V F;try dsimp only
        refine AX (AT.move V (Fq.trans (Azz aj _ _))) ?_;exact iB
       refine BP (λb F B hc=>?_) ?_
       ·try dsimp only
        refine AX (AT.move V Iy) ?_;exact iB
       refine BP (λb F B hc=>?_) ?_
       ·try dsimp only
        refine AX (AT.move V (Ao FG)) ?_;exact iB
       refine BP (λb F B hc=>?_) ?_
       ·have h5:b 5=aJ:=B 0 _ V V;have h6:b 6=aJ:=B 1 _ V V;try dsimp only
        refine AX (Fe V ((As (Ao (Ao GP))).trans (BJ h5 _ _)) ((As (Ao (Ao FG))).trans (BJ h6 _ _)) V an) ?_;exact iB
       refine BP (λb F B hc=>?_) ?_
       ·have h7:b 7=aJ:=B 0 _ V V;try dsimp only
        refine AX (AA V ((As (Ao (Ao FF))).trans (BJ h7 _ _)) V) ?_;exact iB
       refine BP (λb F B hc=>?_) ?_
       ·have h4:b 4=aJ:=B 0 _ V V;have h8:b 8=aJ:=B 1 _ V V;try dsimp only
        refine J7 V ((As (Ao (Ao IG))).trans (BJ h4 _ _)) (congrArg iU (CT F _ _)) ((As (Ao (Ao GO))).trans (BJ h8 _ _)) V am ?_;exact iB
       refine BP (λb F B hc=>?_) ?_
       ·have h3:b 3=aJ:=B 0 _ V V;try dsimp only
        refine AX (AT.assign V ((As (Ao Hd)).trans (BJ h3 _ _))) ?_;exact iB
       refine BP (λb F B hc=>?_) ?_
       ·have h9:b 9=aJ:=B 0 _ V V;try dsimp only
        refine AX (AT.assign V ((As (Ao (Ao Fq))).trans (BJ h9 _ _))) ?_;exact iB
       exact Agl
      ·refine qVia ⟨A5 (.own 1 (z+1)::.bs tInt.slice G::.bs iE A::.own 2 (u+1)::.lit (.int .i64 c)::.lit (.int .i64 (ixD m c))::A10 (A2 (.lit (.int .i64 c)::.own 1 z::.lit (.int .i64 (m.length:Int))::.lit (.bool (c ==(m.length:Int)))::A3 (.own 1 z::.lit (.int .i64 c)::.rp 1 z (cT c) 0::.lit (.int .i64 (ixD m c))::.bs iE A::.lit (.int .i64 (ixD m c))::.bp iE (ixD A (ixD m c)) 0::.lit (.bool (ixD A (ixD m c)))::.lit (.bool (ixD A (ixD m c)))::A4 (.lit (.bool ((ixD A (ixD m c))&&(!W)))::.own 2 u::.lit (.int .i64 (ixD m c))::.bs tInt [ixD m c]::.own 2 (u+1)::.own 1 z::.bs tInt.slice G::.lit (.int .i64 (ixD m c))::.bp tInt.slice (ixD G (ixD m c)) 0::.bs tInt (ixD G (ixD m c))::.own 1 (z+1)::A2 []))))),[.dead,.row (z+1) 3 tInt (m++(ixD G (ixD m c))),.row (u+1) 3 tInt (L++[ixD m c])]⟩ V ?_;have Y:=Ad.1 H;repeat(first|refine abN ?_|refine asN ?_)
       refine An ⟨(_,(z+1,u+1)),Y.symm,?_⟩;try dsimp only
       exact AS
     ·have H:=AO I H;refine Al ?_;have Y:=Ad.1 H;repeat(first|refine abN ?_|refine asN ?_)
      refine An ⟨(_,(z,u)),Y.symm,?_⟩;try dsimp only
      exact AS
    ·rintro⟨⟨ay,ax⟩,⟨ag,af⟩⟩ O;try dsimp only at O
     have H:=ac;rw[O]at H;try dsimp only at H⊢
     refine wS (sT (sT (sT (wN ?_))));refine Awp.goto ?_;have al:=Ad.1 H;refine⟨rfl,_,(ag,af),al.symm,?_⟩;try dsimp only
     exact AS
def DT(c:List Int):(Int×(List Int))->M ((Int×(List Int))⊕((List Int))):=λ(x13,l15)=>gR (aK (x13 < (c.length:Int))) (gQ (Cm c x13) (gQ (Cm l15 (ixD c x13)) (gQ (wfB .i64 (aN.wrap ((ixD l15 (ixD c x13))+1))) (gU (.inl (aN.wrap (x13+1),l15.set (cT (ixD c x13)) (aN.wrap ((ixD l15 (ixD c x13))+1)))))))) (gU (.inr l15))
def Ex(f:gO)(r2:List Int):(Int×(List Int))->M ((Int×(List Int))⊕((List Int))):=λ(x3,l5)=>gR (aK (x3 < (r2.length:Int))) (gQ (Cm r2 x3) (gP (Jm f (ixD r2 x3)) λc=>gP (gT (DT c) (0,l5)) λg=>gU (.inl (aN.wrap (x3+1),g)))) (gU (.inr l5))
def Hi(f:gO):M (List Int):=gQ (VN (f.blocks.length:Int) 8) (gP (Hh f) λr2=>gP (gT (Ex f r2) (0,fF (cT (f.blocks.length:Int)) 0)) λc=>gU c)
theorem UU(H:(Hi f).to r):Fn bC 112 [.agg (Ak f)] (.bs tInt r):=by
 delta Hi at H;try dsimp only at H
 refine AQ Tryz.func112 V (by kernel_rfl) V Tryz.ntmps112 λC hC=>?_
 simp only[Nat.reduceAdd,Nat.reduceSub,zaa];refine wS (sB (sT (wN ?_)));obtain⟨c1,H⟩:=Ah.1 H;refine wS (sT (sT (sT ?_)));(refine AC V (P6 1 V (T:=tInt) (e:=3) (v:=.int .i64 0) (bytes:=8) (0:Int) V (by kernel_rfl) V (λ_ _=>⟨rfl,by decide⟩) V V c1 ?_);refine D2 ?_ (Ap JG));refine sT (wN ?_);obtain⟨r2,k2,H⟩:=Aq.1 H;have k2:=UT k2;obtain⟨z6,ai,ah⟩:=Aq.1 H;refine Bn (β:=((List Int))×(Nat)) (λI=>z6=I.1) (λI=>⟨A3 (.own 1 I.2::A20 (A10 (A2 []))),[.dead,.row I.2 3 tInt I.1]⟩) ?_ ?_
 ·refine wS (sT (sC k2 (sT (sT (wN ?_)))));refine Ac ?_;refine BB ai (λs6 b6=>⟨.any::.ptr 0 0::.any::.own 1 b6::A9 (.bs tInt r2::.lit (.int .i64 (r2.length:Int))::.lit (.int .i64 s6.1)::A20 []),[.box (Ak f),.row b6 3 tInt s6.2]⟩) 0 (?_) ?_
  ·try dsimp only
   exact AS
  ·rintro⟨x3,l5⟩ v4 x6 H ag;try dsimp only
   dsimp only[Ex]at H;refine wS (sT (wN ?_));refine Ab λaj aa=>?_
   refine Ag V (λm=>?_) (λm=>?_)
   ·have H:=AN m H;refine Al ?_;refine aa _ ?_;refine nT ?_;obtain⟨ad,H⟩:=Ah.1 H;obtain⟨G,A,H⟩:=Aq.1 H;have A:=WQ A;obtain⟨Y,X,W⟩:=Aq.1 H;refine Bn (β:=((List Int))×(Nat)) (λc=>Y=c.1) (λc=>⟨.any::.ptr 0 0::.any::.own 1 c.2::A9 (.bs tInt r2::.lit (.int .i64 (r2.length:Int))::.lit (.int .i64 x3)::A20 []),[.box (Ak f),.row c.2 3 tInt c.1]⟩) ?_ ?_
    ·refine Ac ?_;refine wS (sX ad (sT (sT (wN ?_))));refine wS (sT (sT (sC A (sT (sT (wN ?_))))));refine Ac ?_;refine BB X (λF O=>⟨.any::.ptr 0 0::.any::.own 1 O::A9 (.bs tInt r2::.lit (.int .i64 (r2.length:Int))::.lit (.int .i64 x3)::A5 (.bs tInt G::.lit (.int .i64 (G.length:Int))::.lit (.int .i64 F.1)::A10 (A2 []))),[.box (Ak f),.row O 3 tInt F.2]⟩) v4 (?_) ?_
     ·try dsimp only
      exact AS
     ·rintro⟨al,an⟩ E ak H U;try dsimp only
      dsimp only[DT]at H;refine wS (sT (wN ?_));refine Ab λaf N=>?_
      refine Ag V (λg=>?_) (λg=>?_)
      ·have H:=AN g H;refine Al ?_;refine N _ ?_;refine nT ?_;refine Ab λae L=>?_
       refine Ac ?_;obtain⟨ac,H⟩:=Ah.1 H;refine wS (sX ac (sT (sT (wN ?_))));obtain⟨u,H⟩:=Ah.1 H;obtain⟨ab,H⟩:=Ah.1 H;refine wSE (sT (sT ?_));refine sA ?_ (Cb V (Ao (Ao (Ao FF))) V (Ao (Ao (Ao GO))) V u) (Ap (Ap (Ap GY)));refine sA ?_ (Bq V (Ao (Ao (Ao Fq))) V (BS u) V) (Ap (Ap (Ap HT)));refine sT ?_;refine sA ?_ (Cb V (Ao (Ao (Ao FF))) V (Ao (Ao (Ao GO))) V u) (Ar HU);(refine AC V (Dx V V V (BS u) (gN ab) V ?_);refine D2 ?_ RG);refine wN ?_;refine L _ ?_;refine nT ?_;refine wSE (sT (sT (wN ?_)));have B:=Ad.1 H;repeat(first|refine abN ?_|refine asN ?_)
       refine An ⟨_,E,B.symm,?_⟩;try dsimp only
       exact AS
      ·have H:=AO g H;refine Ay ?_;repeat(first|refine BG ?_|refine exO (by decide) ?_|refine asE ?_)
       refine exN ?_;have B:=U _ (Ad.1 H).symm;repeat(first|refine abN ?_|refine asN ?_)
       refine An ⟨(_,E),B.symm,?_⟩;try dsimp only
       exact AS
    ·rintro⟨am,Z⟩ z;try dsimp only at z
     have H:=W;rw[z]at H;try dsimp only
     refine wSE (sT (sT (wN ?_)));have e6:=Ad.1 H;repeat(first|refine abN ?_|refine asN ?_)
     refine An ⟨_,Z,e6.symm,?_⟩;try dsimp only
     exact AS
   ·have H:=AO m H;refine Ay ?_;repeat(first|refine BG ?_|refine exO (by decide) ?_|refine asE ?_)
    refine exN ?_;have e6:=ag _ (Ad.1 H).symm;repeat(first|refine abN ?_|refine asN ?_)
    refine An ⟨(_,v4),e6.symm,?_⟩;try dsimp only
    exact leC (gH (gG (gI _)))
 ·rintro⟨l8,v7⟩ J;try dsimp only at J
  have H:=ah;rw[J]at H;try dsimp only
  refine wS (sT (sT (wN ?_)));obtain rfl:=Ad.1 H;exact Aw ⟨.inr V,gK V⟩
end
theorem YK{c:List AV}(h:Bh c=aJ):∀vs:List bY,Bh (vs.map .lit++c)=aJ
 | []=>h
 |v::vs=>by
  rw[eL,List.cons_append];unfold Bh;rw[YK h vs];unfold fY;rfl
theorem Xw{P:aT}{C:Ctx}{o:aR}{t:List AV}{h:List fT}{ι:Type}{Rs:ι->Res}{val:ι->bY}{i:Nat}{R:Res}{f:aM}{args:Array aS}{l c:List AV}(hi:h[i]? =iU (.res R))
 (m:o.op= .call {callee:=.value x,args:=args,argTypes:=tys})(g:evA t x= .fn f l)(A:DK P f R (c++l) Rs val)(u:∀p,(Rs p).mrk=R.mrk)(hx:args.toList.map (evA t)=c)(hc:Bh (c++l)=aJ)
 (z:∀p,K ⟨Bl t o.dst (.lit (val p)),h.set i (.res (Rs p))⟩):AOp P C o ⟨t,h⟩ K:=Iv hi m g A u (by rw[hx]) hc z
theorem OB{x:Ins}(H:(Kz x).to r):JA bC 60 [.agg (BV x)] 3 tInt r:=by
 obtain⟨c,H⟩:=Ah.1 H;obtain rfl:=Ad.1 H;rw[aG]at c;have m:=DC.1 c.1;have B:=of_decide_eq_true c.2;exact⟨by kernel_rfl,λw S vs F A=>by
  have g:=Az (Ext.grow [] ψ0 (λ_ _=>rfl) F) _ _ A;obtain⟨v,rfl,z⟩:=Ach g;obtain⟨cs,rfl,hc⟩:=IZ z;refine(HI x w cs (My m hc) B).mono ?_;rintro e w' ⟨v,rfl,G,E⟩;refine⟨v,_,rfl,E,G,λi d u=>?_⟩;show tInt.RS w' S ((((readsC x).map (b9 .i64)).drop (i * 1)).take 1) d;have hi:((readsC x).map (b9 .i64))[i]? =iU (.int .i64 d):=by rw[dY,u];rfl
  rw[iO,fO,eC,hi];exact DJ.2 ⟨rfl,FU m d (eX u)⟩⟩
noncomputable section
def Jk(x:Ins):M (List Int):=gP (Kz x) λr1=>gP (gP (IV x) λc=>gR c.2 (gQ (wfB .i64 c.1) (gQ (Fj (r1.length+ [c.1].length) 8) (gU (r1++[c.1])))) (gU r1)) λg=>gU g
theorem WO{x:Ins}(H:(Jk x).to r):Fn bC 113 [.agg (BV x)] (.bs tInt r):=by
 delta Jk at H;try dsimp only at H
 refine AQ Tryz.func113 V (by kernel_rfl) V Tryz.ntmps113 λC O=>?_
 simp only[Nat.reduceAdd,Nat.reduceSub,zaa];refine wS (sB (sT (wN ?_)));obtain⟨r1,z,H⟩:=Aq.1 H;have z:=OB z;refine wS (sT ?_);(refine AC V (Dy 1 V V z (by decide) CO (.cons (.cl V) .nil) ?_);refine D2 ?_ Hy);refine sT (wN ?_);obtain⟨F,E,B⟩:=Aq.1 H;refine Bn (β:=((List Int))×(Nat)) (λg=>F=g.1) (λg=>⟨A3 (.own 1 g.2::A10 (A5 [])),[.dead,.row g.2 3 tInt g.1]⟩) ?_ ?_
 ·have H:=E;obtain⟨G,u,H⟩:=Aq.1 H;have u:=Qh u;refine wS (sT (sC u (sT (sT (sT (sT (sT (wN ?_))))))));refine wS (sT (wN ?_));refine Ag V (λc=>?_) (λc=>?_)
  ·have H:=AN c H;obtain⟨J,H⟩:=Ah.1 H;obtain⟨I,H⟩:=Ah.1 H;refine wSE (sT (sT ?_));refine sA ?_ (AT.lt (xs:=[.tmp 15]) (T:=tInt) (ds:=[G.1]) V V V (by rfl) (by decide) (.cons (gN J) .nil)) (Ap (Ap HU));refine sP I (sT (wN ?_));have A:=Ad.1 H;repeat(first|refine abN ?_|refine asN ?_)
   refine An ⟨(_,0+1),A.symm,?_⟩;try dsimp only
   exact leC (gH (gG (gI _)))
  ·have H:=AO c H;refine Al ?_;have A:=Ad.1 H;repeat(first|refine abN ?_|refine asN ?_)
   refine An ⟨(_,0),A.symm,?_⟩;try dsimp only
   exact leC (gH (gG (gI _)))
 ·rintro⟨N,L⟩ m;try dsimp only at m
  have H:=B;rw[m]at H;try dsimp only
  refine wS (sT (sT (wN ?_)));obtain rfl:=Ad.1 H;exact Aw ⟨.inr V,gK V⟩
section
variable{σ:Type}
def DF(r1:List Int)(c:Int):(Int×Int)->M ((Int×Int)⊕Int):=λ(n10,x11)=>gR (aK (x11 < (if 4 < (ixD r1 c)then 4 else(ixD r1 c)))) (gU (.inl (aN.wrap (n10 * 10),aN.wrap (x11+1)))) (gU (.inr n10))
def Ew(step:σ->Int->Int->M σ)(m:Int)(c:List Int):(Int×σ)->M ((Int×σ)⊕σ):=λ(x26,s27)=>gR (aK (x26 < (c.length:Int))) (gQ (Cm c x26) (gP (step s27 (ixD c x26) m) λg=>gU (.inl (aN.wrap (x26+1),g)))) (gU (.inr s27))
def DE(step:σ->Int->Int->M σ)(f:gO)(c:Int)(u:Int):(Int×σ)->M ((Int×σ)⊕σ):=λ(x18,s19)=>gR (aK (x18 < (((ixD f.blocks c).ins).length:Int))) (gQ (Cm ((ixD f.blocks c).ins) x18) (gP (Jk (ixD ((ixD f.blocks c).ins) x18)) λm=>gP (gT (Ew step u m) (0,s19)) λg=>gU (.inl (aN.wrap (x18+1),g)))) (gU (.inr s19))
def E9(step:σ->Int->Int->M σ)(f:gO)(r1:List Int):(Int×σ)->M ((Int×σ)⊕σ):=λ(x2,s3)=>gR (aK (x2 < (r1.length:Int))) (gQ (Cm r1 x2) (gP (gT (DF r1 x2) (1,0)) λg=>gQ (Cm f.blocks x2) (gP (gT (DE step f x2 g) (0,s3)) λc=>gU (.inl (aN.wrap (x2+1),c))))) (gU (.inr s3))
def Jl(step:σ->Int->Int->M σ)(f:gO)(g:σ):M σ:=gP (Hi f) λr1=>gP (gT (E9 step f r1) (0,g)) λc=>gU c
theorem WP{R0:σ->Res}{E:aM}{c:List AV}(B:∀s,(R0 s).mrk= [])(hS:∀s w S S',(R0 s).R w S->(R0 s).R w S')(bg:Bh c=aJ){step:σ->Int->Int->M σ}(be:∀s x0 x1 s',(step s x0 x1).to s'->DK bC E (R0 s) ([.lit (.int .i64 x0),.lit (.int .i64 x1)]++c) (λ_:Unit=>R0 s') (λ_=>.tuple #[])){s0:σ}{r:σ}(H:(Jl step f s0).to r):DK bC 82 (R0 s0) [.agg (Ak f),.fn E c] (λ_:Unit=>R0 r) (λ_=>.tuple #[]):=by
 have bf:∀x0 x1:Int,Bh ([.lit (.int .i64 x0),.lit (.int .i64 x1)]++c)=aJ:=λx0 x1=>YK bg [(.int .i64 x0),(.int .i64 x1)]
 delta Jl at H;try dsimp only at H
 refine DX Tryz.func82 V (by kernel_rfl) V Tryz.ntmps82 (B _) (λ_=>hS _) λC=>?_
 refine gD ?_;simp only[Nat.reduceAdd,Nat.reduceSub,zaa];refine wS (sB (wN ?_));obtain⟨r1,k1,H⟩:=Aq.1 H;have k1:=UU k1;refine wS (sT (sC k1 (sT (sT (wN ?_)))));obtain⟨z4,bt,br⟩:=Aq.1 H;refine P0 (β:=(σ)×(Unit)) (λq4=>z4=q4.1) (λq4=>⟨A40 (A10 [.any]),[.res (R0 q4.1),.dead]⟩) ?_ ?_
 ·refine Ac ?_;refine BB bt (λs4 b4=>⟨.any::.fn E c::.ptr 1 0::A9 (.bs tInt r1::.lit (.int .i64 (r1.length:Int))::.lit (.int .i64 s4.1)::A20 (A10 (A6 []))),[.res (R0 s4.2),.box (Ak f)]⟩) () (?_) ?_
  ·try dsimp only
   exact AS
  ·rintro⟨g,s3⟩ _ x4 H bq;try dsimp only
   dsimp only[E9]at H;refine wS (sT (wN ?_));refine Ab λbv bc=>?_
   refine Ag V (λY=>?_) (λY=>?_)
   ·have H:=AN Y H;refine Al ?_;refine bc _ ?_;refine nT ?_;refine Ab λbu bb=>?_
    refine Ac ?_;obtain⟨c9,H⟩:=Ah.1 H;refine wS (sT (sX c9 (sT (sT (sT (wN ?_))))));refine wS (sT (wN ?_));obtain⟨az,aw,ar⟩:=Aq.1 H;refine Bn (β:=(Int)×(Unit)) (λU=>az=U.1) (λU=>⟨.any::.fn E c::.ptr 1 0::.any::.lit (.int .i64 g)::.any::.lit (.int .i64 U.1)::A5 (.bs tInt r1::.lit (.int .i64 (r1.length:Int))::.lit (.int .i64 g)::A20 (A10 (A6 []))),[.res (R0 s3),.box (Ak f)]⟩) ?_ ?_
    ·refine wS (sT ?_);refine sA ?_ (AT.min2 V (Ao (Ao FF)) Acf) (Ap (Ap Ka));refine sT (wN ?_);refine Ac ?_;refine BB aw (λae ck=>⟨.any::.fn E c::.ptr 1 0::.any::.lit (.int .i64 g)::.any::.lit (.int .i64 ae.1)::A5 (.bs tInt r1::.lit (.int .i64 (r1.length:Int))::.lit (.int .i64 g)::A5 (.lit (.int .i64 (if 4 < (ixD r1 g)then 4 else(ixD r1 g)))::.lit (.int .i64 ae.2)::A20 (A9 []))),[.res (R0 s3),.box (Ak f)]⟩) () (?_) ?_
     ·try dsimp only
      exact AS
     ·rintro⟨ch,cb⟩ _ ca H ao;try dsimp only
      dsimp only[DF]at H;refine wS (sT (wN ?_));refine Ab λbo al=>?_
      refine Ag V (λA=>?_) (λA=>?_)
      ·have H:=AN A H;refine Al ?_;refine al _ ?_;refine nT ?_;refine Ab λbn ak=>?_
       refine Ac ?_;refine wSE (sT (sT (sT (wN ?_))));refine ak _ ?_;refine nT ?_;refine wSE (sT (sT (wN ?_)));have ab:=Ad.1 H;repeat(first|refine abN ?_|refine asN ?_)
       refine An ⟨_,(),ab.symm,?_⟩;try dsimp only
       exact AS
      ·have H:=AO A H;refine Ay ?_;repeat(first|refine BG ?_|refine exO (by decide) ?_|refine asE ?_)
       refine exN ?_;have ab:=ao _ (Ad.1 H).symm;repeat(first|refine abN ?_|refine asN ?_)
       refine An ⟨(_,()),ab.symm,?_⟩;try dsimp only
       exact AS
    ·rintro⟨W,_⟩ I;try dsimp only at I
     have H:=ar;rw[I]at H;try dsimp only
     obtain⟨bj,H⟩:=Ah.1 H;refine wS (sT (sT (sT (sX bj (sT (sT (sT (sT (wN ?_)))))))));obtain⟨ay,av,aq⟩:=Aq.1 H;refine P0 (β:=(σ)×(Unit)) (λO=>ay=O.1) (λO=>⟨.any::.fn E c::.ptr 1 0::A9 (.bs tInt r1::.lit (.int .i64 (r1.length:Int))::.lit (.int .i64 g)::A20 (A10 (A6 []))),[.res (R0 O.1),.box (Ak f)]⟩) ?_ ?_
     ·refine Ac ?_;refine BB av (λL cj=>⟨.any::.fn E c::.ptr 1 0::A3 (.lit (.int .i64 W)::A5 (.bs tInt r1::.lit (.int .i64 (r1.length:Int))::.lit (.int .i64 g)::A10 (A6 (.bs Ei ((ixD f.blocks g).ins)::.lit (.int .i64 (((ixD f.blocks g).ins).length:Int))::.lit (.int .i64 L.1)::A10 (A7 []))))),[.res (R0 L.2),.box (Ak f)]⟩) () (?_) ?_
      ·try dsimp only
       exact AS
      ·rintro⟨ac,cf⟩ _ bz H an;try dsimp only
       dsimp only[DE]at H;refine wS (sT (wN ?_));refine Ab λbm aj=>?_
       refine Ag V (λz=>?_) (λz=>?_)
       ·have H:=AN z H;refine Al ?_;refine aj _ ?_;refine nT ?_;obtain⟨bi,H⟩:=Ah.1 H;obtain⟨af,X,H⟩:=Aq.1 H;have X:=WO X;obtain⟨ax,au,ap⟩:=Aq.1 H;refine Bn (β:=(σ)×(Unit)) (λN=>ax=N.1) (λN=>⟨.any::.fn E c::.ptr 1 0::A3 (.lit (.int .i64 W)::A5 (.bs tInt r1::.lit (.int .i64 (r1.length:Int))::.lit (.int .i64 g)::A10 (A6 (.bs Ei ((ixD f.blocks g).ins)::.lit (.int .i64 (((ixD f.blocks g).ins).length:Int))::.lit (.int .i64 ac)::A10 (A7 []))))),[.res (R0 N.1),.box (Ak f),.dead]⟩) ?_ ?_
        ·refine Ac ?_;refine wS (sX bi (sT (sA0 (sW (wN ?_)))));refine wS (sT (sC X (sT (sT (wN ?_)))));refine Ac ?_;refine BB au (λad ci=>⟨.any::.fn E c::.ptr 1 0::A3 (.lit (.int .i64 W)::A5 (.bs tInt r1::.lit (.int .i64 (r1.length:Int))::.lit (.int .i64 g)::A10 (A6 (.bs Ei ((ixD f.blocks g).ins)::.lit (.int .i64 (((ixD f.blocks g).ins).length:Int))::.lit (.int .i64 ac)::A4 (.bs tInt af::.lit (.int .i64 (af.length:Int))::.lit (.int .i64 ad.1)::A10 []))))),[.res (R0 ad.2),.box (Ak f),.dead]⟩) () (?_) ?_
         ·try dsimp only
          exact leC (gG (gG (gH (gI _))))
         ·rintro⟨bx,cd⟩ _ bw H am;try dsimp only
          dsimp only[Ew]at H;refine wS (sT (wN ?_));refine Ab λbl ai=>?_
          refine Ag V (λu=>?_) (λu=>?_)
          ·have H:=AN u H;refine Al ?_;refine ai _ ?_;refine nT ?_;refine Ab λbk ah=>?_
           refine Ac ?_;obtain⟨bh,H⟩:=Ah.1 H;refine wS (sX bh (sT (sT (wN ?_))));obtain⟨cg,ba,H⟩:=Aq.1 H;refine wSE (sT (sT (sT ?_)));(refine AC V (Xw (i:=0) V V V (be _ _ _ _ ba) (λ_=>(B _).trans (B _).symm) V (bf _ _) λ_=>?_);refine D2 ?_ (Ar (Ap Hy)));refine wN ?_;refine ah _ ?_;refine nT ?_;refine wSE (sT (sT (wN ?_)));have Z:=Ad.1 H;repeat(first|refine abN ?_|refine asN ?_)
           refine An ⟨_,(),Z.symm,?_⟩;try dsimp only
           exact AS
          ·have H:=AO u H;refine Ay ?_;repeat(first|refine BG ?_|refine exO (by decide) ?_|refine asE ?_)
           refine exN ?_;have Z:=am _ (Ad.1 H).symm;repeat(first|refine abN ?_|refine asN ?_)
           refine An ⟨(_,()),Z.symm,?_⟩;try dsimp only
           exact AS
        ·rintro⟨cc,_⟩ F;try dsimp only at F
         have H:=ap;rw[F]at H;try dsimp only
         refine wSE (sT (sT (wN ?_)));have aa:=Ad.1 H;repeat(first|refine abN ?_|refine asN ?_)
         refine An ⟨_,(),aa.symm,?_⟩;try dsimp only
         exact leC (gG (gG (gI _)))
       ·have H:=AO z H;refine Ay ?_;repeat(first|refine BG ?_|refine exO (by decide) ?_|refine asE ?_)
        refine exN ?_;have aa:=an _ (Ad.1 H).symm;repeat(first|refine abN ?_|refine asN ?_)
        refine An ⟨(_,()),aa.symm,?_⟩;try dsimp only
        exact AS
     ·rintro⟨ce,_⟩ L G m;try dsimp only at G
      try dsimp only at m
      have H:=aq;rw[G]at H;repeat(first|refine abN ?_|refine asN ?_)
      refine bb _ (AE _ m ?_);refine wSE (sT (sT (wN ?_)));have e4:=Ad.1 H;repeat(first|refine abN ?_|refine asN ?_)
      refine An ⟨_,(),e4.symm,?_⟩;try dsimp only
      exact AS
   ·have H:=AO Y H;refine Ay ?_;repeat(first|refine BG ?_|refine exO (by decide) ?_|refine asE ?_)
    refine exN ?_;have e4:=bq _ (Ad.1 H).symm;repeat(first|refine abN ?_|refine asN ?_)
    refine An ⟨(_,()),e4.symm,?_⟩;try dsimp only
    exact leC (gG (gH (gI _)))
 ·rintro⟨s5,_⟩ s4 ag J;try dsimp only at ag
  try dsimp only at J
  have H:=br;rw[ag]at H;repeat(first|refine abN ?_|refine asN ?_)
  obtain rfl:=Ad.1 H;refine upE J ?_;exact⟨.inl V,(),by simp[mkD,fW,B],rfl⟩
end
def Gx(c:Int)(n:Int)(g:List (Int×Int)):M ((List (Int×Int))):=gQ (wfB .i64 c) (gQ (aK (g.length < cN)) (gU (B7 g c (aN.wrap (((getK g c).getD 0)+n)))))
theorem Qo{c:Int}{z:List (Int×Int)}{u m:Nat}{r:(List (Int×Int))}(H:(Gx c n z).to r):DK bC 83 (Res.and (Be u [.lit (.map (iU m))]) (EG (b9 .i64) z m)) [.lit (.int .i64 c),.lit (.int .i64 n),.lit (.pointer (iU ⟨u,0,iT⟩))] (λ_:Unit=>(Res.and (Be u [.lit (.map (iU m))]) (EG (b9 .i64) r m))) (λ_=>.tuple #[]):=by
 delta Gx at H;try dsimp only at H
 refine DX Tryz.func83 V (by kernel_rfl) V Tryz.ntmps83 V (λ_ _ _ _ h=>h) λC=>?_
 simp only[Nat.reduceAdd,Nat.reduceSub,zaa];refine AE _ (EM 0 V) ?_;refine gD ?_;refine nT ?_;obtain⟨A,H⟩:=Ah.1 H;obtain⟨B,H⟩:=Ah.1 H;refine wSE ?_;refine sA ?_ (AY (i:=0) (g:=u) V FG V V V) GY;refine sT ?_;refine sA ?_ (PS 1 V bM DY Fq Iy A V) Hy;refine sT (sT ?_);(refine AC V (J5 1 V bM V V V A (of_decide_eq_true B) V ?_);refine D2 ?_ RG);refine wN ?_;repeat(first|refine abN ?_|refine asN ?_)
 obtain rfl:=Ad.1 H;refine upE (iC (DH 0 1 (by decide) V V) iB) ?_;exact⟨.inl V,(),rfl,rfl⟩
end
end Mu
namespace Mu
open Go Go.RowKit Go.Proofs Go.Shelf Go.Lib Go.Sort Go.Maps
variable{fr:Nat×Nat}{g:Nat}{l:List Int}{m:List (Int×Int)}{n:Nat}{os:Array Obj}{v:bY}{w:cA}{x:aS}
def Qb(m:List (Int×Int))(x:Int):Int:=(getK m x).getD 0
def cfC(m:List (Int×Int))(x y:Int):Int:=if aO (Qb m x) (Qb m y)≠0 then aO (Qb m x) (Qb m y)else aO x y
def ltC(m:List (Int×Int))(x y:Int):Prop:=Qb m x < Qb m y\/(Qb m x=Qb m y/\x < y)
instance Aqe(m:List (Int×Int))(x y:Int):Decidable (ltC m x y):=by unfold ltC;infer_instance
theorem Apj{x y:Int}:aK (cfC m x y < 0)=aK (ltC m x y):=by
 rw[Bool.eq_iff_iff,decide_eq_true_eq,decide_eq_true_eq];unfold cfC ltC;generalize Qb m x=a;generalize Qb m y=b;unfold aO;by_cases h1:a < b
 ·simp[h1]
 ·by_cases h2:b < a
  ·have:a≠b:=by omega
   simp[h1,h2,this]
  ·have e:a=b:=by omega
   by_cases c:x < y
   ·simp[e,c]
   ·by_cases u:y < x <;> simp[e,c,u]
def Arr(m:List (Int×Int))(x y:Int):Bool:=!decide (ltC m y x)
def Ky(m:List (Int×Int))(l:List Int):List Int:=l.mergeSort (Arr m)
theorem GT(m:List (Int×Int))(l:List Int):(Ky m l).Perm l:=List.mergeSort_perm _ _
theorem M9(m:List (Int×Int))(l:List Int):(Ky m l).Pairwise λx y=>¬ltC m y x:=by
 have h:=List.pairwise_mergeSort (le:=Arr m) (λa b c h1 h2=>by
  unfold Arr at *;simp only[aI,decide_eq_false_iff_not]at *;unfold ltC at *;omega) (λa b=>by
  unfold Arr;simp only[Bool.or_eq_true,aI,decide_eq_false_iff_not];unfold ltC;omega) l
 exact h.imp λh=>by unfold Arr at h;simpa using h
theorem Zl{l':List Int}(u:l'.Perm l)(c:l'.Pairwise λx y=>¬ltC m y x):l'=Ky m l:=
 List.Perm.eq_of_pairwise (le:=λx y=>¬ltC m y x) (λa b _ _ h1 h2=>by unfold ltC at h1 h2;omega) c (M9 m l) (u.trans (GT m l).symm)
theorem Aly(l:List (Int×Int))(g m:Nat)(ty:bX)(fr:Nat×Nat)(x y:Int)(hx:Ch x)(hy:Ch y)(W:cA)(hg:W.heap[g]? =iU (.cells #[.map (iU m)] ty fr))(hm:M1 W m (mapK (b9 .i64) l)):
 aL bC 85 #[.int .i64 x,.int .i64 y,.pointer (iU ⟨g,0,iT⟩)] W λe w'=>e= .returned (.int .i64 (cfC l x y))/\∃q os,w'=grow (W.drewN q) os:=by
 have hgl:g < W.heap.size:=(aA.1 hg).1;have hA:=λW=>AnyG.cmp_Compare_int aU (Qb l x) (Qb l y) W
 have hB:=λW=>AnyG.cmp_Compare_int aU x y W
 change∀W,aL bC 87 _ _ _ at hA;change∀W,aL bC 87 _ _ _ at hB;obtain⟨r,hr⟩:∃r,aO (Qb l x) (Qb l y)=r:=⟨_,rfl⟩
 obtain⟨s,hs⟩:∃s,aO x y=s:=⟨_,rfl⟩
 have hu:cfC l x y=if r≠0 then r else s:=by unfold cfC;rw[hr,hs]
 rw[hr]at hA;rw[hs]at hB;clear hr hs;have hO:=λW=>Am7 r s W.heap.size 3 (W.alloc (.cells #[.int .i64 r,.int .i64 s] 3)) (cL W _)
 rw[<-hu]at hO;generalize cfC l x y=u at hO⊢;clear hu;have vx:∀W2:cA,M1 W2 m (mapK (b9 .i64) l)->(Instr.lookup 51 (.map (iU m)) (.int .i64 x) aH).run bC W2= .ok (.int .i64 (Qb l x)) W2:=λW2 h2=>by
  have:=h2.look bM (DY W2) hx;rw[this,CB];unfold Qb;cases getK l x <;> rfl
 have vy:∀W2:cA,M1 W2 m (mapK (b9 .i64) l)->(Instr.lookup 51 (.map (iU m)) (.int .i64 y) aH).run bC W2= .ok (.int .i64 (Qb l y)) W2:=λW2 h2=>by
  have:=h2.look bM (DY W2) hy;rw[this,CB];unfold Qb;cases getK l y <;> rfl
 generalize Qb l x=a at hA vx;generalize Qb l y=b at hA vy;have c0:W.cell? ⟨g,0,iT⟩=iU (.map (iU m)):=by simp[cB,hg]
 have lx:=vx W hm;have ly:=vy W hm;clear vx vy hm hg
 go_enter aY,Tryz.ntmps85
 go_wp2_with (first|(go_at_call 87;first|((with_reducible refine(hA _).mono ?_);rintro e w' ⟨rfl,rfl⟩)|((with_reducible refine(hB _).mono ?_);rintro e w' ⟨rfl,rfl⟩))|(go_at_call 86;refine(hO _).mono ?_;rintro e w' ⟨rfl,rfl⟩))
 go_ret
 exact⟨rfl,0,_,alloc_eq_grow _ _⟩
section
variable{α:Type}[Inhabited α]{enc:α->bY}
theorem Us{cur:Array bY}{e:bX}(d:Array α)(c:w.heap[g]? =iU (.cells cur e fr)):
 (sortWorld enc w g 0 n d os).heap[g]? =iU (.cells (bW enc 0 d cur) e fr):=by
 have hg:g < w.heap.size:=(aA.1 c).1;unfold sortWorld;rw[heap_grow_old _ _ (by simpa using hg)];simp[putRow,mapBlock,bV,aB,c,onCells]
theorem Jf(d:Array α):w.grownBy (sortWorld enc w g 0 n d os) (iU g):=by
 unfold sortWorld;refine⟨rfl,rfl,rfl,by simp,λk hk c=>?_⟩;rw[heap_grow_old _ _ (by simpa using hk)];have:g≠k:=λe=>c (by rw[e])
 simp[putRow,mapBlock,bV,aB,this]
theorem Qe(cur:Array bY)(d:Array α)(h:d.size<=cur.size):(bW enc 0 d cur).toList.take d.size=d.toList.map enc:=by
 apply dE;intro j;by_cases u:j < d.size
 ·rw[eB u,aC,dY,aC];have c:j < cur.size:=by omega
  simp[bW,u,c]
 ·rw[List.getElem?_take_eq_none (by omega),dW (by simp;omega)]
end
abbrev WfI:Type:={x:Int // Ch x}
instance Aqf:Inhabited WfI:=⟨⟨0,by unfold Ch;decide⟩⟩
def Axz(x:WfI):bY:=.int .i64 x.1
theorem Afn{l:List (Int×Int)}{x y:WfI}:ltOf (λx y:WfI=>cfC l x.1 y.1) x y=aK (ltC l x.1 y.1):=Apj
theorem AAa(l:List (Int×Int)):SWO (ltOf λx y:WfI=>cfC l x.1 y.1) where
 irrefl x:=by rw[Afn];simp[ltC]
 trans x y z h1 h2:=by
  rw[Afn,decide_eq_true_eq]at *;unfold ltC at *;omega
 ntrans x y z h1 h2:=by
  rw[Afn,decide_eq_false_iff_not]at *;unfold ltC at *;omega
theorem Az7(l:List (Int×Int))(x y:WfI)(h1:ltOf (λx y:WfI=>cfC l x.1 y.1) x y=aH)(h2:ltOf (λx y:WfI=>cfC l x.1 y.1) y x=aH):x=y:=by
 rw[Afn,decide_eq_false_iff_not]at h1 h2;unfold ltC at h1 h2;exact Subtype.ext (by omega)
theorem Adm{base:Nat}{zs:List Int}{l:List (Int×Int)}{F m:Nat}{ty:bX}(u:Gf w base v zs)(hn:zs.length<=2147483648)(N:Bg zs)(I:w.heap[F]? =iU (.cells #[.map (iU m)] ty fr))(hm:M1 w m (mapK (b9 .i64) l))(O:∀q,v.ownBlock=iU q->q≠F/\q≠m):
 aL bC 84 #[v,.func (.func 85) #[] #[.pointer (iU ⟨F,0,iT⟩)]] w λe w'=>e= .returned (.tuple #[])/\Gf w' base v (Ky l zs)/\w.grownBy w' v.ownBlock:=by
 rcases u.2 with⟨rfl,h0⟩|⟨g,cap,cur,rfl,E,Y,h1,h2,h3,h4⟩
 ·have:zs= []:=dD h0;subst this;refine(AnyF.slices_SortFunc_none (P:=bC) (ρ:=Tryz.sortFI_ren) {bH with} iT 0 _ w).mono λe w' ⟨X,L⟩=>?_
  subst L;exact⟨X,by simpa[Ky]using u,World.grownBy.refl _ _⟩
 ·have W:g < w.heap.size:=(aA.1 Y).1;obtain⟨n1,n2⟩:=O g V;obtain⟨dl,B⟩:∃dl:List WfI,dl.map (·.1)=zs:=⟨zs.attach.map λ(x:{y // y∈zs})=>(⟨x.1,N x.1 x.2⟩:WfI),by rw[eM];exact zs.attach_map_subtype_val⟩
  have G:dl.length=zs.length:=by rw[<-B,eH]
  have Z:=JU Y h4;have hH:Holds Axz w g 0 dl.toArray:=λj hj=>by
   have U:j < dl.length:=by simpa using hj
   obtain⟨k1,k2⟩:=Z j (by simp;omega);refine⟨?_,k2⟩;rw[k1];have e1:zs.toArray[j]! =zs[j]'(by omega):=by simp[getElem!_pos,show j < zs.length by omega]
   have J:dl.toArray[j]! =dl[j]:=by simp[getElem!_pos,U]
   rw[e1,J];unfold Axz;simp only[<-B,List.getElem_map]
  have eg:∀args w,(callFunc 85 args).run bC w= .ok (.enter 85 args) w:=enters_of aY (by kernel_rfl) V;have c:=Any.slices_SortFunc_total bH Axz (λ_=>rfl) (λx y:WfI=>cfC l x.1 y.1) (AAa l) 85 #[.pointer (iU ⟨F,0,iT⟩)] g 0 cap dl.toArray w eg (λmm os dk _ x y=>by
   have H:=Jf (enc:=Axz) (w:=w) (g:=g) (n:=mm) (os:=os) dk;exact Aly l F m ty fr x.1 y.1 x.2 y.2 _ ((H.block F (aA.1 I).1 λe=>n1 (by cases e;rfl)).trans I) (hm.keep (H.block m hm.lt λe=>n2 (by cases e;rfl)))) hH W (by simp;omega) (Az7 l)
  have hz:dl.toArray.size=zs.length:=by simpa using G
  rw[hz]at c;refine c.mono λe w' ⟨X,n,os,L⟩=>?_
  subst L;refine⟨X,?_,Jf _⟩;have z:(dl.toArray.toList.mergeSort λx y=>!(ltOf λx y:WfI=>cfC l x.1 y.1) y x).map (·.1)=Ky l zs:=by
   rw[List.map_mergeSort (s:=Arr l) λa _ b _=>by rw[Afn];rfl];unfold Ky;rw[<-B]
  generalize (dl.toArray.toList.mergeSort λx y=>!(ltOf λx y:WfI=>cfC l x.1 y.1) y x)=ts at z⊢;have A:(Ky l zs).length=zs.length:=(GT l zs).length_eq;have aa:ts.length=zs.length:=by rw[<-A,<-z,eH]
  unfold Gf;rw[A];refine⟨by rw[eH,A,iO],.inr ⟨g,cap,_,rfl,E,Us _ Y,h1,h2,by simp[bW,h3],?_⟩⟩;have J:=Qe (enc:=Axz) cur ts.toArray (by simp only[fG];rw[h3];omega);have e3:ts.toArray.size=zs.length * 1:=by simp;omega
  rw[e3]at J;rw[J,<-z,eM];rfl
section
variable{C:Ctx}{t:List AV}{h:List fT}{o:aR}{K:St->Prop}
theorem T1(h:Bg l):Bg (Ky m l):=λr c=>h r ((GT m l).mem_iff.1 c)
theorem SP{y:aS}{tys:Array bX}{i ver j1 j2 m:Nat}{ml:List (Int×Int)}(ho:o.op= .call {callee:=.value (.func 84),args:=#[x,y],argTypes:=tys})(hx:evA t x= .own i ver)(hy:evA t y= .fn 85 [.lit (.pointer (iU ⟨g,0,iT⟩))])
 (hi:h[i]? =iU (.row ver 3 tInt l))(h1:h[j1]? =iU (.res (Be g [.lit (.map (iU m))])))(h2:h[j2]? =iU (.res (EG (b9 .i64) ml m)))(I:i≠j1/\i≠j2)(hl:l.length<=2147483648)
 (hK:K ⟨Bl t o.dst .any,h.set i (.row ver 3 tInt (Ky ml l))⟩):AOp bC C o ⟨t,h⟩ K:=by
 rintro Q' a w ⟨hd,S,ψ,H,F⟩;refine⟨λc e=>(by rw[ho]at e;cases e),?_⟩;have B:=Bv F x;have A:=Bv F y;rw[show evA (St.mk t h).t x= .own i ver from hx]at B;rw[show evA (St.mk t h).t y=_ from hy]at A;unfold gB at B A;obtain⟨cs,O,aa⟩:=A;obtain⟨u,rfl,hu⟩:=Ach aa;unfold gB at hu;subst hu;have hv:=(B.2 _ (by rw[hi];rfl)).2 V;have N:=H.blk i _ hi;have E:=N.lt V;obtain⟨hO,hw⟩:=JI N;obtain⟨ad,e1,ab,U⟩:=(H.blk j1 _ h1).2;obtain⟨u1,rfl,G⟩:=Ach U;unfold gB at G;subst G;have Y:M1 w m (mapK (b9 .i64) ml):=(H.blk j2 _ h2).2;have L:Bu (ψ i)=(ψ i).ownBlock:=by
  rcases hO.2 with⟨e,_⟩|⟨g,cap,cur,e,_⟩ <;> rw[e] <;> rfl
 have W:∀q,(ψ i).ownBlock=iU q->q≠g/\q≠m:=λq hq=>by
  have f1:ftp h[i]? (ψ i) q:=by rw[hi];exact L.trans hq
  exact⟨λe=>H.dis i j1 I.1 (by rw[hi];rfl) (by rw[h1];rfl) q f1 (by rw[h1];exact e),λe=>H.dis i j2 I.2 (by rw[hi];rfl) (by rw[h2];rfl) q f1 (by rw[h2];exact e)⟩
 unfold Oper.wp;rw[Cv ho (by kernel_rfl) a.eval w V];simp only[Oper.upon];rw[show(#[x,y].map a.eval)= #[ψ i,.func (.func 85) #[] #[.pointer (iU ⟨g,0,iT⟩)]]from by simp[hv,O]];refine(Adm hO hl hw ab Y W).mono ?_;rintro r w' ⟨rfl,ac,Z⟩;have z:w.grownBy w' (Bu (ψ i)):=by rw[L];exact Z
 have J:∀k,S k->w'.heap[k]? =w.heap[k]?:=λk hk=>z.block k (H.lt k hk) λe=>(E k e.symm).2.2 hk
 have X:Ext w S h ψ w' S (h.set i (.row ver 3 tInt (Ky ml l))) (Bo ψ i (ψ i)):=Ext.set J hi (λc' hc=>by
  simp only[fX,iV]at hc;exact⟨ver,rfl,by omega,λ_=>⟨rfl,rfl⟩⟩) λh=>by simp[AZ]at h
 exact⟨_,hK,Iw (s:=⟨t,h⟩) hi hd F (H.set hi V (Bs z) X (LE ac (T1 hw) λg hg=>⟨(E g (AU hg)).1,(E g (AU hg)).2.2⟩) λg hg=>.inl hg) X (by unfold gB;trivial)⟩
end
instance Aqd:ZC bC 51 [.map iT]:=⟨by kernel_rfl⟩
theorem BT{P:aT}{C:Ctx}{t:List AV}{h:List fT}{o:aR}{j:Nat}{xs:Array bY}(u:o.op= .extract x j)(hx:evA t x= .lit (.tuple xs))(z:xs[j]? =iU v):AT P C t h o (.lit v):=
 AL λS ψ w ρ _ c=>by
  have h1:=c x (by simp[u,Op.operands]);rw[hx]at h1;unfold gB at h1;exact⟨v,by simp[cG,u,h1,Instr.extract,z],by unfold gB;rfl⟩
theorem Cp{α:Type}{l:List (Int×α)}(h:Eb l):(keysK l).Nodup:=by
 unfold keysK;exact List.pairwise_map.2 (h.imp λh=>by omega)
theorem Zm{ks:List Int}(u:Eb m)(c:ks.Nodup)(h:∀q,q∈ks↔q∈keysK m):Ky m ks=Ky m (keysK m):=
 Zl ((GT m ks).trans ((fE c (Cp u)).2 h)) (M9 m ks)
noncomputable section
def MS(f:gO):M (List Int):=gP (Jl (λs u c=>Gx u c s) f ([]:List (Int×Int))) λm=>gQ (aK (m.length<=2097152/\Eb m)) (gU (Ky m (keysK m)))
theorem UV{f:gO}{r:List Int}(H:(MS f).to r):Fn bC 48 [.agg (Ak f)] (.bs tInt r):=by
 obtain⟨s,k,H⟩:=Aq.1 H;obtain⟨c,H⟩:=Ah.1 H;obtain rfl:=Ad.1 H;have c:=of_decide_eq_true c;refine AQ Tryz.func48 V (by kernel_rfl) V Tryz.ntmps48 λC hC=>?_
 simp only[Nat.reduceAdd,Nat.reduceSub,zaa];refine wR (hx:=by((refine AC V (AOp.boxI 0 V V Vx.agg ?_);refine D2 ?_ JH);refine sA ?_ (AT.assign V Acf) Mk;exact CS V)) ?_;refine wRK λK1 W=>?_
 refine AC V (J6 (b9 .i64) V λm=>?_);refine D2 ?_ HT;refine AC V (ST 2 V V ?_);refine D2 ?_ JG;refine AC V (CR (new:=[_]) V V V (PW.one (gX V)) V (iG V) ?_);refine D2 ?_ RG;refine Au (W _ ?_);refine Bt 2 V V V (λg=>(.agg (Ak f)::.ptr 0 0::.lit (.slice iT 0 0)::.lit (.pointer (iU ⟨g,0,iT⟩))::A2 (.lit (.map (iU m))::A10 (A7 [])))) (λg=>(by(repeat(first|exact g9|refine hZ ?_|refine gZ ?_|refine g8 V ?_)))) λg=>?_
 refine nT ?_;have k:=WP (R0:=λs=>Res.and (Be g [.lit (.map (iU m))]) (EG (b9 .i64) s m)) (λ_=>rfl) (λ_ _ _ _ h=>h) V (λ_ _ _ _ H=>Qo H) k;refine wR (hx:=by(refine sA ?_ (AR V GP V V) Hy;refine sA ?_ (FK V) (Ap HU);refine J0 V (DH 2 1 (by decide) V V) ?_;(refine AC V (BQ (i:=2) V V k (λ_=>rfl) V V λ_=>?_);refine D2 ?_ (Ap JH));exact CS V)) ?_;refine AE _ (Fd 2 1 (by decide) V V) ?_;refine nT ?_;refine wR (hx:=by(refine sA ?_ (AT.assign V Acf) Ka;exact CS V)) ?_;refine Ab λK5 h5=>?_
 refine wRK λK6 U=>?_
 refine sA ?_ (AY (i:=2) (g:=g) V FF V V V) (Ap Mk);refine AC V (Rz 1 V bM V V λI=>?_);refine D2 ?_ (Ap JG);refine Au (U _ ?_);refine AE _ (EB 4 3 tInt V (by decide)) ?_;refine nT ?_;refine Ac ?_;have O:(keysK s).length=s.length:=by simp[keysK]
 refine AB (λp:List Int×Nat=>⟨(A3 (.lit (.pointer (iU ⟨g,0,iT⟩))::.own 3 p.2::A6 (.lit (.pointer (iU ⟨I,0,iT⟩))::A10 (A2 [])))),[.dead,.res (Tr (b9 .i64) s p.1 m I),.res (Be g [.lit (.map (iU m))]),.row p.2 3 tInt p.1]⟩) (λp=>p.1.Nodup/\∀q∈p.1,q∈keysK s) (λp=>s.length - p.1.length) ([],0) ⟨fD,λq hq=>by cases hq⟩ (leC (gH (gG (gG (gG (gI _)))))) ?_;rintro⟨ks,ver⟩ ⟨E,A⟩
 (try dsimp only at E A);(try dsimp only)
 refine Ab λK3 Z=>?_
 refine gC ?_;refine AC V (VH 1 V V V (λhn G=>?_) (λq v hn hs hw hq N=>?_))
 ·refine sNt ?_;refine sA ?_ (BT V V V) (Ap GY);refine Au ?_;refine Z _ ?_;refine nT ?_;refine Ab λK4 Y=>?_
  refine Ag V (λB=>by cases B) (λB=>?_);refine Ay ?_;repeat(first|refine BG ?_|refine exO (by decide) ?_|refine asE ?_)
  refine exN ?_;refine h5 _ ?_;refine nT ?_;have u:ks.length<=2147483648:=by
   have:=Dh E A;omega
  refine AE _ (Ju (i:=1) (R':=EG (b9 .i64) s m) V (λ_ h=>.inl h) (λ_ _ h=>by obtain⟨h0,left,cnt,h1,_⟩:=h;exact⟨h0,h1.owns⟩) V) ?_;refine nT ?_;refine wR (hx:=by(refine sA ?_ (AT.move V GO) (Ap (Ap Ka));refine sA ?_ (FK V) (Ap (Ap GY));(refine AC V (SP (j1:=2) (j2:=1) (ml:=s) V V V V V V (by decide) u ?_);refine D2 ?_ (Ap (Ap HT)));exact CS V)) (hk:=?_);refine wR (hx:=by(refine sA ?_ (AT.move V GO) (Ap (Ap Hy));refine sA ?_ (AT.assign V (Ao (Ao Hd))) Mk;exact CS V)) ?_;rw[Zm c.2 E G];exact Aw ⟨.inr V,gK V⟩
 ·refine sNt ?_;refine sA ?_ (BT V V V) (Ap GY);refine Au ?_;refine Z _ ?_;refine nT ?_;refine Ab λK4 Y=>?_
  refine Ag V (λB=>?_) (λB=>by cases B);refine Al ?_;refine Y _ ?_;refine nT ?_;refine Ac ?_;have J:wfB .i64 q=aJ:=hw;have L:q∈keysK s:=eW.2 ⟨(q,v),(CK c.2).1 hq,rfl⟩;have F:(ks++[q]).Nodup:=fC.2 ⟨E,by simp,λa ha b hb=>by rw[fA.1 hb];exact λe=>N (e▸ha)⟩;have z:∀x∈ks++[q],x∈keysK s:=λx hx=>(eO.1 hx).elim (A x) λe=>by rw[fA.1 e];exact L
  have u:=Dh F z;rw[eD,O]at u;have X:Fj (ks.length+ [q].length) 8=aJ:=by
   simp only[zai]at u⊢;unfold Fj cN;simp only[zaf];omega
  refine wR (hx:=by(refine sA ?_ (NB 1 V V V) (Ap HT);refine sA ?_ (AT.extract V (Ao Iy) V) (Ap Hy);refine sA ?_ (AT.assign V (Ao Hd)) GY;exact CS V)) ?_;refine wRE (hx:=by(refine sA ?_ (AT.move V GO) (Ap (Ap HU));refine sA ?_ (AT.move V Fq) (Ap (Ap JH));refine sA ?_ (AT.lt (xs:=[.tmp 17]) (T:=tInt) (ds:=[q]) V V V (by rfl) (by decide) (.cons (Fit.int J) .nil)) (Ap (Ap Mk));(refine AC V (J7 V V V V V X ?_);refine D2 ?_ (Ap (Ap JG)));refine sA ?_ (AT.assign V (Ao (Ao FF))) Ka;exact CS V)) (hk:=?_);repeat(first|refine abN ?_|refine asN ?_)
  refine An ⟨(ks++[q],ver+1),⟨F,z⟩,by simp only[zaw]at u⊢;omega,?_⟩;refine iC (Ju (i:=1) (R':=Tr (b9 .i64) s (ks++[q]) m I) V (λ_ h=>h) (λ_ _ h=>h.1) V) ?_;exact AS
end
end Mu
namespace Mu
open Go Go.RowKit Go.Proofs Go.Maps
variable{E E0:List (Int×Int)}{G:gF}{l:List Int}{out:List (Int×Int)}{α:Type}{p:α->Bool}{r:Int}{v:bY}
def SW(E:List (Int×Int))(k:Int):List (Int×Int):=if(getK E k).isSome then B7 E k (aN.wrap ((getK E k).getD 0 - 1))else E
def Ku(G:gF)(E:List (Int×Int))(r:Int):List (Int×Int):=((getK G.near r).getD []).foldl SW (Qm E r)
def Ayi(g m:Nat)(v:bY)(l:List Int)(E:List (Int×Int)):Res:=Res.and (Be g [.lit v]) (Res.and (rowR v 3 tInt l) (EG (b9 .i64) E m))
theorem Akb{g m:Nat}(w:cA)(S S':Nat->Prop)(h:(Ayi g m v l E).R w S):(Ayi g m v l E).R w S':=by
 obtain⟨⟨cs,e,h1,h2⟩,⟨A,z,u⟩,c⟩:=h;refine⟨⟨cs,e,h1,?_⟩,⟨XM A,z,u⟩,c⟩;simp only[Ae,gB]at h2⊢;exact h2
theorem Aln(l:List (Int×α))(k:Int):(Qm l k).length<=l.length:=eG _ _
theorem Alq(h:Eb E)(k:Int):(SW E k).length=E.length:=by
 unfold SW;split
 ·rename_i hk;exact HJ h hk _
 ·rfl
theorem YG(h:Eb E)(k:Int):Eb (SW E k):=by
 unfold SW;split
 ·exact h.put _ _
 ·exact h
theorem Uy:∀{E:List (Int×Int)},Eb E->Eb (l.foldl SW E)/\(l.foldl SW E).length=E.length:=by
 induction l with
 |nil=>intro E h;exact⟨h,rfl⟩
 |cons x l c=>
  intro E h;obtain⟨h1,h2⟩:=c (YG h x);exact⟨h1,h2.trans (Alq h x)⟩
theorem S6(G:gF)(g m:Nat)(v:bY)(l:List Int)(E:List (Int×Int))(r:Int)(O:Ch r)(hE:Eb E)(aa:E.length<=2147483648)(hl:l.length<=2147483648)(hn:∀k∈(getK G.near r).getD [],Ch k)(W:((getK G.near r).getD []).length<=2147483648):DK bC 91 (Ayi g m v l E) [.lit (.int .i64 r),.lit (.pointer (iU ⟨g,0,iT⟩)),.bp (RE (.map (iU m))) () 0,.bp (J8 Bc) G 0] (λv':bY=>Ayi g m v' (l++[r]) (Ku G E r)) (λ_=>.tuple #[]):=by
 obtain⟨c,A⟩:∃c,c=(getK G.near r).getD []:=⟨_,rfl⟩
 have U:∀k∈c,Ch k:=by rw[A];exact hn
 have Z:c.length<=2147483648:=by rw[A];exact W
 have N:Fj (l.length+ [r].length) 8=aJ:=by
  unfold Fj;simp only[zaf,zai];unfold cN;omega
 refine DX Tryz.func91 V (by kernel_rfl) V Tryz.ntmps91 V (λ_=>Akb) λC=>?_
 refine AE _ (EM 0 V) ?_;refine AE _ (EM 1 V) ?_;refine gD ?_;simp only[Nat.reduceAdd,Nat.reduceSub,zaa];refine nT ?_;refine wRK λK1 X=>?_
 refine sA ?_ (AY (i:=0) (g:=g) V GP V V V) (Ap JH);refine sA ?_ (AT.move V IG) (Ap Mk);refine sA ?_ (Cg (T:=tInt) V V V (by rfl) (by decide) (gN O)) (Ap JG);refine AC V (VM 1 V V (Ao GP) V (Ao FF) N λv'=>?_);refine D2 ?_ (Ap Ka);refine AC V (It (i:=0) (g:=g) (new:=[.lit v']) V GP V (PW.one (Me (i:=1) V)) V V (iG V) ?_);refine D2 ?_ RG;refine Au (X _ ?_);refine wR (hx:=by((repeat(first|refine sA ?_ (AA V V V)|(refine AC V (Amr 2 V Tryz.underlying51 V V O V ?_);refine sNt ?_)|refine sA ?_|refine AM ?_|refine sAG ?_|refine Bp ?_));exact CS V)) (hk:=?_);refine wR (hx:=by((repeat(first|refine sA ?_ (AA V V V)|refine sA ?_ (Ck V V)|refine sA ?_ (Cn V Tryz.underlying77 V V O)|refine sA ?_|refine AM ?_|refine sAG ?_|refine Bp ?_));exact CS V)) ?_;refine Ac ?_;refine AB (λk:Nat=>⟨(A2 (.bp (RE (.map (iU m))) () 0::A10 (A7 (.bs tInt c::.lit (.int .i64 (c.length:Int))::.lit (.int .i64 (k:Int))::A10 (A5 []))))),[.res (Be g [.lit v']),.res (rowR v' 3 tInt (l++[r])),.res (EG (b9 .i64) ((c.take k).foldl SW (Qm E r)) m)]⟩) (λk=>k<=c.length) (λk=>c.length - k) 0 (iQ _) (by rw[A];exact AS) ?_;rintro k hk;refine wR ?_;refine Ab λK6 h6=>?_
 refine Ag V (λH=>?_) (λH=>?_)
 ·have F:k < c.length:=by simpa using H
  obtain⟨q,hq⟩:∃q,c[k]? =iU q:=⟨_,dV F⟩
  have B:wfB .i64 q=aJ:=U q (eX hq);obtain⟨D,J⟩:∃D,D=(c.take k).foldl SW (Qm E r):=⟨_,rfl⟩
  obtain⟨ac,ab⟩:Eb D/\D.length=(Qm E r).length:=by rw[J];exact Uy (hE.del r)
  have Y:D.length < cN:=by have:=Aln E r;unfold cN;omega
  rw[<-J];refine Al ?_;refine h6 _ ?_;refine nT ?_;refine Ab λK8 h8=>?_
  refine Ac ?_;refine wR ?_;refine wR (hx:=by((repeat(first|refine sA ?_ (AA V V V)|refine sA ?_ (Ip 2 V Tryz.underlying51 DY V V B V)|refine sA ?_|refine AM ?_|refine sAG ?_|refine Bp ?_));exact CS V)) ?_;refine wR ?_;refine Ag V (λz=>?_) (λz=>?_)
  ·have L:(getK D q).isSome=aJ:=z;have u:B7 D q (aN.wrap ((getK D q).getD 0 - 1))=SW D q:=by unfold SW;rw[if_pos L]
   refine wRE (hx:=by((repeat(first|refine sA ?_ (AA V V V)|refine sA ?_ (PS 2 V Tryz.underlying51 DY V V B V)|(refine AC V (J5 2 V Tryz.underlying51 V V V B Y V ?_);refine sNt ?_)|refine sA ?_|refine AM ?_|refine sAG ?_|refine Bp ?_));exact CS V)) (hk:=?_);refine h8 _ ?_;refine nT ?_;refine wRE ?_;refine An ⟨k+1,F,by omega,?_⟩;try dsimp only
   rw[fI,hq,dN,<-J,show(iU q).toList.foldl SW D=_ from u.symm];exact AS
  ·have L:(getK D q).isSome=aH:=z;have u:D=SW D q:=by unfold SW;rw[if_neg (by rw[L];simp)]
   refine Al ?_;refine h8 _ ?_;refine nT ?_;refine wRE ?_;refine An ⟨k+1,F,by omega,?_⟩;try dsimp only
   rw[fI,hq,dN,<-J,show(iU q).toList.foldl SW D=_ from u.symm];exact AS
 ·obtain rfl:k=c.length:=by have:¬k < c.length:=(by simpa using H);omega
  have I:Ku G E r=(c.take c.length).foldl SW (Qm E r):=by unfold Ku;rw[fM,<-A]
  rw[<-I];refine Ay ?_;refine upE (iC (DH 1 2 (by decide) V V) (iC (DH 0 1 (by decide) V V) iB)) ?_;exact⟨.inl V,v',rfl,rfl⟩
def EC(regs:List Int)(out:List (Int×Int)):List (Int×Int):=regs.foldl (λE r=>if(getK out r).getD 0 ==0 then B7 E r 0 else E) []
def Un(q:Int)(E:List (Int×Int))(k:Int):List (Int×Int):=if(getK E k).isSome then B7 E q (aN.wrap ((getK E q).getD 0+1))else E
def So(G:gF)(E:List (Int×Int))(q:Int):List (Int×Int):=((getK G.near q).getD []).foldl (Un q) E
def Ib(G:gF)(out:List (Int×Int)):List (Int×Int):=(keysK (EC G.regs out)).foldl (So G) (EC G.regs out)
def Q3(G:gF)(E:List (Int×Int))(r:Int):Bool:=(getK E r).isSome&&aK ((getK E r).getD 0 < (((getK G.cls r).getD []).length:Int))
def Lz(G:gF)(E:List (Int×Int)):Option Int:=match G.regs.find? (Q3 G E)with
 |some r=>iU r
 |none=>(G.cheap++G.regs).find? λr=>(getK E r).isSome
def DN(G:gF):Nat->List (Int×Int)->List Int->List Int
 |0,_,l=>l
 |n+1,E,l=>match Lz G E with
  |some r=>DN G n (Ku G E r) (l++[r])
  |none=>l
def CV(G:gF)(out:List (Int×Int)):List Int:=DN G (Ib G out).length (Ib G out) []
theorem G9(out:List (Int×Int)):∀(l:List Int) {E:List (Int×Int)},okK E->(∀r∈l,Ch r)->okK (l.foldl (λE r=>if(getK out r).getD 0 ==0 then B7 E r 0 else E) E)/\(l.foldl (λE r=>if(getK out r).getD 0 ==0 then B7 E r 0 else E) E).length<=E.length+l.length
 /\∀x,getK (l.foldl (λE r=>if(getK out r).getD 0 ==0 then B7 E r 0 else E) E) x=if x∈l/\(getK out x).getD 0=0 then iU 0 else getK E x
 | [],E,h,_=>⟨h,by simp,λx=>by simp⟩
 |r::l,E,h,F=>by
  rw[dO];have u:∀r∈l,Ch r:=λq hq=>F q (eS _ hq)
  by_cases z:(getK out r).getD 0=0
  ·have e:((getK out r).getD 0 ==0)=aJ:=by rw[z];rfl
   rw[if_pos e];obtain⟨h1,h2,B⟩:=G9 out l (h.put (F r eT) 0) u;refine⟨h1,?_,λx=>?_⟩
   ·have:=EY (l:=E) r 0;rw[eE];omega
   ·rw[B x,BH h.1];by_cases hx:x=r
    ·subst hx;have H:(if x∈x::l/\(getK out x).getD 0=0 then iU (0:Int)else getK E x)=iU 0:=if_pos ⟨eT,z⟩;rw[H,if_pos V];split <;> rfl
    ·rw[if_neg hx];by_cases c:x∈l/\(getK out x).getD 0=0
     ·rw[if_pos c,if_pos ⟨eS _ c.1,c.2⟩]
     ·rw[if_neg c,if_neg λ⟨h4,A⟩=>c ⟨(eR.1 h4).resolve_left hx,A⟩]
  ·have e:((getK out r).getD 0 ==0)=aH:=by simpa using z
   rw[if_neg (by rw[e];simp)];obtain⟨h1,h2,B⟩:=G9 out l h u;refine⟨h1,by rw[eE];omega,λx=>?_⟩;rw[B x];by_cases c:x∈l/\(getK out x).getD 0=0
   ·rw[if_pos c,if_pos ⟨eS _ c.1,c.2⟩]
   ·rw[if_neg c,if_neg λ⟨h4,A⟩=>by
     rcases eR.1 h4 with rfl|h4
     ·exact z A
     ·exact c ⟨h4,A⟩]
theorem LQ{regs:List Int}(out:List (Int×Int))(c:∀r∈regs,Ch r):okK (EC regs out):=(G9 out regs okK.nil c).1
theorem Pe{regs:List Int}(out:List (Int×Int))(c:∀r∈regs,Ch r):(EC regs out).length<=regs.length:=by
 have:=(G9 out regs okK.nil c).2.1;rw[eI,iP]at this;exact this
theorem Pf{regs:List Int}(out:List (Int×Int))(c:∀r∈regs,Ch r)(x:Int):getK (EC regs out) x=if x∈regs/\(getK out x).getD 0=0 then iU 0 else iT:=(G9 out regs okK.nil c).2.2 x
def Ars(E:List (Int×Int))(c:List Int)(v:Int):Int:=c.foldl (λv k=>if(getK E k).isSome then aN.wrap (v+1)else v) v
theorem LV(E0:List (Int×Int))(q:Int):∀(c:List Int) {E:List (Int×Int)} {v:Int},okK E->(∀x,(getK E x).isSome=(getK E0 x).isSome)->getK E q=iU v->
 okK (c.foldl (Un q) E)/\(∀x,getK (c.foldl (Un q) E) x=if x=q then iU (Ars E0 c v)else getK E x)/\(c.foldl (Un q) E).length=E.length
 | [],E,v,h,_,hq=>⟨h,λx=>by
  by_cases e:x=q
  ·rw[if_pos e,e];exact hq
  ·rw[if_neg e];rfl,rfl⟩
 |k::c,E,v,h,z,hq=>by
  rw[dO];have B:Ch q:=h.2 (q,v) ((CK h.1).1 hq);have A:(getK E q).isSome=aJ:=by rw[hq];rfl
  by_cases hk:(getK E k).isSome=aJ
  ·have e:Un q E k=B7 E q (aN.wrap (v+1)):=by unfold Un;rw[if_pos hk,hq];rfl
   rw[e];have hg:∀x,getK (B7 E q (aN.wrap (v+1))) x=if x=q then iU (aN.wrap (v+1))else getK E x:=λx=>BH h.1 _ _ _
   obtain⟨h1,h2,F⟩:=LV E0 q c (h.put B (aN.wrap (v+1))) (λx=>by
    rw[hg];by_cases u:x=q
    ·rw[if_pos u,<-z x,u,A];rfl
    ·rw[if_neg u];exact z x) (by rw[hg,if_pos V])
   refine⟨h1,λx=>?_,F.trans (HJ h.1 A _)⟩;rw[h2 x];have H:Ars E0 (k::c) v=Ars E0 c (aN.wrap (v+1)):=by
    show dM _ (if(getK E0 k).isSome then _ else _) c=_;rw[if_pos (by rw[<-z k];exact hk)];rfl
   rw[H];by_cases u:x=q
   ·rw[if_pos u,if_pos u]
   ·rw[if_neg u,if_neg u,hg,if_neg u]
  ·have e:Un q E k=E:=by unfold Un;rw[if_neg hk]
   rw[e];obtain⟨h1,h2,F⟩:=LV E0 q c h z hq;refine⟨h1,λx=>?_,F⟩;rw[h2 x];have H:Ars E0 (k::c) v=Ars E0 c v:=by
    show dM _ (if(getK E0 k).isSome then _ else _) c=_;rw[if_neg (by rw[<-z k];exact hk)];rfl
   rw[H]
theorem snocI{c:List α->Prop}(nil:c [])(snoc:∀l x,c l->c (l++[x]))(l:List α):c l:=by
 have z:∀n (l:List α),l.length=n->c l:=by
  intro n;induction n with
  |zero=>intro l u;rw[dD u];exact nil
  |succ n B=>
   intro l u;have A:l≠[]:=λe=>by rw[e]at u;simp at u
   rw[<-List.dropLast_concat_getLast A];exact snoc _ _ (B _ (by rw[List.length_dropLast,u];rfl))
 exact z _ l V
theorem F7(G:gF)(h0:okK E0):∀(ks:List Int),ks.Nodup->(∀q∈ks,q∈keysK E0)->okK (ks.foldl (So G) E0)/\(∀x,getK (ks.foldl (So G) E0) x=if x∈ks then(getK E0 x).map (Ars E0 ((getK G.near x).getD []))else getK E0 x)/\(ks.foldl (So G) E0).length=E0.length:=by
 intro ks;induction ks using snocI with
 |nil=>intro _ _;exact⟨h0,λx=>by simp,rfl⟩
 |snoc ks q L=>
  intro I A;have c:=fC.1 I;obtain⟨h1,h2,X⟩:=L c.1 λx hx=>A x (eP _ hx)
  have F:q∉ks:=λJ=>c.2.2 q J q (fA.2 V) V
  have u:∀x,(getK (ks.foldl (So G) E0) x).isSome=(getK E0 x).isSome:=λx=>by
   rw[h2 x];split
   ·rw[iS]
   ·rfl
  obtain⟨p,N,H⟩:=eW.1 (A q (eQ _ (fA.2 V)));have z:getK E0 q=iU p.2:=(CK h0.1).2 (by rw[<-H];exact N);have hq:getK (ks.foldl (So G) E0) q=iU p.2:=by rw[h2 q,if_neg F,z]
  rw[dN];obtain⟨W,U,O⟩:=LV E0 q ((getK G.near q).getD []) h1 u hq;refine⟨W,λx=>?_,O.trans X⟩;show getK (So G (ks.foldl (So G) E0) q) x=_;rw[show So G (ks.foldl (So G) E0) q=((getK G.near q).getD []).foldl (Un q) (ks.foldl (So G) E0)from V,U x];by_cases B:x=q
  ·rw[if_pos B,if_pos (by rw[B];simp),B,z];rfl
  ·rw[if_neg B,h2 x];by_cases hx:x∈ks
   ·rw[if_pos hx,if_pos (eP _ hx)]
   ·rw[if_neg hx,if_neg λJ=>(eO.1 J).elim hx λe=>B (fA.1 e)]
theorem Alu(G:gF)(h0:okK E0){ks:List Int}(u:ks.Nodup)(c:∀q,q∈ks↔q∈keysK E0):ks.foldl (So G) E0=(keysK E0).foldl (So G) E0:=by
 obtain⟨h1,h2,_⟩:=F7 G h0 ks u λq hq=>(c q).1 hq
 obtain⟨A,z,_⟩:=F7 G h0 (keysK E0) (Cp h0.1) λq hq=>hq
 refine Al9 h1.1 A.1 λx=>?_
 rw[h2 x,z x];by_cases hx:x∈keysK E0
 ·rw[if_pos hx,if_pos ((c x).2 hx)]
 ·rw[if_neg hx,if_neg λe=>hx ((c x).1 e)]
theorem Agx{l:List α}{k:Nat}{x:α}(hx:l[k]? =iU x)(z:p x=aJ)(h:∀j y,j < k->l[j]? =iU y->p y=aH):l.find? p=iU x:=by
 induction l generalizing k with
 |nil=>simp at hx
 |cons a l c=>
  cases k with
  |zero=>
   simp at hx;subst hx;rw[dI,z]
  |succ k=>
   have A:=h 0 a (by omega) V;rw[dI,A];exact c (by simpa using hx) λj y B u=>h (j+1) y (by omega) (by simpa using u)
theorem Aqu{l:List α}(h:∀j y,j < l.length->l[j]? =iU y->p y=aH):l.find? p=iT:=by
 rw[List.find?_eq_none];intro x hx;obtain⟨j,c⟩:=eV.1 hx;rw[h j x (dX.1 c).1 c];simp
theorem Ly(h:Lz G E=iU r):(getK E r).isSome=aJ:=by
 unfold Lz at h;split at h
 ·rename_i q hq;cases h;have:=dJ hq;unfold Q3 at this;simp only[aG]at this;exact this.1
 ·have:=dJ h;simpa using this
theorem Ld(h:Eb E)(B:(getK E r).isSome=aJ):Eb (Ku G E r)/\(Ku G E r).length+1=E.length:=by
 unfold Ku;obtain⟨h1,h2⟩:=Uy (l:=(getK G.near r).getD []) (h.del r);refine⟨h1,?_⟩;rw[h2];obtain⟨v,A⟩:=iR.1 B;have z:=(CK h).1 A;have c:E.Perm ((r,v)::Qm E r):=by
  refine(fE (List.Pairwise.imp (λ{a b} hab e=>by rw[e]at hab;omega) h) ?_).2 λp=>?_
  ·refine List.nodup_cons.2 ⟨λu=>(JT.1 u).2 V,List.Pairwise.imp (λ{a b} hab e=>by rw[e]at hab;omega) (h.del r)⟩
  ·rw[eR,JT];constructor
   ·intro c;by_cases e:p.1=r
    ·exact .inl (h.uniq c z e)
    ·exact .inr ⟨c,e⟩
   ·rintro(rfl|⟨c,_⟩)
    ·exact z
    ·exact c
 have:=c.length_eq;rw[eE]at this;exact this.symm
theorem GQ(h:Eb E)(r x:Int):(getK (Ku G E r) x).isSome=((getK E x).isSome&&x !=r):=by
 have c:∀(l:List Int) {D:List (Int×Int)},Eb D->(getK (l.foldl SW D) x).isSome=(getK D x).isSome:=by
  intro l;induction l with
  |nil=>intro D _;rfl
  |cons k l z=>
   intro D u;rw[dO,z (YG u k)];unfold SW;split
   ·rename_i hk;rw[BH u];by_cases e:x=k
    ·rw[if_pos e,e,hk];rfl
    ·rw[if_neg e]
   ·rfl
 unfold Ku;rw[c _ (h.del r),LY h];by_cases e:x=r
 ·rw[if_pos e,e];simp
 ·rw[if_neg e];simp[e]
instance Axq:ZC bC 27 [.slice iT 0 0]:=⟨by kernel_rfl⟩
abbrev Ze(g m:Nat)(G:gF):AV:=.fn 91 [.lit (.pointer (iU ⟨g,0,iT⟩)),.bp (RE (.map (iU m))) () 0,.bp (J8 Bc) G 0]
theorem Amo{h:List fT}(i:Nat)(hi:h[i]? =iU (.res (rowR v 3 tInt l)))(F:mkD h= []:=by rfl):Fin h (.lit v) (.bs tInt l):=⟨F,λC S ψ w u I H c=>by
 unfold gB at c;rw[c];clear c;have A:=H.blk i _ hi;obtain⟨h1,h2⟩:=NV A.2;refine⟨λk=>S k\/v.ownBlock=iU k,λ_ h=>.inl h,λk hk=>?_,λk hk=>?_,?_⟩
 ·rcases hk with hk|hk
  ·exact .inl hk
  ·exact .inr (iH λz=>(A.1 k (AU hk)).1 (I k z))
 ·rcases hk with hk|hk
  ·exact H.lt k hk
  ·exact(A.1 k (AU hk)).2.2
 ·unfold gB;refine C5 (T:=tInt) h1 (λj d B=>?_) λg hg=>.inr hg
  show tInt.RS w _ (((l.map (b9 .i64)).drop (j * 1)).take 1) d;have hi:(l.map (b9 .i64))[j]? =iU (.int .i64 d):=by rw[dY,B];rfl
  rw[iO,fO,eC,hi];exact DJ.2 ⟨rfl,h2 d (eX B)⟩⟩
structure OkG(G:CGraph):Prop where
 regs:∀r∈G.regs,Ch r
 len:G.regs.length<=1073741824
 cheap:G.cheap.length<=1073741824
 cheapw:∀r∈G.cheap,Ch r
 near:∀r,∀k∈(getK G.near r).getD [],Ch k
 nearl:∀r,((getK G.near r).getD []).length<=2147483648
structure OrdI(G:CGraph)(out:List (Int×Int))(E:List (Int×Int))(l:List Int):Prop where
 asc:Eb E
 inr:∀x,(getK E x).isSome=true->x∈G.regs
 len:E.length+l.length<=1073741824
 eq:DN G E.length E l=CV G out
theorem OrdI.take(h:OrdI G out E l)(c:Lz G E=iU r):OrdI G out (Ku G E r) (l++[r])/\(Ku G E r).length < E.length:=by
 obtain⟨h1,h2⟩:=Ld h.asc (Ly c) (G:=G);refine⟨⟨h1,λx hx=>h.inr x ?_,by have:=h.len;rw[eD,eE,eI];omega,?_⟩,by omega⟩
 ·rw[GQ h.asc]at hx;simp only[aG]at hx;exact hx.1
 ·have:=h.eq;rw[<-h2]at this;unfold DN at this;rw[c]at this;exact this
theorem Jb(u:OkG G):OrdI G out (Ib G out) []:=by
 have h0:=LQ out u.regs;obtain⟨h1,h2,A⟩:=F7 G h0 (keysK (EC G.regs out)) (Cp h0.1) λq hq=>hq
 refine⟨h1.1,λx hx=>?_,?_,rfl⟩
 ·have c:(getK (EC G.regs out) x).isSome=aJ:=by
   rw[show Ib G out=(keysK (EC G.regs out)).foldl (So G) (EC G.regs out)from V,h2 x]at hx;split at hx
   ·rwa [iS]at hx
   ·exact hx
  rw[Pf out u.regs]at c;by_cases z:x∈G.regs
  ·exact z
  ·rw[if_neg λe=>z e.1]at c;cases c
 ·have F:=Pe out u.regs;have B:=u.len;rw[show(Ib G out).length=_ from A,eI];omega
theorem Akh{E:List (Int×α)}(h:E.length≠0):∃x,(getK E x).isSome=aJ:=by
 cases E with
 |nil=>exact absurd V h
 |cons p E=>exact⟨p.1,by unfold getK;rw[dI];simp⟩
theorem Aka(G:gF)(out:List (Int×Int))(B:OkG G):Fn bC 53 [.bp Bc G 0,.tv tMapI out] (.bs tInt (CV G out)):=by
 have bq:=B.len;have cr:=B.cheap;refine AQ Tryz.func53 V (by kernel_rfl) V Tryz.ntmps53 λC hC=>?_
 simp only[Nat.reduceAdd,Nat.reduceSub,zaa];refine wR (hx:=by((repeat(first|(refine AC V (AOp.boxI 0 V V (PW.one One.bp).weak ?_);refine sNt ?_)|refine sA ?_|refine AM ?_|refine sAG ?_|refine Bp ?_));exact CS V)) (hk:=?_);refine Awp.scope ?_;refine AE _ (EN hC 0 2 V V Y0.bp) ?_;refine nT ?_;refine wRK λK2 bz=>?_
 refine AC V (J6 (b9 .i64) V λm=>?_);refine D2 ?_ (Ap (Ap Hy));refine AC V (ST 2 V V ?_);refine D2 ?_ GY;refine AC V (CR (new:=[_]) V V V (PW.one (gX V)) V (iG V) ?_);refine D2 ?_ RG;refine Au (bz _ ?_);refine AE _ (EN hC 2 5 V V (Y0.lit (v:=.map (iU m)) V)) ?_;refine nT ?_;refine Ab λK3 h3=>?_
 refine wR (hx:=by((repeat(first|refine sA ?_ (AA V V V)|refine sA ?_ (Ck V V)|refine sA ?_|refine AM ?_|refine sAG ?_|refine Bp ?_));exact CS V)) ?_;refine Ac ?_;refine AB (λk:Nat=>⟨(.any::.tv tMapI out::.bp (J8 Bc) G 0::A2 (.bp (RE (.map (iU m))) () 0::A20 (.any::.bs tInt G.regs::.lit (.int .i64 (G.regs.length:Int))::.lit (.int .i64 (k:Int))::A80 (A20 [.any])))),[.dead,.res (EG (b9 .i64) (EC (G.regs.take k) out) m),.dead]⟩) (λk=>k<=G.regs.length) (λk=>G.regs.length - k) 0 (iQ _) (AS) ?_;rintro k hk;refine wR ?_;refine Ab λK7 h7=>?_
 refine Ag V (λbb=>?_) (λbb=>?_)
 ·have u:k < G.regs.length:=by simpa using bb
  obtain⟨r,O⟩:∃r,G.regs[k]? =iU r:=⟨_,dV u⟩
  have A:wfB .i64 r=aJ:=B.regs r (eX O);have am:(EC (G.regs.take k) out).length < cN:=by
   have h1:=Pe (regs:=G.regs.take k) out λq hq=>B.regs q (eZ hq)
   have h2:(G.regs.take k).length<=G.regs.length:=by rw[eJ];omega
   unfold cN;omega
  have be:EC (G.regs.take (k+1)) out=if(getK out r).getD 0 ==0 then B7 (EC (G.regs.take k) out) r 0 else EC (G.regs.take k) out:=by
   unfold EC;rw[fI,O,dN];rfl
  refine Al ?_;refine h7 _ ?_;refine nT ?_;refine Ab λK9 h9=>?_
  refine Ac ?_;refine wR ?_;refine wR (hx:=by((repeat(first|refine sA ?_ (Vr V Tryz.underlying51 V V A)|refine sA ?_|refine AM ?_|refine sAG ?_|refine Bp ?_));exact CS V)) ?_;refine Ag V (λai=>?_) (λai=>?_)
  ·have he:EC (G.regs.take (k+1)) out=B7 (EC (G.regs.take k) out) r 0:=by rw[be,if_pos ai]
   refine wRE (hx:=by((repeat(first|refine sA ?_ (AA V V V)|(refine AC V (J5 1 V Tryz.underlying51 V V V A am V ?_);refine sNt ?_)|refine sA ?_|refine AM ?_|refine sAG ?_|refine Bp ?_));exact CS V)) (hk:=?_);refine h9 _ ?_;refine nT ?_;refine wRE ?_;refine An ⟨k+1,u,by omega,?_⟩;rw[he];exact AS
  ·have he:EC (G.regs.take (k+1)) out=EC (G.regs.take k) out:=by rw[be,if_neg (by rw[ai];simp)]
   refine Al ?_;refine h9 _ ?_;refine nT ?_;refine wRE ?_;refine An ⟨k+1,u,by omega,?_⟩;rw[he];exact AS
 ·obtain rfl:k=G.regs.length:=by have:¬k < G.regs.length:=(by simpa using bb);omega
  rw[fM];refine Ay ?_;refine h3 _ ?_;refine nT ?_;refine Ab λdk co=>?_
  obtain⟨E0,an⟩:∃E,E=EC G.regs out:=⟨_,rfl⟩
  rw[<-an];have h0:okK E0:=by rw[an];exact LQ out B.regs
  have cu:E0.length<=1073741824:=by rw[an];exact iJ (Pe out B.regs) bq
  refine wRK λdj bk=>?_
  refine sA ?_ (AA V Fq V) (Ar (Ap HU));refine AC V (Rz 1 V bM V V λrg=>?_);refine D2 ?_ (Ar (Ap JH));refine Au (bk _ ?_);refine Ac ?_;refine AB (λks:List Int=>⟨(A2 (.bp (J8 Bc) G 0::A2 (.bp (RE (.map (iU m))) () 0::A20 (A10 (A5 (.lit (.pointer (iU ⟨rg,0,iT⟩))::A80 (A9 []))))))),[.dead,.res (Tr (b9 .i64) (ks.foldl (So G) E0) ks m rg),.dead]⟩) (λks=>ks.Nodup/\∀q∈ks,q∈keysK E0) (λks=>E0.length - ks.length) [] ⟨fD,λq hq=>by cases hq⟩ (AS) ?_;rintro ks ⟨av,ao⟩;obtain⟨al,ba,az⟩:=F7 G h0 ks av ao;obtain⟨E,hE⟩:∃E,E=ks.foldl (So G) E0:=⟨_,rfl⟩
  rw[<-hE]at al ba az;rw[<-hE];have aw:∀q,q∈keysK E↔q∈keysK E0:=λq=>by
   have hs:∀{β:Type} (m:List (Int×β)),q∈keysK m↔(getK m q).isSome=aJ:=λm=>by
    unfold keysK getK;rw[iS,List.find?_isSome];simp
   rw[hs,hs,ba q];split
   ·rw[iS]
   ·exact Iff.rfl
  refine Bn (β:=Option (Int×Int)) (λo=>match o with|none=>∀q,q∈ks↔q∈keysK E0|some p=>Ch p.1/\getK E p.1=iU p.2/\p.1∉ks) (λo=>⟨(A2 (.bp (J8 Bc) G 0::A2 (.bp (RE (.map (iU m))) () 0::A20 (A10 (A5 (.lit (.pointer (iU ⟨rg,0,iT⟩))::.any::.lit (.bool o.isSome)::A80 (A7 []))))))),[.dead,.res (match o with|none=>Tr (b9 .i64) E ks m rg|some p=>atT (b9 .i64) E (ks++[p.1]) p.1 p.2 m rg),.dead]⟩) ?_ ?_
  ·refine gC ?_;refine AC V (VH 1 V V V (λhn N=>?_) (λq v hn hs hw hq bu=>?_))
   ·refine sNt ?_;refine sA ?_ (BT V V V) (Ar (Ap JG));refine Au ?_;refine An ⟨iT,λq=>(N q).trans (aw q),?_⟩;exact AS
   ·refine sNt ?_;refine sA ?_ (BT V V V) (Ar (Ap JG));refine Au ?_;refine An ⟨iU (q,v),⟨hw,hq,bu⟩,?_⟩;exact AS
  rintro o ho;refine Ab λdi cn=>?_
  refine Ag V (λJ=>?_) (λJ=>?_)
  ·obtain⟨⟨q,v⟩,rfl⟩:=iR.1 J;obtain⟨W,aj,br⟩:=ho;have W:wfB .i64 q=aJ:=W;have aj:getK E q=iU v:=aj;have bt:q∈keysK E0:=(aw q).1 (eW.2 ⟨(q,v),(CK al.1).1 aj,rfl⟩);have ap:(ks++[q]).Nodup:=fC.2 ⟨av,by simp,λa c b F=>by rw[fA.1 F];exact λe=>br (e▸c)⟩;have U:∀x∈ks++[q],x∈keysK E0:=λx hx=>(eO.1 hx).elim (ao x) λe=>by rw[fA.1 e];exact bt
   have aa:=Dh ap U;obtain⟨H,ak⟩:∃H,H=(getK G.near q).getD []:=⟨_,rfl⟩
   have cp:H.length<=2147483648:=by rw[ak];exact B.nearl q
   have bf:∀k∈H,Ch k:=by rw[ak];exact B.near q
   refine Al ?_;refine cn _ ?_;refine nT ?_;refine Ac ?_;refine wR (hx:=by((repeat(first|refine sA ?_ (NB 1 V V V)|refine sA ?_|refine AM ?_|refine sAG ?_|refine Bp ?_));exact CS V)) ?_;refine AE _ (Ju (i:=1) (R':=Tr (b9 .i64) E (ks++[q]) m rg) V (λ_ h=>h) (λ_ _ h=>h.1) V) ?_;refine nT ?_;refine wR (hx:=by((repeat(first|refine sA ?_ (AA V V V)|refine sA ?_ (Ck V V)|refine sA ?_ (Cn V Tryz.underlying77 V V W)|refine sA ?_|refine AM ?_|refine sAG ?_|refine Bp ?_));exact CS V)) ?_;refine Ac ?_;refine AB (λk:Nat=>⟨(A2 (.bp (J8 Bc) G 0::A2 (.bp (RE (.map (iU m))) () 0::A2 (.lit (.int .i64 q)::A20 (A10 (A2 (.lit (.pointer (iU ⟨rg,0,iT⟩))::A9 (.bs tInt H::.lit (.int .i64 (H.length:Int))::.lit (.int .i64 (k:Int))::A40 (A20 (A10 (A7 []))))))))))),[.dead,.res (Tr (b9 .i64) ((H.take k).foldl (Un q) E) (ks++[q]) m rg),.dead]⟩) (λk=>k<=H.length) (λk=>H.length - k) 0 (iQ _) (by rw[ak];exact AS) ?_;rintro k hk;obtain⟨cc,bm,bl⟩:=LV E q (H.take k) al (λ_=>rfl) aj;obtain⟨D,hD⟩:∃D,D=(H.take k).foldl (Un q) E:=⟨_,rfl⟩
   rw[<-hD]at cc bm bl;rw[<-hD];refine wR ?_;refine Ab λdh cm=>?_
   refine Ag V (λah=>?_) (λah=>?_)
   ·have u:k < H.length:=by simpa using ah
    obtain⟨z,hz⟩:∃z,H[k]? =iU z:=⟨_,dV u⟩
    have bo:wfB .i64 z=aJ:=bf z (eX hz);have cb:D.length < cN:=by rw[bl,az];unfold cN;omega
    have ca:(getK D q).isSome=aJ:=by rw[bm q,if_pos V];rfl
    refine Al ?_;refine cm _ ?_;refine nT ?_;refine Ab λdg bn=>?_
    refine Ac ?_;refine wR ?_;refine wR (hx:=by((repeat(first|refine sA ?_ (AA V V V)|refine sA ?_ (QA 1 V Tryz.underlying51 DY V V bo V)|refine sA ?_|refine AM ?_|refine sAG ?_|refine Bp ?_));exact CS V)) ?_;refine wR ?_;refine Ag V (λag=>?_) (λag=>?_)
    ·have hs:(getK D z).isSome=aJ:=ag;have ax:Un q D z=B7 D q (aN.wrap ((getK D q).getD 0+1)):=by unfold Un;rw[if_pos hs]
     refine wRE (hx:=by((repeat(first|refine sA ?_ (AA V V V)|refine sA ?_ (Vq 1 V Tryz.underlying51 DY V V W V)|(refine AC V (Ab8 1 V Tryz.underlying51 V V V W cb ca V ?_);refine sNt ?_)|refine sA ?_|refine AM ?_|refine sAG ?_|refine Bp ?_));exact CS V)) (hk:=?_);refine bn _ ?_;refine nT ?_;refine wRE ?_;refine An ⟨k+1,u,by omega,?_⟩;try dsimp only
     rw[fI,hz,dN,<-hD,show(iU z).toList.foldl (Un q) D=_ from ax];exact AS
    ·have hs:(getK D z).isSome=aH:=ag;have ax:Un q D z=D:=by unfold Un;rw[if_neg (by rw[hs];simp)]
     refine Al ?_;refine bn _ ?_;refine nT ?_;refine wRE ?_;refine An ⟨k+1,u,by omega,?_⟩;try dsimp only
     rw[fI,hz,dN,<-hD,show(iU z).toList.foldl (Un q) D=_ from ax];exact AS
   ·obtain rfl:k=H.length:=by have:¬k < H.length:=(by simpa using ah);omega
    refine Ay ?_;repeat(first|refine BG ?_|refine exO (by decide) ?_|refine asE ?_)
    refine exN ?_;repeat(first|refine abN ?_|refine asN ?_)
    have ay:(ks++[q]).foldl (So G) E0=D:=by
     rw[dN,<-hE,hD,fM,ak];rfl
    refine An ⟨ks++[q],⟨ap,U⟩,by rw[eD,eE,eI]at aa⊢;simp only[keysK,eH]at aa;omega,?_⟩;try dsimp only
    rw[ay];exact AS
  ·obtain rfl:o=iT:=by cases o with|none=>rfl|some p=>cases J
   refine Ay ?_;refine co _ ?_;refine nT ?_;have N:E=Ib G out:=by
    rw[hE];unfold Ib;rw[<-an];exact Alu G h0 av ho
   refine AE _ (Ju (i:=1) (R':=EG (b9 .i64) E m) V (λ_ h=>.inl h) (λ_ _ h=>by obtain⟨h0,left,cnt,h1,_⟩:=h;exact⟨h0,h1.owns⟩) V) ?_;refine nT ?_;rw[N];clear N aw ba al az hE ho J;refine wR ?_;refine Bt 3 V V V (λg=>(A2 (.bp (J8 Bc) G 0::A2 (.bp (RE (.map (iU m))) () 0::A7 (.lit (.pointer (iU ⟨g,0,iT⟩))::A80 (A20 (A10 (A7 [])))))))) (λg=>(by(repeat(first|exact g9|refine hZ ?_|refine gZ ?_|refine g8 V ?_)))) λg=>?_
   refine AE _ (J1 3 tInt (by decide)) ?_;refine nT ?_;refine wS ?_;refine sA ?_ (FK V) (Ar (Ar GY));refine sT (wN ?_);refine Ab λdf ck=>?_
   refine Awp.label ?_;refine ck _ ?_;refine nT ?_;refine Ab λde cj=>?_
   refine Ac ?_;refine AB (λp:List (Int×Int)×List Int×bY=>⟨(A2 (.bp (J8 Bc) G 0::A2 (.bp (RE (.map (iU m))) () 0::A7 (.lit (.pointer (iU ⟨g,0,iT⟩))::Ze g m G::A80 (A20 (A10 (A6 []))))))),[.dead,.res (EG (b9 .i64) p.1 m),.dead,.res (Be g [.lit p.2.2]),.res (rowR p.2.2 3 tInt p.2.1)]⟩) (λp=>OrdI G out p.1 p.2.1) (λp=>p.1.length) (Ib G out,[],.slice iT 0 0) (Jb B) (AS) ?_;rintro⟨E,l,v⟩ hI;have hI:OrdI G out E l:=hI;have am:E.length<=2147483648:=by have:=hI.len;omega
   have bg:l.length<=2147483648:=by have:=hI.len;omega
   refine Ab λdd ci=>?_
   refine wR (hx:=by((repeat(first|refine sA ?_ (AA V V V)|refine sA ?_ (Abs 1 V Tryz.underlying51 V V)|refine sA ?_|refine AM ?_|refine sAG ?_|refine Bp ?_));exact CS V)) ?_;refine Ag V (λaf=>?_) (λaf=>?_)
   ·have bv:E.length≠0:=by have:(0:Int) < (E.length:Int):=(by simpa using af);omega
    refine Al ?_;refine ci _ ?_;refine nT ?_;refine Ac ?_;refine Ab λdc ch=>?_
    refine wR (hx:=by((repeat(first|refine sA ?_ (AA V V V)|refine sA ?_ (Ck V V)|refine sA ?_|refine AM ?_|refine sAG ?_|refine Bp ?_));exact CS V)) ?_;refine Ac ?_;refine AB (λk:Nat=>⟨(A2 (.bp (J8 Bc) G 0::A2 (.bp (RE (.map (iU m))) () 0::A7 (.lit (.pointer (iU ⟨g,0,iT⟩))::Ze g m G::A40 (A20 (.any::.bs tInt G.regs::.lit (.int .i64 (G.regs.length:Int))::.lit (.int .i64 (k:Int))::A40 (A10 (A2 [])))))))),[.dead,.res (EG (b9 .i64) E m),.dead,.res (Be g [.lit v]),.res (rowR v 3 tInt l)]⟩) (λk=>k<=G.regs.length/\∀j y,j < k->G.regs[j]? =iU y->Q3 G E y=aH) (λk=>G.regs.length - k) 0 ⟨iQ _,λj y h=>by omega⟩ (AS) ?_;rintro k ⟨hk,au⟩;refine wR ?_;refine Ab λdb cg=>?_
    refine Ag V (λae=>?_) (λae=>?_)
    ·have u:k < G.regs.length:=by simpa using ae
     obtain⟨r,O⟩:∃r,G.regs[k]? =iU r:=⟨_,dV u⟩
     have A:wfB .i64 r=aJ:=B.regs r (eX O);have c1:(!((getK E r).isSome)||(wfB .i64 r))=aJ:=by rw[A];simp
     refine Al ?_;refine cg _ ?_;refine nT ?_;refine Ab λda cf=>?_
     refine Ac ?_;refine wR ?_;refine wR (hx:=by((repeat(first|refine sA ?_ (AA V V V)|refine sA ?_ (Ip 1 V Tryz.underlying51 DY V V A V)|refine sA ?_|refine AM ?_|refine sAG ?_|refine Bp ?_));exact CS V)) ?_;refine wS (sT (sT ?_));refine sGt V ?_;refine sGt V ?_;refine sG (g:=((getK E r).isSome)) (hg:=Pm V) (hq:=λhg=>Ck V ((As (As (Ao (Ao (Ao FF))))).trans (BJ hg _ _))) (ht:=(Ar (Ar (Ap (Ap (Ap Ka)))))) (hk:=?_);refine sGt V ?_;refine sGt V ?_;refine sGt V ?_;refine sG (g:=((getK E r).isSome)) (hg:=Pm V) (hq:=λhg=>Cn V bN ((As (As (Ao (Ao (Ao Iy))))).trans (BJ hg _ _)) ((As (As (Ao (Ao (Ao Hd))))).trans (BJ hg _ _)) (Uq c1 hg)) (ht:=(Ar (Ar (Ar HU)))) (hk:=?_);refine sGt V ?_;refine sGt V (sT (wN ?_));refine Ag V (λad=>?_) (λad=>?_)
     ·have I:Lz G E=iU r:=by unfold Lz;rw[Agx O ad au]
      obtain⟨bc,Z⟩:=hI.take I;refine wRK λcz bj=>?_
      refine sA ?_ (AT.move V (Ao Iy)) (Ar (Ar (Ar Ka)));refine sA ?_ (AT.move V (Ao (Ao IG))) (Ar (Ar (Ar GY)));refine J0 V (DH 4 1 (by decide) V V) ?_;refine J0 V (DH 3 4 (by decide) V V) ?_;refine AC V (Iv (i:=3) V V (As (As (As GO))) (S6 G g m v l E r A hI.asc am bg (B.near r) (B.nearl r)) (λ_=>rfl) V V λv'=>?_);refine D2 ?_ (Ar (Ar (Ar HT)));refine Au (bj _ ?_);refine AE _ (Fd 3 4 (by decide) V V) ?_;refine AE _ (Fd 4 1 (by decide) V V) ?_;refine nT ?_;refine Ay ?_;repeat(first|refine BG ?_|refine exO (by decide) ?_|refine asE ?_)
      refine exN ?_;repeat(first|refine abN ?_|refine asN ?_)
      exact An ⟨(Ku G E r,l++[r],v'),bc,Z,AS⟩
     ·have X:Q3 G E r=aH:=ad;refine Al ?_;refine cf _ ?_;refine nT ?_;refine wRE ?_;refine An ⟨k+1,⟨u,λj y hj hy=>?_⟩,by omega,AS⟩;rcases iL j k with hj'|hj'
      ·exact au j y hj' hy
      ·obtain rfl:j=k:=by omega
       rw[O]at hy;cases hy;exact X
    ·refine Ay ?_;refine ch _ ?_;refine nT ?_;obtain rfl:k=G.regs.length:=by have:¬k < G.regs.length:=(by simpa using ae);omega
     have ar:G.regs.find? (Q3 G E)=iT:=Aqu au;have k1:=VA (GD (l:=G.cheap) (Af (decide_eq_true (iJ B.cheap (by decide))) (Aj _)));have c2:Fj (G.cheap.length+G.regs.length) 8=aJ:=by
      have h1:=B.cheap;unfold Fj;simp only[zaf];unfold cN;omega
     obtain⟨L,hL⟩:∃L,L=G.cheap++G.regs:=⟨_,rfl⟩
     have ct:L.length<=2147483648:=by rw[hL,eD];have h1:=B.cheap;omega
     have bx:∀r∈L,Ch r:=λr O=>by
      rw[hL]at O;rcases eO.1 O with h|h
      ·exact B.cheapw r h
      ·exact B.regs r h
     refine AE ⟨A2 (.bp (J8 Bc) G 0::A2 (.bp (RE (.map (iU m))) () 0::A7 (.lit (.pointer (iU ⟨g,0,iT⟩))::(Ze g m G)::A80 (A20 (A10 (A6 [])))))),[.dead,.res (EG (b9 .i64) E m),.dead,.res (Be g [.lit v]),.res (rowR v 3 tInt l),.dead]⟩ (iC AS (KT 1 V)) ?_;refine Ab λcv bw=>?_
     refine P2 (n:=12) (λb=>⟨A2 (.bp (J8 Bc) G 0::A2 (.bp (RE (.map (iU m))) () 0::A7 (.lit (.pointer (iU ⟨g,0,iT⟩))::(Ze g m G)::A80 (A9 ((bif b 0 then .bp Bc G 0 else .any)::(bif b 1 then .bp Bc G 0 else .any)::(bif b 2 then .bp Bc G 5 else .any)::(bif b 3 then .bs tInt G.cheap else .any)::(bif b 4 then .own 5 0 else .any)::(bif b 5 then .bp Bc G 0 else .any)::(bif b 6 then .bp Bc G 0 else .any)::(bif b 7 then .bp Bc G 0 else .any)::(bif b 8 then .bs tInt G.regs else .any)::(bif b 9 then .own 5 (0+1)else .any)::(bif b 10 then .lit (.int .i64 ((G.cheap++G.regs).length:Int))else .any)::(bif b 11 then .lit (.int .i64 0)else .any)::A10 (A5 [])))))),[.dead,.res (EG (b9 .i64) E m),.dead,.res (Be g [.lit v]),.res (rowR v 3 tInt l),(bif b 9 then .row (0+1) 3 tInt (G.cheap++G.regs)else(bif b 4 then .row 0 3 tInt G.cheap else .dead))]⟩) V (by kernel_rfl) (by kernel_rfl) ?_ (bw _ ?_)
     ·refine BP (λb F c hc=>?_) ?_
      ·try dsimp only
       refine AX (AA V FG V) ?_;exact iB
      refine BP (λb F c hc=>?_) ?_
      ·have h0:b 0=aJ:=c 0 _ V V;try dsimp only
       refine AX (Ck V ((As (As (As (Ao IG)))).trans (BJ h0 _ _))) ?_;exact iB
      refine BP (λb F c hc=>?_) ?_
      ·have h1:b 1=aJ:=c 0 _ V V;try dsimp only
       refine AX (Cq V ((As (As (As (Ao GP)))).trans (BJ h1 _ _))) ?_;exact iB
      refine BP (λb F c hc=>?_) ?_
      ·have h2:b 2=aJ:=c 0 _ V V;try dsimp only
       refine AX (AA V ((As (As (As (Ao FG)))).trans (BJ h2 _ _)) V) ?_;exact iB
      refine BP (λb F c hc=>?_) ?_
      ·have h3:b 3=aJ:=c 0 _ V V;have h9:b 9=aH:=AW hc (i:=4) (j:=9) (k:=0) V V V V F;have u9:upd b 4 9=aH:=h9;try dsimp only
       refine Kr 5 V (Pb ((As (As (As (Ao FF)))).trans (BJ h3 _ _)) V) k1 (by decide) V (congrArg iU ((CT h9 _ _).trans (CT F _ _))) (by repeat(first|exact Afc|refine Gq V ?_|refine Gq (NL V V) ?_|refine Gq (NL V (NL V V)) ?_|refine Gq (NL V (NL V (NL V V))) ?_)) (by repeat(first|exact Afb|refine Fv V ?_|refine Fv (At5 F V) ?_|refine Fv (At5 h9 V) ?_|refine Fv (Azx V V) ?_)) ?_;simp only[CT u9];exact iB
      refine BP (λb F c hc=>?_) ?_
      ·try dsimp only
       refine AX (AA V FG V) ?_;exact iB
      refine BP (λb F c hc=>?_) ?_
      ·have h5:b 5=aJ:=c 0 _ V V;try dsimp only
       refine AX (Ck V ((As (As (As (Ao Fq)))).trans (BJ h5 _ _))) ?_;exact iB
      refine BP (λb F c hc=>?_) ?_
      ·have h6:b 6=aJ:=c 0 _ V V;try dsimp only
       refine AX (Cq V ((As (As (As (Ao Iy)))).trans (BJ h6 _ _))) ?_;exact iB
      refine BP (λb F c hc=>?_) ?_
      ·have h7:b 7=aJ:=c 0 _ V V;try dsimp only
       refine AX (AA V ((As (As (As (Ao Hd)))).trans (BJ h7 _ _)) V) ?_;exact iB
      refine BP (λb F c hc=>?_) ?_
      ·have h4:b 4=aJ:=c 0 _ V V;have h8:b 8=aJ:=c 1 _ V V;try dsimp only
       refine J7 V ((As (As (As (Ao GO)))).trans (BJ h4 _ _)) (congrArg iU ((CT F _ _).trans (Sp h4 _ _))) ((As (As (As (Ao (Ao IG))))).trans (BJ h8 _ _)) V c2 ?_;exact iB
      refine BP (λb F c hc=>?_) ?_
      ·have h9:b 9=aJ:=c 0 _ V V;try dsimp only
       refine AX (Gd V ((As (As (As (Ao (Ao GP))))).trans (BJ h9 _ _)) (congrArg iU (Sp h9 _ _))) ?_;exact iB
      refine BP (λb F c hc=>?_) ?_
      ·try dsimp only
       refine AX (AT.move V Acf) ?_;exact iB
      exact Agl
     refine AE ⟨A2 (.bp (J8 Bc) G 0::A2 (.bp (RE (.map (iU m))) () 0::A7 (.lit (.pointer (iU ⟨g,0,iT⟩))::(Ze g m G)::A80 (A9 (.bp Bc G 0::.bp Bc G 0::.bp Bc G 5::.bs tInt G.cheap::.own 5 0::.bp Bc G 0::.bp Bc G 0::.bp Bc G 0::.bs tInt G.regs::.own 5 (0+1)::.lit (.int .i64 ((G.cheap++G.regs).length:Int))::.lit (.int .i64 0)::A10 (A5 [])))))),[.dead,.res (EG (b9 .i64) E m),.dead,.res (Be g [.lit v]),.res (rowR v 3 tInt l),.row (0+1) 3 tInt (G.cheap++G.regs)]⟩ iB ?_;refine Ac ?_;refine AB (λk:Nat=>⟨(A2 (.bp (J8 Bc) G 0::A2 (.bp (RE (.map (iU m))) () 0::A7 (.lit (.pointer (iU ⟨g,0,iT⟩))::Ze g m G::A80 (A10 (A8 (.own 5 1::.lit (.int .i64 (L.length:Int))::.lit (.int .i64 (k:Int))::A10 (A5 [])))))))),[.dead,.res (EG (b9 .i64) E m),.dead,.res (Be g [.lit v]),.res (rowR v 3 tInt l),.row 1 3 tInt L]⟩) (λk=>k<=L.length/\∀j y,j < k->L[j]? =iU y->(getK E y).isSome=aH) (λk=>L.length - k) 0 ⟨iQ _,λj y h=>by omega⟩ (by rw[hL];exact AS) ?_;rintro k2 ⟨cq,Y⟩;refine wR ?_;refine Ab λcy ce=>?_
     refine Ag V (λac=>?_) (λac=>?_)
     ·have aq:k2 < L.length:=by simpa using ac
      obtain⟨r,O⟩:∃r,L[k2]? =iU r:=⟨_,dV aq⟩
      have A:wfB .i64 r=aJ:=bx r (eX O);refine Al ?_;refine ce _ ?_;refine nT ?_;refine Ab λcx cd=>?_
      refine Ac ?_;refine wR ?_;refine wR (hx:=by((repeat(first|refine sA ?_ (AA V V V)|refine sA ?_ (Ip 1 V Tryz.underlying51 DY V V A V)|refine sA ?_|refine AM ?_|refine sAG ?_|refine Bp ?_));exact CS V)) ?_;refine wR ?_;refine Ag V (λab=>?_) (λab=>?_)
      ·have I:Lz G E=iU r:=by unfold Lz;rw[ar,<-hL];exact Agx O ab Y
       obtain⟨bc,Z⟩:=hI.take I;refine wRK λcw bi=>?_
       refine sA (hq:=AT.move V (Ao Iy)) (ht:=(Ar (Ar (Ar (Ap (Ap (Ap HT))))))) (hk:=?_);refine sA (hq:=AT.move V (Ao (Ao GO))) (ht:=(Ar (Ar (Ar (Ap (Ap (Ap Hy))))))) (hk:=?_);refine J0 V (DH 4 1 (by decide) V V) ?_;refine J0 V (DH 3 4 (by decide) V V) ?_;refine AC V (Iv (i:=3) V V (As (As (As (Ao (Ao (Ao Iy)))))) (S6 G g m v l E r A hI.asc am bg (B.near r) (B.nearl r)) (λ_=>rfl) V V λv'=>?_);refine D2 ?_ (Ar (Ar (Ar (Ar HU))));refine Au (bi _ ?_);refine AE _ (Fd 3 4 (by decide) V V) ?_;refine AE _ (Fd 4 1 (by decide) V V) ?_;refine nT ?_;refine Ay ?_;repeat(first|refine BG ?_|refine exO (by decide) ?_|refine asE ?_)
       refine exN ?_;repeat(first|refine abN ?_|refine asN ?_)
       exact An ⟨(Ku G E r,l++[r],v'),bc,Z,Ki (.cons (.cons (.cons (.cons (.cons (gI _))))))⟩
      ·have X:(getK E r).isSome=aH:=ab;refine Al ?_;refine cd _ ?_;refine nT ?_;refine wRE ?_;refine An ⟨k2+1,⟨aq,λj y hj hy=>?_⟩,by omega,AS⟩;rcases iL j k2 with hj'|hj'
       ·exact Y j y hj' hy
       ·obtain rfl:j=k2:=by omega
        rw[O]at hy;cases hy;exact X
     ·exfalso;obtain rfl:k2=L.length:=by have:¬k2 < L.length:=(by simpa using ac);omega
      obtain⟨x,hx⟩:=Akh bv;obtain⟨j,hj⟩:=eV.1 (show x∈L by rw[hL];exact eQ _ (hI.inr x hx));have:=Y j x (dX.1 hj).1 hj;rw[hx]at this;cases this
   ·have hz:E.length=0:=by have:¬(0:Int) < (E.length:Int):=(by simpa using af);omega
    have bh:l=CV G out:=by have:=hI.eq;rw[hz]at this;exact this
    refine Ay ?_;refine cj _ ?_;refine nT ?_;refine wR (hx:=by((repeat(first|refine sA ?_ (AY (i:=3) (g:=g) V V V V V)|refine sA ?_|refine AM ?_|refine sAG ?_|refine Bp ?_));exact CS V)) (hk:=?_);rw[<-bh];exact Aw ⟨.inr V,Amo 4 V⟩
end Mu
namespace Mu
end Mu
namespace Mu
open Go Go.RowKit Go.Proofs
variable{k:Nat}{l:List iA}{p:iA->Bool}{x:iA}
theorem An4{h:List fT}{a b:Bool}(e:a=b)(c:mkD h= []:=by rfl):Fin h (.lit (.bool a)) (.lit (.bool b)):=by subst e;exact gJ V c
def Aqn(p:iA->Bool)(l:List iA):Int:=match l.findIdx? p with|some i=>(i:Int)|none=> -1
theorem Aqm(h:∀x∈l.take k,p x=aH)(hx:l[k]? =iU x)(c:p x=aJ):Aqn p l=(k:Int):=by
 have:l.findIdx? p=iU k:=by
  rw[dL];obtain⟨hk,e⟩:=dX.1 hx;refine⟨hk,by rw[e];exact c,λj u=>?_⟩;have:=h (l[j]'(by omega)) (by
   rw[fB];exact⟨j,by omega,rfl⟩)
  rw[this];simp
 unfold Aqn;rw[this]
theorem Agd(h:∀x∈l,p x=aH):Aqn p l= -1:=by
 have:l.findIdx? p=iT:=by
  rw[dK];exact h
 unfold Aqn;rw[this]
theorem Zd(h:∀x∈l.take k,p x=aH)(hx:l[k]? =iU x)(c:p x=aH):∀y∈l.take (k+1),p y=aH:=by
 rw[fI,hx];intro y hy;rcases eO.1 hy with hy|hy
 ·exact h y hy
 ·rw[fA.1 hy];exact c
theorem Ak5:aK (Aqn p l≥0)=l.any p:=by
 unfold Aqn;cases h:l.findIdx? p with
 |none=>
  rw[dK]at h;have:l.any p=aH:=by rw[List.any_eq_false];intro x hx;rw[h x hx];simp
  rw[this];rfl
 |some i=>
  rw[dL]at h;obtain⟨hi,c,_⟩:=h;have:l.any p=aJ:=cW.2 ⟨_,List.getElem_mem hi,c⟩;rw[this];exact decide_eq_true (by simp only;omega)
theorem Aqk(l:List iA)(U:l.length<=2147483648)(f:aM)(c:List AV)(H:Bh c=aJ)(p:iA->Bool)(J:∀x∈l,Fn bC f (.agg (CP x)::c) (.lit (.bool (p x)))):Fn bC 76 [.bs Dk l,.fn f c] (.lit (.int .i64 (Aqn p l))):=by
 have L:fY (.fn f c)=aJ:=by unfold fY;exact H
 refine AQ Tryz.func76 V (by kernel_rfl) V Tryz.ntmps76 λC W=>?_
 simp only[Nat.reduceAdd,Nat.reduceSub,zaa];refine wR ?_;refine Ab λZ h2=>?_
 refine wR ?_;refine Ac ?_;refine AB (λk:Nat=>⟨(.bs Dk l::.fn f c::A5 (.lit (.int .i64 (l.length:Int))::.lit (.int .i64 (k:Int))::A10 [])),[]⟩) (λk=>k<=l.length/\∀x∈l.take k,p x=aH) (λk=>l.length - k) 0 ⟨iQ _,by simp⟩ (AS) ?_;rintro k ⟨hk,z⟩;refine wR ?_;refine Ab λY O=>?_
 refine Ag V (λA=>?_) (λA=>?_)
 ·have B:k < l.length:=by simpa using A
  obtain⟨x,hx⟩:∃x,l[k]? =iU x:=⟨_,dV B⟩
  have I:=J x (eX hx);refine Al ?_;refine O _ ?_;refine nT ?_;refine Ab λX N=>?_
  refine Ac ?_;refine wR ?_;refine wR ?_;refine Ag V (λu=>?_) (λu=>?_)
  ·refine wR ?_;rw[Aqm z hx u];exact Aw ⟨.inr V,gJ V⟩
  ·refine Al ?_;refine N _ ?_;refine nT ?_;refine wRE ?_;refine An ⟨k+1,⟨by omega,Zd z hx u⟩,by omega,AS⟩
 ·refine Ay ?_;refine h2 _ ?_;refine nT ?_;refine wR ?_;have F:k=l.length:=by have:¬k < l.length:=(by simpa using A);omega
  rw[Agd (by rw[F,fM]at z;exact z)];exact Aw ⟨.inr V,gJ V⟩
theorem Ard(l:List iA)(B:l.length<=2147483648)(f:aM)(c:List AV)(u:Bh c=aJ)(p:iA->Bool)(A:∀x∈l,Fn bC f (.agg (CP x)::c) (.lit (.bool (p x)))):Fn bC 40 [.bs Dk l,.fn f c] (.lit (.bool (l.any p))):=by
 have z:fY (.fn f c)=aJ:=by unfold fY;exact u
 have F:=Aqk l B f c u p A;refine AQ Tryz.func40 V (by kernel_rfl) V Tryz.ntmps40 λC H=>?_
 simp only[Nat.reduceAdd,Nat.reduceSub,zaa];refine wR ?_;refine wR (hx:=by((repeat(first|refine sA ?_ (AT.call V F V (by show(true&&(AV.cl (.fn f c)&&true))=true;rw[z];rfl) V)|refine sA ?_|refine AM ?_|refine sAG ?_|refine Bp ?_));exact CS V)) (hk:=?_);exact Aw ⟨.inr V,An4 Ak5⟩
noncomputable section
end
noncomputable section
end
end Mu
namespace Mu
open Go Go.RowKit Go.ChangeShapes Go.WideShapes Go.Proofs
section
variable{P:aT}{C:Ctx}{t:List AV}{h:List fT}{o:aR}{K:St->Prop}
end
end Mu
namespace Mu
open Go Go.RowKit Go.Proofs
variable{i:Nat}{l:List AV}{r:Bool}
section
variable{P:aT}{C:Ctx}{o:aR}{t:List AV}{h:List fT}
end
noncomputable section
end
def Nq(c:Int)(u:gO):M Bool:=gU ((aK (c < 0))||(aK (c≥u.regs)))
theorem Qq{c:Int}{u:gO}(H:(Nq c u).to r):Fn bC 31 [.lit (.int .i64 c),.bp Dc u 0] (.lit (.bool r)):=by
 delta Nq at H;try dsimp only at H
 refine AQ Tryz.func31 V (by kernel_rfl) V Tryz.ntmps31 λC z=>?_
 simp only[Nat.reduceAdd,Nat.reduceSub,zaa];refine wS (sT (wN ?_));refine wS (sT (sT (sT ?_)));refine sGf V ?_;refine sGf V ?_;refine sGf V ?_;refine sGf V (sT (sT (wN ?_)));obtain rfl:=Ad.1 H;exact Aw ⟨.inr V,gJ V⟩
def Kl(x:iA)(c:Plan):M Bool:=gQ (Cm c.at_ x.a) (gQ (Cm c.at_ x.b) (gU ((ixD c.at_ x.a) ==(ixD c.at_ x.b))))
theorem NQ{x:iA}{c:Plan}(H:(Kl x c).to r):Fn bC 42 [.agg (CP x),.bp Mn c 0] (.lit (.bool r)):=by
 delta Kl at H;try dsimp only at H
 refine AQ Tryz.func42 V (by kernel_rfl) V Tryz.ntmps42 λC A=>?_
 simp only[Nat.reduceAdd,Nat.reduceSub,zaa];refine wS (sB (sT (wN ?_)));obtain⟨z,H⟩:=Ah.1 H;obtain⟨u,H⟩:=Ah.1 H;refine dS 14 (hq:=?_);refine qT (qT (qT (qT (qX z (qT (qT (qT (qT (qT (qX u (qT ?_)))))))))));refine qT (qT (qN (wN ?_)));obtain rfl:=Ad.1 H;exact Aw ⟨.inr V,gJ V⟩
theorem Ah0(l:List Int)(B:l.length<=2147483648)(f:aM)(c:List AV)(u:Bh c=aJ)(p:Int->Bool)(A:∀x∈l,Fn bC f (.lit (.int .i64 x)::c) (.lit (.bool (p x)))):Fn bC 29 [.bs tInt l,.fn f c] (.lit (.bool (l.any p))):=by
 have z:fY (.fn f c)=aJ:=by unfold fY;exact u
 have F:=Agc l B f c u p A;refine AQ Tryz.func29 V (by kernel_rfl) V Tryz.ntmps29 λC H=>?_
 simp only[Nat.reduceAdd,Nat.reduceSub,zaa];refine wR ?_;refine wR (hx:=by((repeat(first|refine sA ?_ (AT.call V F V (by show(true&&(AV.cl (.fn f c)&&true))=true;rw[z];rfl) V)|refine sA ?_|refine AM ?_|refine sAG ?_|refine Bp ?_));exact CS V)) (hk:=?_);exact Aw ⟨.inr V,An4 Ak4⟩
theorem Aks{h:List fT}{f:gO}(hi:h[i]? =iU (.box (Ak f)))(u:okFunc f):M2 h (.ptr i 0) (.bp Dc f 0):=
 .of (.box hi V λ_ _ _ _ _ _ c=>RQ u c)
theorem Yf{h:List fT}{p:Plan}(hi:h[i]? =iU (.box (BF p)))(u:okPlan p):M2 h (.ptr i 0) (.bp Mn p 0):=
 .of (.box hi V λ_ _ _ _ _ _ c=>Aj0 u c)
def Akg(f:gO):Bool:=(((aK (f.regs < 0)||decide (f.regs > 4096))||decide (f.args < 0))||decide (f.args > (if(6:Int) < f.regs then 6 else f.regs)))
def Ia(f:gO):Bool:=!Akg f&&!((regsB f).any λr=>decide (r < 0)||decide (r≥f.regs))
theorem Afl(f:gO)(z:FineF f)(A:(regsB f).length<=2147483648):Fn bC 11 [.agg (Ak f)] (.lit (.bool (Ia f))):=by
 have F:=Lr f z.ok z.small z.all;have u:=Ah0 (regsB f) A 31 [.bp Dc f 0] V (λr=>decide (r < 0)||decide (r≥f.regs)) λr _=>Qq (Aj _)
 refine AQ Tryz.func11 V (by kernel_rfl) V Tryz.ntmps11 λC B=>?_
 simp only[Nat.reduceAdd,Nat.reduceSub,zaa];refine wR ?_;refine Ab λH h2=>?_
 refine wR ?_;refine Ag V (λc=>?_) (λc=>?_)
 ·refine wR ?_;have e:Ia f=aH:=by unfold Ia;rw[show Akg f=aJ from c];rfl
  rw[e];exact Aw ⟨.inr V,gJ V⟩
 ·refine Al ?_;refine h2 _ ?_;refine nT ?_;refine wR (hx:=by((repeat(first|refine sA (hq:=CJ V u (.cons (.cl V) (.cons (.fn (.cons (Aks V z.ok) .nil)) .nil))) (hk:=?_)|refine sA ?_|refine AM ?_|refine sAG ?_|refine Bp ?_));exact CS V)) (hk:=?_);have e:Ia f= !((regsB f).any λr=>decide (r < 0)||decide (r≥f.regs)):=by unfold Ia;rw[show Akg f=aH from c];rfl
  rw[e];exact Aw ⟨.inr V,gJ V⟩
inductive Ones(h:List ABlk):List AV->Prop
 |nil:Ones h []
 |cons {x:AV} {l:List AV} (hx:One h x) (hl:Ones h l):Ones h (x::l)
theorem Ones.mem{h:List fT}(H:Ones h l):∀x∈l,One h x:=by
 induction H with
 |nil=>intro x hx;cases hx
 |cons hx _ c=>
  intro y hy;rcases eR.1 hy with rfl|hy
  ·exact hx
  ·exact c y hy
theorem Rt{h:List fT}(H:Ones h l):PW h (.agg l) l:=PW.agg H.mem
theorem Abv{P:aT}{C:Ctx}{t:List AV}{h:List fT}{o:aR}{ty:bX}{c:Array (Nat×aS)}{zs:List bY}{z:List (Nat×Nat)}{rs:List AV}[ZC P ty zs](F:o.op= .build ty c)(u:Eq P ty=iU z)
 (A:putCells z (zs.map .lit) (c.toList.map λp=>(p.1,evA t p.2))=iU rs)(h1:Ones h (c.toList.map λp=>evA t p.2)):AT P C t h o (.agg rs):=
 AT.build F ZC.eq u A λp B=>h1.mem _ (eW.2 ⟨p,B,rfl⟩)
end Mu
namespace Mu
open Go Go.RowKit Go.Proofs Go.Maps
def F6(k:Int)(c:List (Int×Int))(u:Int):M Bool:=gQ (wfB .i64 k) (gU (((getK c k).isSome)&&(u ==((getK c k).getD 0))))
theorem Jo{k:Int}{u:List (Int×Int)}{c:Int}{r:Bool}(H:(F6 k u c).to r):Fn bC 95 [.lit (.int .i64 k),.bp tMapI u 0,.bp tInt c 0] (.lit (.bool r)):=by
 delta F6 at H;try dsimp only at H
 refine AQ Tryz.func95 V (by kernel_rfl) V Tryz.ntmps95 λC z=>?_
 simp only[Nat.reduceAdd,Nat.reduceSub,zaa];refine wS (sT (wN ?_));obtain⟨c,H⟩:=Ah.1 H;refine wS (sT (sT ?_));refine sA ?_ (Kn V bM (Ao IG) (Ao GP) c) (Ap Mk);refine sT (sT (sT (sT (sT (wN ?_)))));refine wS (sT (sT ?_));refine sGt V ?_;refine sGt V ?_;refine sGt V (sT (sT (wN ?_)));obtain rfl:=Ad.1 H;exact Aw ⟨.inr V,gJ V⟩
def freeP(at_:List (Int×Int))(p k:Int):Bool:=((getK at_ k).isSome)&&(p ==((getK at_ k).getD 0))
def Gi(G:gF)(at_:List (Int×Int))(r p:Int):Bool:=!((getK G.near r).getD []).any (freeP at_ p)
theorem Sh(G:gF)(at_:List (Int×Int))(r p:Int)(u:Ch r)(z:Ch p)(A:∀k∈(getK G.near r).getD [],Ch k)(B:((getK G.near r).getD []).length<=2147483648):Fn bC 55 [.bp Bc G 0,.lit (.int .i64 r),.lit (.int .i64 p),.tv tMapI at_] (.lit (.bool (Gi G at_ r p))):=by
 have c:=Ah0 ((getK G.near r).getD []) B 95 [.bp tMapI at_ 0,.bp tInt p 0] V (freeP at_ p) λk hk=>Jo (Af (A k hk) (Aj _))
 refine AQ Tryz.func55 V (by kernel_rfl) V Tryz.ntmps55 λC F=>?_
 simp only[Nat.reduceAdd,Nat.reduceSub,zaa];refine wR (hx:=by((repeat(first|(refine AC V (AOp.boxI 0 V V (PW.one (One.lit V)).weak ?_);refine sNt ?_)|(refine AC V (AOp.boxI 1 V V (PW.one (One.tv JO)).weak ?_);refine sNt ?_)|refine sA ?_|refine AM ?_|refine sAG ?_|refine Bp ?_));exact CS V)) (hk:=?_);refine wR (hx:=by((repeat(first|refine sA ?_ (Ck V V)|refine sA ?_ (Cn V Tryz.underlying77 V V u)|refine sA (hq:=CJ V c (.cons (.cl V) (.cons (.fn (.cons (Ru V V .tv) (.cons (Ru V V (M2.int z)) .nil))) .nil))) (hk:=?_)|refine sA ?_|refine AM ?_|refine sAG ?_|refine Bp ?_));exact CS V)) (hk:=?_);exact Aw ⟨.inr V,gJ V⟩
def EZ(f:gO)(c:List (Int×Int)):(Int×(List Int))->M ((Int×(List Int))⊕((List Int))):=λ(x2,l4)=>gR (aK (x2 < ((fF (cT f.regs) (0:Int)).length:Int))) (gP (gQ (Cm l4 x2) (gQ (wfB .i64 x2) (gR ((getK c x2).isSome) (gQ (Cm (l4.set (cT x2) (-1)) x2) (gQ (wfB .i64 ((getK c x2).getD 0)) (gU ((l4.set (cT x2) (-1)).set (cT x2) ((getK c x2).getD 0))))) (gU (l4.set (cT x2) (-1)))))) λu=>gU (.inl (aN.wrap (x2+1),u))) (gU (.inr l4))
def Ij(f:gO)(c:List (Int×Int))(leaf:Bool)(slots:Int):M Plan:=gQ (VN f.regs 8) (gP (gT (EZ f c) (0,fF (cT f.regs) (0:Int))) λu=>gU ⟨leaf,slots,u⟩)
theorem L5{f:gO}{c:List (Int×Int)}{leaf:Bool}{slots:Int}{r:Plan}(H:(Ij f c leaf slots).to r):Fn bC 27 [.agg (Ak f),.tv tMapI c,.lit (.bool leaf),.lit (.int .i64 slots)] (.agg (BF r)):=by
 delta Ij at H;try dsimp only at H
 refine J4 Tryz.func27 V (by kernel_rfl) V (by kernel_rfl:Rl bC 29=iU (aJ,3)) Tryz.ntmps27 λC hC=>?_
 simp only[Nat.reduceAdd,Nat.reduceSub,zaa];refine wS (sB (sA0 (wN ?_)));obtain⟨c1,H⟩:=Ah.1 H;refine wS (sT (sT (sT (sT ?_))));(refine AC V (P6 2 V (T:=tInt) (e:=3) (v:=.int .i64 0) (bytes:=8) (0:Int) V (by kernel_rfl) V (λ_ _=>⟨rfl,by decide⟩) V V c1 ?_);refine D2 ?_ (Ap (Ap JH)));refine sA ?_ (Abv (rs:=[.lit (.bool leaf),.lit (.int .i64 slots),.own 2 0]) V Am4 V (.cons (gX V) (.cons (gX V) (.cons (gY V) .nil)))) (Ap (Ap Mk));refine sA0 ?_;(refine AC V (CR V V V (Rt (.cons (gX V) (.cons (gX V) (.cons (gY V) .nil)))) V (iG V) ?_);refine D2 ?_ RG);refine wN ?_;obtain⟨z5,af,ae⟩:=Aq.1 H;refine Bn (β:=((List Int))×(Nat)) (λI=>z5=I.1) (λI=>⟨A8 (.ptr 1 0::.ptr 3 0::A20 (A10 (A3 []))),[.dead,.box [.lit (.bool aH),.lit (.int .i64 0),.lit (.slice iT 0 0)],.row I.2 3 tInt I.1,.box [.lit (.bool leaf),.lit (.int .i64 slots),.own 2 I.2]]⟩) ?_ ?_
 ·refine wS (sT (sT (sT (sT (wN ?_)))));refine Ac ?_;refine BB af (λs5 b5=>⟨.any::.tv tMapI c::A6 (.ptr 1 0::.ptr 3 0::A10 (.any::.lit (.int .i64 ((fF (cT f.regs) (0:Int)).length:Int))::.lit (.int .i64 s5.1)::A20 [])),[.dead,.box [.lit (.bool aH),.lit (.int .i64 0),.lit (.slice iT 0 0)],.row b5 3 tInt s5.2,.box [.lit (.bool leaf),.lit (.int .i64 slots),.own 2 b5]]⟩) 0 (?_) ?_
  ·try dsimp only
   exact leC (gH (gG (gG (gG (gI _)))))
  ·rintro⟨X,l4⟩ Y x5 H ad;try dsimp only
   dsimp only[EZ]at H;refine wS (sT (wN ?_));refine Ab λag aa=>?_
   refine Ag V (λB=>?_) (λB=>?_)
   ·have H:=AN B H;refine Al ?_;refine aa _ ?_;refine nT ?_;obtain⟨W,U,O⟩:=Aq.1 H;refine Bn (β:=((List Int))×(Nat)) (λu=>W=u.1) (λu=>⟨.any::.tv tMapI c::A6 (.ptr 1 0::.ptr 3 0::A10 (.any::.lit (.int .i64 ((fF (cT f.regs) (0:Int)).length:Int))::.lit (.int .i64 X)::A6 (.tup [.lit (.int .i64 ((getK c X).getD 0)),.lit (.bool ((getK c X).isSome))]::A10 (A3 [])))),[.dead,.box [.lit (.bool aH),.lit (.int .i64 0),.lit (.slice iT 0 0)],.row u.2 3 tInt u.1,.box [.lit (.bool leaf),.lit (.int .i64 slots),.own 2 u.2]]⟩) ?_ ?_
    ·have H:=U;refine Ac ?_;refine wS (sT (sT (wN ?_)));obtain⟨N,H⟩:=Ah.1 H;refine wS (sT (sT (sT ?_)));refine sA ?_ (Cb V (Ao (Ao (Ao FG))) V (Ao (Ao (Ao FF))) V N) (Ap (Ap (Ap Ka)));(refine AC V (Dx V V V (BS N) (gN (Xy (by decide))) V ?_);refine D2 ?_ RG);refine wN ?_;obtain⟨ac,H⟩:=Ah.1 H;refine wS (sT (sT ?_));refine sA ?_ (Kn V bM (Ao (Ao (Ao Iy))) (Ao (Ao (Ao Hd))) ac) (Ar HU);refine sT (sT (sT (sT (sT (wN ?_)))));refine wS (sT (wN ?_));refine Ag V (λz=>?_) (λz=>?_)
     ·have H:=AN z H;obtain⟨L,H⟩:=Ah.1 H;obtain⟨ab,H⟩:=Ah.1 H;refine wSE (sT (sT (sT (sT ?_))));refine sA ?_ (Cb V (As Fq) V (As Iy) V L) (Ar (Ap HU));(refine AC V (Dx V V V (BS L) (gN ab) V ?_);refine D2 ?_ RG);refine wN ?_;have F:=Ad.1 H;repeat(first|refine abN ?_|refine asN ?_)
      refine An ⟨(_,Y),F.symm,?_⟩;try dsimp only
      exact AS
     ·have H:=AO z H;refine Al ?_;have F:=Ad.1 H;repeat(first|refine abN ?_|refine asN ?_)
      refine An ⟨(_,Y),F.symm,?_⟩;try dsimp only
      exact AS
    ·rintro⟨ah,Z⟩ A;try dsimp only at A
     have H:=O;rw[A]at H;try dsimp only
     refine wSE (sT (sT (wN ?_)));have e5:=Ad.1 H;repeat(first|refine abN ?_|refine asN ?_)
     refine An ⟨_,Z,e5.symm,?_⟩;try dsimp only
     exact AS
   ·have H:=AO B H;refine Ay ?_;repeat(first|refine BG ?_|refine exO (by decide) ?_|refine asE ?_)
    refine exN ?_;have e5:=ad _ (Ad.1 H).symm;repeat(first|refine abN ?_|refine asN ?_)
    refine An ⟨(_,Y),e5.symm,?_⟩;try dsimp only
    exact AS
 ·rintro⟨l7,v6⟩ J;try dsimp only at J
  have H:=ae;rw[J]at H;try dsimp only
  refine wS (sT ?_);(refine AC V (CR V V V (Rt (.cons (gX V) (.cons (gX V) (.cons (gY V) .nil)))) V (iG V) ?_);refine D2 ?_ RG);refine wN ?_;obtain rfl:=Ad.1 H;refine AE _ (YX hC 2 V (by(simp only[fzH,Eh,fZ,fU,eL,eN,Nat.reduceEqDiff,zan,zag];first|done|exact V)) (by(simp only[fzH,Eh,fZ,fU,eL,eN,Nat.reduceEqDiff,zan,zag];first|done|exact V))) ?_;exact Aw ⟨⟨.inr V,1,_,rfl,rfl,gJ V⟩,λi cells e1 e2=>by cases e1;cases e2;rfl⟩
end Mu
namespace Mu
open Go Go.RowKit
variable{N:Nat}{gf:aM}{lb:List AV}{Φ:Res->Prop}
def Ark(P:aT)(gf:aM)(lb:List AV)(Φ:Res->Prop)(encs:Nat->List AV)(N stop:Nat):Prop:=
 Ca P gf=aJ/\∀(w:cA) (S:Nat->Prop) (ι:Type) (l:Nat) (c:Nat->ι->Res) (u:ι->Res),(∀k p,(c k p).mrk= [])->(∀p,(u p).mrk= [])->(∀k p,k < N->k < stop->PN P l S w.heap.size (c k p) (encs k) aJ (c (k+1)))->(stop < N->∀p,PN P l S w.heap.size (c stop p) (encs stop) aH u)->
  ∀p vs,(∀k,S k->k < w.heap.size/\¬(c 0 p).F k)->(∀g,(c 0 p).F g->g < w.heap.size)->(c 0 p).R w S->Φ (c 0 p)->Ae w S [] ψ0 lb vs->
   CallsIn Fence.wide 3 P gf (#[bZ (.yield l) #[] #[]]++vs.toArray) w λe w'=>(∃v,e= .returned v)/\Gr (λg=>(c 0 p).F g) w w'/\∃q S',(∀k,S k->S' k)/\(if stop < N then u q else c N q).R w' S'/\(∀k,S' k->k < w'.heap.size/\¬(if stop < N then u q else c N q).F k)/\(∀k,S' k->S k\/w.heap.size<=k)/\∀g,(if stop < N then u q else c N q).F g->((c 0 p).F g\/w.heap.size<=g)/\g < w'.heap.size
theorem Vy{P:aT}{fn:Go.Func}{c:Code}{encs:Nat->List AV}{stop n:Nat}(I:P.funcs[gf]? =iU fn)(hb:fn.body=iU c)(hE:Ca P gf=aJ)(A:fn.results= #[])(X:fn.ntmps=n)(ac:Bh lb=aJ)
 (h:∀(C:Ctx),C.rd=iT->∀(ι:Type) (l:Nat) (u:Nat->ι->Res) (z:ι->Res),(∀k p,(u k p).mrk= [])->(∀p,(z p).mrk= [])->(∀k p,k < N->k < stop->PN P l C.S0 C.w0.heap.size (u k p) (encs k) aJ (u (k+1)))->(stop < N->∀p,PN P l C.S0 C.w0.heap.size (u stop p) (encs stop) aH z)->∀p,Φ (u 0 p)->(∀k,k < C.w0.heap.size->C.N k\/(u 0 p).F k)->
  Awp P C c (Arj (λq=>if stop < N then z q else u N q)) ⟨(.lit (.func (.yield l) #[] #[])::lb)++fF (n - (lb.length+1)) (.lit undef),[.res (u 0 p)]⟩):Ark P gf lb Φ encs N stop:=by
 refine⟨hE,λw S ι l u z hm Y hY ad p vs hS hF hR L F=>callsIn_of_wp I hb trivial ?_⟩;rw[X];let N0:Nat->Prop:=λk=>k < w.heap.size/\¬(u 0 p).F k
 have hH:HRel ⟨w,S,N0,iT⟩ [.res (u 0 p)] S ψ0 w:=by
  refine⟨Kp.refl _ _,λk hk=>hk.1,λk hk=>(hS k hk).1,λ_ h=>h,λ_ h=>.inl h,λi b hi=>?_,λi j ab hi hj g h1 h2=>?_⟩
  ·rcases i with _|i
   ·have:b= .res (u 0 p):=by simpa using hi.symm
    subst this;exact⟨λg hg=>⟨λX=>X.2 hg,λhs=>(hS g hs).2 hg,hF g hg⟩,hR⟩
   ·simp at hi
  ·rcases i with _|i
   ·rcases j with _|j
    ·exact ab V
    ·simp[fV]at hj
   ·simp[fV]at hi
 have O:vs.length=lb.length:=Bw F;have U:St.rel ⟨w,S,N0,iT⟩ ⟨(.lit (.func (.yield l) #[] #[])::lb)++fF (n - (lb.length+1)) (.lit undef),[.res (u 0 p)]⟩ {tmps:=(#[bZ (.yield l) #[] #[]]++vs.toArray)++aD (n - (#[bZ (.yield l) #[] #[]]++vs.toArray).size) undef,defers:=[]} w:=by
  refine⟨?_,S,ψ0,hH,?_⟩
  ·show []=mkD _;simp[mkD,fW,hm 0 p]
  ·have e:((#[bZ (.yield l) #[] #[]]++vs.toArray)++aD (n - (#[bZ (.yield l) #[] #[]]++vs.toArray).size) undef).toList=(bZ (.yield l) #[] #[]::vs)++fF (n - (lb.length+1)) undef:=by
    simp[iF 1 vs.length,O]
   rw[e,show fF (n - (lb.length+1)) (AV.lit undef)=(fF (n - (lb.length+1)) undef).map AV.lit by simp];refine BK ?_ (FT _);unfold Ae;exact⟨_,_,rfl,by unfold gB;rfl,Bi _ _ ac F⟩
 have hw:=h ⟨w,S,N0,iT⟩ V ι l u z hm Y hY ad p L (λk hk=>(Classical.em ((u 0 p).F k)).elim .inr λI=>.inl ⟨hk,I⟩) _ w U;refine wpIn_mono (Alf (m:=3) hw) ?_;rintro e a' w' ⟨s,⟨he,q,h0,Z⟩,hd,S1,ψ,H,hl⟩;rw[Z]at hd;have hq:=H.blk 0 _ h0;obtain⟨JF,J⟩:∃JF:ι->Res,JF=λq=>if stop < N then z q else u N q:=⟨_,rfl⟩
 rw[<-J]at hq;have B:(∃v,Ending.returned (.tuple #[])= .returned v)/\Gr (λg=>(u 0 p).F g) w w'/\∃q S',(∀k,S k->S' k)/\(if stop < N then z q else u N q).R w' S'/\(∀k,S' k->k < w'.heap.size/\¬(if stop < N then z q else u N q).F k)/\(∀k,S' k->S k\/w.heap.size<=k)/\∀g,(if stop < N then z q else u N q).F g->((u 0 p).F g\/w.heap.size<=g)/\g < w'.heap.size:=by
  refine⟨⟨_,rfl⟩,⟨H.bel.os,H.bel.tape,H.bel.output,H.bel.size,λk hk W=>H.bel.block k ⟨hk,W⟩⟩,q,S1,H.sub,?_⟩;rw[show(if stop < N then z q else u N q)=JF q by rw[J]];refine⟨hq.2,λk hk=>⟨H.lt k hk,λI=>(hq.1 k I).2.1 hk⟩,H.new,λg hg=>⟨?_,(hq.1 g hg).2.2⟩⟩;have h1:=(hq.1 g hg).1;by_cases aa:g < w.heap.size
  ·by_cases h2:(u 0 p).F g
   ·exact .inl h2
   ·exact absurd ⟨aa,h2⟩ h1
  ·exact .inr (by show w.heap.size<=g;omega)
 rcases he with rfl|rfl
 ·exact⟨hd,_,results_none A _ _ _,B⟩
 ·exact⟨hd,_,results_none A _ _ _,B⟩
theorem Ahr{S u:Nat->Prop}{w:cA}{c:Loop}{hk:List fT}{R:Res}{Φ:cA->Prop}(j:Nat)(z:hk[j]? =iU (.res R))(A:∀W T,R.R W T->Φ W)(p:Ai1):∀W T,(Al6 0 S u w c hk p).R W T->Φ W:=λW T B=>by
 obtain⟨_,_,_,_,H,_⟩:=(show BetY 0 S u w c hk p.1 p.2.1 p.2.2 W T from B)
 exact A W _ (H.blk j _ z).2
section
variable{P:aT}
theorem Ab3{C:Ctx}{g:aS}{ps:Array Tmp}{assign body:Code}{Q:Exit->St->Prop}{t:List AV}{h:List fT}{stop:Nat}{encs:Nat->List AV}(xid:Nat)(σ:Nat->List fT)(τ:List fT)
 (hin:NF C)(hg:evA t g= .fn gf lb)(hcl:Bh lb=aJ)(hmh:mkD h= [])
 (h0:Drops h (σ 0))(hmσ:∀k,mkD (σ k)= [])(hmτ:mkD τ= [])(ht:Bh t=aJ)(hes:∀k,Bh (encs k)=aJ)(hps:∀k,(encs k).length=ps.size)
 (hit:Ark P gf lb Φ encs N stop)(hΦ:∀S own0 w rec_ p,Φ (Al6 0 S own0 w rec_ (σ 0) p))
 (hround:∀k,k < N->k < stop->∀C':Ctx,NF C'->Awp P C' assign (Ke (GZ P body iT (λ_:Unit=>σ (k+1))) (λ_ _=>False)) ⟨Nd t ps.toList (encs k),σ k⟩)
 (hstop:stop < N->∀C':Ctx,NF C'->Awp P C' assign (Ke (GZ P body (iU xid) (λ_:Unit=>τ)) (λ_ _=>False)) ⟨Nd t ps.toList (encs stop),σ stop⟩)
 (hdone:¬stop < N->Q .normal ⟨t,σ N⟩)(hleft:stop < N->Q (.exit xid) ⟨t,τ⟩):Awp P C (.rangeFunc g ps assign body) Q ⟨t,h⟩:=λa w ⟨hd,S,ψ,H,hl⟩=>by
 obtain⟨l0,r0,hrd,hNl0,hl00⟩:=hin;have hl0:w.heap[l0]? =iU (.loop r0):=(H.bel.block l0 hNl0).trans hl00;rw[hrd];have H0:=H.cut h0.cut h0.bd;have hgv:=Bv hl g;rw[hg]at hgv;unfold gB at hgv;obtain⟨vc,hgv,hvc⟩:=hgv;have hvc:Ae w S [] ψ0 lb vc:=Bi _ _ hcl hvc;have hlit:Ae w S [] ψ0 t a.tmps.toList:=Bi _ _ ht hl;have hdn:a.defers= []:=hd.trans hmh;obtain⟨own0,hown0⟩:∃o,o=owns (σ 0) ψ:=⟨_,rfl⟩
 have ho0:∀g,own0 g->g < w.heap.size:=λg hg=>by rw[hown0]at hg;exact(H0.own_lt hg).2.1
 have hSo:∀g,S g->¬own0 g:=λg hg ho=>by rw[hown0]at ho;exact(H0.own_lt ho).2.2 hg
 refine wpIn_rangeFunc λfn _=>?_
 obtain⟨rec_,hrec⟩:∃rec_:LoopState->Option Code->Loop,rec_=λst pe=>{state:=st,pending:=pe,fn,tmps:=a.tmps,params:=ps,assign,body,defers:=r0.defers}:=⟨_,rfl⟩
 have hst:∀x z y,({rec_ x z with state:=y}:Loop)=rec_ y z:=λx z y=>by rw[hrec]
 have hrst:∀z,(rec_ .ready z).state= .ready:=λz=>by rw[hrec]
 have hen:∀x z y u,({rec_ x z with state:=y,pending:=u}:Loop)=rec_ y u:=λx z y u=>by rw[hrec]
 obtain⟨W1,hW1⟩:∃W1,W1=w.alloc (.loop (rec_ .ready iT)):=⟨_,rfl⟩
 have hW1s:W1.heap.size=w.heap.size+1:=by rw[hW1];simp
 have hL1:W1.heap[w.heap.size]? =iU (.loop (rec_ .ready iT)):=by rw[hW1];exact cL w _
 have hb1:Below w.heap.size w W1:=by rw[hW1];exact(bT _ w).alloc (iI _) _
 have hJ0:BetY 0 S own0 w (rec_ .ready iT) (σ 0) S ψ (λ_=>False) W1 S:=by
  refine⟨hL1,λ_ h=>absurd h (Nat.not_lt_zero _),by omega,λg hg=>hb1.block g (H.lt g hg),?_,λ_ h=>h,λ_ h=>.inl h,λg hg=>.inl (by rw[hown0];exact hg),λ_ h=>.inr h⟩;exact H0.re (λk hk=>hb1.block k (H.lt k hk)) (λk hk=>hb1.block k (H0.own_lt hk).2.1) _ (λ_ h=>h.elim) iT
 have rnd:∀(k:Nat) (jump:Option Nat) (h':List fT),(∀C':Ctx,NF C'->Awp P C' assign (Ke (GZ P body jump (λ_:Unit=>h')) (λ_ _=>False)) ⟨Nd t ps.toList (encs k),σ k⟩)->∀p:Unit×Ai1,
  PN P w.heap.size S W1.heap.size (Al6 0 S own0 w (rec_ .ready iT) (σ k) p.2) (encs k) jump.isNone (λp:Unit×Ai1=>Al6 0 S own0 w (rec_ (if jump.isNone then .ready else .done) (jump.map Code.exit)) h' p.2):=by
  intro k jump h' hA p W SI vs hI1 hI2 hI3 hFlt hB hev;have hB:BetY 0 S own0 w (rec_ .ready iT) (σ k) p.2.1 p.2.2.1 p.2.2.2 W SI:=hB;have hvl:vs.length=ps.size:=by rw[Bw hev,hps]
  have hy:=run_yield (P:=P) (args:=vs.toArray) hB.loop (by rw[hrec];simpa using hvl);have hR:=XP (J:=Unit) (d:=0) (P:=P) (fn:=fn) (ps:=ps) (tmps:=a.tmps) (body:=body) (p:=p.2) jump hst hrst hen ho0 H.lt ht (hes k) hlit hev (hmσ k) hI1 (λg hg=>by have:=hI2 g hg;rw[hW1s]at this;exact this) hI3 hB hA;have e1:((rec_ .ready iT).params.zip vs.toArray).foldl (λtmps (t,a)=>tmps.setIfInBounds t a) (rec_ .ready iT).tmps=(ps.toList.zip vs).foldl (λt p=>t.setIfInBounds p.1 p.2) a.tmps:=by
   rw[hrec,<-Array.foldl_toList,Array.toList_zip]
  rw[e1]at hy;rw[show(rec_ .ready iT).fn=fn by rw[hrec],show(rec_ .ready iT).assign=assign by rw[hrec],show(rec_ .ready iT).body=body by rw[hrec]]at hy;exact⟨fn,_,assign,body,hy,hR⟩
 refine⟨w.heap.size,[],W1,{target:=.fn (.func gf) vc.toArray,args:=#[.func (.yield w.heap.size) #[] #[]]},W1,gf,#[.func (.yield w.heap.size) #[] #[]]++vc.toArray,W1,?_,?_,λ_ _=>trivial,?_,λ_=>by omega,?_⟩
 ·rw[hW1,hrec];exact run_enterLoop_inner hl0 _ _ _ _ _
 ·simp only[resolve,hgv];simp[go_sem]
 ·simp[invoke,go_sem,Ps hit.1]
 ·have key:=hit.2 W1 S (Unit×Ai1) w.heap.size (λk p=>Al6 0 S own0 w (rec_ .ready iT) (σ k) p.2) (λp=>Al6 0 S own0 w (rec_ .done (iU (.exit xid))) τ p.2) (λ_ _=>rfl) (λ_=>rfl) ?_ ?_ ((),S,ψ,λ_=>False) vc (λk hk=>⟨by have:=H.lt k hk;omega,?_⟩) (λg hg=>?_) hJ0 (hΦ _ _ _ _ _) (Az (Ext.grow [] ψ0 (λk hk=>hb1.block k (H.lt k hk)) λ_ h=>h) _ _ hvc)
  ·refine(show CallsIn (fnc (iU l0)) 3 P gf _ W1 _ from key).mono ?_;rintro e W' ⟨⟨v,rfl⟩,hgr,⟨_,q⟩,S',hSS,hJ,hS'lt,hS'new,hFq⟩;have fin:∀(hk:List fT) (rc:Loop),mkD hk= []->rc.state≠.busy->BetY 0 S own0 w rc hk q.1 q.2.1 q.2.2 W' S'->∀(W5:cA) (ob:Obj),W5=W'.putObj w.heap.size ob->St.rel C ⟨t,hk⟩ {a with defers:=[]++a.defers} W5:=by
    intro hk rc hmk _ hJ W5 ob hW5;obtain⟨hlp,_,hsz,hsame,Hk,hs1,hs2,hs3,_⟩:=hJ;have hot:∀g,g≠w.heap.size->W5.heap[g]? =W'.heap[g]?:=λg hg=>by rw[hW5];exact World.putObj_heap_other hg
    have hsz5:W5.heap.size=W'.heap.size:=by rw[hW5];simp
    have hSne:∀g,q.1 g->g≠w.heap.size:=λg hg=>by
     rcases hs2 g hg with h1|h1
     ·have:=H.lt g h1;omega
     ·omega
    have hOne:∀g,owns hk q.2.1 g->g≠w.heap.size:=λg hg=>by
     rcases hs3 g hg with h1|h1
     ·have:=ho0 g h1;omega
     ·omega
    have hkeep:∀g,g < w.heap.size->¬own0 g->W5.heap[g]? =w.heap[g]?:=λg h1 h2=>by
     rw[hot g (by omega),hgr.block g (by omega) ?_,hb1.block g h1];intro h4;have h4:(w.heap.size<=g/\g<=w.heap.size+0)\/owns (σ 0) ψ g\/False:=h4;rcases h4 with h4|h4|h4
     ·omega
     ·exact h2 (by rw[hown0];exact h4)
     ·exact h4
    have hH5:=Hk.re (W':=W5) (λk hk=>hot k (hSne k hk)) (λk hk=>hot k (hOne k hk)) (λ_=>False) (λ_ h=>h.elim) iT;have hkp5:Kp C.N w W5:=⟨by rw[hW5];exact hgr.os.trans hb1.os,by rw[hW5];exact hgr.tape.trans hb1.tape,by rw[hW5];exact hgr.output.trans hb1.output,by omega,λk hk=>hkeep k (iK (H.nlt k hk) H.bel.size) λho=>by rw[hown0]at ho;exact(H0.own_lt ho).1 hk⟩
    have hH6:HRel C hk q.1 q.2.1 W5:=hH5.to (H.bel.trans hkp5) H.nlt (λk hk=>hs1 k (H.sub k hk)) (λk hk=>by
     rcases hs2 k hk with h1|h1
     ·exact H.new k h1
     ·right;have:=H.bel.size;omega) λg hg hn=>by
      rcases hs3 g hg with h1|h1
      ·rw[hown0]at h1;exact(H0.own_lt h1).1 hn
      ·have:=H.nlt g hn;have:=H.bel.size;omega
    refine⟨?_,q.1,q.2.1,hH6,?_⟩
    ·show []++a.defers=mkD hk;rw[hdn,hmk];rfl
    ·exact Bi _ _ ht (Az (Ext.grow [] ψ0 (λk hk=>(hot k (by have:=H.lt k hk;omega)).trans (hsame k hk)) hs1) _ _ hlit)
   by_cases hsN:stop < N
   ·rw[if_pos hsN]at hJ;have hJ:BetY 0 S own0 w (rec_ .done (iU (.exit xid))) τ q.1 q.2.1 q.2.2 W' S':=hJ;have hend:=run_endLoop (P:=P) hJ.loop (by rw[hrec];simp);rw[show(rec_ .done (iU (Code.exit xid))).pending=iU (.exit xid)by rw[hrec]]at hend;refine⟨iU (.exit xid),_,hend,?_⟩;exact wpIn_exit ⟨⟨t,τ⟩,hleft hsN,fin τ _ hmτ (by rw[hrec];simp) hJ _ _ V⟩
   ·rw[if_neg hsN]at hJ;have hJ:BetY 0 S own0 w (rec_ .ready iT) (σ N) q.1 q.2.1 q.2.2 W' S':=hJ;have hend:=run_endLoop (P:=P) hJ.loop (by rw[hrec];simp);rw[show(rec_ .ready iT).pending=iT by rw[hrec]]at hend;exact⟨iT,_,hend,⟨t,σ N⟩,hdone hsN,fin (σ N) _ (hmσ N) (by rw[hrec];simp) hJ _ _ V⟩
  ·exact λk p hkN hks=>rnd k iT _ (hround k hkN hks) p
  ·exact λhsN p=>rnd stop (iU xid) _ (hstop hsN) p
  ·intro hf;have hf:(w.heap.size<=k/\k<=w.heap.size+0)\/owns (σ 0) ψ k\/False:=hf;have:=H.lt k hk;rcases hf with hf|hf|hf
   ·omega
   ·exact hSo k hk (by rw[hown0];exact hf)
   ·exact hf
  ·have hg:(w.heap.size<=g/\g<=w.heap.size+0)\/owns (σ 0) ψ g\/False:=hg;rcases hg with hg|hg|hg
   ·omega
   ·have:=(H0.own_lt hg).2.1;omega
   ·exact hg.elim
end
open Go.Proofs
variable{k:Nat}{ll:List (List Int)}{x:List Int}
theorem Vn{C:Ctx}{R:Res}(U:∀k,k < C.w0.heap.size->C.N k\/R.F k){t:List AV}{h:List fT}(i j r:Nat){ver:Nat}{e:bX}{α:Type}{T:Ty α}{l:List α}(z:i≠r)(c:h[r]? =iU (.res R))(hi:h[i]? =iU (.row ver e T l))(J:t[j]? =iU (.own i ver)):St.le C ⟨t,h⟩ ⟨t.set j (.bs T l),h.set i .dead⟩:=
 Hp i j hi V V J (λS ψ w H k hk=>iH λA=>(U k A).elim ((H.blk i _ hi).lt V k hk).1 λL=>H.dis i r z (by rw[hi];rfl) (by rw[c];rfl) k (by rw[hi];exact hk) (by rw[c];exact L)) λS ψ w v H B=>by
  obtain⟨cells,I,X,F,W⟩:=H.blk i _ hi;unfold gB at B;have u:=(B.2 _ (by rw[hi];rfl)).2 V;unfold gB;rw[u];exact C5 I (λi d O=>T.keepS (F i d O) (λ_ _=>rfl) λk hk=>.inl hk) λq hq=>.inr (AU hq)
theorem Ax9{n m:Nat}(c:n+m < 9223372036854775808):Ix .add .i64 (n:Int) (m:Int)=iU (.int .i64 ((n+m:Nat):Int)):=by
 unfold Ix;simp only;rw[IntWalk.i64_in _ (by omega)];rfl
theorem Agk(n:Nat)(J:n<=5000000000):JA bC 116 [.lit (.slice iT 0 0),.lit (.int .i64 (n:Int))] 3 tInt []:=by
 have I:Ix .sub .i64 ((0:Nat):Int) ((0:Nat):Int)=iU (.int .i64 ((0:Nat):Int)):=rfl;have H:Ix .sub .i64 (n:Int) ((0:Nat):Int)=iU (.int .i64 (n:Int)):=by
  unfold Ix;simp only;rw[IntWalk.i64_in _ (by omega)];simp
 have B:n<=cN:=by unfold cN;omega
 have A:n * 8<=140737488355328:=by omega
 refine Eg Tryz.func116 V (by kernel_rfl) V Tryz.ntmps116 Yk λC L=>?_
 simp only[Nat.reduceAdd,Nat.reduceSub,zaa];refine wR ?_;refine Ab λU h2=>?_
 refine wR ?_;refine Ag V (λz=>?_) (λz=>?_)
 ·have:=of_decide_eq_true z;omega
 ·refine Al ?_;refine h2 _ ?_;refine nT ?_;refine Ab λO F=>?_
  refine wR (hx:=by((repeat(first|refine sA ?_ (Vu V V)|refine sA ?_|refine AM ?_|refine sAG ?_|refine Bp ?_));exact CS V)) ?_;refine wR ?_;refine Ag V (λu=>?_) (λu=>?_)
  ·have c:0 < n:=by have:=of_decide_eq_true u;omega
   refine wRE (hx:=by((repeat(first|refine sA ?_ (Vu V V)|refine sA ?_ (Vp V V V)|(refine AC V (Amu (kk:=.i64) (by kernel_rfl) V V V c B A ?_);refine sNt ?_)|(refine AC V (M5 (m:=0) V V V V ⟨_,rfl⟩ (Nat.zero_le _) ?_);refine sNt ?_)|refine sA ?_|refine AM ?_|refine sAG ?_|refine Bp ?_));exact CS V)) (hk:=?_);refine F _ ?_;refine nT ?_;refine wR ?_;exact Aw ⟨.inr V,rfl,0,1,rfl,rfl⟩
  ·refine Al ?_;refine F _ ?_;refine nT ?_;refine wR ?_;refine AE _ (Cz 4 3 tInt V (by decide)) ?_;exact Aw ⟨.inr V,rfl,0,0,rfl,rfl⟩
def Kc(ll:List (List Int)):Nat:=(ll.map List.length).sum
theorem Q7(h:ll[k]? =iU x):Kc (ll.take (k+1))=Kc (ll.take k)+x.length:=by
 unfold Kc;rw[fI,h];simp
theorem Q6(ll:List (List Int))(k:Nat):Kc (ll.take k)<=Kc ll:=by
 unfold Kc
 conv=>rhs;rw[<-fJ k ll]
 rw[eK,List.sum_append];omega
theorem Aai(h:ll[k]? =iU x):(ll.take (k+1)).flatten=(ll.take k).flatten++x:=by
 rw[fI,h];simp
theorem Agt(ll:List (List Int)):ll.flatten.length=Kc ll:=by
 unfold Kc;rw[List.length_flatten]
theorem WS(ll:List (List Int))(hl:ll.length<=2147483648)(ht:Kc ll<=5000000000):JA bC 94 [.bs tInt.slice ll] 3 tInt ll.flatten:=by
 have O:=Agk (Kc ll) (by omega);refine Eg Tryz.func94 V (by kernel_rfl) V Tryz.ntmps94 Yk λC hC=>?_
 simp only[Nat.reduceAdd,Nat.reduceSub,zaa];refine wR ?_;refine wR ?_;refine Ab λK3 h3=>?_
 refine wR ?_;refine Ac ?_;refine AB (λk:Nat=>⟨(.bs tInt.slice ll::A2 (.lit (.int .i64 (Kc (ll.take k):Int))::A5 (.bs tInt.slice ll::.lit (.int .i64 (ll.length:Int))::.lit (.int .i64 (k:Int))::A20 (A4 [])))),[]⟩) (λk=>k<=ll.length) (λk=>ll.length - k) 0 (iQ _) (by rw[show Kc (ll.take 0)=0 by rw[fR];rfl];exact AS) ?_;intro k hk;refine wR ?_;refine Ab λK7 h7=>?_
 refine Ag V (λA=>?_) (λA=>?_)
 ·have z:k < ll.length:=by simpa using A
  obtain⟨x,hx⟩:∃x,ll[k]? =iU x:=⟨_,dV z⟩
  have B:=Q7 hx;have I:=Q6 ll (k+1);have Z:Ix .add .i64 (Kc (ll.take k):Int) (x.length:Int)=iU (.int .i64 (Kc (ll.take (k+1)):Int)):=by
   rw[B];exact Ax9 (by omega)
  refine Al ?_;refine h7 _ ?_;refine nT ?_;refine Ab λK9 h9=>?_
  refine Ac ?_;refine wR ?_;refine wR ?_;refine wR ?_;refine Ag V (λu=>?_) (λu=>?_)
  ·have:=of_decide_eq_true u;omega
  ·refine Al ?_;refine h9 _ ?_;refine nT ?_;refine wRE ?_;refine An ⟨k+1,by omega,by omega,AS⟩
 ·refine Ay ?_;refine h3 _ ?_;refine nT ?_;have J:k=ll.length:=by have:¬k < ll.length:=(by simpa using A);omega
  have H:Kc (ll.take k)=Kc ll:=by rw[J,fM]
  rw[H];refine wR (hx:=by((repeat(first|(refine AC V (La V O (by decide) V V ?_);refine sNt ?_)|refine sA ?_|refine AM ?_|refine sAG ?_|refine Bp ?_));exact CS V)) (hk:=?_);refine Ab λae Y=>?_
  refine wR ?_;refine Ac ?_;refine AB (λp:Nat×Nat=>⟨(A6 (.own 0 p.2::A10 (A8 (.bs tInt.slice ll::.lit (.int .i64 (ll.length:Int))::.lit (.int .i64 (p.1:Int))::A8 [])))),[.row p.2 3 tInt (ll.take p.1).flatten]⟩) (λp=>p.1<=ll.length) (λp=>ll.length - p.1) (0,0) (iQ _) (AS) ?_;rintro⟨j,ver⟩ hj;dsimp only at hj⊢;refine wR ?_;refine Ab λad X=>?_
  refine Ag V (λc=>?_) (λc=>?_)
  ·have z:j < ll.length:=by simpa using c
   obtain⟨x,hx⟩:∃x,ll[j]? =iU x:=⟨_,dV z⟩
   have B:=Q7 hx;have I:=Q6 ll (j+1);have U:=Agt (ll.take j);have F:=Aai hx;generalize (ll.take j).flatten=F0 at U F⊢;have ab:F0.length+x.length<=cN:=by unfold cN;omega
   have aa:(F0.length+x.length) * 8<=140737488355328:=by omega
   refine Al ?_;refine X _ ?_;refine nT ?_;refine Ab λac W=>?_
   refine Ac ?_;refine wR ?_;refine wRE ?_;refine W _ ?_;refine nT ?_;refine wRE ?_;refine An ⟨(j+1,ver+1),by dsimp only;omega,by dsimp only;omega,?_⟩;dsimp only;rw[F];exact AS
  ·refine Ay ?_;refine Y _ ?_;refine nT ?_;refine wR ?_;have L:j=ll.length:=by have:¬j < ll.length:=(by simpa using c);omega
   refine Aw ⟨.inr V,rfl,0,ver,rfl,?_⟩;rw[L,fM];rfl
open Go.Maps
variable{A:List (Int×Int)}{G:gF}{L c:List Int}{k:Nat}{out:List (Int×Int)}{p r x:Int}
abbrev XE(G:gF)(r:Int)(m:Nat):AV:=.fn 93 [.bp (J8 Bc) G 0,.bp tInt r 0,.bp (RE (.map (iU m))) () 0]
theorem Ai5(G:gF)(r:Int)(m:Nat)(z:Ch r):Fn bC 54 [.bp Bc G 0,.lit (.int .i64 r),.lit (.map (iU m))] (XE G r m):=by
 refine AQ Tryz.func54 V (by kernel_rfl) V Tryz.ntmps54 λC u=>?_
 simp only[Nat.reduceAdd,Nat.reduceSub,zaa];refine wR (hx:=by((repeat(first|(refine AC V (AOp.boxI 0 V V (PW.one One.bp).weak ?_);refine sNt ?_)|(refine AC V (AOp.boxI 1 V V (PW.one (One.lit V)).weak ?_);refine sNt ?_)|(refine AC V (AOp.boxI 2 V V (PW.one (One.lit V)).weak ?_);refine sNt ?_)|refine sA ?_|refine AM ?_|refine sAG ?_|refine Bp ?_));exact CS V)) (hk:=?_);refine AE _ (EN u 0 3 V V Y0.bp) ?_;refine AE _ (EN u 1 4 V V (Y0.int z)) ?_;refine AE _ (EN u 2 5 V V (Y0.lit (v:=.map (iU m)) V)) ?_;refine nT ?_;refine wR (hx:=by((repeat(first|refine sA ?_ (FK V)|refine sA ?_|refine AM ?_|refine sAG ?_|refine Bp ?_));exact CS V)) ?_;exact Aw ⟨.inr V,gJ V⟩
instance Axp:RT bC 66 27 1 24:=⟨by kernel_rfl⟩
def SX(G:gF)(at_:List (Int×Int))(r:Int):List Int:=((getK G.moves r).getD []).filterMap (getK at_)
def Za(G:gF)(at_:List (Int×Int))(r:Int):List Int:=((getK G.likes r).getD [])++SX G at_ r++((getK G.cls r).getD [])
def D7(G:gF)(at_:List (Int×Int))(r:Int):List Int:=(Za G at_ r).filter λp=>((getK G.cls r).getD []).contains p
def Qu(c L:List Int)(k:Nat):Nat:=((L.take k).filter λp=>c.contains p).length
theorem Alv(hx:L[k]? =iU x)(hc:c.contains x=aJ):Qu c L (k+1)=Qu c L k+1/\(L.filter λp=>c.contains p)[Qu c L k]? =iU x:=by
 constructor
 ·unfold Qu;rw[fI,hx,dF,eD];rw[show(iU x).toList= [x]from V,dG,if_pos hc];rfl
 ·have e:L=L.take k++x::L.drop (k+1):=by
   have h1:=(dX.1 hx)
   obtain⟨h2,u⟩:=h1;rw[<-u,List.getElem_cons_drop,fJ]
  unfold Qu
  conv=>lhs;rw[e]
  rw[dF,dG,hc];have h2:k<=L.length:=Nat.le_of_lt (dX.1 hx).1;rw[show(L.take k++x::L.drop (k+1)).take k=L.take k by rw[<-e]];simp
theorem Aq6(hx:L[k]? =iU x)(hc:c.contains x=aH):Qu c L (k+1)=Qu c L k:=by
 unfold Qu;rw[fI,hx,dF,eD];rw[show(iU x).toList= [x]from V,dG,if_neg (by rw[hc];simp)];rfl
theorem YI(c L:List Int):Qu c L L.length=(L.filter λp=>c.contains p).length:=by
 unfold Qu;rw[fM]
theorem QB{C:Ctx}{t:List AV}{h:List fT}{o:aR}{ty e:bX}{x y:aS}{m:Nat}{k:Int}{R:Res}{l:List (Int×Int)}(i:Nat)(F:o.op= .lookup ty x y aJ)(u:bC.underlying ty=iU (.map 3 e))(z:∀w,(zeroValue e).run bC w= .ok (.int .i64 0) w)(hx:evA t x= .lit (.map (iU m)))(B:evA t y= .lit (.int .i64 k))(hk:wfB .i64 k=aJ)(hi:h[i]? =iU (.res R))(H:Amk R m (mapK (b9 .i64) l)):
 AT bC C t h o (.tup [.lit (.int .i64 ((getK l k).getD 0)),.lit (.bool (getK l k).isSome)]):=by
 have h1:=Iq (C:=C) i F u z hx B hk hi H;rw[CB]at h1;cases hg:getK l k with
 |none=>rw[hg]at h1;exact h1
 |some v=>rw[hg]at h1;exact h1
structure OkT(G:CGraph)(at_:List (Int×Int))(r:Int):Prop where
 rw:Ch r
 moves:∀k∈(getK G.moves r).getD [],Ch k
 movesl:((getK G.moves r).getD []).length<=1073741824
 likes:∀k∈(getK G.likes r).getD [],Ch k
 likesl:((getK G.likes r).getD []).length<=1073741824
 cls:∀k∈(getK G.cls r).getD [],Ch k
 clsl:((getK G.cls r).getD []).length<=1073741824
 at_:∀k v,getK at_ k=some v->Ch v
theorem Zb(G:gF)(at_:List (Int×Int))(r:Int)(m stop:Nat)(hO:OkT G at_ r):Ark bC 93 [.bp (J8 Bc) G 0,.bp tInt r 0,.bp (RE (.map (iU m))) () 0] (λR=>Amk R m (mapK (b9 .i64) at_)) (λk=>[.lit (.int .i64 ((D7 G at_ r).getD k 0))]) (D7 G at_ r).length stop:=by
 have hr:wfB .i64 r=aJ:=hO.rw;obtain⟨B,ac⟩:∃B,B=(getK G.moves r).getD []:=⟨_,rfl⟩
 have bb:B.length<=1073741824:=by rw[ac];exact hO.movesl
 have ai:∀k∈B,Ch k:=by rw[ac];exact hO.moves
 obtain⟨cl,F⟩:∃cl,cl=(getK G.cls r).getD []:=⟨_,rfl⟩
 have am:cl.length<=1073741824:=by rw[F];exact hO.clsl
 obtain⟨L,hL⟩:∃L,L=Za G at_ r:=⟨_,rfl⟩
 have hN:D7 G at_ r=L.filter λp=>cl.contains p:=by rw[hL,F];rfl
 have bc:(SX G at_ r).length<=1073741824:=iJ (eF _ _) hO.movesl;have bf:L.length<=3221225472:=by
  rw[hL];unfold Za;rw[eD,eD];have h1:=hO.likesl;have h2:=hO.clsl;omega
 have H:=(WS [(getK G.likes r).getD [],SX G at_ r,cl] (by show 3<=2147483648;decide) (by
  have h1:=hO.likesl;show([((getK G.likes r).getD []).length,(SX G at_ r).length,cl.length]:List Nat).sum<=5000000000;simp only[List.sum_cons,List.sum_nil];omega)).fn
 have ay:([(getK G.likes r).getD [],SX G at_ r,cl]:List (List Int)).flatten=L:=by
  rw[hL,F];unfold Za;simp
 rw[ay]at H;refine Vy Tryz.func93 V (by kernel_rfl) V Tryz.ntmps93 V λC ag ι l Jr Jx hm ah hY aw p ap af=>?_
 simp only[Nat.reduceAdd,Nat.reduceSub,zaa];refine wR ?_;refine Ab λK2 h2=>?_
 refine wD 8 (hq:=by((repeat(first|refine qA ?_ (AA V V V)|refine qA ?_ (Ck V V)|refine qA ?_ (Cn V Tryz.underlying77 V V hr)|refine qA ?_|refine G5 ?_|refine qAG (hk:=?_)));exact At0 V)) (hx:=by((repeat(first|refine sA ?_ (AA V V V)|refine sA ?_ (Ck V V)|refine sA ?_ (Cn V Tryz.underlying77 V V hr)|refine sA ?_|refine AM ?_|refine sAG ?_|refine Bp ?_));exact CS V)) (hk:=?_);refine Ac ?_;refine AE _ (EB 5 3 tInt V (by decide)) ?_;refine nT ?_;refine AB (λq:Nat×Nat=>⟨(.lit (.func (.yield l) #[] #[])::.bp (J8 Bc) G 0::.bp tInt r 0::.bp (RE (.map (iU m))) () 0::.any::.own 1 q.2::A10 (.any::.bs tInt B::.lit (.int .i64 (B.length:Int))::.lit (.int .i64 (q.1:Int))::A40 (A10 []))),[.res (Jr 0 p),.row q.2 3 tInt ((B.take q.1).filterMap (getK at_))]⟩) (λq=>q.1<=B.length) (λq=>B.length - q.1) (0,0) (iQ _) (by rw[ac];exact AS) ?_;rintro⟨k,ver⟩ hk;have hk:k<=B.length:=hk;refine wR ?_;refine Ab λK6 h6=>?_
 refine Ag V (λae=>?_) (λae=>?_)
 ·have I:k < B.length:=by simpa using ae
  obtain⟨z,hz⟩:∃z,B[k]? =iU z:=⟨_,dV I⟩
  have aq:wfB .i64 z=aJ:=ai z (eX hz);have be:((B.take k).filterMap (getK at_)).length<=1073741824:=by
   have h1:=eF (getK at_) (B.take k);have h2:(B.take k).length<=B.length:=by rw[eJ];omega
   omega
  have ak:(B.take (k+1)).filterMap (getK at_)=(B.take k).filterMap (getK at_)++(getK at_ z).toList:=by
   rw[fI,hz,List.filterMap_append];simp only[iW];rw[List.filterMap_cons];cases getK at_ z <;> rfl
  refine Al ?_;refine h6 _ ?_;refine nT ?_;refine Ab λK8 h8=>?_
  refine Ac ?_;refine wR ?_;refine wR (hx:=by((repeat(first|refine sA ?_ (AA V V V)|refine sA ?_ (QB 0 V Tryz.underlying51 DY V V aq V ap)|refine sA ?_|refine AM ?_|refine sAG ?_|refine Bp ?_));exact CS V)) ?_;refine wR ?_;refine Ag V (λZ=>?_) (λZ=>?_)
  ·have hs:(getK at_ z).isSome=aJ:=Z;obtain⟨u,hu⟩:=iR.1 hs;have ar:wfI .i64 ((getK at_ z).getD 0):=by rw[hu];exact hO.at_ z u hu
   have O:(B.take (k+1)).filterMap (getK at_)=(B.take k).filterMap (getK at_)++[(getK at_ z).getD 0]:=by rw[ak,hu];rfl
   have av:Fj (((B.take k).filterMap (getK at_)).length+ [(getK at_ z).getD 0].length) 8=aJ:=by
    unfold Fj;simp only[zaf,zai];unfold cN;omega
   refine wRE (hx:=by((repeat(first|refine sA ?_ (Cg (T:=tInt) V V V (by rfl) (by decide) (Fit.int ar))|(refine AC V (J7 V V V V V av ?_);refine sNt ?_)|refine sA ?_|refine AM ?_|refine sAG ?_|refine Bp ?_));exact CS V)) (hk:=?_);refine h8 _ ?_;refine nT ?_;refine wRE ?_;refine An ⟨(k+1,ver+1),I,by show B.length - (k+1) < B.length - k;omega,?_⟩;try dsimp only
   rw[O];exact AS
  ·have hs:(getK at_ z).isSome=aH:=Z;have O:(B.take (k+1)).filterMap (getK at_)=(B.take k).filterMap (getK at_):=by
    rw[ak];cases hu:getK at_ z with
    |none=>simp
    |some u=>rw[hu]at hs;cases hs
   refine Al ?_;refine h8 _ ?_;refine nT ?_;refine wRE ?_;refine An ⟨(k+1,ver),I,by show B.length - (k+1) < B.length - k;omega,?_⟩;try dsimp only
   rw[O];exact AS
 ·obtain rfl:k=B.length:=by have:¬k < B.length:=(by simpa using ae);omega
  have au:(B.take B.length).filterMap (getK at_)=SX G at_ r:=by rw[fM,ac];rfl
  rw[au];refine Ay ?_;refine h2 _ ?_;refine nT ?_;refine AE _ (Vn af 1 5 0 (by decide) V V V) ?_;refine nT ?_;refine wD 17 (hq:=by((repeat(first|refine qA ?_ (AA V V V)|refine qA ?_ (Ck V V)|refine qA ?_ (Cn V Tryz.underlying77 V V hr)|refine qA ?_ (AT.lt (xs:=[.tmp 40,.tmp 41,.tmp 47]) (T:=tInt.slice) (ds:=[(getK G.likes r).getD [],SX G at_ r,(getK G.cls r).getD []]) V V V (by rfl) (by decide) (.cons Fit.bs (.cons Fit.bs (.cons Fit.bs .nil))))|refine qA ?_ (AH V V (by rw[<-F];exact H) V V)|refine qA ?_|refine G5 ?_|refine qAG (hk:=?_)));exact At0 V)) (hx:=by((repeat(first|refine sA ?_ (AA V V V)|refine sA ?_ (Ck V V)|refine sA ?_ (Cn V Tryz.underlying77 V V hr)|refine sA ?_ (AT.lt (xs:=[.tmp 40,.tmp 41,.tmp 47]) (T:=tInt.slice) (ds:=[(getK G.likes r).getD [],SX G at_ r,(getK G.cls r).getD []]) V V V (by rfl) (by decide) (.cons Fit.bs (.cons Fit.bs (.cons Fit.bs .nil))))|refine sA ?_ (AH V V (by rw[<-F];exact H) V V)|refine sA ?_|refine AM ?_|refine sAG ?_|refine Bp ?_));exact CS V)) (hk:=?_);refine Ac ?_;refine AB (λq:Nat×ι=>⟨(.lit (.func (.yield l) #[] #[])::.bp (J8 Bc) G 0::.bp tInt r 0::A40 (A6 (.bs tInt L::.lit (.int .i64 (L.length:Int))::.lit (.int .i64 (q.1:Int))::A10 (A8 [])))),[.res (Jr (Qu cl L q.1) q.2),.dead]⟩) (λq=>q.1<=L.length/\Qu cl L q.1<=stop) (λq=>L.length - q.1) (0,p) ⟨iQ _,iQ _⟩ (AS) ?_;rintro⟨k,q⟩ ⟨hk,J⟩;have hk:k<=L.length:=hk;have J:Qu cl L k<=stop:=J;refine wR ?_;refine Ab λbh ba=>?_
  refine Ag V (λY=>?_) (λY=>?_)
  ·have I:k < L.length:=by simpa using Y
   obtain⟨x,hx⟩:∃x,L[k]? =iU x:=⟨_,dV I⟩
   have U:=Jn cl x (iJ am (by decide));refine Al ?_;refine ba _ ?_;refine nT ?_;refine Ab λbg az=>?_
   refine Ac ?_;refine wR ?_;refine Bn (β:=Bool×ι) (λb=>if b.1=aJ then stop < (D7 G at_ r).length else Qu cl L (k+1)<=stop) (λb=>⟨(.lit (.func (.yield l) #[] #[])::.bp (J8 Bc) G 0::.bp tInt r 0::A40 (A6 (.bs tInt L::.lit (.int .i64 (L.length:Int))::.lit (.int .i64 (k:Int))::A10 (A6 [.lit (.bool b.1),.any])))),[.res (if b.1=aJ then Jx b.2 else Jr (Qu cl L (k+1)) b.2),.dead]⟩) ?_ ?_
   ·cases hc:cl.contains x with
    |true=>
     rw[hc,F]at U;obtain⟨W,ao⟩:=Alv hx hc;have an:Qu cl L k < (D7 G at_ r).length:=by rw[hN];exact(dX.1 ao).1
     have ad:(D7 G at_ r).getD (Qu cl L k) 0=x:=by rw[hN,dP,ao];rfl
     rcases iL (Qu cl L k) stop with hst|hst
     ·have aa:=hY (Qu cl L k) q an hst;rw[ad]at aa;refine Mh 11 (by kernel_rfl) (by kernel_rfl) ?_;simp only[zad];refine qA ?_ (AA V GP V) (Ar (Ap (Ap Hy)));refine qA ?_ (Ck V (As (Ao (Ao Hd)))) (Ar (Ap (Ap (Ap HU))));refine qA ?_ (Cq V (As (Ao (Ao (Ao IG))))) (Ar (Ap (Ap (Ap JH))));refine qA ?_ (AA V (As (Ao (Ao (Ao GP)))) V) (Ar (Ap (Ap (Ap Mk))));refine qA ?_ (AA V FG V) (Ar (Ap (Ap (Ap JG))));refine qA ?_ (Cn V bN (As (Ao (Ao (Ao FG)))) (As (Ao (Ao (Ao FF)))) hr) (Ar (Ap (Ap (Ap Ka))));refine qA ?_ (AT.move V (Ao FF)) (Ar (Ap (Ap (Ap GY))));refine qA ?_ (AH V V U V V) (Ar (Ap (Ap (Ap HT))));refine qA ?_ (AT.move V (As (Ao (Ao (Ao Iy))))) (Ar (Ap (Ap (Ap Hy))));refine qA ?_ (AT.move V IG) (Ar (Ar HU));refine qA ?_ (AT.move V (Ao FF)) (Ar (Ar JH));refine Fc ?_;refine PM V (K0 (i:=0) ag V (λp=>by rw[hm,hm]) V V V V aa λq'=>?_);refine Di (by(try simp only[Bl,zac]);exact V) (by(try simp only[Nat.reduceAdd,zab]);exact V) ?_;refine Ik V (AX (Co V V) ?_);refine Di (by(try simp only[Bl,zac]);exact V) (by(try simp only[Nat.reduceAdd,zab]);exact V) ?_;refine Ik V (AX (AT.pick V V V) ?_);refine Di (by(try simp only[Bl,zac]);exact V) (by(try simp only[Nat.reduceAdd,zab]);exact V) ?_;refine Ga ?_;refine An ⟨(aH,q'),by rw[W];exact hst,?_⟩;dsimp only;rw[W];exact AS
     ·have al:Qu cl L k=stop:=Nat.le_antisymm J hst;have ab:stop < (D7 G at_ r).length:=by rw[<-al];exact an
      have aa:=aw ab q;rw[<-al,ad]at aa;refine Mh 11 (by kernel_rfl) (by kernel_rfl) ?_;simp only[zad];refine qA ?_ (AA V GP V) (Ar (Ap (Ap Hy)));refine qA ?_ (Ck V (As (Ao (Ao Hd)))) (Ar (Ap (Ap (Ap HU))));refine qA ?_ (Cq V (As (Ao (Ao (Ao IG))))) (Ar (Ap (Ap (Ap JH))));refine qA ?_ (AA V (As (Ao (Ao (Ao GP)))) V) (Ar (Ap (Ap (Ap Mk))));refine qA ?_ (AA V FG V) (Ar (Ap (Ap (Ap JG))));refine qA ?_ (Cn V bN (As (Ao (Ao (Ao FG)))) (As (Ao (Ao (Ao FF)))) hr) (Ar (Ap (Ap (Ap Ka))));refine qA ?_ (AT.move V (Ao FF)) (Ar (Ap (Ap (Ap GY))));refine qA ?_ (AH V V U V V) (Ar (Ap (Ap (Ap HT))));refine qA ?_ (AT.move V (As (Ao (Ao (Ao Iy))))) (Ar (Ap (Ap (Ap Hy))));refine qA ?_ (AT.move V IG) (Ar (Ar HU));refine qA ?_ (AT.move V (Ao FF)) (Ar (Ar JH));refine Fc ?_;refine PM V (K0 (i:=0) ag V (λp=>by rw[ah,hm]) V V V V aa λq'=>?_);refine Di (by(try simp only[Bl,zac]);exact V) (by(try simp only[Nat.reduceAdd,zab]);exact V) ?_;refine Ik V (AX (Co V V) ?_);refine Di (by(try simp only[Bl,zac]);exact V) (by(try simp only[Nat.reduceAdd,zab]);exact V) ?_;refine Ik V (AX (AT.pick V V V) ?_);refine Di (by(try simp only[Bl,zac]);exact V) (by(try simp only[Nat.reduceAdd,zab]);exact V) ?_;refine Ga ?_;refine An ⟨(aJ,q'),ab,?_⟩;exact AS
    |false=>
     rw[hc,F]at U;have W:=Aq6 hx hc
     ·refine Mh 11 (by kernel_rfl) (by kernel_rfl) ?_;simp only[zad];refine qA ?_ (AA V GP V) (Ar (Ap (Ap Hy)));refine qA ?_ (Ck V (As (Ao (Ao Hd)))) (Ar (Ap (Ap (Ap HU))));refine qA ?_ (Cq V (As (Ao (Ao (Ao IG))))) (Ar (Ap (Ap (Ap JH))));refine qA ?_ (AA V (As (Ao (Ao (Ao GP)))) V) (Ar (Ap (Ap (Ap Mk))));refine qA ?_ (AA V FG V) (Ar (Ap (Ap (Ap JG))));refine qA ?_ (Cn V bN (As (Ao (Ao (Ao FG)))) (As (Ao (Ao (Ao FF)))) hr) (Ar (Ap (Ap (Ap Ka))));refine qA ?_ (AT.move V (Ao FF)) (Ar (Ap (Ap (Ap GY))));refine qA ?_ (AH V V U V V) (Ar (Ap (Ap (Ap HT))));refine qA ?_ (AT.move V (As (Ao (Ao (Ao Iy))))) (Ar (Ap (Ap (Ap Hy))));refine G5 (ht:=(Ar (Ar HU))) ?_;refine G5 (ht:=(Ar (Ar JH))) ?_;refine Fc ?_;refine Rm V ?_;refine Di (by(try simp only[Bl,zac]);exact V) (by(try simp only[Nat.reduceAdd,zab]);exact V) ?_;refine Rm V ?_;refine Di (by(try simp only[Bl,zac]);exact V) (by(try simp only[Nat.reduceAdd,zab]);exact V) ?_;refine Ik V (AX (AT.pick V V V) ?_);refine Di (by(try simp only[Bl,zac]);exact V) (by(try simp only[Nat.reduceAdd,zab]);exact V) ?_;refine Ga ?_;refine An ⟨(aH,q),by rw[W];exact J,?_⟩;dsimp only;rw[W];exact AS
   rintro⟨b,q'⟩ hb;refine Ag V (λX=>?_) (λX=>?_)
   ·obtain rfl:b=aJ:=X;have ab:stop < (D7 G at_ r).length:=hb;exact Aw ⟨.inr V,q',by(show _=iU (ABlk.res (if stop < (D7 G at_ r).length then Jx q' else Jr (D7 G at_ r).length q'));rw[if_pos ab];rfl),by simp[mkD,fW,ah]⟩
   ·obtain rfl:b=aH:=X;have aj:Qu cl L (k+1)<=stop:=hb;refine Al ?_;refine az _ ?_;refine nT ?_;refine wRE ?_;refine An ⟨(k+1,q'),⟨I,aj⟩,by show L.length - (k+1) < L.length - k;omega,?_⟩;exact AS
  ·obtain rfl:k=L.length:=by have:¬k < L.length:=(by simpa using Y);omega
   have ax:¬stop < (D7 G at_ r).length:=by rw[YI,<-hN]at J;omega
   refine Ay ?_;exact⟨.inl V,q,by(show _=iU (ABlk.res (if stop < (D7 G at_ r).length then Jx q else Jr (D7 G at_ r).length q));rw[if_neg ax,hN,<-YI];rfl),by simp[mkD,fW,hm]⟩
structure OkGr(G:CGraph):Prop extends OkG G where
 mov:∀r,(∀k∈(getK G.moves r).getD [],Ch k)/\((getK G.moves r).getD []).length<=1073741824
 lik:∀r,(∀k∈(getK G.likes r).getD [],Ch k)/\((getK G.likes r).getD []).length<=1073741824
 cl:∀r,(∀k∈(getK G.cls r).getD [],Ch k)/\((getK G.cls r).getD []).length<=1073741824
def Mz(G:gF)(A:List (Int×Int))(r:Int):Option Int:=(D7 G A r).find? (Gi G A r)
def EE(G:gF)(s:List (Int×Int)×List Int)(r:Int):List (Int×Int)×List Int:=match Mz G s.1 r with
 |some p=>(B7 s.1 r p,s.2)
 |none=>(s.1,s.2++[r])
def I7(G:gF)(out:List (Int×Int))(k:Nat):List (Int×Int)×List Int:=((CV G out).reverse.take k).foldl (EE G) ([],[])
def BD(G:gF)(out:List (Int×Int)):List (Int×Int)×List Int:=(CV G out).reverse.foldl (EE G) ([],[])
theorem MA(G:gF)(out:List (Int×Int)):I7 G out (CV G out).length=BD G out:=by
 unfold I7 BD;rw[fN (by simp)]
theorem OW(h:(CV G out)[(CV G out).length - 1 - k]? =iU r)(hk:k < (CV G out).length):I7 G out (k+1)=EE G (I7 G out k) r:=by
 unfold I7;rw[fI,List.getElem?_reverse hk,h,dN];rfl
theorem OY{G:gF}:∀(n:Nat) {E:List (Int×Int)} {l:List Int},Eb E->(∀x,(getK E x).isSome=aJ->x∈G.regs)->(∀x∈l,x∈G.regs)->∀x∈DN G n E l,x∈G.regs
 |0,E,l,_,_,u=>u
 |n+1,E,l,B,hk,u=>by
  unfold DN;cases F:Lz G E with
  |none=>exact u
  |some r=>
   have z:=Ly F;refine OY n (Ld B z).1 (λx hx=>hk x ?_) λx hx=>?_
   ·rw[GQ B]at hx;simp only[aG]at hx;exact hx.1
   ·rcases eO.1 hx with h|h
    ·exact u x h
    ·rw[fA.1 h];exact hk r z
theorem KH{G:gF}:∀(n:Nat) (E:List (Int×Int)) (l:List Int),(DN G n E l).length<=l.length+n
 |0,E,l=>by unfold DN;omega
 |n+1,E,l=>by
  unfold DN;cases Lz G E with
  |none=>show l.length<=_;omega
  |some r=>
   have:=KH (G:=G) n (Ku G E r) (l++[r]);rw[eD,eE,eI]at this;show(DN G n (Ku G E r) (l++[r])).length<=_;omega
theorem ZI(u:OkG G):∀x∈CV G out,x∈G.regs:=by
 have h:=Jb (out:=out) u;exact OY _ h.asc h.inr λx hx=>by cases hx
theorem Q1(u:OkG G):(CV G out).length<=1073741824:=by
 have h:=(Jb (out:=out) u).len;have:=KH (G:=G) (Ib G out).length (Ib G out) [];unfold CV;simp only[eI]at this h;omega
structure PntI(G:CGraph)(s:List (Int×Int)×List Int)(k:Nat):Prop where
 asc:Eb s.1
 wf:∀q v,getK s.1 q=some v->Ch v
 len:s.1.length+s.2.length<=k
theorem W7(u:OkGr G)(h:p∈D7 G A r):Ch p:=by
 unfold D7 at h;have:=(List.mem_filter.1 h).2;rw[dA]at this;exact(u.cl r).1 p this
theorem TP(h:Mz G A r=iU p):p∈D7 G A r:=List.mem_of_find?_eq_some h
theorem PntI.next(z:OkGr G){s:List (Int×Int)×List Int}(h:PntI G s k)(r:Int):PntI G (EE G s r) (k+1):=by
 unfold EE;cases u:Mz G s.1 r with
 |none=>
  refine⟨h.asc,h.wf,?_⟩;have:=h.len;show s.1.length+(s.2++[r]).length<=k+1;rw[eD,eE,eI];omega
 |some p=>
  refine⟨h.asc.put r p,λq v hq=>?_,?_⟩
  ·have hq:getK (B7 s.1 r p) q=iU v:=hq;rw[BH h.asc]at hq;by_cases e:q=r
   ·rw[if_pos e]at hq;cases hq;exact W7 z (TP u)
   ·rw[if_neg e]at hq;exact h.wf q v hq
  ·have h1:=h.len;have h2:=EY (l:=s.1) r p;show(B7 s.1 r p).length+s.2.length<=k+1;omega
theorem JL{G:gF}(u:OkGr G)(out:List (Int×Int)):∀k,k<=(CV G out).length->PntI G (I7 G out k) k
 |0,_=>⟨Eb.nil,λq v h=>(by cases h),iQ _⟩
 |k+1,hk=>by
  obtain⟨r,z⟩:∃r,(CV G out)[(CV G out).length - 1 - k]? =iU r:=⟨_,dV (by omega)⟩
  rw[OW z (by omega)];exact(JL u out k (by omega)).next u r
theorem Yt{α:Type}(p:α->Bool):∀(l:List α),(l.findIdx p < l.length->∃x,l[l.findIdx p]? =iU x/\p x=aJ/\l.find? p=iU x)/\(¬l.findIdx p < l.length->l.find? p=iT)/\∀j x,j < l.findIdx p->l[j]? =iU x->p x=aH
 | []=>⟨λh=>by simp at h,λ_=>rfl,λj x h=>by simp at h⟩
 |a::l=>by
  obtain⟨h1,h2,I⟩:=Yt p l;rw[List.findIdx_cons,dI];cases z:p a with
  |true=>exact⟨λ_=>⟨a,rfl,z,rfl⟩,λh=>absurd (by simp) h,λj x h=>by simp at h⟩
  |false=>
   refine⟨λh=>?_,λh=>?_,λj x h u=>?_⟩
   ·obtain⟨x,H,F,B⟩:=h1 (by simpa using h);exact⟨x,by simpa using H,F,B⟩
   ·exact h2 (by simpa using h)
   ·cases j with
    |zero=>simp at u;rw[<-u];exact z
    |succ j=>exact I j x (by simpa using h) (by simpa using u)
end Mu
