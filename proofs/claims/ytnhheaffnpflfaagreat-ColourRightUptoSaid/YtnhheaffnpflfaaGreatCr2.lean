/-
  Lemmas for R, part 2.
  Conditions: as each lemma says.
-/
import Derived.Test.YtnhheaffnpflfaaGreatCr1
import Derived.Lib.AppendZeros
import Derived.Shelf.SlIterI.Nil
import Derived.Shelf.SortM.Plain
import Derived.Shelf.SortM.SortNone
import Derived.Shelf.SlMaps.Clone
import Derived.Shelf.SlMaps.Copy
set_option maxRecDepth 100000
set_option maxHeartbeats 4000000
set_option linter.unusedSimpArgs false
set_option linter.unusedVariables false
open Array renaming getD_eq_getD_getElem?->aA,getElem?_eq_getElem->aB,getElem?_eq_none->aC,getElem?_eq_some_iff->aD,getElem?_modify->aE,getElem?_replicate->aF,getElem_toList->aG,length_toList->aH,mem_append->aI,mem_of_getElem?->aJ,mem_toList_iff->aK,replicate->aL,toList_append->aM,toList_map->aN,toList_setIfInBounds->aO
open Bool renaming and_eq_false_iff->aP,and_eq_true->aR,false->aS,false_eq_true->aT,or_comm->aU,or_eq_false_iff->aV,or_eq_true->aW,true->aX,true_and->aY
open Decidable renaming decide->aZ
open Go renaming Addr->a6,Calls->bC,CallsIn->bD,Code->bE,DataW->bG,Edge->bH,Exit->bJ,Func->bL,FuncId->bM,IntKind->bT,LeavesInM->b9,LetsOut->cA,Loop->cF,Oper->cQ,Operand->cW,Program->cX,TypeId->eN,Value->eO,World->eT,callsIn_of_wp->fC,callsIn_of_wp_marks->fD,callsIn_wide->fE,calls_of_wp->fF,execOp->fG,getD_replicate_false->fH,getObj->fI,grownCap->fJ,heap_alloc_new->fK,heap_alloc_old->fL,intKeys->fM,intOf->fN,invoke->fO,maxLen->fP,mem_ready->fQ,plainElem->fR,resolve->fS,results_none->fT,results_tmp->fU,run_storeCells_at->fV,run_underlying->fW,sizeOf->fX,typeInfo->fY,wpListIn->fZ,wpList_mapUpdate_own->gB,wpOpIn->gC,zeroValue->gD
open Go.Builtin renaming cap_->a7,clear_->a8,zeroCells->bA
open Go.Call renaming operands->bB
open Go.Code renaming exit->bF
open Go.Ending renaming returned->bI
open Go.Fence renaming wide->bK
open Go.Instr renaming entry->bN,fill->bO,indexAt->bP,lookup->bR,sureAddr->bS
open Go.IntKind renaming bits->bU,i64->bV,max->bW,min->bX,signed->bY
open Go.IntWalk renaming i64_in->bZ
open Go.Lib renaming hid->cB
open Go.Lit renaming int->cC,sameKey->cD,wf->cE
open Go.Maps renaming has_del_other->cG,has_del_same->cH,has_eq->cI,has_put_other->cJ,keyOf_i64->cL,size->cM
open Go.Op renaming eqFields->cN,equalIn->cO,operands->cP
open Go.Oper renaming semAt_some->cR,upon->cT,wp->cU,wp_mono->cV
open Go.Proofs.Tryz renaming func181->cY,func62->cZ,isAgg0->dA,isAgg156->dB,isAgg27->dC,isAgg3->dD,isAgg4->dE,isAgg90->dF,prog->dG,sizeOf0->dH,sizeOf156->dI,sizeOf27->dJ,sizeOf3->dK,sizeOf4->dL,sizeOf90->dM,underlying0->dN,underlying156->dO,underlying27->dP,underlying3->dQ,underlying4->dR,underlying90->dT,zeroValue0->dU,zeroValue156->dV,zeroValue27->dW,zeroValue3->dX,zeroValue4->dY,zeroValue90->dZ
open Go.Region renaming binds->eA,noSelect->eB,ready->eC,seqB->eD,wanted->eE
open Go.Result renaming andThen->eF,andThen_ok->eG
open Go.RowKit renaming intOf->eJ
open Go.RowKit.Below renaming heap_alloc->eH,refl->eI
open Go.Sem renaming run->eK,run_bind->eL
open Go.Shelf renaming Ren->eM
open Go.Value renaming func->eP,int->eQ,ownBlock->eR,slice->eS
open Go.World renaming cell?->eU,frozen?->eV,ownsMap_made->eW,putObj_heap_other->eY,putObj_heap_same->eZ,setCell->fA,size_alloc->fB
open Go.World.ownsRow renaming lt->eX
open Int renaming eq_ofNat_of_zero_le->gE,toNat_natCast->gF
open List renaming all_eq_true->gG,any_eq_true->gH,append_assoc->gI,append_nil->gJ,cons_append->gK,contains_iff_mem->gL,count_eq_zero->gN,count_pos_iff->gO,count_set->gP,drop_eq_getElem_cons->gQ,drop_eq_nil_of_le->gR,drop_succ_cons->gT,drop_take->gU,drop_zero->gV,eq_nil_iff_forall_not_mem->gW,eq_nil_of_length_eq_zero->gX,ext_getElem->gY,ext_getElem?->gZ,filter_append->g8,filter_cons->g9,filter_map->hZ,find?_cons->iA,find?_eq_none->iB,find?_some->iC,getD_eq_getElem?_getD->iD,getElem?_append_left->iE,getElem?_append_right->iF,getElem?_cons_succ->iG,getElem?_cons_zero->iH,getElem?_drop->iI,getElem?_eq_getElem->iJ,getElem?_eq_none->iK,getElem?_eq_some_iff->iL,getElem?_map->iM,getElem?_of_mem->iN,getElem?_replicate->iO,getElem?_set_ne->iP,getElem?_set_self->iQ,getElem_map->iR,getElem_of_mem->iS,getElem_range->iT,getElem_set->iU,head?_drop->iV,head_eq_of_cons_eq->iW,length_append->iX,length_cons->iY,length_filter_le->iZ,length_map->i6,length_nil->i7,length_replicate->i8,length_set->i9,length_take->jA,map_cons->jB,map_nil->jC,map_toArray->jD,mem_append->jE,mem_cons->jF,mem_filter->jG,mem_map->jH,mem_of_find?_eq_some->jI,mem_of_getElem?->jJ,mem_replicate->jK,mem_singleton->jL,mergeSort_perm->jM,nil_append->jN,nodup_append->jO,nodup_nil->jP,not_mem_nil->jQ,pairwise_cons->jR,pairwise_map->jS,perm_ext_iff_of_nodup->jT,range->jU,replicate->jV,size_toArray->jW,take->jX,take_add_one->jY,take_append_drop->jZ,take_length->j5,take_one->j6,take_succ_cons->j7,take_take->j8,take_zero->j9
open Mu renaming ABlk->kA,Func->kQ,HRel->kR,Turns->lC
open Mu.ABlk renaming live->kB,mrk->kC,res->kD,ver->kE
open Mu.AOp renaming turn->kF
open Mu.AV renaming bd->kG,bs->kH,cl->kI,lit->kJ,rel->kK
open Mu.Awp renaming region->kL
open Mu.Ext renaming grow->kM,push->kO,set->kP
open Mu.M renaming bnd->kS,chk->kT,ok->kU
open Mu.OpnB renaming any->kV,keep->kW,nil->kX,ptr->kY
open Mu.St renaming le->kZ,rel->lB
open Mu.St.le renaming refl->lA
open Nat renaming add_comm->lD,add_mul->lE,add_zero->lF,eq_zero_or_pos->lG,le_of_not_lt->lH,le_refl->lI,le_trans->lJ,lt_of_lt_of_le->lK,lt_or_ge->lL,lt_succ_self->lM,min_eq_left->lN,mod_lt->lO,mul_le_mul_right->lP,mul_one->lQ,one_mul->lR,sub_self->lS,sub_zero->lT,zero_add->lU,zero_le->lV,zero_lt_one->lW
open Ne renaming symm->lX
open Option renaming bind_eq_some_iff->lY,bind_some->lZ,getD_some->mA,isSome_map->mB,map_eq_some_iff->mC,map_some->mD,none->mE,some->mF,toList_some->mI
open Option.some renaming inj->mG,injEq->mH
open UInt8 renaming ofNat->mJ
abbrev Mu.zae.{u}:=And.intro @jW.{u} (And.intro @iY.{u} (And.intro @i7.{u} (And.intro @Array.replicate_succ.{u} (And.intro @Array.replicate_zero.{u} (And.intro @List.push_toArray.{u} (And.intro @List.append_toArray.{u} (And.intro @jN.{u} (@gK.{u}))))))))
abbrev Mu.zax.{u}:=And.intro @if_true.{u} (@iY.{u})
abbrev Mu.zaw:=And.intro @aW (@aR)
abbrev Mu.zah.{u}:=And.intro @iY.{u} (@i7.{u})
namespace Mu
open Go Go.RowKit Go.Proofs
section
variable{P:cX}{C:Ctx}{o:cQ}{t:List AV}{h:List kA}
end
open Go.ChangeShapes Go.WideShapes
class IntT(P:Program)(ty:TypeId)(k:outParam IntKind):Prop where
 eq:P.underlying ty=some (.int k)
class BoolT(P:Program)(ty:TypeId):Prop where
 eq:P.underlying ty=some .bool
section
variable{P:cX}{C:Ctx}{o:cQ}{t:List AV}{h:List kA}
theorem Mf{d f:eN}{x y:cW}{a b q:Bool}[BoolT P d](e:o.op= .binOp .neq d x y f)(hx:evA t x= .lit (.bool a))(g:evA t y= .lit (.bool b))(hq:(a !=b)=q):AT P C t h o (.lit (.bool q)):=
 AL λS ψ w ρ _ c=>by
  have h1:=c x (by simp[e,cP]);have h2:=c y (by simp[e,cP]);rw[hx]at h1;rw[g]at h2;unfold kK at h1 h2;refine⟨.bool (a !=b),?_,by rw[hq];unfold kK;rfl⟩;simp[fG,e,h1,h2,eqGuard,binOp,run_equal_bool _ _ _ _ (BoolT.eq (P:=P) (ty:=d)),bne]
end
instance As6:BoolT dG 4:=⟨by kernel_rfl⟩
instance As5:IntT dG 3 .i64:=⟨by kernel_rfl⟩
end Mu
namespace Mu
open Go Go.RowKit Go.Proofs
variable{α:Type}{T:Ty α}{a b:cW}{c:bE}{e:eN}{f:bM}{n:Nat}{q:Bool}{sz:Nat}{tys:Array eN}{v:eO}{w:eT}{x:cW}{xs:List AV}
section
variable{P:cX}{C:Ctx}{t:List AV}{h:List kA}{o:cQ}
def Jv(P:cX)(f:bM)(args:List AV)(e:eN){α:Type}(T:Ty α)(l:List α):Prop:=
 B9 P f=aX/\∀(w:eT) (S:Nat->Prop) (vs:List eO),(∀k,S k->k < w.heap.size)->Af w S [] ψ0 args vs->
  bC P f vs.toArray w λr w'=>∃v cells,r= .returned v/\Below w.heap.size w w'/\w'.ownsRow w.heap.size e T.size v l.length cells/\∀i d,l[i]? =mF d->T.RS w' S ((cells.drop (i * T.size)).take T.size) d
theorem WJ{l:List α}{ver base:Nat}{cells:List eO}(d:w.ownsRow base e sz v n cells):∀g,ftp (mF (.row ver e T l)) v g->base<=g:=λg hg=>by
 obtain⟨_,⟨rfl,_⟩|⟨j,cap,cur,rfl,i,_⟩⟩:=d
 ·simp[ftp,Bv]at hg
 ·simp[ftp,Bv]at hg;omega
theorem Lb{args:Array cW}{K:St->Prop}{l:List α}
 (j:o.op= .call {callee:=.value (.func f),args:=args,argTypes:=tys})(y:Jv P f xs e T l)(h0:0 < T.size)(hx:args.toList.map (evA t)=xs)(hc:Bj xs=aX)
 (F:K ⟨Bn t o.dst (.own h.length 0),h++[.row 0 e T l]⟩):AOp P C o ⟨t,h⟩ K:=by
 rintro Q' a w ⟨A,S,ψ,H,m⟩;refine⟨λc e=>(by rw[j]at e;cases e),?_⟩;have h2:Af w S h ψ xs (args.toList.map a.eval):=by
  rw[<-hx];exact Cc λx _=>Bw m x
 unfold cU;rw[Ct j y.1 a.eval w V];simp only[cT];rw[show(args.map a.eval)=(args.toList.map a.eval).toArray from(by rw[<-aN])];refine(y.2 w S (args.toList.map a.eval) H.lt (Bi _ _ hc h2)).mono ?_;rintro r w' ⟨v,cells,rfl,u,d,D⟩;have X:Ext w S h ψ w' S (h++[.row 0 e T l]) (Bo ψ h.length v):=kO _ _ λk hk=>u.block k (H.lt k hk)
 have G:Hw C.N w' S (h++[.row 0 e T l]) (Bo ψ h.length v) v (.row 0 e T l):=
  ⟨cells,d.mono (lV _),h0,D,λg hg=>by
   have z:=d.lt g hg;exact⟨λE=>by have:=H.nlt _ E;have:=H.bel.size;omega,λB=>by have:=H.lt _ B;omega⟩⟩
 refine⟨_,F,Oy (s:=⟨t,h⟩) A m (H.push u G (WJ d)) X ?_⟩;unfold kK;refine⟨by simp,λI i=>?_⟩;rw[iF (lI _)]at i;simp[kE]at i;exact⟨by omega,λ_=>Bk.symm⟩
end
theorem TY{base:Nat}{cells:List eO}(h:w.ownsRow 0 e sz v n cells)(hg:∀g,v.ownBlock=mF g->base<=g):w.ownsRow base e sz v n cells:=by
 obtain⟨h1,h2|⟨g,cap,cur,rfl,_,d⟩⟩:=h
 ·exact⟨h1,.inl h2⟩
 ·exact⟨h1,.inr ⟨g,cap,cur,rfl,hg g V,d⟩⟩
def Ay4(t:Tmp)(e:eN){α:Type}(T:Ty α)(l:List α):bJ->St->Prop:=λd s=>(d= .normal\/d= .ret)/\mkD s.h= []/\∃i ver,evA s.t (.tmp t)= .own i ver/\s.h[i]? =mF (.row ver e T l)
theorem Ef{P:cX}{fn:bL}{args:List AV}{l:List α}{t:Tmp}(J:P.funcs[f]? =mF fn)(L:fn.body=mF c)(Q:B9 P f=aX)(u:fn.results= #[.tmp t])(F:fn.ntmps=n)
 (N:∀w S S' cs d,T.RS w S cs d->T.RS w S' cs d)
 (h:∀C:Ctx,C.std->Awp P C c (Ay4 t e T l) ⟨args++jV (n - args.length) (.lit undef),[]⟩):Jv P f args e T l:=by
 refine⟨Q,λw S vs O E=>fF J L ?_⟩;rw[F];refine wp_mono ((h ⟨w,S,λk=>k < w.heap.size,mE⟩ (λ_ h=>h)).wp V (Dg O E)) ?_;rintro W a' w' ⟨s,⟨K,G,i,ver,hx,hi⟩,y,X,ψ,H,I⟩;rw[G]at y;have A:=Bw I (.tmp t);rw[hx]at A;unfold kK at A;have z:=(A.2 _ (by rw[hi];rfl)).2 V;obtain⟨cells,h1,_,h2,U⟩:=H.blk i _ hi;have m:(results fn a'.tmps).run P w'= .ok (a'.eval (.tmp t)) w':=fU u _ _ _;have r:w'.ownsRow w.heap.size e T.size (ψ i) l.length cells:=TY h1 λg hg=>lH λB=>(U g hg).1 B
 rw[z]at m;have D:∀j d,l[j]? =mF d->T.RS w' S ((cells.drop (j * T.size)).take T.size) d:=λj d y=>N _ _ _ _ _ (h2 j d y)
 rcases K with rfl|rfl
 ·exact⟨y,_,m,_,cells,rfl,H.bel.below λ_ h=>h,r,D⟩
 ·exact⟨y,_,m,_,cells,rfl,H.bel.below λ_ h=>h,r,D⟩
theorem Jv.fn{P:cX}{args:List AV}{l:List α}(h:Jv P f args e T l):Fn P f args (.bs T l):=by
 refine⟨h.1,λw S vs m s=>(h.2 w S vs m s).mono ?_⟩;rintro r w' ⟨v,cells,rfl,j,g,y⟩;refine⟨v,rfl,j,λk=>S k\/v.ownBlock=mF k,λ_ h=>.inl h,λk hk=>?_,λk hk=>?_,?_⟩
 ·rcases hk with hk|hk
  ·exact .inl hk
  ·exact .inr (g.lt k hk).1
 ·rcases hk with hk|hk
  ·exact lK (m k hk) j.size
  ·exact(g.lt k hk).2
 ·unfold kK;exact CY g (λi d u=>T.keepS (y i d u) (λ_ _=>rfl) λ_ h=>.inl h) λ_ h=>.inr h
def Rx(P:cX)(f:bM)(e:eN){α:Type}(T:Ty α)(l:List α)(xs:List AV)(l':List α):Prop:=
 B9 P f=aX/\∀(N S:Nat->Prop) (w:eT) (v:eO) (vs:List eO),(∀k,N k->k < w.heap.size)->(∀k,S k->k < w.heap.size)->Hw N w S [] ψ0 v (.row 0 e T l)->Af w S [] ψ0 xs vs->
  bC P f (v::vs).toArray w λx w'=>∃v',x= .returned v'/\w.grownBy w' (Bv v)/\Hw N w' S [] ψ0 v' (.row 0 e T l')/\∀g,Bv v'=mF g->Bv v=mF g\/w.heap.size<=g
theorem Mj{P:cX}{fn:bL}{l l':List α}{t:Tmp}(hf:P.funcs[f]? =mF fn)(hb:fn.body=mF c)(hE:B9 P f=aX)(A:fn.results= #[.tmp t])(hn:fn.ntmps=n)(z:∀w S S' cs d,T.RS w S cs d->T.RS w S' cs d)
 (h:∀C:Ctx,Awp P C c (Ah2 t e T l') ⟨(.own 0 0::xs)++jV (n - (xs.length+1)) (.lit undef),[.row 0 e T l]⟩):Rx P f e T l xs l':=by
 refine⟨hE,λN S w v vs hN hS hB hr=>fF hf hb ?_⟩;rw[hn];have Y:=hB.lt V;have Q:lB ⟨w,S,λk=>k < w.heap.size/\Bv v≠mF k,mE⟩ ⟨(.own 0 0::xs)++jV (n - (xs.length+1)) (.lit undef),[.row 0 e T l]⟩ {tmps:=(v::vs).toArray++aL (n - (v::vs).toArray.size) undef,defers:=[]} w:=by
  refine⟨rfl,S,λ_=>v,⟨Kp.refl _ _,λk hk=>hk.1,hS,λ_ h=>h,λ_ h=>.inl h,λi b hi=>?_,λi j aa hi hj=>?_⟩,?_⟩
  ·cases i with
   |zero=>
    simp only[iH,mH]at hi;subst hi;obtain⟨cells,J,I,G,F⟩:=hB;exact⟨cells,J,I,G,λg hg=>⟨λhc=>hc.2 (AU hg),(F g hg).2⟩⟩
   |succ i=>simp at hi
  ·cases i with
   |zero=>cases j with
    |zero=>exact absurd V aa
    |succ j=>simp[kB]at hj
   |succ i=>simp[kB]at hi
  ·have X:Ext w S [] ψ0 w S [.row 0 e T l] (λ_=>v):=⟨λ_ _=>rfl,λ_ h=>h,by simp,λi c' hi=>by simp at hi,λi hi=>by simp at hi⟩
   simp only[aM,Array.toList_replicate];refine BK ?_ (DK (by simp[By hr]) λi x u hx O=>?_)
   ·unfold Af;refine⟨v,vs,rfl,?_,Az X _ _ hr⟩;unfold kK;refine⟨by simp,λc hc=>?_⟩;simp[kE]at hc;exact⟨by omega,λ_=>rfl⟩
   ·rw[iO]at hx O;split at hx <;> cases hx
    split at O <;> cases O
    unfold kK;rfl
 refine wp_mono ((h ⟨w,S,λk=>k < w.heap.size/\Bv v≠mF k,mE⟩).wp V Q) ?_;rintro x a' w' ⟨s,⟨hx,i,ver,ab,hi,W⟩,hd,S1,ψ,H,hl⟩;rw[W]at hd;have L:=Bw hl (.tmp t);rw[ab]at L;unfold kK at L;have K:=(L.2 _ (by rw[hi];rfl)).2 V;have E:=H.blk i _ hi;have Z:=E.lt V;have m:(results fn a'.tmps).run P w'= .ok (a'.eval (.tmp t)) w':=fU A _ _ _;have hg:w.grownBy w' (Bv v):=⟨H.bel.os,H.bel.tape,H.bel.output,H.bel.size,λk hk U=>H.bel.block k ⟨hk,λe=>U e.symm⟩⟩
 have y:∃v',bI (a'.eval (.tmp t))= .returned v'/\w.grownBy w' (Bv v)/\Hw N w' S [] ψ0 v' (.row 0 e T l')/\∀g,Bv v'=mF g->Bv v=mF g\/w.heap.size<=g:=by
  have B:∀g,Bv (ψ i)=mF g->Bv v=mF g\/w.heap.size<=g:=λg r=>by
   have:=(Z g r).1;by_cases hc:Bv v=mF g
   ·exact .inl hc
   ·exact .inr (lH λh=>this ⟨h,hc⟩)
  obtain⟨cells,J,I,G,F⟩:=E;rw[K];refine⟨_,rfl,hg,⟨cells,J,I,?_,λg r=>?_⟩,B⟩
  ·intro j d hj;exact z _ _ _ _ _ (G j d hj)
  ·refine⟨λD=>?_,λac=>(F g r).2 (H.sub g ac)⟩;rcases B g (AU r)with h1|h1
   ·exact(Y g h1).1 D
   ·have:=hN g D;omega
 rcases hx with rfl|rfl
 ·exact⟨hd,_,m,y⟩
 ·exact⟨hd,_,m,y⟩
theorem Ym{k:bT}:∀(w:eT) (S S':Nat->Prop) (cs:List eO) (d:Int),(Ty.int k).RS w S cs d->(Ty.int k).RS w S' cs d:=λ_ _ _ _ _ h=>h
section
variable{P:cX}{C:Ctx}{o:cQ}{t:List AV}{h:List kA}
theorem OH{args:Array cW}{cs:Array eO}(ho:o.op= .call {callee:=.value x,args:=args,argTypes:=tys})(hE:B9 P f=aX)(ρ:cW->eO)(w:eT)(hρ:ρ x= .func (.func f) #[] cs):
 (fG ρ o).run P w= .ok (.enter f (args.map ρ++cs)) w:=by
 unfold B9 at hE;cases hf:P.funcs[f]? with
 |none=>rw[hf]at hE;cases hE
 |some fn=>
  rw[hf]at hE;simp only[zaq]at hE;have h1:¬fn.name= "runtime.NumGoroutine" :=by simpa using hE.1
  have h2:¬fn.body=mE:=λe=>by have:=hE.2;rw[e]at this;cases this
  simp[fG,ho,fS,Deferred.ofValue,hρ,fO,callFunc,hf,h1,h2]
theorem FK{cap:Array cW}(g:o.op= .makeFunc (.func f) #[] cap):AT P C t h o (.fn f (cap.toList.map (evA t))):=
 AL λS ψ w ρ H d=>by
  have i:Af w S h ψ (cap.toList.map (evA t)) (cap.toList.map ρ):=Cc λx hx=>d x (by rw[g];simpa[cP]using hx)
  refine⟨.func (.func f) #[] (cap.map ρ),by simp[fG,g,Instr.makeFunc],?_⟩;unfold kK;exact⟨_,by rw[<-aN],i⟩
theorem Ri:∀l m:List AV,Bj (l++m)=(Bj l&&Bj m)
 | [],m=>by simp[Bj]
 |x::l,m=>by
  have e:∀y k,Bj (y::k)=(kI y&&Bj k):=λ_ _=>by rw[Bj]
  rw[gK,e,e,Ri l m,Bool.and_assoc]
mutual
theorem Sv(n:Nat):∀x:AV,kI x=aX->kG n x=aX
 | .any,_=>rfl
 | .lit _,_=>rfl
 | .bs _ _,_=>rfl
 | .tv _ _,_=>rfl
 | .own _ _,h=>by simp[kI]at h
 | .ptr _ _,h=>by simp[kI]at h
 | .rp _ _ _ _,h=>by simp[kI]at h
 | .bp _ _ _,_=>rfl
 | .agg l,h=>by unfold kI at h;unfold kG;exact Mb n l h
 | .tup l,h=>by unfold kI at h;unfold kG;exact Mb n l h
 | .fn _ l,h=>by unfold kI at h;unfold kG;exact Mb n l h
theorem Mb(n:Nat):∀l:List AV,Bj l=aX->Ml n l=aX
 | [],_=>rfl
 |x::l,h=>by
  unfold Bj at h;rw[aR]at h;unfold Ml;rw[Sv n x h.1,Mb n l h.2];rfl
end
theorem Xt{args:Array cW}{l:List AV}{r:AV}(i:o.op= .call {callee:=.value x,args:=args,argTypes:=tys})(B:evA t x= .fn f l)(hx:args.toList.map (evA t)++l=xs)(s:Fn P f xs r)(m:Bj (args.toList.map (evA t))=aX)(k:Bj l=aX)(D:kI r=aX):AT P C t h o r:=by
 have hc:Bj xs=aX:=by rw[<-hx,Ri,m,k];rfl
 intro S ψ w ρ H d;have h1:=d x (by rw[i];exact aI.2 (.inl (by simp)));rw[B]at h1;unfold kK at h1;obtain⟨cs,e,j⟩:=h1;rw[OH i s.1 ρ w e];refine⟨rfl,?_⟩;have h2:Af w S h ψ xs (args.toList.map ρ++cs):=by
  rw[<-hx];exact BK (Cc λx g=>d x (by rw[i];exact aI.2 (.inr (aK.1 g)))) j
 have G:=s.2 w S (args.toList.map ρ++cs) H.lt (Bi _ _ hc h2);rw[show(args.map ρ++cs.toArray)=(args.toList.map ρ++cs).toArray from(by simp)];refine G.mono ?_;rintro e w' ⟨v,E,F,S',A,z,y,u⟩;exact⟨v,E,F,S',A,z,y,Dq _ _ D u⟩
mutual
inductive LendV(h:List ABlk):AV->AV->Prop
 |cl {x:AV} (hx:AV.cl x=true):LendV h x x
 |own {i ver:Nat} {e:TypeId} {α:Type} {T:Ty α} {d:List α} (hi:h[i]? =some (.row ver e T d)):LendV h (.own i ver) (.bs T d)
 |box {i off:Nat} {cells:List AV} {α:Type} {T:Ty α} {d:α} (hi:h[i]? =some (.box cells)) (hn:((cells.drop off).take T.size).length=T.size) (hp:∀(C:Ctx) (S:Nat->Prop) (ψ:Nat->Value) (w:World) (cs:List Value),HRel C h S ψ w->Af w S h ψ ((cells.drop off).take T.size) cs->T.RS w S cs d):LendV h (.ptr i off) (.bp T d 0)
 |fn {f:FuncId} {l l':List AV} (hl:LendL h l l'):LendV h (.fn f l) (.fn f l')
 |fl {f:FuncId}:LendV h (.lit (.func (.func f) #[] #[])) (.fn f [])
inductive LendL(h:List ABlk):List AV->List AV->Prop
 |nil:LendL h [] []
 |cons {x x':AV} {l l':List AV} (hx:LendV h x x') (hl:LendL h l l'):LendL h (x::l) (x'::l')
end
mutual
theorem LendV.rel{w:eT}{S:Nat->Prop}{ψ:Nat->eO}(H:kR C h S ψ w):∀{x x':AV} {v:eO},LendV h x x'->kK w S h ψ x v->kK w (λk=>k < w.heap.size) [] ψ0 x' v
 |x,_,v,.cl hx,hr=>Dq _ _ hx (FN (kM h ψ (λ_ _=>rfl) H.lt:Ext w S h ψ w (λk=>k < w.heap.size) h ψ) _ _ hr)
 |_,_,v,.own (i:=i) hi,hr=>by
  unfold kK at hr⊢;have hv:=(hr.2 _ (by rw[hi];rfl)).2 V;subst hv;obtain⟨cells,k1,k0,k2,k3⟩:=H.blk _ _ hi;exact CY k1 (λi d hd=>Ty.keepS _ (k2 i d hd) (λ_ _=>rfl) H.lt) λg hg=>(eX k1 g hg).2
 |_,_,v,.box (i:=i) (off:=off) (cells:=cells) (T:=T) (d:=d) hi hn hp,hr=>by
  unfold kK at hr⊢;obtain⟨g,hg,hv⟩:=hr.2 (by rw[hi];rfl);obtain⟨g',cs,e,hg',_,_,hw,hcs⟩:=H.blk _ _ hi;rw[hg]at hg';cases hg';have hlt:g < w.heap.size:=(aD.1 hw).1;have hl:=Lo (Lp hcs off) T.size;refine⟨g,off,by rw[hv];rfl,hlt,(cs.drop off).take T.size,Ty.keepS _ (hp C S ψ w _ H hl) (λ_ _=>rfl) H.lt,λj u hj=>?_⟩;rw[List.getElem?_take]at hj;split at hj
  ·rw[iI]at hj;have:w.cell? ⟨g,off+0+j,mE⟩=mF u:=by
    unfold eU;rw[hw];simpa using hj
   simpa using this
  ·cases hj
 |_,_,v,.fn hl,hr=>by
  unfold kK at hr⊢;obtain⟨cs,e,hcs⟩:=hr;exact⟨cs,e,LendL.rel H hl hcs⟩
 |_,_,v,.fl,hr=>by
  unfold kK at hr⊢;exact⟨[],hr,by unfold Af;rfl⟩
theorem LendL.rel{w:eT}{S:Nat->Prop}{ψ:Nat->eO}(H:kR C h S ψ w):∀{l l':List AV} {vs:List eO},LendL h l l'->Af w S h ψ l vs->Af w (λk=>k < w.heap.size) [] ψ0 l' vs
 |_,_,vs,.nil,hr=>by
  unfold Af at hr⊢;exact hr
 |_,_,vs,.cons hx hl,hr=>by
  unfold Af at hr⊢;obtain⟨v,vs',e,h1,h2⟩:=hr;exact⟨v,vs',e,LendV.rel H hx h1,LendL.rel H hl h2⟩
end
end
section
variable{P:cX}{C:Ctx}
theorem Xl{d:Array cQ}{h:List kA}{K i:List AV->Prop}(hk:∀s,K s->i s):∀{l:List cQ} {t:List AV},aQ P C d h K l t->aQ P C d h i l t
 | [],s,h=>hk s h
 |o::g,t,h=>by
  obtain⟨r,h1,h2⟩:=h;exact⟨r,h1,Xl hk h2⟩
theorem AM{t:List AV}{h:List kA}{o:cQ}{args:Array cW}{r:AV}
 (g:o.op= .call {callee:=.value (.func f),args:=args,argTypes:=tys})(hx:args.toList.map (evA t)=xs)(i:Fn P f xs r)(hc:Bj xs=aX)(d:kI r=aX):AT P C t h o r:=AT.call g i hx hc d
theorem Ij{t:List AV}{h:List kA}{o:cQ}{c:cW}{e:Bool}(d:o.op= .pick c a b)(hc:evA t c= .lit (.bool q))(i:evA t a= .lit (.bool aX))(g:evA t b=cond (!q) (.lit (.bool e)) (.lit undef)):AT P C t h o (.lit (.bool (q||e))):=
 Ax d hc i (by rw[g];cases q <;> rfl)
theorem C8{t:List AV}{h:List kA}{o:cQ}{c:cW}{e:Bool}(d:o.op= .pick c a b)(hc:evA t c= .lit (.bool q))(i:evA t a=cond q (.lit (.bool e)) (.lit undef))(g:evA t b= .lit (.bool aS)):AT P C t h o (.lit (.bool (q&&e))):=
 Av d hc (by rw[i];cases q <;> rfl) g
theorem Ath{d:Array cQ}{h:List kA}{t t':List AV}(e:t=t'):aQ P C d h (λx=>x=t') [] t:=e
section
variable{t t' t'':List AV}{h h' h'':List kA}{o:cQ}{r:AV}{ops:Array cQ}{rest:List cQ}{K:St->Prop}
theorem qAt(hq:AT P C t h o r:=by(first
 |exact AM V V (by assumption) V V
 |exact AT.callTA V V (by assumption) (by assumption) (by assumption) (by assumption) V V
 |exact CD V V V (by assumption)
 |exact Ax V V V V
 |exact Av V V V V
 |exact Ij V V V V
 |exact C8 V V V V
 |exact AT.pickOr' V V V V
 |exact AT.pickAnd' V V V V
 |exact AT.move V (by(conv=>lhs;whnf);try rfl)
 |exact AT.assign V (by(conv=>lhs;whnf);try rfl)
 |exact Br V V V
 |exact Co V V
 |exact CG V V V
 |exact Do V V
 |exact Bf V V V V
 |exact AB V V V
 |exact Bq V V V (by assumption) V
 |exact AO V V V V
 |exact DW V V V
 |exact Io V V V V (by assumption)
 |exact Hu V V V V (by first|decide|omega) (by assumption)
 |exact Jt V V V V V (by first|assumption|omega)
 |exact FL V V V V V (by first|decide|omega) (by first|assumption|omega)
 |exact J2 V V V (by first|assumption|omega)
 |exact AT.ln V V
 |exact Gf V V V
 |exact Js V V
 |exact D9 V V V (by omega)
 |exact EO V V V (by omega)
 |exact Hv V V V V (by assumption)
 |exact CD V V V V
 |exact Cm V V
 |exact AT.pick V V (by(conv=>lhs;whnf);try rfl)
 |exact AT.extract V V V
 |exact Ce V V V (by rfl) (by decide) (by first|exact Fit.bool|exact Fit.bs|exact Fit.int (by assumption))
 |exact AT.max2 V V V
 |exact AT.min2 V V V
 |exact AX (i:=0) V V V (by first|rfl|assumption) V
 |exact AX (i:=1) V V V (by first|rfl|assumption) V
 |exact AX (i:=2) V V V (by first|rfl|assumption) V
 |exact AX (i:=3) V V V (by first|rfl|assumption) V
 |exact AX (i:=4) V V V (by first|rfl|assumption) V
 |exact AX (i:=5) V V V (by first|rfl|assumption) V
 |exact AX (i:=6) V V V (by first|rfl|assumption) V
 |exact AX (i:=7) V V V (by first|rfl|assumption) V
 |exact AX (i:=8) V V V (by first|rfl|assumption) V
 |exact BX (i:=1) V V V V V
 |exact BX (i:=2) V V V V V
 |exact BX (i:=3) V V V V V
 |exact BX (i:=4) V V V V V
 |exact BX (i:=5) V V V V V
 |exact BX (i:=6) V V V V V
 |exact BX (i:=7) V V V V V
 |exact BX (i:=8) V V V V V
 |exact AT.eqb V V V (by assumption)
 |exact AT.eqb V V V V
 |exact Mf V V V (by assumption)
 |exact Mf V V V V
 |exact AT.eqSs V V V
 |exact AT.eqS V V V
 |exact AT.neS V V V
 |exact AT.lnS V V
 |exact AT.ixS V V V (by assumption)
 |exact AT.cat V V V (by first|assumption|omega)
 |exact AT.cut V V V V (by first|assumption|omega) (by first|assumption|omega)
 |exact AT.cutS V V V (by first|assumption|omega)
 |exact AT.shl V V V (by decide) (by assumption)
 |exact AT.shl V V V (by decide) V
 |exact AT.shr V V V (by decide) (by assumption)
 |exact AT.shr V V V (by decide) V
 |exact AT.bit V V V V (by assumption)
 |exact AT.bit V V V V V
 |exact FK V
 |exact Xt V V V (by assumption) V (by first|rfl|assumption) V
 |exact AT.cv V V (by assumption)
 |exact AT.cv V V V
 |exact AT.b2s V V
 |exact AT.s2b V V (by first|assumption|omega))):AT P C t h o r:=hq
theorem sA(hk:CP P C ops K rest ⟨t',h⟩)(hq:AT P C t h o r:=by exact qAt)(ht:Bn t o.dst r=t':=by((try simp only[Bn,zac]);exact V))(hg:gA ops t o=some true:=by rfl):CP P C ops K (o::rest) ⟨t,h⟩:=by
 subst ht;exact Ahw hg hq hk
theorem qA{K:List AV->Prop}(hk:aQ P C ops h K rest t')(hq:AT P C t h o r:=by exact qAt)(ht:Bn t o.dst r=t':=by((try simp only[Bn,zac]);exact V))(hg:gA ops t o=some true:=by rfl):aQ P C ops h K (o::rest) t:=by
 subst ht;exact Azj hg hq hk
theorem sAG{g:Bool}(hk:CP P C ops K rest ⟨t',h⟩)(hg:gA ops t o=some g:=by first|rfl|exact Axa V V)(hq:g=true->AT P C t h o r:=by(intro hg;(try simp only[Bool.and_eq_true,beq_true,beq_false,Bool.not_eq_true',Bool.not_eq_eq_eq_not,Bool.not_true,Bool.not_false]at hg);(try simp only[hg,beq_true,beq_false,Bool.true_and,Bool.and_true,Bool.not_false,Bool.not_true,zaj]);exact qAt))(ht:Bn t o.dst (cond g r (.lit undef))=t':=by((try simp only[Bn,zac]);exact V)):CP P C ops K (o::rest) ⟨t,h⟩:=sG (hg:=hg) (hq:=hq) (ht:=ht) (hk:=hk)
end
section
variable{id:Nat}{l l1 l2:List cQ}{y:bE}{Q:bJ->St->Prop}{t t' t'':List AV}{h h':List kA}
theorem wR(hk:Awp P C y Q ⟨t',h'⟩)(hx:CP P C l.toArray (λs=>s=⟨t',h'⟩) l ⟨t,h⟩:=by((repeat(first|refine sA ?_|refine AN ?_|refine sAG ?_|refine Bp ?_));exact C1 V)):Awp P C (.seq (.region id l.toArray aS) y) Q ⟨t,h⟩:=
 Ab λ_ d=>kL (Dn (λs e=>by subst e;exact d _ hk) hx)
theorem wRE(hk:Q .normal ⟨t',h'⟩)(hx:CP P C l.toArray (λs=>s=⟨t',h'⟩) l ⟨t,h⟩:=by((repeat(first|refine sA ?_|refine AN ?_|refine sAG ?_|refine Bp ?_));exact C1 V)):Awp P C (.region id l.toArray aS) Q ⟨t,h⟩:=
 kL (Dn (λs e=>by subst e;exact hk) hx)
theorem wDE(n:Nat)(d:P.follows .mixedOrders=true:=by kernel_rfl)(g:Ab9 l.toArray n=true:=by kernel_rfl)(h1:l.take n=l1:=by(simp only[zad];exact V))(h2:l.drop n=l2:=by(simp only[zad];exact V))
 (hq:aQ P C l.toArray h (λx=>x=t'') l1 t:=by((repeat(first|refine qA ?_|refine G8 ?_|refine qAG (hk:=?_)));exact Ath V))
 (hx:CP P C l.toArray (λs=>s=⟨t',h'⟩) l2 ⟨t'',h⟩:=by((repeat(first|refine sA ?_|refine AN ?_|refine sAG ?_|refine Bp ?_));exact C1 V))(hk:Q .normal ⟨t',h'⟩):Awp P C (.region id l.toArray aX) Q ⟨t,h⟩:=by
 subst h1 h2;exact Om n d g (Xl (λt e=>by subst e;exact Dn (λs e=>by subst e;exact hk) hx) hq)
theorem wD(n:Nat)(d:P.follows .mixedOrders=true:=by kernel_rfl)(i:Ab9 l.toArray n=true:=by kernel_rfl)(h1:l.take n=l1:=by(simp only[zad];exact V))(h2:l.drop n=l2:=by(simp only[zad];exact V))
 (hq:aQ P C l.toArray h (λx=>x=t'') l1 t:=by((repeat(first|refine qA ?_|refine G8 ?_|refine qAG (hk:=?_)));exact Ath V))
 (hx:CP P C l.toArray (λs=>s=⟨t',h'⟩) l2 ⟨t'',h⟩:=by((repeat(first|refine sA ?_|refine AN ?_|refine sAG ?_|refine Bp ?_));exact C1 V))(hk:Awp P C y Q ⟨t',h'⟩):Awp P C (.seq (.region id l.toArray aX) y) Q ⟨t,h⟩:=
 Ab λ_ g=>wDE n d i h1 h2 hq hx (g _ hk)
end
theorem AS{t t':List AV}{h:List kA}(g:bdH h=true:=by rfl)(d:Fgt h.length t t':=by((try simp only[Bn,zac]);repeat(first|exact Fgt.nil|refine Fgt.keep V ?_|refine Fgt.any ?_|refine Fgt.keep (by first|assumption|exact Sv _ _ (by assumption)) ?_))):kZ C ⟨t,h⟩ ⟨t',h⟩:=Xn g d
end
open Go.ChangeShapes Go.WideShapes
variable{a:Option a6}{c:Nat}{k:bT}{n:Nat}{ty:eN}{x y:cW}
def Amo(g:Nat)(cells:List eO)(e:eN):Res:=⟨[],λk=>k=g,λw _=>w.heap[g]? =mF (.cells cells.toArray e (0,0)),λh hk _ _=>(hk g V).trans h⟩
section
variable{P:cX}{C:Ctx}{t:List AV}{h:List kA}{o:cQ}{K:St->Prop}
end
section
variable{P:cX}{C:Ctx}{t:List AV}{h:List kA}{o:cQ}{K:St->Prop}
theorem Aoe{d:eN}{w:eT}(g:GL P ty=aX):(a7 #[ty] d #[.slice a n c]).run P w= .ok (.int .i64 (c:Int)) w:=by
 unfold GL at g;split at g <;> try(cases g;done)
 rename_i e h1;simp[a7,underlying,h1,goInt]
theorem Vu[SL P ty](g:o.op= .call {callee:=.builtin .cap,args:=#[x],argTypes:=#[ty]})(hx:evA t x= .lit (.slice a n c)):AT P C t h o (.lit (.int .i64 (c:Int))):=
 AL λS ψ w ρ H d=>by
  have h1:=d x (by simp[g,cP,bB]);rw[hx]at h1;unfold kK at h1;refine⟨_,by simp[fG,g,fS,fO,builtin,h1,Aoe (SL.eq (P:=P) (ty:=ty))];rfl,?_⟩;unfold kK;rfl
theorem Vp[ES P ty n](i:o.op= .slice ty x mE (mF y) mE)(hx:evA t x= .lit (.slice mE 0 0))(j:evA t y= .lit (.int k ((0:Nat):Int))):AT P C t h o (.lit (.slice mE 0 0)):=
 AL λS ψ w ρ H d=>by
  have h1:=d x (by simp[i,cP]);have h2:=d y (by simp[i,cP]);rw[hx]at h1;rw[j]at h2;unfold kK at h1 h2;have s:=Tp (P:=P) (w:=w) (a:=mE) (len:=0) (cap:=0) (lo:=mE) (hi:=mF (.int k ((0:Nat):Int))) (l:=0) (m:=0) (ES.eq (P:=P) (ty:=ty) (n:=n)) V ⟨k,rfl⟩ (lI _) (lI _);have g:(Instr.sliceAt ty (.slice mE 0 0) mE (mF (.int k 0)) mE).run P w= .ok (.slice mE 0 0) w:=by simpa using s
  refine⟨.slice mE 0 0,by simp[fG,i,h1,h2,g],?_⟩;unfold kK;rfl
theorem Ami{I:eN}{e:eN}{bytes:Nat}{U:bT}[RT P ty e 1 bytes][IntT P I U]{kk:bT}(g:Cw P e=mF [.int kk 0])(W:o.op= .call {callee:=.builtin .append,args:=#[x,y],argTypes:=#[ty,I]})
 (hx:evA t x= .lit (.slice mE 0 0))(hy:evA t y= .lit (.int k (n:Int)))(h0:0 < n)(A:n<=fP)(G:n * bytes<=140737488355328)
 (hK:K ⟨Bn t o.dst (.own h.length 0),h++[.row 0 e (Ty.int kk) (jV n 0)]⟩):AOp P C o ⟨t,h⟩ K:=by
 rintro Q' a w ⟨hd,S,ψ,H,L⟩;refine⟨λc e=>(by rw[W]at e;cases e),?_⟩;have D:=Bw L x;have B:=Bw L y;rw[show evA (St.mk t h).t x=_ from hx]at D;rw[show evA (St.mk t h).t y=_ from hy]at B;unfold kK at D B;obtain⟨h1,Y,z,h2,X,h4,h5,h6⟩:=C4 (RT.eq (P:=P) (ty:=ty));have Z:z.cells.toList= [.int kk 0]:=by
  unfold Cw at g;rw[h2]at g;simp only[lZ,X,mD,mH]at g;exact g
 have J:z.cells= #[.int kk 0]:=by
  apply Array.ext';rw[Z]
 have O:(n:Int)<=9223372036854775807:=by unfold fP at A;omega
 have E:=Lib.run_append_nil_zeros (P:=P) w ty I o.type e Y z k U h1 IntT.eq h2 X n h0 (by omega) O (by rw[h5];omega);have u:∀m,bA z.cells m=(jV m (eQ kk 0)).toArray:=λm=>by
  rw[J];apply Array.ext
  ·simp[bA]
  ·intro i h1 h2;simp[bA,Nat.mod_one]
 rw[u,u]at E;have F:=grownCap_ge w n 0 e;have hr:(fG a.eval o).run P w= .ok (.value (.slice (mF ⟨w.heap.size,0,mE⟩) n (fJ w n 0 e))) (w.drew.alloc (.cells ((jV n (eQ kk 0)).toArray++(jV (fJ w n 0 e - n) (eQ kk 0)).toArray) e)):=by
  simp[fG,W,fS,fO,builtin,D,B,E]
 have hb:Below w.heap.size w (w.drew.alloc (.cells ((jV n (eQ kk 0)).toArray++(jV (fJ w n 0 e - n) (eQ kk 0)).toArray) e)):=⟨rfl,rfl,rfl,by simp,λk hk=>fL w.drew _ hk⟩
 unfold cU;refine AOp.newRow (s:=⟨t,h⟩) (cells:=jV n (eQ kk 0)) hd H L hr hb ⟨by show _=_ * 1;simp,.inr ⟨w.heap.size,_,_,by rw[i8],lV _,fK w.drew _,by rw[i8];exact F,grownCap_le_maxLen _ _ _ _ A,?_,?_⟩⟩ lW (λj d N=>?_) hK
 ·show _=_ * 1;simp;omega
 ·show jX ((jV n (0:Int)).length * 1) _=_;simp only[i8,lQ,aM];rw[List.take_append_of_le_length (by simp),List.take_of_length_le (by simp)]
 ·show(Ty.int kk).RS _ _ (jX 1 (List.drop (j * 1) _)) d;rw[iO]at N;split at N <;> cases N
  rename_i aa;rw[lQ,List.drop_replicate,List.take_replicate];have:min 1 (n - j)=1:=by omega
  rw[this];refine⟨rfl,?_⟩;cases kk <;> rfl
end
end Mu
namespace Mu
open Go Go.RowKit Go.Proofs
section
variable{P:cX}
def Axv(t u:Tmp)(m:Nat)(r q:AV):bJ->St->Prop:=λe s=>(e= .normal\/e= .ret)/\∃i cells,evA s.t (.tmp t)= .ptr i 0/\s.h[i]? =mF (.box cells)/\cells.length=m/\Fin s.h (.tup [.agg cells,evA s.t (.tmp u)]) (.tup [r,q])
theorem KY{f:bM}{fn:bL}{c:bE}{args:List AV}{r q:AV}{t u:Tmp}{ty:eN}{n m:Nat}(W:P.funcs[f]? =mF fn)(Y:fn.body=mF c)(hE:B9 P f=aX)(E:fn.results= #[.cell t ty,.tmp u])(Z:Rn P ty=mF (aX,m))(O:fn.ntmps=n)
 (h:∀C:Ctx,C.std->Awp P C c (Axv t u m r q) ⟨args++jV (n - args.length) (.lit undef),[]⟩):Fn P f args (.tup [r,q]):=by
 refine⟨hE,λw S vs hS N=>fF W Y ?_⟩;rw[O];refine wp_mono ((h ⟨w,S,λk=>k < w.heap.size,mE⟩ (λ_ h=>h)).wp V (Dg hS N)) ?_;rintro e a' w' ⟨s,⟨X,i,cells,F,hi,U,A⟩,G,S1,ψ,H,I⟩;rw[A.1]at G;have B:=Bw I (.tmp t);rw[F]at B;unfold kK at B;obtain⟨g,h1,h2⟩:=B.2 (by rw[hi];rfl);obtain⟨g',cs,e',L,_,_,h4,J⟩:=H.blk i _ hi;rw[h1]at L;cases L;have hc:∀j v,cs[j]? =mF v->w'.cell? ⟨g,0+j,mE⟩=mF v:=λj v B=>by simp[eU,h4,B]
 have d:=IU (P:=P) (ty:=ty) (b:=g) (off:=0) Z (by rw[By J];exact U) hc;have z:(results fn a'.tmps).run P w'= .ok (.tuple #[.agg cs.toArray,a'.eval (.tmp u)]) w':=by
  have e1:(a'.tmps[t]?).getD undef= .pointer (mF ⟨g,0,mE⟩):=by rw[<-aA];exact h2
  have e2:(a'.tmps[u]?).getD undef=a'.eval (.tmp u):=by rw[<-aA];rfl
  unfold Instr.loadAt bS at d;simp only[zak]at d;simp[results,E,e1,e2,asAddr,d]
 have D:kK w' S1 s.h ψ (.tup [.agg cells,evA s.t (.tmp u)]) (.tuple #[.agg cs.toArray,a'.eval (.tmp u)]):=by
  unfold kK;refine⟨[.agg cs.toArray,a'.eval (.tmp u)],rfl,?_⟩;unfold Af;refine⟨_,_,rfl,(by unfold kK;exact⟨cs,rfl,J⟩),?_⟩;unfold Af;refine⟨_,_,rfl,Bw I (.tmp u),?_⟩;unfold Af;rfl
 have hg:Y0 w S [] ψ0 (.tup [r,q]) (.tuple #[.agg cs.toArray,a'.eval (.tmp u)]) w':=by
  first
   |exact FE H A D
   |exact FE (a':=a') H A D
 rcases X with rfl|rfl
 ·exact⟨G,_,z,_,rfl,hg⟩
 ·exact⟨G,_,z,_,rfl,hg⟩
end
open Go.ChangeShapes Go.WideShapes
variable{h:List kA}
theorem BO{P:cX}{C:Ctx}{t:List AV}{o:cQ}{ty:eN}{d:Array (Nat×cW)}{zs:List eO}{i:List (Nat×Nat)}{rs:List AV}[ZC P ty zs](s:o.op= .build ty d)(g:Ep P ty=mF i)
 (j:putCells i (zs.map .lit) (d.toList.map λp=>(p.1,evA t p.2))=mF rs)(h1:(d.toList.all λp=>Wy (evA t p.2))=aX):AT P C t h o (.agg rs):=
 AT.build s ZC.eq g j λp m=>Mi (gG.1 h1 p m)
theorem Fin.weak{x r:AV}(hx:kI x=aX)(d:∀w S v,kK w S [] ψ0 x v->kK w S [] ψ0 r v)(i:mkD h= []:=by rfl):Fin h x r:=
 ⟨i,λ_ S _ w v _ H g=>⟨S,λ_ h=>h,λ_ h=>.inl h,H.lt,d w S v (Dq _ _ hx g)⟩⟩
end Mu
namespace Mu
open Go Go.RowKit Go.Proofs
variable{S:Nat->Prop}{α:Type}{T:Ty α}{a:Int}{b c:Bool}{e:eN}{enc:α->List AV}{f:bM}{i:Nat}{ik:bT}{k:Nat}{k':bT}{l':List AV}{m:Int}{n:Nat}{op:Op}{q:Bool}{r:AV}{s:St}{st:eN}{tys:Array eN}{v:eO}{ver:Nat}{w:eT}{x:cW}{x0 x1 x10 x11 x12 x13 x14 x15 x16 x17 x18 x19 x2 x20 x21 x22 x23 x24 x25 x26 x27 x28 x29 x3 x30 x31 x4 x5 x6 x7 x8 x9:AV}{xs:List AV}{z:Int}{zs:List eO}{β:Type}{ψ:Nat->eO}
def ixD{α:Type}[Inhabited α](l:List α)(z:Int):α:=l.getD z.toNat default
def Ch{α:Type}(l:List α)(z:Int):Bool:=aZ (0<=z)&&aZ (z.toNat < l.length)
theorem BP{l:List α}:Ch l z=aX↔0<=z/\z.toNat < l.length:=by unfold Ch;simp
theorem BS[Inhabited α]{l:List α}(h:Ch l z=aX):l[z.toNat]? =mF (ixD l z):=by
 have h1:=(BP.1 h).2;unfold ixD;rw[iD,iJ h1];rfl
theorem B7[Inhabited α]{l:List α}{x:α}(h:l[k]? =mF x):ixD l (k:Int)=x:=by
 unfold ixD;rw[gF,iD,h];rfl
theorem E8{l:List α}(h:k < l.length):Ch l (k:Int)=aX:=BP.2 ⟨by omega,by simpa using h⟩
def slB{α:Type}(l:List α)(a b:Int):Bool:=aZ (0<=a)&&aZ (a<=b)&&aZ (b.toNat<=l.length)
def slD{α:Type}(l:List α)(a b:Int):List α:=(l.take b.toNat).drop a.toNat
def Fj(n bytes:Nat):Bool:=aZ (n<=fP)&&aZ (n * bytes<=140737488355328)
def VO(z:Int)(bytes:Nat):Bool:=aZ (0<=z)&&aZ (z.toNat<=fP)&&aZ (bytes * z.toNat<=281474976710656)
def Ayo(s:ByteArray):Bool:=aZ (s.size<=fP)
def wfB(k:bT)(a:Int):Bool:=(cC k a).wf
theorem Acn{k:bT}(h:wfB k a=aX):wfI k a:=h
theorem Ai9{b:Nat}(h:Fj n b=aX):n<=fP:=by unfold Fj at h;simp at h;exact h.1
theorem Zr{b:Nat}(h:Fj n b=aX):n * b<=140737488355328:=by unfold Fj at h;simp at h;exact h.2
theorem Ac9{s:ByteArray}(h:Ayo s=aX):s.size<=fP:=of_decide_eq_true h
theorem Uq{g p:Bool}(h:(!g||p)=aX)(hg:g=aX):p=aX:=by subst hg;simpa using h
theorem Ga{a:Bool}(h:(a&&b)=aX):a=aX:=by cases a;cases h;rfl
theorem Mn{α:Type 1}{a:Bool}(h:a=aX)(x y:α):(bif a&&b then x else y)=bif b then x else y:=by subst h;rfl
theorem BG{α:Type 1}(h:b=aX)(x y:α):(bif b then x else y)=x:=by subst h;rfl
theorem Azf{α:Type 1}(h:b=aS)(x y:α):(bif b then x else y)=y:=by subst h;rfl
theorem Gp{l:List AV}:Bn (x0::l) (mF 0) r=r::l:=rfl
theorem Iz{l:List AV}:Bn (x0::x1::l) (mF 1) r=x0::r::l:=rfl
theorem Kf{l:List AV}:Bn (x0::x1::x2::l) (mF 2) r=x0::x1::r::l:=rfl
theorem IR{l:List AV}:Bn (x0::x1::x2::x3::l) (mF 3) r=x0::x1::x2::r::l:=rfl
theorem JB{l:List AV}:Bn (x0::x1::x2::x3::x4::l) (mF 4) r=x0::x1::x2::x3::r::l:=rfl
theorem Gl{l:List AV}:Bn (x0::x1::x2::x3::x4::x5::l) (mF 5) r=x0::x1::x2::x3::x4::r::l:=rfl
theorem HT{l:List AV}:Bn (x0::x1::x2::x3::x4::x5::x6::l) (mF 6) r=x0::x1::x2::x3::x4::x5::r::l:=rfl
theorem G3{l:List AV}:Bn (x0::x1::x2::x3::x4::x5::x6::x7::l) (mF 7) r=x0::x1::x2::x3::x4::x5::x6::r::l:=rfl
theorem Ao{l:List AV}(e:Bn l (mF k) r=l'):Bn (x0::x1::x2::x3::x4::x5::x6::x7::l) (mF (k+8)) r=x0::x1::x2::x3::x4::x5::x6::x7::l':=by subst e;rfl
theorem Ar{l:List AV}(e:Bn l (mF k) r=l'):Bn (x0::x1::x2::x3::x4::x5::x6::x7::x8::x9::x10::x11::x12::x13::x14::x15::x16::x17::x18::x19::x20::x21::x22::x23::x24::x25::x26::x27::x28::x29::x30::x31::l) (mF (k+32)) r=x0::x1::x2::x3::x4::x5::x6::x7::x8::x9::x10::x11::x12::x13::x14::x15::x16::x17::x18::x19::x20::x21::x22::x23::x24::x25::x26::x27::x28::x29::x30::x31::l':=by subst e;rfl
theorem Je{l:List AV}:evA (x0::l) (.tmp 0)=x0:=rfl
theorem FG{l:List AV}:evA (x0::x1::l) (.tmp 1)=x1:=rfl
theorem Gi{l:List AV}:evA (x0::x1::x2::l) (.tmp 2)=x2:=rfl
theorem FF{l:List AV}:evA (x0::x1::x2::x3::l) (.tmp 3)=x3:=rfl
theorem Hg{l:List AV}:evA (x0::x1::x2::x3::x4::l) (.tmp 4)=x4:=rfl
theorem Fr{l:List AV}:evA (x0::x1::x2::x3::x4::x5::l) (.tmp 5)=x5:=rfl
theorem Iu{l:List AV}:evA (x0::x1::x2::x3::x4::x5::x6::l) (.tmp 6)=x6:=rfl
theorem GB{l:List AV}:evA (x0::x1::x2::x3::x4::x5::x6::x7::l) (.tmp 7)=x7:=rfl
theorem Aq{l:List AV}(e:evA l (.tmp k)=r):evA (x0::x1::x2::x3::x4::x5::x6::x7::l) (.tmp (k+8))=r:=e
theorem As{l:List AV}(e:evA l (.tmp k)=r):evA (x0::x1::x2::x3::x4::x5::x6::x7::x8::x9::x10::x11::x12::x13::x14::x15::x16::x17::x18::x19::x20::x21::x22::x23::x24::x25::x26::x27::x28::x29::x30::x31::l) (.tmp (k+32))=r:=e
theorem Ys{l:List AV}:evA l (.const v)= .lit v:=rfl
theorem RG{l:List AV}:Bn l mE r=l:=rfl
inductive Up:AV->AV->Prop
 |refl (x:AV):Up x x
 |nil {α:Type} (T:Ty α):Up (.lit (.slice none 0 0)) (.bs T [])
 |agg {l l':List AV}:l.length=l'.length->(∀(i:Nat) (x y:AV),l[i]? =some x->l'[i]? =some y->Up x y)->Up (.agg l) (.agg l')
 |tup {l l':List AV}:l.length=l'.length->(∀(i:Nat) (x y:AV),l[i]? =some x->l'[i]? =some y->Up x y)->Up (.tup l) (.tup l')
theorem Up.rel{h:List kA}{x y:AV}(g:Up x y):∀{v:eO},kK w S h ψ x v->kK w S h ψ y v:=by
 induction g with
 |refl x=>exact λh=>h
 |nil T=>
  intro v H;unfold kK at H⊢;rw[H];exact T.slice_nilS _ _
 |@agg l l' d hi D=>
  intro v H;unfold kK at H⊢;obtain⟨cs,e,B⟩:=H;refine⟨cs,e,DK (by rw[By B,d]) λi y u A g=>?_⟩;have j:i < l.length:=by rw[d];exact(iL.1 A).1
  obtain⟨x,hx⟩:∃x,l[i]? =mF x:=⟨_,iJ j⟩
  obtain⟨E,h1,h2⟩:=BY B hx;rw[h1]at g;cases g;exact D i x y hx A h2
 |@tup l l' d hi D=>
  intro v H;unfold kK at H⊢;obtain⟨cs,e,B⟩:=H;refine⟨cs,e,DK (by rw[By B,d]) λi y u A g=>?_⟩;have j:i < l.length:=by rw[d];exact(iL.1 A).1
  obtain⟨x,hx⟩:∃x,l[i]? =mF x:=⟨_,iJ j⟩
  obtain⟨E,h1,h2⟩:=BY B hx;rw[h1]at g;cases g;exact D i x y hx A h2
inductive UpL:List AV->List AV->Prop
 |nil:UpL [] []
 |cons {x y:AV} {l l':List AV}:Up x y->UpL l l'->UpL (x::l) (y::l')
theorem UpL.len{l:List AV}(h:UpL l l'):l.length=l'.length:=by
 induction h with
 |nil=>rfl
 |cons _ _ d=>simp[d]
theorem UpL.get{l:List AV}(h:UpL l l'):∀(i:Nat) (x y:AV),l[i]? =mF x->l'[i]? =mF y->Up x y:=by
 induction h with
 |nil=>intro i x y hx;simp at hx
 |cons h1 _ g=>
  intro i x y hx d;cases i with
  |zero=>simp at hx d;subst hx d;exact h1
  |succ i=>exact g i x y (by simpa using hx) (by simpa using d)
theorem UpL.rel{h:List kA}{l:List AV}(d:UpL l l'){cs:List eO}(H:Af w S h ψ l cs):Af w S h ψ l' cs:=by
 refine DK (by rw[By H,d.len]) λi y u j A=>?_
 have g:i < l.length:=by rw[d.len];exact(iL.1 j).1
 obtain⟨x,hx⟩:∃x,l[i]? =mF x:=⟨_,iJ g⟩
 obtain⟨B,h1,h2⟩:=BY H hx;rw[h1]at A;cases A;exact(d.get i x y hx j).rel h2
theorem PS{l:List AV}(h:UpL l l'):Up (.agg l) (.agg l'):=.agg h.len h.get
theorem Ay1{l:List AV}(h:UpL l l'):Up (.tup l) (.tup l'):=.tup h.len h.get
section
variable{P:cX}{C:Ctx}{t t':List AV}{h h':List kA}{o:cQ}
theorem Ff{ty:eN}{y:cW}[Inhabited α]{l:List α}[ES P ty n](u:o.op= .indexAddr ty x y)(hx:evA t x= .bs T l)(g:evA t y= .lit (.int ik z))(j:T.size=n)(d:Ch l z=aX):AT P C t h o (.bp T (ixD l z) 0):=
 Hu u hx g j (BP.1 d).1 (BS d)
theorem Ca{ty:eN}{y:cW}{l:List α}[ES P ty n](u:o.op= .indexAddr ty x y)(hx:evA t x= .own i ver)(hi:h[i]? =mF (.row ver e T l))(g:evA t y= .lit (.int ik z))(j:T.size=n)(d:Ch l z=aX):AT P C t h o (.rp i ver z.toNat 0):=
 FL u hx hi g j (BP.1 d).1 (BP.1 d).2
theorem Adq{l:List α}{b:Int}:slB l a b=aX↔0<=a/\a<=b/\b.toNat<=l.length:=by unfold slB;simp[and_assoc]
theorem Ah7{d:Nat}{y:cW}(g:evA t y= .lit (.int ik a))(h0:0<=a):An3 t d (mF y) a.toNat:=⟨ik,by rw[g];congr 2;omega⟩
theorem Abm{ty:eN}{y:cW}{l:List α}[ES P ty n](j:o.op= .slice ty x (mF y) mE mE)(hx:evA t x= .bs T l)(g:T.size=n)(d:evA t y= .lit (.int ik a))(hc:slB l a (l.length:Int)=aX):AT P C t h o (.bs T (slD l a (l.length:Int))):=by
 obtain⟨h1,h2,u⟩:=Adq.1 hc;have:=PW (P:=P) (C:=C) (h:=h) (lo:=mF y) (hi:=mE) (m:=l.length) j hx g (Ah7 d h1) V (by omega) (lI _);unfold slD;rwa [gF]
theorem J6{ty:eN}{y:cW}{bytes:Nat}{l l2:List α}{K:St->Prop}[RT P ty e n bytes][EncOf T enc](u:o.op= .call {callee:=.builtin .append,args:=#[x,y],argTypes:=#[ty,ty]})
 (hx:evA t x= .own i ver)(hi:h[i]? =mF (.row ver e T l))(g:evA t y= .bs T l2)(j:T.size=n)(d:Fj (l.length+l2.length) bytes=aX)
 (A:K ⟨Bn t o.dst (.own i (ver+1)),h.set i (.row (ver+1) e T (l++l2))⟩):AOp P C o ⟨t,h⟩ K:=SP u hx hi g j (Ai9 d) (Zr d) A
theorem Aq5{ty:eN}{y:cW}{k:bT}{bytes:Nat}{K:St->Prop}(d:α)(B:o.op= .makeSlice ty x y)(A:GH P ty=mF (e,v,bytes))(D:T.size=1)(g:∀w S,T.RS w S [v] d)
 (hx:evA t x= .lit (.int k z))(u:evA t y= .lit (.int k' z))(j:VO z bytes=aX)
 (E:K ⟨Bn t o.dst (.own h.length 0),h++[.row 0 e T (jV z.toNat d)]⟩):AOp P C o ⟨t,h⟩ K:=by
 unfold VO at j;simp only[zaf]at j;obtain⟨⟨h0,h1⟩,h2⟩:=j;have F:z=((z.toNat:Nat):Int):=by omega
 rw[F]at hx u;exact Aig d B A D g hx u h2 h1 E
theorem Kj{ops:Array cQ}(hg:gA ops t o=mF (b ==aX)):gA ops t o=mF b:=by rw[hg];cases b <;> rfl
theorem WG{ops:Array cQ}(hg:gA ops t o=mF (b ==aS)):gA ops t o=mF (!b):=by rw[hg];cases b <;> rfl
theorem Jf{ops:Array cQ}{j:Nat}(d:o.guard=mF (j,aX))(g:((ops[j]?).bind (·.dst)).bind (t[·]?)=mF (cond q (.lit (.bool c)) (.lit undef))):gA ops t o=mF (q&&c):=by rw[Axa d g];cases c <;> rfl
theorem Ap9{ops:Array cQ}{j:Nat}(d:o.guard=mF (j,aS))(g:((ops[j]?).bind (·.dst)).bind (t[·]?)=mF (cond q (.lit (.bool c)) (.lit undef))):gA ops t o=mF (q&&!c):=by rw[Axa d g];cases c <;> rfl
theorem Xu{args:Array cW}{d:List AV}
 (B:o.op= .call {callee:=.value (.func f),args:=args,argTypes:=tys})(hx:args.toList.map (evA t)=d)(u:UpL d xs)(g:Fn P f xs r)(hc:Bj d=aX)(A:kI r=aX):AT P C t h o r:=
 AT.call B ⟨g.1,λw S vs D j=>g.2 w S vs D (u.rel j)⟩ hx hc A
theorem Fit.up{x y:AV}{d:α}(j:Up x y)(u:Fit h T y d):Fit h T x d:=λC S ψ w v H g=>u C S ψ w v H (j.rel g)
theorem Al2(d:UpL t t'):kZ C ⟨t,h⟩ ⟨t',h⟩:=λa w ⟨j,S,ψ,H,g⟩=>⟨j,S,ψ,H,d.rel g⟩
theorem XC:∀t:List AV,UpL t t
 | []=>.nil
 |x::t=>.cons (.refl x) (XC t)
theorem Acu:∀{t:List AV} {j:Nat} {x y:AV},t[j]? =mF x->Up x y->UpL t (t.set j y)
 | [],_,_,_,h,_=>by simp at h
 |a::t,0,x,y,h,d=>by
  simp at h;subst h;exact .cons d (XC t)
 |a::t,j+1,x,y,h,d=>.cons (.refl a) (Acu (t:=t) (by simpa using h) d)
theorem SC(j:Nat)(T:Ty α)(d:t[j]? =mF (.lit (.slice mE 0 0)))(ht:t.set j (.bs T [])=t':=by((try simp only[zac]);exact V)):kZ C ⟨t,h⟩ ⟨t',h⟩:=by
 subst ht;exact Al2 (Acu d (.nil T))
theorem EA(j:Nat)(e:eN)(T:Ty α)(d:t[j]? =mF (.lit (.slice mE 0 0)))(h0:0 < T.size)(ht:t.set j (.own h.length 0)=t':=by((try simp only[List.set_cons_zero,List.set_cons_succ,List.length_nil,List.length_cons,Nat.reduceAdd]);exact V))(hh:h++[.row 0 e T []]=h':=by((try simp only[List.nil_append,List.cons_append]);exact V)):kZ C ⟨t,h⟩ ⟨t',h'⟩:=by
 subst ht hh;exact CB j e T d h0
theorem leC(hc:Cut h h')(j:bdH h'=true:=by rfl)(g:Fgt h'.length t t':=by((try simp only[Bn,zac]);repeat(first|exact Fgt.nil|refine Fgt.keep V ?_|refine Fgt.any ?_|refine Fgt.keep (by first|assumption|exact Sv _ _ (by assumption)) ?_)))(d:mkD h'=mkD h:=by rfl):kZ C ⟨t,h⟩ ⟨t',h'⟩:=Ahz hc j g d
theorem exN{id:Nat}{Q:bJ->St->Prop}(hq:Q .normal s):Jo id Q (.exit id) s:=by
 unfold Jo;simp[hq]
theorem exO{id j:Nat}{Q:bJ->St->Prop}(d:j≠id)(hq:Q (.exit j) s):Jo id Q (.exit j) s:=by
 unfold Jo;simp[d,hq]
theorem BC{K:St->Prop}{Q:bJ->St->Prop}{id:Nat}(hq:Q (.exit id) s):Kc K Q (.exit id) s:=hq
theorem abN{id:Nat}{Q:bJ->St->Prop}(hq:Q .normal s):Jo id Q .normal s:=hq
theorem AOp.boxI{d:eN}{cells:List AV}{K:St->Prop}(i:Nat)(hi:h.length=i)(j:o.op= .box d x)(g:Vx h (evA t x) cells)(u:K ⟨Bn t o.dst (.ptr i 0),h++[.box cells]⟩):AOp P C o ⟨t,h⟩ K:=by
 subst hi;exact AOp.box (s:=⟨t,h⟩) j g u
theorem SQ{d:eN}{K:St->Prop}[ZC P d zs](i:Nat)(hi:h.length=i)(g:o.op= .alloc d)(j:K ⟨Bn t o.dst (.ptr i 0),h++[.box (zs.map .lit)]⟩):AOp P C o ⟨t,h⟩ K:=by
 subst hi;exact Y3 g j
theorem SN{ty:eN}{bytes:Nat}{d:Array (Nat×cW)}{xs:List cW}{ds:List α}{K:St->Prop}(i:Nat)(hi:h.length=i)(u:o.op= .buildSlice ty n d)(j:d=Gv xs)(A:n=xs.length)
 (D:NL P ty=mF (e,T.size,bytes))(h0:0 < T.size)(g:n * T.size<=16777216)(B:Fits h T (xs.map (evA t)) ds)(E:K ⟨Bn t o.dst (.own i 0),h++[.row 0 e T ds]⟩):AOp P C o ⟨t,h⟩ K:=by
 subst hi;exact AOp.lit (s:=⟨t,h⟩) u j A D h0 g B E
theorem P9{ty:eN}{y:cW}{k:bT}{bytes:Nat}{K:St->Prop}(i:Nat)(hi:h.length=i)(d:α)(A:o.op= .makeSlice ty x y)(j:GH P ty=mF (e,v,bytes))(D:T.size=1)(g:∀w S,T.RS w S [v] d)
 (hx:evA t x= .lit (.int k z))(u:evA t y= .lit (.int k' z))(B:VO z bytes=aX)
 (E:K ⟨Bn t o.dst (.own i 0),h++[.row 0 e T (jV z.toNat d)]⟩):AOp P C o ⟨t,h⟩ K:=by
 subst hi;exact Aq5 d A j D g hx u B E
theorem D2{ops:Array cQ}{rest:List cQ}{K:St->Prop}(hk:CP P C ops K rest ⟨t',h'⟩)(ht:t=t':=by exact V)(hh:h=h':=by((try simp only[List.nil_append,List.cons_append,List.set_cons_zero,List.set_cons_succ,List.take_zero,List.take_succ_cons,List.drop_succ_cons,List.drop_zero,List.drop_nil,List.take_nil,List.map_cons,List.map_nil,List.append_nil,List.length_cons,List.length_nil,Nat.zero_add,Nat.reduceAdd]);exact V)):CP P C ops K rest ⟨t,h⟩:=by
 subst ht hh;exact hk
theorem JZ{ops:Array cQ}{K:St->Prop}{rest:List cQ}{g:St}(hg:o.guard=mE)(d:kZ C s g)(hk:CP P C ops K (o::rest) g):CP P C ops K (o::rest) s:=by
 obtain⟨b,h1,h2,j⟩:=hk;have e:∀t,gA ops t o=mF aX:=λt=>by unfold gA;rw[hg]
 rw[e]at h1;cases h1;exact⟨aX,e _,λ_ Q' a w H=>h2 V Q' a w (d a w H),λh=>by cases h⟩
theorem Bh{x y:bE}{Q:bJ->St->Prop}(J:β->Prop)(G:β->St)(hx:Awp P C x (Kc (λd=>∃b,J b/\kZ C d (G b)) Q) s)(j:∀b,J b->Awp P C y Q (G b)):Awp P C (.seq x y) Q s:=
 Ab λK u=>hx.mono λe d q=>by
  cases e with
  |normal=>
   obtain⟨b,A,g⟩:=q;exact u d ((j b A).le g)
  |_=>exact q
theorem P4{c:bE}{Q:bJ->St->Prop}(J:β->Prop)(G:β->St)(hx:Awp P C c (Kc (λd=>∃b,J b/\kZ C d (G b)) Q) s)(j:∀b d,J b->kZ C d (G b)->Q .normal d):Awp P C c Q s:=
 hx.mono λe d q=>by
  cases e with
  |normal=>
   obtain⟨b,u,g⟩:=q;exact j b d u g
  |_=>exact q
theorem Bu{c:bE}{Q:bJ->St->Prop}{j ρ:Type}{step:j->M (j⊕ρ)}{A:j}{r:ρ}(H:(M.loop step A).to r)(F:j->β->St)(G:β)(h0:kZ C s (F A G))
 (E:∀d b x,(step d).to x->(∀u,x= .inr u->u=r)->Awp P C c (Kc (λst=>∃g b',x= .inl g/\kZ C st (F g b')) Q) (F d b)):Awp P C (.loop c) Q s:=by
 obtain⟨k,hk⟩:=Nw.1 H;refine Awp.loop (λm st=>∃d b,st=F d b/\M.Rounds step m d r) k ⟨_,h0,A,G,rfl,hk⟩ ?_;rintro m st ⟨d,b,rfl,B⟩;cases B with
 |out hx=>
  refine(E d b _ hx λu e=>by cases e;rfl).mono λe I q=>?_
  cases e with
  |normal=>obtain⟨_,_,e,_⟩:=q;cases e
  |_=>exact q
 |on hx B=>
  refine(E d b _ hx λu e=>by cases e).mono λe I q=>?_
  cases e with
  |normal=>
   obtain⟨J,b',e,D⟩:=q;cases e;exact⟨_,lM _,_,D,_,b',rfl,B⟩
  |_=>exact q
theorem YY(d:C.std)(i:Nat){l:List α}(hi:h[i]? =mF (.row ver e T l))(ht:Eg i ver (.bs T l) t=t')(hh:fzH i ver (.bs T l) h=h'):kZ C ⟨t,h⟩ ⟨t',h'⟩:=by
 subst ht hh;exact Ok d i hi
end
instance Awu:Inhabited Ins:=⟨⟨0,0,0,0,0,0,[],0,0⟩⟩
instance Awt:Inhabited Block:=⟨⟨⟨#[]⟩,[]⟩⟩
class GA(t:List AV)(x:Operand)(r:outParam AV):Prop where
 e:evA t x=r
class PA(t:List AV)(d:Option Nat)(r:AV)(t':outParam (List AV)):Prop where
 e:Bn t d r=t'
instance Aya{l:List AV}{v:eO}:GA l (.const v) (.lit v):=⟨rfl⟩
instance Ax9{x0:AV}{l:List AV}:GA (x0::l) (.tmp 0) x0:=⟨rfl⟩
instance Ax8{x0 x1:AV}{l:List AV}:GA (x0::x1::l) (.tmp 1) x1:=⟨rfl⟩
instance Ax7{x0 x1 x2:AV}{l:List AV}:GA (x0::x1::x2::l) (.tmp 2) x2:=⟨rfl⟩
instance Ax6{x0 x1 x2 x3:AV}{l:List AV}:GA (x0::x1::x2::x3::l) (.tmp 3) x3:=⟨rfl⟩
instance Ax5{x0 x1 x2 x3 x4:AV}{l:List AV}:GA (x0::x1::x2::x3::x4::l) (.tmp 4) x4:=⟨rfl⟩
instance Ax4{x0 x1 x2 x3 x4 x5:AV}{l:List AV}:GA (x0::x1::x2::x3::x4::x5::l) (.tmp 5) x5:=⟨rfl⟩
instance Ax3{x0 x1 x2 x3 x4 x5 x6:AV}{l:List AV}:GA (x0::x1::x2::x3::x4::x5::x6::l) (.tmp 6) x6:=⟨rfl⟩
instance Awb{x0 x1 x2 x3 x4 x5 x6 x7:AV}{l:List AV}:GA (x0::x1::x2::x3::x4::x5::x6::x7::l) (.tmp 7) x7:=⟨rfl⟩
instance Awa{x0 x1 x2 x3 x4 x5 x6 x7 r:AV}{l:List AV}{k:Nat}[GA l (.tmp k) r]:GA (x0::x1::x2::x3::x4::x5::x6::x7::l) (.tmp (k+8)) r:=⟨Aq GA.e⟩
instance Av9{x0 x1 x2 x3 x4 x5 x6 x7 x8 x9 x10 x11 x12 x13 x14 x15 x16 x17 x18 x19 x20 x21 x22 x23 x24 x25 x26 x27 x28 x29 x30 x31 r:AV}{l:List AV}{k:Nat}[GA l (.tmp k) r]:GA (x0::x1::x2::x3::x4::x5::x6::x7::x8::x9::x10::x11::x12::x13::x14::x15::x16::x17::x18::x19::x20::x21::x22::x23::x24::x25::x26::x27::x28::x29::x30::x31::l) (.tmp (k+32)) r:=⟨As GA.e⟩
instance Av8{l:List AV}{r:AV}:PA l mE r l:=⟨rfl⟩
instance Av7{x0 r:AV}{l:List AV}:PA (x0::l) (mF 0) r (r::l):=⟨rfl⟩
instance Av6{x0 x1 r:AV}{l:List AV}:PA (x0::x1::l) (mF 1) r (x0::r::l):=⟨rfl⟩
instance Av5{x0 x1 x2 r:AV}{l:List AV}:PA (x0::x1::x2::l) (mF 2) r (x0::x1::r::l):=⟨rfl⟩
instance Av4{x0 x1 x2 x3 r:AV}{l:List AV}:PA (x0::x1::x2::x3::l) (mF 3) r (x0::x1::x2::r::l):=⟨rfl⟩
instance Av3{x0 x1 x2 x3 x4 r:AV}{l:List AV}:PA (x0::x1::x2::x3::x4::l) (mF 4) r (x0::x1::x2::x3::r::l):=⟨rfl⟩
instance Av2{x0 x1 x2 x3 x4 x5 r:AV}{l:List AV}:PA (x0::x1::x2::x3::x4::x5::l) (mF 5) r (x0::x1::x2::x3::x4::r::l):=⟨rfl⟩
instance Av1{x0 x1 x2 x3 x4 x5 x6 r:AV}{l:List AV}:PA (x0::x1::x2::x3::x4::x5::x6::l) (mF 6) r (x0::x1::x2::x3::x4::x5::r::l):=⟨rfl⟩
instance Av0{x0 x1 x2 x3 x4 x5 x6 x7 r:AV}{l:List AV}:PA (x0::x1::x2::x3::x4::x5::x6::x7::l) (mF 7) r (x0::x1::x2::x3::x4::x5::x6::r::l):=⟨rfl⟩
instance Avz{x0 x1 x2 x3 x4 x5 x6 x7 r:AV}{l l':List AV}{k:Nat}[PA l (mF k) r l']:PA (x0::x1::x2::x3::x4::x5::x6::x7::l) (mF (k+8)) r (x0::x1::x2::x3::x4::x5::x6::x7::l'):=⟨Ao PA.e⟩
instance Avy{x0 x1 x2 x3 x4 x5 x6 x7 x8 x9 x10 x11 x12 x13 x14 x15 x16 x17 x18 x19 x20 x21 x22 x23 x24 x25 x26 x27 x28 x29 x30 x31 r:AV}{l l':List AV}{k:Nat}[PA l (mF k) r l']:PA (x0::x1::x2::x3::x4::x5::x6::x7::x8::x9::x10::x11::x12::x13::x14::x15::x16::x17::x18::x19::x20::x21::x22::x23::x24::x25::x26::x27::x28::x29::x30::x31::l) (mF (k+32)) r (x0::x1::x2::x3::x4::x5::x6::x7::x8::x9::x10::x11::x12::x13::x14::x15::x16::x17::x18::x19::x20::x21::x22::x23::x24::x25::x26::x27::x28::x29::x30::x31::l'):=⟨Ar PA.e⟩
class BI(op:BinOp)(k:IntKind)(a b:Int)(v:outParam Value):Prop where
 e:It op k a b=some v
instance Avx{k:bT}{a b:Int}:BI .add k a b (.int k (k.wrap (a+b))):=⟨rfl⟩
instance Avw{k:bT}{a b:Int}:BI .sub k a b (.int k (k.wrap (a - b))):=⟨rfl⟩
instance Avv{k:bT}{a b:Int}:BI .mul k a b (.int k (k.wrap (a * b))):=⟨rfl⟩
instance Avu{k:bT}{a b:Int}:BI .eql k a b (.bool (a ==b)):=⟨rfl⟩
instance Avt{k:bT}{a b:Int}:BI .neq k a b (.bool (a !=b)):=⟨rfl⟩
instance Avs{k:bT}{a b:Int}:BI .lss k a b (.bool (aZ (a < b))):=⟨rfl⟩
instance Avr{k:bT}{a b:Int}:BI .gtr k a b (.bool (aZ (a > b))):=⟨rfl⟩
instance Avq{k:bT}{a b:Int}:BI .geq k a b (.bool (aZ (a≥b))):=⟨rfl⟩
class HB(h:List ABlk)(i:Nat)(b:outParam ABlk):Prop where
 e:h[i]? =some b
instance Avp{b:kA}{h:List kA}:HB (b::h) 0 b:=⟨rfl⟩
instance Avo{b c:kA}{h:List kA}{i:Nat}[HB h i b]:HB (c::h) (i+1) b:=⟨by rw[iG];exact HB.e⟩
class LD(l:List AV)(k:Nat)(x:outParam AV):Prop where
 e:(l.drop k)[0]? =some x
instance Avn{x:AV}{l:List AV}:LD (x::l) 0 x:=⟨rfl⟩
instance Avm{x y:AV}{l:List AV}{k:Nat}[LD l k x]:LD (y::l) (k+1) x:=⟨by rw[gT];exact LD.e⟩
class TK(l:List AV)(k n:Nat)(r:outParam (List AV)):Prop where
 e:(l.drop k).take n=r/\r.length=n
instance Avl{l:List AV}:TK l 0 0 []:=⟨by simp⟩
instance Avk{x:AV}{l r:List AV}{n:Nat}[TK l 0 n r]:TK (x::l) 0 (n+1) (x::r):=⟨by have h:=TK.e (l:=l) (k:=0) (n:=n) (r:=r);rw[gV]at h;rw[gV,j7,h.1,iY,h.2];exact⟨rfl,rfl⟩⟩
class AD(a b:Nat)(c:outParam Nat):Prop where
 e:a+b=c
instance Avj{n:Nat}:AD 0 n n:=⟨lU n⟩
class EL{α:Type}(T:Ty α)(d:α)(l:outParam (List AV)):Prop where
 e:∀(h:List ABlk) (off:Nat),KZ h (.bp T d off) (l.drop off)
instance Avi{α:Type}{T:Ty α}{d:α}{enc:α->List AV}[EncOf T enc]:EL T d (enc d):=⟨λ_ _=>KZ.bp EncOf.ok⟩
class QI(P:Program)(C:Ctx)(t:List AV)(h:List ABlk)(op:Op)(r:outParam AV):Prop where
 e:∀(d:Option Nat) (ty:TypeId) (ps:String) (af:Array Go.Edge),AT P C t h ⟨d,op,ty,ps,af,none⟩ r
section
variable{P:cX}{C:Ctx}{t t':List AV}{h h':List kA}
instance Avh{x:cW}{r:AV}[GA t x r]:QI P C t h (.move x) r:=⟨λ_ _ _ _=>AT.move V GA.e⟩
instance Avg{x:cW}{r:AV}[GA t x r]:QI P C t h (.assign x) r:=⟨λ_ _ _ _=>AT.assign V GA.e⟩
instance Avf{op:BinOp}{g d:eN}{x z:cW}{k:bT}{a b:Int}{v:eO}[GA t x (.lit (.int k a))][GA t z (.lit (.int k b))][BI op k a b v]:QI P C t h (.binOp op g x z d) (.lit v):=⟨λ_ _ _ _=>CD V GA.e GA.e BI.e⟩
instance Ave{d:eN}{x:cW}{b:Bool}[GA t x (.lit (.bool b))]:QI P C t h (.unOp .not d x) (.lit (.bool (!b))):=⟨λ_ _ _ _=>Cm V GA.e⟩
instance Avd{ty:eN}{x:cW}{n i off:Nat}{r:AV}{cells:List AV}[AG P ty aS n][GA t x (.ptr i off)][HB h i (.box cells)][LD cells off r]:QI P C t h (.load ty x) r:=⟨λ_ _ _ _=>Bf V GA.e HB.e LD.e⟩
instance Avc{ty:eN}{x:cW}{n i off:Nat}{cells r:List AV}[AG P ty aX n][GA t x (.ptr i off)][HB h i (.box cells)][TK cells off n r]:QI P C t h (.load ty x) (.agg r):=⟨λ_ _ _ _=>Ge V AG.eq GA.e (KZ.ptr HB.e) (TK.e (l:=cells) (k:=off) (n:=n) (r:=r)).1 (TK.e (l:=cells) (k:=off) (n:=n) (r:=r)).2⟩
instance Avb{ty:eN}{x:cW}{n off:Nat}{r:AV}{α:Type}{T:Ty α}{d:α}{cells:List AV}[AG P ty aS n][GA t x (.bp T d off)][EL T d cells][LD cells off r]:QI P C t h (.load ty x) r:=⟨λ_ _ _ _=>D8 V AG.eq GA.e (EL.e h off) LD.e⟩
instance Ava{ty:eN}{x:cW}{n off:Nat}{r:List AV}{α:Type}{T:Ty α}{d:α}{cells:List AV}[AG P ty aX n][GA t x (.bp T d off)][EL T d cells][TK cells off n r]:QI P C t h (.load ty x) (.agg r):=⟨λ_ _ _ _=>Ge V AG.eq GA.e (EL.e h off) (TK.e (l:=cells) (k:=off) (n:=n) (r:=r)).1 (TK.e (l:=cells) (k:=off) (n:=n) (r:=r)).2⟩
instance Au9{st:eN}{x:cW}{j n m i off:Nat}{cells:List AV}[FO P st j n][GA t x (.ptr i off)][HB h i (.box cells)][AD off n m]:QI P C t h (.fieldAddr st x j) (.ptr i m):=⟨λ_ _ _ _=>by rw[<-AD.e (a:=off) (b:=n) (c:=m)];exact Br V GA.e HB.e⟩
instance Au8{st:eN}{x:cW}{j n m off:Nat}{α:Type}{T:Ty α}{d:α}[FO P st j n][GA t x (.bp T d off)][AD off n m]:QI P C t h (.fieldAddr st x j) (.bp T d m):=⟨λ_ _ _ _=>by rw[<-AD.e (a:=off) (b:=n) (c:=m)];exact Co V GA.e⟩
instance Au7{ty:eN}{x:cW}{α:Type}{T:Ty α}{l:List α}[SL P ty][GA t x (.bs T l)]:QI P C t h (.call {callee:=.builtin .len,args:=#[x],argTypes:=#[ty]}) (.lit (.int .i64 (l.length:Int))):=⟨λ_ _ _ _=>AT.ln V GA.e⟩
instance Au6{ty:eN}{x:cW}{i ver:Nat}{e:eN}{α:Type}{T:Ty α}{l:List α}[SL P ty][GA t x (.own i ver)][HB h i (.row ver e T l)]:QI P C t h (.call {callee:=.builtin .len,args:=#[x],argTypes:=#[ty]}) (.lit (.int .i64 (l.length:Int))):=⟨λ_ _ _ _=>Gf V GA.e HB.e⟩
instance Au5{x:cW}{j:Nat}{xs:List AV}{r:AV}[GA t x (.tup xs)][LD xs j r]:QI P C t h (.extract x j) r:=⟨λ_ _ _ _=>AT.extract V GA.e (by rw[<-LD.e (l:=xs) (k:=j) (x:=r),iI,lF])⟩
instance Au4{c a b:cW}{q e:Bool}[GA t c (.lit (.bool q))][GA t a (.lit (.bool aX))][GA t b (cond (!q) (.lit (.bool e)) (.lit undef))]:QI P C t h (.pick c a b) (.lit (.bool (q||e))):=⟨λ_ _ _ _=>Ij V GA.e GA.e GA.e⟩
instance Au3{c a b:cW}{q e:Bool}[GA t c (.lit (.bool q))][GA t a (cond q (.lit (.bool e)) (.lit undef))][GA t b (.lit (.bool aS))]:QI P C t h (.pick c a b) (.lit (.bool (q&&e))):=⟨λ_ _ _ _=>C8 V GA.e GA.e GA.e⟩
end
section
variable{P:cX}{C:Ctx}{t t':List AV}{h h':List kA}{ops:Array cQ}{rest l:List cQ}{d:Option Nat}{ty:eN}{ps:String}{af:Array bH}{K:St->Prop}{L:List AV->Prop}{y:bE}{Q:bJ->St->Prop}{id:Nat}
theorem wS(hx:CP P C l.toArray (λs=>Awp P C y Q s) l ⟨t,h⟩):Awp P C (.seq (.region id l.toArray aS) y) Q ⟨t,h⟩:=Ab λ_ g=>kL (Dn (λ_ e=>g _ e) hx)
theorem wSE(hx:CP P C l.toArray (Q .normal) l ⟨t,h⟩):Awp P C (.region id l.toArray aS) Q ⟨t,h⟩:=kL hx
theorem wN(hk:K s):CP P C ops K [] s:=hk
theorem qN(hk:L t):aQ P C ops h L [] t:=hk
theorem sT[QI P C t h op r][PA t d r t'](hk:CP P C ops K rest ⟨t',h⟩):CP P C ops K (⟨d,op,ty,ps,af,mE⟩::rest) ⟨t,h⟩:=sA (hg:=rfl) (hq:=QI.e d ty ps af) (ht:=PA.e) (hk:=hk)
theorem qT[QI P C t h op r][PA t d r t'](hk:aQ P C ops h L rest t'):aQ P C ops h L (⟨d,op,ty,ps,af,mE⟩::rest) t:=qA (hg:=rfl) (hq:=QI.e d ty ps af) (ht:=PA.e) (hk:=hk)
theorem sX{z:cW}[Inhabited α]{l:List α}(g:Ch l m=aX)[GA t x (.bs T l)][GA t z (.lit (.int ik m))][ES P st n][PA t d (.bp T (ixD l m) 0) t'](hk:CP P C ops K rest ⟨t',h⟩)(j:T.size=n:=by exact V):CP P C ops K (⟨d,.indexAddr st x z,ty,ps,af,mE⟩::rest) ⟨t,h⟩:=sA (hg:=rfl) (hq:=Ff V GA.e GA.e j g) (ht:=PA.e) (hk:=hk)
theorem qX{z:cW}[Inhabited α]{l:List α}(g:Ch l m=aX)[GA t x (.bs T l)][GA t z (.lit (.int ik m))][ES P st n][PA t d (.bp T (ixD l m) 0) t'](hk:aQ P C ops h L rest t')(j:T.size=n:=by exact V):aQ P C ops h L (⟨d,.indexAddr st x z,ty,ps,af,mE⟩::rest) t:=qA (hg:=rfl) (hq:=Ff V GA.e GA.e j g) (ht:=PA.e) (hk:=hk)
theorem sC{args:Array cW}(j:Fn P f xs r)[PA t d r t'](hk:CP P C ops K rest ⟨t',h⟩)(hx:args.toList.map (evA t)=xs:=by exact V)(hc:Bj xs=true:=by exact V)(g:AV.cl r=true:=by exact V):CP P C ops K (⟨d,.call {callee:=.value (.func f),args:=args,argTypes:=tys},ty,ps,af,mE⟩::rest) ⟨t,h⟩:=sA (hg:=rfl) (hq:=AM V hx j hc g) (ht:=PA.e) (hk:=hk)
theorem qC{args:Array cW}(j:Fn P f xs r)[PA t d r t'](hk:aQ P C ops h L rest t')(hx:args.toList.map (evA t)=xs:=by exact V)(hc:Bj xs=true:=by exact V)(g:AV.cl r=true:=by exact V):aQ P C ops h L (⟨d,.call {callee:=.value (.func f),args:=args,argTypes:=tys},ty,ps,af,mE⟩::rest) t:=qA (hg:=rfl) (hq:=AM V hx j hc g) (ht:=PA.e) (hk:=hk)
end
class GX(g:Bool)(t:List AV)(x:Operand)(r:outParam AV):Prop where
 e:g=true->evA t x=r
instance Au2{g:Bool}{t:List AV}{x:cW}{r:AV}[GA t x r]:GX g t x r:=⟨λ_=>GA.e⟩
instance Au1{g:Bool}{t:List AV}{x:cW}{r:AV}[GA t x (cond g r (.lit undef))]:GX g t x r:=⟨λh=>by have e:=GA.e (t:=t) (x:=x) (r:=cond g r (.lit undef));rw[e,h];rfl⟩
class QG(P:Program)(C:Ctx)(t:List AV)(h:List ABlk)(op:Op)(g:Bool)(r:outParam AV):Prop where
 e:∀(d:Option Nat) (ty:TypeId) (ps:String) (af:Array Go.Edge) (gd:Option (Nat×Bool)),g=true->AT P C t h ⟨d,op,ty,ps,af,gd⟩ r
section
variable{P:cX}{C:Ctx}{t t':List AV}{h h':List kA}{g:Bool}
instance Au0{x:cW}{r:AV}[GX g t x r]:QG P C t h (.move x) g r:=⟨λ_ _ _ _ _ hg=>AT.move V (GX.e hg)⟩
instance Auz{op:BinOp}{u j:eN}{x z:cW}{k:bT}{a b:Int}{v:eO}[GX g t x (.lit (.int k a))][GX g t z (.lit (.int k b))][BI op k a b v]:QG P C t h (.binOp op u x z j) g (.lit v):=⟨λ_ _ _ _ _ hg=>CD V (GX.e hg) (GX.e hg) BI.e⟩
instance Auy{j:eN}{x:cW}{b:Bool}[GX g t x (.lit (.bool b))]:QG P C t h (.unOp .not j x) g (.lit (.bool (!b))):=⟨λ_ _ _ _ _ hg=>Cm V (GX.e hg)⟩
instance Aux{ty:eN}{x:cW}{n i off:Nat}{r:AV}{cells:List AV}[AG P ty aS n][GX g t x (.ptr i off)][HB h i (.box cells)][LD cells off r]:QG P C t h (.load ty x) g r:=⟨λ_ _ _ _ _ hg=>Bf V (GX.e hg) HB.e LD.e⟩
instance Auw{ty:eN}{x:cW}{n off:Nat}{r:AV}{α:Type}{T:Ty α}{d:α}{cells:List AV}[AG P ty aS n][GX g t x (.bp T d off)][EL T d cells][LD cells off r]:QG P C t h (.load ty x) g r:=⟨λ_ _ _ _ _ hg=>D8 V AG.eq (GX.e hg) (EL.e h off) LD.e⟩
instance Auv{st:eN}{x:cW}{j n m i off:Nat}{cells:List AV}[FO P st j n][GX g t x (.ptr i off)][HB h i (.box cells)][AD off n m]:QG P C t h (.fieldAddr st x j) g (.ptr i m):=⟨λ_ _ _ _ _ hg=>by rw[<-AD.e (a:=off) (b:=n) (c:=m)];exact Br V (GX.e hg) HB.e⟩
instance Auu{st:eN}{x:cW}{j n m off:Nat}{α:Type}{T:Ty α}{d:α}[FO P st j n][GX g t x (.bp T d off)][AD off n m]:QG P C t h (.fieldAddr st x j) g (.bp T d m):=⟨λ_ _ _ _ _ hg=>by rw[<-AD.e (a:=off) (b:=n) (c:=m)];exact Co V (GX.e hg)⟩
instance Aut{ty:eN}{x:cW}{α:Type}{T:Ty α}{l:List α}[SL P ty][GX g t x (.bs T l)]:QG P C t h (.call {callee:=.builtin .len,args:=#[x],argTypes:=#[ty]}) g (.lit (.int .i64 (l.length:Int))):=⟨λ_ _ _ _ _ hg=>AT.ln V (GX.e hg)⟩
end
class HA(h:List ABlk)(b:ABlk)(i:outParam Nat)(h':outParam (List ABlk)):Prop where
 e:h.length=i/\h++[b]=h'
instance Aus{b:kA}:HA [] b 0 [b]:=⟨rfl,rfl⟩
instance Aur{b j:kA}:HA [j] b 1 [j,b]:=⟨rfl,rfl⟩
instance Auq{b u j:kA}:HA [u,j] b 2 [u,j,b]:=⟨rfl,rfl⟩
instance Aup{b A u j:kA}:HA [A,u,j] b 3 [A,u,j,b]:=⟨rfl,rfl⟩
instance Auo{b B A u j:kA}:HA [B,A,u,j] b 4 [B,A,u,j,b]:=⟨rfl,rfl⟩
instance Aun{b D B A u j:kA}:HA [D,B,A,u,j] b 5 [D,B,A,u,j,b]:=⟨rfl,rfl⟩
instance Aum{b F E D B A u j:kA}:HA [F,E,D,B,A,u,j] b 7 [F,E,D,B,A,u,j,b]:=⟨rfl,rfl⟩
class HS(h:List ABlk)(i:Nat)(b:ABlk)(h':outParam (List ABlk)):Prop where
 e:h.set i b=h'
instance Aul{b c:kA}{h:List kA}:HS (c::h) 0 b (b::h):=⟨rfl⟩
instance Auk{b c:kA}{h h':List kA}{i:Nat}[HS h i b h']:HS (c::h) (i+1) b (c::h'):=⟨by rw[List.set_cons_succ,HS.e (h:=h) (i:=i) (b:=b) (h':=h')]⟩
class OneI(h:List ABlk)(x:AV):Prop where
 e:One h x
instance Auj{h:List kA}{k:bT}{n:Int}:OneI h (.lit (.int k n)):=⟨One.lit V⟩
instance Aui{h:List kA}{b:Bool}:OneI h (.lit (.bool b)):=⟨One.lit V⟩
instance Auh{h:List kA}{b:ByteArray}:OneI h (.lit (.string b)):=⟨One.lit V⟩
instance Aug{h:List kA}{a:Option a6}{n c:Nat}:OneI h (.lit (.slice a n c)):=⟨One.lit V⟩
instance Auf{h:List kA}{α:Type}{T:Ty α}{l:List α}:OneI h (.bs T l):=⟨One.bs⟩
class AllO(h:List ABlk)(l:List AV):Prop where
 e:∀x∈l,One h x
instance Aue{h:List kA}:AllO h []:=⟨λ_ hx=>by cases hx⟩
instance Aud{h:List kA}{x:AV}{l:List AV}[OneI h x][AllO h l]:AllO h (x::l):=⟨λy hy=>by
 rcases jF.1 hy with rfl|hy
 ·exact OneI.e
 ·exact AllO.e (h:=h) (l:=l) y hy⟩
class PT(h:List ABlk)(y:AV)(new:outParam (List AV)):Prop where
 e:P0 h y new
instance Auc{h:List kA}{l:List AV}[AllO h l]:PT h (.agg l) l:=⟨P0.agg AllO.e⟩
instance Aub{h:List kA}{x:AV}[OneI h x]:PT h x [x]:=⟨P0.one OneI.e⟩
class WR(cells:List AV)(off:Nat)(new:List AV)(r:outParam (List AV)):Prop where
 e:cells.take off++new++cells.drop (off+new.length)=r/\off+new.length<=cells.length
instance Aua{l:List AV}:WR l 0 [] l:=⟨by simp⟩
instance At9{c x:AV}{l new r:List AV}[WR l 0 new r]:WR (c::l) 0 (x::new) (x::r):=⟨by
 have h:=WR.e (cells:=l) (off:=0) (new:=new) (r:=r);simp only[j9,jN,lU,iY,gK,gT]at h⊢;exact⟨by rw[h.1],by omega⟩⟩
instance At8{c:AV}{l new r:List AV}{k:Nat}[WR l k new r]:WR (c::l) (k+1) new (c::r):=⟨by
 have h:=WR.e (cells:=l) (off:=k) (new:=new) (r:=r);rw[show k+1+new.length=(k+new.length)+1 by omega,j7,gT,gK,gK,h.1,iY];exact⟨rfl,by omega⟩⟩
class ML(zs:List Value)(l:outParam (List AV)):Prop where
 e:zs.map AV.lit=l
instance Ayb:ML [] []:=⟨rfl⟩
instance At7{z:eO}{zs:List eO}{l:List AV}[ML zs l]:ML (z::zs) (.lit z::l):=⟨by rw[jB,ML.e (zs:=zs) (l:=l)]⟩
section
variable{P:cX}{C:Ctx}{t t':List AV}{h h':List kA}{ops:Array cQ}{rest l l1 l2:List cQ}{d:Option Nat}{ty:eN}{ps:String}{af:Array bH}{gd:Option (Nat×Bool)}{K:St->Prop}{L:List AV->Prop}{y:bE}{Q:bJ->St->Prop}{id j:Nat}{g:Bool}
theorem sGt(hg:gA ops t ⟨d,op,ty,ps,af,mF (j,aX)⟩=mF (g ==aX))[QG P C t h op g r][PA t d (cond g r (.lit undef)) t'](hk:CP P C ops K rest ⟨t',h⟩):CP P C ops K (⟨d,op,ty,ps,af,mF (j,aX)⟩::rest) ⟨t,h⟩:=sG (hg:=Kj hg) (hq:=λhg=>QG.e d ty ps af (mF (j,aX)) hg) (ht:=PA.e) (hk:=hk)
theorem sGf(hg:gA ops t ⟨d,op,ty,ps,af,mF (j,aS)⟩=mF (g ==aS))[QG P C t h op (!g) r][PA t d (cond (!g) r (.lit undef)) t'](hk:CP P C ops K rest ⟨t',h⟩):CP P C ops K (⟨d,op,ty,ps,af,mF (j,aS)⟩::rest) ⟨t,h⟩:=sG (hg:=WG hg) (hq:=λhg=>QG.e d ty ps af (mF (j,aS)) hg) (ht:=PA.e) (hk:=hk)
theorem qGt(hg:gA ops t ⟨d,op,ty,ps,af,mF (j,aX)⟩=mF (g ==aX))[QG P C t h op g r][PA t d (cond g r (.lit undef)) t'](hk:aQ P C ops h L rest t'):aQ P C ops h L (⟨d,op,ty,ps,af,mF (j,aX)⟩::rest) t:=qG (hg:=Kj hg) (hq:=λhg=>QG.e d ty ps af (mF (j,aX)) hg) (ht:=PA.e) (hk:=hk)
theorem qGf(hg:gA ops t ⟨d,op,ty,ps,af,mF (j,aS)⟩=mF (g ==aS))[QG P C t h op (!g) r][PA t d (cond (!g) r (.lit undef)) t'](hk:aQ P C ops h L rest t'):aQ P C ops h L (⟨d,op,ty,ps,af,mF (j,aS)⟩::rest) t:=qG (hg:=WG hg) (hq:=λhg=>QG.e d ty ps af (mF (j,aS)) hg) (ht:=PA.e) (hk:=hk)
theorem Aod{z:cW}[Inhabited α]{l:List α}(hg:gA ops t ⟨d,.indexAddr st x z,ty,ps,af,mF (j,aX)⟩=mF (g ==aX))(u:(!g||Ch l m)=aX)[GX g t x (.bs T l)][GX g t z (.lit (.int ik m))][ES P st n][PA t d (cond g (.bp T (ixD l m) 0) (.lit undef)) t'](hk:CP P C ops K rest ⟨t',h⟩)(A:T.size=n:=by exact V):CP P C ops K (⟨d,.indexAddr st x z,ty,ps,af,mF (j,aX)⟩::rest) ⟨t,h⟩:=sG (hg:=Kj hg) (hq:=λhg=>Ff V (GX.e hg) (GX.e hg) A (Uq u hg)) (ht:=PA.e) (hk:=hk)
theorem Aq6{z:cW}[Inhabited α]{l:List α}(hg:gA ops t ⟨d,.indexAddr st x z,ty,ps,af,mF (j,aX)⟩=mF (g ==aX))(u:(!g||Ch l m)=aX)[GX g t x (.bs T l)][GX g t z (.lit (.int ik m))][ES P st n][PA t d (cond g (.bp T (ixD l m) 0) (.lit undef)) t'](hk:aQ P C ops h L rest t')(A:T.size=n:=by exact V):aQ P C ops h L (⟨d,.indexAddr st x z,ty,ps,af,mF (j,aX)⟩::rest) t:=qG (hg:=Kj hg) (hq:=λhg=>Ff V (GX.e hg) (GX.e hg) A (Uq u hg)) (ht:=PA.e) (hk:=hk)
theorem sB{u:eN}{cells:List AV}[GA t x (.agg cells)][HA h (.box cells) i h'][PA t d (.ptr i 0) t'](hk:CP P C ops K rest ⟨t',h'⟩):CP P C ops K (⟨d,.box u x,ty,ps,af,mE⟩::rest) ⟨t,h⟩:=AF V (AOp.boxI i (HA.e (b:=.box cells) (h':=h')).1 V (by rw[GA.e (t:=t) (x:=x) (r:=.agg cells)];exact Vx.agg) (by rw[(HA.e (h:=h) (b:=.box cells) (i:=i) (h':=h')).2,PA.e (t:=t) (d:=d) (r:=.ptr i 0) (t':=t')];exact hk))
theorem sA0{u:eN}{cells:List AV}[ZC P u zs][ML zs cells][HA h (.box cells) i h'][PA t d (.ptr i 0) t'](hk:CP P C ops K rest ⟨t',h'⟩):CP P C ops K (⟨d,.alloc u,ty,ps,af,mE⟩::rest) ⟨t,h⟩:=AF V (SQ i (HA.e (b:=.box cells) (h':=h')).1 V (by rw[ML.e (zs:=zs) (l:=cells),(HA.e (h:=h) (b:=.box cells) (i:=i) (h':=h')).2,PA.e (t:=t) (d:=d) (r:=.ptr i 0) (t':=t')];exact hk))
theorem sW{u:eN}{z:cW}{off:Nat}{cells new r:List AV}{v:AV}[SZ P u n][GA t x (.ptr i off)][HB h i (.box cells)][GA t z v][PT h v new][WR cells off new r][HS h i (.box r) h'][PA t d (.lit undef) t'](hk:CP P C ops K rest ⟨t',h'⟩)(A:n=new.length:=by exact V):CP P C ops K (⟨d,.store u x z,ty,ps,af,mE⟩::rest) ⟨t,h⟩:=
 AF V (CN V GA.e HB.e (by rw[GA.e (t:=t) (x:=z) (r:=v)];exact PT.e) A (WR.e (cells:=cells) (off:=off) (new:=new) (r:=r)).2 (by rw[(WR.e (cells:=cells) (off:=off) (new:=new) (r:=r)).1,HS.e (h:=h) (i:=i) (b:=.box r) (h':=h'),PA.e (t:=t) (d:=d) (r:=.lit undef) (t':=t')];exact hk))
theorem sP{at_:eN}{z:cW}{bytes:Nat}{l l2:List α}(A:Fj (l.length+l2.length) bytes=aX)[GA t x (.own i ver)][HB h i (.row ver e T l)][GA t z (.bs T l2)][RT P at_ e n bytes][EncOf T enc][HS h i (.row (ver+1) e T (l++l2)) h'][PA t d (.own i (ver+1)) t'](hk:CP P C ops K rest ⟨t',h'⟩)(u:T.size=n:=by exact V):CP P C ops K (⟨d,.call {callee:=.builtin .append,args:=#[x,z],argTypes:=#[at_,at_]},ty,ps,af,mE⟩::rest) ⟨t,h⟩:=AF V (J6 V GA.e HB.e GA.e u A (by rw[HS.e (h:=h) (i:=i) (b:=.row (ver+1) e T (l++l2)) (h':=h'),PA.e (t:=t) (d:=d) (r:=.own i (ver+1)) (t':=t')];exact hk))
theorem dS(n:Nat)(u:P.follows .mixedOrders=true:=by kernel_rfl)(B:Ab9 l.toArray n=true:=by kernel_rfl)(h1:l.take n=l1:=by(simp only[zad];exact V))(h2:l.drop n=l2:=by(simp only[zad];exact V))
 (hq:aQ P C l.toArray h (λt=>CP P C l.toArray (λs=>Awp P C y Q s) l2 ⟨t,h⟩) l1 t):Awp P C (.seq (.region id l.toArray aX) y) Q ⟨t,h⟩:=by
 subst h1 h2;exact Ab λ_ A=>Om n u B (Xl (λ_ hx=>Dn (λs e=>A _ e) hx) hq)
theorem dSE(n:Nat)(u:P.follows .mixedOrders=true:=by kernel_rfl)(A:Ab9 l.toArray n=true:=by kernel_rfl)(h1:l.take n=l1:=by(simp only[zad];exact V))(h2:l.drop n=l2:=by(simp only[zad];exact V))
 (hq:aQ P C l.toArray h (λt=>CP P C l.toArray (Q .normal) l2 ⟨t,h⟩) l1 t):Awp P C (.region id l.toArray aX) Q ⟨t,h⟩:=by
 subst h1 h2;exact Om n u A hq
end
open Go.Shelf
attribute [local go_sem] cR
theorem Xc(F:Fence)(n:Nat)(h78:F.fn 152)(hro:F.round=mE)(A:Option a6)(m c:Nat)(w:eT):
 bD F n dG 152 #[.slice A m c] w λe w'=>e= .returned (.func (.func 166) #[] #[.pointer (mF ⟨w.heap.size,0,mE⟩)])/\w'=w.alloc (.cells #[.slice A m c] 48):=by
 refine fC Tryz.func152 V h78 ?_ hro;simp only[Tryz.ntmps152,Nat.reduceAdd,Nat.reduceSub,zae]
 gi_wp2
 go_ret
 exact⟨rfl,rfl⟩
attribute [local go_sem] cR
theorem Xd(F:Fence)(n:Nat)(h105:F.fn 166)(hro:F.round=mE)(hn:1<=n)(l:Nat)(ds:List Ins)(A:Option a6)(c Bb:Nat)(S0 S:Nat->Prop)(hS0:∀k,S0 k->S k)(W0 W:eT)(J:Nat->eT->Prop)
 (hW:KS S W0 W)
 (hY:∀(k j:Nat) (es:List eO) (d:Ins) (W:eT),k+j+1=ds.length->ds[j]? =mF d->Eh.RS W0 S0 es d->J k W->YieldAt F (n - 1) dG l #[.int .i64 (j:Int),.agg es.toArray] W λe W'=>e= .returned (.bool aX)/\J (k+1) W'/\KS S W W')
 (hB:S Bb)(hB0:W0.cell? ⟨Bb,0,mE⟩=mF (.slice A ds.length c))(hR:Eh.slice.RS W0 S0 [.slice A ds.length c] ds)(hl:ds.length<=2097152)(h0:J 0 W):
 bD F n dG 166 #[.func (.yield l) #[] #[],.pointer (mF ⟨Bb,0,mE⟩)] W λe W'=>(∃v,e= .returned v)/\J ds.length W':=by
 have HR:=cB hR;have HY:=cB hY;have H0:=cB h0;have x1:bV.wrap ((ds.length:Int) - 1)=(ds.length:Int) - 1:=bZ _ (by omega);have hb0:=hW.cell hB hB0;clear hR hY h0;refine fC Tryz.func166 V h105 ?_ hro;simp only[Tryz.ntmps166,Nat.reduceAdd,Nat.reduceSub,zae]
 gi_wp2
 gi_loopw [3] (λi wr=>∃m:Nat,m<=ds.length/\i= .int .i64 ((m:Int) - 1)/\J (ds.length - m) wr/\KS S W wr) (λi _=>(eJ i+1).toNat)
 case atStart=>exact⟨ds.length,lI _,rfl,by rw[lS];exact H0.out,KS.refl⟩
 case round=>
  obtain⟨m,hm,rfl,hJ,hK⟩:=hrel;rcases m with _|j
  ·have d0:aZ ((0:Int)<=((0:Nat):Int) - 1)=aS:=decide_eq_false (by omega)
   gi_wp2
   go_end0
   exact⟨⟨_,rfl⟩,hJ⟩
  ·have ej:((j+1:Nat):Int) - 1=(j:Int):=by omega
   rw[ej];have d0:aZ ((0:Int)<=(j:Int))=aX:=decide_eq_true (by omega);have x2:bV.wrap ((j:Int) - 1)=(j:Int) - 1:=bZ _ (by omega);obtain⟨x,hxk⟩:∃x,ds[j]? =mF x:=⟨_,iJ (by omega)⟩
   obtain⟨ib,io,Aa,ca,rfl,hib,hat⟩:=Afy HR.out hxk;replace hib:=hS0 _ hib;have hK0:=hW.trans hK;have e0:=hK0.cell (a:=⟨ib,_,mE⟩) hib hat.c0;have e1:=hK0.cell (a:=⟨ib,_,mE⟩) hib hat.c1;have e2:=hK0.cell (a:=⟨ib,_,mE⟩) hib hat.c2;have e3:=hK0.cell (a:=⟨ib,_,mE⟩) hib hat.c3;have e4:=hK0.cell (a:=⟨ib,_,mE⟩) hib hat.c4;have e5:=hK0.cell (a:=⟨ib,_,mE⟩) hib hat.c5;have e6:=hK0.cell (a:=⟨ib,_,mE⟩) hib hat.c6;have e7:=hK0.cell (a:=⟨ib,_,mE⟩) hib hat.c7;have e8:=hK0.cell (a:=⟨ib,_,mE⟩) hib hat.c8;have eb:=hK0.cell hB hB0;have hjl:(j:Int) < (ds.length:Int):=by omega
   obtain⟨fn,tmps,assign,body,hy,hR⟩:=HY.out (ds.length - (j+1)) j [.int .u8 x.op,.int .i64 x.d,.int .i64 x.a,.int .i64 x.b,.int .u32 x.n,.int .i64 x.f,.slice Aa x.args.length ca,.int .i64 x.l1,.int .i64 x.l2] x wr (by omega) hxk (IH.2 ⟨Aa,ca,hat.raw⟩) hJ;clear hat hxk
   gi_wp2
   refine hR.mono ?_;rintro e W3 ⟨rfl,hJ3,hk3⟩
   gi_wp2
   go_roundw
   case rel=>
    refine⟨j,by omega,rfl,?_,hK.trans hk3⟩;rw[show ds.length - (j+1)+1=ds.length - j by omega]at hJ3;exact hJ3
   case measure=>simp[eJ]
def bkR(ds:List Ins)(p:Nat×Option a6×Nat):Res:=⟨[],λg=>g=p.1,λw S=>w.heap[p.1]? =mF (.cells #[.slice p.2.1 ds.length p.2.2] 48 (0,0))/\Eh.slice.RS w S [.slice p.2.1 ds.length p.2.2] ds,
 λh hk A u=>⟨(hk _ V).trans h.1,Eh.slice.keepS h.2 A u⟩⟩
def bkF(p:Nat×Option a6×Nat):eO:=.func (.func 166) #[] #[.pointer (mF ⟨p.1,0,mE⟩)]
theorem Nu(ds:List Ins):M5 dG 152 [.bs Eh ds] (bkR ds) bkF:=by
 refine⟨by kernel_rfl,λw S vs E D=>?_⟩;unfold Af kK Af at D;obtain⟨v,_,rfl,B,rfl⟩:=D;obtain⟨A,c,e,hx⟩:=id B;simp only[List.cons.injEq,and_true]at e;subst e;refine((fE (n:=4)).1 (Xc bK 4 trivial V A ds.length c w)).mono ?_;rintro e w' ⟨rfl,rfl⟩;have u:Below w.heap.size w (w.alloc (.cells #[.slice A ds.length c] 48)):=(eI _ _).alloc (lI _) _;exact⟨_,rfl,⟨u.os,u.tape,u.output,u.size,λk hk _=>u.block k hk⟩,(w.heap.size,A,c),rfl,⟨fK w _,Eh.slice.keepS B (λk hk=>u.block k (E k hk)) λ_ h=>h⟩,λk hk=>by
  have hk:k=w.heap.size:=hk;subst hk;exact⟨.inr (lI _),by simp⟩⟩
def bkE(ds:List Ins)(k:Nat):List AV:=match ds[ds.length - 1 - k]? with
 |some d=>[.lit (.int .i64 ((ds.length - 1 - k:Nat):Int)),.agg (BW d)]
 |none=>(A2 [])
theorem Mc(ds:List Ins)(D:ds.length<=2097152)(p:Nat×Option a6×Nat)(w:eT)(S:Nat->Prop)(U:∀k,S k->k < w.heap.size)(X:∀k,(bkR ds p).F k->k < w.heap.size)(B:(bkR ds p).R w S):
 Aq2 dG 166 #[.pointer (mF ⟨p.1,0,mE⟩)] (λk=>S k\/(bkR ds p).F k) w (λk vs=>Af w S [] ψ0 (bkE ds k) vs) ds.length:=λl J W I H h0=>by
 refine Xd bK 3 trivial V (by decide) l ds p.2.1 p.2.2 p.1 S (λk=>S k\/(bkR ds p).F k) (λ_ h=>.inl h) w W J I ?_ (.inr V) (Of (cs:=[_]) B.1 V) B.2 D h0;intro k j A d O E G u N;refine H k [.int .i64 (j:Int),.agg A.toArray] O (by omega) ?_ N;have F:ds.length - 1 - k=j:=by omega
 show Af w S [] ψ0 (bkE ds k) _;unfold bkE;rw[F,G];unfold Af;refine⟨_,_,rfl,by unfold kK;rfl,?_⟩;unfold Af;refine⟨_,_,rfl,?_,by unfold Af;rfl⟩;unfold kK;exact⟨A,rfl,EncOf.ok (T:=Eh) w S [] ψ0 A d u⟩
theorem Anw(ds:List Ins)(k:Nat):Bj (bkE ds k)=aX:=by
 unfold bkE;split <;> rfl
theorem Ahh(ds:List Ins)(k:Nat):(bkE ds k).length=2:=by
 unfold bkE;split <;> rfl
end Mu
section
namespace Go.Proofs
open Go.Shelf
def Tryz.keysM_ren:eM:=⟨fun|7=>165|10=>181|n=>n,fun|23=>156|26=>3|3=>3|28=>90|0=>0|27=>89|33=>50|4=>4|n=>n,fun|n=>n⟩
theorem Tryz.keysM:Go.Proofs.SlLaysZI.n7 dG Tryz.keysM_ren:={
 mixed:=by kernel_rfl
 f7:=⟨Tryz.f165.name,by decide,Tryz.func165.trans (congrArg mF (by kernel_rfl))⟩
 f10:=⟨Tryz.f181.name,by decide,cY.trans (congrArg mF (by kernel_rfl))⟩
 t0:=dN
 a0:=dA
 z0:=dH
 v0:=dU
 t4:=dR
 a4:=dE
 z4:=dL
 v4:=dY
 t23:=dO
 a23:=dB
 z23:=dI
 v23:=dV
 t26:=dQ
 a26:=dD
 z26:=dK
 v26:=dX
 t27:=Tryz.underlying89
 a27:=Tryz.isAgg89
 z27:=Tryz.sizeOf89
 v27:=Tryz.zeroValue89
 t28:=dT
 a28:=dF
 z28:=dM
 v28:=dZ
 t33:=Tryz.underlying50
 a33:=Tryz.isAgg50
 z33:=Tryz.sizeOf50
 v33:=Tryz.zeroValue50}
def Tryz.sortedM_ren:eM:=⟨fun|6=>56|8=>96|9=>62|11=>117|13=>99|12=>98|23=>126|24=>127|14=>118|15=>119|16=>120|17=>121|18=>122|19=>123|20=>73|21=>124|22=>125|25=>145|26=>146|27=>147|28=>148|29=>149|30=>107|31=>163|n=>n,fun|26=>3|28=>90|24=>27|0=>0|3=>3|37=>104|48=>45|50=>151|4=>4|40=>144|39=>143|45=>68|5=>5|9=>9|51=>166|55=>170|57=>185|58=>186|33=>50|n=>n,fun|n=>n⟩
theorem Tryz.sortedM:Go.Proofs.SlLaysZI.n6 dG Tryz.sortedM_ren:={
 mixed:=by kernel_rfl
 f6:=⟨Tryz.f56.name,by decide,Tryz.func56.trans (congrArg mF (by kernel_rfl))⟩
 f8:=⟨Tryz.f96.name,by decide,Tryz.func96.trans (congrArg mF (by kernel_rfl))⟩
 f11:=⟨Tryz.f117.name,by decide,Tryz.func117.trans (congrArg mF (by kernel_rfl))⟩
 t0:=dN
 a0:=dA
 z0:=dH
 v0:=dU
 t24:=dP
 a24:=dC
 z24:=dJ
 v24:=dW
 t26:=dQ
 a26:=dD
 z26:=dK
 v26:=dX
 t28:=dT
 a28:=dF
 z28:=dM
 v28:=dZ
 i26:=by kernel_rfl}
def Tryz.sortM_ren:eM:=⟨fun|5=>62|8=>99|7=>98|19=>126|20=>127|10=>118|11=>119|12=>120|13=>121|14=>122|15=>123|16=>73|17=>124|18=>125|30=>145|31=>146|32=>147|33=>148|34=>149|35=>107|40=>163|n=>n,fun|23=>27|25=>3|3=>3|32=>104|22=>27|0=>0|44=>45|46=>151|4=>4|36=>144|35=>143|41=>68|5=>5|9=>9|53=>166|57=>170|63=>185|64=>186|n=>n,fun|n=>n⟩
theorem Tryz.sortM:Go.Proofs.SlLaysM.n5 dG Tryz.sortM_ren:={
 mixed:=by kernel_rfl
 f5:=⟨Tryz.f62.name,by decide,cZ.trans (congrArg mF (by kernel_rfl))⟩
 f7:=⟨Tryz.f98.name,by decide,Tryz.func98.trans (congrArg mF (by kernel_rfl))⟩
 f8:=Tryz.func99.trans (congrArg mF (by kernel_rfl))
 f10:=⟨Tryz.f118.name,by decide,Tryz.func118.trans (congrArg mF (by kernel_rfl))⟩
 f11:=⟨Tryz.f119.name,by decide,Tryz.func119.trans (congrArg mF (by kernel_rfl))⟩
 f12:=⟨Tryz.f120.name,by decide,Tryz.func120.trans (congrArg mF (by kernel_rfl))⟩
 f13:=⟨Tryz.f121.name,by decide,Tryz.func121.trans (congrArg mF (by kernel_rfl))⟩
 f14:=⟨Tryz.f122.name,by decide,Tryz.func122.trans (congrArg mF (by kernel_rfl))⟩
 f15:=⟨Tryz.f123.name,by decide,Tryz.func123.trans (congrArg mF (by kernel_rfl))⟩
 f16:=⟨Tryz.f73.name,by decide,Tryz.func73.trans (congrArg mF (by kernel_rfl))⟩
 f17:=⟨Tryz.f124.name,by decide,Tryz.func124.trans (congrArg mF (by kernel_rfl))⟩
 f18:=⟨Tryz.f125.name,by decide,Tryz.func125.trans (congrArg mF (by kernel_rfl))⟩
 f19:=Tryz.func126.trans (congrArg mF (by kernel_rfl))
 f20:=Tryz.func127.trans (congrArg mF (by kernel_rfl))
 f30:=⟨Tryz.f145.name,by decide,Tryz.func145.trans (congrArg mF (by kernel_rfl))⟩
 f31:=Tryz.func146.trans (congrArg mF (by kernel_rfl))
 f32:=Tryz.func147.trans (congrArg mF (by kernel_rfl))
 f33:=⟨Tryz.f148.name,by decide,Tryz.func148.trans (congrArg mF (by kernel_rfl))⟩
 f34:=⟨Tryz.f149.name,by decide,Tryz.func149.trans (congrArg mF (by kernel_rfl))⟩
 f35:=⟨Tryz.f107.name,by decide,Tryz.func107.trans (congrArg mF (by kernel_rfl))⟩
 f40:=⟨Tryz.f163.name,by decide,Tryz.func163.trans (congrArg mF (by kernel_rfl))⟩
 t0:=dN
 a0:=dA
 z0:=dH
 v0:=dU
 t3:=dQ
 a3:=dD
 z3:=dK
 v3:=dX
 t4:=dR
 a4:=dE
 z4:=dL
 v4:=dY
 t5:=Tryz.underlying5
 a5:=Tryz.isAgg5
 z5:=Tryz.sizeOf5
 v5:=Tryz.zeroValue5
 t9:=Tryz.underlying9
 a9:=Tryz.isAgg9
 z9:=Tryz.sizeOf9
 v9:=Tryz.zeroValue9
 t22:=dP
 a22:=dC
 z22:=dJ
 v22:=dW
 t23:=dP
 a23:=dC
 z23:=dJ
 v23:=dW
 t25:=dQ
 a25:=dD
 z25:=dK
 v25:=dX
 t32:=Tryz.underlying104
 a32:=Tryz.isAgg104
 z32:=Tryz.sizeOf104
 v32:=Tryz.zeroValue104
 t35:=Tryz.underlying143
 a35:=Tryz.isAgg143
 z35:=Tryz.sizeOf143
 v35:=Tryz.zeroValue143
 t36:=Tryz.underlying144
 a36:=Tryz.isAgg144
 z36:=Tryz.sizeOf144
 v36:=Tryz.zeroValue144
 t41:=Tryz.underlying68
 a41:=Tryz.isAgg68
 z41:=Tryz.sizeOf68
 v41:=Tryz.zeroValue68
 t44:=Tryz.underlying45
 a44:=Tryz.isAgg45
 z44:=Tryz.sizeOf45
 v44:=Tryz.zeroValue45
 t46:=Tryz.underlying151
 a46:=Tryz.isAgg151
 z46:=Tryz.sizeOf151
 v46:=Tryz.zeroValue151
 t53:=Tryz.underlying166
 a53:=Tryz.isAgg166
 z53:=Tryz.sizeOf166
 v53:=Tryz.zeroValue166
 t57:=Tryz.underlying170
 a57:=Tryz.isAgg170
 z57:=Tryz.sizeOf170
 v57:=Tryz.zeroValue170
 t63:=Tryz.underlying185
 a63:=Tryz.isAgg185
 z63:=Tryz.sizeOf185
 v63:=Tryz.zeroValue185
 t64:=Tryz.underlying186
 a64:=Tryz.isAgg186
 z64:=Tryz.sizeOf186
 v64:=Tryz.zeroValue186}
def Tryz.cloneM_ren:eM:=⟨fun|5=>150|7=>164|n=>n,fun|23=>156|25=>3|3=>3|4=>4|20=>20|n=>n,fun|n=>n⟩
theorem Tryz.cloneM:Go.Proofs.SlLaysW.n5 dG Tryz.cloneM_ren:={
 mixed:=by kernel_rfl
 f5:=⟨Tryz.f150.name,by decide,Tryz.func150.trans (congrArg mF (by kernel_rfl))⟩
 f7:=Tryz.func164.trans (congrArg mF (by kernel_rfl))
 t4:=dR
 a4:=dE
 z4:=dL
 v4:=dY
 t20:=Tryz.underlying20
 a20:=Tryz.isAgg20
 z20:=Tryz.sizeOf20
 v20:=Tryz.zeroValue20
 t23:=dO
 a23:=dB
 z23:=dI
 v23:=dV}
def Tryz.copyM_ren:eM:=⟨fun|5=>155|n=>n,fun|23=>156|24=>156|26=>3|27=>3|0=>0|4=>4|n=>n,fun|n=>n⟩
theorem Tryz.copyM:Go.Proofs.SlLaysX.n5 dG Tryz.copyM_ren:={
 mixed:=by kernel_rfl
 f5:=⟨Tryz.f155.name,by decide,Tryz.func155.trans (congrArg mF (by kernel_rfl))⟩
 t0:=dN
 a0:=dA
 z0:=dH
 v0:=dU
 t4:=dR
 a4:=dE
 z4:=dL
 v4:=dY
 t23:=dO
 a23:=dB
 z23:=dI
 v23:=dV
 t24:=dO
 a24:=dB
 z24:=dI
 v24:=dV
 a26:=dD
 z26:=dK
 a27:=dD
 z27:=dK}
end Go.Proofs
end
namespace Mu
open Go Go.RowKit Go.Proofs Go.Maps Go.Sort Go.Shelf
variable{D:bG Unit}{R:List Int}{S:Int->Bool}{b:Nat}{l:List Int}{n:Nat}{w:eT}
def Cl(x:Int):Prop:=(cC .i64 x).wf=aX
def ID(w:eT)(b:Nat)(S:Int->Bool):Prop:=∃(D:bG Unit),w.ownsMap dG 3 (fR dG 3) b (cM D) D/\∀x,Cl x->has D (.int .i64 x)=S x
theorem Qm:Keyed dG 3:=int_keyed dQ
theorem LE(h:w.ownsMap dG 3 (fR dG 3) b n D):w.ownsMap dG 3 (fR dG 3) b (cM D) D:=by
 obtain⟨A,u,h1,h2,B,rfl⟩:=h;refine⟨A,u,h1,h2,?_,rfl⟩;rw[size_eq,length_read];exact lI _
theorem ID.lt(h:ID w b S):b < w.heap.size:=by
 obtain⟨D,h1,_⟩:=h;exact h1.lt
theorem ID.keep{w':eT}(h:ID w b S)(hk:w'.heap[b]? =w.heap[b]?):ID w' b S:=by
 obtain⟨D,⟨B,u,h1,h2⟩,A⟩:=h;exact⟨D,⟨B,u,hk.trans h1,h2⟩,A⟩
def Asc(l:List Int):Prop:=l.Pairwise (· < ·)
theorem Asc.nodup(h:Asc l):l.Nodup:=h.imp (λ{a b} hab=>by omega)
theorem Asc.filter(h:Asc l)(S:Int->Bool):Asc (l.filter S):=List.Pairwise.filter _ h
theorem GS{m:List Int}(A:Asc l)(u:Asc m)(h:∀x,x∈l↔x∈m):l=m:=by
 have B:l.Perm m:=(jT A.nodup u.nodup).2 h;exact List.Perm.eq_of_pairwise (le:=λa b=>a < b) (λa b _ _ h1 h2=>by omega) A u B
theorem Oh(h:l.Nodup):Asc (l.mergeSort λx y=>decide (x<=y)):=by
 have u:∀a b c:Int,leI a b=aX->leI b c=aX->leI a c=aX:=λa b c h1 h2=>by simp only[leI,decide_eq_true_eq]at *;exact Int.le_trans h1 h2
 have to:∀a b:Int,(leI a b||leI b a)=aX:=λa b=>by simp only[leI,zar];exact Int.le_total a b
 have h1:=List.pairwise_mergeSort u to l;have h2:(l.mergeSort leI).Nodup:=(jM l leI).nodup_iff.2 h;refine(List.Pairwise.and h1 h2).imp λ{a b} hab=>?_
 obtain⟨A,B⟩:=hab;simp only[leI,decide_eq_true_eq]at A;omega
theorem Ao7(h:w.ownsMap dG 3 (fR dG 3) b n D):(fM D).Nodup/\(∀x,x∈fM D↔Cl x/\has D (.int .i64 x)=aX)/\(fM D).length=cM D:=by
 obtain⟨B,rfl,F,_⟩:=h.entries Qm;obtain⟨I,H,G⟩:=h.keysOf;obtain rfl:B=I:=by simpa using H
 have hk:∀p∈B,∃x,p.1= .int .i64 x/\Cl x:=λp O=>by
  obtain⟨v,N⟩:=G p O;obtain⟨x,_,hx,E⟩:=cL dQ N;exact⟨x,hx,E⟩
 refine⟨?_,λx=>?_,by simp[fM,size_eq]⟩
 ·show(B.map λp=>fN p.1).Nodup;refine jS.2 (F.imp_of_mem λ{p q} u hq' hne e=>hne ?_);obtain⟨a,A,_⟩:=hk p u;obtain⟨b,U,_⟩:=hk q hq';rw[A,U]at e⊢;exact congrArg _ e
 ·rw[cI,gH];show x∈B.map (λp=>fN p.1)↔_;rw[jH];constructor
  ·rintro⟨p,u,rfl⟩;obtain⟨a,A,E⟩:=hk p u;rw[A];exact⟨E,p,u,by rw[A];simp[cD,fN]⟩
  ·rintro⟨_,p,u,J⟩;obtain⟨a,A,_⟩:=hk p u;rw[A]at J;exact⟨p,u,by rw[A];simpa[cD,fN]using J⟩
theorem V1(h:w.ownsMap dG 3 (fR dG 3) b n D)(E:∀x,Cl x->has D (.int .i64 x)=S x)(G:Asc R)(A:∀x∈R,Cl x)
 (u:∀x,Cl x->S x=aX->x∈R):(fM D).Perm (R.filter S)/\cM D=(R.filter S).length:=by
 obtain⟨h1,h2,H⟩:=Ao7 h;have B:(fM D).Perm (R.filter S):=(jT h1 (G.filter S).nodup).2 λx=>by
  rw[h2,jG];constructor
  ·rintro⟨hx,hh⟩;rw[E x hx]at hh;exact⟨u x hx hh,hh⟩
  ·rintro⟨hx,F⟩;exact⟨A x hx,by rw[E x (A x hx)];exact F⟩
 exact⟨B,by rw[<-H];exact B.length_eq⟩
theorem Adh(m:Nat):AnyZI.SortsIn dG Tryz.sortedM_ren bK m:=
 ⟨λB off cap ss W E u A=>fE.2 (AnyM.slices_Sort_int Tryz.sortM B off cap ss W E u A),
  λp cap W=>fE.2 (AnyM.slices_Sort_int_none Tryz.sortM p cap W)⟩
theorem Ai6(w:eT)(h:ID w b S)(hR:Asc R)(hw:∀x∈R,Cl x)(hin:∀x,Cl x->S x=aX->x∈R)(hl:R.length<=2147483648):
 bC dG 151 #[.map (mF b)] w λe w'=>∃v,e= .returned v/\Gj w' w.heap.size v (R.filter S)/\Below w.heap.size w w':=by
 obtain⟨D,hown,hS⟩:=h;obtain⟨hperm,hsz⟩:=V1 hown hS hR hw hin;have hfl:=iZ S R;have hmax:cM D<=fP:=by rw[hsz];unfold fP;omega
 have hbytes:cM D * 8<=140737488355328:=by rw[hsz];omega
 refine(fE (n:=6)).1 ?_;have hbl:=hown.lt;have hseq:SeqGives bK 2 dG 181 #[.pointer (mF ⟨w.heap.size,0,mE⟩)] encZ (λss=>ss.Perm (fM D)) (cM D) (w.alloc (.cells #[.map (mF b)] 156)):=
  AnyZI.keys_gives (ρ:=Tryz.keysM_ren) {Tryz.keysM with} bK _ trivial rfl (by omega) w.heap.size b (cM D) D _ (by simp) (by simp) (by
   obtain⟨es,clock,hb,Ft,hs,hD⟩:=hown;exact⟨es,clock,(eH _ _ b hbl).trans hb,Ft,hs,hD⟩)
 have cK:∀mb W,bD bK 5 dG 165 #[.map mb] W λe w'=>e= .returned (.func (.func 181) #[] #[.pointer (mF ⟨W.heap.size,0,mE⟩)])/\w'=W.alloc (.cells #[.map mb] 156):=λmb W=>AnyZI.keys_in Tryz.keysM bK 5 trivial V mb W
 have cS:=AnyZI.sorted_in Tryz.sortedM bK 5 trivial trivial trivial trivial V (by omega) (Adh _) (enters_of cZ (by kernel_rfl) V) 181 #[.pointer (mF ⟨w.heap.size,0,mE⟩)] trivial (enters_of cY (by kernel_rfl) V) _ _ hmax hbytes _ hseq;change bD _ _ dG 56 _ _ _ at cS;have hfK:bK.fn 165:=trivial;have hfS:bK.fn 56:=trivial;have HP:=cB hperm;clear hS hsz hperm hin hw;refine fC Tryz.func151 V trivial ?_ V;simp only[Tryz.ntmps151,Nat.reduceAdd,Nat.reduceSub,zae]
 gi_wp2_with (first
  |(gi_at_call 165;refine(cK _ _).mono ?_;rintro e w' ⟨rfl,rfl⟩)
  |(gi_at_call 56;refine cS.mono ?_;rintro e w' ⟨v,ss,rfl,hS,hrow,hnil,hb⟩))
 go_ret
 have hp2:ss.Perm (R.filter S):=hS.trans HP.out;have he:(ss.mergeSort λx y=>decide (x<=y))=R.filter S:=
  GS (Oh (hp2.nodup_iff.2 (hR.filter S).nodup)) (hR.filter S) (λx=>((jM ss _).mem_iff).trans hp2.mem_iff)
 refine⟨v,rfl,?_,((eI _ w).alloc (lI _) _).trans (hb.mono (by simp))⟩;have hrow2:w'.ownsRow w.heap.size 3 1 v ss.length ((ss.mergeSort (λx y=>decide (x<=y))).map encZ):=ownsRow_base_a hrow (by simp);rw[he]at hrow2;exact .of hrow2 hp2.length_eq V
end Mu
namespace Mu
open Go Go.RowKit Go.Proofs Go.Maps
variable{D:bG Unit}{S:Int->Bool}{β:Type}{U:Ty β}{c:Nat}{α:Type}{d:α}{es:Array MapEntry}{l:List Int}{n:Nat}{r:Int}{w w1:eT}
theorem GM{r:Option Nat}(h:Below w.heap.size w w1):w.grownBy w1 r:=⟨h.os,h.tape,h.output,h.size,λk hk _=>h.block k hk⟩
def Iw{α:Type}(T:Ty α):Prop:=∀(w:eT) (S:Nat->Prop) (cs:List eO) (d:α) (b:Nat) (es:Array MapEntry) (c:Nat),T.RS w S cs d->w.heap[b]? =mF (.map es c)->T.RS w (λk=>S k/\k≠b) cs d
theorem DD(k:bT):Iw (Ty.int k):=λ_ _ _ _ _ _ _ h _=>h
theorem Xe:Iw DE:=λ_ _ _ _ _ _ _ h _=>h
theorem CW{T:Ty α}(h1:Iw T)(h2:Iw U):Iw (T.cons U):=by
 rintro w S cs d b es c ⟨B,A,rfl,F,E⟩ u;exact⟨B,A,rfl,h1 w S B d.1 b es c F u,h2 w S A d.2 b es c E u⟩
theorem Abf{f:β->α}{g:α->β}(h:Iw U):Iw (U.via f g):=by
 rintro w S cs d b es c ⟨A,u⟩ B;exact⟨h w S cs (g d) b es c A B,u⟩
theorem Vd{T:Ty α}(h:Iw T)(N:0 < T.size):Iw T.slice:=by
 rintro w S cs ds b es c ⟨A,J,rfl,G,hc,hi⟩ u;refine⟨A,J,rfl,G,hc,λi d H=>?_⟩;obtain⟨b',o,rfl,I,cs,E,F⟩:=hi i d H;refine⟨b',o,rfl,⟨I,λe=>?_⟩,cs,h w S cs d b es c E u,F⟩;subst e;have B:=T.len E;have h0:=F 0 _ (iJ (by omega));simp[eU,u]at h0
theorem KN:Iw Eh:=
 Abf (CW (DD _) (CW (DD _) (CW (DD _) (CW (DD _) (CW (DD _) (CW (DD _) (CW (Vd (DD _) (by decide)) (CW (DD _) (CW (DD _) Xe)))))))))
theorem Al5{T:Ty α}(h:Iw T){w':eT}{B b:Nat}{cs:List eO}(A:T.R w B cs d)(E:B<=w.heap.size)(u:w.heap[b]? =mF (.map es c))(hg:w.grownBy w' (mF b)):T.R w' w'.heap.size cs d:=
 T.keepS (h w _ cs d b es c A u) (λk hk=>hg.block k (by have:=hk.1;omega) (by simp;exact hk.2)) (λk hk=>by have:=hk.1;have:=hg.size;omega)
theorem ID.mapAt{b:Nat}(h:ID w b S):∃es c,w.heap[b]? =mF (.map es c):=by
 obtain⟨D,⟨es,c,h1,_⟩,_⟩:=h;exact⟨es,c,h1⟩
def Bm(w0:eT)(cs:List eO)(T:eN)(b:Nat)(w':eT):Prop:=(w0.alloc (.cells cs.toArray T)).grownBy w' (mF b)
section
variable{w0 w' w'':eT}{cs:List eO}{T:eN}{b:Nat}
theorem Bm.refl:Bm w0 cs T b (w0.alloc (.cells cs.toArray T)):=World.grownBy.refl _ _
theorem Bm.cell(h:Bm w0 cs T b w')(A:b < w0.heap.size){j:Nat}{v:eO}(u:cs[j]? =mF v):w'.cell? ⟨w0.heap.size,j,mE⟩=mF v:=by
 have h1:=h.block w0.heap.size (by simp) (by simp;omega);exact Of (h1.trans (fK w0 _)) u
theorem Bm.lt(h:Bm w0 cs T b w'):w0.heap.size < w'.heap.size:=by have:=h.size;simp at this;omega
theorem Bm.grown(h:Bm w0 cs T b w'):w0.grownBy w' (mF b):=Dj (World.grownBy_alloc _ _ _) h
theorem Bm.call(h:Bm w0 cs T b w')(u:Below w'.heap.size w' w''):Bm w0 cs T b w'':=Dj h (GM u)
theorem Bm.turn(h:Bm w0 cs T b w')(hg:w'.grownBy w'' (mF b)):Bm w0 cs T b w'':=Dj h hg
theorem Bm.R{U:Ty α}{u:List eO}(h:Bm w0 cs T b w')(B:Iw U)(A:w0.heap[b]? =mF (.map es c))(E:U.R w0 w0.heap.size u d):U.R w' w'.heap.size u d:=
 Al5 B E (lI _) A h.grown
end
structure InR(R:List Int)(S:Int->Bool):Prop where
 mem:∀x,Cl x->S x=true->x∈R
structure RegsR(R:List Int):Prop where
 asc:Asc R
 wf:∀x∈R,Cl x
 len:R.length<=2147483648
theorem Ax1(u:Cl r):keyOf dG 3 (.int .i64 r)=mF (.int .i64 r):=Maps.keyOf_int_mk dQ u
theorem X8:(cC .i64 1).wf=aX:=by decide
theorem GZ{b:Nat}{R:List Int}(u:w.ownsMap dG 3 (fR dG 3) b n D)(B:∀x,Cl x->has D (.int .i64 x)=S x)(A:RegsR R)(hi:InR R S):cM D=(R.filter S).length/\cM D<=2147483648:=by
 have h:=(V1 u B A.asc A.wf hi.mem).2;have h2:=iZ S R;have:=A.len;exact⟨h,by omega⟩
def Aly(S:Int->Bool)(r:Int):Int->Bool:=λx=>S x||x ==r
def Ag0(S:Int->Bool)(r:Int):Int->Bool:=λx=>S x&&x !=r
def addL(S:Int->Bool)(l:List Int):Int->Bool:=λx=>S x||l.contains x
theorem Oj(S:Int->Bool):addL S []=S:=by funext x;simp[addL]
theorem PN(S:Int->Bool)(l:List Int)(r:Int):addL S (l++[r])=Aly (addL S l) r:=by
 funext x;simp only[addL,Aly,List.contains_eq_mem,jE,jL,Bool.decide_or,Bool.or_assoc];congr 2
theorem ID.put{b:Nat}{d:bG Unit}(u:w.ownsMap dG 3 (fR dG 3) b n D)(A:∀x,Cl x->has D (.int .i64 x)=S x)
 (h1:w1.ownsMap dG 3 (fR dG 3) b (n+1) (D.put (.int .i64 r) d)):ID w1 b (Aly S r):=by
 refine⟨_,LE h1,λx hx=>?_⟩;by_cases e:x=r
 ·subst e;rw[has_put_same u.isMap (by trivial)];simp[Aly]
 ·rw[cJ (by simpa using e),A x hx];simp[Aly,e]
theorem ID.del{b:Nat}(u:∀x,Cl x->has D (.int .i64 x)=S x)
 (h1:w1.ownsMap dG 3 (fR dG 3) b n (D.del (.int .i64 r))):ID w1 b (Ag0 S r):=by
 refine⟨_,LE h1,λx hx=>?_⟩;by_cases e:x=r
 ·subst e;rw[cH];simp[Ag0]
 ·rw[cG (by simpa using e),u x hx];simp[Ag0,e]
def M0(x:Ins)(S:Int->Bool):Int->Bool:=addL (if Bd x then Ag0 S x.d else S) (readsC x)
theorem InR.del{R:List Int}(h:InR R S)(r:Int):InR R (Ag0 S r):=⟨λx hx u=>h.mem x hx (by simp only[Ag0,aR]at u;exact u.1)⟩
theorem InR.addL{R:List Int}(h:InR R S)(u:∀r∈l,r∈R):InR R (addL S l):=⟨λx hx hs=>by
 simp only[Mu.addL,aW,gL]at hs;rcases hs with hs|hs
 ·exact h.mem x hx hs
 ·exact u x hs⟩
theorem InR.take{R:List Int}(h:InR R S)(A:∀r∈l,r∈R)(k:Nat):InR R (Mu.addL S (l.take k)):=h.addL λr u=>A r (List.mem_of_mem_take u)
theorem Mw{x:Ins}(h:x.args.length<=2097152):(readsC x).length<=2097154:=by
 unfold readsC;simp only[iX];have B:(if(HC x.op).contains 97 then [x.a]else []).length<=1:=by split <;> simp
 have A:(if(HC x.op).contains 98 then [x.b]else []).length<=1:=by split <;> simp
 have u:(if(HC x.op).contains 120 then x.args else []).length<=x.args.length:=by split <;> simp
 omega
theorem Ahl(x:Ins)(b:Nat)(S:Int->Bool)(R:List Int)(w:eT)(cs:List eO)(hRI:Eh.R w w.heap.size cs x)(hl:x.args.length<=2097152)(hs:ID w b S)(hR:RegsR R)(hi:InR R S)(hx:∀r∈readsC x,r∈R):
 bC dG 153 #[.map (mF b),.agg cs.toArray] w λe w'=>e= .returned (.tuple #[])/\ID w' b (M0 x S)/\w.grownBy w' (mF b):=by
 have hRI2:=hRI;obtain⟨A,c,hI⟩:=IH.1 hRI;have hb:=hs.lt;obtain⟨rfl,hop,hd,_,_,_,_,_,_,_⟩:=hI;have hrl:=Mw hl;obtain⟨cs,hcs⟩:∃cs:List eO,cs= [.int .u8 x.op,.int .i64 x.d,.int .i64 x.a,.int .i64 x.b,.int .u32 x.n,.int .i64 x.f,.slice A x.args.length c,.int .i64 x.l1,.int .i64 x.l2]:=⟨_,rfl⟩
 have q0:∀w',Bm w cs 47 b w'->w'.cell? ⟨w.heap.size,0,mE⟩=mF (.int .u8 x.op):=λw' h=>h.cell hb (by rw[hcs];rfl)
 have q1:∀w',Bm w cs 47 b w'->w'.cell? ⟨w.heap.size,1,mE⟩=mF (.int .i64 x.d):=λw' h=>h.cell hb (by rw[hcs];rfl)
 have q2:∀w',Bm w cs 47 b w'->w'.cell? ⟨w.heap.size,2,mE⟩=mF (.int .i64 x.a):=λw' h=>h.cell hb (by rw[hcs];rfl)
 have q3:∀w',Bm w cs 47 b w'->w'.cell? ⟨w.heap.size,3,mE⟩=mF (.int .i64 x.b):=λw' h=>h.cell hb (by rw[hcs];rfl)
 have q4:∀w',Bm w cs 47 b w'->w'.cell? ⟨w.heap.size,4,mE⟩=mF (.int .u32 x.n):=λw' h=>h.cell hb (by rw[hcs];rfl)
 have q5:∀w',Bm w cs 47 b w'->w'.cell? ⟨w.heap.size,5,mE⟩=mF (.int .i64 x.f):=λw' h=>h.cell hb (by rw[hcs];rfl)
 have q6:∀w',Bm w cs 47 b w'->w'.cell? ⟨w.heap.size,6,mE⟩=mF (.slice A x.args.length c):=λw' h=>h.cell hb (by rw[hcs];rfl)
 have q7:∀w',Bm w cs 47 b w'->w'.cell? ⟨w.heap.size,7,mE⟩=mF (.int .i64 x.l1):=λw' h=>h.cell hb (by rw[hcs];rfl)
 have q8:∀w',Bm w cs 47 b w'->w'.cell? ⟨w.heap.size,8,mE⟩=mF (.int .i64 x.l2):=λw' h=>h.cell hb (by rw[hcs];rfl)
 have hstart:Hid (Bm w cs 47 b (w.alloc (.cells #[.int .u8 x.op,.int .i64 x.d,.int .i64 x.a,.int .i64 x.b,.int .u32 x.n,.int .i64 x.f,.slice A x.args.length c,.int .i64 x.l1,.int .i64 x.l2] 47))):=by
  have h:=Bm.refl (w0:=w) (cs:=cs) (T:=47) (b:=b);rw[hcs]at h;rw[hcs];exact h
 have HRI:=cB hRI2;have HX:=cB hx;have HS:=cB hs;clear hcs hRI hRI2 hx hs;have hst:=hstart.out
 go_enter Tryz.func153,Tryz.ntmps153
 obtain⟨mes,mc,hmap⟩:=HS.out.mapAt;have HM:=cB hmap;clear hmap
 go_wp2_with fail
 refine(Nc x _ _ (hst.R KN HM.out HRI.out)).mono ?_;rintro e w1 ⟨rfl,hb1⟩;have hx1:Bm w cs 47 b w1:=hst.call hb1;have hs1:Hid (ID w1 b S):=HS.out.keep ((hb1.block b (by simp;omega)).trans (eH _ _ _ hb));have hlt1:=hx1.lt;clear hb1 hst hstart HS;have hg1:Hid (w.grownBy w1 (mF b)):=hx1.grown;have hi1:=hi;rcases hq:Bd x with _|_
 ·have HQ:=cB hq;rw[Mo HQ.out];clear hq
  go_wp2_with fail
  refine(HI x _ _ (hx1.R KN HM.out HRI.out) hl).mono ?_;rintro e w4 ⟨v4,rfl,ho4,hb4⟩;have hx4:Bm w cs 47 b w4:=hx1.call hb4;have hs4:Hid (ID w4 b S):=hs1.out.keep (hb4.block b (by have:=hx1.lt;omega));have hg4:Hid (w.grownBy w4 (mF b)):=Dj hg1.out (GM hb4);obtain⟨A4,c4,rfl⟩:=X4 ho4;have HO4:=cB ho4;have hlow4:∀g,(eS A4 (readsC x).length c4).ownBlock=mF g->b < g:=λg hg=>by have:=(ho4.lt g hg).1;have:=hx1.lt;omega
  have HLOW:=cB hlow4;have hlt4:=hx4.lt;clear ho4 hb4 hlow4
  go_wp2_with fail
  go_loopw [19] (λi wr=>∃k:Nat,k<=(readsC x).length/\i= .int .i64 k/\Hid (ID wr b (addL S ((readsC x).take k)))/\Hid (w.grownBy wr (mF b))/\Hid (Gj wr w1.heap.size (.slice A4 (readsC x).length c4) (readsC x))) (λi _=>(readsC x).length - (eJ i).toNat)
  case atStart=>exact⟨0,lV _,rfl,by rw[j9,Oj];exact hs4,hg4,HO4⟩
  case round=>
   obtain⟨k,hk,rfl,hsr,hgr,hor⟩:=hrel;clear hs4 hg4 HO4;by_cases hlt:k < (readsC x).length
   ·obtain⟨z,hz⟩:∃z,(readsC x)[k]? =mF z:=⟨_,iJ hlt⟩
    have hzR:=HX.out z (jJ hz);have hzw:=hR.wf z hzR;obtain⟨g,cap,e,_⟩:=TZ hor.out (by omega);cases e;have hcz:=X5 hor.out hz;obtain⟨D,hown,hD⟩:=hsr.out;have hsz:=GZ hown hD hR (hi1.take HX.out k);have hm:cM D < fP:=by have:=hsz.2;unfold fP;omega
    have HD:=cB hD;have HZ:=cB hz;have HK:=cB (Ax1 hzw);clear hsz hD hz hsr
    go_wp2_with (at_mapUpdate;refine gB _ V _ _ _ 156 V 3 3 Qm dO _ b _ D V hown hm _ _ (.int .i64 z) V V HK.out _ [] (plainElem_int dQ X8) ?_;intro w5 hown5 hgrow5)
    have hs5:Hid (ID w5 b (addL S ((readsC x).take (k+1)))):=by
     rw[jY,HZ.out,mI,PN];exact ID.put hown HD.out hown5
    have hg5:Hid (w.grownBy w5 (mF b)):=Dj hgr.out hgrow5;have ho5:Hid (Gj w5 w1.heap.size (.slice (mF ⟨g,0,mE⟩) (readsC x).length c4) (readsC x)):=Nh hor.out (λq hq=>hgrow5.block q (eX hor.out q hq).2 (by have:=HLOW.out q hq;simp;omega));clear hown5 hgrow5 hgr hor hown hcz
    go_wp2_with fail
    go_roundw
    case rel=>exact⟨k+1,by omega,by go_num,hs5,hg5,ho5⟩
    case measure=>simp[eJ];omega
   ·obtain rfl:k=(readsC x).length:=by omega
    have hfin:Hid (ID wr b (M0 x S)):=by
     have h:=hsr.out;rw[j5]at h;unfold M0;rw[HQ.out,if_neg (by simp)];exact h
    go_wp2_with fail
    go_end0
    exact⟨rfl,hfin.out,hgr.out⟩
 ·have HQ:=cB hq;rw[Kr HQ.out];clear hq;have HKD:=cB (Ax1 (r:=x.d) hd);obtain⟨D0,hown0,hD0⟩:=hs1.out;have HD0:=cB hD0;clear hD0;have hi2:=hi.del x.d
  go_wp2_with (at_delete;refine wpList_delete_own _ V _ _ 156 3 V 3 Qm dO _ b _ D0 V hown0 _ _ V HKD.out ?_)
  intro w2 hown2 hturn2;have hs2:Hid (ID w2 b (Ag0 S x.d)):=ID.del HD0.out hown2;have hg2:Hid (w.grownBy w2 (mF b)):=Dj hg1.out hturn2.grown;have hx2:Bm w cs 47 b w2:=hx1.turn hturn2.grown;have hlt2:=hx2.lt;clear hown2 hturn2 hown0 hs1 hg1
  go_wp2_with fail
  refine(HI x _ _ (hx2.R KN HM.out HRI.out) hl).mono ?_;rintro e w4 ⟨v4,rfl,ho4,hb4⟩;have hx4:Bm w cs 47 b w4:=hx2.call hb4;have hs4:Hid (ID w4 b (Ag0 S x.d)):=hs2.out.keep (hb4.block b (by have:=hx2.lt;omega));have hg4:Hid (w.grownBy w4 (mF b)):=Dj hg2.out (GM hb4);obtain⟨A4,c4,rfl⟩:=X4 ho4;have HO4:=cB ho4;have hlow4:∀g,(eS A4 (readsC x).length c4).ownBlock=mF g->b < g:=λg hg=>by have:=(ho4.lt g hg).1;have:=hx2.lt;omega
  have HLOW:=cB hlow4;have hlt4:=hx4.lt;clear ho4 hb4 hlow4
  go_wp2_with fail
  go_loopw [19] (λi wr=>∃k:Nat,k<=(readsC x).length/\i= .int .i64 k/\Hid (ID wr b (addL (Ag0 S x.d) ((readsC x).take k)))/\Hid (w.grownBy wr (mF b))/\Hid (Gj wr w2.heap.size (.slice A4 (readsC x).length c4) (readsC x))) (λi _=>(readsC x).length - (eJ i).toNat)
  case atStart=>exact⟨0,lV _,rfl,by rw[j9,Oj];exact hs4,hg4,HO4⟩
  case round=>
   obtain⟨k,hk,rfl,hsr,hgr,hor⟩:=hrel;clear hs4 hg4 HO4;by_cases hlt:k < (readsC x).length
   ·obtain⟨z,hz⟩:∃z,(readsC x)[k]? =mF z:=⟨_,iJ hlt⟩
    have hzR:=HX.out z (jJ hz);have hzw:=hR.wf z hzR;obtain⟨g,cap,e,_⟩:=TZ hor.out (by omega);cases e;have hcz:=X5 hor.out hz;obtain⟨D,hown,hD⟩:=hsr.out;have hsz:=GZ hown hD hR (hi2.take HX.out k);have hm:cM D < fP:=by have:=hsz.2;unfold fP;omega
    have HD:=cB hD;have HZ:=cB hz;have HK:=cB (Ax1 hzw);clear hsz hD hz hsr
    go_wp2_with (at_mapUpdate;refine gB _ V _ _ _ 156 V 3 3 Qm dO _ b _ D V hown hm _ _ (.int .i64 z) V V HK.out _ [] (plainElem_int dQ X8) ?_;intro w5 hown5 hgrow5)
    have hs5:Hid (ID w5 b (addL (Ag0 S x.d) ((readsC x).take (k+1)))):=by
     rw[jY,HZ.out,mI,PN];exact ID.put hown HD.out hown5
    have hg5:Hid (w.grownBy w5 (mF b)):=Dj hgr.out hgrow5;have ho5:Hid (Gj w5 w2.heap.size (.slice (mF ⟨g,0,mE⟩) (readsC x).length c4) (readsC x)):=Nh hor.out (λq hq=>hgrow5.block q (eX hor.out q hq).2 (by have:=HLOW.out q hq;simp;omega));clear hown5 hgrow5 hgr hor hown hcz
    go_wp2_with fail
    go_roundw
    case rel=>exact⟨k+1,by omega,by go_num,hs5,hg5,ho5⟩
    case measure=>simp[eJ];omega
   ·obtain rfl:k=(readsC x).length:=by omega
    have hfin:Hid (ID wr b (M0 x S)):=by
     have h:=hsr.out;rw[j5]at h;unfold M0;rw[HQ.out,if_pos V];exact h
    go_wp2_with fail
    go_end0
    exact⟨rfl,hfin.out,hgr.out⟩
open Go.Shelf
theorem UY{b:Nat}{S:Int->Bool}(w:eT)(h:ID w b S):
 bC dG 150 #[.map (mF b)] w λe w'=>e= .returned (.map (mF w.heap.size))/\ID w' w.heap.size S/\∃es c,w'=w.alloc (.map es c):=by
 obtain⟨D,A,I⟩:=h;have F:=A.lt;obtain⟨es,u,H,N,E,J⟩:=A;refine(AnyW.maps_Clone Tryz.cloneM b es u w H).mono λe w' ⟨G,B⟩=>?_
 subst B;exact⟨G,⟨D,⟨es,u,(MapKept.heap_alloc w _).1,N,E,J⟩,I⟩,es,u,rfl⟩
theorem Aga{w:eT}{bd bs I H:Nat}{F E:bG Unit}(O:w.ownsMap dG 3 (fR dG 3) bd I F)(G:w.ownsMap dG 3 (fR dG 3) bs H E)(k:Lit):
 has (Lib.mergeD F E) k=(has F k||has E k):=by
 obtain⟨X,rfl,_,_⟩:=O.entries Qm;obtain⟨es,rfl,_,_⟩:=G.entries Qm;obtain⟨B,A,u⟩:=G.keysOf;obtain rfl:es=B:=by simpa using A
 have hk:∀p∈es,WideAt.IsKeyLit p.1:=λp N=>by
  obtain⟨v,J⟩:=u p N;obtain⟨x,_,hx,W⟩:=cL dQ J;rw[hx];exact trivial
 exact has_foldPut k es _ ⟨_,rfl⟩ hk
theorem Alf{bd bs:Nat}{S T:Int->Bool}{R:List Int}(w:eT)(N:ID w bd S)(I:ID w bs T)(B:bd≠bs)(G:RegsR R)(hi:InR R S)(J:InR R T):
 bC dG 155 #[.map (mF bd),.map (mF bs)] w λe w'=>e= .returned (.tuple #[])/\ID w' bd (λx=>S x||T x)/\ID w' bs T/\w.grownBy w' (mF bd):=by
 obtain⟨Y,A,F⟩:=N;obtain⟨H,u,E⟩:=I;have h1:=GZ A F G hi;have h2:=GZ u E G J;refine(AnyX.maps_Copy Tryz.copyM Qm (fR dG 3) bd bs _ _ Y H w A u B ?_).mono ?_
 ·have:=h1.2;have:=h2.2;unfold fP;omega
 ·rintro e w' ⟨rfl,X,W,O⟩;refine⟨rfl,⟨_,LE X,λx hx=>?_⟩,⟨H,W,E⟩,O⟩;rw[Aga A u,F x hx,E x hx]
end Mu
namespace Mu
open Go Go.RowKit Go.Proofs Go.Maps
def JS(S:Int->Bool)(m:Nat):Res:=⟨[],λg=>g=m,λw _=>ID w m S,λh hk _ _=>h.keep (hk m V)⟩
theorem Ej{w:eT}{S:Nat->Prop}{h:List kA}{ψ:Nat->eO}{u:eO}{l:List AV}{vs:List eO}(H:Af w S h ψ (.lit u::l) vs):∃A,vs=u::A/\Af w S h ψ l A:=by
 unfold Af kK at H;obtain⟨v,A,e,rfl,h2⟩:=H;exact⟨A,e,h2⟩
theorem Vc(x:Ins)(S:Int->Bool)(R:List Int)(m:Nat)(E:okIns x)(G:x.args.length<=2097152)(I:RegsR R)(hi:InR R S)(hx:∀r∈readsC x,r∈R):
 DI dG 153 (JS S m) [.lit (.map (mF m)),.agg (BW x)] (λ_:Unit=>JS (M0 x S) m) (λ_=>.tuple #[]):=by
 refine⟨by kernel_rfl,λw T vs H N A B=>?_⟩;obtain⟨J,rfl,h1⟩:=Ej B;obtain⟨v,rfl,h2⟩:=Acc h1;unfold kK at h2;obtain⟨cs,rfl,u⟩:=h2;refine(Ahl x m S R w cs (Eh.keepS (MB E u) (λ_ _=>rfl) λk hk=>(H k hk).1) G A I hi hx).mono ?_;rintro e w' ⟨rfl,h1,h2⟩;exact⟨_,rfl,⟨h2.os,h2.tape,h2.output,h2.size,λk hk F=>h2.block k hk λe=>F (by injection e)⟩,(),rfl,h1,λk hk=>by
  have hk:k=m:=hk;subst hk;exact⟨.inl V,h1.lt⟩⟩
theorem Ahb(B:Res)(S:Int->Bool)(m:Nat)(A:∀w T,B.R w T->ID w m S):
 Ah5 dG 150 B [.lit (.map (mF m))] (JS S) (λp=>.map (mF p)):=by
 refine⟨by kernel_rfl,λw T vs H I E F=>?_⟩;obtain⟨G,rfl,h0⟩:=Ej F;unfold Af at h0;subst h0;refine(UY w (A w T E)).mono ?_;rintro e w' ⟨rfl,h1,es,c,rfl⟩;have u:Below w.heap.size w (w.alloc (.map es c)):=(eI _ _).alloc (lI _) _;exact⟨_,rfl,⟨u.os,u.tape,u.output,u.size,λk hk _=>u.block k hk⟩,w.heap.size,rfl,h1,λk hk=>by
  have hk:k=w.heap.size:=hk;subst hk;exact⟨.inr (lI _),h1.lt⟩⟩
theorem ZW(B:Res)(S:Int->Bool)(R:List Int)(m:Nat)(u:RegsR R)(hi:InR R S)(A:∀w T,B.R w T->ID w m S):
 FnR dG 151 B [.lit (.map (mF m))] (.bs tInt (R.filter S)):=by
 refine⟨by kernel_rfl,λw T vs G I E F=>?_⟩;obtain⟨H,rfl,h0⟩:=Ej F;unfold Af at h0;subst h0;refine(Ai6 w (A w T E) u.asc u.wf hi.mem u.len).mono ?_;rintro e w' ⟨v,rfl,h1,h2⟩;refine⟨v,rfl,h2,λk=>T k\/v.ownBlock=mF k,λ_ h=>.inl h,λk hk=>?_,λk hk=>?_,?_⟩
 ·rcases hk with hk|hk
  ·exact .inl hk
  ·exact .inr (h1.lt k hk).1
 ·rcases hk with hk|hk
  ·exact lK (G k hk) h2.size
  ·exact(h1.lt k hk).2
 ·unfold kK;exact tInt.slice.keepS (LC h1 λx hx=>u.wf x (jG.1 hx).1) (λ_ _=>rfl) λk hk=>.inr hk
section
variable{P:cX}{C:Ctx}{t:List AV}{h:List kA}{o:cQ}{ι:Type}{Rs:ι->Res}{val:ι->eO}
def Ah4(P:cX)(f:bM)(R R2:Res)(args:List AV)(Rs:ι->Res)(val:ι->eO):Prop:=
 B9 P f=aX/\∀(w:eT) (S:Nat->Prop) (vs:List eO),(∀k,S k->k < w.heap.size/\¬R.F k)->(∀g,R.F g->g < w.heap.size)->R.R w S->R2.R w S->(∀g,R.F g->¬R2.F g)->Af w S [] ψ0 args vs->
  bC P f vs.toArray w λe w'=>∃v,e= .returned v/\lC w S R.F Rs val v w'
theorem SO{i j:Nat}{R R2:Res}{f:bM}{args:Array cW}{tys:Array eN}{xs:List AV}{K:St->Prop}(G:i≠j)(hi:h[i]? =mF (.res R))(F:h[j]? =mF (.res R2))
 (B:o.op= .call {callee:=.value (.func f),args:=args,argTypes:=tys})(I:Ah4 P f R R2 xs Rs val)(O:∀p,(Rs p).mrk=R.mrk)(hx:args.toList.map (evA t)=xs)(hc:Bj xs=aX)
 (Y:∀p,K ⟨Bn t o.dst (.lit (val p)),h.set i (.res (Rs p))⟩):AOp P C o ⟨t,h⟩ K:=by
 refine kF hi O (λS ψ w ρ H X E u=>?_) Y;have h1:ρ (.func f)= .func (.func f) #[] #[]:=by
  have:=u (.func f) (by rw[B];exact aI.2 (.inl (by simp)));simpa[evA,kK]using this
 rw[Ct B I.1 ρ w h1];refine⟨rfl,?_⟩;have h2:Af w S h ψ xs (args.toList.map ρ):=by
  rw[<-hx];exact Cc λx A=>u x (by rw[B];exact aI.2 (.inr (aK.1 A)))
 rw[show(args.map ρ)=(args.toList.map ρ).toArray from(by rw[<-aN])];exact I.2 w S (args.toList.map ρ) (λk hk=>⟨H.lt k hk,λW=>((H.blk i _ hi).1 k W).2.1 hk⟩) E X (H.blk j _ F).2 (λg N J=>H.dis i j G (by rw[hi];rfl) (by rw[F];rfl) g (by rw[hi];exact N) (by rw[F];exact J)) (Bi _ _ hc h2)
end
open Go.Shelf
variable{R':Res}{n:Nat}{q:Int}{w':eT}{zv:eO}
section
variable{α β:Type}
def Ea(l:List (Int×α)):Prop:=l.Pairwise λp q=>p.1 < q.1
def getK(l:List (Int×α))(k:Int):Option α:=(l.find? λp=>p.1 ==k).map (·.2)
def B6(l:List (Int×α))(k:Int)(v:α):List (Int×α):=l.filter (λp=>decide (p.1 < k))++(k,v)::l.filter λp=>decide (k < p.1)
def Qo(l:List (Int×α))(k:Int):List (Int×α):=l.filter λp=>p.1 !=k
def keysK(l:List (Int×α)):List Int:=l.map (·.1)
instance Aws(l:List (Int×α)):Decidable (Ea l):=by unfold Ea;infer_instance
theorem Ea.nil:Ea ([]:List (Int×α)):=List.Pairwise.nil
theorem Ea.put{l:List (Int×α)}(h:Ea l)(k:Int)(v:α):Ea (B6 l k v):=by
 unfold B6 Ea;rw[List.pairwise_append,jR];refine⟨h.filter _,⟨λp u=>by simpa using(jG.1 u).2,h.filter _⟩,λp u q hq=>?_⟩;have h1:p.1 < k:=by simpa using(jG.1 u).2
 rcases jF.1 hq with rfl|hq
 ·exact h1
 ·have h2:k < q.1:=by simpa using(jG.1 hq).2
  omega
theorem Ea.del{l:List (Int×α)}(h:Ea l)(k:Int):Ea (Qo l k):=h.filter _
theorem mem_setK{l:List (Int×α)}{k:Int}{v:α}{p:Int×α}:p∈B6 l k v↔p=(k,v)\/(p∈l/\p.1≠k):=by
 unfold B6;rw[jE,jF,jG,jG];simp only[decide_eq_true_eq];constructor
 ·rintro(⟨h1,h2⟩|h|⟨h1,h2⟩)
  ·exact .inr ⟨h1,by omega⟩
  ·exact .inl h
  ·exact .inr ⟨h1,by omega⟩
 ·rintro(h|⟨h1,h2⟩)
  ·exact .inr (.inl h)
  ·rcases Int.lt_or_gt_of_ne h2 with h3|h3
   ·exact .inl ⟨h1,h3⟩
   ·exact .inr (.inr ⟨h1,h3⟩)
theorem JR{l:List (Int×α)}{k:Int}{p:Int×α}:p∈Qo l k↔p∈l/\p.1≠k:=by
 unfold Qo;rw[jG];simp
theorem Ea.uniq{l:List (Int×α)}(h:Ea l){p q:Int×α}(u:p∈l)(hq:q∈l)(e:p.1=q.1):p=q:=by
 induction l with
 |nil=>cases u
 |cons x l A=>
  have h:=jR.1 h;rcases jF.1 u with h1|h1 <;> rcases jF.1 hq with h2|h2
  ·rw[h1,h2]
  ·have:=h.1 q h2;rw[h1]at e;omega
  ·have:=h.1 p h1;rw[h2]at e;omega
  ·exact A h.2 h1 h2
theorem CH{l:List (Int×α)}(h:Ea l){k:Int}{v:α}:getK l k=mF v↔(k,v)∈l:=by
 unfold getK;constructor
 ·intro e;obtain⟨p,u,rfl⟩:=mC.1 e;have h1:=iC u;have h2:=jI u;have B:p.1=k:=by simpa using h1
  rw[<-B];exact h2
 ·intro A;cases e:l.find? λp=>p.1 ==k with
  |none=>
   have:=iB.1 e _ A;simp at this
  |some p=>
   have h1:p.1=k:=by simpa using iC e
   have:=h.uniq (jI e) A h1;rw[this];rfl
theorem Jd{l:List (Int×α)}{k:Int}:getK l k=mE↔∀p∈l,p.1≠k:=by
 unfold getK;rw[Option.map_eq_none_iff,iB];simp
theorem BH{l:List (Int×α)}(h:Ea l)(k x:Int)(v:α):getK (B6 l k v) x=if x=k then mF v else getK l x:=by
 by_cases e:x=k
 ·rw[if_pos e,CH (h.put k v),mem_setK,e];exact .inl V
 ·rw[if_neg e];cases hg:getK l x with
  |none=>
   rw[Jd]at hg⊢;intro p hp;rcases mem_setK.1 hp with rfl|hp
   ·exact λA=>e A.symm
   ·exact hg p hp.1
  |some u=>
   rw[CH h]at hg;rw[CH (h.put k v),mem_setK];exact .inr ⟨hg,e⟩
theorem L1{l:List (Int×α)}(h:Ea l)(k x:Int):getK (Qo l k) x=if x=k then mE else getK l x:=by
 by_cases e:x=k
 ·rw[if_pos e,Jd];intro p A;rw[e];exact(JR.1 A).2
 ·rw[if_neg e];cases hg:getK l x with
  |none=>
   rw[Jd]at hg⊢;exact λp A=>hg p (JR.1 A).1
  |some u=>
   rw[CH h]at hg;rw[CH (h.del k),JR];exact⟨hg,e⟩
theorem Alv{l m:List (Int×α)}(A:Ea l)(u:Ea m)(h:∀k,getK l k=getK m k):l=m:=by
 have B:∀{l:List (Int×α)},Ea l->l.Nodup:=λh=>h.imp λ{a b} hab e=>by rw[e]at hab;omega
 have E:l.Perm m:=(jT (B A) (B u)).2 λp=>by
  obtain⟨k,v⟩:=p;rw[<-CH A,<-CH u,h]
 exact List.Perm.eq_of_pairwise (le:=λ(a b:Int×α)=>a.1 < b.1) (λa b _ _ h1 h2=>by omega) A u E
def mapK(e:α->β)(l:List (Int×α)):List (Int×β):=l.map λp=>(p.1,e p.2)
theorem Ea.map{l:List (Int×α)}(h:Ea l)(e:α->β):Ea (mapK e l):=jS.2 h
theorem CC(e:α->β)(l:List (Int×α))(k:Int):getK (mapK e l) k=(getK l k).map e:=by
 unfold getK mapK;induction l with
 |nil=>rfl
 |cons p l u=>
  rw[jB,iA,iA];cases p.1 ==k
  ·exact u
  ·rfl
theorem Gx(e:α->β)(l:List (Int×α))(k:Int)(v:α):mapK e (B6 l k v)=B6 (mapK e l) k (e v):=by
 simp[mapK,B6,hZ,Function.comp_def]
theorem Akc(e:α->β)(l:List (Int×α))(k:Int):mapK e (Qo l k)=Qo (mapK e l) k:=by
 simp[mapK,Qo,hZ,Function.comp_def]
theorem EZ{l:List (Int×α)}(k:Int)(v:α):(B6 l k v).length<=l.length+1:=by
 unfold B6;rw[iX,iY];have:∀l:List (Int×α),(l.filter λp=>decide (p.1 < k)).length+(l.filter λp=>decide (k < p.1)).length<=l.length:=by
  intro l;induction l with
  |nil=>simp
  |cons p l u=>
   rw[g9,g9];by_cases h1:p.1 < k
   ·have h2:¬k < p.1:=by omega
    simp only[h1,h2,decide_true,decide_false,zax];simp only[aT,if_false];omega
   ·by_cases h2:k < p.1
    ·simp only[h1,h2,decide_true,decide_false,zax];simp only[aT,if_false];omega
    ·simp only[h1,h2,decide_false,iY];simp only[aT,if_false];omega
 have:=this l;omega
end
def Amp(v:eO):Option (bG eO×List MemPlace):=mF (.held v,[])
def LY(l:List (Int×eO)):bG eO:=.map (l.map λp=>(cC .i64 p.1,.held p.2))
def okK{α:Type}(l:List (Int×α)):Prop:=Ea l/\∀p∈l,Cl p.1
theorem Aoc(a b:Int):(cC .i64 a).sameKey (.int .i64 b)=(a ==b):=by rw[Bool.eq_iff_iff];simp[cD]
theorem Eu(l:List (Int×eO))(k:Int):has (LY l) (.int .i64 k)=(getK l k).isSome:=by
 unfold LY getK;rw[cI,List.any_map,mB];induction l with
 |nil=>rfl
 |cons p l u=>
  rw[List.any_cons,iA];simp only[Function.comp,Aoc]at u⊢;cases p.1 ==k
  ·simpa using u
  ·rfl
theorem Ee(l:List (Int×eO))(k:Int)(z:bG eO):(LY l).atKey (.int .i64 k) z=((getK l k).map DataW.held).getD z:=by
 unfold LY getK DataW.atKey;simp only;induction l with
 |nil=>rfl
 |cons p l u=>
  rw[jB,iA,iA];simp only[Aoc];cases p.1 ==k
  ·exact u
  ·rfl
theorem OB(l:List (Int×eO)):cM (LY l)=l.length:=by simp[LY,size_eq]
theorem Afu{x:Int}(h:Cl x):WideAt.IsKeyLit (.int .i64 x):=Qm.key (keyOf_int_mk dQ h)
theorem Rj{l:List (Int×eO)}(h:okK l):Canon (LY l):=⟨_,rfl,jS.2 (h.1.imp λ{p q} hpq=>by simp[Lit.before];exact hpq),λp u=>by
 obtain⟨q,hq,rfl⟩:=jH.1 u;exact Afu (h.2 q hq)⟩
theorem Ec{l:List (Int×eO)}{k:Lit}(h:has (LY l) k=aX):∃p∈l,k= .int .i64 p.1:=by
 unfold LY at h;rw[cI]at h;obtain⟨q,hq,u⟩:=gH.1 h;obtain⟨p,A,rfl⟩:=jH.1 hq;exact⟨p,A,(WideAt.sameKey_eq u).symm⟩
theorem okK.put{α:Type}{l:List (Int×α)}(h:okK l){k:Int}(hk:Cl k)(v:α):okK (B6 l k v):=⟨h.1.put k v,λp hp=>by
 rcases mem_setK.1 hp with rfl|hp
 ·exact hk
 ·exact h.2 p hp.1⟩
theorem okK.del{α:Type}{l:List (Int×α)}(h:okK l)(k:Int):okK (Qo l k):=⟨h.1.del k,λp u=>h.2 p (JR.1 u).1⟩
theorem okK.nil{α:Type}:okK ([]:List (Int×α)):=⟨Ea.nil,λp u=>by cases u⟩
theorem okK.map{α β:Type}{l:List (Int×α)}(h:okK l)(e:α->β):okK (mapK e l):=⟨h.1.map e,λp u=>by
 obtain⟨q,hq,rfl⟩:=jH.1 u;exact h.2 q hq⟩
theorem Yo{l:List (Int×eO)}(h:okK l){k:Int}(hk:Cl k)(v:eO)(hc:Canon ((LY l).put (.int .i64 k) (.held v))):(LY l).put (.int .i64 k) (.held v)=LY (B6 l k v):=by
 have B:IsMap (LY l):=⟨_,rfl⟩
 refine Maps.ext hc (Rj (h.put hk v)) (λx=>?_) λx z hx=>?_
 ·by_cases e:x= .int .i64 k
  ·subst e;rw[has_put_same B (Afu hk),Eu,BH h.1,if_pos V];rfl
  ·rw[cJ e];cases h1:has (LY l) x with
   |true=>
    obtain⟨p,A,rfl⟩:=Ec h1;rw[Eu]at h1⊢;rw[BH h.1,if_neg λu=>e (by rw[u]),h1]
   |false=>
    cases h2:has (LY (B6 l k v)) x with
    |false=>rfl
    |true=>
     obtain⟨p,A,rfl⟩:=Ec h2;rw[Eu,BH h.1,if_neg λu=>e (by rw[u]),<-Eu,h1]at h2;cases h2
 ·by_cases e:x= .int .i64 k
  ·subst e;rw[atKey_put_same B (Afu hk),Ee,BH h.1,if_pos V];rfl
  ·rw[cJ e]at hx;rw[atKey_put_other e];obtain⟨p,A,rfl⟩:=Ec hx;rw[Ee,Ee,BH h.1,if_neg λu=>e (by rw[u])]
theorem Akq{l:List (Int×eO)}(h:okK l){k:Int}(hc:Canon ((LY l).del (.int .i64 k))):(LY l).del (.int .i64 k)=LY (Qo l k):=by
 refine Maps.ext hc (Rj (h.del k)) (λx=>?_) λx z hx=>?_
 ·by_cases e:x= .int .i64 k
  ·subst e;rw[cH,Eu,L1 h.1,if_pos V];rfl
  ·rw[cG e];cases h1:has (LY l) x with
   |true=>
    obtain⟨p,A,rfl⟩:=Ec h1;rw[Eu]at h1⊢;rw[L1 h.1,if_neg λu=>e (by rw[u]),h1]
   |false=>
    cases h2:has (LY (Qo l k)) x with
    |false=>rfl
    |true=>
     obtain⟨p,A,rfl⟩:=Ec h2;rw[Eu,L1 h.1,if_neg λu=>e (by rw[u]),<-Eu,h1]at h2;cases h2
 ·by_cases e:x= .int .i64 k
  ·subst e;rw[cH]at hx;cases hx
  ·rw[cG e]at hx;rw[atKey_del_other e];obtain⟨p,A,rfl⟩:=Ec hx;rw[Ee,Ee,L1 h.1,if_neg λu=>e (by rw[u])]
def M4(w:eT)(b:Nat)(l:List (Int×eO)):Prop:=okK l/\w.ownsMap dG 3 Amp b l.length (LY l)
theorem M4.lt{w:eT}{b:Nat}{l:List (Int×eO)}(h:M4 w b l):b < w.heap.size:=h.2.lt
theorem M4.keep{w:eT}{b:Nat}{l:List (Int×eO)}(h:M4 w b l)(hk:w'.heap[b]? =w.heap[b]?):M4 w' b l:=by
 obtain⟨h0,es,u,h1,h2⟩:=h;exact⟨h0,es,u,hk.trans h1,h2⟩
theorem Aec{w:eT}{b:Nat}{D:bG eO}(h:w.ownsMap dG 3 Amp b n D):w.ownsMap dG 3 Amp b (cM D) D:=by
 obtain⟨es,u,h1,h2,A,rfl⟩:=h;refine⟨es,u,h1,h2,?_,rfl⟩;rw[size_eq,length_read];exact lI _
theorem M4.of{w:eT}{b:Nat}{l:List (Int×eO)}(h:okK l)(u:w.ownsMap dG 3 Amp b n (LY l)):M4 w b l:=⟨h,by have:=Aec u;rwa [OB]at this⟩
theorem MI(w:eT):M4 (w.alloc (.map #[] 0)) w.heap.size []:=⟨okK.nil,eW w _ _ _⟩
section
variable{w:eT}{b:Nat}{l:List (Int×eO)}{ty e:eN}
theorem M4.look(h:M4 w b l)(E:dG.underlying ty=mF (.map 3 e)){z:eO}(F:(gD e).run dG w= .ok z w){k:Int}(hk:Cl k):(bR ty (.map (mF b)) (.int .i64 k) aS).run dG w= .ok ((getK l k).getD z) w:=by
 obtain⟨v,ps,B,A⟩:=h.2.lookup Qm E F (zd:=.held z) (zp:=[]) V (keyOf_int_mk dQ hk);rw[B];rw[Ee]at A;unfold Amp at A;cases hg:getK l k with
 |none=>rw[hg]at A;cases A;rfl
 |some u=>rw[hg]at A;cases A;rfl
theorem M4.look_ok(h:M4 w b l)(E:dG.underlying ty=mF (.map 3 e)){z:eO}(F:(gD e).run dG w= .ok z w){k:Int}(hk:Cl k):(bR ty (.map (mF b)) (.int .i64 k) aX).run dG w= .ok (.tuple #[(getK l k).getD z,.bool (getK l k).isSome]) w:=by
 obtain⟨v,ps,B,A⟩:=h.2.look_ok Qm E F (zd:=.held z) (zp:=[]) V (keyOf_int_mk dQ hk);rw[B,Eu];rw[Ee]at A;unfold Amp at A;cases hg:getK l k with
 |none=>rw[hg]at A;cases A;rfl
 |some u=>rw[hg]at A;cases A;rfl
theorem M4.put(h:M4 w b l)(E:dG.underlying ty=mF (.map 3 e))(G:l.length < fP){k:Int}(hk:Cl k)(v:eO):∃w',(Instr.mapUpdate ty (.map (mF b)) (.int .i64 k) v).run dG w= .ok () w'/\M4 w' b (B6 l k v)/\w.grownBy w' (mF b)/\w'.heap.size=w.heap.size:=by
 obtain⟨w',A,u,ht⟩:=h.2.store Qm E G (keyOf_int_mk dQ hk) (d:=.held v) (ps:=[]) V;refine⟨w',A,?_,ht.grown,?_⟩
 ·rw[Yo h.1 hk v (u.canon Qm)]at u;exact .of (h.1.put hk v) u
 ·obtain⟨es,F,H,B,I,rfl⟩:=ht;simp[Go.ChangeMaps.setBlock]
theorem M4.drop(h:M4 w b l)(E:dG.underlying ty=mF (.map 3 e)){k:Int}(hk:Cl k)(G:eN):∃w',(Builtin.delete_ #[ty,3] G #[.map (mF b),.int .i64 k]).run dG w= .ok (.tuple #[]) w'/\M4 w' b (Qo l k)/\w.grownBy w' (mF b)/\w'.heap.size=w.heap.size:=by
 obtain⟨w',A,u,ht⟩:=h.2.drop Qm E (keyOf_int_mk dQ hk) G;refine⟨w',A,?_,ht.grown,?_⟩
 ·rw[Akq h.1 (u.canon Qm)]at u;exact .of (h.1.del k) u
 ·obtain⟨es,F,H,B,I,rfl⟩:=ht;simp[Go.ChangeMaps.setBlock]
theorem M4.len(h:M4 w b l)(u:dG.underlying ty=mF (.map 3 e))(A:eN):(Builtin.len_ #[ty] A #[.map (mF b)]).run dG w= .ok (.int .i64 l.length) w:=by
 have:=h.2.len u A;rwa [OB]at this
end
def EF{α:Type}(e:α->eO)(l:List (Int×α))(m:Nat):Res:=⟨[],λg=>g=m,λw _=>M4 w m (mapK e l),λh hk _ _=>h.keep (hk m V)⟩
def Al7(R:Res)(m:Nat)(l:List (Int×eO)):Prop:=∀w T,R.R w T->M4 w m l
theorem Al7.self{α:Type}{e:α->eO}{l:List (Int×α)}{m:Nat}:Al7 (EF e l m) m (mapK e l):=λ_ _ h=>h
structure SetM'(R R':Res)(m:Nat)(l l':List (Int×Value)):Prop where
 has:Al7 R m l
 mrk:R'.mrk=R.mrk
 mem:R.F m
 sub:∀g,R'.F g->R.F g
 put:∀w w' T,R.R w T->(∀k,k≠m->k < w.heap.size->w'.heap[k]? =w.heap[k]?)->M4 w' m l'->R'.R w' T
theorem SetM'.self{α:Type}{e:α->eO}{l l':List (Int×α)}{m:Nat}:SetM' (EF e l m) (EF e l' m) m (mapK e l) (mapK e l'):=⟨Al7.self,rfl,rfl,λ_ h=>h,λ_ _ _ _ _ h=>h⟩
section
variable{C:Ctx}{t:List AV}{h:List kA}{o:cQ}{K:St->Prop}{ty e:eN}{x y z:cW}{m:Nat}{R:Res}{l:List (Int×eO)}{k:Int}
theorem J5{α:Type}(A:α->eO)(E:o.op= .makeMap ty mE)(G:∀m,K ⟨Bn t o.dst (.lit (.map (mF m))),h++[.res (EF A [] m)]⟩):AOp dG C o ⟨t,h⟩ K:=by
 refine CT (ι:=Nat) (Rs:=EF A []) (val:=λm=>.map (mF m)) (λ_=>rfl) (λS ψ w ρ H B=>?_) G;have F:(fG ρ o).run dG w= .ok (.value (.map (mF w.heap.size))) (w.alloc (.map #[] 0)):=by simp[fG,E,run_makeMap]
 rw[F];have u:=(eI w.heap.size w).alloc (lI _) (.map #[] 0);refine⟨⟨u.os,u.tape,u.output,u.size,λk hk _=>u.block k hk⟩,w.heap.size,rfl,MI w,λk hk=>?_⟩;have hk:k=w.heap.size:=hk;subst hk;exact⟨.inr (lI _),by simp⟩
theorem KV(i:Nat)(E:o.op= .lookup ty x y aS)(B:dG.underlying ty=mF (.map 3 e))(F:∀w,(gD e).run dG w= .ok zv w)(hx:evA t x= .lit (.map (mF m)))(G:evA t y= .lit (.int .i64 k))(hk:Cl k)(hi:h[i]? =mF (.res R))(I:Al7 R m l):
 AT dG C t h o (.lit ((getK l k).getD zv)):=
 AL λT ψ w ρ H u=>by
  have h1:=u x (by simp[E,cP]);have h2:=u y (by simp[E,cP]);rw[hx]at h1;rw[G]at h2;unfold kK at h1 h2;have A:=(I w T (H.blk i _ hi).2).look B (F w) hk;refine⟨_,by simp[fG,E,h1,h2,A,eF];rfl,?_⟩;unfold kK;rfl
theorem Il(i:Nat)(E:o.op= .lookup ty x y aX)(B:dG.underlying ty=mF (.map 3 e))(F:∀w,(gD e).run dG w= .ok zv w)(hx:evA t x= .lit (.map (mF m)))(G:evA t y= .lit (.int .i64 k))(hk:Cl k)(hi:h[i]? =mF (.res R))(I:Al7 R m l):
 AT dG C t h o (.tup [.lit ((getK l k).getD zv),.lit (.bool (getK l k).isSome)]):=
 AL λT ψ w ρ H u=>by
  have h1:=u x (by simp[E,cP]);have h2:=u y (by simp[E,cP]);rw[hx]at h1;rw[G]at h2;unfold kK at h1 h2;have A:=(I w T (H.blk i _ hi).2).look_ok B (F w) hk;refine⟨.tuple #[(getK l k).getD zv,.bool (getK l k).isSome],by simp[fG,E,h1,h2,A,eF],?_⟩;simp only[kK,Af];exact⟨[_,_],rfl,_,_,rfl,rfl,_,_,rfl,rfl,rfl⟩
theorem Abp(i:Nat)(B:o.op= .call {callee:=.builtin .len,args:=#[x],argTypes:=#[ty]})(A:dG.underlying ty=mF (.map 3 e))(hx:evA t x= .lit (.map (mF m)))(hi:h[i]? =mF (.res R))(F:Al7 R m l):
 AT dG C t h o (.lit (.int .i64 (l.length:Int))):=
 AL λT ψ w ρ H u=>by
  have h1:=u x (by simp[B,cP,bB]);rw[hx]at h1;unfold kK at h1;have E:=(F w T (H.blk i _ hi).2).len A o.type;refine⟨_,by simp[fG,B,fS,fO,builtin,h1,E];rfl,?_⟩;unfold kK;rfl
theorem Y2(i:Nat){v:eO}(G:o.op= .mapUpdate ty x y z)(I:dG.underlying ty=mF (.map 3 e))(hx:evA t x= .lit (.map (mF m)))(Y:evA t y= .lit (.int .i64 k))(X:evA t z= .lit v)(hk:Cl k)(J:l.length < fP)(hi:h[i]? =mF (.res R))(A:SetM' R R' m l (B6 l k v))
 (hK:K ⟨Bn t o.dst (.lit undef),h.set i (.res R')⟩):AOp dG C o ⟨t,h⟩ K:=by
 refine kF (ι:=Unit) (Rs:=λ_=>R') (val:=λ_=>undef) hi (λ_=>A.mrk) (λT ψ w ρ H F O u=>?_) (λ_=>hK);have h1:=u x (by simp[G,cP]);have h2:=u y (by simp[G,cP]);have W:=u z (by simp[G,cP]);rw[hx]at h1;rw[Y]at h2;rw[X]at W;unfold kK at h1 h2 W;obtain⟨w',B,N,hg,Z⟩:=(A.has w T F).put I J hk v;have he:(fG ρ o).run dG w= .ok .skip w':=by
  simp[fG,G,h1,h2,W,B,eF]
 rw[he];refine⟨⟨hg.os,hg.tape,hg.output,hg.size,λq hq J=>hg.block q hq λe=>J (by cases e;exact A.mem)⟩,(),rfl,A.put w w' T F (λq hq hl=>hg.block q hl λe=>hq (by cases e;rfl)) N,λg E=>⟨.inl (A.sub g E),by have:=O g (A.sub g E);omega⟩⟩
theorem Amg(i:Nat)(I:o.op= .call {callee:=.builtin .delete,args:=#[x,y],argTypes:=#[ty,3]})(G:dG.underlying ty=mF (.map 3 e))(hx:evA t x= .lit (.map (mF m)))(O:evA t y= .lit (.int .i64 k))(hk:Cl k)(hi:h[i]? =mF (.res R))(u:SetM' R R' m l (Qo l k))
 (hK:K ⟨Bn t o.dst (.lit (.tuple #[])),h.set i (.res R')⟩):AOp dG C o ⟨t,h⟩ K:=by
 refine kF (ι:=Unit) (Rs:=λ_=>R') (val:=λ_=>.tuple #[]) hi (λ_=>u.mrk) (λT ψ w ρ H F N A=>?_) (λ_=>hK);have h1:=A x (by simp[I,cP,bB]);have h2:=A y (by simp[I,cP,bB]);rw[hx]at h1;rw[O]at h2;unfold kK at h1 h2;obtain⟨w',B,J,hg,W⟩:=(u.has w T F).drop G hk o.type;have Z:(fG ρ o).run dG w= .ok (.value (.tuple #[])) w':=by
  simp[fG,I,fS,fO,builtin,h1,h2,B,eF]
 rw[Z];refine⟨⟨hg.os,hg.tape,hg.output,hg.size,λq hq X=>hg.block q hq λe=>X (by cases e;exact u.mem)⟩,(),rfl,u.put w w' T F (λq hq Y=>hg.block q Y λe=>hq (by cases e;rfl)) J,λg E=>⟨.inl (u.sub g E),by have:=N g (u.sub g E);omega⟩⟩
end
def Ah1(w:eT)(m r:Nat)(l:List (Int×eO))(ks:List Int):Prop:=okK l/\∃(left:Lit->Bool) (cnt:Nat),
 w.ranges dG 3 Amp m r l.length (LY l) left cnt/\(∀x,Cl x->left (.int .i64 x)=((getK l x).isSome&&!ks.contains x))/\(∀x∈ks,(getK l x).isSome=aX)/\ks.Nodup
def Axw(w:eT)(r:Nat)(q:Int)(v:eO):Prop:=(bN (.pointer (mF ⟨r,0,mE⟩))).run dG w= .ok (.tuple #[.int .i64 q,v]) w
theorem TC{H:Type}{P:cX}{k:eN}{R:eO->Option (bG H×List MemPlace)}{w:eT}{b r:Nat}{D:bG H}{left:Lit->Bool}{cnt:Nat}(h:w.ranges P k R b r n D left cnt)(G:w'.heap[b]? =w.heap[b]?)(E:w'.heap[r]? =w.heap[r]?):w'.ranges P k R b r n D left cnt:=by
 obtain⟨es,A,u,seen,J,h1,F,B,I,h2,rest⟩:=h;exact⟨es,A,u,seen,J,G.trans h1,F,B,I,E.trans h2,rest⟩
theorem Ah1.keep{w:eT}{m r:Nat}{l:List (Int×eO)}{ks:List Int}(h:Ah1 w m r l ks)(A:w'.heap[m]? =w.heap[m]?)(u:w'.heap[r]? =w.heap[r]?):Ah1 w' m r l ks:=by
 obtain⟨h0,left,cnt,h1,h2⟩:=h;exact⟨h0,left,cnt,TC h1 A u,h2⟩
theorem Axw.keep{w:eT}{m r:Nat}{l:List (Int×eO)}{ks:List Int}{v:eO}(h:Ah1 w m r l ks)(B:Axw w r q v)(J:w'.heap[m]? =w.heap[m]?)(I:w'.heap[r]? =w.heap[r]?):Axw w' r q v:=by
 obtain⟨_,left,cnt,⟨es,u,A,seen,F,h1,_,_,_,h2,_⟩,_⟩:=h;unfold Axw at B⊢;have X:(fI r).run dG w= .ok (.mapIter (mF m) A seen F) w:=by simp[fI,eK,h2]
 have W:(fI m).run dG w= .ok (.map es u) w:=by simp[fI,eK,h1]
 have O:(fI r).run dG w'= .ok (.mapIter (mF m) A seen F) w':=by simp[fI,eK,I,h2]
 have N:(fI m).run dG w'= .ok (.map es u) w':=by simp[fI,eK,J,h1]
 unfold bN at B⊢;simp only[eL,X,O,eG]at B⊢;cases G:seen.back? with
 |none=>rw[G]at B;simp[stuck]at B
 |some E=>
  rw[G]at B;simp only[eL,W,N,eG]at B⊢;by_cases hc:u !=F
  ·simp[hc,unsupported]at B
  ·cases H:es.find? (λx=>x.born ==E)with
   |none=>simp[hc,H,unsupported]at B
   |some e=>
    simp[hc,H]at B⊢;exact B
def Tt{α:Type}(e:α->eO)(l:List (Int×α))(ks:List Int)(m r:Nat):Res:=⟨[],λg=>g=m\/g=r,λw _=>Ah1 w m r (mapK e l) ks,λh hk _ _=>h.keep (hk m (.inl V)) (hk r (.inr V))⟩
def atT{α:Type}(e:α->eO)(l:List (Int×α))(ks:List Int)(q:Int)(v:α)(m r:Nat):Res:=⟨[],λg=>g=m\/g=r,λw _=>Ah1 w m r (mapK e l) ks/\Axw w r q (e v),λh hk _ _=>⟨h.1.keep (hk m (.inl V)) (hk r (.inr V)),Axw.keep h.1 h.2 (hk m (.inl V)) (hk r (.inr V))⟩⟩
section
variable{C:Ctx}{t:List AV}{h:List kA}{o:cQ}{K:St->Prop}{ty ee:eN}{x:cW}{m r:Nat}{α:Type}{e:α->eO}{l:List (Int×α)}{ks:List Int}
theorem RC(i:Nat)(I:o.op= .range ty x)(E:dG.underlying ty=mF (.map 3 ee))(hi:h[i]? =mF (.res (EF e l m)))
 (hx:evA t x= .lit (.map (mF m)))(X:∀r,K ⟨Bn t o.dst (.lit (.pointer (mF ⟨r,0,mE⟩))),h.set i (.res (Tt e l [] m r))⟩):AOp dG C o ⟨t,h⟩ K:=by
 refine kF (ι:=Nat) (Rs:=λr=>Tt e l [] m r) (val:=λr=>.pointer (mF ⟨r,0,mE⟩)) hi (λ_=>rfl) (λT ψ w ρ H F O B=>?_) X;have h1:=B x (by simp[I,cP]);rw[hx]at h1;unfold kK at h1;obtain⟨h0,u⟩:=(show M4 w m (mapK e l)from F)
 obtain⟨w',A,N,hg,J⟩:=u.range Qm E;have W:(fG ρ o).run dG w= .ok (.value (.pointer (mF ⟨w.heap.size,0,mE⟩))) w':=by
  simp[fG,I,h1,A,eF]
 rw[W];have Z:=u.lt;refine⟨Bs hg |> λG=>⟨G.os,G.tape,G.output,G.size,λk hk Y=>G.block k hk λe=>by cases e⟩,w.heap.size,rfl,⟨h0,_,_,N,λx hx=>by simp[Eu],(λ_ hx=>by cases hx),jP⟩,λk hk=>?_⟩;rcases(show k=m\/k=w.heap.size from hk)with rfl|rfl
 ·exact⟨.inl V,by omega⟩
 ·exact⟨.inr (lI _),by omega⟩
theorem VH(i:Nat)(ho:o.op= .next x aS)(hi:h[i]? =mF (.res (Tt e l ks m r)))
 (hx:evA t x= .lit (.pointer (mF ⟨r,0,mE⟩)))(ah:ks.Nodup->(∀q,q∈ks↔q∈keysK l)->K ⟨Bn t o.dst (.lit (.tuple #[.bool aS])),h.set i (.res (Tt e l ks m r))⟩)
 (ag:∀q v,ks.Nodup->(∀q∈ks,q∈keysK l)->Cl q->getK l q=mF v->q∉ks->K ⟨Bn t o.dst (.lit (.tuple #[.bool aX,.int .i64 q,e v])),h.set i (.res (atT e l (ks++[q]) q v m r))⟩):AOp dG C o ⟨t,h⟩ K:=by
 have E:∀q,(getK (mapK e l) q).isSome=aX↔q∈keysK l:=λq=>by
  rw[CC,mB];unfold keysK getK;rw[mB,List.find?_isSome];simp
 refine kF (ι:={p:Option (Int×α) // ks.Nodup/\(∀q∈ks,q∈keysK l)/\match p with|none=>∀q,q∈ks↔q∈keysK l|some (q,v)=>Cl q/\getK l q=mF v/\q∉ks})
  (Rs:=λp=>match p.1 with|none=>Tt e l ks m r|some (q,c)=>atT e l (ks++[q]) q c m r) (val:=λp=>match p.1 with|none=>.tuple #[.bool aS]|some (q,c)=>.tuple #[.bool aX,.int .i64 q,e c]) hi ?_ (λT ψ w ρ H Y al Z=>?_) ?_
 ·rintro⟨_|⟨q,c⟩,F⟩ <;> rfl
 ·have h1:=Z x (by simp[ho,cP]);rw[hx]at h1;unfold kK at h1;obtain⟨h0,left,cnt,hr,hl,O,I⟩:=(show Ah1 w m r (mapK e l) ks from Y)
  have B:∀q∈ks,q∈keysK l:=λq hq=>(E q).1 (O q hq)
  have hm:=hr.owns.lt;have ab:=hr.lt;rcases hr.next Qm o.type with⟨_,ad,A⟩|⟨aj,v,kl,y,w',ai,W,J,hv,ae,A,ac,_,hg,ak,X⟩
  ·have he:(fG ρ o).run dG w= .ok (.value (.tuple #[.bool aS])) w:=by
    simp[fG,ho,h1,A,eF]
   rw[he];refine⟨⟨rfl,rfl,rfl,lI _,λ_ _ _=>rfl⟩,⟨mE,I,B,λq=>⟨B q,λhq=>?_⟩⟩,rfl,Y,λk hk=>⟨.inl hk,?_⟩⟩
   ·obtain⟨p,F,rfl⟩:=jH.1 hq;have hw:=h0.2 (p.1,e p.2) (jH.2 ⟨p,F,rfl⟩);have:=hl p.1 hw;rw[ad,(E p.1).2 hq]at this;simpa using this
   ·rcases(show k=m\/k=r from hk)with rfl|rfl
    ·exact hm
    ·exact ab
  ·obtain⟨q,rfl,rfl,hq⟩:=Maps.keyOf_int_inv dQ W;have u:=hl q hq;rw[J]at u;have u:(getK (mapK e l) q).isSome=aX/\q∉ks:=by simpa using u.symm
   obtain⟨c,hc⟩:∃c,getK l q=mF c:=by
    have:=u.1;rw[CC,mB]at this;exact Option.isSome_iff_exists.1 this
   have aa:v=e c:=by
    have:=ae (.held undef);rw[Ee,CC,hc]at this;unfold Amp at hv;cases hv;simpa using this.symm
   subst aa;have he:(fG ρ o).run dG w= .ok (.value (.tuple #[.bool aX,.int .i64 q,e c])) w':=by
    simp[fG,ho,h1,A,eF]
   rw[he];refine⟨Bs hg |> λG=>⟨G.os,G.tape,G.output,G.size,λk hk hn=>G.block k hk λe=>hn (by cases e;exact .inr V)⟩,⟨mF (q,c),I,B,hq,hc,u.2⟩,rfl,⟨⟨h0,_,_,ac,λx hx=>?_,λx hx=>?_,?_⟩,X⟩,λk hk=>⟨.inl hk,?_⟩⟩
   ·rw[hl x hx,Aoc];by_cases N:x=q
    ·subst N;simp
    ·simp[N]
   ·rcases jE.1 hx with hx|hx
    ·exact O x hx
    ·rw[jL.1 hx];exact u.1
   ·rw[jO];exact⟨I,by simp,λa ha b hb=>by
     rw[jL.1 hb];exact λe=>u.2 (e▸ha)⟩
   ·rcases(show k=m\/k=r from hk)with rfl|rfl <;> omega
 ·rintro⟨_|⟨q,c⟩,h1,h2,F⟩
  ·exact ah h1 F
  ·exact ag q c h1 h2 F.1 F.2.1 F.2.2
theorem NB(i:Nat){v:α}(A:o.op= .entry x)(hi:h[i]? =mF (.res (atT e l ks q v m r)))(hx:evA t x= .lit (.pointer (mF ⟨r,0,mE⟩))):
 AT dG C t h o (.tup [.lit (.int .i64 q),.lit (e v)]):=
 AL λS' ψ w ρ H u=>by
  have h1:=u x (by simp[A,cP]);rw[hx]at h1;unfold kK at h1;obtain⟨_,B⟩:=(show Ah1 w m r (mapK e l) ks/\Axw w r q (e v)from(H.blk i _ hi).2)
  refine⟨.tuple #[.int .i64 q,e v],by simp[fG,A,h1,(show _=_ from B),eF],?_⟩;simp only[kK,Af];exact⟨[_,_],rfl,_,_,rfl,rfl,_,_,rfl,rfl,rfl⟩
end
end Mu
namespace Mu
open Go Go.RowKit
variable{J:Type}{N:Nat}{Q:bJ->St->Prop}{R RB:Res}{ι:Type}{Rs:ι->Res}{S:Nat->Prop}{α:Type}{T:Ty α}{W:eT}{c:bE}{ds:List Nat}{e:eN}{κ:Type}{fin:κ->Prop}{fn:bL}{g:cW}{gf:bM}{i:Nat}{k0:κ}{l:List cQ}{lb:List eO}{n:Nat}{ops:Array cQ}{ps:Array Tmp}{s:St}{st:κ->List AV->κ->Prop}{tys:Array eN}{v:eO}{w:eT}{x:cW}{xs:List AV}{ψ:Nat->eO}
section
variable{P:cX}{C:Ctx}{t:List AV}{h:List kA}{o:cQ}
def Axx(P:cX)(C:Ctx)(o:cQ)(s:St)(K:St->Prop):Prop:=
 ∀(Q':bJ->Act->eT->Prop),¬cA Q'->∀a w,s.rel C a w->o.wpIn (fnc C.rd) 4 P a w (λa' w'=>∃u,K u/\u.rel C a' w') Q'
theorem Axx.op{K:St->Prop}(h:AOp P C o s K):Axx P C o s K:=λQ' u a w H=>Sf (h Q' a w H).1 u (h Q' a w H).2
def Ih(P:cX)(C:Ctx)(ops:Array cQ)(K:St->Prop):List cQ->St->Prop
 | [],s=>K s
 |o::rest,s=>∃b,gA ops s.t o=mF b/\(b=aX->Axx P C o s (Ih P C ops K rest))/\(b=aS->Ih P C ops K rest ⟨Bn s.t o.dst (.lit undef),s.h⟩)
theorem Dv{rd:Option Nat}(A:C.rd=rd){ops:Array cQ}{K:St->Prop}{Q':bJ->Act->eT->Prop}(u:¬cA Q')(E:∀s a w,K s->s.rel C a w->Q' .normal a w):∀(l:List cQ) (s:St) (a:Act) (w:eT),Ih P C ops K l s->s.rel C a w->fZ (fnc rd) 4 P ops Q' l a w
 | [],s,a,w,h,H=>E s a w h H
 |o::rest,s,a,w,h,H=>by
  obtain⟨b,hg,ht,O⟩:=h;obtain⟨_,S,ψ,_,I⟩:=id H;have G:=DR hg I;unfold fZ;rw[G];cases b with
  |true=>
   rw[if_pos V];subst A;have B:=ht V Q' u a w H;exact Oper.wpIn_mono (λa' w' ⟨F,h1,h2⟩=>Dv V u E rest F a' w' h1 h2) B
  |false=>
   rw[if_neg (by simp)];exact⟨λ_ _=>UA _ _,Dv A u E rest _ _ w (O V) (FQ H o.dst)⟩
theorem P5{id:Nat}(h:Ih P C l.toArray (Q .normal) l s):Awp P C (.region id l.toArray aS) Q s:=λa w H=>
 wpIn_mono (wpIn_region_lit (Dv V (Q':=λe a' w'=>e= .normal/\∃u,Q e u/\u.rel C a' w') (λ⟨_,_,h⟩=>by cases h.1) (λs a w h H=>⟨rfl,s,h,H⟩) l s a w h H)) λ_ _ _ h=>h.2
theorem Gc{K:St->Prop}(h:K s):Ih P C ops K [] s:=h
theorem Ig{K:St->Prop}{rest:List cQ}(hg:gA ops s.t o=mF aX)(hq:AOp P C o s (Ih P C ops K rest)):Ih P C ops K (o::rest) s:=⟨aX,hg,λ_=>Axx.op hq,λh=>by cases h⟩
theorem PQ{K:St->Prop}{rest:List cQ}(hg:gA ops s.t o=mF aX)(hq:Axx P C o s (Ih P C ops K rest)):Ih P C ops K (o::rest) s:=⟨aX,hg,λ_=>hq,λh=>by cases h⟩
theorem Ro{K:St->Prop}{rest:List cQ}(hg:gA ops t o=mF aS)(hk:Ih P C ops K rest ⟨Bn t o.dst (.lit undef),h⟩):Ih P C ops K (o::rest) ⟨t,h⟩:=⟨aS,hg,λh=>(by cases h),λ_=>hk⟩
theorem Df{K:St->Prop}{t t':List AV}{h h':List kA}(ht:t=t')(hh:h=h')(hk:Ih P C ops K l ⟨t',h'⟩):Ih P C ops K l ⟨t,h⟩:=by subst ht hh;exact hk
def PR{ι:Type}(P:cX)(l:Nat)(u:Nat->Prop)(A:Nat)(R:Res)(xs:List AV)(b:Bool)(Rs:ι->Res):Prop:=
 ∀(w:eT) (S:Nat->Prop) (vs:List eO),(∀k,u k->S k)->(∀k,S k->u k\/A<=k)->(∀k,S k->k < w.heap.size/\¬R.F k)->(∀g,R.F g->g < w.heap.size)->R.R w S->Af w S [] ψ0 xs vs->
  YieldAt bK 2 P l vs.toArray w λe w'=>e= .returned (.bool b)/\lC w S R.F Rs (λ_=>.bool b) (.bool b) w'
theorem La{b:Bool}{l:Nat}{args:Array cW}{K:St->Prop}(F:C.rd=mE)(hi:h[i]? =mF (.res R))(hm:∀p,(Rs p).mrk=R.mrk)
 (ho:o.op= .call {callee:=.value x,args:=args,argTypes:=tys})(hx:evA t x= .lit (.func (.yield l) #[] #[]))(E:args.toList.map (evA t)=xs)(hc:Bj xs=aX)
 (hY:PR P l C.S0 C.w0.heap.size R xs b Rs)(hK:∀p,K ⟨Bn t o.dst (.lit (.bool b)),h.set i (.res (Rs p))⟩):Axx P C o ⟨t,h⟩ K:=by
 rintro Q' hQ a w ⟨hd,S,ψ,H,G⟩;have u:=H.blk i _ hi;have h1:=Bw G x;rw[hx]at h1;unfold kK at h1;have h2:Af w S h ψ xs (args.toList.map a.eval):=by
  rw[<-E];exact Cc λx _=>Bw G x
 obtain⟨fn,tmps,assign,body,hy,hR⟩:=hY w S (args.toList.map a.eval) H.sub H.new (λk hk=>⟨H.lt k hk,λI=>(u.1 k I).2.1 hk⟩) (λg hg=>(u.1 g hg).2.2) u.2 (Bi _ _ hc h2);have O:∀c,o.op≠.defer c:=λc e=>by rw[ho]at e;cases e
 have A:(fG a.eval o).run P w= .ok (.round l fn tmps assign body) w:=by
  have e:(args.map a.eval)=(args.toList.map a.eval).toArray:=by rw[<-aN]
  simp only[fG,ho,fS,h1];simp[Deferred.ofValue,fO];rw[e,hy]
 rw[F];refine⟨λ_ _=>UA _ _,?_⟩;rw[Oper.semAt_eq _ _ _ O,A];refine⟨λh=>(by cases h),?_⟩;have aa:RoundIn bK 3 P l fn tmps assign body w _:=⟨hR.1,λc cs _=>hR.2 c cs (room_wide _)⟩
 refine RoundIn.mono aa ?_;rintro e w' ⟨rfl,Y⟩;obtain⟨p,_,Z,hF⟩:=Y.some;have B:∀k,S k->w'.heap[k]? =w.heap[k]?:=λk hk=>Y.gr.block k (H.lt k hk) λI=>(u.1 k I).2.1 hk
 have X:Ext w S h ψ w' S (h.set i (.res (Rs p))) (Bo ψ i (ψ i)):=kP B hi (λc' hc=>by simp[kE]at hc) λh=>by simp[AZ]at h
 have ab:Hw C.N w' S (h.set i (.res (Rs p))) (Bo ψ i (ψ i)) (ψ i) (.res (Rs p)):=⟨λg hg=>by
  obtain⟨h1,h2⟩:=hF g hg;rcases h1 with h1|h1
  ·exact⟨(u.1 g h1).1,(u.1 g h1).2.1,h2⟩
  ·exact⟨λhn=>by have:=H.nlt g hn;have:=H.bel.size;omega,λhs=>by have:=H.lt g hs;omega,h2⟩,Z⟩
 exact⟨_,hK p,Is (s:=⟨t,h⟩) hi hd G (H.set hi V Y.gr X ab λg hg=>(hF g hg).1) X (by unfold kK;rfl) (by show(Rs p).mrk.map J9=R.mrk.map J9;rw[hm p])⟩
def Ahy{ι:Type}(P:cX)(l:Nat)(A:Nat->Prop)(u:Nat)(R:Res)(xs:List AV)(Rs:ι->Res):Prop:=PR P l A u R xs aX Rs
theorem Axx.yield{l:Nat}{args:Array cW}{K:St->Prop}(A:C.rd=mE)(hi:h[i]? =mF (.res R))(E:∀p,(Rs p).mrk=R.mrk)
 (B:o.op= .call {callee:=.value x,args:=args,argTypes:=tys})(hx:evA t x= .lit (.func (.yield l) #[] #[]))(u:args.toList.map (evA t)=xs)(hc:Bj xs=aX)
 (F:Ahy P l C.S0 C.w0.heap.size R xs Rs)(G:∀p,K ⟨Bn t o.dst (.lit (.bool aX)),h.set i (.res (Rs p))⟩):Axx P C o ⟨t,h⟩ K:=La A hi E B hx u hc F G
end
theorem FT{w:eT}{S:Nat->Prop}{h:List kA}{ψ:Nat->eO}:∀l:List eO,Af w S h ψ (l.map .lit) l
 | []=>by unfold Af;rfl
 |v::l=>by
  simp only[jB];unfold Af;exact⟨v,l,rfl,by unfold kK;rfl,FT l⟩
def Al6{κ:Type}(P:cX)(gf:bM)(lb:List eO)(RB:Res)(st:κ->List AV->κ->Prop)(k0:κ)(fin:κ->Prop):Prop:=
 B9 P gf=aX/\∀(w:eT) (S:Nat->Prop) (ι:Type) (l:Nat) (u:κ->ι->Res),(∀k p,(u k p).mrk= [])->(∀k es k',st k es k'->∀p,Ahy P l S w.heap.size (u k p) es (u k'))->
  ∀p,(∀k,S k->k < w.heap.size/\¬(u k0 p).F k/\¬RB.F k)->(∀g,(u k0 p).F g->g < w.heap.size/\¬RB.F g)->(∀g,RB.F g->g < w.heap.size)->(u k0 p).R w S->RB.R w S->
   bD bK 3 P gf (#[eP (.yield l) #[] #[]]++lb.toArray) w λe w'=>(∃v,e= .returned v)/\Gr (λg=>(u k0 p).F g\/RB.F g) w w'/\∃A q S',fin A/\(∀k,S k->S' k)/\(u A q).R w' S'/\(∀k,S' k->k < w'.heap.size/\¬(u A q).F k)/\(∀k,S' k->S k\/w.heap.size<=k)/\∀g,(u A q).F g->((u k0 p).F g\/RB.F g\/w.heap.size<=g)/\g < w'.heap.size
def Ay3{κ ι:Type}(fin:κ->Prop)(A:κ->ι->Res):bJ->St->Prop:=λe s=>(e= .normal\/e= .ret)/\∃u,fin u/\∃q,s.h[0]? =mF (.res (A u q))/\mkD s.h= []
theorem NE{P:cX}(hf:P.funcs[gf]? =mF fn)(hb:fn.body=mF c)(hE:B9 P gf=aX)(A:fn.results= #[])(G:fn.ntmps=n)(Z:RB.mrk= [])
 (h:∀(C:Ctx),C.rd=mE->∀(ι:Type) (l:Nat) (u:κ->ι->Res),(∀k p,(u k p).mrk= [])->(∀k es k',st k es k'->∀p,Ahy P l C.S0 C.w0.heap.size (u k p) es (u k'))->∀p,
  Awp P C c (Ay3 fin u) ⟨(.lit (.func (.yield l) #[] #[])::lb.map .lit)++jV (n - (lb.length+1)) (.lit undef),[.res (u k0 p),.res RB]⟩):Al6 P gf lb RB st k0 fin:=by
 refine⟨hE,λw S ι l u hm hY p hS hF hB hR ac=>fC hf hb trivial ?_⟩;rw[G];let N0:Nat->Prop:=λk=>k < w.heap.size/\¬(u k0 p).F k/\¬RB.F k
 have hH:kR ⟨w,S,N0,mE⟩ [.res (u k0 p),.res RB] S ψ0 w:=by
  refine⟨Kp.refl _ _,λk hk=>hk.1,λk hk=>(hS k hk).1,λ_ h=>h,λ_ h=>.inl h,λi b hi=>?_,λi j I hi hj g h1 h2=>?_⟩
  ·rcases i with _|_|i
   ·have:b= .res (u k0 p):=by simpa using hi.symm
    subst this;exact⟨λg hg=>⟨λG=>G.2.1 hg,λX=>(hS g X).2.1 hg,(hF g hg).1⟩,hR⟩
   ·have:b= .res RB:=by simpa using hi.symm
    subst this;exact⟨λg hg=>⟨λG=>G.2.2 hg,λX=>(hS g X).2.2 hg,hB g hg⟩,ac⟩
   ·simp at hi
  ·rcases i with _|_|i
   ·rcases j with _|_|j
    ·exact I V
    ·exact(hF g h1).2 h2
    ·simp[kB]at hj
   ·rcases j with _|_|j
    ·exact(hF g h2).2 h1
    ·exact I V
    ·simp[kB]at hj
   ·simp[kB]at hi
 have O:lB ⟨w,S,N0,mE⟩ ⟨(.lit (.func (.yield l) #[] #[])::lb.map .lit)++jV (n - (lb.length+1)) (.lit undef),[.res (u k0 p),.res RB]⟩ {tmps:=(#[eP (.yield l) #[] #[]]++lb.toArray)++aL (n - (#[eP (.yield l) #[] #[]]++lb.toArray).size) undef,defers:=[]} w:=by
  refine⟨?_,S,ψ0,hH,?_⟩
  ·show []=mkD _;simp[mkD,kC,hm k0 p,Z]
  ·have e:((#[eP (.yield l) #[] #[]]++lb.toArray)++aL (n - (#[eP (.yield l) #[] #[]]++lb.toArray).size) undef).toList=(eP (.yield l) #[] #[]::lb)++jV (n - (lb.length+1)) undef:=by
    simp[lD 1 lb.length]
   rw[e,show(kJ (.func (.yield l) #[] #[])::lb.map .lit)=((eP (.yield l) #[] #[]::lb).map kJ)from V,show jV (n - (lb.length+1)) (kJ undef)=(jV (n - (lb.length+1)) undef).map kJ by simp];exact BK (FT _) (FT _)
 have hw:=h ⟨w,S,N0,mE⟩ V ι l u hm hY p _ w O;refine wpIn_mono (Ak0 (m:=3) hw) ?_;rintro e a' w' ⟨s,⟨he,E,ab,q,h0,Y⟩,hd,S1,ψ,H,hl⟩;rw[Y]at hd;have hq:=H.blk 0 _ h0;have B:(∃v,bI (.tuple #[])= .returned v)/\Gr (λg=>(u k0 p).F g\/RB.F g) w w'/\∃E q S',fin E/\(∀k,S k->S' k)/\(u E q).R w' S'/\(∀k,S' k->k < w'.heap.size/\¬(u E q).F k)/\(∀k,S' k->S k\/w.heap.size<=k)/\∀g,(u E q).F g->((u k0 p).F g\/RB.F g\/w.heap.size<=g)/\g < w'.heap.size:=by
  refine⟨⟨_,rfl⟩,⟨H.bel.os,H.bel.tape,H.bel.output,H.bel.size,λk hk F=>H.bel.block k ⟨hk,λh=>F (.inl h),λh=>F (.inr h)⟩⟩,E,q,S1,ab,H.sub,hq.2,λk hk=>⟨H.lt k hk,λhf=>(hq.1 k hf).2.1 hk⟩,H.new,λg hg=>⟨?_,(hq.1 g hg).2.2⟩⟩;have h1:=(hq.1 g hg).1;by_cases aa:g < w.heap.size
  ·by_cases h2:(u k0 p).F g
   ·exact .inl h2
   ·by_cases h3:RB.F g
    ·exact .inr (.inl h3)
    ·exact absurd ⟨aa,h2,h3⟩ h1
  ·exact .inr (.inr (by show w.heap.size<=g;omega))
 rcases he with rfl|rfl
 ·exact⟨hd,_,fT A _ _ _,B⟩
 ·exact⟨hd,_,fT A _ _ _,B⟩
def Ah3(P:cX)(gf:bM)(lb:List eO)(RB:Res)(encs:Nat->List AV)(N:Nat):Prop:=Al6 P gf lb RB (λk es k'=>k < N/\es=encs k/\k'=k+1) 0 (· =N)
def Aq0{ι:Type}(Rs:ι->Res):bJ->St->Prop:=λe s=>(e= .normal\/e= .ret)/\∃q,s.h[0]? =mF (.res (Rs q))/\mkD s.h= []
theorem ND{P:cX}{encs:Nat->List AV}(G:P.funcs[gf]? =mF fn)(H:fn.body=mF c)(O:B9 P gf=aX)(A:fn.results= #[])(E:fn.ntmps=n)(B:RB.mrk= [])
 (h:∀(C:Ctx),C.rd=mE->∀(ι:Type) (l:Nat) (u:Nat->ι->Res),(∀k p,(u k p).mrk= [])->(∀k p,k < N->Ahy P l C.S0 C.w0.heap.size (u k p) (encs k) (u (k+1)))->∀p,
  Awp P C c (Aq0 (u N)) ⟨(.lit (.func (.yield l) #[] #[])::lb.map .lit)++jV (n - (lb.length+1)) (.lit undef),[.res (u 0 p),.res RB]⟩):Ah3 P gf lb RB encs N:=
 NE G H O A E B λC X ι l u F I p=>(h C X ι l u F (λk p hk=>I k _ _ ⟨hk,rfl,rfl⟩ p) p).mono λ_ _ ⟨h1,q⟩=>⟨h1,N,rfl,q⟩
theorem P2{P:cX}{encs:Nat->List AV}(hE:B9 P gf=aX)
 (X:∀w S,(∀k,S k->k < w.heap.size)->(∀k,R.F k->k < w.heap.size)->R.R w S->Aq2 P gf lb.toArray (λk=>S k\/R.F k) w (λk vs=>Af w S [] ψ0 (encs k) vs) N):Ah3 P gf lb R encs N:=by
 refine⟨hE,λw S ι l G hm hY p E hF hB hR aa=>?_⟩;have I:∀{k q g} {W:eT},S g->(∀g,(G k q).F g->((G 0 p).F g\/w.heap.size<=g)/\g < W.heap.size)->¬(G k q).F g:=λhg ab H=>by
  rcases(ab _ H).1 with h|h
  ·exact(E _ hg).2.1 h
  ·have:=(E _ hg).1;omega
 refine(X w S (λk hk=>(E k hk).1) hB aa l (λk W=>Gr (G 0 p).F w W/\∃q,(G k q).R W S/\∀g,(G k q).F g->((G 0 p).F g\/w.heap.size<=g)/\g < W.heap.size) w .refl ?_ ⟨⟨rfl,rfl,rfl,lI _,λ_ _ _=>rfl⟩,p,hR,λg hg=>⟨.inl hg,(hF g hg).1⟩⟩).mono ?_
 ·rintro k vs W hk he ⟨u,q,hq,A⟩;have Z:∀g,S g->W.heap[g]? =w.heap[g]?:=λg hg=>u.block g (E g hg).1 (E g hg).2.1
  obtain⟨fn,tmps,assign,body,hy,hr⟩:=hY k _ _ ⟨hk,rfl,rfl⟩ q W S vs (λ_ h=>h) (λ_ h=>.inl h) (λg hg=>⟨lK (E g hg).1 u.size,I hg A⟩) (λg hg=>(A g hg).2) hq (Az (kM [] ψ0 Z λ_ h=>h) _ _ he);refine⟨fn,tmps,assign,body,hy,hr.mono ?_⟩;rintro e W' ⟨rfl,B,q',_,O,F⟩;have Y:∀g,g < w.heap.size->¬(G 0 p).F g->W'.heap[g]? =W.heap[g]?:=λg h1 h2=>B.block g (lK h1 u.size) λH=>by
   rcases(A g H).1 with h|h
   ·exact h2 h
   ·omega
  have hs:=u.size;refine⟨rfl,⟨⟨B.os.trans u.os,B.tape.trans u.tape,B.output.trans u.output,lJ hs B.size,λg h1 h2=>(Y g h1 h2).trans (u.block g h1 h2)⟩,q',O,λg hg=>⟨?_,(F g hg).2⟩⟩,B.size,λg hg=>?_⟩
  ·rcases(F g hg).1 with h|h
   ·exact(A g h).1
   ·exact .inr (by omega)
  ·rcases hg with hg|hg
   ·exact Y g (E g hg).1 (E g hg).2.1
   ·exact Y g (hB g hg) λH=>(hF g H).2 hg
 ·rintro e W' ⟨hv,u,q,hq,A⟩;refine⟨hv,⟨u.os,u.tape,u.output,u.size,λg h1 h2=>u.block g h1 λh=>h2 (.inl h)⟩,N,q,S,rfl,λ_ h=>h,hq,λk hk=>⟨lK (E k hk).1 u.size,I hk A⟩,λ_ h=>.inl h,λg hg=>⟨?_,(A g hg).2⟩⟩;rcases(A g hg).1 with h|h
  ·exact .inl h
  ·exact .inr (.inr h)
theorem HRel.widen{C:Ctx}{h:List kA}{S':Nat->Prop}(H:kR C h S ψ W)(G:∀k,S k->S' k)(E:∀k,S' k->k < W.heap.size/\¬owns h ψ k)(B:Nat->Prop)(F:∀k,B k->k < W.heap.size/\¬owns h ψ k)(rd:Option Nat):kR ⟨W,S',B,rd⟩ h S' ψ W:=by
 have I:=H.re (W':=W) (λ_ _=>rfl) (λ_ _=>rfl) B F rd;refine⟨Kp.refl _ _,λk hk=>(F k hk).1,λk hk=>(E k hk).1,λ_ h=>h,λ_ h=>.inl h,λi b hi=>?_,H.dis⟩;by_cases u:kB (mF b)=aX
 ·exact(I.blk i b hi).keep (kM h ψ (λ_ _=>rfl) G) λg hg=>⟨rfl,λ_ A=>(E g A).2 ⟨i,by rw[hi];exact u,by rw[hi];exact hg⟩⟩
 ·cases b <;> simp[kB]at u
  trivial
def Ad1{J:Type}(u:Option Nat)(h':J->List kA):bJ->St->Prop:=λe s=>e=(match u with|none=>.normal|some id=>.exit id)/\∃j,Drops s.h (h' j)
def G4(P:cX){J:Type}(body:bE)(u:Option Nat)(h':J->List kA)(B:St):Prop:=∀A:Ctx,NF A->Awp P A body (Ad1 u h') B
structure BetY(d:Nat)(S own0:Nat->Prop)(w:World)(rec_:Loop)(hk:List ABlk)(Sk:Nat->Prop)(ψk:Nat->Value)(X:Nat->Prop)(W:World)(SI:Nat->Prop):Prop where
 loop:W.heap[w.heap.size+d]? =some (.loop rec_)
 dfr:∀i,i < d->W.heap[w.heap.size+i]? =some (.deferred (some []))
 size:w.heap.size+d < W.heap.size
 same:∀g,S g->W.heap[g]? =w.heap[g]?
 st:HRel ⟨W,Sk,λ_=>False,none⟩ hk Sk ψk W
 sub:∀g,S g->Sk g
 new:∀g,Sk g->S g\/w.heap.size+d < g
 old:∀g,owns hk ψk g->own0 g\/w.heap.size+d < g
 cover:∀g,Sk g->X g\/SI g
abbrev Ais:=(Nat->Prop)×(Nat->eO)×(Nat->Prop)
def Axj(d:Nat)(w:eT)(hk:List kA)(p:Ais)(g:Nat):Prop:=(w.heap.size<=g/\g<=w.heap.size+d)\/owns hk p.2.1 g\/p.2.2 g
def Als(d:Nat)(S A:Nat->Prop)(w:eT)(u:cF)(hk:List kA)(p:Ais):Res:=⟨[],Axj d w hk p,λW I=>BetY d S A w u hk p.1 p.2.1 p.2.2 W I,by
 intro W W' I X H F O B;have E:∀g,p.1 g->W'.heap[g]? =W.heap[g]?:=λg hg=>by
  rcases H.cover g hg with h1|h1
  ·exact F g (.inr (.inr h1))
  ·exact O g h1
 have G:=(F _ (.inl ⟨Nat.le_add_right _ _,lI _⟩)).trans H.loop;exact⟨G,λi hi=>(F _ (.inl ⟨by omega,by omega⟩)).trans (H.dfr i hi),(aD.1 G).1,λg hg=>(E g (H.sub g hg)).trans (H.same g hg),H.st.re E (λk hk=>F k (.inr (.inl hk))) _ (λ_ h=>h.elim) mE,H.sub,H.new,H.old,λg hg=>(H.cover g hg).imp id (B g)⟩⟩
theorem XR{d:Nat}{P:cX}{G SI:Nat->Prop}{t es:List AV}{hk:List kA}{Y:J->List kA}{vs:List eO}{tmps:Array eO}{assign body:bE}{fn:bM}{F:LoopState->Option bE->cF}{p:Ais}(E:Option Nat)
 (bx:∀x z y,({F x z with state:=y}:cF)=F y z)(bi:∀z,(F .ready z).state= .ready)(cd:∀x z y u,({F x z with state:=y,pending:=u}:cF)=F y u)
 (bz:∀g,G g->g < w.heap.size)(br:∀g,S g->g < w.heap.size)
 (ht:Bj t=aX)(cc:Bj es=aX)(bv:Af w S [] ψ0 t tmps.toList)(cb:Af W SI [] ψ0 es vs)(hm:mkD hk= [])
 (cm:∀g,S g->SI g)(bu:∀g,SI g->S g\/w.heap.size+d < g)(bt:∀g,SI g->g < W.heap.size/\¬Axj d w hk p g)
 (hB:BetY d S G w (F .ready mE) hk p.1 p.2.1 p.2.2 W SI)
 (hA:∀C':Ctx,NF C'->Awp P C' assign (Kc (G4 P body E Y) (λ_ _=>False)) ⟨Nf t ps.toList es,hk⟩):
 RoundIn bK 2 P (w.heap.size+d) fn ((ps.toList.zip vs).foldl (λt p=>t.setIfInBounds p.1 p.2) tmps) assign body W λe W'=>e= .returned (.bool E.isNone)/\lC W SI (Axj d w hk p) (λq:J×Ais=>Als d S G w (F (if E.isNone then .ready else .done) (E.map bF)) (Y q.1) q.2) (λ_=>.bool E.isNone) (.bool E.isNone) W':=by
 obtain⟨Sk,I,X⟩:=p;obtain⟨hl,hD,bw,ag,H,al,bb,ah,aw⟩:=hB;dsimp only at H al bb ah aw;obtain⟨l,aj⟩:∃l,l=w.heap.size+d:=⟨_,rfl⟩
 rw[<-aj]at hl bw bb ah bu;rw[<-aj];have hF:∀g,Axj d w hk (Sk,I,X) g↔((w.heap.size<=g/\g<=w.heap.size+d)\/owns hk I g\/X g):=λg=>Iff.rfl
 have bh:∀{g},S g\/l < g->g≠l:=λh=>by
  rcases h with h|h
  ·have:=br _ h;omega
  ·omega
 have ba:∀{g},G g\/l < g->g≠l/\¬(w.heap.size<=g/\g<=l):=λh=>by
  rcases h with h|h
  ·have:=bz _ h;omega
  ·omega
 let S1:Nat->Prop:=λg=>Sk g\/SI g
 have bq:∀g,S1 g->g < W.heap.size/\¬owns hk I g:=λg hg=>by
  rcases hg with hg|hg
  ·exact⟨H.lt g hg,λho=>(H.own_lt ho).2.2 hg⟩
  ·exact⟨(bt g hg).1,λho=>(bt g hg).2 (.inr (.inl ho))⟩
 have az:∀g,S1 g->S g\/l < g:=λg hg=>hg.elim (bb g) (bu g)
 let N1:Nat->Prop:=λg=>g < W.heap.size/\¬owns hk I g
 have bn:∀g,w.heap.size<=g/\g<=l->N1 g:=λg hg=>⟨by omega,λho=>(ba (ah g ho)).2 hg⟩
 have an:=bn l ⟨by omega,lI _⟩;have H1:=H.widen (S':=S1) (λk hk=>.inl hk) bq N1 (λ_ h=>h) (mF l);refine roundIn_of_wpIn trivial ?_;have r1:lB ⟨W,S1,N1,mF l⟩ ⟨Nf t ps.toList es,hk⟩ {tmps:=(ps.toList.zip vs).foldl (λt p=>t.setIfInBounds p.1 p.2) tmps,defers:=[]} W:=by
  refine⟨hm.symm,S1,I,H1,QT _ _ _ _ _ ?_ ?_⟩
  ·exact Bi _ _ cc (Az (kM [] ψ0 (λ_ _=>rfl) λk hk=>.inr hk) _ _ cb)
  ·exact Bi _ _ ht (Az (kM [] ψ0 ag λk hk=>.inl (al k hk)) _ _ bv)
 refine wpIn_mono (Ak0 (hA ⟨W,S1,N1,mF l⟩ ⟨_,_,rfl,an,hl⟩ _ _ r1)) ?_;rintro e a1 Wa ⟨s1,q1,ce,Sa,ad,Ha,ca⟩;cases e with
 |normal=>
  have ab:=Ha.bel;have au:Wa.heap[l]? =mF (.loop (F .ready mE)):=(ab.block _ an).trans hl;have ax:∀g,Sa g->S1 g\/W.heap.size<=g:=Ha.new;have bc:∀g,owns s1.h ad g->owns hk I g\/W.heap.size<=g:=λg hg=>by
   by_cases be:g < W.heap.size
   ·exact .inl (Classical.not_not.1 λh2=>(Ha.own_lt hg).1 ⟨be,h2⟩)
   ·right;omega
  have far:∀{g} {A B:Prop},(A->B\/l < g)->A\/W.heap.size<=g->B\/l < g:=λh1 h2=>h2.elim h1 λh=>.inr (by omega)
  have aq:∀g,Sa g->g≠l:=λg hg=>bh (far (az g) (ax g hg))
  have bl:∀g,owns s1.h ad g->g≠l:=λg hg=>(ba (far (ah g) (bc g hg))).1
  refine⟨_,run_beginRound au (bi _),?_⟩;rw[bx];obtain⟨O,aa⟩:∃O,O=Wa.putObj l (.loop (F .busy mE)):=⟨_,rfl⟩
  rw[<-aa];have am:∀g,g≠l->O.heap[g]? =Wa.heap[g]?:=λg hg=>by rw[aa];exact eY hg
  have cf:O.heap.size=Wa.heap.size:=by rw[aa];simp
  let N2:Nat->Prop:=λg=>g < O.heap.size/\¬owns s1.h ad g
  have H2:=Ha.re (W':=O) (λk hk=>am k (aq k hk)) (λk hk=>am k (bl k hk)) N2 (λ_ h=>h) (mF l);have ar:O.heap[l]? =mF (.loop (F .busy mE)):=by rw[aa];exact eZ (aD.1 au).1
  have ck:W.heap.size<=Wa.heap.size:=ab.size;have ak:∀g,N1 g->N2 g:=λg hg=>⟨by have:=hg.1;omega,λho=>(bc g ho).elim hg.2 λh1=>by have:=hg.1;omega⟩
  have r2:lB ⟨O,Sa,N2,mF l⟩ s1 a1 O:=⟨ce,Sa,ad,H2,Az (kM s1.h ad (λk hk=>am k (aq k hk)) λ_ h=>h) _ _ ca⟩
  refine wpIn_mono (Ak0 (q1 ⟨O,Sa,N2,mF l⟩ ⟨_,_,rfl,ak _ an,ar⟩ _ _ r2)) ?_;rintro e a3 W3 ⟨s2,⟨he,jj,bf⟩,cj,S3,ae,H3,ci⟩;have ac:=H3.bel;have av:W3.heap[l]? =mF (.loop (F .busy mE)):=(ac.block _ (ak _ an)).trans ar;have H4:=H3.cut bf.cut bf.bd;have cg:O.heap.size<=W3.heap.size:=ac.size;have bo:∀g,S3 g->S1 g\/W.heap.size<=g:=λg hg=>(H3.new g hg).elim (ax g) λh1=>.inr (by have:O.heap.size<=g:=h1;omega)
  have bj:∀g,owns (Y jj) ae g->owns hk I g\/W.heap.size<=g:=λg hg=>by
   by_cases be:g < O.heap.size
   ·exact bc g (Classical.not_not.1 λh2=>(H3.own_lt (Aju bf.cut hg)).1 ⟨be,h2⟩)
   ·right;omega
  have ay:∀g,S3 g->S g\/l < g:=λg hg=>far (az g) (bo g hg)
  have ap:∀g,owns (Y jj) ae g->G g\/l < g:=λg hg=>far (ah g) (bj g hg)
  have hr:=run_endRound (P:=P) (E.map bF) av;rw[cd,show(E.map bF).isNone=E.isNone by cases E <;> rfl]at hr;obtain⟨W4,Z⟩:∃W4,W4=W3.putObj l (.loop (F (if E.isNone then .ready else .done) (E.map bF))):=⟨_,rfl⟩
  rw[<-Z]at hr;have ai:∀g,g≠l->W4.heap[g]? =W3.heap[g]?:=λg hg=>by rw[Z];exact eY hg
  have ao:W4.heap.size=W3.heap.size:=by rw[Z];simp
  have bg:∀g,N1 g->g≠l->W4.heap[g]? =W.heap[g]?:=λg hg bm=>by
   rw[ai g bm,ac.block g (ak g hg)];exact(am g bm).trans (ab.block g hg)
  have fin:∃v W5,(Instr.endRound l (E.map bF)).run P W3= .ok v W5/\(bI v= .returned (.bool E.isNone)/\lC W SI (Axj d w hk (Sk,I,X)) (λq:J×Ais=>Als d S G w (F (if E.isNone then .ready else .done) (E.map bF)) (Y q.1) q.2) (λ_=>.bool E.isNone) (.bool E.isNone) W5):=?fin
  ·cases E with
   |none=>subst he;exact fin
   |some id=>subst he;exact fin
  refine⟨_,_,hr,rfl,⟨?_,?_,?_,by omega,λg hg bk=>?_⟩,(jj,S3,ae,λg=>S3 g/\¬SI g),rfl,?_,λg hg=>?_⟩
  ·rw[Z];exact ac.os.trans (show O.os=W.os by rw[aa];exact ab.os)
  ·rw[Z];exact ac.tape.trans (show O.tape=W.tape by rw[aa];exact ab.tape)
  ·rw[Z];exact ac.output.trans (show O.output=W.output by rw[aa];exact ab.output)
  ·exact bg g ⟨hg,λho=>bk (.inr (.inl ho))⟩ λe=>bk (.inl ⟨by omega,by omega⟩)
  ·show BetY d S G w _ (Y jj) S3 ae (λg=>S3 g/\¬SI g) W4 SI;refine⟨by rw[Z,<-aj];exact eZ (aD.1 av).1,λi hi=>(bg _ (bn _ ⟨by omega,by omega⟩) (by omega)).trans (hD i hi),by omega,λg hg=>?_,?_,λg hg=>H3.sub g (Ha.sub g (.inl (al g hg))),by rw[<-aj];exact ay,by rw[<-aj];exact ap,λg hg=>?_⟩
   ·have ch:=br g hg;exact(bg g ⟨by omega,λho=>(H.own_lt ho).2.2 (al g hg)⟩ (by omega)).trans (ag g hg)
   ·exact H4.re (λk hk=>ai k (bh (ay k hk))) (λk hk=>ai k (ba (ap k hk)).1) _ (λ_ h=>h.elim) mE
   ·by_cases h1:SI g
    ·exact .inr h1
    ·exact .inl ⟨hg,h1⟩
  ·have hg:(w.heap.size<=g/\g<=w.heap.size+d)\/owns (Y jj) ae g\/(S3 g/\¬SI g):=hg;rcases hg with hg|hg|hg
   ·exact⟨.inl (.inl hg),by omega⟩
   ·exact⟨(bj g hg).imp (λh1=>.inr (.inl h1)) id,by rw[ao];exact(H4.own_lt hg).2.1⟩
   ·refine⟨?_,by rw[ao];exact H4.lt g hg.1⟩;rcases bo g hg.1 with(h1|h1)|h1
    ·exact .inl (.inr (.inr ((aw g h1).resolve_right hg.2)))
    ·exact absurd h1 hg.2
    ·exact .inr h1
 |_=>exact q1.elim
section
variable{P:cX}
theorem Hy{C:Ctx}{assign body:bE}{t:List AV}{h:List kA}(i im:Nat)(σ:κ->J->List kA)(j0:J)
 (hrd:C.rd=mE)(hg:evA t g= .lit (.func (.func gf) #[] lb.toArray))(hne:i≠im)(hi:h[i]? =mF (.res RB))(hmi:h[im]? =mF (.res (Bl ds)))(hmk:mkD h=ds.map J9)
 (h0:Drops h (σ k0 j0))(h0i:(σ k0 j0)[i]? =mF .dead)(hσm:∀k j,(σ k j)[im]? =mF .dead)(hmσ:∀k j,mkD (σ k j)= [])(ht:Bj t=aX)(hes:∀k es k',st k es k'->Bj es=aX/\es.length=ps.size)
 (hit:Al6 P gf lb RB st k0 fin)
 (hround:∀k j es k',st k es k'->∀C':Ctx,NF C'->Awp P C' assign (Kc (G4 P body mE (σ k')) (λ_ _=>False)) ⟨Nf t ps.toList es,σ k j⟩)
 (hdone:∀kN,fin kN->∀j D,Q .normal ⟨t,(σ kN j).set im (.res (Bl (D::ds)))⟩):Awp P C (.rangeFunc g ps assign body) Q ⟨t,h⟩:=λa w ⟨hd,S,ψ,H,hl⟩=>by
 rw[hrd];show(Code.rangeFunc g ps assign body).wpIn bK 4 P _ a w;have H0:=H.cut h0.cut h0.bd;have hBi:=H.blk i _ hi;have hBm:=H.blk im _ hmi;have hgv:=Bw hl g;rw[hg]at hgv;unfold kK at hgv;have hlit:Af w S [] ψ0 t a.tmps.toList:=Bi _ _ ht hl;obtain⟨own0,hown0⟩:∃o,o=owns (σ k0 j0) ψ:=⟨_,rfl⟩
 have ho0:∀g,own0 g->g < w.heap.size:=λg hg=>by rw[hown0]at hg;exact(H0.own_lt hg).2.1
 have hdead:∀(j:Nat) (R':Res),h[j]? =mF (.res R')->(σ k0 j0)[j]? =mF .dead->∀g,R'.F g->¬own0 g:=λj R' hj hjd g hF ho=>by
  rw[hown0]at ho;obtain⟨j',h1,h2⟩:=ho;have hne:j'≠j:=λe=>by subst e;rw[hjd]at h1;cases h1
  rw[h0.cut.same h1]at h2;exact H.dis j' j hne (h0.cut.live h1) (by rw[hj];rfl) g h2 (by rw[hj];exact hF)
 have hSo:∀g,S g->¬own0 g:=λg hg ho=>by rw[hown0]at ho;exact(H0.own_lt ho).2.2 hg
 have hRlt:∀g,RB.F g->g < w.heap.size:=λg hg=>(hBi.1 g hg).2.2
 refine wpIn_rangeFunc λfn _=>?_
 obtain⟨rec_,hrec⟩:∃rec_:LoopState->Option bE->cF,rec_=λst pe=>{state:=st,pending:=pe,fn,tmps:=a.tmps,params:=ps,assign,body,defers:=w.heap.size}:=⟨_,rfl⟩
 have hst:∀x z y,({rec_ x z with state:=y}:cF)=rec_ y z:=λx z y=>by rw[hrec]
 have hrst:∀z,(rec_ .ready z).state= .ready:=λz=>by rw[hrec]
 have hen:∀x z y u,({rec_ x z with state:=y,pending:=u}:cF)=rec_ y u:=λx z y u=>by rw[hrec]
 obtain⟨W1,hW1⟩:∃W1,W1=(w.alloc (.deferred (mF []))).alloc (.loop (rec_ .ready mE)):=⟨_,rfl⟩
 have hW1s:W1.heap.size=w.heap.size+2:=by rw[hW1];simp
 have hL1:W1.heap[w.heap.size+1]? =mF (.loop (rec_ .ready mE)):=by
  rw[hW1];have:=fK (w.alloc (.deferred (mF []))) (.loop (rec_ .ready mE));rwa [fB]at this
 have hD1:W1.heap[w.heap.size]? =mF (.deferred (mF [])):=by
  rw[hW1];exact(eH _ _ _ (by simp)).trans (fK w _)
 have hb1:Below w.heap.size w W1:=by rw[hW1];exact((eI _ w).alloc (lI _) _).alloc (by simp) _
 have hJ0:BetY 1 S own0 w (rec_ .ready mE) (σ k0 j0) S ψ (λ_=>False) W1 S:=by
  refine⟨hL1,λi hi=>Nat.lt_one_iff.1 hi▸hD1,by omega,λg hg=>hb1.block g (H.lt g hg),?_,λ_ h=>h,λ_ h=>.inl h,λg hg=>.inl (by rw[hown0];exact hg),λ_ h=>.inr h⟩;exact H0.re (λk hk=>hb1.block k (H.lt k hk)) (λk hk=>hb1.block k (H0.own_lt hk).2.1) _ (λ_ h=>h.elim) mE
 refine⟨w.heap.size+1,[J9 w.heap.size],W1,{target:=.fn (.func gf) lb.toArray,args:=#[.func (.yield (w.heap.size+1)) #[] #[]]},W1,gf,#[.func (.yield (w.heap.size+1)) #[] #[]]++lb.toArray,W1,?_,?_,λ_ _=>trivial,?_,λ_=>by omega,?_⟩
 ·rw[hW1,hrec];exact run_enterLoop_outer _ _ _ _ _
 ·simp only[fS,hgv];simp[go_sem]
 ·simp[fO,go_sem,Px hit.1]
 ·have key:=hit.2 W1 S (J×Ais) (w.heap.size+1) (λk p=>Als 1 S own0 w (rec_ .ready mE) (σ k p.1) p.2) (λ_ _=>rfl) ?_ (j0,S,ψ,λ_=>False) (λk hk=>⟨by have:=H.lt k hk;omega,?_,λhf=>(hBi.1 k hf).2.1 hk⟩) (λg hg=>?_) (λg hg=>by have:=hRlt g hg;omega) hJ0 (RB.keep hBi.2 (λk hk=>hb1.block k (hRlt k hk)) (λk hk=>hb1.block k (H.lt k hk)) λ_ h=>h)
  ·refine key.mono ?_;rintro e W' ⟨⟨v,rfl⟩,hgr,kN,q,S',hfN,hSS,hJ,hS'lt,hS'new,hFq⟩;have hJ:BetY 1 S own0 w (rec_ .ready mE) (σ kN q.1) q.2.1 q.2.2.1 q.2.2.2 W' S':=hJ;have hend:=run_endLoop (P:=P) hJ.loop (by rw[hrst];simp);rw[show(rec_ .ready mE).pending=mE by rw[hrec]]at hend;refine⟨mE,_,hend,⟨t,(σ kN q.1).set im (.res (Bl (w.heap.size::ds)))⟩,hdone kN hfN q.1 _,?_⟩;obtain⟨hlp,hdf0,hsz,hsame,Hk,hs1,hs2,hs3,_⟩:=hJ;have hdf:=hdf0 0 (by omega);suffices key:∀(W5:eT) (ob:Obj),W5=W'.putObj (w.heap.size+1) ob->lB C ⟨t,(σ kN q.1).set im (.res (Bl (w.heap.size::ds)))⟩ {a with defers:=[J9 w.heap.size]++a.defers} W5 from key _ _ V
   intro W5 ob hW5;have hot:∀g,g≠w.heap.size+1->W5.heap[g]? =W'.heap[g]?:=λg hg=>by rw[hW5];exact eY hg
   have hsz5:W5.heap.size=W'.heap.size:=by rw[hW5];simp
   have hSne:∀g,q.2.1 g->g≠w.heap.size+1:=λg hg=>by
    rcases hs2 g hg with h1|h1
    ·have:=H.lt g h1;omega
    ·omega
   have hOne:∀g,owns (σ kN q.1) q.2.2.1 g->g≠w.heap.size+1:=λg hg=>by
    rcases hs3 g hg with h1|h1
    ·have:=ho0 g h1;omega
    ·omega
   have hkeep:∀g,g < w.heap.size->¬own0 g->¬RB.F g->W5.heap[g]? =w.heap[g]?:=λg h1 h2 h3=>by
    rw[hot g (by omega),hgr.block g (by omega) ?_,hb1.block g h1];rintro(h4|h4)
    ·have h4:(w.heap.size<=g/\g<=w.heap.size+1)\/owns (σ k0 j0) ψ g\/False:=h4;rcases h4 with h4|h4|h4
     ·omega
     ·exact h2 (by rw[hown0];exact h4)
     ·exact h4
    ·exact h3 h4
   have hH5:=Hk.re (W':=W5) (λk hk=>hot k (hSne k hk)) (λk hk=>hot k (hOne k hk)) (λ_=>False) (λ_ h=>h.elim) mE;have hkp5:Kp C.N w W5:=⟨by rw[hW5];exact hgr.os.trans hb1.os,by rw[hW5];exact hgr.tape.trans hb1.tape,by rw[hW5];exact hgr.output.trans hb1.output,by omega,λk hk=>hkeep k (lK (H.nlt k hk) H.bel.size) (λho=>by rw[hown0]at ho;exact(H0.own_lt ho).1 hk) λhf=>(hBi.1 k hf).1 hk⟩
   have hH6:kR C (σ kN q.1) q.2.1 q.2.2.1 W5:=hH5.to (H.bel.trans hkp5) H.nlt (λk hk=>hs1 k (H.sub k hk)) (λk hk=>by
    rcases hs2 k hk with h1|h1
    ·exact H.new k h1
    ·right;have:=H.bel.size;omega) λg hg hn=>by
     rcases hs3 g hg with h1|h1
     ·rw[hown0]at h1;exact(H0.own_lt h1).1 hn
     ·have:=H.nlt g hn;have:=H.bel.size;omega
   have hdP:∀g,g∈ds->¬own0 g:=λg hg=>hdead im _ hmi (hσm k0 j0) g hg
   have hdB:∀g,g∈ds->¬RB.F g:=λg hg hf=>H.dis i im hne (by rw[hi];rfl) (by rw[hmi];rfl) g (by rw[hi];exact hf) (by rw[hmi];exact hg)
   refine⟨?_,q.2.1,q.2.2.1,hH6.rise (hσm kN q.1) ⟨List.nodup_cons.2 ⟨λhm=>by have:=(hBm.1 _ hm).2.2;omega,hBm.2.1⟩,λd hd=>?_⟩ λg hg=>?_,?_⟩
   ·show [J9 w.heap.size]++a.defers=mkD ((σ kN q.1).set im _);rw[Aj9 (hσm kN q.1) (hmσ kN q.1),hd,hmk];rfl
   ·rcases jF.1 hd with rfl|hd
    ·exact(hot _ (by omega)).trans hdf
    ·exact(hkeep d (hBm.1 d hd).2.2 (hdP d hd) (hdB d hd)).trans (hBm.2.2 d hd)
   ·rcases jF.1 hg with rfl|hg
    ·refine⟨λhn=>by have:=H.nlt _ hn;have:=H.bel.size;omega,λhs=>?_,by omega,λho=>?_⟩
     ·rcases hs2 _ hs with h1|h1
      ·have:=H.lt _ h1;omega
      ·omega
     ·rcases hs3 _ ho with h1|h1
      ·have:=ho0 _ h1;omega
      ·omega
    ·have hlt:=(hBm.1 g hg).2.2;refine⟨(hBm.1 g hg).1,λhs=>?_,by omega,λho=>?_⟩
     ·rcases hs2 _ hs with h1|h1
      ·exact(hBm.1 g hg).2.1 h1
      ·omega
     ·rcases hs3 _ ho with h1|h1
      ·exact hdP g hg h1
      ·omega
   ·exact Bi _ _ ht (Az (kM [] ψ0 (λk hk=>(hot k (by have:=H.lt k hk;omega)).trans (hsame k hk)) hs1) _ _ hlit)
  ·intro k es k' hkN p W SI vs hI1 hI2 hI3 hFlt hB hev;have hB:BetY 1 S own0 w (rec_ .ready mE) (σ k p.1) p.2.1 p.2.2.1 p.2.2.2 W SI:=hB;have hvl:vs.length=ps.size:=by rw[By hev,(hes k es k' hkN).2]
   have hy:=run_yield (P:=P) (args:=vs.toArray) hB.loop (by rw[hrec];simpa using hvl);have hR:=XR (P:=P) (fn:=fn) (ps:=ps) (tmps:=a.tmps) (body:=body) (p:=p.2) mE hst hrst hen ho0 H.lt ht (hes k es k' hkN).1 hlit hev (hmσ k p.1) hI1 (λg hg=>by have:=hI2 g hg;rw[hW1s]at this;exact this) hI3 hB (hround k p.1 es k' hkN);have e1:((rec_ .ready mE).params.zip vs.toArray).foldl (λtmps (t,a)=>tmps.setIfInBounds t a) (rec_ .ready mE).tmps=(ps.toList.zip vs).foldl (λt p=>t.setIfInBounds p.1 p.2) a.tmps:=by
    rw[hrec,<-Array.foldl_toList,Array.toList_zip]
   rw[e1]at hy;rw[show(rec_ .ready mE).fn=fn by rw[hrec],show(rec_ .ready mE).assign=assign by rw[hrec],show(rec_ .ready mE).body=body by rw[hrec]]at hy;exact⟨fn,_,assign,body,hy,hR⟩
  ·intro hf;have hf:(w.heap.size<=k/\k<=w.heap.size+1)\/owns (σ k0 j0) ψ k\/False:=hf;have:=H.lt k hk;rcases hf with hf|hf|hf
   ·omega
   ·exact hSo k hk (by rw[hown0];exact hf)
   ·exact hf
  ·have hg:(w.heap.size<=g/\g<=w.heap.size+1)\/owns (σ k0 j0) ψ g\/False:=hg;rcases hg with hg|hg|hg
   ·exact⟨by omega,λhf=>by have:=hRlt g hf;omega⟩
   ·exact⟨by have:=(H0.own_lt hg).2.1;omega,λhf=>hdead i _ hi h0i g hf (by rw[hown0];exact hg)⟩
   ·exact hg.elim
theorem Hx{C:Ctx}{assign body:bE}{t:List AV}{h:List kA}{encs:Nat->List AV}(i E:Nat)(A:Nat->List kA)
 (I:C.rd=mE)(hg:evA t g= .lit (.func (.func gf) #[] lb.toArray))(X:i≠E)(hi:h[i]? =mF (.res RB))(Z:h[E]? =mF (.res (Bl ds)))(Y:mkD h=ds.map J9)
 (h0:Drops h (A 0))(ad:(A 0)[i]? =mF .dead)(F:∀k,(A k)[E]? =mF .dead)(G:∀k,mkD (A k)= [])(ht:Bj t=aX)(ab:∀k,Bj (encs k)=aX)(O:∀k,(encs k).length=ps.size)
 (aa:Ah3 P gf lb RB encs N)
 (u:∀k,k < N->∀H:Ctx,H.rd.isSome=aX->Awp P H assign (Kc (Ad2 P body (A (k+1))) (λ_ _=>False)) ⟨Nf t ps.toList (encs k),A k⟩)
 (B:∀D,Q .normal ⟨t,(A N).set E (.res (Bl (D::ds)))⟩):Awp P C (.rangeFunc g ps assign body) Q ⟨t,h⟩:=
 Hy (J:=Unit) i E (λk _=>A k) () I hg X hi Z Y h0 ad (λk _=>F k) (λk _=>G k) ht (λk _ _ ⟨_,h,_⟩=>by subst h;exact⟨ab k,O k⟩) aa
  (λk _ _ _ ⟨hk,h1,h2⟩ H ac=>by
   subst h1 h2;exact(u k hk H ac.some).mono λe s h=>by
    cases e with
    |normal=>exact λC2 h2=>(h C2 h2.some).mono λ_ _ q=>⟨q.1,(),q.2⟩
    |_=>exact h.elim)
  λkN h _ D=>by subst h;exact B D
end
section
variable{C:Ctx}{t:List AV}{h:List kA}
theorem PU{R1 R2:Res}(hi:h[i]? =mF (.res R))(h0:R.mrk= [])(h1:R1.mrk= [])(h2:R2.mrk= [])(hF:∀g,R1.F g\/R2.F g->R.F g)
 (hR:∀w S,R.R w S->R1.R w S/\R2.R w S/\∀g,R1.F g->¬R2.F g):kZ C ⟨t,h⟩ ⟨t,h.set i (.res R1)++[.res R2]⟩:=λa w ⟨hd,S,ψ,H,hl⟩=>by
 have hB:=H.blk i _ hi;have I:=(iL.1 hi).1;obtain⟨r1,r2,F⟩:=hR w S hB.2;have E:∀k b,(h.set i (.res R1)++[.res R2])[k]? =mF b->(k=i/\b= .res R1)\/(k=h.length/\b= .res R2)\/(k≠i/\k≠h.length/\h[k]? =mF b):=λk b A=>by
  by_cases Y:k < h.length
  ·rw[iE (by simpa using Y)]at A;by_cases u:k=i
   ·subst u;rw[iQ I]at A;cases A;exact .inl ⟨rfl,rfl⟩
   ·rw[iP (lX u)]at A;exact .inr (.inr ⟨u,by omega,A⟩)
  ·rw[iF (by simpa using Y)]at A;have:k - (h.set i (kD R1)).length=0:=by
    rcases lG (k - (h.set i (kD R1)).length)with e|e
    ·exact e
    ·rw[iK (show 1<=_ from e)]at A;cases A
   rw[this]at A;cases A;simp only[i9]at this;exact .inr (.inl ⟨by omega,rfl⟩)
 have X:Ext w S h ψ w S (h.set i (.res R1)++[.res R2]) ψ:=by
  refine⟨λ_ _=>rfl,λ_ h=>h,by simp,λk c' hk B=>?_,λk hk B=>?_⟩
  ·rw[iE (by simpa using hk)]at B⊢;by_cases u:k=i
   ·subst u;rw[iQ I]at B;simp[kE]at B
   ·rw[iP (lX u)]at B⊢;exact⟨c',B,lI _,λ_=>⟨rfl,rfl⟩⟩
  ·rw[iE (by simpa using hk)]at B;by_cases u:k=i
   ·subst u;rw[iQ I]at B;simp[AZ]at B
   ·rw[iP (lX u)]at B;exact⟨B,rfl⟩
 refine⟨?_,S,ψ,⟨H.bel,H.nlt,H.lt,H.sub,H.new,λk b A=>?_,λk q G hk hq g g1 g2=>?_⟩,Az X _ _ hl⟩
 ·rw[hd];show mkD h=_;rw[H6,DN hi (by show R1.mrk.map J9=R.mrk.map J9;rw[h0,h1])];show _=R2.mrk.map J9++_;rw[h2];rfl
 ·rcases E k b A with⟨rfl,rfl⟩|⟨rfl,rfl⟩|⟨_,_,A⟩
  ·exact⟨λg hg=>hB.1 g (hF g (.inl hg)),r1⟩
  ·exact⟨λg hg=>hB.1 g (hF g (.inr hg)),r2⟩
  ·exact(H.blk k b A).keep X λg _=>⟨rfl,λh=>h⟩
 ·have O:∀k,kB (h.set i (.res R1)++[.res R2])[k]? =aX->ftp (h.set i (.res R1)++[.res R2])[k]? (ψ k) g->(k=i/\R1.F g)\/(k=h.length/\R2.F g)\/(k≠i/\k≠h.length/\kB h[k]? =aX/\ftp h[k]? (ψ k) g):=λk k1 k2=>by
   obtain⟨b,A⟩:=DQ k1;rw[A]at k1 k2;rcases E k b A with⟨rfl,rfl⟩|⟨rfl,rfl⟩|⟨q1,q2,Z⟩
   ·exact .inl ⟨rfl,k2⟩
   ·exact .inr (.inl ⟨rfl,k2⟩)
   ·exact .inr (.inr ⟨q1,q2,by rw[Z];exact k1,by rw[Z];exact k2⟩)
  have no:∀k,k≠i->kB h[k]? =aX->ftp h[k]? (ψ k) g->(R1.F g\/R2.F g)->False:=λk q1 q3 q4 q5=>
   H.dis k i q1 q3 (by rw[hi];rfl) g q4 (by rw[hi];exact hF g q5)
  rcases O k hk g1 with⟨e1,f1⟩|⟨e1,f1⟩|⟨a1,a2,a3,a4⟩ <;> rcases O q hq g2 with⟨e2,f2⟩|⟨e2,f2⟩|⟨b1,b2,b3,b4⟩
  ·exact G (e1.trans e2.symm)
  ·exact F g f1 f2
  ·exact no q b1 b3 b4 (.inl f1)
  ·exact F g f2 f1
  ·exact G (e1.trans e2.symm)
  ·exact no q b1 b3 b4 (.inr f1)
  ·exact no k a1 a3 a4 (.inl f2)
  ·exact no k a1 a3 a4 (.inr f2)
  ·exact H.dis k q G a3 b3 g a4 b4
end
section
variable{P:cX}{C:Ctx}{t:List AV}{h:List kA}{o:cQ}{K:St->Prop}
theorem Qc{ty:eN}{y:cW}{bytes:Nat}{l l2:List α}(ho:o.op= .call {callee:=.builtin .append,args:=#[x,y],argTypes:=#[ty,ty]})(hT:NL P ty=mF (e,T.size,bytes))
 (hx:evA t x= .lit v)(hi:h[i]? =mF (.res (rowR v e T l)))(hy:evA t y= .bs T l2)(an:SU T)(ad:l.length+l2.length<=fP)(G:(l.length+l2.length) * bytes<=140737488355328)
 (hK:∀v',K ⟨Bn t o.dst (.lit v'),h.set i (.res (rowR v' e T (l++l2)))⟩):AOp P C o ⟨t,h⟩ K:=by
 refine kF (ι:=eO) (Rs:=λv'=>rowR v' e T (l++l2)) (val:=λv'=>v') hi (λ_=>rfl) (λS ψ w ρ H am ap Z=>?_) hK;have O:=Z x (by rw[ho];exact aI.2 (.inr (by simp)));have E:=Z y (by rw[ho];exact aI.2 (.inr (by simp)));rw[hx]at O;rw[hy]at E;unfold kK at O E;have Y:∀k,S k->¬(rowR v e T l).F k:=λk hk hf=>((H.blk i _ hi).1 k hf).2.1 hk
 obtain⟨cells,B,h0,hR⟩:=am;obtain⟨h1,ti,z,h2,h3,h4,h5,h6⟩:=C4 hT;obtain⟨A,c,aa⟩:=Cf E;rw[aa]at E;obtain⟨news,ao,ab,aj,ak⟩:=IP E λcs d al=>an _ _ _ _ al
 obtain⟨v',w',ac,u,X,ai⟩:=Lm (P:=P) (ty:=o.type) (t:=ty) (c:=c) h1 h2 h3 h4 h5 h6 h0 B (ab w λ_ _=>rfl) ak ad G (lV _);have he:(fG ρ o).run P w= .ok (.value v') w':=by
  unfold fG;simp only[ho,fS,fO,builtin,jD,jB,jC,O,aa,ac,zak]
 rw[he];have ah:∀g,Bv v'=mF g->v'.ownBlock=mF g:=λg hg=>by
  rcases u.2 with⟨e1,_⟩|⟨g',cap,cur,e1,_⟩
  ·rw[e1]at hg;simp[Bv]at hg
  ·rw[e1]at hg⊢;simpa[Bv,eR]using hg
 have ag:v.ownBlock=Bv v:=by
  rcases B.2 with⟨e1,_⟩|⟨g',cap,cur,e1,_⟩ <;> rw[e1] <;> rfl
 rw[ag]at X ai;have I:∀k,S k->w'.heap[k]? =w.heap[k]?:=λk hk=>X.block k (H.lt k hk) λe=>Y k hk e.symm
 refine⟨Bs X,v',rfl,⟨cells++news,by rw[iX];exact u,h0,λj d hj=>?_⟩,λg hg=>⟨?_,(eX u g (ah g hg)).2⟩⟩
 ·by_cases ae:j < l.length
  ·rw[iE ae]at hj;rw[Ul B.1 ae];exact T.keepS (hR j d hj) I λ_ h=>h
  ·rw[iF (by omega)]at hj;obtain⟨m,rfl⟩:∃m,j=l.length+m:=⟨j - l.length,by omega⟩
   rw[MM B.1];exact T.keepS (aj m d (by simpa using hj)) I λ_ h=>h
 ·have F:=ah g hg;rcases ai with e1|e1
  ·left;rw[e1]at F;exact F
  ·right;rw[e1]at F;cases F;exact lI _
theorem J0(e:eN)(T:Ty α)(h0:0 < T.size):kZ C ⟨t,h⟩ ⟨t,h++[.res (rowR (.slice mE 0 0) e T [])]⟩:=λa w ⟨A,S,ψ,H,u⟩=>by
 have X:Ext w S h ψ w S (h++[.res (rowR (.slice mE 0 0) e T [])]) (Bo ψ h.length undef):=kO _ _ λ_ _=>rfl
 have B:Hw C.N w S (h++[.res (rowR (.slice mE 0 0) e T [])]) (Bo ψ h.length undef) undef (.res (rowR (.slice mE 0 0) e T [])):=
  ⟨λg hg=>by have hg:Bv (.slice mE 0 0)=mF g:=hg;simp[Bv]at hg,[],World.ownsRow_nil _ _ _ _,h0,λi d hi=>by simp at hi⟩
 exact⟨by rw[A];show mkD h=mkD (h++[_]);rw[H6];rfl,S,_,H.push (eI _ _) B (λg hg=>by have hg:Bv (.slice mE 0 0)=mF g:=hg;simp[Bv]at hg),Az X _ _ u⟩
end
theorem Mh{h:List kA}{l:List α}(hi:h[i]? =mF (.res (rowR v e T l))):One h (.lit v):=λC S ψ w u H B=>by
 unfold kK at B;subst B;obtain⟨cells,A,_⟩:=(H.blk i _ hi).2;rcases A.2 with⟨rfl,_⟩|⟨_,_,_,rfl,_⟩ <;> rfl
def Ay5{ι:Type}(t:Tmp)(Rs:ι->Res)(val:ι->eO):bJ->St->Prop:=λe s=>(e= .normal\/e= .ret)/\∃ds j p,s.h[0]? =mF (.res (Bl ds))/\mkD s.h=ds.map J9/\j≠0/\s.h[j]? =mF (.res (Rs p))/\evA s.t (.tmp t)= .lit (val p)
theorem SJ{P:cX}{f:bM}{args:List AV}{val:ι->eO}{t:Tmp}(hf:P.funcs[f]? =mF fn)(hb:fn.body=mF c)(hE:B9 P f=aX)(B:fn.results= #[.tmp t])(hn:fn.ntmps=n)
 (hS:∀p w S S',(Rs p).R w S->(Rs p).R w S')
 (h:∀C:Ctx,C.std->C.rd=mE->Awp P C c (Ay5 t Rs val) ⟨args++jV (n - args.length) (.lit undef),[.res (Bl [])]⟩):M5 P f args Rs val:=by
 refine⟨hE,λw S vs O hr=>(fE (n:=4)).1 (fD hf hb trivial ?_)⟩;rw[hn];have F:lB ⟨w,S,λk=>k < w.heap.size,mE⟩ ⟨args++jV (n - args.length) (.lit undef),[.res (Bl [])]⟩ {tmps:=vs.toArray++aL (n - vs.toArray.size) undef,defers:=[]} w:=by
  obtain⟨u,E,ψ,H,G⟩:=Dg (n:=n) O hr;have X:=kO (w:=w) (w':=w) (S:=E) (h:=[]) (ψ:=ψ) (.res (Bl [])) undef λ_ _=>rfl
  exact⟨rfl,E,_,H.push (b:=.res (Bl [])) (v:=undef) (eI _ _) (show Hw _ _ _ _ _ _ (.res (Bl []))from⟨λg hg=>(jQ hg).elim,show([]:List Nat).Nodup/\∀d∈([]:List Nat),w.heap[d]? =mF (.deferred (mF []))from⟨jP,λd u=>(jQ u).elim⟩⟩) (λg hg=>(jQ hg).elim),Az X _ _ G⟩
 have hw:=h ⟨w,S,λk=>k < w.heap.size,mE⟩ (λ_ h=>h) V _ w F;refine wpIn_mono hw ?_;rintro e a' w' ⟨s,⟨he,ds,j,p,h0,hm,I,hj,hx⟩,u,E,ψ,H,G⟩;have hv:=Bw G (.tmp t);rw[hm]at u;have A:=Oa (P:=P) (C:=⟨w,S,λk=>k < w.heap.size,mE⟩) (fn:=fn) (tmps:=a'.tmps) (R:=λe w'=>∃v,e= .returned v/\lC w S (λ_=>False) Rs val v w') (n:=4) (x:=evA s.t (.tmp t)) (v:=a'.eval (.tmp t)) (λW=>fU B _ _ _) ds w' s.h E ψ (λW S2 Z h1 h2=>by
  rw[hx]at h2;unfold kK at h2;have Y:=h1.blk j (.res (Rs p)) (by rw[iP (lX I)];exact hj);refine⟨_,rfl,⟨h1.bel.os,h1.bel.tape,h1.bel.output,h1.bel.size,λk hk _=>h1.bel.block k hk⟩,p,h2,hS p _ _ _ Y.2,λk hk=>?_⟩;obtain⟨k1,k2,k3⟩:=Y.1 k hk;exact⟨.inr (lH k1),k3⟩) h0 H hv
 rcases he with rfl|rfl
 ·show b9 bK 4 P fn a'.tmps _ a'.defers .returning w';rw[u];exact A
 ·show b9 bK 4 P fn a'.tmps _ a'.defers .returning w';rw[u];exact A
open Go.Proofs
variable{S:Nat->Prop}{i:Nat}{w:eT}
def Ay2{ι:Type}(t:Tmp)(R:Res)(Rs:ι->Res)(val:ι->eO):bJ->St->Prop:=λe s=>(e= .normal\/e= .ret)/\∃p,mkD s.h=R.mrk.map J9/\s.h[0]? =mF (.res (Rs p))/\evA s.t (.tmp t)= .lit (val p)
theorem SH{P:cX}{f:bM}{fn:bL}{c:bE}{args:List AV}{ι:Type}{R:Res}{Rs:ι->Res}{val:ι->eO}{t:Tmp}{n:Nat}(hf:P.funcs[f]? =mF fn)(hb:fn.body=mF c)(hE:B9 P f=aX)(F:fn.results= #[.tmp t])(O:fn.ntmps=n)
 (hm:R.mrk= [])(hS:∀p w S S',(Rs p).R w S->(Rs p).R w S')
 (h:∀C:Ctx,Awp P C c (Ay2 t R Rs val) ⟨args++jV (n - args.length) (.lit undef),[.res R]⟩):DI P f R args Rs val:=by
 refine⟨hE,λw S vs E hF hR I=>fF hf hb ?_⟩;rw[O];have G:lB ⟨w,S,λk=>k < w.heap.size/\¬R.F k,mE⟩ ⟨args++jV (n - args.length) (.lit undef),[.res R]⟩ {tmps:=vs.toArray++aL (n - vs.toArray.size) undef,defers:=[]} w:=by
  obtain⟨_,S1,ψ,_,hl⟩:=Dg (n:=n) (λk hk=>(E k hk).1) I;refine⟨by show []=mkD [.res R];simp[mkD,kC,hm],S,ψ0,⟨Kp.refl _ _,λk hk=>hk.1,λk hk=>(E k hk).1,λ_ h=>h,λ_ h=>.inl h,λi b hi=>?_,λi j aa hi hj=>?_⟩,?_⟩
  ·cases i with
   |zero=>
    simp only[iH,mH]at hi;subst hi;exact⟨λg hg=>⟨λhc=>hc.2 hg,λhs=>(E g hs).2 hg,hF g hg⟩,hR⟩
   |succ i=>simp at hi
  ·cases i with
   |zero=>cases j with
    |zero=>exact absurd V aa
    |succ j=>simp[kB]at hj
   |succ i=>simp[kB]at hi
  ·simp only[zam];have X:Ext w S [] ψ0 w S [.res R] ψ0:=⟨λ_ _=>rfl,λ_ h=>h,by simp,λi c' hi=>by simp at hi,λi hi=>by simp at hi⟩
   refine BK (Az X _ _ I) (DK (by simp[By I]) λi x v hx B=>?_);rw[iO]at hx B;split at hx <;> cases hx
   split at B <;> cases B
   unfold kK;rfl
 refine wp_mono ((h ⟨w,S,λk=>k < w.heap.size/\¬R.F k,mE⟩).wp V G) ?_;rintro x a' w' ⟨s,⟨hx,p,Y,hi,ab⟩,hd,S1,ψ,H,hl⟩;rw[Y,hm]at hd;have B:=Bw hl (.tmp t);rw[ab]at B;unfold kK at B;have hB:=H.blk 0 _ hi;have u:(results fn a'.tmps).run P w'= .ok (a'.eval (.tmp t)) w':=fU F _ _ _;have A:∃v,bI (a'.eval (.tmp t))= .returned v/\lC w S R.F Rs val v w':=
  ⟨_,rfl,⟨H.bel.os,H.bel.tape,H.bel.output,H.bel.size,λk hk O=>H.bel.block k ⟨hk,O⟩⟩,p,B,hS p _ _ _ hB.2,λk hk=>by
   obtain⟨k1,_,k3⟩:=hB.1 k hk;refine⟨?_,k3⟩;by_cases hc:R.F k
   ·exact .inl hc
   ·exact .inr (lH λZ=>k1 ⟨Z,hc⟩)⟩
 rcases hx with rfl|rfl
 ·exact⟨hd,_,u,A⟩
 ·exact⟨hd,_,u,A⟩
section
variable{P:cX}{C:Ctx}{o:cQ}{t:List AV}{h:List kA}{ι:Type}{Rs:ι->Res}{val:ι->eO}
theorem Ir{R:Res}{f:bM}{x:cW}{args:Array cW}{tys:Array eN}{l xs:List AV}{K:St->Prop}(hi:h[i]? =mF (.res R))
 (B:o.op= .call {callee:=.value x,args:=args,argTypes:=tys})(I:evA t x= .fn f l)(G:DI P f R xs Rs val)(O:∀p,(Rs p).mrk=R.mrk)(hx:args.toList.map (evA t)++l=xs)(hc:Bj xs=aX)
 (Z:∀p,K ⟨Bn t o.dst (.lit (val p)),h.set i (.res (Rs p))⟩):AOp P C o ⟨t,h⟩ K:=by
 refine kF hi O (λS ψ w ρ H Y E u=>?_) Z;have h1:=u x (by rw[B];exact aI.2 (.inl (by simp)));rw[I]at h1;unfold kK at h1;obtain⟨cs,e,F⟩:=h1;rw[OH B G.1 ρ w e];refine⟨rfl,?_⟩;have h2:Af w S h ψ xs (args.toList.map ρ++cs):=by
  rw[<-hx];exact BK (Cc λx A=>u x (by rw[B];exact aI.2 (.inr (aK.1 A)))) F
 rw[show(args.map ρ++cs.toArray)=(args.toList.map ρ++cs).toArray from(by simp)];exact G.2 w S (args.toList.map ρ++cs) (λk hk=>⟨H.lt k hk,λX=>((H.blk i _ hi).1 k X).2.1 hk⟩) E Y (Bi _ _ hc h2)
end
section
variable{P:cX}{f:bM}{fn:bL}{c:bE}{args:List AV}{ι:Type}{R:Res}{Rs:ι->Res}{val:ι->eO}{t:Tmp}{n:Nat}
theorem Y8{vs:List eO}(G:R.mrk= [])(u:∀k,S k->k < w.heap.size/\¬R.F k)(O:∀g,R.F g->g < w.heap.size)(I:R.R w S)(B:Af w S [] ψ0 args vs):
 lB ⟨w,S,λk=>k < w.heap.size/\¬R.F k,mE⟩ ⟨args++jV (n - args.length) (.lit undef),[.res R]⟩ {tmps:=vs.toArray++aL (n - vs.toArray.size) undef,defers:=[]} w:=by
 obtain⟨_,S1,ψ,_,Y⟩:=Dg (n:=n) (λk hk=>(u k hk).1) B;refine⟨by show []=mkD [.res R];simp[mkD,kC,G],S,ψ0,⟨Kp.refl _ _,λk hk=>hk.1,λk hk=>(u k hk).1,λ_ h=>h,λ_ h=>.inl h,λi b hi=>?_,λi j E hi H=>?_⟩,?_⟩
 ·cases i with
  |zero=>
   simp only[iH,mH]at hi;subst hi;exact⟨λg hg=>⟨λhc=>hc.2 hg,λF=>(u g F).2 hg,O g hg⟩,I⟩
  |succ i=>simp at hi
 ·cases i with
  |zero=>cases j with
   |zero=>exact absurd V E
   |succ j=>simp[kB]at H
  |succ i=>simp[kB]at hi
 ·simp only[zam];have X:Ext w S [] ψ0 w S [.res R] ψ0:=⟨λ_ _=>rfl,λ_ h=>h,by simp,λi Z hi=>by simp at hi,λi hi=>by simp at hi⟩
  refine BK (Az X _ _ B) (DK (by simp[By B]) λi x v hx A=>?_);rw[iO]at hx A;split at hx <;> cases hx
  split at A <;> cases A
  unfold kK;rfl
theorem XF{p:ι}{h':List kA}{I:Nat->Prop}{ψ:Nat->eO}{w':eT}(G:∀p w S S',(Rs p).R w S->(Rs p).R w S')(H:kR ⟨w,S,λk=>k < w.heap.size/\¬R.F k,mE⟩ h' I ψ w')(hi:h'[i]? =mF (.res (Rs p))):lC w S R.F Rs val (val p) w':=by
 have A:=H.blk i _ hi;refine⟨⟨H.bel.os,H.bel.tape,H.bel.output,H.bel.size,λk hk F=>H.bel.block k ⟨hk,F⟩⟩,p,rfl,G p _ _ _ A.2,λk hk=>?_⟩;obtain⟨E,_,B⟩:=A.1 k hk;refine⟨?_,B⟩;by_cases hc:R.F k
 ·exact .inl hc
 ·exact .inr (lH λu=>E ⟨u,hc⟩)
def Axt(R:Res)(Rs:ι->Res):bJ->St->Prop:=λe s=>(e= .normal\/e= .ret)/\∃p,mkD s.h=R.mrk.map J9/\s.h[0]? =mF (.res (Rs p))
theorem DX(X:P.funcs[f]? =mF fn)(Y:fn.body=mF c)(hE:B9 P f=aX)(u:fn.results= #[])(O:fn.ntmps=n)
 (G:R.mrk= [])(Z:∀p w S S',(Rs p).R w S->(Rs p).R w S')
 (h:∀C:Ctx,Awp P C c (Axt R Rs) ⟨args++jV (n - args.length) (.lit undef),[.res R]⟩):DI P f R args Rs (λ_=>.tuple #[]):=by
 refine⟨hE,λw S vs F hF hR I=>fF X Y ?_⟩;rw[O];refine wp_mono ((h ⟨w,S,λk=>k < w.heap.size/\¬R.F k,mE⟩).wp V (Y8 G F hF hR I)) ?_;rintro x a' w' ⟨s,⟨hx,p,B,hi⟩,E,S1,ψ,H,hl⟩;rw[B,G]at E;have A:∃v,bI (.tuple #[])= .returned v/\lC w S R.F Rs (λ_=>.tuple #[]) v w':=⟨_,rfl,XF (val:=λ_=>.tuple #[]) Z H hi⟩
 rcases hx with rfl|rfl
 ·exact⟨E,_,fT u _ _ _,A⟩
 ·exact⟨E,_,fT u _ _ _,A⟩
def Axs(t:Tmp)(Rs:ι->Res)(val:ι->eO):bJ->St->Prop:=λe s=>(e= .normal\/e= .ret)/\∃ds j p,s.h[0]? =mF (.res (Bl ds))/\mkD s.h=ds.map J9/\j≠0/\s.h[j]? =mF (.res (Rs p))/\evA s.t (.tmp t)= .lit (val p)
theorem E2(hf:P.funcs[f]? =mF fn)(hb:fn.body=mF c)(hE:B9 P f=aX)(E:fn.results= #[.tmp t])(hn:fn.ntmps=n)
 (hm:R.mrk= [])(hS:∀p w S S',(Rs p).R w S->(Rs p).R w S')
 (h:∀C:Ctx,C.rd=mE->Awp P C c (Axs t Rs val) ⟨args++jV (n - args.length) (.lit undef),[.res (Bl []),.res R]⟩):DI P f R args Rs val:=by
 refine⟨hE,λw S vs u hF hR I=>(fE (n:=4)).1 (fD hf hb trivial ?_)⟩;rw[hn];have G:lB ⟨w,S,λk=>k < w.heap.size/\¬R.F k,mE⟩ ⟨args++jV (n - args.length) (.lit undef),[.res (Bl []),.res R]⟩ {tmps:=vs.toArray++aL (n - vs.toArray.size) undef,defers:=[]} w:=by
  obtain⟨_,S1,ψ,_,hl⟩:=Dg (n:=n) (λk hk=>(u k hk).1) I;refine⟨by show []=mkD [.res (Bl []),.res R];simp[mkD,kC,hm,Bl],S,ψ0,⟨Kp.refl _ _,λk hk=>hk.1,λk hk=>(u k hk).1,λ_ h=>h,λ_ h=>.inl h,λi b hi=>?_,λi j aa hi Z=>?_⟩,?_⟩
  ·rcases i with _|_|i
   ·simp only[iH,mH]at hi;subst hi;exact⟨λg hg=>(jQ hg).elim,show([]:List Nat).Nodup/\∀d∈([]:List Nat),w.heap[d]? =mF (.deferred (mF []))from⟨jP,λd F=>(jQ F).elim⟩⟩
   ·simp only[iG,iH,mH]at hi;subst hi;exact⟨λg hg=>⟨λhc=>hc.2 hg,λhs=>(u g hs).2 hg,hF g hg⟩,hR⟩
   ·simp at hi
  ·rcases i with _|_|i
   ·exact λg h1=>(jQ h1).elim
   ·rcases j with _|_|j
    ·exact λg _ h2=>(jQ h2).elim
    ·exact absurd V aa
    ·simp[kB]at Z
   ·simp[kB]at hi
  ·simp only[zam];have X:Ext w S [] ψ0 w S [.res (Bl []),.res R] ψ0:=⟨λ_ _=>rfl,λ_ h=>h,by simp,λi c' hi=>by simp at hi,λi hi=>by simp at hi⟩
   refine BK (Az X _ _ I) (DK (by simp[By I]) λi x v hx B=>?_);rw[iO]at hx B;split at hx <;> cases hx
   split at B <;> cases B
   unfold kK;rfl
 have hw:=h ⟨w,S,λk=>k < w.heap.size/\¬R.F k,mE⟩ V _ w G;refine wpIn_mono hw ?_;rintro e a' w' ⟨s,⟨he,ds,j,p,h0,O,Y,Z,hx⟩,F,S1,ψ,H,hl⟩;have B:=Bw hl (.tmp t);rw[O]at F;have A:=Oa (P:=P) (C:=⟨w,S,λk=>k < w.heap.size/\¬R.F k,mE⟩) (fn:=fn) (tmps:=a'.tmps) (R:=λe w'=>∃v,e= .returned v/\lC w S R.F Rs val v w') (n:=4) (x:=evA s.t (.tmp t)) (v:=a'.eval (.tmp t)) (λW=>fU E _ _ _) ds w' s.h S1 ψ (λW S2 ab h1 h2=>by
  rw[hx]at h2;unfold kK at h2;refine⟨_,rfl,?_⟩;rw[h2];exact XF (i:=j) hS h1 (by rw[iP (lX Y)];exact Z)) h0 H B
 rcases he with rfl|rfl
 ·show b9 bK 4 P fn a'.tmps _ a'.defers .returning w';rw[F];exact A
 ·show b9 bK 4 P fn a'.tmps _ a'.defers .returning w';rw[F];exact A
end
end Mu
namespace Mu
open Go Go.RowKit
variable{Q:bJ->St->Prop}{s:St}
def Res.and(A B:Res):Res:=⟨[],λg=>A.F g\/B.F g,λw S=>A.R w S/\B.R w S/\∀g,A.F g->¬B.F g,λh hk E u=>⟨A.keep h.1 (λk e=>hk k (.inl e)) E u,B.keep h.2.1 (λk e=>hk k (.inr e)) E u,h.2.2⟩⟩
section
variable{C:Ctx}{t:List AV}{h:List kA}{A B:Res}
theorem DF(i j:Nat)(u:i≠j)(hi:h[i]? =mF (.res A))(E:h[j]? =mF (.res B))(G:A.mrk= []:=by rfl)(F:B.mrk= []:=by rfl):kZ C ⟨t,h⟩ ⟨t,(h.set j .dead).set i (.res (A.and B))⟩:=
 KR u hi E G F V (λ_ e=>e) λ_ _ h1 h2 H=>⟨h1,h2,H⟩
theorem Fe(i j:Nat)(ae:i≠j)(hi:h[i]? =mF (.res (A.and B)))(hj:h[j]? =mF .dead)(h1:A.mrk= []:=by rfl)(h2:B.mrk= []:=by rfl):kZ C ⟨t,h⟩ ⟨t,(h.set i (.res A)).set j (.res B)⟩:=λa w ⟨hd,S,ψ,H,hl⟩=>by
 have hB:=H.blk i _ hi;have ad:=(iL.1 hi).1;have ac:=(iL.1 hj).1;obtain⟨r1,r2,F⟩:=hB.2;have aa:(h.set i (.res A))[j]? =mF .dead:=by rw[iP ae];exact hj
 have E:∀k b,((h.set i (.res A)).set j (.res B))[k]? =mF b->(k=i/\b= .res A)\/(k=j/\b= .res B)\/(k≠i/\k≠j/\h[k]? =mF b):=λk b u=>by
  by_cases I:k=j
  ·subst I;rw[iQ (by simpa using ac)]at u;cases u;exact .inr (.inl ⟨rfl,rfl⟩)
  ·rw[iP (lX I)]at u;by_cases O:k=i
   ·subst O;rw[iQ ad]at u;cases u;exact .inl ⟨rfl,rfl⟩
   ·rw[iP (lX O)]at u;exact .inr (.inr ⟨O,I,u⟩)
 have X1:Ext w S h ψ w S (h.set i (.res A)) (Bo ψ i (ψ i)):=kP (λ_ _=>rfl) hi (λc' hc=>by simp[kE]at hc) λh=>by simp[AZ]at h
 have X2:Ext w S (h.set i (.res A)) (Bo ψ i (ψ i)) w S ((h.set i (.res A)).set j (.res B)) (Bo (Bo ψ i (ψ i)) j (Bo ψ i (ψ i) j)):=kP (λ_ _=>rfl) aa (λc' hc=>by simp[kE]at hc) λh=>by simp[AZ]at h
 have e:∀(φ:Nat->eO) k,Bo φ k (φ k)=φ:=λφ k=>funext λq=>by unfold Bo;split <;> simp_all
 rw[e]at X1;rw[e,e]at X2;have X:Ext w S h ψ w S ((h.set i (.res A)).set j (.res B)) ψ:=⟨λ_ _=>rfl,λ_ h=>h,by simp,λk c' hk hv=>by
  obtain⟨c1,k1,Z,k3⟩:=X2.ver k c' (by simpa using hk) hv;obtain⟨c2,k4,k5,k6⟩:=X1.ver k c1 hk k1;exact⟨c2,k4,by omega,λe'=>⟨rfl,by rw[(k3 (by omega)).2,(k6 (by omega)).2]⟩⟩,λk hk hv=>⟨(X1.box k hk (X2.box k (by simpa using hk) hv).1).1,rfl⟩⟩
 refine⟨?_,S,ψ,⟨H.bel,H.nlt,H.lt,H.sub,H.new,λk b u=>?_,λk q G hk hq g g1 g2=>?_⟩,Az X _ _ hl⟩
 ·rw[hd];show mkD h=_;rw[DN aa (by show B.mrk.map J9= [];rw[h2];rfl),DN hi (by show A.mrk.map J9= [].map J9;rw[h1])]
 ·rcases E k b u with⟨rfl,rfl⟩|⟨rfl,rfl⟩|⟨_,_,u⟩
  ·exact⟨λg hg=>hB.1 g (.inl hg),r1⟩
  ·exact⟨λg hg=>hB.1 g (.inr hg),r2⟩
  ·exact(H.blk k b u).keep X λg _=>⟨rfl,λh=>h⟩
 ·have Y:∀k,kB ((h.set i (.res A)).set j (.res B))[k]? =aX->ftp ((h.set i (.res A)).set j (.res B))[k]? (ψ k) g->(k=i/\A.F g)\/(k=j/\B.F g)\/(k≠i/\k≠j/\kB h[k]? =aX/\ftp h[k]? (ψ k) g):=λk k1 Z=>by
   obtain⟨b,u⟩:=DQ k1;rw[u]at k1 Z;rcases E k b u with⟨rfl,rfl⟩|⟨rfl,rfl⟩|⟨q1,q2,ab⟩
   ·exact .inl ⟨rfl,Z⟩
   ·exact .inr (.inl ⟨rfl,Z⟩)
   ·exact .inr (.inr ⟨q1,q2,by rw[ab];exact k1,by rw[ab];exact Z⟩)
  have no:∀k,k≠i->kB h[k]? =aX->ftp h[k]? (ψ k) g->(A.F g\/B.F g)->False:=λk q1 q3 q4 q5=>
   H.dis k i q1 q3 (by rw[hi];rfl) g q4 (by rw[hi];exact q5)
  rcases Y k hk g1 with⟨e1,f1⟩|⟨e1,f1⟩|⟨a1,a2,a3,a4⟩ <;> rcases Y q hq g2 with⟨e2,f2⟩|⟨e2,f2⟩|⟨b1,b2,b3,b4⟩
  ·exact G (e1.trans e2.symm)
  ·exact F g f1 f2
  ·exact no q b1 b3 b4 (.inl f1)
  ·exact F g f2 f1
  ·exact G (e1.trans e2.symm)
  ·exact no q b1 b3 b4 (.inr f1)
  ·exact no k a1 a3 a4 (.inl f2)
  ·exact no k a1 a3 a4 (.inr f2)
  ·exact H.dis k q G a3 b3 g a4 b4
theorem Awp.upto{P:cX}{c:bE}(H:Awp P C c (λe s=>∃u,Q e u/\kZ C s u) s):Awp P C c Q s:=λa w F=>wpIn_mono (H a w F) λ_ a' w' ⟨_,⟨E,h1,h2⟩,r⟩=>⟨E,h1,h2 a' w' r⟩
theorem upE{e:bJ}{u:St}(h:kZ C s u)(q:Q e u):∃u,Q e u/\kZ C s u:=⟨u,q,h⟩
theorem EM(i:Nat)(hi:h[i]? =mF (.res (A.and B)))(h1:A.mrk= []:=by rfl)(h2:B.mrk= []:=by rfl):kZ C ⟨t,h⟩ ⟨t,h.set i (.res A)++[.res B]⟩:=PU hi V h1 h2 (λ_ e=>e) λ_ _ e=>e
end
open Go.Proofs Go.Maps
theorem DY(w:eT):(gD 3).run dG w= .ok (.int .i64 0) w:=by kernel_rfl
section
variable{C:Ctx}{t:List AV}{h:List kA}{o:cQ}{K:St->Prop}{ty e:eN}{x y z:cW}{m:Nat}{ik:bT}{l:List (Int×Int)}{k:Int}
theorem PY(i:Nat)(G:o.op= .lookup ty x y aS)(u:dG.underlying ty=mF (.map 3 e))(E:∀w,(gD e).run dG w= .ok (.int ik 0) w)(hx:evA t x= .lit (.map (mF m)))(F:evA t y= .lit (.int .i64 k))(hk:wfB .i64 k=aX)(hi:h[i]? =mF (.res (EF (eQ ik) l m))):
 AT dG C t h o (.lit (.int ik ((getK l k).getD 0))):=by
 have h1:=KV (C:=C) i G u E hx F hk hi Al7.self;rw[CC]at h1;cases hg:getK l k with
 |none=>rw[hg]at h1;exact h1
 |some v=>rw[hg]at h1;exact h1
theorem Ik(i:Nat)(G:o.op= .lookup ty x y aX)(u:dG.underlying ty=mF (.map 3 e))(E:∀w,(gD e).run dG w= .ok (.int ik 0) w)(hx:evA t x= .lit (.map (mF m)))(F:evA t y= .lit (.int .i64 k))(hk:wfB .i64 k=aX)(hi:h[i]? =mF (.res (EF (eQ ik) l m))):
 AT dG C t h o (.tup [.lit (.int ik ((getK l k).getD 0)),.lit (.bool (getK l k).isSome)]):=by
 have h1:=Il (C:=C) i G u E hx F hk hi Al7.self;rw[CC]at h1;cases hg:getK l k with
 |none=>rw[hg]at h1;exact h1
 |some v=>rw[hg]at h1;exact h1
theorem Abo(i:Nat)(E:o.op= .call {callee:=.builtin .len,args:=#[x],argTypes:=#[ty]})(u:dG.underlying ty=mF (.map 3 e))(hx:evA t x= .lit (.map (mF m)))(hi:h[i]? =mF (.res (EF (eQ ik) l m))):
 AT dG C t h o (.lit (.int .i64 (l.length:Int))):=by
 have h1:=Abp (C:=C) i E u hx hi Al7.self;rwa [show(mapK (eQ ik) l).length=l.length by simp[mapK]]at h1
theorem J4(i:Nat){v:Int}(G:o.op= .mapUpdate ty x y z)(u:dG.underlying ty=mF (.map 3 e))(hx:evA t x= .lit (.map (mF m)))(F:evA t y= .lit (.int .i64 k))(E:evA t z= .lit (.int ik v))(hk:wfB .i64 k=aX)(H:l.length < fP)(hi:h[i]? =mF (.res (EF (eQ ik) l m)))
 (I:K ⟨Bn t o.dst (.lit undef),h.set i (.res (EF (eQ ik) (B6 l k v) m))⟩):AOp dG C o ⟨t,h⟩ K:=
 Y2 (l:=mapK (eQ ik) l) i G u hx F E hk (by simpa[mapK]using H) hi (by have:=SetM'.self (e:=eQ ik) (l:=l) (l':=B6 l k v) (m:=m);rwa [Gx]at this) I
theorem Amf(i:Nat)(F:o.op= .call {callee:=.builtin .delete,args:=#[x,y],argTypes:=#[ty,3]})(u:dG.underlying ty=mF (.map 3 e))(hx:evA t x= .lit (.map (mF m)))(E:evA t y= .lit (.int .i64 k))(hk:wfB .i64 k=aX)(hi:h[i]? =mF (.res (EF (eQ ik) l m)))
 (G:K ⟨Bn t o.dst (.lit (.tuple #[])),h.set i (.res (EF (eQ ik) (Qo l k) m))⟩):AOp dG C o ⟨t,h⟩ K:=
 Amg i F u hx E hk hi (by have:=SetM'.self (e:=eQ ik) (l:=l) (l':=Qo l k) (m:=m);rwa [Akc]at this) G
end
end Mu
namespace Mu
open Go Go.RowKit Go.ChangeShapes Go.WideShapes
variable{ik:bT}{k n off:Nat}{ty:eN}{w:eT}
section
variable{P:cX}{C:Ctx}{t:List AV}{h:List kA}{o:cQ}
def Vf(P:cX)(ty:eN):Option (Nat×Nat):=
 match P.underlying ty with
 |some (.array n e)=>(P.info? e).map λi=>(n,i.size)
 |_=>mE
theorem OG{b sz:Nat}(u:Vf P ty=mF (n,sz))(hk:k < n):(bP ty (.pointer (mF ⟨b,off,mE⟩)) (.int ik (k:Int))).run P w= .ok (.pointer (mF ⟨b,off+k * sz,mE⟩)) w:=by
 unfold Vf at u;split at u <;> try(cases u;done)
 rename_i E e h1;cases h2:P.info? e with
 |none=>rw[h2]at u;cases u
 |some i=>
  rw[h2]at u;simp only[mD,mH,Prod.mk.injEq]at u;obtain⟨rfl,rfl⟩:=u;have F:(0:Int)<=(k:Int)/\(k:Int) < (E:Int):=by omega
  simp[bP,asIntOf,underlying,h1,bS,fX,fY,h2,add_plain,hk]
theorem Im{x y:cW}{i:Nat}{cells:List AV}(G:Vf P ty=mF (n,1))(E:o.op= .indexAddr ty x y)(hx:evA t x= .ptr i off)(hi:h[i]? =mF (.box cells))(F:evA t y= .lit (.int ik (k:Int)))(hk:k < n):AT P C t h o (.ptr i (off+k)):=
 AL λS ψ w ρ H u=>by
  have h1:=u x (by simp[E,cP]);have h2:=u y (by simp[E,cP]);rw[hx]at h1;rw[F]at h2;unfold kK at h1 h2;obtain⟨g,X,O⟩:=h1.2 (by rw[hi];rfl);have I:=OG (P:=P) (w:=w) (b:=g) (off:=off) (ik:=ik) G hk;refine⟨.pointer (mF ⟨g,off+k * 1,mE⟩),by simp[fG,E,O,h2,I],?_⟩;unfold kK;exact⟨h1.1,λ_=>⟨g,X,by rw[lQ]⟩⟩
def Lx:List AV->List (Nat×AV)->Option (List AV)
 |cs,[]=>mF cs
 |cs,(j,x)::ps=>if j < cs.length then Lx (cs.set j x) ps else mE
theorem Yz{w:eT}{S:Nat->Prop}{h:List kA}{ψ:Nat->eO}:∀(ps:List (Nat×AV)) (cs rs:List AV) (vs:List (Nat×eO)) (G:List eO),Lx cs ps=mF rs->Af w S h ψ cs G->
 vs.map (·.1)=ps.map (·.1)->(∀(j:Nat) (p:Nat×AV) (v:Nat×eO),ps[j]? =mF p->vs[j]? =mF v->kK w S h ψ p.2 v.2/\v.2.oneCell'=aX)->
 ∃u,bO (λi=>mF (i * 1,1)) G.toArray vs=mF u.toArray/\Af w S h ψ rs u
 | [],cs,rs,vs,G,F,O,H,_=>by
  cases F;have:vs= []:=by simpa using H
  subst this;exact⟨G,rfl,O⟩
 |(j,x)::ps,cs,rs,vs,G,F,O,H,E=>by
  cases vs with
  |nil=>simp at H
  |cons v vs=>
   simp only[jB,List.cons.injEq]at H;obtain⟨I,X⟩:=H;unfold Lx at F;split at F <;> try(cases F;done)
   rename_i Y;obtain⟨h1,h2⟩:=E 0 _ _ V V;have aa:=By O;obtain⟨u,Z,h4⟩:=Yz ps (cs.set j x) rs vs (G.set j v.2) F (HU O j h1) X λj p v F H=>E (j+1) p v (by simpa using F) (by simpa using H)
   refine⟨u,?_,h4⟩;obtain⟨i,v⟩:=v;dsimp only at I h1 h2 Z;subst I;unfold bO;simp only[lQ,Ho h2];have hc:¬((aZ ((#[v]:Array eO).size≠1)||decide (i+(#[v]:Array eO).size > G.toArray.size))=aX):=by
    simp;omega
   rw[if_neg hc];simpa using Z
theorem Ru{u:Array (Nat×cW)}{zs:List eO}{rs:List AV}(ho:o.op= .build ty u)(hz:Cw P ty=mF zs)(E:Vf P ty=mF (n,1))
 (hr:Lx (zs.map .lit) (u.toList.map λp=>(p.1,evA t p.2))=mF rs)(h1:(u.toList.all λp=>Wy (evA t p.2))=aX):AT P C t h o (.agg rs):=
 AL λS ψ w ρ H X=>by
  unfold Cw at hz;obtain⟨z,Z,rfl⟩:=mC.1 hz;obtain⟨i,hi,Y⟩:=lY.1 Z;unfold Vf at E;split at E <;> try(cases E;done)
  rename_i n' e hu;cases h2:P.info? e with
  |none=>rw[h2]at E;cases E
  |some ie=>
   rw[h2]at E;simp only[mD,mH,Prod.mk.injEq]at E;obtain⟨rfl,aa⟩:=E;have F:∀p∈u.toList,kK w S h ψ (evA t p.2) (ρ p.2):=λp O=>X p.2 (by rw[ho];exact List.mem_toArray.2 (jH.2 ⟨p,O,rfl⟩))
   obtain⟨G,h3,h4⟩:=Yz (w:=w) (S:=S) (h:=h) (ψ:=ψ) _ _ rs (u.toList.map λp=>(p.1,ρ p.2)) z.cells.toList hr (IW _) (by simp) λj p v O hv=>by
    rw[iM]at O hv;obtain⟨q,hq,rfl⟩:=mC.1 O;rw[hq]at hv;cases hv;have I:=jJ hq;exact⟨F q I,Mi (gG.1 h1 q I) C S ψ w _ H (F q I)⟩
   refine⟨.agg G.toArray,?_,by unfold kK;exact⟨G,rfl,h4⟩⟩;have hf:bO (λi=>mF (i * 1,1)) z.cells (u.map λp=>(p.1,ρ p.2)).toList=mF G.toArray:=by simpa using h3
   simp only[fG,ho,Instr.build,gD,fY,underlying,fX,hi,Y,hu,h2,aa,hf,zap]
end
end Mu
namespace Mu
open Go Go.RowKit Go.Proofs
variable{bs:List Bool}{e:eN}{off:Nat}{r:Bool}{v:eO}{vs ws:List eO}{xs:Array eO}
def Rd(P:cX):List Field->Nat->List Bool->Bool
 | [],_,[]=>aX
 |f::fs,j,b::bs=>f.name != "_" &&f.offset ==j&&(match P.underlying f.type with|some (.int _)=>b|some .bool=>!b|_=>aS)&&Rd P fs (j+1) bs
 |_,_,_=>aS
def Ab8:List Bool->List eO->List eO->Option Bool
 | [],[],[]=>mF aX
 |true::bs,.int k a::vs,.int k' b::ws=>if k=k' then(Ab8 bs vs ws).map λr=>a ==b&&r else mE
 |false::bs,.bool a::vs,.bool b::ws=>(Ab8 bs vs ws).map λr=>a ==b&&r
 |_,_,_=>mE
def Ayq(P:cX)(ty:eN)(bs:List Bool):Bool:=
 (match P.underlying ty with
  |some (.struct u)=>Rd P u.toList 0 bs
  |_=>aS)&&!P.stoodInHeld ty&&!P.eqGuardType P.depth ty
section
variable{P:cX}{w:eT}
theorem IS{k:bT}(u:P.underlying e=mF (.int k))(hx:xs[off]? =mF v):(part e xs off).run P w= .ok v w:=by
 simp[part,isAgg,fW u,hx]
theorem Nd(u:P.underlying e=mF .bool)(hx:xs[off]? =mF v):(part e xs off).run P w= .ok v w:=by
 simp[part,isAgg,fW u,hx]
theorem Adw{b:Bool}(h:Ab8 (b::bs) vs ws=mF r):
 (∃k a c F E G,b=aX/\vs= .int k a::F/\ws= .int k c::E/\Ab8 bs F E=mF G/\r=(a ==c&&G))\/
 (∃a c F E G,b=aS/\vs= .bool a::F/\ws= .bool c::E/\Ab8 bs F E=mF G/\r=(a ==c&&G)):=by
 cases vs with
 |nil=>cases b <;> simp[Ab8]at h
 |cons v vs=>
  cases ws with
  |nil=>cases b <;> cases v <;> simp[Ab8]at h
  |cons u ws=>
   cases b <;> cases v <;> cases u <;> simp only[Ab8,reduceCtorEq]at h
   ·obtain⟨G,H,rfl⟩:=mC.1 h;exact .inr ⟨_,_,_,_,G,rfl,rfl,rfl,H,rfl⟩
   ·split at h
    ·rename_i hk;subst hk;obtain⟨G,H,rfl⟩:=mC.1 h;exact .inl ⟨_,_,_,_,_,G,rfl,rfl,rfl,H,rfl⟩
    ·cases h
theorem RI{d:Nat}{xs ys:Array eO}:∀(fs:List Field) (j:Nat) (bs:List Bool) (vs ws:List eO) (r:Bool),Rd P fs j bs=aX->Ab8 bs vs ws=mF r->(∀i,xs[j+i]? =vs[i]?)->(∀i,ys[j+i]? =ws[i]?)->(cN (d+1) xs ys fs).run P w= .ok r w
 | [],j,bs,vs,ws,r,h,hr,hx,hy=>by
  cases bs with
  |nil=>
   cases vs <;> cases ws <;> simp[Ab8]at hr
   subst hr;rfl
  |cons b bs=>simp[Rd]at h
 |f::fs,j,bs,vs,ws,r,h,hr,hx,hy=>by
  cases bs with
  |nil=>simp[Rd]at h
  |cons b bs=>
   simp only[Rd,aR,bne_iff_ne,ne_eq,beq_iff_eq]at h;obtain⟨⟨⟨hn,ho⟩,ht⟩,G⟩:=h;have E:∀{zs:Array eO} {u:eO} {us:List eO},(∀i,zs[j+i]? =(u::us)[i]?)->zs[f.offset]? =mF u/\∀i,zs[j+1+i]? =us[i]?:=λhz=>by
    refine⟨by rw[ho];simpa using hz 0,λi=>?_⟩;have:=hz (i+1);rw[iG]at this;rw[<-this];congr 1;omega
   rcases Adw hr with⟨k,a,c,I,H,r',rfl,rfl,rfl,aa,rfl⟩|⟨a,c,I,H,r',rfl,rfl,rfl,aa,rfl⟩
   ·obtain⟨Z,Y⟩:=E hx;obtain⟨X,O⟩:=E hy;have ih:=RI (d:=d) (xs:=xs) (ys:=ys) fs (j+1) bs I H r' G aa Y O;cases F:P.underlying f.type with
    |none=>rw[F]at ht;cases ht
    |some td=>
     rw[F]at ht;cases td <;> simp at ht
     rename_i ik;have q:(cO (d+1) f.type (.int k a) (.int k c)).run P w= .ok (a ==c) w:=run_equalIn_int (P:=P) w d f.type k ik a c F;simp only[cN,hn,ne_eq,not_false_eq_true,if_true,eL];rw[IS F Z,eG,IS F X,eG,q,eG];cases(a ==c)
     ·rfl
     ·simpa using ih
   ·obtain⟨Z,Y⟩:=E hx;obtain⟨X,O⟩:=E hy;have ih:=RI (d:=d) (xs:=xs) (ys:=ys) fs (j+1) bs I H r' G aa Y O;cases F:P.underlying f.type with
    |none=>rw[F]at ht;cases ht
    |some td=>
     rw[F]at ht;cases td <;> simp at ht
     have q:(cO (d+1) f.type (.bool a) (.bool c)).run P w= .ok (a ==c) w:=run_equalIn_bool' (P:=P) w d f.type a c F;simp only[cN,hn,ne_eq,not_false_eq_true,if_true,eL];rw[Nd F Z,eG,Nd F X,eG,q,eG];cases(a ==c)
     ·rfl
     ·simpa using ih
theorem Adx{ty:eN}(h:Ayq P ty bs=aX)(G:Ab8 bs vs ws=mF r):(cO 10000 ty (.agg vs.toArray) (.agg ws.toArray)).run P w= .ok r w/\P.eqGuardType P.depth ty=aS:=by
 unfold Ayq at h;simp only[zaq]at h;obtain⟨⟨h1,h2⟩,H⟩:=h;refine⟨?_,H⟩;split at h1
 ·rename_i F u;have E:P.fieldsOf ty=F:=by unfold Program.fieldsOf;rw[u]
  rw[show(10000:Nat)=9999+1 from V,run_equalIn_struct w 9999 ty _ _ (by rw[E];exact u) h2,E];exact RI (d:=9998) F.toList 0 bs vs ws r h1 G (λi=>by simp) (λi=>by simp)
 ·cases h1
end
theorem OK{w:eT}{S:Nat->Prop}{h:List kA}{ψ:Nat->eO}:∀(vs:List eO) {E:List eO},Af w S h ψ (vs.map .lit) E->E=vs
 | [],E,H=>by
  unfold Af at H;exact H
 |v::vs,E,H=>by
  unfold List.map Af at H;obtain⟨u,F,rfl,h1,h2⟩:=H;unfold kK at h1;rw[h1,OK vs h2]
section
variable{P:cX}{C:Ctx}{t:List AV}{h:List kA}{o:cQ}
end
open Go.ChangeShapes Go.WideShapes
section
variable{P:cX}{C:Ctx}{t:List AV}{h:List kA}{o:cQ}
def Ax2(k:bT)(ds:List Int):List AV:=ds.map λd=>.lit (.int k d)
theorem Tv{w:eT}{S:Nat->Prop}{h:List kA}{ψ:Nat->eO}{k:bT}:∀{ds:List Int} {cs:List eO},Af w S h ψ (Ax2 k ds) cs->cs=ds.map (eQ k)
 | [],cs,H=>by unfold Ax2 at H;simp only[jC,Af]at H;simpa using H
 |d::ds,cs,H=>by
  unfold Ax2 at H;simp only[jB,Af,kK]at H;obtain⟨v,vs,rfl,rfl,h2⟩:=H;rw[jB,Tv (ds:=ds) h2]
def Azh(P:cX)(ty:eN):Option bT:=
 match P.underlying ty with
 |some (.array _ e)=>match P.underlying e with|some (.int k)=>mF k|_=>mE
 |_=>mE
theorem Abq{ty:eN}{x y:cW}{k ik:bT}{ds:List Int}{z:Int}{n:Nat}(F:o.op= .index ty x y)(u:Vf P ty=mF (n,1))(hn:ds.length=n)(hk:Azh P ty=mF k)(hx:evA t x= .agg (Ax2 k ds))(Z:evA t y= .lit (.int ik z))(X:Ch ds z=aX):AT P C t h o (.lit (.int k (ixD ds z))):=
 AL λS ψ w ρ H E=>by
  have h1:=E x (by simp[F,cP]);have h2:=E y (by simp[F,cP]);rw[hx]at h1;rw[Z]at h2;unfold kK at h1 h2;obtain⟨cs,e1,hl⟩:=h1;have O:=Tv hl;subst O;subst hn;obtain⟨h0,aa⟩:=BP.1 X;have hg:=BS X;unfold Vf at u;split at u <;> try(cases u;done)
  rename_i n' e Y;cases hi:P.info? e with
  |none=>rw[hi]at u;cases u
  |some i=>
   rw[hi]at u;simp only[mD,mH,Prod.mk.injEq]at u;obtain⟨rfl,I⟩:=u;have hb:(0:Int)<=z/\z < (ds.length:Int):=by omega
   refine⟨.int k (ixD ds z),?_,by unfold kK;rfl⟩;have G:P.underlying e=mF (.int k):=by
    unfold Azh at hk;rw[Y]at hk;simp only at hk;split at hk
    ·rename_i q he;cases hk;exact he
    ·cases hk
   have hp:=IS (P:=P) (w:=w) (e:=e) (k:=k) (xs:=(ds.map (eQ k)).toArray) (off:=z.toNat) (v:=.int k (ixD ds z)) G (by simp[hg]);simp[fG,F,e1,h2,Instr.index,asIntOf,underlying,Y,hb,fX,fY,hi,I,hp]
theorem Ol{α:Type}{T:Ty α}{enc:α->List AV}{x:α}(E:∀w S cs ψ,Af w S h ψ (enc x) cs->T.RS w S cs x):Fit h T (.agg (enc x)) x:=λC S ψ w v H u=>by
 unfold kK at u;obtain⟨cs,rfl,F⟩:=u;exact E w S cs ψ F
theorem Xr{E G:eN}{x y:cW}{bs:List Bool}{vs ws:List eO}{r:Bool}(X:Ayq P E bs=aX)(F:o.op= .binOp .neq E x y G)(hx:evA t x= .agg (vs.map .lit))(I:evA t y= .agg (ws.map .lit))(O:Ab8 bs vs ws=mF r):AT P C t h o (.lit (.bool (!r))):=
 AL λS ψ w ρ _ u=>by
  have h1:=u x (by simp[F,cP]);have h2:=u y (by simp[F,cP]);rw[hx]at h1;rw[I]at h2;unfold kK at h1 h2;obtain⟨us,h1,Z⟩:=h1;obtain⟨H,h2,Y⟩:=h2;rw[OK _ Z]at h1;rw[OK _ Y]at h2;obtain⟨e1,e2⟩:=Adx (w:=w) X O;refine⟨_,?_,by unfold kK;rfl⟩;simp only[fG,F,h1,h2,eL];rw[run_eqGuard_agg w .neq E x y _ _ e2,eG,run_neq_struct,e1,eG];rfl
end
end Mu
namespace Mu
open Go Go.RowKit
variable{F:(Nat->Bool)->St}{b:Nat->Bool}{c:Bool}{i j k:Nat}{o:cQ}{ops:Array cQ}{p:Nat}{x y:AV}
section
variable{P:cX}{C:Ctx}
def upd(b:Nat->Bool)(i:Nat):Nat->Bool:=λj=>if j=i then aX else b j
def Abg(b:Nat->Bool)(o:cQ):Prop:=∀(k:Nat) (e:bH),o.after[k]? =mF e->eA .any e=aX->b e.on=aX
def Aha(ops:Array cQ)(b:Nat->Bool):Prop:=∀(j:Nat) (o:cQ),ops[j]? =mF o->b j=aX->Abg b o
def gS(P:cX)(C:Ctx)(F:(Nat->Bool)->St)(ops:Array cQ):Nat->List cQ->Prop
 |_,[]=>True
 |k,o::rest=>(∀b,b k=aS->Abg b o->Aha ops b->AOp P C o (F b) λs=>kZ C s (F (upd b k)))/\gS P C F ops (k+1) rest
theorem Ano{F:(Nat->Bool)->St}{ops:Array cQ}:∀{l:List cQ} {k j:Nat} {o:cQ},gS P C F ops k l->l[j]? =mF o->∀b,b (k+j)=aS->Abg b o->Aha ops b->AOp P C o (F b) λs=>kZ C s (F (upd b (k+j)))
 | [],_,_,_,_,u=>by simp at u
 |o'::l,k,0,o,h,u=>by
  simp at u;subst u;exact h.1
 |o'::l,k,j+1,o,h,u=>by
  have:=Ano (l:=l) (k:=k+1) (j:=j) h.2 (by simpa using u);rwa [show k+1+j=k+(j+1)by omega]at this
def Axc(ops:Array cQ):Bool:=(jU ops.size).all λi=>match ops[i]? with
 |none=>aX
 |some o=>o.guard.isNone&&o.after.all λe=>!Region.binds .any e||decide (e.on < i)
theorem Sd(E:Axc ops=aX)(u:ops[i]? =mF o):o.guard=mE/\∀e∈o.after,eA .any e=aX->e.on < i:=by
 have h1:=gG.1 E i (List.mem_range.2 (aD.1 u).1);simp only[u,aR]at h1;refine⟨by simpa using h1.1,λe G H=>?_⟩;have h2:=Array.all_eq_true_iff_forall_mem.1 h1.2 e G;rw[H]at h2;simpa using h2
theorem Me(h:Abg b o):Abg (upd b i) o:=λk e u E=>by
 unfold upd;split
 ·rfl
 ·exact h k e u E
theorem Ann{listed:Array Bool}(h:listed.getD j aS=aX):listed.getD j aX=aX:=by
 rcases lL j listed.size with h'|h'
 ·simp[h']at h⊢;exact h
 ·simp[aC h']at h
theorem RE{listed:Array Bool}(hi:i < listed.size):(λj=>(listed.setIfInBounds i aX).getD j aX)=upd (λj=>listed.getD j aX) i:=by
 funext j;unfold upd;by_cases h:j=i
 ·subst h;rw[if_pos V];simp[aA,hi]
 ·rw[if_neg h,getD_set_ne aX (lX h)]
theorem Y6{Q':bJ->Act->eT->Prop}(hf:Axc ops=aX)
 (hs:∀(j:Nat) (o:cQ),ops[j]? =mF o->∀b,b j=aS->Abg b o->Aha ops b->AOp P C o (F b) λs=>kZ C s (F (upd b j)))
 (hQ:∀a w,(F λ_=>aX).rel C a w->Q' .normal a w):
 ∀(f:Nat) (listed:Array Bool) (a:Act) (w:eT),listed.size=ops.size->listed.toList.count aS=f->Aha ops (λj=>listed.getD j aX)->(F λj=>listed.getD j aX).rel C a w->wpAny P .any ops Q' f listed a w:=by
 intro f;induction f with
 |zero=>
  intro listed a w Y hc Z H;have u:∀j,listed.getD j aX=aX:=λj=>by
   rcases lL j listed.size with h'|h'
   ·have hm:=gN.1 hc;simp only[aA,aB h',mA];rcases hx:listed[j]with _|_
    ·exact absurd (by rw[<-hx];simp) hm
    ·rfl
   ·simp[aA,aC h']
  refine⟨gW.2 λi hi=>?_,hQ a w ?_⟩
  ·have:=(fQ.1 hi).1;rw[u i]at this;cases this
  ·have e:(λj=>listed.getD j aX)=λ_=>aX:=funext u
   rwa [e]at H
 |succ f ih=>
  intro listed a w Y hc Z H;refine⟨λh0=>?_,λi hi=>?_⟩
  ·exfalso;have aj:∃j,listed.getD j aX=aS:=by
    have hm:aS∈listed.toList:=gO.1 (by omega);obtain⟨j,G,he⟩:=iS hm;exact⟨j,by simp only[aH]at G;simp only[aG]at he;simp[aA,G,he]⟩
   obtain⟨j,G,ab⟩:=Gy aj;have ac:j < ops.size:=by
    rcases lL j listed.size with h'|h'
    ·omega
    ·simp[aC h']at G
   have O:j∈eC .any ops listed:=fQ.2 ⟨G,_,aB ac,λe he hb=>by
    have ak:=(Sd hf (aB ac)).2 e he hb;cases hx:listed.getD e.on aS with
    |true=>rfl
    |false=>
     have ai:e.on < listed.size:=by omega
     have:=ab e.on (getD_in ai hx);omega⟩
   rw[h0]at O;cases O
  ·obtain⟨aa,o,ho,u⟩:=fQ.1 hi;have E:i < listed.size:=by rw[Y];exact(aD.1 ho).1
   obtain⟨hg,al⟩:=Sd hf ho;have X:Abg (λj=>listed.getD j aX) o:=λk e he hb=>Ann (u e (aJ he) hb)
   have ae:(listed.setIfInBounds i aX).toList.count aS=f:=by
    have I:listed.toList[i]'(by simpa using E)=aS:=by
     have:=aa;simp[aA,E]at this;simpa using this
    rw[aO,gP (by simpa using E),I,hc];simp
   unfold wpOp;simp only[ho];have hw:eE o (yielded ops a.tmps)=aX:=by unfold eE;rw[hg]
   rw[hw,if_pos V];refine .inl (cV (λa' w' ⟨s',ah,hr⟩=>?_) (hs i o ho _ aa X Z Q' a w H).2);refine ih _ a' w' (by simpa using Y) ae ?_ ?_
   ·rw[RE E];intro j o' G ag;by_cases ad:j=i
    ·subst ad;rw[ho]at G;cases G;exact Me X
    ·exact Me (Z j o' G (by unfold upd at ag;rwa [if_neg ad]at ag))
   ·rw[RE E];exact ah a' w' hr
theorem P6{id n:Nat}{l:List cQ}{Q:bJ->St->Prop}(F:(Nat->Bool)->St)(hn:l.length=n)(hm:P.follows .mixedOrders=aX)(Y:(eB l.toArray&&KJ l.toArray&&Axc l.toArray)=aX)
 (Z:gS P C F l.toArray 0 l)(hQ:Q .normal (F λ_=>aX)):Awp P C (.region id l.toArray aX) Q (F λj=>decide (n<=j)):=λa w H=>by
 simp only[aR]at Y;obtain⟨⟨X,G⟩,hf⟩:=Y;refine FI hm G ?_;have e0:(λj=>(aL l.toArray.size aS).getD j aX)=λj=>decide (n<=j):=by
  funext j;simp only[aA,aF,jW,hn];by_cases h:j < n
  ·rw[if_pos h,decide_eq_false (by omega)];rfl
  ·rw[if_neg h,decide_eq_true (by omega)];rfl
 refine Y6 (Q':=λe a' w'=>e= .normal/\∃O,Q e O/\O.rel C a' w') hf (λj o E b h1 h2 h3=>?_) (λa' w' h=>⟨rfl,_,hQ,h⟩) _ _ a _ (by simp) (by simp) ?_ ?_
 ·have:=Ano (l:=l) (k:=0) (j:=j) Z (by simpa using E) b (by rwa [lU]) h2 h3;rwa [lU]at this
 ·intro j o E I;have hj:j < l.toArray.size:=(aD.1 E).1;have:(aL l.toArray.size aS).getD j aX=aX:=I;rw[aA,aF,if_pos hj]at this;cases this
 ·rw[e0];obtain⟨hd,S,ψ,u,hl⟩:=H;have I:Below w.heap.size w {w with drawn:=w.drawn+1}:=⟨rfl,rfl,rfl,lI _,λ_ _=>rfl⟩
  exact⟨hd,S,ψ,u.grow I (λ_ h=>h) (λ_ h=>.inl h) u.lt,Az (show Ext w S _ ψ {w with drawn:=w.drawn+1} S _ ψ from kM _ ψ (λk hk=>rfl) λ_ h=>h) _ _ hl⟩
theorem Ae4:Dr p []=aX:=rfl
theorem Fx{l:List AV}(hx:Gh p x=aX)(u:Dr p l=aX):Dr p (x::l)=aX:=by unfold Dr;rw[hx,u];rfl
theorem Azd(hx:Gh p x=aX)(u:Gh p y=aX):Gh p (bif c then x else y)=aX:=by cases c;exact u;exact hx
theorem Atm(hc:c=aS)(u:Gh p y=aX):Gh p (bif c then x else y)=aX:=by subst hc;exact u
theorem Ae5:List.all [] (nrB p)=aX:=rfl
theorem Gw{x:kA}{l:List kA}(hx:nrB p x=aX)(u:l.all (nrB p)=aX):(x::l).all (nrB p)=aX:=by rw[List.all_cons,hx,u];rfl
theorem NM{x y:kA}(hx:nrB p x=aX)(u:nrB p y=aX):nrB p (bif c then x else y)=aX:=by cases c;exact u;exact hx
theorem KU{t:List AV}{h h':List kA}(k:Nat)(e:h++jV k .dead=h'):kZ C ⟨t,h⟩ ⟨t,h'⟩:=by
 subst e;induction k with
 |zero=>simpa using lA
 |succ k u=>
  refine u.trans ?_;have:=Rq (C:=C) (t:=t) (h:=h++jV k .dead);rwa [gI,<-List.replicate_succ']at this
theorem Sn{b:Bool}(h:b=aX)(x y:kA):(bif b then x else y)=x:=by subst h;rfl
theorem CO{b:Bool}(h:b=aS)(x y:kA):(bif b then x else y)=y:=by subst h;rfl
theorem BQ{rest:List cQ}(h1:∀b,b k=aS->Abg b o->Aha ops b->AOp P C o (F b) λs=>kZ C s (F (upd b k)))(h2:gS P C F ops (k+1) rest):gS P C F ops k (o::rest):=⟨h1,h2⟩
theorem Agd:gS P C F ops k []:=trivial
theorem AW(hc:Aha ops b){e:bH}(u:ops[j]? =mF o)(hk:o.after[k]? =mF e)(G:eA .any e=aX)(E:e.on=i)(hi:b i=aS):b j=aS:=by
 cases h:b j with
 |false=>rfl
 |true=>
  have:=hc j o u h k e hk G;rw[E,hi]at this;cases this
end
open Go.Proofs
section
variable{P:cX}{C:Ctx}
variable{t:List AV}{h:List kA}{o:cQ}
theorem EP{x:cW}{g off:Nat}(E:o.op= .nilCheck x)(hx:evA t x= .lit (.pointer (mF ⟨g,off,mE⟩))):AT P C t h o (.lit (.pointer (mF ⟨g,off,mE⟩))):=
 AL λS ψ w ρ _ u=>by
  have h1:=u x (by simp[E,cP]);rw[hx]at h1;unfold kK at h1;exact⟨.pointer (mF ⟨g,off,mE⟩),by simp[fG,E,h1],by unfold kK;rfl⟩
end
section
variable{P:cX}{C:Ctx}{t:List AV}{h:List kA}{o:cQ}
end
theorem qVia{Q:bJ->St->Prop}{s:St}(u:St)(e:s=u)(h:Q .normal u):Q .normal s:=by rw[e];exact h
theorem Q4{x y:AV}{l l':List AV}(h1:x=y)(h2:l=l'):x::l=y::l':=by rw[h1,h2]
theorem Fit.of_eq{h:List kA}{α:Type}{T:Ty α}{x y:AV}{d:α}(e:x=y)(u:Fit h T y d):Fit h T x d:=by rw[e];exact u
section
variable{G:eT->Prop}{P:cX}{f:bM}{fn:bL}{c:bE}{args:List AV}{ι:Type}{R:Res}{Rs:ι->Res}{val:ι->eO}{t:Tmp}{n:Nat}
end
section
variable{G:eT->Prop}{P:cX}{C:Ctx}{o:cQ}{t:List AV}{h:List kA}{ι:Type}{Rs:ι->Res}{val:ι->eO}
end
open Go.ChangeShapes Go.WideShapes
variable{α:Type}{T:Ty α}{cap:Nat}{e:eN}{f:bM}{g:Nat}{hi:Option cW}{i:Nat}{l:List α}{l':List AV}{m n off sz:Nat}{ty:eN}{tys:Array eN}{u:eO}{ver:Nat}{x:cW}{xs:List AV}
def Hz(cells:List eO)(off:Nat)(news:List eO):List eO:=cells.take off++news++cells.drop (off+news.length)
def Ai3(g sz cap l m:Nat):eO:=.slice (if cap=l then mF ⟨g,0,mE⟩else mF ⟨g,l * sz,mE⟩) (m - l) (cap - l)
theorem Gs{cells:List eO}{news:List eO}(h:off+news.length<=cells.length):(Hz cells off news).length=cells.length:=by
 unfold Hz;simp;omega
theorem E4(P:cX){w:eT}{cells news:List eO}(hg:w.heap[g]? =mF (.cells cells.toArray e (0,0)))(E:off+news.length<=cells.length)(h1:∀u∈news,u.oneCell'=aX):
 w.setCells g off news=w.setRow g (Hz cells off news).toArray:=by
 have a:=run_storeCells_cells (P:=P) g off news 0 w (λj H=>by simp[eU,hg];omega) (λj H=>by simp[eV,hg]) h1;have b:=fV (P:=P) g off e news 0 cells.toArray w hg (by simpa using E) h1;rw[a]at b;simpa[Hz]using b
section
variable{P:cX}{C:Ctx}{t:List AV}{h:List kA}{o:cQ}{K:St->Prop}
theorem PX{lo:Option cW}{l:Nat}[ES P ty sz](O:o.op= .slice ty x lo hi mE)(hx:evA t x= .lit (.slice (mF ⟨g,0,mE⟩) n cap))(hl:An3 t 0 lo l)(hm:An3 t n hi m)(h1:l<=m)(h2:m<=cap):
 AT P C t h o (.lit (Ai3 g sz cap l m)):=
 AL λS ψ w ρ H E=>by
  have I:=E x (by rw[O];simp[cP]);have Y:=hl.val (h:=h) (w:=w) (S:=S) (ψ:=ψ) (ρ:=ρ) λy X=>E y (by rw[O,X];simp[cP])
  have Z:=hm.val (h:=h) (w:=w) (S:=S) (ψ:=ψ) (ρ:=ρ) λy X=>E y (by rw[O,X];simp[cP])
  rw[hx]at I;unfold kK at I;have hr:=Tp (P:=P) (w:=w) (a:=mF ⟨g,0,mE⟩) (len:=n) (cap:=cap) (ES.eq (P:=P) (ty:=ty) (n:=sz)) Y Z h1 h2;have e:(eS (if cap=l then mF ⟨g,0,mE⟩else(mF (⟨g,0,mE⟩:a6)).map (·.add (l * sz))) (m - l) (cap - l))=Ai3 g sz cap l m:=by
   unfold Ai3;split <;> simp[add_plain]
  rw[e]at hr;refine⟨Ai3 g sz cap l m,by simp[fG,O,I,hr],?_⟩;unfold kK;rfl
theorem Xq[ES P ty sz](E:o.op= .slice ty x mE hi mE)(hx:evA t x= .lit (.slice (mF ⟨g,0,mE⟩) n cap))(H:An3 t n hi m)(h2:m<=cap):
 AT P C t h o (.lit (.slice (mF ⟨g,0,mE⟩) m cap)):=by
 have e:Ai3 g sz cap 0 m= .slice (mF ⟨g,0,mE⟩) m cap:=by
  unfold Ai3;split <;> simp
 rw[<-e];exact PX E hx V H (lV _) h2
theorem Ajl{S:Nat->Prop}{w:eT}{cells news:List eO}(hg:w.heap[g]? =mF (.cells cells.toArray e (0,0))){v:eO}:
 lC w S (λk=>k=g) (λ_:Unit=>Amo g (Hz cells off news) e) (λ_=>v) v (w.setRow g (Hz cells off news).toArray):=by
 have E:=Cb w g (Hz cells off news).toArray;refine⟨⟨E.os,E.tape,E.output,E.size,λk hk H=>E.block k hk λe=>H (by injection e)⟩,(),rfl,setRow_heap w g _ _ e _ hg,λk hk=>?_⟩;have hk:k=g:=hk;subst hk;exact⟨.inl V,lK (aD.1 hg).1 E.size⟩
theorem Ace(z:eO)(n:Nat):(bA z.cells n).toList.length=n * z.cells.size:=by
 simp[bA]
def Y4(P:cX)(e:eN)(n:Nat):List eO:=(bA (((P.info? e).bind (·.zero)).getD undef).cells n).toList
theorem XA{E:TypeInfo}{z:eO}(h1:P.info? e=mF E)(h2:E.zero=mF z)(n:Nat):Y4 P e n=(bA z.cells n).toList:=by
 unfold Y4;rw[h1];simp only[lZ,h2,mA]
theorem Acf{bytes:Nat}[RT P ty e sz bytes](n:Nat):(Y4 P e n).length=n * sz:=by
 obtain⟨Z,O,z,I,H,Y,X,E⟩:=C4 (RT.eq (P:=P) (ty:=ty) (e:=e) (n:=sz) (bytes:=bytes));rw[XA I H,Ace,E]
theorem Ab6{l bytes:Nat}{cells:List eO}{zs:List eO}[RT P ty e sz bytes][ZC P e zs](ai:zs.all (·.oneCell')=aX)(ho:o.op= .call {callee:=.builtin .clear,args:=#[x],argTypes:=#[ty]})
 (hx:evA t x= .lit (Ai3 g sz cap l m))(hi:h[i]? =mF (.res (Amo g cells e)))(hc:cells.length=cap * sz)(hm:m<=cap)
 (hK:K ⟨Bn t o.dst (.lit (.tuple #[])),h.set i (.res (Amo g (Hz cells (l * sz) (Y4 P e (m - l))) e))⟩):AOp P C o ⟨t,h⟩ K:=by
 obtain⟨q1,ti,z,q2,Z,q4,q5,q6⟩:=C4 (RT.eq (P:=P) (ty:=ty) (e:=e) (n:=sz) (bytes:=bytes));rw[XA q2 Z]at hK;have ab:z.cells.toList=zs:=by
  have:=ZC.eq (P:=P) (ty:=e) (zs:=zs);unfold Cw at this;rw[q2]at this;simp only[lZ,Z,mD,mH]at this;exact this
 have O:(bA z.cells (m - l)).toList.length=(m - l) * sz:=by rw[Ace,q6]
 have ad:∀u∈(bA z.cells (m - l)).toList,u.oneCell'=aX:=λu hu=>by
  have X:u∈bA z.cells (m - l):=by simpa using hu
  unfold bA at X;obtain⟨j,hj,rfl⟩:=Array.mem_map.1 X;have hj:=Array.mem_range.1 hj;have ah:j % z.cells.size < z.cells.size:=lO _ (by
   rcases lG z.cells.size with h|h
   ·rw[h,Nat.mul_zero]at hj;omega
   ·exact h)
  rw[getElem!_pos z.cells (j % z.cells.size) ah];exact gG.1 ai _ (by rw[<-ab];simp)
 refine kF (ι:=Unit) (Rs:=λ_=>Amo g (Hz cells (l * sz) (bA z.cells (m - l)).toList) e) (val:=λ_=>.tuple #[]) hi (λ_=>rfl) (λS ψ w ρ H hR aj aa=>?_) λ_=>hK
 have E:=aa x (by simp[ho,cP,bB]);rw[hx]at E;unfold kK at E;have hg:w.heap[g]? =mF (.cells cells.toArray e (0,0)):=hR;have Y:(fG ρ o).run P w= .ok (.value (.tuple #[])) (w.setRow g (Hz cells (l * sz) (bA z.cells (m - l)).toList).toArray):=by
  by_cases ak:m<=l
  ·have e0:m - l=0:=by omega
   have e1:(bA z.cells (m - l)).toList= []:=gX (by rw[O,e0,Nat.zero_mul]);have e2:Hz cells (l * sz) []=cells:=by unfold Hz;simp
   rw[e1,e2,setRow_self w g cells.toArray e (0,0) hg];unfold Ai3 at E;rw[e0]at E;simp only[fG,ho,fS,fO,builtin];split at E <;> simp[E,a8,fW q1]
  ·have ae:¬cap=l:=by omega
   unfold Ai3 at E;rw[if_neg ae]at E;have ag:l * sz+(m - l) * sz<=cells.length:=by
    rw[hc,<-lE];exact lP _ (by omega)
   have I:=fV (P:=P) g (l * sz) e (bA z.cells (m - l)).toList 0 cells.toArray w hg (by rw[O];simpa using ag) ad;obtain⟨q,hq⟩:∃q,m - l=q+1:=⟨m - l - 1,by omega⟩
   have ac:(gD e).run P w= .ok z w:=by simp[gD,fY,q2,Z]
   rw[hq]at E I⊢;simp only[lF]at I;simp[fG,ho,fS,fO,builtin,E,a8,fW q1,ac,I,Hz]
 rw[Y];exact Ajl hg
def Al4{α:Type}(T:Ty α)(cells:List eO)(l:List α):Prop:=∀w S j d,l[j]? =mF d->T.RS w S ((cells.drop (j * T.size)).take T.size) d
end
section
variable{P:cX}{C:Ctx}{t:List AV}{h:List kA}{c:bE}{Q:bJ->St->Prop}
theorem VD(i:Nat)(hi:h[i]? =mF (.row ver e T l))(hn:ZO i h=aX)(aa:l≠[])(ad:∀w w' S S' cs d,T.RS w S cs d->T.RS w' S' cs d)(ag:SU T)(t':eO->List AV)(ht:∀v,Opn i ver v t (t' v))
 (hK:∀g cap cells,cells.length=cap * T.size->l.length<=cap->cap<=fP->Al4 T cells l->(∀u∈cells.take (l.length * T.size),u.oneCell'=aX)->Awp P C c Q ⟨t' (.slice (mF ⟨g,0,mE⟩) l.length cap),h.set i (.res (Amo g cells e))⟩):Awp P C c Q ⟨t,h⟩:=λa w ⟨hd,S,ψ,H,hl⟩=>by
 have hB:=H.blk i _ hi;have ab:=hB.lt V;obtain⟨cells,h1,h0,h2,h3⟩:=id hB;rcases h1.2 with⟨_,e0⟩|⟨g,cap,cur,e1,e2,e3,e4,e5,e6,e7⟩
 ·exact absurd (gX e0) aa
 ·have X:=ab g (by rw[e1];rfl);have H':=H.desc (b':=.res (Amo g cur.toList e)) (v':=ψ i) hi V (LI hn) ⟨λk hk=>by
   have hk:k=g:=hk;subst hk;obtain⟨a1,a2,a3⟩:=X;exact⟨a1,a3,a2⟩,by show w.heap[g]? =_;rw[e3]⟩ λk hk=>by
    have hk:k=g:=hk;subst hk;rw[e1];rfl
  rw[NT]at H';have ah:l.length * T.size<=cur.toList.length:=by
   have e8:cur.toList.length=cap * T.size:=by simpa using e6
   rw[e8];exact lP _ e4
  have E:∀j d,l[j]? =mF d->(cells.drop (j * T.size)).take T.size=(cur.toList.drop (j * T.size)).take T.size:=λj d I=>by
   have Y:=(iL.1 I).1;have ac:(j+1) * T.size<=l.length * T.size:=lP _ (by omega);rw[lE,lR]at ac;rw[<-e7,gU,j8,lN (by omega)]
  have O:∀u∈cells,u.oneCell'=aX:=λu Z=>by
   obtain⟨j,I,rfl⟩:=List.mem_iff_getElem.1 Z;have Y:j < l.length * T.size:=by rw[<-h1.1];exact I
   have hq:j / T.size < l.length:=(Nat.div_lt_iff_lt_mul h0).2 Y;have hR:=h2 (j / T.size) _ (iJ hq);refine ag _ _ _ _ hR _ (List.mem_iff_getElem?.2 ⟨j % T.size,?_⟩);rw[List.getElem?_take_of_lt (lO _ h0),iI,Nat.mul_comm,Nat.div_add_mod,iJ I]
  have ae:=hK g cap cur.toList (by rw[aH,e6]) e4 e5 (λw' S' j d I=>by
   rw[<-E j d I];exact ad _ _ _ _ _ _ (h2 j d I)) (by rw[e7];exact O)
  refine ae a w ⟨by rw[hd];exact(DN (b':=.res (Amo g cur.toList e)) hi V).symm,S,ψ,H',?_⟩;rw[<-e1];refine(ht (ψ i)).rel (λu Z=>?_) hl;unfold kK at Z;exact(Z.2 _ (by rw[hi];rfl)).2 V
theorem Qx(i:Nat){cells:List eO}{t':List AV}(hi:h[i]? =mF (.res (Amo g cells e)))(Z:ZO i h=aX)(hc:cells.length=cap * T.size)(E:l.length<=cap)(hm:cap<=fP)(h0:0 < T.size)(hR:Al4 T cells l)
 (ht:Cls i ver (.slice (mF ⟨g,0,mE⟩) l.length cap) t t'):kZ C ⟨t,h⟩ ⟨t',h.set i (.row ver e T l)⟩:=λa w ⟨hd,S,ψ,H,hl⟩=>by
 have Y:=H.blk i _ hi;have hg:w.heap[g]? =mF (.cells cells.toArray e (0,0)):=Y.2;have O:l.length * T.size<=cells.length:=by rw[hc];exact lP _ E
 have I:w.ownsRow 0 e T.size (.slice (mF ⟨g,0,mE⟩) l.length cap) l.length (cells.take (l.length * T.size)):=
  ⟨by rw[jA];omega,.inr ⟨g,cap,cells.toArray,rfl,lV _,hg,E,hm,by rw[jW,hc],rfl⟩⟩
 have H':=H.desc (b':=.row ver e T l) (v':=.slice (mF ⟨g,0,mE⟩) l.length cap) hi V (LI Z) ⟨_,I,h0,λj d X=>by
  have aa:=(iL.1 X).1;have E:(j+1) * T.size<=l.length * T.size:=lP _ (by omega);rw[lE,lR]at E;rw[gU,j8,lN (by omega)];exact hR w S j d X,λk hk=>by
  obtain⟨a1,a2,_⟩:=Y.1 k (show k=g by simpa[eR]using hk.symm);exact⟨a1,a2⟩⟩ λk hk=>by
   have:g=k:=by simpa[ftp,Bv]using hk
   exact this.symm
 exact⟨by rw[hd];exact(DN (b':=.row ver e T l) hi V).symm,S,_,H',ht.rel (iL.1 hi).1 V hl⟩
end
section
variable{C:Ctx}{h:List kA}{S:Nat->Prop}{ψ:Nat->eO}{w:eT}{t t':List AV}
end
section
variable{α0:Type}{P:cX}{C:Ctx}{t:List AV}{h:List kA}{o:cQ}{K:St->Prop}
def NS(h:List kA)(x E:AV):Prop:=∀(C:Ctx) (S:Nat->Prop) (ψ:Nat->eO) (w:eT) (v:eO),kR C h S ψ w->kK w S h ψ x v->kK w (λk=>k < w.heap.size) [] ψ0 E v
inductive LendWs(h:List ABlk):List AV->List AV->Prop
 |nil:LendWs h [] []
 |cons {x x':AV} {l l':List AV} (hx:NS h x x') (hl:LendWs h l l'):LendWs h (x::l) (x'::l')
theorem LendWs.rel{w:eT}{S:Nat->Prop}{ψ:Nat->eO}(H:kR C h S ψ w){l:List AV}(X:LendWs h l l'):∀{vs:List eO},Af w S h ψ l vs->Af w (λk=>k < w.heap.size) [] ψ0 l' vs:=by
 induction X with
 |nil=>intro vs E;unfold Af at E⊢;exact E
 |cons hx _ O=>
  intro vs E;unfold Af at E⊢;obtain⟨v,I,e,h1,h2⟩:=E;exact⟨v,I,e,hx C S ψ w v H h1,O h2⟩
theorem NS.of{x E:AV}(O:LendV h x E):NS h x E:=λ_ _ _ _ _ H I=>LendV.rel H O I
theorem NS.cl{x:AV}(hx:kI x=aX):NS h x x:=.of (.cl hx)
theorem NS.own{d:List α}(hi:h[i]? =mF (.row ver e T d)):NS h (.own i ver) (.bs T d):=.of (.own hi)
theorem NS.fn{l:List AV}(O:LendWs h l l'):NS h (.fn f l) (.fn f l'):=λC S ψ w v H I=>by
 unfold kK at I⊢;obtain⟨cs,e,E⟩:=I;exact⟨cs,e,O.rel H E⟩
theorem Dp{args:Array cW}
 (O:o.op= .call {callee:=.value (.func f),args:=args,argTypes:=tys})(Z:Fn P f xs (.lit u))(hx:LendWs h (args.toList.map (evA t)) xs):AT P C t h o (.lit u):=by
 intro S ψ w ρ H E;have h1:ρ (.func f)= .func (.func f) #[] #[]:=by
  have:=E (.func f) (by rw[O];exact aI.2 (.inl (by simp)));simpa[evA,kK]using this
 rw[Ct O Z.1 ρ w h1];refine⟨rfl,?_⟩;have h2:Af w S h ψ (args.toList.map (evA t)) (args.toList.map ρ):=Cc λx I=>E x (by rw[O];exact aI.2 (.inr (aK.1 I)))
 have h3:=Z.2 w _ (args.toList.map ρ) (λ_ h=>h) (hx.rel H h2);rw[show(args.map ρ)=(args.toList.map ρ).toArray from(by rw[<-aN])];refine h3.mono ?_;rintro e w' ⟨v,he,Y,S',k1,k2,k3,X⟩;refine⟨v,he,Y,S,λ_ h=>h,λ_ h=>.inl h,λk hk=>lK (H.lt k hk) Y.size,?_⟩;unfold kK at X⊢;exact X
theorem Vw{args:Array cW}
 (E:o.op= .call {callee:=.value (.func f),args:=args,argTypes:=tys})(H:Fn P f xs (.lit u))(hx:LendWs h (args.toList.map (evA t)) xs):AT P C t h o (.lit u):=Dp E H hx
theorem VL{args:Array cW}
 (Z:o.op= .call {callee:=.value (.func f),args:=args,argTypes:=tys})(hF:Jv P f xs e T l)(h0:0 < T.size)(O:∀w S S' cs d,T.RS w S cs d->T.RS w S' cs d)(hx:LendWs h (args.toList.map (evA t)) xs)
 (hK:K ⟨Bn t o.dst (.own h.length 0),h++[.row 0 e T l]⟩):AOp P C o ⟨t,h⟩ K:=by
 rintro Q' a w ⟨Y,S,ψ,H,hl⟩;refine⟨λc e=>(by rw[Z]at e;cases e),?_⟩;have h2:Af w S h ψ (args.toList.map (evA t)) (args.toList.map a.eval):=Cc λx _=>Bw hl x
 unfold cU;rw[Ct Z hF.1 a.eval w V];simp only[cT];rw[show(args.map a.eval)=(args.toList.map a.eval).toArray from(by rw[<-aN])];refine(hF.2 w _ (args.toList.map a.eval) (λ_ h=>h) (hx.rel H h2)).mono ?_;rintro r w' ⟨v,cells,rfl,hb,E,hR⟩;have X:Ext w S h ψ w' S (h++[.row 0 e T l]) (Bo ψ h.length v):=kO _ _ λk hk=>hb.block k (H.lt k hk)
 have hB:Hw C.N w' S (h++[.row 0 e T l]) (Bo ψ h.length v) v (.row 0 e T l):=
  ⟨cells,E.mono (lV _),h0,λi d Y=>O _ _ _ _ _ (hR i d Y),λg hg=>by
   have aa:=E.lt g hg;exact⟨λhN=>by have:=H.nlt _ hN;have:=H.bel.size;omega,λhS=>by have:=H.lt _ hS;omega⟩⟩
 refine⟨_,hK,Oy (s:=⟨t,h⟩) Y hl (H.push hb hB (WJ E)) X ?_⟩;unfold kK;refine⟨by simp,λc' I=>?_⟩;rw[iF (lI _)]at I;simp[kE]at I;exact⟨by omega,λ_=>Bk.symm⟩
theorem Du{args:Array cW}(i:Nat)(hi:h.length=i)
 (H:o.op= .call {callee:=.value (.func f),args:=args,argTypes:=tys})(O:Jv P f xs e T l)(h0:0 < T.size)(E:∀w S S' cs d,T.RS w S cs d->T.RS w S' cs d)(hx:LendWs h (args.toList.map (evA t)) xs)
 (I:K ⟨Bn t o.dst (.own i 0),h++[.row 0 e T l]⟩):AOp P C o ⟨t,h⟩ K:=by
 subst hi;exact VL H O h0 E hx I
end
end Mu
namespace Mu
open Go Go.RowKit Go.Proofs Go.Maps Go.Shelf
variable{S:Nat->Prop}{i:Nat}{l:List (Int×Int)}{m:Nat}{w:eT}
section
variable{α:Type}
def An2(T:Ty α)(w:eT)(S:Nat->Prop)(vs:List (Int×eO))(d:List (Int×α)):Prop:=
 (∀k,(getK vs k).isSome=(getK d k).isSome)/\∀k v x,getK vs k=mF v->getK d k=mF x->T.RS w S [v] x
def Ac2(T:Ty α):Ty (List (Int×α)) where
 size:=1
 bulk:=λl=>DV (λp=>T.bulk p.2) l+1
 RS:=λw S cs d=>okK d/\((cs= [.map mE]/\d= [])\/∃b vs,cs= [.map (mF b)]/\S b/\M4 w b vs/\An2 T w S vs d)
 len:=by rintro _ _ _ _ ⟨_,⟨rfl,_⟩|⟨_,_,rfl,_⟩⟩ <;> rfl
 keepS:=by
  rintro w w' S S' cs d ⟨h0,⟨rfl,X⟩|⟨b,vs,rfl,I,O,hk⟩⟩ H E
  ·exact⟨h0,.inl ⟨rfl,X⟩⟩
  ·exact⟨h0,.inr ⟨b,vs,rfl,E b I,O.keep (H b I),hk.1,λk v x h1 h2=>T.keepS (hk.2 k v x h1 h2) H E⟩⟩
def Azo:Ty Int where
 size:=1
 bulk:=λ_=>1
 RS:=λ_ _ cs d=>cs= [.int .i64 d]
 len:=by rintro _ _ _ _ rfl;rfl
 keepS:=λh _ _=>h
abbrev tMapI:Ty (List (Int×Int)):=Ac2 Azo
abbrev Kv:Ty (List (Int×List Int)):=Ac2 tInt.slice
theorem Aiz(T:Ty α)(w:eT)(S:Nat->Prop):(Ac2 T).RS w S [.map mE] []:=⟨okK.nil,.inl ⟨rfl,rfl⟩⟩
theorem S6{T:Ty α}{v:eO}{d:List (Int×α)}{ty e:eN}{z:eO}{k:Int}(h:(Ac2 T).RS w S [v] d)(E:dG.underlying ty=mF (.map 3 e))(O:(gD e).run dG w= .ok z w)(hk:Cl k)(c:Bool):
 ∃u,(bR ty v (.int .i64 k) c).run dG w= .ok (if c then .tuple #[u,.bool (getK d k).isSome]else u) w/\((getK d k=mE/\u=z)\/∃x,getK d k=mF x/\T.RS w S [u] x):=by
 obtain⟨h0,⟨X,rfl⟩|⟨b,vs,X,Z,Y,h1,h2⟩⟩:=h
 ·cases X;exact⟨z,look_nil c Qm E O (keyOf_int_mk dQ hk),.inl ⟨rfl,rfl⟩⟩
 ·cases X;refine⟨(getK vs k).getD z,?_,?_⟩
  ·cases c
   ·exact Y.look E O hk
   ·rw[<-h1 k];exact Y.look_ok E O hk
  ·have H:=h1 k;cases hg:getK vs k with
   |none=>
    rw[hg]at H;cases I:getK d k with
    |none=>exact .inl ⟨rfl,rfl⟩
    |some x=>rw[I]at H;cases H
   |some u=>
    rw[hg]at H;cases I:getK d k with
    |none=>rw[I]at H;cases H
    |some x=>exact .inr ⟨x,rfl,h2 k u x hg I⟩
end
section
variable{C:Ctx}{t:List AV}{h:List kA}{o:cQ}{K:St->Prop}{ty e:eN}{x y:cW}{k:Int}
theorem PZ{α:Type}{T:Ty α}{d:List (Int×α)}(f:α->AV)(Y:AV)(zv:eO)(X:o.op= .lookup ty x y aS)(O:dG.underlying ty=mF (.map 3 e))(Z:∀w,(gD e).run dG w= .ok zv w)(hx:evA t x= .tv (Ac2 T) d)(hy:evA t y= .lit (.int .i64 k))(hk:wfB .i64 k=aX)
 (hf:∀w S h ψ v a,T.RS w S [v] a->kK w S h ψ (f a) v)(h0:∀w S h ψ,kK w S h ψ Y zv):AT dG C t h o (((getK d k).map f).getD Y):=
 AL λS ψ w ρ H E=>by
  have h1:=E x (by simp[X,cP]);have h2:=E y (by simp[X,cP]);rw[hx]at h1;rw[hy]at h2;unfold kK at h1 h2;obtain⟨u,I,hu⟩:=S6 h1 O (Z w) hk aS;refine⟨u,by simp[fG,X,h2,I,eF],?_⟩;rcases hu with⟨hg,rfl⟩|⟨a,hg,hr⟩
  ·rw[hg];exact h0 w S h ψ
  ·rw[hg];exact hf w S h ψ u a hr
theorem SD{α:Type}{T:Ty α}{d:List (Int×α)}(f:α->AV)(O:AV)(zv:eO)(Z:o.op= .lookup ty x y aX)(X:dG.underlying ty=mF (.map 3 e))(hz:∀w,(gD e).run dG w= .ok zv w)(hx:evA t x= .tv (Ac2 T) d)(hy:evA t y= .lit (.int .i64 k))(hk:wfB .i64 k=aX)
 (hf:∀w S h ψ v a,T.RS w S [v] a->kK w S h ψ (f a) v)(h0:∀w S h ψ,kK w S h ψ O zv):AT dG C t h o (.tup [((getK d k).map f).getD O,.lit (.bool (getK d k).isSome)]):=
 AL λS ψ w ρ H E=>by
  have h1:=E x (by simp[Z,cP]);have h2:=E y (by simp[Z,cP]);rw[hx]at h1;rw[hy]at h2;unfold kK at h1 h2;obtain⟨u,I,hu⟩:=S6 h1 X (hz w) hk aX;refine⟨.tuple #[u,.bool (getK d k).isSome],by simp[fG,Z,h2,I,eF],?_⟩;have Y:kK w S h ψ (((getK d k).map f).getD O) u:=by
   rcases hu with⟨hg,rfl⟩|⟨a,hg,Y⟩
   ·rw[hg];exact h0 w S h ψ
   ·rw[hg];exact hf w S h ψ u a Y
  simp only[kK,Af];exact⟨[_,_],rfl,_,_,rfl,Y,_,_,rfl,rfl,rfl⟩
theorem On(w:eT):(gD 27).run dG w= .ok (.slice mE 0 0) w:=by kernel_rfl
theorem Vr{d:List (Int×Int)}(O:o.op= .lookup ty x y aS)(E:dG.underlying ty=mF (.map 3 3))(hx:evA t x= .tv tMapI d)(H:evA t y= .lit (.int .i64 k))(hk:wfB .i64 k=aX):AT dG C t h o (.lit (.int .i64 ((getK d k).getD 0))):=by
 have h1:=PZ (C:=C) (h:=h) (λa=>.lit (.int .i64 a)) (.lit (.int .i64 0)) _ O E DY hx H hk (λw S h ψ v a I=>by unfold kK;exact iW I) λw S h ψ=>by unfold kK;rfl
 cases hg:getK d k with
 |none=>rw[hg]at h1;exact h1
 |some v=>rw[hg]at h1;exact h1
theorem Km{d:List (Int×Int)}(O:o.op= .lookup ty x y aX)(E:dG.underlying ty=mF (.map 3 3))(hx:evA t x= .tv tMapI d)(H:evA t y= .lit (.int .i64 k))(hk:wfB .i64 k=aX):AT dG C t h o (.tup [.lit (.int .i64 ((getK d k).getD 0)),.lit (.bool (getK d k).isSome)]):=by
 have h1:=SD (C:=C) (h:=h) (λa=>.lit (.int .i64 a)) (.lit (.int .i64 0)) _ O E DY hx H hk (λw S h ψ v a I=>by unfold kK;exact iW I) λw S h ψ=>by unfold kK;rfl
 cases hg:getK d k with
 |none=>rw[hg]at h1;exact h1
 |some v=>rw[hg]at h1;exact h1
theorem Ck{d:List (Int×List Int)}(O:o.op= .lookup ty x y aS)(E:dG.underlying ty=mF (.map 3 27))(hx:evA t x= .tv Kv d)(H:evA t y= .lit (.int .i64 k))(hk:wfB .i64 k=aX):AT dG C t h o (.bs tInt ((getK d k).getD [])):=by
 have h1:=PZ (C:=C) (h:=h) (λa=>.bs tInt a) (.bs tInt []) _ O E On hx H hk (λw S h ψ v a I=>by unfold kK;exact I) λw S h ψ=>by unfold kK;exact Ty.slice_nilS _ _ _
 cases hg:getK d k with
 |none=>rw[hg]at h1;exact h1
 |some v=>rw[hg]at h1;exact h1
theorem Q5(E:M4 w m (mapK (eQ .i64) l))(I:S m):tMapI.RS w S [.map (mF m)] l:=by
 have hg:=E.1;refine⟨⟨(jS (f:=λp:Int×Int=>(p.1,eQ .i64 p.2)) (R:=λp q=>p.1 < q.1)).1 hg.1,λp H=>hg.2 (p.1,.int .i64 p.2) (jH.2 ⟨p,H,rfl⟩)⟩,.inr ⟨m,_,rfl,I,E,λk=>by rw[CC,mB],λk v x h1 h2=>?_⟩⟩;rw[CC,h2]at h1;cases h1;exact V
theorem NS.map(hi:h[i]? =mF (.res (EF (eQ .i64) l m))):NS h (.lit (.map (mF m))) (.tv tMapI l):=λC S ψ w v H E=>by
 unfold kK at E⊢;subst E;have I:=H.blk i _ hi;exact Q5 I.2 (I.1 m V).2.2
theorem NC:NS h (.lit (.map mE)) (.tv tMapI []):=λC S ψ w v H E=>by
 unfold kK at E⊢;subst E;exact Aiz _ _ _
theorem Rw{cells:List AV}{x:AV}{α:Type}{T:Ty α}{d:α}(hi:h[i]? =mF (.box cells))(hx:cells[0]? =mF x)(hl:NS h x (.tv T d)):NS h (.ptr i 0) (.bp T d 0):=λC S ψ w v H hr=>by
 unfold kK at hr⊢;obtain⟨g,hg,hv⟩:=hr.2 (by rw[hi];rfl);obtain⟨g',cs,e',O,_,_,hw,aa⟩:=H.blk _ _ hi;rw[hg]at O;cases O;obtain⟨u,Y,X⟩:=BY aa hx;have Z:g < w.heap.size:=(aD.1 hw).1;have I:=hl C S ψ w u H X;unfold kK at I;refine⟨g,0,hv,Z,[u],I,λj' u' E=>?_⟩;cases j' with
 |zero=>
  simp only[iH,mH]at E;subst E;unfold eU;simp[hw,Y]
 |succ j'=>simp at E
theorem NS.tv{α:Type}{T:Ty α}{d:α}:NS h (.tv T d) (.tv T d):=.cl V
end
end Mu
namespace Mu
open Go Go.RowKit
section
variable{P:cX}{C:Ctx}{ops:Array cQ}{md:Region.Mode}{h:List kA}
theorem RD{i:Nat}{t:List AV}{a:Act}{w:eT}{K:List AV->Prop}{K':Act->eT->Prop}{Q':bJ->Act->eT->Prop}(Y:¬cA Q')(H:lB C ⟨t,h⟩ a w)(Z:∀t a w,K t->lB C ⟨t,h⟩ a w->K' a w)
 (hh:aOp P C ops h i K t):gC (fnc C.rd) 4 P ops Q' i K' a w:=by
 unfold aOp at hh;unfold gC;split
 ·rename_i X;simp only[X]at hh;exact Z _ _ _ hh H
 ·rename_i o X;simp only[X]at hh;obtain⟨r,hy,hk⟩:=hh;obtain⟨hd,S,ψ,E,I⟩:=id H;rcases hy with⟨hg,hq⟩|⟨hg,rfl⟩
  ·have O:=DR hg I;rw[O,if_pos V];exact Sf (Lv (hq S ψ w a.eval E λx _=>Bw I x)) Y (Ld (s:=⟨t,h⟩) hd E I (hq S ψ w a.eval E λx _=>Bw I x) λa' w' h=>Z _ _ _ hk h)
  ·have O:=DR hg I;rw[O,if_neg (by simp)];exact⟨λ_ _=>UA _ _,Z _ _ _ hk (FQ H o.dst)⟩
theorem M8{n g:Nat}{L:Array Bool->List AV->Prop}{Q':bJ->Act->eT->Prop}(E:¬cA Q')(I:∀listed t a w,L listed t->lB C ⟨t,h⟩ a w->wpAnyIn (fnc C.rd) 4 P md ops Q' g listed a w):
 ∀(f:Nat) (listed:Array Bool) (t:List AV) (a:Act) (w:eT),Air P C md ops h n L f listed t->lB C ⟨t,h⟩ a w->wpAnyIn (fnc C.rd) 4 P md ops Q' (f+g) listed a w
 |0,listed,t,a,w,hh,H=>by rw[lU];exact I _ _ _ _ hh H
 |f+1,listed,t,a,w,hh,H=>by
  rw[show f+1+g=(f+g)+1 by omega];exact⟨λh0=>absurd h0 hh.1,λi hi=>RD E H (λt' a' w' h' O=>M8 E I f _ t' a' w' h' O) (hh.2 i hi).2⟩
theorem Kd{F:Fence}{m:Nat}{Q':bJ->Act->eT->Prop}:∀(l:List cQ) (k:Nat) (listed:Array Bool) (a:Act) (w:eT),(∀j,l[j]? =ops[k+j]?)->
 eD md ops l.length k listed=aX->fZ F m P ops Q' l a w->wpAnyIn F m P md ops Q' l.length listed a w
 | [],_,_,_,_,_,E,h=>⟨by simpa[eD]using E,h⟩
 |o::l,k,listed,a,w,I,E,h=>by
  have h0:ops[k]? =mF o:=by simpa using(I 0).symm
  simp only[iY,eD,zaf]at E;refine⟨λh1=>(by rw[E.1]at h1;cases h1),λi hi=>?_⟩;rw[E.1]at hi;have H:i=k:=by simpa using hi
  subst H;have O:gC F m P ops Q' i (fZ F m P ops Q' l) a w:=by unfold gC;simp only[h0];exact h
  exact wpOpIn_mono (λa' w' h'=>Kd l (i+1) _ a' w' (λj=>by have:=I (j+1);simpa[Nat.add_assoc,lD 1 j]using this) E.2 h') O
theorem Mk{id:Nat}{l:List cQ}{Q:bJ->St->Prop}{s:St}(n:Nat)(hm:P.follows .mixedOrders=aX)(hB:Ab9 l.toArray n=aX)
 (hh:aQ P C l.toArray s.h (λt=>Ih P C l.toArray (Q .normal) (l.drop n) ⟨t,s.h⟩) (l.take n) s.t):Awp P C (.region id l.toArray aX) Q s:=λa w H=>by
 simp only[Ab9,aR,decide_eq_true_eq,aW,beq_iff_eq]at hB;obtain⟨⟨⟨⟨ah,ai⟩,hn⟩,hs⟩,Z⟩:=hB;have aj:n<=l.length:=by simpa using hn
 have I:(l.take n).length=n:=by simp;omega
 have ab:(l.drop n).length=l.toArray.size - n:=by simp
 have X:HeadInv .any l.toArray n (aL l.toArray.size aS):=
  ⟨by simp,λj oj _ hl=>(by rw[fH]at hl;cases hl),λt _ ht=>getD_in (by simpa using ht) (fH _ _)⟩
 have O:∀(listed:Array Bool) (i:Nat),HeadInv .any l.toArray n listed->i < n->listed.getD i aX=aS->∀t,n<=t->t∉eC .any l.toArray listed:=by
  intro listed i ac hi ad t ht;rcases hs with hs|⟨hs,hc⟩
  ·intro hr;obtain⟨_,o,ho,_⟩:=fQ.1 hr;have:=(aD.1 ho).1;omega
  ·by_cases ae:n < l.toArray.size
   ·exact tail_waits hs hc ae ac _ i V hi ad t ht
   ·intro hr;obtain⟨_,o,ho,_⟩:=fQ.1 hr;have:=(aD.1 ho).1;omega
 have HH:=SB (md:=.any) (g:=l.toArray.size - n) O (l.take n) 0 _ s.t (λj hj=>by
  have ag:j < n:=by rw[I]at hj;exact hj
  simp[ag]) (by simpa using I) X (by rw[I];exact Z) hh
 have Y:¬cA (λe a' w'=>e=Exit.normal/\∃E,Q e E/\E.rel C a' w'):=λ⟨_,_,h⟩=>by cases h.1
 refine wpIn_mono (wpIn_region_any (Q:=λe a' w'=>e= .normal/\∃E,Q e E/\E.rel C a' w') hm ?_) λ_ _ _ h=>h.2
 have H':lB C ⟨s.t,s.h⟩ a {w with drawn:=w.drawn+1}:=by
  obtain⟨hd,S,ψ,aa,hl⟩:=H;have hb:Below w.heap.size w {w with drawn:=w.drawn+1}:=⟨rfl,rfl,rfl,lI _,λ_ _=>rfl⟩
  exact⟨hd,S,ψ,aa.grow hb (λ_ h=>h) (λ_ h=>.inl h) aa.lt,Az (show Ext w S s.h ψ {w with drawn:=w.drawn+1} S s.h ψ from kM s.h ψ (λk hk=>rfl) λ_ h=>h) _ _ hl⟩
 have:=M8 (Q':=λe a' w'=>e= .normal/\∃E,Q e E/\E.rel C a' w') Y (g:=l.toArray.size - n) (λlisted t a' w' hL H'=>by
  have:=Kd (md:=.any) (l.drop n) n listed a' w' (λj=>by simp[iI]) (by rw[ab];exact hL.1) (Dv V (Q':=λe a' w'=>e= .normal/\∃E,Q e E/\E.rel C a' w') Y (λs a w h H=>⟨rfl,s,h,H⟩) _ _ _ _ hL.2 H');rwa [ab]at this) _ _ _ _ _ HH H'
 rw[I,show n+(l.toArray.size - n)=l.toArray.size by omega]at this;exact this
end
end Mu
namespace Mu
open Go
variable{N:Int->Bool}{R:List Int}{S:Int->Bool}
def rdB(r:Int):List Ins->Bool
 | []=>aS
 |x::ds=>(readsC x).contains r||(!(Bd x&&x.d ==r)&&rdB r ds)
def Aij(r:Int):List Ins->Bool
 | []=>aX
 |x::ds=>!(Bd x&&x.d ==r)&&Aij r ds
def inS(ds:List Ins)(S:Int->Bool):Int->Bool:=ds.foldr M0 S
theorem YQ(x:Ins)(S:Int->Bool)(r:Int):M0 x S r=((readsC x).contains r||(!(Bd x&&x.d ==r)&&S r)):=by
 unfold M0 addL Ag0;cases E:Bd x
 ·simp[aU]
 ·have e:(r ==x.d)=(x.d ==r):=by
   by_cases h:r=x.d
   ·subst h;simp
   ·rw[beq_eq_false_iff_ne.2 h,beq_eq_false_iff_ne.2 (lX h)]
  simp[bne,e,aU,Bool.and_comm]
theorem Uo(ds:List Ins)(S:Int->Bool)(r:Int):inS ds S r=(rdB r ds||(Aij r ds&&S r)):=by
 induction ds with
 |nil=>simp[inS,rdB,Aij]
 |cons x ds E=>
  have h:inS (x::ds) S r=M0 x (inS ds S) r:=rfl;rw[h,YQ,E,rdB,Aij];cases(readsC x).contains r <;> cases(Bd x&&x.d ==r) <;> simp
def Cj(f:kQ)(b:Nat):List Ins:=match f.blocks[b]? with|some E=>E.ins|none=>[]
def Edge(f:kQ)(k b:Nat):Prop:=∃x∈G9 f (k:Int),x.1=b
inductive LOut(f:Func):Nat->Int->Prop
 |read {k b:Nat} {r:Int} (he:Edge f k b) (h:rdB r (Cj f b)=true):LOut f k r
 |pass {k b:Nat} {r:Int} (he:Edge f k b) (h:Aij r (Cj f b)=true) (hl:LOut f b r):LOut f k r
theorem Abs{f:kQ}{k b:Nat}{r:Int}(E:Edge f k b)(H:S r=aX->LOut f b r)(h:inS (Cj f b) S r=aX):LOut f k r:=by
 rw[Uo]at h;simp only[zaw]at h;rcases h with h|⟨h1,h2⟩
 ·exact .read E h
 ·exact .pass E h1 (H h2)
def Sub(R:List Int)(S:Int->Bool):Prop:=∀x,S x=aX->x∈R
theorem Sub.inR(h:Sub R S):InR R S:=⟨λx _ E=>h x E⟩
theorem Sub.back{x:Ins}(h:Sub R S)(hx:∀r∈readsC x,r∈R):Sub R (M0 x S):=λr E=>by
 rw[YQ]at E;simp only[gL,zaw]at E;rcases E with E|⟨_,E⟩
 ·exact hx r E
 ·exact h r E
theorem Sub.inS{ds:List Ins}(h:Sub R S)(hx:∀x∈ds,∀r∈readsC x,r∈R):Sub R (Mu.inS ds S):=by
 induction ds with
 |nil=>exact h
 |cons x ds E=>exact(E λy H=>hx y (by simp[H])).back (hx x (by simp))
def uni(S N:Int->Bool):Int->Bool:=λx=>S x||N x
theorem Ale:(R.filter S).length<=(R.filter (uni S N)).length:=by
 induction R with
 |nil=>simp
 |cons x l E=>
  have e:(uni S N) x=(S x||N x):=rfl;simp only[g9,e];cases H:S x <;> cases I:N x <;> simp <;> omega
theorem Aaz(h:(R.filter (uni S N)).length<=(R.filter S).length):∀x∈R,N x=aX->S x=aX:=by
 induction R with
 |nil=>simp
 |cons y l O=>
  have hc:(l.filter S).length<=(l.filter (uni S N)).length:=Ale;have e:(uni S N) y=(S y||N y):=rfl;simp only[g9,e]at h;intro x hx E;cases H:S y
  ·cases I:N y
   ·simp only[H,I,Bool.or_false,aT,if_false]at h;rcases jF.1 hx with rfl|hx
    ·rw[I]at E;cases E
    ·exact O h x hx E
   ·simp only[H,I,Bool.or_true,aT,if_true,if_false,iY]at h;omega
  ·simp only[H,Bool.true_or,zax]at h;rcases jF.1 hx with rfl|hx
   ·exact H
   ·exact O (by omega) x hx E
theorem XD(I:Sub R N)(h:(R.filter (uni S N)).length<=(R.filter S).length):uni S N=S:=by
 funext x;unfold uni;cases H:S x
 ·cases E:N x
  ·rfl
  ·have:=Aaz h x (I x E) E;rw[H]at this;cases this
 ·rfl
open Go.RowKit Go.Proofs Go.Maps
variable{L:List Int}{S:Int->Bool}{Ss:List (Int->Bool)}{i k m:Nat}{ms:List Nat}{ty:eN}
def mapsR(ms:List Nat)(Ss:List (Int->Bool)):Res:=⟨[],λg=>g∈ms,λw _=>ms.length=Ss.length/\ms.Nodup/\∀(i m:Nat) (S:Int->Bool),ms[i]? =mF m->Ss[i]? =mF S->ID w m S,
 λh hk _ _=>⟨h.1,h.2.1,λi m S E H=>(h.2.2 i m S E H).keep (hk m (jJ E))⟩⟩
theorem Agu(w:eT):ID (w.alloc (.map #[] 0)) w.heap.size (λ_=>aS):=
 ⟨.map [],LE (eW w dG 3 (fR dG 3)),λx _=>by simp[cI]⟩
theorem I5(E:ms[k]? =mF m)(H:Ss[k]? =mF S):∀w T,(mapsR ms Ss).R w T->ID w m S:=λ_ _ h=>h.2.2 k m S E H
section
variable{C:Ctx}{t:List AV}{h:List kA}{o:cQ}{K:St->Prop}
theorem VI(O:o.op= .makeMap ty mE)(Y:∀m,K ⟨Bn t o.dst (.lit (.map (mF m))),h++[.res (JS (λ_=>aS) m)]⟩):AOp dG C o ⟨t,h⟩ K:=by
 refine CT (ι:=Nat) (Rs:=JS λ_=>aS) (val:=λm=>.map (mF m)) (λ_=>rfl) (λS ψ w ρ H I=>?_) Y;have X:(fG ρ o).run dG w= .ok (.value (.map (mF w.heap.size))) (w.alloc (.map #[] 0)):=by simp[fG,O,run_makeMap]
 rw[X];have E:=(eI w.heap.size w).alloc (lI _) (.map #[] 0);refine⟨⟨E.os,E.tape,E.output,E.size,λk hk _=>E.block k hk⟩,w.heap.size,rfl,Agu w,λk hk=>?_⟩;have hk:k=w.heap.size:=hk;subst hk;exact⟨.inr (lI _),by simp⟩
theorem Abk{j:Nat}(I:i≠j)(hi:h[i]? =mF (.res (mapsR ms Ss)))(hj:h[j]? =mF (.res (JS S m))):
 kZ C ⟨t,h⟩ ⟨t,(h.set j .dead).set i (.res (mapsR (ms++[m]) (Ss++[S])))⟩:=
 KR I hi hj V V V (λg hg=>by
  have hg:g∈ms++[m]:=hg;rcases jE.1 hg with h1|h1
  ·exact .inl h1
  ·exact .inr (show g=m by simpa using h1)) λw T h1 h2 hd=>by
   obtain⟨X,k2,Z⟩:=h1;refine⟨by simp[X],?_,λi Y S' E H=>?_⟩
   ·rw[jO];refine⟨k2,by simp,λa ha b O e=>?_⟩;have O:b=m:=by simpa using O
    subst O;subst e;exact hd a ha V
   ·by_cases hi:i < ms.length
    ·rw[iE hi]at E;rw[iE (by omega)]at H;exact Z i Y S' E H
    ·rw[iF (by omega)]at E H;have e0:i - ms.length=0:=by
      have:=(iL.1 E).1;simp at this;omega
     rw[e0]at E;rw[<-X,e0]at H;cases E;cases H;exact h2
theorem M2{x:cW}{R:Res}(ho:o.op= .call {callee:=.builtin .len,args:=#[x],argTypes:=#[ty]})(O:dG.underlying ty=mF (.map 3 3))(hx:evA t x= .lit (.map (mF m)))(hi:h[i]? =mF (.res R))(Z:∀w T,R.R w T->ID w m S)
 (hR:RegsR L)(Y:InR L S):AT dG C t h o (.lit (.int .i64 (((L.filter S).length:Nat):Int))):=
 AL λT ψ w ρ H I=>by
  have h1:=I x (by simp[ho,cP,bB]);rw[hx]at h1;unfold kK at h1;obtain⟨D,E,hS⟩:=Z w T (H.blk i _ hi).2;have X:=(GZ E hS hR Y).1;have hl:=E.len (e:=3) O o.type;rw[X]at hl;refine⟨_,by simp[fG,ho,fS,fO,builtin,h1,hl];rfl,?_⟩;unfold kK;rfl
end
theorem Aa2(E:ms[k]? =mF m)(H:Ss[k]? =mF S):
 Ah5 dG 150 (mapsR ms Ss) [.lit (.map (mF m))] (JS S) (λp=>.map (mF p)):=Ahb _ S m (I5 E H)
theorem Aa0{mn:Nat}{N:Int->Bool}(Z:ms[k]? =mF m)(hS:Ss[k]? =mF S)(hR:RegsR L)(hi:InR L S)(hj:InR L N):
 Ah4 dG 155 (mapsR ms Ss) (JS N mn) [.lit (.map (mF m)),.lit (.map (mF mn))] (λ_:Unit=>mapsR ms (Ss.set k (uni S N))) (λ_=>.tuple #[]):=by
 refine⟨by kernel_rfl,λw T vs hT hF Y aa hd hr=>?_⟩;obtain⟨us,rfl,h1⟩:=Ej hr;obtain⟨us,rfl,h2⟩:=Ej h1;unfold Af at h2;subst h2;have I:=jJ Z;have ac:k < ms.length:=(iL.1 Z).1;refine(Alf w (I5 Z hS w T Y) aa (λe=>hd m I e) hR hi hj).mono ?_;rintro e w' ⟨rfl,h1,h2,X⟩;refine⟨_,rfl,⟨X.os,X.tape,X.output,X.size,λq hq hn=>X.block q hq λe=>hn (by cases e;exact I)⟩,(),rfl,⟨by simp[Y.1],Y.2.1,λi m' S' E H=>?_⟩,λq hq=>?_⟩
 ·by_cases O:i=k
  ·subst O;rw[Z]at E;cases E;rw[iQ (by rw[<-Y.1];exact ac)]at H;cases H;exact h1
  ·rw[iP (lX O)]at H;have ab:m'≠m:=λe=>O (by
    subst e;exact(List.getElem?_inj (iL.1 E).1 Y.2.1).1 (E.trans Z.symm))
   have hk:=Y.2.2 i m' S' E H;exact hk.keep (X.block m' hk.lt λe=>ab (by cases e;rfl))
 ·have:=hF q hq;exact⟨.inl hq,lK this X.size⟩
end Mu
namespace Mu
open Go Go.RowKit Go.Proofs
variable{b:kA}{α:Type}
class FB(h:List ABlk)(g:Nat)(i:outParam Nat)(cells:outParam (List AV)):Prop where
 e:h[i]? =some (.res (Be g cells))
instance At6{b:kA}{h:List kA}{g i:Nat}{cells:List AV}[FB h g i cells]:FB (b::h) g (i+1) cells:=⟨by rw[iG];exact FB.e⟩
instance At5{h:List kA}{g:Nat}{cells:List AV}:FB (.res (Be g cells)::h) g 0 cells:=⟨rfl⟩
class CA(x:AV):Prop where
 e:AV.cl x=true
instance At4{v:eO}:CA (.lit v):=⟨rfl⟩
instance At3{α:Type}{T:Ty α}{l:List α}:CA (.bs T l):=⟨rfl⟩
instance At2{h:List kA}{m:Option Nat}:OneI h (.lit (.map m)):=⟨One.lit V⟩
section
variable{P:cX}{C:Ctx}{t t':List AV}{h h':List kA}{g:Bool}
instance At1{ty:eN}{x:cW}{n i b off:Nat}{cells:List AV}{r:AV}[AG P ty aS n][GA t x (.lit (.pointer (mF ⟨b,off,mE⟩)))][FB h b i cells][LD cells off r][CA r]:QI P C t h (.load ty x) r:=⟨λ_ _ _ _=>AX V GA.e (FB.e (i:=i)) (by rw[<-LD.e (l:=cells) (k:=off) (x:=r),iI,lF]) CA.e⟩
instance At0{st:eN}{x:cW}{j n b off m:Nat}[FO P st j n][GA t x (.lit (.pointer (mF ⟨b,off,mE⟩)))][AD off n m]:QI P C t h (.fieldAddr st x j) (.lit (.pointer (mF ⟨b,m,mE⟩))):=⟨λ_ _ _ _=>by rw[<-AD.e (a:=off) (b:=n) (c:=m)];exact Do V GA.e⟩
instance Atz{ty:eN}{x:cW}{n i b off:Nat}{cells:List AV}{r:AV}[AG P ty aS n][GX g t x (.lit (.pointer (mF ⟨b,off,mE⟩)))][FB h b i cells][LD cells off r][CA r]:QG P C t h (.load ty x) g r:=⟨λ_ _ _ _ _ hg=>AX V (GX.e hg) (FB.e (i:=i)) (by rw[<-LD.e (l:=cells) (k:=off) (x:=r),iI,lF]) CA.e⟩
instance Aty{st:eN}{x:cW}{j n b off m:Nat}[FO P st j n][GX g t x (.lit (.pointer (mF ⟨b,off,mE⟩)))][AD off n m]:QG P C t h (.fieldAddr st x j) g (.lit (.pointer (mF ⟨b,m,mE⟩))):=⟨λ_ _ _ _ _ hg=>by rw[<-AD.e (a:=off) (b:=n) (c:=m)];exact Do V (GX.e hg)⟩
variable{ops:Array cQ}{rest l l1 l2:List cQ}{d:Option Nat}{ty:eN}{ps:String}{af:Array bH}{K:St->Prop}{y:bE}{Q:bJ->St->Prop}{id j:Nat}{o:cQ}{s:St}
theorem Azr{st:eN}{x z:cW}{ik:bT}{m:Int}{n:Nat}[Inhabited α]{T:Ty α}{l:List α}(hg:gA ops t ⟨d,.indexAddr st x z,ty,ps,af,mF (j,aS)⟩=mF (g ==aS))(E:(!!g||Ch l m)=aX)[GX (!g) t x (.bs T l)][GX (!g) t z (.lit (.int ik m))][ES P st n][PA t d (cond (!g) (.bp T (ixD l m) 0) (.lit undef)) t'](hk:CP P C ops K rest ⟨t',h⟩)(H:T.size=n:=by exact V):CP P C ops K (⟨d,.indexAddr st x z,ty,ps,af,mF (j,aS)⟩::rest) ⟨t,h⟩:=sG (hg:=WG hg) (hq:=λhg=>Ff V (GX.e hg) (GX.e hg) H (Uq E hg)) (ht:=PA.e) (hk:=hk)
theorem yS(hx:CP P C ops (λs=>Ih P C ops K rest s) [o] s):Ih P C ops K (o::rest) s:=by
 obtain⟨b,h1,h2,E⟩:=hx;exact⟨b,h1,λe=>Axx.op (h2 e),E⟩
theorem Aym:∀{l1:List cQ} {s:St},CP P C ops (λs=>Ih P C ops K l2 s) l1 s->Ih P C ops K (l1++l2) s
 | [],_,h=>h
 |_::_,_,⟨b,h1,h2,E⟩=>⟨b,h1,λe=>Axx.op ((h2 e).weak λ_ h=>Aym h),λe=>Aym (E e)⟩
theorem wY(n:Nat)(hx:∀K:St->Prop,(∀E,Awp P C y Q E->K E)->CP P C l.toArray (λs=>Ih P C l.toArray K l2 s) l1 s)
 (h1:l.take n=l1:=by(simp only[List.take_succ_cons,List.take_zero];exact V))(h2:l.drop n=l2:=by(simp only[List.drop_succ_cons,List.drop_zero];exact V)):Awp P C (.seq (.region id l.toArray aS) y) Q s:=by
 subst h1 h2;refine Ab λ_ H=>P5 ?_
 have:=Aym (hx _ H);rwa [jZ]at this
end
theorem Ate{l:List α}{j:Nat}{v:α}(E:l[j]? =mF v):l.set j v=l:=by
 refine gZ λq=>?_
 rw[List.getElem?_set];split
 ·rename_i hq;subst hq;rw[if_pos (iL.1 E).1,E]
 ·rfl
theorem Hs{C:Ctx}{t:List AV}{h:List kA}(i j:Nat){x y:AV}(hi:h[i]? =mF b)(hm:b.mrk= [])(hv:kB (mF b)=aX)(hj:t[j]? =mF x)
 (hn:∀S ψ w,kR C h S ψ w->∀k,ftp (mF b) (ψ i) k->C.w0.heap.size<=k)
 (hx:∀S ψ w v,kR C h S ψ w->kK w S h ψ x v->kK w (λk=>S k\/ftp (mF b) (ψ i) k) (h.set i .dead) ψ y v):kZ C ⟨t,h⟩ ⟨t.set j y,h.set i .dead⟩:=λa w ⟨hd,S,ψ,H,hl⟩=>by
 have ad:=(iL.1 hi).1;obtain⟨B,Y⟩:∃B:Nat->Prop,B=ftp (mF b) (ψ i):=⟨_,rfl⟩
 have hB:∀k,B k->¬C.N k/\k < w.heap.size/\¬S k:=by rw[Y];exact(H.blk i _ hi).lt hv
 have hS:∀k,S k->(S k\/B k):=λk hk=>.inl hk
 have X1:Ext w S h ψ w S (h.set i .dead) (Bo ψ i (ψ i)):=kP (λ_ _=>rfl) hi (λc' hc=>by simp[kE]at hc) λh=>by simp[AZ]at h
 rw[NT]at X1;have X2:Ext w S (h.set i .dead) ψ w (λk=>S k\/B k) (h.set i .dead) ψ:=kM _ _ (λ_ _=>rfl) hS;have ag:=Az X2 _ _ (Az X1 _ _ hl);have O:∀j,kB (h.set i .dead)[j]? =aX->j≠i/\(h.set i .dead)[j]? =h[j]?:=λj hj=>by
  by_cases e:j=i
  ·subst e;rw[iQ ad]at hj;simp[kB]at hj
  ·exact⟨e,iP (lX e)⟩
 refine⟨hd.trans (DN (b':=.dead) hi (by rw[show kC .dead= []from V,hm])).symm,λk=>S k\/B k,ψ,⟨H.bel,H.nlt,λk hk=>?_,λk hk=>.inl (H.sub k hk),λk hk=>?_,λj c I=>?_,λj k ah hj hk g h1 h2=>?_⟩,?_⟩
 ·rcases hk with hk|hk
  ·exact H.lt k hk
  ·exact(hB k hk).2.1
 ·rcases hk with hk|hk
  ·exact H.new k hk
  ·exact .inr (hn S ψ w H k (by rw[<-Y];exact hk))
 ·by_cases aa:j=i
  ·subst aa;rw[iQ ad]at I;cases I;trivial
  ·rw[iP (lX aa)]at I;have ab:=H.blk j c I;have X:kB (mF c)=aX->∀q,ftp (mF c) (ψ j) q->¬B q:=λae q hq hF=>H.dis j i aa (by rw[I];exact ae) (by rw[hi];exact hv) q (by rw[I];exact hq) (by rw[hi,<-Y];exact hF)
   cases c with
   |dead=>trivial
   |box E=>
    obtain⟨g',ai,e',Z,k2,k3,k4,k5⟩:=ab;exact⟨g',ai,e',Z,k2,λhk=>hk.elim k3 (X V g' (by rw[Z];rfl)),k4,Az X2 _ _ (Az X1 _ _ k5)⟩
   |row v' e' T' l'=>
    obtain⟨E,Z,k2,k3,k4⟩:=ab;exact⟨E,Z,k2,λi d hd=>T'.keepS (k3 i d hd) (λ_ _=>rfl) hS,λq hq=>⟨(k4 q hq).1,λhk=>hk.elim (k4 q hq).2 (X V q (AU hq))⟩⟩
   |res R=>
    obtain⟨Z,k2⟩:=ab;exact⟨λq hq=>⟨(Z q hq).1,λhk=>hk.elim (Z q hq).2.1 (X V q hq),(Z q hq).2.2⟩,R.keep k2 (λ_ _=>rfl) (λ_ _=>rfl) hS⟩
 ·obtain⟨_,e1⟩:=O j hj;obtain⟨_,e2⟩:=O k hk;rw[e1]at hj h1;rw[e2]at hk h2;exact H.dis j k ah hj hk g h1 h2
 ·obtain⟨v,hv,hr⟩:=BY hl hj;have e:a.tmps.toList.set j v=a.tmps.toList:=Ate hv;have ac:=HU ag j (x:=y) (v:=v) (by rw[Y];exact hx S ψ w v H hr);rw[e]at ac;exact ac
theorem Uw{C:Ctx}(O:C.std){h:List kA}{i:Nat}(hi:h[i]? =mF b)(I:kB (mF b)=aX)(S:Nat->Prop)(ψ:Nat->eO)(w:eT)(H:kR C h S ψ w)(k:Nat)(hk:ftp (mF b) (ψ i) k):C.w0.heap.size<=k:=lH λE=>((H.blk i _ hi).lt I k hk).1 (O k E)
end Mu
namespace Mu
open Go Go.RowKit
variable{Q:bJ->St->Prop}{id:Nat}{l:List cQ}{s:St}
section
variable{P:cX}{C:Ctx}
theorem wRK{y:bE}(hx:∀K:St->Prop,(∀E,Awp P C y Q E->K E)->CP P C l.toArray K l s):Awp P C (.seq (.region id l.toArray aS) y) Q s:=Ab λ_ H=>kL (hx _ H)
theorem Ay9(hx:∀K:St->Prop,(∀E,Q .normal E->K E)->CP P C l.toArray K l s):Awp P C (.region id l.toArray aS) Q s:=kL (hx _ λ_ h=>h)
end
open Go.Proofs
variable{O:Nat}{cv:List eO}{e:eN}{i k:Nat}{ls:List (List Int)}{n:Nat}{ty:eN}{v:eO}{vs:List eO}{w:eT}{x y:cW}{z:Int}
theorem Gj.keepB{w':eT}{base:Nat}{l:List Int}(h:Gj w base v l)(hk:∀g,v.ownBlock=mF g->w'.heap[g]? =w.heap[g]?):Gj w' base v l:=by
 obtain⟨h1,h2⟩:=h;refine⟨h1,?_⟩;rcases h2 with h2|⟨g,cap,cur,E,hg,hh,r⟩
 ·exact .inl h2
 ·exact .inr ⟨g,cap,cur,E,hg,(hk g (by rw[E];rfl)).trans hh,r⟩
structure RowsH(e:TypeId)(O n:Nat)(cv vs:List Value)(ls:List (List Int))(w:World):Prop where
 blk:w.heap[O]? =some (.cells cv.toArray e (0,0))
 lc:cv.length=ls.length
 ln:ls.length=n
 lm:n<=maxLen
 lv:vs.length=ls.length
 row:∀(k:Nat) (v:Value) (l:List Int),vs[k]? =some v->ls[k]? =some l->Gj w 0 v l/\Bg l
 dis:∀(j k:Nat) (v v':Value) (g:Nat),j≠k->vs[j]? =some v->vs[k]? =some v'->v.ownBlock=some g->v'.ownBlock≠some g
 out:∀(k:Nat) (v:Value),vs[k]? =some v->v.ownBlock≠some O
theorem RowsH.cell(H:RowsH e O n cv vs ls w)(hk:cv[k]? =mF v):w.cell? ⟨O,k,mE⟩=mF v:=by
 simp[eU,H.blk,hk]
def Gm(e:eN)(O n:Nat)(cv vs:List eO)(ls:List (List Int)):Res where
 mrk:=[]
 F:=λg=>g=O\/∃v∈vs,v.ownBlock=mF g
 R:=λw _=>RowsH e O n cv vs ls w
 keep:=λH hk _ _=>⟨(hk O (.inl V)).trans H.blk,H.lc,H.ln,H.lm,H.lv,λk v l h1 h2=>⟨(H.row k v l h1 h2).1.keepB λg hg=>hk g (.inr ⟨v,jJ h1,hg⟩),(H.row k v l h1 h2).2⟩,H.dis,H.out⟩
theorem Sb{α:Type}{l:List α}{d:α}(h:k < l.length):l[k]? =mF (l.getD k d):=by rw[iD,iJ h];rfl
section
variable{P:cX}{C:Ctx}{o:cQ}{t:List AV}{h:List kA}{K:St->Prop}
def inZ(n:Nat)(z:Int):Bool:=aZ (0<=z)&&aZ (z.toNat < n)
theorem NA{ik:bT}{g c:Nat}[ES P ty 1](I:o.op= .indexAddr ty x y)(hx:evA t x= .lit (.slice (mF ⟨g,0,mE⟩) n c))(H:evA t y= .lit (.int ik z))(E:inZ n z=aX):
 AT P C t h o (.lit (.pointer (mF ⟨g,z.toNat,mE⟩))):=by
 unfold inZ at E;simp only[zaf]at E;have e:z=(z.toNat:Int):=by omega
 have:=Vs (P:=P) (n:=1) (C:=C) (h:=h) (k:=z.toNat) I hx (by rw[H,<-e]) E.2;rwa [show 0+z.toNat * 1=z.toNat by omega]at this
theorem Xy{k k':bT}{bytes:Nat}(ho:o.op= .makeSlice ty x y)(hz:GH P ty=mF (e,.slice mE 0 0,bytes))
 (hx:evA t x= .lit (.int k z))(hy:evA t y= .lit (.int k' z))(hb:VO z bytes=aX)
 (hK:∀O:Nat,K ⟨Bn t o.dst (.lit (.slice (mF ⟨O,0,mE⟩) z.toNat z.toNat)),h++[.res (Gm e O z.toNat (jV z.toNat (.slice mE 0 0)) (jV z.toNat (.slice mE 0 0)) (jV z.toNat []))]⟩):AOp P C o ⟨t,h⟩ K:=by
 refine CT (ι:=Nat) (Rs:=λO=>Gm e O z.toNat (jV z.toNat (.slice mE 0 0)) (jV z.toNat (.slice mE 0 0)) (jV z.toNat [])) (val:=λO=>.slice (mF ⟨O,0,mE⟩) z.toNat z.toNat) (λ_=>rfl) (λS ψ w ρ H ab=>?_) hK;unfold VO at hb;simp only[zaf]at hb;obtain⟨⟨h0,h1⟩,h2⟩:=hb;have aa:=ab x (by simp[ho,cP]);have Z:=ab y (by simp[ho,cP]);rw[hx]at aa;rw[hy]at Z;unfold kK at aa Z;unfold GH at hz;split at hz <;> try(cases hz;done)
 rename_i e' hu;obtain⟨i,hi,ad⟩:=lY.1 hz;obtain⟨z',ae,Y⟩:=lY.1 ad;split at Y <;> try(cases Y;done)
 rename_i h4;cases Y;have ac:z=((z.toNat:Nat):Int):=by omega
 have X:=run_make_row' (P:=P) ty e (.slice mE 0 0) i.bytes hu (by rw[hi];simp[ae,h4.1]) V k k' z.toNat h2 (by unfold fP at h1;omega) w;rw[<-ac,Pg]at X;have ag:(fG ρ o).run P w= .ok (.value (.slice (mF ⟨w.heap.size,0,mE⟩) z.toNat z.toNat)) (w.alloc (.cells (jV z.toNat (eS mE 0 0)).toArray e)):=by
  simp[fG,ho,aa,Z,X]
 rw[ag];have E:∀(k:Nat) (v:eO),(jV z.toNat (eS mE 0 0))[k]? =mF v->v= .slice mE 0 0:=λk v I=>(jK.1 (jJ I)).2
 refine⟨⟨rfl,rfl,rfl,by simp,λk hk _=>fL w _ hk⟩,w.heap.size,rfl,⟨fK w _,by simp,by simp,h1,by simp,λk v l I hl=>?_,λj k v v' g _ I _ hg=>?_,λk v I=>?_⟩,λg hg=>?_⟩
 ·rw[E k v I,(jK.1 (jJ hl)).2];exact⟨Gj.nil _ _,λx hx=>by cases hx⟩
 ·rw[E j v I]at hg;cases hg
 ·rw[E k v I];exact λe=>by cases e
 ·rcases hg with hg|⟨v,I,hg⟩
  ·subst hg;exact⟨.inr (lI _),by simp⟩
  ·rw[(jK.1 I).2]at hg;cases hg
theorem SG[AG P ty aS 1](I:o.op= .load ty x)(hx:evA t x= .lit (.pointer (mF ⟨O,z.toNat,mE⟩)))(hi:h[i]? =mF (.res (Gm e O n cv vs ls)))(E:Ch ls z=aX):AT P C t h o (.lit (cv.getD z.toNat undef)):=
 Nz I hx hi V λw S X=>by
  have H:RowsH e O n cv vs ls w:=X;have hk:=(BP.1 E).2;rw[<-H.lc]at hk;exact⟨cv.getD z.toNat undef,H.cell (Sb hk),by unfold kK;rfl⟩
theorem VM{bytes:Nat}{l2:List Int}(ho:o.op= .call {callee:=.builtin .append,args:=#[x,y],argTypes:=#[ty,ty]})(hT:NL P ty=mF (3,1,bytes))
 (hx:evA t x= .lit (vs.getD z.toNat undef))(hi:h[i]? =mF (.res (Gm e O n vs vs ls)))(hy:evA t y= .bs tInt l2)(hz:Ch ls z=aX)(hb:Fj ((ixD ls z).length+l2.length) bytes=aX)
 (hK:∀v':eO,K ⟨Bn t o.dst (.lit v'),h.set i (.res (Gm e O n vs (vs.set z.toNat v') (ls.set z.toNat (ixD ls z++l2))))⟩):AOp P C o ⟨t,h⟩ K:=by
 refine kF (ι:=eO) (Rs:=λv'=>Gm e O n vs (vs.set z.toNat v') (ls.set z.toNat (ixD ls z++l2))) (val:=λv'=>v') hi (λ_=>rfl) (λS ψ w ρ H hR au al=>?_) hK;have Z:RowsH e O n vs vs ls w:=hR;have ai:=al x (by rw[ho];exact aI.2 (.inr (by simp)));have ab:=al y (by rw[ho];exact aI.2 (.inr (by simp)));rw[hx]at ai;rw[hy]at ab;unfold kK at ai ab;have am:=(BP.1 hz).2;have hk:z.toNat < vs.length:=by rw[Z.lv];exact am
 have hv:=Sb (d:=undef) hk;have hl:=BS hz;obtain⟨aq,bb⟩:=Z.row _ _ _ hv hl;obtain⟨h1,ti,zz,h2,h3,h4,h5,h6⟩:=C4 hT;obtain⟨A,c,an⟩:=Cf ab;rw[an]at ab;obtain⟨news,bc,ao,be,bf⟩:=IP ab λcs d bj=>JN _ _ _ _ bj
 have ad:news=l2.map (eQ .i64)/\Bg l2:=by
  have av:news.length=l2.length:=by rw[bc];exact lQ _
  have hg:∀j d,l2[j]? =mF d->news[j]? =mF (eQ .i64 d)/\wfI .i64 d:=λj d hd=>by
   have:=be j d hd;rw[show tInt.size=1 from V,lQ,j6,iV]at this;have bg:j < news.length:=by rw[av];exact(iL.1 hd).1
   rw[iJ bg]at this⊢;obtain⟨h7,h8⟩:=DH.1 this;exact⟨by simpa using h7,h8⟩
  refine⟨gZ λj=>?_,λr hr=>?_⟩
  ·rw[iM];cases hd:l2[j]? with
   |none=>rw[iK (by rw[av];exact List.getElem?_eq_none_iff.1 hd)];rfl
   |some d=>exact(hg j d hd).1
  ·obtain⟨j,hj⟩:=iN hr;exact(hg j r hj).2
 have ae:=hb;unfold Fj at ae;simp only[zaf]at ae;obtain⟨v',w',ap,aj,aa,bk⟩:=Lm (P:=P) (ty:=o.type) (c:=c) (base:=0) h1 h2 h3 h4 h5 h6 (lW) aq (ao w λ_ _=>rfl) bf ae.1 ae.2 (lV _);have bi:(fG ρ o).run P w= .ok (.value v') w':=by
  unfold fG;simp only[ho,fS,fO,builtin,jD,jB,jC,ai,an,ap,zak]
 rw[bi];have ac:Gj w' 0 v' (ixD ls z++l2):=Gj.of (n:=(ixD ls z).length+l2.length) aj (by simp) (by rw[List.map_append,ad.1]);have az:∀g,(vs.getD z.toNat undef).ownBlock=mF g->g=O\/∃v∈vs,v.ownBlock=mF g:=λg hg=>.inr ⟨_,jJ hv,hg⟩
 have bl:O < w.heap.size:=au O (.inl V);have Y:∀g,v'.ownBlock=mF g->(vs.getD z.toNat undef).ownBlock=mF g\/g=w.heap.size:=λg hg=>by
  rcases bk with e1|e1
  ·exact .inl (e1▸hg)
  ·rw[e1]at hg;cases hg;exact .inr V
 have X:∀(k:Nat) (v:eO),(vs.set z.toNat v')[k]? =mF v->(k=z.toNat/\v=v')\/(k≠z.toNat/\vs[k]? =mF v):=λk v E=>by
  by_cases e:k=z.toNat
  ·subst e;rw[iQ hk]at E;exact .inl ⟨rfl,(mG E).symm⟩
  ·rw[iP (lX e)]at E;exact .inr ⟨e,E⟩
 refine⟨⟨aa.os,aa.tape,aa.output,aa.size,λk hk hn=>aa.block k hk λe=>hn (az k e.symm)⟩,v',rfl,⟨?_,?_,by rw[i9];exact Z.ln,Z.lm,?_,λk v l E ag=>?_,λj k v v2 g ax hj I hg=>?_,λk v E=>?_⟩,λg hg=>?_⟩
 ·exact(aa.block O bl λe=>Z.out _ _ hv e.symm).trans Z.blk
 ·rw[i9];exact Z.lc
 ·rw[i9,i9];exact Z.lv
 ·rcases X k v E with⟨rfl,rfl⟩|⟨ar,E⟩
  ·rw[iQ am]at ag;cases ag;exact⟨ac,λr hr=>(jE.1 hr).elim (bb r) (ad.2 r)⟩
  ·rw[iP (lX ar)]at ag;obtain⟨h7,h8⟩:=Z.row k v l E ag;exact⟨h7.keepB λg hg=>aa.block g (h7.lt g hg).2 λe=>Z.dis k z.toNat v _ g ar E hv hg e.symm,h8⟩
 ·rcases X j v hj with⟨rfl,rfl⟩|⟨bh,ah⟩
  ·rcases X k v2 I with⟨rfl,_⟩|⟨aw,I⟩
   ·exact absurd V ax
   ·rcases Y g hg with e1|e1
    ·exact Z.dis _ _ _ _ g (lX aw) hv I e1
    ·intro e2;obtain⟨l',ak⟩:∃l',ls[k]? =mF l':=⟨_,iJ (by rw[<-Z.lv];exact(iL.1 I).1)⟩
     have:=((Z.row k v2 l' I ak).1.lt g e2).2;omega
  ·rcases X k v2 I with⟨rfl,rfl⟩|⟨aw,I⟩
   ·intro e2;rcases Y g e2 with e1|e1
    ·exact Z.dis _ _ _ _ g bh ah hv hg e1
    ·obtain⟨l',ak⟩:∃l',ls[j]? =mF l':=⟨_,iJ (by rw[<-Z.lv];exact(iL.1 ah).1)⟩
     have:=((Z.row j v l' ah ak).1.lt g hg).2;omega
   ·exact Z.dis j k v v2 g ax ah I hg
 ·rcases X k v E with⟨rfl,rfl⟩|⟨_,E⟩
  ·intro e2;rcases Y O e2 with e1|e1
   ·exact Z.out _ _ hv e1
   ·omega
  ·exact Z.out k v E
 ·have bm:w.heap.size<=w'.heap.size:=aa.size;rcases hg with hg|⟨v,ba,hg⟩
  ·subst hg;exact⟨.inl (.inl V),by omega⟩
  ·obtain⟨k,I⟩:=iN ba;rcases X k v I with⟨rfl,rfl⟩|⟨_,I⟩
   ·have ay:=(ac.lt g hg).2;rcases Y g hg with e1|e1
    ·exact⟨.inl (az g e1),ay⟩
    ·exact⟨.inr (by omega),ay⟩
   ·exact⟨.inl (.inr ⟨v,jJ I,hg⟩),by have:=au g (.inr ⟨v,jJ I,hg⟩);omega⟩
theorem Xx{I:List eO}{v':eO}[SZ P ty 1](ho:o.op= .store ty x y)(hx:evA t x= .lit (.pointer (mF ⟨O,z.toNat,mE⟩)))(hy:evA t y= .lit v')(hi:h[i]? =mF (.res (Gm e O n cv (I.set z.toNat v') ls)))(hz:Ch ls z=aX)
 (hK:K ⟨Bn t o.dst (.lit undef),h.set i (.res (Gm e O n (cv.set z.toNat v') (I.set z.toNat v') ls))⟩):AOp P C o ⟨t,h⟩ K:=by
 refine kF (ι:=Unit) (Rs:=λ_=>Gm e O n (cv.set z.toNat v') (I.set z.toNat v') ls) (val:=λ_=>undef) hi (λ_=>rfl) (λS ψ w ρ H hR aj Z=>?_) (λ_=>hK);have h1:=Z x (by simp[ho,cP]);have h2:=Z y (by simp[ho,cP]);rw[hx]at h1;rw[hy]at h2;unfold kK at h1 h2;have E:RowsH e O n cv (I.set z.toNat v') ls w:=hR;have aa:=(BP.1 hz).2;have hk:z.toNat < cv.length:=by rw[E.lc];exact aa
 have hv:(I.set z.toNat v')[z.toNat]? =mF v':=iQ (by have:=E.lv;rw[i9]at this;omega);obtain⟨l,hl⟩:∃l,ls[z.toNat]? =mF l:=⟨_,iJ aa⟩
 have ac:=(E.row _ _ _ hv hl).1;have ae:v'.cells= #[v']/\v'.oneCell'=aX:=by
  rcases ac.2 with⟨rfl,_⟩|⟨g,cap,cur,rfl,_⟩
  ·exact⟨rfl,rfl⟩
  ·exact⟨rfl,rfl⟩
 have Y:w.cell? ⟨O,z.toNat,mE⟩=mF (cv.getD z.toNat undef):=E.cell (Sb hk);have am:w.frozen? ⟨O,z.toNat,mE⟩=aS:=by
  simp only[eV,E.blk];simp
 have ag:(P.info? ty).map (·.size)=mF 1:=SZ.eq (P:=P) (ty:=ty) (n:=1);obtain⟨an,al,ai⟩:=mC.1 ag;have ah:(store ⟨O,z.toNat,mE⟩ v' .plain).run P w= .ok () (w.setCell ⟨O,z.toNat,mE⟩ v'):=by
  rw[run_store P w _ _ _ ae.2,Y];simp[am]
 have ab:(fG ρ o).run P w= .ok .skip (w.setCell ⟨O,z.toNat,mE⟩ v'):=by
  simp[fG,ho,h1,h2,Instr.storeAt,bS,storeVar,fX,fY,al,ai,storeCells,ae.1,Addr.add];rw[ah];rfl
 rw[ab];have X:∀k,k≠O->(w.setCell ⟨O,z.toNat,mE⟩ v').heap[k]? =w.heap[k]?:=λk hk=>by simp[fA,aE,lX hk]
 refine⟨⟨rfl,rfl,rfl,by simp[fA],λk hk hn=>X k λe=>hn (.inl e)⟩,(),rfl,⟨?_,by rw[i9];exact E.lc,E.ln,E.lm,E.lv,λk v l ad ak=>?_,E.dis,E.out⟩,λg hg=>?_⟩
 ·simp[fA,aE,E.blk]
 ·obtain⟨h7,h8⟩:=E.row k v l ad ak;exact⟨h7.keepB λg hg=>X g λe=>E.out k v ad (by rw[<-e];exact hg),h8⟩
 ·exact⟨.inl hg,by have:=aj g hg;simpa[fA]using this⟩
end
theorem Zq{S:Nat->Prop}(H:RowsH e O n vs vs ls w)(hO:S O)(hS:∀v∈vs,∀g,v.ownBlock=mF g->S g):tInt.slice.slice.RS w S [.slice (mF ⟨O,0,mE⟩) n n] ls:=by
 have hm:=H.lm;have Z:=H.ln;subst Z;refine⟨mF ⟨O,0,mE⟩,ls.length,rfl,lI _,⟨hm,λe=>by cases e⟩,λk l X=>⟨O,0,rfl,hO,?_⟩⟩;have hk:k < vs.length:=by rw[H.lv];exact(iL.1 X).1
 have E:=Sb (d:=undef) hk;obtain⟨h1,h2⟩:=H.row k _ l E X;refine⟨[vs.getD k undef],CY (T:=tInt) h1 (λj d Y=>?_) λg hg=>hS _ (jJ E) g hg,λj u I=>?_⟩
 ·show tInt.RS w S (((l.map (eQ .i64)).drop (j * 1)).take 1) d;have hi:(l.map (eQ .i64))[j]? =mF (.int .i64 d):=by rw[iM,Y];rfl
  rw[lQ,j6,iV,hi];exact DH.2 ⟨rfl,h2 d (jJ Y)⟩
 ·cases j with
  |zero=>
   simp only[iH,mH]at I;subst I;have e:0+k * tInt.slice.size+0=k:=by show 0+k * 1+0=k;omega
   rw[e];exact H.cell E
  |succ j=>simp at I
theorem Xp{C:Ctx}(Y:C.std){t:List AV}{h:List kA}(i j:Nat)(hi:h[i]? =mF (.res (Gm e O n vs vs ls)))(X:t[j]? =mF (.lit (.slice (mF ⟨O,0,mE⟩) n n))):kZ C ⟨t,h⟩ ⟨t.set j (.bs tInt.slice ls),h.set i .dead⟩:=
 Hs i j hi V V X (Uw Y hi V) λS ψ w v H E=>by
  unfold kK at E⊢;subst E;exact Zq (H.blk i _ hi).2 (.inr (.inl V)) λv I g hg=>.inr (.inr ⟨v,I,hg⟩)
end Mu
namespace Mu
open Go
variable{b:Nat}{f:kQ}{n:Nat}
def Acd{f:kQ}(b:Nat)(ls:List (List Int))(x:Blk f):List (List Int):=ls.set x.1 (ls.getD x.1 []++[(b:Int)])
def KQ{f:kQ}(b:Nat)(E:List (Blk f))(ls:List (List Int)):List (List Int):=E.foldl (Acd b) ls
def GR(f:kQ):Nat->List (List Int)
 |0=>jV f.blocks.length []
 |b+1=>KQ b (G9 f b) (GR f b)
theorem Abh(b:Nat)(E:List (Blk f))(x:Blk f)(ls:List (List Int)):KQ b (E++[x]) ls=Acd b (KQ b E ls) x:=by simp[KQ]
theorem Nx(b:Nat)(E:List (Blk f))(ls:List (List Int)):(KQ b E ls).length=ls.length:=by
 induction E generalizing ls with
 |nil=>rfl
 |cons x l H=>
  show(KQ b l (Acd b ls x)).length=_;rw[H];simp[Acd]
theorem F9(f:kQ)(b:Nat):(GR f b).length=f.blocks.length:=by
 induction b with
 |zero=>simp[GR]
 |succ b E=>rw[GR,Nx,E]
theorem Aqv{ls:List (List Int)}{x:Blk f}(h:∀l∈ls,l.length<=n):∀l∈Acd b ls x,l.length<=n+1:=λl E=>by
 rcases List.mem_or_eq_of_mem_set E with E|rfl
 ·have:=h l E;omega
 ·rw[iX];have:(ls.getD x.1 []).length<=n:=by
   rw[iD];cases hx:ls[x.1]? with
   |none=>simp
   |some l=>exact h l (jJ hx)
  simp;exact this
theorem SA{f:kQ}{b:Nat}{n:Nat}:∀(E:List (Blk f)) {ls:List (List Int)} (_:∀l∈ls,l.length<=n),∀l∈KQ b E ls,l.length<=n+E.length
 | [],ls,h=>by simpa[KQ]using h
 |x::E,ls,h=>λl H=>by
  have:=SA (n:=n+1) E (Aqv (x:=x) (b:=b) h) l H;simp;omega
theorem Sr(f:kQ)(b:Nat):∀l∈GR f b,l.length<=2 * b:=by
 induction b with
 |zero=>intro l E;obtain rfl:=List.eq_of_mem_replicate E;simp
 |succ b H=>
  intro l E;have:=SA (G9 f b) H l E;have:=LJ f b;omega
open Go.RowKit
variable{ι:Type}{F:ι->(Nat->Bool)->St}{k:Nat}{ops:Array cQ}
section
variable{P:cX}{C:Ctx}
def gM(P:cX)(C:Ctx){ι:Type}(F:ι->(Nat->Bool)->St)(ops:Array cQ):Nat->List cQ->Prop
 |_,[]=>True
 |k,o::rest=>(∀i b,b k=aS->Abg b o->Aha ops b->AOp P C o (F i b) λs=>∃E,kZ C s (F E (upd b k)))/\gM P C F ops (k+1) rest
theorem Anp{ι:Type}{F:ι->(Nat->Bool)->St}{ops:Array cQ}:∀{l:List cQ} {k j:Nat} {o:cQ},gM P C F ops k l->l[j]? =mF o->∀i b,b (k+j)=aS->Abg b o->Aha ops b->AOp P C o (F i b) λs=>∃H,kZ C s (F H (upd b (k+j)))
 | [],_,_,_,_,E=>by simp at E
 |o'::l,k,0,o,h,E=>by
  simp at E;subst E;exact h.1
 |o'::l,k,j+1,o,h,E=>by
  have:=Anp (l:=l) (k:=k+1) (j:=j) h.2 (by simpa using E);rwa [show k+1+j=k+(j+1)by omega]at this
theorem AQ{o:cQ}{rest:List cQ}(h1:∀i b,b k=aS->Abg b o->Aha ops b->AOp P C o (F i b) λs=>∃E,kZ C s (F E (upd b k)))(h2:gM P C F ops (k+1) rest):gM P C F ops k (o::rest):=⟨h1,h2⟩
theorem Pr:gM P C F ops k []:=trivial
theorem Y5{Q':bJ->Act->eT->Prop}(hf:Axc ops=aX)
 (hs:∀(j:Nat) (o:cQ),ops[j]? =mF o->∀(i:ι) b,b j=aS->Abg b o->Aha ops b->AOp P C o (F i b) λs=>∃i',kZ C s (F i' (upd b j)))
 (hQ:∀i a w,(F i λ_=>aX).rel C a w->Q' .normal a w):
 ∀(f:Nat) (listed:Array Bool) (a:Act) (w:eT),listed.size=ops.size->listed.toList.count aS=f->Aha ops (λj=>listed.getD j aX)->∀i,(F i λj=>listed.getD j aX).rel C a w->wpAny P .any ops Q' f listed a w:=by
 intro f;induction f with
 |zero=>
  intro listed a w ab hc ac ix H;have E:∀j,listed.getD j aX=aX:=λj=>by
   rcases lL j listed.size with h'|h'
   ·have hm:=gN.1 hc;simp only[aA,aB h',mA];rcases hx:listed[j]with _|_
    ·exact absurd (by rw[<-hx];simp) hm
    ·rfl
   ·simp[aA,aC h']
  refine⟨gW.2 λi hi=>?_,hQ ix a w ?_⟩
  ·have:=(fQ.1 hi).1;rw[E i]at this;cases this
  ·have e:(λj=>listed.getD j aX)=λ_=>aX:=funext E
   rwa [e]at H
 |succ f ih=>
  intro listed a w ab hc ac ix H;refine⟨λh0=>?_,λi hi=>?_⟩
  ·exfalso;have am:∃j,listed.getD j aX=aS:=by
    have hm:aS∈listed.toList:=gO.1 (by omega);obtain⟨j,X,he⟩:=iS hm;exact⟨j,by simp only[aH]at X;simp only[aG]at he;simp[aA,X,he]⟩
   obtain⟨j,X,ae⟩:=Gy am;have ag:j < ops.size:=by
    rcases lL j listed.size with h'|h'
    ·omega
    ·simp[aC h']at X
   have Z:j∈eC .any ops listed:=fQ.2 ⟨X,_,aB ag,λe he hb=>by
    have an:=(Sd hf (aB ag)).2 e he hb;cases hx:listed.getD e.on aS with
    |true=>rfl
    |false=>
     have al:e.on < listed.size:=by omega
     have:=ae e.on (getD_in al hx);omega⟩
   rw[h0]at Z;cases Z
  ·obtain⟨ad,o,ho,E⟩:=fQ.1 hi;have I:i < listed.size:=by rw[ab];exact(aD.1 ho).1
   obtain⟨hg,ao⟩:=Sd hf ho;have aa:Abg (λj=>listed.getD j aX) o:=λk e he hb=>Ann (E e (aJ he) hb)
   have ai:(listed.setIfInBounds i aX).toList.count aS=f:=by
    have Y:listed.toList[i]'(by simpa using I)=aS:=by
     have:=ad;simp[aA,I]at this;simpa using this
    rw[aO,gP (by simpa using I),Y,hc];simp
   unfold wpOp;simp only[ho];have hw:eE o (yielded ops a.tmps)=aX:=by unfold eE;rw[hg]
   rw[hw,if_pos V];refine .inl (cV (λa' w' ⟨s',⟨iy,ak⟩,hr⟩=>?_) (hs i o ho ix _ ad aa ac Q' a w H).2);refine ih _ a' w' (by simpa using ab) ai ?_ iy ?_
   ·rw[RE I];intro j o' X aj;by_cases ah:j=i
    ·subst ah;rw[ho]at X;cases X;exact Me aa
    ·exact Me (ac j o' X (by unfold upd at aj;rwa [if_neg ah]at aj))
   ·rw[RE I];exact ak a' w' hr
theorem Gg{id n:Nat}{l:List cQ}{Q:bJ->St->Prop}(i0:ι)(F:ι->(Nat->Bool)->St)(hn:l.length=n)(hm:P.follows .mixedOrders=aX)(hB:(eB l.toArray&&KJ l.toArray&&Axc l.toArray)=aX)
 (hs:gM P C F l.toArray 0 l)(hQ:∀i,Q .normal (F i λ_=>aX)):Awp P C (.region id l.toArray aX) Q (F i0 λj=>decide (n<=j)):=λa w H=>by
 simp only[aR]at hB;obtain⟨⟨aa,X⟩,hf⟩:=hB;refine FI hm X ?_;have e0:(λj=>(aL l.toArray.size aS).getD j aX)=λj=>decide (n<=j):=by
  funext j;simp only[aA,aF,jW,hn];by_cases h:j < n
  ·rw[if_pos h,decide_eq_false (by omega)];rfl
  ·rw[if_neg h,decide_eq_true (by omega)];rfl
 refine Y5 (Q':=λe a' w'=>e= .normal/\∃Z,Q e Z/\Z.rel C a' w') hf (λj o I i b h1 h2 h3=>?_) (λi a' w' h=>⟨rfl,_,hQ i,h⟩) _ _ a _ (by simp) (by simp) ?_ i0 ?_
 ·have:=Anp (l:=l) (k:=0) (j:=j) hs (by simpa using I) i b (by rwa [lU]) h2 h3;rwa [lU]at this
 ·intro j o I Y;have hj:j < l.toArray.size:=(aD.1 I).1;have:(aL l.toArray.size aS).getD j aX=aX:=Y;rw[aA,aF,if_pos hj]at this;cases this
 ·rw[e0];obtain⟨hd,S,ψ,E,hl⟩:=H;have Y:Below w.heap.size w {w with drawn:=w.drawn+1}:=⟨rfl,rfl,rfl,lI _,λ_ _=>rfl⟩
  exact⟨hd,S,ψ,E.grow Y (λ_ h=>h) (λ_ h=>.inl h) E.lt,Az (show Ext w S _ ψ {w with drawn:=w.drawn+1} S _ ψ from kM _ ψ (λk hk=>rfl) λ_ h=>h) _ _ hl⟩
end
open Go.Proofs
def Aeg(op:Int):M ByteArray:=kT (aZ (0<=op/\op<=255)) (kU ⟨(HC op).toArray⟩)
theorem Aef{op:Int}{r:ByteArray}(H:(Aeg op).to r):Fn dG 79 [.lit (.int .u8 op)] (.lit (.string r)):=by
 obtain⟨c,H⟩:=Aj.1 H;obtain rfl:=Ac.1 H;have c:=of_decide_eq_true c;exact Jw (by kernel_rfl) λw vs I=>by
  obtain⟨v,rfl,E⟩:=Acc I;obtain rfl:=OJ E;exact Ad9 op w c.1 c.2
def TH(s:ByteArray)(c:Int):M Bool:=kT (aZ (s.size<=65536)&&aZ (((mJ c.toNat).toNat:Int)=c)) (kU (Aw9 s (mJ c.toNat)))
theorem RN{s:ByteArray}{c:Int}{r:Bool}(H:(TH s c).to r):Fn dG 80 [.lit (.string s),.lit (.int .u8 c)] (.lit (.bool r)):=by
 obtain⟨k,H⟩:=Aj.1 H;obtain rfl:=Ac.1 H;rw[aR,decide_eq_true_eq,decide_eq_true_eq]at k;have:=k.2;generalize mJ c.toNat=d at this⊢;subst this;exact Jw (by kernel_rfl) λw vs X=>by
  obtain⟨v,u,rfl,E,I⟩:=Ayj X;obtain rfl:=OJ E;obtain rfl:=OJ I;exact(XV s d w k.1).mono λe w' ⟨h1,h2⟩=>⟨h1,by rw[<-h2];exact eI _ _⟩
def JI(x:Ins):M (List Int):=kS (Aeg x.op) λr1=>kS (kS (TH r1 97) λZ=>M.cnd Z (kT (wfB .i64 x.a) (kT (Fj (([]:List Int).length+ [x.a].length) 8) (kU (([]:List Int)++[x.a])))) (kU ([]:List Int))) λX=>kS (kS (TH r1 98) λI=>M.cnd I (kT (wfB .i64 x.b) (kT (Fj (X.length+ [x.b].length) 8) (kU (X++[x.b])))) (kU X)) λE=>kS (kS (TH r1 120) λH=>M.cnd H (kT (Fj (E.length+x.args.length) 8) (kU (E++x.args))) (kU E)) λY=>kU Y
theorem TJ{x:Ins}{r:List Int}(H:(JI x).to r):Fn dG 43 [.agg (BW x)] (.bs tInt r):=by
 delta JI at H;try dsimp only at H
 refine AR Tryz.func43 V (by kernel_rfl) V Tryz.ntmps43 λC hC=>?_
 simp only[Nat.reduceAdd,Nat.reduceSub,zaa];refine wS (sB (sT (wN ?_)));refine wS (sT (wN ?_));obtain⟨r1,k1,H⟩:=An.1 H;have k1:=Aef k1;refine wS (sT (sT (sC k1 (sT (wN ?_)))));refine AJ _ (EA 3 3 tInt V (by decide)) ?_;obtain⟨z4,au,ar⟩:=An.1 H;refine Bh (β:=((List Int))×(Nat)) (λq4=>z4=q4.1) (λq4=>⟨.any::.ptr 0 0::.any::.own 1 q4.2::.lit (.string r1)::A20 (A4 []),[.box (BW x),.row q4.2 3 tInt q4.1]⟩) ?_ ?_
 ·have H:=au;obtain⟨r5,k5,H⟩:=An.1 H;have k5:=RN k5;refine wS (sT (sC k5 (wN ?_)));refine Ah V (λad=>?_) (λad=>?_)
  ·have H:=AC ad H;obtain⟨c7,H⟩:=Aj.1 H;obtain⟨c8,H⟩:=Aj.1 H;refine wSE (sT (sT (sT ?_)));refine sA ?_ (AT.lt (xs:=[.tmp 12]) (T:=tInt) (ds:=[x.a]) V V V (by rfl) (by decide) (.cons (Fit.int c7) .nil)) (Ao Gl);refine sP c8 (sT (wN ?_));have e4:=Ac.1 H;repeat(first|refine abN ?_|refine asN ?_)
   refine Ap ⟨(_,0+1),e4.symm,?_⟩;try dsimp only
   exact AS
  ·have H:=AE ad H;refine Al ?_;have e4:=Ac.1 H;repeat(first|refine abN ?_|refine asN ?_)
   refine Ap ⟨(_,0),e4.symm,?_⟩;try dsimp only
   exact AS
 ·rintro⟨l3,v2⟩ ah;try dsimp only at ah
  have H:=ar;rw[ah]at H;try dsimp only
  obtain⟨an,al,aj⟩:=An.1 H;refine Bh (β:=((List Int))×(Nat)) (λI=>an=I.1) (λI=>⟨.any::.ptr 0 0::.any::.own 1 I.2::.lit (.string r1)::A20 (A4 []),[.box (BW x),.row I.2 3 tInt I.1]⟩) ?_ ?_
  ·have H:=al;obtain⟨ax,ac,H⟩:=An.1 H;have ac:=RN ac;refine wS (sT (sC ac (wN ?_)));refine Ah V (λY=>?_) (λY=>?_)
   ·have H:=AC Y H;obtain⟨aq,H⟩:=Aj.1 H;obtain⟨ap,H⟩:=Aj.1 H;refine wSE (sT (sT (sT ?_)));refine sA ?_ (AT.lt (xs:=[.tmp 19]) (T:=tInt) (ds:=[x.b]) V V V (by rfl) (by decide) (.cons (Fit.int aq) .nil)) (Ao (Ao JB));refine sP ap (sT (wN ?_));have ag:=Ac.1 H;repeat(first|refine abN ?_|refine asN ?_)
    refine Ap ⟨(_,v2+1),ag.symm,?_⟩;try dsimp only
    exact AS
   ·have H:=AE Y H;refine Al ?_;have ag:=Ac.1 H;repeat(first|refine abN ?_|refine asN ?_)
    refine Ap ⟨(_,v2),ag.symm,?_⟩;try dsimp only
    exact AS
  ·rintro⟨az,v9⟩ aa;try dsimp only at aa
   have H:=aj;rw[aa]at H;try dsimp only
   obtain⟨am,ak,ai⟩:=An.1 H;refine Bh (β:=((List Int))×(Nat)) (λE=>am=E.1) (λE=>⟨A3 (.own 1 E.2::A20 (A5 [])),[.dead,.row E.2 3 tInt E.1]⟩) ?_ ?_
   ·have H:=ak;obtain⟨aw,ab,H⟩:=An.1 H;have ab:=RN ab;refine wS (sT (sC ab (wN ?_)));refine Ah V (λX=>?_) (λX=>?_)
    ·have H:=AC X H;obtain⟨ao,H⟩:=Aj.1 H;refine wSE (sT (sT (sT (sP ao (sT (wN ?_))))));have ae:=Ac.1 H;repeat(first|refine abN ?_|refine asN ?_)
     refine Ap ⟨(_,v9+1),ae.symm,?_⟩;try dsimp only
     exact leC (Cut.dead (Cut.cons (Cut.nil _)))
    ·have H:=AE X H;refine Al ?_;have ae:=Ac.1 H;repeat(first|refine abN ?_|refine asN ?_)
     refine Ap ⟨(_,v9),ae.symm,?_⟩;try dsimp only
     exact leC (Cut.dead (Cut.cons (Cut.nil _)))
   ·rintro⟨ay,av⟩ Z;try dsimp only at Z
    have H:=ai;rw[Z]at H;try dsimp only
    refine wS (sT (sT (wN ?_)));obtain rfl:=Ac.1 H;exact Aw ⟨.inr V,Fin.own V⟩
theorem WF(op:Int)(c:Nat)(hc:c < 256):(TH ⟨(HC op).toArray⟩ (c:Int)).to ((HC op).contains (mJ c)):=by
 have h:=Ut op;refine Ae ?_ (Ac.2 ?_)
 ·rw[aR,decide_eq_true_eq,decide_eq_true_eq];refine⟨h,?_⟩;rw[gF,UInt8.toNat_ofNat',Nat.mod_eq_of_lt (by omega)]
 ·rw[gF];rfl
theorem Ajk{x:Ins}(I:okIns x)(hl:x.args.length<=2097152):(JI x).to (readsC x):=by
 have H:=I.op;have h0:0<=x.op/\x.op<=255:=by simpa[wfI,cE,bX,bW,bY,bU]using H
 have E:∀n,n<=2097200->Fj n 8=aX:=λn hn=>by
  unfold Fj fP;rw[aR,decide_eq_true_eq,decide_eq_true_eq];omega
 obtain⟨l1,Y⟩:∃l,l=(if(HC x.op).contains 97 then [x.a]else []):=⟨_,rfl⟩
 obtain⟨l2,X⟩:∃l,l=l1++(if(HC x.op).contains 98 then [x.b]else []):=⟨_,rfl⟩
 have n1:l1.length<=1:=by rw[Y];split <;> simp
 have n2:l2.length<=2:=by rw[X,iX];split <;> simp <;> omega
 have e3:readsC x=l2++(if(HC x.op).contains 120 then x.args else []):=by rw[X,Y];rfl
 unfold JI;refine Am (Ae (decide_eq_true h0) (Ag _)) (Am (a:=l1) (Am (WF x.op 97 (by decide)) ?_) (Am (a:=l2) (Am (WF x.op 98 (by decide)) ?_) (Am (a:=readsC x) (Am (WF x.op 120 (by decide)) ?_) (Ag _))))
 ·rw[Y];cases Z:(HC x.op).contains (mJ 97)with
  |true=>
   rw[if_pos V];exact AI V (Ae I.a (Ae V (Ag _)))
  |false=>
   rw[if_neg (by simp)];exact AA V (Ag _)
 ·rw[X];cases Z:(HC x.op).contains (mJ 98)with
  |true=>
   rw[if_pos V];exact AI V (Ae I.b (Ae (E _ (by simp;omega)) (Ag _)))
  |false=>
   rw[if_neg (by simp),gJ];exact AA V (Ag _)
 ·rw[e3];cases Z:(HC x.op).contains (mJ 120)with
  |true=>
   rw[if_pos V];exact AI V (Ae (E _ (by omega)) (Ag _))
  |false=>
   rw[if_neg (by simp),gJ];exact AA V (Ag _)
theorem Gq(x:Ins)(E:okIns x)(H:x.args.length<=2097152):Fn dG 43 [.agg (BW x)] (.bs tInt (readsC x)):=TJ (Ajk E H)
def CJ(r:Int):List Ins->Bool×Bool
 | []=>(aS,aS)
 |x::ds=>if(readsC x).contains r then(aX,aS)else if Bd x&&x.d ==r then(aS,aX)else CJ r ds
theorem V9(r:Int)(x:Ins)(ds:List Ins):CJ r (x::ds)=if(readsC x).contains r then(aX,aS)else if Bd x&&x.d ==r then(aS,aX)else CJ r ds:=rfl
theorem Aeb(r:Int)(ds:List Ins):(CJ r ds).1=rdB r ds/\((CJ r ds).1=aS->(!(CJ r ds).2)=Aij r ds):=by
 induction ds with
 |nil=>simp[CJ,rdB,Aij]
 |cons x ds E=>
  unfold CJ rdB Aij;cases h1:(readsC x).contains r
  ·cases h2:(Bd x&&x.d ==r)
   ·simpa using E
   ·simp
  ·simp
theorem TA(r:Int)(ds:List Ins)(S:Int->Bool):((CJ r ds).1||(!(CJ r ds).2&&S r))=inS ds S r:=by
 rw[Uo];obtain⟨h1,h2⟩:=Aeb r ds;rw[<-h1];cases h:(CJ r ds).1
 ·rw[<-h2 h]
 ·simp
structure smallB(b:Block):Prop where
 ins:b.ins.length<=2097152
 all:∀x∈b.ins,x.args.length+8<=2097152
structure smallF(f:Func):Prop where
 blocks:f.blocks.length<=2097152
 all:∀b∈f.blocks,smallB b
theorem KB(x:Ins):(readsC x).length<=x.args.length+2:=by
 unfold readsC;simp only[iX];split <;> split <;> split <;> simp <;> omega
theorem Mx(b:Block)(i:Nat)(r:Int)(ho:okBlock b)(hs:smallB b)(hi:i<=b.ins.length):Fn dG 102 [.agg (D1 b),.lit (.int .i64 (i:Int)),.lit (.int .i64 r)]
 (.tup [.lit (.bool (CJ r (b.ins.drop i)).1),.lit (.bool (CJ r (b.ins.drop i)).2)]):=by
 have ag:=hs.ins;refine Abv Tryz.func102 V (by kernel_rfl) V Tryz.ntmps102 λC hC=>?_
 refine nS ?_;refine rRS ?_;refine Ab λK2 h2=>?_
 refine rRS ?_;refine Ad ?_;refine AH (λk:Nat=>⟨(A2 (.lit (.int .i64 r)::.ptr 0 0::A4 (.lit (.int .i64 (k:Int))::A20 (A10 (A3 []))))),[.box (D1 b)]⟩) (λk=>k<=b.ins.length/\CJ r (b.ins.drop k)=CJ r (b.ins.drop i)) (λk=>b.ins.length - k) i ⟨hi,rfl⟩ (BV) ?_;rintro k ⟨hk,H⟩;refine Ab λK5 h5=>?_
 refine rRS ?_;refine Ah V (λY=>?_) (λY=>?_)
 ·refine Al ?_;refine h5 _ ?_;refine nT ?_;have X:k < b.ins.length:=by simpa using Y
  obtain⟨x,hx⟩:∃x,b.ins[k]? =mF x:=⟨_,iJ X⟩
  have Z:=ho.ins x (jJ hx);have ae:=hs.all x (jJ hx);have ab:b.ins.drop k=x::b.ins.drop (k+1):=by
   rw[gQ X];congr 1;rw[iJ X]at hx;injection hx
  rw[ab,V9]at H;refine Ab λK8 h8=>?_
  refine Ad ?_;refine Ab λK9 h9=>?_
  refine Ab λaj ad=>?_
  (refine kL ?_;(repeat(first|refine sQ ?_ (AT.call V (Gq x Z (by omega)) V V V)|refine sQ ?_ (AT.call V (WE (readsC x) r (by have:=KB x;omega)) V V V)|refine sQ ?_|refine AN ?_|refine Bp ?_));refine Au ?_)
  refine ad _ ?_;refine nT ?_;refine Ah V (λI=>?_) (λI=>?_)
  ·refine rRS ?_;refine Aw ?_;rw[I,if_pos V]at H;exact⟨.inr V,_,_,Fin.cl V,by rw[<-H];rfl,by rw[<-H];rfl⟩
  ·refine Al ?_;refine h9 _ ?_;refine nT ?_;rw[I,if_neg (by simp)]at H;refine Ab λai ac=>?_
   (refine kL ?_;(repeat(first|refine sQ ?_ (AT.call V (Fv x Z) V V V)|refine sQ ?_|refine AN ?_|refine Bp ?_));refine Au ?_)
   refine ac _ ?_;refine nT ?_;refine Ab λah aa=>?_
   rcases hw:Bd x with _|_
   ·rw[hw]at H;refine rR ?_;refine aa _ ?_;refine nT ?_;refine Ah V (λE=>by cases E) (λE=>?_);refine Al ?_;refine h8 _ ?_;refine nT ?_;refine rR ?_;refine Ap ⟨k+1,⟨by omega,by simpa using H⟩,by omega,BV⟩
   ·rw[hw]at H;refine rR ?_;refine aa _ ?_;refine nT ?_;refine Ah V (λE=>?_) (λE=>?_)
    ·refine rRS ?_;refine Aw ?_;rw[aY,if_pos (by simpa using E)]at H;exact⟨.inr V,_,_,Fin.cl V,by rw[<-H];rfl,by rw[<-H];rfl⟩
    ·refine Al ?_;refine h8 _ ?_;refine nT ?_;refine rR ?_;refine Ap ⟨k+1,⟨by omega,by rw[aY,if_neg (by simpa using E)]at H;exact H⟩,by omega,BV⟩
 ·refine Ay ?_;refine h2 _ ?_;refine nT ?_;have:k=b.ins.length:=by
   have:¬k < b.ins.length:=by simpa using Y
   omega
  subst this;rw[List.drop_length]at H;refine rRS ?_;refine Aw ?_;exact⟨.inr V,_,_,Fin.cl V,by rw[<-H];rfl,by rw[<-H];rfl⟩
open Go.Shelf
variable{b:Int}{f:kQ}
attribute [local go_sem] cR
instance Asx:AG dG 199 aX 2:=⟨by kernel_rfl⟩
instance Asw:SZ dG 199 2:=⟨by kernel_rfl⟩
instance Asv:AG dG 66 aS 1:=⟨by kernel_rfl⟩
instance Asu:SZ dG 66 1:=⟨by kernel_rfl⟩
instance Ast:ES dG 66 1:=⟨by kernel_rfl⟩
instance Ass:AG dG 27 aS 1:=⟨by kernel_rfl⟩
instance Asr:SZ dG 27 1:=⟨by kernel_rfl⟩
instance Apt:RT dG 27 3 1 8:=⟨by kernel_rfl⟩
instance Aps:AG dG 3 aS 1:=⟨by kernel_rfl⟩
instance Apr:SZ dG 3 1:=⟨by kernel_rfl⟩
instance Apq:ZC dG 199 [.int .i64 0,.int .i64 0]:=⟨by kernel_rfl⟩
instance App:ZC dG 27 [.slice mE 0 0]:=⟨by kernel_rfl⟩
instance Apo:ZC dG 66 [.slice mE 0 0]:=⟨by kernel_rfl⟩
instance Apn:ZC dG 3 [.int .i64 0]:=⟨by kernel_rfl⟩
def goF(p:Nat×Nat):eO:=.func (.func 182) #[] #[.pointer (mF ⟨p.2,0,mE⟩),.pointer (mF ⟨p.1,0,mE⟩)]
def goR(f:kQ)(b:Int)(p:Nat×Nat):Res:=(Be p.1 (Ak f)).and (Be p.2 [.lit (.int .i64 b)])
def goE(f:kQ)(b:Int)(k:Nat):List AV:=[.lit (.int .i64 ((nextL f b).getD k 0))]
theorem Yr(f:kQ)(b:Int):M5 dG 167 [.agg (Ak f),.lit (.int .i64 b)] (goR f b) goF:=by
 refine⟨by kernel_rfl,λw S vs hS hr=>?_⟩;obtain⟨v,u,rfl,hv,hu⟩:=Ayj hr;obtain rfl:=OJ hu;obtain⟨cs,rfl,hc⟩:=IV hv;refine(fE (n:=4)).1 (fC Tryz.func167 V trivial ?_ V);match cs,By hc with
 | [a0,a1,a2,a3],_=>
 simp only[Tryz.ntmps167,Nat.reduceAdd,Nat.reduceSub,zae]
 gi_wp2
 go_ret
 have hb:Below w.heap.size w ((w.alloc (.cells #[a0,a1,a2,a3] 24)).alloc (.cells #[.int .i64 b] 3)):=((eI _ w).alloc (lI _) _).alloc (by simp) _;have h2:=fK (w.alloc (.cells #[a0,a1,a2,a3] 24)) (.cells #[.int .i64 b] 3);rw[fB]at h2;refine⟨_,rfl,⟨hb.os,hb.tape,hb.output,hb.size,λk hk _=>hb.block k hk⟩,(w.heap.size,w.heap.size+1),rfl,⟨⟨[a0,a1,a2,a3],24,(eH _ _ _ (by simp)).trans (fK w _),Az (kM [] ψ0 (λk hk=>hb.block k (hS k hk)) λ_ h=>h) _ _ hc⟩,⟨[.int .i64 b],3,h2,by unfold Af Af kK;exact⟨_,_,rfl,rfl,rfl⟩⟩,λg e1 e2=>?_⟩,λk hk=>?_⟩
 ·have e1:g=w.heap.size:=e1;have e2:g=w.heap.size+1:=e2;omega
 ·have hk:k=w.heap.size\/k=w.heap.size+1:=hk;simp only[fB];exact⟨.inr (by omega),by omega⟩
theorem ZQ(h:((aZ (b < 0)||decide (b≥(f.blocks.length:Int)))||(((ixD f.blocks b).ins.length:Int) ==0))=aX):nextL f b= []:=by
 by_cases E:0<=b/\b < f.blocks.length
 ·obtain⟨k,rfl⟩:=gE E.1;have hk:=BS (BP.2 ⟨E.1,(by omega:((k:Int)).toNat < f.blocks.length)⟩);rw[gF]at hk;rw[RV hk];refine Ub (gX ?_);simp only[beq_iff_eq,zar]at h;omega
 ·exact T9 E
theorem ZP(E:Ch f.blocks b=aX)(hi:Ch (ixD f.blocks b).ins (((ixD f.blocks b).ins.length:Int) - 1)=aX):nextL f b=(HV (ixD (ixD f.blocks b).ins (((ixD f.blocks b).ins.length:Int) - 1))).filter (inB f):=by
 obtain⟨h0,h1⟩:=BP.1 E;obtain⟨k,rfl⟩:=gE h0;have hk:=BS E;rw[gF]at hk;rw[RV hk];unfold RW;have:=BS hi;rw[List.getLast?_eq_getElem?,show(ixD f.blocks (k:Int)).ins.length - 1=(((ixD f.blocks (k:Int)).ins.length:Int) - 1).toNat by omega,this];exact UJ f _
def Aa1(f:kQ)(W:List Int)(k:Nat):Nat:=((W.take k).filter (inB f)).length
theorem Ag8{W:List Int}{k:Nat}{v:Int}(h:W[k]? =mF v):Aa1 f W (k+1)=Aa1 f W k+(if inB f v then 1 else 0)/\(inB f v=aX->(W.filter (inB f))[Aa1 f W k]? =mF v):=by
 have e:W=W.take k++v::W.drop (k+1):=by
  obtain⟨h2,H⟩:=iL.1 h;rw[<-H,List.getElem_cons_drop,jZ]
 refine⟨?_,λE=>?_⟩
 ·unfold Aa1;rw[jY,h,g8,iX,mI,g9];split <;> rfl
 ·unfold Aa1
  conv=>lhs;rw[e]
  rw[g8,g9,if_pos E,iF (by rw[<-e];exact lI _),<-e,lS];rfl
theorem Uv(f:kQ)(b:Int)(hl:f.blocks.length<=2097152)(hi:∀b∈f.blocks,b.ins.length<=2097152)(p:Nat×Nat):
 Ah3 dG 182 [.pointer (mF ⟨p.2,0,mE⟩),.pointer (mF ⟨p.1,0,mE⟩)] (goR f b p) (goE f b) (nextL f b).length:=by
 refine ND Tryz.func182 V (by kernel_rfl) V Tryz.ntmps182 V λC ao ι l Jr hm hY q0=>?_
 simp only[jB,jC,Nat.reduceAdd,Nat.reduceSub,zaa];refine AJ _ (EM 1 V) ?_;refine nT ?_;have ag:∀(k:Nat) (q:ι) (l:List kA),mkD l= []->mkD (.res (Jr k q)::l)= []:=λk q l h=>by
  unfold mkD;rw[h];show(Jr k q).mrk.map J9= [];rw[hm];rfl
 have ac:nextL f b= []->∀(q:ι) (t:List AV) (l:List kA),mkD l= []->Aq0 (Jr (nextL f b).length) .ret ⟨t,.res (Jr 0 q)::l⟩:=λh q t l hl=>by
  rw[h];exact⟨.inr V,q,rfl,ag _ _ _ hl⟩
 have c2:(!(!(aZ (b < 0)||decide (b≥(f.blocks.length:Int))))||Ch f.blocks b)=aX:=by
  unfold Ch;simp;omega
 refine Ab λK1 h1=>?_
 refine wS (sT (sT (sT ?_)));refine sGf V ?_;refine sGf V ?_;refine sGf V ?_;refine sGf V ?_;refine sGf V (sT (sT ?_));refine sGf V ?_;refine sGf V ?_;refine sGf V ?_;refine Azr V (by rw[Bool.not_not];simpa using c2) ?_;refine sGf V ?_;refine sGf V ?_;refine sGf V ?_;refine sGf V (sT (wN ?_));refine Ah V (λab=>?_) (λab=>?_)
 ·exact Aw (ac (ZQ ab) q0 _ _ V)
 refine Al (h1 _ ?_);have ad:Ch f.blocks b=aX:=by
  unfold Ch;simp only[aV,decide_eq_false_iff_not]at ab;simp only[zaf];omega
 have ar:=hi _ (jJ (BS ad));have au:1<=(ixD f.blocks b).ins.length:=by
  simp only[aV,beq_eq_false_iff_ne]at ab;omega
 have am:bV.wrap (((ixD f.blocks b).ins.length:Int) - 1)=((ixD f.blocks b).ins.length:Int) - 1:=bZ _ (by omega);have c5:Ch (ixD f.blocks b).ins (((ixD f.blocks b).ins.length:Int) - 1)=aX:=BP.2 ⟨by omega,by omega⟩;have X:=ZP ad c5;refine wS (sT (sT (sT (sX ad (sT (sT (sT (wN ?_))))))));refine wS (sT (sT (sT (sT ?_))));rw[am];refine sX c5 (sT (sA0 (sW (wN ?_))));obtain⟨x,hx⟩:∃x,x=ixD (ixD f.blocks b).ins (((ixD f.blocks b).ins.length:Int) - 1):=⟨_,rfl⟩
 rw[<-hx]at X⊢;refine wS (sT (sT ?_));refine sA ?_ (Ru (rs:=[.lit (.int .i64 x.l1),.lit (.int .i64 (-1))]) V V V V V);refine sA0 (sW (wN ?_));refine Bh (β:=Int) (λH=>HV x= [x.l1,H]) (λH=>⟨(.lit (.func (.yield l) #[] #[])::.any::.lit (.pointer (mF ⟨p.1,0,mE⟩))::A3 (.ptr 4 0::A40 (A20 (A10 (A9 []))))),[.res (Jr 0 q0),.res (Be p.1 (Ak f)),.res (Be p.2 [.lit (.int .i64 b)]),.box (BW x),.box [.lit (.int .i64 x.l1),.lit (.int .i64 H)]]⟩) ?_ ?_
 ·refine Ad ?_;refine wS (sT (sT (sT (sT ?_))));refine sGt V ?_;refine sGt V ?_;refine sGt V ?_;refine sGt V ?_;refine sGt V (sT (sT (wN ?_)));refine Ah V (λI=>?_) (λI=>?_)
  ·refine wSE (sT (sT ?_));refine sA ?_ (Im (k:=1) V V V V V (by decide));refine sW (wN ?_);repeat(first|refine abN ?_|refine asN ?_)
   refine Ap ⟨x.l2,?_,AS⟩;simp only[aR,beq_iff_eq,bne_iff_ne]at I;unfold HV;rw[if_pos I.1,if_neg I.2]
  ·refine wS (sT (sT (sT (sT ?_))));refine sGt V ?_;refine sGt V ?_;refine sGt V (sT (sT (wN ?_)));have hw:x.op=9/\x.l2=x.l1\/x.op≠9:=by
    simp only[aP,beq_eq_false_iff_ne,bne_eq_false_iff_eq]at I;omega
   refine Ah V (λE=>?_) (λE=>?_)
   ·refine Aw (ac ?_ q0 _ _ V);simp only[aR,bne_iff_ne]at E;rw[X];unfold HV;rw[if_neg E.1,if_neg E.2];rfl
   ·refine Al ?_;repeat(first|refine abN ?_|refine asN ?_)
    refine Ap ⟨-1,?_,AS⟩;simp only[aP,bne_eq_false_iff_eq]at E;unfold HV;rcases hw with hw|hw
    ·rw[if_pos hw.1,if_pos hw.2]
    ·rw[if_neg hw,if_pos (E.resolve_left hw)]
 intro H hw;try dsimp only
 rw[hw]at X;refine wS (sT (sT (wN ?_)));refine Ad ?_;refine AH (λr:Nat×ι=>⟨(.lit (.func (.yield l) #[] #[])::.any::.lit (.pointer (mF ⟨p.1,0,mE⟩))::A40 (A20 (A3 (.agg [.lit (.int .i64 x.l1),.lit (.int .i64 H)]::.lit (.int .i64 (r.1:Int))::A10 (A8 []))))),[.res (Jr (Aa1 f [x.l1,H] r.1) r.2),.res (Be p.1 (Ak f)),.res (Be p.2 [.lit (.int .i64 b)])]⟩) (λr=>r.1<=2) (λr=>2 - r.1) (0,q0) (lV _) (Kh (.cons (.cons (.cons (Cut.nil _))))) ?_;rintro⟨k,q⟩ hk;have hk:k<=2:=hk;try dsimp only
 refine wS (sT (wN ?_));refine Ab λax aq=>?_
 refine Ah V (λY=>?_) (λY=>?_)
 ·have Z:k < 2:=by have:=of_decide_eq_true Y;omega
  obtain⟨v,hv⟩:∃v,[x.l1,H][k]? =mF v:=⟨_,iJ Z⟩
  obtain⟨ai,ah⟩:=Ag8 (f:=f) hv;have hz:Ch [x.l1,H] (k:Int)=aX:=BP.2 ⟨by omega,by rw[gF];exact Z⟩;have an:ixD [x.l1,H] (k:Int)=v:=by
   have:=BS hz;rw[gF,hv]at this;exact(mG this).symm
  have ae:bV.wrap ((k:Int)+1)=((k+1:Nat):Int):=by rw[bZ _ (by omega)];rfl
  refine Al (aq _ ?_);refine Ab λaw al=>?_
  refine Ad ?_;refine wS ?_;refine sA ?_ (Abq (ds:=[x.l1,H]) (k:=.i64) V V V V V V hz);rw[an];refine sT (wN ?_);refine wY 10 λav ak=>?_
  refine sT (sT (sT ?_));refine sGt V ?_;refine sGt V ?_;refine sGt V ?_;refine sGt V ?_;refine sGt V (sT (sT (wN ?_)));rw[show(aZ (v≥0)&&aZ (v < (f.blocks.length:Int)))=inB f v from V];cases aa:inB f v with
  |false=>
   have hc:Aa1 f [x.l1,H] (k+1)=Aa1 f [x.l1,H] k:=by rw[ai,aa];rfl
   refine yS (AN (hk:=wN ?_));refine yS (AN (hk:=wN ?_));refine yS (AN (hk:=wN ?_));refine yS (AN (hk:=wN ?_));refine yS (sA (hq:=AT.pick V V V) (hk:=wN ?_));refine Gc (ak _ ?_);refine Ah V (λhb=>by cases hb) (λ_=>?_);refine Al (al _ ?_);refine wSE (sT ?_);rw[ae];refine sT (wN ?_);refine Ap ⟨(k+1,q),Z,by show 2 - (k+1) < 2 - k;omega,?_⟩;dsimp only;rw[hc];exact AS
  |true=>
   have hc:Aa1 f [x.l1,H] (k+1)=Aa1 f [x.l1,H] k+1:=by rw[ai,aa];rfl
   have aj:=hY (Aa1 f [x.l1,H] k) q (by rw[X];exact(iL.1 (ah aa)).1);have ap:goE f b (Aa1 f [x.l1,H] k)= [.lit (.int .i64 v)]:=by
    unfold goE;rw[X,iD,ah aa];rfl
   rw[ap]at aj;refine yS (sA (hq:=AT.move V V) (hk:=wN ?_));refine yS (sA (hq:=AT.move V V) (hk:=wN ?_));refine PQ V (Axx.yield (i:=0) ao V (λp=>by rw[hm,hm]) V V V V aj λq'=>?_);refine Df (by(try simp only[Bn,zac]);exact V) (by(try simp only[Nat.reduceAdd,zab]);exact V) ?_;refine yS (sA (hq:=Cm V V) (hk:=wN ?_));refine yS (sA (hq:=AT.pick V V V) (hk:=wN ?_));refine Gc (ak _ ?_);refine Ah V (λhb=>by cases hb) (λ_=>?_);refine Al (al _ ?_);refine wSE (sT ?_);rw[ae];refine sT (wN ?_);refine Ap ⟨(k+1,q'),Z,by show 2 - (k+1) < 2 - k;omega,?_⟩;dsimp only;rw[hc];exact AS
 ·obtain rfl:k=2:=by have:=of_decide_eq_false Y;omega
  refine Ay ?_;rw[show(nextL f b).length=Aa1 f [x.l1,H] 2 by rw[X];rfl];exact⟨.inl V,q,rfl,ag _ _ _ V⟩
theorem Aj6(E:f.blocks.length<=2097152)(b:Int):Bg (nextL f b):=by
 intro x hx;unfold nextL at hx;obtain⟨y,_,rfl⟩:=jH.1 hx;have:=y.2;simp[wfI,cE,bX,bW,bY,bU,Fm];omega
theorem Ua(f:kQ)(b:Int):(nextL f b).length<=2:=by
 unfold nextL;rw[i6];exact LJ f b
theorem UC(f:kQ)(b:Int)(ho:okFunc f)(Z:f.blocks.length<=2097152)(hi:∀b∈f.blocks,b.ins.length<=2097152):Fn dG 190 [.agg (Ak f),.lit (.int .i64 b)] (.bs tInt (nextL f b)):=by
 refine FM Tryz.func190 V (by kernel_rfl) V Tryz.ntmps190 λC hC I=>?_
 refine nS ?_;refine wS (sB (sT (wN ?_)));refine wS (sA0 (wN ?_));refine Ab λK3 h3=>?_
 refine wRK λK4 h4=>sT (sT ?_)
 refine AF V (Cp V (Yr f b) (λ_=>rfl) V V λp=>?_);refine sNt (hk:=Au (h4 _ ?_));refine Bt 2 V V V (λg=>(A5 (.lit (.pointer (mF ⟨g,0,mE⟩))::A3 (.lit (goF p)::A6 [])))) (λg=>(by(repeat(first|exact kX|refine kY ?_|refine kV ?_|refine kW V ?_)))) λg=>?_
 refine AJ _ (J0 3 tInt (by decide)) ?_;refine nT ?_;refine Ad ?_;refine Hy (J:=eO) 3 0 (λk v=>[.dead,.dead,.res (Be g [.lit v]),.dead,.res (rowR v 3 tInt ((nextL f b).take k))]) (.slice mE 0 0) I V (by decide) V V V ?_ V (λ_ _=>rfl) (λ_ _=>rfl) V (λk _ _ ⟨_,h,_⟩=>h▸⟨rfl,rfl⟩) (Uv f b Z hi p) ?_ ?_
 ·exact⟨.dead (.dead (.cons (.dead (.cons (.nil _))))),λb hb=>gG.1 (show bdH [.dead,.dead,.res (Be g [.lit (.slice mE 0 0)]),.dead,.res (rowR (.slice mE 0 0) 3 tInt [])]=aX from V) b hb⟩
 ·rintro k v _ _ ⟨hk,rfl,rfl⟩ C' aa;obtain⟨x,hx⟩:∃x,(nextL f b)[k]? =mF x:=⟨_,iJ hk⟩
  have E:wfI .i64 x:=Aj6 Z b x (jJ hx);have X:goE f b k= [.lit (.int .i64 x)]:=by
   unfold goE;rw[iD,hx];rfl
  have H:(nextL f b).take (k+1)=(nextL f b).take k++[x]:=by rw[jY,hx];rfl
  have Y:((nextL f b).take k).length<=2:=lJ (by rw[jA];omega) (Ua f b);rw[X,H];refine CX (t':=(A5 (.lit (.pointer (mF ⟨g,0,mE⟩))::A3 (.lit (goF p)::.lit (.int .i64 x)::A5 [])))) (h':=[.dead,.dead,.res (Be g [.lit v]),.dead,.res (rowR v 3 tInt ((nextL f b).take k))]) V V ?_;refine wSE (sT (wN ?_));refine Ap λC2 ab=>?_
  refine Ad ?_;refine Ay9 λK hK=>sT (sT ?_)
  refine sA ?_ (Ce (T:=tInt) V V V (by rfl) (by decide) (Fit.int E));refine AF V (Qc (i:=4) V (by kernel_rfl) V V V JN (by show _+1<=_;unfold fP;omega) (by show(_+1) * 8<=_;omega) λv'=>?_);refine sNt ?_;refine AF V (Ip (i:=2) (new:=[.lit v']) V V V (P0.one (Mh (i:=4) V)) V V (Nat.le_of_ble_eq_true V) ?_);refine sNt (hk:=Au (hK _ ?_));exact⟨rfl,v',⟨.cons (.cons (.cons (.cons (.cons (.nil _))))),λc hc=>gG.1 (show bdH [.dead,.dead,.res (Be g [.lit v']),.dead,.res (rowR v' 3 tInt ((nextL f b).take k++[x]))]=aX from V) c hc⟩⟩
 ·rintro kN rfl v D;rw[j5];refine h3 _ ?_;refine CX (t':=(A5 (.lit (.pointer (mF ⟨g,0,mE⟩))::A3 (.lit (goF p)::A6 [])))) (h':=[.res (Bl [D]),.dead,.res (Be g [.lit v]),.dead,.res (rowR v 3 tInt (nextL f b))]) V V ?_;refine wS (sT (sT (wN ?_)));refine AJ _ (Ii 4 (ver:=0) (t':=(A4 (.own 4 0::A10 [.any]))) V V (by(try simp only[Bn,zac]);(repeat(first|exact Cls.nil|refine Cls.own ?_|refine Cls.any ?_|refine Cls.keep V ?_)))) ?_;exact Aw ⟨.inr V,[D],rfl,rfl,Fin.own V⟩
theorem Cs(f:kQ)(ho:okFunc f)(hs:smallF f):Fn dG 154 [.agg (Ak f)] (.bs tInt.slice (GR f f.blocks.length)):=by
 have hl:=hs.blocks;have hi:∀b∈f.blocks,b.ins.length<=2097152:=λb I=>(hs.all b I).ins
 refine FM Tryz.func154 V (by kernel_rfl) V Tryz.ntmps154 λC hC aj=>?_
 refine nS ?_;refine wS (sB (sT (wN ?_)));refine Bt 1 V V V (λH=>(.any::.lit (.pointer (mF ⟨H,0,mE⟩))::.lit (.slice mE 0 0)::A20 (A9 []))) (λg=>(by(repeat(first|exact kX|refine kY ?_|refine kV ?_|refine kW V ?_)))) λH=>?_
 refine nT ?_;refine wRK λK2 h2=>sT (sT (sT ?_))
 refine AF V (Xy (e:=27) (bytes:=24) V (by kernel_rfl) V V (by unfold VO fP;simp;omega) λO=>?_);refine sNt ?_;refine sA0 (sW (wN (h2 _ ?_)));refine Bt 3 V V V (λE=>(.any::.lit (.pointer (mF ⟨H,0,mE⟩))::.any::.lit (.pointer (mF ⟨E,0,mE⟩))::A20 (A8 []))) (λg=>(by(repeat(first|exact kX|refine kY ?_|refine kV ?_|refine kW V ?_)))) λE=>?_
 refine nT ?_;refine Ab λK3 h3=>?_
 refine wS (sT (sT (sT (sT (wN ?_)))));refine Ad ?_;refine AH (λr:Nat×List Nat×List eO=>⟨(.any::.lit (.pointer (mF ⟨H,0,mE⟩))::.any::.lit (.pointer (mF ⟨E,0,mE⟩))::A8 (.lit (.int .i64 (f.blocks.length:Int))::.lit (.int .i64 (r.1:Int))::A10 (A8 []))),[.res (Bl r.2.1),.res (Be H (Ak f)),.res (Gm 27 O f.blocks.length r.2.2 r.2.2 (GR f r.1)),.res (Be E [.lit (.slice (mF ⟨O,0,mE⟩) f.blocks.length f.blocks.length)])]⟩) (λr=>r.1<=f.blocks.length) (λr=>f.blocks.length - r.1) (0,[],jV f.blocks.length (.slice mE 0 0)) (lV _) AS ?_;rintro⟨n,ds,vs⟩ I;have I:n<=f.blocks.length:=I;try dsimp only
 refine wS (sT (wN ?_));refine Ab λK7 h7=>?_
 refine Ah V (λac=>?_) (λac=>?_)
 ·have ak:n < f.blocks.length:=by have:=of_decide_eq_true ac;omega
  have an:wfI .i64 (n:Int):=by
   simp[wfI,cE,bX,bW,bY,bU];omega
  have ah:bV.wrap ((n:Int)+1)=((n+1:Nat):Int):=by rw[bZ _ (by omega)];rfl
  refine Al (h7 _ ?_);refine Ab λK9 h9=>?_
  refine Ad ?_;refine wS (sT (sA0 (sW (wN ?_))));refine Bt 4 V V V (λY=>(.any::.lit (.pointer (mF ⟨H,0,mE⟩))::.any::.lit (.pointer (mF ⟨E,0,mE⟩))::.lit (.pointer (mF ⟨Y,0,mE⟩))::A7 (.lit (.int .i64 (f.blocks.length:Int))::.lit (.int .i64 (n:Int))::A10 (A8 [])))) (λg=>(by(repeat(first|exact kX|refine kY ?_|refine kV ?_|refine kW V ?_)))) λY=>?_
  refine nT ?_;refine wRK λav ap=>?_
  refine sA (hq:=BX (i:=1) V V V V V) (hk:=sT ?_);refine AF V (Cp V (Yr f n) (λ_=>rfl) V V λp=>?_);refine sNt (hk:=Au (ap _ ?_));refine Ad ?_;refine AJ ⟨(.any::.lit (.pointer (mF ⟨H,0,mE⟩))::.any::.lit (.pointer (mF ⟨E,0,mE⟩))::.lit (.pointer (mF ⟨Y,0,mE⟩))::A7 (.lit (.int .i64 (f.blocks.length:Int))::.lit (.int .i64 (n:Int))::A4 (.lit (goF p)::A10 (A3 [])))),[.res (Bl ds),.res (Be H (Ak f)),.res (Gm 27 O f.blocks.length vs vs (GR f n)),.res (Be E [.lit (.slice (mF ⟨O,0,mE⟩) f.blocks.length f.blocks.length)]),.res (Be Y [.lit (.int .i64 (n:Int))]),.res (goR f n p)]⟩ AS ?_;refine Hy (J:=List eO) 5 0 (λk vs=>[.dead,.res (Be H (Ak f)),.res (Gm 27 O f.blocks.length vs vs (KQ n ((G9 f n).take k) (GR f n))),.res (Be E [.lit (.slice (mF ⟨O,0,mE⟩) f.blocks.length f.blocks.length)]),.res (Be Y [.lit (.int .i64 (n:Int))]),.dead]) vs aj V (by decide) V V V ?_ V (λ_ _=>rfl) (λ_ _=>rfl) V (λk _ _ ⟨_,h,_⟩=>h▸⟨rfl,rfl⟩) (Uv f n hl hi p) ?_ ?_
  ·exact⟨.dead (.cons (.cons (.cons (.cons (.dead (.nil _)))))),λb' ad=>gG.1 (show bdH [.dead,.res (Be H (Ak f)),.res (Gm 27 O f.blocks.length vs vs (GR f n)),.res (Be E [.lit (.slice (mF ⟨O,0,mE⟩) f.blocks.length f.blocks.length)]),.res (Be Y [.lit (.int .i64 (n:Int))]),.dead]=aX from V) b' ad⟩
  ·rintro k vs _ _ ⟨hk,rfl,rfl⟩ C' ar;obtain⟨x,hx⟩:∃x,(G9 f n)[k]? =mF x:=⟨_,iJ (by unfold nextL at hk;rwa [i6]at hk)⟩
   have am:goE f n k= [.lit (.int .i64 (Fm x))]:=by
    unfold goE nextL;rw[iD,iM,hx];rfl
   have ai:KQ n ((G9 f n).take (k+1)) (GR f n)=Acd n (KQ n ((G9 f n).take k) (GR f n)) x:=by rw[jY,hx];exact Abh _ _ _ _
   rw[am,ai];obtain⟨ls,ab⟩:∃ls,ls=KQ n ((G9 f n).take k) (GR f n):=⟨_,rfl⟩
   have al:ls.length=f.blocks.length:=by rw[ab,Nx,F9]
   have aq:=x.2;have hz:inZ f.blocks.length (Fm x)=aX:=by
    unfold inZ Fm;simp;exact x.2
   have Z:Ch ls (Fm x)=aX:=BP.2 ⟨by unfold Fm;omega,by rw[al];unfold Fm;omega⟩;have ao:Fj ((ixD ls (Fm x)).length+ [(n:Int)].length) 8=aX:=by
    have h1:=SA ((G9 f n).take k) (Sr f n) _ (by rw[<-ab];exact jJ (BS Z));have h2:((G9 f n).take k).length<=2:=lJ (by rw[jA];omega) (LJ f n);unfold Fj fP;simp only[zaf,zah];omega
   rw[<-ab];refine CX (t':=(.any::.lit (.pointer (mF ⟨H,0,mE⟩))::.any::.lit (.pointer (mF ⟨E,0,mE⟩))::.lit (.pointer (mF ⟨Y,0,mE⟩))::A7 (.lit (.int .i64 (f.blocks.length:Int))::.lit (.int .i64 (n:Int))::A4 (.lit (goF p)::.lit (.int .i64 (Fm x))::A10 (A2 []))))) (h':=[.dead,.res (Be H (Ak f)),.res (Gm 27 O f.blocks.length vs vs ls),.res (Be E [.lit (.slice (mF ⟨O,0,mE⟩) f.blocks.length f.blocks.length)]),.res (Be Y [.lit (.int .i64 (n:Int))]),.dead]) V V ?_;refine wSE (sT (wN ?_));refine Ap λC2 au=>?_
   refine Ad ?_;have ag:Ch (ls.set (Fm x).toNat (ixD ls (Fm x)++[(n:Int)])) (Fm x)=aX:=BP.2 ⟨(BP.1 Z).1,by rw[i9];exact(BP.1 Z).2⟩;refine AJ ⟨[.any,.lit (.pointer (mF ⟨H,0,mE⟩)),.any,.lit (.pointer (mF ⟨E,0,mE⟩)),.lit (.pointer (mF ⟨Y,0,mE⟩)),.lit (.int .i64 (Fm x)),.any,.any,.any,.any,.any,.any,.lit (.int .i64 (f.blocks.length:Int)),.lit (.int .i64 (n:Int)),.any,.any,.any,.any,.lit (goF p),.lit (.int .i64 (Fm x)),.any,.any,.any,.any,.any,.any,.any,.any,.any,.any,.any,.any],[.dead,.res (Be H (Ak f)),.res (Gm 27 O f.blocks.length vs vs ls),.res (Be E [.lit (.slice (mF ⟨O,0,mE⟩) f.blocks.length f.blocks.length)]),.res (Be Y [.lit (.int .i64 (n:Int))]),.dead]⟩ AS ?_;refine Gg (n:=11) undef (λ(i:eO) (b:Nat->Bool)=>⟨[.any,.lit (.pointer (mF ⟨H,0,mE⟩)),.any,.lit (.pointer (mF ⟨E,0,mE⟩)),.lit (.pointer (mF ⟨Y,0,mE⟩)),.lit (.int .i64 (Fm x)),.any,.any,.any,.any,.any,.any,.lit (.int .i64 (f.blocks.length:Int)),.lit (.int .i64 (n:Int)),.any,.any,.any,.any,.lit (goF p),.lit (.int .i64 (Fm x)),(bif b 0 then .lit (.slice (mF ⟨O,0,mE⟩) f.blocks.length f.blocks.length)else .any),(bif b 1 then .lit (.int .i64 (Fm x))else .any),(bif b 2 then .lit (.slice (mF ⟨O,0,mE⟩) f.blocks.length f.blocks.length)else .any),(bif b 3 then .lit (.int .i64 (Fm x))else .any),(bif b 4 then .lit (.pointer (mF ⟨O,(Fm x).toNat,mE⟩))else .any),(bif b 5 then .lit (vs.getD (Fm x).toNat undef)else .any),(bif b 6 then .lit (.int .i64 (n:Int))else .any),(bif b 7 then .bs tInt [(n:Int)]else .any),(bif b 8 then .lit i else .any),(bif b 9 then .lit (.pointer (mF ⟨O,(Fm x).toNat,mE⟩))else .any),.any,.any],[.dead,.res (Be H (Ak f)),(bif b 10 then(kD (Gm 27 O f.blocks.length (vs.set (Fm x).toNat i) (vs.set (Fm x).toNat i) (ls.set (Fm x).toNat (ixD ls (Fm x)++[(n:Int)]))))else(bif b 8 then(kD (Gm 27 O f.blocks.length vs (vs.set (Fm x).toNat i) (ls.set (Fm x).toNat (ixD ls (Fm x)++[(n:Int)]))))else .res (Gm 27 O f.blocks.length vs vs ls))),.res (Be E [.lit (.slice (mF ⟨O,0,mE⟩) f.blocks.length f.blocks.length)]),.res (Be Y [.lit (.int .i64 (n:Int))]),.dead]⟩) ?_ ?_ ?_ ?_ ?_
   ·rfl
   ·kernel_rfl
   ·kernel_rfl
   ·refine AQ (λi b I X hc=>?_) ?_
    ·try dsimp only
     refine AY (AX (i:=3) (g:=E) V FF V V V) ?_;exact⟨i,lA⟩
    refine AQ (λi b I X hc=>?_) ?_
    ·try dsimp only
     refine AY (AT.move V Fr) ?_;exact⟨i,lA⟩
    refine AQ (λi b I X hc=>?_) ?_
    ·try dsimp only
     refine AY (AX (i:=3) (g:=E) V FF V V V) ?_;exact⟨i,lA⟩
    refine AQ (λi b I X hc=>?_) ?_
    ·try dsimp only
     refine AY (AT.move V Fr) ?_;exact⟨i,lA⟩
    refine AQ (λi b I X hc=>?_) ?_
    ·have h2:b 2=aX:=X 0 _ V V;have h3:b 3=aX:=X 1 _ V V;try dsimp only
     refine AY (NA V ((Aq (Aq Iu)).trans (BG h2 _ _)) ((Aq (Aq GB)).trans (BG h3 _ _)) hz) ?_;exact⟨i,lA⟩
    refine AQ (λi b I X hc=>?_) ?_
    ·have h4:b 4=aX:=X 0 _ V V;have aa:b 10=aS:=AW hc (i:=5) (j:=10) (k:=8) V V V V I;have h8:b 8=aS:=AW hc (i:=5) (j:=8) (k:=0) V V V V I;try dsimp only
     refine AY (SG (i:=2) V ((Aq (Aq (Aq Je))).trans (BG h4 _ _)) (congrArg mF ((CO aa _ _).trans (CO h8 _ _))) Z) ?_;exact⟨i,lA⟩
    refine AQ (λi b I X hc=>?_) ?_
    ·try dsimp only
     refine AY (AX (i:=4) (g:=Y) V Hg V V V) ?_;exact⟨i,lA⟩
    refine AQ (λi b I X hc=>?_) ?_
    ·have h6:b 6=aX:=X 0 _ V V;try dsimp only
     refine AY (Ce (T:=tInt) V V V (by rfl) (by decide) (Fit.of_eq ((Aq (Aq (Aq Gi))).trans (BG h6 _ _)) (Fit.int an))) ?_;exact⟨i,lA⟩
    refine AQ (λi b I X hc=>?_) ?_
    ·have h5:b 5=aX:=X 0 _ V V;have h7:b 7=aX:=X 1 _ V V;have aa:b 10=aS:=AW hc (i:=8) (j:=10) (k:=1) V V V V I;have ae:upd b 8 10=aS:=aa;try dsimp only
     refine VM (i:=2) V RT.eq ((Aq (Aq (Aq FG))).trans (BG h5 _ _)) (congrArg mF ((CO aa _ _).trans (CO I _ _))) ((Aq (Aq (Aq FF))).trans (BG h7 _ _)) Z ao λv=>?_
     refine⟨v,?_⟩;simp only[aa,ae,cond_false];exact lA
    refine AQ (λi b I X hc=>?_) ?_
    ·have h0:b 0=aX:=X 0 _ V V;have h1:b 1=aX:=X 1 _ V V;try dsimp only
     refine AY (NA V ((Aq (Aq Hg)).trans (BG h0 _ _)) ((Aq (Aq Fr)).trans (BG h1 _ _)) hz) ?_;exact⟨i,lA⟩
    refine AQ (λi b I X hc=>?_) ?_
    ·have h8:b 8=aX:=X 1 _ V V;have h9:b 9=aX:=X 0 _ V V;try dsimp only
     refine Xx (i:=2) V ((Aq (Aq (Aq Fr))).trans (BG h9 _ _)) ((Aq (Aq (Aq Hg))).trans (BG h8 _ _)) (congrArg mF ((CO I _ _).trans (Sn h8 _ _))) ag ?_;refine⟨i,?_⟩;exact lA
    exact Pr
   intro i;refine qVia ⟨[.any,.lit (.pointer (mF ⟨H,0,mE⟩)),.any,.lit (.pointer (mF ⟨E,0,mE⟩)),.lit (.pointer (mF ⟨Y,0,mE⟩)),.lit (.int .i64 (Fm x)),.any,.any,.any,.any,.any,.any,.lit (.int .i64 (f.blocks.length:Int)),.lit (.int .i64 (n:Int)),.any,.any,.any,.any,.lit (goF p),.lit (.int .i64 (Fm x)),.lit (.slice (mF ⟨O,0,mE⟩) f.blocks.length f.blocks.length),.lit (.int .i64 (Fm x)),.lit (.slice (mF ⟨O,0,mE⟩) f.blocks.length f.blocks.length),.lit (.int .i64 (Fm x)),.lit (.pointer (mF ⟨O,(Fm x).toNat,mE⟩)),.lit (vs.getD (Fm x).toNat undef),.lit (.int .i64 (n:Int)),.bs tInt [(n:Int)],.lit i,.lit (.pointer (mF ⟨O,(Fm x).toNat,mE⟩)),.any,.any],[.dead,.res (Be H (Ak f)),.res (Gm 27 O f.blocks.length (vs.set (Fm x).toNat i) (vs.set (Fm x).toNat i) (ls.set (Fm x).toNat (ixD ls (Fm x)++[(n:Int)]))),.res (Be E [.lit (.slice (mF ⟨O,0,mE⟩) f.blocks.length f.blocks.length)]),.res (Be Y [.lit (.int .i64 (n:Int))]),.dead]⟩ V ?_;exact⟨rfl,vs.set (Fm x).toNat i,⟨.cons (.cons (.cons (.cons (.cons (.cons (.nil _)))))),λb' ad=>gG.1 (show bdH [.dead,.res (Be H (Ak f)),.res (Gm 27 O f.blocks.length (vs.set (Fm x).toNat i) (vs.set (Fm x).toNat i) (Acd n ls x)),.res (Be E [.lit (.slice (mF ⟨O,0,mE⟩) f.blocks.length f.blocks.length)]),.res (Be Y [.lit (.int .i64 (n:Int))]),.dead]=aX from V) b' ad⟩⟩
  ·rintro kN rfl vs D;rw[show(G9 f n).take (nextL f n).length=G9 f n by unfold nextL;rw[i6,j5]];refine h9 _ ?_;refine CX (t':=(.any::.lit (.pointer (mF ⟨H,0,mE⟩))::.any::.lit (.pointer (mF ⟨E,0,mE⟩))::.lit (.pointer (mF ⟨Y,0,mE⟩))::A7 (.lit (.int .i64 (f.blocks.length:Int))::.lit (.int .i64 (n:Int))::A4 (.lit (goF p)::A10 (A3 []))))) (h':=[.res (Bl (D::ds)),.res (Be H (Ak f)),.res (Gm 27 O f.blocks.length vs vs (GR f (n+1))),.res (Be E [.lit (.slice (mF ⟨O,0,mE⟩) f.blocks.length f.blocks.length)]),.res (Be Y [.lit (.int .i64 (n:Int))]),.dead]) V V ?_;refine wSE (sT ?_);rw[ah];refine sT (wN ?_);exact Ap ⟨(n+1,D::ds,vs),ak,by show f.blocks.length - (n+1) < f.blocks.length - n;omega,Kh (.cons (.cons (.cons (.cons (Cut.nil _)))))⟩
 ·obtain rfl:n=f.blocks.length:=by have:=of_decide_eq_false ac;omega
  refine Ay (h3 _ ?_);refine wS (sT (sT (wN ?_)));refine AJ _ (Xp hC 2 2 V V) ?_;exact Aw ⟨.inr V,ds,rfl,rfl,Fin.cl V⟩
end Mu
namespace Mu
open Go Go.RowKit Go.Proofs Go.Maps
variable{S:Int->Bool}{ds:List Ins}{k:Nat}
instance Apm:AG dG 156 aS 1:=⟨by kernel_rfl⟩
instance Apl:SZ dG 156 1:=⟨by kernel_rfl⟩
instance Apk:AG dG 27 aS 1:=⟨by kernel_rfl⟩
instance Apj:SZ dG 27 1:=⟨by kernel_rfl⟩
instance Api:ES dG 27 1:=⟨by kernel_rfl⟩
instance Aph:SL dG 27:=⟨by kernel_rfl⟩
instance Apg:RT dG 27 3 1 8:=⟨by kernel_rfl⟩
instance Apf:AG dG 66 aS 1:=⟨by kernel_rfl⟩
instance Ape:SZ dG 66 1:=⟨by kernel_rfl⟩
instance Anc:ES dG 66 1:=⟨by kernel_rfl⟩
instance Anb:AG dG 47 aX 9:=⟨by kernel_rfl⟩
instance Ana:SZ dG 47 9:=⟨by kernel_rfl⟩
instance Am9:AG dG 48 aS 1:=⟨by kernel_rfl⟩
instance Am8:ES dG 48 9:=⟨by kernel_rfl⟩
instance Am7:SL dG 48:=⟨by kernel_rfl⟩
instance Am6:RT dG 48 47 9 88:=⟨by kernel_rfl⟩
instance Am5:AG dG 3 aS 1:=⟨by kernel_rfl⟩
instance Am4:SZ dG 3 1:=⟨by kernel_rfl⟩
instance Am3:ZC dG 156 [.map mE]:=⟨by kernel_rfl⟩
instance Am2:ZC dG 47 [.int .u8 0,.int .i64 0,.int .i64 0,.int .i64 0,.int .u32 0,.int .i64 0,.slice mE 0 0,.int .i64 0,.int .i64 0]:=⟨by kernel_rfl⟩
instance Am1:ZC dG 66 [.slice mE 0 0]:=⟨by kernel_rfl⟩
def bkS(ds:List Ins)(S:Int->Bool)(k:Nat):Int->Bool:=inS (ds.drop (ds.length - k)) S
theorem Sq(ds:List Ins)(S:Int->Bool):bkS ds S 0=S:=by
 unfold bkS;rw[lT,gR (lI _)];rfl
theorem Aqp(ds:List Ins)(S:Int->Bool):bkS ds S ds.length=inS ds S:=by
 unfold bkS;rw[lS];rfl
theorem YO{d:Ins}(E:ds[ds.length - 1 - k]? =mF d)(hk:k < ds.length):bkS ds S (k+1)=M0 d (bkS ds S k):=by
 unfold bkS;have h1:ds.length - (k+1)=ds.length - 1 - k:=by omega
 have h2:ds.length - k=ds.length - 1 - k+1:=by omega
 rw[h1,h2,gQ (by omega)];have:ds[ds.length - 1 - k]=d:=by
  rw[iJ (by omega)]at E;exact mG E
 rw[this];rfl
theorem Xb{L:List Int}(h:Sub L S)(hx:∀x∈ds,∀r∈readsC x,r∈L)(k:Nat):Sub L (bkS ds S k):=
 h.inS λx E=>hx x (List.mem_of_mem_drop E)
def HW(R:List Int)(ds:List Ins)(S:Int->Bool):List (List Int):=(jU (ds.length+1)).map λi=>R.filter (inS (ds.drop i) S)
theorem Wh(R:List Int)(ds:List Ins)(S:Int->Bool):(HW R ds S).length=ds.length+1:=by simp[HW]
def FY(R:List Int)(ds:List Ins)(S:Int->Bool)(k:Nat):List AV:=(jU (ds.length+1)).map λi=>if ds.length - k<=i then .bs tInt (R.filter (inS (ds.drop i) S))else .lit (.slice mE 0 0)
theorem QW(R:List Int)(ds:List Ins)(S:Int->Bool)(k:Nat):(FY R ds S k).length=ds.length+1:=by simp[FY]
theorem Wk(R:List Int)(ds:List Ins)(S:Int->Bool):(jV (ds.length+1) (kJ (.slice mE 0 0))).set ds.length (.bs tInt (R.filter S))=FY R ds S 0:=by
 refine gY (by simp[FY]) λi h1 h2=>?_
 simp only[FY,iR,iT,iU,List.getElem_replicate,lT];simp only[i9,i8]at h1;by_cases e:ds.length=i
 ·subst e;rw[if_pos V,if_pos (lI _),gR (lI _)];rfl
 ·rw[if_neg e,if_neg (by omega)]
theorem Wl(R:List Int)(ds:List Ins)(S:Int->Bool)(hk:k < ds.length):(FY R ds S k).set (ds.length - 1 - k) (.bs tInt (R.filter (bkS ds S (k+1))))=FY R ds S (k+1):=by
 refine gY (by simp[FY]) λi h1 h2=>?_
 simp only[FY,iR,iT,iU];by_cases e:ds.length - 1 - k=i
 ·subst e;rw[if_pos V,if_pos (by omega),show ds.length - 1 - k=ds.length - (k+1)by omega];rfl
 ·rw[if_neg e];by_cases E:ds.length - k<=i
  ·rw[if_pos E,if_pos (by omega)]
  ·rw[if_neg E,if_neg (by omega)]
theorem Amr(l:List AV)(i:Nat)(y:AV)(h:i < l.length):l.take i++[y]++l.drop (i+ [y].length)=l.set i y:=by
 rw[List.set_eq_take_append_cons_drop,if_pos h,gI];rfl
theorem Zz(R:List Int)(ds:List Ins)(S:Int->Bool):FY R ds S ds.length=(HW R ds S).map λl=>kH tInt l:=by
 unfold FY HW;rw[List.map_map];refine List.map_congr_left λi _=>?_
 rw[if_pos (by omega)];rfl
theorem Vm{C:Ctx}(hC:C.std){t:List AV}{h:List kA}(i j:Nat){O n:Nat}{ls:List (List Int)}(Z:ls.length=n)(hm:n<=fP)(hi:h[i]? =mF (.res (Be O (ls.map λl=>kH tInt l))))(I:t[j]? =mF (.lit (.slice (mF ⟨O,0,mE⟩) n n))):
 kZ C ⟨t,h⟩ ⟨t.set j (.bs tInt.slice ls),h.set i .dead⟩:=
 Hs i j hi V V I (Uw hC hi V) λS ψ w v H E=>by
  unfold kK at E⊢;subst E;obtain⟨cs,e,hO,X⟩:=(H.blk i _ hi).2;subst Z;refine⟨mF ⟨O,0,mE⟩,ls.length,rfl,lI _,⟨hm,λe=>by cases e⟩,λk l hl=>⟨O,0,rfl,.inr V,?_⟩⟩;obtain⟨u,Y,E⟩:=BY X (i:=k) (x:=kH tInt l) (by rw[iM,hl];rfl);unfold kK at E;refine⟨[u],tInt.slice.keepS E (λ_ _=>rfl) λ_ hk=>.inl hk,λj u' I=>?_⟩;cases j with
  |zero=>
   cases I;show w.cell? ⟨O,0+k * 1+0,mE⟩=mF u;rw[lQ,lU,lF];simp[eU,hO,Y]
  |succ j=>cases I
def Amk:Ty (Int->Bool) where
 size:=1
 bulk:=λ_=>1
 RS:=λw S cs d=>∃m,cs= [.map (mF m)]/\S m/\ID w m d
 len:=by rintro _ _ _ _ ⟨m,rfl,_⟩;rfl
 keepS:=by
  rintro w w' S S' cs d ⟨m,rfl,h1,h2⟩ E H;exact⟨m,rfl,H m h1,h2.keep (E m h1)⟩
theorem Aqi:Enc Amk λd=>[.tv Amk d]:=by
 intro w S h ψ cs d H;obtain⟨m,rfl,_⟩:=id H;unfold Af;refine⟨_,_,rfl,?_,?_⟩
 ·unfold kK;exact H
 ·unfold Af;rfl
instance Am0:EncOf Amk λd=>[.tv Amk d]:=⟨Aqi,by
 rintro w S cs d ⟨m,rfl,_⟩ u E;simp only[jL]at E;subst E;rfl,by decide⟩
theorem All(S:Int->Bool):M5 dG 150 [.tv Amk S] (JS S) (λp=>.map (mF p)):=by
 refine⟨by kernel_rfl,λw T vs Y I=>?_⟩;obtain⟨u,rfl,H⟩:=Acc I;unfold kK at H;obtain⟨m,e,_,X⟩:=H;obtain rfl:u= .map (mF m):=by simpa using e
 refine(UY w X).mono ?_;rintro e w' ⟨rfl,h1,es,c,rfl⟩;have E:Below w.heap.size w (w.alloc (.map es c)):=(eI _ _).alloc (lI _) _;exact⟨_,rfl,⟨E.os,E.tape,E.output,E.size,λk hk _=>E.block k hk⟩,w.heap.size,rfl,h1,λk hk=>by
  have hk:k=w.heap.size:=hk;subst hk;exact⟨.inr (lI _),h1.lt⟩⟩
theorem TP(b:Block)(S:Int->Bool)(R:List Int)(ho:okBlock b)(hs:smallB b)(ab:RegsR R)(X:Sub R S)(hx:∀x∈b.ins,∀r∈readsC x,r∈R):
 Fn dG 130 [.agg (D1 b),.tv Amk S] (.bs tInt.slice (HW R b.ins S)):=by
 have ae:=hs.ins;obtain⟨ds,E⟩:∃ds,ds=b.ins:=⟨_,rfl⟩
 have aa:ds.length+1<=fP:=by
  rw[E];unfold fP;omega
 have ac:bV.wrap ((b.ins.length:Int)+1)=((ds.length+1:Nat):Int):=by rw[E,bZ _ (by omega)];rfl
 refine FM Tryz.func130 V (by kernel_rfl) V Tryz.ntmps130 λC hC ad=>?_
 refine nS ?_;refine wS (sB (sT (wN ?_)));refine wRK λK2 h2=>sT (sT (sT (sT ?_)))
 rw[ac];refine AF V (Aif (e:=27) (z:=.slice mE 0 0) (bytes:=24) V (by kernel_rfl) V V (by rw[E];omega) aa λO=>?_);refine sNt ?_;refine sA0 (sW (wN (h2 _ ?_)));refine wRK λK3 h3=>sT ?_
 refine AF V (Cp V (All S) (λ_=>rfl) V V λm=>?_);refine sNt ?_;refine sA0 (sW (wN (h3 _ ?_)));refine Bt 3 V V V (λg=>(A2 (.ptr 1 0::A2 (.lit (.pointer (mF ⟨g,0,mE⟩))::.ptr 5 0::A20 (A10 []))))) (λg=>(by(repeat(first|exact kX|refine kY ?_|refine kV ?_|refine kW V ?_)))) λI=>?_
 refine Bt 5 V V V (λg=>(A2 (.ptr 1 0::A2 (.lit (.pointer (mF ⟨I,0,mE⟩))::.lit (.pointer (mF ⟨g,0,mE⟩))::A20 (A10 []))))) (λg=>(by(repeat(first|exact kX|refine kY ?_|refine kV ?_|refine kW V ?_)))) λY=>?_
 refine nT ?_;have H:∀k,FnR dG 151 (JS (bkS ds S k) m) [.lit (.map (mF m))] (.bs tInt (R.filter (bkS ds S k))):=λk=>ZW _ _ R m ab (Xb X (by rw[E];exact hx) k).inR λ_ _ h=>h
 have h0:=H 0;rw[Sq]at h0;refine dS 7 (hq:=qT (qT (qT (qT (qT ?_)))));rw[<-E];refine qA ?_ (KX (i:=4) V V h0 V V V);refine qA (hq:=J2 V V V (lM _)) (hk:=qN ?_);refine AF V (Ip (i:=2) (new:=[.bs tInt (R.filter S)]) V V V (P0.one One.bs) V V (by rw[i8];exact lI _) ?_);rw[Amr _ _ _ (by simp),Wk];refine sNt (hk:=wN ?_);refine Ab λK5 h5=>?_
 refine wRK λK6 h6=>sT (sT ?_)
 rw[<-E];refine AF V (Cp V (Nu ds) (λ_=>rfl) V V λp=>?_);refine sNt (hk:=Au (h6 _ ?_));refine AJ ⟨(A5 (.lit (.pointer (mF ⟨I,0,mE⟩))::.lit (.pointer (mF ⟨Y,0,mE⟩))::A10 (A8 (.lit (bkF p)::A10 [.any])))),[.res (Bl []),.box (D1 b),.res (Be O (FY R ds S 0)),.res (Be I [.lit (.slice (mF ⟨O,0,mE⟩) (ds.length+1) (ds.length+1))]),.res (JS (bkS ds S 0) m),.res (Be Y [.lit (.map (mF m))]),.res (bkR ds p)]⟩ ?_ ?_
 ·rw[Sq];exact AS
 refine Ad ?_;refine Hx 6 0 (λk=>[.dead,.dead,.res (Be O (FY R ds S k)),.res (Be I [.lit (.slice (mF ⟨O,0,mE⟩) (ds.length+1) (ds.length+1))]),.res (JS (bkS ds S k) m),.res (Be Y [.lit (.map (mF m))]),.dead]) ad V (by decide) V V V ?_ V (λ_=>rfl) (λ_=>rfl) V (Anw _) (Ahh _) (P2 (by kernel_rfl) λw T h1 h2 h3=>Mc ds (by rw[E];exact ae) p w T h1 h2 h3) ?_ ?_
 ·exact⟨.dead (.dead (.cons (.cons (.cons (.cons (.dead (.nil _))))))),λc hc=>gG.1 (show bdH [.dead,.dead,.res (Be O (FY R ds S 0)),.res (Be I [.lit (.slice (mF ⟨O,0,mE⟩) (ds.length+1) (ds.length+1))]),.res (JS (bkS ds S 0) m),.res (Be Y [.lit (.map (mF m))]),.dead]=aX from V) c hc⟩
 ·intro k hk C' aj;obtain⟨d,hd⟩:∃d,ds[ds.length - 1 - k]? =mF d:=⟨_,iJ (by omega)⟩
  have Z:d∈b.ins:=by rw[<-E];exact jJ hd
  have ag:bkE ds k= [.lit (.int .i64 ((ds.length - 1 - k:Nat):Int)),.agg (BW d)]:=by unfold bkE;rw[hd]
  have ah:d.args.length<=2097152:=by have:=hs.all d Z;omega
  rw[ag];refine CX (t':=(A5 (.lit (.pointer (mF ⟨I,0,mE⟩))::.lit (.pointer (mF ⟨Y,0,mE⟩))::A10 (A8 (.lit (bkF p)::.lit (.int .i64 ((ds.length - 1 - k:Nat):Int))::.agg (BW d)::A9 []))))) V V ?_;refine wS (sT (wN ?_));refine wSE (sA0 (sW (wN ?_)));refine Ap ?_;intro C2 ak;refine Ad ?_;refine wRK λal ai=>sT (sT ?_)
  refine AF V (BR (i:=4) V V (Vc d _ R m (ho.ins d Z) ah ab (Xb X (by rw[E];exact hx) k).inR (hx d Z)) (λ_=>rfl) V V λ_=>?_);refine sNt (hk:=Au (ai _ ?_));rw[<-YO hd hk];refine dSE 5 (hq:=qT (qT (qT ?_)));refine qA ?_ (KX (i:=4) V V (H (k+1)) V V V);refine qA (hq:=J2 V V V (by omega)) (hk:=qN ?_);refine AF V (Ip (i:=2) (new:=[.bs tInt (R.filter (bkS ds S (k+1)))]) V V V (P0.one One.bs) V V (by rw[QW];show _+1<=_;omega) ?_);rw[Amr _ _ _ (by rw[QW];omega),Wl R ds S hk];refine sNt (hk:=Au ?_);exact⟨rfl,.cons (.cons (.cons (.cons (.cons (.cons (.cons (.nil _))))))),λc hc=>gG.1 (show bdH [.dead,.dead,.res (Be O (FY R ds S (k+1))),.res (Be I [.lit (.slice (mF ⟨O,0,mE⟩) (ds.length+1) (ds.length+1))]),.res (JS (bkS ds S (k+1)) m),.res (Be Y [.lit (.map (mF m))]),.dead]=aX from V) c hc⟩
 ·intro D;rw[Zz];refine h5 _ ?_;refine CX (t':=(A5 (.lit (.pointer (mF ⟨I,0,mE⟩))::.lit (.pointer (mF ⟨Y,0,mE⟩))::A10 (A8 (.lit (bkF p)::A10 [.any]))))) (h':=[.res (Bl [D]),.dead,.res (Be O ((HW R ds S).map λl=>kH tInt l)),.res (Be I [.lit (.slice (mF ⟨O,0,mE⟩) (ds.length+1) (ds.length+1))]),.res (JS (bkS ds S ds.length) m),.res (Be Y [.lit (.map (mF m))]),.dead]) V V ?_;refine wS (sT (sT (wN ?_)));refine AJ _ (Vm hC 2 4 (Wh R ds S) aa V V) ?_;subst E;exact Aw ⟨.inr V,[D],rfl,rfl,Fin.cl V⟩
end Mu
