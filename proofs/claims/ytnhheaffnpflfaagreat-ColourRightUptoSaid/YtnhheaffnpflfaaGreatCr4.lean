/-
  Lemmas for R, part 4.
  Conditions: as each lemma says.
-/
import Derived.Test.YtnhheaffnpflfaaGreatCr3
import Derived.Shelf.Spec.SlicesInsertGrow
import Derived.Laws.Cover3
set_option maxRecDepth 100000
set_option maxHeartbeats 4000000
set_option linter.unusedSimpArgs false
set_option linter.unusedVariables false
open Array renaming getElem?_eq_some_iff->aA,getElem?_modify->aB,getElem?_toList->aC,replicate->aD,size_append->aE,toList_append->aF
open Bool renaming and_eq_true->aG,false->aH,not_eq_false'->aI,not_eq_true'->aJ,true->aK
open Decidable renaming decide->aL
open Go renaming Calls->aM,CallsIn->aN,Func->aP,FuncId->aR,LeavesInM->aU,Oper->aX,Operand->aY,Program->aZ,TypeId->cE,Value->cF,World->cI,callsIn_of_wp->cP,callsIn_wide->cQ,exitTo->cR,grownCap->cT,grownCap_ge->cU,heap_alloc_new->cV,heap_alloc_old->cW,intKeys->cX,maxLen->cY,setRow_heap->cZ,size_zeroCells->dA
open Go.Fence renaming wide->aO
open Go.IntKind renaming i64->aS
open Go.IntWalk renaming i64_in->aT
open Go.Lib renaming compareInt->aV,hid->aW
open Go.Proofs.Tryz renaming cmpIntP->a6,func177->a7,func192->a8,func47->bA,func85->bB,isAgg0->bC,isAgg27->bD,isAgg3->bE,isAgg4->bF,keysK->bG,keysK_ren->bH,ntmps177->bI,ntmps47->bJ,prog->bK,sizeOf0->bL,sizeOf27->bM,sizeOf3->bN,sizeOf4->bO,sortFI->bP,underlying0->bR,underlying27->bS,underlying3->bT,underlying4->bU,underlying51->bV,underlying77->bW,zeroValue0->bX,zeroValue27->bY,zeroValue3->bZ,zeroValue4->b9
open Go.RowKit renaming intOf->cB
open Go.RowKit.Below renaming refl->cA
open Go.Sort renaming ahead->cC,putCells->cD
open Go.Value renaming func->cG,int->cH
open Go.World renaming cell?->cJ,drew->cL,frozen?->cM,setRow->cN,shape?->cO
open Int renaming toNat->dB
open List renaming all_eq_true->dD,any_append->dE,any_eq_true->dF,append_assoc->dG,append_nil->dH,contains_eq_mem->dI,contains_iff_mem->dJ,drop->dK,drop_drop->dL,eq_nil_of_length_eq_zero->dM,ext_getElem?->dN,filter_append->dO,filter_cons->dP,filter_eq_self->dQ,find?_cons->dR,find?_some->dT,foldl->dU,foldl_append->dV,foldl_cons->dW,getD_eq_getElem?_getD->dX,getElem?_append_left->dY,getElem?_append_right->dZ,getElem?_cons_zero->eA,getElem?_drop->eB,getElem?_eq_getElem->eC,getElem?_eq_none->eD,getElem?_eq_some_iff->eE,getElem?_map->eF,getElem?_set_ne->eG,getElem?_set_self->eH,getElem?_take_of_lt->eI,getElem_range->eJ,head?_drop->eK,length->eL,length_append->eM,length_cons->eN,length_filterMap_le->eO,length_filter_le->eP,length_map->eQ,length_nil->eR,length_range->eS,length_take->eT,map_append->eU,map_cons->eV,map_map->eW,map_nil->eX,mem_append->eY,mem_append_left->eZ,mem_append_right->fA,mem_cons->fB,mem_cons_of_mem->fC,mem_cons_self->fD,mem_iff_getElem?->fE,mem_map->fF,mem_of_getElem?->fG,mem_of_mem_drop->fH,mem_of_mem_take->fI,mem_range->fJ,mem_singleton->fK,mergeSort_perm->fL,nodup_append->fM,nodup_cons->fN,nodup_nil->fO,not_mem_nil->fP,pairwise_map->fQ,perm_ext_iff_of_nodup->fR,range->fS,replicate->fT,size_toArray->fU,take->fV,take_add_one->fW,take_append_drop->fX,take_append_of_le_length->fY,take_left'->fZ,take_length->gB,take_of_length_le->gC,take_one->gD,take_succ_cons->gE,take_take->gF,take_zero->gG,toList_toArray->gH
open List.Pairwise renaming imp->dC
open Mu renaming ABlk->gI,CGraph->gU,Func->iB,HRel->iC
open Mu.ABlk renaming fz->gJ,live->gK,mrk->gL,ver->gN
open Mu.AV renaming cl->gO,fz->gP,rel->gQ
open Mu.Awp renaming region->gR,upto->gT
open Mu.Cut renaming cons->gV,dead->gW,nil->gX
open Mu.Ext renaming grow->gY,set->gZ
open Mu.Fin renaming cl->g8,own->g9
open Mu.Fit renaming bool->hZ,int->iA
open Mu.M renaming bnd->iD,chk->iE,cnd->iF,loop->iG,ok->iH,to_whn->iI,whn->iJ
open Mu.One renaming lit->iK,own->iL
open Mu.St.le renaming refl->iM,trans->iN
open Mu.Ty renaming below->iO,bool->iP
open Nat renaming le_antisymm->iQ,le_of_ble_eq_true->iR,le_of_not_lt->iS,le_refl->iT,le_trans->iU,lt_of_lt_of_le->iV,lt_or_ge->iW,lt_succ_self->iX,min_eq_left->iY,mul_one->iZ,zero_add->i6,zero_le->i7
open Option renaming isSome_iff_exists->i8,isSome_map->i9,none->jA,some->jB,toList_some->jD
open Option.some renaming injEq->jC
abbrev Mu.zal:=And.intro @and_self (And.intro @and_true (And.intro @true_and (@false_and)))
abbrev Mu.zag.{u}:=And.intro @List.drop_zero.{u} (And.intro @gE.{u} (And.intro @gG.{u} (And.intro @List.set_cons_succ.{u} (And.intro @List.set_cons_zero.{u} (And.intro @if_true.{u} (@if_false.{u}))))))
namespace Mu
open Go Go.RowKit Go.Proofs
variable{a:Int}{all:List (List (List Int))}{b:Int}{bs:List Block}{f:iB}{j:Nat}{l:List Int}{n:Int}{q:Nat}{r:Bool}{x:Block}{y:Ins}
def DU(f:iB)(leaf:Bool)(l:List Int):List (List Int):=l.map λr=>BD (Ci f) r leaf
theorem W7(f:iB)(leaf:Bool){k:Nat}{r:Int}(h:l[k]? =jB r):DU f leaf (l.take (k+1))=DU f leaf (l.take k)++[BD (Ci f) r leaf]:=by
 unfold DU;rw[fW,h,eU];rfl
theorem U0(f:iB)(leaf:Bool)(u:okFunc f)(t:smallF f)(v:(Cd f).length<=2097152)(m:∀b∈f.blocks,b.ins.length+1<=2097152)(A:(Nv f).length<=2097152):Fn bK 37 [.agg (Ak f),.lit (.bool leaf)] (.bs tInt.slice (DU f leaf (regsB f))):=by
 have o:(Ci f).length<=2147483648:=by have:=Rf f;have:=iU (DO _) v;unfold BA at *;omega
 have w:(regsB f).length<=2097158:=by
  have h1:=Ad5 f;have h2:=N8 (argsK f);have H:=(GG f).2;unfold Aca at h1;rw[eM]at h1;omega
 refine AR Tryz.func37 V (by kernel_rfl) V Tryz.ntmps37 λC G=>?_
 refine nS ?_;refine rCS ?_;refine Ab λL h2=>?_
 (refine gR ?_;(repeat(first|refine sQ ?_ (AT.call V (Ald f u t v m) V V V)|refine sQ ?_ (Ax V V V V)|refine sQ ?_ (Av V V V V)|refine sQ ?_|refine AN ?_|refine sG ?_|refine Bp ?_));refine Au ?_)
 refine h2 _ ?_;refine nT ?_;refine rCS ?_;refine Ab λK E=>?_
 refine Ab λJ D=>?_
 (refine gR ?_;(repeat(first|refine sQ ?_ (AT.call V (OM f u t A) V V V)|refine sQ ?_ (Ax V V V V)|refine sQ ?_ (Av V V V V)|refine sQ ?_|refine AN ?_|refine sG ?_|refine Bp ?_));refine Au ?_)
 refine D _ ?_;refine nT ?_;refine Ad ?_;refine AH (λp:Nat×Nat=>⟨(.any::.lit (.bool leaf)::.ptr 0 0::A2 (.bs tInt (Ci f)::.own 1 p.2::A5 (.bs tInt (regsB f)::.lit (.int .i64 ((regsB f).length:Int))::.lit (.int .i64 (p.1:Int))::A10 (A2 [])))),[.box (Ak f),.row p.2 27 tInt.slice (DU f leaf ((regsB f).take p.1))]⟩) (λp=>p.1<=(regsB f).length) (λp=>(regsB f).length - p.1) (0,0) (i7 _) ((CB 6 27 tInt.slice V (by decide)).trans (BV)) ?_;rintro⟨k,ver⟩ hk;dsimp only at hk⊢;refine rCS ?_;refine Ab λI B=>?_
 refine Ah V (λc=>?_) (λc=>?_)
 ·have g:k < (regsB f).length:=by simpa using c
  obtain⟨r,z⟩:∃r,(regsB f)[k]? =jB r:=⟨_,eC g⟩
  have d:=W7 f leaf z;have h:(DU f leaf ((regsB f).take k)).length<=2097158:=by unfold DU;rw[eQ,eT];omega
  generalize DU f leaf ((regsB f).take k)=L0 at d h⊢;refine Al ?_;refine B _ ?_;refine nT ?_;refine Ab λF s=>?_
  refine Ad ?_;refine rCS ?_
  (refine gR ?_;(repeat(first|refine sQ ?_ (AT.call V (Wi (Ci f) r leaf (Rg f) o) V V V)|refine sQ ?_ (Ax V V V V)|refine sQ ?_ (Av V V V V)|refine sQ ?_|refine AN ?_|refine sG ?_|refine Bp ?_));refine Au ?_)
  refine s _ ?_;refine nT ?_;refine rC ?_;refine Ap ⟨(k+1,ver+1),by dsimp only;omega,by dsimp only;omega,?_⟩;dsimp only;rw[d];exact BV
 ·have i:k=(regsB f).length:=by have:¬k < (regsB f).length:=(by simpa using c);omega
  have e:DU f leaf (regsB f)=DU f leaf ((regsB f).take k):=by rw[i,gB]
  refine Ay ?_;refine E _ ?_;refine nT ?_;refine rCS ?_;refine Aw ?_;rw[e];exact⟨.inr V,g9 V⟩
theorem Ao8:∀(w:cI) (S S':Nat->Prop) (cs:List cF) (d:Int),tInt.RS w S cs d->tInt.RS w S' cs d:=λ_ _ _ _ _ h=>DH.2 (DH.1 h)
theorem WD(l:List Int)(n:Int)(t:l.length<=2097160):Fn bK 64 [.bs tInt l,.lit (.int .i64 n)] (.lit (.bool (l.contains n))):=by
 refine AR Tryz.func64 V (by kernel_rfl) V Tryz.ntmps64 λC u=>?_
 refine nS ?_;refine rCS ?_;refine Ab λz h2=>?_
 refine rCS ?_;refine Ad ?_;refine AH (λi:Nat=>⟨(.bs tInt l::.lit (.int .i64 n)::A3 (.lit (.int .i64 (i:Int))::A10 (A2 []))),[]⟩) (λi=>i<=l.length/\(l.take i).contains n=aH) (λi=>l.length - i) 0 ⟨i7 _,rfl⟩ (BV) ?_;rintro i ⟨hi,hc⟩;refine Ab λw s=>?_
 refine rCS ?_;refine Ah V (λm=>?_) (λm=>?_)
 ·have g:i < l.length:=by simpa using m
  obtain⟨x,hx⟩:∃x,l[i]? =jB x:=⟨_,eC g⟩
  refine Al ?_;refine s _ ?_;refine nT ?_;refine Ab λv o=>?_
  refine Ad ?_;refine rCS ?_;refine Ah V (λd=>?_) (λd=>?_)
  ·have c:x=n:=by simpa using d
   have k:l.contains n=aK:=by rw[<-c];exact dJ.2 (fG hx)
   refine rCS ?_;refine Aw ?_;rw[k];exact⟨.inr V,g8 V⟩
  ·have c:¬x=n:=by simpa using d
   refine Al ?_;refine o _ ?_;refine nT ?_;refine rC ?_;refine Ap ⟨i+1,⟨by omega,?_⟩,by omega,BV⟩;rw[fW,hx,dI]at *;simp only[jD,eY,fB,fP,or_false,decide_eq_false_iff_not,not_or]at hc⊢;exact⟨by simpa[dI]using hc,λe=>c e.symm⟩
 ·have h:i=l.length:=by have:¬i < l.length:=(by simpa using m);omega
  rw[h,gB]at hc;refine Ay ?_;refine h2 _ ?_;refine nT ?_;refine rCS ?_;refine Aw ?_;rw[hc];exact⟨.inr V,g8 V⟩
def L2(n:Int)(k:Nat):List Int:=(fS k).map λ(j:Nat)=>n+(j:Int)
theorem Aaa(n:Int)(k:Nat):L2 n (k+1)=L2 n k++[n+(k:Int)]:=by unfold L2;rw[List.range_succ,eU];rfl
theorem Agf(n:Int)(k:Nat):(L2 n k).length=k:=by simp[L2]
theorem MR(n:Int)(m:Nat)(w:0<=n)(h:n<=100)(z:m<=100):Jv bK 104 [.lit (.int .i64 n),.lit (.int .i64 (m:Int))] 3 tInt (L2 n m):=by
 refine Ef Tryz.func104 V (by kernel_rfl) V Tryz.ntmps104 Ao8 λC A=>?_
 refine nS ?_;refine rCS ?_;refine rCS ?_;refine Ab λE u=>?_
 refine rCS ?_;refine Ad ?_;refine AH (λp:Nat×Nat=>⟨(.lit (.int .i64 n)::.lit (.int .i64 (m:Int))::A3 (.own 0 p.2::.lit (.int .i64 (p.1:Int))::A10 (A2 []))),[.row p.2 3 tInt (L2 n p.1)]⟩) (λp=>p.1<=m) (λp=>m - p.1) (0,0) (i7 _) ((CB 5 3 tInt V (by decide)).trans (BV)) ?_;rintro⟨i,ver⟩ hi;dsimp only at hi⊢;refine Ab λD t=>?_
 refine rCS ?_;refine Ah V (λc=>?_) (λc=>?_)
 ·have o:i < m:=by simpa using c
  have v:wfI .i64 (n+(i:Int)):=by
   obtain⟨k,rfl⟩:∃k:Nat,n=(k:Int):=⟨n.toNat,by omega⟩
   exact LL (k:=k+i) (by omega)
  have e:=Agf n i;have d:=Aaa n i;generalize L2 n i=L0 at e d⊢;refine Al ?_;refine t _ ?_;refine nT ?_;refine Ab λB s=>?_
  refine Ad ?_;refine rC ?_;refine s _ ?_;refine nT ?_;refine rC ?_;refine Ap ⟨(i+1,ver+1),by dsimp only;omega,by dsimp only;omega,?_⟩;dsimp only;rw[d];exact BV
 ·have g:i=m:=by have:¬i < m:=(by simpa using c);omega
  subst g;refine Ay ?_;refine u _ ?_;refine nT ?_;refine rCS ?_;refine Aw ?_;exact⟨.inr V,rfl,_,_,rfl,rfl⟩
theorem Akw:L2 8 6= [8,9,10,11,12,13]:=by decide
theorem Aku:L2 16 8=Aim:=by decide
theorem Akv:L2 24 6=Aio:=by decide
theorem TQ(f:iB)(r:Int)(leaf:Bool)(w:okFunc f)(v:smallF f)(m:(Cd f).length<=2097152)(h:∀b∈f.blocks,b.ins.length+1<=2097152):Fn bK 70 [.agg (Ak f),.lit (.int .i64 r),.lit (.bool leaf)] (.bs tInt (BD (Ci f) r leaf)):=by
 have i:(Ci f).length<=2097160:=by have:=Rf f;have:=iU (DO _) m;unfold BA at *;omega
 have t:Jv bK 104 [.lit (.int .i64 8),.lit (.int .i64 6)] 3 tInt (L2 8 6):=MR 8 6 (by decide) (by decide) (by decide);have s:Jv bK 104 [.lit (.int .i64 16),.lit (.int .i64 8)] 3 tInt (L2 16 8):=MR 16 8 (by decide) (by decide) (by decide);have o:Jv bK 104 [.lit (.int .i64 24),.lit (.int .i64 6)] 3 tInt (L2 24 6):=MR 24 6 (by decide) (by decide) (by decide);rw[Akw]at t;rw[Aku]at s;rw[Akv]at o;have g:=o.fn;have A:Aim.length+Aio.length<=cY:=by decide
 have z:(Aim.length+Aio.length) * 8<=140737488355328:=by decide
 have u:wfI .i64 4:=Atb (by decide);have e:=WD (Ci f) r i;have hc:=Aax f w v m h;rw[Dh];refine AR Tryz.func70 V (by kernel_rfl) V Tryz.ntmps70 λC E=>?_
 refine nS ?_;refine rCS ?_;refine Ab λP h2=>?_
 (refine gR ?_;(repeat(first|(refine AF V (Lb V t (by decide) V V ?_);refine sNt ?_)|refine sQ ?_ (Ax V V V V)|refine sQ ?_ (Av V V V V)|refine sQ ?_|refine AN ?_|refine sG ?_|refine Bp ?_));refine Au ?_)
 refine h2 _ ?_;refine nT ?_;refine Ab λO I=>?_
 refine gR ?_;refine AF V (Lb V s (by decide) V V ?_);refine sNt ?_
 (repeat(first|refine sQ ?_ (AT.call V g V V V)|refine sQ ?_ (Ax V V V V)|refine sQ ?_ (Av V V V V)|refine sQ ?_|refine AN ?_|refine sG (hq:=by(intro hg;(try simp only[Bool.and_eq_true,beq_iff_eq]at hg);(try simp only[hg,Bool.true_and,zaj]);exact AT.call V g V V V)) ?_|refine sG ?_|refine Bp ?_))
 refine Au ?_;refine I _ ?_;refine nT ?_;refine Ab λN H=>?_
 refine rCS ?_;refine Ah V (λd=>?_) (λd=>?_)
 ·refine rCS ?_;refine Aw ?_;rw[if_pos d];exact⟨.inr V,g9 V⟩
 ·have d:leaf=aH:=d;refine Al ?_;refine H _ ?_;refine nT ?_;refine Ab λL G=>?_
  refine Ab λK F=>?_
  (refine gR ?_;(repeat(first|refine sQ ?_ (AT.call V hc V V V)|refine sQ ?_ (AT.call V e V V V)|refine sQ ?_ (Ax V V V V)|refine sQ ?_ (Av V V V V)|refine sQ ?_|refine AN ?_|refine sG (hq:=by(intro hg;(try simp only[Bool.and_eq_true,beq_iff_eq]at hg);(try simp only[hg,Bool.true_and,zaj]);exact AT.call V hc V V V)) ?_|refine sG (hq:=by(intro hg;(try simp only[Bool.and_eq_true,beq_iff_eq]at hg);(try simp only[hg,Bool.true_and,zaj]);exact AT.call V e V V V)) ?_|refine sG ?_|refine Bp ?_));refine Au ?_)
  refine F _ ?_;refine nT ?_;refine Ah V (λc=>?_) (λc=>?_)
  ·have c:(Ci f).contains r=aK:=c;refine rCS ?_;refine Aw ?_;rw[if_neg (by rw[d];simp),if_pos c];exact⟨.inr V,g9 V⟩
  ·have c:(Ci f).contains r=aH:=c;refine Al ?_;refine G _ ?_;refine nT ?_;refine Ab λJ k=>?_
   refine AJ _ (Ok E 2 V) ?_;refine AJ ⟨(A3 (.ptr 0 0::A3 (.own 1 1::.bs tInt KL::A10 (A6 [])))),[.box (Ak f),.row 1 3 tInt Aag,.dead]⟩ (BV) ?_;have D:Aag.length+KL.length<=cY:=by decide
   have B:(Aag.length+KL.length) * 8<=140737488355328:=by decide
   refine rC ?_;refine k _ ?_;refine nT ?_;refine Aw ?_;rw[if_neg (by rw[d];simp),if_neg (by rw[c];simp)];exact⟨.inr V,g9 V⟩
theorem Tx(c:(Nv f).length<=2097152):(AK f).length<=2097152:=iU (FH _).1 c
theorem Ad7(c:okFunc f):Bg (AK f):=(FH _).2 (Xi c)
theorem Afh(f:iB)(n:Nat):Uf f (n+1)=Uf f n++if(aL ((n:Int) < f.args)||(AK f).contains (n:Int))=aK then [(n:Int)]else []:=by
 unfold Uf;rw[Uc,dO,dP,List.filter_nil]
theorem Yg(f:iB)(n:Nat):(Uf f n).length<=n:=by
 unfold Uf;have:=eP (λr=>decide (r < f.args)||(AK f).contains r) (NN n);rw[N8]at this;exact this
theorem Ke{p:Int->Bool}:∀{l:List Int} {k:Nat},(∀x∈l.take k,p x=aK)->(k=l.length\/∃x,l[k]? =jB x/\p x=aH)->l.takeWhile p=l.take k
 | [],k,_,_=>by simp
 |x::l,0,_,h=>by
  rcases h with h|⟨y,c,d⟩
  ·simp at h
  ·simp only[eA,jC]at c;subst c;rw[List.takeWhile_cons_of_neg (by rw[d];simp),gG]
 |x::l,k+1,h1,h2=>by
  rw[gE,List.takeWhile_cons_of_pos (h1 x (by simp)),Ke (λy c=>h1 y (by rw[gE];exact fC _ c)) ?_];rcases h2 with h2|⟨y,c,d⟩
  ·exact .inl (by simpa using h2)
  ·exact .inr ⟨y,by simpa using c,d⟩
theorem Zt(f:iB)(K:okFunc f)(hs:smallF f)(Q:(Nv f).length<=2097152):Fn bK 32 [.agg (Ak f)] (.bs tInt (regsB f)):=by
 have ac:=Tx Q;have E:=Ad7 K;rw[<-G5];refine AR Tryz.func32 V (by kernel_rfl) V Tryz.ntmps32 λC hC=>?_
 refine nS ?_;refine rCS ?_;refine Ab λK2 h2=>?_
 (refine gR ?_;(repeat(first|refine sQ ?_ (AT.call V (OP f K hs Q) V V V)|refine sQ ?_ (Ax V V V V)|refine sQ ?_ (Av V V V V)|refine sQ ?_|refine AN ?_|refine sG (hq:=by(intro hg;(try simp only[Bool.and_eq_true,beq_iff_eq]at hg);(try simp only[hg,Bool.true_and,zaj]);exact AT.call V (OP f K hs Q) V V V)) ?_|refine sG ?_|refine Bp ?_));refine Au ?_)
 refine h2 _ ?_;refine nT ?_;refine rCS ?_;refine Ab λK4 h4=>?_
 refine rCS ?_;refine Ad ?_;refine AH (λp:Nat×Nat=>⟨(.any::.ptr 0 0::.any::.bs tInt (AK f)::.own 1 p.2::.lit (.int .i64 (p.1:Int))::A40 (A20 [])),[.box (Ak f),.row p.2 3 tInt ((AK f).take p.1)]⟩) (λp=>p.1<=(AK f).length/\∀x∈(AK f).take p.1,aL (x < 0)=aK) (λp=>(AK f).length - p.1) (0,0) ⟨i7 _,λx hx=>by cases hx⟩ ((CB 4 3 tInt V (by decide)).trans (BV)) ?_;rintro⟨i,ver⟩ ⟨hi,g⟩
 (try dsimp only at hi);(try dsimp only at g);(try dsimp only)
 obtain⟨x,H⟩:∃x,(AK f).getD i 0=x:=⟨_,rfl⟩
 have w:aL ((i:Int) < ((AK f).length:Int))=aK->(AK f)[i]? =jB x:=λh=>by
  have h:(i:Int) < ((AK f).length:Int):=of_decide_eq_true h;have m:i < (AK f).length:=by omega
  rw[<-H,dX,eC m];rfl
 refine Ab λK7 h7=>?_
 refine Ab λK8 h8=>?_
 (refine gR ?_;(repeat(first|refine sQ ?_ (Io V V V V (w hg))|refine sQ ?_ (Ax V V V V)|refine sQ ?_ (Av V V V V)|refine sQ ?_|refine AN ?_|refine sG (hq:=by(intro hg;(try simp only[Bool.and_eq_true,beq_iff_eq]at hg);(try simp only[hg,Bool.true_and,zaj]);exact Io V V V V (w hg))) ?_|refine sG ?_|refine Bp ?_));refine Au ?_)
 refine h8 _ ?_;refine nT ?_;refine Ah V (λd=>?_) (λd=>?_)
 ·have d:(aL ((i:Int) < ((AK f).length:Int))&&aL (x < 0))=aK:=d;rw[aG]at d;have hx:=w d.1;have I:=d.2;have m:=(eE.1 hx).1;have ab:=E x (fG hx);have A:(AK f).take (i+1)=(AK f).take i++[x]:=by rw[fW,hx];rfl
  have J:((AK f).take i).length<=2097152:=by rw[eT];omega
  generalize af:(AK f).take i=T0 at A J g⊢;refine Al ?_;refine h7 _ ?_;refine nT ?_;refine Ab λan Z=>?_
  refine Ad ?_;refine rC ?_;refine Z _ ?_;refine nT ?_;refine rC ?_;refine Ap ⟨(i+1,ver+1),⟨by dsimp only;omega,?_⟩,by dsimp only;omega,?_⟩
  ·try dsimp only
   rw[A];intro y hy;rcases eY.1 hy with hy|hy
   ·exact g y hy
   ·rw[fK.1 hy];exact I
  ·try dsimp only
   rw[A];exact BV
 ·have d:(aL ((i:Int) < ((AK f).length:Int))&&aL (x < 0))=aH:=d;have D:(AK f).takeWhile (λr=>decide (r < 0))=(AK f).take i:=by
   refine Ke g ?_;by_cases m:i < (AK f).length
   ·refine .inr ⟨x,w (decide_eq_true (by omega)),?_⟩;rw[decide_eq_true (by omega:(i:Int) < ((AK f).length:Int)),Bool.true_and]at d;exact d
   ·exact .inl (by omega)
  rw[<-D];have S:((AK f).takeWhile λr=>decide (r < 0)).length<=2097152:=by rw[D,eT];omega
  generalize hT:(AK f).takeWhile (λr=>decide (r < 0))=TW at S⊢;refine Ay ?_;refine h4 _ ?_;refine nT ?_;refine Ab λam Y=>?_
  refine rCS ?_;refine Ad ?_;refine AH (λp:Nat×Nat=>⟨(.any::.ptr 0 0::.any::.bs tInt (AK f)::.own 1 p.2::.any::.lit (.int .i64 (p.1:Int))::A40 (A10 (A9 []))),[.box (Ak f),.row p.2 3 tInt (TW++Uf f p.1)]⟩) (λp=>p.1<=6) (λp=>6 - p.1) (0,ver) (i7 _) (by rw[show TW++Uf f (0,ver).1=TW by simp[Uf,NN]];exact BV) ?_;rintro⟨n,e⟩ hn
  (try dsimp only at hn);(try dsimp only)
  have ad:=LL (k:=n) (by omega);have ae:=Yg f n;have L:=Afh f n;refine Ab λal X=>?_
  refine rCS ?_;refine Ah V (λv=>?_) (λv=>?_)
  ·have m:n < 6:=by have:(n:Int) < 6:=(by simpa using v);omega
   have B:(TW++Uf f n).length<=2097160:=by rw[eM];omega
   have c:TW++Uf f (n+1)=(TW++Uf f n)++if(aL ((n:Int) < f.args)||(AK f).contains (n:Int))=aK then [(n:Int)]else []:=by rw[L,dG]
   generalize TW++Uf f n=R0 at B c⊢;refine Al ?_;refine X _ ?_;refine nT ?_;refine Ab λak G=>?_
   refine Ad ?_;refine Ab λaj W=>?_
   (refine gR ?_;(repeat(first|refine sQ ?_ (AT.call V (WD (AK f) (n:Int) (by omega)) V V V)|refine sQ ?_ (Ax V V V V)|refine sQ ?_ (Av V V V V)|refine sQ ?_|refine AN ?_|refine sG (hq:=by(intro hg;(try simp only[Bool.and_eq_true,beq_iff_eq]at hg);(try simp only[hg,Bool.true_and,zaj]);exact AT.call V (WD (AK f) (n:Int) (by omega)) V V V)) ?_|refine sG ?_|refine Bp ?_));refine Au ?_)
   refine W _ ?_;refine nT ?_;refine Ah V (λu=>?_) (λu=>?_)
   ·rw[if_pos u]at c;refine rC ?_;refine G _ ?_;refine nT ?_;refine rC ?_;refine Ap ⟨(n+1,e+1),by dsimp only;omega,by dsimp only;omega,?_⟩;try dsimp only
    rw[c];exact BV
   ·rw[if_neg (by rw[show(aL ((n:Int) < f.args)||(AK f).contains (n:Int))=aH from u];simp),dH]at c;refine Al ?_;refine G _ ?_;refine nT ?_;refine rC ?_;refine Ap ⟨(n+1,e),by dsimp only;omega,by dsimp only;omega,?_⟩;try dsimp only
    rw[c];exact BV
  ·have N:n=6:=by have:¬(n:Int) < 6:=(by simpa using v);omega
   subst N;have B:(TW++Uf f 6).length<=2097160:=by rw[eM];omega
   have o:Mv f=TW++Uf f 6++(AK f).filter (λr=>decide (r > 5)):=by unfold Mv;rw[hT]
   generalize TW++Uf f 6=R0 at B o⊢;refine Ay ?_;refine Y _ ?_;refine nT ?_;refine Ab λai U=>?_
   refine rCS ?_;refine Ad ?_;refine AH (λp:Nat×Nat=>⟨(.any::.ptr 0 0::.any::.bs tInt (AK f)::.own 1 p.2::A2 (.lit (.int .i64 (p.1:Int))::A40 (A10 (A8 [])))),[.box (Ak f),.row p.2 3 tInt (R0++((AK f).take p.1).filter λr=>decide (r > 5))]⟩) (λp=>p.1<=(AK f).length) (λp=>(AK f).length - p.1) (0,e) (i7 _) (by rw[show(R0++((AK f).take (0,e).1).filter λr=>decide (r > 5))=R0 by simp];exact BV) ?_;rintro⟨k,z⟩ hk
   (try dsimp only at hk);(try dsimp only)
   refine Ab λah T=>?_
   refine rCS ?_;refine Ah V (λt=>?_) (λt=>?_)
   ·have m:k < (AK f).length:=by simpa using t
    obtain⟨y,hy⟩:∃y,(AK f)[k]? =jB y:=⟨_,eC m⟩
    have aa:=E y (fG hy);have P:(R0++((AK f).take k).filter λr=>decide (r > 5)).length<=4194320:=by
     have h1:=eP (λr:Int=>decide (r > 5)) ((AK f).take k);rw[eT]at h1;rw[eM];omega
    have c:(R0++((AK f).take (k+1)).filter λr=>decide (r > 5))=(R0++((AK f).take k).filter λr=>decide (r > 5))++if aL (y > 5)=aK then [y]else []:=by rw[DZ hy,dG]
    generalize (R0++((AK f).take k).filter λr=>decide (r > 5))=R1 at P c⊢;refine Al ?_;refine T _ ?_;refine nT ?_;refine Ab λag F=>?_
    refine Ad ?_;refine rCS ?_;refine Ah V (λs=>?_) (λs=>?_)
    ·rw[if_pos s]at c;refine rC ?_;refine F _ ?_;refine nT ?_;refine rC ?_;refine Ap ⟨(k+1,z+1),by dsimp only;omega,by dsimp only;omega,?_⟩;try dsimp only
     rw[c];exact BV
    ·rw[if_neg (by rw[show aL (y > 5)=aH from s];simp),dH]at c;refine Al ?_;refine F _ ?_;refine nT ?_;refine rC ?_;refine Ap ⟨(k+1,z),by dsimp only;omega,by dsimp only;omega,?_⟩;try dsimp only
     rw[c];exact BV
   ·have O:k=(AK f).length:=by have:¬k < (AK f).length:=(by simpa using t);omega
    subst O;rw[gB];refine Ay ?_;refine U _ ?_;refine nT ?_;refine rCS ?_;refine Aw ?_;rw[o];exact⟨.inr V,g9 V⟩
def SS(x:Ins):Bool:=x.op ==5||x.op ==7
def D5(l:List Ins):Bool:=l.any SS
def leaf(bs:List Block):Bool:=!(bs.any λb=>D5 b.ins)
theorem Ug{l:List Ins}(c:l[j]? =jB y)(h:D5 (l.take j)=aH)(d:SS y=aH):Hid (D5 (l.take (j+1))=aH):=by
 show D5 _=_;unfold D5 at h⊢;rw[fW,c,dE,h];simp[d]
theorem R7{l:List Ins}(c:l[j]? =jB y)(d:SS y=aK):D5 l=aK:=by
 unfold D5;rw[dF];exact⟨y,fG c,d⟩
theorem Uj(hx:bs[q]? =jB x)(h:leaf (bs.take q)=aK)(c:D5 x.ins=aH):Hid (leaf (bs.take (q+1))=aK):=by
 show leaf _=_;unfold leaf at h⊢;rw[fW,hx,dE];simp only[aJ]at h⊢;rw[h];simp[c]
theorem Wz(hx:bs[q]? =jB x)(c:D5 x.ins=aK):leaf bs=aH:=by
 unfold leaf;simp only[aI,dF];exact⟨x,fG hx,c⟩
theorem Aji(fn:iB)(w:cI)(cs:List cF)(hR:Dw.R w w.heap.size cs fn)(hsm:Dw.bulk fn<=2097152):
 aM bK 14 #[.agg cs.toArray] w λe w'=>e= .returned (.bool (leaf fn.blocks))/\Below w.heap.size w w':=by
 obtain⟨A,c,rfl,_,_,_,hBR⟩:=Ou.1 hR;have hbl:=GN fn;have HBR:=aW hBR;clear hR hBR
 go_enter Tryz.func14,Tryz.ntmps14
 go_wp2
 go_loopw [3] (λi wr=>∃q:Nat,q<=fn.blocks.length/\i= .int .i64 q/\Hid (leaf (fn.blocks.take q)=aK)/\Below (w.heap.size+1) (w.alloc (.cells [.string fn.name,.int .i64 fn.args,.int .i64 fn.regs,.slice A fn.blocks.length c].toArray 24)) wr) (λi _=>fn.blocks.length - (cB i).toNat)
 case atStart=>exact⟨0,i7 _,rfl,rfl,cA _ _⟩
 case round=>
  obtain⟨q,hq,rfl,hno,hbe⟩:=hrel;obtain⟨hfar,hbox,_,_⟩:=U5 hbe;have hb3:=hbox 3 _ V;have HBE:=aW hbe;clear hbe hbox;by_cases hlt:q < fn.blocks.length
  ·obtain⟨x,hx⟩:∃x,fn.blocks[q]? =jB x:=⟨_,eC hlt⟩
   obtain⟨bb,bo,Ai,ci,rfl,hbb,_,hc1,_,hIR⟩:=YN HBR.out hx;have hil:=Jm x;have hxb:=Fy (fG hx);have HX:=aW hx;have HIR:=aW hIR;clear hx hIR
   go_wp2
   obtain⟨wo,rfl⟩:∃wo:cI,wo=wr:=⟨_,rfl⟩
   clear hfar hb3
   go_loopw [4] (λi wr=>∃j:Nat,j<=x.ins.length/\i= .int .i64 j/\Hid (D5 (x.ins.take j)=aH)/\Below (w.heap.size+1) (w.alloc (.cells [.string fn.name,.int .i64 fn.args,.int .i64 fn.regs,.slice (jB ⟨bb,bo,jA⟩) fn.blocks.length c].toArray 24)) wr) (λi _=>x.ins.length - (cB i).toNat)
   case atStart=>exact⟨0,i7 _,rfl,rfl,HBE.out⟩
   case round=>
    obtain⟨j,hj,rfl,hno2,hbe⟩:=hrel;obtain⟨hfar,hbox,hlt0,_⟩:=U5 hbe;have hb3:=hbox 3 _ V;have HBE2:=aW hbe;clear hbe hbox;by_cases hlt2:j < x.ins.length
    ·obtain⟨y,hy⟩:∃y,x.ins[j]? =jB y:=⟨_,eC hlt2⟩
     obtain⟨ib,io,Aa,ca,rfl,hib,e0,_⟩:=Afy (HIR.out) hy;have HY:=aW hy;clear hy;by_cases h5:y.op=5
     ·have d5:(y.op ==5)=aK:=by simp[h5]
      have HL:Hid (SS y=aK):=by simp[Hid,SS,h5]
      clear h5
      go_wp2
      go_ret
      exact⟨Dx (Wz HX.out (R7 HY.out HL.out)).symm,(U5 HBE2.out).2.2.2⟩
     ·have d5:(y.op ==5)=aH:=by simp[h5]
      by_cases h7:y.op=7
      ·have d7:(y.op ==7)=aK:=by simp[h7]
       have HL:Hid (SS y=aK):=by simp[Hid,SS,h7]
       clear h5 h7
       go_wp2
       go_ret
       exact⟨Dx (Wz HX.out (R7 HY.out HL.out)).symm,(U5 HBE2.out).2.2.2⟩
      ·have d7:(y.op ==7)=aH:=by simp[h7]
       have HL:Hid (SS y=aH):=by simp[Hid,SS,h5,h7]
       clear h5 h7
       go_wp2
       go_roundw
       case rel=>exact⟨j+1,by omega,by go_num,Ug HY.out hno2.out HL.out,HBE2.out⟩
       case measure=>simp[cB];omega
    ·obtain rfl:j=x.ins.length:=by omega
     go_wp2
     go_roundw
     case rel=>exact⟨q+1,by omega,by go_num,Uj HX.out hno.out (by have:=hno2.out;rwa [gB]at this),HBE2.out⟩
     case measure=>simp[cB];omega
  ·obtain rfl:q=fn.blocks.length:=by omega
   go_wp2
   go_ret
   have hno':=hno.out;rw[gB]at hno';exact⟨Dx hno'.symm,(U5 HBE.out).2.2.2⟩
theorem Ui(y:Ins)(w:cI)(cs:List cF)(hR:Eh.R w w.heap.size cs y):
 aM bK 47 #[.agg cs.toArray] w λe w'=>e= .returned (.bool (SS y))/\Below w.heap.size w w':=by
 obtain⟨A,c,hI⟩:=IH.1 hR;obtain rfl:=hI.cs;clear hR hI;have hB:Hid (Below w.heap.size w (w.alloc (.cells [.int .u8 y.op,.int .i64 y.d,.int .i64 y.a,.int .i64 y.b,.int .u32 y.n,.int .i64 y.f,.slice A y.args.length c,.int .i64 y.l1,.int .i64 y.l2].toArray 47))):=(cA _ _).alloc (iT _) _;by_cases h5:y.op=5
 ·have d5:(y.op ==5)=aK:=by simp[h5]
  have HL:Hid (SS y=aK):=by simp[Hid,SS,h5]
  clear h5
  go_enter bA,bJ
  go_wp2
  go_ret
  exact⟨Dx HL.out.symm,hB.out⟩
 ·have d5:(y.op ==5)=aH:=by simp[h5]
  by_cases h7:y.op=7
  ·have d7:(y.op ==7)=aK:=by simp[h7]
   have HL:Hid (SS y=aK):=by simp[Hid,SS,h7]
   clear h5 h7
   go_enter bA,bJ
   go_wp2
   go_ret
   exact⟨Dx HL.out.symm,hB.out⟩
  ·have d7:(y.op ==7)=aH:=by simp[h7]
   have HL:Hid (SS y=aH):=by simp[Hid,SS,h5,h7]
   clear h5 h7
   go_enter bA,bJ
   go_wp2
   go_ret
   exact⟨Dx HL.out.symm,hB.out⟩
def Aq3(w:cI)(b:Bool)(e:Ending)(w':cI):Prop:=∃z:Int,e= .returned (.int .i64 z)/\aL (0<=z)=b/\Below w.heap.size w w'
theorem ZX(l:List Ins)(va:cF)(w:cI)(hR:Eh.slice.R w w.heap.size [va] l)(hl:l.length<=2097152):
 aM bK 81 #[va,.func (.func 47) #[] #[]] w (Aq3 w (D5 l)):=by
 obtain⟨A,c,rfl⟩:=Cf hR;have HR:=aW hR;clear hR
 go_enter Tryz.func81,Tryz.ntmps81
 go_wp2_with fail
 go_loopw [8] (λi wr=>∃j:Nat,j<=l.length/\i= .int .i64 j/\Hid (D5 (l.take j)=aH)/\Below w.heap.size w wr) (λi _=>l.length - (cB i).toNat)
 case atStart=>exact⟨0,i7 _,rfl,rfl,cA _ _⟩
 case round=>
  obtain⟨j,hj,rfl,hno,hbe⟩:=hrel;have hfar:=far hbe;have HBE:=aW hbe;clear hbe;by_cases hlt:j < l.length
  ·obtain⟨y,hy⟩:∃y,l[j]? =jB y:=⟨_,eC hlt⟩
   obtain⟨ib,io,Aa,ca,rfl,hib,e0,e1,e2,e3,e4,e5,e6,e7,e8,hraw⟩:=Afy (HR.out) hy;have hRw:Eh.R wr wr.heap.size [.int .u8 y.op,.int .i64 y.d,.int .i64 y.a,.int .i64 y.b,.int .u32 y.n,.int .i64 y.f,.slice Aa y.args.length ca,.int .i64 y.l1,.int .i64 y.l2] y:=
    iO (IH.2 ⟨_,_,hraw⟩) HBE.out HBE.out.size
   have HY:=aW hy;have HRW:=aW hRw;clear hy hraw hRw;by_cases hL:SS y=aK
   ·have HL:=aW hL;clear hL
    go_wp2_with fail
    refine(Ui y _ _ HRW.out).mono ?_;rintro e w1 ⟨rfl,hb1⟩;rw[HL.out];have HB1:=aW hb1;clear hb1
    go_wp2_with fail
    go_ret
    exact⟨_,rfl,by rw[R7 HY.out HL.out];simp,HBE.out.trans (HB1.out.mono HBE.out.size)⟩
   ·have hL':SS y=aH:=by simpa using hL
    have HL:=aW hL';clear hL hL'
    go_wp2_with fail
    refine(Ui y _ _ HRW.out).mono ?_;rintro e w1 ⟨rfl,hb1⟩;rw[HL.out];have HB1:=aW hb1;clear hb1
    go_wp2_with fail
    go_roundw
    case rel=>exact⟨j+1,by omega,by go_num,Ug HY.out hno.out HL.out,HBE.out.trans (HB1.out.mono HBE.out.size)⟩
    case measure=>simp[cB];omega
  ·obtain rfl:j=l.length:=by omega
   go_wp2_with fail
   go_ret
   have hno':=hno.out;rw[gB]at hno';exact⟨_,rfl,by rw[hno'];simp,HBE.out⟩
theorem Nj(l:List Ins)(va:cF)(w:cI)(hR:Eh.slice.R w w.heap.size [va] l)(hl:l.length<=2097152):
 aM bK 46 #[va,.func (.func 47) #[] #[]] w λe w'=>e= .returned (.bool (D5 l))/\Below w.heap.size w w':=by
 have HR:=aW hR;clear hR
 go_enter Tryz.func46,Tryz.ntmps46
 go_wp2_with fail
 refine(ZX l va _ HR.out hl).mono ?_;rintro e w1 ⟨z,rfl,hz,hb1⟩;have HZ:=aW hz;have HB1:=aW hb1;clear hz hb1
 go_wp2_with fail
 go_ret
 exact⟨Dx HZ.out,HB1.out⟩
theorem Akg(fn:iB)(w:cI)(cs:List cF)(hR:Dw.R w w.heap.size cs fn)(hsm:Dw.bulk fn<=2097152):
 aM bK 24 #[.agg cs.toArray] w λe w'=>e= .returned (.bool (leaf fn.blocks))/\Below w.heap.size w w':=by
 obtain⟨A,c,rfl,_,_,_,hBR⟩:=Ou.1 hR;have hbl:=GN fn;have HBR:=aW hBR;clear hR hBR
 go_enter Tryz.func24,Tryz.ntmps24
 go_wp2_with fail
 go_loopw [8] (λi wr=>∃q:Nat,q<=fn.blocks.length/\i= .int .i64 q/\Hid (leaf (fn.blocks.take q)=aK)/\Below w.heap.size w wr) (λi _=>fn.blocks.length - (cB i).toNat)
 case atStart=>exact⟨0,i7 _,rfl,rfl,(cA _ _).alloc (iT _) _⟩
 case round=>
  obtain⟨q,hq,rfl,hno,hbe⟩:=hrel;have hfar:=far hbe;have HBE:=aW hbe;clear hbe;by_cases hlt:q < fn.blocks.length
  ·obtain⟨x,hx⟩:∃x,fn.blocks[q]? =jB x:=⟨_,eC hlt⟩
   obtain⟨bb,bo,Ai,ci,rfl,hbb,hc0,hc1,_,hIR⟩:=YN HBR.out hx;have hil:=Jm x;have hxb:=Fy (fG hx);have HX:=aW hx;have HIR:=aW hIR;clear hx hIR;have hal:∀o,Hid (Below w.heap.size w (wr.alloc o)):=λo=>HBE.out.alloc HBE.out.size o
   by_cases hL:D5 x.ins=aK
   ·have HL:=aW hL;have HAL:=aW hal;clear hL hal
    go_wp2_with fail
    refine(Nj x.ins _ _ (iO HIR.out (HAL.out _).out (HAL.out _).out.size) (by omega)).mono ?_;rintro e w1 ⟨rfl,hb1⟩;rw[HL.out];have HB1:=aW hb1;clear hb1
    go_wp2_with fail
    go_ret
    exact⟨Dx (Wz HX.out HL.out).symm,(HAL.out _).out.trans (HB1.out.mono (HAL.out _).out.size)⟩
   ·have hL':D5 x.ins=aH:=by simpa using hL
    have HL:=aW hL';have HAL:=aW hal;clear hL hL' hal
    go_wp2_with fail
    refine(Nj x.ins _ _ (iO HIR.out (HAL.out _).out (HAL.out _).out.size) (by omega)).mono ?_;rintro e w1 ⟨rfl,hb1⟩;rw[HL.out];have HB1:=aW hb1;clear hb1
    go_wp2_with fail
    go_roundw
    case rel=>exact⟨q+1,by omega,by go_num,Uj HX.out hno.out HL.out,(HAL.out _).out.trans (HB1.out.mono (HAL.out _).out.size)⟩
    case measure=>simp[cB];omega
  ·obtain rfl:q=fn.blocks.length:=by omega
   go_wp2_with fail
   go_ret
   have hno':=hno.out;rw[gB]at hno';exact⟨Dx hno'.symm,HBE.out⟩
def I1(l:List Int)(n:Int):Int->M (Int⊕((Unit)⊕(Bool))):=λc=>iF (aL (c < (l.length:Int))) (iE (Ch l c) (iF ((ixD l c) ==n) (iH (.inr (.inr aK))) (iH (.inl (aS.wrap (c+1)))))) (iH (.inr (.inl ())))
def OS(l:List Int)(n:Int):M Bool:=M.els (iG (I1 l n) 0) λ_=>iH aH
theorem RM(H:(OS l n).to r):Fn bK 69 [.bs tInt l,.lit (.int .i64 n)] (.lit (.bool r)):=by
 delta OS at H;try dsimp only at H
 refine AR Tryz.func69 V (by kernel_rfl) V Tryz.ntmps69 λC E=>?_
 simp only[Nat.reduceAdd,Nat.reduceSub,zaa];refine wS (sT (wN ?_));obtain⟨w,s,o,m⟩:=Cz H;refine Bh (β:=(Unit)×(Unit)) (λt=>w= .inl t.1) (λt=>⟨A10 (A8 []),[]⟩) ?_ ?_
 ·refine wS (sT (wN ?_));refine Ad ?_;refine Bu s (λz F=>⟨.bs tInt l::.lit (.int .i64 n)::A3 (.lit (.int .i64 z)::A10 (A2 [])),[]⟩) () (?_) ?_
  ·try dsimp only
   exact AS
  ·rintro D _ B H g;try dsimp only
   dsimp only[I1]at H;refine Ab λv i=>?_
   refine wS (sT (sT (sT (sT (wN ?_)))));refine Ah V (λd=>?_) (λd=>?_)
   ·have H:=AC d H;refine Al ?_;refine i _ ?_;refine nT ?_;refine Ab λu h=>?_
    refine Ad ?_;obtain⟨A,H⟩:=Aj.1 H;refine wS (sT (sT (sX A (sT (sT (sT (wN ?_)))))));refine Ah V (λc=>?_) (λc=>?_)
    ·have H:=AC c H;refine wS (sT (wN ?_));have H:=Ac.2 (m _ (g _ (Ac.1 H).symm).symm);obtain rfl:=Ac.1 H;exact Aw ⟨.inr V,g8 V⟩
    ·have H:=AE c H;refine Al ?_;refine h _ ?_;refine nT ?_;refine wSE (sT (sT (sT (wN ?_))));have k:=Ac.1 H;repeat(first|refine abN ?_|refine asN ?_)
     refine Ap ⟨_,(),k.symm,?_⟩;try dsimp only
     exact AS
   ·have H:=AE d H;refine Ay ?_;repeat(first|refine BC ?_|refine exO (by decide) ?_|refine asE ?_)
    refine exN ?_;have k:=g _ (Ac.1 H).symm;repeat(first|refine abN ?_|refine asN ?_)
    refine Ap ⟨(_,()),k.symm,?_⟩;try dsimp only
    exact AS
 ·rintro⟨_,_⟩ e;try dsimp only at e
  have H:=o _ e;try dsimp only
  refine wS (sT (wN ?_));obtain rfl:=Ac.1 H;exact Aw ⟨.inr V,g8 V⟩
def FX(f:iB)(all:List (List (List Int)))(a:Int)(b:Int)(d:Int):Int->M (Int⊕((Unit)⊕((Int)⊕((Unit)⊕(Bool))))):=λe=>iE (Ch f.blocks d) (iF (aL (e < (((ixD f.blocks d).ins).length:Int))) (iE (Ch f.blocks d) (iE (Ch ((ixD f.blocks d).ins) e) (iD (MA (ixD ((ixD f.blocks d).ins) e)) λc=>iE (!(c.2&&(c.1 ==a))||(Ch all d)) (iE (!(c.2&&(c.1 ==a))||(Ch (ixD all d) (aS.wrap (e+1)))) (iD (iJ (c.2&&(c.1 ==a)) aH (OS (ixD (ixD all d) (aS.wrap (e+1))) b)) λg=>iF (((c.2&&(c.1 ==a))&&g)&&(!((((ixD ((ixD f.blocks d).ins) e).op) ==2)&&(((ixD ((ixD f.blocks d).ins) e).a) ==b)))) (iH (.inr (.inr (.inr (.inr aK))))) (iH (.inl (aS.wrap (e+1))))))))) (iH (.inr (.inl ()))))
def G7(f:iB)(all:List (List (List Int)))(a:Int)(b:Int):Int->M (Int⊕((Unit)⊕(Bool))):=λc=>iF (aL (c < (f.blocks.length:Int))) (M.els (iG (FX f all a b c) 0) λ_=>iH (.inl (aS.wrap (c+1)))) (iH (.inr (.inl ())))
def Mz(f:iB)(all:List (List (List Int)))(a:Int)(b:Int):M Bool:=M.els (iG (G7 f all a b) 0) λ_=>iH aH
theorem TF(H:(Mz f all a b).to r):Fn bK 68 [.agg (Ak f),.bs tInt.slice.slice all,.lit (.int .i64 a),.lit (.int .i64 b)] (.lit (.bool r)):=by
 delta Mz at H;try dsimp only at H
 refine AR Tryz.func68 V (by kernel_rfl) V Tryz.ntmps68 λC hC=>?_
 simp only[Nat.reduceAdd,Nat.reduceSub,zaa];refine wS (sB (sT (wN ?_)));obtain⟨z2,T,Q,O⟩:=Cz H;refine Bh (β:=(Unit)×(Unit)) (λW=>z2= .inl W.1) (λW=>⟨A40 (A20 (A10 (A6 []))),[.dead]⟩) ?_ ?_
 ·refine wS (sT (wN ?_));refine Ad ?_;refine Bu T (λs2 b2=>⟨.any::.bs tInt.slice.slice all::.lit (.int .i64 a)::.lit (.int .i64 b)::.ptr 0 0::A4 (.lit (.int .i64 s2)::A40 (A20 (A6 []))),[.box (Ak f)]⟩) () (?_) ?_
  ·try dsimp only
   exact AS
  ·rintro o _ x2 H w;try dsimp only
   dsimp only[G7]at H;refine Ab λY D=>?_
   refine wS (sT (sT (sT (sT (sT (wN ?_))))));refine Ah V (λm=>?_) (λm=>?_)
   ·have H:=AC m H;refine Al ?_;refine D _ ?_;refine nT ?_;obtain⟨Z,S,P,N⟩:=Cz H;refine Bh (β:=(Unit)×(Unit)) (λU=>Z= .inl U.1) (λU=>⟨.any::.bs tInt.slice.slice all::.lit (.int .i64 a)::.lit (.int .i64 b)::.ptr 0 0::A4 (.lit (.int .i64 o)::A40 (A20 (A6 []))),[.box (Ak f)]⟩) ?_ ?_
    ·refine Ad ?_;refine wS (sT (wN ?_));refine Ad ?_;refine Bu S (λs6 b6=>⟨.any::.bs tInt.slice.slice all::.lit (.int .i64 a)::.lit (.int .i64 b)::.ptr 0 0::A4 (.lit (.int .i64 o)::.lit (.int .i64 s6)::A40 (A20 (A5 []))),[.box (Ak f)]⟩) () (?_) ?_
     ·try dsimp only
      exact AS
     ·rintro z _ x6 H v;try dsimp only
      dsimp only[FX]at H;refine Ab λX B=>?_
      obtain⟨c8,H⟩:=Aj.1 H;refine wS (sT (sT (sT (sT (sX c8 (sT (sT (sT (sT (wN ?_))))))))));refine Ah V (λk=>?_) (λk=>?_)
      ·have H:=AC k H;refine Al ?_;refine B _ ?_;refine nT ?_;refine Ab λL u=>?_
       refine Ad ?_;obtain⟨K,H⟩:=Aj.1 H;obtain⟨J,H⟩:=Aj.1 H;refine wS (sT (sT (sT (sX K (sT (sT (sT (sX J (sT (sA0 ?_))))))))));refine sW ?_;refine wN ?_;obtain⟨c,h,H⟩:=An.1 H;have h:=TI h;refine wS (sT (sC h (sT (sT (sT (sT (sT (wN ?_))))))));obtain⟨I,H⟩:=Aj.1 H;obtain⟨G,H⟩:=Aj.1 H;obtain⟨d,A,H⟩:=An.1 H;refine wS (sT (sT ?_));refine sGt V ?_;refine sGt V ?_;refine sGt V (sT (sT ?_));refine sGt V ?_;refine sGt V ?_;refine Aod V I ?_;refine sGt V ?_;refine sGt V ?_;refine sGt V ?_;refine Aod V G ?_;refine sGt V ?_;refine sGt V ?_;refine sG (g:=(c.2&&(c.1 ==a))) (hg:=Kj V) (hq:=λhg=>by((try simp only[BG hg]);(try simp only[Mn hg]);exact AM V V (RM (iI A hg)) V V)) (ht:=(Ar (Ao (Ao (Ao HT))))) ?_;refine sT (sT ?_);refine sGt V ?_;refine sGt V ?_;refine sGt V ?_;refine sGt V ?_;refine sG (g:=(((c.2&&(c.1 ==a))&&d)&&(((ixD ((ixD f.blocks o).ins) z).op) ==2))) (hg:=Jf V V) (hq:=λhg=>by(have i:=Ga hg;exact Br V (Aq FF) V)) (ht:=(Ar (Ar Gl))) (hk:=?_);refine sG (g:=(((c.2&&(c.1 ==a))&&d)&&(((ixD ((ixD f.blocks o).ins) z).op) ==2))) (hg:=Jf V V) (hq:=λhg=>by(have i:=Ga hg;exact Bf V ((As (As Fr)).trans (BG hg _ _)) V V)) (ht:=(Ar (Ar HT))) (hk:=?_);refine sG (g:=(((c.2&&(c.1 ==a))&&d)&&(((ixD ((ixD f.blocks o).ins) z).op) ==2))) (hg:=Jf V V) (hq:=λhg=>by(have i:=Ga hg;exact AT.move V FF)) (ht:=(Ar (Ar G3))) (hk:=?_);refine sG (g:=(((c.2&&(c.1 ==a))&&d)&&(((ixD ((ixD f.blocks o).ins) z).op) ==2))) (hg:=Jf V V) (hq:=λhg=>by(have i:=Ga hg;exact CD V ((As (As Iu)).trans (BG hg _ _)) ((As (As GB)).trans (BG hg _ _)) V)) (ht:=(Ar (Ar (Ao Gp)))) (hk:=?_);refine sG (g:=((c.2&&(c.1 ==a))&&d)) (hg:=Kj V) (hq:=λhg=>C8 V ((As (As Hg)).trans (BG hg _ _)) ((As (As (Aq Je))).trans (Mn hg _ _)) Ys) (ht:=(Ar (Ar (Ao Iz)))) ?_;refine sGt V (sT (wN ?_));refine Ah V (λe=>?_) (λe=>?_)
       ·have H:=AC e H;refine wS (sT (wN ?_));have H:=Ac.2 (N _ (v _ (Ac.1 H).symm).symm);have H:=Ac.2 (O _ (w _ (Ac.1 H).symm).symm);obtain rfl:=Ac.1 H;exact Aw ⟨.inr V,g8 V⟩
       ·have H:=AE e H;refine Al ?_;refine u _ ?_;refine nT ?_;refine wSE (sT (sT (sT (wN ?_))));have E:=Ac.1 H;repeat(first|refine abN ?_|refine asN ?_)
        refine Ap ⟨_,(),E.symm,?_⟩;try dsimp only
        exact leC (gV (gX _))
      ·have H:=AE k H;refine Ay ?_;repeat(first|refine BC ?_|refine exO (by decide) ?_|refine asE ?_)
       refine exN ?_;have E:=v _ (Ac.1 H).symm;repeat(first|refine abN ?_|refine asN ?_)
       refine Ap ⟨(_,()),E.symm,?_⟩;try dsimp only
       exact AS
    ·rintro⟨_,_⟩ s;try dsimp only at s
     have H:=P _ s;try dsimp only
     refine wSE (sT (sT (sT (wN ?_))));have F:=Ac.1 H;repeat(first|refine abN ?_|refine asN ?_)
     refine Ap ⟨_,(),F.symm,?_⟩;try dsimp only
     exact AS
   ·have H:=AE m H;refine Ay ?_;repeat(first|refine BC ?_|refine exO (by decide) ?_|refine asE ?_)
    refine exN ?_;have F:=w _ (Ac.1 H).symm;repeat(first|refine abN ?_|refine asN ?_)
    refine Ap ⟨(_,()),F.symm,?_⟩;try dsimp only
    exact leC (gW (gX _))
 ·rintro⟨_,_⟩ t;try dsimp only at t
  have H:=Q _ t;try dsimp only
  refine wS (sT (wN ?_));obtain rfl:=Ac.1 H;exact Aw ⟨.inr V,g8 V⟩
def JH(f:iB)(all:List (List (List Int)))(a:Int)(b:Int):M Bool:=iF (a ==b) (iH aH) (iD (Mz f all a b) λe=>iD (iJ (!e) aH (Mz f all b a)) λr5=>iF (e||r5) (iH aK) (iE (!(aL ((all.length:Int) > 0))||(Ch all 0)) (iE (!(aL ((all.length:Int) > 0))||(Ch (ixD all 0) 0)) (iD (iJ (aL ((all.length:Int) > 0)) aH (OS (ixD (ixD all 0) 0) a)) λc=>iE (!((aL ((all.length:Int) > 0))&&c)||(Ch all 0)) (iE (!((aL ((all.length:Int) > 0))&&c)||(Ch (ixD all 0) 0)) (iD (iJ ((aL ((all.length:Int) > 0))&&c) aH (OS (ixD (ixD all 0) 0) b)) λd=>iH (((aL ((all.length:Int) > 0))&&c)&&d)))))))
theorem QS(H:(JH f all a b).to r):Fn bK 34 [.agg (Ak f),.bs tInt.slice.slice all,.lit (.int .i64 a),.lit (.int .i64 b)] (.lit (.bool r)):=by
 delta JH at H;try dsimp only at H
 refine AR Tryz.func34 V (by kernel_rfl) V Tryz.ntmps34 λC F=>?_
 simp only[Nat.reduceAdd,Nat.reduceSub,zaa];refine wS (sB (sT (wN ?_)));refine Ab λu k=>?_
 refine wS (sT (sT (sT (wN ?_))));refine Ah V (λd=>?_) (λd=>?_)
 ·have H:=AC d H;refine wS (sT (wN ?_));obtain rfl:=Ac.1 H;exact Aw ⟨.inr V,g8 V⟩
 ·have H:=AE d H;refine Al ?_;refine k _ ?_;refine nT ?_;refine Ab λt i=>?_
  obtain⟨s,e,H⟩:=An.1 H;have e:=TF e;obtain⟨E,A,H⟩:=An.1 H;refine wS (sT (sT (sT (sT (sC e (sT ?_))))));refine sG (g:=(!s)) (hg:=WG V) (hq:=λhg=>AO V Hg V V) (ht:=(Ao (Ao Kf))) ?_;refine sGf V ?_;refine sGf V ?_;refine sGf V ?_;refine sG (g:=(!s)) (hg:=WG V) (hq:=λhg=>by((try simp only[BG hg]);(try simp only[Mn hg]);exact AM V V (TF (iI A hg)) V V)) (ht:=(Ao (Ao HT))) ?_;refine sT (wN ?_);refine Ah V (λc=>?_) (λc=>?_)
  ·have H:=AC c H;refine wS (sT (wN ?_));obtain rfl:=Ac.1 H;exact Aw ⟨.inr V,g8 V⟩
  ·have H:=AE c H;refine Al ?_;refine i _ ?_;refine nT ?_;obtain⟨D,H⟩:=Aj.1 H;obtain⟨B,H⟩:=Aj.1 H;obtain⟨v,z,H⟩:=An.1 H;obtain⟨o,H⟩:=Aj.1 H;obtain⟨m,H⟩:=Aj.1 H;obtain⟨w,h,H⟩:=An.1 H;refine wS (sT (sT (sT (sT ?_))));refine sGt V ?_;refine Aod V D ?_;refine sGt V ?_;refine Aod V B ?_;refine sGt V ?_;refine sGt V ?_;refine sG (g:=(aL ((all.length:Int) > 0))) (hg:=Kj V) (hq:=λhg=>by((try simp only[BG hg]);(try simp only[Mn hg]);exact AM V V (RM (iI z hg)) V V)) (ht:=(Ar Kf)) ?_;refine sT (sT ?_);refine sGt V ?_;refine Aod V o ?_;refine sGt V ?_;refine Aod V m ?_;refine sGt V ?_;refine sGt V ?_;refine sG (g:=((aL ((all.length:Int) > 0))&&v)) (hg:=Kj V) (hq:=λhg=>by((try simp only[BG hg]);(try simp only[Mn hg]);exact AM V V (RM (iI h hg)) V V)) (ht:=(Ar (Ao IR))) ?_;refine sT (sT (wN ?_));obtain rfl:=Ac.1 H;exact Aw ⟨.inr V,g8 V⟩
noncomputable section
def Aa8(f:iB):M Bool:=iE (NQ f&&aL (Dw.bulk f<=2097152)) (iH (leaf f.blocks))
theorem U1(H:(Aa8 f).to r):Fn bK 24 [.agg (Ak f)] (.lit (.bool r)):=by
 obtain⟨c,H⟩:=Aj.1 H;obtain rfl:=Ac.1 H;rw[aG]at c;have g:=BJ.1 c.1;exact Jw (by kernel_rfl) λw vs e=>by
  obtain⟨v,rfl,d⟩:=Acc e;obtain⟨cs,rfl,hc⟩:=IV d;exact Akg f w cs (RP g.ok hc) (of_decide_eq_true c.2)
def Lu(f:iB):M Bool:=iE (NQ f&&aL (Dw.bulk f<=2097152)) (iH (leaf f.blocks))
theorem QR(H:(Lu f).to r):Fn bK 14 [.agg (Ak f)] (.lit (.bool r)):=by
 obtain⟨c,H⟩:=Aj.1 H;obtain rfl:=Ac.1 H;rw[aG]at c;have g:=BJ.1 c.1;exact Jw (by kernel_rfl) λw vs e=>by
  obtain⟨v,rfl,d⟩:=Acc e;obtain⟨cs,rfl,hc⟩:=IV d;exact Aji f w cs (RP g.ok hc) (of_decide_eq_true c.2)
def Lt(f:iB):M (List Int):=iE (NQ f) (iH (regsB f))
theorem My{r:List Int}(H:(Lt f).to r):Fn bK 32 [.agg (Ak f)] (.bs tInt r):=by
 obtain⟨c,H⟩:=Aj.1 H;obtain rfl:=Ac.1 H;have c:=BJ.1 c;exact Zt f c.ok c.small c.all
def QQ(f:iB)(n:Int)(leaf:Bool):M (List Int):=iE (NQ f) (iH (BD (Ci f) n leaf))
theorem TE{leaf:Bool}{r:List Int}(H:(QQ f n leaf).to r):Fn bK 70 [.agg (Ak f),.lit (.int .i64 n),.lit (.bool leaf)] (.bs tInt r):=by
 obtain⟨c,H⟩:=Aj.1 H;obtain rfl:=Ac.1 H;have c:=BJ.1 c;exact TQ f n leaf c.ok c.small c.reads c.ins
def Ky(x:Ins):M (List Int):=iE (E6 x&&aL (x.args.length<=2097152)) (iH (readsC x))
def IQ(x:Ins):M (Int×Bool):=iE (E6 x) (iH (if Bd x then x.d else 0,Bd x))
theorem Qk{x:Ins}{r:Int×Bool}(H:(IQ x).to r):Fn bK 61 [.agg (BW x)] (.tup [.lit (.int .i64 r.1),.lit (.bool r.2)]):=by
 obtain⟨c,H⟩:=Aj.1 H;obtain rfl:=Ac.1 H;exact FR x (Dz.1 c)
def Axo:List Int->Bool
 | []=>aK
 |x::l=>l.all (λy=>decide (x < y))&&Axo l
theorem Sy:∀{l:List Int},Axo l=aK↔Asc l
 | []=>by simp[Axo,Asc]
 |x::l=>by
  unfold Axo;rw[aG,Sy,dD];unfold Asc;rw[List.pairwise_cons];simp
def CU(l:List Int)(n:Int):M (Int×Bool):=iE (Axo l&&aL (l.length<=2147483648)) (iH (((l.countP (· < n):Nat):Int),l.contains n))
theorem E3{r:Int×Bool}(H:(CU l n).to r):Fn bK 38 [.bs tInt l,.lit (.int .i64 n)] (.tup [.lit (.int .i64 r.1),.lit (.bool r.2)]):=by
 obtain⟨c,H⟩:=Aj.1 H;obtain rfl:=Ac.1 H;rw[aG]at c;exact Tn l n (Sy.1 c.1) (of_decide_eq_true c.2)
end
end Mu
section
namespace Go.Proofs
open Go.Shelf
def Tryz.lays112_ren:Go.Shelf.Ren:=⟨fun|112=>192|n=>n,fun|28=>27|3=>3|0=>0|4=>4|n=>n,fun|n=>n⟩
theorem Tryz.lays112:Go.Proofs.Lays.n112 bK Tryz.lays112_ren:={
 mixed:=by kernel_rfl
 f112:=a8.trans (congrArg jB (by kernel_rfl))
 t0:=bR
 a0:=bC
 z0:=bL
 v0:=bX
 t3:=bT
 a3:=bE
 z3:=bN
 v3:=bZ
 t4:=bU
 a4:=bF
 z4:=bO
 v4:=b9
 t28:=bS
 a28:=bD
 z28:=bM
 v28:=bY}
end Go.Proofs
end
namespace Mu
open Go Go.RowKit Go.Proofs
variable{S:Nat->Prop}{α:Type}{T:Ty α}{β:Type}{T2:Ty β}{b:Int}{cs:List cF}{cur:List Int}{α0:Type}{d:α0}{e:cE}{enc:α0->List AV}{f:iB}{i j k k0:Nat}{l:List Int}{l2:List β}{off:Nat}{p:Int->Bool}{r:List Int}{ty:cE}{ver:Nat}{w:cI}{x:aY}
section
variable{P:aZ}{C:Ctx}{t:List AV}{h:List gI}{o:aX}
theorem Ht{l:List α}(s:o.op= .nilCheck x)(hx:evA t x= .rp i ver k off)(hi:h[i]? =jB (.row ver e T l)):AT P C t h o (.rp i ver k off):=
 AL λS ψ w ρ _ m=>by
  have h1:=m x (by simp[s,Op.operands]);rw[hx]at h1;have h2:=h1;unfold gQ at h1;obtain⟨g,n,c,_,u⟩:=(h1.2 _ (by rw[hi];rfl)).2 V;rw[u]at h2;exact⟨.pointer (jB ⟨g,k * Fo h[i]?+off,jA⟩),by simp[execOp,s,u],h2⟩
theorem Ah0.bs{T:Ty α0}[EncOf T enc]{m:α0}(A:off+1<=T.size)(B:(enc d).take off++[.bs T2 l2]++(enc d).drop (off+1)=enc m)
 (c:∀(w:cI) (S:Nat->Prop) (cs:List cF),Af w S [] ψ0 (enc m) cs->T.RS w S cs m):Ah0 h T d off (.bs T2 l2) 1 m:=λC S ψ w v cs H s z=>by
 have h1:v.oneCell'=aK:=One.bs (h:=h) (T:=T2) (l:=l2) C S ψ w v H s;have u:v.cells.toList= [v]:=by rw[Ho h1]
 refine⟨by rw[u];rfl,A,λx hx=>by rw[u]at hx;rw[fK.1 hx];exact h1,c w S _ ?_⟩;have g:Af w S [] ψ0 (enc d) cs:=EncOf.ok (T:=T) (enc:=enc) w S [] ψ0 cs d z;rw[<-B,u];refine BK (BK (Lo g off) ?_) (Lp g (off+1));unfold Af;refine⟨v,[],rfl,by unfold gQ at s⊢;exact s,?_⟩;unfold Af;rfl
theorem Ab1{T:Ty α0}[EncOf T enc]{y:aY}{l:List α0}{K:St->Prop}(g:α0)[SZ P ty 1](v:o.op= .store ty x y)(hx:evA t x= .rp i ver k off)(u:evA t y= .bs T2 l2)(hi:h[i]? =jB (.row ver e T l))(hk:l[k]? =jB d)
 (m:off+1<=T.size)(z:(enc d).take off++[.bs T2 l2]++(enc d).drop (off+1)=enc g)(c:∀(w:cI) (S:Nat->Prop) (cs:List cF),Af w S [] ψ0 (enc g) cs->T.RS w S cs g)
 (A:K ⟨Bn t o.dst (.lit undef),h.set i (.row ver e T (l.set k g))⟩):AOp P C o ⟨t,h⟩ K:=
 NG (s:=⟨t,h⟩) v hx hi hk (by rw[show evA (St.mk t h).t y=_ from u];exact Ah0.bs m z c) SZ.eq A
theorem Amh{z:aY}{ik:IntKind}{n:Nat}{l:List α}{K:St->Prop}[ES P ty n](m:o.op= .slice ty x jA (jB z) jA)(hx:evA t x= .own i ver)(hi:h[i]? =jB (.row ver e T l))(g:T.size=n)(c:evA t z= .lit (.int ik b))(hc:slB l 0 b=aK)
 (s:K ⟨Bn t o.dst (.own i (ver+1)),h.set i (.row (ver+1) e T (l.take b.toNat))⟩):AOp P C o ⟨t,h⟩ K:=by
 obtain⟨h1,h2,u⟩:=Adq.1 hc;exact M7 m hx hi g (Ah7 c h2) u s
end
theorem V6{base:Nat}{v:cF}{zs:List Int}(c:Gj w base v zs)(F:zs.length<=2147483648):
 aM bK 192 #[v] w λe w'=>e= .returned (.tuple #[])/\Gj w' base v zs.reverse/\w.grownBy w' v.ownBlock:=by
 rcases c.2 with⟨rfl,h0⟩|⟨g,cap,cur,rfl,m,B,h1,h2,E,D⟩
 ·have:zs= []:=dM h0;subst this;refine(Any.slices_Reverse_int_empty Tryz.lays112 _ _ _).mono λe w' ⟨u,s⟩=>?_
  subst s;exact⟨u,by simpa using c,World.grownBy.refl _ _⟩
 ·refine(Any.slices_Reverse_int Tryz.lays112 g 0 cap zs w (JT B D) (by omega)).mono λe w' ⟨u,z,s⟩=>?_
  subst s;have A:=ownsRow_sortedI (os:=#[]) (n:=z) (ts:=zs.reverse) (ss:=zs) (by simp) m B h1 h2 E;have hg:=grownBy_sortedI (w:=w) (g:=g) (n:=z) (os:=#[]) zs.reverse.toArray;rw[Go.Sort.grow_empty]at A hg;exact⟨u,.of A (by simp) V,hg⟩
section
variable{C:Ctx}{t:List AV}{h:List gI}{o:aX}{K:St->Prop}
theorem Ab2{D:Array cE}(G:o.op= .call {callee:=.value (.func 192),args:=#[x],argTypes:=D})(hx:evA t x= .own i ver)(hi:h[i]? =jB (.row ver 3 tInt l))(O:l.length<=2147483648)
 (U:K ⟨Bn t o.dst .any,h.set i (.row ver 3 tInt l.reverse)⟩):AOp bK C o ⟨t,h⟩ K:=by
 rintro Q' a w ⟨Q,S,ψ,H,z⟩;refine⟨λc e=>(by rw[G]at e;cases e),?_⟩;have u:=Bw z x;rw[show evA (St.mk t h).t x= .own i ver from hx]at u;unfold gQ at u;have L:=(u.2 _ (by rw[hi];rfl)).2 V;have B:=H.blk i _ hi;have v:=B.lt V;obtain⟨I,J⟩:=JC B;unfold Oper.wp;rw[Ct G (by kernel_rfl) a.eval w V];simp only[Oper.upon];rw[show(#[x].map a.eval)= #[ψ i]from by simp[L]];refine(V6 I O).mono ?_;rintro r w' ⟨rfl,F,E⟩;have m:w.grownBy w' (Bv (ψ i)):=by
  have e:Bv (ψ i)=(ψ i).ownBlock:=by
   rcases I.2 with⟨e,_⟩|⟨g,cap,cur,e,_⟩ <;> rw[e] <;> rfl
  rw[e];exact E
 have A:∀k,S k->w'.heap[k]? =w.heap[k]?:=λk hk=>m.block k (H.lt k hk) λe=>(v k e.symm).2.2 hk
 have X:Ext w S h ψ w' S (h.set i (.row ver 3 tInt l.reverse)) (Bo ψ i (ψ i)):=gZ A hi (λW hc=>by
  simp only[gN,jC]at hc;exact⟨ver,rfl,by omega,λ_=>⟨rfl,rfl⟩⟩) λh=>by simp[AZ]at h
 exact⟨_,U,Is (s:=⟨t,h⟩) hi Q z (H.set hi V (Bs m) X (LF F (λr N=>J r (List.mem_reverse.1 N)) λg hg=>⟨(v g (AU hg)).1,(v g (AU hg)).2.2⟩) λg hg=>.inl hg) X (by unfold gQ;trivial)⟩
end
theorem CL:∀(w:cI) (S S':Nat->Prop) (cs:List cF) (d:Int),tInt.RS w S cs d->tInt.RS w S' cs d:=λ_ _ _ _ _ h=>DH.2 (DH.1 h)
noncomputable section
structure FStep where
 b:Int
 next:List Int
def Lg:Ty FStep:=(tInt.cons (tInt.slice.cons DE)).via (λx=>⟨x.1,x.2.1⟩) (λd=>(d.b,d.next,()))
theorem XJ{x:FStep}:Lg.RS w S cs x↔∃c:cF,cs= [.int .i64 x.b,c]/\wfI .i64 x.b/\tInt.slice.RS w S [c] x.next:=by
 constructor
 ·rintro⟨⟨_,_,rfl,⟨rfl,h0⟩,_,_,rfl,h1,rfl⟩,_⟩;have g:=h1;obtain⟨s,m,rfl,_⟩:=h1;exact⟨_,rfl,h0,g⟩
 ·rintro⟨c,rfl,h0,h1⟩;exact⟨⟨[_],_,rfl,⟨rfl,h0⟩,[_],_,rfl,h1,rfl⟩,rfl⟩
@[reducible] def GD(x:FStep):List AV:=[.lit (.int .i64 x.b),.bs tInt x.next]
theorem UM:Enc Lg GD:=by
 intro w S h ψ cs d H;obtain⟨c,rfl,h0,h1⟩:=XJ.1 H;simp only[GD,Af,gQ];exact⟨_,_,rfl,rfl,_,_,rfl,h1,rfl⟩
theorem ZJ:SU Lg:=EE UM λd x hx=>by
 simp only[GD,or_false,zai]at hx;rcases hx with rfl|rfl <;> first|exact .inl ⟨_,rfl,rfl⟩|exact .inr ⟨_,_,_,rfl⟩
instance Ayg:EncOf Lg GD:=⟨UM,ZJ,by decide⟩
structure okFStep(x:FStep):Prop where
 b:wfI .i64 x.b
theorem TM{h:List gI}{ψ:Nat->cF}{x:FStep}(c:okFStep x)(H:Af w S h ψ (GD x) cs):Lg.RS w S cs x:=by
 simp only[GD,Af,gQ]at H;obtain⟨_,_,rfl,rfl,_,_,rfl,h1,rfl⟩:=H;exact XJ.2 ⟨_,rfl,c.b,h1⟩
instance Ayf:Inhabited FStep:=⟨⟨0,[]⟩⟩
def Gu(x:FStep):Bool:=wfB .i64 x.b
theorem O8{x:FStep}(h:Gu x=aK):okFStep x:=by
 unfold Gu at h;exact⟨h⟩
theorem UF{h:List gI}{x:FStep}(hk:Gu x=aK):Fit h Lg (.agg (GD x)) x:=Ol (enc:=GD) λ_ _ _ _ H=>TM (O8 hk) H
theorem Aes:Ep bK 206=jB [(0,1),(1,1)]:=by kernel_rfl
instance Aye:FO bK 206 0 0:=⟨by kernel_rfl⟩
instance Ayd:FO bK 206 1 1:=⟨by kernel_rfl⟩
instance Ayc:ZC bK 206 [.int .i64 0,.slice jA 0 0]:=⟨by kernel_rfl⟩
instance Aw4:ES bK 207 2:=⟨by kernel_rfl⟩
instance Aw3:SL bK 207:=⟨by kernel_rfl⟩
instance Aw2:RT bK 207 206 2 32:=⟨by kernel_rfl⟩
def Pw(f:iB)(b:Int):M (List Int):=iE (NQ f) (iH (nextL f b))
theorem Pv(H:(Pw f b).to r):Fn bK 190 [.agg (Ak f),.lit (.int .i64 b)] (.bs tInt r):=by
 obtain⟨c,H⟩:=Aj.1 H;obtain rfl:=Ac.1 H;have g:=BJ.1 c;exact UC f b g.ok g.small.blocks λb m=>(g.small.all b m).ins
def Fz(f:iB)(c:Int):((List Bool)×(List FStep)×(List Int))->M (((List Bool)×(List FStep)×(List Int))⊕((List Int))):=λ(l8,l10,l12)=>iF (aL ((l10.length:Int) > 0)) (iE (Ch l10 (aS.wrap ((l10.length:Int) - 1))) (iF ((((ixD l10 (aS.wrap ((l10.length:Int) - 1))).next).length:Int) ==0) (iE (wfB .i64 ((ixD l10 (aS.wrap ((l10.length:Int) - 1))).b)) (iE (Fj (l12.length+ [(ixD l10 (aS.wrap ((l10.length:Int) - 1))).b].length) 8) (iE (slB l10 0 (aS.wrap ((l10.length:Int) - 1))) (iH (.inl (l8,fV (dB (aS.wrap ((l10.length:Int) - 1))) l10,l12++[(ixD l10 (aS.wrap ((l10.length:Int) - 1))).b])))))) (iE (Ch ((ixD l10 (aS.wrap ((l10.length:Int) - 1))).next) 0) (iE (slB ((ixD l10 (aS.wrap ((l10.length:Int) - 1))).next) 1 (((ixD l10 (aS.wrap ((l10.length:Int) - 1))).next).length:Int)) (iE (Gu ⟨(ixD l10 (aS.wrap ((l10.length:Int) - 1))).b,slD ((ixD l10 (aS.wrap ((l10.length:Int) - 1))).next) 1 (((ixD l10 (aS.wrap ((l10.length:Int) - 1))).next).length:Int)⟩) (iE (Ch l8 (ixD ((ixD l10 (aS.wrap ((l10.length:Int) - 1))).next) 0)) (iF ((!(ixD l8 (ixD ((ixD l10 (aS.wrap ((l10.length:Int) - 1))).next) 0)))&&((ixD ((ixD l10 (aS.wrap ((l10.length:Int) - 1))).next) 0) !=c)) (iE (Ch l8 (ixD ((ixD l10 (aS.wrap ((l10.length:Int) - 1))).next) 0)) (iD (Pw f (ixD ((ixD l10 (aS.wrap ((l10.length:Int) - 1))).next) 0)) λg=>iE (Gu ⟨ixD ((ixD l10 (aS.wrap ((l10.length:Int) - 1))).next) 0,g⟩) (iE (Fj ((l10.set (dB (aS.wrap ((l10.length:Int) - 1))) ⟨(ixD l10 (aS.wrap ((l10.length:Int) - 1))).b,slD ((ixD l10 (aS.wrap ((l10.length:Int) - 1))).next) 1 (((ixD l10 (aS.wrap ((l10.length:Int) - 1))).next).length:Int)⟩).length+([⟨ixD ((ixD l10 (aS.wrap ((l10.length:Int) - 1))).next) 0,g⟩]:List FStep).length) 32) (iH (.inl (l8.set (dB (ixD ((ixD l10 (aS.wrap ((l10.length:Int) - 1))).next) 0)) aK,(l10.set (dB (aS.wrap ((l10.length:Int) - 1))) ⟨(ixD l10 (aS.wrap ((l10.length:Int) - 1))).b,slD ((ixD l10 (aS.wrap ((l10.length:Int) - 1))).next) 1 (((ixD l10 (aS.wrap ((l10.length:Int) - 1))).next).length:Int)⟩)++([⟨ixD ((ixD l10 (aS.wrap ((l10.length:Int) - 1))).next) 0,g⟩]:List FStep),l12)))))) (iH (.inl (l8,l10.set (dB (aS.wrap ((l10.length:Int) - 1))) ⟨(ixD l10 (aS.wrap ((l10.length:Int) - 1))).b,slD ((ixD l10 (aS.wrap ((l10.length:Int) - 1))).next) 1 (((ixD l10 (aS.wrap ((l10.length:Int) - 1))).next).length:Int)⟩,l12)))))))))) (iH (.inr l12))
def E9(f:iB)(c:Int):M (List Int):=iF (((f.blocks.length:Int) ==0)||(c ==0)) (iH ([]:List Int)) (iE (VO (f.blocks.length:Int) 1) (iE (Ch (fT (dB (f.blocks.length:Int)) aH) 0) (iD (Pw f 0) λm=>iE (Gu ⟨0,m⟩) (iD (iG (Fz f c) ((fT (dB (f.blocks.length:Int)) aH).set (dB 0) aK,[⟨0,m⟩],([]:List Int))) λg=>iH g))))
theorem Pu{c:Int}(H:(E9 f c).to r):Jv bK 179 [.agg (Ak f),.lit (.int .i64 c)] 3 tInt r:=by
 delta E9 at H;try dsimp only at H
 refine Ef Tryz.func179 V (by kernel_rfl) V Tryz.ntmps179 CL λC hC=>?_
 simp only[Nat.reduceAdd,Nat.reduceSub,zaa];refine wS (sB (sT (wN ?_)));refine Ab λam ab=>?_
 refine wS (sT (sT (sT (sT (sT ?_)))));refine sGf V ?_;refine sGf V (sT (wN ?_));refine Ah V (λI=>?_) (λI=>?_)
 ·have H:=AC I H;refine wS (sT (wN ?_));obtain rfl:=Ac.1 H;refine AJ _ (EA 4 3 tInt V (by decide)) ?_;exact Aw ⟨.inr V,rfl,1,0,rfl,rfl⟩
 ·have H:=AE I H;refine Al ?_;refine ab _ ?_;refine nT ?_;refine wS (sT (wN ?_));obtain⟨c3,H⟩:=Aj.1 H;refine wS (sT (sT (sT ?_)));(refine AF V (P9 1 V (T:=iP) (e:=4) (v:=.bool aH) (bytes:=1) (aH:Bool) V (by kernel_rfl) V (λ_ _=>rfl) V V c3 ?_);refine D2 ?_ (Ao (Ao Gl)));refine sT (wN ?_);obtain⟨c4,H⟩:=Aj.1 H;refine wS (sT ?_);refine sA ?_ (Ca V (Aq (Aq Iu)) V Ys V c4) (Ao (Ao G3));(refine AF V (Dt V V V (BS c4) hZ V ?_);refine D2 ?_ RG);refine wN ?_;obtain⟨r5,k5,H⟩:=An.1 H;have k5:=Pv k5;obtain⟨c6,H⟩:=Aj.1 H;refine wS (sT (sC k5 ?_));refine sA ?_ (BO (rs:=[.lit (.int .i64 0),.bs tInt r5]) V Aes V V) (Ao (Ao (Ao Kf)));(refine AF V (SN 2 V (xs:=[.tmp 26]) (T:=Lg) (ds:=[⟨0,r5⟩]) V V V (RT.eq (n:=2) (bytes:=32)) (by decide) (by decide) (.cons (UF c6) .nil) ?_);refine D2 ?_ (Ao (Ao (Ao IR))));refine sT (wN ?_);refine AJ _ (EA 5 3 tInt V (by decide)) ?_;obtain⟨Y,X,W⟩:=An.1 H;refine Bh (β:=((List Int))×(Nat)) (λu=>Y=u.1) (λu=>⟨A5 (.own 3 u.2::A80 (A4 [])),[.dead,.dead,.dead,.row u.2 3 tInt u.1]⟩) ?_ ?_
  ·refine Ad ?_;refine Bu X (λF s=>⟨.any::.lit (.int .i64 c)::.ptr 0 0::A2 (.own 3 s.2.2::.own 1 s.1::.own 2 s.2.1::A80 (A2 [])),[.box (Ak f),.row s.1 4 iP F.1,.row s.2.1 206 Lg F.2.1,.row s.2.2 3 tInt F.2.2]⟩) (0,0,0) (?_) ?_
   ·try dsimp only
    exact AS
   ·rintro⟨l8,l10,ap⟩ ⟨v7,Z,D⟩ an H U;try dsimp only
    dsimp only[Fz]at H;refine Ab λal N=>?_
    refine wS (sT (sT (sT (wN ?_))));refine Ah V (λB=>?_) (λB=>?_)
    ·have H:=AC B H;refine Al ?_;refine N _ ?_;refine nT ?_;refine Ad ?_;obtain⟨m,H⟩:=Aj.1 H;refine wS (sT (sT (sT (sT ?_))));refine sA ?_ (Ca V (Aq (Aq (Aq GB))) V (As Gi) V m) (Ar IR);refine sT (wN ?_);refine Ab λak L=>?_
     refine wS (sT ?_);refine sA ?_ (Ht V (As Hg) V) (Ar Gl);refine sA ?_ (CG V (As Fr) V) (Ar HT);refine sA ?_ (Bq V (As Iu) V (BS m) V) (Ar G3);refine sT (sT (wN ?_));refine Ah V (λA=>?_) (λA=>?_)
     ·have H:=AC A H;obtain⟨aj,H⟩:=Aj.1 H;obtain⟨ai,H⟩:=Aj.1 H;refine wS (sT (sT ?_));refine sA ?_ (Ht V (As (Aq FF)) V) (Ar (Ao JB));refine sA ?_ (CG V (As (Aq Hg)) V) (Ar (Ao Gl));refine sA ?_ (Bq V (As (Aq Fr)) V (BS m) V) (Ar (Ao HT));refine sA (hq:=AT.lt (xs:=[.tmp 46]) (T:=tInt) (ds:=[(ixD l10 (aS.wrap ((l10.length:Int) - 1))).b]) V V V (by rfl) (by decide) (.cons (iA aj) .nil)) (ht:=(Ar (Ao G3))) (hk:=?_);refine sP ai (sT (wN ?_));obtain⟨ah,H⟩:=Aj.1 H;refine wS (sT (sT (sT (sT ?_))));(refine AF V (Amh V V V V V ah ?_);refine D2 ?_ (Ar (Ao (Ao Gl))));refine sT (wN ?_);refine Ay ?_;repeat(first|refine BC ?_|refine exO (by decide) ?_|refine asE ?_)
      refine exN ?_;have g:=Ac.1 H;repeat(first|refine abN ?_|refine asN ?_)
      refine Ap ⟨_,(v7,Z+1,D+1),g.symm,?_⟩;try dsimp only
      exact AS
     ·have H:=AE A H;refine Al ?_;refine L _ ?_;refine nT ?_;obtain⟨ag,H⟩:=Aj.1 H;refine wS (sT ?_);refine sA ?_ (Ht V (As (Aq (Aq Iu))) V) (Ar (Ao (Ao G3)));refine sA ?_ (CG V (As (Aq (Aq GB))) V) (Ar (Ao (Ao (Ao Gp))));refine sA ?_ (Bq V (As (Aq (Aq (Aq Je)))) V (BS m) V) (Ar (Ao (Ao (Ao Iz))));refine sX ag (sT (sT (wN ?_)));obtain⟨af,H⟩:=Aj.1 H;obtain⟨ae,H⟩:=Aj.1 H;refine wS (sT (sT ?_));refine sA ?_ (Ht V (As (Aq (Aq (Aq Fr)))) V) (Ar (Ao (Ao (Ao HT))));refine sA ?_ (CG V (As (Aq (Aq (Aq Iu)))) V) (Ar (Ao (Ao (Ao G3))));refine sA ?_ (Bq V (As (Aq (Aq (Aq GB)))) V (BS m) V) (Ar (Ar Gp));refine sA ?_ (Abm V (As (As Je)) V Ys af) (Ar (Ar Iz));refine sA ?_ (Ht V (As (Aq (Aq (Aq Hg)))) V) (Ar (Ar Kf));refine sA ?_ (CG V (As (As Gi)) V) (Ar (Ar IR));(refine AF V (Ab1 ⟨(ixD l10 (aS.wrap ((l10.length:Int) - 1))).b,slD ((ixD l10 (aS.wrap ((l10.length:Int) - 1))).next) 1 (((ixD l10 (aS.wrap ((l10.length:Int) - 1))).next).length:Int)⟩ V V V V (BS m) (by decide) V (λ_ _ _ hr=>TM (O8 ae) hr) ?_);refine D2 ?_ RG);refine wN ?_;obtain⟨Q,H⟩:=Aj.1 H;refine wS (sT (sT ?_));refine sA ?_ (Ca V (As (As Hg)) V (As (As Fr)) V Q) (Ar (Ar HT));refine sA ?_ (Bq V (As (As Iu)) V (BS Q) V) (Ar (Ar G3));refine sT (sT ?_);refine sGt V ?_;refine sGt V ?_;refine sGt V (sT (wN ?_));refine Ah V (λz=>?_) (λz=>?_)
      ·have H:=AC z H;obtain⟨O,H⟩:=Aj.1 H;refine wS (sT (sT ?_));refine sA ?_ (Ca V (As (As (Aq Iu))) V (As (As (Aq GB))) V O) (Ar (Ar (Ao (Ao Gp))));(refine AF V (Dt V V V (BS O) hZ V ?_);refine D2 ?_ RG);refine wN ?_;obtain⟨J,G,H⟩:=An.1 H;have G:=Pv G;obtain⟨ad,H⟩:=Aj.1 H;obtain⟨ac,H⟩:=Aj.1 H;refine wSE (sT (sT (sT (sT (sC G ?_)))));refine sA (hq:=BO (rs:=[.lit (.int .i64 (ixD ((ixD l10 (aS.wrap ((l10.length:Int) - 1))).next) 0)),.bs tInt J]) V Aes V V) (ht:=(Ar (Ar (Ao (Ao HT))))) (hk:=?_);refine sA (hq:=AT.lt (xs:=[.tmp 86]) (T:=Lg) (ds:=[⟨ixD ((ixD l10 (aS.wrap ((l10.length:Int) - 1))).next) 0,J⟩]) V V V (by rfl) (by decide) (.cons (UF ad) .nil)) (ht:=(Ar (Ar (Ao (Ao G3))))) (hk:=?_);refine sP ac (sT (wN ?_));have g:=Ac.1 H;repeat(first|refine abN ?_|refine asN ?_)
       refine Ap ⟨_,(v7,Z+1,D),g.symm,?_⟩;try dsimp only
       exact AS
      ·have H:=AE z H;refine Al ?_;have g:=Ac.1 H;repeat(first|refine abN ?_|refine asN ?_)
       refine Ap ⟨_,(v7,Z,D),g.symm,?_⟩;try dsimp only
       exact AS
    ·have H:=AE B H;refine Ay ?_;repeat(first|refine BC ?_|refine exO (by decide) ?_|refine asE ?_)
     refine exN ?_;have g:=U _ (Ac.1 H).symm;repeat(first|refine abN ?_|refine asN ?_)
     refine Ap ⟨(_,D),g.symm,?_⟩;try dsimp only
     exact leC (gW (gW (gW (gV (gX _)))))
  ·rintro⟨ao,aa⟩ E;try dsimp only at E
   have H:=W;rw[E]at H;try dsimp only
   refine wS (sT (sT (wN ?_)));obtain rfl:=Ac.1 H;exact Aw ⟨.inr V,rfl,3,aa,rfl,rfl⟩
def Ev(r2:List Int):(Int×(List Bool))->M ((Int×(List Bool))⊕((List Bool))):=λ(x3,l5)=>iF (aL (x3 < (r2.length:Int))) (iE (Ch r2 x3) (iE (Ch l5 (ixD r2 x3)) (iH (.inl (aS.wrap (x3+1),l5.set (dB (ixD r2 x3)) aK))))) (iH (.inr l5))
def GC(f:iB):M (List Bool):=iE (VO (f.blocks.length:Int) 1) (iD (E9 f (-1)) λr2=>iD (iG (Ev r2) (0,fT (dB (f.blocks.length:Int)) aH)) λc=>iH c)
theorem Qn{r:List Bool}(H:(GC f).to r):Fn bK 159 [.agg (Ak f)] (.bs iP r):=by
 delta GC at H;try dsimp only at H
 refine AR Tryz.func159 V (by kernel_rfl) V Tryz.ntmps159 λC hC=>?_
 simp only[Nat.reduceAdd,Nat.reduceSub,zaa];refine wS (sB (sT (wN ?_)));obtain⟨W,H⟩:=Aj.1 H;refine wS (sT (sT (sT ?_)));(refine AF V (P9 1 V (T:=iP) (e:=4) (v:=.bool aH) (bytes:=1) (aH:Bool) V (by kernel_rfl) V (λ_ _=>rfl) V V W ?_);refine D2 ?_ (Ao Iz));refine sT (wN ?_);obtain⟨r2,D,H⟩:=An.1 H;have D:=Pu D;obtain⟨Q,L,J⟩:=An.1 H;refine Bh (β:=((List Bool))×(Nat)) (λg=>Q=g.1) (λg=>⟨A3 (.own 1 g.2::A10 (A8 [])),[.dead,.row g.2 4 iP g.1,.dead]⟩) ?_ ?_
 ·refine wS (sT ?_);(refine AF V (Du 2 V V D (by decide) CL (.cons (.cl V) (.cons (.cl V) .nil)) ?_);refine D2 ?_ (Ao IR));refine sT (sT (wN ?_));refine Ad ?_;refine Bu L (λO B=>⟨A3 (.own 1 B.1::A7 (.own 2 B.2::.lit (.int .i64 (r2.length:Int))::.lit (.int .i64 O.1)::A8 [])),[.dead,.row B.1 4 iP O.2,.row B.2 3 tInt r2]⟩) (0,0) (?_) ?_
  ·try dsimp only
   exact leC (gW (gV (gV (gX _))))
  ·rintro⟨Y,l5⟩ ⟨N,U⟩ X H I;try dsimp only
   dsimp only[Ev]at H;refine wS (sT (wN ?_));refine Ab λG u=>?_
   refine Ah V (λc=>?_) (λc=>?_)
   ·have H:=AC c H;refine Al ?_;refine u _ ?_;refine nT ?_;refine Ab λF s=>?_
    refine Ad ?_;obtain⟨A,H⟩:=Aj.1 H;refine wS ?_;refine sA ?_ (Ca V (Aq FF) V (Aq Fr) V A) (Ao G3);refine sA ?_ (Bq V (Aq GB) V (BS A) V) (Ao (Ao Gp));refine sT (wN ?_);obtain⟨z,H⟩:=Aj.1 H;refine wSE (sT (sT ?_));refine sA ?_ (Ca V (Aq (Aq FG)) V (Aq (Aq Gi)) V z) (Ao (Ao IR));(refine AF V (Dt V V V (BS z) hZ V ?_);refine D2 ?_ RG);refine wN ?_;refine s _ ?_;refine nT ?_;refine wSE (sT (sT (wN ?_)));have E:=Ac.1 H;repeat(first|refine abN ?_|refine asN ?_)
    refine Ap ⟨_,(N,U),E.symm,?_⟩;try dsimp only
    exact AS
   ·have H:=AE c H;refine Ay ?_;repeat(first|refine BC ?_|refine exO (by decide) ?_|refine asE ?_)
    refine exN ?_;have E:=I _ (Ac.1 H).symm;repeat(first|refine abN ?_|refine asN ?_)
    refine Ap ⟨(_,N),E.symm,?_⟩;try dsimp only
    exact leC (gV (gV (gW (gX _))))
 ·rintro⟨l9,Z⟩ m;try dsimp only at m
  have H:=J;rw[m]at H;try dsimp only
  refine wS (sT (sT (wN ?_)));obtain rfl:=Ac.1 H;exact Aw ⟨.inr V,g9 V⟩
def JU(f:iB):M (List Int):=iD (E9 f (-1)) λr1=>iE (aL (r1.length<=2147483648)) (iH (List.reverse r1))
theorem UD(H:(JU f).to r):Fn bK 186 [.agg (Ak f)] (.bs tInt r):=by
 delta JU at H;try dsimp only at H
 refine AR Tryz.func186 V (by kernel_rfl) V Tryz.ntmps186 λC m=>?_
 simp only[Nat.reduceAdd,Nat.reduceSub,zaa];refine wS (sB (sT (wN ?_)));obtain⟨r1,c,H⟩:=An.1 H;have c:=Pu c;refine wS (sT ?_);(refine AF V (Du 1 V V c (by decide) CL (.cons (.cl V) (.cons (.cl V) .nil)) ?_);refine D2 ?_ Gl);refine sT (wN ?_);obtain⟨g,H⟩:=Aj.1 H;refine wS (sT ?_);(refine AF V (Ab2 V V V (of_decide_eq_true g) ?_);refine D2 ?_ G3);refine wN ?_;refine wS (sT (sT (wN ?_)));obtain rfl:=Ac.1 H;exact Aw ⟨.inr V,g9 V⟩
def DS(a:List Int)(g:List Int):(Int×(List Int))->M ((Int×(List Int))⊕((List Int))):=λ(x1,l3)=>iF (aL (x1 < (a.length:Int))) (iD (iE (Ch a x1) (iD (CU g (ixD a x1)) λc=>iF c.2 (iE (wfB .i64 (ixD a x1)) (iE (Fj (l3.length+ [ixD a x1].length) 8) (iH (l3++[ixD a x1])))) (iH l3))) λl10=>iH (.inl (aS.wrap (x1+1),l10))) (iH (.inr l3))
def FZ(a:List Int)(c:List Int):M (List Int):=iD (iG (DS a c) (0,([]:List Int))) λg=>iH g
theorem Sh{a:List Int}{m:List Int}(H:(FZ a m).to r):Jv bK 187 [.bs tInt a,.bs tInt m] 3 tInt r:=by
 delta FZ at H;try dsimp only at H
 refine Ef Tryz.func187 V (by kernel_rfl) V Tryz.ntmps187 CL λC hC=>?_
 simp only[Nat.reduceAdd,Nat.reduceSub,zaa];refine wS (sT (wN ?_));refine wS (sT (wN ?_));refine AJ _ (EA 5 3 tInt V (by decide)) ?_;obtain⟨z4,W,U⟩:=An.1 H;refine Bh (β:=((List Int))×(Nat)) (λA=>z4=A.1) (λA=>⟨A5 (.own 0 A.2::A20 (A3 [])),[.row A.2 3 tInt A.1]⟩) ?_ ?_
 ·refine wS (sT (sT (sT (wN ?_))));refine Ad ?_;refine Bu W (λY Z=>⟨.any::.bs tInt m::A3 (.own 0 Z::A4 (.bs tInt a::.lit (.int .i64 (a.length:Int))::.lit (.int .i64 Y.1)::A10 (A6 []))),[.row Z 3 tInt Y.2]⟩) 0 (?_) ?_
  ·try dsimp only
   exact AS
  ·rintro⟨X,l3⟩ G x4 H Q;try dsimp only
   dsimp only[DS]at H;refine wS (sT (wN ?_));refine Ab λaa I=>?_
   refine Ah V (λv=>?_) (λv=>?_)
   ·have H:=AC v H;refine Al ?_;refine I _ ?_;refine nT ?_;obtain⟨F,E,D⟩:=An.1 H;refine Bh (β:=((List Int))×(Nat)) (λc=>F=c.1) (λc=>⟨.any::.bs tInt m::A3 (.own 0 c.2::A4 (.bs tInt a::.lit (.int .i64 (a.length:Int))::.lit (.int .i64 X)::A10 (A6 []))),[.row c.2 3 tInt c.1]⟩) ?_ ?_
    ·have H:=E;refine Ad ?_;obtain⟨O,H⟩:=Aj.1 H;refine wS (sX O (sT (sT (wN ?_))));obtain⟨ab,u,H⟩:=An.1 H;have u:=E3 u;refine wS (sT (sT (sC u (sT (sT (sT (sT (sT (wN ?_)))))))));refine wS (sT (wN ?_));refine Ah V (λg=>?_) (λg=>?_)
     ·have H:=AC g H;obtain⟨N,H⟩:=Aj.1 H;obtain⟨L,H⟩:=Aj.1 H;refine wSE (sT (sT ?_));refine sA ?_ (AT.lt (xs:=[.tmp 24]) (T:=tInt) (ds:=[ixD a X]) V V V (by rfl) (by decide) (.cons (iA N) .nil)) (Ao (Ao (Ao Iz)));refine sP L (sT (wN ?_));have z:=Ac.1 H;repeat(first|refine abN ?_|refine asN ?_)
      refine Ap ⟨(_,G+1),z.symm,?_⟩;try dsimp only
      exact AS
     ·have H:=AE g H;refine Al ?_;have z:=Ac.1 H;repeat(first|refine abN ?_|refine asN ?_)
      refine Ap ⟨(_,G),z.symm,?_⟩;try dsimp only
      exact AS
    ·rintro⟨l10,v9⟩ s;try dsimp only at s
     have H:=D;rw[s]at H;try dsimp only
     refine wSE (sT (sT (wN ?_)));have J:=Ac.1 H;repeat(first|refine abN ?_|refine asN ?_)
     refine Ap ⟨_,v9,J.symm,?_⟩;try dsimp only
     exact AS
   ·have H:=AE v H;refine Ay ?_;repeat(first|refine BC ?_|refine exO (by decide) ?_|refine asE ?_)
    refine exN ?_;have J:=Q _ (Ac.1 H).symm;repeat(first|refine abN ?_|refine asN ?_)
    refine Ap ⟨(_,G),J.symm,?_⟩;try dsimp only
    exact AS
 ·rintro⟨l6,v5⟩ B;try dsimp only at B
  have H:=U;rw[B]at H;try dsimp only
  refine wS (sT (sT (wN ?_)));obtain rfl:=Ac.1 H;exact Aw ⟨.inr V,rfl,0,v5,rfl,rfl⟩
end
def Et(p:Int->Bool)(l:List Int)(j:Nat):List Int:=(l.take j).filter λx=>!p x
theorem FD{x:Int}(hx:l[j]? =jB x):Et p l (j+1)=if p x then Et p l j else Et p l j++[x]:=by
 unfold Et;rw[fW,hx,dO];cases h:p x <;> simp[h]
structure DelJ(p:Int->Bool)(l:List Int)(k0:Nat)(q:List Int×Nat):Prop where
 len:q.1.length=l.length
 j:q.2<=l.length
 k0:k0 < q.2
 pre:q.1.take (Et p l q.2).length=Et p l q.2
 post:q.1.drop q.2=l.drop q.2
 lt:(Et p l q.2).length < q.2
theorem Aat(hk:k0 < l.length)(s:∀x∈l.take k0,p x=aH){x:Int}(hx:l[k0]? =jB x)(m:p x=aK):DelJ p l k0 (l,k0+1):=by
 have e:Et p l (k0+1)=l.take k0:=by
  rw[FD hx,if_pos m];unfold Et;exact dQ.2 λy g=>by rw[s y g];rfl
 have c:(l.take k0).length=k0:=by rw[eT];omega
 exact⟨rfl,hk,iX _,by rw[e,c],rfl,by rw[e,c];exact iX _⟩
theorem Ag1(H:DelJ p l k0 (cur,j)){x:Int}(hx:l[j]? =jB x)(c:p x=aK):DelJ p l k0 (cur,j+1):=by
 have g:=(eE.1 hx).1;have e:Et p l (j+1)=Et p l j:=by rw[FD hx,if_pos c]
 have:=H.lt;have:=H.k0;refine⟨H.len,g,by simp only at *;omega,by rw[e];exact H.pre,?_,by rw[e];simp only at *;omega⟩;have:=congrArg (dK 1) H.post;rw[dL,dL]at this;exact this
theorem Ag2(H:DelJ p l k0 (cur,j)){x:Int}(hx:l[j]? =jB x)(c:p x=aH):DelJ p l k0 (cur.set (Et p l j).length x,j+1):=by
 have g:=(eE.1 hx).1;have e:Et p l (j+1)=Et p l j++[x]:=by rw[FD hx,if_neg (by rw[c];simp)]
 have h1:(Et p l j).length < j:=H.lt;have h2:cur.length=l.length:=H.len;have u:k0 < j:=H.k0;have s:cur.take (Et p l j).length=Et p l j:=H.pre;have m:cur.drop j=l.drop j:=H.post;refine⟨by simp[h2],g,by simp only;omega,?_,?_,by rw[e,eM];simp only[zah];omega⟩
 ·simp only;rw[e,eM,eN,eR,i6,fW,eH (by omega),List.take_set_of_le (iT _),s];rfl
 ·simp only;rw[List.drop_set_of_lt (by omega)];have:=congrArg (dK 1) m;rw[dL,dL]at this;exact this
theorem Ala(H:DelJ p l k0 (cur,j)):cur[j]? =l[j]?:=by
 have:=congrArg (λz=>z[0]?) H.post;simp only[eB,Nat.add_zero]at this;exact this
theorem Af3:(Aip p l= -1/\l.filter (λx=>!p x)=l)\/∃(k:Nat) (x:Int),Aip p l=(k:Int)/\k < l.length/\(∀y∈l.take k,p y=aH)/\l[k]? =jB x/\p x=aK:=by
 unfold Aip;cases h:l.findIdx? p with
 |none=>
  rw[List.findIdx?_eq_none_iff]at h;exact .inl ⟨rfl,dQ.2 λy c=>by rw[h y c];rfl⟩
 |some k=>
  obtain⟨h1,h2,g⟩:=List.findIdx?_eq_some_iff_getElem.1 h;refine .inr ⟨k,l[k],rfl,h1,λy c=>?_,eC h1,h2⟩;obtain⟨j,m,rfl⟩:=List.mem_take_iff_getElem.1 c;have:=g j (by omega);simpa using this
theorem Afx:∀(w w':cI) (S S':Nat->Prop) (cs:List cF) (d:Int),tInt.RS w S cs d->tInt.RS w' S' cs d:=λ_ _ _ _ _ _ h=>DH.2 (DH.1 h)
theorem Ael{cells news:List cF}(h:off<=cells.length):(Hz cells off news)[j]? =if j < off then cells[j]? else if j < off+news.length then news[j - off]? else cells[j]?:=by
 unfold Hz;have h1:(cells.take off).length=off:=by rw[eT];omega
 by_cases g:j < off
 ·rw[if_pos g,dG,dY (by omega),eI g]
 ·rw[if_neg g];by_cases c:j < off+news.length
  ·rw[if_pos c,dY (by rw[eM];omega),dZ (by omega),h1]
  ·rw[if_neg c,dZ (by rw[eM];omega),eB,eM,h1];congr 1;omega
theorem Alo{A B:List cF}{m sz:Nat}(h:∀q,q < sz->A[m * sz+q]? =B[k * sz+q]?):(A.drop (m * sz)).take sz=(B.drop (k * sz)).take sz:=by
 apply dN;intro q;by_cases hq:q < sz
 ·rw[eI hq,eI hq,eB,eB,h q hq]
 ·rw[eD (by rw[eT];omega),eD (by rw[eT];omega)]
theorem Ajm{cells news:List cF}{l':List Int}(s:Al4 tInt cells l)(hi:i * 1<=cells.length)(g:l'=l.take i):Al4 tInt (Hz cells (i * 1) news) l':=λw S j d c=>by
 subst g;rw[List.getElem?_take]at c;split at c
 ·rename_i m;have:=s w S j d c;have e:((Hz cells (i * 1) news).drop (j * tInt.size)).take tInt.size=(cells.drop (j * tInt.size)).take tInt.size:=Alo λq hq=>by
   have hq:q < 1:=hq;show(Hz cells (i * 1) news)[j * 1+q]? =cells[j * 1+q]?;rw[Ael hi,if_pos (by omega)]
  rw[e];exact this
 ·cases c
theorem Aav(l:List Int)(f:aR)(c:List AV)(m:gO (.fn f c)=aK)(s:Fn bK 58 [.bs tInt l,.fn f c] (.lit (.int .i64 (-1)))):Rx bK 177 3 tInt l [.fn f c] l:=by
 refine Mj a7 V (by kernel_rfl) V bI CL λC=>?_
 simp only[Nat.reduceAdd,Nat.reduceSub,zaa];refine wR ?_;refine wR (hx:=by((repeat(first|refine sA ?_ (Dp V s (.cons (.own V) (.cons (.cl m) .nil)))|refine sA ?_|refine AN ?_|refine sAG ?_|refine Bp ?_));exact C1 V)) (hk:=?_);refine Ab λv u=>?_
 refine wR ?_;refine Ah V (λg=>?_) (λg=>?_)
 ·refine wR ?_;exact Aw ⟨.inr V,0,0,rfl,rfl,rfl⟩
 ·have g:((-1:Int) == -1)=aH:=g;cases g
theorem Aau(l:List Int)(hl:l.length<=2147483648)(W:∀x∈l,wfI .i64 x)(f:aR)(m:List AV)(aa:gO (.fn f m)=aK)(p:Int->Bool)(hp:∀x∈l,Fn bK f (.lit (.int .i64 x)::m) (.lit (.bool (p x))))(k0:Nat)(x0:Int)
 (Y:k0 < l.length)(I:∀y∈l.take k0,p y=aH)(D:l[k0]? =jB x0)(G:p x0=aK)(hI:Fn bK 58 [.bs tInt l,.fn f m] (.lit (.int .i64 (k0:Int)))):Rx bK 177 3 tInt l [.fn f m] (l.filter λx=>!p x):=by
 refine Mj a7 V (by kernel_rfl) V bI CL λC=>?_
 simp only[Nat.reduceAdd,Nat.reduceSub,zaa];refine wR ?_;refine wR (hx:=by((repeat(first|refine sA ?_ (Dp V hI (.cons (.own V) (.cons (.cl aa) .nil)))|refine sA ?_|refine AN ?_|refine sAG ?_|refine Bp ?_));exact C1 V)) (hk:=?_);refine Ab λK3 h3=>?_
 refine wR ?_;refine Ah V (λA=>?_) (λA=>?_)
 ·have A:((k0:Int) == -1)=aK:=A;have:=eq_of_beq A;omega
 ·refine Al ?_;refine h3 _ ?_;refine nT ?_;refine Ab λK8 h8=>?_
  refine wR ?_;refine Ad ?_;refine AH (λq:List Int×Nat=>⟨(.own 0 0::.fn f m::A3 (.lit (.int .i64 ((Et p l q.2).length:Int))::.lit (.int .i64 (q.2:Int))::A20 (A10 (A5 [])))),[.row 0 3 tInt q.1]⟩) (DelJ p l k0) (λq=>l.length - q.2) (l,k0+1) (Aat Y I D G) (by rw[show(Et p l (k0+1)).length=k0 from by rw[FD D,if_pos G];unfold Et;rw[dQ.2 λy O=>by rw[I y O];rfl,eT];omega];exact AS) ?_;rintro⟨cur,j⟩ H;have B:cur.length=l.length:=H.len;have af:j<=l.length:=H.j;have L:(Et p l j).length < j:=H.lt;dsimp only;refine Ab λah ad=>?_
  refine wR ?_;refine Ah V (λu=>?_) (λu=>?_)
  ·have X:j < l.length:=by have:(j:Int) < (cur.length:Int):=of_decide_eq_true u;omega
   obtain⟨x,hx⟩:∃x,l[j]? =jB x:=⟨_,eC X⟩
   have Q:cur[j]? =jB x:=(Ala H).trans hx;have ae:=hp x (fG hx);have U:=W x (fG hx);obtain⟨y,O⟩:∃y,cur[(Et p l j).length]? =jB y:=⟨_,eC (by omega)⟩
   refine Al ?_;refine ad _ ?_;refine nT ?_;refine Ab λag N=>?_
   refine Ad ?_;refine wR (hx:=by((repeat(first|refine sA ?_ (Bq V V V Q V)|refine sA ?_|refine AN ?_|refine sAG ?_|refine Bp ?_));exact C1 V)) ?_;refine wR ?_;refine Ah V (λs=>?_) (λs=>?_)
   ·refine wR (hx:=by((repeat(first|(refine AF V (Dt V V V O (Fit.int U) V ?_);refine sNt ?_)|refine sA ?_|refine AN ?_|refine sAG ?_|refine Bp ?_));exact C1 V)) (hk:=?_);refine wRE ?_;refine N _ ?_;refine nT ?_;refine wRE ?_;have c:p x=aH:=by have:(!p x)=aK:=s;simpa using this
    refine Ap ⟨(cur.set (Et p l j).length x,j+1),Ag2 H hx c,by dsimp only;omega,?_⟩;dsimp only;have e:((Et p l (j+1)).length:Int)=((Et p l j).length:Int)+1:=by rw[FD hx,if_neg (by rw[c];simp)];simp
    rw[e];exact leC (gV (gX _))
   ·refine Al ?_;refine N _ ?_;refine nT ?_;refine wRE ?_;have c:p x=aK:=by have:(!p x)=aH:=s;simpa using this
    refine Ap ⟨(cur,j+1),Ag1 H hx c,by dsimp only;omega,?_⟩;dsimp only;have e:((Et p l (j+1)).length:Int)=((Et p l j).length:Int):=by rw[FD hx,if_pos c]
    rw[e];exact leC (gV (gX _))
  ·refine Ay ?_;refine h8 _ ?_;refine nT ?_;have Z:j=l.length:=by have:¬(j:Int) < (cur.length:Int):=of_decide_eq_false u;omega
   subst Z;have E:Et p l l.length=l.filter λx=>!p x:=by unfold Et;rw[gB]
   have z:=H.pre;simp only at z;rw[E]at z L⊢;generalize hF:(l.filter λx=>!p x)=F at z L⊢;refine VD 0 V V (by intro e;rw[e]at B;simp at B;omega) Afx JN (λv=>(.lit v::A4 (.lit (.int .i64 (F.length:Int))::A20 (A10 (A6 []))))) (λv=>(by(repeat(first|exact Opn.nil|refine Opn.own ?_|refine Opn.any ?_|refine Opn.keep V ?_)))) λg cap cells hc J hm hR h1=>?_
   have hc:cells.length=cap * 1:=hc;refine wR (hx:=by((repeat(first|refine sA ?_ (PX V V ⟨_,rfl⟩ V (by omega) J)|(refine AF V (Ab6 (i:=0) (by decide) V V V hc J ?_);refine sNt ?_)|refine sA ?_|refine AN ?_|refine sAG ?_|refine Bp ?_));exact C1 V)) (hk:=?_);refine wR (hx:=by((repeat(first|refine sA ?_ (Xq V V ⟨_,rfl⟩ (by omega))|refine sA ?_|refine AN ?_|refine sAG ?_|refine Bp ?_));exact C1 V)) (hk:=?_);have ac:=Ajm (news:=Y4 bK 3 (cur.length - F.length)) hR (i:=F.length) (by omega) z.symm;have ab:(Hz cells (F.length * 1) (Y4 bK 3 (cur.length - F.length))).length=cap * tInt.size:=by
    rw[Gs (by rw[Acf (ty:=27)];omega)];exact hc
   refine AJ _ (Qx 0 (ver:=1) (t':=(A4 (.own 0 1::A20 (A10 (A7 []))))) V V ab (by omega) hm (by decide) ac (by(try simp only[Bn,zac]);(repeat(first|exact Cls.nil|refine Cls.own ?_|refine Cls.any ?_|refine Cls.keep V ?_)))) ?_;exact Aw ⟨.inr V,0,1,rfl,rfl,rfl⟩
theorem Alb(l:List Int)(F:l.length<=2147483648)(z:∀x∈l,wfI .i64 x)(f:aR)(c:List AV)(g:Bj c=aK)(p:Int->Bool)(E:∀x∈l,Fn bK f (.lit (.int .i64 x)::c) (.lit (.bool (p x)))):Rx bK 177 3 tInt l [.fn f c] (l.filter λx=>!p x):=by
 have m:gO (.fn f c)=aK:=by unfold gO;exact g
 have s:=Af5 l F f c g p E;rcases Af3 (p:=p) (l:=l)with⟨D,H⟩|⟨k0,G,D,B,A,u,v⟩
 ·rw[D]at s;rw[H];exact Aav l f c m s
 ·rw[D]at s;exact Aau l F z f c m p E k0 G B A u v s
end Mu
section
namespace Go.Proofs
open Go.Shelf
def Tryz.laysI_ren:Go.Shelf.Ren:=⟨fun|21=>188|27=>193|28=>194|35=>195|39=>192|n=>n,fun|22=>27|3=>3|0=>0|4=>4|n=>n,fun|n=>n⟩
theorem Tryz.laysI:Go.Proofs.Lays2.n21 bK Tryz.laysI_ren:={
 mixed:=by kernel_rfl
 f21:=Tryz.func188.trans (congrArg jB (by kernel_rfl))
 f27:=Tryz.func193.trans (congrArg jB (by kernel_rfl))
 f28:=Tryz.func194.trans (congrArg jB (by kernel_rfl))
 f35:=Tryz.func195.trans (congrArg jB (by kernel_rfl))
 f39:=a8.trans (congrArg jB (by kernel_rfl))
 t0:=bR
 a0:=bC
 z0:=bL
 v0:=bX
 t3:=bT
 a3:=bE
 z3:=bN
 v3:=bZ
 t4:=bU
 a4:=bF
 z4:=bO
 v4:=b9
 t22:=bS
 a22:=bD
 z22:=bM
 v22:=bY
 i3:=by kernel_rfl}
end Go.Proofs
end
namespace Mu
open Go Go.RowKit Go.ChangeShapes Go.WideShapes Go.Proofs
variable{D:List cF}{b:cF}{i n:Nat}
theorem MP(w:cI){base old:Nat}{xs:List Int}(c:base<=w.heap.size)(hx:xs.length=n)(m:n<=cY){cur:Array cF}(hc:cur.size=cT w n old 3)(ht:cur.toList.take n=xs.map (cH .i64)){w':cI}(g:w'.heap[w.heap.size]? =jB (.cells cur 3 (0,0))):
 Gj w' base (.slice (jB ⟨w.heap.size,0,jA⟩) n (cT w n old 3)) xs:=
 .of (n:=n) (cs:=xs.map (cH .i64)) ⟨by simp[hx],.inr ⟨w.heap.size,_,cur,rfl,c,g,cU w n old _,grownCap_le_maxLen w n old _ m,by rw[hc,iZ],by rw[iZ];exact ht⟩⟩ hx.symm V
theorem Aek{cells news:List cF}{off:Nat}(h:off+news.length<=cells.length):(Hz cells off news).take (off+news.length)=cells.take off++news:=by
 unfold Hz;rw[fY (by simp;omega),gC (by simp;omega)]
theorem Z2{C:List cF}(hi:i<=n)(g:n+1<=C.length)(c:D.length=n - i):(Hz (Hz C (i+1) D) i [b]).take (n+1)=C.take i++b::D:=by
 unfold Hz;have h1:(C.take (i+1)++D++C.drop (i+1+D.length)).take i=C.take i:=by
  rw[dG,fY (by simp;omega),gF,iY (by omega)]
 have h2:(C.take (i+1)++D++C.drop (i+1+D.length)).drop (i+ [b].length)=D++C.drop (i+1+D.length):=by
  rw[dG,List.drop_left' (by simp;omega)]
 rw[h1,h2,<-dG,fY (by simp;omega),gC (by simp;omega),dG];rfl
theorem Z1{C:List cF}(hi:i<=n)(g:n+1<=C.length)(c:D.length=n - i):(Hz (Hz C i [b]) (i+1) D).take (n+1)=C.take i++b::D:=by
 unfold Hz;have h1:(C.take i++[b]++C.drop (i+ [b].length)).take (i+1)=C.take i++[b]:=by
  rw[fZ (by simp;omega)]
 rw[h1,fY (by simp;omega),gC (by simp;omega),dG];rfl
theorem N7(l:List Int):∀u∈l.map (cH .i64),u.oneCell'=aK:=λu c=>by
 obtain⟨x,_,rfl⟩:=fF.1 c;rfl
theorem Z0{base:Nat}{v u:cF}{zs:List Int}{b:Int}{w:cI}(I:Gj w base v zs)(hu:Gj w base u [b])(hi:i<=zs.length)(hn:zs.length<=2147483648)(am:∀g,v.ownBlock=jB g->u.ownBlock≠jB g)(F:base<=w.heap.size):
 aM bK 188 #[v,.int .i64 (i:Int),u] w λe w'=>∃v',e= .returned v'/\Gj w' base v' (zs.take i++b::zs.drop i)/\w.grownBy w' v.ownBlock/\(v'.ownBlock=v.ownBlock\/v'.ownBlock=jB w.heap.size):=by
 obtain⟨G,J,E,rfl,ay,aa,ax,aw,av,au⟩:∃G J E,u= .slice (jB ⟨G,0,jA⟩) 1 J/\base<=G/\w.heap[G]? =jB (.cells E 3 (0,0))/\1<=J/\J<=cY/\E.size=J * 1/\E.toList.take (1 * 1)= [cH .i64 b]:=by
  rcases hu.2 with⟨_,h0⟩|⟨g,cap,cur,h⟩
  ·cases h0
  ·exact⟨g,cap,cur,h⟩
 have H:∀j x,[cH .i64 b][j]? =jB x->w.cell? ⟨G,0+j,jA⟩=jB x:=λj x hx=>by
  have:=hu.cells (g:=G) V j x hx;simpa[add_plain]using this
 have B:∀x∈[cH .i64 b],x.oneCell'=aK:=N7 [b];have hl:(zs.take i++b::zs.drop i).length=zs.length+1:=by simp;omega
 have ac:zs.length+1<=cY:=by unfold cY;omega
 rcases I.2 with⟨rfl,h0⟩|⟨g,cap,cur,rfl,hb,hg,h1,h2,h3,h4⟩
 ·have hz:zs= []:=dM h0;subst hz;have ao:i=0:=by simpa using hi
  subst ao;refine(Any2.slices_Insert_int_end_grow Tryz.laysI jA 0 0 G 0 1 J [] [.int .i64 b] w (by omega) (iT _) (by omega) (by omega) V V (λ_=>rfl) (λa h=>by cases h) H B).mono λe w' ⟨N,z⟩=>?_
  subst z;refine⟨_,N,MP w (n:=0+1) (old:=0) (xs:=[b]) F V (by unfold cY;omega) (cur:=_) ?_ ?_ (cV w.drew _),⟨rfl,rfl,rfl,by simp,λk hk _=>cW w.drew _ hk⟩,.inr V⟩
  ·have:=cU w (0+1) 0 3;simp only[List.nil_append,aE,fU,dA,eN,eR];show 0+1+_ * 1=_;rw[iZ];show 0+1+(cT w (0+1) 0 3 - (0+1))=cT w (0+1) 0 3;omega
  ·simp
 ·have ar:g < w.heap.size:=(aA.1 hg).1;have ap:G≠g:=λe=>am g V (by rw[e];rfl)
  have Z:(zs.map (cH .i64)).length=zs.length:=by simp
  have ai:∀j x,(zs.map (cH .i64))[j]? =jB x->w.cell? ⟨g,0+j,jA⟩=jB x:=λj x hx=>by
   have:=I.cells (g:=g) V j x hx;simpa[add_plain]using this
  have ag:w.heap[g]? =jB (.cells cur.toList.toArray 3 (0,0)):=by simpa using hg
  have hcur:cur.toList.length=cap:=by simpa using h3
  have aj:cur.toList.take zs.length=zs.map (cH .i64):=by simpa using h4
  have ab:∀j,j < cap->(w.cell? ⟨g,0+j,jA⟩).isSome=aK:=λj hj=>by
   have:j < cur.size:=by omega
   simp[cJ,hg,this]
  have ah:∀j,w.frozen? ⟨g,j,jA⟩=aH:=λj=>by simp[cM,hg]
  by_cases an:i=zs.length
  ·subst an;rw[gB,List.drop_length];by_cases c:zs.length+1<=cap
   ·refine(Any2.slices_Insert_int_end_room Tryz.laysI g 0 zs.length cap G 0 1 J [.int .i64 b] w (by omega) c (by unfold cY at h2;omega) V (λj hj=>by rw[show 0+zs.length+j=0+(zs.length+j)by omega];exact ab _ (by omega)) (λj _=>ah _) H B).mono λe w' ⟨N,z⟩=>?_
    have W:0+zs.length+ [cH .i64 b].length<=cur.toList.length:=by rw[hcur];simp;omega
    rw[E4 bK ag W B]at z;subst z;refine⟨_,N,.of (n:=zs.length+1) (cs:=(zs++[b]).map (cH .i64)) ⟨by simp,.inr ⟨g,cap,_,rfl,hb,cZ w g _ _ _ _ hg,c,h2,by rw[fU,Gs W,hcur,iZ],?_⟩⟩ (by simp) V,Cb w g _,.inl V⟩;have:=Aek W;rw[iZ,show zs.length+1=0+zs.length+ [cH .i64 b].length by simp,this,i6,aj];simp
   ·refine(Any2.slices_Insert_int_end_grow Tryz.laysI (jB ⟨g,0,jA⟩) zs.length cap G 0 1 J (zs.map (cH .i64)) [.int .i64 b] w (by omega) h1 (by omega) (by omega) Z V (λh=>by cases h) (λa ha j x hx=>by cases ha;exact I.cells (g:=g) V j x hx) H B).mono λe w' ⟨N,z⟩=>?_
    subst z;refine⟨_,N,MP w (n:=zs.length+1) (old:=cap) (xs:=zs++[b]) F (by simp) ac (cur:=_) ?_ ?_ (cV w.drew _),⟨rfl,rfl,rfl,by simp,λk hk _=>cW w.drew _ hk⟩,.inr V⟩
    ·have:=cU w (zs.length+1) cap 3;simp only[aE,fU,dA,eM,eQ,eN,eR];show zs.length+(0+1)+(cT w (zs.length+1) cap 3 - (zs.length+1)) * 1=cT w (zs.length+1) cap 3;omega
    ·rw[aF,fY (by simp),gC (by simp)];simp
  ·have ae:i < zs.length:=by omega
   have O:(((zs.map (cH .i64)).drop i)).length=zs.length - i:=by simp
   have ak:∀x∈(zs.map (cH .i64)).drop i,x.oneCell'=aK:=λx hx=>N7 zs x (fH hx)
   by_cases c:zs.length+1<=cap
   ·refine(Any2.slices_Insert_int_shift Tryz.laysI g 0 zs.length cap i G 0 1 J (zs.map (cH .i64)) [.int .i64 b] w ae (by omega) c (by unfold cY at h2;omega) ap Z V ai (λj hj=>ab j (by omega)) (λj _=>ah _) H (N7 zs) B 3 3 E.size cur.size (by simp[cO,aa]) (by simp[cO,hg]) (by omega) (by simp[cM,aa]) (by simp[cM,aa])).mono λe w' ⟨N,z⟩=>?_
    have m:0+(i+1)+((zs.map (cH .i64)).drop i).length<=cur.toList.length:=by rw[hcur,O];omega
    have X:w.drew.heap[g]? =jB (.cells cur.toList.toArray 3 (0,0)):=ag;rw[E4 bK X m ak]at z;have Y:=cZ w.drew g _ (Hz cur.toList (0+(i+1)) ((zs.map (cH .i64)).drop i)).toArray _ _ X;have A:0+i+ [cH .i64 b].length<=(Hz cur.toList (0+(i+1)) ((zs.map (cH .i64)).drop i)).length:=by rw[Gs m,hcur];simp;omega
    rw[E4 bK Y A B,setRow_setRow]at z;subst z;refine⟨_,N,.of (n:=zs.length+1) (cs:=(zs.take i++b::zs.drop i).map (cH .i64)) ⟨by simp;omega,.inr ⟨g,cap,_,rfl,hb,cZ w.drew g _ _ _ _ X,c,h2,by rw[fU,Gs A,Gs m,hcur,iZ],?_⟩⟩ hl.symm V,⟨(Cb w.drew g _).os,(Cb w.drew g _).tape,(Cb w.drew g _).output,(Cb w.drew g _).size,(Cb w.drew g _).block⟩,.inl V⟩;rw[iZ,gH,i6,i6,Z2 (n:=zs.length) hi (by rw[hcur];exact c) O];have e:=congrArg (fV i) aj;rw[gF,iY hi]at e;rw[e];simp
   ·refine(Any2.slices_Insert_int_grow Tryz.laysI g 0 zs.length cap i G 0 1 J (zs.map (cH .i64)) [.int .i64 b] w ae (by omega) h1 (by omega) (by omega) Z V ai H (N7 zs) B).mono λe w' ⟨N,z⟩=>?_
    have hG:=cU w (zs.length+1) cap 3;obtain⟨s,aq,L,al⟩:∃s:List cF,(((zs.map (cH .i64)).take i).toArray++Builtin.zeroCells (cH .i64 0).cells (zs.length+1 - i)++Builtin.zeroCells (cH .i64 0).cells (cT w (zs.length+1) cap 3 - (zs.length+1)))=s.toArray/\s.length=cT w (zs.length+1) cap 3/\s.take i=(zs.map (cH .i64)).take i:=by
     refine⟨_,(Array.toArray_toList (xs:=_)).symm,?_,?_⟩
     ·have e1:(cH .i64 0).cells.size=1:=rfl;simp only[Array.length_toList,aE,fU,dA,eT,eQ,e1];omega
     ·rw[aF,aF,dG];exact fZ (by simp;omega)
    have z:w'=(((w.alloc (.cells s.toArray 3)).drew.setCells w.heap.size i [.int .i64 b]).drew).setCells w.heap.size (i+1) ((zs.map (cH .i64)).drop i):=by
     rw[<-aq];exact z
    have af:(w.alloc (.cells s.toArray 3)).drew.heap[w.heap.size]? =jB (.cells s.toArray 3 (0,0)):=cV w _;have m:i+ [cH .i64 b].length<=s.length:=by rw[L];simp;omega
    rw[E4 bK af m B]at z;have Y:=cZ (w.alloc (.cells s.toArray 3)).drew w.heap.size _ (Hz s i [.int .i64 b]).toArray _ _ af;have A:i+1+((zs.map (cH .i64)).drop i).length<=(Hz s i [.int .i64 b]).length:=by rw[Gs m,L,O];omega
    have Q:((w.alloc (.cells s.toArray 3)).drew.setRow w.heap.size (Hz s i [.int .i64 b]).toArray).drew.heap[w.heap.size]? =jB (.cells (Hz s i [.int .i64 b]).toArray 3 (0,0)):=Y;rw[E4 bK Q A ak]at z;have U:=cZ ((w.alloc (.cells s.toArray 3)).drew.setRow w.heap.size (Hz s i [.int .i64 b]).toArray).drew w.heap.size _ (Hz (Hz s i [.int .i64 b]) (i+1) ((zs.map (cH .i64)).drop i)).toArray _ _ Q;rw[<-z]at U;refine⟨_,N,MP w (n:=zs.length+1) (old:=cap) F hl ac (cur:=_) ?_ ?_ U,?_,.inr V⟩
    ·rw[fU,Gs A,Gs m,L]
    ·rw[gH,Z1 (n:=zs.length) hi (by rw[L];exact hG) O,al];simp
    ·have k1:w.grownBy (w.alloc (.cells s.toArray 3)).drew (jB w.heap.size):=⟨rfl,rfl,rfl,by simp[cL],λk hk _=>cW w _ hk⟩
     subst z;refine⟨rfl,rfl,rfl,by simp[cL,cN],λk hk _=>?_⟩;have ad:k≠w.heap.size:=by omega
     have a1:=(Cb ((w.alloc (.cells s.toArray 3)).drew.setRow w.heap.size (Hz s i [.int .i64 b]).toArray).drew w.heap.size (Hz (Hz s i [.int .i64 b]) (i+1) ((zs.map (cH .i64)).drop i)).toArray).block k (by simp[cL,cN];omega) (λe=>ad (by injection e));have a2:=(Cb (w.alloc (.cells s.toArray 3)).drew w.heap.size (Hz s i [.int .i64 b]).toArray).block k (by simp[cL];omega) (λe=>ad (by injection e));exact a1.trans (a2.trans (cW w _ hk))
section
variable{C:Ctx}{t:List AV}{h:List gI}{o:aX}{K:St->Prop}
theorem Ab5{x y z:aY}{Y:Array cE}{ver k m:Nat}{l:List Int}{n b:Int}(ad:i≠k)(ho:o.op= .call {callee:=.value (.func 188),args:=#[x,y,z],argTypes:=Y})(hx:evA t x= .own i ver)(hi:h[i]? =jB (.row ver 3 tInt l))(hy:evA t y= .lit (.int .i64 n))(hn:0<=n/\n.toNat<=l.length)
 (hz:evA t z= .own k m)(hk:h[k]? =jB (.row m 3 tInt [b]))(hl:l.length<=2147483648)
 (hK:K ⟨Bn t o.dst (.own i (ver+1)),h.set i (.row (ver+1) 3 tInt (l.take n.toNat++b::l.drop n.toNat))⟩):AOp bK C o ⟨t,h⟩ K:=by
 rintro Q' a w ⟨hd,S,ψ,H,u⟩;refine⟨λc e=>(by rw[ho]at e;cases e),?_⟩;have E:=Bw u x;have B:=Bw u y;have A:=Bw u z;rw[show evA (St.mk t h).t x= .own i ver from hx]at E;rw[show evA (St.mk t h).t y=_ from hy]at B;rw[show evA (St.mk t h).t z= .own k m from hz]at A;unfold gQ at E B A;have hv:=(E.2 _ (by rw[hi];rfl)).2 V;have hu:=(A.2 _ (by rw[hk];rfl)).2 V;have W:=H.blk i _ hi;have G:=W.lt V;obtain⟨hO,hw⟩:=JC W;obtain⟨af,Z⟩:=JC (H.blk k _ hk);have ac:∀g,(ψ i).ownBlock=jB g->(ψ k).ownBlock≠jB g:=λg h1 h2=>by
  refine H.dis i k ad (by rw[hi];rfl) (by rw[hk];rfl) g ?_ ?_
  ·rw[hi];exact AU h1
  ·rw[hk];exact AU h2
 have ab:n=((n.toNat:Nat):Int):=by omega
 unfold Oper.wp;rw[Ct ho (by kernel_rfl) a.eval w V];simp only[Oper.upon];rw[show(#[x,y,z].map a.eval)= #[ψ i,.int .i64 ((n.toNat:Nat):Int),ψ k]from by simp[hv,hu,B,<-ab]];refine(Z0 hO af hn.2 hl ac (i7 _)).mono ?_;rintro r w' ⟨v',rfl,O,I,N⟩;have v:(ψ i).ownBlock=Bv (ψ i):=by
  rcases hO.2 with⟨e1,_⟩|⟨g',cap,cur,e1,_⟩ <;> rw[e1] <;> rfl
 have ae:∀g,Bv v'=jB g->v'.ownBlock=jB g:=λg hg=>by
  rcases O.2 with⟨e1,_⟩|⟨g',cap,cur,e1,_⟩
  ·rw[e1]at hg;simp[Bv]at hg
  ·rw[e1]at hg⊢;simpa[Bv,Value.ownBlock]using hg
 have U:∀g,(ψ i).ownBlock=jB g->¬C.N g/\¬S g:=λg hg=>⟨(G g (AU hg)).1,(G g (AU hg)).2.2⟩
 have L:∀q,S q->w'.heap[q]? =w.heap[q]?:=λq hq=>I.block q (H.lt q hq) λe=>(U q e.symm).2 hq
 have X:Ext w S h ψ w' S (h.set i (.row (ver+1) 3 tInt (l.take n.toNat++b::l.drop n.toNat))) (Bo ψ i v'):=gZ L hi (λc' hc=>by
  simp only[gN,jC]at hc;exact⟨ver,rfl,by omega,λe=>by omega⟩) λh=>by simp[AZ]at h
 have Q:∀g,v'.ownBlock=jB g->¬C.N g/\¬S g:=λg hg=>by
  rcases N with e1|e1
  ·rw[e1]at hg;exact U g hg
  ·rw[e1]at hg;cases hg;exact⟨λhN=>by have:=H.nlt _ hN;have:=H.bel.size;omega,λhS=>by have:=H.lt _ hS;omega⟩
 have aa:Bg (l.take n.toNat++b::l.drop n.toNat):=λr hr=>by
  rcases eY.1 hr with h1|h1
  ·exact hw r (fI h1)
  ·rcases fB.1 h1 with h1|h1
   ·rw[h1];exact Z b (by simp)
   ·exact hw r (fH h1)
 refine⟨_,hK,Is (s:=⟨t,h⟩) hi hd u (H.set hi V (Bs (by rw[<-v];exact I)) X (LF O aa Q) λg hg=>?_) X ?_⟩
 ·have F:=ae g hg;rcases N with e1|e1
  ·left;show Bv (ψ i)=jB g;rw[<-v,<-e1];exact F
  ·right;rw[e1]at F;cases F;exact iT _
 ·unfold gQ;refine⟨by simp[(eE.1 hi).1],λc' J=>?_⟩;rw[eH (eE.1 hi).1]at J;simp only[gN,jC]at J;exact⟨by omega,λ_=>by rw[Bk]⟩
end
end Mu
namespace Mu
open Go Go.RowKit Go.Proofs
variable{K:St->Prop}{Q:Exit->St->Prop}{e:cE}{f:iB}{hP1:Int}{l':List AV}{n:Int}{q:Int->M Bool}{r:List Int}{s:St}{ty:cE}{tys:Array cE}{v:cF}{ver:Nat}{x:aY}{y:Code}
theorem Sj{xs:List Int}{x:Int}{w:cI}{S:Nat->Prop}(h:tInt.slice.RS w S [v] xs)(G:xs.length<=2147483648):
 aM bK 39 #[v,.int .i64 x] w λe w'=>e= .returned (.bool (xs.contains x))/\w=w':=by
 obtain⟨A,c,rfl⟩:=Cf h;by_cases z:xs= []
 ·subst z;refine(Tryz.slices_Contains_int_empty _ _ _ _).mono λe w' ⟨m,u⟩=>⟨m,u.symm⟩
 ·have g:0 < xs.length:=List.length_pos_iff.2 z;obtain⟨b,o,e,_⟩:=LU h (eC g);cases e;refine(Tryz.slices_Contains_int b o xs.length c xs x w (iT _) (by omega) (λj B=>?_)).mono λe w' ⟨m,u⟩=>?_
  ·obtain⟨b',F,E,_,hc,_⟩:=LU h (eC B);cases E;rw[hc];simp[List.getD,B]
  ·rw[gB]at m;exact⟨m,u.symm⟩
theorem Np(xs:List Int)(x:Int)(B:xs.length<=2147483648):Fn bK 39 [.bs tInt xs,.lit (.int .i64 x)] (.lit (.bool (xs.contains x))):=by
 refine⟨by kernel_rfl,λw S vs F c=>?_⟩;unfold Af at c;obtain⟨v,G,rfl,h1,h2⟩:=c;obtain⟨u,z,rfl,m,g⟩:=by unfold Af at h2;exact h2
 unfold Af at g;subst g;unfold gQ at h1 m;subst m;refine(Sj h1 B).mono λe w' ⟨E,A⟩=>?_
 subst A;exact⟨_,E,cA _ _,S,λ_ h=>h,λ_ h=>.inl h,F,by unfold gQ;rfl⟩
def Ty.sliceN{α:Type}(T:Ty α):Ty (List α) where
 size:=1
 bulk:=T.slice.bulk
 RS:=λw S cs ds=>T.slice.RS w S cs ds/\(ds= []->cs= [.slice jA 0 0])
 len:=λh=>T.slice.len h.1
 keepS:=λh c g=>⟨T.slice.keepS h.1 c g,h.2⟩
theorem Ty.sliceN_nilS{α:Type}(T:Ty α)(w:cI)(S:Nat->Prop):T.sliceN.RS w S [.slice jA 0 0] []:=⟨T.slice_nilS w S,λ_=>rfl⟩
section
variable{P:aZ}{C:Ctx}{t:List AV}{h:List gI}{o:aX}{α:Type}{T:Ty α}
theorem Aq4{l:List α}(g:(!l.isEmpty)=aK):Fit h T.sliceN (.bs T l) l:=λC S ψ w v H c=>⟨Fit.bs C S ψ w v H c,λe=>by subst e;cases g⟩
theorem Aai(T:Ty α):Enc T.sliceN λl=>[.bs T l]:=λw S h ψ cs d H=>UK T w S h ψ cs d H.1
theorem Aqh(T:Ty α):Enc T.sliceN λl=>[.tv T.sliceN l]:=λw S h ψ cs d H=>by
 obtain⟨A,c,rfl,_⟩:=id H.1;unfold Af;refine⟨_,_,rfl,?_,?_⟩
 ·unfold gQ;exact H
 ·unfold Af;rfl
instance Ayh(T:Ty α):EncOf T.sliceN λl=>[.bs T l]:=⟨Aai T,λw S cs d H=>one1_slice w S cs d H.1,Nat.zero_lt_one⟩
theorem QA{n i k off:Nat}{l:List (List α)}{d:List α}[AG P ty aH n](c:o.op= .load ty x)(hx:evA t x= .rp i ver k off)(hi:h[i]? =jB (.row ver e T.sliceN l))(hk:l[k]? =jB d)(h0:off=0:=by rfl):AT P C t h o (.tv T.sliceN d):=by
 subst h0;exact D8 c AG.eq hx (KZ.rp hi hk (Aqh T)) V
theorem Atn{w:cI}{S:Nat->Prop}{l:List α}(g:T.sliceN.RS w S [v] l):∃A n c,v= .slice A n c/\A.isNone=l.isEmpty:=by
 obtain⟨⟨A,c,e,m,hc,hi⟩,h2⟩:=g;cases e;refine⟨A,_,_,rfl,?_⟩;cases l with
 |nil=>cases h2 rfl;rfl
 |cons x l=>
  obtain⟨b,o,rfl,_⟩:=hi 0 x V;rfl
theorem Acv(h:GL P ty=aK):∃e,P.underlying ty=jB (.slice e):=by
 unfold GL at h;split at h
 ·exact⟨_,by assumption⟩
 ·cases h
theorem Xs{m z:cE}{y:aY}{l:List α}[SL P m](u:o.op= .binOp .eql m x y z)(hx:evA t x= .tv T.sliceN l)(B:evA t y= .lit (.slice jA 0 0)):AT P C t h o (.lit (.bool l.isEmpty)):=
 AL λS ψ w ρ _ g=>by
  have h1:=g x (by simp[u,Op.operands]);have h2:=g y (by simp[u,Op.operands]);rw[hx]at h1;rw[B]at h2;unfold gQ at h1 h2;obtain⟨A,n,c,E,G⟩:=Atn h1;obtain⟨e,F⟩:=Acv (SL.eq (P:=P) (ty:=m));refine⟨.bool A.isNone,?_,by rw[G];unfold gQ;rfl⟩;simp[execOp,u,E,h2,eqGuard,binOp,run_equal_slice_nil _ _ _ _ _ _ F]
end
def IN(l:List Int):M (List Int):=iE (aL (l.length<=2147483648)) (iH l)
theorem GI{l:List Int}(H:(IN l).to r):Jv bK 92 [.bs tInt l] 3 tInt r:=by
 obtain⟨c,H⟩:=Aj.1 H;obtain rfl:=Ac.1 H;refine⟨by kernel_rfl,λw S vs E m=>?_⟩;unfold Af at m;obtain⟨v,G,rfl,h1,h2⟩:=m;unfold Af at h2;subst h2;unfold gQ at h1;have g:tInt.slice.R w w.heap.size [v] l:=Axr h1 E;obtain⟨A,I,rfl⟩:=Cf g;refine(UZ g (of_decide_eq_true c)).mono ?_;rintro e w' ⟨v',rfl,F,B⟩;refine⟨v',_,rfl,B,F,λi d u=>?_⟩;show tInt.RS w' S (((l.map (cH .i64)).drop (i * 1)).take 1) d;have hi:(l.map (cH .i64))[i]? =jB (.int .i64 d):=by rw[eF,u];rfl
 rw[iZ,gD,eK,hi];obtain⟨_,_,_,_,z⟩:=LU g u;exact DH.2 ⟨rfl,z.2⟩
def Ei(l:List Int)(n:Int):M Bool:=iE (aL (l.length<=2147483648)) (iH (l.contains n))
theorem GY{l:List Int}{r:Bool}(H:(Ei l n).to r):Fn bK 39 [.bs tInt l,.lit (.int .i64 n)] (.lit (.bool r)):=by
 obtain⟨c,H⟩:=Aj.1 H;obtain rfl:=Ac.1 H;exact Np l n (of_decide_eq_true c)
noncomputable section
def F1(f:iB):M (List (List Int)):=iE (NQ f) (iH (GR f f.blocks.length))
theorem Ia{r:List (List Int)}(H:(F1 f).to r):Fn bK 154 [.agg (Ak f)] (.bs tInt.slice r):=by
 obtain⟨c,H⟩:=Aj.1 H;obtain rfl:=Ac.1 H;have g:=BJ.1 c;exact Cs f g.ok g.small
def BM(g:List Int)(m:List Int):Int->M (Int⊕((Unit)⊕(Bool))):=λc=>iF (aL (c < (g.length:Int))) (iE (Ch g c) (iE (Ch m c) (iF ((ixD g c) !=(ixD m c)) (iH (.inr (.inr aH))) (iH (.inl (aS.wrap (c+1))))))) (iH (.inr (.inl ())))
def Cq(g:List Int)(c:List Int):M Bool:=iF ((g.length:Int) !=(c.length:Int)) (iH aH) (M.els (iG (BM g c) 0) λ_=>iH aK)
theorem Iy{A:List Int}{B:List Int}{r:Bool}(H:(Cq A B).to r):Fn bK 189 [.bs tInt A,.bs tInt B] (.lit (.bool r)):=by
 delta Cq at H;try dsimp only at H
 refine AR Tryz.func189 V (by kernel_rfl) V Tryz.ntmps189 λC hC=>?_
 simp only[Nat.reduceAdd,Nat.reduceSub,zaa];refine wS (sT (wN ?_));refine Ab λX G=>?_
 refine wS (sT (sT (sT (sT (sT (wN ?_))))));refine Ah V (λm=>?_) (λm=>?_)
 ·have H:=AC m H;refine wS (sT (wN ?_));obtain rfl:=Ac.1 H;exact Aw ⟨.inr V,g8 V⟩
 ·have H:=AE m H;refine Al ?_;refine G _ ?_;refine nT ?_;obtain⟨Y,N,L,J⟩:=Cz H;refine Bh (β:=(Unit)×(Unit)) (λO=>Y= .inl O.1) (λO=>⟨A20 (A6 []),[]⟩) ?_ ?_
  ·refine wS (sT (sT (sT (wN ?_))));refine Ad ?_;refine Bu N (λZ b4=>⟨.bs tInt A::.bs tInt B::A10 (.lit (.int .i64 (A.length:Int))::.lit (.int .i64 Z)::A10 (A2 [])),[]⟩) () (?_) ?_
   ·try dsimp only
    exact AS
   ·rintro x3 _ x4 H z;try dsimp only
    dsimp only[BM]at H;refine wS (sT (wN ?_));refine Ab λW F=>?_
    refine Ah V (λg=>?_) (λg=>?_)
    ·have H:=AC g H;refine Al ?_;refine F _ ?_;refine nT ?_;refine Ab λU E=>?_
     refine Ad ?_;refine wS (sT (sT (wN ?_)));obtain⟨c8,H⟩:=Aj.1 H;obtain⟨c9,H⟩:=Aj.1 H;refine dS 9 (hq:=?_);refine qT (qT (qX c8 (qT (qT (qT (qX c9 (qT (qT (qN (wN ?_))))))))));refine Ah V (λc=>?_) (λc=>?_)
     ·have H:=AC c H;refine wS (sT (wN ?_));have H:=Ac.2 (J _ (z _ (Ac.1 H).symm).symm);obtain rfl:=Ac.1 H;exact Aw ⟨.inr V,g8 V⟩
     ·have H:=AE c H;refine Al ?_;refine E _ ?_;refine nT ?_;refine wSE (sT (sT (wN ?_)));have I:=Ac.1 H;repeat(first|refine abN ?_|refine asN ?_)
      refine Ap ⟨_,(),I.symm,?_⟩;try dsimp only
      exact AS
    ·have H:=AE g H;refine Ay ?_;repeat(first|refine BC ?_|refine exO (by decide) ?_|refine asE ?_)
     refine exN ?_;have I:=z _ (Ac.1 H).symm;repeat(first|refine abN ?_|refine asN ?_)
     refine Ap ⟨(_,()),I.symm,?_⟩;try dsimp only
     exact AS
  ·rintro⟨_,_⟩ u;try dsimp only at u
   have H:=L _ u;try dsimp only
   refine wS (sT (wN ?_));obtain rfl:=Ac.1 H;exact Aw ⟨.inr V,g8 V⟩
def C5(r1:List Int)(r2:List (List Int))(g:List (List Int))(c:Int):((List Int)×Bool×Int)->M (((List Int)×Bool×Int)⊕((List Int))):=λ(l29,some30,x31)=>iF (aL (x31 < ((ixD r2 (ixD r1 c)).length:Int))) (iD (iE (Ch (ixD r2 (ixD r1 c)) x31) (iE (Ch g (ixD (ixD r2 (ixD r1 c)) x31)) (iF ((ixD g (ixD (ixD r2 (ixD r1 c)) x31)).isEmpty) (iH (l29,some30)) (iF (!some30) (iE (Ch g (ixD (ixD r2 (ixD r1 c)) x31)) (iH (ixD g (ixD (ixD r2 (ixD r1 c)) x31),aK))) (iE (Ch g (ixD (ixD r2 (ixD r1 c)) x31)) (iD (FZ l29 (ixD g (ixD (ixD r2 (ixD r1 c)) x31))) λm=>iH (m,some30))))))) λ(l38,some39)=>iH (.inl (l38,some39,aS.wrap (x31+1)))) (iH (.inr l29))
def CF(r1:List Int)(r2:List (List Int)):(Bool×Int×(List (List Int)))->M ((Bool×Int×(List (List Int)))⊕(Bool×(List (List Int)))):=λ(more12,x13,l15)=>iF (aL (x13 < (r1.length:Int))) (iD (iE (Ch r1 x13) (iE (Ch r2 (ixD r1 x13)) (iD (iG (C5 r1 r2 l15 x13) ([],aH,0)) λA=>iD (iF ((ixD r1 x13) ==0) (iH []) (iH A)) λu=>iD (CU u (ixD r1 x13)) λc=>iD (iF (!c.2) (iD (IN u) λg=>iE (wfB .i64 (ixD r1 x13)) (iE (aL (0<=c.1/\dB c.1<=g.length)) (iE (aL (g.length<=2147483648)) (iH (fV (dB c.1) g++(ixD r1 x13)::dK (dB c.1) g))))) (iH u)) λm=>iE (Ch l15 (ixD r1 x13)) (iD (Cq m (ixD l15 (ixD r1 x13))) λz=>iF (!z) (iE (Ch l15 (ixD r1 x13)) (iE (!m.isEmpty) (iH (aK,l15.set (dB (ixD r1 x13)) m)))) (iH (more12,l15)))))) λ(more22,l24)=>iH (.inl (more22,aS.wrap (x13+1),l24))) (iH (.inr (more12,l15)))
def Ib(r1:List Int)(r2:List (List Int)):(Bool×(List (List Int)))->M ((Bool×(List (List Int)))⊕((List (List Int)))):=λ(more4,l6)=>iF more4 (iD (iG (CF r1 r2) (aH,0,l6)) λ(more17,l19)=>iH (.inl (more17,l19))) (iH (.inr l6))
def C6(f:iB):M (List (List Int)):=iD (JU f) λr1=>iD (F1 f) λr2=>iE (VO (f.blocks.length:Int) 24) (iD (iG (Ib r1 r2) (aK,fT (dB (f.blocks.length:Int)) [])) λc=>iH c)
theorem UE{r:List (List Int)}(H:(C6 f).to r):Fn bK 176 [.agg (Ak f)] (.bs tInt.sliceN r):=by
 delta C6 at H;try dsimp only at H
 refine AR Tryz.func176 V (by kernel_rfl) V Tryz.ntmps176 λC hC=>?_
 simp only[Nat.reduceAdd,Nat.reduceSub,zaa];refine wS (sB (sT (wN ?_)));obtain⟨r1,k1,H⟩:=An.1 H;have k1:=UD k1;obtain⟨r2,k2,H⟩:=An.1 H;have k2:=Ia k2;refine dS 6 (hq:=?_);refine qT (qC k1 (qT (qC k2 (qT (qT (qN (wN ?_)))))));obtain⟨c3,H⟩:=Aj.1 H;refine wS (sT (sT (sT ?_)));(refine AF V (P9 1 V (T:=tInt.sliceN) (e:=27) (v:=.slice jA 0 0) (bytes:=24) ([]:List Int) V (by kernel_rfl) V (λw S=>tInt.sliceN_nilS w S) V V c3 ?_);refine D2 ?_ (Ao (Ao HT)));refine sT (wN ?_);obtain⟨z7,dd,dc⟩:=An.1 H;refine Bh (β:=((List (List Int)))×(Nat)) (λq7=>z7=q7.1) (λq7=>⟨A5 (.own 1 q7.2::A80 (A2 [])),[.dead,.row q7.2 27 tInt.sliceN q7.1]⟩) ?_ ?_
 ·refine wS (sT (wN ?_));refine Ad ?_;refine Bu dd (λs7 b7=>⟨A3 (.bs tInt r1::.bs tInt.slice r2::.own 1 b7::.lit (.bool s7.1)::A80 [.any]),[.dead,.row b7 27 tInt.sliceN s7.2]⟩) 0 (?_) ?_
  ·try dsimp only
   exact leC (gW (gV (gX _)))
  ·rintro⟨cp,l6⟩ v5 x7 H db;try dsimp only
   dsimp only[Ib]at H;refine Ab λda ba=>?_
   refine wS (sT (wN ?_));refine Ah V (λX=>?_) (λX=>?_)
   ·have H:=AC X H;refine Al ?_;refine ba _ ?_;refine nT ?_;obtain⟨cj,bz,br⟩:=An.1 H;refine P4 (β:=(Bool×(List (List Int)))×(Nat)) (λz=>cj=z.1) (λz=>⟨A3 (.bs tInt r1::.bs tInt.slice r2::.own 1 z.2::.lit (.bool z.1.1)::A80 [.any]),[.dead,.row z.2 27 tInt.sliceN z.1.2]⟩) ?_ ?_
    ·refine Ad ?_;refine wS (sT (wN ?_));refine wS (sT (sT (sT (wN ?_))));refine Ad ?_;refine Bu bz (λaa bi=>⟨A3 (.bs tInt r1::.bs tInt.slice r2::.own 1 bi::.lit (.bool aa.1)::A10 (A7 (.bs tInt r1::.lit (.int .i64 (r1.length:Int))::.lit (.int .i64 aa.2.1)::A40 (A20 [.any])))),[.dead,.row bi 27 tInt.sliceN aa.2.2]⟩) v5 (?_) ?_
     ·try dsimp only
      exact AS
     ·rintro⟨g,c,F⟩ aw df H bk;try dsimp only
      dsimp only[CF]at H;refine wS (sT (wN ?_));refine Ab λcz az=>?_
      refine Ah V (λW=>?_) (λW=>?_)
      ·have H:=AC W H;refine Al ?_;refine az _ ?_;refine nT ?_;obtain⟨ci,bx,bq⟩:=An.1 H;refine Bh (β:=(Bool×(List (List Int)))×(Nat)) (λu=>ci=u.1) (λu=>⟨A3 (.bs tInt r1::.bs tInt.slice r2::.own 1 u.2::.lit (.bool u.1.1)::A10 (A7 (.bs tInt r1::.lit (.int .i64 (r1.length:Int))::.lit (.int .i64 c)::A40 (A20 [.any])))),[.dead,.row u.2 27 tInt.sliceN u.1.2]⟩) ?_ ?_
       ·have H:=bx;refine Ad ?_;obtain⟨cx,H⟩:=Aj.1 H;refine wS (sX cx (sT (sT (wN ?_))));refine wS (sT (wN ?_));refine wS (sT (wN ?_));refine AJ _ (SC 9 tInt V) ?_;obtain⟨cw,H⟩:=Aj.1 H;obtain⟨ch,bw,bo⟩:=An.1 H;refine Bh (β:=((List Int))×(Nat)) (λE=>ch=E.1) (λE=>⟨A3 (.bs tInt r1::.bs tInt.slice r2::.own 1 E.2::.lit (.bool g)::.any::.lit (.int .i64 (ixD r1 c))::.bs tInt E.1::A10 (A4 (.bs tInt r1::.lit (.int .i64 (r1.length:Int))::.lit (.int .i64 c)::A40 (A20 [.any])))),[.dead,.row E.2 27 tInt.sliceN F]⟩) ?_ ?_
        ·refine wS (sT (sT (sX cw (sT (sT (sT (wN ?_)))))));refine Ad ?_;refine Bu bw (λah bh=>⟨A3 (.bs tInt r1::.bs tInt.slice r2::.own 1 bh::.lit (.bool g)::.any::.lit (.int .i64 (ixD r1 c))::.bs tInt ah.1::.lit (.bool ah.2.1)::A10 (A3 (.bs tInt r1::.lit (.int .i64 (r1.length:Int))::.lit (.int .i64 c)::A6 (.bs tInt (ixD r2 (ixD r1 c))::.lit (.int .i64 ((ixD r2 (ixD r1 c)).length:Int))::.lit (.int .i64 ah.2.2)::A40 (A10 (A2 [])))))),[.dead,.row bh 27 tInt.sliceN F]⟩) aw (?_) ?_
         ·try dsimp only
          exact AS
         ·rintro⟨dp,cb,ck⟩ Z de H bj;try dsimp only
          dsimp only[C5]at H;refine wS (sT (wN ?_));refine Ab λcy ay=>?_
          refine Ah V (λU=>?_) (λU=>?_)
          ·have H:=AC U H;refine Al ?_;refine ay _ ?_;refine nT ?_;obtain⟨cg,bv,bn⟩:=An.1 H;refine Bh (β:=((List Int)×Bool)×(Nat)) (λm=>cg=m.1) (λm=>⟨A3 (.bs tInt r1::.bs tInt.slice r2::.own 1 m.2::.lit (.bool g)::.any::.lit (.int .i64 (ixD r1 c))::.bs tInt m.1.1::.lit (.bool m.1.2)::A10 (A3 (.bs tInt r1::.lit (.int .i64 (r1.length:Int))::.lit (.int .i64 c)::A6 (.bs tInt (ixD r2 (ixD r1 c))::.lit (.int .i64 ((ixD r2 (ixD r1 c)).length:Int))::.lit (.int .i64 ck)::A40 (A10 (A2 [])))))),[.dead,.row m.2 27 tInt.sliceN F]⟩) ?_ ?_
           ·have H:=bv;refine Ad ?_;obtain⟨cv,H⟩:=Aj.1 H;refine wS (sX cv (sT (sT (wN ?_))));refine Ad ?_;obtain⟨bg,H⟩:=Aj.1 H;refine wS (sT (sT ?_));refine sA ?_ (Ca V (As (Aq Iu)) V (As (Aq GB)) V bg) (Ar (Ao (Ao Gp)));refine sA ?_ (QA V (As (Aq (Aq Je))) V (BS bg)) (Ar (Ao (Ao Iz)));refine sA ?_ (Xs V (As (Aq (Aq FG))) Ys) (Ar (Ao (Ao Kf)));refine sT (wN ?_);refine Ah V (λO=>?_) (λO=>?_)
            ·have H:=AC O H;refine Al ?_;have Y:=Ac.1 H;repeat(first|refine abN ?_|refine asN ?_)
             refine Ap ⟨(_,Z),Y.symm,?_⟩;try dsimp only
             exact AS
            ·have H:=AE O H;refine wS (sT (sT (sT (wN ?_))));refine Ah V (λN=>?_) (λN=>?_)
             ·have H:=AC N H;obtain⟨bf,H⟩:=Aj.1 H;refine wSE (sT (sT ?_));refine sA ?_ (Ca V (As (Aq (Aq Iu))) V (As (Aq (Aq GB))) V bf) (Ar (Ao (Ao (Ao Gp))));refine sA ?_ (Bq V (As (Aq (Aq (Aq Je)))) V (BS bf) V) (Ar (Ao (Ao (Ao Iz))));refine sT (sT (wN ?_));have Y:=Ac.1 H;repeat(first|refine abN ?_|refine asN ?_)
              refine Ap ⟨(_,Z),Y.symm,?_⟩;try dsimp only
              exact AS
             ·have H:=AE N H;obtain⟨be,H⟩:=Aj.1 H;obtain⟨dj,al,H⟩:=An.1 H;have al:=Sh al;refine wSE (sT (sT (sT ?_)));refine sA ?_ (Ca V (As (Aq Je)) V (As (Aq FG)) V be) (Ar (Ao Kf));refine sA ?_ (Bq V (As (Aq Gi)) V (BS be) V) (Ar (Ao IR));(refine AF V (Du 2 V V al (by decide) CL (.cons (.cl V) (.cons (.cl V) .nil)) ?_);refine D2 ?_ (Ar (Ao JB)));refine sT (wN ?_);have Y:=Ac.1 H;repeat(first|refine abN ?_|refine asN ?_)
              refine Ap ⟨(_,Z),Y.symm,?_⟩;try dsimp only
              refine(YY hC 2 V (by(simp only[fzH,Eg,gP,gJ,eV,eX,Nat.reduceEqDiff,zal,zag];first|done|exact V)) (by(simp only[fzH,Eg,gP,gJ,eV,eX,Nat.reduceEqDiff,zal,zag];first|done|exact V))).trans ?_;exact leC (gV (gV (gX _)))
           ·rintro⟨⟨dm,ca⟩,cm⟩ ad;try dsimp only at ad
            have H:=bn;rw[ad]at H;try dsimp only at H⊢
            refine wSE (sT (sT (wN ?_)));have ao:=Ac.1 H;repeat(first|refine abN ?_|refine asN ?_)
            refine Ap ⟨_,cm,ao.symm,?_⟩;try dsimp only
            exact AS
          ·have H:=AE U H;refine Ay ?_;repeat(first|refine BC ?_|refine exO (by decide) ?_|refine asE ?_)
           refine exN ?_;have ao:=bj _ (Ac.1 H).symm;repeat(first|refine abN ?_|refine asN ?_)
           refine Ap ⟨(_,Z),ao.symm,?_⟩;try dsimp only
           exact AS
        ·rintro⟨dn,av⟩ ae;try dsimp only at ae
         have H:=bo;rw[ae]at H;try dsimp only
         obtain⟨cf,bu,bm⟩:=An.1 H;refine Bh (β:=((List Int))×(Nat)) (λB=>cf=B.1) (λB=>⟨A3 (.bs tInt r1::.bs tInt.slice r2::.own 1 B.2::.lit (.bool g)::.any::.lit (.int .i64 (ixD r1 c))::.bs tInt B.1::A10 (A4 (.bs tInt r1::.lit (.int .i64 (r1.length:Int))::.lit (.int .i64 c)::A40 (A20 [.any])))),[.dead,.row B.2 27 tInt.sliceN F]⟩) ?_ ?_
         ·have H:=bu;refine wS (sT (sT (wN ?_)));refine Ah V (λL=>?_) (λL=>?_)
          ·have H:=AC L H;refine wSE (sT (wN ?_));have an:=Ac.1 H;repeat(first|refine abN ?_|refine asN ?_)
           refine Ap ⟨(_,av),an.symm,?_⟩;try dsimp only
           refine(SC 9 tInt V).trans ?_;exact AS
          ·have H:=AE L H;refine Al ?_;have an:=Ac.1 H;repeat(first|refine abN ?_|refine asN ?_)
           refine Ap ⟨(_,av),an.symm,?_⟩;try dsimp only
           exact AS
         ·rintro⟨dl,au⟩ ac;try dsimp only at ac
          have H:=bm;rw[ac]at H;try dsimp only
          obtain⟨di,ak,H⟩:=An.1 H;have ak:=E3 ak;refine wS (sT (sT (sC ak (sT (sT (sT (sT (sT (wN ?_)))))))));obtain⟨ce,bt,bl⟩:=An.1 H;refine Bh (β:=((List Int))×(Nat)) (λA=>ce=A.1) (λA=>⟨A3 (.bs tInt r1::.bs tInt.slice r2::.own 1 A.2::.lit (.bool g)::.any::.lit (.int .i64 (ixD r1 c))::.bs tInt A.1::A10 (A4 (.bs tInt r1::.lit (.int .i64 (r1.length:Int))::.lit (.int .i64 c)::A40 (A20 [.any])))),[.dead,.row A.2 27 tInt.sliceN F]⟩) ?_ ?_
          ·have H:=bt;refine wS (sT (sT (wN ?_)));refine Ah V (λJ=>?_) (λJ=>?_)
           ·have H:=AC J H;obtain⟨dh,aj,H⟩:=An.1 H;have aj:=GI aj;obtain⟨cu,H⟩:=Aj.1 H;obtain⟨ct,H⟩:=Aj.1 H;obtain⟨cr,H⟩:=Aj.1 H;refine wSE (sT ?_);(refine AF V (Du 2 V V aj (by decide) CL (.cons (.cl V) .nil) ?_);refine D2 ?_ (Ar (Ar HT)));refine sT (sT ?_);(refine AF V (SN 3 V (xs:=[.tmp 72]) (T:=tInt) (ds:=[ixD r1 c]) V V V (RT.eq (n:=1) (bytes:=8)) (by decide) (by decide) (.cons (iA cu) .nil) ?_);refine D2 ?_ (Ar (Ar (Ao Iz))));(refine AF V (Ab5 (by decide) V V V V (of_decide_eq_true ct) V V (of_decide_eq_true cr) ?_);refine D2 ?_ (Ar (Ar (Ao Kf))));refine sT (wN ?_);have am:=Ac.1 H;repeat(first|refine abN ?_|refine asN ?_)
            refine Ap ⟨(_,au),am.symm,?_⟩;try dsimp only
            refine(YY hC 2 V (by(simp only[fzH,Eg,gP,gJ,eV,eX,Nat.reduceEqDiff,zal,zag];first|done|exact V)) (by(simp only[fzH,Eg,gP,gJ,eV,eX,Nat.reduceEqDiff,zal,zag];first|done|exact V))).trans ?_;exact leC (gV (gV (gX _)))
           ·have H:=AE J H;refine Al ?_;have am:=Ac.1 H;repeat(first|refine abN ?_|refine asN ?_)
            refine Ap ⟨(_,au),am.symm,?_⟩;try dsimp only
            exact AS
          ·rintro⟨dk,ar⟩ ab;try dsimp only at ab
           have H:=bl;rw[ab]at H;try dsimp only
           obtain⟨bc,H⟩:=Aj.1 H;obtain⟨dg,ai,H⟩:=An.1 H;have ai:=Iy ai;refine wS (sT (sT (sT ?_)));refine sA ?_ (Ca V (As (As (Aq Hg))) V (As (As (Aq Fr))) V bc) (Ar (Ar (Ao HT)));refine sA ?_ (Bq V (As (As (Aq Iu))) V (BS bc) V) (Ar (Ar (Ao G3)));refine sC ai (sT (wN ?_));refine Ah V (λI=>?_) (λI=>?_)
           ·have H:=AC I H;obtain⟨bb,H⟩:=Aj.1 H;obtain⟨cq,H⟩:=Aj.1 H;refine wSE (sT (sT (sT ?_)));refine sA ?_ (Ca V (As (As (Aq (Aq Gi)))) V (As (As (Aq (Aq FF)))) V bb) (Ar (Ar (Ao (Ao Gl))));(refine AF V (Dt V V V (BS bb) (Aq4 cq) V ?_);refine D2 ?_ RG);refine sT (wN ?_);have ap:=Ac.1 H;repeat(first|refine abN ?_|refine asN ?_)
            refine Ap ⟨(_,ar),ap.symm,?_⟩;try dsimp only
            exact AS
           ·have H:=AE I H;refine Al ?_;have ap:=Ac.1 H;repeat(first|refine abN ?_|refine asN ?_)
            refine Ap ⟨(_,ar),ap.symm,?_⟩;try dsimp only
            exact AS
       ·rintro⟨⟨cc,dq⟩,cn⟩ af;try dsimp only at af
        have H:=bq;rw[af]at H;try dsimp only at H⊢
        refine wSE (sT (sT (wN ?_)));have aq:=Ac.1 H;repeat(first|refine abN ?_|refine asN ?_)
        refine Ap ⟨_,cn,aq.symm,?_⟩;try dsimp only
        exact AS
      ·have H:=AE W H;refine Ay ?_;repeat(first|refine BC ?_|refine exO (by decide) ?_|refine asE ?_)
       refine exN ?_;have aq:=bk _ (Ac.1 H).symm;repeat(first|refine abN ?_|refine asN ?_)
       refine Ap ⟨(_,aw),aq.symm,?_⟩;try dsimp only
       exact AS
    ·rintro⟨⟨cd,dr⟩,co⟩ aa ag G;try dsimp only at ag
     try dsimp only at G
     have H:=br;rw[ag]at H;try dsimp only at H
     have e7:=Ac.1 H;repeat(first|refine abN ?_|refine asN ?_)
     refine Ap ⟨_,co,e7.symm,?_⟩;try dsimp only
     refine iN G ?_;exact AS
   ·have H:=AE X H;refine Ay ?_;repeat(first|refine BC ?_|refine exO (by decide) ?_|refine asE ?_)
    refine exN ?_;have e7:=db _ (Ac.1 H).symm;repeat(first|refine abN ?_|refine asN ?_)
    refine Ap ⟨(_,v5),e7.symm,?_⟩;try dsimp only
    exact AS
 ·rintro⟨l9,v8⟩ ax;try dsimp only at ax
  have H:=dc;rw[ax]at H;try dsimp only
  refine wS (sT (sT (wN ?_)));obtain rfl:=Ac.1 H;exact Aw ⟨.inr V,g9 V⟩
end
section
variable{h:List gI}{i:Nat}
inductive LendX(h:List ABlk)(i:Nat):List AV->List AV->Prop
 |nil:LendX h i [] []
 |boxI {j:Nat} {n:Int} {l l':List AV} (hij:i≠j) (hj:h[j]? =some (.box [.lit (.int .i64 n)])) (hw:wfB .i64 n=true) (hl:LendX h i l l'):LendX h i (.ptr j 0::l) (.bp tInt n 0::l')
 |boxS {j:Nat} {α:Type} {T:Ty α} {d:List α} {l l':List AV} (hij:i≠j) (hj:h[j]? =some (.box [.bs T d])) (hl:LendX h i l l'):LendX h i (.ptr j 0::l) (.bp T.slice d 0::l')
variable{C:Ctx}{w:cI}{S:Nat->Prop}{ψ:Nat->cF}
theorem Azg(H:iC C h S ψ w)(F:gK h[i]? =aK)(I:∀g,Bv (ψ i)=jB g->ftp h[i]? (ψ i) g){j:Nat}{x:AV}{α:Type}{T:Ty α}{d:α}(G:i≠j)(B:h[j]? =jB (.box [x]))(W:∀u,gQ w S h ψ x u->T.RS w S [u] d)(X:∀k,S k->k < w.heap.size/\Bv (ψ i)≠jB k)(N:gQ w S h ψ (.ptr j 0) v):
 gQ w (λk=>k < w.heap.size/\Bv (ψ i)≠jB k) [] ψ0 (.bp T d 0) v:=by
 unfold gQ at N⊢;obtain⟨g,hg,O⟩:=N.2 (by rw[B];rfl);obtain⟨g',cs,e',z,_,_,L,A⟩:=H.blk _ _ B;rw[hg]at z;cases z;have E:g < w.heap.size:=(aA.1 L).1;obtain⟨u,Y,rfl,U,m⟩:=by unfold Af at A;exact A
 unfold Af at m;subst m;refine⟨g,0,O,⟨E,λe=>?_⟩,[u],T.keepS (W u U) (λ_ _=>rfl) X,λJ Z c=>?_⟩
 ·exact H.dis i j G F (by rw[B];rfl) g (I g e) (by rw[B,hg];rfl)
 ·cases J with
  |zero=>
   simp only[eA,jC]at c;subst c;unfold cJ;simp[L]
  |succ J=>simp at c
theorem LendX.rel(H:iC C h S ψ w)(A:gK h[i]? =aK)(B:∀g,Bv (ψ i)=jB g->ftp h[i]? (ψ i) g)(I:∀k,S k->k < w.heap.size/\Bv (ψ i)≠jB k){l:List AV}(L:LendX h i l l'):
 ∀{vs:List cF},Af w S h ψ l vs->Af w (λk=>k < w.heap.size/\Bv (ψ i)≠jB k) [] ψ0 l' vs:=by
 induction L with
 |nil=>intro vs c;unfold Af at c⊢;exact c
 |boxI m G J _ F=>
  intro vs c;unfold Af at c⊢;obtain⟨v,E,rfl,h1,h2⟩:=c;refine⟨v,E,rfl,Azg H A B m G (λu z=>?_) I h1,F h2⟩;unfold gQ at z;subst z;exact⟨rfl,J⟩
 |boxS m G _ F=>
  intro vs c;unfold Af at c⊢;obtain⟨v,E,rfl,h1,h2⟩:=c;refine⟨v,E,rfl,Azg H A B m G (λu z=>?_) I h1,F h2⟩;unfold gQ at z;exact z
inductive LendF(h:List ABlk)(i:Nat):AV->AV->Prop
 |cl {x:AV} (hx:AV.cl x=true):LendF h i x x
 |fn {f:FuncId} {l l':List AV} (hl:LendX h i l l'):LendF h i (.fn f l) (.fn f l')
theorem LendF.of_eq{x y z:AV}(e:x=y)(c:LendF h i y z):LendF h i x z:=by rw[e];exact c
inductive LendFs(h:List ABlk)(i:Nat):List AV->List AV->Prop
 |nil:LendFs h i [] []
 |cons {x x':AV} {l l':List AV} (hx:LendF h i x x') (hl:LendFs h i l l'):LendFs h i (x::l) (x'::l')
theorem LendFs.rel(H:iC C h S ψ w)(m:gK h[i]? =aK)(z:∀g,Bv (ψ i)=jB g->ftp h[i]? (ψ i) g)(B:∀k,S k->k < w.heap.size/\Bv (ψ i)≠jB k){l:List AV}(u:LendFs h i l l'):
 ∀{vs:List cF},Af w S h ψ l vs->Af w (λk=>k < w.heap.size/\Bv (ψ i)≠jB k) [] ψ0 l' vs:=by
 induction u with
 |nil=>intro vs c;unfold Af at c⊢;exact c
 |cons hx _ F=>
  intro vs c;unfold Af at c⊢;obtain⟨v,E,rfl,h1,h2⟩:=c;refine⟨v,E,rfl,?_,F h2⟩;cases hx with
  |cl hc=>exact Dq _ _ hc (FN (gY h ψ (λ_ _=>rfl) B:Ext w S h ψ w (λk=>k < w.heap.size/\Bv (ψ i)≠jB k) h ψ) _ _ h1)
  |fn u=>
   unfold gQ at h1⊢;obtain⟨cs,e,A⟩:=h1;exact⟨cs,e,u.rel H m z B A⟩
end
theorem VJ{P:aZ}{C:Ctx}{o:aX}{t:List AV}{h:List gI}{f:aR}{more:List aY}{args:Array aY}{i:Nat}{α:Type}{T:Ty α}{l l':List α}{xs:List AV}
 (ho:o.op= .call {callee:=.value (.func f),args:=args,argTypes:=tys})(ha:args.toList=x::more)(hF:Rx P f e T l xs l')(hx:evA t x= .own i ver)(hi:h[i]? =jB (.row ver e T l))(m:∀w S S' cs d,T.RS w S cs d->T.RS w S' cs d)(hm:LendFs h i (more.map (evA t)) xs)
 (hK:K ⟨Bn t o.dst (.own i (ver+1)),h.set i (.row (ver+1) e T l')⟩):AOp P C o ⟨t,h⟩ K:=by
 rintro Q' a w ⟨E,S,ψ,H,U⟩;refine⟨λc e=>(by rw[ho]at e;cases e),?_⟩;have u:=Bw U x;rw[show evA (St.mk t h).t x= .own i ver from hx]at u;unfold gQ at u;have hv:=(u.2 _ (by rw[hi];rfl)).2 V;have I:=H.blk i _ hi;have z:=I.lt V;have W:∀g,Bv (ψ i)=jB g->ftp h[i]? (ψ i) g:=λg hg=>by rw[hi];exact hg
 have Y:∀k,S k->k < w.heap.size/\Bv (ψ i)≠jB k:=λk hk=>⟨H.lt k hk,λe=>(z k e).2.2 hk⟩
 have h1:Af w S h ψ (more.map (evA t)) (more.map a.eval):=Cc λx _=>Bw U x
 have h2:=hm.rel H (by rw[hi];rfl) W Y h1;unfold Oper.wp;rw[Ct ho hF.1 a.eval w V];simp only[Oper.upon];have aa:Hw C.N w (λk=>k < w.heap.size/\Bv (ψ i)≠jB k) [] ψ0 (ψ i) (.row 0 e T l):=by
  obtain⟨cells,O,k0,N,L⟩:=I;exact⟨cells,O,k0,λj d E=>m _ _ _ _ _ (N j d E),λg hg=>⟨(L g hg).1,λJ=>J.2 (AU hg)⟩⟩
 have hc:=hF.2 C.N _ w (ψ i) (more.map a.eval) (λk hk=>iV (H.nlt k hk) H.bel.size) (λk hk=>hk.1) aa h2;rw[show(args.map a.eval)=(ψ i::more.map a.eval).toArray from by
  obtain rfl:args=(x::more).toArray:=by rw[<-ha]
  simp[hv]]
 refine hc.mono ?_;rintro r w' ⟨v',rfl,B,ab,A⟩;have G:∀k,S k->w'.heap[k]? =w.heap[k]?:=λk hk=>B.block k (H.lt k hk) λe=>(z k e.symm).2.2 hk
 have Z:Hw C.N w' S [] ψ0 v' (.row 0 e T l'):=by
  obtain⟨cells,O,k0,N,L⟩:=ab;refine⟨cells,O,k0,λj d E=>m _ _ _ _ _ (N j d E),λg hg=>⟨(L g hg).1,λJ=>?_⟩⟩;rcases A g (AU hg)with h3|h3
  ·exact(z g h3).2.2 J
  ·have:=H.lt g J;omega
 have X:Ext w S h ψ w' S (h.set i (.row (ver+1) e T l')) (Bo ψ i v'):=gZ G hi (λc' hc=>by
  simp only[gN,jC]at hc;exact⟨ver,rfl,by omega,λe=>by omega⟩) λh=>by simp[AZ]at h
 refine⟨_,hK,Is (s:=⟨t,h⟩) hi E U (H.set hi V (Bs B) X Z A) X ?_⟩;unfold gQ;refine⟨by simp[(eE.1 hi).1],λc' F=>?_⟩;rw[eH (eE.1 hi).1]at F;simp only[gN,jC]at F;exact⟨by omega,λ_=>by rw[Bk]⟩
theorem VA{P:aZ}{f:aR}{args:List AV}{α:Type}{T:Ty α}{l:List α}(H:Jv P f args e T l):Ah6 P f args e T l:=
 ⟨H.1,λw S vs c z=>(H.2 w S vs c z).mono λr w' ⟨v,cells,h1,h2,m,A⟩=>⟨v,cells,h1,h2,m,S,λ_ h=>h,λ_ h=>.inl h,λk hk=>iV (c k hk) h2.size,A,λg hg u=>by
  have:=(m.lt g hg).1;have:=c g u;omega⟩⟩
noncomputable section
def Axe(q:Int->M Bool):List Int->M (List Int)
 | []=>iH []
 |x::l=>iD (q x) λb=>iD (Axe q l) λr=>iH (if b then r else x::r)
open Classical in
def As9(q:Int->M Bool)(x:Int):Bool:=if h:∃b,(q x).to b then h.choose else aH
theorem Aqc{x:Int}{b:Bool}(h:(q x).to b):(q x).to (As9 q x):=by
 unfold As9;rw[dif_pos ⟨b,h⟩];exact Exists.choose_spec (⟨b,h⟩:∃b,(q x).to b)
theorem YB{q:Int->M Bool}:∀{l r:List Int},(Axe q l).to r->(∀x∈l,(q x).to (As9 q x))/\r=l.filter λx=>!As9 q x
 | [],r,h=>by
  obtain rfl:=Ac.1 h;exact⟨λx hx=>(by cases hx),rfl⟩
 |x::l,r,h=>by
  obtain⟨b,h1,h2⟩:=An.1 h;obtain⟨B,A,z⟩:=An.1 h2;obtain rfl:=Ac.1 z;obtain⟨u,m⟩:=YB A;have c:=Aqc h1;have g:As9 q x=b:=Xj c h1;refine⟨λy hy=>?_,?_⟩
  ·rcases fB.1 hy with rfl|hy
   ·exact c
   ·exact u y hy
  ·rw[dP,g,<-m];cases b <;> rfl
theorem Aqd{l:List Int}(H:(Axe q l).to r)(u:l.length<=2147483648)(g:l.all (wfB .i64)=aK){f:aR}{c:List AV}(m:∀x b,(q x).to b->Fn bK f (.lit (.int .i64 x)::c) (.lit (.bool b)))(hc:Bj c=true:=by rfl):
 Rx bK 177 3 tInt l [.fn f c] r:=by
 obtain⟨h1,rfl⟩:=YB H;exact Alb l u (λx hx=>Acn (dD.1 g x hx)) f c hc (As9 q) λx hx=>m x _ (h1 x hx)
theorem Ags{q:Int->M Bool}{p:Int->Bool}:∀{l:List Int},(∀x∈l,(q x).to (p x))->(Axe q l).to (l.filter λx=>!p x)
 | [],_=>Ag _
 |x::l,h=>by
  have h1:=Ags λy c=>h y (fC _ c)
  refine Am (h x (by simp)) (Am h1 ?_);rw[dP];cases p x <;> exact Ag _
instance Ash:ZC bK 66 [.slice jA 0 0]:=⟨by kernel_rfl⟩
def Jh(c:Int)(g:List (List Int))(m:Int):M Bool:=iE (Ch g c) (iD (Ei (ixD g c) m) λr2=>iH (!r2))
theorem Qp{c:Int}{u:List (List Int)}{g:Int}{r:Bool}(H:(Jh c u g).to r):Fn bK 178 [.lit (.int .i64 c),.bp tInt.sliceN.slice u 0,.bp tInt g 0] (.lit (.bool r)):=by
 delta Jh at H;try dsimp only at H
 refine AR Tryz.func178 V (by kernel_rfl) V Tryz.ntmps178 λC z=>?_
 simp only[Nat.reduceAdd,Nat.reduceSub,zaa];refine wS (sT (wN ?_));obtain⟨g,H⟩:=Aj.1 H;obtain⟨r2,m,H⟩:=An.1 H;have m:=GY m;refine dS 8 (hq:=?_);refine qT (qT (qX g (qT (qT (qC m (qT (qT (qN (wN ?_)))))))));obtain rfl:=Ac.1 H;exact Aw ⟨.inr V,g8 V⟩
def FJ(f:iB)(hP1:Int):M (List Int):=iF ((aL (hP1 < 0))||(aL (hP1≥(f.blocks.length:Int)))) (iH ([]:List Int)) (iD (C6 f) λu=>iD (F1 f) λm=>iE (Ch m hP1) (iD (IN (ixD m hP1)) λc=>iE (wfB .i64 hP1) (iE (aL (c.length<=2147483648)) (iE (c.all (wfB .i64)) (iD (Axe (λz=>Jh z u hP1) c) λg=>iH g)))))
theorem No(H:(FJ f hP1).to r):Jv bK 158 [.agg (Ak f),.lit (.int .i64 hP1)] 3 tInt r:=by
 delta FJ at H;try dsimp only at H
 refine Ef Tryz.func158 V (by kernel_rfl) V Tryz.ntmps158 CL λC hC=>?_
 simp only[Nat.reduceAdd,Nat.reduceSub,zaa];refine wS (sB ?_);(refine AF V (AOp.boxI 1 V V (P0.one (iK V)).weak ?_);refine D2 ?_ IR);refine sT (wN ?_);refine Ab λO L=>?_
 refine wS (sT (sT (sT ?_)));refine sGf V ?_;refine sGf V ?_;refine sGf V ?_;refine sGf V ?_;refine sGf V (sT (wN ?_));refine Ah V (λu=>?_) (λu=>?_)
 ·have H:=AC u H;refine wS (sT (wN ?_));obtain rfl:=Ac.1 H;refine AJ _ (EA 4 3 tInt V (by decide)) ?_;exact Aw ⟨.inr V,rfl,2,0,rfl,rfl⟩
 ·have H:=AE u H;refine Al ?_;refine L _ ?_;refine nT ?_;obtain⟨A,J,H⟩:=An.1 H;have J:=UE J;refine wS (sT (sC J (sA0 (sW (wN ?_)))));obtain⟨z,I,H⟩:=An.1 H;have I:=Ia I;obtain⟨c5,H⟩:=Aj.1 H;obtain⟨X,G,H⟩:=An.1 H;have G:=VA (GI G);obtain⟨c7,H⟩:=Aj.1 H;obtain⟨c8,H⟩:=Aj.1 H;obtain⟨c9,H⟩:=Aj.1 H;obtain⟨B,m,H⟩:=An.1 H;have m:=Aqd m (of_decide_eq_true c8) c9 λ_ _ H=>Qp H
  refine AJ ⟨.agg (Ak f)::.lit (.int .i64 hP1)::.ptr 0 0::.ptr 1 0::.lit (.slice jA 0 0)::.ptr 2 0::.lit (.int .i64 hP1)::.lit (.bool (aL (hP1 < 0)))::.lit (.bool (aL (hP1 < 0)))::A5 (.lit (.bool ((aL (hP1 < 0))||(aL (hP1≥(f.blocks.length:Int)))))::.agg (Ak f)::.bs tInt.sliceN A::A8 []),[.box (Ak f),.box [.lit (.int .i64 hP1)],.box [.bs tInt.sliceN A],.dead]⟩ (iN AS (KU 1 V)) ?_;refine Ab λU E=>?_
  refine P6 (n:=9) (λb=>⟨.agg (Ak f)::.lit (.int .i64 hP1)::.ptr 0 0::.ptr 1 0::(bif b 8 then .own 3 (0+1)else .lit (.slice jA 0 0))::.ptr 2 0::.lit (.int .i64 hP1)::.lit (.bool (aL (hP1 < 0)))::.lit (.bool (aL (hP1 < 0)))::A5 [.lit (.bool ((aL (hP1 < 0))||(aL (hP1≥(f.blocks.length:Int))))),.agg (Ak f),.bs tInt.sliceN A,(bif b 0 then .agg (Ak f)else .any),(bif b 1 then .bs tInt.slice z else .any),(bif b 2 then .lit (.int .i64 hP1)else .any),(bif b 3 then .bp tInt.slice (ixD z hP1) 0 else .any),(bif b 4 then .bs tInt (ixD z hP1)else .any),(bif b 5 then .own 3 0 else .any),(bif b 6 then .fn 178 [.ptr 2 0,.ptr 1 0]else .any),(bif b 7 then .own 3 (0+1)else .any)],[.box (Ak f),.box [.lit (.int .i64 hP1)],.box [.bs tInt.sliceN A],(bif b 7 then .row (0+1) 3 tInt B else(bif b 5 then .row 0 3 tInt X else .dead))]⟩) V (by kernel_rfl) (by kernel_rfl) ?_ (E _ ?_)
  ·refine BQ (λb g c hc=>?_) ?_
   ·try dsimp only
    refine AY (AO V Gi V V) ?_;exact iM
   refine BQ (λb g c hc=>?_) ?_
   ·have h0:b 0=aK:=c 0 _ V V;try dsimp only
    refine AY (AM V (Q4 ((Aq (Aq FG)).trans (BG h0 _ _)) V) I V V) ?_;exact iM
   refine BQ (λb g c hc=>?_) ?_
   ·try dsimp only
    refine AY (Bf V FF V V) ?_;exact iM
   refine BQ (λb g c hc=>?_) ?_
   ·have h1:b 1=aK:=c 0 _ V V;have h2:b 2=aK:=c 1 _ V V;try dsimp only
    refine AY (Ff V ((Aq (Aq Gi)).trans (BG h1 _ _)) ((Aq (Aq FF)).trans (BG h2 _ _)) V c5) ?_;exact iM
   refine BQ (λb g c hc=>?_) ?_
   ·have h3:b 3=aK:=c 0 _ V V;try dsimp only
    refine AY (AB V ((Aq (Aq Hg)).trans (BG h3 _ _)) V) ?_;exact iM
   refine BQ (λb g c hc=>?_) ?_
   ·have h4:b 4=aK:=c 0 _ V V;have F:b 7=aH:=AW hc (i:=5) (j:=7) (k:=0) V V V V g;have Y:b 8=aH:=AW hc (i:=5) (j:=8) (k:=7) V V V V g;have W:upd b 5 7=aH:=F;try dsimp only
    refine Kq 3 V (Q4 ((Aq (Aq Fr)).trans (BG h4 _ _)) V) G (by decide) V (congrArg jB ((CO F _ _).trans (CO g _ _))) (by repeat(first|exact Ae5|refine Gw V ?_|refine Gw (NM V V) ?_|refine Gw (NM V (NM V V)) ?_|refine Gw (NM V (NM V (NM V V))) ?_)) (by repeat(first|exact Ae4|refine Fx V ?_|refine Fx (Atm g V) ?_|refine Fx (Atm F V) ?_|refine Fx (Atm Y V) ?_|refine Fx (Azd V V) ?_)) ?_;simp only[CO W];exact iM
   refine BQ (λb g c hc=>?_) ?_
   ·try dsimp only
    refine AY (FK V) ?_;exact iM
   refine BQ (λb g c hc=>?_) ?_
   ·have N:b 5=aK:=c 0 _ V V;have Z:b 6=aK:=c 1 _ V V;try dsimp only
    refine VJ (i:=3) (more:=[.tmp 23]) V V m ((Aq (Aq Iu)).trans (BG N _ _)) (congrArg jB ((CO g _ _).trans (Sn N _ _))) CL (.cons (.of_eq ((Aq (Aq GB)).trans (BG Z _ _)) (.fn (.boxS (j:=2) (by decide) V (.boxI (j:=1) (by decide) V c7 .nil)))) .nil) ?_;exact iM
   refine BQ (λb g c hc=>?_) ?_
   ·have F:b 7=aK:=c 0 _ V V;try dsimp only
    refine AY (AT.assign V ((Aq (Aq (Aq Je))).trans (BG F _ _))) ?_;exact iM
   exact Agd
  ·refine AJ ⟨.agg (Ak f)::.lit (.int .i64 hP1)::.ptr 0 0::.ptr 1 0::.own 3 (0+1)::.ptr 2 0::.lit (.int .i64 hP1)::.lit (.bool (aL (hP1 < 0)))::.lit (.bool (aL (hP1 < 0)))::A5 [.lit (.bool ((aL (hP1 < 0))||(aL (hP1≥(f.blocks.length:Int))))),.agg (Ak f),.bs tInt.sliceN A,.agg (Ak f),.bs tInt.slice z,.lit (.int .i64 hP1),.bp tInt.slice (ixD z hP1) 0,.bs tInt (ixD z hP1),.own 3 0,.fn 178 [.ptr 2 0,.ptr 1 0],.own 3 (0+1)],[.box (Ak f),.box [.lit (.int .i64 hP1)],.box [.bs tInt.sliceN A],.row (0+1) 3 tInt B]⟩ iM ?_;obtain rfl:=Ac.1 H;exact Aw ⟨.inr V,rfl,3,0+1,rfl,rfl⟩
end
def Alx(l:Nat)(J:St->Prop)(Q:Exit->St->Prop):Exit->St->Prop
 | .goto l',s=>l'=l/\J s
 |e,s=>Q e s
section
variable{P:aZ}{C:Ctx}
inductive GoOn(P:Program)(C:Ctx)(l:Nat)(y:Code)(Q:Exit->St->Prop):St->Prop
 |mk {s:St} (J:St->Prop) (h:Awp P C y (Alx l J Q) s) (hJ:∀s',J s'->GoOn P C l y Q s'):GoOn P C l y Q s
theorem Aby{c:Code}(l:Nat)(hf:findLabel c l=jB (.seq .skip y))(h:Awp P C c (Alx l (GoOn P C l y Q) Q) s):Awp P C (.scope c) Q s:=λa w H=>by
 intro b k cs W Y X;have hg:gotoIn l (.inScope c::k)=jB (.code (.seq .skip y)::.inScope c::k):=by simp[gotoIn,hf]
 have s1:∀m g,step P (lone (b.atR m (.inScope c::k)) cs g)= .next (lone (b.atR m k) cs g):=λm g=>step_lone_go (by simp[stepG,stepG.exec,Frame.atR])
 have h1:∀m g,(lone (b.atR m (.inScope c::k)) cs g).fenced P (fnc C.rd):=λm g=>fenced_calm Y X V
 have Z:∀s,GoOn P C l y Q s->∀a w,s.rel C a w->∃e a' w',(∃B,Q e B/\B.rel C a' w')/\ArrivesIn (Machine.fenced P (fnc C.rd)) P (lone (b.atR a (.code (.seq .skip y)::.inScope c::k)) cs w) b k cs e a' w':=by
  intro s hs;induction hs with
  |mk J hy hJ ih=>
   intro a w H;obtain⟨e,m,g,⟨B,hq,z⟩,u⟩:=(Ab λK hK=>Al (hK _ hy):Awp P C (.seq .skip y) _ _) a w H b (.inScope c::k) cs W Y X;cases e with
   |normal=>exact⟨.normal,m,g,⟨B,hq,z⟩,StepsIn.trans u (.one (h1 m g) (s1 m g))⟩
   |exit id=>
    refine⟨.exit id,m,g,⟨B,hq,z⟩,λk' hk=>u.1 k' (by simp[cR,hk]),λO hk=>?_⟩;obtain⟨G,h2,h3⟩:=u.2 O (by simp[cR,hk]);exact⟨G,h2,h3⟩
   |goto l'=>
    obtain⟨rfl,U⟩:=hq;obtain⟨I,L,F,E,A⟩:=ih B U m g z;exact⟨I,L,F,E,.of_steps (u.1 _ hg) A⟩
   |ret=>exact⟨_,m,g,⟨B,hq,z⟩,u⟩
   |panic ch=>exact⟨_,m,g,⟨B,hq,z⟩,u⟩
   |outgrown=>exact⟨_,m,g,⟨B,hq,z⟩,u⟩
 have h0:(lone (b.atR a (.code (.scope c)::k)) cs w).fenced P (fnc C.rd):=fenced_calm Y X V;have N:step P (lone (b.atR a (.code (.scope c)::k)) cs w)= .next (lone (b.atR a (.code c::.inScope c::k)) cs w):=step_lone_go (by simp[stepG,stepG.exec,Frame.atR]);obtain⟨e,m,g,⟨B,hq,z⟩,u⟩:=h a w H b (.inScope c::k) cs W Y X;cases e with
 |normal=>exact⟨.normal,m,g,⟨B,hq,z⟩,.head h0 N (StepsIn.trans u (.one (h1 m g) (s1 m g)))⟩
 |exit id=>
  refine⟨.exit id,m,g,⟨B,hq,z⟩,λk' hk=>.head h0 N (u.1 k' (by simp[cR,hk])),λO hk=>?_⟩;obtain⟨G,h2,h3⟩:=u.2 O (by simp[cR,hk]);exact⟨G,h2,.head h0 N h3⟩
 |goto l'=>
  obtain⟨rfl,U⟩:=hq;obtain⟨I,L,F,E,A⟩:=Z B U m g z;exact⟨I,L,F,E,.of_steps (.head h0 N (u.1 _ hg)) A⟩
 |ret=>exact⟨_,m,g,⟨B,hq,z⟩,.of_steps (.one h0 N) u⟩
 |panic ch=>exact⟨_,m,g,⟨B,hq,z⟩,.of_steps (.one h0 N) u⟩
 |outgrown=>exact⟨_,m,g,⟨B,hq,z⟩,.of_steps (.one h0 N) u⟩
theorem Ab0{l l':Nat}(hg:GoOn P C l y Q s):Awp P C (.seq (.label l') y) (Alx l (GoOn P C l y Q) Q) s:=
 Ab λK g=>Awp.label (g _ (by
  cases hg with
  |mk J h m=>
   refine h.mono λe c q=>?_
   cases e with
   |goto l'=>exact⟨q.1,m c q.2⟩
   |_=>exact q))
theorem Awp.goto{l:Nat}(h:Q (.goto l) s):Awp P C (.goto l) Q s:=λ_ _ H=>wpIn_goto ⟨s,h,H⟩
theorem Abt{l:Nat}{g ρ β:Type}{step:g->M (g⊕ρ)}{E:g}{r:ρ}(H:(iG step E).to r)(F:g->β->St)(z:β)(h0:St.le C s (F E z))
 (A:∀m b x,(step m).to x->(∀u,x= .inr u->u=r)->Awp P C y (Alx l (λG=>∃c b',x= .inl c/\St.le C G (F c b')) Q) (F m b)):GoOn P C l y Q s:=by
 obtain⟨k,hk⟩:=Nw.1 H;clear H;induction hk generalizing s z with
 |out hx=>exact .mk _ ((A _ z _ hx λu e=>by cases e;rfl).le h0) λm ⟨_,_,e,_⟩=>by cases e
 |on hx L I=>
  refine .mk _ ((A _ z _ hx λu e=>by cases e).le h0) λm ⟨J,b',e,B⟩=>?_
  cases e;exact I b' B A
end
noncomputable section
def FC(f:iB):(Int×(List Int))->M ((Int×(List Int))⊕((List Int))):=λ(x1,l3)=>iF (aL (x1 < (f.blocks.length:Int))) (iD (iD (FJ f x1) λc=>iF (aL ((c.length:Int) > 0)) (iE (wfB .i64 x1) (iE (Fj (l3.length+ [x1].length) 8) (iH (l3++[x1])))) (iH l3)) λl10=>iH (.inl (aS.wrap (x1+1),l10))) (iH (.inr l3))
def Hj(f:iB):M (List Int):=iD (iG (FC f) (0,([]:List Int))) λc=>iH c
theorem US(H:(Hj f).to r):Fn bK 135 [.agg (Ak f)] (.bs tInt r):=by
 delta Hj at H;try dsimp only at H
 refine AR Tryz.func135 V (by kernel_rfl) V Tryz.ntmps135 λC hC=>?_
 simp only[Nat.reduceAdd,Nat.reduceSub,zaa];refine wS (sB (sT (wN ?_)));refine wS (sT (wN ?_));refine AJ _ (EA 3 3 tInt V (by decide)) ?_;obtain⟨z4,Y,X⟩:=An.1 H;refine Bh (β:=((List Int))×(Nat)) (λB=>z4=B.1) (λB=>⟨A3 (.own 1 B.2::A10 (A8 [])),[.dead,.row B.2 3 tInt B.1]⟩) ?_ ?_
 ·refine wS (sT (sT (sT (sT (wN ?_)))));refine Ad ?_;refine Bu Y (λs4 b4=>⟨.any::.ptr 0 0::.any::.own 1 b4::A3 (.lit (.int .i64 (f.blocks.length:Int))::.lit (.int .i64 s4.1)::A10 (A3 [])),[.box (Ak f),.row b4 3 tInt s4.2]⟩) 0 (?_) ?_
  ·try dsimp only
   exact AS
  ·rintro⟨Z,l3⟩ J x4 H W;try dsimp only
   dsimp only[FC]at H;refine wS (sT (wN ?_));refine Ab λaa L=>?_
   refine Ah V (λz=>?_) (λz=>?_)
   ·have H:=AC z H;refine Al ?_;refine L _ ?_;refine nT ?_;obtain⟨I,G,F⟩:=An.1 H;refine Bh (β:=((List Int))×(Nat)) (λc=>I=c.1) (λc=>⟨.any::.ptr 0 0::.any::.own 1 c.2::A3 (.lit (.int .i64 (f.blocks.length:Int))::.lit (.int .i64 Z)::A10 (A3 [])),[.box (Ak f),.row c.2 3 tInt c.1]⟩) ?_ ?_
    ·have H:=G;refine Ad ?_;refine wS (sT (sT (wN ?_)));obtain⟨ab,u,H⟩:=An.1 H;have u:=No u;refine wS (sT (sT ?_));(refine AF V (Du 2 V V u (by decide) CL (.cons (.cl V) (.cons (.cl V) .nil)) ?_);refine D2 ?_ (Ao Gl));refine sT (sT (wN ?_));refine Ah V (λg=>?_) (λg=>?_)
     ·have H:=AC g H;obtain⟨U,H⟩:=Aj.1 H;obtain⟨O,H⟩:=Aj.1 H;refine wSE (sT (sT ?_));refine sA ?_ (AT.lt (xs:=[.tmp 17]) (T:=tInt) (ds:=[Z]) V V V (by rfl) (by decide) (.cons (iA U) .nil)) (Ao (Ao Kf));refine sP O (sT (wN ?_));have A:=Ac.1 H;repeat(first|refine abN ?_|refine asN ?_)
      refine Ap ⟨(_,J+1),A.symm,?_⟩;try dsimp only
      exact leC (gV (gV (gX _)))
     ·have H:=AE g H;refine Al ?_;have A:=Ac.1 H;repeat(first|refine abN ?_|refine asN ?_)
      refine Ap ⟨(_,J),A.symm,?_⟩;try dsimp only
      exact leC (gV (gV (gX _)))
    ·rintro⟨l10,v9⟩ m;try dsimp only at m
     have H:=F;rw[m]at H;try dsimp only
     refine wSE (sT (sT (wN ?_)));have N:=Ac.1 H;repeat(first|refine abN ?_|refine asN ?_)
     refine Ap ⟨_,v9,N.symm,?_⟩;try dsimp only
     exact AS
   ·have H:=AE z H;refine Ay ?_;repeat(first|refine BC ?_|refine exO (by decide) ?_|refine asE ?_)
    refine exN ?_;have N:=W _ (Ac.1 H).symm;repeat(first|refine abN ?_|refine asN ?_)
    refine Ap ⟨(_,J),N.symm,?_⟩;try dsimp only
    exact leC (gW (gV (gX _)))
 ·rintro⟨l6,v5⟩ E;try dsimp only at E
  have H:=X;rw[E]at H;try dsimp only
  refine wS (sT (sT (wN ?_)));obtain rfl:=Ac.1 H;exact Aw ⟨.inr V,g9 V⟩
def FA(g:List (List Int))(c:List Bool):(Int×(List Int)×(List Int))->M ((Int×(List Int)×(List Int))⊕(List Int)):=λ(at7,l9,l11)=>iF (at7 ==(l9.length:Int)) (iE (aL (l11.length<=2147483648)) (iH (.inr (List.mergeSort l11 λx y=>decide (x<=y))))) (iD (iE (Ch l9 at7) (iE (Ch c (ixD l9 at7)) (iD (iJ (ixD c (ixD l9 at7)) aH (Ei l11 (ixD l9 at7))) λm=>iF ((ixD c (ixD l9 at7))&&(!m)) (iE (wfB .i64 (ixD l9 at7)) (iE (Fj (l11.length+ [ixD l9 at7].length) 8) (iE (Ch g (ixD l9 at7)) (iE (Fj (l9.length+(ixD g (ixD l9 at7)).length) 8) (iH (l9++(ixD g (ixD l9 at7)),l11++[ixD l9 at7])))))) (iH (l9,l11))))) λ(l17,l19)=>iH (.inl (aS.wrap (at7+1),l17,l19)))
def Jk(f:iB)(hP1:Int):M (List Int):=iD (FJ f hP1) λr1=>iF ((r1.length:Int) ==0) (iH []) (iD (F1 f) λg=>iD (GC f) λc=>iE (wfB .i64 hP1) (iG (FA g c) (0,r1,[hP1])))
theorem WT(H:(Jk f hP1).to r):Fn bK 136 [.agg (Ak f),.lit (.int .i64 hP1)] (.bs tInt r):=by
 delta Jk at H;try dsimp only at H
 refine AR Tryz.func136 V (by kernel_rfl) V Tryz.ntmps136 λC hC=>?_
 simp only[Nat.reduceAdd,Nat.reduceSub,zaa];refine wS (sB (sT (wN ?_)));refine Aby 0 V ?_;obtain⟨r1,k1,H⟩:=An.1 H;have k1:=No k1;refine wS (sT (sT ?_));(refine AF V (Du 1 V V k1 (by decide) CL (.cons (.cl V) (.cons (.cl V) .nil)) ?_);refine D2 ?_ (Ao Gl));refine sT (wN ?_);refine Ab λav ai=>?_
 refine wS (sT (sT (sT (wN ?_))));refine Ah V (λX=>?_) (λX=>?_)
 ·have H:=AC X H;refine wS (sT (wN ?_));obtain rfl:=Ac.1 H;refine AJ _ (SC 4 tInt V) ?_;exact Aw ⟨.inr V,g8 V⟩
 ·have H:=AE X H;refine Al ?_;refine ai _ ?_;refine nT ?_;obtain⟨G,k4,H⟩:=An.1 H;have k4:=Ia k4;obtain⟨A,k5,H⟩:=An.1 H;have k5:=Qn k5;refine dS 6 (hq:=?_);refine qT (qC k4 (qT (qC k5 (qT (qT (qN (wN ?_)))))));obtain⟨c6,H⟩:=Aj.1 H;refine wS (sT ?_);(refine AF V (SN 2 V (xs:=[.tmp 21]) (T:=tInt) (ds:=[hP1]) V V V (RT.eq (n:=1) (bytes:=8)) (by decide) (by decide) (.cons (iA c6) .nil) ?_);refine D2 ?_ (Ao (Ao HT)));refine sT (sT (wN ?_));refine Ab0 ?_;refine Abt H (λU N=>⟨A5 (.own 1 N.1::.bs tInt.slice G::.bs iP A::.own 2 N.2::.lit (.int .i64 U.1)::A40 (A6 [])),[.dead,.row N.1 3 tInt U.2.1,.row N.2 3 tInt U.2.2]⟩) (0,0) (?_) ?_
  ·try dsimp only
   exact leC (gW (gV (gV (gX _))))
  ·rintro⟨c,m,L⟩ ⟨z,u⟩ aw H ab;try dsimp only
   dsimp only[FA]at H;refine Ab λau Z=>?_
   refine wS (sT (sT (sT (sT (wN ?_)))));refine Ah V (λJ=>?_) (λJ=>?_)
   ·have H:=AC J H;obtain⟨ar,H⟩:=Aj.1 H;refine wS (sT ?_);(refine AF V (P7 V V V (of_decide_eq_true ar) ?_);refine D2 ?_ (Ao (Ao (Ao JB))));refine wN ?_;refine wS (sT (sT (wN ?_)));have H:=Ac.2 (ab _ (Ac.1 H).symm);obtain rfl:=Ac.1 H;exact Aw ⟨.inr V,g9 V⟩
   ·have H:=AE J H;refine Al ?_;refine Z _ ?_;refine nT ?_;obtain⟨ae,ad,ac⟩:=An.1 H;refine Bh (β:=((List Int)×(List Int))×(Nat×Nat)) (λE=>ae=E.1) (λE=>⟨A5 (.own 1 E.2.1::.bs tInt.slice G::.bs iP A::.own 2 E.2.2::.lit (.int .i64 c)::A40 (A6 [])),[.dead,.row E.2.1 3 tInt E.1.1,.row E.2.2 3 tInt E.1.2]⟩) ?_ ?_
    ·have H:=ad;obtain⟨aa,H⟩:=Aj.1 H;refine wS (sT (sT ?_));refine sA ?_ (Ca V (Aq (Aq (Aq Iu))) V (Aq (Aq (Aq GB))) V aa) (Ar Gp);refine sA ?_ (Bq V (As Je) V (BS aa) V) (Ar Iz);refine sT (wN ?_);obtain⟨aq,H⟩:=Aj.1 H;obtain⟨W,ah,H⟩:=An.1 H;refine wS (sT (sT (sX aq (sT (sT ?_)))));refine sGt V ?_;refine sGt V ?_;refine sG (g:=(ixD A (ixD m c))) (hg:=Kj V) (hq:=λhg=>by((try simp only[BG hg]);(try simp only[Mn hg]);exact Vw V (GY (iI ah hg)) (.cons (.own V) (.cons (.cl V) .nil)))) (ht:=(Ar (Ao Iz))) ?_;refine sGt V (sT (wN ?_));refine Ah V (λI=>?_) (λI=>?_)
     ·have H:=AC I H;obtain⟨ap,H⟩:=Aj.1 H;obtain⟨ao,H⟩:=Aj.1 H;obtain⟨an,H⟩:=Aj.1 H;obtain⟨am,H⟩:=Aj.1 H;refine AJ ⟨A5 (.own 1 z::.bs tInt.slice G::.bs iP A::.own 2 u::.lit (.int .i64 c)::.lit (.int .i64 (ixD m c))::A10 (A2 (.lit (.int .i64 c)::.own 1 z::.lit (.int .i64 (m.length:Int))::.lit (.bool (c ==(m.length:Int)))::A3 (.own 1 z::.lit (.int .i64 c)::.rp 1 z (dB c) 0::.lit (.int .i64 (ixD m c))::.bs iP A::.lit (.int .i64 (ixD m c))::.bp iP (ixD A (ixD m c)) 0::.lit (.bool (ixD A (ixD m c)))::.lit (.bool (ixD A (ixD m c)))::A4 (.lit (.bool ((ixD A (ixD m c))&&(!W)))::A10 (A2 [])))))),[.dead,.row z 3 tInt m,.row u 3 tInt L]⟩ (iN AS (KU 0 V)) ?_;refine P6 (n:=12) (λb=>⟨A5 ((bif b 11 then .own 1 (z+1)else .own 1 z)::.bs tInt.slice G::.bs iP A::(bif b 10 then .own 2 (u+1)else .own 2 u)::.lit (.int .i64 c)::.lit (.int .i64 (ixD m c))::A10 (A2 (.lit (.int .i64 c)::.own 1 z::.lit (.int .i64 (m.length:Int))::.lit (.bool (c ==(m.length:Int)))::A3 (.own 1 z::.lit (.int .i64 c)::.rp 1 z (dB c) 0::.lit (.int .i64 (ixD m c))::.bs iP A::.lit (.int .i64 (ixD m c))::.bp iP (ixD A (ixD m c)) 0::.lit (.bool (ixD A (ixD m c)))::.lit (.bool (ixD A (ixD m c)))::A4 (.lit (.bool ((ixD A (ixD m c))&&(!W)))::(bif b 0 then .own 2 u else .any)::(bif b 1 then .lit (.int .i64 (ixD m c))else .any)::(bif b 2 then .bs tInt [ixD m c]else .any)::(bif b 3 then .own 2 (u+1)else .any)::(bif b 4 then .own 1 z else .any)::(bif b 5 then .bs tInt.slice G else .any)::(bif b 6 then .lit (.int .i64 (ixD m c))else .any)::(bif b 7 then .bp tInt.slice (ixD G (ixD m c)) 0 else .any)::(bif b 8 then .bs tInt (ixD G (ixD m c))else .any)::(bif b 9 then .own 1 (z+1)else .any)::A2 []))))),[.dead,(bif b 9 then .row (z+1) 3 tInt (m++(ixD G (ixD m c)))else .row z 3 tInt m),(bif b 3 then .row (u+1) 3 tInt (L++[ixD m c])else .row u 3 tInt L)]⟩) V (by kernel_rfl) (by kernel_rfl) ?_ ?_
      ·refine BQ (λb F B hc=>?_) ?_
       ·have ak:b 10=aH:=AW hc (i:=0) (j:=10) (k:=2) V V V V F;try dsimp only
        refine AY (AT.move V ((Aq Je).trans (Azf ak _ _))) ?_;exact iM
       refine BQ (λb F B hc=>?_) ?_
       ·try dsimp only
        refine AY (AT.move V (Aq Gi)) ?_;exact iM
       refine BQ (λb F B hc=>?_) ?_
       ·have h1:b 1=aK:=B 0 _ V V;try dsimp only
        refine AY (AT.lt (xs:=[.tmp 45]) (T:=tInt) (ds:=[ixD m c]) V V V (by rfl) (by decide) (.cons (Fit.of_eq ((As (Aq Fr)).trans (BG h1 _ _)) (iA ap)) .nil)) ?_;exact iM
       refine BQ (λb F B hc=>?_) ?_
       ·have h0:b 0=aK:=B 0 _ V V;have h2:b 2=aK:=B 1 _ V V;try dsimp only
        refine J6 V ((As (Aq Hg)).trans (BG h0 _ _)) (congrArg jB (CO F _ _)) ((As (Aq Iu)).trans (BG h2 _ _)) V ao ?_;exact iM
       refine BQ (λb F B hc=>?_) ?_
       ·have aj:b 11=aH:=AW hc (i:=4) (j:=11) (k:=6) V V V V F;try dsimp only
        refine AY (AT.move V (Fr.trans (Azf aj _ _))) ?_;exact iM
       refine BQ (λb F B hc=>?_) ?_
       ·try dsimp only
        refine AY (AT.move V Iu) ?_;exact iM
       refine BQ (λb F B hc=>?_) ?_
       ·try dsimp only
        refine AY (AT.move V (Aq Gi)) ?_;exact iM
       refine BQ (λb F B hc=>?_) ?_
       ·have h5:b 5=aK:=B 0 _ V V;have h6:b 6=aK:=B 1 _ V V;try dsimp only
        refine AY (Ff V ((As (Aq (Aq FG))).trans (BG h5 _ _)) ((As (Aq (Aq Gi))).trans (BG h6 _ _)) V an) ?_;exact iM
       refine BQ (λb F B hc=>?_) ?_
       ·have h7:b 7=aK:=B 0 _ V V;try dsimp only
        refine AY (AB V ((As (Aq (Aq FF))).trans (BG h7 _ _)) V) ?_;exact iM
       refine BQ (λb F B hc=>?_) ?_
       ·have h4:b 4=aK:=B 0 _ V V;have h8:b 8=aK:=B 1 _ V V;try dsimp only
        refine J6 V ((As (Aq (Aq Je))).trans (BG h4 _ _)) (congrArg jB (CO F _ _)) ((As (Aq (Aq Hg))).trans (BG h8 _ _)) V am ?_;exact iM
       refine BQ (λb F B hc=>?_) ?_
       ·have h3:b 3=aK:=B 0 _ V V;try dsimp only
        refine AY (AT.assign V ((As (Aq GB)).trans (BG h3 _ _))) ?_;exact iM
       refine BQ (λb F B hc=>?_) ?_
       ·have h9:b 9=aK:=B 0 _ V V;try dsimp only
        refine AY (AT.assign V ((As (Aq (Aq Fr))).trans (BG h9 _ _))) ?_;exact iM
       exact Agd
      ·refine qVia ⟨A5 (.own 1 (z+1)::.bs tInt.slice G::.bs iP A::.own 2 (u+1)::.lit (.int .i64 c)::.lit (.int .i64 (ixD m c))::A10 (A2 (.lit (.int .i64 c)::.own 1 z::.lit (.int .i64 (m.length:Int))::.lit (.bool (c ==(m.length:Int)))::A3 (.own 1 z::.lit (.int .i64 c)::.rp 1 z (dB c) 0::.lit (.int .i64 (ixD m c))::.bs iP A::.lit (.int .i64 (ixD m c))::.bp iP (ixD A (ixD m c)) 0::.lit (.bool (ixD A (ixD m c)))::.lit (.bool (ixD A (ixD m c)))::A4 (.lit (.bool ((ixD A (ixD m c))&&(!W)))::.own 2 u::.lit (.int .i64 (ixD m c))::.bs tInt [ixD m c]::.own 2 (u+1)::.own 1 z::.bs tInt.slice G::.lit (.int .i64 (ixD m c))::.bp tInt.slice (ixD G (ixD m c)) 0::.bs tInt (ixD G (ixD m c))::.own 1 (z+1)::A2 []))))),[.dead,.row (z+1) 3 tInt (m++(ixD G (ixD m c))),.row (u+1) 3 tInt (L++[ixD m c])]⟩ V ?_;have Y:=Ac.1 H;repeat(first|refine abN ?_|refine asN ?_)
       refine Ap ⟨(_,(z+1,u+1)),Y.symm,?_⟩;try dsimp only
       exact AS
     ·have H:=AE I H;refine Al ?_;have Y:=Ac.1 H;repeat(first|refine abN ?_|refine asN ?_)
      refine Ap ⟨(_,(z,u)),Y.symm,?_⟩;try dsimp only
      exact AS
    ·rintro⟨⟨ay,ax⟩,⟨ag,af⟩⟩ O;try dsimp only at O
     have H:=ac;rw[O]at H;try dsimp only at H⊢
     refine wS (sT (sT (sT (wN ?_))));refine Awp.goto ?_;have al:=Ac.1 H;refine⟨rfl,_,(ag,af),al.symm,?_⟩;try dsimp only
     exact AS
def DT(c:List Int):(Int×(List Int))->M ((Int×(List Int))⊕((List Int))):=λ(x13,l15)=>iF (aL (x13 < (c.length:Int))) (iE (Ch c x13) (iE (Ch l15 (ixD c x13)) (iE (wfB .i64 (aS.wrap ((ixD l15 (ixD c x13))+1))) (iH (.inl (aS.wrap (x13+1),l15.set (dB (ixD c x13)) (aS.wrap ((ixD l15 (ixD c x13))+1)))))))) (iH (.inr l15))
def Ex(f:iB)(r2:List Int):(Int×(List Int))->M ((Int×(List Int))⊕((List Int))):=λ(x3,l5)=>iF (aL (x3 < (r2.length:Int))) (iE (Ch r2 x3) (iD (Jk f (ixD r2 x3)) λc=>iD (iG (DT c) (0,l5)) λg=>iH (.inl (aS.wrap (x3+1),g)))) (iH (.inr l5))
def Hl(f:iB):M (List Int):=iE (VO (f.blocks.length:Int) 8) (iD (Hj f) λr2=>iD (iG (Ex f r2) (0,fT (dB (f.blocks.length:Int)) 0)) λc=>iH c)
theorem UT(H:(Hl f).to r):Fn bK 112 [.agg (Ak f)] (.bs tInt r):=by
 delta Hl at H;try dsimp only at H
 refine AR Tryz.func112 V (by kernel_rfl) V Tryz.ntmps112 λC hC=>?_
 simp only[Nat.reduceAdd,Nat.reduceSub,zaa];refine wS (sB (sT (wN ?_)));obtain⟨c1,H⟩:=Aj.1 H;refine wS (sT (sT (sT ?_)));(refine AF V (P9 1 V (T:=tInt) (e:=3) (v:=.int .i64 0) (bytes:=8) (0:Int) V (by kernel_rfl) V (λ_ _=>⟨rfl,by decide⟩) V V c1 ?_);refine D2 ?_ (Ao IR));refine sT (wN ?_);obtain⟨r2,k2,H⟩:=An.1 H;have k2:=US k2;obtain⟨z6,ai,ah⟩:=An.1 H;refine Bh (β:=((List Int))×(Nat)) (λI=>z6=I.1) (λI=>⟨A3 (.own 1 I.2::A20 (A10 (A2 []))),[.dead,.row I.2 3 tInt I.1]⟩) ?_ ?_
 ·refine wS (sT (sC k2 (sT (sT (wN ?_)))));refine Ad ?_;refine Bu ai (λs6 b6=>⟨.any::.ptr 0 0::.any::.own 1 b6::A9 (.bs tInt r2::.lit (.int .i64 (r2.length:Int))::.lit (.int .i64 s6.1)::A20 []),[.box (Ak f),.row b6 3 tInt s6.2]⟩) 0 (?_) ?_
  ·try dsimp only
   exact AS
  ·rintro⟨x3,l5⟩ v4 x6 H ag;try dsimp only
   dsimp only[Ex]at H;refine wS (sT (wN ?_));refine Ab λaj aa=>?_
   refine Ah V (λm=>?_) (λm=>?_)
   ·have H:=AC m H;refine Al ?_;refine aa _ ?_;refine nT ?_;obtain⟨ad,H⟩:=Aj.1 H;obtain⟨G,A,H⟩:=An.1 H;have A:=WT A;obtain⟨Y,X,W⟩:=An.1 H;refine Bh (β:=((List Int))×(Nat)) (λc=>Y=c.1) (λc=>⟨.any::.ptr 0 0::.any::.own 1 c.2::A9 (.bs tInt r2::.lit (.int .i64 (r2.length:Int))::.lit (.int .i64 x3)::A20 []),[.box (Ak f),.row c.2 3 tInt c.1]⟩) ?_ ?_
    ·refine Ad ?_;refine wS (sX ad (sT (sT (wN ?_))));refine wS (sT (sT (sC A (sT (sT (wN ?_))))));refine Ad ?_;refine Bu X (λF O=>⟨.any::.ptr 0 0::.any::.own 1 O::A9 (.bs tInt r2::.lit (.int .i64 (r2.length:Int))::.lit (.int .i64 x3)::A5 (.bs tInt G::.lit (.int .i64 (G.length:Int))::.lit (.int .i64 F.1)::A10 (A2 []))),[.box (Ak f),.row O 3 tInt F.2]⟩) v4 (?_) ?_
     ·try dsimp only
      exact AS
     ·rintro⟨al,an⟩ E ak H U;try dsimp only
      dsimp only[DT]at H;refine wS (sT (wN ?_));refine Ab λaf N=>?_
      refine Ah V (λg=>?_) (λg=>?_)
      ·have H:=AC g H;refine Al ?_;refine N _ ?_;refine nT ?_;refine Ab λae L=>?_
       refine Ad ?_;obtain⟨ac,H⟩:=Aj.1 H;refine wS (sX ac (sT (sT (wN ?_))));obtain⟨u,H⟩:=Aj.1 H;obtain⟨ab,H⟩:=Aj.1 H;refine wSE (sT (sT ?_));refine sA ?_ (Ca V (Aq (Aq (Aq FF))) V (Aq (Aq (Aq Hg))) V u) (Ao (Ao (Ao Gl)));refine sA ?_ (Bq V (Aq (Aq (Aq Fr))) V (BS u) V) (Ao (Ao (Ao HT)));refine sT ?_;refine sA ?_ (Ca V (Aq (Aq (Aq FF))) V (Aq (Aq (Aq Hg))) V u) (Ar Gp);(refine AF V (Dt V V V (BS u) (iA ab) V ?_);refine D2 ?_ RG);refine wN ?_;refine L _ ?_;refine nT ?_;refine wSE (sT (sT (wN ?_)));have B:=Ac.1 H;repeat(first|refine abN ?_|refine asN ?_)
       refine Ap ⟨_,E,B.symm,?_⟩;try dsimp only
       exact AS
      ·have H:=AE g H;refine Ay ?_;repeat(first|refine BC ?_|refine exO (by decide) ?_|refine asE ?_)
       refine exN ?_;have B:=U _ (Ac.1 H).symm;repeat(first|refine abN ?_|refine asN ?_)
       refine Ap ⟨(_,E),B.symm,?_⟩;try dsimp only
       exact AS
    ·rintro⟨am,Z⟩ z;try dsimp only at z
     have H:=W;rw[z]at H;try dsimp only
     refine wSE (sT (sT (wN ?_)));have e6:=Ac.1 H;repeat(first|refine abN ?_|refine asN ?_)
     refine Ap ⟨_,Z,e6.symm,?_⟩;try dsimp only
     exact AS
   ·have H:=AE m H;refine Ay ?_;repeat(first|refine BC ?_|refine exO (by decide) ?_|refine asE ?_)
    refine exN ?_;have e6:=ag _ (Ac.1 H).symm;repeat(first|refine abN ?_|refine asN ?_)
    refine Ap ⟨(_,v4),e6.symm,?_⟩;try dsimp only
    exact leC (gW (gV (gX _)))
 ·rintro⟨l8,v7⟩ J;try dsimp only at J
  have H:=ah;rw[J]at H;try dsimp only
  refine wS (sT (sT (wN ?_)));obtain rfl:=Ac.1 H;exact Aw ⟨.inr V,g9 V⟩
end
theorem YL{c:List AV}(h:Bj c=aK):∀vs:List cF,Bj (vs.map .lit++c)=aK
 | []=>h
 |v::vs=>by
  rw[eV,List.cons_append];unfold Bj;rw[YL h vs];unfold gO;rfl
theorem Xz{P:aZ}{C:Ctx}{o:aX}{t:List AV}{h:List gI}{ι:Type}{Rs:ι->Res}{val:ι->cF}{i:Nat}{R:Res}{f:aR}{args:Array aY}{l c:List AV}(hi:h[i]? =jB (.res R))
 (m:o.op= .call {callee:=.value x,args:=args,argTypes:=tys})(g:evA t x= .fn f l)(A:DI P f R (c++l) Rs val)(u:∀p,(Rs p).mrk=R.mrk)(hx:args.toList.map (evA t)=c)(hc:Bj (c++l)=aK)
 (z:∀p,K ⟨Bn t o.dst (.lit (val p)),h.set i (.res (Rs p))⟩):AOp P C o ⟨t,h⟩ K:=Ir hi m g A u (by rw[hx]) hc z
theorem OD{x:Ins}(H:(Ky x).to r):Jv bK 60 [.agg (BW x)] 3 tInt r:=by
 obtain⟨c,H⟩:=Aj.1 H;obtain rfl:=Ac.1 H;rw[aG]at c;have m:=Dz.1 c.1;have B:=of_decide_eq_true c.2;exact⟨by kernel_rfl,λw S vs F A=>by
  have g:=Az (gY [] ψ0 (λ_ _=>rfl) F) _ _ A;obtain⟨v,rfl,z⟩:=Acc g;obtain⟨cs,rfl,hc⟩:=IV z;refine(HI x w cs (MB m hc) B).mono ?_;rintro e w' ⟨v,rfl,G,E⟩;refine⟨v,_,rfl,E,G,λi d u=>?_⟩;show tInt.RS w' S ((((readsC x).map (cH .i64)).drop (i * 1)).take 1) d;have hi:((readsC x).map (cH .i64))[i]? =jB (.int .i64 d):=by rw[eF,u];rfl
  rw[iZ,gD,eK,hi];exact DH.2 ⟨rfl,FU m d (fG u)⟩⟩
noncomputable section
def Ji(x:Ins):M (List Int):=iD (Ky x) λr1=>iD (iD (IQ x) λc=>iF c.2 (iE (wfB .i64 c.1) (iE (Fj (r1.length+ [c.1].length) 8) (iH (r1++[c.1])))) (iH r1)) λg=>iH g
theorem WQ{x:Ins}(H:(Ji x).to r):Fn bK 113 [.agg (BW x)] (.bs tInt r):=by
 delta Ji at H;try dsimp only at H
 refine AR Tryz.func113 V (by kernel_rfl) V Tryz.ntmps113 λC O=>?_
 simp only[Nat.reduceAdd,Nat.reduceSub,zaa];refine wS (sB (sT (wN ?_)));obtain⟨r1,z,H⟩:=An.1 H;have z:=OD z;refine wS (sT ?_);(refine AF V (Du 1 V V z (by decide) CL (.cons (.cl V) .nil) ?_);refine D2 ?_ G3);refine sT (wN ?_);obtain⟨F,E,B⟩:=An.1 H;refine Bh (β:=((List Int))×(Nat)) (λg=>F=g.1) (λg=>⟨A3 (.own 1 g.2::A10 (A5 [])),[.dead,.row g.2 3 tInt g.1]⟩) ?_ ?_
 ·have H:=E;obtain⟨G,u,H⟩:=An.1 H;have u:=Qk u;refine wS (sT (sC u (sT (sT (sT (sT (sT (wN ?_))))))));refine wS (sT (wN ?_));refine Ah V (λc=>?_) (λc=>?_)
  ·have H:=AC c H;obtain⟨J,H⟩:=Aj.1 H;obtain⟨I,H⟩:=Aj.1 H;refine wSE (sT (sT ?_));refine sA ?_ (AT.lt (xs:=[.tmp 15]) (T:=tInt) (ds:=[G.1]) V V V (by rfl) (by decide) (.cons (iA J) .nil)) (Ao (Ao Gp));refine sP I (sT (wN ?_));have A:=Ac.1 H;repeat(first|refine abN ?_|refine asN ?_)
   refine Ap ⟨(_,0+1),A.symm,?_⟩;try dsimp only
   exact leC (gW (gV (gX _)))
  ·have H:=AE c H;refine Al ?_;have A:=Ac.1 H;repeat(first|refine abN ?_|refine asN ?_)
   refine Ap ⟨(_,0),A.symm,?_⟩;try dsimp only
   exact leC (gW (gV (gX _)))
 ·rintro⟨N,L⟩ m;try dsimp only at m
  have H:=B;rw[m]at H;try dsimp only
  refine wS (sT (sT (wN ?_)));obtain rfl:=Ac.1 H;exact Aw ⟨.inr V,g9 V⟩
section
variable{σ:Type}
def DC(r1:List Int)(c:Int):(Int×Int)->M ((Int×Int)⊕Int):=λ(n10,x11)=>iF (aL (x11 < (if 4 < (ixD r1 c)then 4 else(ixD r1 c)))) (iH (.inl (aS.wrap (n10 * 10),aS.wrap (x11+1)))) (iH (.inr n10))
def Ew(step:σ->Int->Int->M σ)(m:Int)(c:List Int):(Int×σ)->M ((Int×σ)⊕σ):=λ(x26,s27)=>iF (aL (x26 < (c.length:Int))) (iE (Ch c x26) (iD (step s27 (ixD c x26) m) λg=>iH (.inl (aS.wrap (x26+1),g)))) (iH (.inr s27))
def DB(step:σ->Int->Int->M σ)(f:iB)(c:Int)(u:Int):(Int×σ)->M ((Int×σ)⊕σ):=λ(x18,s19)=>iF (aL (x18 < (((ixD f.blocks c).ins).length:Int))) (iE (Ch ((ixD f.blocks c).ins) x18) (iD (Ji (ixD ((ixD f.blocks c).ins) x18)) λm=>iD (iG (Ew step u m) (0,s19)) λg=>iH (.inl (aS.wrap (x18+1),g)))) (iH (.inr s19))
def Fa(step:σ->Int->Int->M σ)(f:iB)(r1:List Int):(Int×σ)->M ((Int×σ)⊕σ):=λ(x2,s3)=>iF (aL (x2 < (r1.length:Int))) (iE (Ch r1 x2) (iD (iG (DC r1 x2) (1,0)) λg=>iE (Ch f.blocks x2) (iD (iG (DB step f x2 g) (0,s3)) λc=>iH (.inl (aS.wrap (x2+1),c))))) (iH (.inr s3))
def Jj(step:σ->Int->Int->M σ)(f:iB)(g:σ):M σ:=iD (Hl f) λr1=>iD (iG (Fa step f r1) (0,g)) λc=>iH c
theorem WS{R0:σ->Res}{E:aR}{c:List AV}(B:∀s,(R0 s).mrk= [])(hS:∀s w S S',(R0 s).R w S->(R0 s).R w S')(bg:Bj c=aK){step:σ->Int->Int->M σ}(be:∀s x0 x1 s',(step s x0 x1).to s'->DI bK E (R0 s) ([.lit (.int .i64 x0),.lit (.int .i64 x1)]++c) (λ_:Unit=>R0 s') (λ_=>.tuple #[])){s0:σ}{r:σ}(H:(Jj step f s0).to r):DI bK 82 (R0 s0) [.agg (Ak f),.fn E c] (λ_:Unit=>R0 r) (λ_=>.tuple #[]):=by
 have bf:∀x0 x1:Int,Bj ([.lit (.int .i64 x0),.lit (.int .i64 x1)]++c)=aK:=λx0 x1=>YL bg [(.int .i64 x0),(.int .i64 x1)]
 delta Jj at H;try dsimp only at H
 refine DX Tryz.func82 V (by kernel_rfl) V Tryz.ntmps82 (B _) (λ_=>hS _) λC=>?_
 refine gT ?_;simp only[Nat.reduceAdd,Nat.reduceSub,zaa];refine wS (sB (wN ?_));obtain⟨r1,k1,H⟩:=An.1 H;have k1:=UT k1;refine wS (sT (sC k1 (sT (sT (wN ?_)))));obtain⟨z4,bt,br⟩:=An.1 H;refine P4 (β:=(σ)×(Unit)) (λq4=>z4=q4.1) (λq4=>⟨A40 (A10 [.any]),[.res (R0 q4.1),.dead]⟩) ?_ ?_
 ·refine Ad ?_;refine Bu bt (λs4 b4=>⟨.any::.fn E c::.ptr 1 0::A9 (.bs tInt r1::.lit (.int .i64 (r1.length:Int))::.lit (.int .i64 s4.1)::A20 (A10 (A6 []))),[.res (R0 s4.2),.box (Ak f)]⟩) () (?_) ?_
  ·try dsimp only
   exact AS
  ·rintro⟨g,s3⟩ _ x4 H bq;try dsimp only
   dsimp only[Fa]at H;refine wS (sT (wN ?_));refine Ab λbv bc=>?_
   refine Ah V (λY=>?_) (λY=>?_)
   ·have H:=AC Y H;refine Al ?_;refine bc _ ?_;refine nT ?_;refine Ab λbu bb=>?_
    refine Ad ?_;obtain⟨c9,H⟩:=Aj.1 H;refine wS (sT (sX c9 (sT (sT (sT (wN ?_))))));refine wS (sT (wN ?_));obtain⟨az,aw,ar⟩:=An.1 H;refine Bh (β:=(Int)×(Unit)) (λU=>az=U.1) (λU=>⟨.any::.fn E c::.ptr 1 0::.any::.lit (.int .i64 g)::.any::.lit (.int .i64 U.1)::A5 (.bs tInt r1::.lit (.int .i64 (r1.length:Int))::.lit (.int .i64 g)::A20 (A10 (A6 []))),[.res (R0 s3),.box (Ak f)]⟩) ?_ ?_
    ·refine wS (sT ?_);refine sA ?_ (AT.min2 V (Aq (Aq FF)) Ys) (Ao (Ao JB));refine sT (wN ?_);refine Ad ?_;refine Bu aw (λae ck=>⟨.any::.fn E c::.ptr 1 0::.any::.lit (.int .i64 g)::.any::.lit (.int .i64 ae.1)::A5 (.bs tInt r1::.lit (.int .i64 (r1.length:Int))::.lit (.int .i64 g)::A5 (.lit (.int .i64 (if 4 < (ixD r1 g)then 4 else(ixD r1 g)))::.lit (.int .i64 ae.2)::A20 (A9 []))),[.res (R0 s3),.box (Ak f)]⟩) () (?_) ?_
     ·try dsimp only
      exact AS
     ·rintro⟨ch,cb⟩ _ ca H ao;try dsimp only
      dsimp only[DC]at H;refine wS (sT (wN ?_));refine Ab λbo al=>?_
      refine Ah V (λA=>?_) (λA=>?_)
      ·have H:=AC A H;refine Al ?_;refine al _ ?_;refine nT ?_;refine Ab λbn ak=>?_
       refine Ad ?_;refine wSE (sT (sT (sT (wN ?_))));refine ak _ ?_;refine nT ?_;refine wSE (sT (sT (wN ?_)));have ab:=Ac.1 H;repeat(first|refine abN ?_|refine asN ?_)
       refine Ap ⟨_,(),ab.symm,?_⟩;try dsimp only
       exact AS
      ·have H:=AE A H;refine Ay ?_;repeat(first|refine BC ?_|refine exO (by decide) ?_|refine asE ?_)
       refine exN ?_;have ab:=ao _ (Ac.1 H).symm;repeat(first|refine abN ?_|refine asN ?_)
       refine Ap ⟨(_,()),ab.symm,?_⟩;try dsimp only
       exact AS
    ·rintro⟨W,_⟩ I;try dsimp only at I
     have H:=ar;rw[I]at H;try dsimp only
     obtain⟨bj,H⟩:=Aj.1 H;refine wS (sT (sT (sT (sX bj (sT (sT (sT (sT (wN ?_)))))))));obtain⟨ay,av,aq⟩:=An.1 H;refine P4 (β:=(σ)×(Unit)) (λO=>ay=O.1) (λO=>⟨.any::.fn E c::.ptr 1 0::A9 (.bs tInt r1::.lit (.int .i64 (r1.length:Int))::.lit (.int .i64 g)::A20 (A10 (A6 []))),[.res (R0 O.1),.box (Ak f)]⟩) ?_ ?_
     ·refine Ad ?_;refine Bu av (λL cj=>⟨.any::.fn E c::.ptr 1 0::A3 (.lit (.int .i64 W)::A5 (.bs tInt r1::.lit (.int .i64 (r1.length:Int))::.lit (.int .i64 g)::A10 (A6 (.bs Eh ((ixD f.blocks g).ins)::.lit (.int .i64 (((ixD f.blocks g).ins).length:Int))::.lit (.int .i64 L.1)::A10 (A7 []))))),[.res (R0 L.2),.box (Ak f)]⟩) () (?_) ?_
      ·try dsimp only
       exact AS
      ·rintro⟨ac,cf⟩ _ bz H an;try dsimp only
       dsimp only[DB]at H;refine wS (sT (wN ?_));refine Ab λbm aj=>?_
       refine Ah V (λz=>?_) (λz=>?_)
       ·have H:=AC z H;refine Al ?_;refine aj _ ?_;refine nT ?_;obtain⟨bi,H⟩:=Aj.1 H;obtain⟨af,X,H⟩:=An.1 H;have X:=WQ X;obtain⟨ax,au,ap⟩:=An.1 H;refine Bh (β:=(σ)×(Unit)) (λN=>ax=N.1) (λN=>⟨.any::.fn E c::.ptr 1 0::A3 (.lit (.int .i64 W)::A5 (.bs tInt r1::.lit (.int .i64 (r1.length:Int))::.lit (.int .i64 g)::A10 (A6 (.bs Eh ((ixD f.blocks g).ins)::.lit (.int .i64 (((ixD f.blocks g).ins).length:Int))::.lit (.int .i64 ac)::A10 (A7 []))))),[.res (R0 N.1),.box (Ak f),.dead]⟩) ?_ ?_
        ·refine Ad ?_;refine wS (sX bi (sT (sA0 (sW (wN ?_)))));refine wS (sT (sC X (sT (sT (wN ?_)))));refine Ad ?_;refine Bu au (λad ci=>⟨.any::.fn E c::.ptr 1 0::A3 (.lit (.int .i64 W)::A5 (.bs tInt r1::.lit (.int .i64 (r1.length:Int))::.lit (.int .i64 g)::A10 (A6 (.bs Eh ((ixD f.blocks g).ins)::.lit (.int .i64 (((ixD f.blocks g).ins).length:Int))::.lit (.int .i64 ac)::A4 (.bs tInt af::.lit (.int .i64 (af.length:Int))::.lit (.int .i64 ad.1)::A10 []))))),[.res (R0 ad.2),.box (Ak f),.dead]⟩) () (?_) ?_
         ·try dsimp only
          exact leC (gV (gV (gW (gX _))))
         ·rintro⟨bx,cd⟩ _ bw H am;try dsimp only
          dsimp only[Ew]at H;refine wS (sT (wN ?_));refine Ab λbl ai=>?_
          refine Ah V (λu=>?_) (λu=>?_)
          ·have H:=AC u H;refine Al ?_;refine ai _ ?_;refine nT ?_;refine Ab λbk ah=>?_
           refine Ad ?_;obtain⟨bh,H⟩:=Aj.1 H;refine wS (sX bh (sT (sT (wN ?_))));obtain⟨cg,ba,H⟩:=An.1 H;refine wSE (sT (sT (sT ?_)));(refine AF V (Xz (i:=0) V V V (be _ _ _ _ ba) (λ_=>(B _).trans (B _).symm) V (bf _ _) λ_=>?_);refine D2 ?_ (Ar (Ao G3)));refine wN ?_;refine ah _ ?_;refine nT ?_;refine wSE (sT (sT (wN ?_)));have Z:=Ac.1 H;repeat(first|refine abN ?_|refine asN ?_)
           refine Ap ⟨_,(),Z.symm,?_⟩;try dsimp only
           exact AS
          ·have H:=AE u H;refine Ay ?_;repeat(first|refine BC ?_|refine exO (by decide) ?_|refine asE ?_)
           refine exN ?_;have Z:=am _ (Ac.1 H).symm;repeat(first|refine abN ?_|refine asN ?_)
           refine Ap ⟨(_,()),Z.symm,?_⟩;try dsimp only
           exact AS
        ·rintro⟨cc,_⟩ F;try dsimp only at F
         have H:=ap;rw[F]at H;try dsimp only
         refine wSE (sT (sT (wN ?_)));have aa:=Ac.1 H;repeat(first|refine abN ?_|refine asN ?_)
         refine Ap ⟨_,(),aa.symm,?_⟩;try dsimp only
         exact leC (gV (gV (gX _)))
       ·have H:=AE z H;refine Ay ?_;repeat(first|refine BC ?_|refine exO (by decide) ?_|refine asE ?_)
        refine exN ?_;have aa:=an _ (Ac.1 H).symm;repeat(first|refine abN ?_|refine asN ?_)
        refine Ap ⟨(_,()),aa.symm,?_⟩;try dsimp only
        exact AS
     ·rintro⟨ce,_⟩ L G m;try dsimp only at G
      try dsimp only at m
      have H:=aq;rw[G]at H;repeat(first|refine abN ?_|refine asN ?_)
      refine bb _ (AJ _ m ?_);refine wSE (sT (sT (wN ?_)));have e4:=Ac.1 H;repeat(first|refine abN ?_|refine asN ?_)
      refine Ap ⟨_,(),e4.symm,?_⟩;try dsimp only
      exact AS
   ·have H:=AE Y H;refine Ay ?_;repeat(first|refine BC ?_|refine exO (by decide) ?_|refine asE ?_)
    refine exN ?_;have e4:=bq _ (Ac.1 H).symm;repeat(first|refine abN ?_|refine asN ?_)
    refine Ap ⟨(_,()),e4.symm,?_⟩;try dsimp only
    exact leC (gV (gW (gX _)))
 ·rintro⟨s5,_⟩ s4 ag J;try dsimp only at ag
  try dsimp only at J
  have H:=br;rw[ag]at H;repeat(first|refine abN ?_|refine asN ?_)
  obtain rfl:=Ac.1 H;refine upE J ?_;exact⟨.inl V,(),by simp[mkD,gL,B],rfl⟩
end
def GE(c:Int)(n:Int)(g:List (Int×Int)):M ((List (Int×Int))):=iE (wfB .i64 c) (iE (aL (g.length < cY)) (iH (B6 g c (aS.wrap (((getK g c).getD 0)+n)))))
theorem Qq{c:Int}{z:List (Int×Int)}{u m:Nat}{r:(List (Int×Int))}(H:(GE c n z).to r):DI bK 83 (Res.and (Be u [.lit (.map (jB m))]) (EF (cH .i64) z m)) [.lit (.int .i64 c),.lit (.int .i64 n),.lit (.pointer (jB ⟨u,0,jA⟩))] (λ_:Unit=>(Res.and (Be u [.lit (.map (jB m))]) (EF (cH .i64) r m))) (λ_=>.tuple #[]):=by
 delta GE at H;try dsimp only at H
 refine DX Tryz.func83 V (by kernel_rfl) V Tryz.ntmps83 V (λ_ _ _ _ h=>h) λC=>?_
 simp only[Nat.reduceAdd,Nat.reduceSub,zaa];refine AJ _ (EM 0 V) ?_;refine gT ?_;refine nT ?_;obtain⟨A,H⟩:=Aj.1 H;obtain⟨B,H⟩:=Aj.1 H;refine wSE ?_;refine sA ?_ (AX (i:=0) (g:=u) V Gi V V V) Gl;refine sT ?_;refine sA ?_ (PY 1 V bV DY Fr Iu A V) G3;refine sT (sT ?_);(refine AF V (J4 1 V bV V V V A (of_decide_eq_true B) V ?_);refine D2 ?_ RG);refine wN ?_;repeat(first|refine abN ?_|refine asN ?_)
 obtain rfl:=Ac.1 H;refine upE (iN (DF 0 1 (by decide) V V) iM) ?_;exact⟨.inl V,(),rfl,rfl⟩
end
end Mu
namespace Mu
open Go Go.RowKit Go.Proofs Go.Shelf Go.Lib Go.Sort Go.Maps
variable{fr:Nat×Nat}{g:Nat}{l:List Int}{m:List (Int×Int)}{n:Nat}{os:Array Obj}{v:cF}{w:cI}{x:aY}
def Qe(m:List (Int×Int))(x:Int):Int:=(getK m x).getD 0
def cfC(m:List (Int×Int))(x y:Int):Int:=if aV (Qe m x) (Qe m y)≠0 then aV (Qe m x) (Qe m y)else aV x y
def ltC(m:List (Int×Int))(x y:Int):Prop:=Qe m x < Qe m y\/(Qe m x=Qe m y/\x < y)
instance Apy(m:List (Int×Int))(x y:Int):Decidable (ltC m x y):=by unfold ltC;infer_instance
theorem Ao3{x y:Int}:aL (cfC m x y < 0)=aL (ltC m x y):=by
 rw[Bool.eq_iff_iff,decide_eq_true_eq,decide_eq_true_eq];unfold cfC ltC;generalize Qe m x=a;generalize Qe m y=b;unfold aV;by_cases h1:a < b
 ·simp[h1]
 ·by_cases h2:b < a
  ·have:a≠b:=by omega
   simp[h1,h2,this]
  ·have e:a=b:=by omega
   by_cases c:x < y
   ·simp[e,c]
   ·by_cases u:y < x <;> simp[e,c,u]
def Aq8(m:List (Int×Int))(x y:Int):Bool:=!decide (ltC m y x)
def Kx(m:List (Int×Int))(l:List Int):List Int:=l.mergeSort (Aq8 m)
theorem GW(m:List (Int×Int))(l:List Int):(Kx m l).Perm l:=fL _ _
theorem Nb(m:List (Int×Int))(l:List Int):(Kx m l).Pairwise λx y=>¬ltC m y x:=by
 have h:=List.pairwise_mergeSort (le:=Aq8 m) (λa b c h1 h2=>by
  unfold Aq8 at *;simp only[aJ,decide_eq_false_iff_not]at *;unfold ltC at *;omega) (λa b=>by
  unfold Aq8;simp only[Bool.or_eq_true,aJ,decide_eq_false_iff_not];unfold ltC;omega) l
 exact h.imp λh=>by unfold Aq8 at h;simpa using h
theorem Zj{l':List Int}(u:l'.Perm l)(c:l'.Pairwise λx y=>¬ltC m y x):l'=Kx m l:=
 List.Perm.eq_of_pairwise (le:=λx y=>¬ltC m y x) (λa b _ _ h1 h2=>by unfold ltC at h1 h2;omega) c (Nb m l) (u.trans (GW m l).symm)
theorem Alk(l:List (Int×Int))(g m:Nat)(ty:cE)(fr:Nat×Nat)(x y:Int)(hx:Cl x)(hy:Cl y)(W:cI)(hg:W.heap[g]? =jB (.cells #[.map (jB m)] ty fr))(hm:M4 W m (mapK (cH .i64) l)):
 aM bK 85 #[.int .i64 x,.int .i64 y,.pointer (jB ⟨g,0,jA⟩)] W λe w'=>e= .returned (.int .i64 (cfC l x y))/\∃q os,w'=grow (W.drewN q) os:=by
 have hgl:g < W.heap.size:=(aA.1 hg).1;have hA:=λW=>AnyG.cmp_Compare_int a6 (Qe l x) (Qe l y) W
 have hB:=λW=>AnyG.cmp_Compare_int a6 x y W
 change∀W,aM bK 87 _ _ _ at hA;change∀W,aM bK 87 _ _ _ at hB;obtain⟨r,hr⟩:∃r,aV (Qe l x) (Qe l y)=r:=⟨_,rfl⟩
 obtain⟨s,hs⟩:∃s,aV x y=s:=⟨_,rfl⟩
 have hu:cfC l x y=if r≠0 then r else s:=by unfold cfC;rw[hr,hs]
 rw[hr]at hA;rw[hs]at hB;clear hr hs;have hO:=λW=>Amu r s W.heap.size 3 (W.alloc (.cells #[.int .i64 r,.int .i64 s] 3)) (cV W _)
 rw[<-hu]at hO;generalize cfC l x y=u at hO⊢;clear hu;have vx:∀W2:cI,M4 W2 m (mapK (cH .i64) l)->(Instr.lookup 51 (.map (jB m)) (.int .i64 x) aH).run bK W2= .ok (.int .i64 (Qe l x)) W2:=λW2 h2=>by
  have:=h2.look bV (DY W2) hx;rw[this,CC];unfold Qe;cases getK l x <;> rfl
 have vy:∀W2:cI,M4 W2 m (mapK (cH .i64) l)->(Instr.lookup 51 (.map (jB m)) (.int .i64 y) aH).run bK W2= .ok (.int .i64 (Qe l y)) W2:=λW2 h2=>by
  have:=h2.look bV (DY W2) hy;rw[this,CC];unfold Qe;cases getK l y <;> rfl
 generalize Qe l x=a at hA vx;generalize Qe l y=b at hA vy;have c0:W.cell? ⟨g,0,jA⟩=jB (.map (jB m)):=by simp[cJ,hg]
 have lx:=vx W hm;have ly:=vy W hm;clear vx vy hm hg
 go_enter bB,Tryz.ntmps85
 go_wp2_with (first|(go_at_call 87;first|((with_reducible refine(hA _).mono ?_);rintro e w' ⟨rfl,rfl⟩)|((with_reducible refine(hB _).mono ?_);rintro e w' ⟨rfl,rfl⟩))|(go_at_call 86;refine(hO _).mono ?_;rintro e w' ⟨rfl,rfl⟩))
 go_ret
 exact⟨rfl,0,_,alloc_eq_grow _ _⟩
section
variable{α:Type}[Inhabited α]{enc:α->cF}
theorem Us{cur:Array cF}{e:cE}(d:Array α)(c:w.heap[g]? =jB (.cells cur e fr)):
 (sortWorld enc w g 0 n d os).heap[g]? =jB (.cells (cD enc 0 d cur) e fr):=by
 have hg:g < w.heap.size:=(aA.1 c).1;unfold sortWorld;rw[heap_grow_old _ _ (by simpa using hg)];simp[putRow,mapBlock,cC,aB,c,onCells]
theorem Jb(d:Array α):w.grownBy (sortWorld enc w g 0 n d os) (jB g):=by
 unfold sortWorld;refine⟨rfl,rfl,rfl,by simp,λk hk c=>?_⟩;rw[heap_grow_old _ _ (by simpa using hk)];have:g≠k:=λe=>c (by rw[e])
 simp[putRow,mapBlock,cC,aB,this]
theorem Qh(cur:Array cF)(d:Array α)(h:d.size<=cur.size):(cD enc 0 d cur).toList.take d.size=d.toList.map enc:=by
 apply dN;intro j;by_cases u:j < d.size
 ·rw[eI u,aC,eF,aC];have c:j < cur.size:=by omega
  simp[cD,u,c]
 ·rw[List.getElem?_take_eq_none (by omega),eD (by simp;omega)]
end
abbrev WfI:Type:={x:Int // Cl x}
instance Apz:Inhabited WfI:=⟨⟨0,by unfold Cl;decide⟩⟩
def Axg(x:WfI):cF:=.int .i64 x.1
theorem Afg{l:List (Int×Int)}{x y:WfI}:ltOf (λx y:WfI=>cfC l x.1 y.1) x y=aL (ltC l x.1 y.1):=Ao3
theorem Azq(l:List (Int×Int)):SWO (ltOf λx y:WfI=>cfC l x.1 y.1) where
 irrefl x:=by rw[Afg];simp[ltC]
 trans x y z h1 h2:=by
  rw[Afg,decide_eq_true_eq]at *;unfold ltC at *;omega
 ntrans x y z h1 h2:=by
  rw[Afg,decide_eq_false_iff_not]at *;unfold ltC at *;omega
theorem Azn(l:List (Int×Int))(x y:WfI)(h1:ltOf (λx y:WfI=>cfC l x.1 y.1) x y=aH)(h2:ltOf (λx y:WfI=>cfC l x.1 y.1) y x=aH):x=y:=by
 rw[Afg,decide_eq_false_iff_not]at h1 h2;unfold ltC at h1 h2;exact Subtype.ext (by omega)
theorem Adj{base:Nat}{zs:List Int}{l:List (Int×Int)}{F m:Nat}{ty:cE}(u:Gj w base v zs)(hn:zs.length<=2147483648)(N:Bg zs)(I:w.heap[F]? =jB (.cells #[.map (jB m)] ty fr))(hm:M4 w m (mapK (cH .i64) l))(O:∀q,v.ownBlock=jB q->q≠F/\q≠m):
 aM bK 84 #[v,.func (.func 85) #[] #[.pointer (jB ⟨F,0,jA⟩)]] w λe w'=>e= .returned (.tuple #[])/\Gj w' base v (Kx l zs)/\w.grownBy w' v.ownBlock:=by
 rcases u.2 with⟨rfl,h0⟩|⟨g,cap,cur,rfl,E,Y,h1,h2,h3,h4⟩
 ·have:zs= []:=dM h0;subst this;refine(AnyF.slices_SortFunc_none (P:=bK) (ρ:=Tryz.sortFI_ren) {bP with} jA 0 _ w).mono λe w' ⟨X,L⟩=>?_
  subst L;exact⟨X,by simpa[Kx]using u,World.grownBy.refl _ _⟩
 ·have W:g < w.heap.size:=(aA.1 Y).1;obtain⟨n1,n2⟩:=O g V;obtain⟨dl,B⟩:∃dl:List WfI,dl.map (·.1)=zs:=⟨zs.attach.map λ(x:{y // y∈zs})=>(⟨x.1,N x.1 x.2⟩:WfI),by rw[eW];exact zs.attach_map_subtype_val⟩
  have G:dl.length=zs.length:=by rw[<-B,eQ]
  have Z:=JT Y h4;have hH:Holds Axg w g 0 dl.toArray:=λj hj=>by
   have U:j < dl.length:=by simpa using hj
   obtain⟨k1,k2⟩:=Z j (by simp;omega);refine⟨?_,k2⟩;rw[k1];have e1:zs.toArray[j]! =zs[j]'(by omega):=by simp[getElem!_pos,show j < zs.length by omega]
   have J:dl.toArray[j]! =dl[j]:=by simp[getElem!_pos,U]
   rw[e1,J];unfold Axg;simp only[<-B,List.getElem_map]
  have eg:∀args w,(callFunc 85 args).run bK w= .ok (.enter 85 args) w:=enters_of bB (by kernel_rfl) V;have c:=Any.slices_SortFunc_total bP Axg (λ_=>rfl) (λx y:WfI=>cfC l x.1 y.1) (Azq l) 85 #[.pointer (jB ⟨F,0,jA⟩)] g 0 cap dl.toArray w eg (λmm os dk _ x y=>by
   have H:=Jb (enc:=Axg) (w:=w) (g:=g) (n:=mm) (os:=os) dk;exact Alk l F m ty fr x.1 y.1 x.2 y.2 _ ((H.block F (aA.1 I).1 λe=>n1 (by cases e;rfl)).trans I) (hm.keep (H.block m hm.lt λe=>n2 (by cases e;rfl)))) hH W (by simp;omega) (Azn l)
  have hz:dl.toArray.size=zs.length:=by simpa using G
  rw[hz]at c;refine c.mono λe w' ⟨X,n,os,L⟩=>?_
  subst L;refine⟨X,?_,Jb _⟩;have z:(dl.toArray.toList.mergeSort λx y=>!(ltOf λx y:WfI=>cfC l x.1 y.1) y x).map (·.1)=Kx l zs:=by
   rw[List.map_mergeSort (s:=Aq8 l) λa _ b _=>by rw[Afg];rfl];unfold Kx;rw[<-B]
  generalize (dl.toArray.toList.mergeSort λx y=>!(ltOf λx y:WfI=>cfC l x.1 y.1) y x)=ts at z⊢;have A:(Kx l zs).length=zs.length:=(GW l zs).length_eq;have aa:ts.length=zs.length:=by rw[<-A,<-z,eQ]
  unfold Gj;rw[A];refine⟨by rw[eQ,A,iZ],.inr ⟨g,cap,_,rfl,E,Us _ Y,h1,h2,by simp[cD,h3],?_⟩⟩;have J:=Qh (enc:=Axg) cur ts.toArray (by simp only[fU];rw[h3];omega);have e3:ts.toArray.size=zs.length * 1:=by simp;omega
  rw[e3]at J;rw[J,<-z,eW];rfl
section
variable{C:Ctx}{t:List AV}{h:List gI}{o:aX}{K:St->Prop}
theorem T5(h:Bg l):Bg (Kx m l):=λr c=>h r ((GW m l).mem_iff.1 c)
theorem SM{y:aY}{tys:Array cE}{i ver j1 j2 m:Nat}{ml:List (Int×Int)}(ho:o.op= .call {callee:=.value (.func 84),args:=#[x,y],argTypes:=tys})(hx:evA t x= .own i ver)(hy:evA t y= .fn 85 [.lit (.pointer (jB ⟨g,0,jA⟩))])
 (hi:h[i]? =jB (.row ver 3 tInt l))(h1:h[j1]? =jB (.res (Be g [.lit (.map (jB m))])))(h2:h[j2]? =jB (.res (EF (cH .i64) ml m)))(I:i≠j1/\i≠j2)(hl:l.length<=2147483648)
 (hK:K ⟨Bn t o.dst .any,h.set i (.row ver 3 tInt (Kx ml l))⟩):AOp bK C o ⟨t,h⟩ K:=by
 rintro Q' a w ⟨hd,S,ψ,H,F⟩;refine⟨λc e=>(by rw[ho]at e;cases e),?_⟩;have B:=Bw F x;have A:=Bw F y;rw[show evA (St.mk t h).t x= .own i ver from hx]at B;rw[show evA (St.mk t h).t y=_ from hy]at A;unfold gQ at B A;obtain⟨cs,O,aa⟩:=A;obtain⟨u,rfl,hu⟩:=Acc aa;unfold gQ at hu;subst hu;have hv:=(B.2 _ (by rw[hi];rfl)).2 V;have N:=H.blk i _ hi;have E:=N.lt V;obtain⟨hO,hw⟩:=JC N;obtain⟨ad,e1,ab,U⟩:=(H.blk j1 _ h1).2;obtain⟨u1,rfl,G⟩:=Acc U;unfold gQ at G;subst G;have Y:M4 w m (mapK (cH .i64) ml):=(H.blk j2 _ h2).2;have L:Bv (ψ i)=(ψ i).ownBlock:=by
  rcases hO.2 with⟨e,_⟩|⟨g,cap,cur,e,_⟩ <;> rw[e] <;> rfl
 have W:∀q,(ψ i).ownBlock=jB q->q≠g/\q≠m:=λq hq=>by
  have f1:ftp h[i]? (ψ i) q:=by rw[hi];exact L.trans hq
  exact⟨λe=>H.dis i j1 I.1 (by rw[hi];rfl) (by rw[h1];rfl) q f1 (by rw[h1];exact e),λe=>H.dis i j2 I.2 (by rw[hi];rfl) (by rw[h2];rfl) q f1 (by rw[h2];exact e)⟩
 unfold Oper.wp;rw[Ct ho (by kernel_rfl) a.eval w V];simp only[Oper.upon];rw[show(#[x,y].map a.eval)= #[ψ i,.func (.func 85) #[] #[.pointer (jB ⟨g,0,jA⟩)]]from by simp[hv,O]];refine(Adj hO hl hw ab Y W).mono ?_;rintro r w' ⟨rfl,ac,Z⟩;have z:w.grownBy w' (Bv (ψ i)):=by rw[L];exact Z
 have J:∀k,S k->w'.heap[k]? =w.heap[k]?:=λk hk=>z.block k (H.lt k hk) λe=>(E k e.symm).2.2 hk
 have X:Ext w S h ψ w' S (h.set i (.row ver 3 tInt (Kx ml l))) (Bo ψ i (ψ i)):=gZ J hi (λc' hc=>by
  simp only[gN,jC]at hc;exact⟨ver,rfl,by omega,λ_=>⟨rfl,rfl⟩⟩) λh=>by simp[AZ]at h
 exact⟨_,hK,Is (s:=⟨t,h⟩) hi hd F (H.set hi V (Bs z) X (LF ac (T5 hw) λg hg=>⟨(E g (AU hg)).1,(E g (AU hg)).2.2⟩) λg hg=>.inl hg) X (by unfold gQ;trivial)⟩
end
instance Apx:ZC bK 51 [.map jA]:=⟨by kernel_rfl⟩
theorem BT{P:aZ}{C:Ctx}{t:List AV}{h:List gI}{o:aX}{j:Nat}{xs:Array cF}(u:o.op= .extract x j)(hx:evA t x= .lit (.tuple xs))(z:xs[j]? =jB v):AT P C t h o (.lit v):=
 AL λS ψ w ρ _ c=>by
  have h1:=c x (by simp[u,Op.operands]);rw[hx]at h1;unfold gQ at h1;exact⟨v,by simp[execOp,u,h1,Instr.extract,z],by unfold gQ;rfl⟩
theorem Cn{α:Type}{l:List (Int×α)}(h:Ea l):(keysK l).Nodup:=by
 unfold keysK;exact fQ.2 (h.imp λh=>by omega)
theorem Zk{ks:List Int}(u:Ea m)(c:ks.Nodup)(h:∀q,q∈ks↔q∈keysK m):Kx m ks=Kx m (keysK m):=
 Zj ((GW m ks).trans ((fR c (Cn u)).2 h)) (Nb m ks)
noncomputable section
def MV(f:iB):M (List Int):=iD (Jj (λs u c=>GE u c s) f ([]:List (Int×Int))) λm=>iE (aL (m.length<=2097152/\Ea m)) (iH (Kx m (keysK m)))
theorem UU{f:iB}{r:List Int}(H:(MV f).to r):Fn bK 48 [.agg (Ak f)] (.bs tInt r):=by
 obtain⟨s,k,H⟩:=An.1 H;obtain⟨c,H⟩:=Aj.1 H;obtain rfl:=Ac.1 H;have c:=of_decide_eq_true c;refine AR Tryz.func48 V (by kernel_rfl) V Tryz.ntmps48 λC hC=>?_
 simp only[Nat.reduceAdd,Nat.reduceSub,zaa];refine wR (hx:=by((refine AF V (AOp.boxI 0 V V Vx.agg ?_);refine D2 ?_ Iz);refine sA ?_ (AT.assign V Ys) Kf;exact C1 V)) ?_;refine wRK λK1 W=>?_
 refine AF V (J5 (cH .i64) V λm=>?_);refine D2 ?_ HT;refine AF V (SQ 2 V V ?_);refine D2 ?_ IR;refine AF V (CN (new:=[_]) V V V (P0.one (iK V)) V (iR V) ?_);refine D2 ?_ RG;refine Au (W _ ?_);refine Bt 2 V V V (λg=>(.agg (Ak f)::.ptr 0 0::.lit (.slice jA 0 0)::.lit (.pointer (jB ⟨g,0,jA⟩))::A2 (.lit (.map (jB m))::A10 (A7 [])))) (λg=>(by(repeat(first|exact OpnB.nil|refine OpnB.ptr ?_|refine OpnB.any ?_|refine OpnB.keep V ?_)))) λg=>?_
 refine nT ?_;have k:=WS (R0:=λs=>Res.and (Be g [.lit (.map (jB m))]) (EF (cH .i64) s m)) (λ_=>rfl) (λ_ _ _ _ h=>h) V (λ_ _ _ _ H=>Qq H) k;refine wR (hx:=by(refine sA ?_ (AO V FG V V) G3;refine sA ?_ (FK V) (Ao Gp);refine JZ V (DF 2 1 (by decide) V V) ?_;(refine AF V (BR (i:=2) V V k (λ_=>rfl) V V λ_=>?_);refine D2 ?_ (Ao Iz));exact C1 V)) ?_;refine AJ _ (Fe 2 1 (by decide) V V) ?_;refine nT ?_;refine wR (hx:=by(refine sA ?_ (AT.assign V Ys) JB;exact C1 V)) ?_;refine Ab λK5 h5=>?_
 refine wRK λK6 U=>?_
 refine sA ?_ (AX (i:=2) (g:=g) V FF V V V) (Ao Kf);refine AF V (RC 1 V bV V V λI=>?_);refine D2 ?_ (Ao IR);refine Au (U _ ?_);refine AJ _ (EA 4 3 tInt V (by decide)) ?_;refine nT ?_;refine Ad ?_;have O:(keysK s).length=s.length:=by simp[keysK]
 refine AH (λp:List Int×Nat=>⟨(A3 (.lit (.pointer (jB ⟨g,0,jA⟩))::.own 3 p.2::A6 (.lit (.pointer (jB ⟨I,0,jA⟩))::A10 (A2 [])))),[.dead,.res (Tt (cH .i64) s p.1 m I),.res (Be g [.lit (.map (jB m))]),.row p.2 3 tInt p.1]⟩) (λp=>p.1.Nodup/\∀q∈p.1,q∈keysK s) (λp=>s.length - p.1.length) ([],0) ⟨fO,λq hq=>by cases hq⟩ (leC (gW (gV (gV (gV (gX _)))))) ?_;rintro⟨ks,ver⟩ ⟨E,A⟩
 (try dsimp only at E A);(try dsimp only)
 refine Ab λK3 Z=>?_
 refine gR ?_;refine AF V (VH 1 V V V (λhn G=>?_) (λq v hn hs hw hq N=>?_))
 ·refine sNt ?_;refine sA ?_ (BT V V V) (Ao Gl);refine Au ?_;refine Z _ ?_;refine nT ?_;refine Ab λK4 Y=>?_
  refine Ah V (λB=>by cases B) (λB=>?_);refine Ay ?_;repeat(first|refine BC ?_|refine exO (by decide) ?_|refine asE ?_)
  refine exN ?_;refine h5 _ ?_;refine nT ?_;have u:ks.length<=2147483648:=by
   have:=Dc E A;omega
  refine AJ _ (Jp (i:=1) (R':=EF (cH .i64) s m) V (λ_ h=>.inl h) (λ_ _ h=>by obtain⟨h0,left,cnt,h1,_⟩:=h;exact⟨h0,h1.owns⟩) V) ?_;refine nT ?_;refine wR (hx:=by(refine sA ?_ (AT.move V Hg) (Ao (Ao JB));refine sA ?_ (FK V) (Ao (Ao Gl));(refine AF V (SM (j1:=2) (j2:=1) (ml:=s) V V V V V V (by decide) u ?_);refine D2 ?_ (Ao (Ao HT)));exact C1 V)) (hk:=?_);refine wR (hx:=by(refine sA ?_ (AT.move V Hg) (Ao (Ao G3));refine sA ?_ (AT.assign V (Aq (Aq GB))) Kf;exact C1 V)) ?_;rw[Zk c.2 E G];exact Aw ⟨.inr V,g9 V⟩
 ·refine sNt ?_;refine sA ?_ (BT V V V) (Ao Gl);refine Au ?_;refine Z _ ?_;refine nT ?_;refine Ab λK4 Y=>?_
  refine Ah V (λB=>?_) (λB=>by cases B);refine Al ?_;refine Y _ ?_;refine nT ?_;refine Ad ?_;have J:wfB .i64 q=aK:=hw;have L:q∈keysK s:=fF.2 ⟨(q,v),(CH c.2).1 hq,rfl⟩;have F:(ks++[q]).Nodup:=fM.2 ⟨E,by simp,λa ha b hb=>by rw[fK.1 hb];exact λe=>N (e▸ha)⟩;have z:∀x∈ks++[q],x∈keysK s:=λx hx=>(eY.1 hx).elim (A x) λe=>by rw[fK.1 e];exact L
  have u:=Dc F z;rw[eM,O]at u;have X:Fj (ks.length+ [q].length) 8=aK:=by
   simp only[zah]at u⊢;unfold Fj cY;simp only[zaf];omega
  refine wR (hx:=by(refine sA ?_ (NB 1 V V V) (Ao HT);refine sA ?_ (AT.extract V (Aq Iu) V) (Ao G3);refine sA ?_ (AT.assign V (Aq GB)) Gl;exact C1 V)) ?_;refine wRE (hx:=by(refine sA ?_ (AT.move V Hg) (Ao (Ao Gp));refine sA ?_ (AT.move V Fr) (Ao (Ao Iz));refine sA ?_ (AT.lt (xs:=[.tmp 17]) (T:=tInt) (ds:=[q]) V V V (by rfl) (by decide) (.cons (Fit.int J) .nil)) (Ao (Ao Kf));(refine AF V (J6 V V V V V X ?_);refine D2 ?_ (Ao (Ao IR)));refine sA ?_ (AT.assign V (Aq (Aq FF))) JB;exact C1 V)) (hk:=?_);repeat(first|refine abN ?_|refine asN ?_)
  refine Ap ⟨(ks++[q],ver+1),⟨F,z⟩,by simp only[zau]at u⊢;omega,?_⟩;refine iN (Jp (i:=1) (R':=Tt (cH .i64) s (ks++[q]) m I) V (λ_ h=>h) (λ_ _ h=>h.1) V) ?_;exact AS
end
end Mu
namespace Mu
open Go Go.RowKit Go.Proofs Go.Maps
variable{E E0:List (Int×Int)}{G:gU}{l:List Int}{out:List (Int×Int)}{α:Type}{p:α->Bool}{r:Int}{v:cF}
def ST(E:List (Int×Int))(k:Int):List (Int×Int):=if(getK E k).isSome then B6 E k (aS.wrap ((getK E k).getD 0 - 1))else E
def Kt(G:gU)(E:List (Int×Int))(r:Int):List (Int×Int):=((getK G.near r).getD []).foldl ST (Qo E r)
def Axy(g m:Nat)(v:cF)(l:List Int)(E:List (Int×Int)):Res:=Res.and (Be g [.lit v]) (Res.and (rowR v 3 tInt l) (EF (cH .i64) E m))
theorem Ajz{g m:Nat}(w:cI)(S S':Nat->Prop)(h:(Axy g m v l E).R w S):(Axy g m v l E).R w S':=by
 obtain⟨⟨cs,e,h1,h2⟩,⟨A,z,u⟩,c⟩:=h;refine⟨⟨cs,e,h1,?_⟩,⟨XO A,z,u⟩,c⟩;simp only[Af,gQ]at h2⊢;exact h2
theorem Ak9(l:List (Int×α))(k:Int):(Qo l k).length<=l.length:=eP _ _
theorem Alc(h:Ea E)(k:Int):(ST E k).length=E.length:=by
 unfold ST;split
 ·rename_i hk;exact HJ h hk _
 ·rfl
theorem YH(h:Ea E)(k:Int):Ea (ST E k):=by
 unfold ST;split
 ·exact h.put _ _
 ·exact h
theorem Ux:∀{E:List (Int×Int)},Ea E->Ea (l.foldl ST E)/\(l.foldl ST E).length=E.length:=by
 induction l with
 |nil=>intro E h;exact⟨h,rfl⟩
 |cons x l c=>
  intro E h;obtain⟨h1,h2⟩:=c (YH h x);exact⟨h1,h2.trans (Alc h x)⟩
theorem S5(G:gU)(g m:Nat)(v:cF)(l:List Int)(E:List (Int×Int))(r:Int)(O:Cl r)(hE:Ea E)(aa:E.length<=2147483648)(hl:l.length<=2147483648)(hn:∀k∈(getK G.near r).getD [],Cl k)(W:((getK G.near r).getD []).length<=2147483648):DI bK 91 (Axy g m v l E) [.lit (.int .i64 r),.lit (.pointer (jB ⟨g,0,jA⟩)),.bp (RF (.map (jB m))) () 0,.bp (J7 Bc) G 0] (λv':cF=>Axy g m v' (l++[r]) (Kt G E r)) (λ_=>.tuple #[]):=by
 obtain⟨c,A⟩:∃c,c=(getK G.near r).getD []:=⟨_,rfl⟩
 have U:∀k∈c,Cl k:=by rw[A];exact hn
 have Z:c.length<=2147483648:=by rw[A];exact W
 have N:Fj (l.length+ [r].length) 8=aK:=by
  unfold Fj;simp only[zaf,zah];unfold cY;omega
 refine DX Tryz.func91 V (by kernel_rfl) V Tryz.ntmps91 V (λ_=>Ajz) λC=>?_
 refine AJ _ (EM 0 V) ?_;refine AJ _ (EM 1 V) ?_;refine gT ?_;simp only[Nat.reduceAdd,Nat.reduceSub,zaa];refine nT ?_;refine wRK λK1 X=>?_
 refine sA ?_ (AX (i:=0) (g:=g) V FG V V V) (Ao Iz);refine sA ?_ (AT.move V Je) (Ao Kf);refine sA ?_ (Ce (T:=tInt) V V V (by rfl) (by decide) (iA O)) (Ao IR);refine AF V (VN 1 V V (Aq FG) V (Aq FF) N λv'=>?_);refine D2 ?_ (Ao JB);refine AF V (Ip (i:=0) (g:=g) (new:=[.lit v']) V FG V (P0.one (Mh (i:=1) V)) V V (iR V) ?_);refine D2 ?_ RG;refine Au (X _ ?_);refine wR (hx:=by((repeat(first|refine sA ?_ (AB V V V)|(refine AF V (Amf 2 V Tryz.underlying51 V V O V ?_);refine sNt ?_)|refine sA ?_|refine AN ?_|refine sAG ?_|refine Bp ?_));exact C1 V)) (hk:=?_);refine wR (hx:=by((repeat(first|refine sA ?_ (AB V V V)|refine sA ?_ (Cg V V)|refine sA ?_ (Ck V Tryz.underlying77 V V O)|refine sA ?_|refine AN ?_|refine sAG ?_|refine Bp ?_));exact C1 V)) ?_;refine Ad ?_;refine AH (λk:Nat=>⟨(A2 (.bp (RF (.map (jB m))) () 0::A10 (A7 (.bs tInt c::.lit (.int .i64 (c.length:Int))::.lit (.int .i64 (k:Int))::A10 (A5 []))))),[.res (Be g [.lit v']),.res (rowR v' 3 tInt (l++[r])),.res (EF (cH .i64) ((c.take k).foldl ST (Qo E r)) m)]⟩) (λk=>k<=c.length) (λk=>c.length - k) 0 (i7 _) (by rw[A];exact AS) ?_;rintro k hk;refine wR ?_;refine Ab λK6 h6=>?_
 refine Ah V (λH=>?_) (λH=>?_)
 ·have F:k < c.length:=by simpa using H
  obtain⟨q,hq⟩:∃q,c[k]? =jB q:=⟨_,eC F⟩
  have B:wfB .i64 q=aK:=U q (fG hq);obtain⟨D,J⟩:∃D,D=(c.take k).foldl ST (Qo E r):=⟨_,rfl⟩
  obtain⟨ac,ab⟩:Ea D/\D.length=(Qo E r).length:=by rw[J];exact Ux (hE.del r)
  have Y:D.length < cY:=by have:=Ak9 E r;unfold cY;omega
  rw[<-J];refine Al ?_;refine h6 _ ?_;refine nT ?_;refine Ab λK8 h8=>?_
  refine Ad ?_;refine wR ?_;refine wR (hx:=by((repeat(first|refine sA ?_ (AB V V V)|refine sA ?_ (Ik 2 V Tryz.underlying51 DY V V B V)|refine sA ?_|refine AN ?_|refine sAG ?_|refine Bp ?_));exact C1 V)) ?_;refine wR ?_;refine Ah V (λz=>?_) (λz=>?_)
  ·have L:(getK D q).isSome=aK:=z;have u:B6 D q (aS.wrap ((getK D q).getD 0 - 1))=ST D q:=by unfold ST;rw[if_pos L]
   refine wRE (hx:=by((repeat(first|refine sA ?_ (AB V V V)|refine sA ?_ (PY 2 V Tryz.underlying51 DY V V B V)|(refine AF V (J4 2 V Tryz.underlying51 V V V B Y V ?_);refine sNt ?_)|refine sA ?_|refine AN ?_|refine sAG ?_|refine Bp ?_));exact C1 V)) (hk:=?_);refine h8 _ ?_;refine nT ?_;refine wRE ?_;refine Ap ⟨k+1,F,by omega,?_⟩;try dsimp only
   rw[fW,hq,dV,<-J,show(jB q).toList.foldl ST D=_ from u.symm];exact AS
  ·have L:(getK D q).isSome=aH:=z;have u:D=ST D q:=by unfold ST;rw[if_neg (by rw[L];simp)]
   refine Al ?_;refine h8 _ ?_;refine nT ?_;refine wRE ?_;refine Ap ⟨k+1,F,by omega,?_⟩;try dsimp only
   rw[fW,hq,dV,<-J,show(jB q).toList.foldl ST D=_ from u.symm];exact AS
 ·obtain rfl:k=c.length:=by have:¬k < c.length:=(by simpa using H);omega
  have I:Kt G E r=(c.take c.length).foldl ST (Qo E r):=by unfold Kt;rw[gB,<-A]
  rw[<-I];refine Ay ?_;refine upE (iN (DF 1 2 (by decide) V V) (iN (DF 0 1 (by decide) V V) iM)) ?_;exact⟨.inl V,v',rfl,rfl⟩
def EB(regs:List Int)(out:List (Int×Int)):List (Int×Int):=regs.foldl (λE r=>if(getK out r).getD 0 ==0 then B6 E r 0 else E) []
def Un(q:Int)(E:List (Int×Int))(k:Int):List (Int×Int):=if(getK E k).isSome then B6 E q (aS.wrap ((getK E q).getD 0+1))else E
def Sm(G:gU)(E:List (Int×Int))(q:Int):List (Int×Int):=((getK G.near q).getD []).foldl (Un q) E
def H7(G:gU)(out:List (Int×Int)):List (Int×Int):=(keysK (EB G.regs out)).foldl (Sm G) (EB G.regs out)
def Q3(G:gU)(E:List (Int×Int))(r:Int):Bool:=(getK E r).isSome&&aL ((getK E r).getD 0 < (((getK G.cls r).getD []).length:Int))
def LA(G:gU)(E:List (Int×Int)):Option Int:=match G.regs.find? (Q3 G E)with
 |some r=>jB r
 |none=>(G.cheap++G.regs).find? λr=>(getK E r).isSome
def DM(G:gU):Nat->List (Int×Int)->List Int->List Int
 |0,_,l=>l
 |n+1,E,l=>match LA G E with
  |some r=>DM G n (Kt G E r) (l++[r])
  |none=>l
def CR(G:gU)(out:List (Int×Int)):List Int:=DM G (H7 G out).length (H7 G out) []
theorem Hd(out:List (Int×Int)):∀(l:List Int) {E:List (Int×Int)},okK E->(∀r∈l,Cl r)->okK (l.foldl (λE r=>if(getK out r).getD 0 ==0 then B6 E r 0 else E) E)/\(l.foldl (λE r=>if(getK out r).getD 0 ==0 then B6 E r 0 else E) E).length<=E.length+l.length
 /\∀x,getK (l.foldl (λE r=>if(getK out r).getD 0 ==0 then B6 E r 0 else E) E) x=if x∈l/\(getK out x).getD 0=0 then jB 0 else getK E x
 | [],E,h,_=>⟨h,by simp,λx=>by simp⟩
 |r::l,E,h,F=>by
  rw[dW];have u:∀r∈l,Cl r:=λq hq=>F q (fC _ hq)
  by_cases z:(getK out r).getD 0=0
  ·have e:((getK out r).getD 0 ==0)=aK:=by rw[z];rfl
   rw[if_pos e];obtain⟨h1,h2,B⟩:=Hd out l (h.put (F r fD) 0) u;refine⟨h1,?_,λx=>?_⟩
   ·have:=EZ (l:=E) r 0;rw[eN];omega
   ·rw[B x,BH h.1];by_cases hx:x=r
    ·subst hx;have H:(if x∈x::l/\(getK out x).getD 0=0 then jB (0:Int)else getK E x)=jB 0:=if_pos ⟨fD,z⟩;rw[H,if_pos V];split <;> rfl
    ·rw[if_neg hx];by_cases c:x∈l/\(getK out x).getD 0=0
     ·rw[if_pos c,if_pos ⟨fC _ c.1,c.2⟩]
     ·rw[if_neg c,if_neg λ⟨h4,A⟩=>c ⟨(fB.1 h4).resolve_left hx,A⟩]
  ·have e:((getK out r).getD 0 ==0)=aH:=by simpa using z
   rw[if_neg (by rw[e];simp)];obtain⟨h1,h2,B⟩:=Hd out l h u;refine⟨h1,by rw[eN];omega,λx=>?_⟩;rw[B x];by_cases c:x∈l/\(getK out x).getD 0=0
   ·rw[if_pos c,if_pos ⟨fC _ c.1,c.2⟩]
   ·rw[if_neg c,if_neg λ⟨h4,A⟩=>by
     rcases fB.1 h4 with rfl|h4
     ·exact z A
     ·exact c ⟨h4,A⟩]
theorem LR{regs:List Int}(out:List (Int×Int))(c:∀r∈regs,Cl r):okK (EB regs out):=(Hd out regs okK.nil c).1
theorem Pi{regs:List Int}(out:List (Int×Int))(c:∀r∈regs,Cl r):(EB regs out).length<=regs.length:=by
 have:=(Hd out regs okK.nil c).2.1;rw[eR,i6]at this;exact this
theorem Pj{regs:List Int}(out:List (Int×Int))(c:∀r∈regs,Cl r)(x:Int):getK (EB regs out) x=if x∈regs/\(getK out x).getD 0=0 then jB 0 else jA:=(Hd out regs okK.nil c).2.2 x
def Aq9(E:List (Int×Int))(c:List Int)(v:Int):Int:=c.foldl (λv k=>if(getK E k).isSome then aS.wrap (v+1)else v) v
theorem LW(E0:List (Int×Int))(q:Int):∀(c:List Int) {E:List (Int×Int)} {v:Int},okK E->(∀x,(getK E x).isSome=(getK E0 x).isSome)->getK E q=jB v->
 okK (c.foldl (Un q) E)/\(∀x,getK (c.foldl (Un q) E) x=if x=q then jB (Aq9 E0 c v)else getK E x)/\(c.foldl (Un q) E).length=E.length
 | [],E,v,h,_,hq=>⟨h,λx=>by
  by_cases e:x=q
  ·rw[if_pos e,e];exact hq
  ·rw[if_neg e];rfl,rfl⟩
 |k::c,E,v,h,z,hq=>by
  rw[dW];have B:Cl q:=h.2 (q,v) ((CH h.1).1 hq);have A:(getK E q).isSome=aK:=by rw[hq];rfl
  by_cases hk:(getK E k).isSome=aK
  ·have e:Un q E k=B6 E q (aS.wrap (v+1)):=by unfold Un;rw[if_pos hk,hq];rfl
   rw[e];have hg:∀x,getK (B6 E q (aS.wrap (v+1))) x=if x=q then jB (aS.wrap (v+1))else getK E x:=λx=>BH h.1 _ _ _
   obtain⟨h1,h2,F⟩:=LW E0 q c (h.put B (aS.wrap (v+1))) (λx=>by
    rw[hg];by_cases u:x=q
    ·rw[if_pos u,<-z x,u,A];rfl
    ·rw[if_neg u];exact z x) (by rw[hg,if_pos V])
   refine⟨h1,λx=>?_,F.trans (HJ h.1 A _)⟩;rw[h2 x];have H:Aq9 E0 (k::c) v=Aq9 E0 c (aS.wrap (v+1)):=by
    show dU _ (if(getK E0 k).isSome then _ else _) c=_;rw[if_pos (by rw[<-z k];exact hk)];rfl
   rw[H];by_cases u:x=q
   ·rw[if_pos u,if_pos u]
   ·rw[if_neg u,if_neg u,hg,if_neg u]
  ·have e:Un q E k=E:=by unfold Un;rw[if_neg hk]
   rw[e];obtain⟨h1,h2,F⟩:=LW E0 q c h z hq;refine⟨h1,λx=>?_,F⟩;rw[h2 x];have H:Aq9 E0 (k::c) v=Aq9 E0 c v:=by
    show dU _ (if(getK E0 k).isSome then _ else _) c=_;rw[if_neg (by rw[<-z k];exact hk)];rfl
   rw[H]
theorem snocI{c:List α->Prop}(nil:c [])(snoc:∀l x,c l->c (l++[x]))(l:List α):c l:=by
 have z:∀n (l:List α),l.length=n->c l:=by
  intro n;induction n with
  |zero=>intro l u;rw[dM u];exact nil
  |succ n B=>
   intro l u;have A:l≠[]:=λe=>by rw[e]at u;simp at u
   rw[<-List.dropLast_concat_getLast A];exact snoc _ _ (B _ (by rw[List.length_dropLast,u];rfl))
 exact z _ l V
theorem F7(G:gU)(h0:okK E0):∀(ks:List Int),ks.Nodup->(∀q∈ks,q∈keysK E0)->okK (ks.foldl (Sm G) E0)/\(∀x,getK (ks.foldl (Sm G) E0) x=if x∈ks then(getK E0 x).map (Aq9 E0 ((getK G.near x).getD []))else getK E0 x)/\(ks.foldl (Sm G) E0).length=E0.length:=by
 intro ks;induction ks using snocI with
 |nil=>intro _ _;exact⟨h0,λx=>by simp,rfl⟩
 |snoc ks q L=>
  intro I A;have c:=fM.1 I;obtain⟨h1,h2,X⟩:=L c.1 λx hx=>A x (eZ _ hx)
  have F:q∉ks:=λJ=>c.2.2 q J q (fK.2 V) V
  have u:∀x,(getK (ks.foldl (Sm G) E0) x).isSome=(getK E0 x).isSome:=λx=>by
   rw[h2 x];split
   ·rw[i9]
   ·rfl
  obtain⟨p,N,H⟩:=fF.1 (A q (fA _ (fK.2 V)));have z:getK E0 q=jB p.2:=(CH h0.1).2 (by rw[<-H];exact N);have hq:getK (ks.foldl (Sm G) E0) q=jB p.2:=by rw[h2 q,if_neg F,z]
  rw[dV];obtain⟨W,U,O⟩:=LW E0 q ((getK G.near q).getD []) h1 u hq;refine⟨W,λx=>?_,O.trans X⟩;show getK (Sm G (ks.foldl (Sm G) E0) q) x=_;rw[show Sm G (ks.foldl (Sm G) E0) q=((getK G.near q).getD []).foldl (Un q) (ks.foldl (Sm G) E0)from V,U x];by_cases B:x=q
  ·rw[if_pos B,if_pos (by rw[B];simp),B,z];rfl
  ·rw[if_neg B,h2 x];by_cases hx:x∈ks
   ·rw[if_pos hx,if_pos (eZ _ hx)]
   ·rw[if_neg hx,if_neg λJ=>(eY.1 J).elim hx λe=>B (fK.1 e)]
theorem Alg(G:gU)(h0:okK E0){ks:List Int}(u:ks.Nodup)(c:∀q,q∈ks↔q∈keysK E0):ks.foldl (Sm G) E0=(keysK E0).foldl (Sm G) E0:=by
 obtain⟨h1,h2,_⟩:=F7 G h0 ks u λq hq=>(c q).1 hq
 obtain⟨A,z,_⟩:=F7 G h0 (keysK E0) (Cn h0.1) λq hq=>hq
 refine Alv h1.1 A.1 λx=>?_
 rw[h2 x,z x];by_cases hx:x∈keysK E0
 ·rw[if_pos hx,if_pos ((c x).2 hx)]
 ·rw[if_neg hx,if_neg λe=>hx ((c x).1 e)]
theorem Agp{l:List α}{k:Nat}{x:α}(hx:l[k]? =jB x)(z:p x=aK)(h:∀j y,j < k->l[j]? =jB y->p y=aH):l.find? p=jB x:=by
 induction l generalizing k with
 |nil=>simp at hx
 |cons a l c=>
  cases k with
  |zero=>
   simp at hx;subst hx;rw[dR,z]
  |succ k=>
   have A:=h 0 a (by omega) V;rw[dR,A];exact c (by simpa using hx) λj y B u=>h (j+1) y (by omega) (by simpa using u)
theorem Aqb{l:List α}(h:∀j y,j < l.length->l[j]? =jB y->p y=aH):l.find? p=jA:=by
 rw[List.find?_eq_none];intro x hx;obtain⟨j,c⟩:=fE.1 hx;rw[h j x (eE.1 c).1 c];simp
theorem Lz(h:LA G E=jB r):(getK E r).isSome=aK:=by
 unfold LA at h;split at h
 ·rename_i q hq;cases h;have:=dT hq;unfold Q3 at this;simp only[aG]at this;exact this.1
 ·have:=dT h;simpa using this
theorem Le(h:Ea E)(B:(getK E r).isSome=aK):Ea (Kt G E r)/\(Kt G E r).length+1=E.length:=by
 unfold Kt;obtain⟨h1,h2⟩:=Ux (l:=(getK G.near r).getD []) (h.del r);refine⟨h1,?_⟩;rw[h2];obtain⟨v,A⟩:=i8.1 B;have z:=(CH h).1 A;have c:E.Perm ((r,v)::Qo E r):=by
  refine(fR (dC (λ{a b} hab e=>by rw[e]at hab;omega) h) ?_).2 λp=>?_
  ·refine fN.2 ⟨λu=>(JR.1 u).2 V,dC (λ{a b} hab e=>by rw[e]at hab;omega) (h.del r)⟩
  ·rw[fB,JR];constructor
   ·intro c;by_cases e:p.1=r
    ·exact .inl (h.uniq c z e)
    ·exact .inr ⟨c,e⟩
   ·rintro(rfl|⟨c,_⟩)
    ·exact z
    ·exact c
 have:=c.length_eq;rw[eN]at this;exact this.symm
theorem GT(h:Ea E)(r x:Int):(getK (Kt G E r) x).isSome=((getK E x).isSome&&x !=r):=by
 have c:∀(l:List Int) {D:List (Int×Int)},Ea D->(getK (l.foldl ST D) x).isSome=(getK D x).isSome:=by
  intro l;induction l with
  |nil=>intro D _;rfl
  |cons k l z=>
   intro D u;rw[dW,z (YH u k)];unfold ST;split
   ·rename_i hk;rw[BH u];by_cases e:x=k
    ·rw[if_pos e,e,hk];rfl
    ·rw[if_neg e]
   ·rfl
 unfold Kt;rw[c _ (h.del r),L1 h];by_cases e:x=r
 ·rw[if_pos e,e];simp
 ·rw[if_neg e];simp[e]
instance Aw6:ZC bK 27 [.slice jA 0 0]:=⟨by kernel_rfl⟩
abbrev Zc(g m:Nat)(G:gU):AV:=.fn 91 [.lit (.pointer (jB ⟨g,0,jA⟩)),.bp (RF (.map (jB m))) () 0,.bp (J7 Bc) G 0]
theorem Amb{h:List gI}(i:Nat)(hi:h[i]? =jB (.res (rowR v 3 tInt l)))(F:mkD h= []:=by rfl):Fin h (.lit v) (.bs tInt l):=⟨F,λC S ψ w u I H c=>by
 unfold gQ at c;rw[c];clear c;have A:=H.blk i _ hi;obtain⟨h1,h2⟩:=NX A.2;refine⟨λk=>S k\/v.ownBlock=jB k,λ_ h=>.inl h,λk hk=>?_,λk hk=>?_,?_⟩
 ·rcases hk with hk|hk
  ·exact .inl hk
  ·exact .inr (iS λz=>(A.1 k (AU hk)).1 (I k z))
 ·rcases hk with hk|hk
  ·exact H.lt k hk
  ·exact(A.1 k (AU hk)).2.2
 ·unfold gQ;refine CY (T:=tInt) h1 (λj d B=>?_) λg hg=>.inr hg
  show tInt.RS w _ (((l.map (cH .i64)).drop (j * 1)).take 1) d;have hi:(l.map (cH .i64))[j]? =jB (.int .i64 d):=by rw[eF,B];rfl
  rw[iZ,gD,eK,hi];exact DH.2 ⟨rfl,h2 d (fG B)⟩⟩
structure OkG(G:CGraph):Prop where
 regs:∀r∈G.regs,Cl r
 len:G.regs.length<=1073741824
 cheap:G.cheap.length<=1073741824
 cheapw:∀r∈G.cheap,Cl r
 near:∀r,∀k∈(getK G.near r).getD [],Cl k
 nearl:∀r,((getK G.near r).getD []).length<=2147483648
structure OrdI(G:CGraph)(out:List (Int×Int))(E:List (Int×Int))(l:List Int):Prop where
 asc:Ea E
 inr:∀x,(getK E x).isSome=true->x∈G.regs
 len:E.length+l.length<=1073741824
 eq:DM G E.length E l=CR G out
theorem OrdI.take(h:OrdI G out E l)(c:LA G E=jB r):OrdI G out (Kt G E r) (l++[r])/\(Kt G E r).length < E.length:=by
 obtain⟨h1,h2⟩:=Le h.asc (Lz c) (G:=G);refine⟨⟨h1,λx hx=>h.inr x ?_,by have:=h.len;rw[eM,eN,eR];omega,?_⟩,by omega⟩
 ·rw[GT h.asc]at hx;simp only[aG]at hx;exact hx.1
 ·have:=h.eq;rw[<-h2]at this;unfold DM at this;rw[c]at this;exact this
theorem I7(u:OkG G):OrdI G out (H7 G out) []:=by
 have h0:=LR out u.regs;obtain⟨h1,h2,A⟩:=F7 G h0 (keysK (EB G.regs out)) (Cn h0.1) λq hq=>hq
 refine⟨h1.1,λx hx=>?_,?_,rfl⟩
 ·have c:(getK (EB G.regs out) x).isSome=aK:=by
   rw[show H7 G out=(keysK (EB G.regs out)).foldl (Sm G) (EB G.regs out)from V,h2 x]at hx;split at hx
   ·rwa [i9]at hx
   ·exact hx
  rw[Pj out u.regs]at c;by_cases z:x∈G.regs
  ·exact z
  ·rw[if_neg λe=>z e.1]at c;cases c
 ·have F:=Pi out u.regs;have B:=u.len;rw[show(H7 G out).length=_ from A,eR];omega
theorem Aj5{E:List (Int×α)}(h:E.length≠0):∃x,(getK E x).isSome=aK:=by
 cases E with
 |nil=>exact absurd V h
 |cons p E=>exact⟨p.1,by unfold getK;rw[dR];simp⟩
theorem Ajy(G:gU)(out:List (Int×Int))(B:OkG G):Fn bK 53 [.bp Bc G 0,.tv tMapI out] (.bs tInt (CR G out)):=by
 have bq:=B.len;have cr:=B.cheap;refine AR Tryz.func53 V (by kernel_rfl) V Tryz.ntmps53 λC hC=>?_
 simp only[Nat.reduceAdd,Nat.reduceSub,zaa];refine wR (hx:=by((repeat(first|(refine AF V (AOp.boxI 0 V V (P0.one One.bp).weak ?_);refine sNt ?_)|refine sA ?_|refine AN ?_|refine sAG ?_|refine Bp ?_));exact C1 V)) (hk:=?_);refine Awp.scope ?_;refine AJ _ (EN hC 0 2 V V Y1.bp) ?_;refine nT ?_;refine wRK λK2 bz=>?_
 refine AF V (J5 (cH .i64) V λm=>?_);refine D2 ?_ (Ao (Ao G3));refine AF V (SQ 2 V V ?_);refine D2 ?_ Gl;refine AF V (CN (new:=[_]) V V V (P0.one (iK V)) V (iR V) ?_);refine D2 ?_ RG;refine Au (bz _ ?_);refine AJ _ (EN hC 2 5 V V (Y1.lit (v:=.map (jB m)) V)) ?_;refine nT ?_;refine Ab λK3 h3=>?_
 refine wR (hx:=by((repeat(first|refine sA ?_ (AB V V V)|refine sA ?_ (Cg V V)|refine sA ?_|refine AN ?_|refine sAG ?_|refine Bp ?_));exact C1 V)) ?_;refine Ad ?_;refine AH (λk:Nat=>⟨(.any::.tv tMapI out::.bp (J7 Bc) G 0::A2 (.bp (RF (.map (jB m))) () 0::A20 (.any::.bs tInt G.regs::.lit (.int .i64 (G.regs.length:Int))::.lit (.int .i64 (k:Int))::A80 (A20 [.any])))),[.dead,.res (EF (cH .i64) (EB (G.regs.take k) out) m),.dead]⟩) (λk=>k<=G.regs.length) (λk=>G.regs.length - k) 0 (i7 _) (AS) ?_;rintro k hk;refine wR ?_;refine Ab λK7 h7=>?_
 refine Ah V (λbb=>?_) (λbb=>?_)
 ·have u:k < G.regs.length:=by simpa using bb
  obtain⟨r,O⟩:∃r,G.regs[k]? =jB r:=⟨_,eC u⟩
  have A:wfB .i64 r=aK:=B.regs r (fG O);have am:(EB (G.regs.take k) out).length < cY:=by
   have h1:=Pi (regs:=G.regs.take k) out λq hq=>B.regs q (fI hq)
   have h2:(G.regs.take k).length<=G.regs.length:=by rw[eT];omega
   unfold cY;omega
  have be:EB (G.regs.take (k+1)) out=if(getK out r).getD 0 ==0 then B6 (EB (G.regs.take k) out) r 0 else EB (G.regs.take k) out:=by
   unfold EB;rw[fW,O,dV];rfl
  refine Al ?_;refine h7 _ ?_;refine nT ?_;refine Ab λK9 h9=>?_
  refine Ad ?_;refine wR ?_;refine wR (hx:=by((repeat(first|refine sA ?_ (Vr V Tryz.underlying51 V V A)|refine sA ?_|refine AN ?_|refine sAG ?_|refine Bp ?_));exact C1 V)) ?_;refine Ah V (λai=>?_) (λai=>?_)
  ·have he:EB (G.regs.take (k+1)) out=B6 (EB (G.regs.take k) out) r 0:=by rw[be,if_pos ai]
   refine wRE (hx:=by((repeat(first|refine sA ?_ (AB V V V)|(refine AF V (J4 1 V Tryz.underlying51 V V V A am V ?_);refine sNt ?_)|refine sA ?_|refine AN ?_|refine sAG ?_|refine Bp ?_));exact C1 V)) (hk:=?_);refine h9 _ ?_;refine nT ?_;refine wRE ?_;refine Ap ⟨k+1,u,by omega,?_⟩;rw[he];exact AS
  ·have he:EB (G.regs.take (k+1)) out=EB (G.regs.take k) out:=by rw[be,if_neg (by rw[ai];simp)]
   refine Al ?_;refine h9 _ ?_;refine nT ?_;refine wRE ?_;refine Ap ⟨k+1,u,by omega,?_⟩;rw[he];exact AS
 ·obtain rfl:k=G.regs.length:=by have:¬k < G.regs.length:=(by simpa using bb);omega
  rw[gB];refine Ay ?_;refine h3 _ ?_;refine nT ?_;refine Ab λdk co=>?_
  obtain⟨E0,an⟩:∃E,E=EB G.regs out:=⟨_,rfl⟩
  rw[<-an];have h0:okK E0:=by rw[an];exact LR out B.regs
  have cu:E0.length<=1073741824:=by rw[an];exact iU (Pi out B.regs) bq
  refine wRK λdj bk=>?_
  refine sA ?_ (AB V Fr V) (Ar (Ao Gp));refine AF V (RC 1 V bV V V λrg=>?_);refine D2 ?_ (Ar (Ao Iz));refine Au (bk _ ?_);refine Ad ?_;refine AH (λks:List Int=>⟨(A2 (.bp (J7 Bc) G 0::A2 (.bp (RF (.map (jB m))) () 0::A20 (A10 (A5 (.lit (.pointer (jB ⟨rg,0,jA⟩))::A80 (A9 []))))))),[.dead,.res (Tt (cH .i64) (ks.foldl (Sm G) E0) ks m rg),.dead]⟩) (λks=>ks.Nodup/\∀q∈ks,q∈keysK E0) (λks=>E0.length - ks.length) [] ⟨fO,λq hq=>by cases hq⟩ (AS) ?_;rintro ks ⟨av,ao⟩;obtain⟨al,ba,az⟩:=F7 G h0 ks av ao;obtain⟨E,hE⟩:∃E,E=ks.foldl (Sm G) E0:=⟨_,rfl⟩
  rw[<-hE]at al ba az;rw[<-hE];have aw:∀q,q∈keysK E↔q∈keysK E0:=λq=>by
   have hs:∀{β:Type} (m:List (Int×β)),q∈keysK m↔(getK m q).isSome=aK:=λm=>by
    unfold keysK getK;rw[i9,List.find?_isSome];simp
   rw[hs,hs,ba q];split
   ·rw[i9]
   ·exact Iff.rfl
  refine Bh (β:=Option (Int×Int)) (λo=>match o with|none=>∀q,q∈ks↔q∈keysK E0|some p=>Cl p.1/\getK E p.1=jB p.2/\p.1∉ks) (λo=>⟨(A2 (.bp (J7 Bc) G 0::A2 (.bp (RF (.map (jB m))) () 0::A20 (A10 (A5 (.lit (.pointer (jB ⟨rg,0,jA⟩))::.any::.lit (.bool o.isSome)::A80 (A7 []))))))),[.dead,.res (match o with|none=>Tt (cH .i64) E ks m rg|some p=>atT (cH .i64) E (ks++[p.1]) p.1 p.2 m rg),.dead]⟩) ?_ ?_
  ·refine gR ?_;refine AF V (VH 1 V V V (λhn N=>?_) (λq v hn hs hw hq bu=>?_))
   ·refine sNt ?_;refine sA ?_ (BT V V V) (Ar (Ao IR));refine Au ?_;refine Ap ⟨jA,λq=>(N q).trans (aw q),?_⟩;exact AS
   ·refine sNt ?_;refine sA ?_ (BT V V V) (Ar (Ao IR));refine Au ?_;refine Ap ⟨jB (q,v),⟨hw,hq,bu⟩,?_⟩;exact AS
  rintro o ho;refine Ab λdi cn=>?_
  refine Ah V (λJ=>?_) (λJ=>?_)
  ·obtain⟨⟨q,v⟩,rfl⟩:=i8.1 J;obtain⟨W,aj,br⟩:=ho;have W:wfB .i64 q=aK:=W;have aj:getK E q=jB v:=aj;have bt:q∈keysK E0:=(aw q).1 (fF.2 ⟨(q,v),(CH al.1).1 aj,rfl⟩);have ap:(ks++[q]).Nodup:=fM.2 ⟨av,by simp,λa c b F=>by rw[fK.1 F];exact λe=>br (e▸c)⟩;have U:∀x∈ks++[q],x∈keysK E0:=λx hx=>(eY.1 hx).elim (ao x) λe=>by rw[fK.1 e];exact bt
   have aa:=Dc ap U;obtain⟨H,ak⟩:∃H,H=(getK G.near q).getD []:=⟨_,rfl⟩
   have cp:H.length<=2147483648:=by rw[ak];exact B.nearl q
   have bf:∀k∈H,Cl k:=by rw[ak];exact B.near q
   refine Al ?_;refine cn _ ?_;refine nT ?_;refine Ad ?_;refine wR (hx:=by((repeat(first|refine sA ?_ (NB 1 V V V)|refine sA ?_|refine AN ?_|refine sAG ?_|refine Bp ?_));exact C1 V)) ?_;refine AJ _ (Jp (i:=1) (R':=Tt (cH .i64) E (ks++[q]) m rg) V (λ_ h=>h) (λ_ _ h=>h.1) V) ?_;refine nT ?_;refine wR (hx:=by((repeat(first|refine sA ?_ (AB V V V)|refine sA ?_ (Cg V V)|refine sA ?_ (Ck V Tryz.underlying77 V V W)|refine sA ?_|refine AN ?_|refine sAG ?_|refine Bp ?_));exact C1 V)) ?_;refine Ad ?_;refine AH (λk:Nat=>⟨(A2 (.bp (J7 Bc) G 0::A2 (.bp (RF (.map (jB m))) () 0::A2 (.lit (.int .i64 q)::A20 (A10 (A2 (.lit (.pointer (jB ⟨rg,0,jA⟩))::A9 (.bs tInt H::.lit (.int .i64 (H.length:Int))::.lit (.int .i64 (k:Int))::A40 (A20 (A10 (A7 []))))))))))),[.dead,.res (Tt (cH .i64) ((H.take k).foldl (Un q) E) (ks++[q]) m rg),.dead]⟩) (λk=>k<=H.length) (λk=>H.length - k) 0 (i7 _) (by rw[ak];exact AS) ?_;rintro k hk;obtain⟨cc,bm,bl⟩:=LW E q (H.take k) al (λ_=>rfl) aj;obtain⟨D,hD⟩:∃D,D=(H.take k).foldl (Un q) E:=⟨_,rfl⟩
   rw[<-hD]at cc bm bl;rw[<-hD];refine wR ?_;refine Ab λdh cm=>?_
   refine Ah V (λah=>?_) (λah=>?_)
   ·have u:k < H.length:=by simpa using ah
    obtain⟨z,hz⟩:∃z,H[k]? =jB z:=⟨_,eC u⟩
    have bo:wfB .i64 z=aK:=bf z (fG hz);have cb:D.length < cY:=by rw[bl,az];unfold cY;omega
    have ca:(getK D q).isSome=aK:=by rw[bm q,if_pos V];rfl
    refine Al ?_;refine cm _ ?_;refine nT ?_;refine Ab λdg bn=>?_
    refine Ad ?_;refine wR ?_;refine wR (hx:=by((repeat(first|refine sA ?_ (AB V V V)|refine sA ?_ (Qy 1 V Tryz.underlying51 DY V V bo V)|refine sA ?_|refine AN ?_|refine sAG ?_|refine Bp ?_));exact C1 V)) ?_;refine wR ?_;refine Ah V (λag=>?_) (λag=>?_)
    ·have hs:(getK D z).isSome=aK:=ag;have ax:Un q D z=B6 D q (aS.wrap ((getK D q).getD 0+1)):=by unfold Un;rw[if_pos hs]
     refine wRE (hx:=by((repeat(first|refine sA ?_ (AB V V V)|refine sA ?_ (Vq 1 V Tryz.underlying51 DY V V W V)|(refine AF V (Ab4 1 V Tryz.underlying51 V V V W cb ca V ?_);refine sNt ?_)|refine sA ?_|refine AN ?_|refine sAG ?_|refine Bp ?_));exact C1 V)) (hk:=?_);refine bn _ ?_;refine nT ?_;refine wRE ?_;refine Ap ⟨k+1,u,by omega,?_⟩;try dsimp only
     rw[fW,hz,dV,<-hD,show(jB z).toList.foldl (Un q) D=_ from ax];exact AS
    ·have hs:(getK D z).isSome=aH:=ag;have ax:Un q D z=D:=by unfold Un;rw[if_neg (by rw[hs];simp)]
     refine Al ?_;refine bn _ ?_;refine nT ?_;refine wRE ?_;refine Ap ⟨k+1,u,by omega,?_⟩;try dsimp only
     rw[fW,hz,dV,<-hD,show(jB z).toList.foldl (Un q) D=_ from ax];exact AS
   ·obtain rfl:k=H.length:=by have:¬k < H.length:=(by simpa using ah);omega
    refine Ay ?_;repeat(first|refine BC ?_|refine exO (by decide) ?_|refine asE ?_)
    refine exN ?_;repeat(first|refine abN ?_|refine asN ?_)
    have ay:(ks++[q]).foldl (Sm G) E0=D:=by
     rw[dV,<-hE,hD,gB,ak];rfl
    refine Ap ⟨ks++[q],⟨ap,U⟩,by rw[eM,eN,eR]at aa⊢;simp only[keysK,eQ]at aa;omega,?_⟩;try dsimp only
    rw[ay];exact AS
  ·obtain rfl:o=jA:=by cases o with|none=>rfl|some p=>cases J
   refine Ay ?_;refine co _ ?_;refine nT ?_;have N:E=H7 G out:=by
    rw[hE];unfold H7;rw[<-an];exact Alg G h0 av ho
   refine AJ _ (Jp (i:=1) (R':=EF (cH .i64) E m) V (λ_ h=>.inl h) (λ_ _ h=>by obtain⟨h0,left,cnt,h1,_⟩:=h;exact⟨h0,h1.owns⟩) V) ?_;refine nT ?_;rw[N];clear N aw ba al az hE ho J;refine wR ?_;refine Bt 3 V V V (λg=>(A2 (.bp (J7 Bc) G 0::A2 (.bp (RF (.map (jB m))) () 0::A7 (.lit (.pointer (jB ⟨g,0,jA⟩))::A80 (A20 (A10 (A7 [])))))))) (λg=>(by(repeat(first|exact OpnB.nil|refine OpnB.ptr ?_|refine OpnB.any ?_|refine OpnB.keep V ?_)))) λg=>?_
   refine AJ _ (J0 3 tInt (by decide)) ?_;refine nT ?_;refine wS ?_;refine sA ?_ (FK V) (Ar (Ar Gl));refine sT (wN ?_);refine Ab λdf ck=>?_
   refine Awp.label ?_;refine ck _ ?_;refine nT ?_;refine Ab λde cj=>?_
   refine Ad ?_;refine AH (λp:List (Int×Int)×List Int×cF=>⟨(A2 (.bp (J7 Bc) G 0::A2 (.bp (RF (.map (jB m))) () 0::A7 (.lit (.pointer (jB ⟨g,0,jA⟩))::Zc g m G::A80 (A20 (A10 (A6 []))))))),[.dead,.res (EF (cH .i64) p.1 m),.dead,.res (Be g [.lit p.2.2]),.res (rowR p.2.2 3 tInt p.2.1)]⟩) (λp=>OrdI G out p.1 p.2.1) (λp=>p.1.length) (H7 G out,[],.slice jA 0 0) (I7 B) (AS) ?_;rintro⟨E,l,v⟩ hI;have hI:OrdI G out E l:=hI;have am:E.length<=2147483648:=by have:=hI.len;omega
   have bg:l.length<=2147483648:=by have:=hI.len;omega
   refine Ab λdd ci=>?_
   refine wR (hx:=by((repeat(first|refine sA ?_ (AB V V V)|refine sA ?_ (Abo 1 V Tryz.underlying51 V V)|refine sA ?_|refine AN ?_|refine sAG ?_|refine Bp ?_));exact C1 V)) ?_;refine Ah V (λaf=>?_) (λaf=>?_)
   ·have bv:E.length≠0:=by have:(0:Int) < (E.length:Int):=(by simpa using af);omega
    refine Al ?_;refine ci _ ?_;refine nT ?_;refine Ad ?_;refine Ab λdc ch=>?_
    refine wR (hx:=by((repeat(first|refine sA ?_ (AB V V V)|refine sA ?_ (Cg V V)|refine sA ?_|refine AN ?_|refine sAG ?_|refine Bp ?_));exact C1 V)) ?_;refine Ad ?_;refine AH (λk:Nat=>⟨(A2 (.bp (J7 Bc) G 0::A2 (.bp (RF (.map (jB m))) () 0::A7 (.lit (.pointer (jB ⟨g,0,jA⟩))::Zc g m G::A40 (A20 (.any::.bs tInt G.regs::.lit (.int .i64 (G.regs.length:Int))::.lit (.int .i64 (k:Int))::A40 (A10 (A2 [])))))))),[.dead,.res (EF (cH .i64) E m),.dead,.res (Be g [.lit v]),.res (rowR v 3 tInt l)]⟩) (λk=>k<=G.regs.length/\∀j y,j < k->G.regs[j]? =jB y->Q3 G E y=aH) (λk=>G.regs.length - k) 0 ⟨i7 _,λj y h=>by omega⟩ (AS) ?_;rintro k ⟨hk,au⟩;refine wR ?_;refine Ab λdb cg=>?_
    refine Ah V (λae=>?_) (λae=>?_)
    ·have u:k < G.regs.length:=by simpa using ae
     obtain⟨r,O⟩:∃r,G.regs[k]? =jB r:=⟨_,eC u⟩
     have A:wfB .i64 r=aK:=B.regs r (fG O);have c1:(!((getK E r).isSome)||(wfB .i64 r))=aK:=by rw[A];simp
     refine Al ?_;refine cg _ ?_;refine nT ?_;refine Ab λda cf=>?_
     refine Ad ?_;refine wR ?_;refine wR (hx:=by((repeat(first|refine sA ?_ (AB V V V)|refine sA ?_ (Ik 1 V Tryz.underlying51 DY V V A V)|refine sA ?_|refine AN ?_|refine sAG ?_|refine Bp ?_));exact C1 V)) ?_;refine wS (sT (sT ?_));refine sGt V ?_;refine sGt V ?_;refine sG (g:=((getK E r).isSome)) (hg:=Kj V) (hq:=λhg=>Cg V ((As (As (Aq (Aq (Aq FF))))).trans (BG hg _ _))) (ht:=(Ar (Ar (Ao (Ao (Ao JB)))))) (hk:=?_);refine sGt V ?_;refine sGt V ?_;refine sGt V ?_;refine sG (g:=((getK E r).isSome)) (hg:=Kj V) (hq:=λhg=>Ck V bW ((As (As (Aq (Aq (Aq Iu))))).trans (BG hg _ _)) ((As (As (Aq (Aq (Aq GB))))).trans (BG hg _ _)) (Uq c1 hg)) (ht:=(Ar (Ar (Ar Gp)))) (hk:=?_);refine sGt V ?_;refine sGt V (sT (wN ?_));refine Ah V (λad=>?_) (λad=>?_)
     ·have I:LA G E=jB r:=by unfold LA;rw[Agp O ad au]
      obtain⟨bc,Z⟩:=hI.take I;refine wRK λcz bj=>?_
      refine sA ?_ (AT.move V (Aq Iu)) (Ar (Ar (Ar JB)));refine sA ?_ (AT.move V (Aq (Aq Je))) (Ar (Ar (Ar Gl)));refine JZ V (DF 4 1 (by decide) V V) ?_;refine JZ V (DF 3 4 (by decide) V V) ?_;refine AF V (Ir (i:=3) V V (As (As (As Hg))) (S5 G g m v l E r A hI.asc am bg (B.near r) (B.nearl r)) (λ_=>rfl) V V λv'=>?_);refine D2 ?_ (Ar (Ar (Ar HT)));refine Au (bj _ ?_);refine AJ _ (Fe 3 4 (by decide) V V) ?_;refine AJ _ (Fe 4 1 (by decide) V V) ?_;refine nT ?_;refine Ay ?_;repeat(first|refine BC ?_|refine exO (by decide) ?_|refine asE ?_)
      refine exN ?_;repeat(first|refine abN ?_|refine asN ?_)
      exact Ap ⟨(Kt G E r,l++[r],v'),bc,Z,AS⟩
     ·have X:Q3 G E r=aH:=ad;refine Al ?_;refine cf _ ?_;refine nT ?_;refine wRE ?_;refine Ap ⟨k+1,⟨u,λj y hj hy=>?_⟩,by omega,AS⟩;rcases iW j k with hj'|hj'
      ·exact au j y hj' hy
      ·obtain rfl:j=k:=by omega
       rw[O]at hy;cases hy;exact X
    ·refine Ay ?_;refine ch _ ?_;refine nT ?_;obtain rfl:k=G.regs.length:=by have:¬k < G.regs.length:=(by simpa using ae);omega
     have ar:G.regs.find? (Q3 G E)=jA:=Aqb au;have k1:=VA (GI (l:=G.cheap) (Ae (decide_eq_true (iU B.cheap (by decide))) (Ag _)));have c2:Fj (G.cheap.length+G.regs.length) 8=aK:=by
      have h1:=B.cheap;unfold Fj;simp only[zaf];unfold cY;omega
     obtain⟨L,hL⟩:∃L,L=G.cheap++G.regs:=⟨_,rfl⟩
     have ct:L.length<=2147483648:=by rw[hL,eM];have h1:=B.cheap;omega
     have bx:∀r∈L,Cl r:=λr O=>by
      rw[hL]at O;rcases eY.1 O with h|h
      ·exact B.cheapw r h
      ·exact B.regs r h
     refine AJ ⟨A2 (.bp (J7 Bc) G 0::A2 (.bp (RF (.map (jB m))) () 0::A7 (.lit (.pointer (jB ⟨g,0,jA⟩))::(Zc g m G)::A80 (A20 (A10 (A6 [])))))),[.dead,.res (EF (cH .i64) E m),.dead,.res (Be g [.lit v]),.res (rowR v 3 tInt l),.dead]⟩ (iN AS (KU 1 V)) ?_;refine Ab λcv bw=>?_
     refine P6 (n:=12) (λb=>⟨A2 (.bp (J7 Bc) G 0::A2 (.bp (RF (.map (jB m))) () 0::A7 (.lit (.pointer (jB ⟨g,0,jA⟩))::(Zc g m G)::A80 (A9 ((bif b 0 then .bp Bc G 0 else .any)::(bif b 1 then .bp Bc G 0 else .any)::(bif b 2 then .bp Bc G 5 else .any)::(bif b 3 then .bs tInt G.cheap else .any)::(bif b 4 then .own 5 0 else .any)::(bif b 5 then .bp Bc G 0 else .any)::(bif b 6 then .bp Bc G 0 else .any)::(bif b 7 then .bp Bc G 0 else .any)::(bif b 8 then .bs tInt G.regs else .any)::(bif b 9 then .own 5 (0+1)else .any)::(bif b 10 then .lit (.int .i64 ((G.cheap++G.regs).length:Int))else .any)::(bif b 11 then .lit (.int .i64 0)else .any)::A10 (A5 [])))))),[.dead,.res (EF (cH .i64) E m),.dead,.res (Be g [.lit v]),.res (rowR v 3 tInt l),(bif b 9 then .row (0+1) 3 tInt (G.cheap++G.regs)else(bif b 4 then .row 0 3 tInt G.cheap else .dead))]⟩) V (by kernel_rfl) (by kernel_rfl) ?_ (bw _ ?_)
     ·refine BQ (λb F c hc=>?_) ?_
      ·try dsimp only
       refine AY (AB V Gi V) ?_;exact iM
      refine BQ (λb F c hc=>?_) ?_
      ·have h0:b 0=aK:=c 0 _ V V;try dsimp only
       refine AY (Cg V ((As (As (As (Aq Je)))).trans (BG h0 _ _))) ?_;exact iM
      refine BQ (λb F c hc=>?_) ?_
      ·have h1:b 1=aK:=c 0 _ V V;try dsimp only
       refine AY (Co V ((As (As (As (Aq FG)))).trans (BG h1 _ _))) ?_;exact iM
      refine BQ (λb F c hc=>?_) ?_
      ·have h2:b 2=aK:=c 0 _ V V;try dsimp only
       refine AY (AB V ((As (As (As (Aq Gi)))).trans (BG h2 _ _)) V) ?_;exact iM
      refine BQ (λb F c hc=>?_) ?_
      ·have h3:b 3=aK:=c 0 _ V V;have h9:b 9=aH:=AW hc (i:=4) (j:=9) (k:=0) V V V V F;have u9:upd b 4 9=aH:=h9;try dsimp only
       refine Kq 5 V (Q4 ((As (As (As (Aq FF)))).trans (BG h3 _ _)) V) k1 (by decide) V (congrArg jB ((CO h9 _ _).trans (CO F _ _))) (by repeat(first|exact Ae5|refine Gw V ?_|refine Gw (NM V V) ?_|refine Gw (NM V (NM V V)) ?_|refine Gw (NM V (NM V (NM V V))) ?_)) (by repeat(first|exact Ae4|refine Fx V ?_|refine Fx (Atm F V) ?_|refine Fx (Atm h9 V) ?_|refine Fx (Azd V V) ?_)) ?_;simp only[CO u9];exact iM
      refine BQ (λb F c hc=>?_) ?_
      ·try dsimp only
       refine AY (AB V Gi V) ?_;exact iM
      refine BQ (λb F c hc=>?_) ?_
      ·have h5:b 5=aK:=c 0 _ V V;try dsimp only
       refine AY (Cg V ((As (As (As (Aq Fr)))).trans (BG h5 _ _))) ?_;exact iM
      refine BQ (λb F c hc=>?_) ?_
      ·have h6:b 6=aK:=c 0 _ V V;try dsimp only
       refine AY (Co V ((As (As (As (Aq Iu)))).trans (BG h6 _ _))) ?_;exact iM
      refine BQ (λb F c hc=>?_) ?_
      ·have h7:b 7=aK:=c 0 _ V V;try dsimp only
       refine AY (AB V ((As (As (As (Aq GB)))).trans (BG h7 _ _)) V) ?_;exact iM
      refine BQ (λb F c hc=>?_) ?_
      ·have h4:b 4=aK:=c 0 _ V V;have h8:b 8=aK:=c 1 _ V V;try dsimp only
       refine J6 V ((As (As (As (Aq Hg)))).trans (BG h4 _ _)) (congrArg jB ((CO F _ _).trans (Sn h4 _ _))) ((As (As (As (Aq (Aq Je))))).trans (BG h8 _ _)) V c2 ?_;exact iM
      refine BQ (λb F c hc=>?_) ?_
      ·have h9:b 9=aK:=c 0 _ V V;try dsimp only
       refine AY (Gf V ((As (As (As (Aq (Aq FG))))).trans (BG h9 _ _)) (congrArg jB (Sn h9 _ _))) ?_;exact iM
      refine BQ (λb F c hc=>?_) ?_
      ·try dsimp only
       refine AY (AT.move V Ys) ?_;exact iM
      exact Agd
     refine AJ ⟨A2 (.bp (J7 Bc) G 0::A2 (.bp (RF (.map (jB m))) () 0::A7 (.lit (.pointer (jB ⟨g,0,jA⟩))::(Zc g m G)::A80 (A9 (.bp Bc G 0::.bp Bc G 0::.bp Bc G 5::.bs tInt G.cheap::.own 5 0::.bp Bc G 0::.bp Bc G 0::.bp Bc G 0::.bs tInt G.regs::.own 5 (0+1)::.lit (.int .i64 ((G.cheap++G.regs).length:Int))::.lit (.int .i64 0)::A10 (A5 [])))))),[.dead,.res (EF (cH .i64) E m),.dead,.res (Be g [.lit v]),.res (rowR v 3 tInt l),.row (0+1) 3 tInt (G.cheap++G.regs)]⟩ iM ?_;refine Ad ?_;refine AH (λk:Nat=>⟨(A2 (.bp (J7 Bc) G 0::A2 (.bp (RF (.map (jB m))) () 0::A7 (.lit (.pointer (jB ⟨g,0,jA⟩))::Zc g m G::A80 (A10 (A8 (.own 5 1::.lit (.int .i64 (L.length:Int))::.lit (.int .i64 (k:Int))::A10 (A5 [])))))))),[.dead,.res (EF (cH .i64) E m),.dead,.res (Be g [.lit v]),.res (rowR v 3 tInt l),.row 1 3 tInt L]⟩) (λk=>k<=L.length/\∀j y,j < k->L[j]? =jB y->(getK E y).isSome=aH) (λk=>L.length - k) 0 ⟨i7 _,λj y h=>by omega⟩ (by rw[hL];exact AS) ?_;rintro k2 ⟨cq,Y⟩;refine wR ?_;refine Ab λcy ce=>?_
     refine Ah V (λac=>?_) (λac=>?_)
     ·have aq:k2 < L.length:=by simpa using ac
      obtain⟨r,O⟩:∃r,L[k2]? =jB r:=⟨_,eC aq⟩
      have A:wfB .i64 r=aK:=bx r (fG O);refine Al ?_;refine ce _ ?_;refine nT ?_;refine Ab λcx cd=>?_
      refine Ad ?_;refine wR ?_;refine wR (hx:=by((repeat(first|refine sA ?_ (AB V V V)|refine sA ?_ (Ik 1 V Tryz.underlying51 DY V V A V)|refine sA ?_|refine AN ?_|refine sAG ?_|refine Bp ?_));exact C1 V)) ?_;refine wR ?_;refine Ah V (λab=>?_) (λab=>?_)
      ·have I:LA G E=jB r:=by unfold LA;rw[ar,<-hL];exact Agp O ab Y
       obtain⟨bc,Z⟩:=hI.take I;refine wRK λcw bi=>?_
       refine sA (hq:=AT.move V (Aq Iu)) (ht:=(Ar (Ar (Ar (Ao (Ao (Ao HT))))))) (hk:=?_);refine sA (hq:=AT.move V (Aq (Aq Hg))) (ht:=(Ar (Ar (Ar (Ao (Ao (Ao G3))))))) (hk:=?_);refine JZ V (DF 4 1 (by decide) V V) ?_;refine JZ V (DF 3 4 (by decide) V V) ?_;refine AF V (Ir (i:=3) V V (As (As (As (Aq (Aq (Aq Iu)))))) (S5 G g m v l E r A hI.asc am bg (B.near r) (B.nearl r)) (λ_=>rfl) V V λv'=>?_);refine D2 ?_ (Ar (Ar (Ar (Ar Gp))));refine Au (bi _ ?_);refine AJ _ (Fe 3 4 (by decide) V V) ?_;refine AJ _ (Fe 4 1 (by decide) V V) ?_;refine nT ?_;refine Ay ?_;repeat(first|refine BC ?_|refine exO (by decide) ?_|refine asE ?_)
       refine exN ?_;repeat(first|refine abN ?_|refine asN ?_)
       exact Ap ⟨(Kt G E r,l++[r],v'),bc,Z,Kh (.cons (.cons (.cons (.cons (.cons (gX _))))))⟩
      ·have X:(getK E r).isSome=aH:=ab;refine Al ?_;refine cd _ ?_;refine nT ?_;refine wRE ?_;refine Ap ⟨k2+1,⟨aq,λj y hj hy=>?_⟩,by omega,AS⟩;rcases iW j k2 with hj'|hj'
       ·exact Y j y hj' hy
       ·obtain rfl:j=k2:=by omega
        rw[O]at hy;cases hy;exact X
     ·exfalso;obtain rfl:k2=L.length:=by have:¬k2 < L.length:=(by simpa using ac);omega
      obtain⟨x,hx⟩:=Aj5 bv;obtain⟨j,hj⟩:=fE.1 (show x∈L by rw[hL];exact fA _ (hI.inr x hx));have:=Y j x (eE.1 hj).1 hj;rw[hx]at this;cases this
   ·have hz:E.length=0:=by have:¬(0:Int) < (E.length:Int):=(by simpa using af);omega
    have bh:l=CR G out:=by have:=hI.eq;rw[hz]at this;exact this
    refine Ay ?_;refine cj _ ?_;refine nT ?_;refine wR (hx:=by((repeat(first|refine sA ?_ (AX (i:=3) (g:=g) V V V V V)|refine sA ?_|refine AN ?_|refine sAG ?_|refine Bp ?_));exact C1 V)) (hk:=?_);rw[<-bh];exact Aw ⟨.inr V,Amb 4 V⟩
end Mu
namespace Mu
end Mu
namespace Mu
open Go Go.RowKit Go.Proofs
theorem Axd{h:List gI}{a b:Bool}(e:a=b)(c:mkD h= []:=by rfl):Fin h (.lit (.bool a)) (.lit (.bool b)):=by subst e;exact g8 V c
noncomputable section
end
noncomputable section
end
end Mu
namespace Mu
open Go Go.RowKit Go.ChangeShapes Go.WideShapes Go.Proofs
section
variable{P:aZ}{C:Ctx}{t:List AV}{h:List gI}{o:aX}{K:St->Prop}
end
end Mu
namespace Mu
open Go Go.RowKit Go.Proofs
variable{l:List AV}
section
variable{P:aZ}{C:Ctx}{o:aX}{t:List AV}{h:List gI}
end
noncomputable section
end
def Nr(c:Int)(u:iB):M Bool:=iH ((aL (c < 0))||(aL (c≥u.regs)))
theorem Qr{c:Int}{u:iB}{r:Bool}(H:(Nr c u).to r):Fn bK 31 [.lit (.int .i64 c),.bp Dw u 0] (.lit (.bool r)):=by
 delta Nr at H;try dsimp only at H
 refine AR Tryz.func31 V (by kernel_rfl) V Tryz.ntmps31 λC z=>?_
 simp only[Nat.reduceAdd,Nat.reduceSub,zaa];refine wS (sT (wN ?_));refine wS (sT (sT (sT ?_)));refine sGf V ?_;refine sGf V ?_;refine sGf V ?_;refine sGf V (sT (sT (wN ?_)));obtain rfl:=Ac.1 H;exact Aw ⟨.inr V,g8 V⟩
theorem Ahs(l:List Int)(B:l.length<=2147483648)(f:aR)(c:List AV)(u:Bj c=aK)(p:Int->Bool)(A:∀x∈l,Fn bK f (.lit (.int .i64 x)::c) (.lit (.bool (p x)))):Fn bK 29 [.bs tInt l,.fn f c] (.lit (.bool (l.any p))):=by
 have z:gO (.fn f c)=aK:=by unfold gO;exact u
 have F:=Af5 l B f c u p A;refine AR Tryz.func29 V (by kernel_rfl) V Tryz.ntmps29 λC H=>?_
 simp only[Nat.reduceAdd,Nat.reduceSub,zaa];refine wR ?_;refine wR (hx:=by((repeat(first|refine sA ?_ (AT.call V F V (by show(true&&(AV.cl (.fn f c)&&true))=true;rw[z];rfl) V)|refine sA ?_|refine AN ?_|refine sAG ?_|refine Bp ?_));exact C1 V)) (hk:=?_);exact Aw ⟨.inr V,Axd Akr⟩
theorem Akf{h:List gI}{i:Nat}{f:iB}(hi:h[i]? =jB (.box (Ak f)))(u:okFunc f):NS h (.ptr i 0) (.bp Dw f 0):=
 .of (.box hi V λ_ _ _ _ _ _ c=>RP u c)
def Aj4(f:iB):Bool:=(((aL (f.regs < 0)||decide (f.regs > 4096))||decide (f.args < 0))||decide (f.args > (if(6:Int) < f.regs then 6 else f.regs)))
def IB(f:iB):Bool:=!Aj4 f&&!((regsB f).any λr=>decide (r < 0)||decide (r≥f.regs))
theorem Amw(f:iB)(z:FineF f)(A:(regsB f).length<=2147483648):Fn bK 11 [.agg (Ak f)] (.lit (.bool (IB f))):=by
 have F:=OM f z.ok z.small z.all;have u:=Ahs (regsB f) A 31 [.bp Dw f 0] V (λr=>decide (r < 0)||decide (r≥f.regs)) λr _=>Qr (Ag _)
 refine AR Tryz.func11 V (by kernel_rfl) V Tryz.ntmps11 λC B=>?_
 simp only[Nat.reduceAdd,Nat.reduceSub,zaa];refine wR ?_;refine Ab λH h2=>?_
 refine wR ?_;refine Ah V (λc=>?_) (λc=>?_)
 ·refine wR ?_;have e:IB f=aH:=by unfold IB;rw[show Aj4 f=aK from c];rfl
  rw[e];exact Aw ⟨.inr V,g8 V⟩
 ·refine Al ?_;refine h2 _ ?_;refine nT ?_;refine wR (hx:=by((repeat(first|refine sA (hq:=Dp V u (.cons (.cl V) (.cons (.fn (.cons (Akf V z.ok) .nil)) .nil))) (hk:=?_)|refine sA ?_|refine AN ?_|refine sAG ?_|refine Bp ?_));exact C1 V)) (hk:=?_);have e:IB f= !((regsB f).any λr=>decide (r < 0)||decide (r≥f.regs)):=by unfold IB;rw[show Aj4 f=aH from c];rfl
  rw[e];exact Aw ⟨.inr V,g8 V⟩
inductive Ones(h:List ABlk):List AV->Prop
 |nil:Ones h []
 |cons {x:AV} {l:List AV} (hx:One h x) (hl:Ones h l):Ones h (x::l)
theorem Ones.mem{h:List gI}(H:Ones h l):∀x∈l,One h x:=by
 induction H with
 |nil=>intro x hx;cases hx
 |cons hx _ c=>
  intro y hy;rcases fB.1 hy with rfl|hy
  ·exact hx
  ·exact c y hy
theorem Rv{h:List gI}(H:Ones h l):P0 h (.agg l) l:=P0.agg H.mem
theorem Abr{P:aZ}{C:Ctx}{t:List AV}{h:List gI}{o:aX}{ty:cE}{c:Array (Nat×aY)}{zs:List cF}{z:List (Nat×Nat)}{rs:List AV}[ZC P ty zs](F:o.op= .build ty c)(u:Ep P ty=jB z)
 (A:putCells z (zs.map .lit) (c.toList.map λp=>(p.1,evA t p.2))=jB rs)(h1:Ones h (c.toList.map λp=>evA t p.2)):AT P C t h o (.agg rs):=
 AT.build F ZC.eq u A λp B=>h1.mem _ (fF.2 ⟨p,B,rfl⟩)
end Mu
namespace Mu
open Go Go.RowKit Go.Proofs Go.Maps
def F6(k:Int)(c:List (Int×Int))(u:Int):M Bool:=iE (wfB .i64 k) (iH (((getK c k).isSome)&&(u ==((getK c k).getD 0))))
theorem Jl{k:Int}{u:List (Int×Int)}{c:Int}{r:Bool}(H:(F6 k u c).to r):Fn bK 95 [.lit (.int .i64 k),.bp tMapI u 0,.bp tInt c 0] (.lit (.bool r)):=by
 delta F6 at H;try dsimp only at H
 refine AR Tryz.func95 V (by kernel_rfl) V Tryz.ntmps95 λC z=>?_
 simp only[Nat.reduceAdd,Nat.reduceSub,zaa];refine wS (sT (wN ?_));obtain⟨c,H⟩:=Aj.1 H;refine wS (sT (sT ?_));refine sA ?_ (Km V bV (Aq Je) (Aq FG) c) (Ao Kf);refine sT (sT (sT (sT (sT (wN ?_)))));refine wS (sT (sT ?_));refine sGt V ?_;refine sGt V ?_;refine sGt V (sT (sT (wN ?_)));obtain rfl:=Ac.1 H;exact Aw ⟨.inr V,g8 V⟩
def freeP(at_:List (Int×Int))(p k:Int):Bool:=((getK at_ k).isSome)&&(p ==((getK at_ k).getD 0))
def Gn(G:gU)(at_:List (Int×Int))(r p:Int):Bool:=!((getK G.near r).getD []).any (freeP at_ p)
theorem Se(G:gU)(at_:List (Int×Int))(r p:Int)(u:Cl r)(z:Cl p)(A:∀k∈(getK G.near r).getD [],Cl k)(B:((getK G.near r).getD []).length<=2147483648):Fn bK 55 [.bp Bc G 0,.lit (.int .i64 r),.lit (.int .i64 p),.tv tMapI at_] (.lit (.bool (Gn G at_ r p))):=by
 have c:=Ahs ((getK G.near r).getD []) B 95 [.bp tMapI at_ 0,.bp tInt p 0] V (freeP at_ p) λk hk=>Jl (Ae (A k hk) (Ag _))
 refine AR Tryz.func55 V (by kernel_rfl) V Tryz.ntmps55 λC F=>?_
 simp only[Nat.reduceAdd,Nat.reduceSub,zaa];refine wR (hx:=by((repeat(first|(refine AF V (AOp.boxI 0 V V (P0.one (One.lit V)).weak ?_);refine sNt ?_)|(refine AF V (AOp.boxI 1 V V (P0.one (One.tv JM)).weak ?_);refine sNt ?_)|refine sA ?_|refine AN ?_|refine sAG ?_|refine Bp ?_));exact C1 V)) (hk:=?_);refine wR (hx:=by((repeat(first|refine sA ?_ (Cg V V)|refine sA ?_ (Ck V Tryz.underlying77 V V u)|refine sA (hq:=Dp V c (.cons (.cl V) (.cons (.fn (.cons (Rw V V .tv) (.cons (Rw V V (NS.int z)) .nil))) .nil))) (hk:=?_)|refine sA ?_|refine AN ?_|refine sAG ?_|refine Bp ?_));exact C1 V)) (hk:=?_);exact Aw ⟨.inr V,g8 V⟩
def E1(f:iB)(c:List (Int×Int)):(Int×(List Int))->M ((Int×(List Int))⊕((List Int))):=λ(x2,l4)=>iF (aL (x2 < ((fT (dB f.regs) (0:Int)).length:Int))) (iD (iE (Ch l4 x2) (iE (wfB .i64 x2) (iF ((getK c x2).isSome) (iE (Ch (l4.set (dB x2) (-1)) x2) (iE (wfB .i64 ((getK c x2).getD 0)) (iH ((l4.set (dB x2) (-1)).set (dB x2) ((getK c x2).getD 0))))) (iH (l4.set (dB x2) (-1)))))) λu=>iH (.inl (aS.wrap (x2+1),u))) (iH (.inr l4))
def If(f:iB)(c:List (Int×Int))(leaf:Bool)(slots:Int):M Plan:=iE (VO f.regs 8) (iD (iG (E1 f c) (0,fT (dB f.regs) (0:Int))) λu=>iH ⟨leaf,slots,u⟩)
theorem L7{f:iB}{c:List (Int×Int)}{leaf:Bool}{slots:Int}{r:Plan}(H:(If f c leaf slots).to r):Fn bK 27 [.agg (Ak f),.tv tMapI c,.lit (.bool leaf),.lit (.int .i64 slots)] (.agg (Cy r)):=by
 delta If at H;try dsimp only at H
 refine J3 Tryz.func27 V (by kernel_rfl) V (by kernel_rfl:Rn bK 29=jB (aK,3)) Tryz.ntmps27 λC hC=>?_
 simp only[Nat.reduceAdd,Nat.reduceSub,zaa];refine wS (sB (sA0 (wN ?_)));obtain⟨c1,H⟩:=Aj.1 H;refine wS (sT (sT (sT (sT ?_))));(refine AF V (P9 2 V (T:=tInt) (e:=3) (v:=.int .i64 0) (bytes:=8) (0:Int) V (by kernel_rfl) V (λ_ _=>⟨rfl,by decide⟩) V V c1 ?_);refine D2 ?_ (Ao (Ao Iz)));refine sA ?_ (Abr (rs:=[.lit (.bool leaf),.lit (.int .i64 slots),.own 2 0]) V Aer V (.cons (iK V) (.cons (iK V) (.cons (iL V) .nil)))) (Ao (Ao Kf));refine sA0 ?_;(refine AF V (CN V V V (Rv (.cons (iK V) (.cons (iK V) (.cons (iL V) .nil)))) V (iR V) ?_);refine D2 ?_ RG);refine wN ?_;obtain⟨z5,af,ae⟩:=An.1 H;refine Bh (β:=((List Int))×(Nat)) (λI=>z5=I.1) (λI=>⟨A8 (.ptr 1 0::.ptr 3 0::A20 (A10 (A3 []))),[.dead,.box [.lit (.bool aH),.lit (.int .i64 0),.lit (.slice jA 0 0)],.row I.2 3 tInt I.1,.box [.lit (.bool leaf),.lit (.int .i64 slots),.own 2 I.2]]⟩) ?_ ?_
 ·refine wS (sT (sT (sT (sT (wN ?_)))));refine Ad ?_;refine Bu af (λs5 b5=>⟨.any::.tv tMapI c::A6 (.ptr 1 0::.ptr 3 0::A10 (.any::.lit (.int .i64 ((fT (dB f.regs) (0:Int)).length:Int))::.lit (.int .i64 s5.1)::A20 [])),[.dead,.box [.lit (.bool aH),.lit (.int .i64 0),.lit (.slice jA 0 0)],.row b5 3 tInt s5.2,.box [.lit (.bool leaf),.lit (.int .i64 slots),.own 2 b5]]⟩) 0 (?_) ?_
  ·try dsimp only
   exact leC (gW (gV (gV (gV (gX _)))))
  ·rintro⟨X,l4⟩ Y x5 H ad;try dsimp only
   dsimp only[E1]at H;refine wS (sT (wN ?_));refine Ab λag aa=>?_
   refine Ah V (λB=>?_) (λB=>?_)
   ·have H:=AC B H;refine Al ?_;refine aa _ ?_;refine nT ?_;obtain⟨W,U,O⟩:=An.1 H;refine Bh (β:=((List Int))×(Nat)) (λu=>W=u.1) (λu=>⟨.any::.tv tMapI c::A6 (.ptr 1 0::.ptr 3 0::A10 (.any::.lit (.int .i64 ((fT (dB f.regs) (0:Int)).length:Int))::.lit (.int .i64 X)::A6 (.tup [.lit (.int .i64 ((getK c X).getD 0)),.lit (.bool ((getK c X).isSome))]::A10 (A3 [])))),[.dead,.box [.lit (.bool aH),.lit (.int .i64 0),.lit (.slice jA 0 0)],.row u.2 3 tInt u.1,.box [.lit (.bool leaf),.lit (.int .i64 slots),.own 2 u.2]]⟩) ?_ ?_
    ·have H:=U;refine Ad ?_;refine wS (sT (sT (wN ?_)));obtain⟨N,H⟩:=Aj.1 H;refine wS (sT (sT (sT ?_)));refine sA ?_ (Ca V (Aq (Aq (Aq Gi))) V (Aq (Aq (Aq FF))) V N) (Ao (Ao (Ao JB)));(refine AF V (Dt V V V (BS N) (iA (Acn (by decide))) V ?_);refine D2 ?_ RG);refine wN ?_;obtain⟨ac,H⟩:=Aj.1 H;refine wS (sT (sT ?_));refine sA ?_ (Km V bV (Aq (Aq (Aq Iu))) (Aq (Aq (Aq GB))) ac) (Ar Gp);refine sT (sT (sT (sT (sT (wN ?_)))));refine wS (sT (wN ?_));refine Ah V (λz=>?_) (λz=>?_)
     ·have H:=AC z H;obtain⟨L,H⟩:=Aj.1 H;obtain⟨ab,H⟩:=Aj.1 H;refine wSE (sT (sT (sT (sT ?_))));refine sA ?_ (Ca V (As Fr) V (As Iu) V L) (Ar (Ao Gp));(refine AF V (Dt V V V (BS L) (iA ab) V ?_);refine D2 ?_ RG);refine wN ?_;have F:=Ac.1 H;repeat(first|refine abN ?_|refine asN ?_)
      refine Ap ⟨(_,Y),F.symm,?_⟩;try dsimp only
      exact AS
     ·have H:=AE z H;refine Al ?_;have F:=Ac.1 H;repeat(first|refine abN ?_|refine asN ?_)
      refine Ap ⟨(_,Y),F.symm,?_⟩;try dsimp only
      exact AS
    ·rintro⟨ah,Z⟩ A;try dsimp only at A
     have H:=O;rw[A]at H;try dsimp only
     refine wSE (sT (sT (wN ?_)));have e5:=Ac.1 H;repeat(first|refine abN ?_|refine asN ?_)
     refine Ap ⟨_,Z,e5.symm,?_⟩;try dsimp only
     exact AS
   ·have H:=AE B H;refine Ay ?_;repeat(first|refine BC ?_|refine exO (by decide) ?_|refine asE ?_)
    refine exN ?_;have e5:=ad _ (Ac.1 H).symm;repeat(first|refine abN ?_|refine asN ?_)
    refine Ap ⟨(_,Y),e5.symm,?_⟩;try dsimp only
    exact AS
 ·rintro⟨l7,v6⟩ J;try dsimp only at J
  have H:=ae;rw[J]at H;try dsimp only
  refine wS (sT ?_);(refine AF V (CN V V V (Rv (.cons (iK V) (.cons (iK V) (.cons (iL V) .nil)))) V (iR V) ?_);refine D2 ?_ RG);refine wN ?_;obtain rfl:=Ac.1 H;refine AJ _ (YY hC 2 V (by(simp only[fzH,Eg,gP,gJ,eV,eX,Nat.reduceEqDiff,zal,zag];first|done|exact V)) (by(simp only[fzH,Eg,gP,gJ,eV,eX,Nat.reduceEqDiff,zal,zag];first|done|exact V))) ?_;exact Aw ⟨⟨.inr V,1,_,rfl,rfl,g8 V⟩,λi cells e1 e2=>by cases e1;cases e2;rfl⟩
end Mu
namespace Mu
open Go Go.RowKit
variable{N:Nat}{gf:aR}{lb:List AV}{Φ:Res->Prop}
def Aq1(P:aZ)(gf:aR)(lb:List AV)(Φ:Res->Prop)(encs:Nat->List AV)(N stop:Nat):Prop:=
 B9 P gf=aK/\∀(w:cI) (S:Nat->Prop) (ι:Type) (l:Nat) (c:Nat->ι->Res) (u:ι->Res),(∀k p,(c k p).mrk= [])->(∀p,(u p).mrk= [])->(∀k p,k < N->k < stop->PR P l S w.heap.size (c k p) (encs k) aK (c (k+1)))->(stop < N->∀p,PR P l S w.heap.size (c stop p) (encs stop) aH u)->
  ∀p vs,(∀k,S k->k < w.heap.size/\¬(c 0 p).F k)->(∀g,(c 0 p).F g->g < w.heap.size)->(c 0 p).R w S->Φ (c 0 p)->Af w S [] ψ0 lb vs->
   aN aO 3 P gf (#[cG (.yield l) #[] #[]]++vs.toArray) w λe w'=>(∃v,e= .returned v)/\Gr (λg=>(c 0 p).F g) w w'/\∃q S',(∀k,S k->S' k)/\(if stop < N then u q else c N q).R w' S'/\(∀k,S' k->k < w'.heap.size/\¬(if stop < N then u q else c N q).F k)/\(∀k,S' k->S k\/w.heap.size<=k)/\∀g,(if stop < N then u q else c N q).F g->((c 0 p).F g\/w.heap.size<=g)/\g < w'.heap.size
theorem Vy{P:aZ}{fn:aP}{c:Code}{encs:Nat->List AV}{stop n:Nat}(I:P.funcs[gf]? =jB fn)(hb:fn.body=jB c)(hE:B9 P gf=aK)(A:fn.results= #[])(X:fn.ntmps=n)(ac:Bj lb=aK)
 (h:∀(C:Ctx),C.rd=jA->∀(ι:Type) (l:Nat) (u:Nat->ι->Res) (z:ι->Res),(∀k p,(u k p).mrk= [])->(∀p,(z p).mrk= [])->(∀k p,k < N->k < stop->PR P l C.S0 C.w0.heap.size (u k p) (encs k) aK (u (k+1)))->(stop < N->∀p,PR P l C.S0 C.w0.heap.size (u stop p) (encs stop) aH z)->∀p,Φ (u 0 p)->(∀k,k < C.w0.heap.size->C.N k\/(u 0 p).F k)->
  Awp P C c (Aq0 (λq=>if stop < N then z q else u N q)) ⟨(.lit (.func (.yield l) #[] #[])::lb)++fT (n - (lb.length+1)) (.lit undef),[.res (u 0 p)]⟩):Aq1 P gf lb Φ encs N stop:=by
 refine⟨hE,λw S ι l u z hm Y hY ad p vs hS hF hR L F=>cP I hb trivial ?_⟩;rw[X];let N0:Nat->Prop:=λk=>k < w.heap.size/\¬(u 0 p).F k
 have hH:iC ⟨w,S,N0,jA⟩ [.res (u 0 p)] S ψ0 w:=by
  refine⟨Kp.refl _ _,λk hk=>hk.1,λk hk=>(hS k hk).1,λ_ h=>h,λ_ h=>.inl h,λi b hi=>?_,λi j ab hi hj g h1 h2=>?_⟩
  ·rcases i with _|i
   ·have:b= .res (u 0 p):=by simpa using hi.symm
    subst this;exact⟨λg hg=>⟨λX=>X.2 hg,λhs=>(hS g hs).2 hg,hF g hg⟩,hR⟩
   ·simp at hi
  ·rcases i with _|i
   ·rcases j with _|j
    ·exact ab V
    ·simp[gK]at hj
   ·simp[gK]at hi
 have O:vs.length=lb.length:=By F;have U:St.rel ⟨w,S,N0,jA⟩ ⟨(.lit (.func (.yield l) #[] #[])::lb)++fT (n - (lb.length+1)) (.lit undef),[.res (u 0 p)]⟩ {tmps:=(#[cG (.yield l) #[] #[]]++vs.toArray)++aD (n - (#[cG (.yield l) #[] #[]]++vs.toArray).size) undef,defers:=[]} w:=by
  refine⟨?_,S,ψ0,hH,?_⟩
  ·show []=mkD _;simp[mkD,gL,hm 0 p]
  ·have e:((#[cG (.yield l) #[] #[]]++vs.toArray)++aD (n - (#[cG (.yield l) #[] #[]]++vs.toArray).size) undef).toList=(cG (.yield l) #[] #[]::vs)++fT (n - (lb.length+1)) undef:=by
    simp[Nat.add_comm 1 vs.length,O]
   rw[e,show fT (n - (lb.length+1)) (AV.lit undef)=(fT (n - (lb.length+1)) undef).map AV.lit by simp];refine BK ?_ (FT _);unfold Af;exact⟨_,_,rfl,by unfold gQ;rfl,Bi _ _ ac F⟩
 have hw:=h ⟨w,S,N0,jA⟩ V ι l u z hm Y hY ad p L (λk hk=>(Classical.em ((u 0 p).F k)).elim .inr λI=>.inl ⟨hk,I⟩) _ w U;refine wpIn_mono (Ak0 (m:=3) hw) ?_;rintro e a' w' ⟨s,⟨he,q,h0,Z⟩,hd,S1,ψ,H,hl⟩;rw[Z]at hd;have hq:=H.blk 0 _ h0;obtain⟨JF,J⟩:∃JF:ι->Res,JF=λq=>if stop < N then z q else u N q:=⟨_,rfl⟩
 rw[<-J]at hq;have B:(∃v,Ending.returned (.tuple #[])= .returned v)/\Gr (λg=>(u 0 p).F g) w w'/\∃q S',(∀k,S k->S' k)/\(if stop < N then z q else u N q).R w' S'/\(∀k,S' k->k < w'.heap.size/\¬(if stop < N then z q else u N q).F k)/\(∀k,S' k->S k\/w.heap.size<=k)/\∀g,(if stop < N then z q else u N q).F g->((u 0 p).F g\/w.heap.size<=g)/\g < w'.heap.size:=by
  refine⟨⟨_,rfl⟩,⟨H.bel.os,H.bel.tape,H.bel.output,H.bel.size,λk hk W=>H.bel.block k ⟨hk,W⟩⟩,q,S1,H.sub,?_⟩;rw[show(if stop < N then z q else u N q)=JF q by rw[J]];refine⟨hq.2,λk hk=>⟨H.lt k hk,λI=>(hq.1 k I).2.1 hk⟩,H.new,λg hg=>⟨?_,(hq.1 g hg).2.2⟩⟩;have h1:=(hq.1 g hg).1;by_cases aa:g < w.heap.size
  ·by_cases h2:(u 0 p).F g
   ·exact .inl h2
   ·exact absurd ⟨aa,h2⟩ h1
  ·exact .inr (by show w.heap.size<=g;omega)
 rcases he with rfl|rfl
 ·exact⟨hd,_,results_none A _ _ _,B⟩
 ·exact⟨hd,_,results_none A _ _ _,B⟩
theorem Ahi{S u:Nat->Prop}{w:cI}{c:Loop}{hk:List gI}{R:Res}{Φ:cI->Prop}(j:Nat)(z:hk[j]? =jB (.res R))(A:∀W T,R.R W T->Φ W)(p:Ais):∀W T,(Als 0 S u w c hk p).R W T->Φ W:=λW T B=>by
 obtain⟨_,_,_,_,H,_⟩:=(show BetY 0 S u w c hk p.1 p.2.1 p.2.2 W T from B)
 exact A W _ (H.blk j _ z).2
section
variable{P:aZ}
theorem Abz{C:Ctx}{g:aY}{ps:Array Tmp}{assign body:Code}{Q:Exit->St->Prop}{t:List AV}{h:List gI}{stop:Nat}{encs:Nat->List AV}(xid:Nat)(σ:Nat->List gI)(τ:List gI)
 (hin:NF C)(hg:evA t g= .fn gf lb)(hcl:Bj lb=aK)(hmh:mkD h= [])
 (h0:Drops h (σ 0))(hmσ:∀k,mkD (σ k)= [])(hmτ:mkD τ= [])(ht:Bj t=aK)(hes:∀k,Bj (encs k)=aK)(hps:∀k,(encs k).length=ps.size)
 (hit:Aq1 P gf lb Φ encs N stop)(hΦ:∀S own0 w rec_ p,Φ (Als 0 S own0 w rec_ (σ 0) p))
 (hround:∀k,k < N->k < stop->∀C':Ctx,NF C'->Awp P C' assign (Kc (G4 P body jA (λ_:Unit=>σ (k+1))) (λ_ _=>False)) ⟨Nf t ps.toList (encs k),σ k⟩)
 (hstop:stop < N->∀C':Ctx,NF C'->Awp P C' assign (Kc (G4 P body (jB xid) (λ_:Unit=>τ)) (λ_ _=>False)) ⟨Nf t ps.toList (encs stop),σ stop⟩)
 (hdone:¬stop < N->Q .normal ⟨t,σ N⟩)(hleft:stop < N->Q (.exit xid) ⟨t,τ⟩):Awp P C (.rangeFunc g ps assign body) Q ⟨t,h⟩:=λa w ⟨hd,S,ψ,H,hl⟩=>by
 obtain⟨l0,r0,hrd,hNl0,hl00⟩:=hin;have hl0:w.heap[l0]? =jB (.loop r0):=(H.bel.block l0 hNl0).trans hl00;rw[hrd];have H0:=H.cut h0.cut h0.bd;have hgv:=Bw hl g;rw[hg]at hgv;unfold gQ at hgv;obtain⟨vc,hgv,hvc⟩:=hgv;have hvc:Af w S [] ψ0 lb vc:=Bi _ _ hcl hvc;have hlit:Af w S [] ψ0 t a.tmps.toList:=Bi _ _ ht hl;have hdn:a.defers= []:=hd.trans hmh;obtain⟨own0,hown0⟩:∃o,o=owns (σ 0) ψ:=⟨_,rfl⟩
 have ho0:∀g,own0 g->g < w.heap.size:=λg hg=>by rw[hown0]at hg;exact(H0.own_lt hg).2.1
 have hSo:∀g,S g->¬own0 g:=λg hg ho=>by rw[hown0]at ho;exact(H0.own_lt ho).2.2 hg
 refine wpIn_rangeFunc λfn _=>?_
 obtain⟨rec_,hrec⟩:∃rec_:LoopState->Option Code->Loop,rec_=λst pe=>{state:=st,pending:=pe,fn,tmps:=a.tmps,params:=ps,assign,body,defers:=r0.defers}:=⟨_,rfl⟩
 have hst:∀x z y,({rec_ x z with state:=y}:Loop)=rec_ y z:=λx z y=>by rw[hrec]
 have hrst:∀z,(rec_ .ready z).state= .ready:=λz=>by rw[hrec]
 have hen:∀x z y u,({rec_ x z with state:=y,pending:=u}:Loop)=rec_ y u:=λx z y u=>by rw[hrec]
 obtain⟨W1,hW1⟩:∃W1,W1=w.alloc (.loop (rec_ .ready jA)):=⟨_,rfl⟩
 have hW1s:W1.heap.size=w.heap.size+1:=by rw[hW1];simp
 have hL1:W1.heap[w.heap.size]? =jB (.loop (rec_ .ready jA)):=by rw[hW1];exact cV w _
 have hb1:Below w.heap.size w W1:=by rw[hW1];exact(cA _ w).alloc (iT _) _
 have hJ0:BetY 0 S own0 w (rec_ .ready jA) (σ 0) S ψ (λ_=>False) W1 S:=by
  refine⟨hL1,λ_ h=>absurd h (Nat.not_lt_zero _),by omega,λg hg=>hb1.block g (H.lt g hg),?_,λ_ h=>h,λ_ h=>.inl h,λg hg=>.inl (by rw[hown0];exact hg),λ_ h=>.inr h⟩;exact H0.re (λk hk=>hb1.block k (H.lt k hk)) (λk hk=>hb1.block k (H0.own_lt hk).2.1) _ (λ_ h=>h.elim) jA
 have rnd:∀(k:Nat) (jump:Option Nat) (h':List gI),(∀C':Ctx,NF C'->Awp P C' assign (Kc (G4 P body jump (λ_:Unit=>h')) (λ_ _=>False)) ⟨Nf t ps.toList (encs k),σ k⟩)->∀p:Unit×Ais,
  PR P w.heap.size S W1.heap.size (Als 0 S own0 w (rec_ .ready jA) (σ k) p.2) (encs k) jump.isNone (λp:Unit×Ais=>Als 0 S own0 w (rec_ (if jump.isNone then .ready else .done) (jump.map Code.exit)) h' p.2):=by
  intro k jump h' hA p W SI vs hI1 hI2 hI3 hFlt hB hev;have hB:BetY 0 S own0 w (rec_ .ready jA) (σ k) p.2.1 p.2.2.1 p.2.2.2 W SI:=hB;have hvl:vs.length=ps.size:=by rw[By hev,hps]
  have hy:=run_yield (P:=P) (args:=vs.toArray) hB.loop (by rw[hrec];simpa using hvl);have hR:=XR (J:=Unit) (d:=0) (P:=P) (fn:=fn) (ps:=ps) (tmps:=a.tmps) (body:=body) (p:=p.2) jump hst hrst hen ho0 H.lt ht (hes k) hlit hev (hmσ k) hI1 (λg hg=>by have:=hI2 g hg;rw[hW1s]at this;exact this) hI3 hB hA;have e1:((rec_ .ready jA).params.zip vs.toArray).foldl (λtmps (t,a)=>tmps.setIfInBounds t a) (rec_ .ready jA).tmps=(ps.toList.zip vs).foldl (λt p=>t.setIfInBounds p.1 p.2) a.tmps:=by
   rw[hrec,<-Array.foldl_toList,Array.toList_zip]
  rw[e1]at hy;rw[show(rec_ .ready jA).fn=fn by rw[hrec],show(rec_ .ready jA).assign=assign by rw[hrec],show(rec_ .ready jA).body=body by rw[hrec]]at hy;exact⟨fn,_,assign,body,hy,hR⟩
 refine⟨w.heap.size,[],W1,{target:=.fn (.func gf) vc.toArray,args:=#[.func (.yield w.heap.size) #[] #[]]},W1,gf,#[.func (.yield w.heap.size) #[] #[]]++vc.toArray,W1,?_,?_,λ_ _=>trivial,?_,λ_=>by omega,?_⟩
 ·rw[hW1,hrec];exact run_enterLoop_inner hl0 _ _ _ _ _
 ·simp only[resolve,hgv];simp[go_sem]
 ·simp[invoke,go_sem,Px hit.1]
 ·have key:=hit.2 W1 S (Unit×Ais) w.heap.size (λk p=>Als 0 S own0 w (rec_ .ready jA) (σ k) p.2) (λp=>Als 0 S own0 w (rec_ .done (jB (.exit xid))) τ p.2) (λ_ _=>rfl) (λ_=>rfl) ?_ ?_ ((),S,ψ,λ_=>False) vc (λk hk=>⟨by have:=H.lt k hk;omega,?_⟩) (λg hg=>?_) hJ0 (hΦ _ _ _ _ _) (Az (gY [] ψ0 (λk hk=>hb1.block k (H.lt k hk)) λ_ h=>h) _ _ hvc)
  ·refine(show aN (fnc (jB l0)) 3 P gf _ W1 _ from key).mono ?_;rintro e W' ⟨⟨v,rfl⟩,hgr,⟨_,q⟩,S',hSS,hJ,hS'lt,hS'new,hFq⟩;have fin:∀(hk:List gI) (rc:Loop),mkD hk= []->rc.state≠.busy->BetY 0 S own0 w rc hk q.1 q.2.1 q.2.2 W' S'->∀(W5:cI) (ob:Obj),W5=W'.putObj w.heap.size ob->St.rel C ⟨t,hk⟩ {a with defers:=[]++a.defers} W5:=by
    intro hk rc hmk _ hJ W5 ob hW5;obtain⟨hlp,_,hsz,hsame,Hk,hs1,hs2,hs3,_⟩:=hJ;have hot:∀g,g≠w.heap.size->W5.heap[g]? =W'.heap[g]?:=λg hg=>by rw[hW5];exact World.putObj_heap_other hg
    have hsz5:W5.heap.size=W'.heap.size:=by rw[hW5];simp
    have hSne:∀g,q.1 g->g≠w.heap.size:=λg hg=>by
     rcases hs2 g hg with h1|h1
     ·have:=H.lt g h1;omega
     ·omega
    have hOne:∀g,owns hk q.2.1 g->g≠w.heap.size:=λg hg=>by
     rcases hs3 g hg with h1|h1
     ·have:=ho0 g h1;omega
     ·omega
    have hkeep:∀g,g < w.heap.size->¬own0 g->W5.heap[g]? =w.heap[g]?:=λg h1 h2=>by
     rw[hot g (by omega),hgr.block g (by omega) ?_,hb1.block g h1];intro h4;have h4:(w.heap.size<=g/\g<=w.heap.size+0)\/owns (σ 0) ψ g\/False:=h4;rcases h4 with h4|h4|h4
     ·omega
     ·exact h2 (by rw[hown0];exact h4)
     ·exact h4
    have hH5:=Hk.re (W':=W5) (λk hk=>hot k (hSne k hk)) (λk hk=>hot k (hOne k hk)) (λ_=>False) (λ_ h=>h.elim) jA;have hkp5:Kp C.N w W5:=⟨by rw[hW5];exact hgr.os.trans hb1.os,by rw[hW5];exact hgr.tape.trans hb1.tape,by rw[hW5];exact hgr.output.trans hb1.output,by omega,λk hk=>hkeep k (iV (H.nlt k hk) H.bel.size) λho=>by rw[hown0]at ho;exact(H0.own_lt ho).1 hk⟩
    have hH6:iC C hk q.1 q.2.1 W5:=hH5.to (H.bel.trans hkp5) H.nlt (λk hk=>hs1 k (H.sub k hk)) (λk hk=>by
     rcases hs2 k hk with h1|h1
     ·exact H.new k h1
     ·right;have:=H.bel.size;omega) λg hg hn=>by
      rcases hs3 g hg with h1|h1
      ·rw[hown0]at h1;exact(H0.own_lt h1).1 hn
      ·have:=H.nlt g hn;have:=H.bel.size;omega
    refine⟨?_,q.1,q.2.1,hH6,?_⟩
    ·show []++a.defers=mkD hk;rw[hdn,hmk];rfl
    ·exact Bi _ _ ht (Az (gY [] ψ0 (λk hk=>(hot k (by have:=H.lt k hk;omega)).trans (hsame k hk)) hs1) _ _ hlit)
   by_cases hsN:stop < N
   ·rw[if_pos hsN]at hJ;have hJ:BetY 0 S own0 w (rec_ .done (jB (.exit xid))) τ q.1 q.2.1 q.2.2 W' S':=hJ;have hend:=run_endLoop (P:=P) hJ.loop (by rw[hrec];simp);rw[show(rec_ .done (jB (Code.exit xid))).pending=jB (.exit xid)by rw[hrec]]at hend;refine⟨jB (.exit xid),_,hend,?_⟩;exact wpIn_exit ⟨⟨t,τ⟩,hleft hsN,fin τ _ hmτ (by rw[hrec];simp) hJ _ _ V⟩
   ·rw[if_neg hsN]at hJ;have hJ:BetY 0 S own0 w (rec_ .ready jA) (σ N) q.1 q.2.1 q.2.2 W' S':=hJ;have hend:=run_endLoop (P:=P) hJ.loop (by rw[hrec];simp);rw[show(rec_ .ready jA).pending=jA by rw[hrec]]at hend;exact⟨jA,_,hend,⟨t,σ N⟩,hdone hsN,fin (σ N) _ (hmσ N) (by rw[hrec];simp) hJ _ _ V⟩
  ·exact λk p hkN hks=>rnd k jA _ (hround k hkN hks) p
  ·exact λhsN p=>rnd stop (jB xid) _ (hstop hsN) p
  ·intro hf;have hf:(w.heap.size<=k/\k<=w.heap.size+0)\/owns (σ 0) ψ k\/False:=hf;have:=H.lt k hk;rcases hf with hf|hf|hf
   ·omega
   ·exact hSo k hk (by rw[hown0];exact hf)
   ·exact hf
  ·have hg:(w.heap.size<=g/\g<=w.heap.size+0)\/owns (σ 0) ψ g\/False:=hg;rcases hg with hg|hg|hg
   ·omega
   ·have:=(H0.own_lt hg).2.1;omega
   ·exact hg.elim
end
open Go.Proofs
variable{k:Nat}{ll:List (List Int)}{x:List Int}
theorem Vn{C:Ctx}{R:Res}(U:∀k,k < C.w0.heap.size->C.N k\/R.F k){t:List AV}{h:List gI}(i j r:Nat){ver:Nat}{e:cE}{α:Type}{T:Ty α}{l:List α}(z:i≠r)(c:h[r]? =jB (.res R))(hi:h[i]? =jB (.row ver e T l))(J:t[j]? =jB (.own i ver)):St.le C ⟨t,h⟩ ⟨t.set j (.bs T l),h.set i .dead⟩:=
 Hs i j hi V V J (λS ψ w H k hk=>iS λA=>(U k A).elim ((H.blk i _ hi).lt V k hk).1 λL=>H.dis i r z (by rw[hi];rfl) (by rw[c];rfl) k (by rw[hi];exact hk) (by rw[c];exact L)) λS ψ w v H B=>by
  obtain⟨cells,I,X,F,W⟩:=H.blk i _ hi;unfold gQ at B;have u:=(B.2 _ (by rw[hi];rfl)).2 V;unfold gQ;rw[u];exact CY I (λi d O=>T.keepS (F i d O) (λ_ _=>rfl) λk hk=>.inl hk) λq hq=>.inr (AU hq)
theorem Axp{n m:Nat}(c:n+m < 9223372036854775808):It .add .i64 (n:Int) (m:Int)=jB (.int .i64 ((n+m:Nat):Int)):=by
 unfold It;simp only;rw[aT _ (by omega)];rfl
theorem Agc(n:Nat)(J:n<=5000000000):Jv bK 116 [.lit (.slice jA 0 0),.lit (.int .i64 (n:Int))] 3 tInt []:=by
 have I:It .sub .i64 ((0:Nat):Int) ((0:Nat):Int)=jB (.int .i64 ((0:Nat):Int)):=rfl;have H:It .sub .i64 (n:Int) ((0:Nat):Int)=jB (.int .i64 (n:Int)):=by
  unfold It;simp only;rw[aT _ (by omega)];simp
 have B:n<=cY:=by unfold cY;omega
 have A:n * 8<=140737488355328:=by omega
 refine Ef Tryz.func116 V (by kernel_rfl) V Tryz.ntmps116 Ym λC L=>?_
 simp only[Nat.reduceAdd,Nat.reduceSub,zaa];refine wR ?_;refine Ab λU h2=>?_
 refine wR ?_;refine Ah V (λz=>?_) (λz=>?_)
 ·have:=of_decide_eq_true z;omega
 ·refine Al ?_;refine h2 _ ?_;refine nT ?_;refine Ab λO F=>?_
  refine wR (hx:=by((repeat(first|refine sA ?_ (Vu V V)|refine sA ?_|refine AN ?_|refine sAG ?_|refine Bp ?_));exact C1 V)) ?_;refine wR ?_;refine Ah V (λu=>?_) (λu=>?_)
  ·have c:0 < n:=by have:=of_decide_eq_true u;omega
   refine wRE (hx:=by((repeat(first|refine sA ?_ (Vu V V)|refine sA ?_ (Vp V V V)|(refine AF V (Ami (kk:=.i64) (by kernel_rfl) V V V c B A ?_);refine sNt ?_)|(refine AF V (M7 (m:=0) V V V V ⟨_,rfl⟩ (Nat.zero_le _) ?_);refine sNt ?_)|refine sA ?_|refine AN ?_|refine sAG ?_|refine Bp ?_));exact C1 V)) (hk:=?_);refine F _ ?_;refine nT ?_;refine wR ?_;exact Aw ⟨.inr V,rfl,0,1,rfl,rfl⟩
  ·refine Al ?_;refine F _ ?_;refine nT ?_;refine wR ?_;refine AJ _ (CB 4 3 tInt V (by decide)) ?_;exact Aw ⟨.inr V,rfl,0,0,rfl,rfl⟩
def Ka(ll:List (List Int)):Nat:=(ll.map eL).sum
theorem Q9(h:ll[k]? =jB x):Ka (ll.take (k+1))=Ka (ll.take k)+x.length:=by
 unfold Ka;rw[fW,h];simp
theorem Q8(ll:List (List Int))(k:Nat):Ka (ll.take k)<=Ka ll:=by
 unfold Ka
 conv=>rhs;rw[<-fX k ll]
 rw[eU,List.sum_append];omega
theorem Aae(h:ll[k]? =jB x):(ll.take (k+1)).flatten=(ll.take k).flatten++x:=by
 rw[fW,h];simp
theorem Agl(ll:List (List Int)):ll.flatten.length=Ka ll:=by
 unfold Ka;rw[List.length_flatten]
theorem WU(ll:List (List Int))(hl:ll.length<=2147483648)(ht:Ka ll<=5000000000):Jv bK 94 [.bs tInt.slice ll] 3 tInt ll.flatten:=by
 have O:=Agc (Ka ll) (by omega);refine Ef Tryz.func94 V (by kernel_rfl) V Tryz.ntmps94 Ym λC hC=>?_
 simp only[Nat.reduceAdd,Nat.reduceSub,zaa];refine wR ?_;refine wR ?_;refine Ab λK3 h3=>?_
 refine wR ?_;refine Ad ?_;refine AH (λk:Nat=>⟨(.bs tInt.slice ll::A2 (.lit (.int .i64 (Ka (ll.take k):Int))::A5 (.bs tInt.slice ll::.lit (.int .i64 (ll.length:Int))::.lit (.int .i64 (k:Int))::A20 (A4 [])))),[]⟩) (λk=>k<=ll.length) (λk=>ll.length - k) 0 (i7 _) (by rw[show Ka (ll.take 0)=0 by rw[gG];rfl];exact AS) ?_;intro k hk;refine wR ?_;refine Ab λK7 h7=>?_
 refine Ah V (λA=>?_) (λA=>?_)
 ·have z:k < ll.length:=by simpa using A
  obtain⟨x,hx⟩:∃x,ll[k]? =jB x:=⟨_,eC z⟩
  have B:=Q9 hx;have I:=Q8 ll (k+1);have Z:It .add .i64 (Ka (ll.take k):Int) (x.length:Int)=jB (.int .i64 (Ka (ll.take (k+1)):Int)):=by
   rw[B];exact Axp (by omega)
  refine Al ?_;refine h7 _ ?_;refine nT ?_;refine Ab λK9 h9=>?_
  refine Ad ?_;refine wR ?_;refine wR ?_;refine wR ?_;refine Ah V (λu=>?_) (λu=>?_)
  ·have:=of_decide_eq_true u;omega
  ·refine Al ?_;refine h9 _ ?_;refine nT ?_;refine wRE ?_;refine Ap ⟨k+1,by omega,by omega,AS⟩
 ·refine Ay ?_;refine h3 _ ?_;refine nT ?_;have J:k=ll.length:=by have:¬k < ll.length:=(by simpa using A);omega
  have H:Ka (ll.take k)=Ka ll:=by rw[J,gB]
  rw[H];refine wR (hx:=by((repeat(first|(refine AF V (Lb V O (by decide) V V ?_);refine sNt ?_)|refine sA ?_|refine AN ?_|refine sAG ?_|refine Bp ?_));exact C1 V)) (hk:=?_);refine Ab λae Y=>?_
  refine wR ?_;refine Ad ?_;refine AH (λp:Nat×Nat=>⟨(A6 (.own 0 p.2::A10 (A8 (.bs tInt.slice ll::.lit (.int .i64 (ll.length:Int))::.lit (.int .i64 (p.1:Int))::A8 [])))),[.row p.2 3 tInt (ll.take p.1).flatten]⟩) (λp=>p.1<=ll.length) (λp=>ll.length - p.1) (0,0) (i7 _) (AS) ?_;rintro⟨j,ver⟩ hj;dsimp only at hj⊢;refine wR ?_;refine Ab λad X=>?_
  refine Ah V (λc=>?_) (λc=>?_)
  ·have z:j < ll.length:=by simpa using c
   obtain⟨x,hx⟩:∃x,ll[j]? =jB x:=⟨_,eC z⟩
   have B:=Q9 hx;have I:=Q8 ll (j+1);have U:=Agl (ll.take j);have F:=Aae hx;generalize (ll.take j).flatten=F0 at U F⊢;have ab:F0.length+x.length<=cY:=by unfold cY;omega
   have aa:(F0.length+x.length) * 8<=140737488355328:=by omega
   refine Al ?_;refine X _ ?_;refine nT ?_;refine Ab λac W=>?_
   refine Ad ?_;refine wR ?_;refine wRE ?_;refine W _ ?_;refine nT ?_;refine wRE ?_;refine Ap ⟨(j+1,ver+1),by dsimp only;omega,by dsimp only;omega,?_⟩;dsimp only;rw[F];exact AS
  ·refine Ay ?_;refine Y _ ?_;refine nT ?_;refine wR ?_;have L:j=ll.length:=by have:¬j < ll.length:=(by simpa using c);omega
   refine Aw ⟨.inr V,rfl,0,ver,rfl,?_⟩;rw[L,gB];rfl
open Go.Maps
variable{A:List (Int×Int)}{G:gU}{L c:List Int}{k:Nat}{out:List (Int×Int)}{p r x:Int}
abbrev XG(G:gU)(r:Int)(m:Nat):AV:=.fn 93 [.bp (J7 Bc) G 0,.bp tInt r 0,.bp (RF (.map (jB m))) () 0]
theorem Aiw(G:gU)(r:Int)(m:Nat)(z:Cl r):Fn bK 54 [.bp Bc G 0,.lit (.int .i64 r),.lit (.map (jB m))] (XG G r m):=by
 refine AR Tryz.func54 V (by kernel_rfl) V Tryz.ntmps54 λC u=>?_
 simp only[Nat.reduceAdd,Nat.reduceSub,zaa];refine wR (hx:=by((repeat(first|(refine AF V (AOp.boxI 0 V V (P0.one One.bp).weak ?_);refine sNt ?_)|(refine AF V (AOp.boxI 1 V V (P0.one (One.lit V)).weak ?_);refine sNt ?_)|(refine AF V (AOp.boxI 2 V V (P0.one (One.lit V)).weak ?_);refine sNt ?_)|refine sA ?_|refine AN ?_|refine sAG ?_|refine Bp ?_));exact C1 V)) (hk:=?_);refine AJ _ (EN u 0 3 V V Y1.bp) ?_;refine AJ _ (EN u 1 4 V V (Y1.int z)) ?_;refine AJ _ (EN u 2 5 V V (Y1.lit (v:=.map (jB m)) V)) ?_;refine nT ?_;refine wR (hx:=by((repeat(first|refine sA ?_ (FK V)|refine sA ?_|refine AN ?_|refine sAG ?_|refine Bp ?_));exact C1 V)) ?_;exact Aw ⟨.inr V,g8 V⟩
instance Aw5:RT bK 66 27 1 24:=⟨by kernel_rfl⟩
def SV(G:gU)(at_:List (Int×Int))(r:Int):List Int:=((getK G.moves r).getD []).filterMap (getK at_)
def Y9(G:gU)(at_:List (Int×Int))(r:Int):List Int:=((getK G.likes r).getD [])++SV G at_ r++((getK G.cls r).getD [])
def D6(G:gU)(at_:List (Int×Int))(r:Int):List Int:=(Y9 G at_ r).filter λp=>((getK G.cls r).getD []).contains p
def Qu(c L:List Int)(k:Nat):Nat:=((L.take k).filter λp=>c.contains p).length
theorem Alh(hx:L[k]? =jB x)(hc:c.contains x=aK):Qu c L (k+1)=Qu c L k+1/\(L.filter λp=>c.contains p)[Qu c L k]? =jB x:=by
 constructor
 ·unfold Qu;rw[fW,hx,dO,eM];rw[show(jB x).toList= [x]from V,dP,if_pos hc];rfl
 ·have e:L=L.take k++x::L.drop (k+1):=by
   have h1:=(eE.1 hx)
   obtain⟨h2,u⟩:=h1;rw[<-u,List.getElem_cons_drop,fX]
  unfold Qu
  conv=>lhs;rw[e]
  rw[dO,dP,hc];have h2:k<=L.length:=Nat.le_of_lt (eE.1 hx).1;rw[show(L.take k++x::L.drop (k+1)).take k=L.take k by rw[<-e]];simp
theorem Aqo(hx:L[k]? =jB x)(hc:c.contains x=aH):Qu c L (k+1)=Qu c L k:=by
 unfold Qu;rw[fW,hx,dO,eM];rw[show(jB x).toList= [x]from V,dP,if_neg (by rw[hc];simp)];rfl
theorem YJ(c L:List Int):Qu c L L.length=(L.filter λp=>c.contains p).length:=by
 unfold Qu;rw[gB]
theorem Qz{C:Ctx}{t:List AV}{h:List gI}{o:aX}{ty e:cE}{x y:aY}{m:Nat}{k:Int}{R:Res}{l:List (Int×Int)}(i:Nat)(F:o.op= .lookup ty x y aK)(u:bK.underlying ty=jB (.map 3 e))(z:∀w,(zeroValue e).run bK w= .ok (.int .i64 0) w)(hx:evA t x= .lit (.map (jB m)))(B:evA t y= .lit (.int .i64 k))(hk:wfB .i64 k=aK)(hi:h[i]? =jB (.res R))(H:Al7 R m (mapK (cH .i64) l)):
 AT bK C t h o (.tup [.lit (.int .i64 ((getK l k).getD 0)),.lit (.bool (getK l k).isSome)]):=by
 have h1:=Il (C:=C) i F u z hx B hk hi H;rw[CC]at h1;cases hg:getK l k with
 |none=>rw[hg]at h1;exact h1
 |some v=>rw[hg]at h1;exact h1
structure OkT(G:CGraph)(at_:List (Int×Int))(r:Int):Prop where
 rw:Cl r
 moves:∀k∈(getK G.moves r).getD [],Cl k
 movesl:((getK G.moves r).getD []).length<=1073741824
 likes:∀k∈(getK G.likes r).getD [],Cl k
 likesl:((getK G.likes r).getD []).length<=1073741824
 cls:∀k∈(getK G.cls r).getD [],Cl k
 clsl:((getK G.cls r).getD []).length<=1073741824
 at_:∀k v,getK at_ k=some v->Cl v
theorem Za(G:gU)(at_:List (Int×Int))(r:Int)(m stop:Nat)(hO:OkT G at_ r):Aq1 bK 93 [.bp (J7 Bc) G 0,.bp tInt r 0,.bp (RF (.map (jB m))) () 0] (λR=>Al7 R m (mapK (cH .i64) at_)) (λk=>[.lit (.int .i64 ((D6 G at_ r).getD k 0))]) (D6 G at_ r).length stop:=by
 have hr:wfB .i64 r=aK:=hO.rw;obtain⟨B,ac⟩:∃B,B=(getK G.moves r).getD []:=⟨_,rfl⟩
 have bb:B.length<=1073741824:=by rw[ac];exact hO.movesl
 have ai:∀k∈B,Cl k:=by rw[ac];exact hO.moves
 obtain⟨cl,F⟩:∃cl,cl=(getK G.cls r).getD []:=⟨_,rfl⟩
 have am:cl.length<=1073741824:=by rw[F];exact hO.clsl
 obtain⟨L,hL⟩:∃L,L=Y9 G at_ r:=⟨_,rfl⟩
 have hN:D6 G at_ r=L.filter λp=>cl.contains p:=by rw[hL,F];rfl
 have bc:(SV G at_ r).length<=1073741824:=iU (eO _ _) hO.movesl;have bf:L.length<=3221225472:=by
  rw[hL];unfold Y9;rw[eM,eM];have h1:=hO.likesl;have h2:=hO.clsl;omega
 have H:=(WU [(getK G.likes r).getD [],SV G at_ r,cl] (by show 3<=2147483648;decide) (by
  have h1:=hO.likesl;show([((getK G.likes r).getD []).length,(SV G at_ r).length,cl.length]:List Nat).sum<=5000000000;simp only[List.sum_cons,List.sum_nil];omega)).fn
 have ay:([(getK G.likes r).getD [],SV G at_ r,cl]:List (List Int)).flatten=L:=by
  rw[hL,F];unfold Y9;simp
 rw[ay]at H;refine Vy Tryz.func93 V (by kernel_rfl) V Tryz.ntmps93 V λC ag ι l Jr Jx hm ah hY aw p ap af=>?_
 simp only[Nat.reduceAdd,Nat.reduceSub,zaa];refine wR ?_;refine Ab λK2 h2=>?_
 refine wD 8 (hq:=by((repeat(first|refine qA ?_ (AB V V V)|refine qA ?_ (Cg V V)|refine qA ?_ (Ck V Tryz.underlying77 V V hr)|refine qA ?_|refine G8 ?_|refine qAG (hk:=?_)));exact Ath V)) (hx:=by((repeat(first|refine sA ?_ (AB V V V)|refine sA ?_ (Cg V V)|refine sA ?_ (Ck V Tryz.underlying77 V V hr)|refine sA ?_|refine AN ?_|refine sAG ?_|refine Bp ?_));exact C1 V)) (hk:=?_);refine Ad ?_;refine AJ _ (EA 5 3 tInt V (by decide)) ?_;refine nT ?_;refine AH (λq:Nat×Nat=>⟨(.lit (.func (.yield l) #[] #[])::.bp (J7 Bc) G 0::.bp tInt r 0::.bp (RF (.map (jB m))) () 0::.any::.own 1 q.2::A10 (.any::.bs tInt B::.lit (.int .i64 (B.length:Int))::.lit (.int .i64 (q.1:Int))::A40 (A10 []))),[.res (Jr 0 p),.row q.2 3 tInt ((B.take q.1).filterMap (getK at_))]⟩) (λq=>q.1<=B.length) (λq=>B.length - q.1) (0,0) (i7 _) (by rw[ac];exact AS) ?_;rintro⟨k,ver⟩ hk;have hk:k<=B.length:=hk;refine wR ?_;refine Ab λK6 h6=>?_
 refine Ah V (λae=>?_) (λae=>?_)
 ·have I:k < B.length:=by simpa using ae
  obtain⟨z,hz⟩:∃z,B[k]? =jB z:=⟨_,eC I⟩
  have aq:wfB .i64 z=aK:=ai z (fG hz);have be:((B.take k).filterMap (getK at_)).length<=1073741824:=by
   have h1:=eO (getK at_) (B.take k);have h2:(B.take k).length<=B.length:=by rw[eT];omega
   omega
  have ak:(B.take (k+1)).filterMap (getK at_)=(B.take k).filterMap (getK at_)++(getK at_ z).toList:=by
   rw[fW,hz,List.filterMap_append];simp only[jD];rw[List.filterMap_cons];cases getK at_ z <;> rfl
  refine Al ?_;refine h6 _ ?_;refine nT ?_;refine Ab λK8 h8=>?_
  refine Ad ?_;refine wR ?_;refine wR (hx:=by((repeat(first|refine sA ?_ (AB V V V)|refine sA ?_ (Qz 0 V Tryz.underlying51 DY V V aq V ap)|refine sA ?_|refine AN ?_|refine sAG ?_|refine Bp ?_));exact C1 V)) ?_;refine wR ?_;refine Ah V (λZ=>?_) (λZ=>?_)
  ·have hs:(getK at_ z).isSome=aK:=Z;obtain⟨u,hu⟩:=i8.1 hs;have ar:wfI .i64 ((getK at_ z).getD 0):=by rw[hu];exact hO.at_ z u hu
   have O:(B.take (k+1)).filterMap (getK at_)=(B.take k).filterMap (getK at_)++[(getK at_ z).getD 0]:=by rw[ak,hu];rfl
   have av:Fj (((B.take k).filterMap (getK at_)).length+ [(getK at_ z).getD 0].length) 8=aK:=by
    unfold Fj;simp only[zaf,zah];unfold cY;omega
   refine wRE (hx:=by((repeat(first|refine sA ?_ (Ce (T:=tInt) V V V (by rfl) (by decide) (Fit.int ar))|(refine AF V (J6 V V V V V av ?_);refine sNt ?_)|refine sA ?_|refine AN ?_|refine sAG ?_|refine Bp ?_));exact C1 V)) (hk:=?_);refine h8 _ ?_;refine nT ?_;refine wRE ?_;refine Ap ⟨(k+1,ver+1),I,by show B.length - (k+1) < B.length - k;omega,?_⟩;try dsimp only
   rw[O];exact AS
  ·have hs:(getK at_ z).isSome=aH:=Z;have O:(B.take (k+1)).filterMap (getK at_)=(B.take k).filterMap (getK at_):=by
    rw[ak];cases hu:getK at_ z with
    |none=>simp
    |some u=>rw[hu]at hs;cases hs
   refine Al ?_;refine h8 _ ?_;refine nT ?_;refine wRE ?_;refine Ap ⟨(k+1,ver),I,by show B.length - (k+1) < B.length - k;omega,?_⟩;try dsimp only
   rw[O];exact AS
 ·obtain rfl:k=B.length:=by have:¬k < B.length:=(by simpa using ae);omega
  have au:(B.take B.length).filterMap (getK at_)=SV G at_ r:=by rw[gB,ac];rfl
  rw[au];refine Ay ?_;refine h2 _ ?_;refine nT ?_;refine AJ _ (Vn af 1 5 0 (by decide) V V V) ?_;refine nT ?_;refine wD 17 (hq:=by((repeat(first|refine qA ?_ (AB V V V)|refine qA ?_ (Cg V V)|refine qA ?_ (Ck V Tryz.underlying77 V V hr)|refine qA ?_ (AT.lt (xs:=[.tmp 40,.tmp 41,.tmp 47]) (T:=tInt.slice) (ds:=[(getK G.likes r).getD [],SV G at_ r,(getK G.cls r).getD []]) V V V (by rfl) (by decide) (.cons Fit.bs (.cons Fit.bs (.cons Fit.bs .nil))))|refine qA ?_ (AM V V (by rw[<-F];exact H) V V)|refine qA ?_|refine G8 ?_|refine qAG (hk:=?_)));exact Ath V)) (hx:=by((repeat(first|refine sA ?_ (AB V V V)|refine sA ?_ (Cg V V)|refine sA ?_ (Ck V Tryz.underlying77 V V hr)|refine sA ?_ (AT.lt (xs:=[.tmp 40,.tmp 41,.tmp 47]) (T:=tInt.slice) (ds:=[(getK G.likes r).getD [],SV G at_ r,(getK G.cls r).getD []]) V V V (by rfl) (by decide) (.cons Fit.bs (.cons Fit.bs (.cons Fit.bs .nil))))|refine sA ?_ (AM V V (by rw[<-F];exact H) V V)|refine sA ?_|refine AN ?_|refine sAG ?_|refine Bp ?_));exact C1 V)) (hk:=?_);refine Ad ?_;refine AH (λq:Nat×ι=>⟨(.lit (.func (.yield l) #[] #[])::.bp (J7 Bc) G 0::.bp tInt r 0::A40 (A6 (.bs tInt L::.lit (.int .i64 (L.length:Int))::.lit (.int .i64 (q.1:Int))::A10 (A8 [])))),[.res (Jr (Qu cl L q.1) q.2),.dead]⟩) (λq=>q.1<=L.length/\Qu cl L q.1<=stop) (λq=>L.length - q.1) (0,p) ⟨i7 _,i7 _⟩ (AS) ?_;rintro⟨k,q⟩ ⟨hk,J⟩;have hk:k<=L.length:=hk;have J:Qu cl L k<=stop:=J;refine wR ?_;refine Ab λbh ba=>?_
  refine Ah V (λY=>?_) (λY=>?_)
  ·have I:k < L.length:=by simpa using Y
   obtain⟨x,hx⟩:∃x,L[k]? =jB x:=⟨_,eC I⟩
   have U:=Np cl x (iU am (by decide));refine Al ?_;refine ba _ ?_;refine nT ?_;refine Ab λbg az=>?_
   refine Ad ?_;refine wR ?_;refine Bh (β:=Bool×ι) (λb=>if b.1=aK then stop < (D6 G at_ r).length else Qu cl L (k+1)<=stop) (λb=>⟨(.lit (.func (.yield l) #[] #[])::.bp (J7 Bc) G 0::.bp tInt r 0::A40 (A6 (.bs tInt L::.lit (.int .i64 (L.length:Int))::.lit (.int .i64 (k:Int))::A10 (A6 [.lit (.bool b.1),.any])))),[.res (if b.1=aK then Jx b.2 else Jr (Qu cl L (k+1)) b.2),.dead]⟩) ?_ ?_
   ·cases hc:cl.contains x with
    |true=>
     rw[hc,F]at U;obtain⟨W,ao⟩:=Alh hx hc;have an:Qu cl L k < (D6 G at_ r).length:=by rw[hN];exact(eE.1 ao).1
     have ad:(D6 G at_ r).getD (Qu cl L k) 0=x:=by rw[hN,dX,ao];rfl
     rcases iW (Qu cl L k) stop with hst|hst
     ·have aa:=hY (Qu cl L k) q an hst;rw[ad]at aa;refine Mk 11 (by kernel_rfl) (by kernel_rfl) ?_;simp only[zad];refine qA ?_ (AB V FG V) (Ar (Ao (Ao G3)));refine qA ?_ (Cg V (As (Aq (Aq GB)))) (Ar (Ao (Ao (Ao Gp))));refine qA ?_ (Co V (As (Aq (Aq (Aq Je))))) (Ar (Ao (Ao (Ao Iz))));refine qA ?_ (AB V (As (Aq (Aq (Aq FG)))) V) (Ar (Ao (Ao (Ao Kf))));refine qA ?_ (AB V Gi V) (Ar (Ao (Ao (Ao IR))));refine qA ?_ (Ck V bW (As (Aq (Aq (Aq Gi)))) (As (Aq (Aq (Aq FF)))) hr) (Ar (Ao (Ao (Ao JB))));refine qA ?_ (AT.move V (Aq FF)) (Ar (Ao (Ao (Ao Gl))));refine qA ?_ (AM V V U V V) (Ar (Ao (Ao (Ao HT))));refine qA ?_ (AT.move V (As (Aq (Aq (Aq Iu))))) (Ar (Ao (Ao (Ao G3))));refine qA ?_ (AT.move V Je) (Ar (Ar Gp));refine qA ?_ (AT.move V (Aq FF)) (Ar (Ar Iz));refine Fd ?_;refine PQ V (La (i:=0) ag V (λp=>by rw[hm,hm]) V V V V aa λq'=>?_);refine Df (by(try simp only[Bn,zac]);exact V) (by(try simp only[Nat.reduceAdd,zab]);exact V) ?_;refine Ig V (AY (Cm V V) ?_);refine Df (by(try simp only[Bn,zac]);exact V) (by(try simp only[Nat.reduceAdd,zab]);exact V) ?_;refine Ig V (AY (AT.pick V V V) ?_);refine Df (by(try simp only[Bn,zac]);exact V) (by(try simp only[Nat.reduceAdd,zab]);exact V) ?_;refine Gc ?_;refine Ap ⟨(aH,q'),by rw[W];exact hst,?_⟩;dsimp only;rw[W];exact AS
     ·have al:Qu cl L k=stop:=iQ J hst;have ab:stop < (D6 G at_ r).length:=by rw[<-al];exact an
      have aa:=aw ab q;rw[<-al,ad]at aa;refine Mk 11 (by kernel_rfl) (by kernel_rfl) ?_;simp only[zad];refine qA ?_ (AB V FG V) (Ar (Ao (Ao G3)));refine qA ?_ (Cg V (As (Aq (Aq GB)))) (Ar (Ao (Ao (Ao Gp))));refine qA ?_ (Co V (As (Aq (Aq (Aq Je))))) (Ar (Ao (Ao (Ao Iz))));refine qA ?_ (AB V (As (Aq (Aq (Aq FG)))) V) (Ar (Ao (Ao (Ao Kf))));refine qA ?_ (AB V Gi V) (Ar (Ao (Ao (Ao IR))));refine qA ?_ (Ck V bW (As (Aq (Aq (Aq Gi)))) (As (Aq (Aq (Aq FF)))) hr) (Ar (Ao (Ao (Ao JB))));refine qA ?_ (AT.move V (Aq FF)) (Ar (Ao (Ao (Ao Gl))));refine qA ?_ (AM V V U V V) (Ar (Ao (Ao (Ao HT))));refine qA ?_ (AT.move V (As (Aq (Aq (Aq Iu))))) (Ar (Ao (Ao (Ao G3))));refine qA ?_ (AT.move V Je) (Ar (Ar Gp));refine qA ?_ (AT.move V (Aq FF)) (Ar (Ar Iz));refine Fd ?_;refine PQ V (La (i:=0) ag V (λp=>by rw[ah,hm]) V V V V aa λq'=>?_);refine Df (by(try simp only[Bn,zac]);exact V) (by(try simp only[Nat.reduceAdd,zab]);exact V) ?_;refine Ig V (AY (Cm V V) ?_);refine Df (by(try simp only[Bn,zac]);exact V) (by(try simp only[Nat.reduceAdd,zab]);exact V) ?_;refine Ig V (AY (AT.pick V V V) ?_);refine Df (by(try simp only[Bn,zac]);exact V) (by(try simp only[Nat.reduceAdd,zab]);exact V) ?_;refine Gc ?_;refine Ap ⟨(aK,q'),ab,?_⟩;exact AS
    |false=>
     rw[hc,F]at U;have W:=Aqo hx hc
     ·refine Mk 11 (by kernel_rfl) (by kernel_rfl) ?_;simp only[zad];refine qA ?_ (AB V FG V) (Ar (Ao (Ao G3)));refine qA ?_ (Cg V (As (Aq (Aq GB)))) (Ar (Ao (Ao (Ao Gp))));refine qA ?_ (Co V (As (Aq (Aq (Aq Je))))) (Ar (Ao (Ao (Ao Iz))));refine qA ?_ (AB V (As (Aq (Aq (Aq FG)))) V) (Ar (Ao (Ao (Ao Kf))));refine qA ?_ (AB V Gi V) (Ar (Ao (Ao (Ao IR))));refine qA ?_ (Ck V bW (As (Aq (Aq (Aq Gi)))) (As (Aq (Aq (Aq FF)))) hr) (Ar (Ao (Ao (Ao JB))));refine qA ?_ (AT.move V (Aq FF)) (Ar (Ao (Ao (Ao Gl))));refine qA ?_ (AM V V U V V) (Ar (Ao (Ao (Ao HT))));refine qA ?_ (AT.move V (As (Aq (Aq (Aq Iu))))) (Ar (Ao (Ao (Ao G3))));refine G8 (ht:=(Ar (Ar Gp))) ?_;refine G8 (ht:=(Ar (Ar Iz))) ?_;refine Fd ?_;refine Ro V ?_;refine Df (by(try simp only[Bn,zac]);exact V) (by(try simp only[Nat.reduceAdd,zab]);exact V) ?_;refine Ro V ?_;refine Df (by(try simp only[Bn,zac]);exact V) (by(try simp only[Nat.reduceAdd,zab]);exact V) ?_;refine Ig V (AY (AT.pick V V V) ?_);refine Df (by(try simp only[Bn,zac]);exact V) (by(try simp only[Nat.reduceAdd,zab]);exact V) ?_;refine Gc ?_;refine Ap ⟨(aH,q),by rw[W];exact J,?_⟩;dsimp only;rw[W];exact AS
   rintro⟨b,q'⟩ hb;refine Ah V (λX=>?_) (λX=>?_)
   ·obtain rfl:b=aK:=X;have ab:stop < (D6 G at_ r).length:=hb;exact Aw ⟨.inr V,q',by(show _=jB (ABlk.res (if stop < (D6 G at_ r).length then Jx q' else Jr (D6 G at_ r).length q'));rw[if_pos ab];rfl),by simp[mkD,gL,ah]⟩
   ·obtain rfl:b=aH:=X;have aj:Qu cl L (k+1)<=stop:=hb;refine Al ?_;refine az _ ?_;refine nT ?_;refine wRE ?_;refine Ap ⟨(k+1,q'),⟨I,aj⟩,by show L.length - (k+1) < L.length - k;omega,?_⟩;exact AS
  ·obtain rfl:k=L.length:=by have:¬k < L.length:=(by simpa using Y);omega
   have ax:¬stop < (D6 G at_ r).length:=by rw[YJ,<-hN]at J;omega
   refine Ay ?_;exact⟨.inl V,q,by(show _=jB (ABlk.res (if stop < (D6 G at_ r).length then Jx q else Jr (D6 G at_ r).length q));rw[if_neg ax,hN,<-YJ];rfl),by simp[mkD,gL,hm]⟩
structure OkGr(G:CGraph):Prop extends OkG G where
 mov:∀r,(∀k∈(getK G.moves r).getD [],Cl k)/\((getK G.moves r).getD []).length<=1073741824
 lik:∀r,(∀k∈(getK G.likes r).getD [],Cl k)/\((getK G.likes r).getD []).length<=1073741824
 cl:∀r,(∀k∈(getK G.cls r).getD [],Cl k)/\((getK G.cls r).getD []).length<=1073741824
def MC(G:gU)(A:List (Int×Int))(r:Int):Option Int:=(D6 G A r).find? (Gn G A r)
def ED(G:gU)(s:List (Int×Int)×List Int)(r:Int):List (Int×Int)×List Int:=match MC G s.1 r with
 |some p=>(B6 s.1 r p,s.2)
 |none=>(s.1,s.2++[r])
def I2(G:gU)(out:List (Int×Int))(k:Nat):List (Int×Int)×List Int:=((CR G out).reverse.take k).foldl (ED G) ([],[])
def BF(G:gU)(out:List (Int×Int)):List (Int×Int)×List Int:=(CR G out).reverse.foldl (ED G) ([],[])
theorem MD(G:gU)(out:List (Int×Int)):I2 G out (CR G out).length=BF G out:=by
 unfold I2 BF;rw[gC (by simp)]
theorem O0(h:(CR G out)[(CR G out).length - 1 - k]? =jB r)(hk:k < (CR G out).length):I2 G out (k+1)=ED G (I2 G out k) r:=by
 unfold I2;rw[fW,List.getElem?_reverse hk,h,dV];rfl
theorem O2{G:gU}:∀(n:Nat) {E:List (Int×Int)} {l:List Int},Ea E->(∀x,(getK E x).isSome=aK->x∈G.regs)->(∀x∈l,x∈G.regs)->∀x∈DM G n E l,x∈G.regs
 |0,E,l,_,_,u=>u
 |n+1,E,l,B,hk,u=>by
  unfold DM;cases F:LA G E with
  |none=>exact u
  |some r=>
   have z:=Lz F;refine O2 n (Le B z).1 (λx hx=>hk x ?_) λx hx=>?_
   ·rw[GT B]at hx;simp only[aG]at hx;exact hx.1
   ·rcases eY.1 hx with h|h
    ·exact u x h
    ·rw[fK.1 h];exact hk r z
theorem KH{G:gU}:∀(n:Nat) (E:List (Int×Int)) (l:List Int),(DM G n E l).length<=l.length+n
 |0,E,l=>by unfold DM;omega
 |n+1,E,l=>by
  unfold DM;cases LA G E with
  |none=>show l.length<=_;omega
  |some r=>
   have:=KH (G:=G) n (Kt G E r) (l++[r]);rw[eM,eN,eR]at this;show(DM G n (Kt G E r) (l++[r])).length<=_;omega
theorem ZF(u:OkG G):∀x∈CR G out,x∈G.regs:=by
 have h:=I7 (out:=out) u;exact O2 _ h.asc h.inr λx hx=>by cases hx
theorem Q1(u:OkG G):(CR G out).length<=1073741824:=by
 have h:=(I7 (out:=out) u).len;have:=KH (G:=G) (H7 G out).length (H7 G out) [];unfold CR;simp only[eR]at this h;omega
structure PntI(G:CGraph)(s:List (Int×Int)×List Int)(k:Nat):Prop where
 asc:Ea s.1
 wf:∀q v,getK s.1 q=some v->Cl v
 len:s.1.length+s.2.length<=k
theorem W9(u:OkGr G)(h:p∈D6 G A r):Cl p:=by
 unfold D6 at h;have:=(List.mem_filter.1 h).2;rw[dJ]at this;exact(u.cl r).1 p this
theorem TS(h:MC G A r=jB p):p∈D6 G A r:=List.mem_of_find?_eq_some h
theorem PntI.next(z:OkGr G){s:List (Int×Int)×List Int}(h:PntI G s k)(r:Int):PntI G (ED G s r) (k+1):=by
 unfold ED;cases u:MC G s.1 r with
 |none=>
  refine⟨h.asc,h.wf,?_⟩;have:=h.len;show s.1.length+(s.2++[r]).length<=k+1;rw[eM,eN,eR];omega
 |some p=>
  refine⟨h.asc.put r p,λq v hq=>?_,?_⟩
  ·have hq:getK (B6 s.1 r p) q=jB v:=hq;rw[BH h.asc]at hq;by_cases e:q=r
   ·rw[if_pos e]at hq;cases hq;exact W9 z (TS u)
   ·rw[if_neg e]at hq;exact h.wf q v hq
  ·have h1:=h.len;have h2:=EZ (l:=s.1) r p;show(B6 s.1 r p).length+s.2.length<=k+1;omega
theorem JK{G:gU}(u:OkGr G)(out:List (Int×Int)):∀k,k<=(CR G out).length->PntI G (I2 G out k) k
 |0,_=>⟨Ea.nil,λq v h=>(by cases h),i7 _⟩
 |k+1,hk=>by
  obtain⟨r,z⟩:∃r,(CR G out)[(CR G out).length - 1 - k]? =jB r:=⟨_,eC (by omega)⟩
  rw[O0 z (by omega)];exact(JK u out k (by omega)).next u r
theorem Yw{α:Type}(p:α->Bool):∀(l:List α),(l.findIdx p < l.length->∃x,l[l.findIdx p]? =jB x/\p x=aK/\l.find? p=jB x)/\(¬l.findIdx p < l.length->l.find? p=jA)/\∀j x,j < l.findIdx p->l[j]? =jB x->p x=aH
 | []=>⟨λh=>by simp at h,λ_=>rfl,λj x h=>by simp at h⟩
 |a::l=>by
  obtain⟨h1,h2,I⟩:=Yw p l;rw[List.findIdx_cons,dR];cases z:p a with
  |true=>exact⟨λ_=>⟨a,rfl,z,rfl⟩,λh=>absurd (by simp) h,λj x h=>by simp at h⟩
  |false=>
   refine⟨λh=>?_,λh=>?_,λj x h u=>?_⟩
   ·obtain⟨x,H,F,B⟩:=h1 (by simpa using h);exact⟨x,by simpa using H,F,B⟩
   ·exact h2 (by simpa using h)
   ·cases j with
    |zero=>simp at u;rw[<-u];exact z
    |succ j=>exact I j x (by simpa using h) (by simpa using u)
def slotN(G:gU)(A:List (Int×Int))(r:Int):Nat:=(fS (((getK G.near r).getD []).length+1)).findIdx λk:Nat=>Gn G A r (32+(k:Int))
theorem Ms(G:gU)(A:List (Int×Int))(r:Int):
 slotN G A r<=((getK G.near r).getD []).length/\Gn G A r (32+(slotN G A r:Int))=aK/\∀k,k < slotN G A r->Gn G A r (32+(k:Int))=aH:=by
 obtain⟨L,I⟩:∃x,x=(getK G.near r).getD []:=⟨_,rfl⟩
 have F:∃k∈fS (L.length+1),Gn G A r (32+(k:Int))=aK:=by
  refine Classical.byContradiction λO=>?_
  have W:∀k,k < L.length+1->Gn G A r (32+(k:Int))=aH:=λk hk=>by
   cases U:Gn G A r (32+(k:Int))with
   |false=>rfl
   |true=>exact absurd ⟨k,fJ.2 hk,U⟩ O
  have B:=E7 (l:=(fS (L.length+1)).map λk:Nat=>(32+(k:Int))) (m:=L.map λx=>(getK A x).getD 0)
   (fQ.2 (dC (λ{a b:Nat} (H:a≠b) (e:32+(a:Int)=32+(b:Int))=>H (by omega)) List.nodup_range))
   (λx hx=>by
    obtain⟨k,hk,rfl⟩:=fF.1 hx;have h1:=W k (fJ.1 hk);unfold Gn at h1;rw[aI,<-I]at h1;obtain⟨y,J,z⟩:=dF.1 h1;unfold freeP at z;rw[aG]at z;exact fF.2 ⟨y,J,(eq_of_beq z.2).symm⟩)
  rw[eQ,eQ,eS]at B;omega
 unfold slotN;rw[<-I];have u:(fS (L.length+1)).findIdx (λk:Nat=>Gn G A r (32+(k:Int))) < (fS (L.length+1)).length:=List.findIdx_lt_length_of_exists F;refine⟨?_,?_,λk hk=>?_⟩
 ·rw[eS]at u;omega
 ·have h:=List.findIdx_getElem (w:=u);rwa [eJ]at h
 ·have h:=List.not_of_lt_findIdx hk;rw[eJ]at h;exact h
def IL(G:gU)(s:List (Int×Int)×Int)(r:Int):List (Int×Int)×Int:=(B6 s.1 r (32+(slotN G s.1 r:Int)),max s.2 ((slotN G s.1 r:Int)+1))
def IK(G:gU)(out A:List (Int×Int))(k:Nat):List (Int×Int)×Int:=((keysK out).take k).foldl (IL G) (A,0)
def IJ(G:gU)(out A:List (Int×Int)):List (Int×Int)×Int:=(keysK out).foldl (IL G) (A,0)
theorem Zn(G:gU)(out A:List (Int×Int)):IK G out A (keysK out).length=IJ G out A:=by
 unfold IK IJ;rw[gB]
theorem VY(h:(keysK out)[k]? =jB r):IK G out A (k+1)=IL G (IK G out A k) r:=by
 unfold IK;rw[fW,h,dV];rfl
open Go.Shelf
variable{α:Type}{l:List (Int×α)}
theorem CK{k:Int}:k∈keysK l↔(getK l k).isSome=aK:=by
 cases hg:getK l k with
 |none=>
  have h:=Jd.1 hg;exact⟨λhk=>by
   obtain⟨p,u,e⟩:=fF.1 hk;exact absurd e (h p u),λh=>by cases h⟩
 |some v=>
  refine⟨λ_=>rfl,λ_=>?_⟩;refine Classical.byContradiction λz=>?_
  have:getK l k=jA:=Jd.2 λp u e=>z (fF.2 ⟨p,u,e⟩)
  rw[hg]at this;cases this
theorem Md(h:Ea l):Asc (keysK l):=fQ.2 h
theorem Um(l:List (Int×cF)):cX (LY l)=keysK l:=by
 simp only[cX,LY,keysK,eW];rfl
theorem Ac1{w:cI}{S:Nat->Prop}{v:cF}{d:List (Int×Int)}(h:tMapI.RS w S [v] d):∃z,v= .map z:=by
 obtain⟨_,⟨u,_⟩|⟨b,_,u,_⟩⟩:=h
 ·cases u;exact⟨_,rfl⟩
 ·cases u;exact⟨_,rfl⟩
theorem Afq(d:List (Int×Int)):M5 bK 57 [.tv tMapI d] (λp=>Be p [.tv tMapI d]) (λp=>.func (.func 97) #[] #[.pointer (jB ⟨p,0,jA⟩)]):=by
 refine⟨by kernel_rfl,λw S vs H F=>?_⟩;obtain⟨v,J,rfl,h0,h1⟩:=F;unfold Af at h1;subst h1;have B:tMapI.RS w S [v] d:=h0;obtain⟨z,rfl⟩:=Ac1 B;have I:aN aO 5 bK 57 #[.map z] w λe w'=>e= .returned (.func (.func 97) #[] #[.pointer (jB ⟨w.heap.size,0,jA⟩)])/\w'=w.alloc (.cells #[.map z] 51):=AnyZI.keys_in bG aO 5 trivial V z w
 refine((cQ (n:=5)).1 I).mono ?_;rintro e w' ⟨rfl,rfl⟩;have u:Below w.heap.size w (w.alloc (.cells #[.map z] 51)):=(cA _ _).alloc (iT _) _;exact⟨_,rfl,⟨u.os,u.tape,u.output,u.size,λk hk _=>u.block k hk⟩,w.heap.size,rfl,⟨[.map z],51,cV w _,⟨_,_,rfl,tMapI.keepS B (λk hk=>u.block k (H k hk)) λ_ h=>h,rfl⟩⟩,λk hk=>by
  have hk:k=w.heap.size:=hk;subst hk;exact⟨.inr (iT _),by simp⟩⟩
theorem Zf(p:Nat)(d:List (Int×Int))(hd:d.length<=1073741824):
 FnR bK 56 (Be p [.tv tMapI d]) [.lit (.func (.func 97) #[] #[.pointer (jB ⟨p,0,jA⟩)])] (.bs tInt (keysK d)):=by
 refine⟨by kernel_rfl,λw T vs hT ac W hr=>?_⟩;obtain⟨us,rfl,h0⟩:=Ej hr;unfold Af at h0;subst h0;obtain⟨cs,e,hp,aa⟩:=W;obtain⟨v,us,rfl,h0,h1⟩:=aa;unfold Af at h1;subst h1;have X:tMapI.RS w T [v] d:=h0;have O:=ac p V;have F:okK d:=X.1;have Z:∃(Q:List Int->Prop) (N:Nat),SeqGives aO 2 bK 97 #[.pointer (jB ⟨p,0,jA⟩)] encZ Q N w/\N<=d.length/\∀ss,Q ss->ss.Perm (keysK d):=by
  obtain⟨_,⟨Y,rfl⟩|⟨b,xs,Y,hS,hm,h1,h2⟩⟩:=X
  ·cases Y;have u:w.cell? ⟨p,0,jA⟩=jB (.map jA):=by simp[cJ,hp]
   exact⟨λss:List Int=>ss= [],0,AnyZI.keys_gives_nil (ρ:=bH) {bG with} aO _ trivial rfl p _ O u,iT _,λss h=>by rw[h];exact List.Perm.refl _⟩
  ·cases Y;have u:w.cell? ⟨p,0,jA⟩=jB (.map (jB b)):=by simp[cJ,hp]
   have hk:keysK xs=keysK d:=GS (Md hm.1.1) (Md F.1) λk=>by rw[CK,CK,h1 k]
   have H:xs.length=d.length:=by have:=congrArg eL hk;simpa[keysK]using this
   have U:=hm.2;have ae:xs.length<=cY:=by rw[H];unfold cY;omega
   have z:SeqGives aO 2 bK 97 #[.pointer (jB ⟨p,0,jA⟩)] encZ (λss=>ss.Perm (cX (LY xs))) (Maps.size (LY xs)) w:=AnyZI.keys_gives (ρ:=bH) {bG with} aO _ trivial rfl (by omega) p b xs.length (LY xs) w O u U;exact⟨_,_,z,Nat.le_of_eq ((OB xs).trans H),λss (h:ss.Perm (cX (LY xs)))=>by
    rw[Um,hk]at h;exact h⟩
 obtain⟨Q,N,z,hN,hQ⟩:=Z;have cS:=AnyZI.sorted_in Tryz.sortedM aO 5 trivial trivial trivial trivial V (by omega) (Adh _) (enters_of Tryz.func62 (by kernel_rfl) V) 97 #[.pointer (jB ⟨p,0,jA⟩)] trivial (enters_of Tryz.func97 (by kernel_rfl) V) _ N (by unfold cY;omega) (by omega) _ z;change aN _ _ bK 56 _ _ _ at cS;refine((cQ (n:=5)).1 cS).mono ?_;rintro e w' ⟨v,ss,rfl,ab,J,ad,hb⟩;have I:ss.Perm (keysK d):=hQ ss ab;have he:(ss.mergeSort λx y=>decide (x<=y))=keysK d:=
  GS (Oh (I.nodup_iff.2 (Md F.1).nodup)) (Md F.1) (λx=>((fL ss _).mem_iff).trans I.mem_iff)
 have B:w'.ownsRow w.heap.size 3 1 v ss.length ((ss.mergeSort (λx y=>decide (x<=y))).map encZ):=J;rw[he]at B;have hO:Gj w' w.heap.size v (keysK d):=.of B I.length_eq V;refine⟨v,rfl,hb,λk=>T k\/v.ownBlock=jB k,λ_ h=>.inl h,λk hk=>?_,λk hk=>?_,?_⟩
 ·rcases hk with hk|hk
  ·exact .inl hk
  ·exact .inr (hO.lt k hk).1
 ·rcases hk with hk|hk
  ·exact iV (hT k hk) hb.size
  ·exact(hO.lt k hk).2
 ·unfold gQ;exact tInt.slice.keepS (LC hO λx hx=>by
   obtain⟨q,hq,e⟩:=fF.1 hx;rw[<-e];exact F.2 q hq) (λ_ _=>rfl) λk hk=>.inr hk
end Mu
namespace Mu
open Go Go.RowKit Go.Proofs Go.Maps
theorem An5{x:Int}(h:0<=x/\x<=4294967296):Cl x:=by
 have h1:wfB .i64 x=aK:=by
  unfold wfB;simp[Lit.wf,IntKind.min,IntKind.max,IntKind.signed,IntKind.bits];omega
 exact h1
theorem Ti(G:gU):∀(l:List Int) (s:List (Int×Int)×Int),(l.foldl (IL G) s).1.length<=s.1.length+l.length
 | [],s=>iT _
 |r::l,s=>by
  have h1:=Ti G l (IL G s r);have h2:(IL G s r).1.length<=s.1.length+1:=EZ r _;show(l.foldl (IL G) (IL G s r)).1.length<=s.1.length+(l.length+1);omega
theorem Zm(G:gU)(out A:List (Int×Int))(m:Nat)(hG:OkGr G)(Y:okK out)(F:out.length<=1073741824)(hA:Ea A)(al:A.length<=1073741824):DI bK 28 (EF (cH .i64) A m) [.bp Bc G 0,.tv tMapI out,.lit (.map (jB m))] (λ_:Unit=>EF (cH .i64) (IJ G out A).1 m) (λ_:Unit=>.int .i64 (IJ G out A).2):=by
 obtain⟨ks,z⟩:∃x,x=keysK out:=⟨_,rfl⟩
 have ak:ks.length<=1073741824:=by rw[z];simpa[keysK]using F
 have ac:∀r∈ks,Cl r:=by
  rw[z];intro r W;obtain⟨q,hq,e⟩:=fF.1 W;rw[<-e];exact Y.2 q hq
 refine SH Tryz.func28 V (by kernel_rfl) V Tryz.ntmps28 V (λ_ _ _ _ h=>h) λC=>?_
 simp only[Nat.reduceAdd,Nat.reduceSub,zaa];refine wR ?_;refine wR ?_;refine Ab λK3 h3=>?_
 refine nT ?_;refine wRK λK4 af=>?_
 refine sA ?_ (AT.move V FG) (Ao IR);refine AF V (Cp V (Afq out) (λ_=>rfl) V V λp=>?_);refine D2 ?_ (Ao JB);refine sA ?_ (KX (i:=1) V V (Zf p out F) V V V) (Ao Gl);refine sA ?_ (Ny V V V) (Ao HT);refine sA ?_ (AT.move V V) (Ao G3);refine Au (af _ ?_);refine Ad ?_;refine AH (λk:Nat=>⟨(.bp Bc G 0::.any::.lit (.map (jB m))::A4 (.lit (.int .i64 (IK G out A k).2)::A5 (.bs tInt ks::.lit (.int .i64 (ks.length:Int))::.lit (.int .i64 (k:Int))::A20 [.any]))),[.res (EF (cH .i64) (IK G out A k).1 m),.res (Be p [.tv tMapI out])]⟩) (λk=>k<=ks.length) (λk=>ks.length - k) 0 (i7 _) (by rw[z];exact AS) ?_;rintro k hk;refine wR ?_;refine Ab λK7 h7=>?_
 refine Ah V (λH=>?_) (λH=>?_)
 ·have U:k < ks.length:=by simpa using H
  obtain⟨r,W⟩:∃q,ks[k]? =jB q:=⟨_,eC U⟩
  have I:wfB .i64 r=aK:=ac r (fG W);obtain⟨B,hB⟩:∃x,x=IK G out A k:=⟨_,rfl⟩
  have Z:IK G out A (k+1)=IL G B r:=by rw[hB];exact VY (by rw[<-z];exact W)
  have ag:B.1.length < cY:=by
   have h1:=Ti G ((keysK out).take k) (A,0);have h2:((keysK out).take k).length<=k:=List.length_take_le _ _;rw[hB];unfold IK cY;have h3:(A,(0:Int)).1.length=A.length:=rfl;omega
  rw[<-hB];obtain⟨n,hn⟩:∃x,x=slotN G B.1 r:=⟨_,rfl⟩
  obtain⟨aa,O,J⟩:=Ms G B.1 r;rw[<-hn]at aa O J;refine Al ?_;refine h7 _ ?_;refine nT ?_;refine Ab λK9 h9=>?_
  refine Ad ?_;refine wR ?_;refine wR ?_;refine Ab λan ai=>?_
  refine Ad ?_;refine AH (λj:Nat=>⟨(.bp Bc G 0::.any::.lit (.map (jB m))::A4 (.lit (.int .i64 B.2)::.any::.lit (.int .i64 r)::.lit (.int .i64 (32+(j:Int)))::A2 (.bs tInt ks::.lit (.int .i64 (ks.length:Int))::.lit (.int .i64 (k:Int))::A20 [.any]))),[.res (EF (cH .i64) B.1 m),.res (Be p [.tv tMapI out])]⟩) (λj=>j<=n) (λj=>n - j) 0 (i7 _) (AS) ?_;rintro j X;have X:j<=n:=X;have aj:=hG.nearl r;have ad:Cl (32+(j:Int)):=An5 (by omega);refine Ab λam ah=>?_
  refine wR (hx:=by((repeat(first|refine sA (hq:=Dp V (Se G B.1 r (32+(j:Int)) I ad (hG.near r) (hG.nearl r)) (.cons (.cl V) (.cons (.cl V) (.cons (.cl V) (.cons (NS.map (i:=0) V) .nil))))) (hk:=?_)|refine sA ?_|refine AN ?_|refine sAG ?_|refine Bp ?_));exact C1 V)) (hk:=?_);refine Ah V (λu=>?_) (λu=>?_)
  ·have u:Gn G B.1 r (32+(j:Int))=aH:=by simpa using u
   have ae:j < n:=Nat.lt_of_le_of_ne X λe=>by
    rw[e,O]at u;cases u
   refine Al ?_;refine ah _ ?_;refine nT ?_;refine Ad ?_;refine wRE (hx:=by((repeat(first|refine sA ?_ (D9 V V V (by omega))|refine sA ?_|refine AN ?_|refine sAG ?_|refine Bp ?_));exact C1 V)) (hk:=?_);refine abN ?_;refine Ap ⟨j+1,ae,by omega,?_⟩;try dsimp only
   rw[show((j+1:Nat):Int)=(j:Int)+1 from V,<-Int.add_assoc];exact AS
  ·have u:Gn G B.1 r (32+(j:Int))=aK:=by simpa using u
   obtain rfl:j=n:=iQ X (Nat.not_lt.1 λh=>by
    rw[J j h]at u;cases u)
   refine Ay ?_;refine ai _ ?_;refine nT ?_;refine wR (hx:=by((repeat(first|(refine AF V (J4 0 V Tryz.underlying51 V V V I ag V ?_);refine sNt ?_)|refine sA ?_|refine AN ?_|refine sAG ?_|refine Bp ?_));exact C1 V)) (hk:=?_);refine wRE (hx:=by((repeat(first|refine sA ?_ (EO V V V (by omega))|refine sA ?_ (D9 V V V (by omega))|refine sA ?_ (AT.max2 V V V)|refine sA ?_|refine AN ?_|refine sAG ?_|refine Bp ?_));exact C1 V)) (hk:=?_);refine h9 _ ?_;refine nT ?_;refine wRE ?_;refine Ap ⟨k+1,U,by omega,?_⟩;try dsimp only
   rw[Z];have ab:IL G B r=(B6 B.1 r (32+(j:Int)),if 32+(j:Int) - 32+1 > B.2 then 32+(j:Int) - 32+1 else B.2):=by
    unfold IL;rw[<-hn];refine Prod.ext V ?_;show max B.2 ((j:Int)+1)=_;split <;> omega
   rw[ab];exact AS
 ·obtain rfl:k=ks.length:=by have:¬k < ks.length:=(by simpa using H);omega
  rw[show IK G out A ks.length=IJ G out A by rw[z];exact Zn G out A];refine Ay ?_;refine h3 _ ?_;refine nT ?_;refine wR ?_;exact Aw ⟨.inr V,(),rfl,rfl,rfl⟩
end Mu
namespace Mu
open Go Go.RowKit
variable{P:aZ}{fn:aP}{n:Nat}{t:Tmp}{ty:cE}{u:Tmp}{uy:cE}
theorem Uh{P:aZ}{C:Ctx}{fn:aP}{tmps:Array cF}{R:Ending->cI->Prop}{n:Nat}:
 ∀(ds:List Nat) (W:cI) (h:List gI) (S:Nat->Prop) (ψ:Nat->cF),(∀W S ψ,iC C (h.set 0 .dead) S ψ W->∃v,(results fn tmps).run P W= .ok v W/\R (.returned v) W)->h[0]? =jB (.res (Bl ds))->iC C h S ψ W->
  aU aO n P fn tmps R (ds.map J9) .returning W
 | [],W,h,S,ψ,z,h0,H=>by
  have hc:Cut h (h.set 0 .dead):=⟨by simp,λi b hi=>by
   by_cases I:i=0
   ·subst I;rw[eH (eE.1 h0).1]at hi;cases hi;exact .inl V
   ·rw[eG (Ne.symm I)]at hi;exact .inr hi⟩
  obtain⟨v,h1,h2⟩:=z W S ψ (H.cute hc (by simp));exact⟨v,h1,h2⟩
 |D::ds,W,h,S,ψ,z,h0,H=>by
  have J:=H.blk 0 _ h0;have B:=(eE.1 h0).1;have Y:=J.1 D (by show D∈D::ds;simp);refine⟨by simp,.inl ⟨_,_,rfl,run_takeDeferred (J.2.2 D (by simp)),?_⟩⟩;have X:Ext W S h ψ W S (h.set 0 (.res (Bl ds))) (Bo ψ 0 (ψ 0)):=gZ (λ_ _=>rfl) h0 (λc' hc=>by simp[gN]at hc) λh=>by simp[AZ]at h
  have F:=fN.1 J.2.1;have H1:iC C (h.set 0 (.res (Bl ds))) S (Bo ψ 0 (ψ 0)) W:=H.set (v':=ψ 0) h0 V ⟨rfl,rfl,rfl,iT _,λ_ _ _=>rfl⟩ X
   ⟨λg hg=>J.1 g (fC _ hg),F.2,λd Z=>J.2.2 d (fC _ Z)⟩ λg hg=>.inl (fC _ hg)
  have U:¬owns (h.set 0 (.res (Bl ds))) (Bo ψ 0 (ψ 0)) D:=λ⟨j,h1,h2⟩=>by
   by_cases O:j=0
   ·subst O;rw[eH B]at h2;exact F.1 h2
   ·rw[eG (Ne.symm O)]at h1 h2;rw[BE O]at h2;exact H.dis j 0 O h1 (by rw[h0];rfl) D h2 (by rw[h0];show D∈D::ds;simp)
  refine Uh ds _ _ S _ (λW S ψ h1=>?_) (eH B) (H1.other _ Y.1 Y.2.1 U);rw[List.set_set]at h1;exact z W S ψ h1
theorem Mt{tmps:Array cF}{U O:Nat}{J I:cF}{w:cI}(z:fn.results= #[.cell t ty,.cell u uy])(X:Rn P ty=jB (aH,1))(W:Rn P uy=jB (aH,1))
 (h1:tmps.getD t undef= .pointer (jB ⟨U,0,jA⟩))(h2:tmps.getD u undef= .pointer (jB ⟨O,0,jA⟩))(H:w.cell? ⟨U,0,jA⟩=jB J)(F:w.cell? ⟨O,0,jA⟩=jB I):(results fn tmps).run P w= .ok (.tuple #[J,I]) w:=by
 have B:=IT (P:=P) (ty:=ty) X H;have l2:=IT (P:=P) (ty:=uy) W F;unfold Instr.loadAt Instr.sureAddr at B l2;simp only[zak]at B l2;rw[Array.getD_eq_getD_getElem?]at h1 h2;simp[results,z,h1,h2,asAddr,B,l2]
def Axu{ι:Type}(t u:Tmp)(Rs:ι->Res)(val:ι->cF):Exit->St->Prop:=λe s=>(e= .normal\/e= .ret)/\∃ds H F i j k p B z,s.h[0]? =jB (.res (Bl ds))/\mkD s.h=ds.map J9/\i≠0/\j≠0/\k≠0/\s.h[i]? =jB (.res (Be H [.lit B]))/\s.h[j]? =jB (.res (Be F [.lit z]))/\s.h[k]? =jB (.res (Rs p))/\
 evA s.t (.tmp t)= .lit (.pointer (jB ⟨H,0,jA⟩))/\evA s.t (.tmp u)= .lit (.pointer (jB ⟨F,0,jA⟩))/\val p= .tuple #[B,z]
theorem P3{f:aR}{c:Code}{args:List AV}{ι:Type}{Rs:ι->Res}{val:ι->cF}(hf:P.funcs[f]? =jB fn)(hb:fn.body=jB c)(hE:B9 P f=aK)(U:fn.results= #[.cell t ty,.cell u uy])(ha:Rn P ty=jB (aH,1))(ae:Rn P uy=jB (aH,1))(hn:fn.ntmps=n)
 (hS:∀p w S S',(Rs p).R w S->(Rs p).R w S')
 (h:∀C:Ctx,C.std->C.rd=jA->Awp P C c (Axu t u Rs val) ⟨args++fT (n - args.length) (.lit undef),[.res (Bl [])]⟩):M5 P f args Rs val:=by
 refine⟨hE,λw S vs af hr=>(cQ (n:=4)).1 (callsIn_of_wp_marks hf hb trivial ?_)⟩;rw[hn];have aa:St.rel ⟨w,S,λk=>k < w.heap.size,jA⟩ ⟨args++fT (n - args.length) (.lit undef),[.res (Bl [])]⟩ {tmps:=vs.toArray++aD (n - vs.toArray.size) undef,defers:=[]} w:=by
  obtain⟨I,Z,ψ,H,Y⟩:=Dg (n:=n) af hr;have X:=Ext.push (w:=w) (w':=w) (S:=Z) (h:=[]) (ψ:=ψ) (.res (Bl [])) undef λ_ _=>rfl
  exact⟨rfl,Z,_,H.push (b:=.res (Bl [])) (v:=undef) (cA _ _) (show Hw _ _ _ _ _ _ (.res (Bl []))from⟨λg hg=>(fP hg).elim,show([]:List Nat).Nodup/\∀d∈([]:List Nat),w.heap[d]? =jB (.deferred (jB []))from⟨fO,λd I=>(fP I).elim⟩⟩) (λg hg=>(fP hg).elim),Az X _ _ Y⟩
 have hw:=h ⟨w,S,λk=>k < w.heap.size,jA⟩ (λ_ h=>h) V _ w aa;refine wpIn_mono hw ?_;rintro e a' w' ⟨s,⟨he,ds,g1,g2,i,j,k,p,v1,v2,h0,hm,ad,ac,ab,hi,hj,hk,ht,hu,O⟩,I,Z,ψ,H,Y⟩;have F:=Bw Y (.tmp t);have B:=Bw Y (.tmp u);rw[ht]at F;rw[hu]at B;unfold gQ at F B;rw[hm]at I;have z:∀{W:cI} {S2:Nat->Prop} {g:Nat} {v:cF},(Be g [.lit v]).R W S2->W.cell? ⟨g,0,jA⟩=jB v:=λ{W S2 g v} hR=>by
  obtain⟨cs,e',h1,h2⟩:=hR;simp only[Af,gQ]at h2;obtain⟨_,_,rfl,rfl,rfl⟩:=h2;simp[cJ,h1]
 have J:=Uh (P:=P) (C:=⟨w,S,λk=>k < w.heap.size,jA⟩) (fn:=fn) (tmps:=a'.tmps) (R:=λe w'=>∃v,e= .returned v/\Turns w S (λ_=>False) Rs val v w') (n:=4) ds w' s.h Z ψ (λW S2 ai h1=>by
  have hB:=h1.blk k (.res (Rs p)) (by rw[eG (Ne.symm ab)];exact hk);have ah:=h1.blk i (.res (Be g1 [.lit v1])) (by rw[eG (Ne.symm ad)];exact hi);have ag:=h1.blk j (.res (Be g2 [.lit v2])) (by rw[eG (Ne.symm ac)];exact hj);refine⟨_,Mt U ha ae F B (z ah.2) (z ag.2),_,rfl,⟨h1.bel.os,h1.bel.tape,h1.bel.output,h1.bel.size,λk hk _=>h1.bel.block k hk⟩,p,O.symm,hS p _ _ _ hB.2,λk hk=>?_⟩;obtain⟨k1,k2,k3⟩:=hB.1 k hk;exact⟨.inr (iS k1),k3⟩) h0 H
 rcases he with rfl|rfl
 ·show aU aO 4 P fn a'.tmps _ a'.defers .returning w';rw[I];exact J
 ·show aU aO 4 P fn a'.tmps _ a'.defers .returning w';rw[I];exact J
open Go.Proofs Go.Shelf
attribute [local go_sem] Oper.semAt_some
theorem Va(F:Fence)(n:Nat)(h78:F.fn 52)(hro:F.round=jA)(A:Option Addr)(m c:Nat)(w:cI):
 aN F n bK 52 #[.slice A m c] w λe w'=>e= .returned (.func (.func 90) #[] #[.pointer (jB ⟨w.heap.size,0,jA⟩)])/\w'=w.alloc (.cells #[.slice A m c] 27):=by
 refine cP Tryz.func52 V h78 ?_ hro;simp only[Tryz.ntmps52,Nat.reduceAdd,Nat.reduceSub,zae]
 gi_wp2
 go_ret
 exact⟨rfl,rfl⟩
theorem Vb(F:Fence)(n:Nat)(h105:F.fn 90)(hro:F.round=jA)(hn:1<=n)(l:Nat)(ds:List Int)(A:Option Addr)(c Bb:Nat)(S0 S:Nat->Prop)(hS0:∀k,S0 k->S k)(W0 W:cI)(J:Nat->cI->Prop)
 (hW:KS S W0 W)
 (hY:∀(k j:Nat) (d:Int) (W:cI),k+j+1=ds.length->ds[j]? =jB d->J k W->YieldAt F (n - 1) bK l #[.int .i64 (j:Int),.int .i64 d] W λe W'=>e= .returned (.bool aK)/\J (k+1) W'/\KS S W W')
 (hB:S Bb)(hB0:W0.cell? ⟨Bb,0,jA⟩=jB (.slice A ds.length c))(hR:tInt.slice.RS W0 S0 [.slice A ds.length c] ds)(hl:ds.length<=2147483648)(h0:J 0 W):
 aN F n bK 90 #[.func (.yield l) #[] #[],.pointer (jB ⟨Bb,0,jA⟩)] W λe W'=>(∃v,e= .returned v)/\J ds.length W':=by
 have HR:=aW hR;have HY:=aW hY;have H0:=aW h0;have x1:aS.wrap ((ds.length:Int) - 1)=(ds.length:Int) - 1:=aT _ (by omega);have hb0:=hW.cell hB hB0;clear hR hY h0;refine cP Tryz.func90 V h105 ?_ hro;simp only[Tryz.ntmps90,Nat.reduceAdd,Nat.reduceSub,zae]
 gi_wp2
 gi_loopw [3] (λi wr=>∃m:Nat,m<=ds.length/\i= .int .i64 ((m:Int) - 1)/\J (ds.length - m) wr/\KS S W wr) (λi _=>(cB i+1).toNat)
 case atStart=>exact⟨ds.length,iT _,rfl,by rw[Nat.sub_self];exact H0.out,KS.refl⟩
 case round=>
  obtain⟨m,hm,rfl,hJ,hK⟩:=hrel;rcases m with _|j
  ·have d0:aL ((0:Int)<=((0:Nat):Int) - 1)=aH:=decide_eq_false (by omega)
   gi_wp2
   go_end0
   exact⟨⟨_,rfl⟩,hJ⟩
  ·have ej:((j+1:Nat):Int) - 1=(j:Int):=by omega
   rw[ej];have d0:aL ((0:Int)<=(j:Int))=aK:=decide_eq_true (by omega);have x2:aS.wrap ((j:Int) - 1)=(j:Int) - 1:=aT _ (by omega);obtain⟨x,hxk⟩:∃x,ds[j]? =jB x:=⟨_,eC (by omega)⟩
   obtain⟨ib,io,rfl,hib,hat,_⟩:=LU HR.out hxk;replace hib:=hS0 _ hib;have hK0:=hW.trans hK;have e0:=hK0.cell (a:=⟨ib,_,jA⟩) hib hat;have eb:=hK0.cell hB hB0;have hjl:(j:Int) < (ds.length:Int):=by omega
   obtain⟨fn,tmps,assign,body,hy,hR⟩:=HY.out (ds.length - (j+1)) j x wr (by omega) hxk hJ;clear hat hxk
   gi_wp2
   refine hR.mono ?_;rintro e W3 ⟨rfl,hJ3,hk3⟩
   gi_wp2
   go_roundw
   case rel=>
    refine⟨j,by omega,rfl,?_,hK.trans hk3⟩;rw[show ds.length - (j+1)+1=ds.length - j by omega]at hJ3;exact hJ3
   case measure=>simp[cB]
def Ata(ds:List Int)(p:Nat×Option Addr×Nat):Res:=⟨[],λg=>g=p.1,λw S=>w.heap[p.1]? =jB (.cells #[.slice p.2.1 ds.length p.2.2] 27 (0,0))/\tInt.slice.RS w S [.slice p.2.1 ds.length p.2.2] ds,
 λh hk B z=>⟨(hk _ V).trans h.1,tInt.slice.keepS h.2 B z⟩⟩
def Ayw(p:Nat×Option Addr×Nat):cF:=.func (.func 90) #[] #[.pointer (jB ⟨p.1,0,jA⟩)]
theorem Sw(ds:List Int):M5 bK 52 [.bs tInt ds] (Ata ds) Ayw:=by
 refine⟨by kernel_rfl,λw S vs H F=>?_⟩;unfold Af gQ Af at F;obtain⟨v,_,rfl,B,rfl⟩:=F;obtain⟨A,c,e,hx⟩:=id B;simp only[List.cons.injEq,and_true]at e;subst e;refine((cQ (n:=4)).1 (Va aO 4 trivial V A ds.length c w)).mono ?_;rintro e w' ⟨rfl,rfl⟩;have z:Below w.heap.size w (w.alloc (.cells #[.slice A ds.length c] 27)):=(cA _ _).alloc (iT _) _;exact⟨_,rfl,⟨z.os,z.tape,z.output,z.size,λk hk _=>z.block k hk⟩,(w.heap.size,A,c),rfl,⟨cV w _,tInt.slice.keepS B (λk hk=>z.block k (H k hk)) λ_ h=>h⟩,λk hk=>by
  have hk:k=w.heap.size:=hk;subst hk;exact⟨.inr (iT _),by simp⟩⟩
def Aiq(ds:List Int)(k:Nat):List AV:=match ds[ds.length - 1 - k]? with
 |some d=>[.lit (.int .i64 ((ds.length - 1 - k:Nat):Int)),.lit (.int .i64 d)]
 |none=>(A2 [])
theorem Qw(ds:List Int)(B:ds.length<=2147483648)(p:Nat×Option Addr×Nat)(w:cI)(S:Nat->Prop)(Z:∀k,S k->k < w.heap.size)(hF:∀k,(Ata ds p).F k->k < w.heap.size)(z:(Ata ds p).R w S):
 Aq2 bK 90 #[.pointer (jB ⟨p.1,0,jA⟩)] (λk=>S k\/(Ata ds p).F k) w (λk vs=>Af w S [] ψ0 (Aiq ds k) vs) ds.length:=λl J W U O h0=>by
 refine Vb aO 3 trivial V (by decide) l ds p.2.1 p.2.2 p.1 S (λk=>S k\/(Ata ds p).F k) (λ_ h=>.inl h) w W J U ?_ (.inr V) (Of (cs:=[_]) z.1 V) z.2 B h0;intro k j d Y F I X;refine O k [.int .i64 (j:Int),.int .i64 d] Y (by omega) ?_ X;have H:ds.length - 1 - k=j:=by omega
 show Af w S [] ψ0 (Aiq ds k) _;unfold Aiq;rw[H,I];unfold Af;refine⟨_,_,rfl,by unfold gQ;rfl,?_⟩;unfold Af;exact⟨_,_,rfl,by unfold gQ;rfl,by unfold Af;rfl⟩
theorem Aqq(ds:List Int)(k:Nat):Bj (Aiq ds k)=aK:=by
 unfold Aiq;split <;> rfl
theorem Alr(ds:List Int)(k:Nat):(Aiq ds k).length=2:=by
 unfold Aiq;split <;> rfl
end Mu
