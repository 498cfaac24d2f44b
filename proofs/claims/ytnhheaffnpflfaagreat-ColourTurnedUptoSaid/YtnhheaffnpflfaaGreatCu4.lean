/-
  Lemmas for T, part 4.
  Conditions: as each lemma says.
-/
import Derived.Test.YtnhheaffnpflfaaGreatCu3
import Derived.Shelf.Spec.SlicesInsertGrow
import Derived.Laws.Cover3
set_option maxRecDepth 100000
set_option maxHeartbeats 4000000
set_option linter.unusedSimpArgs false
set_option linter.unusedVariables false
open Array renaming getElem?_eq_some_iff->aA,getElem?_modify->aB,getElem?_toList->aC,replicate->aD,size_append->aE,toList_append->aF
open Bool renaming and_eq_true->aG,false->aH,not_eq_false'->aI,not_eq_true'->aJ,true->aK
open Decidable renaming decide->aL
open Go renaming Calls->aM,CallsIn->aN,Func->aP,FuncId->aR,LeavesInM->aU,Oper->aX,Operand->aY,Program->aZ,TypeId->cE,Value->cF,World->cI,callsIn_of_wp->cP,callsIn_wide->cQ,exitTo->cR,grownCap->cT,grownCap_ge->cU,heap_alloc_new->cV,heap_alloc_old->cW,intKeys->cX,maxLen->cY,setRow_heap->cZ,size_zeroCells->dA
open Go.Fence renaming wide->aO
open Go.IntKind renaming i64->aS
open Go.IntWalk renaming i64_in->aT
open Go.Lib renaming compareInt->aV,hid->aW
open Go.Proofs.Tryz renaming cmpIntP->a6,func177->a7,func192->a8,func47->bA,func85->bB,isAgg0->bC,isAgg27->bD,isAgg3->bE,isAgg4->bF,keysK->bG,keysK_ren->bH,ntmps177->bI,ntmps47->bJ,prog->bK,sizeOf0->bL,sizeOf27->bM,sizeOf3->bN,sizeOf4->bO,sortFI->bP,underlying0->bR,underlying27->bS,underlying3->bT,underlying4->bU,underlying51->bV,underlying77->bW,zeroValue0->bX,zeroValue27->bY,zeroValue3->bZ,zeroValue4->b9
open Go.RowKit renaming intOf->cB
open Go.RowKit.Below renaming refl->cA
open Go.Sort renaming ahead->cC,putCells->cD
open Go.Value renaming func->cG,int->cH
open Go.World renaming cell?->cJ,drew->cL,frozen?->cM,setRow->cN,shape?->cO
open Int renaming toNat->dB
open List renaming all_eq_true->dD,any_append->dE,any_eq_true->dF,append_assoc->dG,append_nil->dH,contains_eq_mem->dI,contains_iff_mem->dJ,drop->dK,drop_drop->dL,eq_nil_of_length_eq_zero->dM,ext_getElem?->dN,filter_append->dO,filter_cons->dP,filter_eq_self->dQ,find?_cons->dR,find?_some->dT,findIdx?_eq_none_iff->dU,findIdx?_eq_some_iff_getElem->dV,foldl->dW,foldl_append->dX,foldl_cons->dY,getD_eq_getElem?_getD->dZ,getElem?_append_left->eA,getElem?_append_right->eB,getElem?_cons_zero->eC,getElem?_drop->eD,getElem?_eq_getElem->eE,getElem?_eq_none->eF,getElem?_eq_some_iff->eG,getElem?_map->eH,getElem?_set_ne->eI,getElem?_set_self->eJ,getElem?_take_of_lt->eK,getElem_range->eL,head?_drop->eM,length->eN,length_append->eO,length_cons->eP,length_filterMap_le->eQ,length_filter_le->eR,length_map->eS,length_nil->eT,length_range->eU,length_take->eV,map_append->eW,map_cons->eX,map_map->eY,map_nil->eZ,mem_append->fA,mem_append_left->fB,mem_append_right->fC,mem_cons->fD,mem_cons_of_mem->fE,mem_cons_self->fF,mem_iff_getElem?->fG,mem_map->fH,mem_of_getElem?->fI,mem_of_mem_drop->fJ,mem_of_mem_take->fK,mem_range->fL,mem_singleton->fM,mem_take_iff_getElem->fN,mergeSort_perm->fO,nodup_append->fP,nodup_cons->fQ,nodup_nil->fR,not_mem_nil->fS,pairwise_map->fT,perm_ext_iff_of_nodup->fU,range->fV,replicate->fW,size_toArray->fX,take->fY,take_add_one->fZ,take_append_drop->gB,take_append_of_le_length->gC,take_left'->gD,take_length->gE,take_of_length_le->gF,take_one->gG,take_succ_cons->gH,take_take->gI,take_zero->gJ,toList_toArray->gK
open List.Pairwise renaming imp->dC
open Mu renaming ABlk->gL,Block->gX,CGraph->gY,Func->iF,HRel->iG,Pair->iQ
open Mu.ABlk renaming fz->gN,live->gO,mrk->gP,ver->gQ
open Mu.AV renaming cl->gR,fz->gT,rel->gU
open Mu.Awp renaming region->gV,upto->gW
open Mu.Cut renaming cons->gZ,dead->g8,nil->g9
open Mu.Ext renaming grow->hZ,set->iA
open Mu.Fin renaming cl->iB,own->iC
open Mu.Fit renaming bool->iD,int->iE
open Mu.M renaming bnd->iH,chk->iI,cnd->iJ,loop->iK,ok->iL,to_whn->iM,whn->iN
open Mu.One renaming lit->iO,own->iP
open Mu.St.le renaming refl->iR,trans->iS
open Mu.Ty renaming below->iT,bool->iU
open Nat renaming le_antisymm->iV,le_of_ble_eq_true->iW,le_of_not_lt->iX,le_refl->iY,le_trans->iZ,lt_of_lt_of_le->i6,lt_or_ge->i7,lt_succ_self->i8,min_eq_left->i9,mul_one->jA,zero_add->jB,zero_le->jC
open Option renaming isSome_iff_exists->jD,isSome_map->jE,none->jF,some->jG,toList_some->jI
open Option.some renaming injEq->jH
abbrev Mu.zam:=And.intro @and_self (And.intro @and_true (And.intro @true_and (@false_and)))
abbrev Mu.zaf.{u}:=And.intro @List.drop_zero.{u} (And.intro @gH.{u} (And.intro @gJ.{u} (And.intro @List.set_cons_succ.{u} (And.intro @List.set_cons_zero.{u} (And.intro @if_true.{u} (@if_false.{u}))))))
namespace Mu
open Go Go.RowKit Go.Proofs
variable{a:Int}{all:List (List (List Int))}{b:Int}{bs:List gX}{f:iF}{j:Nat}{l:List Int}{n:Int}{q:Nat}{r:Bool}{x y:Ins}
def E8(x:Ins):Bool:=wfB .u8 x.op&&wfB .i64 x.d&&wfB .i64 x.a&&wfB .i64 x.b&&wfB .u32 x.n&&wfB .i64 x.f&&wfB .i64 x.l1&&wfB .i64 x.l2&&x.args.all (wfB .i64)
def LQ(b:gX):Bool:=Azr b.name&&b.ins.all E8
def WB(f:iF):Bool:=Azr f.name&&wfB .i64 f.args&&wfB .i64 f.regs&&f.blocks.all LQ
def Ad8(b:gX):Bool:=aL (b.ins.length+1<=2097152)&&b.ins.all λx=>decide (x.args.length+8<=2097152)
def Ad7(f:iF):Bool:=aL (f.blocks.length<=2097152)&&f.blocks.all Ad8
def MZ(f:iF):Bool:=WB f&&Ad7 f&&aL ((Cg f).length<=2097152)&&aL ((NE f).length<=2097152)
theorem DH:E8 x=aK↔okIns x:=by
 unfold E8;simp only[aG,dD];exact⟨λ⟨⟨⟨⟨⟨⟨⟨⟨a,b⟩,c⟩,d⟩,e⟩,f⟩,g⟩,i⟩,j⟩=>⟨a,b,c,d,e,f,g,i,j⟩,λh=>⟨⟨⟨⟨⟨⟨⟨⟨h.op,h.d⟩,h.a⟩,h.b⟩,h.n⟩,h.f⟩,h.l1⟩,h.l2⟩,h.args⟩⟩
theorem Jj{b:gX}:LQ b=aK↔okBlock b:=by
 unfold LQ;simp only[aG,dD];exact⟨λ⟨a,b⟩=>⟨Adu a,λx hx=>DH.1 (b x hx)⟩,λh=>⟨decide_eq_true h.name,λx hx=>DH.2 (h.ins x hx)⟩⟩
theorem Ph:WB f=aK↔okFunc f:=by
 unfold WB;simp only[aG,dD];exact⟨λ⟨⟨⟨a,b⟩,c⟩,d⟩=>⟨Adu a,b,c,λx hx=>Jj.1 (d x hx)⟩,λh=>⟨⟨⟨decide_eq_true h.name,h.args⟩,h.regs⟩,λx hx=>Jj.2 (h.blocks x hx)⟩⟩
structure FineF(f:Func):Prop where
 ok:okFunc f
 small:smallF f
 reads:(Cg f).length<=2097152
 all:(NE f).length<=2097152
 ins:∀b∈f.blocks,b.ins.length+1<=2097152
theorem BM:MZ f=aK↔FineF f:=by
 unfold MZ Ad7 Ad8;simp only[dD,zag];exact⟨λ⟨⟨⟨a,b,c⟩,d⟩,e⟩=>⟨Ph.1 a,⟨b,λx hx=>⟨Nat.le_of_succ_le (c x hx).1,(c x hx).2⟩⟩,d,e,λx hx=>(c x hx).1⟩,
  λh=>⟨⟨⟨Ph.2 h.ok,h.small.blocks,λx hx=>⟨h.ins x hx,(h.small.all x hx).all⟩⟩,h.reads⟩,h.all⟩⟩
def ME(x:Ins):M (Int×Bool):=iI (E8 x) (iL (if Bd x then x.d else 0,Bd x))
theorem TP{r:Int×Bool}(H:(ME x).to r):Fn bK 44 [.agg (BZ x)] (.tup [.lit (.int .i64 r.1),.lit (.bool r.2)]):=by
 obtain⟨c,H⟩:=Aj.1 H;obtain rfl:=Ac.1 H;exact Fz x (DH.1 c)
def Ae3(f:iF):M (List (List (List Int))):=iI (MZ f) (iL (PY f))
theorem Ae2{r:List (List (List Int))}(H:(Ae3 f).to r):Fn bK 33 [.agg (Ak f)] (.bs tInt.slice.slice r):=by
 obtain⟨c,H⟩:=Aj.1 H;obtain rfl:=Ac.1 H;have c:=BM.1 c;exact Y6 f c.ok c.small c.reads
def O4(f:iF):M Bool:=iI (MZ f) (iL (CI f))
theorem Wm(H:(O4 f).to r):Fn bK 7 [.agg (Ak f)] (.lit (.bool r)):=by
 obtain⟨c,H⟩:=Aj.1 H;obtain rfl:=Ac.1 H;have c:=BM.1 c;exact Aao f c.ok c.small c.all
def CG(f:iF)(leaf:Bool)(l:List Int):List (List Int):=l.map λr=>Br (B9 f) r leaf
theorem Xf(f:iF)(leaf:Bool){k:Nat}{r:Int}(h:l[k]? =jG r):CG f leaf (l.take (k+1))=CG f leaf (l.take k)++[Br (B9 f) r leaf]:=by
 unfold CG;rw[fZ,h,eW];rfl
theorem NA(f:iF)(leaf:Bool)(u:okFunc f)(t:smallF f)(v:(Cg f).length<=2097152)(m:∀b∈f.blocks,b.ins.length+1<=2097152)(A:(NE f).length<=2097152):Fn bK 37 [.agg (Ak f),.lit (.bool leaf)] (.bs tInt.slice (CG f leaf (regsB f))):=by
 have o:(B9 f).length<=2147483648:=by have:=Rm f;have:=iZ (Dr _) v;unfold BA at *;omega
 have w:(regsB f).length<=2097158:=by
  have h1:=Aer f;have h2:=Oh (argsK f);have H:=(GG f).2;unfold Acr at h1;rw[eO]at h1;omega
 refine AQ Tryz.func37 V (by kernel_rfl) V Tryz.ntmps37 λC G=>?_
 refine nS ?_;refine rCS ?_;refine Ab λL h2=>?_
 (refine gV ?_;(repeat(first|refine sQ ?_ (AT.call V (Al8 f u t v m) V V V)|refine sQ ?_ (Ax V V V V)|refine sQ ?_ (Av V V V V)|refine sQ ?_|refine AO ?_|refine sG ?_|refine Bq ?_));refine Au ?_)
 refine h2 _ ?_;refine nT ?_;refine rCS ?_;refine Ab λK E=>?_
 refine Ab λJ D=>?_
 (refine gV ?_;(repeat(first|refine sQ ?_ (AT.call V (LB f u t A) V V V)|refine sQ ?_ (Ax V V V V)|refine sQ ?_ (Av V V V V)|refine sQ ?_|refine AO ?_|refine sG ?_|refine Bq ?_));refine Au ?_)
 refine D _ ?_;refine nT ?_;refine Ad ?_;refine AH (λp:Nat×Nat=>⟨(.any::.lit (.bool leaf)::.ptr 0 0::A2 (.bs tInt (B9 f)::.own 1 p.2::A5 (.bs tInt (regsB f)::.lit (.int .i64 ((regsB f).length:Int))::.lit (.int .i64 (p.1:Int))::A10 (A2 [])))),[.box (Ak f),.row p.2 27 tInt.slice (CG f leaf ((regsB f).take p.1))]⟩) (λp=>p.1<=(regsB f).length) (λp=>(regsB f).length - p.1) (0,0) (jC _) ((CC 6 27 tInt.slice V (by decide)).trans (BX)) ?_;rintro⟨k,ver⟩ hk;dsimp only at hk⊢;refine rCS ?_;refine Ab λI B=>?_
 refine Ah V (λc=>?_) (λc=>?_)
 ·have g:k < (regsB f).length:=by simpa using c
  obtain⟨r,z⟩:∃r,(regsB f)[k]? =jG r:=⟨_,eE g⟩
  have d:=Xf f leaf z;have h:(CG f leaf ((regsB f).take k)).length<=2097158:=by unfold CG;rw[eS,eV];omega
  generalize CG f leaf ((regsB f).take k)=L0 at d h⊢;refine Al ?_;refine B _ ?_;refine nT ?_;refine Ab λF s=>?_
  refine Ad ?_;refine rCS ?_
  (refine gV ?_;(repeat(first|refine sQ ?_ (AT.call V (Wp (B9 f) r leaf (Rn f) o) V V V)|refine sQ ?_ (Ax V V V V)|refine sQ ?_ (Av V V V V)|refine sQ ?_|refine AO ?_|refine sG ?_|refine Bq ?_));refine Au ?_)
  refine s _ ?_;refine nT ?_;refine rC ?_;refine Ap ⟨(k+1,ver+1),by dsimp only;omega,by dsimp only;omega,?_⟩;dsimp only;rw[d];exact BX
 ·have i:k=(regsB f).length:=by have:¬k < (regsB f).length:=(by simpa using c);omega
  have e:CG f leaf (regsB f)=CG f leaf ((regsB f).take k):=by rw[i,gE]
  refine Ay ?_;refine E _ ?_;refine nT ?_;refine rCS ?_;refine Aw ?_;rw[e];exact⟨.inr V,iC V⟩
theorem Ap4:∀(w:cI) (S S':Nat->Prop) (cs:List cF) (d:Int),tInt.RS w S cs d->tInt.RS w S' cs d:=λ_ _ _ _ _ h=>DN.2 (DN.1 h)
theorem WL(l:List Int)(n:Int)(t:l.length<=2097160):Fn bK 64 [.bs tInt l,.lit (.int .i64 n)] (.lit (.bool (l.contains n))):=by
 refine AQ Tryz.func64 V (by kernel_rfl) V Tryz.ntmps64 λC u=>?_
 refine nS ?_;refine rCS ?_;refine Ab λz h2=>?_
 refine rCS ?_;refine Ad ?_;refine AH (λi:Nat=>⟨(.bs tInt l::.lit (.int .i64 n)::A3 (.lit (.int .i64 (i:Int))::A10 (A2 []))),[]⟩) (λi=>i<=l.length/\(l.take i).contains n=aH) (λi=>l.length - i) 0 ⟨jC _,rfl⟩ (BX) ?_;rintro i ⟨hi,hc⟩;refine Ab λw s=>?_
 refine rCS ?_;refine Ah V (λm=>?_) (λm=>?_)
 ·have g:i < l.length:=by simpa using m
  obtain⟨x,hx⟩:∃x,l[i]? =jG x:=⟨_,eE g⟩
  refine Al ?_;refine s _ ?_;refine nT ?_;refine Ab λv o=>?_
  refine Ad ?_;refine rCS ?_;refine Ah V (λd=>?_) (λd=>?_)
  ·have c:x=n:=by simpa using d
   have k:l.contains n=aK:=by rw[<-c];exact dJ.2 (fI hx)
   refine rCS ?_;refine Aw ?_;rw[k];exact⟨.inr V,iB V⟩
  ·have c:¬x=n:=by simpa using d
   refine Al ?_;refine o _ ?_;refine nT ?_;refine rC ?_;refine Ap ⟨i+1,⟨by omega,?_⟩,by omega,BX⟩;rw[fZ,hx,dI]at *;simp only[jI,fA,fD,fS,or_false,decide_eq_false_iff_not,not_or]at hc⊢;exact⟨by simpa[dI]using hc,λe=>c e.symm⟩
 ·have h:i=l.length:=by have:¬i < l.length:=(by simpa using m);omega
  rw[h,gE]at hc;refine Ay ?_;refine h2 _ ?_;refine nT ?_;refine rCS ?_;refine Aw ?_;rw[hc];exact⟨.inr V,iB V⟩
def Mb(n:Int)(k:Nat):List Int:=(fV k).map λ(j:Nat)=>n+(j:Int)
theorem Aas(n:Int)(k:Nat):Mb n (k+1)=Mb n k++[n+(k:Int)]:=by unfold Mb;rw[List.range_succ,eW];rfl
theorem Ag8(n:Int)(k:Nat):(Mb n k).length=k:=by simp[Mb]
theorem MW(n:Int)(m:Nat)(w:0<=n)(h:n<=100)(z:m<=100):JK bK 104 [.lit (.int .i64 n),.lit (.int .i64 (m:Int))] 3 tInt (Mb n m):=by
 refine El Tryz.func104 V (by kernel_rfl) V Tryz.ntmps104 Ap4 λC A=>?_
 refine nS ?_;refine rCS ?_;refine rCS ?_;refine Ab λE u=>?_
 refine rCS ?_;refine Ad ?_;refine AH (λp:Nat×Nat=>⟨(.lit (.int .i64 n)::.lit (.int .i64 (m:Int))::A3 (.own 0 p.2::.lit (.int .i64 (p.1:Int))::A10 (A2 []))),[.row p.2 3 tInt (Mb n p.1)]⟩) (λp=>p.1<=m) (λp=>m - p.1) (0,0) (jC _) ((CC 5 3 tInt V (by decide)).trans (BX)) ?_;rintro⟨i,ver⟩ hi;dsimp only at hi⊢;refine Ab λD t=>?_
 refine rCS ?_;refine Ah V (λc=>?_) (λc=>?_)
 ·have o:i < m:=by simpa using c
  have v:wfI .i64 (n+(i:Int)):=by
   obtain⟨k,rfl⟩:∃k:Nat,n=(k:Int):=⟨n.toNat,by omega⟩
   exact LU (k:=k+i) (by omega)
  have e:=Ag8 n i;have d:=Aas n i;generalize Mb n i=L0 at e d⊢;refine Al ?_;refine t _ ?_;refine nT ?_;refine Ab λB s=>?_
  refine Ad ?_;refine rC ?_;refine s _ ?_;refine nT ?_;refine rC ?_;refine Ap ⟨(i+1,ver+1),by dsimp only;omega,by dsimp only;omega,?_⟩;dsimp only;rw[d];exact BX
 ·have g:i=m:=by have:¬i < m:=(by simpa using c);omega
  subst g;refine Ay ?_;refine u _ ?_;refine nT ?_;refine rCS ?_;refine Aw ?_;exact⟨.inr V,rfl,_,_,rfl,rfl⟩
theorem Als:Mb 8 6= [8,9,10,11,12,13]:=by decide
theorem Alq:Mb 16 8=Aga:=by decide
theorem Alr:Mb 24 6=Agq:=by decide
theorem TX(f:iF)(r:Int)(leaf:Bool)(w:okFunc f)(v:smallF f)(m:(Cg f).length<=2097152)(h:∀b∈f.blocks,b.ins.length+1<=2097152):Fn bK 70 [.agg (Ak f),.lit (.int .i64 r),.lit (.bool leaf)] (.bs tInt (Br (B9 f) r leaf)):=by
 have i:(B9 f).length<=2097160:=by have:=Rm f;have:=iZ (Dr _) m;unfold BA at *;omega
 have t:JK bK 104 [.lit (.int .i64 8),.lit (.int .i64 6)] 3 tInt (Mb 8 6):=MW 8 6 (by decide) (by decide) (by decide);have s:JK bK 104 [.lit (.int .i64 16),.lit (.int .i64 8)] 3 tInt (Mb 16 8):=MW 16 8 (by decide) (by decide) (by decide);have o:JK bK 104 [.lit (.int .i64 24),.lit (.int .i64 6)] 3 tInt (Mb 24 6):=MW 24 6 (by decide) (by decide) (by decide);rw[Als]at t;rw[Alq]at s;rw[Alr]at o;have g:=o.fn;have A:Aga.length+Agq.length<=cY:=by decide
 have z:(Aga.length+Agq.length) * 8<=140737488355328:=by decide
 have u:wfI .i64 4:=Aua (by decide);have e:=WL (B9 f) r i;have hc:=Abe f w v m h;rw[C4];refine AQ Tryz.func70 V (by kernel_rfl) V Tryz.ntmps70 λC E=>?_
 refine nS ?_;refine rCS ?_;refine Ab λP h2=>?_
 (refine gV ?_;(repeat(first|(refine AF V (Lj V t (by decide) V V ?_);refine sNt ?_)|refine sQ ?_ (Ax V V V V)|refine sQ ?_ (Av V V V V)|refine sQ ?_|refine AO ?_|refine sG ?_|refine Bq ?_));refine Au ?_)
 refine h2 _ ?_;refine nT ?_;refine Ab λO I=>?_
 refine gV ?_;refine AF V (Lj V s (by decide) V V ?_);refine sNt ?_
 (repeat(first|refine sQ ?_ (AT.call V g V V V)|refine sQ ?_ (Ax V V V V)|refine sQ ?_ (Av V V V V)|refine sQ ?_|refine AO ?_|refine sG (hq:=by(intro hg;(try simp only[Bool.and_eq_true,beq_iff_eq]at hg);(try simp only[hg,Bool.true_and,zaj]);exact AT.call V g V V V)) ?_|refine sG ?_|refine Bq ?_))
 refine Au ?_;refine I _ ?_;refine nT ?_;refine Ab λN H=>?_
 refine rCS ?_;refine Ah V (λd=>?_) (λd=>?_)
 ·refine rCS ?_;refine Aw ?_;rw[if_pos d];exact⟨.inr V,iC V⟩
 ·have d:leaf=aH:=d;refine Al ?_;refine H _ ?_;refine nT ?_;refine Ab λL G=>?_
  refine Ab λK F=>?_
  (refine gV ?_;(repeat(first|refine sQ ?_ (AT.call V hc V V V)|refine sQ ?_ (AT.call V e V V V)|refine sQ ?_ (Ax V V V V)|refine sQ ?_ (Av V V V V)|refine sQ ?_|refine AO ?_|refine sG (hq:=by(intro hg;(try simp only[Bool.and_eq_true,beq_iff_eq]at hg);(try simp only[hg,Bool.true_and,zaj]);exact AT.call V hc V V V)) ?_|refine sG (hq:=by(intro hg;(try simp only[Bool.and_eq_true,beq_iff_eq]at hg);(try simp only[hg,Bool.true_and,zaj]);exact AT.call V e V V V)) ?_|refine sG ?_|refine Bq ?_));refine Au ?_)
  refine F _ ?_;refine nT ?_;refine Ah V (λc=>?_) (λc=>?_)
  ·have c:(B9 f).contains r=aK:=c;refine rCS ?_;refine Aw ?_;rw[if_neg (by rw[d];simp),if_pos c];exact⟨.inr V,iC V⟩
  ·have c:(B9 f).contains r=aH:=c;refine Al ?_;refine G _ ?_;refine nT ?_;refine Ab λJ k=>?_
   refine AK _ (Ou E 2 V) ?_;refine AK ⟨(A3 (.ptr 0 0::A3 (.own 1 1::.bs tInt Ik::A10 (A6 [])))),[.box (Ak f),.row 1 3 tInt WT,.dead]⟩ (BX) ?_;have D:WT.length+Ik.length<=cY:=by decide
   have B:(WT.length+Ik.length) * 8<=140737488355328:=by decide
   refine rC ?_;refine k _ ?_;refine nT ?_;refine Aw ?_;rw[if_neg (by rw[d];simp),if_neg (by rw[c];simp)];exact⟨.inr V,iC V⟩
theorem TG(c:(NE f).length<=2097152):(AL f).length<=2097152:=iZ (FI _).1 c
theorem Aet(c:okFunc f):Bg (AL f):=(FI _).2 (Xq c)
theorem Af7(f:iF)(n:Nat):Um f (n+1)=Um f n++if(aL ((n:Int) < f.args)||(AL f).contains (n:Int))=aK then [(n:Int)]else []:=by
 unfold Um;rw[Ui,dO,dP,List.filter_nil]
theorem Yp(f:iF)(n:Nat):(Um f n).length<=n:=by
 unfold Um;have:=eR (λr=>decide (r < f.args)||(AL f).contains r) (NV n);rw[Oh]at this;exact this
theorem Ko{p:Int->Bool}:∀{l:List Int} {k:Nat},(∀x∈l.take k,p x=aK)->(k=l.length\/∃x,l[k]? =jG x/\p x=aH)->l.takeWhile p=l.take k
 | [],k,_,_=>by simp
 |x::l,0,_,h=>by
  rcases h with h|⟨y,c,d⟩
  ·simp at h
  ·simp only[eC,jH]at c;subst c;rw[List.takeWhile_cons_of_neg (by rw[d];simp),gJ]
 |x::l,k+1,h1,h2=>by
  rw[gH,List.takeWhile_cons_of_pos (h1 x (by simp)),Ko (λy c=>h1 y (by rw[gH];exact fE _ c)) ?_];rcases h2 with h2|⟨y,c,d⟩
  ·exact .inl (by simpa using h2)
  ·exact .inr ⟨y,by simpa using c,d⟩
theorem ZJ(f:iF)(K:okFunc f)(hs:smallF f)(Q:(NE f).length<=2097152):Fn bK 32 [.agg (Ak f)] (.bs tInt (regsB f)):=by
 have ac:=TG Q;have E:=Aet K;rw[<-Hd];refine AQ Tryz.func32 V (by kernel_rfl) V Tryz.ntmps32 λC hC=>?_
 refine nS ?_;refine rCS ?_;refine Ab λK2 h2=>?_
 (refine gV ?_;(repeat(first|refine sQ ?_ (AT.call V (OZ f K hs Q) V V V)|refine sQ ?_ (Ax V V V V)|refine sQ ?_ (Av V V V V)|refine sQ ?_|refine AO ?_|refine sG (hq:=by(intro hg;(try simp only[Bool.and_eq_true,beq_iff_eq]at hg);(try simp only[hg,Bool.true_and,zaj]);exact AT.call V (OZ f K hs Q) V V V)) ?_|refine sG ?_|refine Bq ?_));refine Au ?_)
 refine h2 _ ?_;refine nT ?_;refine rCS ?_;refine Ab λK4 h4=>?_
 refine rCS ?_;refine Ad ?_;refine AH (λp:Nat×Nat=>⟨(.any::.ptr 0 0::.any::.bs tInt (AL f)::.own 1 p.2::.lit (.int .i64 (p.1:Int))::A40 (A20 [])),[.box (Ak f),.row p.2 3 tInt ((AL f).take p.1)]⟩) (λp=>p.1<=(AL f).length/\∀x∈(AL f).take p.1,aL (x < 0)=aK) (λp=>(AL f).length - p.1) (0,0) ⟨jC _,λx hx=>by cases hx⟩ ((CC 4 3 tInt V (by decide)).trans (BX)) ?_;rintro⟨i,ver⟩ ⟨hi,g⟩
 (try dsimp only at hi);(try dsimp only at g);(try dsimp only)
 obtain⟨x,H⟩:∃x,(AL f).getD i 0=x:=⟨_,rfl⟩
 have w:aL ((i:Int) < ((AL f).length:Int))=aK->(AL f)[i]? =jG x:=λh=>by
  have h:(i:Int) < ((AL f).length:Int):=of_decide_eq_true h;have m:i < (AL f).length:=by omega
  rw[<-H,dZ,eE m];rfl
 refine Ab λK7 h7=>?_
 refine Ab λK8 h8=>?_
 (refine gV ?_;(repeat(first|refine sQ ?_ (IA V V V V (w hg))|refine sQ ?_ (Ax V V V V)|refine sQ ?_ (Av V V V V)|refine sQ ?_|refine AO ?_|refine sG (hq:=by(intro hg;(try simp only[Bool.and_eq_true,beq_iff_eq]at hg);(try simp only[hg,Bool.true_and,zaj]);exact IA V V V V (w hg))) ?_|refine sG ?_|refine Bq ?_));refine Au ?_)
 refine h8 _ ?_;refine nT ?_;refine Ah V (λd=>?_) (λd=>?_)
 ·have d:(aL ((i:Int) < ((AL f).length:Int))&&aL (x < 0))=aK:=d;rw[aG]at d;have hx:=w d.1;have I:=d.2;have m:=(eG.1 hx).1;have ab:=E x (fI hx);have A:(AL f).take (i+1)=(AL f).take i++[x]:=by rw[fZ,hx];rfl
  have J:((AL f).take i).length<=2097152:=by rw[eV];omega
  generalize af:(AL f).take i=T0 at A J g⊢;refine Al ?_;refine h7 _ ?_;refine nT ?_;refine Ab λan Z=>?_
  refine Ad ?_;refine rC ?_;refine Z _ ?_;refine nT ?_;refine rC ?_;refine Ap ⟨(i+1,ver+1),⟨by dsimp only;omega,?_⟩,by dsimp only;omega,?_⟩
  ·try dsimp only
   rw[A];intro y hy;rcases fA.1 hy with hy|hy
   ·exact g y hy
   ·rw[fM.1 hy];exact I
  ·try dsimp only
   rw[A];exact BX
 ·have d:(aL ((i:Int) < ((AL f).length:Int))&&aL (x < 0))=aH:=d;have D:(AL f).takeWhile (λr=>decide (r < 0))=(AL f).take i:=by
   refine Ko g ?_;by_cases m:i < (AL f).length
   ·refine .inr ⟨x,w (decide_eq_true (by omega)),?_⟩;rw[decide_eq_true (by omega:(i:Int) < ((AL f).length:Int)),Bool.true_and]at d;exact d
   ·exact .inl (by omega)
  rw[<-D];have S:((AL f).takeWhile λr=>decide (r < 0)).length<=2097152:=by rw[D,eV];omega
  generalize hT:(AL f).takeWhile (λr=>decide (r < 0))=TW at S⊢;refine Ay ?_;refine h4 _ ?_;refine nT ?_;refine Ab λam Y=>?_
  refine rCS ?_;refine Ad ?_;refine AH (λp:Nat×Nat=>⟨(.any::.ptr 0 0::.any::.bs tInt (AL f)::.own 1 p.2::.any::.lit (.int .i64 (p.1:Int))::A40 (A10 (A9 []))),[.box (Ak f),.row p.2 3 tInt (TW++Um f p.1)]⟩) (λp=>p.1<=6) (λp=>6 - p.1) (0,ver) (jC _) (by rw[show TW++Um f (0,ver).1=TW by simp[Um,NV]];exact BX) ?_;rintro⟨n,e⟩ hn
  (try dsimp only at hn);(try dsimp only)
  have ad:=LU (k:=n) (by omega);have ae:=Yp f n;have L:=Af7 f n;refine Ab λal X=>?_
  refine rCS ?_;refine Ah V (λv=>?_) (λv=>?_)
  ·have m:n < 6:=by have:(n:Int) < 6:=(by simpa using v);omega
   have B:(TW++Um f n).length<=2097160:=by rw[eO];omega
   have c:TW++Um f (n+1)=(TW++Um f n)++if(aL ((n:Int) < f.args)||(AL f).contains (n:Int))=aK then [(n:Int)]else []:=by rw[L,dG]
   generalize TW++Um f n=R0 at B c⊢;refine Al ?_;refine X _ ?_;refine nT ?_;refine Ab λak G=>?_
   refine Ad ?_;refine Ab λaj W=>?_
   (refine gV ?_;(repeat(first|refine sQ ?_ (AT.call V (WL (AL f) (n:Int) (by omega)) V V V)|refine sQ ?_ (Ax V V V V)|refine sQ ?_ (Av V V V V)|refine sQ ?_|refine AO ?_|refine sG (hq:=by(intro hg;(try simp only[Bool.and_eq_true,beq_iff_eq]at hg);(try simp only[hg,Bool.true_and,zaj]);exact AT.call V (WL (AL f) (n:Int) (by omega)) V V V)) ?_|refine sG ?_|refine Bq ?_));refine Au ?_)
   refine W _ ?_;refine nT ?_;refine Ah V (λu=>?_) (λu=>?_)
   ·rw[if_pos u]at c;refine rC ?_;refine G _ ?_;refine nT ?_;refine rC ?_;refine Ap ⟨(n+1,e+1),by dsimp only;omega,by dsimp only;omega,?_⟩;try dsimp only
    rw[c];exact BX
   ·rw[if_neg (by rw[show(aL ((n:Int) < f.args)||(AL f).contains (n:Int))=aH from u];simp),dH]at c;refine Al ?_;refine G _ ?_;refine nT ?_;refine rC ?_;refine Ap ⟨(n+1,e),by dsimp only;omega,by dsimp only;omega,?_⟩;try dsimp only
    rw[c];exact BX
  ·have N:n=6:=by have:¬(n:Int) < 6:=(by simpa using v);omega
   subst N;have B:(TW++Um f 6).length<=2097160:=by rw[eO];omega
   have o:MA f=TW++Um f 6++(AL f).filter (λr=>decide (r > 5)):=by unfold MA;rw[hT]
   generalize TW++Um f 6=R0 at B o⊢;refine Ay ?_;refine Y _ ?_;refine nT ?_;refine Ab λai U=>?_
   refine rCS ?_;refine Ad ?_;refine AH (λp:Nat×Nat=>⟨(.any::.ptr 0 0::.any::.bs tInt (AL f)::.own 1 p.2::A2 (.lit (.int .i64 (p.1:Int))::A40 (A10 (A8 [])))),[.box (Ak f),.row p.2 3 tInt (R0++((AL f).take p.1).filter λr=>decide (r > 5))]⟩) (λp=>p.1<=(AL f).length) (λp=>(AL f).length - p.1) (0,e) (jC _) (by rw[show(R0++((AL f).take (0,e).1).filter λr=>decide (r > 5))=R0 by simp];exact BX) ?_;rintro⟨k,z⟩ hk
   (try dsimp only at hk);(try dsimp only)
   refine Ab λah T=>?_
   refine rCS ?_;refine Ah V (λt=>?_) (λt=>?_)
   ·have m:k < (AL f).length:=by simpa using t
    obtain⟨y,hy⟩:∃y,(AL f)[k]? =jG y:=⟨_,eE m⟩
    have aa:=E y (fI hy);have P:(R0++((AL f).take k).filter λr=>decide (r > 5)).length<=4194320:=by
     have h1:=eR (λr:Int=>decide (r > 5)) ((AL f).take k);rw[eV]at h1;rw[eO];omega
    have c:(R0++((AL f).take (k+1)).filter λr=>decide (r > 5))=(R0++((AL f).take k).filter λr=>decide (r > 5))++if aL (y > 5)=aK then [y]else []:=by rw[D5 hy,dG]
    generalize (R0++((AL f).take k).filter λr=>decide (r > 5))=R1 at P c⊢;refine Al ?_;refine T _ ?_;refine nT ?_;refine Ab λag F=>?_
    refine Ad ?_;refine rCS ?_;refine Ah V (λs=>?_) (λs=>?_)
    ·rw[if_pos s]at c;refine rC ?_;refine F _ ?_;refine nT ?_;refine rC ?_;refine Ap ⟨(k+1,z+1),by dsimp only;omega,by dsimp only;omega,?_⟩;try dsimp only
     rw[c];exact BX
    ·rw[if_neg (by rw[show aL (y > 5)=aH from s];simp),dH]at c;refine Al ?_;refine F _ ?_;refine nT ?_;refine rC ?_;refine Ap ⟨(k+1,z),by dsimp only;omega,by dsimp only;omega,?_⟩;try dsimp only
     rw[c];exact BX
   ·have O:k=(AL f).length:=by have:¬k < (AL f).length:=(by simpa using t);omega
    subst O;rw[gE];refine Ay ?_;refine U _ ?_;refine nT ?_;refine rCS ?_;refine Aw ?_;rw[o];exact⟨.inr V,iC V⟩
def S7(x:Ins):Bool:=x.op ==5||x.op ==7
def Ea(l:List Ins):Bool:=l.any S7
def leaf(bs:List gX):Bool:=!(bs.any λb=>Ea b.ins)
theorem Un{l:List Ins}(c:l[j]? =jG y)(h:Ea (l.take j)=aH)(d:S7 y=aH):Hid (Ea (l.take (j+1))=aH):=by
 show Ea _=_;unfold Ea at h⊢;rw[fZ,c,dE,h];simp[d]
theorem Sj{l:List Ins}(c:l[j]? =jG y)(d:S7 y=aK):Ea l=aK:=by
 unfold Ea;rw[dF];exact⟨y,fI c,d⟩
theorem Us{x:gX}(hx:bs[q]? =jG x)(h:leaf (bs.take q)=aK)(c:Ea x.ins=aH):Hid (leaf (bs.take (q+1))=aK):=by
 show leaf _=_;unfold leaf at h⊢;rw[fZ,hx,dE];simp only[aJ]at h⊢;rw[h];simp[c]
theorem WH{x:gX}(hx:bs[q]? =jG x)(c:Ea x.ins=aK):leaf bs=aH:=by
 unfold leaf;simp only[aI,dF];exact⟨x,fI hx,c⟩
theorem Akb(fn:iF)(w:cI)(cs:List cF)(hR:Dh.R w w.heap.size cs fn)(hsm:Dh.bulk fn<=2097152):
 aM bK 14 #[.agg cs.toArray] w λe w'=>e= .returned (.bool (leaf fn.blocks))/\Below w.heap.size w w':=by
 obtain⟨A,c,rfl,_,_,_,hBR⟩:=OE.1 hR;have hbl:=GR fn;have HBR:=aW hBR;clear hR hBR
 go_enter Tryz.func14,Tryz.ntmps14
 go_wp2
 go_loopw [3] (λi wr=>∃q:Nat,q<=fn.blocks.length/\i= .int .i64 q/\Hid (leaf (fn.blocks.take q)=aK)/\Below (w.heap.size+1) (w.alloc (.cells [.string fn.name,.int .i64 fn.args,.int .i64 fn.regs,.slice A fn.blocks.length c].toArray 24)) wr) (λi _=>fn.blocks.length - (cB i).toNat)
 case atStart=>exact⟨0,jC _,rfl,rfl,cA _ _⟩
 case round=>
  obtain⟨q,hq,rfl,hno,hbe⟩:=hrel;obtain⟨hfar,hbox,_,_⟩:=Vc hbe;have hb3:=hbox 3 _ V;have HBE:=aW hbe;clear hbe hbox;by_cases hlt:q < fn.blocks.length
  ·obtain⟨x,hx⟩:∃x,fn.blocks[q]? =jG x:=⟨_,eE hlt⟩
   obtain⟨bb,bo,Ai,ci,rfl,hbb,_,hc1,_,hIR⟩:=YY HBR.out hx;have hil:=JB x;have hxb:=FC (fI hx);have HX:=aW hx;have HIR:=aW hIR;clear hx hIR
   go_wp2
   obtain⟨wo,rfl⟩:∃wo:cI,wo=wr:=⟨_,rfl⟩
   clear hfar hb3
   go_loopw [4] (λi wr=>∃j:Nat,j<=x.ins.length/\i= .int .i64 j/\Hid (Ea (x.ins.take j)=aH)/\Below (w.heap.size+1) (w.alloc (.cells [.string fn.name,.int .i64 fn.args,.int .i64 fn.regs,.slice (jG ⟨bb,bo,jF⟩) fn.blocks.length c].toArray 24)) wr) (λi _=>x.ins.length - (cB i).toNat)
   case atStart=>exact⟨0,jC _,rfl,rfl,HBE.out⟩
   case round=>
    obtain⟨j,hj,rfl,hno2,hbe⟩:=hrel;obtain⟨hfar,hbox,hlt0,_⟩:=Vc hbe;have hb3:=hbox 3 _ V;have HBE2:=aW hbe;clear hbe hbox;by_cases hlt2:j < x.ins.length
    ·obtain⟨y,hy⟩:∃y,x.ins[j]? =jG y:=⟨_,eE hlt2⟩
     obtain⟨ib,io,Aa,ca,rfl,hib,e0,_⟩:=Agp (HIR.out) hy;have HY:=aW hy;clear hy;by_cases h5:y.op=5
     ·have d5:(y.op ==5)=aK:=by simp[h5]
      have HL:Hid (S7 y=aK):=by simp[Hid,S7,h5]
      clear h5
      go_wp2
      go_ret
      exact⟨DE (WH HX.out (Sj HY.out HL.out)).symm,(Vc HBE2.out).2.2.2⟩
     ·have d5:(y.op ==5)=aH:=by simp[h5]
      by_cases h7:y.op=7
      ·have d7:(y.op ==7)=aK:=by simp[h7]
       have HL:Hid (S7 y=aK):=by simp[Hid,S7,h7]
       clear h5 h7
       go_wp2
       go_ret
       exact⟨DE (WH HX.out (Sj HY.out HL.out)).symm,(Vc HBE2.out).2.2.2⟩
      ·have d7:(y.op ==7)=aH:=by simp[h7]
       have HL:Hid (S7 y=aH):=by simp[Hid,S7,h5,h7]
       clear h5 h7
       go_wp2
       go_roundw
       case rel=>exact⟨j+1,by omega,by go_num,Un HY.out hno2.out HL.out,HBE2.out⟩
       case measure=>simp[cB];omega
    ·obtain rfl:j=x.ins.length:=by omega
     go_wp2
     go_roundw
     case rel=>exact⟨q+1,by omega,by go_num,Us HX.out hno.out (by have:=hno2.out;rwa [gE]at this),HBE2.out⟩
     case measure=>simp[cB];omega
  ·obtain rfl:q=fn.blocks.length:=by omega
   go_wp2
   go_ret
   have hno':=hno.out;rw[gE]at hno';exact⟨DE hno'.symm,(Vc HBE.out).2.2.2⟩
theorem Ur(y:Ins)(w:cI)(cs:List cF)(hR:Em.R w w.heap.size cs y):
 aM bK 47 #[.agg cs.toArray] w λe w'=>e= .returned (.bool (S7 y))/\Below w.heap.size w w':=by
 obtain⟨A,c,hI⟩:=IV.1 hR;obtain rfl:=hI.cs;clear hR hI;have hB:Hid (Below w.heap.size w (w.alloc (.cells [.int .u8 y.op,.int .i64 y.d,.int .i64 y.a,.int .i64 y.b,.int .u32 y.n,.int .i64 y.f,.slice A y.args.length c,.int .i64 y.l1,.int .i64 y.l2].toArray 47))):=(cA _ _).alloc (iY _) _;by_cases h5:y.op=5
 ·have d5:(y.op ==5)=aK:=by simp[h5]
  have HL:Hid (S7 y=aK):=by simp[Hid,S7,h5]
  clear h5
  go_enter bA,bJ
  go_wp2
  go_ret
  exact⟨DE HL.out.symm,hB.out⟩
 ·have d5:(y.op ==5)=aH:=by simp[h5]
  by_cases h7:y.op=7
  ·have d7:(y.op ==7)=aK:=by simp[h7]
   have HL:Hid (S7 y=aK):=by simp[Hid,S7,h7]
   clear h5 h7
   go_enter bA,bJ
   go_wp2
   go_ret
   exact⟨DE HL.out.symm,hB.out⟩
  ·have d7:(y.op ==7)=aH:=by simp[h7]
   have HL:Hid (S7 y=aH):=by simp[Hid,S7,h5,h7]
   clear h5 h7
   go_enter bA,bJ
   go_wp2
   go_ret
   exact⟨DE HL.out.symm,hB.out⟩
def Ar3(w:cI)(b:Bool)(e:Ending)(w':cI):Prop:=∃z:Int,e= .returned (.int .i64 z)/\aL (0<=z)=b/\Below w.heap.size w w'
theorem Aad(l:List Ins)(va:cF)(w:cI)(hR:Em.slice.R w w.heap.size [va] l)(hl:l.length<=2097152):
 aM bK 81 #[va,.func (.func 47) #[] #[]] w (Ar3 w (Ea l)):=by
 obtain⟨A,c,rfl⟩:=Ck hR;have HR:=aW hR;clear hR
 go_enter Tryz.func81,Tryz.ntmps81
 go_wp2_with fail
 go_loopw [8] (λi wr=>∃j:Nat,j<=l.length/\i= .int .i64 j/\Hid (Ea (l.take j)=aH)/\Below w.heap.size w wr) (λi _=>l.length - (cB i).toNat)
 case atStart=>exact⟨0,jC _,rfl,rfl,cA _ _⟩
 case round=>
  obtain⟨j,hj,rfl,hno,hbe⟩:=hrel;have hfar:=far hbe;have HBE:=aW hbe;clear hbe;by_cases hlt:j < l.length
  ·obtain⟨y,hy⟩:∃y,l[j]? =jG y:=⟨_,eE hlt⟩
   obtain⟨ib,io,Aa,ca,rfl,hib,e0,e1,e2,e3,e4,e5,e6,e7,e8,hraw⟩:=Agp (HR.out) hy;have hRw:Em.R wr wr.heap.size [.int .u8 y.op,.int .i64 y.d,.int .i64 y.a,.int .i64 y.b,.int .u32 y.n,.int .i64 y.f,.slice Aa y.args.length ca,.int .i64 y.l1,.int .i64 y.l2] y:=
    iT (IV.2 ⟨_,_,hraw⟩) HBE.out HBE.out.size
   have HY:=aW hy;have HRW:=aW hRw;clear hy hraw hRw;by_cases hL:S7 y=aK
   ·have HL:=aW hL;clear hL
    go_wp2_with fail
    refine(Ur y _ _ HRW.out).mono ?_;rintro e w1 ⟨rfl,hb1⟩;rw[HL.out];have HB1:=aW hb1;clear hb1
    go_wp2_with fail
    go_ret
    exact⟨_,rfl,by rw[Sj HY.out HL.out];simp,HBE.out.trans (HB1.out.mono HBE.out.size)⟩
   ·have hL':S7 y=aH:=by simpa using hL
    have HL:=aW hL';clear hL hL'
    go_wp2_with fail
    refine(Ur y _ _ HRW.out).mono ?_;rintro e w1 ⟨rfl,hb1⟩;rw[HL.out];have HB1:=aW hb1;clear hb1
    go_wp2_with fail
    go_roundw
    case rel=>exact⟨j+1,by omega,by go_num,Un HY.out hno.out HL.out,HBE.out.trans (HB1.out.mono HBE.out.size)⟩
    case measure=>simp[cB];omega
  ·obtain rfl:j=l.length:=by omega
   go_wp2_with fail
   go_ret
   have hno':=hno.out;rw[gE]at hno';exact⟨_,rfl,by rw[hno'];simp,HBE.out⟩
theorem Nt(l:List Ins)(va:cF)(w:cI)(hR:Em.slice.R w w.heap.size [va] l)(hl:l.length<=2097152):
 aM bK 46 #[va,.func (.func 47) #[] #[]] w λe w'=>e= .returned (.bool (Ea l))/\Below w.heap.size w w':=by
 have HR:=aW hR;clear hR
 go_enter Tryz.func46,Tryz.ntmps46
 go_wp2_with fail
 refine(Aad l va _ HR.out hl).mono ?_;rintro e w1 ⟨z,rfl,hz,hb1⟩;have HZ:=aW hz;have HB1:=aW hb1;clear hz hb1
 go_wp2_with fail
 go_ret
 exact⟨DE HZ.out,HB1.out⟩
theorem Alb(fn:iF)(w:cI)(cs:List cF)(hR:Dh.R w w.heap.size cs fn)(hsm:Dh.bulk fn<=2097152):
 aM bK 24 #[.agg cs.toArray] w λe w'=>e= .returned (.bool (leaf fn.blocks))/\Below w.heap.size w w':=by
 obtain⟨A,c,rfl,_,_,_,hBR⟩:=OE.1 hR;have hbl:=GR fn;have HBR:=aW hBR;clear hR hBR
 go_enter Tryz.func24,Tryz.ntmps24
 go_wp2_with fail
 go_loopw [8] (λi wr=>∃q:Nat,q<=fn.blocks.length/\i= .int .i64 q/\Hid (leaf (fn.blocks.take q)=aK)/\Below w.heap.size w wr) (λi _=>fn.blocks.length - (cB i).toNat)
 case atStart=>exact⟨0,jC _,rfl,rfl,(cA _ _).alloc (iY _) _⟩
 case round=>
  obtain⟨q,hq,rfl,hno,hbe⟩:=hrel;have hfar:=far hbe;have HBE:=aW hbe;clear hbe;by_cases hlt:q < fn.blocks.length
  ·obtain⟨x,hx⟩:∃x,fn.blocks[q]? =jG x:=⟨_,eE hlt⟩
   obtain⟨bb,bo,Ai,ci,rfl,hbb,hc0,hc1,_,hIR⟩:=YY HBR.out hx;have hil:=JB x;have hxb:=FC (fI hx);have HX:=aW hx;have HIR:=aW hIR;clear hx hIR;have hal:∀o,Hid (Below w.heap.size w (wr.alloc o)):=λo=>HBE.out.alloc HBE.out.size o
   by_cases hL:Ea x.ins=aK
   ·have HL:=aW hL;have HAL:=aW hal;clear hL hal
    go_wp2_with fail
    refine(Nt x.ins _ _ (iT HIR.out (HAL.out _).out (HAL.out _).out.size) (by omega)).mono ?_;rintro e w1 ⟨rfl,hb1⟩;rw[HL.out];have HB1:=aW hb1;clear hb1
    go_wp2_with fail
    go_ret
    exact⟨DE (WH HX.out HL.out).symm,(HAL.out _).out.trans (HB1.out.mono (HAL.out _).out.size)⟩
   ·have hL':Ea x.ins=aH:=by simpa using hL
    have HL:=aW hL';have HAL:=aW hal;clear hL hL' hal
    go_wp2_with fail
    refine(Nt x.ins _ _ (iT HIR.out (HAL.out _).out (HAL.out _).out.size) (by omega)).mono ?_;rintro e w1 ⟨rfl,hb1⟩;rw[HL.out];have HB1:=aW hb1;clear hb1
    go_wp2_with fail
    go_roundw
    case rel=>exact⟨q+1,by omega,by go_num,Us HX.out hno.out HL.out,(HAL.out _).out.trans (HB1.out.mono (HAL.out _).out.size)⟩
    case measure=>simp[cB];omega
  ·obtain rfl:q=fn.blocks.length:=by omega
   go_wp2_with fail
   go_ret
   have hno':=hno.out;rw[gE]at hno';exact⟨DE hno'.symm,HBE.out⟩
def Jg(l:List Int)(n:Int):Int->M (Int⊕((Unit)⊕(Bool))):=λc=>iJ (aL (c < (l.length:Int))) (iI (Ci l c) (iJ ((ixD l c) ==n) (iL (.inr (.inr aK))) (iL (.inl (aS.wrap (c+1)))))) (iL (.inr (.inl ())))
def O3(l:List Int)(n:Int):M Bool:=M.els (iK (Jg l n) 0) λ_=>iL aH
theorem RX(H:(O3 l n).to r):Fn bK 69 [.bs tInt l,.lit (.int .i64 n)] (.lit (.bool r)):=by
 delta O3 at H;try dsimp only at H
 refine AQ Tryz.func69 V (by kernel_rfl) V Tryz.ntmps69 λC E=>?_
 simp only[Nat.reduceAdd,Nat.reduceSub,zaa];refine wS (sT (wN ?_));obtain⟨w,s,o,m⟩:=CK H;refine Bi (β:=(Unit)×(Unit)) (λt=>w= .inl t.1) (λt=>⟨A10 (A8 []),[]⟩) ?_ ?_
 ·refine wS (sT (wN ?_));refine Ad ?_;refine BB s (λz F=>⟨.bs tInt l::.lit (.int .i64 n)::A3 (.lit (.int .i64 z)::A10 (A2 [])),[]⟩) () (?_) ?_
  ·try dsimp only
   exact AS
  ·rintro D _ B H g;try dsimp only
   dsimp only[Jg]at H;refine Ab λv i=>?_
   refine wS (sT (sT (sT (sT (wN ?_)))));refine Ah V (λd=>?_) (λd=>?_)
   ·have H:=AI d H;refine Al ?_;refine i _ ?_;refine nT ?_;refine Ab λu h=>?_
    refine Ad ?_;obtain⟨A,H⟩:=Aj.1 H;refine wS (sT (sT (sX A (sT (sT (sT (wN ?_)))))));refine Ah V (λc=>?_) (λc=>?_)
    ·have H:=AI c H;refine wS (sT (wN ?_));have H:=Ac.2 (m _ (g _ (Ac.1 H).symm).symm);obtain rfl:=Ac.1 H;exact Aw ⟨.inr V,iB V⟩
    ·have H:=AJ c H;refine Al ?_;refine h _ ?_;refine nT ?_;refine wSE (sT (sT (sT (wN ?_))));have k:=Ac.1 H;repeat(first|refine abN ?_|refine asN ?_)
     refine Ap ⟨_,(),k.symm,?_⟩;try dsimp only
     exact AS
   ·have H:=AJ d H;refine Ay ?_;repeat(first|refine BF ?_|refine exO (by decide) ?_|refine asE ?_)
    refine exN ?_;have k:=g _ (Ac.1 H).symm;repeat(first|refine abN ?_|refine asN ?_)
    refine Ap ⟨(_,()),k.symm,?_⟩;try dsimp only
    exact AS
 ·rintro⟨_,_⟩ e;try dsimp only at e
  have H:=o _ e;try dsimp only
  refine wS (sT (wN ?_));obtain rfl:=Ac.1 H;exact Aw ⟨.inr V,iB V⟩
def FY(f:iF)(all:List (List (List Int)))(a:Int)(b:Int)(d:Int):Int->M (Int⊕((Unit)⊕((Int)⊕((Unit)⊕(Bool))))):=λe=>iI (Ci f.blocks d) (iJ (aL (e < (((ixD f.blocks d).ins).length:Int))) (iI (Ci f.blocks d) (iI (Ci ((ixD f.blocks d).ins) e) (iH (ME (ixD ((ixD f.blocks d).ins) e)) λc=>iI (!(c.2&&(c.1 ==a))||(Ci all d)) (iI (!(c.2&&(c.1 ==a))||(Ci (ixD all d) (aS.wrap (e+1)))) (iH (iN (c.2&&(c.1 ==a)) aH (O3 (ixD (ixD all d) (aS.wrap (e+1))) b)) λg=>iJ (((c.2&&(c.1 ==a))&&g)&&(!((((ixD ((ixD f.blocks d).ins) e).op) ==2)&&(((ixD ((ixD f.blocks d).ins) e).a) ==b)))) (iL (.inr (.inr (.inr (.inr aK))))) (iL (.inl (aS.wrap (e+1))))))))) (iL (.inr (.inl ()))))
def He(f:iF)(all:List (List (List Int)))(a:Int)(b:Int):Int->M (Int⊕((Unit)⊕(Bool))):=λc=>iJ (aL (c < (f.blocks.length:Int))) (M.els (iK (FY f all a b c) 0) λ_=>iL (.inl (aS.wrap (c+1)))) (iL (.inr (.inl ())))
def MD(f:iF)(all:List (List (List Int)))(a:Int)(b:Int):M Bool:=M.els (iK (He f all a b) 0) λ_=>iL aH
theorem TN(H:(MD f all a b).to r):Fn bK 68 [.agg (Ak f),.bs tInt.slice.slice all,.lit (.int .i64 a),.lit (.int .i64 b)] (.lit (.bool r)):=by
 delta MD at H;try dsimp only at H
 refine AQ Tryz.func68 V (by kernel_rfl) V Tryz.ntmps68 λC hC=>?_
 simp only[Nat.reduceAdd,Nat.reduceSub,zaa];refine wS (sB (sT (wN ?_)));obtain⟨z2,T,Q,O⟩:=CK H;refine Bi (β:=(Unit)×(Unit)) (λW=>z2= .inl W.1) (λW=>⟨A40 (A20 (A10 (A6 []))),[.dead]⟩) ?_ ?_
 ·refine wS (sT (wN ?_));refine Ad ?_;refine BB T (λs2 b2=>⟨.any::.bs tInt.slice.slice all::.lit (.int .i64 a)::.lit (.int .i64 b)::.ptr 0 0::A4 (.lit (.int .i64 s2)::A40 (A20 (A6 []))),[.box (Ak f)]⟩) () (?_) ?_
  ·try dsimp only
   exact AS
  ·rintro o _ x2 H w;try dsimp only
   dsimp only[He]at H;refine Ab λY D=>?_
   refine wS (sT (sT (sT (sT (sT (wN ?_))))));refine Ah V (λm=>?_) (λm=>?_)
   ·have H:=AI m H;refine Al ?_;refine D _ ?_;refine nT ?_;obtain⟨Z,S,P,N⟩:=CK H;refine Bi (β:=(Unit)×(Unit)) (λU=>Z= .inl U.1) (λU=>⟨.any::.bs tInt.slice.slice all::.lit (.int .i64 a)::.lit (.int .i64 b)::.ptr 0 0::A4 (.lit (.int .i64 o)::A40 (A20 (A6 []))),[.box (Ak f)]⟩) ?_ ?_
    ·refine Ad ?_;refine wS (sT (wN ?_));refine Ad ?_;refine BB S (λs6 b6=>⟨.any::.bs tInt.slice.slice all::.lit (.int .i64 a)::.lit (.int .i64 b)::.ptr 0 0::A4 (.lit (.int .i64 o)::.lit (.int .i64 s6)::A40 (A20 (A5 []))),[.box (Ak f)]⟩) () (?_) ?_
     ·try dsimp only
      exact AS
     ·rintro z _ x6 H v;try dsimp only
      dsimp only[FY]at H;refine Ab λX B=>?_
      obtain⟨c8,H⟩:=Aj.1 H;refine wS (sT (sT (sT (sT (sX c8 (sT (sT (sT (sT (wN ?_))))))))));refine Ah V (λk=>?_) (λk=>?_)
      ·have H:=AI k H;refine Al ?_;refine B _ ?_;refine nT ?_;refine Ab λL u=>?_
       refine Ad ?_;obtain⟨K,H⟩:=Aj.1 H;obtain⟨J,H⟩:=Aj.1 H;refine wS (sT (sT (sT (sX K (sT (sT (sT (sX J (sT (sA0 ?_))))))))));refine sW ?_;refine wN ?_;obtain⟨c,h,H⟩:=An.1 H;have h:=TP h;refine wS (sT (sC h (sT (sT (sT (sT (sT (wN ?_))))))));obtain⟨I,H⟩:=Aj.1 H;obtain⟨G,H⟩:=Aj.1 H;obtain⟨d,A,H⟩:=An.1 H;refine wS (sT (sT ?_));refine sGt V ?_;refine sGt V ?_;refine sGt V (sT (sT ?_));refine sGt V ?_;refine sGt V ?_;refine Ao9 V I ?_;refine sGt V ?_;refine sGt V ?_;refine sGt V ?_;refine Ao9 V G ?_;refine sGt V ?_;refine sGt V ?_;refine sG (g:=(c.2&&(c.1 ==a))) (hg:=MV V) (hq:=λhg=>by((try simp only[BD hg]);(try simp only[M3 hg]);exact AE V V (RX (iM A hg)) V V)) (ht:=(Ar (Aq (Aq (Aq GZ))))) ?_;refine sT (sT ?_);refine sGt V ?_;refine sGt V ?_;refine sGt V ?_;refine sGt V ?_;refine sG (g:=(((c.2&&(c.1 ==a))&&d)&&(((ixD ((ixD f.blocks o).ins) z).op) ==2))) (hg:=GQ V V) (hq:=λhg=>by(have i:=EN hg;exact Bo V (Ao Fw) V)) (ht:=(Ar (Ar GK))) (hk:=?_);refine sG (g:=(((c.2&&(c.1 ==a))&&d)&&(((ixD ((ixD f.blocks o).ins) z).op) ==2))) (hg:=GQ V V) (hq:=λhg=>by(have i:=EN hg;exact Be V ((As (As Fc)).trans (BD hg _ _)) V V)) (ht:=(Ar (Ar GZ))) (hk:=?_);refine sG (g:=(((c.2&&(c.1 ==a))&&d)&&(((ixD ((ixD f.blocks o).ins) z).op) ==2))) (hg:=GQ V V) (hq:=λhg=>by(have i:=EN hg;exact AT.move V Fw)) (ht:=(Ar (Ar GY))) (hk:=?_);refine sG (g:=(((c.2&&(c.1 ==a))&&d)&&(((ixD ((ixD f.blocks o).ins) z).op) ==2))) (hg:=GQ V V) (hq:=λhg=>by(have i:=EN hg;exact Cw V ((As (As HW)).trans (BD hg _ _)) ((As (As GP)).trans (BD hg _ _)) V)) (ht:=(Ar (Ar (Aq G9)))) (hk:=?_);refine sG (g:=((c.2&&(c.1 ==a))&&d)) (hg:=MV V) (hq:=λhg=>Dg V ((As (As Gz)).trans (BD hg _ _)) ((As (As (Ao IP))).trans (M3 hg _ _)) VX) (ht:=(Ar (Ar (Aq IK)))) ?_;refine sGt V (sT (wN ?_));refine Ah V (λe=>?_) (λe=>?_)
       ·have H:=AI e H;refine wS (sT (wN ?_));have H:=Ac.2 (N _ (v _ (Ac.1 H).symm).symm);have H:=Ac.2 (O _ (w _ (Ac.1 H).symm).symm);obtain rfl:=Ac.1 H;exact Aw ⟨.inr V,iB V⟩
       ·have H:=AJ e H;refine Al ?_;refine u _ ?_;refine nT ?_;refine wSE (sT (sT (sT (wN ?_))));have E:=Ac.1 H;repeat(first|refine abN ?_|refine asN ?_)
        refine Ap ⟨_,(),E.symm,?_⟩;try dsimp only
        exact leC (gZ (g9 _))
      ·have H:=AJ k H;refine Ay ?_;repeat(first|refine BF ?_|refine exO (by decide) ?_|refine asE ?_)
       refine exN ?_;have E:=v _ (Ac.1 H).symm;repeat(first|refine abN ?_|refine asN ?_)
       refine Ap ⟨(_,()),E.symm,?_⟩;try dsimp only
       exact AS
    ·rintro⟨_,_⟩ s;try dsimp only at s
     have H:=P _ s;try dsimp only
     refine wSE (sT (sT (sT (wN ?_))));have F:=Ac.1 H;repeat(first|refine abN ?_|refine asN ?_)
     refine Ap ⟨_,(),F.symm,?_⟩;try dsimp only
     exact AS
   ·have H:=AJ m H;refine Ay ?_;repeat(first|refine BF ?_|refine exO (by decide) ?_|refine asE ?_)
    refine exN ?_;have F:=w _ (Ac.1 H).symm;repeat(first|refine abN ?_|refine asN ?_)
    refine Ap ⟨(_,()),F.symm,?_⟩;try dsimp only
    exact leC (g8 (g9 _))
 ·rintro⟨_,_⟩ t;try dsimp only at t
  have H:=Q _ t;try dsimp only
  refine wS (sT (wN ?_));obtain rfl:=Ac.1 H;exact Aw ⟨.inr V,iB V⟩
def LE(f:iF)(all:List (List (List Int)))(a:Int)(b:Int):M Bool:=iJ (a ==b) (iL aH) (iH (MD f all a b) λe=>iH (iN (!e) aH (MD f all b a)) λr5=>iJ (e||r5) (iL aK) (iI (!(aL ((all.length:Int) > 0))||(Ci all 0)) (iI (!(aL ((all.length:Int) > 0))||(Ci (ixD all 0) 0)) (iH (iN (aL ((all.length:Int) > 0)) aH (O3 (ixD (ixD all 0) 0) a)) λc=>iI (!((aL ((all.length:Int) > 0))&&c)||(Ci all 0)) (iI (!((aL ((all.length:Int) > 0))&&c)||(Ci (ixD all 0) 0)) (iH (iN ((aL ((all.length:Int) > 0))&&c) aH (O3 (ixD (ixD all 0) 0) b)) λd=>iL (((aL ((all.length:Int) > 0))&&c)&&d)))))))
theorem ZO(H:(LE f all a b).to r):Fn bK 34 [.agg (Ak f),.bs tInt.slice.slice all,.lit (.int .i64 a),.lit (.int .i64 b)] (.lit (.bool r)):=by
 delta LE at H;try dsimp only at H
 refine AQ Tryz.func34 V (by kernel_rfl) V Tryz.ntmps34 λC F=>?_
 simp only[Nat.reduceAdd,Nat.reduceSub,zaa];refine wS (sB (sT (wN ?_)));refine Ab λu k=>?_
 refine wS (sT (sT (sT (wN ?_))));refine Ah V (λd=>?_) (λd=>?_)
 ·have H:=AI d H;refine wS (sT (wN ?_));obtain rfl:=Ac.1 H;exact Aw ⟨.inr V,iB V⟩
 ·have H:=AJ d H;refine Al ?_;refine k _ ?_;refine nT ?_;refine Ab λt i=>?_
  obtain⟨s,e,H⟩:=An.1 H;have e:=TN e;obtain⟨E,A,H⟩:=An.1 H;refine wS (sT (sT (sT (sT (sC e (sT ?_))))));refine sG (g:=(!s)) (hg:=Aar V) (hq:=λhg=>AR V Gz V V) (ht:=(Aq (Aq KK))) ?_;refine sGf V ?_;refine sGf V ?_;refine sGf V ?_;refine sG (g:=(!s)) (hg:=Aar V) (hq:=λhg=>by((try simp only[BD hg]);(try simp only[M3 hg]);exact AE V V (TN (iM A hg)) V V)) (ht:=(Aq (Aq GZ))) ?_;refine sT (wN ?_);refine Ah V (λc=>?_) (λc=>?_)
  ·have H:=AI c H;refine wS (sT (wN ?_));obtain rfl:=Ac.1 H;exact Aw ⟨.inr V,iB V⟩
  ·have H:=AJ c H;refine Al ?_;refine i _ ?_;refine nT ?_;obtain⟨D,H⟩:=Aj.1 H;obtain⟨B,H⟩:=Aj.1 H;obtain⟨v,z,H⟩:=An.1 H;obtain⟨o,H⟩:=Aj.1 H;obtain⟨m,H⟩:=Aj.1 H;obtain⟨w,h,H⟩:=An.1 H;refine wS (sT (sT (sT (sT ?_))));refine sGt V ?_;refine Ao9 V D ?_;refine sGt V ?_;refine Ao9 V B ?_;refine sGt V ?_;refine sGt V ?_;refine sG (g:=(aL ((all.length:Int) > 0))) (hg:=MV V) (hq:=λhg=>by((try simp only[BD hg]);(try simp only[M3 hg]);exact AE V V (RX (iM z hg)) V V)) (ht:=(Ar KK)) ?_;refine sT (sT ?_);refine sGt V ?_;refine Ao9 V o ?_;refine sGt V ?_;refine Ao9 V m ?_;refine sGt V ?_;refine sGt V ?_;refine sG (g:=((aL ((all.length:Int) > 0))&&v)) (hg:=MV V) (hq:=λhg=>by((try simp only[BD hg]);(try simp only[M3 hg]);exact AE V V (RX (iM h hg)) V V)) (ht:=(Ar (Aq IF))) ?_;refine sT (sT (wN ?_));obtain rfl:=Ac.1 H;exact Aw ⟨.inr V,iB V⟩
noncomputable section
def Abp(f:iF):M Bool:=iI (MZ f&&aL (Dh.bulk f<=2097152)) (iL (leaf f.blocks))
theorem NB(H:(Abp f).to r):Fn bK 24 [.agg (Ak f)] (.lit (.bool r)):=by
 obtain⟨c,H⟩:=Aj.1 H;obtain rfl:=Ac.1 H;rw[aG]at c;have g:=BM.1 c.1;exact JL (by kernel_rfl) λw vs e=>by
  obtain⟨v,rfl,d⟩:=Acu e;obtain⟨cs,rfl,hc⟩:=I9 d;exact Alb f w cs (R3 g.ok hc) (of_decide_eq_true c.2)
def RW(f:iF):M Bool:=iI (MZ f&&aL (Dh.bulk f<=2097152)) (iL (leaf f.blocks))
theorem ZN(H:(RW f).to r):Fn bK 14 [.agg (Ak f)] (.lit (.bool r)):=by
 obtain⟨c,H⟩:=Aj.1 H;obtain rfl:=Ac.1 H;rw[aG]at c;have g:=BM.1 c.1;exact JL (by kernel_rfl) λw vs e=>by
  obtain⟨v,rfl,d⟩:=Acu e;obtain⟨cs,rfl,hc⟩:=I9 d;exact Akb f w cs (R3 g.ok hc) (of_decide_eq_true c.2)
def Oc(f:iF):M (List Int):=iI (MZ f) (iL (regsB f))
theorem Q0{r:List Int}(H:(Oc f).to r):Fn bK 32 [.agg (Ak f)] (.bs tInt r):=by
 obtain⟨c,H⟩:=Aj.1 H;obtain rfl:=Ac.1 H;have c:=BM.1 c;exact ZJ f c.ok c.small c.all
def Q1(f:iF)(n:Int)(leaf:Bool):M (List Int):=iI (MZ f) (iL (Br (B9 f) n leaf))
theorem TM{leaf:Bool}{r:List Int}(H:(Q1 f n leaf).to r):Fn bK 70 [.agg (Ak f),.lit (.int .i64 n),.lit (.bool leaf)] (.bs tInt r):=by
 obtain⟨c,H⟩:=Aj.1 H;obtain rfl:=Ac.1 H;have c:=BM.1 c;exact TX f n leaf c.ok c.small c.reads c.ins
def KJ(x:Ins):M (List Int):=iI (E8 x&&aL (x.args.length<=2097152)) (iL (readsC x))
def I4(x:Ins):M (Int×Bool):=iI (E8 x) (iL (if Bd x then x.d else 0,Bd x))
theorem Qw{r:Int×Bool}(H:(I4 x).to r):Fn bK 61 [.agg (BZ x)] (.tup [.lit (.int .i64 r.1),.lit (.bool r.2)]):=by
 obtain⟨c,H⟩:=Aj.1 H;obtain rfl:=Ac.1 H;exact FT x (DH.1 c)
def Ayr:List Int->Bool
 | []=>aK
 |x::l=>l.all (λy=>decide (x < y))&&Ayr l
theorem SJ:∀{l:List Int},Ayr l=aK↔Asc l
 | []=>by simp[Ayr,Asc]
 |x::l=>by
  unfold Ayr;rw[aG,SJ,dD];unfold Asc;rw[List.pairwise_cons];simp
def C3(l:List Int)(n:Int):M (Int×Bool):=iI (Ayr l&&aL (l.length<=2147483648)) (iL (((l.countP (· < n):Nat):Int),l.contains n))
theorem E6{r:Int×Bool}(H:(C3 l n).to r):Fn bK 38 [.bs tInt l,.lit (.int .i64 n)] (.tup [.lit (.int .i64 r.1),.lit (.bool r.2)]):=by
 obtain⟨c,H⟩:=Aj.1 H;obtain rfl:=Ac.1 H;rw[aG]at c;exact OP l n (SJ.1 c.1) (of_decide_eq_true c.2)
end
end Mu
section
namespace Go.Proofs
open Go.Shelf
def Tryz.lays112_ren:Go.Shelf.Ren:=⟨fun|112=>192|n=>n,fun|28=>27|3=>3|0=>0|4=>4|n=>n,fun|n=>n⟩
theorem Tryz.lays112:Go.Proofs.Lays.n112 bK Tryz.lays112_ren:={
 mixed:=by kernel_rfl
 f112:=a8.trans (congrArg jG (by kernel_rfl))
 t0:=bR
 a0:=bC
 z0:=bL
 v0:=bX
 t3:=bT
 a3:=bE
 z3:=bN
 v3:=bZ
 t4:=bU
 a4:=bF
 z4:=bO
 v4:=b9
 t28:=bS
 a28:=bD
 z28:=bM
 v28:=bY}
end Go.Proofs
end
namespace Mu
open Go Go.RowKit Go.Proofs
variable{S:Nat->Prop}{α:Type}{T:Ty α}{β:Type}{T2:Ty β}{b:Int}{cs:List cF}{cur:List Int}{α0:Type}{d:α0}{e:cE}{enc:α0->List AV}{f:iF}{i j k k0:Nat}{l:List Int}{l2:List β}{off:Nat}{p:Int->Bool}{r:List Int}{ty:cE}{ver:Nat}{w:cI}{x:aY}
section
variable{P:aZ}{C:Ctx}{t:List AV}{h:List gL}{o:aX}
theorem HC{l:List α}(s:o.op= .nilCheck x)(hx:evA t x= .rp i ver k off)(hi:h[i]? =jG (.row ver e T l)):AT P C t h o (.rp i ver k off):=
 AN λS ψ w ρ _ m=>by
  have h1:=m x (by simp[s,Op.operands]);rw[hx]at h1;have h2:=h1;unfold gU at h1;obtain⟨g,n,c,_,u⟩:=(h1.2 _ (by rw[hi];rfl)).2 V;rw[u]at h2;exact⟨.pointer (jG ⟨g,k * Fu h[i]?+off,jF⟩),by simp[execOp,s,u],h2⟩
theorem Ait.bs{T:Ty α0}[EncOf T enc]{m:α0}(A:off+1<=T.size)(B:(enc d).take off++[.bs T2 l2]++(enc d).drop (off+1)=enc m)
 (c:∀(w:cI) (S:Nat->Prop) (cs:List cF),Af w S [] ψ0 (enc m) cs->T.RS w S cs m):Ait h T d off (.bs T2 l2) 1 m:=λC S ψ w v cs H s z=>by
 have h1:v.oneCell'=aK:=One.bs (h:=h) (T:=T2) (l:=l2) C S ψ w v H s;have u:v.cells.toList= [v]:=by rw[Hw h1]
 refine⟨by rw[u];rfl,A,λx hx=>by rw[u]at hx;rw[fM.1 hx];exact h1,c w S _ ?_⟩;have g:Af w S [] ψ0 (enc d) cs:=EncOf.ok (T:=T) (enc:=enc) w S [] ψ0 cs d z;rw[<-B,u];refine BL (BL (Ly g off) ?_) (Lz g (off+1));unfold Af;refine⟨v,[],rfl,by unfold gU at s⊢;exact s,?_⟩;unfold Af;rfl
theorem Aci{T:Ty α0}[EncOf T enc]{y:aY}{l:List α0}{K:St->Prop}(g:α0)[SZ P ty 1](v:o.op= .store ty x y)(hx:evA t x= .rp i ver k off)(u:evA t y= .bs T2 l2)(hi:h[i]? =jG (.row ver e T l))(hk:l[k]? =jG d)
 (m:off+1<=T.size)(z:(enc d).take off++[.bs T2 l2]++(enc d).drop (off+1)=enc g)(c:∀(w:cI) (S:Nat->Prop) (cs:List cF),Af w S [] ψ0 (enc g) cs->T.RS w S cs g)
 (A:K ⟨Bn t o.dst (.lit undef),h.set i (.row ver e T (l.set k g))⟩):AOp P C o ⟨t,h⟩ K:=
 NP (s:=⟨t,h⟩) v hx hi hk (by rw[show evA (St.mk t h).t y=_ from u];exact Ait.bs m z c) SZ.eq A
theorem Ana{z:aY}{ik:IntKind}{n:Nat}{l:List α}{K:St->Prop}[ES P ty n](m:o.op= .slice ty x jF (jG z) jF)(hx:evA t x= .own i ver)(hi:h[i]? =jG (.row ver e T l))(g:T.size=n)(c:evA t z= .lit (.int ik b))(hc:slB l 0 b=aK)
 (s:K ⟨Bn t o.dst (.own i (ver+1)),h.set i (.row (ver+1) e T (l.take b.toNat))⟩):AOp P C o ⟨t,h⟩ K:=by
 obtain⟨h1,h2,u⟩:=Aeb.1 hc;exact Ng m hx hi g (Ai0 c h2) u s
end
theorem Wf{base:Nat}{v:cF}{zs:List Int}(c:Gj w base v zs)(F:zs.length<=2147483648):
 aM bK 192 #[v] w λe w'=>e= .returned (.tuple #[])/\Gj w' base v zs.reverse/\w.grownBy w' v.ownBlock:=by
 rcases c.2 with⟨rfl,h0⟩|⟨g,cap,cur,rfl,m,B,h1,h2,E,D⟩
 ·have:zs= []:=dM h0;subst this;refine(Any.slices_Reverse_int_empty Tryz.lays112 _ _ _).mono λe w' ⟨u,s⟩=>?_
  subst s;exact⟨u,by simpa using c,World.grownBy.refl _ _⟩
 ·refine(Any.slices_Reverse_int Tryz.lays112 g 0 cap zs w (J1 B D) (by omega)).mono λe w' ⟨u,z,s⟩=>?_
  subst s;have A:=ownsRow_sortedI (os:=#[]) (n:=z) (ts:=zs.reverse) (ss:=zs) (by simp) m B h1 h2 E;have hg:=grownBy_sortedI (w:=w) (g:=g) (n:=z) (os:=#[]) zs.reverse.toArray;rw[Go.Sort.grow_empty]at A hg;exact⟨u,.of A (by simp) V,hg⟩
section
variable{C:Ctx}{t:List AV}{h:List gL}{o:aX}{K:St->Prop}
theorem Acj{D:Array cE}(G:o.op= .call {callee:=.value (.func 192),args:=#[x],argTypes:=D})(hx:evA t x= .own i ver)(hi:h[i]? =jG (.row ver 3 tInt l))(O:l.length<=2147483648)
 (U:K ⟨Bn t o.dst .any,h.set i (.row ver 3 tInt l.reverse)⟩):AOp bK C o ⟨t,h⟩ K:=by
 rintro Q' a w ⟨Q,S,ψ,H,z⟩;refine⟨λc e=>(by rw[G]at e;cases e),?_⟩;have u:=Bw z x;rw[show evA (St.mk t h).t x= .own i ver from hx]at u;unfold gU at u;have L:=(u.2 _ (by rw[hi];rfl)).2 V;have B:=H.blk i _ hi;have v:=B.lt V;obtain⟨I,J⟩:=JP B;unfold Oper.wp;rw[Cx G (by kernel_rfl) a.eval w V];simp only[Oper.upon];rw[show(#[x].map a.eval)= #[ψ i]from by simp[L]];refine(Wf I O).mono ?_;rintro r w' ⟨rfl,F,E⟩;have m:w.grownBy w' (Bv (ψ i)):=by
  have e:Bv (ψ i)=(ψ i).ownBlock:=by
   rcases I.2 with⟨e,_⟩|⟨g,cap,cur,e,_⟩ <;> rw[e] <;> rfl
  rw[e];exact E
 have A:∀k,S k->w'.heap[k]? =w.heap[k]?:=λk hk=>m.block k (H.lt k hk) λe=>(v k e.symm).2.2 hk
 have X:Ext w S h ψ w' S (h.set i (.row ver 3 tInt l.reverse)) (Bp ψ i (ψ i)):=iA A hi (λW hc=>by
  simp only[gQ,jH]at hc;exact⟨ver,rfl,by omega,λ_=>⟨rfl,rfl⟩⟩) λh=>by simp[AZ]at h
 exact⟨_,U,IE (s:=⟨t,h⟩) hi Q z (H.set hi V (Bt m) X (LO F (λr N=>J r (List.mem_reverse.1 N)) λg hg=>⟨(v g (AU hg)).1,(v g (AU hg)).2.2⟩) λg hg=>.inl hg) X (by unfold gU;trivial)⟩
end
theorem CR:∀(w:cI) (S S':Nat->Prop) (cs:List cF) (d:Int),tInt.RS w S cs d->tInt.RS w S' cs d:=λ_ _ _ _ _ h=>DN.2 (DN.1 h)
noncomputable section
structure FStep where
 b:Int
 next:List Int
def Lp:Ty FStep:=(tInt.cons (tInt.slice.cons Do)).via (λx=>⟨x.1,x.2.1⟩) (λd=>(d.b,d.next,()))
theorem XR{x:FStep}:Lp.RS w S cs x↔∃c:cF,cs= [.int .i64 x.b,c]/\wfI .i64 x.b/\tInt.slice.RS w S [c] x.next:=by
 constructor
 ·rintro⟨⟨_,_,rfl,⟨rfl,h0⟩,_,_,rfl,h1,rfl⟩,_⟩;have g:=h1;obtain⟨s,m,rfl,_⟩:=h1;exact⟨_,rfl,h0,g⟩
 ·rintro⟨c,rfl,h0,h1⟩;exact⟨⟨[_],_,rfl,⟨rfl,h0⟩,[_],_,rfl,h1,rfl⟩,rfl⟩
@[reducible] def GC(x:FStep):List AV:=[.lit (.int .i64 x.b),.bs tInt x.next]
theorem UU:Enc Lp GC:=by
 intro w S h ψ cs d H;obtain⟨c,rfl,h0,h1⟩:=XR.1 H;simp only[GC,Af,gU];exact⟨_,_,rfl,rfl,_,_,rfl,h1,rfl⟩
theorem ZZ:ST Lp:=D8 UU λd x hx=>by
 simp only[GC,or_false,zak]at hx;rcases hx with rfl|rfl <;> first|exact .inl ⟨_,rfl,rfl⟩|exact .inr ⟨_,_,_,rfl⟩
instance Azj:EncOf Lp GC:=⟨UU,ZZ,by decide⟩
structure okFStep(x:FStep):Prop where
 b:wfI .i64 x.b
theorem TS{h:List gL}{ψ:Nat->cF}{x:FStep}(c:okFStep x)(H:Af w S h ψ (GC x) cs):Lp.RS w S cs x:=by
 simp only[GC,Af,gU]at H;obtain⟨_,_,rfl,rfl,_,_,rfl,h1,rfl⟩:=H;exact XR.2 ⟨_,rfl,c.b,h1⟩
instance Azi:Inhabited FStep:=⟨⟨0,[]⟩⟩
def Gs(x:FStep):Bool:=wfB .i64 x.b
theorem Pi{x:FStep}(h:Gs x=aK):okFStep x:=by
 unfold Gs at h;exact⟨h⟩
theorem UN{h:List gL}{x:FStep}(hk:Gs x=aK):Fit h Lp (.agg (GC x)) x:=Ow (enc:=GC) λ_ _ _ _ H=>TS (Pi hk) H
theorem Afg:Eu bK 206=jG [(0,1),(1,1)]:=by kernel_rfl
instance Azh:FO bK 206 0 0:=⟨by kernel_rfl⟩
instance Azg:FO bK 206 1 1:=⟨by kernel_rfl⟩
instance Azf:ZC bK 206 [.int .i64 0,.slice jF 0 0]:=⟨by kernel_rfl⟩
instance Ax7:ES bK 207 2:=⟨by kernel_rfl⟩
instance Ax6:SL bK 207:=⟨by kernel_rfl⟩
instance Ax5:RT bK 207 206 2 32:=⟨by kernel_rfl⟩
def PG(f:iF)(b:Int):M (List Int):=iI (MZ f) (iL (nextL f b))
theorem PF(H:(PG f b).to r):Fn bK 190 [.agg (Ak f),.lit (.int .i64 b)] (.bs tInt r):=by
 obtain⟨c,H⟩:=Aj.1 H;obtain rfl:=Ac.1 H;have g:=BM.1 c;exact UK f b g.ok g.small.blocks λb m=>(g.small.all b m).ins
def FD(f:iF)(c:Int):((List Bool)×(List FStep)×(List Int))->M (((List Bool)×(List FStep)×(List Int))⊕((List Int))):=λ(l8,l10,l12)=>iJ (aL ((l10.length:Int) > 0)) (iI (Ci l10 (aS.wrap ((l10.length:Int) - 1))) (iJ ((((ixD l10 (aS.wrap ((l10.length:Int) - 1))).next).length:Int) ==0) (iI (wfB .i64 ((ixD l10 (aS.wrap ((l10.length:Int) - 1))).b)) (iI (EZ (l12.length+ [(ixD l10 (aS.wrap ((l10.length:Int) - 1))).b].length) 8) (iI (slB l10 0 (aS.wrap ((l10.length:Int) - 1))) (iL (.inl (l8,fY (dB (aS.wrap ((l10.length:Int) - 1))) l10,l12++[(ixD l10 (aS.wrap ((l10.length:Int) - 1))).b])))))) (iI (Ci ((ixD l10 (aS.wrap ((l10.length:Int) - 1))).next) 0) (iI (slB ((ixD l10 (aS.wrap ((l10.length:Int) - 1))).next) 1 (((ixD l10 (aS.wrap ((l10.length:Int) - 1))).next).length:Int)) (iI (Gs ⟨(ixD l10 (aS.wrap ((l10.length:Int) - 1))).b,slD ((ixD l10 (aS.wrap ((l10.length:Int) - 1))).next) 1 (((ixD l10 (aS.wrap ((l10.length:Int) - 1))).next).length:Int)⟩) (iI (Ci l8 (ixD ((ixD l10 (aS.wrap ((l10.length:Int) - 1))).next) 0)) (iJ ((!(ixD l8 (ixD ((ixD l10 (aS.wrap ((l10.length:Int) - 1))).next) 0)))&&((ixD ((ixD l10 (aS.wrap ((l10.length:Int) - 1))).next) 0) !=c)) (iI (Ci l8 (ixD ((ixD l10 (aS.wrap ((l10.length:Int) - 1))).next) 0)) (iH (PG f (ixD ((ixD l10 (aS.wrap ((l10.length:Int) - 1))).next) 0)) λg=>iI (Gs ⟨ixD ((ixD l10 (aS.wrap ((l10.length:Int) - 1))).next) 0,g⟩) (iI (EZ ((l10.set (dB (aS.wrap ((l10.length:Int) - 1))) ⟨(ixD l10 (aS.wrap ((l10.length:Int) - 1))).b,slD ((ixD l10 (aS.wrap ((l10.length:Int) - 1))).next) 1 (((ixD l10 (aS.wrap ((l10.length:Int) - 1))).next).length:Int)⟩).length+([⟨ixD ((ixD l10 (aS.wrap ((l10.length:Int) - 1))).next) 0,g⟩]:List FStep).length) 32) (iL (.inl (l8.set (dB (ixD ((ixD l10 (aS.wrap ((l10.length:Int) - 1))).next) 0)) aK,(l10.set (dB (aS.wrap ((l10.length:Int) - 1))) ⟨(ixD l10 (aS.wrap ((l10.length:Int) - 1))).b,slD ((ixD l10 (aS.wrap ((l10.length:Int) - 1))).next) 1 (((ixD l10 (aS.wrap ((l10.length:Int) - 1))).next).length:Int)⟩)++([⟨ixD ((ixD l10 (aS.wrap ((l10.length:Int) - 1))).next) 0,g⟩]:List FStep),l12)))))) (iL (.inl (l8,l10.set (dB (aS.wrap ((l10.length:Int) - 1))) ⟨(ixD l10 (aS.wrap ((l10.length:Int) - 1))).b,slD ((ixD l10 (aS.wrap ((l10.length:Int) - 1))).next) 1 (((ixD l10 (aS.wrap ((l10.length:Int) - 1))).next).length:Int)⟩,l12)))))))))) (iL (.inr l12))
def Fd(f:iF)(c:Int):M (List Int):=iJ (((f.blocks.length:Int) ==0)||(c ==0)) (iL ([]:List Int)) (iI (VW (f.blocks.length:Int) 1) (iI (Ci (fW (dB (f.blocks.length:Int)) aH) 0) (iH (PG f 0) λm=>iI (Gs ⟨0,m⟩) (iH (iK (FD f c) ((fW (dB (f.blocks.length:Int)) aH).set (dB 0) aK,[⟨0,m⟩],([]:List Int))) λg=>iL g))))
theorem PE{c:Int}(H:(Fd f c).to r):JK bK 179 [.agg (Ak f),.lit (.int .i64 c)] 3 tInt r:=by
 delta Fd at H;try dsimp only at H
 refine El Tryz.func179 V (by kernel_rfl) V Tryz.ntmps179 CR λC hC=>?_
 simp only[Nat.reduceAdd,Nat.reduceSub,zaa];refine wS (sB (sT (wN ?_)));refine Ab λam ab=>?_
 refine wS (sT (sT (sT (sT (sT ?_)))));refine sGf V ?_;refine sGf V (sT (wN ?_));refine Ah V (λI=>?_) (λI=>?_)
 ·have H:=AI I H;refine wS (sT (wN ?_));obtain rfl:=Ac.1 H;refine AK _ (ED 4 3 tInt V (by decide)) ?_;exact Aw ⟨.inr V,rfl,1,0,rfl,rfl⟩
 ·have H:=AJ I H;refine Al ?_;refine ab _ ?_;refine nT ?_;refine wS (sT (wN ?_));obtain⟨c3,H⟩:=Aj.1 H;refine wS (sT (sT (sT ?_)));(refine AF V (Ql 1 V (T:=iU) (e:=4) (v:=.bool aH) (bytes:=1) (aH:Bool) V (by kernel_rfl) V (λ_ _=>rfl) V V c3 ?_);refine DU ?_ (Aq (Aq GK)));refine sT (wN ?_);obtain⟨c4,H⟩:=Aj.1 H;refine wS (sT ?_);refine sA ?_ (BS V (Ao (Ao HW)) V VX V c4) (Aq (Aq GY));(refine AF V (CT V V V (BP c4) iD V ?_);refine DU ?_ Qx);refine wN ?_;obtain⟨r5,k5,H⟩:=An.1 H;have k5:=PF k5;obtain⟨c6,H⟩:=Aj.1 H;refine wS (sT (sC k5 ?_));refine sA ?_ (BT (rs:=[.lit (.int .i64 0),.bs tInt r5]) V Afg V V) (Aq (Aq (Aq KK)));(refine AF V (Oy 2 V (xs:=[.tmp 26]) (T:=Lp) (ds:=[⟨0,r5⟩]) V V V (RT.eq (n:=2) (bytes:=32)) (by decide) (by decide) (.cons (UN c6) .nil) ?_);refine DU ?_ (Aq (Aq (Aq IF))));refine sT (wN ?_);refine AK _ (ED 5 3 tInt V (by decide)) ?_;obtain⟨Y,X,W⟩:=An.1 H;refine Bi (β:=((List Int))×(Nat)) (λu=>Y=u.1) (λu=>⟨A5 (.own 3 u.2::A80 (A4 [])),[.dead,.dead,.dead,.row u.2 3 tInt u.1]⟩) ?_ ?_
  ·refine Ad ?_;refine BB X (λF s=>⟨.any::.lit (.int .i64 c)::.ptr 0 0::A2 (.own 3 s.2.2::.own 1 s.1::.own 2 s.2.1::A80 (A2 [])),[.box (Ak f),.row s.1 4 iU F.1,.row s.2.1 206 Lp F.2.1,.row s.2.2 3 tInt F.2.2]⟩) (0,0,0) (?_) ?_
   ·try dsimp only
    exact AS
   ·rintro⟨l8,l10,ap⟩ ⟨v7,Z,D⟩ an H U;try dsimp only
    dsimp only[FD]at H;refine Ab λal N=>?_
    refine wS (sT (sT (sT (wN ?_))));refine Ah V (λB=>?_) (λB=>?_)
    ·have H:=AI B H;refine Al ?_;refine N _ ?_;refine nT ?_;refine Ad ?_;obtain⟨m,H⟩:=Aj.1 H;refine wS (sT (sT (sT (sT ?_))));refine sA ?_ (BS V (Ao (Ao (Ao GP))) V (As Fm) V m) (Ar IF);refine sT (wN ?_);refine Ab λak L=>?_
     refine wS (sT ?_);refine sA ?_ (HC V (As Gz) V) (Ar GK);refine sA ?_ (CL V (As Fc) V) (Ar GZ);refine sA ?_ (Bs V (As HW) V (BP m) V) (Ar GY);refine sT (sT (wN ?_));refine Ah V (λA=>?_) (λA=>?_)
     ·have H:=AI A H;obtain⟨aj,H⟩:=Aj.1 H;obtain⟨ai,H⟩:=Aj.1 H;refine wS (sT (sT ?_));refine sA ?_ (HC V (As (Ao Fw)) V) (Ar (Aq I5));refine sA ?_ (CL V (As (Ao Gz)) V) (Ar (Aq GK));refine sA ?_ (Bs V (As (Ao Fc)) V (BP m) V) (Ar (Aq GZ));refine sA (hq:=AT.lt (xs:=[.tmp 46]) (T:=tInt) (ds:=[(ixD l10 (aS.wrap ((l10.length:Int) - 1))).b]) V V V (by rfl) (by decide) (.cons (iE aj) .nil)) (ht:=(Ar (Aq GY))) (hk:=?_);refine sP ai (sT (wN ?_));obtain⟨ah,H⟩:=Aj.1 H;refine wS (sT (sT (sT (sT ?_))));(refine AF V (Ana V V V V V ah ?_);refine DU ?_ (Ar (Aq (Aq GK))));refine sT (wN ?_);refine Ay ?_;repeat(first|refine BF ?_|refine exO (by decide) ?_|refine asE ?_)
      refine exN ?_;have g:=Ac.1 H;repeat(first|refine abN ?_|refine asN ?_)
      refine Ap ⟨_,(v7,Z+1,D+1),g.symm,?_⟩;try dsimp only
      exact AS
     ·have H:=AJ A H;refine Al ?_;refine L _ ?_;refine nT ?_;obtain⟨ag,H⟩:=Aj.1 H;refine wS (sT ?_);refine sA ?_ (HC V (As (Ao (Ao HW))) V) (Ar (Aq (Aq GY)));refine sA ?_ (CL V (As (Ao (Ao GP))) V) (Ar (Aq (Aq (Aq G9))));refine sA ?_ (Bs V (As (Ao (Ao (Ao IP)))) V (BP m) V) (Ar (Aq (Aq (Aq IK))));refine sX ag (sT (sT (wN ?_)));obtain⟨af,H⟩:=Aj.1 H;obtain⟨ae,H⟩:=Aj.1 H;refine wS (sT (sT ?_));refine sA ?_ (HC V (As (Ao (Ao (Ao Fc)))) V) (Ar (Aq (Aq (Aq GZ))));refine sA ?_ (CL V (As (Ao (Ao (Ao HW)))) V) (Ar (Aq (Aq (Aq GY))));refine sA ?_ (Bs V (As (Ao (Ao (Ao GP)))) V (BP m) V) (Ar (Ar G9));refine sA ?_ (Ab3 V (As (As IP)) V VX af) (Ar (Ar IK));refine sA ?_ (HC V (As (Ao (Ao (Ao Gz)))) V) (Ar (Ar KK));refine sA ?_ (CL V (As (As Fm)) V) (Ar (Ar IF));(refine AF V (Aci ⟨(ixD l10 (aS.wrap ((l10.length:Int) - 1))).b,slD ((ixD l10 (aS.wrap ((l10.length:Int) - 1))).next) 1 (((ixD l10 (aS.wrap ((l10.length:Int) - 1))).next).length:Int)⟩ V V V V (BP m) (by decide) V (λ_ _ _ hr=>TS (Pi ae) hr) ?_);refine DU ?_ Qx);refine wN ?_;obtain⟨Q,H⟩:=Aj.1 H;refine wS (sT (sT ?_));refine sA ?_ (BS V (As (As Gz)) V (As (As Fc)) V Q) (Ar (Ar GZ));refine sA ?_ (Bs V (As (As HW)) V (BP Q) V) (Ar (Ar GY));refine sT (sT ?_);refine sGt V ?_;refine sGt V ?_;refine sGt V (sT (wN ?_));refine Ah V (λz=>?_) (λz=>?_)
      ·have H:=AI z H;obtain⟨O,H⟩:=Aj.1 H;refine wS (sT (sT ?_));refine sA ?_ (BS V (As (As (Ao HW))) V (As (As (Ao GP))) V O) (Ar (Ar (Aq (Aq G9))));(refine AF V (CT V V V (BP O) iD V ?_);refine DU ?_ Qx);refine wN ?_;obtain⟨J,G,H⟩:=An.1 H;have G:=PF G;obtain⟨ad,H⟩:=Aj.1 H;obtain⟨ac,H⟩:=Aj.1 H;refine wSE (sT (sT (sT (sT (sC G ?_)))));refine sA (hq:=BT (rs:=[.lit (.int .i64 (ixD ((ixD l10 (aS.wrap ((l10.length:Int) - 1))).next) 0)),.bs tInt J]) V Afg V V) (ht:=(Ar (Ar (Aq (Aq GZ))))) (hk:=?_);refine sA (hq:=AT.lt (xs:=[.tmp 86]) (T:=Lp) (ds:=[⟨ixD ((ixD l10 (aS.wrap ((l10.length:Int) - 1))).next) 0,J⟩]) V V V (by rfl) (by decide) (.cons (UN ad) .nil)) (ht:=(Ar (Ar (Aq (Aq GY))))) (hk:=?_);refine sP ac (sT (wN ?_));have g:=Ac.1 H;repeat(first|refine abN ?_|refine asN ?_)
       refine Ap ⟨_,(v7,Z+1,D),g.symm,?_⟩;try dsimp only
       exact AS
      ·have H:=AJ z H;refine Al ?_;have g:=Ac.1 H;repeat(first|refine abN ?_|refine asN ?_)
       refine Ap ⟨_,(v7,Z,D),g.symm,?_⟩;try dsimp only
       exact AS
    ·have H:=AJ B H;refine Ay ?_;repeat(first|refine BF ?_|refine exO (by decide) ?_|refine asE ?_)
     refine exN ?_;have g:=U _ (Ac.1 H).symm;repeat(first|refine abN ?_|refine asN ?_)
     refine Ap ⟨(_,D),g.symm,?_⟩;try dsimp only
     exact leC (g8 (g8 (g8 (gZ (g9 _)))))
  ·rintro⟨ao,aa⟩ E;try dsimp only at E
   have H:=W;rw[E]at H;try dsimp only
   refine wS (sT (sT (wN ?_)));obtain rfl:=Ac.1 H;exact Aw ⟨.inr V,rfl,3,aa,rfl,rfl⟩
def Ey(r2:List Int):(Int×(List Bool))->M ((Int×(List Bool))⊕((List Bool))):=λ(x3,l5)=>iJ (aL (x3 < (r2.length:Int))) (iI (Ci r2 x3) (iI (Ci l5 (ixD r2 x3)) (iL (.inl (aS.wrap (x3+1),l5.set (dB (ixD r2 x3)) aK))))) (iL (.inr l5))
def GB(f:iF):M (List Bool):=iI (VW (f.blocks.length:Int) 1) (iH (Fd f (-1)) λr2=>iH (iK (Ey r2) (0,fW (dB (f.blocks.length:Int)) aH)) λc=>iL c)
theorem QA{r:List Bool}(H:(GB f).to r):Fn bK 159 [.agg (Ak f)] (.bs iU r):=by
 delta GB at H;try dsimp only at H
 refine AQ Tryz.func159 V (by kernel_rfl) V Tryz.ntmps159 λC hC=>?_
 simp only[Nat.reduceAdd,Nat.reduceSub,zaa];refine wS (sB (sT (wN ?_)));obtain⟨W,H⟩:=Aj.1 H;refine wS (sT (sT (sT ?_)));(refine AF V (Ql 1 V (T:=iU) (e:=4) (v:=.bool aH) (bytes:=1) (aH:Bool) V (by kernel_rfl) V (λ_ _=>rfl) V V W ?_);refine DU ?_ (Aq IK));refine sT (wN ?_);obtain⟨r2,D,H⟩:=An.1 H;have D:=PE D;obtain⟨Q,L,J⟩:=An.1 H;refine Bi (β:=((List Bool))×(Nat)) (λg=>Q=g.1) (λg=>⟨A3 (.own 1 g.2::A10 (A8 [])),[.dead,.row g.2 4 iU g.1,.dead]⟩) ?_ ?_
 ·refine wS (sT ?_);(refine AF V (DC 2 V V D (by decide) CR (.cons (.cl V) (.cons (.cl V) .nil)) ?_);refine DU ?_ (Aq IF));refine sT (sT (wN ?_));refine Ad ?_;refine BB L (λO B=>⟨A3 (.own 1 B.1::A7 (.own 2 B.2::.lit (.int .i64 (r2.length:Int))::.lit (.int .i64 O.1)::A8 [])),[.dead,.row B.1 4 iU O.2,.row B.2 3 tInt r2]⟩) (0,0) (?_) ?_
  ·try dsimp only
   exact leC (g8 (gZ (gZ (g9 _))))
  ·rintro⟨Y,l5⟩ ⟨N,U⟩ X H I;try dsimp only
   dsimp only[Ey]at H;refine wS (sT (wN ?_));refine Ab λG u=>?_
   refine Ah V (λc=>?_) (λc=>?_)
   ·have H:=AI c H;refine Al ?_;refine u _ ?_;refine nT ?_;refine Ab λF s=>?_
    refine Ad ?_;obtain⟨A,H⟩:=Aj.1 H;refine wS ?_;refine sA ?_ (BS V (Ao Fw) V (Ao Fc) V A) (Aq GY);refine sA ?_ (Bs V (Ao GP) V (BP A) V) (Aq (Aq G9));refine sT (wN ?_);obtain⟨z,H⟩:=Aj.1 H;refine wSE (sT (sT ?_));refine sA ?_ (BS V (Ao (Ao Gi)) V (Ao (Ao Fm)) V z) (Aq (Aq IF));(refine AF V (CT V V V (BP z) iD V ?_);refine DU ?_ Qx);refine wN ?_;refine s _ ?_;refine nT ?_;refine wSE (sT (sT (wN ?_)));have E:=Ac.1 H;repeat(first|refine abN ?_|refine asN ?_)
    refine Ap ⟨_,(N,U),E.symm,?_⟩;try dsimp only
    exact AS
   ·have H:=AJ c H;refine Ay ?_;repeat(first|refine BF ?_|refine exO (by decide) ?_|refine asE ?_)
    refine exN ?_;have E:=I _ (Ac.1 H).symm;repeat(first|refine abN ?_|refine asN ?_)
    refine Ap ⟨(_,N),E.symm,?_⟩;try dsimp only
    exact leC (gZ (gZ (g8 (g9 _))))
 ·rintro⟨l9,Z⟩ m;try dsimp only at m
  have H:=J;rw[m]at H;try dsimp only
  refine wS (sT (sT (wN ?_)));obtain rfl:=Ac.1 H;exact Aw ⟨.inr V,iC V⟩
def J2(f:iF):M (List Int):=iH (Fd f (-1)) λr1=>iI (aL (r1.length<=2147483648)) (iL (List.reverse r1))
theorem UL(H:(J2 f).to r):Fn bK 186 [.agg (Ak f)] (.bs tInt r):=by
 delta J2 at H;try dsimp only at H
 refine AQ Tryz.func186 V (by kernel_rfl) V Tryz.ntmps186 λC m=>?_
 simp only[Nat.reduceAdd,Nat.reduceSub,zaa];refine wS (sB (sT (wN ?_)));obtain⟨r1,c,H⟩:=An.1 H;have c:=PE c;refine wS (sT ?_);(refine AF V (DC 1 V V c (by decide) CR (.cons (.cl V) (.cons (.cl V) .nil)) ?_);refine DU ?_ GK);refine sT (wN ?_);obtain⟨g,H⟩:=Aj.1 H;refine wS (sT ?_);(refine AF V (Acj V V V (of_decide_eq_true g) ?_);refine DU ?_ GY);refine wN ?_;refine wS (sT (sT (wN ?_)));obtain rfl:=Ac.1 H;exact Aw ⟨.inr V,iC V⟩
def DY(a:List Int)(g:List Int):(Int×(List Int))->M ((Int×(List Int))⊕((List Int))):=λ(x1,l3)=>iJ (aL (x1 < (a.length:Int))) (iH (iI (Ci a x1) (iH (C3 g (ixD a x1)) λc=>iJ c.2 (iI (wfB .i64 (ixD a x1)) (iI (EZ (l3.length+ [ixD a x1].length) 8) (iL (l3++[ixD a x1])))) (iL l3))) λl10=>iL (.inl (aS.wrap (x1+1),l10))) (iL (.inr l3))
def F3(a:List Int)(c:List Int):M (List Int):=iH (iK (DY a c) (0,([]:List Int))) λg=>iL g
theorem Su{a:List Int}{m:List Int}(H:(F3 a m).to r):JK bK 187 [.bs tInt a,.bs tInt m] 3 tInt r:=by
 delta F3 at H;try dsimp only at H
 refine El Tryz.func187 V (by kernel_rfl) V Tryz.ntmps187 CR λC hC=>?_
 simp only[Nat.reduceAdd,Nat.reduceSub,zaa];refine wS (sT (wN ?_));refine wS (sT (wN ?_));refine AK _ (ED 5 3 tInt V (by decide)) ?_;obtain⟨z4,W,U⟩:=An.1 H;refine Bi (β:=((List Int))×(Nat)) (λA=>z4=A.1) (λA=>⟨A5 (.own 0 A.2::A20 (A3 [])),[.row A.2 3 tInt A.1]⟩) ?_ ?_
 ·refine wS (sT (sT (sT (wN ?_))));refine Ad ?_;refine BB W (λY Z=>⟨.any::.bs tInt m::A3 (.own 0 Z::A4 (.bs tInt a::.lit (.int .i64 (a.length:Int))::.lit (.int .i64 Y.1)::A10 (A6 []))),[.row Z 3 tInt Y.2]⟩) 0 (?_) ?_
  ·try dsimp only
   exact AS
  ·rintro⟨X,l3⟩ G x4 H Q;try dsimp only
   dsimp only[DY]at H;refine wS (sT (wN ?_));refine Ab λaa I=>?_
   refine Ah V (λv=>?_) (λv=>?_)
   ·have H:=AI v H;refine Al ?_;refine I _ ?_;refine nT ?_;obtain⟨F,E,D⟩:=An.1 H;refine Bi (β:=((List Int))×(Nat)) (λc=>F=c.1) (λc=>⟨.any::.bs tInt m::A3 (.own 0 c.2::A4 (.bs tInt a::.lit (.int .i64 (a.length:Int))::.lit (.int .i64 X)::A10 (A6 []))),[.row c.2 3 tInt c.1]⟩) ?_ ?_
    ·have H:=E;refine Ad ?_;obtain⟨O,H⟩:=Aj.1 H;refine wS (sX O (sT (sT (wN ?_))));obtain⟨ab,u,H⟩:=An.1 H;have u:=E6 u;refine wS (sT (sT (sC u (sT (sT (sT (sT (sT (wN ?_)))))))));refine wS (sT (wN ?_));refine Ah V (λg=>?_) (λg=>?_)
     ·have H:=AI g H;obtain⟨N,H⟩:=Aj.1 H;obtain⟨L,H⟩:=Aj.1 H;refine wSE (sT (sT ?_));refine sA ?_ (AT.lt (xs:=[.tmp 24]) (T:=tInt) (ds:=[ixD a X]) V V V (by rfl) (by decide) (.cons (iE N) .nil)) (Aq (Aq (Aq IK)));refine sP L (sT (wN ?_));have z:=Ac.1 H;repeat(first|refine abN ?_|refine asN ?_)
      refine Ap ⟨(_,G+1),z.symm,?_⟩;try dsimp only
      exact AS
     ·have H:=AJ g H;refine Al ?_;have z:=Ac.1 H;repeat(first|refine abN ?_|refine asN ?_)
      refine Ap ⟨(_,G),z.symm,?_⟩;try dsimp only
      exact AS
    ·rintro⟨l10,v9⟩ s;try dsimp only at s
     have H:=D;rw[s]at H;try dsimp only
     refine wSE (sT (sT (wN ?_)));have J:=Ac.1 H;repeat(first|refine abN ?_|refine asN ?_)
     refine Ap ⟨_,v9,J.symm,?_⟩;try dsimp only
     exact AS
   ·have H:=AJ v H;refine Ay ?_;repeat(first|refine BF ?_|refine exO (by decide) ?_|refine asE ?_)
    refine exN ?_;have J:=Q _ (Ac.1 H).symm;repeat(first|refine abN ?_|refine asN ?_)
    refine Ap ⟨(_,G),J.symm,?_⟩;try dsimp only
    exact AS
 ·rintro⟨l6,v5⟩ B;try dsimp only at B
  have H:=U;rw[B]at H;try dsimp only
  refine wS (sT (sT (wN ?_)));obtain rfl:=Ac.1 H;exact Aw ⟨.inr V,rfl,0,v5,rfl,rfl⟩
end
def Ew(p:Int->Bool)(l:List Int)(j:Nat):List Int:=(l.take j).filter λx=>!p x
theorem FG{x:Int}(hx:l[j]? =jG x):Ew p l (j+1)=if p x then Ew p l j else Ew p l j++[x]:=by
 unfold Ew;rw[fZ,hx,dO];cases h:p x <;> simp[h]
structure DelJ(p:Int->Bool)(l:List Int)(k0:Nat)(q:List Int×Nat):Prop where
 len:q.1.length=l.length
 j:q.2<=l.length
 k0:k0 < q.2
 pre:q.1.take (Ew p l q.2).length=Ew p l q.2
 post:q.1.drop q.2=l.drop q.2
 lt:(Ew p l q.2).length < q.2
theorem Aba(hk:k0 < l.length)(s:∀x∈l.take k0,p x=aH){x:Int}(hx:l[k0]? =jG x)(m:p x=aK):DelJ p l k0 (l,k0+1):=by
 have e:Ew p l (k0+1)=l.take k0:=by
  rw[FG hx,if_pos m];unfold Ew;exact dQ.2 λy g=>by rw[s y g];rfl
 have c:(l.take k0).length=k0:=by rw[eV];omega
 exact⟨rfl,hk,i8 _,by rw[e,c],rfl,by rw[e,c];exact i8 _⟩
theorem Ahu(H:DelJ p l k0 (cur,j)){x:Int}(hx:l[j]? =jG x)(c:p x=aK):DelJ p l k0 (cur,j+1):=by
 have g:=(eG.1 hx).1;have e:Ew p l (j+1)=Ew p l j:=by rw[FG hx,if_pos c]
 have:=H.lt;have:=H.k0;refine⟨H.len,g,by simp only at *;omega,by rw[e];exact H.pre,?_,by rw[e];simp only at *;omega⟩;have:=congrArg (dK 1) H.post;rw[dL,dL]at this;exact this
theorem Ahv(H:DelJ p l k0 (cur,j)){x:Int}(hx:l[j]? =jG x)(c:p x=aH):DelJ p l k0 (cur.set (Ew p l j).length x,j+1):=by
 have g:=(eG.1 hx).1;have e:Ew p l (j+1)=Ew p l j++[x]:=by rw[FG hx,if_neg (by rw[c];simp)]
 have h1:(Ew p l j).length < j:=H.lt;have h2:cur.length=l.length:=H.len;have u:k0 < j:=H.k0;have s:cur.take (Ew p l j).length=Ew p l j:=H.pre;have m:cur.drop j=l.drop j:=H.post;refine⟨by simp[h2],g,by simp only;omega,?_,?_,by rw[e,eO];simp only[zai];omega⟩
 ·simp only;rw[e,eO,eP,eT,jB,fZ,eJ (by omega),List.take_set_of_le (iY _),s];rfl
 ·simp only;rw[List.drop_set_of_lt (by omega)];have:=congrArg (dK 1) m;rw[dL,dL]at this;exact this
theorem Al5(H:DelJ p l k0 (cur,j)):cur[j]? =l[j]?:=by
 have:=congrArg (λz=>z[0]?) H.post;simp only[eD,Nat.add_zero]at this;exact this
theorem Agv:(Ajg p l= -1/\l.filter (λx=>!p x)=l)\/∃(k:Nat) (x:Int),Ajg p l=(k:Int)/\k < l.length/\(∀y∈l.take k,p y=aH)/\l[k]? =jG x/\p x=aK:=by
 unfold Ajg;cases h:l.findIdx? p with
 |none=>
  rw[dU]at h;exact .inl ⟨rfl,dQ.2 λy c=>by rw[h y c];rfl⟩
 |some k=>
  obtain⟨h1,h2,g⟩:=dV.1 h;refine .inr ⟨k,l[k],rfl,h1,λy c=>?_,eE h1,h2⟩;obtain⟨j,m,rfl⟩:=fN.1 c;have:=g j (by omega);simpa using this
theorem Ago:∀(w w':cI) (S S':Nat->Prop) (cs:List cF) (d:Int),tInt.RS w S cs d->tInt.RS w' S' cs d:=λ_ _ _ _ _ _ h=>DN.2 (DN.1 h)
theorem Afa{cells news:List cF}(h:off<=cells.length):(HT cells off news)[j]? =if j < off then cells[j]? else if j < off+news.length then news[j - off]? else cells[j]?:=by
 unfold HT;have h1:(cells.take off).length=off:=by rw[eV];omega
 by_cases g:j < off
 ·rw[if_pos g,dG,eA (by omega),eK g]
 ·rw[if_neg g];by_cases c:j < off+news.length
  ·rw[if_pos c,eA (by rw[eO];omega),eB (by omega),h1]
  ·rw[if_neg c,eB (by rw[eO];omega),eD,eO,h1];congr 1;omega
theorem Amj{A B:List cF}{m sz:Nat}(h:∀q,q < sz->A[m * sz+q]? =B[k * sz+q]?):(A.drop (m * sz)).take sz=(B.drop (k * sz)).take sz:=by
 apply dN;intro q;by_cases hq:q < sz
 ·rw[eK hq,eK hq,eD,eD,h q hq]
 ·rw[eF (by rw[eV];omega),eF (by rw[eV];omega)]
theorem Akf{cells news:List cF}{l':List Int}(s:Amy tInt cells l)(hi:i * 1<=cells.length)(g:l'=l.take i):Amy tInt (HT cells (i * 1) news) l':=λw S j d c=>by
 subst g;rw[List.getElem?_take]at c;split at c
 ·rename_i m;have:=s w S j d c;have e:((HT cells (i * 1) news).drop (j * tInt.size)).take tInt.size=(cells.drop (j * tInt.size)).take tInt.size:=Amj λq hq=>by
   have hq:q < 1:=hq;show(HT cells (i * 1) news)[j * 1+q]? =cells[j * 1+q]?;rw[Afa hi,if_pos (by omega)]
  rw[e];exact this
 ·cases c
theorem Abc(l:List Int)(f:aR)(c:List AV)(m:gR (.fn f c)=aK)(s:Fn bK 58 [.bs tInt l,.fn f c] (.lit (.int .i64 (-1)))):RG bK 177 3 tInt l [.fn f c] l:=by
 refine Mq a7 V (by kernel_rfl) V bI CR λC=>?_
 simp only[Nat.reduceAdd,Nat.reduceSub,zaa];refine wR ?_;refine wR (hx:=by((repeat(first|refine sA ?_ (CM V s (.cons (.own V) (.cons (.cl m) .nil)))|refine sA ?_|refine AO ?_|refine sAG ?_|refine Bq ?_));exact CV V)) (hk:=?_);refine Ab λv u=>?_
 refine wR ?_;refine Ah V (λg=>?_) (λg=>?_)
 ·refine wR ?_;exact Aw ⟨.inr V,0,0,rfl,rfl,rfl⟩
 ·have g:((-1:Int) == -1)=aH:=g;cases g
theorem Abb(l:List Int)(hl:l.length<=2147483648)(W:∀x∈l,wfI .i64 x)(f:aR)(m:List AV)(aa:gR (.fn f m)=aK)(p:Int->Bool)(hp:∀x∈l,Fn bK f (.lit (.int .i64 x)::m) (.lit (.bool (p x))))(k0:Nat)(x0:Int)
 (Y:k0 < l.length)(I:∀y∈l.take k0,p y=aH)(D:l[k0]? =jG x0)(G:p x0=aK)(hI:Fn bK 58 [.bs tInt l,.fn f m] (.lit (.int .i64 (k0:Int)))):RG bK 177 3 tInt l [.fn f m] (l.filter λx=>!p x):=by
 refine Mq a7 V (by kernel_rfl) V bI CR λC=>?_
 simp only[Nat.reduceAdd,Nat.reduceSub,zaa];refine wR ?_;refine wR (hx:=by((repeat(first|refine sA ?_ (CM V hI (.cons (.own V) (.cons (.cl aa) .nil)))|refine sA ?_|refine AO ?_|refine sAG ?_|refine Bq ?_));exact CV V)) (hk:=?_);refine Ab λK3 h3=>?_
 refine wR ?_;refine Ah V (λA=>?_) (λA=>?_)
 ·have A:((k0:Int) == -1)=aK:=A;have:=eq_of_beq A;omega
 ·refine Al ?_;refine h3 _ ?_;refine nT ?_;refine Ab λK8 h8=>?_
  refine wR ?_;refine Ad ?_;refine AH (λq:List Int×Nat=>⟨(.own 0 0::.fn f m::A3 (.lit (.int .i64 ((Ew p l q.2).length:Int))::.lit (.int .i64 (q.2:Int))::A20 (A10 (A5 [])))),[.row 0 3 tInt q.1]⟩) (DelJ p l k0) (λq=>l.length - q.2) (l,k0+1) (Aba Y I D G) (by rw[show(Ew p l (k0+1)).length=k0 from by rw[FG D,if_pos G];unfold Ew;rw[dQ.2 λy O=>by rw[I y O];rfl,eV];omega];exact AS) ?_;rintro⟨cur,j⟩ H;have B:cur.length=l.length:=H.len;have af:j<=l.length:=H.j;have L:(Ew p l j).length < j:=H.lt;dsimp only;refine Ab λah ad=>?_
  refine wR ?_;refine Ah V (λu=>?_) (λu=>?_)
  ·have X:j < l.length:=by have:(j:Int) < (cur.length:Int):=of_decide_eq_true u;omega
   obtain⟨x,hx⟩:∃x,l[j]? =jG x:=⟨_,eE X⟩
   have Q:cur[j]? =jG x:=(Al5 H).trans hx;have ae:=hp x (fI hx);have U:=W x (fI hx);obtain⟨y,O⟩:∃y,cur[(Ew p l j).length]? =jG y:=⟨_,eE (by omega)⟩
   refine Al ?_;refine ad _ ?_;refine nT ?_;refine Ab λag N=>?_
   refine Ad ?_;refine wR (hx:=by((repeat(first|refine sA ?_ (Bs V V V Q V)|refine sA ?_|refine AO ?_|refine sAG ?_|refine Bq ?_));exact CV V)) ?_;refine wR ?_;refine Ah V (λs=>?_) (λs=>?_)
   ·refine wR (hx:=by((repeat(first|(refine AF V (CT V V V O (Fit.int U) V ?_);refine sNt ?_)|refine sA ?_|refine AO ?_|refine sAG ?_|refine Bq ?_));exact CV V)) (hk:=?_);refine wRE ?_;refine N _ ?_;refine nT ?_;refine wRE ?_;have c:p x=aH:=by have:(!p x)=aK:=s;simpa using this
    refine Ap ⟨(cur.set (Ew p l j).length x,j+1),Ahv H hx c,by dsimp only;omega,?_⟩;dsimp only;have e:((Ew p l (j+1)).length:Int)=((Ew p l j).length:Int)+1:=by rw[FG hx,if_neg (by rw[c];simp)];simp
    rw[e];exact leC (gZ (g9 _))
   ·refine Al ?_;refine N _ ?_;refine nT ?_;refine wRE ?_;have c:p x=aK:=by have:(!p x)=aH:=s;simpa using this
    refine Ap ⟨(cur,j+1),Ahu H hx c,by dsimp only;omega,?_⟩;dsimp only;have e:((Ew p l (j+1)).length:Int)=((Ew p l j).length:Int):=by rw[FG hx,if_pos c]
    rw[e];exact leC (gZ (g9 _))
  ·refine Ay ?_;refine h8 _ ?_;refine nT ?_;have Z:j=l.length:=by have:¬(j:Int) < (cur.length:Int):=of_decide_eq_false u;omega
   subst Z;have E:Ew p l l.length=l.filter λx=>!p x:=by unfold Ew;rw[gE]
   have z:=H.pre;simp only at z;rw[E]at z L⊢;generalize hF:(l.filter λx=>!p x)=F at z L⊢;refine VM 0 V V (by intro e;rw[e]at B;simp at B;omega) Ago JW (λv=>(.lit v::A4 (.lit (.int .i64 (F.length:Int))::A20 (A10 (A6 []))))) (λv=>(by(repeat(first|exact Opn.nil|refine Opn.own ?_|refine Opn.any ?_|refine Opn.keep V ?_)))) λg cap cells hc J hm hR h1=>?_
   have hc:cells.length=cap * 1:=hc;refine wR (hx:=by((repeat(first|refine sA ?_ (P8 V V ⟨_,rfl⟩ V (by omega) J)|(refine AF V (Acn (i:=0) (by decide) V V V hc J ?_);refine sNt ?_)|refine sA ?_|refine AO ?_|refine sAG ?_|refine Bq ?_));exact CV V)) (hk:=?_);refine wR (hx:=by((repeat(first|refine sA ?_ (Xy V V ⟨_,rfl⟩ (by omega))|refine sA ?_|refine AO ?_|refine sAG ?_|refine Bq ?_));exact CV V)) (hk:=?_);have ac:=Akf (news:=Zf bK 3 (cur.length - F.length)) hR (i:=F.length) (by omega) z.symm;have ab:(HT cells (F.length * 1) (Zf bK 3 (cur.length - F.length))).length=cap * tInt.size:=by
    rw[Gp (by rw[Acx (ty:=27)];omega)];exact hc
   refine AK _ (QL 0 (ver:=1) (t':=(A4 (.own 0 1::A20 (A10 (A7 []))))) V V ab (by omega) hm (by decide) ac (by(try simp only[Bn,zac]);(repeat(first|exact Cls.nil|refine Cls.own ?_|refine Cls.any ?_|refine Cls.keep V ?_)))) ?_;exact Aw ⟨.inr V,0,1,rfl,rfl,rfl⟩
theorem Al6(l:List Int)(F:l.length<=2147483648)(z:∀x∈l,wfI .i64 x)(f:aR)(c:List AV)(g:Bh c=aK)(p:Int->Bool)(E:∀x∈l,Fn bK f (.lit (.int .i64 x)::c) (.lit (.bool (p x)))):RG bK 177 3 tInt l [.fn f c] (l.filter λx=>!p x):=by
 have m:gR (.fn f c)=aK:=by unfold gR;exact g
 have s:=Agx l F f c g p E;rcases Agv (p:=p) (l:=l)with⟨D,H⟩|⟨k0,G,D,B,A,u,v⟩
 ·rw[D]at s;rw[H];exact Abc l f c m s
 ·rw[D]at s;exact Abb l F z f c m p E k0 G B A u v s
end Mu
section
namespace Go.Proofs
open Go.Shelf
def Tryz.laysI_ren:Go.Shelf.Ren:=⟨fun|21=>188|27=>193|28=>194|35=>195|39=>192|n=>n,fun|22=>27|3=>3|0=>0|4=>4|n=>n,fun|n=>n⟩
theorem Tryz.laysI:Go.Proofs.Lays2.n21 bK Tryz.laysI_ren:={
 mixed:=by kernel_rfl
 f21:=Tryz.func188.trans (congrArg jG (by kernel_rfl))
 f27:=Tryz.func193.trans (congrArg jG (by kernel_rfl))
 f28:=Tryz.func194.trans (congrArg jG (by kernel_rfl))
 f35:=Tryz.func195.trans (congrArg jG (by kernel_rfl))
 f39:=a8.trans (congrArg jG (by kernel_rfl))
 t0:=bR
 a0:=bC
 z0:=bL
 v0:=bX
 t3:=bT
 a3:=bE
 z3:=bN
 v3:=bZ
 t4:=bU
 a4:=bF
 z4:=bO
 v4:=b9
 t22:=bS
 a22:=bD
 z22:=bM
 v22:=bY
 i3:=by kernel_rfl}
end Go.Proofs
end
namespace Mu
open Go Go.RowKit Go.ChangeShapes Go.WideShapes Go.Proofs
variable{D:List cF}{b:cF}{i n:Nat}
theorem MT(w:cI){base old:Nat}{xs:List Int}(c:base<=w.heap.size)(hx:xs.length=n)(m:n<=cY){cur:Array cF}(hc:cur.size=cT w n old 3)(ht:cur.toList.take n=xs.map (cH .i64)){w':cI}(g:w'.heap[w.heap.size]? =jG (.cells cur 3 (0,0))):
 Gj w' base (.slice (jG ⟨w.heap.size,0,jF⟩) n (cT w n old 3)) xs:=
 .of (n:=n) (cs:=xs.map (cH .i64)) ⟨by simp[hx],.inr ⟨w.heap.size,_,cur,rfl,c,g,cU w n old _,grownCap_le_maxLen w n old _ m,by rw[hc,jA],by rw[jA];exact ht⟩⟩ hx.symm V
theorem Ae9{cells news:List cF}{off:Nat}(h:off+news.length<=cells.length):(HT cells off news).take (off+news.length)=cells.take off++news:=by
 unfold HT;rw[gC (by simp;omega),gF (by simp;omega)]
theorem Aaj{C:List cF}(hi:i<=n)(g:n+1<=C.length)(c:D.length=n - i):(HT (HT C (i+1) D) i [b]).take (n+1)=C.take i++b::D:=by
 unfold HT;have h1:(C.take (i+1)++D++C.drop (i+1+D.length)).take i=C.take i:=by
  rw[dG,gC (by simp;omega),gI,i9 (by omega)]
 have h2:(C.take (i+1)++D++C.drop (i+1+D.length)).drop (i+ [b].length)=D++C.drop (i+1+D.length):=by
  rw[dG,List.drop_left' (by simp;omega)]
 rw[h1,h2,<-dG,gC (by simp;omega),gF (by simp;omega),dG];rfl
theorem Aai{C:List cF}(hi:i<=n)(g:n+1<=C.length)(c:D.length=n - i):(HT (HT C i [b]) (i+1) D).take (n+1)=C.take i++b::D:=by
 unfold HT;have h1:(C.take i++[b]++C.drop (i+ [b].length)).take (i+1)=C.take i++[b]:=by
  rw[gD (by simp;omega)]
 rw[h1,gC (by simp;omega),gF (by simp;omega),dG];rfl
theorem Og(l:List Int):∀u∈l.map (cH .i64),u.oneCell'=aK:=λu c=>by
 obtain⟨x,_,rfl⟩:=fH.1 c;rfl
theorem Aah{base:Nat}{v u:cF}{zs:List Int}{b:Int}{w:cI}(I:Gj w base v zs)(hu:Gj w base u [b])(hi:i<=zs.length)(hn:zs.length<=2147483648)(am:∀g,v.ownBlock=jG g->u.ownBlock≠jG g)(F:base<=w.heap.size):
 aM bK 188 #[v,.int .i64 (i:Int),u] w λe w'=>∃v',e= .returned v'/\Gj w' base v' (zs.take i++b::zs.drop i)/\w.grownBy w' v.ownBlock/\(v'.ownBlock=v.ownBlock\/v'.ownBlock=jG w.heap.size):=by
 obtain⟨G,J,E,rfl,ay,aa,ax,aw,av,au⟩:∃G J E,u= .slice (jG ⟨G,0,jF⟩) 1 J/\base<=G/\w.heap[G]? =jG (.cells E 3 (0,0))/\1<=J/\J<=cY/\E.size=J * 1/\E.toList.take (1 * 1)= [cH .i64 b]:=by
  rcases hu.2 with⟨_,h0⟩|⟨g,cap,cur,h⟩
  ·cases h0
  ·exact⟨g,cap,cur,h⟩
 have H:∀j x,[cH .i64 b][j]? =jG x->w.cell? ⟨G,0+j,jF⟩=jG x:=λj x hx=>by
  have:=hu.cells (g:=G) V j x hx;simpa[add_plain]using this
 have B:∀x∈[cH .i64 b],x.oneCell'=aK:=Og [b];have hl:(zs.take i++b::zs.drop i).length=zs.length+1:=by simp;omega
 have ac:zs.length+1<=cY:=by unfold cY;omega
 rcases I.2 with⟨rfl,h0⟩|⟨g,cap,cur,rfl,hb,hg,h1,h2,h3,h4⟩
 ·have hz:zs= []:=dM h0;subst hz;have ao:i=0:=by simpa using hi
  subst ao;refine(Any2.slices_Insert_int_end_grow Tryz.laysI jF 0 0 G 0 1 J [] [.int .i64 b] w (by omega) (iY _) (by omega) (by omega) V V (λ_=>rfl) (λa h=>by cases h) H B).mono λe w' ⟨N,z⟩=>?_
  subst z;refine⟨_,N,MT w (n:=0+1) (old:=0) (xs:=[b]) F V (by unfold cY;omega) (cur:=_) ?_ ?_ (cV w.drew _),⟨rfl,rfl,rfl,by simp,λk hk _=>cW w.drew _ hk⟩,.inr V⟩
  ·have:=cU w (0+1) 0 3;simp only[List.nil_append,aE,fX,dA,eP,eT];show 0+1+_ * 1=_;rw[jA];show 0+1+(cT w (0+1) 0 3 - (0+1))=cT w (0+1) 0 3;omega
  ·simp
 ·have ar:g < w.heap.size:=(aA.1 hg).1;have ap:G≠g:=λe=>am g V (by rw[e];rfl)
  have Z:(zs.map (cH .i64)).length=zs.length:=by simp
  have ai:∀j x,(zs.map (cH .i64))[j]? =jG x->w.cell? ⟨g,0+j,jF⟩=jG x:=λj x hx=>by
   have:=I.cells (g:=g) V j x hx;simpa[add_plain]using this
  have ag:w.heap[g]? =jG (.cells cur.toList.toArray 3 (0,0)):=by simpa using hg
  have hcur:cur.toList.length=cap:=by simpa using h3
  have aj:cur.toList.take zs.length=zs.map (cH .i64):=by simpa using h4
  have ab:∀j,j < cap->(w.cell? ⟨g,0+j,jF⟩).isSome=aK:=λj hj=>by
   have:j < cur.size:=by omega
   simp[cJ,hg,this]
  have ah:∀j,w.frozen? ⟨g,j,jF⟩=aH:=λj=>by simp[cM,hg]
  by_cases an:i=zs.length
  ·subst an;rw[gE,List.drop_length];by_cases c:zs.length+1<=cap
   ·refine(Any2.slices_Insert_int_end_room Tryz.laysI g 0 zs.length cap G 0 1 J [.int .i64 b] w (by omega) c (by unfold cY at h2;omega) V (λj hj=>by rw[show 0+zs.length+j=0+(zs.length+j)by omega];exact ab _ (by omega)) (λj _=>ah _) H B).mono λe w' ⟨N,z⟩=>?_
    have W:0+zs.length+ [cH .i64 b].length<=cur.toList.length:=by rw[hcur];simp;omega
    rw[E7 bK ag W B]at z;subst z;refine⟨_,N,.of (n:=zs.length+1) (cs:=(zs++[b]).map (cH .i64)) ⟨by simp,.inr ⟨g,cap,_,rfl,hb,cZ w g _ _ _ _ hg,c,h2,by rw[fX,Gp W,hcur,jA],?_⟩⟩ (by simp) V,Ce w g _,.inl V⟩;have:=Ae9 W;rw[jA,show zs.length+1=0+zs.length+ [cH .i64 b].length by simp,this,jB,aj];simp
   ·refine(Any2.slices_Insert_int_end_grow Tryz.laysI (jG ⟨g,0,jF⟩) zs.length cap G 0 1 J (zs.map (cH .i64)) [.int .i64 b] w (by omega) h1 (by omega) (by omega) Z V (λh=>by cases h) (λa ha j x hx=>by cases ha;exact I.cells (g:=g) V j x hx) H B).mono λe w' ⟨N,z⟩=>?_
    subst z;refine⟨_,N,MT w (n:=zs.length+1) (old:=cap) (xs:=zs++[b]) F (by simp) ac (cur:=_) ?_ ?_ (cV w.drew _),⟨rfl,rfl,rfl,by simp,λk hk _=>cW w.drew _ hk⟩,.inr V⟩
    ·have:=cU w (zs.length+1) cap 3;simp only[aE,fX,dA,eO,eS,eP,eT];show zs.length+(0+1)+(cT w (zs.length+1) cap 3 - (zs.length+1)) * 1=cT w (zs.length+1) cap 3;omega
    ·rw[aF,gC (by simp),gF (by simp)];simp
  ·have ae:i < zs.length:=by omega
   have O:(((zs.map (cH .i64)).drop i)).length=zs.length - i:=by simp
   have ak:∀x∈(zs.map (cH .i64)).drop i,x.oneCell'=aK:=λx hx=>Og zs x (fJ hx)
   by_cases c:zs.length+1<=cap
   ·refine(Any2.slices_Insert_int_shift Tryz.laysI g 0 zs.length cap i G 0 1 J (zs.map (cH .i64)) [.int .i64 b] w ae (by omega) c (by unfold cY at h2;omega) ap Z V ai (λj hj=>ab j (by omega)) (λj _=>ah _) H (Og zs) B 3 3 E.size cur.size (by simp[cO,aa]) (by simp[cO,hg]) (by omega) (by simp[cM,aa]) (by simp[cM,aa])).mono λe w' ⟨N,z⟩=>?_
    have m:0+(i+1)+((zs.map (cH .i64)).drop i).length<=cur.toList.length:=by rw[hcur,O];omega
    have X:w.drew.heap[g]? =jG (.cells cur.toList.toArray 3 (0,0)):=ag;rw[E7 bK X m ak]at z;have Y:=cZ w.drew g _ (HT cur.toList (0+(i+1)) ((zs.map (cH .i64)).drop i)).toArray _ _ X;have A:0+i+ [cH .i64 b].length<=(HT cur.toList (0+(i+1)) ((zs.map (cH .i64)).drop i)).length:=by rw[Gp m,hcur];simp;omega
    rw[E7 bK Y A B,setRow_setRow]at z;subst z;refine⟨_,N,.of (n:=zs.length+1) (cs:=(zs.take i++b::zs.drop i).map (cH .i64)) ⟨by simp;omega,.inr ⟨g,cap,_,rfl,hb,cZ w.drew g _ _ _ _ X,c,h2,by rw[fX,Gp A,Gp m,hcur,jA],?_⟩⟩ hl.symm V,⟨(Ce w.drew g _).os,(Ce w.drew g _).tape,(Ce w.drew g _).output,(Ce w.drew g _).size,(Ce w.drew g _).block⟩,.inl V⟩;rw[jA,gK,jB,jB,Aaj (n:=zs.length) hi (by rw[hcur];exact c) O];have e:=congrArg (fY i) aj;rw[gI,i9 hi]at e;rw[e];simp
   ·refine(Any2.slices_Insert_int_grow Tryz.laysI g 0 zs.length cap i G 0 1 J (zs.map (cH .i64)) [.int .i64 b] w ae (by omega) h1 (by omega) (by omega) Z V ai H (Og zs) B).mono λe w' ⟨N,z⟩=>?_
    have hG:=cU w (zs.length+1) cap 3;obtain⟨s,aq,L,al⟩:∃s:List cF,(((zs.map (cH .i64)).take i).toArray++Builtin.zeroCells (cH .i64 0).cells (zs.length+1 - i)++Builtin.zeroCells (cH .i64 0).cells (cT w (zs.length+1) cap 3 - (zs.length+1)))=s.toArray/\s.length=cT w (zs.length+1) cap 3/\s.take i=(zs.map (cH .i64)).take i:=by
     refine⟨_,(Array.toArray_toList (xs:=_)).symm,?_,?_⟩
     ·have e1:(cH .i64 0).cells.size=1:=rfl;simp only[Array.length_toList,aE,fX,dA,eV,eS,e1];omega
     ·rw[aF,aF,dG];exact gD (by simp;omega)
    have z:w'=(((w.alloc (.cells s.toArray 3)).drew.setCells w.heap.size i [.int .i64 b]).drew).setCells w.heap.size (i+1) ((zs.map (cH .i64)).drop i):=by
     rw[<-aq];exact z
    have af:(w.alloc (.cells s.toArray 3)).drew.heap[w.heap.size]? =jG (.cells s.toArray 3 (0,0)):=cV w _;have m:i+ [cH .i64 b].length<=s.length:=by rw[L];simp;omega
    rw[E7 bK af m B]at z;have Y:=cZ (w.alloc (.cells s.toArray 3)).drew w.heap.size _ (HT s i [.int .i64 b]).toArray _ _ af;have A:i+1+((zs.map (cH .i64)).drop i).length<=(HT s i [.int .i64 b]).length:=by rw[Gp m,L,O];omega
    have Q:((w.alloc (.cells s.toArray 3)).drew.setRow w.heap.size (HT s i [.int .i64 b]).toArray).drew.heap[w.heap.size]? =jG (.cells (HT s i [.int .i64 b]).toArray 3 (0,0)):=Y;rw[E7 bK Q A ak]at z;have U:=cZ ((w.alloc (.cells s.toArray 3)).drew.setRow w.heap.size (HT s i [.int .i64 b]).toArray).drew w.heap.size _ (HT (HT s i [.int .i64 b]) (i+1) ((zs.map (cH .i64)).drop i)).toArray _ _ Q;rw[<-z]at U;refine⟨_,N,MT w (n:=zs.length+1) (old:=cap) F hl ac (cur:=_) ?_ ?_ U,?_,.inr V⟩
    ·rw[fX,Gp A,Gp m,L]
    ·rw[gK,Aai (n:=zs.length) hi (by rw[L];exact hG) O,al];simp
    ·have k1:w.grownBy (w.alloc (.cells s.toArray 3)).drew (jG w.heap.size):=⟨rfl,rfl,rfl,by simp[cL],λk hk _=>cW w _ hk⟩
     subst z;refine⟨rfl,rfl,rfl,by simp[cL,cN],λk hk _=>?_⟩;have ad:k≠w.heap.size:=by omega
     have a1:=(Ce ((w.alloc (.cells s.toArray 3)).drew.setRow w.heap.size (HT s i [.int .i64 b]).toArray).drew w.heap.size (HT (HT s i [.int .i64 b]) (i+1) ((zs.map (cH .i64)).drop i)).toArray).block k (by simp[cL,cN];omega) (λe=>ad (by injection e));have a2:=(Ce (w.alloc (.cells s.toArray 3)).drew w.heap.size (HT s i [.int .i64 b]).toArray).block k (by simp[cL];omega) (λe=>ad (by injection e));exact a1.trans (a2.trans (cW w _ hk))
section
variable{C:Ctx}{t:List AV}{h:List gL}{o:aX}{K:St->Prop}
theorem Acm{x y z:aY}{Y:Array cE}{ver k m:Nat}{l:List Int}{n b:Int}(ad:i≠k)(ho:o.op= .call {callee:=.value (.func 188),args:=#[x,y,z],argTypes:=Y})(hx:evA t x= .own i ver)(hi:h[i]? =jG (.row ver 3 tInt l))(hy:evA t y= .lit (.int .i64 n))(hn:0<=n/\n.toNat<=l.length)
 (hz:evA t z= .own k m)(hk:h[k]? =jG (.row m 3 tInt [b]))(hl:l.length<=2147483648)
 (hK:K ⟨Bn t o.dst (.own i (ver+1)),h.set i (.row (ver+1) 3 tInt (l.take n.toNat++b::l.drop n.toNat))⟩):AOp bK C o ⟨t,h⟩ K:=by
 rintro Q' a w ⟨hd,S,ψ,H,u⟩;refine⟨λc e=>(by rw[ho]at e;cases e),?_⟩;have E:=Bw u x;have B:=Bw u y;have A:=Bw u z;rw[show evA (St.mk t h).t x= .own i ver from hx]at E;rw[show evA (St.mk t h).t y=_ from hy]at B;rw[show evA (St.mk t h).t z= .own k m from hz]at A;unfold gU at E B A;have hv:=(E.2 _ (by rw[hi];rfl)).2 V;have hu:=(A.2 _ (by rw[hk];rfl)).2 V;have W:=H.blk i _ hi;have G:=W.lt V;obtain⟨hO,hw⟩:=JP W;obtain⟨af,Z⟩:=JP (H.blk k _ hk);have ac:∀g,(ψ i).ownBlock=jG g->(ψ k).ownBlock≠jG g:=λg h1 h2=>by
  refine H.dis i k ad (by rw[hi];rfl) (by rw[hk];rfl) g ?_ ?_
  ·rw[hi];exact AU h1
  ·rw[hk];exact AU h2
 have ab:n=((n.toNat:Nat):Int):=by omega
 unfold Oper.wp;rw[Cx ho (by kernel_rfl) a.eval w V];simp only[Oper.upon];rw[show(#[x,y,z].map a.eval)= #[ψ i,.int .i64 ((n.toNat:Nat):Int),ψ k]from by simp[hv,hu,B,<-ab]];refine(Aah hO af hn.2 hl ac (jC _)).mono ?_;rintro r w' ⟨v',rfl,O,I,N⟩;have v:(ψ i).ownBlock=Bv (ψ i):=by
  rcases hO.2 with⟨e1,_⟩|⟨g',cap,cur,e1,_⟩ <;> rw[e1] <;> rfl
 have ae:∀g,Bv v'=jG g->v'.ownBlock=jG g:=λg hg=>by
  rcases O.2 with⟨e1,_⟩|⟨g',cap,cur,e1,_⟩
  ·rw[e1]at hg;simp[Bv]at hg
  ·rw[e1]at hg⊢;simpa[Bv,Value.ownBlock]using hg
 have U:∀g,(ψ i).ownBlock=jG g->¬C.N g/\¬S g:=λg hg=>⟨(G g (AU hg)).1,(G g (AU hg)).2.2⟩
 have L:∀q,S q->w'.heap[q]? =w.heap[q]?:=λq hq=>I.block q (H.lt q hq) λe=>(U q e.symm).2 hq
 have X:Ext w S h ψ w' S (h.set i (.row (ver+1) 3 tInt (l.take n.toNat++b::l.drop n.toNat))) (Bp ψ i v'):=iA L hi (λc' hc=>by
  simp only[gQ,jH]at hc;exact⟨ver,rfl,by omega,λe=>by omega⟩) λh=>by simp[AZ]at h
 have Q:∀g,v'.ownBlock=jG g->¬C.N g/\¬S g:=λg hg=>by
  rcases N with e1|e1
  ·rw[e1]at hg;exact U g hg
  ·rw[e1]at hg;cases hg;exact⟨λhN=>by have:=H.nlt _ hN;have:=H.bel.size;omega,λhS=>by have:=H.lt _ hS;omega⟩
 have aa:Bg (l.take n.toNat++b::l.drop n.toNat):=λr hr=>by
  rcases fA.1 hr with h1|h1
  ·exact hw r (fK h1)
  ·rcases fD.1 h1 with h1|h1
   ·rw[h1];exact Z b (by simp)
   ·exact hw r (fJ h1)
 refine⟨_,hK,IE (s:=⟨t,h⟩) hi hd u (H.set hi V (Bt (by rw[<-v];exact I)) X (LO O aa Q) λg hg=>?_) X ?_⟩
 ·have F:=ae g hg;rcases N with e1|e1
  ·left;show Bv (ψ i)=jG g;rw[<-v,<-e1];exact F
  ·right;rw[e1]at F;cases F;exact iY _
 ·unfold gU;refine⟨by simp[(eG.1 hi).1],λc' J=>?_⟩;rw[eJ (eG.1 hi).1]at J;simp only[gQ,jH]at J;exact⟨by omega,λ_=>by rw[Bk]⟩
end
end Mu
namespace Mu
open Go Go.RowKit Go.Proofs
variable{K:St->Prop}{Q:Exit->St->Prop}{e:cE}{f:iF}{hP1:Int}{l':List AV}{n:Int}{q:Int->M Bool}{r:List Int}{s:St}{ty:cE}{tys:Array cE}{v:cF}{ver:Nat}{x:aY}{y:Code}
theorem Sw{xs:List Int}{x:Int}{w:cI}{S:Nat->Prop}(h:tInt.slice.RS w S [v] xs)(G:xs.length<=2147483648):
 aM bK 39 #[v,.int .i64 x] w λe w'=>e= .returned (.bool (xs.contains x))/\w=w':=by
 obtain⟨A,c,rfl⟩:=Ck h;by_cases z:xs= []
 ·subst z;refine(Tryz.slices_Contains_int_empty _ _ _ _).mono λe w' ⟨m,u⟩=>⟨m,u.symm⟩
 ·have g:0 < xs.length:=List.length_pos_iff.2 z;obtain⟨b,o,e,_⟩:=L4 h (eE g);cases e;refine(Tryz.slices_Contains_int b o xs.length c xs x w (iY _) (by omega) (λj B=>?_)).mono λe w' ⟨m,u⟩=>?_
  ·obtain⟨b',F,E,_,hc,_⟩:=L4 h (eE B);cases E;rw[hc];simp[List.getD,B]
  ·rw[gE]at m;exact⟨m,u.symm⟩
theorem Jz(xs:List Int)(x:Int)(B:xs.length<=2147483648):Fn bK 39 [.bs tInt xs,.lit (.int .i64 x)] (.lit (.bool (xs.contains x))):=by
 refine⟨by kernel_rfl,λw S vs F c=>?_⟩;unfold Af at c;obtain⟨v,G,rfl,h1,h2⟩:=c;obtain⟨u,z,rfl,m,g⟩:=by unfold Af at h2;exact h2
 unfold Af at g;subst g;unfold gU at h1 m;subst m;refine(Sw h1 B).mono λe w' ⟨E,A⟩=>?_
 subst A;exact⟨_,E,cA _ _,S,λ_ h=>h,λ_ h=>.inl h,F,by unfold gU;rfl⟩
def Ty.sliceN{α:Type}(T:Ty α):Ty (List α) where
 size:=1
 bulk:=T.slice.bulk
 RS:=λw S cs ds=>T.slice.RS w S cs ds/\(ds= []->cs= [.slice jF 0 0])
 len:=λh=>T.slice.len h.1
 keepS:=λh c g=>⟨T.slice.keepS h.1 c g,h.2⟩
theorem Ty.sliceN_nilS{α:Type}(T:Ty α)(w:cI)(S:Nat->Prop):T.sliceN.RS w S [.slice jF 0 0] []:=⟨T.slice_nilS w S,λ_=>rfl⟩
section
variable{P:aZ}{C:Ctx}{t:List AV}{h:List gL}{o:aX}{α:Type}{T:Ty α}
theorem Ar4{l:List α}(g:(!l.isEmpty)=aK):Fit h T.sliceN (.bs T l) l:=λC S ψ w v H c=>⟨Fit.bs C S ψ w v H c,λe=>by subst e;cases g⟩
theorem Aaz(T:Ty α):Enc T.sliceN λl=>[.bs T l]:=λw S h ψ cs d H=>US T w S h ψ cs d H.1
theorem Arh(T:Ty α):Enc T.sliceN λl=>[.tv T.sliceN l]:=λw S h ψ cs d H=>by
 obtain⟨A,c,rfl,_⟩:=id H.1;unfold Af;refine⟨_,_,rfl,?_,?_⟩
 ·unfold gU;exact H
 ·unfold Af;rfl
instance Azk(T:Ty α):EncOf T.sliceN λl=>[.bs T l]:=⟨Aaz T,λw S cs d H=>one1_slice w S cs d H.1,Nat.zero_lt_one⟩
theorem QO{n i k off:Nat}{l:List (List α)}{d:List α}[AG P ty aH n](c:o.op= .load ty x)(hx:evA t x= .rp i ver k off)(hi:h[i]? =jG (.row ver e T.sliceN l))(hk:l[k]? =jG d)(h0:off=0:=by rfl):AT P C t h o (.tv T.sliceN d):=by
 subst h0;exact Ed c AG.eq hx (Lg.rp hi hk (Arh T)) V
theorem Aun{w:cI}{S:Nat->Prop}{l:List α}(g:T.sliceN.RS w S [v] l):∃A n c,v= .slice A n c/\A.isNone=l.isEmpty:=by
 obtain⟨⟨A,c,e,m,hc,hi⟩,h2⟩:=g;cases e;refine⟨A,_,_,rfl,?_⟩;cases l with
 |nil=>cases h2 rfl;rfl
 |cons x l=>
  obtain⟨b,o,rfl,_⟩:=hi 0 x V;rfl
theorem Ada(h:GN P ty=aK):∃e,P.underlying ty=jG (.slice e):=by
 unfold GN at h;split at h
 ·exact⟨_,by assumption⟩
 ·cases h
theorem XA{m z:cE}{y:aY}{l:List α}[SL P m](u:o.op= .binOp .eql m x y z)(hx:evA t x= .tv T.sliceN l)(B:evA t y= .lit (.slice jF 0 0)):AT P C t h o (.lit (.bool l.isEmpty)):=
 AN λS ψ w ρ _ g=>by
  have h1:=g x (by simp[u,Op.operands]);have h2:=g y (by simp[u,Op.operands]);rw[hx]at h1;rw[B]at h2;unfold gU at h1 h2;obtain⟨A,n,c,E,G⟩:=Aun h1;obtain⟨e,F⟩:=Ada (SL.eq (P:=P) (ty:=m));refine⟨.bool A.isNone,?_,by rw[G];unfold gU;rfl⟩;simp[execOp,u,E,h2,eqGuard,binOp,run_equal_slice_nil _ _ _ _ _ _ F]
end
def I2(l:List Int):M (List Int):=iI (aL (l.length<=2147483648)) (iL l)
theorem GJ{l:List Int}(H:(I2 l).to r):JK bK 92 [.bs tInt l] 3 tInt r:=by
 obtain⟨c,H⟩:=Aj.1 H;obtain rfl:=Ac.1 H;refine⟨by kernel_rfl,λw S vs E m=>?_⟩;unfold Af at m;obtain⟨v,G,rfl,h1,h2⟩:=m;unfold Af at h2;subst h2;unfold gU at h1;have g:tInt.slice.R w w.heap.size [v] l:=Ayu h1 E;obtain⟨A,I,rfl⟩:=Ck g;refine(U8 g (of_decide_eq_true c)).mono ?_;rintro e w' ⟨v',rfl,F,B⟩;refine⟨v',_,rfl,B,F,λi d u=>?_⟩;show tInt.RS w' S (((l.map (cH .i64)).drop (i * 1)).take 1) d;have hi:(l.map (cH .i64))[i]? =jG (.int .i64 d):=by rw[eH,u];rfl
 rw[jA,gG,eM,hi];obtain⟨_,_,_,_,z⟩:=L4 g u;exact DN.2 ⟨rfl,z.2⟩
def En(l:List Int)(n:Int):M Bool:=iI (aL (l.length<=2147483648)) (iL (l.contains n))
theorem G6{l:List Int}{r:Bool}(H:(En l n).to r):Fn bK 39 [.bs tInt l,.lit (.int .i64 n)] (.lit (.bool r)):=by
 obtain⟨c,H⟩:=Aj.1 H;obtain rfl:=Ac.1 H;exact Jz l n (of_decide_eq_true c)
noncomputable section
def F4(f:iF):M (List (List Int)):=iI (MZ f) (iL (GV f f.blocks.length))
theorem Im{r:List (List Int)}(H:(F4 f).to r):Fn bK 154 [.agg (Ak f)] (.bs tInt.slice r):=by
 obtain⟨c,H⟩:=Aj.1 H;obtain rfl:=Ac.1 H;have g:=BM.1 c;exact Cv f g.ok g.small
def BO(g:List Int)(m:List Int):Int->M (Int⊕((Unit)⊕(Bool))):=λc=>iJ (aL (c < (g.length:Int))) (iI (Ci g c) (iI (Ci m c) (iJ ((ixD g c) !=(ixD m c)) (iL (.inr (.inr aH))) (iL (.inl (aS.wrap (c+1))))))) (iL (.inr (.inl ())))
def Ct(g:List Int)(c:List Int):M Bool:=iJ ((g.length:Int) !=(c.length:Int)) (iL aH) (M.els (iK (BO g c) 0) λ_=>iL aK)
theorem IJ{A:List Int}{B:List Int}{r:Bool}(H:(Ct A B).to r):Fn bK 189 [.bs tInt A,.bs tInt B] (.lit (.bool r)):=by
 delta Ct at H;try dsimp only at H
 refine AQ Tryz.func189 V (by kernel_rfl) V Tryz.ntmps189 λC hC=>?_
 simp only[Nat.reduceAdd,Nat.reduceSub,zaa];refine wS (sT (wN ?_));refine Ab λX G=>?_
 refine wS (sT (sT (sT (sT (sT (wN ?_))))));refine Ah V (λm=>?_) (λm=>?_)
 ·have H:=AI m H;refine wS (sT (wN ?_));obtain rfl:=Ac.1 H;exact Aw ⟨.inr V,iB V⟩
 ·have H:=AJ m H;refine Al ?_;refine G _ ?_;refine nT ?_;obtain⟨Y,N,L,J⟩:=CK H;refine Bi (β:=(Unit)×(Unit)) (λO=>Y= .inl O.1) (λO=>⟨A20 (A6 []),[]⟩) ?_ ?_
  ·refine wS (sT (sT (sT (wN ?_))));refine Ad ?_;refine BB N (λZ b4=>⟨.bs tInt A::.bs tInt B::A10 (.lit (.int .i64 (A.length:Int))::.lit (.int .i64 Z)::A10 (A2 [])),[]⟩) () (?_) ?_
   ·try dsimp only
    exact AS
   ·rintro x3 _ x4 H z;try dsimp only
    dsimp only[BO]at H;refine wS (sT (wN ?_));refine Ab λW F=>?_
    refine Ah V (λg=>?_) (λg=>?_)
    ·have H:=AI g H;refine Al ?_;refine F _ ?_;refine nT ?_;refine Ab λU E=>?_
     refine Ad ?_;refine wS (sT (sT (wN ?_)));obtain⟨c8,H⟩:=Aj.1 H;obtain⟨c9,H⟩:=Aj.1 H;refine dS 9 (hq:=?_);refine qT (qT (qX c8 (qT (qT (qT (qX c9 (qT (qT (qN (wN ?_))))))))));refine Ah V (λc=>?_) (λc=>?_)
     ·have H:=AI c H;refine wS (sT (wN ?_));have H:=Ac.2 (J _ (z _ (Ac.1 H).symm).symm);obtain rfl:=Ac.1 H;exact Aw ⟨.inr V,iB V⟩
     ·have H:=AJ c H;refine Al ?_;refine E _ ?_;refine nT ?_;refine wSE (sT (sT (wN ?_)));have I:=Ac.1 H;repeat(first|refine abN ?_|refine asN ?_)
      refine Ap ⟨_,(),I.symm,?_⟩;try dsimp only
      exact AS
    ·have H:=AJ g H;refine Ay ?_;repeat(first|refine BF ?_|refine exO (by decide) ?_|refine asE ?_)
     refine exN ?_;have I:=z _ (Ac.1 H).symm;repeat(first|refine abN ?_|refine asN ?_)
     refine Ap ⟨(_,()),I.symm,?_⟩;try dsimp only
     exact AS
  ·rintro⟨_,_⟩ u;try dsimp only at u
   have H:=L _ u;try dsimp only
   refine wS (sT (wN ?_));obtain rfl:=Ac.1 H;exact Aw ⟨.inr V,iB V⟩
def De(r1:List Int)(r2:List (List Int))(g:List (List Int))(c:Int):((List Int)×Bool×Int)->M (((List Int)×Bool×Int)⊕((List Int))):=λ(l29,some30,x31)=>iJ (aL (x31 < ((ixD r2 (ixD r1 c)).length:Int))) (iH (iI (Ci (ixD r2 (ixD r1 c)) x31) (iI (Ci g (ixD (ixD r2 (ixD r1 c)) x31)) (iJ ((ixD g (ixD (ixD r2 (ixD r1 c)) x31)).isEmpty) (iL (l29,some30)) (iJ (!some30) (iI (Ci g (ixD (ixD r2 (ixD r1 c)) x31)) (iL (ixD g (ixD (ixD r2 (ixD r1 c)) x31),aK))) (iI (Ci g (ixD (ixD r2 (ixD r1 c)) x31)) (iH (F3 l29 (ixD g (ixD (ixD r2 (ixD r1 c)) x31))) λm=>iL (m,some30))))))) λ(l38,some39)=>iL (.inl (l38,some39,aS.wrap (x31+1)))) (iL (.inr l29))
def CJ(r1:List Int)(r2:List (List Int)):(Bool×Int×(List (List Int)))->M ((Bool×Int×(List (List Int)))⊕(Bool×(List (List Int)))):=λ(more12,x13,l15)=>iJ (aL (x13 < (r1.length:Int))) (iH (iI (Ci r1 x13) (iI (Ci r2 (ixD r1 x13)) (iH (iK (De r1 r2 l15 x13) ([],aH,0)) λA=>iH (iJ ((ixD r1 x13) ==0) (iL []) (iL A)) λu=>iH (C3 u (ixD r1 x13)) λc=>iH (iJ (!c.2) (iH (I2 u) λg=>iI (wfB .i64 (ixD r1 x13)) (iI (aL (0<=c.1/\dB c.1<=g.length)) (iI (aL (g.length<=2147483648)) (iL (fY (dB c.1) g++(ixD r1 x13)::dK (dB c.1) g))))) (iL u)) λm=>iI (Ci l15 (ixD r1 x13)) (iH (Ct m (ixD l15 (ixD r1 x13))) λz=>iJ (!z) (iI (Ci l15 (ixD r1 x13)) (iI (!m.isEmpty) (iL (aK,l15.set (dB (ixD r1 x13)) m)))) (iL (more12,l15)))))) λ(more22,l24)=>iL (.inl (more22,aS.wrap (x13+1),l24))) (iL (.inr (more12,l15)))
def Io(r1:List Int)(r2:List (List Int)):(Bool×(List (List Int)))->M ((Bool×(List (List Int)))⊕((List (List Int)))):=λ(more4,l6)=>iJ more4 (iH (iK (CJ r1 r2) (aH,0,l6)) λ(more17,l19)=>iL (.inl (more17,l19))) (iL (.inr l6))
def Df(f:iF):M (List (List Int)):=iH (J2 f) λr1=>iH (F4 f) λr2=>iI (VW (f.blocks.length:Int) 24) (iH (iK (Io r1 r2) (aK,fW (dB (f.blocks.length:Int)) [])) λc=>iL c)
theorem UM{r:List (List Int)}(H:(Df f).to r):Fn bK 176 [.agg (Ak f)] (.bs tInt.sliceN r):=by
 delta Df at H;try dsimp only at H
 refine AQ Tryz.func176 V (by kernel_rfl) V Tryz.ntmps176 λC hC=>?_
 simp only[Nat.reduceAdd,Nat.reduceSub,zaa];refine wS (sB (sT (wN ?_)));obtain⟨r1,k1,H⟩:=An.1 H;have k1:=UL k1;obtain⟨r2,k2,H⟩:=An.1 H;have k2:=Im k2;refine dS 6 (hq:=?_);refine qT (qC k1 (qT (qC k2 (qT (qT (qN (wN ?_)))))));obtain⟨c3,H⟩:=Aj.1 H;refine wS (sT (sT (sT ?_)));(refine AF V (Ql 1 V (T:=tInt.sliceN) (e:=27) (v:=.slice jF 0 0) (bytes:=24) ([]:List Int) V (by kernel_rfl) V (λw S=>tInt.sliceN_nilS w S) V V c3 ?_);refine DU ?_ (Aq (Aq GZ)));refine sT (wN ?_);obtain⟨z7,dd,dc⟩:=An.1 H;refine Bi (β:=((List (List Int)))×(Nat)) (λq7=>z7=q7.1) (λq7=>⟨A5 (.own 1 q7.2::A80 (A2 [])),[.dead,.row q7.2 27 tInt.sliceN q7.1]⟩) ?_ ?_
 ·refine wS (sT (wN ?_));refine Ad ?_;refine BB dd (λs7 b7=>⟨A3 (.bs tInt r1::.bs tInt.slice r2::.own 1 b7::.lit (.bool s7.1)::A80 [.any]),[.dead,.row b7 27 tInt.sliceN s7.2]⟩) 0 (?_) ?_
  ·try dsimp only
   exact leC (g8 (gZ (g9 _)))
  ·rintro⟨cp,l6⟩ v5 x7 H db;try dsimp only
   dsimp only[Io]at H;refine Ab λda ba=>?_
   refine wS (sT (wN ?_));refine Ah V (λX=>?_) (λX=>?_)
   ·have H:=AI X H;refine Al ?_;refine ba _ ?_;refine nT ?_;obtain⟨cj,bz,br⟩:=An.1 H;refine Qf (β:=(Bool×(List (List Int)))×(Nat)) (λz=>cj=z.1) (λz=>⟨A3 (.bs tInt r1::.bs tInt.slice r2::.own 1 z.2::.lit (.bool z.1.1)::A80 [.any]),[.dead,.row z.2 27 tInt.sliceN z.1.2]⟩) ?_ ?_
    ·refine Ad ?_;refine wS (sT (wN ?_));refine wS (sT (sT (sT (wN ?_))));refine Ad ?_;refine BB bz (λaa bi=>⟨A3 (.bs tInt r1::.bs tInt.slice r2::.own 1 bi::.lit (.bool aa.1)::A10 (A7 (.bs tInt r1::.lit (.int .i64 (r1.length:Int))::.lit (.int .i64 aa.2.1)::A40 (A20 [.any])))),[.dead,.row bi 27 tInt.sliceN aa.2.2]⟩) v5 (?_) ?_
     ·try dsimp only
      exact AS
     ·rintro⟨g,c,F⟩ aw df H bk;try dsimp only
      dsimp only[CJ]at H;refine wS (sT (wN ?_));refine Ab λcz az=>?_
      refine Ah V (λW=>?_) (λW=>?_)
      ·have H:=AI W H;refine Al ?_;refine az _ ?_;refine nT ?_;obtain⟨ci,bx,bq⟩:=An.1 H;refine Bi (β:=(Bool×(List (List Int)))×(Nat)) (λu=>ci=u.1) (λu=>⟨A3 (.bs tInt r1::.bs tInt.slice r2::.own 1 u.2::.lit (.bool u.1.1)::A10 (A7 (.bs tInt r1::.lit (.int .i64 (r1.length:Int))::.lit (.int .i64 c)::A40 (A20 [.any])))),[.dead,.row u.2 27 tInt.sliceN u.1.2]⟩) ?_ ?_
       ·have H:=bx;refine Ad ?_;obtain⟨cx,H⟩:=Aj.1 H;refine wS (sX cx (sT (sT (wN ?_))));refine wS (sT (wN ?_));refine wS (sT (wN ?_));refine AK _ (SO 9 tInt V) ?_;obtain⟨cw,H⟩:=Aj.1 H;obtain⟨ch,bw,bo⟩:=An.1 H;refine Bi (β:=((List Int))×(Nat)) (λE=>ch=E.1) (λE=>⟨A3 (.bs tInt r1::.bs tInt.slice r2::.own 1 E.2::.lit (.bool g)::.any::.lit (.int .i64 (ixD r1 c))::.bs tInt E.1::A10 (A4 (.bs tInt r1::.lit (.int .i64 (r1.length:Int))::.lit (.int .i64 c)::A40 (A20 [.any])))),[.dead,.row E.2 27 tInt.sliceN F]⟩) ?_ ?_
        ·refine wS (sT (sT (sX cw (sT (sT (sT (wN ?_)))))));refine Ad ?_;refine BB bw (λah bh=>⟨A3 (.bs tInt r1::.bs tInt.slice r2::.own 1 bh::.lit (.bool g)::.any::.lit (.int .i64 (ixD r1 c))::.bs tInt ah.1::.lit (.bool ah.2.1)::A10 (A3 (.bs tInt r1::.lit (.int .i64 (r1.length:Int))::.lit (.int .i64 c)::A6 (.bs tInt (ixD r2 (ixD r1 c))::.lit (.int .i64 ((ixD r2 (ixD r1 c)).length:Int))::.lit (.int .i64 ah.2.2)::A40 (A10 (A2 [])))))),[.dead,.row bh 27 tInt.sliceN F]⟩) aw (?_) ?_
         ·try dsimp only
          exact AS
         ·rintro⟨dp,cb,ck⟩ Z de H bj;try dsimp only
          dsimp only[De]at H;refine wS (sT (wN ?_));refine Ab λcy ay=>?_
          refine Ah V (λU=>?_) (λU=>?_)
          ·have H:=AI U H;refine Al ?_;refine ay _ ?_;refine nT ?_;obtain⟨cg,bv,bn⟩:=An.1 H;refine Bi (β:=((List Int)×Bool)×(Nat)) (λm=>cg=m.1) (λm=>⟨A3 (.bs tInt r1::.bs tInt.slice r2::.own 1 m.2::.lit (.bool g)::.any::.lit (.int .i64 (ixD r1 c))::.bs tInt m.1.1::.lit (.bool m.1.2)::A10 (A3 (.bs tInt r1::.lit (.int .i64 (r1.length:Int))::.lit (.int .i64 c)::A6 (.bs tInt (ixD r2 (ixD r1 c))::.lit (.int .i64 ((ixD r2 (ixD r1 c)).length:Int))::.lit (.int .i64 ck)::A40 (A10 (A2 [])))))),[.dead,.row m.2 27 tInt.sliceN F]⟩) ?_ ?_
           ·have H:=bv;refine Ad ?_;obtain⟨cv,H⟩:=Aj.1 H;refine wS (sX cv (sT (sT (wN ?_))));refine Ad ?_;obtain⟨bg,H⟩:=Aj.1 H;refine wS (sT (sT ?_));refine sA ?_ (BS V (As (Ao HW)) V (As (Ao GP)) V bg) (Ar (Aq (Aq G9)));refine sA ?_ (QO V (As (Ao (Ao IP))) V (BP bg)) (Ar (Aq (Aq IK)));refine sA ?_ (XA V (As (Ao (Ao Gi))) VX) (Ar (Aq (Aq KK)));refine sT (wN ?_);refine Ah V (λO=>?_) (λO=>?_)
            ·have H:=AI O H;refine Al ?_;have Y:=Ac.1 H;repeat(first|refine abN ?_|refine asN ?_)
             refine Ap ⟨(_,Z),Y.symm,?_⟩;try dsimp only
             exact AS
            ·have H:=AJ O H;refine wS (sT (sT (sT (wN ?_))));refine Ah V (λN=>?_) (λN=>?_)
             ·have H:=AI N H;obtain⟨bf,H⟩:=Aj.1 H;refine wSE (sT (sT ?_));refine sA ?_ (BS V (As (Ao (Ao HW))) V (As (Ao (Ao GP))) V bf) (Ar (Aq (Aq (Aq G9))));refine sA ?_ (Bs V (As (Ao (Ao (Ao IP)))) V (BP bf) V) (Ar (Aq (Aq (Aq IK))));refine sT (sT (wN ?_));have Y:=Ac.1 H;repeat(first|refine abN ?_|refine asN ?_)
              refine Ap ⟨(_,Z),Y.symm,?_⟩;try dsimp only
              exact AS
             ·have H:=AJ N H;obtain⟨be,H⟩:=Aj.1 H;obtain⟨dj,al,H⟩:=An.1 H;have al:=Su al;refine wSE (sT (sT (sT ?_)));refine sA ?_ (BS V (As (Ao IP)) V (As (Ao Gi)) V be) (Ar (Aq KK));refine sA ?_ (Bs V (As (Ao Fm)) V (BP be) V) (Ar (Aq IF));(refine AF V (DC 2 V V al (by decide) CR (.cons (.cl V) (.cons (.cl V) .nil)) ?_);refine DU ?_ (Ar (Aq I5)));refine sT (wN ?_);have Y:=Ac.1 H;repeat(first|refine abN ?_|refine asN ?_)
              refine Ap ⟨(_,Z),Y.symm,?_⟩;try dsimp only
              refine(Vx hC 2 V (by(simp only[fzH,DP,gT,gN,eX,eZ,Nat.reduceEqDiff,zam,zaf];first|done|exact V)) (by(simp only[fzH,DP,gT,gN,eX,eZ,Nat.reduceEqDiff,zam,zaf];first|done|exact V))).trans ?_;exact leC (gZ (gZ (g9 _)))
           ·rintro⟨⟨dm,ca⟩,cm⟩ ad;try dsimp only at ad
            have H:=bn;rw[ad]at H;try dsimp only at H⊢
            refine wSE (sT (sT (wN ?_)));have ao:=Ac.1 H;repeat(first|refine abN ?_|refine asN ?_)
            refine Ap ⟨_,cm,ao.symm,?_⟩;try dsimp only
            exact AS
          ·have H:=AJ U H;refine Ay ?_;repeat(first|refine BF ?_|refine exO (by decide) ?_|refine asE ?_)
           refine exN ?_;have ao:=bj _ (Ac.1 H).symm;repeat(first|refine abN ?_|refine asN ?_)
           refine Ap ⟨(_,Z),ao.symm,?_⟩;try dsimp only
           exact AS
        ·rintro⟨dn,av⟩ ae;try dsimp only at ae
         have H:=bo;rw[ae]at H;try dsimp only
         obtain⟨cf,bu,bm⟩:=An.1 H;refine Bi (β:=((List Int))×(Nat)) (λB=>cf=B.1) (λB=>⟨A3 (.bs tInt r1::.bs tInt.slice r2::.own 1 B.2::.lit (.bool g)::.any::.lit (.int .i64 (ixD r1 c))::.bs tInt B.1::A10 (A4 (.bs tInt r1::.lit (.int .i64 (r1.length:Int))::.lit (.int .i64 c)::A40 (A20 [.any])))),[.dead,.row B.2 27 tInt.sliceN F]⟩) ?_ ?_
         ·have H:=bu;refine wS (sT (sT (wN ?_)));refine Ah V (λL=>?_) (λL=>?_)
          ·have H:=AI L H;refine wSE (sT (wN ?_));have an:=Ac.1 H;repeat(first|refine abN ?_|refine asN ?_)
           refine Ap ⟨(_,av),an.symm,?_⟩;try dsimp only
           refine(SO 9 tInt V).trans ?_;exact AS
          ·have H:=AJ L H;refine Al ?_;have an:=Ac.1 H;repeat(first|refine abN ?_|refine asN ?_)
           refine Ap ⟨(_,av),an.symm,?_⟩;try dsimp only
           exact AS
         ·rintro⟨dl,au⟩ ac;try dsimp only at ac
          have H:=bm;rw[ac]at H;try dsimp only
          obtain⟨di,ak,H⟩:=An.1 H;have ak:=E6 ak;refine wS (sT (sT (sC ak (sT (sT (sT (sT (sT (wN ?_)))))))));obtain⟨ce,bt,bl⟩:=An.1 H;refine Bi (β:=((List Int))×(Nat)) (λA=>ce=A.1) (λA=>⟨A3 (.bs tInt r1::.bs tInt.slice r2::.own 1 A.2::.lit (.bool g)::.any::.lit (.int .i64 (ixD r1 c))::.bs tInt A.1::A10 (A4 (.bs tInt r1::.lit (.int .i64 (r1.length:Int))::.lit (.int .i64 c)::A40 (A20 [.any])))),[.dead,.row A.2 27 tInt.sliceN F]⟩) ?_ ?_
          ·have H:=bt;refine wS (sT (sT (wN ?_)));refine Ah V (λJ=>?_) (λJ=>?_)
           ·have H:=AI J H;obtain⟨dh,aj,H⟩:=An.1 H;have aj:=GJ aj;obtain⟨cu,H⟩:=Aj.1 H;obtain⟨ct,H⟩:=Aj.1 H;obtain⟨cr,H⟩:=Aj.1 H;refine wSE (sT ?_);(refine AF V (DC 2 V V aj (by decide) CR (.cons (.cl V) .nil) ?_);refine DU ?_ (Ar (Ar GZ)));refine sT (sT ?_);(refine AF V (Oy 3 V (xs:=[.tmp 72]) (T:=tInt) (ds:=[ixD r1 c]) V V V (RT.eq (n:=1) (bytes:=8)) (by decide) (by decide) (.cons (iE cu) .nil) ?_);refine DU ?_ (Ar (Ar (Aq IK))));(refine AF V (Acm (by decide) V V V V (of_decide_eq_true ct) V V (of_decide_eq_true cr) ?_);refine DU ?_ (Ar (Ar (Aq KK))));refine sT (wN ?_);have am:=Ac.1 H;repeat(first|refine abN ?_|refine asN ?_)
            refine Ap ⟨(_,au),am.symm,?_⟩;try dsimp only
            refine(Vx hC 2 V (by(simp only[fzH,DP,gT,gN,eX,eZ,Nat.reduceEqDiff,zam,zaf];first|done|exact V)) (by(simp only[fzH,DP,gT,gN,eX,eZ,Nat.reduceEqDiff,zam,zaf];first|done|exact V))).trans ?_;exact leC (gZ (gZ (g9 _)))
           ·have H:=AJ J H;refine Al ?_;have am:=Ac.1 H;repeat(first|refine abN ?_|refine asN ?_)
            refine Ap ⟨(_,au),am.symm,?_⟩;try dsimp only
            exact AS
          ·rintro⟨dk,ar⟩ ab;try dsimp only at ab
           have H:=bl;rw[ab]at H;try dsimp only
           obtain⟨bc,H⟩:=Aj.1 H;obtain⟨dg,ai,H⟩:=An.1 H;have ai:=IJ ai;refine wS (sT (sT (sT ?_)));refine sA ?_ (BS V (As (As (Ao Gz))) V (As (As (Ao Fc))) V bc) (Ar (Ar (Aq GZ)));refine sA ?_ (Bs V (As (As (Ao HW))) V (BP bc) V) (Ar (Ar (Aq GY)));refine sC ai (sT (wN ?_));refine Ah V (λI=>?_) (λI=>?_)
           ·have H:=AI I H;obtain⟨bb,H⟩:=Aj.1 H;obtain⟨cq,H⟩:=Aj.1 H;refine wSE (sT (sT (sT ?_)));refine sA ?_ (BS V (As (As (Ao (Ao Fm)))) V (As (As (Ao (Ao Fw)))) V bb) (Ar (Ar (Aq (Aq GK))));(refine AF V (CT V V V (BP bb) (Ar4 cq) V ?_);refine DU ?_ Qx);refine sT (wN ?_);have ap:=Ac.1 H;repeat(first|refine abN ?_|refine asN ?_)
            refine Ap ⟨(_,ar),ap.symm,?_⟩;try dsimp only
            exact AS
           ·have H:=AJ I H;refine Al ?_;have ap:=Ac.1 H;repeat(first|refine abN ?_|refine asN ?_)
            refine Ap ⟨(_,ar),ap.symm,?_⟩;try dsimp only
            exact AS
       ·rintro⟨⟨cc,dq⟩,cn⟩ af;try dsimp only at af
        have H:=bq;rw[af]at H;try dsimp only at H⊢
        refine wSE (sT (sT (wN ?_)));have aq:=Ac.1 H;repeat(first|refine abN ?_|refine asN ?_)
        refine Ap ⟨_,cn,aq.symm,?_⟩;try dsimp only
        exact AS
      ·have H:=AJ W H;refine Ay ?_;repeat(first|refine BF ?_|refine exO (by decide) ?_|refine asE ?_)
       refine exN ?_;have aq:=bk _ (Ac.1 H).symm;repeat(first|refine abN ?_|refine asN ?_)
       refine Ap ⟨(_,aw),aq.symm,?_⟩;try dsimp only
       exact AS
    ·rintro⟨⟨cd,dr⟩,co⟩ aa ag G;try dsimp only at ag
     try dsimp only at G
     have H:=br;rw[ag]at H;try dsimp only at H
     have e7:=Ac.1 H;repeat(first|refine abN ?_|refine asN ?_)
     refine Ap ⟨_,co,e7.symm,?_⟩;try dsimp only
     refine iS G ?_;exact AS
   ·have H:=AJ X H;refine Ay ?_;repeat(first|refine BF ?_|refine exO (by decide) ?_|refine asE ?_)
    refine exN ?_;have e7:=db _ (Ac.1 H).symm;repeat(first|refine abN ?_|refine asN ?_)
    refine Ap ⟨(_,v5),e7.symm,?_⟩;try dsimp only
    exact AS
 ·rintro⟨l9,v8⟩ ax;try dsimp only at ax
  have H:=dc;rw[ax]at H;try dsimp only
  refine wS (sT (sT (wN ?_)));obtain rfl:=Ac.1 H;exact Aw ⟨.inr V,iC V⟩
end
section
variable{h:List gL}{i:Nat}
inductive LendX(h:List ABlk)(i:Nat):List AV->List AV->Prop
 |nil:LendX h i [] []
 |boxI {j:Nat} {n:Int} {l l':List AV} (hij:i≠j) (hj:h[j]? =some (.box [.lit (.int .i64 n)])) (hw:wfB .i64 n=true) (hl:LendX h i l l'):LendX h i (.ptr j 0::l) (.bp tInt n 0::l')
 |boxS {j:Nat} {α:Type} {T:Ty α} {d:List α} {l l':List AV} (hij:i≠j) (hj:h[j]? =some (.box [.bs T d])) (hl:LendX h i l l'):LendX h i (.ptr j 0::l) (.bp T.slice d 0::l')
variable{C:Ctx}{w:cI}{S:Nat->Prop}{ψ:Nat->cF}
theorem AAj(H:iG C h S ψ w)(F:gO h[i]? =aK)(I:∀g,Bv (ψ i)=jG g->ftp h[i]? (ψ i) g){j:Nat}{x:AV}{α:Type}{T:Ty α}{d:α}(G:i≠j)(B:h[j]? =jG (.box [x]))(W:∀u,gU w S h ψ x u->T.RS w S [u] d)(X:∀k,S k->k < w.heap.size/\Bv (ψ i)≠jG k)(N:gU w S h ψ (.ptr j 0) v):
 gU w (λk=>k < w.heap.size/\Bv (ψ i)≠jG k) [] ψ0 (.bp T d 0) v:=by
 unfold gU at N⊢;obtain⟨g,hg,O⟩:=N.2 (by rw[B];rfl);obtain⟨g',cs,e',z,_,_,L,A⟩:=H.blk _ _ B;rw[hg]at z;cases z;have E:g < w.heap.size:=(aA.1 L).1;obtain⟨u,Y,rfl,U,m⟩:=by unfold Af at A;exact A
 unfold Af at m;subst m;refine⟨g,0,O,⟨E,λe=>?_⟩,[u],T.keepS (W u U) (λ_ _=>rfl) X,λJ Z c=>?_⟩
 ·exact H.dis i j G F (by rw[B];rfl) g (I g e) (by rw[B,hg];rfl)
 ·cases J with
  |zero=>
   simp only[eC,jH]at c;subst c;unfold cJ;simp[L]
  |succ J=>simp at c
theorem LendX.rel(H:iG C h S ψ w)(A:gO h[i]? =aK)(B:∀g,Bv (ψ i)=jG g->ftp h[i]? (ψ i) g)(I:∀k,S k->k < w.heap.size/\Bv (ψ i)≠jG k){l:List AV}(L:LendX h i l l'):
 ∀{vs:List cF},Af w S h ψ l vs->Af w (λk=>k < w.heap.size/\Bv (ψ i)≠jG k) [] ψ0 l' vs:=by
 induction L with
 |nil=>intro vs c;unfold Af at c⊢;exact c
 |boxI m G J _ F=>
  intro vs c;unfold Af at c⊢;obtain⟨v,E,rfl,h1,h2⟩:=c;refine⟨v,E,rfl,AAj H A B m G (λu z=>?_) I h1,F h2⟩;unfold gU at z;subst z;exact⟨rfl,J⟩
 |boxS m G _ F=>
  intro vs c;unfold Af at c⊢;obtain⟨v,E,rfl,h1,h2⟩:=c;refine⟨v,E,rfl,AAj H A B m G (λu z=>?_) I h1,F h2⟩;unfold gU at z;exact z
inductive LendF(h:List ABlk)(i:Nat):AV->AV->Prop
 |cl {x:AV} (hx:AV.cl x=true):LendF h i x x
 |fn {f:FuncId} {l l':List AV} (hl:LendX h i l l'):LendF h i (.fn f l) (.fn f l')
theorem LendF.of_eq{x y z:AV}(e:x=y)(c:LendF h i y z):LendF h i x z:=by rw[e];exact c
inductive LendFs(h:List ABlk)(i:Nat):List AV->List AV->Prop
 |nil:LendFs h i [] []
 |cons {x x':AV} {l l':List AV} (hx:LendF h i x x') (hl:LendFs h i l l'):LendFs h i (x::l) (x'::l')
theorem LendFs.rel(H:iG C h S ψ w)(m:gO h[i]? =aK)(z:∀g,Bv (ψ i)=jG g->ftp h[i]? (ψ i) g)(B:∀k,S k->k < w.heap.size/\Bv (ψ i)≠jG k){l:List AV}(u:LendFs h i l l'):
 ∀{vs:List cF},Af w S h ψ l vs->Af w (λk=>k < w.heap.size/\Bv (ψ i)≠jG k) [] ψ0 l' vs:=by
 induction u with
 |nil=>intro vs c;unfold Af at c⊢;exact c
 |cons hx _ F=>
  intro vs c;unfold Af at c⊢;obtain⟨v,E,rfl,h1,h2⟩:=c;refine⟨v,E,rfl,?_,F h2⟩;cases hx with
  |cl hc=>exact DA _ _ hc (FP (hZ h ψ (λ_ _=>rfl) B:Ext w S h ψ w (λk=>k < w.heap.size/\Bv (ψ i)≠jG k) h ψ) _ _ h1)
  |fn u=>
   unfold gU at h1⊢;obtain⟨cs,e,A⟩:=h1;exact⟨cs,e,u.rel H m z B A⟩
end
theorem VR{P:aZ}{C:Ctx}{o:aX}{t:List AV}{h:List gL}{f:aR}{more:List aY}{args:Array aY}{i:Nat}{α:Type}{T:Ty α}{l l':List α}{xs:List AV}
 (ho:o.op= .call {callee:=.value (.func f),args:=args,argTypes:=tys})(ha:args.toList=x::more)(hF:RG P f e T l xs l')(hx:evA t x= .own i ver)(hi:h[i]? =jG (.row ver e T l))(m:∀w S S' cs d,T.RS w S cs d->T.RS w S' cs d)(hm:LendFs h i (more.map (evA t)) xs)
 (hK:K ⟨Bn t o.dst (.own i (ver+1)),h.set i (.row (ver+1) e T l')⟩):AOp P C o ⟨t,h⟩ K:=by
 rintro Q' a w ⟨E,S,ψ,H,U⟩;refine⟨λc e=>(by rw[ho]at e;cases e),?_⟩;have u:=Bw U x;rw[show evA (St.mk t h).t x= .own i ver from hx]at u;unfold gU at u;have hv:=(u.2 _ (by rw[hi];rfl)).2 V;have I:=H.blk i _ hi;have z:=I.lt V;have W:∀g,Bv (ψ i)=jG g->ftp h[i]? (ψ i) g:=λg hg=>by rw[hi];exact hg
 have Y:∀k,S k->k < w.heap.size/\Bv (ψ i)≠jG k:=λk hk=>⟨H.lt k hk,λe=>(z k e).2.2 hk⟩
 have h1:Af w S h ψ (more.map (evA t)) (more.map a.eval):=Cf λx _=>Bw U x
 have h2:=hm.rel H (by rw[hi];rfl) W Y h1;unfold Oper.wp;rw[Cx ho hF.1 a.eval w V];simp only[Oper.upon];have aa:HI C.N w (λk=>k < w.heap.size/\Bv (ψ i)≠jG k) [] ψ0 (ψ i) (.row 0 e T l):=by
  obtain⟨cells,O,k0,N,L⟩:=I;exact⟨cells,O,k0,λj d E=>m _ _ _ _ _ (N j d E),λg hg=>⟨(L g hg).1,λJ=>J.2 (AU hg)⟩⟩
 have hc:=hF.2 C.N _ w (ψ i) (more.map a.eval) (λk hk=>i6 (H.nlt k hk) H.bel.size) (λk hk=>hk.1) aa h2;rw[show(args.map a.eval)=(ψ i::more.map a.eval).toArray from by
  obtain rfl:args=(x::more).toArray:=by rw[<-ha]
  simp[hv]]
 refine hc.mono ?_;rintro r w' ⟨v',rfl,B,ab,A⟩;have G:∀k,S k->w'.heap[k]? =w.heap[k]?:=λk hk=>B.block k (H.lt k hk) λe=>(z k e.symm).2.2 hk
 have Z:HI C.N w' S [] ψ0 v' (.row 0 e T l'):=by
  obtain⟨cells,O,k0,N,L⟩:=ab;refine⟨cells,O,k0,λj d E=>m _ _ _ _ _ (N j d E),λg hg=>⟨(L g hg).1,λJ=>?_⟩⟩;rcases A g (AU hg)with h3|h3
  ·exact(z g h3).2.2 J
  ·have:=H.lt g J;omega
 have X:Ext w S h ψ w' S (h.set i (.row (ver+1) e T l')) (Bp ψ i v'):=iA G hi (λc' hc=>by
  simp only[gQ,jH]at hc;exact⟨ver,rfl,by omega,λe=>by omega⟩) λh=>by simp[AZ]at h
 refine⟨_,hK,IE (s:=⟨t,h⟩) hi E U (H.set hi V (Bt B) X Z A) X ?_⟩;unfold gU;refine⟨by simp[(eG.1 hi).1],λc' F=>?_⟩;rw[eJ (eG.1 hi).1]at F;simp only[gQ,jH]at F;exact⟨by omega,λ_=>by rw[Bk]⟩
theorem VJ{P:aZ}{f:aR}{args:List AV}{α:Type}{T:Ty α}{l:List α}(H:JK P f args e T l):Aiz P f args e T l:=
 ⟨H.1,λw S vs c z=>(H.2 w S vs c z).mono λr w' ⟨v,cells,h1,h2,m,A⟩=>⟨v,cells,h1,h2,m,S,λ_ h=>h,λ_ h=>.inl h,λk hk=>i6 (c k hk) h2.size,A,λg hg u=>by
  have:=(m.lt g hg).1;have:=c g u;omega⟩⟩
noncomputable section
def Ayg(q:Int->M Bool):List Int->M (List Int)
 | []=>iL []
 |x::l=>iH (q x) λb=>iH (Ayg q l) λr=>iL (if b then r else x::r)
open Classical in
def At8(q:Int->M Bool)(x:Int):Bool:=if h:∃b,(q x).to b then h.choose else aH
theorem Arc{x:Int}{b:Bool}(h:(q x).to b):(q x).to (At8 q x):=by
 unfold At8;rw[dif_pos ⟨b,h⟩];exact Exists.choose_spec (⟨b,h⟩:∃b,(q x).to b)
theorem YK{q:Int->M Bool}:∀{l r:List Int},(Ayg q l).to r->(∀x∈l,(q x).to (At8 q x))/\r=l.filter λx=>!At8 q x
 | [],r,h=>by
  obtain rfl:=Ac.1 h;exact⟨λx hx=>(by cases hx),rfl⟩
 |x::l,r,h=>by
  obtain⟨b,h1,h2⟩:=An.1 h;obtain⟨B,A,z⟩:=An.1 h2;obtain rfl:=Ac.1 z;obtain⟨u,m⟩:=YK A;have c:=Arc h1;have g:At8 q x=b:=Xr c h1;refine⟨λy hy=>?_,?_⟩
  ·rcases fD.1 hy with rfl|hy
   ·exact c
   ·exact u y hy
  ·rw[dP,g,<-m];cases b <;> rfl
theorem Ard{l:List Int}(H:(Ayg q l).to r)(u:l.length<=2147483648)(g:l.all (wfB .i64)=aK){f:aR}{c:List AV}(m:∀x b,(q x).to b->Fn bK f (.lit (.int .i64 x)::c) (.lit (.bool b)))(hc:Bh c=true:=by rfl):
 RG bK 177 3 tInt l [.fn f c] r:=by
 obtain⟨h1,rfl⟩:=YK H;exact Al6 l u (λx hx=>XI (dD.1 g x hx)) f c hc (At8 q) λx hx=>m x _ (h1 x hx)
theorem Ahl{q:Int->M Bool}{p:Int->Bool}:∀{l:List Int},(∀x∈l,(q x).to (p x))->(Ayg q l).to (l.filter λx=>!p x)
 | [],_=>Ag _
 |x::l,h=>by
  have h1:=Ahl λy c=>h y (fE _ c)
  refine Am (h x (by simp)) (Am h1 ?_);rw[dP];cases p x <;> exact Ag _
instance Ath:ZC bK 66 [.slice jF 0 0]:=⟨by kernel_rfl⟩
def Ju(c:Int)(g:List (List Int))(m:Int):M Bool:=iI (Ci g c) (iH (En (ixD g c) m) λr2=>iL (!r2))
theorem QC{c:Int}{u:List (List Int)}{g:Int}{r:Bool}(H:(Ju c u g).to r):Fn bK 178 [.lit (.int .i64 c),.bp tInt.sliceN.slice u 0,.bp tInt g 0] (.lit (.bool r)):=by
 delta Ju at H;try dsimp only at H
 refine AQ Tryz.func178 V (by kernel_rfl) V Tryz.ntmps178 λC z=>?_
 simp only[Nat.reduceAdd,Nat.reduceSub,zaa];refine wS (sT (wN ?_));obtain⟨g,H⟩:=Aj.1 H;obtain⟨r2,m,H⟩:=An.1 H;have m:=G6 m;refine dS 8 (hq:=?_);refine qT (qT (qX g (qT (qT (qC m (qT (qT (qN (wN ?_)))))))));obtain rfl:=Ac.1 H;exact Aw ⟨.inr V,iB V⟩
def FK(f:iF)(hP1:Int):M (List Int):=iJ ((aL (hP1 < 0))||(aL (hP1≥(f.blocks.length:Int)))) (iL ([]:List Int)) (iH (Df f) λu=>iH (F4 f) λm=>iI (Ci m hP1) (iH (I2 (ixD m hP1)) λc=>iI (wfB .i64 hP1) (iI (aL (c.length<=2147483648)) (iI (c.all (wfB .i64)) (iH (Ayg (λz=>Ju z u hP1) c) λg=>iL g)))))
theorem Ny(H:(FK f hP1).to r):JK bK 158 [.agg (Ak f),.lit (.int .i64 hP1)] 3 tInt r:=by
 delta FK at H;try dsimp only at H
 refine El Tryz.func158 V (by kernel_rfl) V Tryz.ntmps158 CR λC hC=>?_
 simp only[Nat.reduceAdd,Nat.reduceSub,zaa];refine wS (sB ?_);(refine AF V (AOp.boxI 1 V V (Qb.one (iO V)).weak ?_);refine DU ?_ IF);refine sT (wN ?_);refine Ab λO L=>?_
 refine wS (sT (sT (sT ?_)));refine sGf V ?_;refine sGf V ?_;refine sGf V ?_;refine sGf V ?_;refine sGf V (sT (wN ?_));refine Ah V (λu=>?_) (λu=>?_)
 ·have H:=AI u H;refine wS (sT (wN ?_));obtain rfl:=Ac.1 H;refine AK _ (ED 4 3 tInt V (by decide)) ?_;exact Aw ⟨.inr V,rfl,2,0,rfl,rfl⟩
 ·have H:=AJ u H;refine Al ?_;refine L _ ?_;refine nT ?_;obtain⟨A,J,H⟩:=An.1 H;have J:=UM J;refine wS (sT (sC J (sA0 (sW (wN ?_)))));obtain⟨z,I,H⟩:=An.1 H;have I:=Im I;obtain⟨c5,H⟩:=Aj.1 H;obtain⟨X,G,H⟩:=An.1 H;have G:=VJ (GJ G);obtain⟨c7,H⟩:=Aj.1 H;obtain⟨c8,H⟩:=Aj.1 H;obtain⟨c9,H⟩:=Aj.1 H;obtain⟨B,m,H⟩:=An.1 H;have m:=Ard m (of_decide_eq_true c8) c9 λ_ _ H=>QC H
  refine AK ⟨.agg (Ak f)::.lit (.int .i64 hP1)::.ptr 0 0::.ptr 1 0::.lit (.slice jF 0 0)::.ptr 2 0::.lit (.int .i64 hP1)::.lit (.bool (aL (hP1 < 0)))::.lit (.bool (aL (hP1 < 0)))::A5 (.lit (.bool ((aL (hP1 < 0))||(aL (hP1≥(f.blocks.length:Int)))))::.agg (Ak f)::.bs tInt.sliceN A::A8 []),[.box (Ak f),.box [.lit (.int .i64 hP1)],.box [.bs tInt.sliceN A],.dead]⟩ (iS AS (Lb 1 V)) ?_;refine Ab λU E=>?_
  refine Qh (n:=9) (λb=>⟨.agg (Ak f)::.lit (.int .i64 hP1)::.ptr 0 0::.ptr 1 0::(bif b 8 then .own 3 (0+1)else .lit (.slice jF 0 0))::.ptr 2 0::.lit (.int .i64 hP1)::.lit (.bool (aL (hP1 < 0)))::.lit (.bool (aL (hP1 < 0)))::A5 [.lit (.bool ((aL (hP1 < 0))||(aL (hP1≥(f.blocks.length:Int))))),.agg (Ak f),.bs tInt.sliceN A,(bif b 0 then .agg (Ak f)else .any),(bif b 1 then .bs tInt.slice z else .any),(bif b 2 then .lit (.int .i64 hP1)else .any),(bif b 3 then .bp tInt.slice (ixD z hP1) 0 else .any),(bif b 4 then .bs tInt (ixD z hP1)else .any),(bif b 5 then .own 3 0 else .any),(bif b 6 then .fn 178 [.ptr 2 0,.ptr 1 0]else .any),(bif b 7 then .own 3 (0+1)else .any)],[.box (Ak f),.box [.lit (.int .i64 hP1)],.box [.bs tInt.sliceN A],(bif b 7 then .row (0+1) 3 tInt B else(bif b 5 then .row 0 3 tInt X else .dead))]⟩) V (by kernel_rfl) (by kernel_rfl) ?_ (E _ ?_)
  ·refine BQ (λb g c hc=>?_) ?_
   ·try dsimp only
    refine AX (AR V Fm V V) ?_;exact iR
   refine BQ (λb g c hc=>?_) ?_
   ·have h0:b 0=aK:=c 0 _ V V;try dsimp only
    refine AX (AE V (Pq ((Ao (Ao Gi)).trans (BD h0 _ _)) V) I V V) ?_;exact iR
   refine BQ (λb g c hc=>?_) ?_
   ·try dsimp only
    refine AX (Be V Fw V V) ?_;exact iR
   refine BQ (λb g c hc=>?_) ?_
   ·have h1:b 1=aK:=c 0 _ V V;have h2:b 2=aK:=c 1 _ V V;try dsimp only
    refine AX (Fj V ((Ao (Ao Fm)).trans (BD h1 _ _)) ((Ao (Ao Fw)).trans (BD h2 _ _)) V c5) ?_;exact iR
   refine BQ (λb g c hc=>?_) ?_
   ·have h3:b 3=aK:=c 0 _ V V;try dsimp only
    refine AX (AC V ((Ao (Ao Gz)).trans (BD h3 _ _)) V) ?_;exact iR
   refine BQ (λb g c hc=>?_) ?_
   ·have h4:b 4=aK:=c 0 _ V V;have F:b 7=aH:=AW hc (i:=5) (j:=7) (k:=0) V V V V g;have Y:b 8=aH:=AW hc (i:=5) (j:=8) (k:=7) V V V V g;have W:upd b 5 7=aH:=F;try dsimp only
    refine KA 3 V (Pq ((Ao (Ao Fc)).trans (BD h4 _ _)) V) G (by decide) V (congrArg jG ((CW F _ _).trans (CW g _ _))) (by repeat(first|exact Afv|refine Gu V ?_|refine Gu (NU V V) ?_|refine Gu (NU V (NU V V)) ?_|refine Gu (NU V (NU V (NU V V))) ?_)) (by repeat(first|exact Afu|refine FA V ?_|refine FA (Aum g V) ?_|refine FA (Aum F V) ?_|refine FA (Aum Y V) ?_|refine FA (AAg V V) ?_)) ?_;simp only[CW W];exact iR
   refine BQ (λb g c hc=>?_) ?_
   ·try dsimp only
    refine AX (FL V) ?_;exact iR
   refine BQ (λb g c hc=>?_) ?_
   ·have N:b 5=aK:=c 0 _ V V;have Z:b 6=aK:=c 1 _ V V;try dsimp only
    refine VR (i:=3) (more:=[.tmp 23]) V V m ((Ao (Ao HW)).trans (BD N _ _)) (congrArg jG ((CW g _ _).trans (Sz N _ _))) CR (.cons (.of_eq ((Ao (Ao GP)).trans (BD Z _ _)) (.fn (.boxS (j:=2) (by decide) V (.boxI (j:=1) (by decide) V c7 .nil)))) .nil) ?_;exact iR
   refine BQ (λb g c hc=>?_) ?_
   ·have F:b 7=aK:=c 0 _ V V;try dsimp only
    refine AX (AT.assign V ((Ao (Ao (Ao IP))).trans (BD F _ _))) ?_;exact iR
   exact Ag6
  ·refine AK ⟨.agg (Ak f)::.lit (.int .i64 hP1)::.ptr 0 0::.ptr 1 0::.own 3 (0+1)::.ptr 2 0::.lit (.int .i64 hP1)::.lit (.bool (aL (hP1 < 0)))::.lit (.bool (aL (hP1 < 0)))::A5 [.lit (.bool ((aL (hP1 < 0))||(aL (hP1≥(f.blocks.length:Int))))),.agg (Ak f),.bs tInt.sliceN A,.agg (Ak f),.bs tInt.slice z,.lit (.int .i64 hP1),.bp tInt.slice (ixD z hP1) 0,.bs tInt (ixD z hP1),.own 3 0,.fn 178 [.ptr 2 0,.ptr 1 0],.own 3 (0+1)],[.box (Ak f),.box [.lit (.int .i64 hP1)],.box [.bs tInt.sliceN A],.row (0+1) 3 tInt B]⟩ iR ?_;obtain rfl:=Ac.1 H;exact Aw ⟨.inr V,rfl,3,0+1,rfl,rfl⟩
end
def Ams(l:Nat)(J:St->Prop)(Q:Exit->St->Prop):Exit->St->Prop
 | .goto l',s=>l'=l/\J s
 |e,s=>Q e s
section
variable{P:aZ}{C:Ctx}
inductive GoOn(P:Program)(C:Ctx)(l:Nat)(y:Code)(Q:Exit->St->Prop):St->Prop
 |mk {s:St} (J:St->Prop) (h:Awp P C y (Ams l J Q) s) (hJ:∀s',J s'->GoOn P C l y Q s'):GoOn P C l y Q s
theorem Acf{c:Code}(l:Nat)(hf:findLabel c l=jG (.seq .skip y))(h:Awp P C c (Ams l (GoOn P C l y Q) Q) s):Awp P C (.scope c) Q s:=λa w H=>by
 intro b k cs W Y X;have hg:gotoIn l (.inScope c::k)=jG (.code (.seq .skip y)::.inScope c::k):=by simp[gotoIn,hf]
 have s1:∀m g,step P (lone (b.atR m (.inScope c::k)) cs g)= .next (lone (b.atR m k) cs g):=λm g=>step_lone_go (by simp[stepG,stepG.exec,Frame.atR])
 have h1:∀m g,(lone (b.atR m (.inScope c::k)) cs g).fenced P (fnc C.rd):=λm g=>fenced_calm Y X V
 have Z:∀s,GoOn P C l y Q s->∀a w,s.rel C a w->∃e a' w',(∃B,Q e B/\B.rel C a' w')/\ArrivesIn (Machine.fenced P (fnc C.rd)) P (lone (b.atR a (.code (.seq .skip y)::.inScope c::k)) cs w) b k cs e a' w':=by
  intro s hs;induction hs with
  |mk J hy hJ ih=>
   intro a w H;obtain⟨e,m,g,⟨B,hq,z⟩,u⟩:=(Ab λK hK=>Al (hK _ hy):Awp P C (.seq .skip y) _ _) a w H b (.inScope c::k) cs W Y X;cases e with
   |normal=>exact⟨.normal,m,g,⟨B,hq,z⟩,StepsIn.trans u (.one (h1 m g) (s1 m g))⟩
   |exit id=>
    refine⟨.exit id,m,g,⟨B,hq,z⟩,λk' hk=>u.1 k' (by simp[cR,hk]),λO hk=>?_⟩;obtain⟨G,h2,h3⟩:=u.2 O (by simp[cR,hk]);exact⟨G,h2,h3⟩
   |goto l'=>
    obtain⟨rfl,U⟩:=hq;obtain⟨I,L,F,E,A⟩:=ih B U m g z;exact⟨I,L,F,E,.of_steps (u.1 _ hg) A⟩
   |ret=>exact⟨_,m,g,⟨B,hq,z⟩,u⟩
   |panic ch=>exact⟨_,m,g,⟨B,hq,z⟩,u⟩
   |outgrown=>exact⟨_,m,g,⟨B,hq,z⟩,u⟩
 have h0:(lone (b.atR a (.code (.scope c)::k)) cs w).fenced P (fnc C.rd):=fenced_calm Y X V;have N:step P (lone (b.atR a (.code (.scope c)::k)) cs w)= .next (lone (b.atR a (.code c::.inScope c::k)) cs w):=step_lone_go (by simp[stepG,stepG.exec,Frame.atR]);obtain⟨e,m,g,⟨B,hq,z⟩,u⟩:=h a w H b (.inScope c::k) cs W Y X;cases e with
 |normal=>exact⟨.normal,m,g,⟨B,hq,z⟩,.head h0 N (StepsIn.trans u (.one (h1 m g) (s1 m g)))⟩
 |exit id=>
  refine⟨.exit id,m,g,⟨B,hq,z⟩,λk' hk=>.head h0 N (u.1 k' (by simp[cR,hk])),λO hk=>?_⟩;obtain⟨G,h2,h3⟩:=u.2 O (by simp[cR,hk]);exact⟨G,h2,.head h0 N h3⟩
 |goto l'=>
  obtain⟨rfl,U⟩:=hq;obtain⟨I,L,F,E,A⟩:=Z B U m g z;exact⟨I,L,F,E,.of_steps (.head h0 N (u.1 _ hg)) A⟩
 |ret=>exact⟨_,m,g,⟨B,hq,z⟩,.of_steps (.one h0 N) u⟩
 |panic ch=>exact⟨_,m,g,⟨B,hq,z⟩,.of_steps (.one h0 N) u⟩
 |outgrown=>exact⟨_,m,g,⟨B,hq,z⟩,.of_steps (.one h0 N) u⟩
theorem Ach{l l':Nat}(hg:GoOn P C l y Q s):Awp P C (.seq (.label l') y) (Ams l (GoOn P C l y Q) Q) s:=
 Ab λK g=>Awp.label (g _ (by
  cases hg with
  |mk J h m=>
   refine h.mono λe c q=>?_
   cases e with
   |goto l'=>exact⟨q.1,m c q.2⟩
   |_=>exact q))
theorem Awp.goto{l:Nat}(h:Q (.goto l) s):Awp P C (.goto l) Q s:=λ_ _ H=>wpIn_goto ⟨s,h,H⟩
theorem Aca{l:Nat}{g ρ β:Type}{step:g->M (g⊕ρ)}{E:g}{r:ρ}(H:(iK step E).to r)(F:g->β->St)(z:β)(h0:St.le C s (F E z))
 (A:∀m b x,(step m).to x->(∀u,x= .inr u->u=r)->Awp P C y (Ams l (λG=>∃c b',x= .inl c/\St.le C G (F c b')) Q) (F m b)):GoOn P C l y Q s:=by
 obtain⟨k,hk⟩:=NF.1 H;clear H;induction hk generalizing s z with
 |out hx=>exact .mk _ ((A _ z _ hx λu e=>by cases e;rfl).le h0) λm ⟨_,_,e,_⟩=>by cases e
 |on hx L I=>
  refine .mk _ ((A _ z _ hx λu e=>by cases e).le h0) λm ⟨J,b',e,B⟩=>?_
  cases e;exact I b' B A
end
noncomputable section
def FF(f:iF):(Int×(List Int))->M ((Int×(List Int))⊕((List Int))):=λ(x1,l3)=>iJ (aL (x1 < (f.blocks.length:Int))) (iH (iH (FK f x1) λc=>iJ (aL ((c.length:Int) > 0)) (iI (wfB .i64 x1) (iI (EZ (l3.length+ [x1].length) 8) (iL (l3++[x1])))) (iL l3)) λl10=>iL (.inl (aS.wrap (x1+1),l10))) (iL (.inr l3))
def Ht(f:iF):M (List Int):=iH (iK (FF f) (0,([]:List Int))) λc=>iL c
theorem U0(H:(Ht f).to r):Fn bK 135 [.agg (Ak f)] (.bs tInt r):=by
 delta Ht at H;try dsimp only at H
 refine AQ Tryz.func135 V (by kernel_rfl) V Tryz.ntmps135 λC hC=>?_
 simp only[Nat.reduceAdd,Nat.reduceSub,zaa];refine wS (sB (sT (wN ?_)));refine wS (sT (wN ?_));refine AK _ (ED 3 3 tInt V (by decide)) ?_;obtain⟨z4,Y,X⟩:=An.1 H;refine Bi (β:=((List Int))×(Nat)) (λB=>z4=B.1) (λB=>⟨A3 (.own 1 B.2::A10 (A8 [])),[.dead,.row B.2 3 tInt B.1]⟩) ?_ ?_
 ·refine wS (sT (sT (sT (sT (wN ?_)))));refine Ad ?_;refine BB Y (λs4 b4=>⟨.any::.ptr 0 0::.any::.own 1 b4::A3 (.lit (.int .i64 (f.blocks.length:Int))::.lit (.int .i64 s4.1)::A10 (A3 [])),[.box (Ak f),.row b4 3 tInt s4.2]⟩) 0 (?_) ?_
  ·try dsimp only
   exact AS
  ·rintro⟨Z,l3⟩ J x4 H W;try dsimp only
   dsimp only[FF]at H;refine wS (sT (wN ?_));refine Ab λaa L=>?_
   refine Ah V (λz=>?_) (λz=>?_)
   ·have H:=AI z H;refine Al ?_;refine L _ ?_;refine nT ?_;obtain⟨I,G,F⟩:=An.1 H;refine Bi (β:=((List Int))×(Nat)) (λc=>I=c.1) (λc=>⟨.any::.ptr 0 0::.any::.own 1 c.2::A3 (.lit (.int .i64 (f.blocks.length:Int))::.lit (.int .i64 Z)::A10 (A3 [])),[.box (Ak f),.row c.2 3 tInt c.1]⟩) ?_ ?_
    ·have H:=G;refine Ad ?_;refine wS (sT (sT (wN ?_)));obtain⟨ab,u,H⟩:=An.1 H;have u:=Ny u;refine wS (sT (sT ?_));(refine AF V (DC 2 V V u (by decide) CR (.cons (.cl V) (.cons (.cl V) .nil)) ?_);refine DU ?_ (Aq GK));refine sT (sT (wN ?_));refine Ah V (λg=>?_) (λg=>?_)
     ·have H:=AI g H;obtain⟨U,H⟩:=Aj.1 H;obtain⟨O,H⟩:=Aj.1 H;refine wSE (sT (sT ?_));refine sA ?_ (AT.lt (xs:=[.tmp 17]) (T:=tInt) (ds:=[Z]) V V V (by rfl) (by decide) (.cons (iE U) .nil)) (Aq (Aq KK));refine sP O (sT (wN ?_));have A:=Ac.1 H;repeat(first|refine abN ?_|refine asN ?_)
      refine Ap ⟨(_,J+1),A.symm,?_⟩;try dsimp only
      exact leC (gZ (gZ (g9 _)))
     ·have H:=AJ g H;refine Al ?_;have A:=Ac.1 H;repeat(first|refine abN ?_|refine asN ?_)
      refine Ap ⟨(_,J),A.symm,?_⟩;try dsimp only
      exact leC (gZ (gZ (g9 _)))
    ·rintro⟨l10,v9⟩ m;try dsimp only at m
     have H:=F;rw[m]at H;try dsimp only
     refine wSE (sT (sT (wN ?_)));have N:=Ac.1 H;repeat(first|refine abN ?_|refine asN ?_)
     refine Ap ⟨_,v9,N.symm,?_⟩;try dsimp only
     exact AS
   ·have H:=AJ z H;refine Ay ?_;repeat(first|refine BF ?_|refine exO (by decide) ?_|refine asE ?_)
    refine exN ?_;have N:=W _ (Ac.1 H).symm;repeat(first|refine abN ?_|refine asN ?_)
    refine Ap ⟨(_,J),N.symm,?_⟩;try dsimp only
    exact leC (g8 (gZ (g9 _)))
 ·rintro⟨l6,v5⟩ E;try dsimp only at E
  have H:=X;rw[E]at H;try dsimp only
  refine wS (sT (sT (wN ?_)));obtain rfl:=Ac.1 H;exact Aw ⟨.inr V,iC V⟩
def FE(g:List (List Int))(c:List Bool):(Int×(List Int)×(List Int))->M ((Int×(List Int)×(List Int))⊕(List Int)):=λ(at7,l9,l11)=>iJ (at7 ==(l9.length:Int)) (iI (aL (l11.length<=2147483648)) (iL (.inr (List.mergeSort l11 λx y=>decide (x<=y))))) (iH (iI (Ci l9 at7) (iI (Ci c (ixD l9 at7)) (iH (iN (ixD c (ixD l9 at7)) aH (En l11 (ixD l9 at7))) λm=>iJ ((ixD c (ixD l9 at7))&&(!m)) (iI (wfB .i64 (ixD l9 at7)) (iI (EZ (l11.length+ [ixD l9 at7].length) 8) (iI (Ci g (ixD l9 at7)) (iI (EZ (l9.length+(ixD g (ixD l9 at7)).length) 8) (iL (l9++(ixD g (ixD l9 at7)),l11++[ixD l9 at7])))))) (iL (l9,l11))))) λ(l17,l19)=>iL (.inl (aS.wrap (at7+1),l17,l19)))
def Jy(f:iF)(hP1:Int):M (List Int):=iH (FK f hP1) λr1=>iJ ((r1.length:Int) ==0) (iL []) (iH (F4 f) λg=>iH (GB f) λc=>iI (wfB .i64 hP1) (iK (FE g c) (0,r1,[hP1])))
theorem W7(H:(Jy f hP1).to r):Fn bK 136 [.agg (Ak f),.lit (.int .i64 hP1)] (.bs tInt r):=by
 delta Jy at H;try dsimp only at H
 refine AQ Tryz.func136 V (by kernel_rfl) V Tryz.ntmps136 λC hC=>?_
 simp only[Nat.reduceAdd,Nat.reduceSub,zaa];refine wS (sB (sT (wN ?_)));refine Acf 0 V ?_;obtain⟨r1,k1,H⟩:=An.1 H;have k1:=Ny k1;refine wS (sT (sT ?_));(refine AF V (DC 1 V V k1 (by decide) CR (.cons (.cl V) (.cons (.cl V) .nil)) ?_);refine DU ?_ (Aq GK));refine sT (wN ?_);refine Ab λav ai=>?_
 refine wS (sT (sT (sT (wN ?_))));refine Ah V (λX=>?_) (λX=>?_)
 ·have H:=AI X H;refine wS (sT (wN ?_));obtain rfl:=Ac.1 H;refine AK _ (SO 4 tInt V) ?_;exact Aw ⟨.inr V,iB V⟩
 ·have H:=AJ X H;refine Al ?_;refine ai _ ?_;refine nT ?_;obtain⟨G,k4,H⟩:=An.1 H;have k4:=Im k4;obtain⟨A,k5,H⟩:=An.1 H;have k5:=QA k5;refine dS 6 (hq:=?_);refine qT (qC k4 (qT (qC k5 (qT (qT (qN (wN ?_)))))));obtain⟨c6,H⟩:=Aj.1 H;refine wS (sT ?_);(refine AF V (Oy 2 V (xs:=[.tmp 21]) (T:=tInt) (ds:=[hP1]) V V V (RT.eq (n:=1) (bytes:=8)) (by decide) (by decide) (.cons (iE c6) .nil) ?_);refine DU ?_ (Aq (Aq GZ)));refine sT (sT (wN ?_));refine Ach ?_;refine Aca H (λU N=>⟨A5 (.own 1 N.1::.bs tInt.slice G::.bs iU A::.own 2 N.2::.lit (.int .i64 U.1)::A40 (A6 [])),[.dead,.row N.1 3 tInt U.2.1,.row N.2 3 tInt U.2.2]⟩) (0,0) (?_) ?_
  ·try dsimp only
   exact leC (g8 (gZ (gZ (g9 _))))
  ·rintro⟨c,m,L⟩ ⟨z,u⟩ aw H ab;try dsimp only
   dsimp only[FE]at H;refine Ab λau Z=>?_
   refine wS (sT (sT (sT (sT (wN ?_)))));refine Ah V (λJ=>?_) (λJ=>?_)
   ·have H:=AI J H;obtain⟨ar,H⟩:=Aj.1 H;refine wS (sT ?_);(refine AF V (Qi V V V (of_decide_eq_true ar) ?_);refine DU ?_ (Aq (Aq (Aq I5))));refine wN ?_;refine wS (sT (sT (wN ?_)));have H:=Ac.2 (ab _ (Ac.1 H).symm);obtain rfl:=Ac.1 H;exact Aw ⟨.inr V,iC V⟩
   ·have H:=AJ J H;refine Al ?_;refine Z _ ?_;refine nT ?_;obtain⟨ae,ad,ac⟩:=An.1 H;refine Bi (β:=((List Int)×(List Int))×(Nat×Nat)) (λE=>ae=E.1) (λE=>⟨A5 (.own 1 E.2.1::.bs tInt.slice G::.bs iU A::.own 2 E.2.2::.lit (.int .i64 c)::A40 (A6 [])),[.dead,.row E.2.1 3 tInt E.1.1,.row E.2.2 3 tInt E.1.2]⟩) ?_ ?_
    ·have H:=ad;obtain⟨aa,H⟩:=Aj.1 H;refine wS (sT (sT ?_));refine sA ?_ (BS V (Ao (Ao (Ao HW))) V (Ao (Ao (Ao GP))) V aa) (Ar G9);refine sA ?_ (Bs V (As IP) V (BP aa) V) (Ar IK);refine sT (wN ?_);obtain⟨aq,H⟩:=Aj.1 H;obtain⟨W,ah,H⟩:=An.1 H;refine wS (sT (sT (sX aq (sT (sT ?_)))));refine sGt V ?_;refine sGt V ?_;refine sG (g:=(ixD A (ixD m c))) (hg:=MV V) (hq:=λhg=>by((try simp only[BD hg]);(try simp only[M3 hg]);exact VF V (G6 (iM ah hg)) (.cons (.own V) (.cons (.cl V) .nil)))) (ht:=(Ar (Aq IK))) ?_;refine sGt V (sT (wN ?_));refine Ah V (λI=>?_) (λI=>?_)
     ·have H:=AI I H;obtain⟨ap,H⟩:=Aj.1 H;obtain⟨ao,H⟩:=Aj.1 H;obtain⟨an,H⟩:=Aj.1 H;obtain⟨am,H⟩:=Aj.1 H;refine AK ⟨A5 (.own 1 z::.bs tInt.slice G::.bs iU A::.own 2 u::.lit (.int .i64 c)::.lit (.int .i64 (ixD m c))::A10 (A2 (.lit (.int .i64 c)::.own 1 z::.lit (.int .i64 (m.length:Int))::.lit (.bool (c ==(m.length:Int)))::A3 (.own 1 z::.lit (.int .i64 c)::.rp 1 z (dB c) 0::.lit (.int .i64 (ixD m c))::.bs iU A::.lit (.int .i64 (ixD m c))::.bp iU (ixD A (ixD m c)) 0::.lit (.bool (ixD A (ixD m c)))::.lit (.bool (ixD A (ixD m c)))::A4 (.lit (.bool ((ixD A (ixD m c))&&(!W)))::A10 (A2 [])))))),[.dead,.row z 3 tInt m,.row u 3 tInt L]⟩ (iS AS (Lb 0 V)) ?_;refine Qh (n:=12) (λb=>⟨A5 ((bif b 11 then .own 1 (z+1)else .own 1 z)::.bs tInt.slice G::.bs iU A::(bif b 10 then .own 2 (u+1)else .own 2 u)::.lit (.int .i64 c)::.lit (.int .i64 (ixD m c))::A10 (A2 (.lit (.int .i64 c)::.own 1 z::.lit (.int .i64 (m.length:Int))::.lit (.bool (c ==(m.length:Int)))::A3 (.own 1 z::.lit (.int .i64 c)::.rp 1 z (dB c) 0::.lit (.int .i64 (ixD m c))::.bs iU A::.lit (.int .i64 (ixD m c))::.bp iU (ixD A (ixD m c)) 0::.lit (.bool (ixD A (ixD m c)))::.lit (.bool (ixD A (ixD m c)))::A4 (.lit (.bool ((ixD A (ixD m c))&&(!W)))::(bif b 0 then .own 2 u else .any)::(bif b 1 then .lit (.int .i64 (ixD m c))else .any)::(bif b 2 then .bs tInt [ixD m c]else .any)::(bif b 3 then .own 2 (u+1)else .any)::(bif b 4 then .own 1 z else .any)::(bif b 5 then .bs tInt.slice G else .any)::(bif b 6 then .lit (.int .i64 (ixD m c))else .any)::(bif b 7 then .bp tInt.slice (ixD G (ixD m c)) 0 else .any)::(bif b 8 then .bs tInt (ixD G (ixD m c))else .any)::(bif b 9 then .own 1 (z+1)else .any)::A2 []))))),[.dead,(bif b 9 then .row (z+1) 3 tInt (m++(ixD G (ixD m c)))else .row z 3 tInt m),(bif b 3 then .row (u+1) 3 tInt (L++[ixD m c])else .row u 3 tInt L)]⟩) V (by kernel_rfl) (by kernel_rfl) ?_ ?_
      ·refine BQ (λb F B hc=>?_) ?_
       ·have ak:b 10=aH:=AW hc (i:=0) (j:=10) (k:=2) V V V V F;try dsimp only
        refine AX (AT.move V ((Ao IP).trans (AAi ak _ _))) ?_;exact iR
       refine BQ (λb F B hc=>?_) ?_
       ·try dsimp only
        refine AX (AT.move V (Ao Fm)) ?_;exact iR
       refine BQ (λb F B hc=>?_) ?_
       ·have h1:b 1=aK:=B 0 _ V V;try dsimp only
        refine AX (AT.lt (xs:=[.tmp 45]) (T:=tInt) (ds:=[ixD m c]) V V V (by rfl) (by decide) (.cons (Fit.of_eq ((As (Ao Fc)).trans (BD h1 _ _)) (iE ap)) .nil)) ?_;exact iR
       refine BQ (λb F B hc=>?_) ?_
       ·have h0:b 0=aK:=B 0 _ V V;have h2:b 2=aK:=B 1 _ V V;try dsimp only
        refine Kf V ((As (Ao Gz)).trans (BD h0 _ _)) (congrArg jG (CW F _ _)) ((As (Ao HW)).trans (BD h2 _ _)) V ao ?_;exact iR
       refine BQ (λb F B hc=>?_) ?_
       ·have aj:b 11=aH:=AW hc (i:=4) (j:=11) (k:=6) V V V V F;try dsimp only
        refine AX (AT.move V (Fc.trans (AAi aj _ _))) ?_;exact iR
       refine BQ (λb F B hc=>?_) ?_
       ·try dsimp only
        refine AX (AT.move V HW) ?_;exact iR
       refine BQ (λb F B hc=>?_) ?_
       ·try dsimp only
        refine AX (AT.move V (Ao Fm)) ?_;exact iR
       refine BQ (λb F B hc=>?_) ?_
       ·have h5:b 5=aK:=B 0 _ V V;have h6:b 6=aK:=B 1 _ V V;try dsimp only
        refine AX (Fj V ((As (Ao (Ao Gi))).trans (BD h5 _ _)) ((As (Ao (Ao Fm))).trans (BD h6 _ _)) V an) ?_;exact iR
       refine BQ (λb F B hc=>?_) ?_
       ·have h7:b 7=aK:=B 0 _ V V;try dsimp only
        refine AX (AC V ((As (Ao (Ao Fw))).trans (BD h7 _ _)) V) ?_;exact iR
       refine BQ (λb F B hc=>?_) ?_
       ·have h4:b 4=aK:=B 0 _ V V;have h8:b 8=aK:=B 1 _ V V;try dsimp only
        refine Kf V ((As (Ao (Ao IP))).trans (BD h4 _ _)) (congrArg jG (CW F _ _)) ((As (Ao (Ao Gz))).trans (BD h8 _ _)) V am ?_;exact iR
       refine BQ (λb F B hc=>?_) ?_
       ·have h3:b 3=aK:=B 0 _ V V;try dsimp only
        refine AX (AT.assign V ((As (Ao GP)).trans (BD h3 _ _))) ?_;exact iR
       refine BQ (λb F B hc=>?_) ?_
       ·have h9:b 9=aK:=B 0 _ V V;try dsimp only
        refine AX (AT.assign V ((As (Ao (Ao Fc))).trans (BD h9 _ _))) ?_;exact iR
       exact Ag6
      ·refine qVia ⟨A5 (.own 1 (z+1)::.bs tInt.slice G::.bs iU A::.own 2 (u+1)::.lit (.int .i64 c)::.lit (.int .i64 (ixD m c))::A10 (A2 (.lit (.int .i64 c)::.own 1 z::.lit (.int .i64 (m.length:Int))::.lit (.bool (c ==(m.length:Int)))::A3 (.own 1 z::.lit (.int .i64 c)::.rp 1 z (dB c) 0::.lit (.int .i64 (ixD m c))::.bs iU A::.lit (.int .i64 (ixD m c))::.bp iU (ixD A (ixD m c)) 0::.lit (.bool (ixD A (ixD m c)))::.lit (.bool (ixD A (ixD m c)))::A4 (.lit (.bool ((ixD A (ixD m c))&&(!W)))::.own 2 u::.lit (.int .i64 (ixD m c))::.bs tInt [ixD m c]::.own 2 (u+1)::.own 1 z::.bs tInt.slice G::.lit (.int .i64 (ixD m c))::.bp tInt.slice (ixD G (ixD m c)) 0::.bs tInt (ixD G (ixD m c))::.own 1 (z+1)::A2 []))))),[.dead,.row (z+1) 3 tInt (m++(ixD G (ixD m c))),.row (u+1) 3 tInt (L++[ixD m c])]⟩ V ?_;have Y:=Ac.1 H;repeat(first|refine abN ?_|refine asN ?_)
       refine Ap ⟨(_,(z+1,u+1)),Y.symm,?_⟩;try dsimp only
       exact AS
     ·have H:=AJ I H;refine Al ?_;have Y:=Ac.1 H;repeat(first|refine abN ?_|refine asN ?_)
      refine Ap ⟨(_,(z,u)),Y.symm,?_⟩;try dsimp only
      exact AS
    ·rintro⟨⟨ay,ax⟩,⟨ag,af⟩⟩ O;try dsimp only at O
     have H:=ac;rw[O]at H;try dsimp only at H⊢
     refine wS (sT (sT (sT (wN ?_))));refine Awp.goto ?_;have al:=Ac.1 H;refine⟨rfl,_,(ag,af),al.symm,?_⟩;try dsimp only
     exact AS
def DZ(c:List Int):(Int×(List Int))->M ((Int×(List Int))⊕((List Int))):=λ(x13,l15)=>iJ (aL (x13 < (c.length:Int))) (iI (Ci c x13) (iI (Ci l15 (ixD c x13)) (iI (wfB .i64 (aS.wrap ((ixD l15 (ixD c x13))+1))) (iL (.inl (aS.wrap (x13+1),l15.set (dB (ixD c x13)) (aS.wrap ((ixD l15 (ixD c x13))+1)))))))) (iL (.inr l15))
def EA(f:iF)(r2:List Int):(Int×(List Int))->M ((Int×(List Int))⊕((List Int))):=λ(x3,l5)=>iJ (aL (x3 < (r2.length:Int))) (iI (Ci r2 x3) (iH (Jy f (ixD r2 x3)) λc=>iH (iK (DZ c) (0,l5)) λg=>iL (.inl (aS.wrap (x3+1),g)))) (iL (.inr l5))
def Hu(f:iF):M (List Int):=iI (VW (f.blocks.length:Int) 8) (iH (Ht f) λr2=>iH (iK (EA f r2) (0,fW (dB (f.blocks.length:Int)) 0)) λc=>iL c)
theorem U1(H:(Hu f).to r):Fn bK 112 [.agg (Ak f)] (.bs tInt r):=by
 delta Hu at H;try dsimp only at H
 refine AQ Tryz.func112 V (by kernel_rfl) V Tryz.ntmps112 λC hC=>?_
 simp only[Nat.reduceAdd,Nat.reduceSub,zaa];refine wS (sB (sT (wN ?_)));obtain⟨c1,H⟩:=Aj.1 H;refine wS (sT (sT (sT ?_)));(refine AF V (Ql 1 V (T:=tInt) (e:=3) (v:=.int .i64 0) (bytes:=8) (0:Int) V (by kernel_rfl) V (λ_ _=>⟨rfl,by decide⟩) V V c1 ?_);refine DU ?_ (Aq IF));refine sT (wN ?_);obtain⟨r2,k2,H⟩:=An.1 H;have k2:=U0 k2;obtain⟨z6,ai,ah⟩:=An.1 H;refine Bi (β:=((List Int))×(Nat)) (λI=>z6=I.1) (λI=>⟨A3 (.own 1 I.2::A20 (A10 (A2 []))),[.dead,.row I.2 3 tInt I.1]⟩) ?_ ?_
 ·refine wS (sT (sC k2 (sT (sT (wN ?_)))));refine Ad ?_;refine BB ai (λs6 b6=>⟨.any::.ptr 0 0::.any::.own 1 b6::A9 (.bs tInt r2::.lit (.int .i64 (r2.length:Int))::.lit (.int .i64 s6.1)::A20 []),[.box (Ak f),.row b6 3 tInt s6.2]⟩) 0 (?_) ?_
  ·try dsimp only
   exact AS
  ·rintro⟨x3,l5⟩ v4 x6 H ag;try dsimp only
   dsimp only[EA]at H;refine wS (sT (wN ?_));refine Ab λaj aa=>?_
   refine Ah V (λm=>?_) (λm=>?_)
   ·have H:=AI m H;refine Al ?_;refine aa _ ?_;refine nT ?_;obtain⟨ad,H⟩:=Aj.1 H;obtain⟨G,A,H⟩:=An.1 H;have A:=W7 A;obtain⟨Y,X,W⟩:=An.1 H;refine Bi (β:=((List Int))×(Nat)) (λc=>Y=c.1) (λc=>⟨.any::.ptr 0 0::.any::.own 1 c.2::A9 (.bs tInt r2::.lit (.int .i64 (r2.length:Int))::.lit (.int .i64 x3)::A20 []),[.box (Ak f),.row c.2 3 tInt c.1]⟩) ?_ ?_
    ·refine Ad ?_;refine wS (sX ad (sT (sT (wN ?_))));refine wS (sT (sT (sC A (sT (sT (wN ?_))))));refine Ad ?_;refine BB X (λF O=>⟨.any::.ptr 0 0::.any::.own 1 O::A9 (.bs tInt r2::.lit (.int .i64 (r2.length:Int))::.lit (.int .i64 x3)::A5 (.bs tInt G::.lit (.int .i64 (G.length:Int))::.lit (.int .i64 F.1)::A10 (A2 []))),[.box (Ak f),.row O 3 tInt F.2]⟩) v4 (?_) ?_
     ·try dsimp only
      exact AS
     ·rintro⟨al,an⟩ E ak H U;try dsimp only
      dsimp only[DZ]at H;refine wS (sT (wN ?_));refine Ab λaf N=>?_
      refine Ah V (λg=>?_) (λg=>?_)
      ·have H:=AI g H;refine Al ?_;refine N _ ?_;refine nT ?_;refine Ab λae L=>?_
       refine Ad ?_;obtain⟨ac,H⟩:=Aj.1 H;refine wS (sX ac (sT (sT (wN ?_))));obtain⟨u,H⟩:=Aj.1 H;obtain⟨ab,H⟩:=Aj.1 H;refine wSE (sT (sT ?_));refine sA ?_ (BS V (Ao (Ao (Ao Fw))) V (Ao (Ao (Ao Gz))) V u) (Aq (Aq (Aq GK)));refine sA ?_ (Bs V (Ao (Ao (Ao Fc))) V (BP u) V) (Aq (Aq (Aq GZ)));refine sT ?_;refine sA ?_ (BS V (Ao (Ao (Ao Fw))) V (Ao (Ao (Ao Gz))) V u) (Ar G9);(refine AF V (CT V V V (BP u) (iE ab) V ?_);refine DU ?_ Qx);refine wN ?_;refine L _ ?_;refine nT ?_;refine wSE (sT (sT (wN ?_)));have B:=Ac.1 H;repeat(first|refine abN ?_|refine asN ?_)
       refine Ap ⟨_,E,B.symm,?_⟩;try dsimp only
       exact AS
      ·have H:=AJ g H;refine Ay ?_;repeat(first|refine BF ?_|refine exO (by decide) ?_|refine asE ?_)
       refine exN ?_;have B:=U _ (Ac.1 H).symm;repeat(first|refine abN ?_|refine asN ?_)
       refine Ap ⟨(_,E),B.symm,?_⟩;try dsimp only
       exact AS
    ·rintro⟨am,Z⟩ z;try dsimp only at z
     have H:=W;rw[z]at H;try dsimp only
     refine wSE (sT (sT (wN ?_)));have e6:=Ac.1 H;repeat(first|refine abN ?_|refine asN ?_)
     refine Ap ⟨_,Z,e6.symm,?_⟩;try dsimp only
     exact AS
   ·have H:=AJ m H;refine Ay ?_;repeat(first|refine BF ?_|refine exO (by decide) ?_|refine asE ?_)
    refine exN ?_;have e6:=ag _ (Ac.1 H).symm;repeat(first|refine abN ?_|refine asN ?_)
    refine Ap ⟨(_,v4),e6.symm,?_⟩;try dsimp only
    exact leC (g8 (gZ (g9 _)))
 ·rintro⟨l8,v7⟩ J;try dsimp only at J
  have H:=ah;rw[J]at H;try dsimp only
  refine wS (sT (sT (wN ?_)));obtain rfl:=Ac.1 H;exact Aw ⟨.inr V,iC V⟩
end
theorem YW{c:List AV}(h:Bh c=aK):∀vs:List cF,Bh (vs.map .lit++c)=aK
 | []=>h
 |v::vs=>by
  rw[eX,List.cons_append];unfold Bh;rw[YW h vs];unfold gR;rfl
theorem XG{P:aZ}{C:Ctx}{o:aX}{t:List AV}{h:List gL}{ι:Type}{Rs:ι->Res}{val:ι->cF}{i:Nat}{R:Res}{f:aR}{args:Array aY}{l c:List AV}(hi:h[i]? =jG (.res R))
 (m:o.op= .call {callee:=.value x,args:=args,argTypes:=tys})(g:evA t x= .fn f l)(A:DO P f R (c++l) Rs val)(u:∀p,(Rs p).mrk=R.mrk)(hx:args.toList.map (evA t)=c)(hc:Bh (c++l)=aK)
 (z:∀p,K ⟨Bn t o.dst (.lit (val p)),h.set i (.res (Rs p))⟩):AOp P C o ⟨t,h⟩ K:=ID hi m g A u (by rw[hx]) hc z
theorem ON{x:Ins}(H:(KJ x).to r):JK bK 60 [.agg (BZ x)] 3 tInt r:=by
 obtain⟨c,H⟩:=Aj.1 H;obtain rfl:=Ac.1 H;rw[aG]at c;have m:=DH.1 c.1;have B:=of_decide_eq_true c.2;exact⟨by kernel_rfl,λw S vs F A=>by
  have g:=AA (hZ [] ψ0 (λ_ _=>rfl) F) _ _ A;obtain⟨v,rfl,z⟩:=Acu g;obtain⟨cs,rfl,hc⟩:=I9 z;refine(H8 x w cs (MF m hc) B).mono ?_;rintro e w' ⟨v,rfl,G,E⟩;refine⟨v,_,rfl,E,G,λi d u=>?_⟩;show tInt.RS w' S ((((readsC x).map (cH .i64)).drop (i * 1)).take 1) d;have hi:((readsC x).map (cH .i64))[i]? =jG (.int .i64 d):=by rw[eH,u];rfl
  rw[jA,gG,eM,hi];exact DN.2 ⟨rfl,FV m d (fI u)⟩⟩
noncomputable section
def Jv(x:Ins):M (List Int):=iH (KJ x) λr1=>iH (iH (I4 x) λc=>iJ c.2 (iI (wfB .i64 c.1) (iI (EZ (r1.length+ [c.1].length) 8) (iL (r1++[c.1])))) (iL r1)) λg=>iL g
theorem WZ{x:Ins}(H:(Jv x).to r):Fn bK 113 [.agg (BZ x)] (.bs tInt r):=by
 delta Jv at H;try dsimp only at H
 refine AQ Tryz.func113 V (by kernel_rfl) V Tryz.ntmps113 λC O=>?_
 simp only[Nat.reduceAdd,Nat.reduceSub,zaa];refine wS (sB (sT (wN ?_)));obtain⟨r1,z,H⟩:=An.1 H;have z:=ON z;refine wS (sT ?_);(refine AF V (DC 1 V V z (by decide) CR (.cons (.cl V) .nil) ?_);refine DU ?_ GY);refine sT (wN ?_);obtain⟨F,E,B⟩:=An.1 H;refine Bi (β:=((List Int))×(Nat)) (λg=>F=g.1) (λg=>⟨A3 (.own 1 g.2::A10 (A5 [])),[.dead,.row g.2 3 tInt g.1]⟩) ?_ ?_
 ·have H:=E;obtain⟨G,u,H⟩:=An.1 H;have u:=Qw u;refine wS (sT (sC u (sT (sT (sT (sT (sT (wN ?_))))))));refine wS (sT (wN ?_));refine Ah V (λc=>?_) (λc=>?_)
  ·have H:=AI c H;obtain⟨J,H⟩:=Aj.1 H;obtain⟨I,H⟩:=Aj.1 H;refine wSE (sT (sT ?_));refine sA ?_ (AT.lt (xs:=[.tmp 15]) (T:=tInt) (ds:=[G.1]) V V V (by rfl) (by decide) (.cons (iE J) .nil)) (Aq (Aq G9));refine sP I (sT (wN ?_));have A:=Ac.1 H;repeat(first|refine abN ?_|refine asN ?_)
   refine Ap ⟨(_,0+1),A.symm,?_⟩;try dsimp only
   exact leC (g8 (gZ (g9 _)))
  ·have H:=AJ c H;refine Al ?_;have A:=Ac.1 H;repeat(first|refine abN ?_|refine asN ?_)
   refine Ap ⟨(_,0),A.symm,?_⟩;try dsimp only
   exact leC (g8 (gZ (g9 _)))
 ·rintro⟨N,L⟩ m;try dsimp only at m
  have H:=B;rw[m]at H;try dsimp only
  refine wS (sT (sT (wN ?_)));obtain rfl:=Ac.1 H;exact Aw ⟨.inr V,iC V⟩
section
variable{σ:Type}
def DJ(r1:List Int)(c:Int):(Int×Int)->M ((Int×Int)⊕Int):=λ(n10,x11)=>iJ (aL (x11 < (if 4 < (ixD r1 c)then 4 else(ixD r1 c)))) (iL (.inl (aS.wrap (n10 * 10),aS.wrap (x11+1)))) (iL (.inr n10))
def Ez(step:σ->Int->Int->M σ)(m:Int)(c:List Int):(Int×σ)->M ((Int×σ)⊕σ):=λ(x26,s27)=>iJ (aL (x26 < (c.length:Int))) (iI (Ci c x26) (iH (step s27 (ixD c x26) m) λg=>iL (.inl (aS.wrap (x26+1),g)))) (iL (.inr s27))
def DI(step:σ->Int->Int->M σ)(f:iF)(c:Int)(u:Int):(Int×σ)->M ((Int×σ)⊕σ):=λ(x18,s19)=>iJ (aL (x18 < (((ixD f.blocks c).ins).length:Int))) (iI (Ci ((ixD f.blocks c).ins) x18) (iH (Jv (ixD ((ixD f.blocks c).ins) x18)) λm=>iH (iK (Ez step u m) (0,s19)) λg=>iL (.inl (aS.wrap (x18+1),g)))) (iL (.inr s19))
def Fe(step:σ->Int->Int->M σ)(f:iF)(r1:List Int):(Int×σ)->M ((Int×σ)⊕σ):=λ(x2,s3)=>iJ (aL (x2 < (r1.length:Int))) (iI (Ci r1 x2) (iH (iK (DJ r1 x2) (1,0)) λg=>iI (Ci f.blocks x2) (iH (iK (DI step f x2 g) (0,s3)) λc=>iL (.inl (aS.wrap (x2+1),c))))) (iL (.inr s3))
def Jw(step:σ->Int->Int->M σ)(f:iF)(g:σ):M σ:=iH (Hu f) λr1=>iH (iK (Fe step f r1) (0,g)) λc=>iL c
theorem W6{R0:σ->Res}{E:aR}{c:List AV}(B:∀s,(R0 s).mrk= [])(hS:∀s w S S',(R0 s).R w S->(R0 s).R w S')(bg:Bh c=aK){step:σ->Int->Int->M σ}(be:∀s x0 x1 s',(step s x0 x1).to s'->DO bK E (R0 s) ([.lit (.int .i64 x0),.lit (.int .i64 x1)]++c) (λ_:Unit=>R0 s') (λ_=>.tuple #[])){s0:σ}{r:σ}(H:(Jw step f s0).to r):DO bK 82 (R0 s0) [.agg (Ak f),.fn E c] (λ_:Unit=>R0 r) (λ_=>.tuple #[]):=by
 have bf:∀x0 x1:Int,Bh ([.lit (.int .i64 x0),.lit (.int .i64 x1)]++c)=aK:=λx0 x1=>YW bg [(.int .i64 x0),(.int .i64 x1)]
 delta Jw at H;try dsimp only at H
 refine D3 Tryz.func82 V (by kernel_rfl) V Tryz.ntmps82 (B _) (λ_=>hS _) λC=>?_
 refine gW ?_;simp only[Nat.reduceAdd,Nat.reduceSub,zaa];refine wS (sB (wN ?_));obtain⟨r1,k1,H⟩:=An.1 H;have k1:=U1 k1;refine wS (sT (sC k1 (sT (sT (wN ?_)))));obtain⟨z4,bt,br⟩:=An.1 H;refine Qf (β:=(σ)×(Unit)) (λq4=>z4=q4.1) (λq4=>⟨A40 (A10 [.any]),[.res (R0 q4.1),.dead]⟩) ?_ ?_
 ·refine Ad ?_;refine BB bt (λs4 b4=>⟨.any::.fn E c::.ptr 1 0::A9 (.bs tInt r1::.lit (.int .i64 (r1.length:Int))::.lit (.int .i64 s4.1)::A20 (A10 (A6 []))),[.res (R0 s4.2),.box (Ak f)]⟩) () (?_) ?_
  ·try dsimp only
   exact AS
  ·rintro⟨g,s3⟩ _ x4 H bq;try dsimp only
   dsimp only[Fe]at H;refine wS (sT (wN ?_));refine Ab λbv bc=>?_
   refine Ah V (λY=>?_) (λY=>?_)
   ·have H:=AI Y H;refine Al ?_;refine bc _ ?_;refine nT ?_;refine Ab λbu bb=>?_
    refine Ad ?_;obtain⟨c9,H⟩:=Aj.1 H;refine wS (sT (sX c9 (sT (sT (sT (wN ?_))))));refine wS (sT (wN ?_));obtain⟨az,aw,ar⟩:=An.1 H;refine Bi (β:=(Int)×(Unit)) (λU=>az=U.1) (λU=>⟨.any::.fn E c::.ptr 1 0::.any::.lit (.int .i64 g)::.any::.lit (.int .i64 U.1)::A5 (.bs tInt r1::.lit (.int .i64 (r1.length:Int))::.lit (.int .i64 g)::A20 (A10 (A6 []))),[.res (R0 s3),.box (Ak f)]⟩) ?_ ?_
    ·refine wS (sT ?_);refine sA ?_ (AT.min2 V (Ao (Ao Fw)) VX) (Aq (Aq I5));refine sT (wN ?_);refine Ad ?_;refine BB aw (λae ck=>⟨.any::.fn E c::.ptr 1 0::.any::.lit (.int .i64 g)::.any::.lit (.int .i64 ae.1)::A5 (.bs tInt r1::.lit (.int .i64 (r1.length:Int))::.lit (.int .i64 g)::A5 (.lit (.int .i64 (if 4 < (ixD r1 g)then 4 else(ixD r1 g)))::.lit (.int .i64 ae.2)::A20 (A9 []))),[.res (R0 s3),.box (Ak f)]⟩) () (?_) ?_
     ·try dsimp only
      exact AS
     ·rintro⟨ch,cb⟩ _ ca H ao;try dsimp only
      dsimp only[DJ]at H;refine wS (sT (wN ?_));refine Ab λbo al=>?_
      refine Ah V (λA=>?_) (λA=>?_)
      ·have H:=AI A H;refine Al ?_;refine al _ ?_;refine nT ?_;refine Ab λbn ak=>?_
       refine Ad ?_;refine wSE (sT (sT (sT (wN ?_))));refine ak _ ?_;refine nT ?_;refine wSE (sT (sT (wN ?_)));have ab:=Ac.1 H;repeat(first|refine abN ?_|refine asN ?_)
       refine Ap ⟨_,(),ab.symm,?_⟩;try dsimp only
       exact AS
      ·have H:=AJ A H;refine Ay ?_;repeat(first|refine BF ?_|refine exO (by decide) ?_|refine asE ?_)
       refine exN ?_;have ab:=ao _ (Ac.1 H).symm;repeat(first|refine abN ?_|refine asN ?_)
       refine Ap ⟨(_,()),ab.symm,?_⟩;try dsimp only
       exact AS
    ·rintro⟨W,_⟩ I;try dsimp only at I
     have H:=ar;rw[I]at H;try dsimp only
     obtain⟨bj,H⟩:=Aj.1 H;refine wS (sT (sT (sT (sX bj (sT (sT (sT (sT (wN ?_)))))))));obtain⟨ay,av,aq⟩:=An.1 H;refine Qf (β:=(σ)×(Unit)) (λO=>ay=O.1) (λO=>⟨.any::.fn E c::.ptr 1 0::A9 (.bs tInt r1::.lit (.int .i64 (r1.length:Int))::.lit (.int .i64 g)::A20 (A10 (A6 []))),[.res (R0 O.1),.box (Ak f)]⟩) ?_ ?_
     ·refine Ad ?_;refine BB av (λL cj=>⟨.any::.fn E c::.ptr 1 0::A3 (.lit (.int .i64 W)::A5 (.bs tInt r1::.lit (.int .i64 (r1.length:Int))::.lit (.int .i64 g)::A10 (A6 (.bs Em ((ixD f.blocks g).ins)::.lit (.int .i64 (((ixD f.blocks g).ins).length:Int))::.lit (.int .i64 L.1)::A10 (A7 []))))),[.res (R0 L.2),.box (Ak f)]⟩) () (?_) ?_
      ·try dsimp only
       exact AS
      ·rintro⟨ac,cf⟩ _ bz H an;try dsimp only
       dsimp only[DI]at H;refine wS (sT (wN ?_));refine Ab λbm aj=>?_
       refine Ah V (λz=>?_) (λz=>?_)
       ·have H:=AI z H;refine Al ?_;refine aj _ ?_;refine nT ?_;obtain⟨bi,H⟩:=Aj.1 H;obtain⟨af,X,H⟩:=An.1 H;have X:=WZ X;obtain⟨ax,au,ap⟩:=An.1 H;refine Bi (β:=(σ)×(Unit)) (λN=>ax=N.1) (λN=>⟨.any::.fn E c::.ptr 1 0::A3 (.lit (.int .i64 W)::A5 (.bs tInt r1::.lit (.int .i64 (r1.length:Int))::.lit (.int .i64 g)::A10 (A6 (.bs Em ((ixD f.blocks g).ins)::.lit (.int .i64 (((ixD f.blocks g).ins).length:Int))::.lit (.int .i64 ac)::A10 (A7 []))))),[.res (R0 N.1),.box (Ak f),.dead]⟩) ?_ ?_
        ·refine Ad ?_;refine wS (sX bi (sT (sA0 (sW (wN ?_)))));refine wS (sT (sC X (sT (sT (wN ?_)))));refine Ad ?_;refine BB au (λad ci=>⟨.any::.fn E c::.ptr 1 0::A3 (.lit (.int .i64 W)::A5 (.bs tInt r1::.lit (.int .i64 (r1.length:Int))::.lit (.int .i64 g)::A10 (A6 (.bs Em ((ixD f.blocks g).ins)::.lit (.int .i64 (((ixD f.blocks g).ins).length:Int))::.lit (.int .i64 ac)::A4 (.bs tInt af::.lit (.int .i64 (af.length:Int))::.lit (.int .i64 ad.1)::A10 []))))),[.res (R0 ad.2),.box (Ak f),.dead]⟩) () (?_) ?_
         ·try dsimp only
          exact leC (gZ (gZ (g8 (g9 _))))
         ·rintro⟨bx,cd⟩ _ bw H am;try dsimp only
          dsimp only[Ez]at H;refine wS (sT (wN ?_));refine Ab λbl ai=>?_
          refine Ah V (λu=>?_) (λu=>?_)
          ·have H:=AI u H;refine Al ?_;refine ai _ ?_;refine nT ?_;refine Ab λbk ah=>?_
           refine Ad ?_;obtain⟨bh,H⟩:=Aj.1 H;refine wS (sX bh (sT (sT (wN ?_))));obtain⟨cg,ba,H⟩:=An.1 H;refine wSE (sT (sT (sT ?_)));(refine AF V (XG (i:=0) V V V (be _ _ _ _ ba) (λ_=>(B _).trans (B _).symm) V (bf _ _) λ_=>?_);refine DU ?_ (Ar (Aq GY)));refine wN ?_;refine ah _ ?_;refine nT ?_;refine wSE (sT (sT (wN ?_)));have Z:=Ac.1 H;repeat(first|refine abN ?_|refine asN ?_)
           refine Ap ⟨_,(),Z.symm,?_⟩;try dsimp only
           exact AS
          ·have H:=AJ u H;refine Ay ?_;repeat(first|refine BF ?_|refine exO (by decide) ?_|refine asE ?_)
           refine exN ?_;have Z:=am _ (Ac.1 H).symm;repeat(first|refine abN ?_|refine asN ?_)
           refine Ap ⟨(_,()),Z.symm,?_⟩;try dsimp only
           exact AS
        ·rintro⟨cc,_⟩ F;try dsimp only at F
         have H:=ap;rw[F]at H;try dsimp only
         refine wSE (sT (sT (wN ?_)));have aa:=Ac.1 H;repeat(first|refine abN ?_|refine asN ?_)
         refine Ap ⟨_,(),aa.symm,?_⟩;try dsimp only
         exact leC (gZ (gZ (g9 _)))
       ·have H:=AJ z H;refine Ay ?_;repeat(first|refine BF ?_|refine exO (by decide) ?_|refine asE ?_)
        refine exN ?_;have aa:=an _ (Ac.1 H).symm;repeat(first|refine abN ?_|refine asN ?_)
        refine Ap ⟨(_,()),aa.symm,?_⟩;try dsimp only
        exact AS
     ·rintro⟨ce,_⟩ L G m;try dsimp only at G
      try dsimp only at m
      have H:=aq;rw[G]at H;repeat(first|refine abN ?_|refine asN ?_)
      refine bb _ (AK _ m ?_);refine wSE (sT (sT (wN ?_)));have e4:=Ac.1 H;repeat(first|refine abN ?_|refine asN ?_)
      refine Ap ⟨_,(),e4.symm,?_⟩;try dsimp only
      exact AS
   ·have H:=AJ Y H;refine Ay ?_;repeat(first|refine BF ?_|refine exO (by decide) ?_|refine asE ?_)
    refine exN ?_;have e4:=bq _ (Ac.1 H).symm;repeat(first|refine abN ?_|refine asN ?_)
    refine Ap ⟨(_,()),e4.symm,?_⟩;try dsimp only
    exact leC (gZ (g8 (g9 _)))
 ·rintro⟨s5,_⟩ s4 ag J;try dsimp only at ag
  try dsimp only at J
  have H:=br;rw[ag]at H;repeat(first|refine abN ?_|refine asN ?_)
  obtain rfl:=Ac.1 H;refine upE J ?_;exact⟨.inl V,(),by simp[mkD,gP,B],rfl⟩
end
def GD(c:Int)(n:Int)(g:List (Int×Int)):M ((List (Int×Int))):=iI (wfB .i64 c) (iI (aL (g.length < cY)) (iL (Cb g c (aS.wrap (((getK g c).getD 0)+n)))))
theorem QD{c:Int}{z:List (Int×Int)}{u m:Nat}{r:(List (Int×Int))}(H:(GD c n z).to r):DO bK 83 (Res.and (Bf u [.lit (.map (jG m))]) (EI (cH .i64) z m)) [.lit (.int .i64 c),.lit (.int .i64 n),.lit (.pointer (jG ⟨u,0,jF⟩))] (λ_:Unit=>(Res.and (Bf u [.lit (.map (jG m))]) (EI (cH .i64) r m))) (λ_=>.tuple #[]):=by
 delta GD at H;try dsimp only at H
 refine D3 Tryz.func83 V (by kernel_rfl) V Tryz.ntmps83 V (λ_ _ _ _ h=>h) λC=>?_
 simp only[Nat.reduceAdd,Nat.reduceSub,zaa];refine AK _ (EP 0 V) ?_;refine gW ?_;refine nT ?_;obtain⟨A,H⟩:=Aj.1 H;obtain⟨B,H⟩:=Aj.1 H;refine wSE ?_;refine sA ?_ (AY (i:=0) (g:=u) V Fm V V V) GK;refine sT ?_;refine sA ?_ (P9 1 V bV D4 Fc HW A V) GY;refine sT (sT ?_);(refine AF V (Kd 1 V bV V V V A (of_decide_eq_true B) V ?_);refine DU ?_ Qx);refine wN ?_;repeat(first|refine abN ?_|refine asN ?_)
 obtain rfl:=Ac.1 H;refine upE (iS (DL 0 1 (by decide) V V) iR) ?_;exact⟨.inl V,(),rfl,rfl⟩
end
end Mu
namespace Mu
open Go Go.RowKit Go.Proofs Go.Shelf Go.Lib Go.Sort Go.Maps
variable{fr:Nat×Nat}{g:Nat}{l:List Int}{m:List (Int×Int)}{n:Nat}{os:Array Obj}{v:cF}{w:cI}{x:aY}
def Qq(m:List (Int×Int))(x:Int):Int:=(getK m x).getD 0
def cfC(m:List (Int×Int))(x y:Int):Int:=if aV (Qq m x) (Qq m y)≠0 then aV (Qq m x) (Qq m y)else aV x y
def ltC(m:List (Int×Int))(x y:Int):Prop:=Qq m x < Qq m y\/(Qq m x=Qq m y/\x < y)
instance Aqu(m:List (Int×Int))(x y:Int):Decidable (ltC m x y):=by unfold ltC;infer_instance
theorem Apz{x y:Int}:aL (cfC m x y < 0)=aL (ltC m x y):=by
 rw[Bool.eq_iff_iff,decide_eq_true_eq,decide_eq_true_eq];unfold cfC ltC;generalize Qq m x=a;generalize Qq m y=b;unfold aV;by_cases h1:a < b
 ·simp[h1]
 ·by_cases h2:b < a
  ·have:a≠b:=by omega
   simp[h1,h2,this]
  ·have e:a=b:=by omega
   by_cases c:x < y
   ·simp[e,c]
   ·by_cases u:y < x <;> simp[e,c,u]
def Ar8(m:List (Int×Int))(x y:Int):Bool:=!decide (ltC m y x)
def KI(m:List (Int×Int))(l:List Int):List Int:=l.mergeSort (Ar8 m)
theorem G5(m:List (Int×Int))(l:List Int):(KI m l).Perm l:=fO _ _
theorem Nk(m:List (Int×Int))(l:List Int):(KI m l).Pairwise λx y=>¬ltC m y x:=by
 have h:=List.pairwise_mergeSort (le:=Ar8 m) (λa b c h1 h2=>by
  unfold Ar8 at *;simp only[aJ,decide_eq_false_iff_not]at *;unfold ltC at *;omega) (λa b=>by
  unfold Ar8;simp only[Bool.or_eq_true,aJ,decide_eq_false_iff_not];unfold ltC;omega) l
 exact h.imp λh=>by unfold Ar8 at h;simpa using h
theorem Zx{l':List Int}(u:l'.Perm l)(c:l'.Pairwise λx y=>¬ltC m y x):l'=KI m l:=
 List.Perm.eq_of_pairwise (le:=λx y=>¬ltC m y x) (λa b _ _ h1 h2=>by unfold ltC at h1 h2;omega) c (Nk m l) (u.trans (G5 m l).symm)
theorem Amf(l:List (Int×Int))(g m:Nat)(ty:cE)(fr:Nat×Nat)(x y:Int)(hx:Cm x)(hy:Cm y)(W:cI)(hg:W.heap[g]? =jG (.cells #[.map (jG m)] ty fr))(hm:Nb W m (mapK (cH .i64) l)):
 aM bK 85 #[.int .i64 x,.int .i64 y,.pointer (jG ⟨g,0,jF⟩)] W λe w'=>e= .returned (.int .i64 (cfC l x y))/\∃q os,w'=grow (W.drewN q) os:=by
 have hgl:g < W.heap.size:=(aA.1 hg).1;have hA:=λW=>AnyG.cmp_Compare_int a6 (Qq l x) (Qq l y) W
 have hB:=λW=>AnyG.cmp_Compare_int a6 x y W
 change∀W,aM bK 87 _ _ _ at hA;change∀W,aM bK 87 _ _ _ at hB;obtain⟨r,hr⟩:∃r,aV (Qq l x) (Qq l y)=r:=⟨_,rfl⟩
 obtain⟨s,hs⟩:∃s,aV x y=s:=⟨_,rfl⟩
 have hu:cfC l x y=if r≠0 then r else s:=by unfold cfC;rw[hr,hs]
 rw[hr]at hA;rw[hs]at hB;clear hr hs;have hO:=λW=>Anp r s W.heap.size 3 (W.alloc (.cells #[.int .i64 r,.int .i64 s] 3)) (cV W _)
 rw[<-hu]at hO;generalize cfC l x y=u at hO⊢;clear hu;have vx:∀W2:cI,Nb W2 m (mapK (cH .i64) l)->(Instr.lookup 51 (.map (jG m)) (.int .i64 x) aH).run bK W2= .ok (.int .i64 (Qq l x)) W2:=λW2 h2=>by
  have:=h2.look bV (D4 W2) hx;rw[this,CD];unfold Qq;cases getK l x <;> rfl
 have vy:∀W2:cI,Nb W2 m (mapK (cH .i64) l)->(Instr.lookup 51 (.map (jG m)) (.int .i64 y) aH).run bK W2= .ok (.int .i64 (Qq l y)) W2:=λW2 h2=>by
  have:=h2.look bV (D4 W2) hy;rw[this,CD];unfold Qq;cases getK l y <;> rfl
 generalize Qq l x=a at hA vx;generalize Qq l y=b at hA vy;have c0:W.cell? ⟨g,0,jF⟩=jG (.map (jG m)):=by simp[cJ,hg]
 have lx:=vx W hm;have ly:=vy W hm;clear vx vy hm hg
 go_enter bB,Tryz.ntmps85
 go_wp2_with (first|(go_at_call 87;first|((with_reducible refine(hA _).mono ?_);rintro e w' ⟨rfl,rfl⟩)|((with_reducible refine(hB _).mono ?_);rintro e w' ⟨rfl,rfl⟩))|(go_at_call 86;refine(hO _).mono ?_;rintro e w' ⟨rfl,rfl⟩))
 go_ret
 exact⟨rfl,0,_,alloc_eq_grow _ _⟩
section
variable{α:Type}[Inhabited α]{enc:α->cF}
theorem UA{cur:Array cF}{e:cE}(d:Array α)(c:w.heap[g]? =jG (.cells cur e fr)):
 (sortWorld enc w g 0 n d os).heap[g]? =jG (.cells (cD enc 0 d cur) e fr):=by
 have hg:g < w.heap.size:=(aA.1 c).1;unfold sortWorld;rw[heap_grow_old _ _ (by simpa using hg)];simp[putRow,mapBlock,cC,aB,c,onCells]
theorem Jp(d:Array α):w.grownBy (sortWorld enc w g 0 n d os) (jG g):=by
 unfold sortWorld;refine⟨rfl,rfl,rfl,by simp,λk hk c=>?_⟩;rw[heap_grow_old _ _ (by simpa using hk)];have:g≠k:=λe=>c (by rw[e])
 simp[putRow,mapBlock,cC,aB,this]
theorem Qt(cur:Array cF)(d:Array α)(h:d.size<=cur.size):(cD enc 0 d cur).toList.take d.size=d.toList.map enc:=by
 apply dN;intro j;by_cases u:j < d.size
 ·rw[eK u,aC,eH,aC];have c:j < cur.size:=by omega
  simp[cD,u,c]
 ·rw[List.getElem?_take_eq_none (by omega),eF (by simp;omega)]
end
abbrev WfI:Type:={x:Int // Cm x}
instance Aqv:Inhabited WfI:=⟨⟨0,by unfold Cm;decide⟩⟩
def Ayi(x:WfI):cF:=.int .i64 x.1
theorem Af6{l:List (Int×Int)}{x y:WfI}:ltOf (λx y:WfI=>cfC l x.1 y.1) x y=aL (ltC l x.1 y.1):=Apz
theorem AAt(l:List (Int×Int)):SWO (ltOf λx y:WfI=>cfC l x.1 y.1) where
 irrefl x:=by rw[Af6];simp[ltC]
 trans x y z h1 h2:=by
  rw[Af6,decide_eq_true_eq]at *;unfold ltC at *;omega
 ntrans x y z h1 h2:=by
  rw[Af6,decide_eq_false_iff_not]at *;unfold ltC at *;omega
theorem AAq(l:List (Int×Int))(x y:WfI)(h1:ltOf (λx y:WfI=>cfC l x.1 y.1) x y=aH)(h2:ltOf (λx y:WfI=>cfC l x.1 y.1) y x=aH):x=y:=by
 rw[Af6,decide_eq_false_iff_not]at h1 h2;unfold ltC at h1 h2;exact Subtype.ext (by omega)
theorem Ad4{base:Nat}{zs:List Int}{l:List (Int×Int)}{F m:Nat}{ty:cE}(u:Gj w base v zs)(hn:zs.length<=2147483648)(N:Bg zs)(I:w.heap[F]? =jG (.cells #[.map (jG m)] ty fr))(hm:Nb w m (mapK (cH .i64) l))(O:∀q,v.ownBlock=jG q->q≠F/\q≠m):
 aM bK 84 #[v,.func (.func 85) #[] #[.pointer (jG ⟨F,0,jF⟩)]] w λe w'=>e= .returned (.tuple #[])/\Gj w' base v (KI l zs)/\w.grownBy w' v.ownBlock:=by
 rcases u.2 with⟨rfl,h0⟩|⟨g,cap,cur,rfl,E,Y,h1,h2,h3,h4⟩
 ·have:zs= []:=dM h0;subst this;refine(AnyF.slices_SortFunc_none (P:=bK) (ρ:=Tryz.sortFI_ren) {bP with} jF 0 _ w).mono λe w' ⟨X,L⟩=>?_
  subst L;exact⟨X,by simpa[KI]using u,World.grownBy.refl _ _⟩
 ·have W:g < w.heap.size:=(aA.1 Y).1;obtain⟨n1,n2⟩:=O g V;obtain⟨dl,B⟩:∃dl:List WfI,dl.map (·.1)=zs:=⟨zs.attach.map λ(x:{y // y∈zs})=>(⟨x.1,N x.1 x.2⟩:WfI),by rw[eY];exact zs.attach_map_subtype_val⟩
  have G:dl.length=zs.length:=by rw[<-B,eS]
  have Z:=J1 Y h4;have hH:Holds Ayi w g 0 dl.toArray:=λj hj=>by
   have U:j < dl.length:=by simpa using hj
   obtain⟨k1,k2⟩:=Z j (by simp;omega);refine⟨?_,k2⟩;rw[k1];have e1:zs.toArray[j]! =zs[j]'(by omega):=by simp[getElem!_pos,show j < zs.length by omega]
   have J:dl.toArray[j]! =dl[j]:=by simp[getElem!_pos,U]
   rw[e1,J];unfold Ayi;simp only[<-B,List.getElem_map]
  have eg:∀args w,(callFunc 85 args).run bK w= .ok (.enter 85 args) w:=enters_of bB (by kernel_rfl) V;have c:=Any.slices_SortFunc_total bP Ayi (λ_=>rfl) (λx y:WfI=>cfC l x.1 y.1) (AAt l) 85 #[.pointer (jG ⟨F,0,jF⟩)] g 0 cap dl.toArray w eg (λmm os dk _ x y=>by
   have H:=Jp (enc:=Ayi) (w:=w) (g:=g) (n:=mm) (os:=os) dk;exact Amf l F m ty fr x.1 y.1 x.2 y.2 _ ((H.block F (aA.1 I).1 λe=>n1 (by cases e;rfl)).trans I) (hm.keep (H.block m hm.lt λe=>n2 (by cases e;rfl)))) hH W (by simp;omega) (AAq l)
  have hz:dl.toArray.size=zs.length:=by simpa using G
  rw[hz]at c;refine c.mono λe w' ⟨X,n,os,L⟩=>?_
  subst L;refine⟨X,?_,Jp _⟩;have z:(dl.toArray.toList.mergeSort λx y=>!(ltOf λx y:WfI=>cfC l x.1 y.1) y x).map (·.1)=KI l zs:=by
   rw[List.map_mergeSort (s:=Ar8 l) λa _ b _=>by rw[Af6];rfl];unfold KI;rw[<-B]
  generalize (dl.toArray.toList.mergeSort λx y=>!(ltOf λx y:WfI=>cfC l x.1 y.1) y x)=ts at z⊢;have A:(KI l zs).length=zs.length:=(G5 l zs).length_eq;have aa:ts.length=zs.length:=by rw[<-A,<-z,eS]
  unfold Gj;rw[A];refine⟨by rw[eS,A,jA],.inr ⟨g,cap,_,rfl,E,UA _ Y,h1,h2,by simp[cD,h3],?_⟩⟩;have J:=Qt (enc:=Ayi) cur ts.toArray (by simp only[fX];rw[h3];omega);have e3:ts.toArray.size=zs.length * 1:=by simp;omega
  rw[e3]at J;rw[J,<-z,eY];rfl
section
variable{C:Ctx}{t:List AV}{h:List gL}{o:aX}{K:St->Prop}
theorem Ua(h:Bg l):Bg (KI m l):=λr c=>h r ((G5 m l).mem_iff.1 c)
theorem SX{y:aY}{tys:Array cE}{i ver j1 j2 m:Nat}{ml:List (Int×Int)}(ho:o.op= .call {callee:=.value (.func 84),args:=#[x,y],argTypes:=tys})(hx:evA t x= .own i ver)(hy:evA t y= .fn 85 [.lit (.pointer (jG ⟨g,0,jF⟩))])
 (hi:h[i]? =jG (.row ver 3 tInt l))(h1:h[j1]? =jG (.res (Bf g [.lit (.map (jG m))])))(h2:h[j2]? =jG (.res (EI (cH .i64) ml m)))(I:i≠j1/\i≠j2)(hl:l.length<=2147483648)
 (hK:K ⟨Bn t o.dst .any,h.set i (.row ver 3 tInt (KI ml l))⟩):AOp bK C o ⟨t,h⟩ K:=by
 rintro Q' a w ⟨hd,S,ψ,H,F⟩;refine⟨λc e=>(by rw[ho]at e;cases e),?_⟩;have B:=Bw F x;have A:=Bw F y;rw[show evA (St.mk t h).t x= .own i ver from hx]at B;rw[show evA (St.mk t h).t y=_ from hy]at A;unfold gU at B A;obtain⟨cs,O,aa⟩:=A;obtain⟨u,rfl,hu⟩:=Acu aa;unfold gU at hu;subst hu;have hv:=(B.2 _ (by rw[hi];rfl)).2 V;have N:=H.blk i _ hi;have E:=N.lt V;obtain⟨hO,hw⟩:=JP N;obtain⟨ad,e1,ab,U⟩:=(H.blk j1 _ h1).2;obtain⟨u1,rfl,G⟩:=Acu U;unfold gU at G;subst G;have Y:Nb w m (mapK (cH .i64) ml):=(H.blk j2 _ h2).2;have L:Bv (ψ i)=(ψ i).ownBlock:=by
  rcases hO.2 with⟨e,_⟩|⟨g,cap,cur,e,_⟩ <;> rw[e] <;> rfl
 have W:∀q,(ψ i).ownBlock=jG q->q≠g/\q≠m:=λq hq=>by
  have f1:ftp h[i]? (ψ i) q:=by rw[hi];exact L.trans hq
  exact⟨λe=>H.dis i j1 I.1 (by rw[hi];rfl) (by rw[h1];rfl) q f1 (by rw[h1];exact e),λe=>H.dis i j2 I.2 (by rw[hi];rfl) (by rw[h2];rfl) q f1 (by rw[h2];exact e)⟩
 unfold Oper.wp;rw[Cx ho (by kernel_rfl) a.eval w V];simp only[Oper.upon];rw[show(#[x,y].map a.eval)= #[ψ i,.func (.func 85) #[] #[.pointer (jG ⟨g,0,jF⟩)]]from by simp[hv,O]];refine(Ad4 hO hl hw ab Y W).mono ?_;rintro r w' ⟨rfl,ac,Z⟩;have z:w.grownBy w' (Bv (ψ i)):=by rw[L];exact Z
 have J:∀k,S k->w'.heap[k]? =w.heap[k]?:=λk hk=>z.block k (H.lt k hk) λe=>(E k e.symm).2.2 hk
 have X:Ext w S h ψ w' S (h.set i (.row ver 3 tInt (KI ml l))) (Bp ψ i (ψ i)):=iA J hi (λc' hc=>by
  simp only[gQ,jH]at hc;exact⟨ver,rfl,by omega,λ_=>⟨rfl,rfl⟩⟩) λh=>by simp[AZ]at h
 exact⟨_,hK,IE (s:=⟨t,h⟩) hi hd F (H.set hi V (Bt z) X (LO ac (Ua hw) λg hg=>⟨(E g (AU hg)).1,(E g (AU hg)).2.2⟩) λg hg=>.inl hg) X (by unfold gU;trivial)⟩
end
instance Aqt:ZC bK 51 [.map jF]:=⟨by kernel_rfl⟩
theorem BU{P:aZ}{C:Ctx}{t:List AV}{h:List gL}{o:aX}{j:Nat}{xs:Array cF}(u:o.op= .extract x j)(hx:evA t x= .lit (.tuple xs))(z:xs[j]? =jG v):AT P C t h o (.lit v):=
 AN λS ψ w ρ _ c=>by
  have h1:=c x (by simp[u,Op.operands]);rw[hx]at h1;unfold gU at h1;exact⟨v,by simp[execOp,u,h1,Instr.extract,z],by unfold gU;rfl⟩
theorem Cq{α:Type}{l:List (Int×α)}(h:Ef l):(keysK l).Nodup:=by
 unfold keysK;exact fT.2 (h.imp λh=>by omega)
theorem Zy{ks:List Int}(u:Ef m)(c:ks.Nodup)(h:∀q,q∈ks↔q∈keysK m):KI m ks=KI m (keysK m):=
 Zx ((G5 m ks).trans ((fU c (Cq u)).2 h)) (Nk m ks)
noncomputable section
def M1(f:iF):M (List Int):=iH (Jw (λs u c=>GD u c s) f ([]:List (Int×Int))) λm=>iI (aL (m.length<=2097152/\Ef m)) (iL (KI m (keysK m)))
theorem U2{f:iF}{r:List Int}(H:(M1 f).to r):Fn bK 48 [.agg (Ak f)] (.bs tInt r):=by
 obtain⟨s,k,H⟩:=An.1 H;obtain⟨c,H⟩:=Aj.1 H;obtain rfl:=Ac.1 H;have c:=of_decide_eq_true c;refine AQ Tryz.func48 V (by kernel_rfl) V Tryz.ntmps48 λC hC=>?_
 simp only[Nat.reduceAdd,Nat.reduceSub,zaa];refine wR (hx:=by((refine AF V (AOp.boxI 0 V V VG.agg ?_);refine DU ?_ IK);refine sA ?_ (AT.assign V VX) KK;exact CV V)) ?_;refine wRK λK1 W=>?_
 refine AF V (Ke (cH .i64) V λm=>?_);refine DU ?_ GZ;refine AF V (S5 2 V V ?_);refine DU ?_ IF;refine AF V (CU (new:=[_]) V V V (Qb.one (iO V)) V (iW V) ?_);refine DU ?_ Qx;refine Au (W _ ?_);refine Bu 2 V V V (λg=>(.agg (Ak f)::.ptr 0 0::.lit (.slice jF 0 0)::.lit (.pointer (jG ⟨g,0,jF⟩))::A2 (.lit (.map (jG m))::A10 (A7 [])))) (λg=>(by(repeat(first|exact OpnB.nil|refine OpnB.ptr ?_|refine OpnB.any ?_|refine OpnB.keep V ?_)))) λg=>?_
 refine nT ?_;have k:=W6 (R0:=λs=>Res.and (Bf g [.lit (.map (jG m))]) (EI (cH .i64) s m)) (λ_=>rfl) (λ_ _ _ _ h=>h) V (λ_ _ _ _ H=>QD H) k;refine wR (hx:=by(refine sA ?_ (AR V Gi V V) GY;refine sA ?_ (FL V) (Aq G9);refine J8 V (DL 2 1 (by decide) V V) ?_;(refine AF V (BR (i:=2) V V k (λ_=>rfl) V V λ_=>?_);refine DU ?_ (Aq IK));exact CV V)) ?_;refine AK _ (Fi 2 1 (by decide) V V) ?_;refine nT ?_;refine wR (hx:=by(refine sA ?_ (AT.assign V VX) I5;exact CV V)) ?_;refine Ab λK5 h5=>?_
 refine wRK λK6 U=>?_
 refine sA ?_ (AY (i:=2) (g:=g) V Fw V V V) (Aq KK);refine AF V (RK 1 V bV V V λI=>?_);refine DU ?_ (Aq IF);refine Au (U _ ?_);refine AK _ (ED 4 3 tInt V (by decide)) ?_;refine nT ?_;refine Ad ?_;have O:(keysK s).length=s.length:=by simp[keysK]
 refine AH (λp:List Int×Nat=>⟨(A3 (.lit (.pointer (jG ⟨g,0,jF⟩))::.own 3 p.2::A6 (.lit (.pointer (jG ⟨I,0,jF⟩))::A10 (A2 [])))),[.dead,.res (TC (cH .i64) s p.1 m I),.res (Bf g [.lit (.map (jG m))]),.row p.2 3 tInt p.1]⟩) (λp=>p.1.Nodup/\∀q∈p.1,q∈keysK s) (λp=>s.length - p.1.length) ([],0) ⟨fR,λq hq=>by cases hq⟩ (leC (g8 (gZ (gZ (gZ (g9 _)))))) ?_;rintro⟨ks,ver⟩ ⟨E,A⟩
 (try dsimp only at E A);(try dsimp only)
 refine Ab λK3 Z=>?_
 refine gV ?_;refine AF V (VQ 1 V V V (λhn G=>?_) (λq v hn hs hw hq N=>?_))
 ·refine sNt ?_;refine sA ?_ (BU V V V) (Aq GK);refine Au ?_;refine Z _ ?_;refine nT ?_;refine Ab λK4 Y=>?_
  refine Ah V (λB=>by cases B) (λB=>?_);refine Ay ?_;repeat(first|refine BF ?_|refine exO (by decide) ?_|refine asE ?_)
  refine exN ?_;refine h5 _ ?_;refine nT ?_;have u:ks.length<=2147483648:=by
   have:=Dl E A;omega
  refine AK _ (JE (i:=1) (R':=EI (cH .i64) s m) V (λ_ h=>.inl h) (λ_ _ h=>by obtain⟨h0,left,cnt,h1,_⟩:=h;exact⟨h0,h1.owns⟩) V) ?_;refine nT ?_;refine wR (hx:=by(refine sA ?_ (AT.move V Gz) (Aq (Aq I5));refine sA ?_ (FL V) (Aq (Aq GK));(refine AF V (SX (j1:=2) (j2:=1) (ml:=s) V V V V V V (by decide) u ?_);refine DU ?_ (Aq (Aq GZ)));exact CV V)) (hk:=?_);refine wR (hx:=by(refine sA ?_ (AT.move V Gz) (Aq (Aq GY));refine sA ?_ (AT.assign V (Ao (Ao GP))) KK;exact CV V)) ?_;rw[Zy c.2 E G];exact Aw ⟨.inr V,iC V⟩
 ·refine sNt ?_;refine sA ?_ (BU V V V) (Aq GK);refine Au ?_;refine Z _ ?_;refine nT ?_;refine Ab λK4 Y=>?_
  refine Ah V (λB=>?_) (λB=>by cases B);refine Al ?_;refine Y _ ?_;refine nT ?_;refine Ad ?_;have J:wfB .i64 q=aK:=hw;have L:q∈keysK s:=fH.2 ⟨(q,v),(CN c.2).1 hq,rfl⟩;have F:(ks++[q]).Nodup:=fP.2 ⟨E,by simp,λa ha b hb=>by rw[fM.1 hb];exact λe=>N (e▸ha)⟩;have z:∀x∈ks++[q],x∈keysK s:=λx hx=>(fA.1 hx).elim (A x) λe=>by rw[fM.1 e];exact L
  have u:=Dl F z;rw[eO,O]at u;have X:EZ (ks.length+ [q].length) 8=aK:=by
   simp only[zai]at u⊢;unfold EZ cY;simp only[zag];omega
  refine wR (hx:=by(refine sA ?_ (NK 1 V V V) (Aq GZ);refine sA ?_ (AT.extract V (Ao HW) V) (Aq GY);refine sA ?_ (AT.assign V (Ao GP)) GK;exact CV V)) ?_;refine wRE (hx:=by(refine sA ?_ (AT.move V Gz) (Aq (Aq G9));refine sA ?_ (AT.move V Fc) (Aq (Aq IK));refine sA ?_ (AT.lt (xs:=[.tmp 17]) (T:=tInt) (ds:=[q]) V V V (by rfl) (by decide) (.cons (Fit.int J) .nil)) (Aq (Aq KK));(refine AF V (Kf V V V V V X ?_);refine DU ?_ (Aq (Aq IF)));refine sA ?_ (AT.assign V (Ao (Ao Fw))) I5;exact CV V)) (hk:=?_);repeat(first|refine abN ?_|refine asN ?_)
  refine Ap ⟨(ks++[q],ver+1),⟨F,z⟩,by simp only[zaw]at u⊢;omega,?_⟩;refine iS (JE (i:=1) (R':=TC (cH .i64) s (ks++[q]) m I) V (λ_ h=>h) (λ_ _ h=>h.1) V) ?_;exact AS
end
end Mu
namespace Mu
open Go Go.RowKit Go.Proofs Go.Maps
variable{E E0:List (Int×Int)}{G:gY}{l:List Int}{out:List (Int×Int)}{α:Type}{p:α->Bool}{r:Int}{v:cF}
def S8(E:List (Int×Int))(k:Int):List (Int×Int):=if(getK E k).isSome then Cb E k (aS.wrap ((getK E k).getD 0 - 1))else E
def KE(G:gY)(E:List (Int×Int))(r:Int):List (Int×Int):=((getK G.near r).getD []).foldl S8 (QB E r)
def Ay1(g m:Nat)(v:cF)(l:List Int)(E:List (Int×Int)):Res:=Res.and (Bf g [.lit v]) (Res.and (rowR v 3 tInt l) (EI (cH .i64) E m))
theorem Aks{g m:Nat}(w:cI)(S S':Nat->Prop)(h:(Ay1 g m v l E).R w S):(Ay1 g m v l E).R w S':=by
 obtain⟨⟨cs,e,h1,h2⟩,⟨A,z,u⟩,c⟩:=h;refine⟨⟨cs,e,h1,?_⟩,⟨XW A,z,u⟩,c⟩;simp only[Af,gU]at h2⊢;exact h2
theorem Al4(l:List (Int×α))(k:Int):(QB l k).length<=l.length:=eR _ _
theorem Al7(h:Ef E)(k:Int):(S8 E k).length=E.length:=by
 unfold S8;split
 ·rename_i hk;exact H9 h hk _
 ·rfl
theorem YS(h:Ef E)(k:Int):Ef (S8 E k):=by
 unfold S8;split
 ·exact h.put _ _
 ·exact h
theorem UF:∀{E:List (Int×Int)},Ef E->Ef (l.foldl S8 E)/\(l.foldl S8 E).length=E.length:=by
 induction l with
 |nil=>intro E h;exact⟨h,rfl⟩
 |cons x l c=>
  intro E h;obtain⟨h1,h2⟩:=c (YS h x);exact⟨h1,h2.trans (Al7 h x)⟩
theorem Te(G:gY)(g m:Nat)(v:cF)(l:List Int)(E:List (Int×Int))(r:Int)(O:Cm r)(hE:Ef E)(aa:E.length<=2147483648)(hl:l.length<=2147483648)(hn:∀k∈(getK G.near r).getD [],Cm k)(W:((getK G.near r).getD []).length<=2147483648):DO bK 91 (Ay1 g m v l E) [.lit (.int .i64 r),.lit (.pointer (jG ⟨g,0,jF⟩)),.bp (RO (.map (jG m))) () 0,.bp (Kg Bc) G 0] (λv':cF=>Ay1 g m v' (l++[r]) (KE G E r)) (λ_=>.tuple #[]):=by
 obtain⟨c,A⟩:∃c,c=(getK G.near r).getD []:=⟨_,rfl⟩
 have U:∀k∈c,Cm k:=by rw[A];exact hn
 have Z:c.length<=2147483648:=by rw[A];exact W
 have N:EZ (l.length+ [r].length) 8=aK:=by
  unfold EZ;simp only[zag,zai];unfold cY;omega
 refine D3 Tryz.func91 V (by kernel_rfl) V Tryz.ntmps91 V (λ_=>Aks) λC=>?_
 refine AK _ (EP 0 V) ?_;refine AK _ (EP 1 V) ?_;refine gW ?_;simp only[Nat.reduceAdd,Nat.reduceSub,zaa];refine nT ?_;refine wRK λK1 X=>?_
 refine sA ?_ (AY (i:=0) (g:=g) V Gi V V V) (Aq IK);refine sA ?_ (AT.move V IP) (Aq KK);refine sA ?_ (Cj (T:=tInt) V V V (by rfl) (by decide) (iE O)) (Aq IF);refine AF V (VV 1 V V (Ao Gi) V (Ao Fw) N λv'=>?_);refine DU ?_ (Aq I5);refine AF V (IB (i:=0) (g:=g) (new:=[.lit v']) V Gi V (Qb.one (Mo (i:=1) V)) V V (iW V) ?_);refine DU ?_ Qx;refine Au (X _ ?_);refine wR (hx:=by((repeat(first|refine sA ?_ (AC V V V)|(refine AF V (Am8 2 V Tryz.underlying51 V V O V ?_);refine sNt ?_)|refine sA ?_|refine AO ?_|refine sAG ?_|refine Bq ?_));exact CV V)) (hk:=?_);refine wR (hx:=by((repeat(first|refine sA ?_ (AC V V V)|refine sA ?_ (Cl V V)|refine sA ?_ (Co V Tryz.underlying77 V V O)|refine sA ?_|refine AO ?_|refine sAG ?_|refine Bq ?_));exact CV V)) ?_;refine Ad ?_;refine AH (λk:Nat=>⟨(A2 (.bp (RO (.map (jG m))) () 0::A10 (A7 (.bs tInt c::.lit (.int .i64 (c.length:Int))::.lit (.int .i64 (k:Int))::A10 (A5 []))))),[.res (Bf g [.lit v']),.res (rowR v' 3 tInt (l++[r])),.res (EI (cH .i64) ((c.take k).foldl S8 (QB E r)) m)]⟩) (λk=>k<=c.length) (λk=>c.length - k) 0 (jC _) (by rw[A];exact AS) ?_;rintro k hk;refine wR ?_;refine Ab λK6 h6=>?_
 refine Ah V (λH=>?_) (λH=>?_)
 ·have F:k < c.length:=by simpa using H
  obtain⟨q,hq⟩:∃q,c[k]? =jG q:=⟨_,eE F⟩
  have B:wfB .i64 q=aK:=U q (fI hq);obtain⟨D,J⟩:∃D,D=(c.take k).foldl S8 (QB E r):=⟨_,rfl⟩
  obtain⟨ac,ab⟩:Ef D/\D.length=(QB E r).length:=by rw[J];exact UF (hE.del r)
  have Y:D.length < cY:=by have:=Al4 E r;unfold cY;omega
  rw[<-J];refine Al ?_;refine h6 _ ?_;refine nT ?_;refine Ab λK8 h8=>?_
  refine Ad ?_;refine wR ?_;refine wR (hx:=by((repeat(first|refine sA ?_ (AC V V V)|refine sA ?_ (Ix 2 V Tryz.underlying51 D4 V V B V)|refine sA ?_|refine AO ?_|refine sAG ?_|refine Bq ?_));exact CV V)) ?_;refine wR ?_;refine Ah V (λz=>?_) (λz=>?_)
  ·have L:(getK D q).isSome=aK:=z;have u:Cb D q (aS.wrap ((getK D q).getD 0 - 1))=S8 D q:=by unfold S8;rw[if_pos L]
   refine wRE (hx:=by((repeat(first|refine sA ?_ (AC V V V)|refine sA ?_ (P9 2 V Tryz.underlying51 D4 V V B V)|(refine AF V (Kd 2 V Tryz.underlying51 V V V B Y V ?_);refine sNt ?_)|refine sA ?_|refine AO ?_|refine sAG ?_|refine Bq ?_));exact CV V)) (hk:=?_);refine h8 _ ?_;refine nT ?_;refine wRE ?_;refine Ap ⟨k+1,F,by omega,?_⟩;try dsimp only
   rw[fZ,hq,dX,<-J,show(jG q).toList.foldl S8 D=_ from u.symm];exact AS
  ·have L:(getK D q).isSome=aH:=z;have u:D=S8 D q:=by unfold S8;rw[if_neg (by rw[L];simp)]
   refine Al ?_;refine h8 _ ?_;refine nT ?_;refine wRE ?_;refine Ap ⟨k+1,F,by omega,?_⟩;try dsimp only
   rw[fZ,hq,dX,<-J,show(jG q).toList.foldl S8 D=_ from u.symm];exact AS
 ·obtain rfl:k=c.length:=by have:¬k < c.length:=(by simpa using H);omega
  have I:KE G E r=(c.take c.length).foldl S8 (QB E r):=by unfold KE;rw[gE,<-A]
  rw[<-I];refine Ay ?_;refine upE (iS (DL 1 2 (by decide) V V) (iS (DL 0 1 (by decide) V V) iR)) ?_;exact⟨.inl V,v',rfl,rfl⟩
def EE(regs:List Int)(out:List (Int×Int)):List (Int×Int):=regs.foldl (λE r=>if(getK out r).getD 0 ==0 then Cb E r 0 else E) []
def Uw(q:Int)(E:List (Int×Int))(k:Int):List (Int×Int):=if(getK E k).isSome then Cb E q (aS.wrap ((getK E q).getD 0+1))else E
def Sy(G:gY)(E:List (Int×Int))(q:Int):List (Int×Int):=((getK G.near q).getD []).foldl (Uw q) E
def Ih(G:gY)(out:List (Int×Int)):List (Int×Int):=(keysK (EE G.regs out)).foldl (Sy G) (EE G.regs out)
def Rc(G:gY)(E:List (Int×Int))(r:Int):Bool:=(getK E r).isSome&&aL ((getK E r).getD 0 < (((getK G.cls r).getD []).length:Int))
def LK(G:gY)(E:List (Int×Int)):Option Int:=match G.regs.find? (Rc G E)with
 |some r=>jG r
 |none=>(G.cheap++G.regs).find? λr=>(getK E r).isSome
def DS(G:gY):Nat->List (Int×Int)->List Int->List Int
 |0,_,l=>l
 |n+1,E,l=>match LK G E with
  |some r=>DS G n (KE G E r) (l++[r])
  |none=>l
def CY(G:gY)(out:List (Int×Int)):List Int:=DS G (Ih G out).length (Ih G out) []
theorem Hj(out:List (Int×Int)):∀(l:List Int) {E:List (Int×Int)},okK E->(∀r∈l,Cm r)->okK (l.foldl (λE r=>if(getK out r).getD 0 ==0 then Cb E r 0 else E) E)/\(l.foldl (λE r=>if(getK out r).getD 0 ==0 then Cb E r 0 else E) E).length<=E.length+l.length
 /\∀x,getK (l.foldl (λE r=>if(getK out r).getD 0 ==0 then Cb E r 0 else E) E) x=if x∈l/\(getK out x).getD 0=0 then jG 0 else getK E x
 | [],E,h,_=>⟨h,by simp,λx=>by simp⟩
 |r::l,E,h,F=>by
  rw[dY];have u:∀r∈l,Cm r:=λq hq=>F q (fE _ hq)
  by_cases z:(getK out r).getD 0=0
  ·have e:((getK out r).getD 0 ==0)=aK:=by rw[z];rfl
   rw[if_pos e];obtain⟨h1,h2,B⟩:=Hj out l (h.put (F r fF) 0) u;refine⟨h1,?_,λx=>?_⟩
   ·have:=E3 (l:=E) r 0;rw[eP];omega
   ·rw[B x,BK h.1];by_cases hx:x=r
    ·subst hx;have H:(if x∈x::l/\(getK out x).getD 0=0 then jG (0:Int)else getK E x)=jG 0:=if_pos ⟨fF,z⟩;rw[H,if_pos V];split <;> rfl
    ·rw[if_neg hx];by_cases c:x∈l/\(getK out x).getD 0=0
     ·rw[if_pos c,if_pos ⟨fE _ c.1,c.2⟩]
     ·rw[if_neg c,if_neg λ⟨h4,A⟩=>c ⟨(fD.1 h4).resolve_left hx,A⟩]
  ·have e:((getK out r).getD 0 ==0)=aH:=by simpa using z
   rw[if_neg (by rw[e];simp)];obtain⟨h1,h2,B⟩:=Hj out l h u;refine⟨h1,by rw[eP];omega,λx=>?_⟩;rw[B x];by_cases c:x∈l/\(getK out x).getD 0=0
   ·rw[if_pos c,if_pos ⟨fE _ c.1,c.2⟩]
   ·rw[if_neg c,if_neg λ⟨h4,A⟩=>by
     rcases fD.1 h4 with rfl|h4
     ·exact z A
     ·exact c ⟨h4,A⟩]
theorem L1{regs:List Int}(out:List (Int×Int))(c:∀r∈regs,Cm r):okK (EE regs out):=(Hj out regs okK.nil c).1
theorem Pt{regs:List Int}(out:List (Int×Int))(c:∀r∈regs,Cm r):(EE regs out).length<=regs.length:=by
 have:=(Hj out regs okK.nil c).2.1;rw[eT,jB]at this;exact this
theorem Pu{regs:List Int}(out:List (Int×Int))(c:∀r∈regs,Cm r)(x:Int):getK (EE regs out) x=if x∈regs/\(getK out x).getD 0=0 then jG 0 else jF:=(Hj out regs okK.nil c).2.2 x
def Ar9(E:List (Int×Int))(c:List Int)(v:Int):Int:=c.foldl (λv k=>if(getK E k).isSome then aS.wrap (v+1)else v) v
theorem L6(E0:List (Int×Int))(q:Int):∀(c:List Int) {E:List (Int×Int)} {v:Int},okK E->(∀x,(getK E x).isSome=(getK E0 x).isSome)->getK E q=jG v->
 okK (c.foldl (Uw q) E)/\(∀x,getK (c.foldl (Uw q) E) x=if x=q then jG (Ar9 E0 c v)else getK E x)/\(c.foldl (Uw q) E).length=E.length
 | [],E,v,h,_,hq=>⟨h,λx=>by
  by_cases e:x=q
  ·rw[if_pos e,e];exact hq
  ·rw[if_neg e];rfl,rfl⟩
 |k::c,E,v,h,z,hq=>by
  rw[dY];have B:Cm q:=h.2 (q,v) ((CN h.1).1 hq);have A:(getK E q).isSome=aK:=by rw[hq];rfl
  by_cases hk:(getK E k).isSome=aK
  ·have e:Uw q E k=Cb E q (aS.wrap (v+1)):=by unfold Uw;rw[if_pos hk,hq];rfl
   rw[e];have hg:∀x,getK (Cb E q (aS.wrap (v+1))) x=if x=q then jG (aS.wrap (v+1))else getK E x:=λx=>BK h.1 _ _ _
   obtain⟨h1,h2,F⟩:=L6 E0 q c (h.put B (aS.wrap (v+1))) (λx=>by
    rw[hg];by_cases u:x=q
    ·rw[if_pos u,<-z x,u,A];rfl
    ·rw[if_neg u];exact z x) (by rw[hg,if_pos V])
   refine⟨h1,λx=>?_,F.trans (H9 h.1 A _)⟩;rw[h2 x];have H:Ar9 E0 (k::c) v=Ar9 E0 c (aS.wrap (v+1)):=by
    show dW _ (if(getK E0 k).isSome then _ else _) c=_;rw[if_pos (by rw[<-z k];exact hk)];rfl
   rw[H];by_cases u:x=q
   ·rw[if_pos u,if_pos u]
   ·rw[if_neg u,if_neg u,hg,if_neg u]
  ·have e:Uw q E k=E:=by unfold Uw;rw[if_neg hk]
   rw[e];obtain⟨h1,h2,F⟩:=L6 E0 q c h z hq;refine⟨h1,λx=>?_,F⟩;rw[h2 x];have H:Ar9 E0 (k::c) v=Ar9 E0 c v:=by
    show dW _ (if(getK E0 k).isSome then _ else _) c=_;rw[if_neg (by rw[<-z k];exact hk)];rfl
   rw[H]
theorem snocI{c:List α->Prop}(nil:c [])(snoc:∀l x,c l->c (l++[x]))(l:List α):c l:=by
 have z:∀n (l:List α),l.length=n->c l:=by
  intro n;induction n with
  |zero=>intro l u;rw[dM u];exact nil
  |succ n B=>
   intro l u;have A:l≠[]:=λe=>by rw[e]at u;simp at u
   rw[<-List.dropLast_concat_getLast A];exact snoc _ _ (B _ (by rw[List.length_dropLast,u];rfl))
 exact z _ l V
theorem F9(G:gY)(h0:okK E0):∀(ks:List Int),ks.Nodup->(∀q∈ks,q∈keysK E0)->okK (ks.foldl (Sy G) E0)/\(∀x,getK (ks.foldl (Sy G) E0) x=if x∈ks then(getK E0 x).map (Ar9 E0 ((getK G.near x).getD []))else getK E0 x)/\(ks.foldl (Sy G) E0).length=E0.length:=by
 intro ks;induction ks using snocI with
 |nil=>intro _ _;exact⟨h0,λx=>by simp,rfl⟩
 |snoc ks q L=>
  intro I A;have c:=fP.1 I;obtain⟨h1,h2,X⟩:=L c.1 λx hx=>A x (fB _ hx)
  have F:q∉ks:=λJ=>c.2.2 q J q (fM.2 V) V
  have u:∀x,(getK (ks.foldl (Sy G) E0) x).isSome=(getK E0 x).isSome:=λx=>by
   rw[h2 x];split
   ·rw[jE]
   ·rfl
  obtain⟨p,N,H⟩:=fH.1 (A q (fC _ (fM.2 V)));have z:getK E0 q=jG p.2:=(CN h0.1).2 (by rw[<-H];exact N);have hq:getK (ks.foldl (Sy G) E0) q=jG p.2:=by rw[h2 q,if_neg F,z]
  rw[dX];obtain⟨W,U,O⟩:=L6 E0 q ((getK G.near q).getD []) h1 u hq;refine⟨W,λx=>?_,O.trans X⟩;show getK (Sy G (ks.foldl (Sy G) E0) q) x=_;rw[show Sy G (ks.foldl (Sy G) E0) q=((getK G.near q).getD []).foldl (Uw q) (ks.foldl (Sy G) E0)from V,U x];by_cases B:x=q
  ·rw[if_pos B,if_pos (by rw[B];simp),B,z];rfl
  ·rw[if_neg B,h2 x];by_cases hx:x∈ks
   ·rw[if_pos hx,if_pos (fB _ hx)]
   ·rw[if_neg hx,if_neg λJ=>(fA.1 J).elim hx λe=>B (fM.1 e)]
theorem Amb(G:gY)(h0:okK E0){ks:List Int}(u:ks.Nodup)(c:∀q,q∈ks↔q∈keysK E0):ks.foldl (Sy G) E0=(keysK E0).foldl (Sy G) E0:=by
 obtain⟨h1,h2,_⟩:=F9 G h0 ks u λq hq=>(c q).1 hq
 obtain⟨A,z,_⟩:=F9 G h0 (keysK E0) (Cq h0.1) λq hq=>hq
 refine Amq h1.1 A.1 λx=>?_
 rw[h2 x,z x];by_cases hx:x∈keysK E0
 ·rw[if_pos hx,if_pos ((c x).2 hx)]
 ·rw[if_neg hx,if_neg λe=>hx ((c x).1 e)]
theorem Ahi{l:List α}{k:Nat}{x:α}(hx:l[k]? =jG x)(z:p x=aK)(h:∀j y,j < k->l[j]? =jG y->p y=aH):l.find? p=jG x:=by
 induction l generalizing k with
 |nil=>simp at hx
 |cons a l c=>
  cases k with
  |zero=>
   simp at hx;subst hx;rw[dR,z]
  |succ k=>
   have A:=h 0 a (by omega) V;rw[dR,A];exact c (by simpa using hx) λj y B u=>h (j+1) y (by omega) (by simpa using u)
theorem Arb{l:List α}(h:∀j y,j < l.length->l[j]? =jG y->p y=aH):l.find? p=jF:=by
 rw[List.find?_eq_none];intro x hx;obtain⟨j,c⟩:=fG.1 hx;rw[h j x (eG.1 c).1 c];simp
theorem LJ(h:LK G E=jG r):(getK E r).isSome=aK:=by
 unfold LK at h;split at h
 ·rename_i q hq;cases h;have:=dT hq;unfold Rc at this;simp only[aG]at this;exact this.1
 ·have:=dT h;simpa using this
theorem Ln(h:Ef E)(B:(getK E r).isSome=aK):Ef (KE G E r)/\(KE G E r).length+1=E.length:=by
 unfold KE;obtain⟨h1,h2⟩:=UF (l:=(getK G.near r).getD []) (h.del r);refine⟨h1,?_⟩;rw[h2];obtain⟨v,A⟩:=jD.1 B;have z:=(CN h).1 A;have c:E.Perm ((r,v)::QB E r):=by
  refine(fU (dC (λ{a b} hab e=>by rw[e]at hab;omega) h) ?_).2 λp=>?_
  ·refine fQ.2 ⟨λu=>(J0.1 u).2 V,dC (λ{a b} hab e=>by rw[e]at hab;omega) (h.del r)⟩
  ·rw[fD,J0];constructor
   ·intro c;by_cases e:p.1=r
    ·exact .inl (h.uniq c z e)
    ·exact .inr ⟨c,e⟩
   ·rintro(rfl|⟨c,_⟩)
    ·exact z
    ·exact c
 have:=c.length_eq;rw[eP]at this;exact this.symm
theorem G2(h:Ef E)(r x:Int):(getK (KE G E r) x).isSome=((getK E x).isSome&&x !=r):=by
 have c:∀(l:List Int) {D:List (Int×Int)},Ef D->(getK (l.foldl S8 D) x).isSome=(getK D x).isSome:=by
  intro l;induction l with
  |nil=>intro D _;rfl
  |cons k l z=>
   intro D u;rw[dY,z (YS u k)];unfold S8;split
   ·rename_i hk;rw[BK u];by_cases e:x=k
    ·rw[if_pos e,e,hk];rfl
    ·rw[if_neg e]
   ·rfl
 unfold KE;rw[c _ (h.del r),Ma h];by_cases e:x=r
 ·rw[if_pos e,e];simp
 ·rw[if_neg e];simp[e]
instance Ax9:ZC bK 27 [.slice jF 0 0]:=⟨by kernel_rfl⟩
abbrev Zq(g m:Nat)(G:gY):AV:=.fn 91 [.lit (.pointer (jG ⟨g,0,jF⟩)),.bp (RO (.map (jG m))) () 0,.bp (Kg Bc) G 0]
theorem Am5{h:List gL}(i:Nat)(hi:h[i]? =jG (.res (rowR v 3 tInt l)))(F:mkD h= []:=by rfl):Fin h (.lit v) (.bs tInt l):=⟨F,λC S ψ w u I H c=>by
 unfold gU at c;rw[c];clear c;have A:=H.blk i _ hi;obtain⟨h1,h2⟩:=N7 A.2;refine⟨λk=>S k\/v.ownBlock=jG k,λ_ h=>.inl h,λk hk=>?_,λk hk=>?_,?_⟩
 ·rcases hk with hk|hk
  ·exact .inl hk
  ·exact .inr (iX λz=>(A.1 k (AU hk)).1 (I k z))
 ·rcases hk with hk|hk
  ·exact H.lt k hk
  ·exact(A.1 k (AU hk)).2.2
 ·unfold gU;refine C9 (T:=tInt) h1 (λj d B=>?_) λg hg=>.inr hg
  show tInt.RS w _ (((l.map (cH .i64)).drop (j * 1)).take 1) d;have hi:(l.map (cH .i64))[j]? =jG (.int .i64 d):=by rw[eH,B];rfl
  rw[jA,gG,eM,hi];exact DN.2 ⟨rfl,h2 d (fI B)⟩⟩
structure OkG(G:CGraph):Prop where
 regs:∀r∈G.regs,Cm r
 len:G.regs.length<=1073741824
 cheap:G.cheap.length<=1073741824
 cheapw:∀r∈G.cheap,Cm r
 near:∀r,∀k∈(getK G.near r).getD [],Cm k
 nearl:∀r,((getK G.near r).getD []).length<=2147483648
structure OrdI(G:CGraph)(out:List (Int×Int))(E:List (Int×Int))(l:List Int):Prop where
 asc:Ef E
 inr:∀x,(getK E x).isSome=true->x∈G.regs
 len:E.length+l.length<=1073741824
 eq:DS G E.length E l=CY G out
theorem OrdI.take(h:OrdI G out E l)(c:LK G E=jG r):OrdI G out (KE G E r) (l++[r])/\(KE G E r).length < E.length:=by
 obtain⟨h1,h2⟩:=Ln h.asc (LJ c) (G:=G);refine⟨⟨h1,λx hx=>h.inr x ?_,by have:=h.len;rw[eO,eP,eT];omega,?_⟩,by omega⟩
 ·rw[G2 h.asc]at hx;simp only[aG]at hx;exact hx.1
 ·have:=h.eq;rw[<-h2]at this;unfold DS at this;rw[c]at this;exact this
theorem Jl(u:OkG G):OrdI G out (Ih G out) []:=by
 have h0:=L1 out u.regs;obtain⟨h1,h2,A⟩:=F9 G h0 (keysK (EE G.regs out)) (Cq h0.1) λq hq=>hq
 refine⟨h1.1,λx hx=>?_,?_,rfl⟩
 ·have c:(getK (EE G.regs out) x).isSome=aK:=by
   rw[show Ih G out=(keysK (EE G.regs out)).foldl (Sy G) (EE G.regs out)from V,h2 x]at hx;split at hx
   ·rwa [jE]at hx
   ·exact hx
  rw[Pu out u.regs]at c;by_cases z:x∈G.regs
  ·exact z
  ·rw[if_neg λe=>z e.1]at c;cases c
 ·have F:=Pt out u.regs;have B:=u.len;rw[show(Ih G out).length=_ from A,eT];omega
theorem Aky{E:List (Int×α)}(h:E.length≠0):∃x,(getK E x).isSome=aK:=by
 cases E with
 |nil=>exact absurd V h
 |cons p E=>exact⟨p.1,by unfold getK;rw[dR];simp⟩
theorem Akr(G:gY)(out:List (Int×Int))(B:OkG G):Fn bK 53 [.bp Bc G 0,.tv tMapI out] (.bs tInt (CY G out)):=by
 have bq:=B.len;have cr:=B.cheap;refine AQ Tryz.func53 V (by kernel_rfl) V Tryz.ntmps53 λC hC=>?_
 simp only[Nat.reduceAdd,Nat.reduceSub,zaa];refine wR (hx:=by((repeat(first|(refine AF V (AOp.boxI 0 V V (Qb.one One.bp).weak ?_);refine sNt ?_)|refine sA ?_|refine AO ?_|refine sAG ?_|refine Bq ?_));exact CV V)) (hk:=?_);refine Awp.scope ?_;refine AK _ (EQ hC 0 2 V V Zb.bp) ?_;refine nT ?_;refine wRK λK2 bz=>?_
 refine AF V (Ke (cH .i64) V λm=>?_);refine DU ?_ (Aq (Aq GY));refine AF V (S5 2 V V ?_);refine DU ?_ GK;refine AF V (CU (new:=[_]) V V V (Qb.one (iO V)) V (iW V) ?_);refine DU ?_ Qx;refine Au (bz _ ?_);refine AK _ (EQ hC 2 5 V V (Zb.lit (v:=.map (jG m)) V)) ?_;refine nT ?_;refine Ab λK3 h3=>?_
 refine wR (hx:=by((repeat(first|refine sA ?_ (AC V V V)|refine sA ?_ (Cl V V)|refine sA ?_|refine AO ?_|refine sAG ?_|refine Bq ?_));exact CV V)) ?_;refine Ad ?_;refine AH (λk:Nat=>⟨(.any::.tv tMapI out::.bp (Kg Bc) G 0::A2 (.bp (RO (.map (jG m))) () 0::A20 (.any::.bs tInt G.regs::.lit (.int .i64 (G.regs.length:Int))::.lit (.int .i64 (k:Int))::A80 (A20 [.any])))),[.dead,.res (EI (cH .i64) (EE (G.regs.take k) out) m),.dead]⟩) (λk=>k<=G.regs.length) (λk=>G.regs.length - k) 0 (jC _) (AS) ?_;rintro k hk;refine wR ?_;refine Ab λK7 h7=>?_
 refine Ah V (λbb=>?_) (λbb=>?_)
 ·have u:k < G.regs.length:=by simpa using bb
  obtain⟨r,O⟩:∃r,G.regs[k]? =jG r:=⟨_,eE u⟩
  have A:wfB .i64 r=aK:=B.regs r (fI O);have am:(EE (G.regs.take k) out).length < cY:=by
   have h1:=Pt (regs:=G.regs.take k) out λq hq=>B.regs q (fK hq)
   have h2:(G.regs.take k).length<=G.regs.length:=by rw[eV];omega
   unfold cY;omega
  have be:EE (G.regs.take (k+1)) out=if(getK out r).getD 0 ==0 then Cb (EE (G.regs.take k) out) r 0 else EE (G.regs.take k) out:=by
   unfold EE;rw[fZ,O,dX];rfl
  refine Al ?_;refine h7 _ ?_;refine nT ?_;refine Ab λK9 h9=>?_
  refine Ad ?_;refine wR ?_;refine wR (hx:=by((repeat(first|refine sA ?_ (VA V Tryz.underlying51 V V A)|refine sA ?_|refine AO ?_|refine sAG ?_|refine Bq ?_));exact CV V)) ?_;refine Ah V (λai=>?_) (λai=>?_)
  ·have he:EE (G.regs.take (k+1)) out=Cb (EE (G.regs.take k) out) r 0:=by rw[be,if_pos ai]
   refine wRE (hx:=by((repeat(first|refine sA ?_ (AC V V V)|(refine AF V (Kd 1 V Tryz.underlying51 V V V A am V ?_);refine sNt ?_)|refine sA ?_|refine AO ?_|refine sAG ?_|refine Bq ?_));exact CV V)) (hk:=?_);refine h9 _ ?_;refine nT ?_;refine wRE ?_;refine Ap ⟨k+1,u,by omega,?_⟩;rw[he];exact AS
  ·have he:EE (G.regs.take (k+1)) out=EE (G.regs.take k) out:=by rw[be,if_neg (by rw[ai];simp)]
   refine Al ?_;refine h9 _ ?_;refine nT ?_;refine wRE ?_;refine Ap ⟨k+1,u,by omega,?_⟩;rw[he];exact AS
 ·obtain rfl:k=G.regs.length:=by have:¬k < G.regs.length:=(by simpa using bb);omega
  rw[gE];refine Ay ?_;refine h3 _ ?_;refine nT ?_;refine Ab λdk co=>?_
  obtain⟨E0,an⟩:∃E,E=EE G.regs out:=⟨_,rfl⟩
  rw[<-an];have h0:okK E0:=by rw[an];exact L1 out B.regs
  have cu:E0.length<=1073741824:=by rw[an];exact iZ (Pt out B.regs) bq
  refine wRK λdj bk=>?_
  refine sA ?_ (AC V Fc V) (Ar (Aq G9));refine AF V (RK 1 V bV V V λrg=>?_);refine DU ?_ (Ar (Aq IK));refine Au (bk _ ?_);refine Ad ?_;refine AH (λks:List Int=>⟨(A2 (.bp (Kg Bc) G 0::A2 (.bp (RO (.map (jG m))) () 0::A20 (A10 (A5 (.lit (.pointer (jG ⟨rg,0,jF⟩))::A80 (A9 []))))))),[.dead,.res (TC (cH .i64) (ks.foldl (Sy G) E0) ks m rg),.dead]⟩) (λks=>ks.Nodup/\∀q∈ks,q∈keysK E0) (λks=>E0.length - ks.length) [] ⟨fR,λq hq=>by cases hq⟩ (AS) ?_;rintro ks ⟨av,ao⟩;obtain⟨al,ba,az⟩:=F9 G h0 ks av ao;obtain⟨E,hE⟩:∃E,E=ks.foldl (Sy G) E0:=⟨_,rfl⟩
  rw[<-hE]at al ba az;rw[<-hE];have aw:∀q,q∈keysK E↔q∈keysK E0:=λq=>by
   have hs:∀{β:Type} (m:List (Int×β)),q∈keysK m↔(getK m q).isSome=aK:=λm=>by
    unfold keysK getK;rw[jE,List.find?_isSome];simp
   rw[hs,hs,ba q];split
   ·rw[jE]
   ·exact Iff.rfl
  refine Bi (β:=Option (Int×Int)) (λo=>match o with|none=>∀q,q∈ks↔q∈keysK E0|some p=>Cm p.1/\getK E p.1=jG p.2/\p.1∉ks) (λo=>⟨(A2 (.bp (Kg Bc) G 0::A2 (.bp (RO (.map (jG m))) () 0::A20 (A10 (A5 (.lit (.pointer (jG ⟨rg,0,jF⟩))::.any::.lit (.bool o.isSome)::A80 (A7 []))))))),[.dead,.res (match o with|none=>TC (cH .i64) E ks m rg|some p=>atT (cH .i64) E (ks++[p.1]) p.1 p.2 m rg),.dead]⟩) ?_ ?_
  ·refine gV ?_;refine AF V (VQ 1 V V V (λhn N=>?_) (λq v hn hs hw hq bu=>?_))
   ·refine sNt ?_;refine sA ?_ (BU V V V) (Ar (Aq IF));refine Au ?_;refine Ap ⟨jF,λq=>(N q).trans (aw q),?_⟩;exact AS
   ·refine sNt ?_;refine sA ?_ (BU V V V) (Ar (Aq IF));refine Au ?_;refine Ap ⟨jG (q,v),⟨hw,hq,bu⟩,?_⟩;exact AS
  rintro o ho;refine Ab λdi cn=>?_
  refine Ah V (λJ=>?_) (λJ=>?_)
  ·obtain⟨⟨q,v⟩,rfl⟩:=jD.1 J;obtain⟨W,aj,br⟩:=ho;have W:wfB .i64 q=aK:=W;have aj:getK E q=jG v:=aj;have bt:q∈keysK E0:=(aw q).1 (fH.2 ⟨(q,v),(CN al.1).1 aj,rfl⟩);have ap:(ks++[q]).Nodup:=fP.2 ⟨av,by simp,λa c b F=>by rw[fM.1 F];exact λe=>br (e▸c)⟩;have U:∀x∈ks++[q],x∈keysK E0:=λx hx=>(fA.1 hx).elim (ao x) λe=>by rw[fM.1 e];exact bt
   have aa:=Dl ap U;obtain⟨H,ak⟩:∃H,H=(getK G.near q).getD []:=⟨_,rfl⟩
   have cp:H.length<=2147483648:=by rw[ak];exact B.nearl q
   have bf:∀k∈H,Cm k:=by rw[ak];exact B.near q
   refine Al ?_;refine cn _ ?_;refine nT ?_;refine Ad ?_;refine wR (hx:=by((repeat(first|refine sA ?_ (NK 1 V V V)|refine sA ?_|refine AO ?_|refine sAG ?_|refine Bq ?_));exact CV V)) ?_;refine AK _ (JE (i:=1) (R':=TC (cH .i64) E (ks++[q]) m rg) V (λ_ h=>h) (λ_ _ h=>h.1) V) ?_;refine nT ?_;refine wR (hx:=by((repeat(first|refine sA ?_ (AC V V V)|refine sA ?_ (Cl V V)|refine sA ?_ (Co V Tryz.underlying77 V V W)|refine sA ?_|refine AO ?_|refine sAG ?_|refine Bq ?_));exact CV V)) ?_;refine Ad ?_;refine AH (λk:Nat=>⟨(A2 (.bp (Kg Bc) G 0::A2 (.bp (RO (.map (jG m))) () 0::A2 (.lit (.int .i64 q)::A20 (A10 (A2 (.lit (.pointer (jG ⟨rg,0,jF⟩))::A9 (.bs tInt H::.lit (.int .i64 (H.length:Int))::.lit (.int .i64 (k:Int))::A40 (A20 (A10 (A7 []))))))))))),[.dead,.res (TC (cH .i64) ((H.take k).foldl (Uw q) E) (ks++[q]) m rg),.dead]⟩) (λk=>k<=H.length) (λk=>H.length - k) 0 (jC _) (by rw[ak];exact AS) ?_;rintro k hk;obtain⟨cc,bm,bl⟩:=L6 E q (H.take k) al (λ_=>rfl) aj;obtain⟨D,hD⟩:∃D,D=(H.take k).foldl (Uw q) E:=⟨_,rfl⟩
   rw[<-hD]at cc bm bl;rw[<-hD];refine wR ?_;refine Ab λdh cm=>?_
   refine Ah V (λah=>?_) (λah=>?_)
   ·have u:k < H.length:=by simpa using ah
    obtain⟨z,hz⟩:∃z,H[k]? =jG z:=⟨_,eE u⟩
    have bo:wfB .i64 z=aK:=bf z (fI hz);have cb:D.length < cY:=by rw[bl,az];unfold cY;omega
    have ca:(getK D q).isSome=aK:=by rw[bm q,if_pos V];rfl
    refine Al ?_;refine cm _ ?_;refine nT ?_;refine Ab λdg bn=>?_
    refine Ad ?_;refine wR ?_;refine wR (hx:=by((repeat(first|refine sA ?_ (AC V V V)|refine sA ?_ (QM 1 V Tryz.underlying51 D4 V V bo V)|refine sA ?_|refine AO ?_|refine sAG ?_|refine Bq ?_));exact CV V)) ?_;refine wR ?_;refine Ah V (λag=>?_) (λag=>?_)
    ·have hs:(getK D z).isSome=aK:=ag;have ax:Uw q D z=Cb D q (aS.wrap ((getK D q).getD 0+1)):=by unfold Uw;rw[if_pos hs]
     refine wRE (hx:=by((repeat(first|refine sA ?_ (AC V V V)|refine sA ?_ (Vz 1 V Tryz.underlying51 D4 V V W V)|(refine AF V (Acl 1 V Tryz.underlying51 V V V W cb ca V ?_);refine sNt ?_)|refine sA ?_|refine AO ?_|refine sAG ?_|refine Bq ?_));exact CV V)) (hk:=?_);refine bn _ ?_;refine nT ?_;refine wRE ?_;refine Ap ⟨k+1,u,by omega,?_⟩;try dsimp only
     rw[fZ,hz,dX,<-hD,show(jG z).toList.foldl (Uw q) D=_ from ax];exact AS
    ·have hs:(getK D z).isSome=aH:=ag;have ax:Uw q D z=D:=by unfold Uw;rw[if_neg (by rw[hs];simp)]
     refine Al ?_;refine bn _ ?_;refine nT ?_;refine wRE ?_;refine Ap ⟨k+1,u,by omega,?_⟩;try dsimp only
     rw[fZ,hz,dX,<-hD,show(jG z).toList.foldl (Uw q) D=_ from ax];exact AS
   ·obtain rfl:k=H.length:=by have:¬k < H.length:=(by simpa using ah);omega
    refine Ay ?_;repeat(first|refine BF ?_|refine exO (by decide) ?_|refine asE ?_)
    refine exN ?_;repeat(first|refine abN ?_|refine asN ?_)
    have ay:(ks++[q]).foldl (Sy G) E0=D:=by
     rw[dX,<-hE,hD,gE,ak];rfl
    refine Ap ⟨ks++[q],⟨ap,U⟩,by rw[eO,eP,eT]at aa⊢;simp only[keysK,eS]at aa;omega,?_⟩;try dsimp only
    rw[ay];exact AS
  ·obtain rfl:o=jF:=by cases o with|none=>rfl|some p=>cases J
   refine Ay ?_;refine co _ ?_;refine nT ?_;have N:E=Ih G out:=by
    rw[hE];unfold Ih;rw[<-an];exact Amb G h0 av ho
   refine AK _ (JE (i:=1) (R':=EI (cH .i64) E m) V (λ_ h=>.inl h) (λ_ _ h=>by obtain⟨h0,left,cnt,h1,_⟩:=h;exact⟨h0,h1.owns⟩) V) ?_;refine nT ?_;rw[N];clear N aw ba al az hE ho J;refine wR ?_;refine Bu 3 V V V (λg=>(A2 (.bp (Kg Bc) G 0::A2 (.bp (RO (.map (jG m))) () 0::A7 (.lit (.pointer (jG ⟨g,0,jF⟩))::A80 (A20 (A10 (A7 [])))))))) (λg=>(by(repeat(first|exact OpnB.nil|refine OpnB.ptr ?_|refine OpnB.any ?_|refine OpnB.keep V ?_)))) λg=>?_
   refine AK _ (J9 3 tInt (by decide)) ?_;refine nT ?_;refine wS ?_;refine sA ?_ (FL V) (Ar (Ar GK));refine sT (wN ?_);refine Ab λdf ck=>?_
   refine Awp.label ?_;refine ck _ ?_;refine nT ?_;refine Ab λde cj=>?_
   refine Ad ?_;refine AH (λp:List (Int×Int)×List Int×cF=>⟨(A2 (.bp (Kg Bc) G 0::A2 (.bp (RO (.map (jG m))) () 0::A7 (.lit (.pointer (jG ⟨g,0,jF⟩))::Zq g m G::A80 (A20 (A10 (A6 []))))))),[.dead,.res (EI (cH .i64) p.1 m),.dead,.res (Bf g [.lit p.2.2]),.res (rowR p.2.2 3 tInt p.2.1)]⟩) (λp=>OrdI G out p.1 p.2.1) (λp=>p.1.length) (Ih G out,[],.slice jF 0 0) (Jl B) (AS) ?_;rintro⟨E,l,v⟩ hI;have hI:OrdI G out E l:=hI;have am:E.length<=2147483648:=by have:=hI.len;omega
   have bg:l.length<=2147483648:=by have:=hI.len;omega
   refine Ab λdd ci=>?_
   refine wR (hx:=by((repeat(first|refine sA ?_ (AC V V V)|refine sA ?_ (Ab5 1 V Tryz.underlying51 V V)|refine sA ?_|refine AO ?_|refine sAG ?_|refine Bq ?_));exact CV V)) ?_;refine Ah V (λaf=>?_) (λaf=>?_)
   ·have bv:E.length≠0:=by have:(0:Int) < (E.length:Int):=(by simpa using af);omega
    refine Al ?_;refine ci _ ?_;refine nT ?_;refine Ad ?_;refine Ab λdc ch=>?_
    refine wR (hx:=by((repeat(first|refine sA ?_ (AC V V V)|refine sA ?_ (Cl V V)|refine sA ?_|refine AO ?_|refine sAG ?_|refine Bq ?_));exact CV V)) ?_;refine Ad ?_;refine AH (λk:Nat=>⟨(A2 (.bp (Kg Bc) G 0::A2 (.bp (RO (.map (jG m))) () 0::A7 (.lit (.pointer (jG ⟨g,0,jF⟩))::Zq g m G::A40 (A20 (.any::.bs tInt G.regs::.lit (.int .i64 (G.regs.length:Int))::.lit (.int .i64 (k:Int))::A40 (A10 (A2 [])))))))),[.dead,.res (EI (cH .i64) E m),.dead,.res (Bf g [.lit v]),.res (rowR v 3 tInt l)]⟩) (λk=>k<=G.regs.length/\∀j y,j < k->G.regs[j]? =jG y->Rc G E y=aH) (λk=>G.regs.length - k) 0 ⟨jC _,λj y h=>by omega⟩ (AS) ?_;rintro k ⟨hk,au⟩;refine wR ?_;refine Ab λdb cg=>?_
    refine Ah V (λae=>?_) (λae=>?_)
    ·have u:k < G.regs.length:=by simpa using ae
     obtain⟨r,O⟩:∃r,G.regs[k]? =jG r:=⟨_,eE u⟩
     have A:wfB .i64 r=aK:=B.regs r (fI O);have c1:(!((getK E r).isSome)||(wfB .i64 r))=aK:=by rw[A];simp
     refine Al ?_;refine cg _ ?_;refine nT ?_;refine Ab λda cf=>?_
     refine Ad ?_;refine wR ?_;refine wR (hx:=by((repeat(first|refine sA ?_ (AC V V V)|refine sA ?_ (Ix 1 V Tryz.underlying51 D4 V V A V)|refine sA ?_|refine AO ?_|refine sAG ?_|refine Bq ?_));exact CV V)) ?_;refine wS (sT (sT ?_));refine sGt V ?_;refine sGt V ?_;refine sG (g:=((getK E r).isSome)) (hg:=MV V) (hq:=λhg=>Cl V ((As (As (Ao (Ao (Ao Fw))))).trans (BD hg _ _))) (ht:=(Ar (Ar (Aq (Aq (Aq I5)))))) (hk:=?_);refine sGt V ?_;refine sGt V ?_;refine sGt V ?_;refine sG (g:=((getK E r).isSome)) (hg:=MV V) (hq:=λhg=>Co V bW ((As (As (Ao (Ao (Ao HW))))).trans (BD hg _ _)) ((As (As (Ao (Ao (Ao GP))))).trans (BD hg _ _)) (Uy c1 hg)) (ht:=(Ar (Ar (Ar G9)))) (hk:=?_);refine sGt V ?_;refine sGt V (sT (wN ?_));refine Ah V (λad=>?_) (λad=>?_)
     ·have I:LK G E=jG r:=by unfold LK;rw[Ahi O ad au]
      obtain⟨bc,Z⟩:=hI.take I;refine wRK λcz bj=>?_
      refine sA ?_ (AT.move V (Ao HW)) (Ar (Ar (Ar I5)));refine sA ?_ (AT.move V (Ao (Ao IP))) (Ar (Ar (Ar GK)));refine J8 V (DL 4 1 (by decide) V V) ?_;refine J8 V (DL 3 4 (by decide) V V) ?_;refine AF V (ID (i:=3) V V (As (As (As Gz))) (Te G g m v l E r A hI.asc am bg (B.near r) (B.nearl r)) (λ_=>rfl) V V λv'=>?_);refine DU ?_ (Ar (Ar (Ar GZ)));refine Au (bj _ ?_);refine AK _ (Fi 3 4 (by decide) V V) ?_;refine AK _ (Fi 4 1 (by decide) V V) ?_;refine nT ?_;refine Ay ?_;repeat(first|refine BF ?_|refine exO (by decide) ?_|refine asE ?_)
      refine exN ?_;repeat(first|refine abN ?_|refine asN ?_)
      exact Ap ⟨(KE G E r,l++[r],v'),bc,Z,AS⟩
     ·have X:Rc G E r=aH:=ad;refine Al ?_;refine cf _ ?_;refine nT ?_;refine wRE ?_;refine Ap ⟨k+1,⟨u,λj y hj hy=>?_⟩,by omega,AS⟩;rcases i7 j k with hj'|hj'
      ·exact au j y hj' hy
      ·obtain rfl:j=k:=by omega
       rw[O]at hy;cases hy;exact X
    ·refine Ay ?_;refine ch _ ?_;refine nT ?_;obtain rfl:k=G.regs.length:=by have:¬k < G.regs.length:=(by simpa using ae);omega
     have ar:G.regs.find? (Rc G E)=jF:=Arb au;have k1:=VJ (GJ (l:=G.cheap) (Ae (decide_eq_true (iZ B.cheap (by decide))) (Ag _)));have c2:EZ (G.cheap.length+G.regs.length) 8=aK:=by
      have h1:=B.cheap;unfold EZ;simp only[zag];unfold cY;omega
     obtain⟨L,hL⟩:∃L,L=G.cheap++G.regs:=⟨_,rfl⟩
     have ct:L.length<=2147483648:=by rw[hL,eO];have h1:=B.cheap;omega
     have bx:∀r∈L,Cm r:=λr O=>by
      rw[hL]at O;rcases fA.1 O with h|h
      ·exact B.cheapw r h
      ·exact B.regs r h
     refine AK ⟨A2 (.bp (Kg Bc) G 0::A2 (.bp (RO (.map (jG m))) () 0::A7 (.lit (.pointer (jG ⟨g,0,jF⟩))::(Zq g m G)::A80 (A20 (A10 (A6 [])))))),[.dead,.res (EI (cH .i64) E m),.dead,.res (Bf g [.lit v]),.res (rowR v 3 tInt l),.dead]⟩ (iS AS (Lb 1 V)) ?_;refine Ab λcv bw=>?_
     refine Qh (n:=12) (λb=>⟨A2 (.bp (Kg Bc) G 0::A2 (.bp (RO (.map (jG m))) () 0::A7 (.lit (.pointer (jG ⟨g,0,jF⟩))::(Zq g m G)::A80 (A9 ((bif b 0 then .bp Bc G 0 else .any)::(bif b 1 then .bp Bc G 0 else .any)::(bif b 2 then .bp Bc G 5 else .any)::(bif b 3 then .bs tInt G.cheap else .any)::(bif b 4 then .own 5 0 else .any)::(bif b 5 then .bp Bc G 0 else .any)::(bif b 6 then .bp Bc G 0 else .any)::(bif b 7 then .bp Bc G 0 else .any)::(bif b 8 then .bs tInt G.regs else .any)::(bif b 9 then .own 5 (0+1)else .any)::(bif b 10 then .lit (.int .i64 ((G.cheap++G.regs).length:Int))else .any)::(bif b 11 then .lit (.int .i64 0)else .any)::A10 (A5 [])))))),[.dead,.res (EI (cH .i64) E m),.dead,.res (Bf g [.lit v]),.res (rowR v 3 tInt l),(bif b 9 then .row (0+1) 3 tInt (G.cheap++G.regs)else(bif b 4 then .row 0 3 tInt G.cheap else .dead))]⟩) V (by kernel_rfl) (by kernel_rfl) ?_ (bw _ ?_)
     ·refine BQ (λb F c hc=>?_) ?_
      ·try dsimp only
       refine AX (AC V Fm V) ?_;exact iR
      refine BQ (λb F c hc=>?_) ?_
      ·have h0:b 0=aK:=c 0 _ V V;try dsimp only
       refine AX (Cl V ((As (As (As (Ao IP)))).trans (BD h0 _ _))) ?_;exact iR
      refine BQ (λb F c hc=>?_) ?_
      ·have h1:b 1=aK:=c 0 _ V V;try dsimp only
       refine AX (Cr V ((As (As (As (Ao Gi)))).trans (BD h1 _ _))) ?_;exact iR
      refine BQ (λb F c hc=>?_) ?_
      ·have h2:b 2=aK:=c 0 _ V V;try dsimp only
       refine AX (AC V ((As (As (As (Ao Fm)))).trans (BD h2 _ _)) V) ?_;exact iR
      refine BQ (λb F c hc=>?_) ?_
      ·have h3:b 3=aK:=c 0 _ V V;have h9:b 9=aH:=AW hc (i:=4) (j:=9) (k:=0) V V V V F;have u9:upd b 4 9=aH:=h9;try dsimp only
       refine KA 5 V (Pq ((As (As (As (Ao Fw)))).trans (BD h3 _ _)) V) k1 (by decide) V (congrArg jG ((CW h9 _ _).trans (CW F _ _))) (by repeat(first|exact Afv|refine Gu V ?_|refine Gu (NU V V) ?_|refine Gu (NU V (NU V V)) ?_|refine Gu (NU V (NU V (NU V V))) ?_)) (by repeat(first|exact Afu|refine FA V ?_|refine FA (Aum F V) ?_|refine FA (Aum h9 V) ?_|refine FA (AAg V V) ?_)) ?_;simp only[CW u9];exact iR
      refine BQ (λb F c hc=>?_) ?_
      ·try dsimp only
       refine AX (AC V Fm V) ?_;exact iR
      refine BQ (λb F c hc=>?_) ?_
      ·have h5:b 5=aK:=c 0 _ V V;try dsimp only
       refine AX (Cl V ((As (As (As (Ao Fc)))).trans (BD h5 _ _))) ?_;exact iR
      refine BQ (λb F c hc=>?_) ?_
      ·have h6:b 6=aK:=c 0 _ V V;try dsimp only
       refine AX (Cr V ((As (As (As (Ao HW)))).trans (BD h6 _ _))) ?_;exact iR
      refine BQ (λb F c hc=>?_) ?_
      ·have h7:b 7=aK:=c 0 _ V V;try dsimp only
       refine AX (AC V ((As (As (As (Ao GP)))).trans (BD h7 _ _)) V) ?_;exact iR
      refine BQ (λb F c hc=>?_) ?_
      ·have h4:b 4=aK:=c 0 _ V V;have h8:b 8=aK:=c 1 _ V V;try dsimp only
       refine Kf V ((As (As (As (Ao Gz)))).trans (BD h4 _ _)) (congrArg jG ((CW F _ _).trans (Sz h4 _ _))) ((As (As (As (Ao (Ao IP))))).trans (BD h8 _ _)) V c2 ?_;exact iR
      refine BQ (λb F c hc=>?_) ?_
      ·have h9:b 9=aK:=c 0 _ V V;try dsimp only
       refine AX (Gg V ((As (As (As (Ao (Ao Gi))))).trans (BD h9 _ _)) (congrArg jG (Sz h9 _ _))) ?_;exact iR
      refine BQ (λb F c hc=>?_) ?_
      ·try dsimp only
       refine AX (AT.move V VX) ?_;exact iR
      exact Ag6
     refine AK ⟨A2 (.bp (Kg Bc) G 0::A2 (.bp (RO (.map (jG m))) () 0::A7 (.lit (.pointer (jG ⟨g,0,jF⟩))::(Zq g m G)::A80 (A9 (.bp Bc G 0::.bp Bc G 0::.bp Bc G 5::.bs tInt G.cheap::.own 5 0::.bp Bc G 0::.bp Bc G 0::.bp Bc G 0::.bs tInt G.regs::.own 5 (0+1)::.lit (.int .i64 ((G.cheap++G.regs).length:Int))::.lit (.int .i64 0)::A10 (A5 [])))))),[.dead,.res (EI (cH .i64) E m),.dead,.res (Bf g [.lit v]),.res (rowR v 3 tInt l),.row (0+1) 3 tInt (G.cheap++G.regs)]⟩ iR ?_;refine Ad ?_;refine AH (λk:Nat=>⟨(A2 (.bp (Kg Bc) G 0::A2 (.bp (RO (.map (jG m))) () 0::A7 (.lit (.pointer (jG ⟨g,0,jF⟩))::Zq g m G::A80 (A10 (A8 (.own 5 1::.lit (.int .i64 (L.length:Int))::.lit (.int .i64 (k:Int))::A10 (A5 [])))))))),[.dead,.res (EI (cH .i64) E m),.dead,.res (Bf g [.lit v]),.res (rowR v 3 tInt l),.row 1 3 tInt L]⟩) (λk=>k<=L.length/\∀j y,j < k->L[j]? =jG y->(getK E y).isSome=aH) (λk=>L.length - k) 0 ⟨jC _,λj y h=>by omega⟩ (by rw[hL];exact AS) ?_;rintro k2 ⟨cq,Y⟩;refine wR ?_;refine Ab λcy ce=>?_
     refine Ah V (λac=>?_) (λac=>?_)
     ·have aq:k2 < L.length:=by simpa using ac
      obtain⟨r,O⟩:∃r,L[k2]? =jG r:=⟨_,eE aq⟩
      have A:wfB .i64 r=aK:=bx r (fI O);refine Al ?_;refine ce _ ?_;refine nT ?_;refine Ab λcx cd=>?_
      refine Ad ?_;refine wR ?_;refine wR (hx:=by((repeat(first|refine sA ?_ (AC V V V)|refine sA ?_ (Ix 1 V Tryz.underlying51 D4 V V A V)|refine sA ?_|refine AO ?_|refine sAG ?_|refine Bq ?_));exact CV V)) ?_;refine wR ?_;refine Ah V (λab=>?_) (λab=>?_)
      ·have I:LK G E=jG r:=by unfold LK;rw[ar,<-hL];exact Ahi O ab Y
       obtain⟨bc,Z⟩:=hI.take I;refine wRK λcw bi=>?_
       refine sA (hq:=AT.move V (Ao HW)) (ht:=(Ar (Ar (Ar (Aq (Aq (Aq GZ))))))) (hk:=?_);refine sA (hq:=AT.move V (Ao (Ao Gz))) (ht:=(Ar (Ar (Ar (Aq (Aq (Aq GY))))))) (hk:=?_);refine J8 V (DL 4 1 (by decide) V V) ?_;refine J8 V (DL 3 4 (by decide) V V) ?_;refine AF V (ID (i:=3) V V (As (As (As (Ao (Ao (Ao HW)))))) (Te G g m v l E r A hI.asc am bg (B.near r) (B.nearl r)) (λ_=>rfl) V V λv'=>?_);refine DU ?_ (Ar (Ar (Ar (Ar G9))));refine Au (bi _ ?_);refine AK _ (Fi 3 4 (by decide) V V) ?_;refine AK _ (Fi 4 1 (by decide) V V) ?_;refine nT ?_;refine Ay ?_;repeat(first|refine BF ?_|refine exO (by decide) ?_|refine asE ?_)
       refine exN ?_;repeat(first|refine abN ?_|refine asN ?_)
       exact Ap ⟨(KE G E r,l++[r],v'),bc,Z,Kr (.cons (.cons (.cons (.cons (.cons (g9 _))))))⟩
      ·have X:(getK E r).isSome=aH:=ab;refine Al ?_;refine cd _ ?_;refine nT ?_;refine wRE ?_;refine Ap ⟨k2+1,⟨aq,λj y hj hy=>?_⟩,by omega,AS⟩;rcases i7 j k2 with hj'|hj'
       ·exact Y j y hj' hy
       ·obtain rfl:j=k2:=by omega
        rw[O]at hy;cases hy;exact X
     ·exfalso;obtain rfl:k2=L.length:=by have:¬k2 < L.length:=(by simpa using ac);omega
      obtain⟨x,hx⟩:=Aky bv;obtain⟨j,hj⟩:=fG.1 (show x∈L by rw[hL];exact fC _ (hI.inr x hx));have:=Y j x (eG.1 hj).1 hj;rw[hx]at this;cases this
   ·have hz:E.length=0:=by have:¬(0:Int) < (E.length:Int):=(by simpa using af);omega
    have bh:l=CY G out:=by have:=hI.eq;rw[hz]at this;exact this
    refine Ay ?_;refine cj _ ?_;refine nT ?_;refine wR (hx:=by((repeat(first|refine sA ?_ (AY (i:=3) (g:=g) V V V V V)|refine sA ?_|refine AO ?_|refine sAG ?_|refine Bq ?_));exact CV V)) (hk:=?_);rw[<-bh];exact Aw ⟨.inr V,Am5 4 V⟩
end Mu
namespace Mu
end Mu
namespace Mu
open Go Go.RowKit Go.Proofs
variable{k:Nat}{l:List iQ}{p:iQ->Bool}{x:iQ}
theorem Aom{h:List gL}{a b:Bool}(e:a=b)(c:mkD h= []:=by rfl):Fin h (.lit (.bool a)) (.lit (.bool b)):=by subst e;exact iB V c
def Aq4(p:iQ->Bool)(l:List iQ):Int:=match l.findIdx? p with|some i=>(i:Int)|none=> -1
theorem Aq3(h:∀x∈l.take k,p x=aH)(hx:l[k]? =jG x)(c:p x=aK):Aq4 p l=(k:Int):=by
 have:l.findIdx? p=jG k:=by
  rw[dV];obtain⟨hk,e⟩:=eG.1 hx;refine⟨hk,by rw[e];exact c,λj u=>?_⟩;have:=h (l[j]'(by omega)) (by
   rw[fN];exact⟨j,by omega,rfl⟩)
  rw[this];simp
 unfold Aq4;rw[this]
theorem Agy(h:∀x∈l,p x=aH):Aq4 p l= -1:=by
 have:l.findIdx? p=jF:=by
  rw[dU];exact h
 unfold Aq4;rw[this]
theorem Zp(h:∀x∈l.take k,p x=aH)(hx:l[k]? =jG x)(c:p x=aH):∀y∈l.take (k+1),p y=aH:=by
 rw[fZ,hx];intro y hy;rcases fA.1 hy with hy|hy
 ·exact h y hy
 ·rw[fM.1 hy];exact c
theorem Aln:aL (Aq4 p l≥0)=l.any p:=by
 unfold Aq4;cases h:l.findIdx? p with
 |none=>
  rw[dU]at h;have:l.any p=aH:=by rw[List.any_eq_false];intro x hx;rw[h x hx];simp
  rw[this];rfl
 |some i=>
  rw[dV]at h;obtain⟨hi,c,_⟩:=h;have:l.any p=aK:=dF.2 ⟨_,List.getElem_mem hi,c⟩;rw[this];exact decide_eq_true (by simp only;omega)
theorem Aq1(l:List iQ)(U:l.length<=2147483648)(f:aR)(c:List AV)(H:Bh c=aK)(p:iQ->Bool)(J:∀x∈l,Fn bK f (.agg (CS x)::c) (.lit (.bool (p x)))):Fn bK 76 [.bs Dp l,.fn f c] (.lit (.int .i64 (Aq4 p l))):=by
 have L:gR (.fn f c)=aK:=by unfold gR;exact H
 refine AQ Tryz.func76 V (by kernel_rfl) V Tryz.ntmps76 λC W=>?_
 simp only[Nat.reduceAdd,Nat.reduceSub,zaa];refine wR ?_;refine Ab λZ h2=>?_
 refine wR ?_;refine Ad ?_;refine AH (λk:Nat=>⟨(.bs Dp l::.fn f c::A5 (.lit (.int .i64 (l.length:Int))::.lit (.int .i64 (k:Int))::A10 [])),[]⟩) (λk=>k<=l.length/\∀x∈l.take k,p x=aH) (λk=>l.length - k) 0 ⟨jC _,by simp⟩ (AS) ?_;rintro k ⟨hk,z⟩;refine wR ?_;refine Ab λY O=>?_
 refine Ah V (λA=>?_) (λA=>?_)
 ·have B:k < l.length:=by simpa using A
  obtain⟨x,hx⟩:∃x,l[k]? =jG x:=⟨_,eE B⟩
  have I:=J x (fI hx);refine Al ?_;refine O _ ?_;refine nT ?_;refine Ab λX N=>?_
  refine Ad ?_;refine wR ?_;refine wR ?_;refine Ah V (λu=>?_) (λu=>?_)
  ·refine wR ?_;rw[Aq3 z hx u];exact Aw ⟨.inr V,iB V⟩
  ·refine Al ?_;refine N _ ?_;refine nT ?_;refine wRE ?_;refine Ap ⟨k+1,⟨by omega,Zp z hx u⟩,by omega,AS⟩
 ·refine Ay ?_;refine h2 _ ?_;refine nT ?_;refine wR ?_;have F:k=l.length:=by have:¬k < l.length:=(by simpa using A);omega
  rw[Agy (by rw[F,gE]at z;exact z)];exact Aw ⟨.inr V,iB V⟩
theorem Aru(l:List iQ)(B:l.length<=2147483648)(f:aR)(c:List AV)(u:Bh c=aK)(p:iQ->Bool)(A:∀x∈l,Fn bK f (.agg (CS x)::c) (.lit (.bool (p x)))):Fn bK 40 [.bs Dp l,.fn f c] (.lit (.bool (l.any p))):=by
 have z:gR (.fn f c)=aK:=by unfold gR;exact u
 have F:=Aq1 l B f c u p A;refine AQ Tryz.func40 V (by kernel_rfl) V Tryz.ntmps40 λC H=>?_
 simp only[Nat.reduceAdd,Nat.reduceSub,zaa];refine wR ?_;refine wR (hx:=by((repeat(first|refine sA ?_ (AT.call V F V (by show(true&&(AV.cl (.fn f c)&&true))=true;rw[z];rfl) V)|refine sA ?_|refine AO ?_|refine sAG ?_|refine Bq ?_));exact CV V)) (hk:=?_);exact Aw ⟨.inr V,Aom Aln⟩
noncomputable section
end
noncomputable section
end
end Mu
namespace Mu
open Go Go.RowKit Go.ChangeShapes Go.WideShapes Go.Proofs
section
variable{P:aZ}{C:Ctx}{t:List AV}{h:List gL}{o:aX}{K:St->Prop}
end
end Mu
namespace Mu
open Go Go.RowKit Go.Proofs
variable{i:Nat}{l:List AV}{r:Bool}
section
variable{P:aZ}{C:Ctx}{o:aX}{t:List AV}{h:List gL}
end
noncomputable section
end
def Nz(c:Int)(u:iF):M Bool:=iL ((aL (c < 0))||(aL (c≥u.regs)))
theorem QE{c:Int}{u:iF}(H:(Nz c u).to r):Fn bK 31 [.lit (.int .i64 c),.bp Dh u 0] (.lit (.bool r)):=by
 delta Nz at H;try dsimp only at H
 refine AQ Tryz.func31 V (by kernel_rfl) V Tryz.ntmps31 λC z=>?_
 simp only[Nat.reduceAdd,Nat.reduceSub,zaa];refine wS (sT (wN ?_));refine wS (sT (sT (sT ?_)));refine sGf V ?_;refine sGf V ?_;refine sGf V ?_;refine sGf V (sT (sT (wN ?_)));obtain rfl:=Ac.1 H;exact Aw ⟨.inr V,iB V⟩
def Kv(x:iQ)(c:Plan):M Bool:=iI (Ci c.at_ x.a) (iI (Ci c.at_ x.b) (iL ((ixD c.at_ x.a) ==(ixD c.at_ x.b))))
theorem NZ{x:iQ}{c:Plan}(H:(Kv x c).to r):Fn bK 42 [.agg (CS x),.bp Tf c 0] (.lit (.bool r)):=by
 delta Kv at H;try dsimp only at H
 refine AQ Tryz.func42 V (by kernel_rfl) V Tryz.ntmps42 λC A=>?_
 simp only[Nat.reduceAdd,Nat.reduceSub,zaa];refine wS (sB (sT (wN ?_)));obtain⟨z,H⟩:=Aj.1 H;obtain⟨u,H⟩:=Aj.1 H;refine dS 14 (hq:=?_);refine qT (qT (qT (qT (qX z (qT (qT (qT (qT (qT (qX u (qT ?_)))))))))));refine qT (qT (qN (wN ?_)));obtain rfl:=Ac.1 H;exact Aw ⟨.inr V,iB V⟩
theorem Aik(l:List Int)(B:l.length<=2147483648)(f:aR)(c:List AV)(u:Bh c=aK)(p:Int->Bool)(A:∀x∈l,Fn bK f (.lit (.int .i64 x)::c) (.lit (.bool (p x)))):Fn bK 29 [.bs tInt l,.fn f c] (.lit (.bool (l.any p))):=by
 have z:gR (.fn f c)=aK:=by unfold gR;exact u
 have F:=Agx l B f c u p A;refine AQ Tryz.func29 V (by kernel_rfl) V Tryz.ntmps29 λC H=>?_
 simp only[Nat.reduceAdd,Nat.reduceSub,zaa];refine wR ?_;refine wR (hx:=by((repeat(first|refine sA ?_ (AT.call V F V (by show(true&&(AV.cl (.fn f c)&&true))=true;rw[z];rfl) V)|refine sA ?_|refine AO ?_|refine sAG ?_|refine Bq ?_));exact CV V)) (hk:=?_);exact Aw ⟨.inr V,Aom Alm⟩
theorem Ala{h:List gL}{f:iF}(hi:h[i]? =jG (.box (Ak f)))(u:okFunc f):Nc h (.ptr i 0) (.bp Dh f 0):=
 .of (.box hi V λ_ _ _ _ _ _ c=>R3 u c)
theorem Yr{h:List gL}{p:Plan}(hi:h[i]? =jG (.box (BE p)))(u:okPlan p):Nc h (.ptr i 0) (.bp Tf p 0):=
 .of (.box hi V λ_ _ _ _ _ _ c=>Akh u c)
def Akx(f:iF):Bool:=(((aL (f.regs < 0)||decide (f.regs > 4096))||decide (f.args < 0))||decide (f.args > (if(6:Int) < f.regs then 6 else f.regs)))
def HU(f:iF):Bool:=!Akx f&&!((regsB f).any λr=>decide (r < 0)||decide (r≥f.regs))
theorem Af4(f:iF)(z:FineF f)(A:(regsB f).length<=2147483648):Fn bK 11 [.agg (Ak f)] (.lit (.bool (HU f))):=by
 have F:=LB f z.ok z.small z.all;have u:=Aik (regsB f) A 31 [.bp Dh f 0] V (λr=>decide (r < 0)||decide (r≥f.regs)) λr _=>QE (Ag _)
 refine AQ Tryz.func11 V (by kernel_rfl) V Tryz.ntmps11 λC B=>?_
 simp only[Nat.reduceAdd,Nat.reduceSub,zaa];refine wR ?_;refine Ab λH h2=>?_
 refine wR ?_;refine Ah V (λc=>?_) (λc=>?_)
 ·refine wR ?_;have e:HU f=aH:=by unfold HU;rw[show Akx f=aK from c];rfl
  rw[e];exact Aw ⟨.inr V,iB V⟩
 ·refine Al ?_;refine h2 _ ?_;refine nT ?_;refine wR (hx:=by((repeat(first|refine sA (hq:=CM V u (.cons (.cl V) (.cons (.fn (.cons (Ala V z.ok) .nil)) .nil))) (hk:=?_)|refine sA ?_|refine AO ?_|refine sAG ?_|refine Bq ?_));exact CV V)) (hk:=?_);have e:HU f= !((regsB f).any λr=>decide (r < 0)||decide (r≥f.regs)):=by unfold HU;rw[show Akx f=aH from c];rfl
  rw[e];exact Aw ⟨.inr V,iB V⟩
inductive Ones(h:List ABlk):List AV->Prop
 |nil:Ones h []
 |cons {x:AV} {l:List AV} (hx:One h x) (hl:Ones h l):Ones h (x::l)
theorem Ones.mem{h:List gL}(H:Ones h l):∀x∈l,One h x:=by
 induction H with
 |nil=>intro x hx;cases hx
 |cons hx _ c=>
  intro y hy;rcases fD.1 hy with rfl|hy
  ·exact hx
  ·exact c y hy
theorem RE{h:List gL}(H:Ones h l):Qb h (.agg l) l:=Qb.agg H.mem
theorem Ab8{P:aZ}{C:Ctx}{t:List AV}{h:List gL}{o:aX}{ty:cE}{c:Array (Nat×aY)}{zs:List cF}{z:List (Nat×Nat)}{rs:List AV}[ZC P ty zs](F:o.op= .build ty c)(u:Eu P ty=jG z)
 (A:putCells z (zs.map .lit) (c.toList.map λp=>(p.1,evA t p.2))=jG rs)(h1:Ones h (c.toList.map λp=>evA t p.2)):AT P C t h o (.agg rs):=
 AT.build F ZC.eq u A λp B=>h1.mem _ (fH.2 ⟨p,B,rfl⟩)
end Mu
namespace Mu
open Go Go.RowKit Go.Proofs Go.Maps
def F8(k:Int)(c:List (Int×Int))(u:Int):M Bool:=iI (wfB .i64 k) (iL (((getK c k).isSome)&&(u ==((getK c k).getD 0))))
theorem JA{k:Int}{u:List (Int×Int)}{c:Int}{r:Bool}(H:(F8 k u c).to r):Fn bK 95 [.lit (.int .i64 k),.bp tMapI u 0,.bp tInt c 0] (.lit (.bool r)):=by
 delta F8 at H;try dsimp only at H
 refine AQ Tryz.func95 V (by kernel_rfl) V Tryz.ntmps95 λC z=>?_
 simp only[Nat.reduceAdd,Nat.reduceSub,zaa];refine wS (sT (wN ?_));obtain⟨c,H⟩:=Aj.1 H;refine wS (sT (sT ?_));refine sA ?_ (Kx V bV (Ao IP) (Ao Gi) c) (Aq KK);refine sT (sT (sT (sT (sT (wN ?_)))));refine wS (sT (sT ?_));refine sGt V ?_;refine sGt V ?_;refine sGt V (sT (sT (wN ?_)));obtain rfl:=Ac.1 H;exact Aw ⟨.inr V,iB V⟩
def freeP(at_:List (Int×Int))(p k:Int):Bool:=((getK at_ k).isSome)&&(p ==((getK at_ k).getD 0))
def Gm(G:gY)(at_:List (Int×Int))(r p:Int):Bool:=!((getK G.near r).getD []).any (freeP at_ p)
theorem Sq(G:gY)(at_:List (Int×Int))(r p:Int)(u:Cm r)(z:Cm p)(A:∀k∈(getK G.near r).getD [],Cm k)(B:((getK G.near r).getD []).length<=2147483648):Fn bK 55 [.bp Bc G 0,.lit (.int .i64 r),.lit (.int .i64 p),.tv tMapI at_] (.lit (.bool (Gm G at_ r p))):=by
 have c:=Aik ((getK G.near r).getD []) B 95 [.bp tMapI at_ 0,.bp tInt p 0] V (freeP at_ p) λk hk=>JA (Ae (A k hk) (Ag _))
 refine AQ Tryz.func55 V (by kernel_rfl) V Tryz.ntmps55 λC F=>?_
 simp only[Nat.reduceAdd,Nat.reduceSub,zaa];refine wR (hx:=by((repeat(first|(refine AF V (AOp.boxI 0 V V (Qb.one (One.lit V)).weak ?_);refine sNt ?_)|(refine AF V (AOp.boxI 1 V V (Qb.one (One.tv JV)).weak ?_);refine sNt ?_)|refine sA ?_|refine AO ?_|refine sAG ?_|refine Bq ?_));exact CV V)) (hk:=?_);refine wR (hx:=by((repeat(first|refine sA ?_ (Cl V V)|refine sA ?_ (Co V Tryz.underlying77 V V u)|refine sA (hq:=CM V c (.cons (.cl V) (.cons (.fn (.cons (RF V V .tv) (.cons (RF V V (Nc.int z)) .nil))) .nil))) (hk:=?_)|refine sA ?_|refine AO ?_|refine sAG ?_|refine Bq ?_));exact CV V)) (hk:=?_);exact Aw ⟨.inr V,iB V⟩
def E4(f:iF)(c:List (Int×Int)):(Int×(List Int))->M ((Int×(List Int))⊕((List Int))):=λ(x2,l4)=>iJ (aL (x2 < ((fW (dB f.regs) (0:Int)).length:Int))) (iH (iI (Ci l4 x2) (iI (wfB .i64 x2) (iJ ((getK c x2).isSome) (iI (Ci (l4.set (dB x2) (-1)) x2) (iI (wfB .i64 ((getK c x2).getD 0)) (iL ((l4.set (dB x2) (-1)).set (dB x2) ((getK c x2).getD 0))))) (iL (l4.set (dB x2) (-1)))))) λu=>iL (.inl (aS.wrap (x2+1),u))) (iL (.inr l4))
def Is(f:iF)(c:List (Int×Int))(leaf:Bool)(slots:Int):M Plan:=iI (VW f.regs 8) (iH (iK (E4 f c) (0,fW (dB f.regs) (0:Int))) λu=>iL ⟨leaf,slots,u⟩)
theorem Mf{f:iF}{c:List (Int×Int)}{leaf:Bool}{slots:Int}{r:Plan}(H:(Is f c leaf slots).to r):Fn bK 27 [.agg (Ak f),.tv tMapI c,.lit (.bool leaf),.lit (.int .i64 slots)] (.agg (BE r)):=by
 delta Is at H;try dsimp only at H
 refine Kc Tryz.func27 V (by kernel_rfl) V (by kernel_rfl:Rw bK 29=jG (aK,3)) Tryz.ntmps27 λC hC=>?_
 simp only[Nat.reduceAdd,Nat.reduceSub,zaa];refine wS (sB (sA0 (wN ?_)));obtain⟨c1,H⟩:=Aj.1 H;refine wS (sT (sT (sT (sT ?_))));(refine AF V (Ql 2 V (T:=tInt) (e:=3) (v:=.int .i64 0) (bytes:=8) (0:Int) V (by kernel_rfl) V (λ_ _=>⟨rfl,by decide⟩) V V c1 ?_);refine DU ?_ (Aq (Aq IK)));refine sA ?_ (Ab8 (rs:=[.lit (.bool leaf),.lit (.int .i64 slots),.own 2 0]) V Anm V (.cons (iO V) (.cons (iO V) (.cons (iP V) .nil)))) (Aq (Aq KK));refine sA0 ?_;(refine AF V (CU V V V (RE (.cons (iO V) (.cons (iO V) (.cons (iP V) .nil)))) V (iW V) ?_);refine DU ?_ Qx);refine wN ?_;obtain⟨z5,af,ae⟩:=An.1 H;refine Bi (β:=((List Int))×(Nat)) (λI=>z5=I.1) (λI=>⟨A8 (.ptr 1 0::.ptr 3 0::A20 (A10 (A3 []))),[.dead,.box [.lit (.bool aH),.lit (.int .i64 0),.lit (.slice jF 0 0)],.row I.2 3 tInt I.1,.box [.lit (.bool leaf),.lit (.int .i64 slots),.own 2 I.2]]⟩) ?_ ?_
 ·refine wS (sT (sT (sT (sT (wN ?_)))));refine Ad ?_;refine BB af (λs5 b5=>⟨.any::.tv tMapI c::A6 (.ptr 1 0::.ptr 3 0::A10 (.any::.lit (.int .i64 ((fW (dB f.regs) (0:Int)).length:Int))::.lit (.int .i64 s5.1)::A20 [])),[.dead,.box [.lit (.bool aH),.lit (.int .i64 0),.lit (.slice jF 0 0)],.row b5 3 tInt s5.2,.box [.lit (.bool leaf),.lit (.int .i64 slots),.own 2 b5]]⟩) 0 (?_) ?_
  ·try dsimp only
   exact leC (g8 (gZ (gZ (gZ (g9 _)))))
  ·rintro⟨X,l4⟩ Y x5 H ad;try dsimp only
   dsimp only[E4]at H;refine wS (sT (wN ?_));refine Ab λag aa=>?_
   refine Ah V (λB=>?_) (λB=>?_)
   ·have H:=AI B H;refine Al ?_;refine aa _ ?_;refine nT ?_;obtain⟨W,U,O⟩:=An.1 H;refine Bi (β:=((List Int))×(Nat)) (λu=>W=u.1) (λu=>⟨.any::.tv tMapI c::A6 (.ptr 1 0::.ptr 3 0::A10 (.any::.lit (.int .i64 ((fW (dB f.regs) (0:Int)).length:Int))::.lit (.int .i64 X)::A6 (.tup [.lit (.int .i64 ((getK c X).getD 0)),.lit (.bool ((getK c X).isSome))]::A10 (A3 [])))),[.dead,.box [.lit (.bool aH),.lit (.int .i64 0),.lit (.slice jF 0 0)],.row u.2 3 tInt u.1,.box [.lit (.bool leaf),.lit (.int .i64 slots),.own 2 u.2]]⟩) ?_ ?_
    ·have H:=U;refine Ad ?_;refine wS (sT (sT (wN ?_)));obtain⟨N,H⟩:=Aj.1 H;refine wS (sT (sT (sT ?_)));refine sA ?_ (BS V (Ao (Ao (Ao Fm))) V (Ao (Ao (Ao Fw))) V N) (Aq (Aq (Aq I5)));(refine AF V (CT V V V (BP N) (iE (XI (by decide))) V ?_);refine DU ?_ Qx);refine wN ?_;obtain⟨ac,H⟩:=Aj.1 H;refine wS (sT (sT ?_));refine sA ?_ (Kx V bV (Ao (Ao (Ao HW))) (Ao (Ao (Ao GP))) ac) (Ar G9);refine sT (sT (sT (sT (sT (wN ?_)))));refine wS (sT (wN ?_));refine Ah V (λz=>?_) (λz=>?_)
     ·have H:=AI z H;obtain⟨L,H⟩:=Aj.1 H;obtain⟨ab,H⟩:=Aj.1 H;refine wSE (sT (sT (sT (sT ?_))));refine sA ?_ (BS V (As Fc) V (As HW) V L) (Ar (Aq G9));(refine AF V (CT V V V (BP L) (iE ab) V ?_);refine DU ?_ Qx);refine wN ?_;have F:=Ac.1 H;repeat(first|refine abN ?_|refine asN ?_)
      refine Ap ⟨(_,Y),F.symm,?_⟩;try dsimp only
      exact AS
     ·have H:=AJ z H;refine Al ?_;have F:=Ac.1 H;repeat(first|refine abN ?_|refine asN ?_)
      refine Ap ⟨(_,Y),F.symm,?_⟩;try dsimp only
      exact AS
    ·rintro⟨ah,Z⟩ A;try dsimp only at A
     have H:=O;rw[A]at H;try dsimp only
     refine wSE (sT (sT (wN ?_)));have e5:=Ac.1 H;repeat(first|refine abN ?_|refine asN ?_)
     refine Ap ⟨_,Z,e5.symm,?_⟩;try dsimp only
     exact AS
   ·have H:=AJ B H;refine Ay ?_;repeat(first|refine BF ?_|refine exO (by decide) ?_|refine asE ?_)
    refine exN ?_;have e5:=ad _ (Ac.1 H).symm;repeat(first|refine abN ?_|refine asN ?_)
    refine Ap ⟨(_,Y),e5.symm,?_⟩;try dsimp only
    exact AS
 ·rintro⟨l7,v6⟩ J;try dsimp only at J
  have H:=ae;rw[J]at H;try dsimp only
  refine wS (sT ?_);(refine AF V (CU V V V (RE (.cons (iO V) (.cons (iO V) (.cons (iP V) .nil)))) V (iW V) ?_);refine DU ?_ Qx);refine wN ?_;obtain rfl:=Ac.1 H;refine AK _ (Vx hC 2 V (by(simp only[fzH,DP,gT,gN,eX,eZ,Nat.reduceEqDiff,zam,zaf];first|done|exact V)) (by(simp only[fzH,DP,gT,gN,eX,eZ,Nat.reduceEqDiff,zam,zaf];first|done|exact V))) ?_;exact Aw ⟨⟨.inr V,1,_,rfl,rfl,iB V⟩,λi cells e1 e2=>by cases e1;cases e2;rfl⟩
end Mu
namespace Mu
open Go Go.RowKit
variable{N:Nat}{gf:aR}{lb:List AV}{Φ:Res->Prop}
def Ar1(P:aZ)(gf:aR)(lb:List AV)(Φ:Res->Prop)(encs:Nat->List AV)(N stop:Nat):Prop:=
 Cd P gf=aK/\∀(w:cI) (S:Nat->Prop) (ι:Type) (l:Nat) (c:Nat->ι->Res) (u:ι->Res),(∀k p,(c k p).mrk= [])->(∀p,(u p).mrk= [])->(∀k p,k < N->k < stop->P4 P l S w.heap.size (c k p) (encs k) aK (c (k+1)))->(stop < N->∀p,P4 P l S w.heap.size (c stop p) (encs stop) aH u)->
  ∀p vs,(∀k,S k->k < w.heap.size/\¬(c 0 p).F k)->(∀g,(c 0 p).F g->g < w.heap.size)->(c 0 p).R w S->Φ (c 0 p)->Af w S [] ψ0 lb vs->
   aN aO 3 P gf (#[cG (.yield l) #[] #[]]++vs.toArray) w λe w'=>(∃v,e= .returned v)/\Gr (λg=>(c 0 p).F g) w w'/\∃q S',(∀k,S k->S' k)/\(if stop < N then u q else c N q).R w' S'/\(∀k,S' k->k < w'.heap.size/\¬(if stop < N then u q else c N q).F k)/\(∀k,S' k->S k\/w.heap.size<=k)/\∀g,(if stop < N then u q else c N q).F g->((c 0 p).F g\/w.heap.size<=g)/\g < w'.heap.size
theorem VH{P:aZ}{fn:aP}{c:Code}{encs:Nat->List AV}{stop n:Nat}(I:P.funcs[gf]? =jG fn)(hb:fn.body=jG c)(hE:Cd P gf=aK)(A:fn.results= #[])(X:fn.ntmps=n)(ac:Bh lb=aK)
 (h:∀(C:Ctx),C.rd=jF->∀(ι:Type) (l:Nat) (u:Nat->ι->Res) (z:ι->Res),(∀k p,(u k p).mrk= [])->(∀p,(z p).mrk= [])->(∀k p,k < N->k < stop->P4 P l C.S0 C.w0.heap.size (u k p) (encs k) aK (u (k+1)))->(stop < N->∀p,P4 P l C.S0 C.w0.heap.size (u stop p) (encs stop) aH z)->∀p,Φ (u 0 p)->(∀k,k < C.w0.heap.size->C.N k\/(u 0 p).F k)->
  Awp P C c (Ar0 (λq=>if stop < N then z q else u N q)) ⟨(.lit (.func (.yield l) #[] #[])::lb)++fW (n - (lb.length+1)) (.lit undef),[.res (u 0 p)]⟩):Ar1 P gf lb Φ encs N stop:=by
 refine⟨hE,λw S ι l u z hm Y hY ad p vs hS hF hR L F=>cP I hb trivial ?_⟩;rw[X];let N0:Nat->Prop:=λk=>k < w.heap.size/\¬(u 0 p).F k
 have hH:iG ⟨w,S,N0,jF⟩ [.res (u 0 p)] S ψ0 w:=by
  refine⟨Kp.refl _ _,λk hk=>hk.1,λk hk=>(hS k hk).1,λ_ h=>h,λ_ h=>.inl h,λi b hi=>?_,λi j ab hi hj g h1 h2=>?_⟩
  ·rcases i with _|i
   ·have:b= .res (u 0 p):=by simpa using hi.symm
    subst this;exact⟨λg hg=>⟨λX=>X.2 hg,λhs=>(hS g hs).2 hg,hF g hg⟩,hR⟩
   ·simp at hi
  ·rcases i with _|i
   ·rcases j with _|j
    ·exact ab V
    ·simp[gO]at hj
   ·simp[gO]at hi
 have O:vs.length=lb.length:=By F;have U:St.rel ⟨w,S,N0,jF⟩ ⟨(.lit (.func (.yield l) #[] #[])::lb)++fW (n - (lb.length+1)) (.lit undef),[.res (u 0 p)]⟩ {tmps:=(#[cG (.yield l) #[] #[]]++vs.toArray)++aD (n - (#[cG (.yield l) #[] #[]]++vs.toArray).size) undef,defers:=[]} w:=by
  refine⟨?_,S,ψ0,hH,?_⟩
  ·show []=mkD _;simp[mkD,gP,hm 0 p]
  ·have e:((#[cG (.yield l) #[] #[]]++vs.toArray)++aD (n - (#[cG (.yield l) #[] #[]]++vs.toArray).size) undef).toList=(cG (.yield l) #[] #[]::vs)++fW (n - (lb.length+1)) undef:=by
    simp[Nat.add_comm 1 vs.length,O]
   rw[e,show fW (n - (lb.length+1)) (AV.lit undef)=(fW (n - (lb.length+1)) undef).map AV.lit by simp];refine BL ?_ (FU _);unfold Af;exact⟨_,_,rfl,by unfold gU;rfl,Bj _ _ ac F⟩
 have hw:=h ⟨w,S,N0,jF⟩ V ι l u z hm Y hY ad p L (λk hk=>(Classical.em ((u 0 p).F k)).elim .inr λI=>.inl ⟨hk,I⟩) _ w U;refine wpIn_mono (Alw (m:=3) hw) ?_;rintro e a' w' ⟨s,⟨he,q,h0,Z⟩,hd,S1,ψ,H,hl⟩;rw[Z]at hd;have hq:=H.blk 0 _ h0;obtain⟨JF,J⟩:∃JF:ι->Res,JF=λq=>if stop < N then z q else u N q:=⟨_,rfl⟩
 rw[<-J]at hq;have B:(∃v,Ending.returned (.tuple #[])= .returned v)/\Gr (λg=>(u 0 p).F g) w w'/\∃q S',(∀k,S k->S' k)/\(if stop < N then z q else u N q).R w' S'/\(∀k,S' k->k < w'.heap.size/\¬(if stop < N then z q else u N q).F k)/\(∀k,S' k->S k\/w.heap.size<=k)/\∀g,(if stop < N then z q else u N q).F g->((u 0 p).F g\/w.heap.size<=g)/\g < w'.heap.size:=by
  refine⟨⟨_,rfl⟩,⟨H.bel.os,H.bel.tape,H.bel.output,H.bel.size,λk hk W=>H.bel.block k ⟨hk,W⟩⟩,q,S1,H.sub,?_⟩;rw[show(if stop < N then z q else u N q)=JF q by rw[J]];refine⟨hq.2,λk hk=>⟨H.lt k hk,λI=>(hq.1 k I).2.1 hk⟩,H.new,λg hg=>⟨?_,(hq.1 g hg).2.2⟩⟩;have h1:=(hq.1 g hg).1;by_cases aa:g < w.heap.size
  ·by_cases h2:(u 0 p).F g
   ·exact .inl h2
   ·exact absurd ⟨aa,h2⟩ h1
  ·exact .inr (by show w.heap.size<=g;omega)
 rcases he with rfl|rfl
 ·exact⟨hd,_,results_none A _ _ _,B⟩
 ·exact⟨hd,_,results_none A _ _ _,B⟩
theorem Aib{S u:Nat->Prop}{w:cI}{c:Loop}{hk:List gL}{R:Res}{Φ:cI->Prop}(j:Nat)(z:hk[j]? =jG (.res R))(A:∀W T,R.R W T->Φ W)(p:Ajj):∀W T,(Amn 0 S u w c hk p).R W T->Φ W:=λW T B=>by
 obtain⟨_,_,_,_,H,_⟩:=(show BetY 0 S u w c hk p.1 p.2.1 p.2.2 W T from B)
 exact A W _ (H.blk j _ z).2
section
variable{P:aZ}
theorem Acg{C:Ctx}{g:aY}{ps:Array Tmp}{assign body:Code}{Q:Exit->St->Prop}{t:List AV}{h:List gL}{stop:Nat}{encs:Nat->List AV}(xid:Nat)(σ:Nat->List gL)(τ:List gL)
 (hin:NO C)(hg:evA t g= .fn gf lb)(hcl:Bh lb=aK)(hmh:mkD h= [])
 (h0:Drops h (σ 0))(hmσ:∀k,mkD (σ k)= [])(hmτ:mkD τ= [])(ht:Bh t=aK)(hes:∀k,Bh (encs k)=aK)(hps:∀k,(encs k).length=ps.size)
 (hit:Ar1 P gf lb Φ encs N stop)(hΦ:∀S own0 w rec_ p,Φ (Amn 0 S own0 w rec_ (σ 0) p))
 (hround:∀k,k < N->k < stop->∀C':Ctx,NO C'->Awp P C' assign (Km (Hb P body jF (λ_:Unit=>σ (k+1))) (λ_ _=>False)) ⟨Np t ps.toList (encs k),σ k⟩)
 (hstop:stop < N->∀C':Ctx,NO C'->Awp P C' assign (Km (Hb P body (jG xid) (λ_:Unit=>τ)) (λ_ _=>False)) ⟨Np t ps.toList (encs stop),σ stop⟩)
 (hdone:¬stop < N->Q .normal ⟨t,σ N⟩)(hleft:stop < N->Q (.exit xid) ⟨t,τ⟩):Awp P C (.rangeFunc g ps assign body) Q ⟨t,h⟩:=λa w ⟨hd,S,ψ,H,hl⟩=>by
 obtain⟨l0,r0,hrd,hNl0,hl00⟩:=hin;have hl0:w.heap[l0]? =jG (.loop r0):=(H.bel.block l0 hNl0).trans hl00;rw[hrd];have H0:=H.cut h0.cut h0.bd;have hgv:=Bw hl g;rw[hg]at hgv;unfold gU at hgv;obtain⟨vc,hgv,hvc⟩:=hgv;have hvc:Af w S [] ψ0 lb vc:=Bj _ _ hcl hvc;have hlit:Af w S [] ψ0 t a.tmps.toList:=Bj _ _ ht hl;have hdn:a.defers= []:=hd.trans hmh;obtain⟨own0,hown0⟩:∃o,o=owns (σ 0) ψ:=⟨_,rfl⟩
 have ho0:∀g,own0 g->g < w.heap.size:=λg hg=>by rw[hown0]at hg;exact(H0.own_lt hg).2.1
 have hSo:∀g,S g->¬own0 g:=λg hg ho=>by rw[hown0]at ho;exact(H0.own_lt ho).2.2 hg
 refine wpIn_rangeFunc λfn _=>?_
 obtain⟨rec_,hrec⟩:∃rec_:LoopState->Option Code->Loop,rec_=λst pe=>{state:=st,pending:=pe,fn,tmps:=a.tmps,params:=ps,assign,body,defers:=r0.defers}:=⟨_,rfl⟩
 have hst:∀x z y,({rec_ x z with state:=y}:Loop)=rec_ y z:=λx z y=>by rw[hrec]
 have hrst:∀z,(rec_ .ready z).state= .ready:=λz=>by rw[hrec]
 have hen:∀x z y u,({rec_ x z with state:=y,pending:=u}:Loop)=rec_ y u:=λx z y u=>by rw[hrec]
 obtain⟨W1,hW1⟩:∃W1,W1=w.alloc (.loop (rec_ .ready jF)):=⟨_,rfl⟩
 have hW1s:W1.heap.size=w.heap.size+1:=by rw[hW1];simp
 have hL1:W1.heap[w.heap.size]? =jG (.loop (rec_ .ready jF)):=by rw[hW1];exact cV w _
 have hb1:Below w.heap.size w W1:=by rw[hW1];exact(cA _ w).alloc (iY _) _
 have hJ0:BetY 0 S own0 w (rec_ .ready jF) (σ 0) S ψ (λ_=>False) W1 S:=by
  refine⟨hL1,λ_ h=>absurd h (Nat.not_lt_zero _),by omega,λg hg=>hb1.block g (H.lt g hg),?_,λ_ h=>h,λ_ h=>.inl h,λg hg=>.inl (by rw[hown0];exact hg),λ_ h=>.inr h⟩;exact H0.re (λk hk=>hb1.block k (H.lt k hk)) (λk hk=>hb1.block k (H0.own_lt hk).2.1) _ (λ_ h=>h.elim) jF
 have rnd:∀(k:Nat) (jump:Option Nat) (h':List gL),(∀C':Ctx,NO C'->Awp P C' assign (Km (Hb P body jump (λ_:Unit=>h')) (λ_ _=>False)) ⟨Np t ps.toList (encs k),σ k⟩)->∀p:Unit×Ajj,
  P4 P w.heap.size S W1.heap.size (Amn 0 S own0 w (rec_ .ready jF) (σ k) p.2) (encs k) jump.isNone (λp:Unit×Ajj=>Amn 0 S own0 w (rec_ (if jump.isNone then .ready else .done) (jump.map Code.exit)) h' p.2):=by
  intro k jump h' hA p W SI vs hI1 hI2 hI3 hFlt hB hev;have hB:BetY 0 S own0 w (rec_ .ready jF) (σ k) p.2.1 p.2.2.1 p.2.2.2 W SI:=hB;have hvl:vs.length=ps.size:=by rw[By hev,hps]
  have hy:=run_yield (P:=P) (args:=vs.toArray) hB.loop (by rw[hrec];simpa using hvl);have hR:=XZ (J:=Unit) (d:=0) (P:=P) (fn:=fn) (ps:=ps) (tmps:=a.tmps) (body:=body) (p:=p.2) jump hst hrst hen ho0 H.lt ht (hes k) hlit hev (hmσ k) hI1 (λg hg=>by have:=hI2 g hg;rw[hW1s]at this;exact this) hI3 hB hA;have e1:((rec_ .ready jF).params.zip vs.toArray).foldl (λtmps (t,a)=>tmps.setIfInBounds t a) (rec_ .ready jF).tmps=(ps.toList.zip vs).foldl (λt p=>t.setIfInBounds p.1 p.2) a.tmps:=by
   rw[hrec,<-Array.foldl_toList,Array.toList_zip]
  rw[e1]at hy;rw[show(rec_ .ready jF).fn=fn by rw[hrec],show(rec_ .ready jF).assign=assign by rw[hrec],show(rec_ .ready jF).body=body by rw[hrec]]at hy;exact⟨fn,_,assign,body,hy,hR⟩
 refine⟨w.heap.size,[],W1,{target:=.fn (.func gf) vc.toArray,args:=#[.func (.yield w.heap.size) #[] #[]]},W1,gf,#[.func (.yield w.heap.size) #[] #[]]++vc.toArray,W1,?_,?_,λ_ _=>trivial,?_,λ_=>by omega,?_⟩
 ·rw[hW1,hrec];exact run_enterLoop_inner hl0 _ _ _ _ _
 ·simp only[resolve,hgv];simp[go_sem]
 ·simp[invoke,go_sem,PH hit.1]
 ·have key:=hit.2 W1 S (Unit×Ajj) w.heap.size (λk p=>Amn 0 S own0 w (rec_ .ready jF) (σ k) p.2) (λp=>Amn 0 S own0 w (rec_ .done (jG (.exit xid))) τ p.2) (λ_ _=>rfl) (λ_=>rfl) ?_ ?_ ((),S,ψ,λ_=>False) vc (λk hk=>⟨by have:=H.lt k hk;omega,?_⟩) (λg hg=>?_) hJ0 (hΦ _ _ _ _ _) (AA (hZ [] ψ0 (λk hk=>hb1.block k (H.lt k hk)) λ_ h=>h) _ _ hvc)
  ·refine(show aN (fnc (jG l0)) 3 P gf _ W1 _ from key).mono ?_;rintro e W' ⟨⟨v,rfl⟩,hgr,⟨_,q⟩,S',hSS,hJ,hS'lt,hS'new,hFq⟩;have fin:∀(hk:List gL) (rc:Loop),mkD hk= []->rc.state≠.busy->BetY 0 S own0 w rc hk q.1 q.2.1 q.2.2 W' S'->∀(W5:cI) (ob:Obj),W5=W'.putObj w.heap.size ob->St.rel C ⟨t,hk⟩ {a with defers:=[]++a.defers} W5:=by
    intro hk rc hmk _ hJ W5 ob hW5;obtain⟨hlp,_,hsz,hsame,Hk,hs1,hs2,hs3,_⟩:=hJ;have hot:∀g,g≠w.heap.size->W5.heap[g]? =W'.heap[g]?:=λg hg=>by rw[hW5];exact World.putObj_heap_other hg
    have hsz5:W5.heap.size=W'.heap.size:=by rw[hW5];simp
    have hSne:∀g,q.1 g->g≠w.heap.size:=λg hg=>by
     rcases hs2 g hg with h1|h1
     ·have:=H.lt g h1;omega
     ·omega
    have hOne:∀g,owns hk q.2.1 g->g≠w.heap.size:=λg hg=>by
     rcases hs3 g hg with h1|h1
     ·have:=ho0 g h1;omega
     ·omega
    have hkeep:∀g,g < w.heap.size->¬own0 g->W5.heap[g]? =w.heap[g]?:=λg h1 h2=>by
     rw[hot g (by omega),hgr.block g (by omega) ?_,hb1.block g h1];intro h4;have h4:(w.heap.size<=g/\g<=w.heap.size+0)\/owns (σ 0) ψ g\/False:=h4;rcases h4 with h4|h4|h4
     ·omega
     ·exact h2 (by rw[hown0];exact h4)
     ·exact h4
    have hH5:=Hk.re (W':=W5) (λk hk=>hot k (hSne k hk)) (λk hk=>hot k (hOne k hk)) (λ_=>False) (λ_ h=>h.elim) jF;have hkp5:Kp C.N w W5:=⟨by rw[hW5];exact hgr.os.trans hb1.os,by rw[hW5];exact hgr.tape.trans hb1.tape,by rw[hW5];exact hgr.output.trans hb1.output,by omega,λk hk=>hkeep k (i6 (H.nlt k hk) H.bel.size) λho=>by rw[hown0]at ho;exact(H0.own_lt ho).1 hk⟩
    have hH6:iG C hk q.1 q.2.1 W5:=hH5.to (H.bel.trans hkp5) H.nlt (λk hk=>hs1 k (H.sub k hk)) (λk hk=>by
     rcases hs2 k hk with h1|h1
     ·exact H.new k h1
     ·right;have:=H.bel.size;omega) λg hg hn=>by
      rcases hs3 g hg with h1|h1
      ·rw[hown0]at h1;exact(H0.own_lt h1).1 hn
      ·have:=H.nlt g hn;have:=H.bel.size;omega
    refine⟨?_,q.1,q.2.1,hH6,?_⟩
    ·show []++a.defers=mkD hk;rw[hdn,hmk];rfl
    ·exact Bj _ _ ht (AA (hZ [] ψ0 (λk hk=>(hot k (by have:=H.lt k hk;omega)).trans (hsame k hk)) hs1) _ _ hlit)
   by_cases hsN:stop < N
   ·rw[if_pos hsN]at hJ;have hJ:BetY 0 S own0 w (rec_ .done (jG (.exit xid))) τ q.1 q.2.1 q.2.2 W' S':=hJ;have hend:=run_endLoop (P:=P) hJ.loop (by rw[hrec];simp);rw[show(rec_ .done (jG (Code.exit xid))).pending=jG (.exit xid)by rw[hrec]]at hend;refine⟨jG (.exit xid),_,hend,?_⟩;exact wpIn_exit ⟨⟨t,τ⟩,hleft hsN,fin τ _ hmτ (by rw[hrec];simp) hJ _ _ V⟩
   ·rw[if_neg hsN]at hJ;have hJ:BetY 0 S own0 w (rec_ .ready jF) (σ N) q.1 q.2.1 q.2.2 W' S':=hJ;have hend:=run_endLoop (P:=P) hJ.loop (by rw[hrec];simp);rw[show(rec_ .ready jF).pending=jF by rw[hrec]]at hend;exact⟨jF,_,hend,⟨t,σ N⟩,hdone hsN,fin (σ N) _ (hmσ N) (by rw[hrec];simp) hJ _ _ V⟩
  ·exact λk p hkN hks=>rnd k jF _ (hround k hkN hks) p
  ·exact λhsN p=>rnd stop (jG xid) _ (hstop hsN) p
  ·intro hf;have hf:(w.heap.size<=k/\k<=w.heap.size+0)\/owns (σ 0) ψ k\/False:=hf;have:=H.lt k hk;rcases hf with hf|hf|hf
   ·omega
   ·exact hSo k hk (by rw[hown0];exact hf)
   ·exact hf
  ·have hg:(w.heap.size<=g/\g<=w.heap.size+0)\/owns (σ 0) ψ g\/False:=hg;rcases hg with hg|hg|hg
   ·omega
   ·have:=(H0.own_lt hg).2.1;omega
   ·exact hg.elim
end
open Go.Proofs
variable{k:Nat}{ll:List (List Int)}{x:List Int}
theorem Vv{C:Ctx}{R:Res}(U:∀k,k < C.w0.heap.size->C.N k\/R.F k){t:List AV}{h:List gL}(i j r:Nat){ver:Nat}{e:cE}{α:Type}{T:Ty α}{l:List α}(z:i≠r)(c:h[r]? =jG (.res R))(hi:h[i]? =jG (.row ver e T l))(J:t[j]? =jG (.own i ver)):St.le C ⟨t,h⟩ ⟨t.set j (.bs T l),h.set i .dead⟩:=
 Hz i j hi V V J (λS ψ w H k hk=>iX λA=>(U k A).elim ((H.blk i _ hi).lt V k hk).1 λL=>H.dis i r z (by rw[hi];rfl) (by rw[c];rfl) k (by rw[hi];exact hk) (by rw[c];exact L)) λS ψ w v H B=>by
  obtain⟨cells,I,X,F,W⟩:=H.blk i _ hi;unfold gU at B;have u:=(B.2 _ (by rw[hi];rfl)).2 V;unfold gU;rw[u];exact C9 I (λi d O=>T.keepS (F i d O) (λ_ _=>rfl) λk hk=>.inl hk) λq hq=>.inr (AU hq)
theorem Ays{n m:Nat}(c:n+m < 9223372036854775808):Hn .add .i64 (n:Int) (m:Int)=jG (.int .i64 ((n+m:Nat):Int)):=by
 unfold Hn;simp only;rw[aT _ (by omega)];rfl
theorem Ag5(n:Nat)(J:n<=5000000000):JK bK 116 [.lit (.slice jF 0 0),.lit (.int .i64 (n:Int))] 3 tInt []:=by
 have I:Hn .sub .i64 ((0:Nat):Int) ((0:Nat):Int)=jG (.int .i64 ((0:Nat):Int)):=rfl;have H:Hn .sub .i64 (n:Int) ((0:Nat):Int)=jG (.int .i64 (n:Int)):=by
  unfold Hn;simp only;rw[aT _ (by omega)];simp
 have B:n<=cY:=by unfold cY;omega
 have A:n * 8<=140737488355328:=by omega
 refine El Tryz.func116 V (by kernel_rfl) V Tryz.ntmps116 Yw λC L=>?_
 simp only[Nat.reduceAdd,Nat.reduceSub,zaa];refine wR ?_;refine Ab λU h2=>?_
 refine wR ?_;refine Ah V (λz=>?_) (λz=>?_)
 ·have:=of_decide_eq_true z;omega
 ·refine Al ?_;refine h2 _ ?_;refine nT ?_;refine Ab λO F=>?_
  refine wR (hx:=by((repeat(first|refine sA ?_ (VD V V)|refine sA ?_|refine AO ?_|refine sAG ?_|refine Bq ?_));exact CV V)) ?_;refine wR ?_;refine Ah V (λu=>?_) (λu=>?_)
  ·have c:0 < n:=by have:=of_decide_eq_true u;omega
   refine wRE (hx:=by((repeat(first|refine sA ?_ (VD V V)|refine sA ?_ (Vy V V V)|(refine AF V (Anb (kk:=.i64) (by kernel_rfl) V V V c B A ?_);refine sNt ?_)|(refine AF V (Ng (m:=0) V V V V ⟨_,rfl⟩ (Nat.zero_le _) ?_);refine sNt ?_)|refine sA ?_|refine AO ?_|refine sAG ?_|refine Bq ?_));exact CV V)) (hk:=?_);refine F _ ?_;refine nT ?_;refine wR ?_;exact Aw ⟨.inr V,rfl,0,1,rfl,rfl⟩
  ·refine Al ?_;refine F _ ?_;refine nT ?_;refine wR ?_;refine AK _ (CC 4 3 tInt V (by decide)) ?_;exact Aw ⟨.inr V,rfl,0,0,rfl,rfl⟩
def Kj(ll:List (List Int)):Nat:=(ll.map eN).sum
theorem Rg(h:ll[k]? =jG x):Kj (ll.take (k+1))=Kj (ll.take k)+x.length:=by
 unfold Kj;rw[fZ,h];simp
theorem Rf(ll:List (List Int))(k:Nat):Kj (ll.take k)<=Kj ll:=by
 unfold Kj
 conv=>rhs;rw[<-gB k ll]
 rw[eW,List.sum_append];omega
theorem Aaw(h:ll[k]? =jG x):(ll.take (k+1)).flatten=(ll.take k).flatten++x:=by
 rw[fZ,h];simp
theorem Ahe(ll:List (List Int)):ll.flatten.length=Kj ll:=by
 unfold Kj;rw[List.length_flatten]
theorem W8(ll:List (List Int))(hl:ll.length<=2147483648)(ht:Kj ll<=5000000000):JK bK 94 [.bs tInt.slice ll] 3 tInt ll.flatten:=by
 have O:=Ag5 (Kj ll) (by omega);refine El Tryz.func94 V (by kernel_rfl) V Tryz.ntmps94 Yw λC hC=>?_
 simp only[Nat.reduceAdd,Nat.reduceSub,zaa];refine wR ?_;refine wR ?_;refine Ab λK3 h3=>?_
 refine wR ?_;refine Ad ?_;refine AH (λk:Nat=>⟨(.bs tInt.slice ll::A2 (.lit (.int .i64 (Kj (ll.take k):Int))::A5 (.bs tInt.slice ll::.lit (.int .i64 (ll.length:Int))::.lit (.int .i64 (k:Int))::A20 (A4 [])))),[]⟩) (λk=>k<=ll.length) (λk=>ll.length - k) 0 (jC _) (by rw[show Kj (ll.take 0)=0 by rw[gJ];rfl];exact AS) ?_;intro k hk;refine wR ?_;refine Ab λK7 h7=>?_
 refine Ah V (λA=>?_) (λA=>?_)
 ·have z:k < ll.length:=by simpa using A
  obtain⟨x,hx⟩:∃x,ll[k]? =jG x:=⟨_,eE z⟩
  have B:=Rg hx;have I:=Rf ll (k+1);have Z:Hn .add .i64 (Kj (ll.take k):Int) (x.length:Int)=jG (.int .i64 (Kj (ll.take (k+1)):Int)):=by
   rw[B];exact Ays (by omega)
  refine Al ?_;refine h7 _ ?_;refine nT ?_;refine Ab λK9 h9=>?_
  refine Ad ?_;refine wR ?_;refine wR ?_;refine wR ?_;refine Ah V (λu=>?_) (λu=>?_)
  ·have:=of_decide_eq_true u;omega
  ·refine Al ?_;refine h9 _ ?_;refine nT ?_;refine wRE ?_;refine Ap ⟨k+1,by omega,by omega,AS⟩
 ·refine Ay ?_;refine h3 _ ?_;refine nT ?_;have J:k=ll.length:=by have:¬k < ll.length:=(by simpa using A);omega
  have H:Kj (ll.take k)=Kj ll:=by rw[J,gE]
  rw[H];refine wR (hx:=by((repeat(first|(refine AF V (Lj V O (by decide) V V ?_);refine sNt ?_)|refine sA ?_|refine AO ?_|refine sAG ?_|refine Bq ?_));exact CV V)) (hk:=?_);refine Ab λae Y=>?_
  refine wR ?_;refine Ad ?_;refine AH (λp:Nat×Nat=>⟨(A6 (.own 0 p.2::A10 (A8 (.bs tInt.slice ll::.lit (.int .i64 (ll.length:Int))::.lit (.int .i64 (p.1:Int))::A8 [])))),[.row p.2 3 tInt (ll.take p.1).flatten]⟩) (λp=>p.1<=ll.length) (λp=>ll.length - p.1) (0,0) (jC _) (AS) ?_;rintro⟨j,ver⟩ hj;dsimp only at hj⊢;refine wR ?_;refine Ab λad X=>?_
  refine Ah V (λc=>?_) (λc=>?_)
  ·have z:j < ll.length:=by simpa using c
   obtain⟨x,hx⟩:∃x,ll[j]? =jG x:=⟨_,eE z⟩
   have B:=Rg hx;have I:=Rf ll (j+1);have U:=Ahe (ll.take j);have F:=Aaw hx;generalize (ll.take j).flatten=F0 at U F⊢;have ab:F0.length+x.length<=cY:=by unfold cY;omega
   have aa:(F0.length+x.length) * 8<=140737488355328:=by omega
   refine Al ?_;refine X _ ?_;refine nT ?_;refine Ab λac W=>?_
   refine Ad ?_;refine wR ?_;refine wRE ?_;refine W _ ?_;refine nT ?_;refine wRE ?_;refine Ap ⟨(j+1,ver+1),by dsimp only;omega,by dsimp only;omega,?_⟩;dsimp only;rw[F];exact AS
  ·refine Ay ?_;refine Y _ ?_;refine nT ?_;refine wR ?_;have L:j=ll.length:=by have:¬j < ll.length:=(by simpa using c);omega
   refine Aw ⟨.inr V,rfl,0,ver,rfl,?_⟩;rw[L,gE];rfl
open Go.Maps
variable{A:List (Int×Int)}{G:gY}{L c:List Int}{k:Nat}{out:List (Int×Int)}{p r x:Int}
abbrev XO(G:gY)(r:Int)(m:Nat):AV:=.fn 93 [.bp (Kg Bc) G 0,.bp tInt r 0,.bp (RO (.map (jG m))) () 0]
theorem Ajn(G:gY)(r:Int)(m:Nat)(z:Cm r):Fn bK 54 [.bp Bc G 0,.lit (.int .i64 r),.lit (.map (jG m))] (XO G r m):=by
 refine AQ Tryz.func54 V (by kernel_rfl) V Tryz.ntmps54 λC u=>?_
 simp only[Nat.reduceAdd,Nat.reduceSub,zaa];refine wR (hx:=by((repeat(first|(refine AF V (AOp.boxI 0 V V (Qb.one One.bp).weak ?_);refine sNt ?_)|(refine AF V (AOp.boxI 1 V V (Qb.one (One.lit V)).weak ?_);refine sNt ?_)|(refine AF V (AOp.boxI 2 V V (Qb.one (One.lit V)).weak ?_);refine sNt ?_)|refine sA ?_|refine AO ?_|refine sAG ?_|refine Bq ?_));exact CV V)) (hk:=?_);refine AK _ (EQ u 0 3 V V Zb.bp) ?_;refine AK _ (EQ u 1 4 V V (Zb.int z)) ?_;refine AK _ (EQ u 2 5 V V (Zb.lit (v:=.map (jG m)) V)) ?_;refine nT ?_;refine wR (hx:=by((repeat(first|refine sA ?_ (FL V)|refine sA ?_|refine AO ?_|refine sAG ?_|refine Bq ?_));exact CV V)) ?_;exact Aw ⟨.inr V,iB V⟩
instance Ax8:RT bK 66 27 1 24:=⟨by kernel_rfl⟩
def S9(G:gY)(at_:List (Int×Int))(r:Int):List Int:=((getK G.moves r).getD []).filterMap (getK at_)
def Zm(G:gY)(at_:List (Int×Int))(r:Int):List Int:=((getK G.likes r).getD [])++S9 G at_ r++((getK G.cls r).getD [])
def Eb(G:gY)(at_:List (Int×Int))(r:Int):List Int:=(Zm G at_ r).filter λp=>((getK G.cls r).getD []).contains p
def QF(c L:List Int)(k:Nat):Nat:=((L.take k).filter λp=>c.contains p).length
theorem Amc(hx:L[k]? =jG x)(hc:c.contains x=aK):QF c L (k+1)=QF c L k+1/\(L.filter λp=>c.contains p)[QF c L k]? =jG x:=by
 constructor
 ·unfold QF;rw[fZ,hx,dO,eO];rw[show(jG x).toList= [x]from V,dP,if_pos hc];rfl
 ·have e:L=L.take k++x::L.drop (k+1):=by
   have h1:=(eG.1 hx)
   obtain⟨h2,u⟩:=h1;rw[<-u,List.getElem_cons_drop,gB]
  unfold QF
  conv=>lhs;rw[e]
  rw[dO,dP,hc];have h2:k<=L.length:=Nat.le_of_lt (eG.1 hx).1;rw[show(L.take k++x::L.drop (k+1)).take k=L.take k by rw[<-e]];simp
theorem Arn(hx:L[k]? =jG x)(hc:c.contains x=aH):QF c L (k+1)=QF c L k:=by
 unfold QF;rw[fZ,hx,dO,eO];rw[show(jG x).toList= [x]from V,dP,if_neg (by rw[hc];simp)];rfl
theorem YU(c L:List Int):QF c L L.length=(L.filter λp=>c.contains p).length:=by
 unfold QF;rw[gE]
theorem QN{C:Ctx}{t:List AV}{h:List gL}{o:aX}{ty e:cE}{x y:aY}{m:Nat}{k:Int}{R:Res}{l:List (Int×Int)}(i:Nat)(F:o.op= .lookup ty x y aK)(u:bK.underlying ty=jG (.map 3 e))(z:∀w,(zeroValue e).run bK w= .ok (.int .i64 0) w)(hx:evA t x= .lit (.map (jG m)))(B:evA t y= .lit (.int .i64 k))(hk:wfB .i64 k=aK)(hi:h[i]? =jG (.res R))(H:Am1 R m (mapK (cH .i64) l)):
 AT bK C t h o (.tup [.lit (.int .i64 ((getK l k).getD 0)),.lit (.bool (getK l k).isSome)]):=by
 have h1:=Iy (C:=C) i F u z hx B hk hi H;rw[CD]at h1;cases hg:getK l k with
 |none=>rw[hg]at h1;exact h1
 |some v=>rw[hg]at h1;exact h1
structure OkT(G:CGraph)(at_:List (Int×Int))(r:Int):Prop where
 rw:Cm r
 moves:∀k∈(getK G.moves r).getD [],Cm k
 movesl:((getK G.moves r).getD []).length<=1073741824
 likes:∀k∈(getK G.likes r).getD [],Cm k
 likesl:((getK G.likes r).getD []).length<=1073741824
 cls:∀k∈(getK G.cls r).getD [],Cm k
 clsl:((getK G.cls r).getD []).length<=1073741824
 at_:∀k v,getK at_ k=some v->Cm v
theorem Zn(G:gY)(at_:List (Int×Int))(r:Int)(m stop:Nat)(hO:OkT G at_ r):Ar1 bK 93 [.bp (Kg Bc) G 0,.bp tInt r 0,.bp (RO (.map (jG m))) () 0] (λR=>Am1 R m (mapK (cH .i64) at_)) (λk=>[.lit (.int .i64 ((Eb G at_ r).getD k 0))]) (Eb G at_ r).length stop:=by
 have hr:wfB .i64 r=aK:=hO.rw;obtain⟨B,ac⟩:∃B,B=(getK G.moves r).getD []:=⟨_,rfl⟩
 have bb:B.length<=1073741824:=by rw[ac];exact hO.movesl
 have ai:∀k∈B,Cm k:=by rw[ac];exact hO.moves
 obtain⟨cl,F⟩:∃cl,cl=(getK G.cls r).getD []:=⟨_,rfl⟩
 have am:cl.length<=1073741824:=by rw[F];exact hO.clsl
 obtain⟨L,hL⟩:∃L,L=Zm G at_ r:=⟨_,rfl⟩
 have hN:Eb G at_ r=L.filter λp=>cl.contains p:=by rw[hL,F];rfl
 have bc:(S9 G at_ r).length<=1073741824:=iZ (eQ _ _) hO.movesl;have bf:L.length<=3221225472:=by
  rw[hL];unfold Zm;rw[eO,eO];have h1:=hO.likesl;have h2:=hO.clsl;omega
 have H:=(W8 [(getK G.likes r).getD [],S9 G at_ r,cl] (by show 3<=2147483648;decide) (by
  have h1:=hO.likesl;show([((getK G.likes r).getD []).length,(S9 G at_ r).length,cl.length]:List Nat).sum<=5000000000;simp only[List.sum_cons,List.sum_nil];omega)).fn
 have ay:([(getK G.likes r).getD [],S9 G at_ r,cl]:List (List Int)).flatten=L:=by
  rw[hL,F];unfold Zm;simp
 rw[ay]at H;refine VH Tryz.func93 V (by kernel_rfl) V Tryz.ntmps93 V λC ag ι l Jr Jx hm ah hY aw p ap af=>?_
 simp only[Nat.reduceAdd,Nat.reduceSub,zaa];refine wR ?_;refine Ab λK2 h2=>?_
 refine wD 8 (hq:=by((repeat(first|refine qA ?_ (AC V V V)|refine qA ?_ (Cl V V)|refine qA ?_ (Co V Tryz.underlying77 V V hr)|refine qA ?_|refine Hf ?_|refine qAG (hk:=?_)));exact Auh V)) (hx:=by((repeat(first|refine sA ?_ (AC V V V)|refine sA ?_ (Cl V V)|refine sA ?_ (Co V Tryz.underlying77 V V hr)|refine sA ?_|refine AO ?_|refine sAG ?_|refine Bq ?_));exact CV V)) (hk:=?_);refine Ad ?_;refine AK _ (ED 5 3 tInt V (by decide)) ?_;refine nT ?_;refine AH (λq:Nat×Nat=>⟨(.lit (.func (.yield l) #[] #[])::.bp (Kg Bc) G 0::.bp tInt r 0::.bp (RO (.map (jG m))) () 0::.any::.own 1 q.2::A10 (.any::.bs tInt B::.lit (.int .i64 (B.length:Int))::.lit (.int .i64 (q.1:Int))::A40 (A10 []))),[.res (Jr 0 p),.row q.2 3 tInt ((B.take q.1).filterMap (getK at_))]⟩) (λq=>q.1<=B.length) (λq=>B.length - q.1) (0,0) (jC _) (by rw[ac];exact AS) ?_;rintro⟨k,ver⟩ hk;have hk:k<=B.length:=hk;refine wR ?_;refine Ab λK6 h6=>?_
 refine Ah V (λae=>?_) (λae=>?_)
 ·have I:k < B.length:=by simpa using ae
  obtain⟨z,hz⟩:∃z,B[k]? =jG z:=⟨_,eE I⟩
  have aq:wfB .i64 z=aK:=ai z (fI hz);have be:((B.take k).filterMap (getK at_)).length<=1073741824:=by
   have h1:=eQ (getK at_) (B.take k);have h2:(B.take k).length<=B.length:=by rw[eV];omega
   omega
  have ak:(B.take (k+1)).filterMap (getK at_)=(B.take k).filterMap (getK at_)++(getK at_ z).toList:=by
   rw[fZ,hz,List.filterMap_append];simp only[jI];rw[List.filterMap_cons];cases getK at_ z <;> rfl
  refine Al ?_;refine h6 _ ?_;refine nT ?_;refine Ab λK8 h8=>?_
  refine Ad ?_;refine wR ?_;refine wR (hx:=by((repeat(first|refine sA ?_ (AC V V V)|refine sA ?_ (QN 0 V Tryz.underlying51 D4 V V aq V ap)|refine sA ?_|refine AO ?_|refine sAG ?_|refine Bq ?_));exact CV V)) ?_;refine wR ?_;refine Ah V (λZ=>?_) (λZ=>?_)
  ·have hs:(getK at_ z).isSome=aK:=Z;obtain⟨u,hu⟩:=jD.1 hs;have ar:wfI .i64 ((getK at_ z).getD 0):=by rw[hu];exact hO.at_ z u hu
   have O:(B.take (k+1)).filterMap (getK at_)=(B.take k).filterMap (getK at_)++[(getK at_ z).getD 0]:=by rw[ak,hu];rfl
   have av:EZ (((B.take k).filterMap (getK at_)).length+ [(getK at_ z).getD 0].length) 8=aK:=by
    unfold EZ;simp only[zag,zai];unfold cY;omega
   refine wRE (hx:=by((repeat(first|refine sA ?_ (Cj (T:=tInt) V V V (by rfl) (by decide) (Fit.int ar))|(refine AF V (Kf V V V V V av ?_);refine sNt ?_)|refine sA ?_|refine AO ?_|refine sAG ?_|refine Bq ?_));exact CV V)) (hk:=?_);refine h8 _ ?_;refine nT ?_;refine wRE ?_;refine Ap ⟨(k+1,ver+1),I,by show B.length - (k+1) < B.length - k;omega,?_⟩;try dsimp only
   rw[O];exact AS
  ·have hs:(getK at_ z).isSome=aH:=Z;have O:(B.take (k+1)).filterMap (getK at_)=(B.take k).filterMap (getK at_):=by
    rw[ak];cases hu:getK at_ z with
    |none=>simp
    |some u=>rw[hu]at hs;cases hs
   refine Al ?_;refine h8 _ ?_;refine nT ?_;refine wRE ?_;refine Ap ⟨(k+1,ver),I,by show B.length - (k+1) < B.length - k;omega,?_⟩;try dsimp only
   rw[O];exact AS
 ·obtain rfl:k=B.length:=by have:¬k < B.length:=(by simpa using ae);omega
  have au:(B.take B.length).filterMap (getK at_)=S9 G at_ r:=by rw[gE,ac];rfl
  rw[au];refine Ay ?_;refine h2 _ ?_;refine nT ?_;refine AK _ (Vv af 1 5 0 (by decide) V V V) ?_;refine nT ?_;refine wD 17 (hq:=by((repeat(first|refine qA ?_ (AC V V V)|refine qA ?_ (Cl V V)|refine qA ?_ (Co V Tryz.underlying77 V V hr)|refine qA ?_ (AT.lt (xs:=[.tmp 40,.tmp 41,.tmp 47]) (T:=tInt.slice) (ds:=[(getK G.likes r).getD [],S9 G at_ r,(getK G.cls r).getD []]) V V V (by rfl) (by decide) (.cons Fit.bs (.cons Fit.bs (.cons Fit.bs .nil))))|refine qA ?_ (AE V V (by rw[<-F];exact H) V V)|refine qA ?_|refine Hf ?_|refine qAG (hk:=?_)));exact Auh V)) (hx:=by((repeat(first|refine sA ?_ (AC V V V)|refine sA ?_ (Cl V V)|refine sA ?_ (Co V Tryz.underlying77 V V hr)|refine sA ?_ (AT.lt (xs:=[.tmp 40,.tmp 41,.tmp 47]) (T:=tInt.slice) (ds:=[(getK G.likes r).getD [],S9 G at_ r,(getK G.cls r).getD []]) V V V (by rfl) (by decide) (.cons Fit.bs (.cons Fit.bs (.cons Fit.bs .nil))))|refine sA ?_ (AE V V (by rw[<-F];exact H) V V)|refine sA ?_|refine AO ?_|refine sAG ?_|refine Bq ?_));exact CV V)) (hk:=?_);refine Ad ?_;refine AH (λq:Nat×ι=>⟨(.lit (.func (.yield l) #[] #[])::.bp (Kg Bc) G 0::.bp tInt r 0::A40 (A6 (.bs tInt L::.lit (.int .i64 (L.length:Int))::.lit (.int .i64 (q.1:Int))::A10 (A8 [])))),[.res (Jr (QF cl L q.1) q.2),.dead]⟩) (λq=>q.1<=L.length/\QF cl L q.1<=stop) (λq=>L.length - q.1) (0,p) ⟨jC _,jC _⟩ (AS) ?_;rintro⟨k,q⟩ ⟨hk,J⟩;have hk:k<=L.length:=hk;have J:QF cl L k<=stop:=J;refine wR ?_;refine Ab λbh ba=>?_
  refine Ah V (λY=>?_) (λY=>?_)
  ·have I:k < L.length:=by simpa using Y
   obtain⟨x,hx⟩:∃x,L[k]? =jG x:=⟨_,eE I⟩
   have U:=Jz cl x (iZ am (by decide));refine Al ?_;refine ba _ ?_;refine nT ?_;refine Ab λbg az=>?_
   refine Ad ?_;refine wR ?_;refine Bi (β:=Bool×ι) (λb=>if b.1=aK then stop < (Eb G at_ r).length else QF cl L (k+1)<=stop) (λb=>⟨(.lit (.func (.yield l) #[] #[])::.bp (Kg Bc) G 0::.bp tInt r 0::A40 (A6 (.bs tInt L::.lit (.int .i64 (L.length:Int))::.lit (.int .i64 (k:Int))::A10 (A6 [.lit (.bool b.1),.any])))),[.res (if b.1=aK then Jx b.2 else Jr (QF cl L (k+1)) b.2),.dead]⟩) ?_ ?_
   ·cases hc:cl.contains x with
    |true=>
     rw[hc,F]at U;obtain⟨W,ao⟩:=Amc hx hc;have an:QF cl L k < (Eb G at_ r).length:=by rw[hN];exact(eG.1 ao).1
     have ad:(Eb G at_ r).getD (QF cl L k) 0=x:=by rw[hN,dZ,ao];rfl
     rcases i7 (QF cl L k) stop with hst|hst
     ·have aa:=hY (QF cl L k) q an hst;rw[ad]at aa;refine Mr 11 (by kernel_rfl) (by kernel_rfl) ?_;simp only[zad];refine qA ?_ (AC V Gi V) (Ar (Aq (Aq GY)));refine qA ?_ (Cl V (As (Ao (Ao GP)))) (Ar (Aq (Aq (Aq G9))));refine qA ?_ (Cr V (As (Ao (Ao (Ao IP))))) (Ar (Aq (Aq (Aq IK))));refine qA ?_ (AC V (As (Ao (Ao (Ao Gi)))) V) (Ar (Aq (Aq (Aq KK))));refine qA ?_ (AC V Fm V) (Ar (Aq (Aq (Aq IF))));refine qA ?_ (Co V bW (As (Ao (Ao (Ao Fm)))) (As (Ao (Ao (Ao Fw)))) hr) (Ar (Aq (Aq (Aq I5))));refine qA ?_ (AT.move V (Ao Fw)) (Ar (Aq (Aq (Aq GK))));refine qA ?_ (AE V V U V V) (Ar (Aq (Aq (Aq GZ))));refine qA ?_ (AT.move V (As (Ao (Ao (Ao HW))))) (Ar (Aq (Aq (Aq GY))));refine qA ?_ (AT.move V IP) (Ar (Ar G9));refine qA ?_ (AT.move V (Ao Fw)) (Ar (Ar IK));refine Fh ?_;refine P3 V (Li (i:=0) ag V (λp=>by rw[hm,hm]) V V V V aa λq'=>?_);refine Dn (by(try simp only[Bn,zac]);exact V) (by(try simp only[Nat.reduceAdd,zab]);exact V) ?_;refine It V (AX (Cp V V) ?_);refine Dn (by(try simp only[Bn,zac]);exact V) (by(try simp only[Nat.reduceAdd,zab]);exact V) ?_;refine It V (AX (AT.pick V V V) ?_);refine Dn (by(try simp only[Bn,zac]);exact V) (by(try simp only[Nat.reduceAdd,zab]);exact V) ?_;refine Gd ?_;refine Ap ⟨(aH,q'),by rw[W];exact hst,?_⟩;dsimp only;rw[W];exact AS
     ·have al:QF cl L k=stop:=iV J hst;have ab:stop < (Eb G at_ r).length:=by rw[<-al];exact an
      have aa:=aw ab q;rw[<-al,ad]at aa;refine Mr 11 (by kernel_rfl) (by kernel_rfl) ?_;simp only[zad];refine qA ?_ (AC V Gi V) (Ar (Aq (Aq GY)));refine qA ?_ (Cl V (As (Ao (Ao GP)))) (Ar (Aq (Aq (Aq G9))));refine qA ?_ (Cr V (As (Ao (Ao (Ao IP))))) (Ar (Aq (Aq (Aq IK))));refine qA ?_ (AC V (As (Ao (Ao (Ao Gi)))) V) (Ar (Aq (Aq (Aq KK))));refine qA ?_ (AC V Fm V) (Ar (Aq (Aq (Aq IF))));refine qA ?_ (Co V bW (As (Ao (Ao (Ao Fm)))) (As (Ao (Ao (Ao Fw)))) hr) (Ar (Aq (Aq (Aq I5))));refine qA ?_ (AT.move V (Ao Fw)) (Ar (Aq (Aq (Aq GK))));refine qA ?_ (AE V V U V V) (Ar (Aq (Aq (Aq GZ))));refine qA ?_ (AT.move V (As (Ao (Ao (Ao HW))))) (Ar (Aq (Aq (Aq GY))));refine qA ?_ (AT.move V IP) (Ar (Ar G9));refine qA ?_ (AT.move V (Ao Fw)) (Ar (Ar IK));refine Fh ?_;refine P3 V (Li (i:=0) ag V (λp=>by rw[ah,hm]) V V V V aa λq'=>?_);refine Dn (by(try simp only[Bn,zac]);exact V) (by(try simp only[Nat.reduceAdd,zab]);exact V) ?_;refine It V (AX (Cp V V) ?_);refine Dn (by(try simp only[Bn,zac]);exact V) (by(try simp only[Nat.reduceAdd,zab]);exact V) ?_;refine It V (AX (AT.pick V V V) ?_);refine Dn (by(try simp only[Bn,zac]);exact V) (by(try simp only[Nat.reduceAdd,zab]);exact V) ?_;refine Gd ?_;refine Ap ⟨(aK,q'),ab,?_⟩;exact AS
    |false=>
     rw[hc,F]at U;have W:=Arn hx hc
     ·refine Mr 11 (by kernel_rfl) (by kernel_rfl) ?_;simp only[zad];refine qA ?_ (AC V Gi V) (Ar (Aq (Aq GY)));refine qA ?_ (Cl V (As (Ao (Ao GP)))) (Ar (Aq (Aq (Aq G9))));refine qA ?_ (Cr V (As (Ao (Ao (Ao IP))))) (Ar (Aq (Aq (Aq IK))));refine qA ?_ (AC V (As (Ao (Ao (Ao Gi)))) V) (Ar (Aq (Aq (Aq KK))));refine qA ?_ (AC V Fm V) (Ar (Aq (Aq (Aq IF))));refine qA ?_ (Co V bW (As (Ao (Ao (Ao Fm)))) (As (Ao (Ao (Ao Fw)))) hr) (Ar (Aq (Aq (Aq I5))));refine qA ?_ (AT.move V (Ao Fw)) (Ar (Aq (Aq (Aq GK))));refine qA ?_ (AE V V U V V) (Ar (Aq (Aq (Aq GZ))));refine qA ?_ (AT.move V (As (Ao (Ao (Ao HW))))) (Ar (Aq (Aq (Aq GY))));refine Hf (ht:=(Ar (Ar G9))) ?_;refine Hf (ht:=(Ar (Ar IK))) ?_;refine Fh ?_;refine Rx V ?_;refine Dn (by(try simp only[Bn,zac]);exact V) (by(try simp only[Nat.reduceAdd,zab]);exact V) ?_;refine Rx V ?_;refine Dn (by(try simp only[Bn,zac]);exact V) (by(try simp only[Nat.reduceAdd,zab]);exact V) ?_;refine It V (AX (AT.pick V V V) ?_);refine Dn (by(try simp only[Bn,zac]);exact V) (by(try simp only[Nat.reduceAdd,zab]);exact V) ?_;refine Gd ?_;refine Ap ⟨(aH,q),by rw[W];exact J,?_⟩;dsimp only;rw[W];exact AS
   rintro⟨b,q'⟩ hb;refine Ah V (λX=>?_) (λX=>?_)
   ·obtain rfl:b=aK:=X;have ab:stop < (Eb G at_ r).length:=hb;exact Aw ⟨.inr V,q',by(show _=jG (ABlk.res (if stop < (Eb G at_ r).length then Jx q' else Jr (Eb G at_ r).length q'));rw[if_pos ab];rfl),by simp[mkD,gP,ah]⟩
   ·obtain rfl:b=aH:=X;have aj:QF cl L (k+1)<=stop:=hb;refine Al ?_;refine az _ ?_;refine nT ?_;refine wRE ?_;refine Ap ⟨(k+1,q'),⟨I,aj⟩,by show L.length - (k+1) < L.length - k;omega,?_⟩;exact AS
  ·obtain rfl:k=L.length:=by have:¬k < L.length:=(by simpa using Y);omega
   have ax:¬stop < (Eb G at_ r).length:=by rw[YU,<-hN]at J;omega
   refine Ay ?_;exact⟨.inl V,q,by(show _=jG (ABlk.res (if stop < (Eb G at_ r).length then Jx q else Jr (Eb G at_ r).length q));rw[if_neg ax,hN,<-YU];rfl),by simp[mkD,gP,hm]⟩
structure OkGr(G:CGraph):Prop extends OkG G where
 mov:∀r,(∀k∈(getK G.moves r).getD [],Cm k)/\((getK G.moves r).getD []).length<=1073741824
 lik:∀r,(∀k∈(getK G.likes r).getD [],Cm k)/\((getK G.likes r).getD []).length<=1073741824
 cl:∀r,(∀k∈(getK G.cls r).getD [],Cm k)/\((getK G.cls r).getD []).length<=1073741824
def MG(G:gY)(A:List (Int×Int))(r:Int):Option Int:=(Eb G A r).find? (Gm G A r)
def EG(G:gY)(s:List (Int×Int)×List Int)(r:Int):List (Int×Int)×List Int:=match MG G s.1 r with
 |some p=>(Cb s.1 r p,s.2)
 |none=>(s.1,s.2++[r])
def Jh(G:gY)(out:List (Int×Int))(k:Nat):List (Int×Int)×List Int:=((CY G out).reverse.take k).foldl (EG G) ([],[])
def BH(G:gY)(out:List (Int×Int)):List (Int×Int)×List Int:=(CY G out).reverse.foldl (EG G) ([],[])
theorem MH(G:gY)(out:List (Int×Int)):Jh G out (CY G out).length=BH G out:=by
 unfold Jh BH;rw[gF (by simp)]
theorem Pa(h:(CY G out)[(CY G out).length - 1 - k]? =jG r)(hk:k < (CY G out).length):Jh G out (k+1)=EG G (Jh G out k) r:=by
 unfold Jh;rw[fZ,List.getElem?_reverse hk,h,dX];rfl
theorem Pc{G:gY}:∀(n:Nat) {E:List (Int×Int)} {l:List Int},Ef E->(∀x,(getK E x).isSome=aK->x∈G.regs)->(∀x∈l,x∈G.regs)->∀x∈DS G n E l,x∈G.regs
 |0,E,l,_,_,u=>u
 |n+1,E,l,B,hk,u=>by
  unfold DS;cases F:LK G E with
  |none=>exact u
  |some r=>
   have z:=LJ F;refine Pc n (Ln B z).1 (λx hx=>hk x ?_) λx hx=>?_
   ·rw[G2 B]at hx;simp only[aG]at hx;exact hx.1
   ·rcases fA.1 hx with h|h
    ·exact u x h
    ·rw[fM.1 h];exact hk r z
theorem KR{G:gY}:∀(n:Nat) (E:List (Int×Int)) (l:List Int),(DS G n E l).length<=l.length+n
 |0,E,l=>by unfold DS;omega
 |n+1,E,l=>by
  unfold DS;cases LK G E with
  |none=>show l.length<=_;omega
  |some r=>
   have:=KR (G:=G) n (KE G E r) (l++[r]);rw[eO,eP,eT]at this;show(DS G n (KE G E r) (l++[r])).length<=_;omega
theorem ZV(u:OkG G):∀x∈CY G out,x∈G.regs:=by
 have h:=Jl (out:=out) u;exact Pc _ h.asc h.inr λx hx=>by cases hx
theorem Ra(u:OkG G):(CY G out).length<=1073741824:=by
 have h:=(Jl (out:=out) u).len;have:=KR (G:=G) (Ih G out).length (Ih G out) [];unfold CY;simp only[eT]at this h;omega
structure PntI(G:CGraph)(s:List (Int×Int)×List Int)(k:Nat):Prop where
 asc:Ef s.1
 wf:∀q v,getK s.1 q=some v->Cm v
 len:s.1.length+s.2.length<=k
theorem Xh(u:OkGr G)(h:p∈Eb G A r):Cm p:=by
 unfold Eb at h;have:=(List.mem_filter.1 h).2;rw[dJ]at this;exact(u.cl r).1 p this
theorem TZ(h:MG G A r=jG p):p∈Eb G A r:=List.mem_of_find?_eq_some h
theorem PntI.next(z:OkGr G){s:List (Int×Int)×List Int}(h:PntI G s k)(r:Int):PntI G (EG G s r) (k+1):=by
 unfold EG;cases u:MG G s.1 r with
 |none=>
  refine⟨h.asc,h.wf,?_⟩;have:=h.len;show s.1.length+(s.2++[r]).length<=k+1;rw[eO,eP,eT];omega
 |some p=>
  refine⟨h.asc.put r p,λq v hq=>?_,?_⟩
  ·have hq:getK (Cb s.1 r p) q=jG v:=hq;rw[BK h.asc]at hq;by_cases e:q=r
   ·rw[if_pos e]at hq;cases hq;exact Xh z (TZ u)
   ·rw[if_neg e]at hq;exact h.wf q v hq
  ·have h1:=h.len;have h2:=E3 (l:=s.1) r p;show(Cb s.1 r p).length+s.2.length<=k+1;omega
theorem JT{G:gY}(u:OkGr G)(out:List (Int×Int)):∀k,k<=(CY G out).length->PntI G (Jh G out k) k
 |0,_=>⟨Ef.nil,λq v h=>(by cases h),jC _⟩
 |k+1,hk=>by
  obtain⟨r,z⟩:∃r,(CY G out)[(CY G out).length - 1 - k]? =jG r:=⟨_,eE (by omega)⟩
  rw[Pa z (by omega)];exact(JT u out k (by omega)).next u r
theorem YF{α:Type}(p:α->Bool):∀(l:List α),(l.findIdx p < l.length->∃x,l[l.findIdx p]? =jG x/\p x=aK/\l.find? p=jG x)/\(¬l.findIdx p < l.length->l.find? p=jF)/\∀j x,j < l.findIdx p->l[j]? =jG x->p x=aH
 | []=>⟨λh=>by simp at h,λ_=>rfl,λj x h=>by simp at h⟩
 |a::l=>by
  obtain⟨h1,h2,I⟩:=YF p l;rw[List.findIdx_cons,dR];cases z:p a with
  |true=>exact⟨λ_=>⟨a,rfl,z,rfl⟩,λh=>absurd (by simp) h,λj x h=>by simp at h⟩
  |false=>
   refine⟨λh=>?_,λh=>?_,λj x h u=>?_⟩
   ·obtain⟨x,H,F,B⟩:=h1 (by simpa using h);exact⟨x,by simpa using H,F,B⟩
   ·exact h2 (by simpa using h)
   ·cases j with
    |zero=>simp at u;rw[<-u];exact z
    |succ j=>exact I j x (by simpa using h) (by simpa using u)
def slotN(G:gY)(A:List (Int×Int))(r:Int):Nat:=(fV (((getK G.near r).getD []).length+1)).findIdx λk:Nat=>Gm G A r (32+(k:Int))
theorem Mx(G:gY)(A:List (Int×Int))(r:Int):
 slotN G A r<=((getK G.near r).getD []).length/\Gm G A r (32+(slotN G A r:Int))=aK/\∀k,k < slotN G A r->Gm G A r (32+(k:Int))=aH:=by
 obtain⟨L,I⟩:∃x,x=(getK G.near r).getD []:=⟨_,rfl⟩
 have F:∃k∈fV (L.length+1),Gm G A r (32+(k:Int))=aK:=by
  refine Classical.byContradiction λO=>?_
  have W:∀k,k < L.length+1->Gm G A r (32+(k:Int))=aH:=λk hk=>by
   cases U:Gm G A r (32+(k:Int))with
   |false=>rfl
   |true=>exact absurd ⟨k,fL.2 hk,U⟩ O
  have B:=E9 (l:=(fV (L.length+1)).map λk:Nat=>(32+(k:Int))) (m:=L.map λx=>(getK A x).getD 0)
   (fT.2 (dC (λ{a b:Nat} (H:a≠b) (e:32+(a:Int)=32+(b:Int))=>H (by omega)) List.nodup_range))
   (λx hx=>by
    obtain⟨k,hk,rfl⟩:=fH.1 hx;have h1:=W k (fL.1 hk);unfold Gm at h1;rw[aI,<-I]at h1;obtain⟨y,J,z⟩:=dF.1 h1;unfold freeP at z;rw[aG]at z;exact fH.2 ⟨y,J,(eq_of_beq z.2).symm⟩)
  rw[eS,eS,eU]at B;omega
 unfold slotN;rw[<-I];have u:(fV (L.length+1)).findIdx (λk:Nat=>Gm G A r (32+(k:Int))) < (fV (L.length+1)).length:=List.findIdx_lt_length_of_exists F;refine⟨?_,?_,λk hk=>?_⟩
 ·rw[eU]at u;omega
 ·have h:=List.findIdx_getElem (w:=u);rwa [eL]at h
 ·have h:=List.not_of_lt_findIdx hk;rw[eL]at h;exact h
def IZ(G:gY)(s:List (Int×Int)×Int)(r:Int):List (Int×Int)×Int:=(Cb s.1 r (32+(slotN G s.1 r:Int)),max s.2 ((slotN G s.1 r:Int)+1))
def IY(G:gY)(out A:List (Int×Int))(k:Nat):List (Int×Int)×Int:=((keysK out).take k).foldl (IZ G) (A,0)
def IX(G:gY)(out A:List (Int×Int)):List (Int×Int)×Int:=(keysK out).foldl (IZ G) (A,0)
theorem ZB(G:gY)(out A:List (Int×Int)):IY G out A (keysK out).length=IX G out A:=by
 unfold IY IX;rw[gE]
theorem V7(h:(keysK out)[k]? =jG r):IY G out A (k+1)=IZ G (IY G out A k) r:=by
 unfold IY;rw[fZ,h,dX];rfl
open Go.Shelf
variable{α:Type}{l:List (Int×α)}
theorem CQ{k:Int}:k∈keysK l↔(getK l k).isSome=aK:=by
 cases hg:getK l k with
 |none=>
  have h:=Js.1 hg;exact⟨λhk=>by
   obtain⟨p,u,e⟩:=fH.1 hk;exact absurd e (h p u),λh=>by cases h⟩
 |some v=>
  refine⟨λ_=>rfl,λ_=>?_⟩;refine Classical.byContradiction λz=>?_
  have:getK l k=jF:=Js.2 λp u e=>z (fH.2 ⟨p,u,e⟩)
  rw[hg]at this;cases this
theorem Ml(h:Ef l):Asc (keysK l):=fT.2 h
theorem Uv(l:List (Int×cF)):cX (L8 l)=keysK l:=by
 simp only[cX,L8,keysK,eY];rfl
theorem Adm{w:cI}{S:Nat->Prop}{v:cF}{d:List (Int×Int)}(h:tMapI.RS w S [v] d):∃z,v= .map z:=by
 obtain⟨_,⟨u,_⟩|⟨b,_,u,_⟩⟩:=h
 ·cases u;exact⟨_,rfl⟩
 ·cases u;exact⟨_,rfl⟩
theorem Agh(d:List (Int×Int)):Nd bK 57 [.tv tMapI d] (λp=>Bf p [.tv tMapI d]) (λp=>.func (.func 97) #[] #[.pointer (jG ⟨p,0,jF⟩)]):=by
 refine⟨by kernel_rfl,λw S vs H F=>?_⟩;obtain⟨v,J,rfl,h0,h1⟩:=F;unfold Af at h1;subst h1;have B:tMapI.RS w S [v] d:=h0;obtain⟨z,rfl⟩:=Adm B;have I:aN aO 5 bK 57 #[.map z] w λe w'=>e= .returned (.func (.func 97) #[] #[.pointer (jG ⟨w.heap.size,0,jF⟩)])/\w'=w.alloc (.cells #[.map z] 51):=AnyZI.keys_in bG aO 5 trivial V z w
 refine((cQ (n:=5)).1 I).mono ?_;rintro e w' ⟨rfl,rfl⟩;have u:Below w.heap.size w (w.alloc (.cells #[.map z] 51)):=(cA _ _).alloc (iY _) _;exact⟨_,rfl,⟨u.os,u.tape,u.output,u.size,λk hk _=>u.block k hk⟩,w.heap.size,rfl,⟨[.map z],51,cV w _,⟨_,_,rfl,tMapI.keepS B (λk hk=>u.block k (H k hk)) λ_ h=>h,rfl⟩⟩,λk hk=>by
  have hk:k=w.heap.size:=hk;subst hk;exact⟨.inr (iY _),by simp⟩⟩
theorem Zt(p:Nat)(d:List (Int×Int))(hd:d.length<=1073741824):
 FnR bK 56 (Bf p [.tv tMapI d]) [.lit (.func (.func 97) #[] #[.pointer (jG ⟨p,0,jF⟩)])] (.bs tInt (keysK d)):=by
 refine⟨by kernel_rfl,λw T vs hT ac W hr=>?_⟩;obtain⟨us,rfl,h0⟩:=Eo hr;unfold Af at h0;subst h0;obtain⟨cs,e,hp,aa⟩:=W;obtain⟨v,us,rfl,h0,h1⟩:=aa;unfold Af at h1;subst h1;have X:tMapI.RS w T [v] d:=h0;have O:=ac p V;have F:okK d:=X.1;have Z:∃(Q:List Int->Prop) (N:Nat),SeqGives aO 2 bK 97 #[.pointer (jG ⟨p,0,jF⟩)] encZ Q N w/\N<=d.length/\∀ss,Q ss->ss.Perm (keysK d):=by
  obtain⟨_,⟨Y,rfl⟩|⟨b,xs,Y,hS,hm,h1,h2⟩⟩:=X
  ·cases Y;have u:w.cell? ⟨p,0,jF⟩=jG (.map jF):=by simp[cJ,hp]
   exact⟨λss:List Int=>ss= [],0,AnyZI.keys_gives_nil (ρ:=bH) {bG with} aO _ trivial rfl p _ O u,iY _,λss h=>by rw[h];exact List.Perm.refl _⟩
  ·cases Y;have u:w.cell? ⟨p,0,jF⟩=jG (.map (jG b)):=by simp[cJ,hp]
   have hk:keysK xs=keysK d:=GW (Ml hm.1.1) (Ml F.1) λk=>by rw[CQ,CQ,h1 k]
   have H:xs.length=d.length:=by have:=congrArg eN hk;simpa[keysK]using this
   have U:=hm.2;have ae:xs.length<=cY:=by rw[H];unfold cY;omega
   have z:SeqGives aO 2 bK 97 #[.pointer (jG ⟨p,0,jF⟩)] encZ (λss=>ss.Perm (cX (L8 xs))) (Maps.size (L8 xs)) w:=AnyZI.keys_gives (ρ:=bH) {bG with} aO _ trivial rfl (by omega) p b xs.length (L8 xs) w O u U;exact⟨_,_,z,Nat.le_of_eq ((OL xs).trans H),λss (h:ss.Perm (cX (L8 xs)))=>by
    rw[Uv,hk]at h;exact h⟩
 obtain⟨Q,N,z,hN,hQ⟩:=Z;have cS:=AnyZI.sorted_in Tryz.sortedM aO 5 trivial trivial trivial trivial V (by omega) (Ad2 _) (enters_of Tryz.func62 (by kernel_rfl) V) 97 #[.pointer (jG ⟨p,0,jF⟩)] trivial (enters_of Tryz.func97 (by kernel_rfl) V) _ N (by unfold cY;omega) (by omega) _ z;change aN _ _ bK 56 _ _ _ at cS;refine((cQ (n:=5)).1 cS).mono ?_;rintro e w' ⟨v,ss,rfl,ab,J,ad,hb⟩;have I:ss.Perm (keysK d):=hQ ss ab;have he:(ss.mergeSort λx y=>decide (x<=y))=keysK d:=
  GW (Or (I.nodup_iff.2 (Ml F.1).nodup)) (Ml F.1) (λx=>((fO ss _).mem_iff).trans I.mem_iff)
 have B:w'.ownsRow w.heap.size 3 1 v ss.length ((ss.mergeSort (λx y=>decide (x<=y))).map encZ):=J;rw[he]at B;have hO:Gj w' w.heap.size v (keysK d):=.of B I.length_eq V;refine⟨v,rfl,hb,λk=>T k\/v.ownBlock=jG k,λ_ h=>.inl h,λk hk=>?_,λk hk=>?_,?_⟩
 ·rcases hk with hk|hk
  ·exact .inl hk
  ·exact .inr (hO.lt k hk).1
 ·rcases hk with hk|hk
  ·exact i6 (hT k hk) hb.size
  ·exact(hO.lt k hk).2
 ·unfold gU;exact tInt.slice.keepS (LM hO λx hx=>by
   obtain⟨q,hq,e⟩:=fH.1 hx;rw[<-e];exact F.2 q hq) (λ_ _=>rfl) λk hk=>.inr hk
end Mu
namespace Mu
open Go Go.RowKit Go.Proofs Go.Maps
theorem Ao0{x:Int}(h:0<=x/\x<=4294967296):Cm x:=by
 have h1:wfB .i64 x=aK:=by
  unfold wfB;simp[Lit.wf,IntKind.min,IntKind.max,IntKind.signed,IntKind.bits];omega
 exact h1
theorem Tt(G:gY):∀(l:List Int) (s:List (Int×Int)×Int),(l.foldl (IZ G) s).1.length<=s.1.length+l.length
 | [],s=>iY _
 |r::l,s=>by
  have h1:=Tt G l (IZ G s r);have h2:(IZ G s r).1.length<=s.1.length+1:=E3 r _;show(l.foldl (IZ G) (IZ G s r)).1.length<=s.1.length+(l.length+1);omega
theorem ZA(G:gY)(out A:List (Int×Int))(m:Nat)(hG:OkGr G)(Y:okK out)(F:out.length<=1073741824)(hA:Ef A)(al:A.length<=1073741824):DO bK 28 (EI (cH .i64) A m) [.bp Bc G 0,.tv tMapI out,.lit (.map (jG m))] (λ_:Unit=>EI (cH .i64) (IX G out A).1 m) (λ_:Unit=>.int .i64 (IX G out A).2):=by
 obtain⟨ks,z⟩:∃x,x=keysK out:=⟨_,rfl⟩
 have ak:ks.length<=1073741824:=by rw[z];simpa[keysK]using F
 have ac:∀r∈ks,Cm r:=by
  rw[z];intro r W;obtain⟨q,hq,e⟩:=fH.1 W;rw[<-e];exact Y.2 q hq
 refine SU Tryz.func28 V (by kernel_rfl) V Tryz.ntmps28 V (λ_ _ _ _ h=>h) λC=>?_
 simp only[Nat.reduceAdd,Nat.reduceSub,zaa];refine wR ?_;refine wR ?_;refine Ab λK3 h3=>?_
 refine nT ?_;refine wRK λK4 af=>?_
 refine sA ?_ (AT.move V Gi) (Aq IF);refine AF V (Cs V (Agh out) (λ_=>rfl) V V λp=>?_);refine DU ?_ (Aq I5);refine sA ?_ (Le (i:=1) V V (Zt p out F) V V V) (Aq GK);refine sA ?_ (NH V V V) (Aq GZ);refine sA ?_ (AT.move V V) (Aq GY);refine Au (af _ ?_);refine Ad ?_;refine AH (λk:Nat=>⟨(.bp Bc G 0::.any::.lit (.map (jG m))::A4 (.lit (.int .i64 (IY G out A k).2)::A5 (.bs tInt ks::.lit (.int .i64 (ks.length:Int))::.lit (.int .i64 (k:Int))::A20 [.any]))),[.res (EI (cH .i64) (IY G out A k).1 m),.res (Bf p [.tv tMapI out])]⟩) (λk=>k<=ks.length) (λk=>ks.length - k) 0 (jC _) (by rw[z];exact AS) ?_;rintro k hk;refine wR ?_;refine Ab λK7 h7=>?_
 refine Ah V (λH=>?_) (λH=>?_)
 ·have U:k < ks.length:=by simpa using H
  obtain⟨r,W⟩:∃q,ks[k]? =jG q:=⟨_,eE U⟩
  have I:wfB .i64 r=aK:=ac r (fI W);obtain⟨B,hB⟩:∃x,x=IY G out A k:=⟨_,rfl⟩
  have Z:IY G out A (k+1)=IZ G B r:=by rw[hB];exact V7 (by rw[<-z];exact W)
  have ag:B.1.length < cY:=by
   have h1:=Tt G ((keysK out).take k) (A,0);have h2:((keysK out).take k).length<=k:=List.length_take_le _ _;rw[hB];unfold IY cY;have h3:(A,(0:Int)).1.length=A.length:=rfl;omega
  rw[<-hB];obtain⟨n,hn⟩:∃x,x=slotN G B.1 r:=⟨_,rfl⟩
  obtain⟨aa,O,J⟩:=Mx G B.1 r;rw[<-hn]at aa O J;refine Al ?_;refine h7 _ ?_;refine nT ?_;refine Ab λK9 h9=>?_
  refine Ad ?_;refine wR ?_;refine wR ?_;refine Ab λan ai=>?_
  refine Ad ?_;refine AH (λj:Nat=>⟨(.bp Bc G 0::.any::.lit (.map (jG m))::A4 (.lit (.int .i64 B.2)::.any::.lit (.int .i64 r)::.lit (.int .i64 (32+(j:Int)))::A2 (.bs tInt ks::.lit (.int .i64 (ks.length:Int))::.lit (.int .i64 (k:Int))::A20 [.any]))),[.res (EI (cH .i64) B.1 m),.res (Bf p [.tv tMapI out])]⟩) (λj=>j<=n) (λj=>n - j) 0 (jC _) (AS) ?_;rintro j X;have X:j<=n:=X;have aj:=hG.nearl r;have ad:Cm (32+(j:Int)):=Ao0 (by omega);refine Ab λam ah=>?_
  refine wR (hx:=by((repeat(first|refine sA (hq:=CM V (Sq G B.1 r (32+(j:Int)) I ad (hG.near r) (hG.nearl r)) (.cons (.cl V) (.cons (.cl V) (.cons (.cl V) (.cons (Nc.map (i:=0) V) .nil))))) (hk:=?_)|refine sA ?_|refine AO ?_|refine sAG ?_|refine Bq ?_));exact CV V)) (hk:=?_);refine Ah V (λu=>?_) (λu=>?_)
  ·have u:Gm G B.1 r (32+(j:Int))=aH:=by simpa using u
   have ae:j < n:=Nat.lt_of_le_of_ne X λe=>by
    rw[e,O]at u;cases u
   refine Al ?_;refine ah _ ?_;refine nT ?_;refine Ad ?_;refine wRE (hx:=by((repeat(first|refine sA ?_ (Ee V V V (by omega))|refine sA ?_|refine AO ?_|refine sAG ?_|refine Bq ?_));exact CV V)) (hk:=?_);refine abN ?_;refine Ap ⟨j+1,ae,by omega,?_⟩;try dsimp only
   rw[show((j+1:Nat):Int)=(j:Int)+1 from V,<-Int.add_assoc];exact AS
  ·have u:Gm G B.1 r (32+(j:Int))=aK:=by simpa using u
   obtain rfl:j=n:=iV X (Nat.not_lt.1 λh=>by
    rw[J j h]at u;cases u)
   refine Ay ?_;refine ai _ ?_;refine nT ?_;refine wR (hx:=by((repeat(first|(refine AF V (Kd 0 V Tryz.underlying51 V V V I ag V ?_);refine sNt ?_)|refine sA ?_|refine AO ?_|refine sAG ?_|refine Bq ?_));exact CV V)) (hk:=?_);refine wRE (hx:=by((repeat(first|refine sA ?_ (ER V V V (by omega))|refine sA ?_ (Ee V V V (by omega))|refine sA ?_ (AT.max2 V V V)|refine sA ?_|refine AO ?_|refine sAG ?_|refine Bq ?_));exact CV V)) (hk:=?_);refine h9 _ ?_;refine nT ?_;refine wRE ?_;refine Ap ⟨k+1,U,by omega,?_⟩;try dsimp only
   rw[Z];have ab:IZ G B r=(Cb B.1 r (32+(j:Int)),if 32+(j:Int) - 32+1 > B.2 then 32+(j:Int) - 32+1 else B.2):=by
    unfold IZ;rw[<-hn];refine Prod.ext V ?_;show max B.2 ((j:Int)+1)=_;split <;> omega
   rw[ab];exact AS
 ·obtain rfl:k=ks.length:=by have:¬k < ks.length:=(by simpa using H);omega
  rw[show IY G out A ks.length=IX G out A by rw[z];exact ZB G out A];refine Ay ?_;refine h3 _ ?_;refine nT ?_;refine wR ?_;exact Aw ⟨.inr V,(),rfl,rfl,rfl⟩
end Mu
namespace Mu
open Go Go.RowKit
variable{P:aZ}{fn:aP}{n:Nat}{t:Tmp}{ty:cE}{u:Tmp}{uy:cE}
theorem Uq{P:aZ}{C:Ctx}{fn:aP}{tmps:Array cF}{R:Ending->cI->Prop}{n:Nat}:
 ∀(ds:List Nat) (W:cI) (h:List gL) (S:Nat->Prop) (ψ:Nat->cF),(∀W S ψ,iG C (h.set 0 .dead) S ψ W->∃v,(results fn tmps).run P W= .ok v W/\R (.returned v) W)->h[0]? =jG (.res (Bl ds))->iG C h S ψ W->
  aU aO n P fn tmps R (ds.map Ki) .returning W
 | [],W,h,S,ψ,z,h0,H=>by
  have hc:Cut h (h.set 0 .dead):=⟨by simp,λi b hi=>by
   by_cases I:i=0
   ·subst I;rw[eJ (eG.1 h0).1]at hi;cases hi;exact .inl V
   ·rw[eI (Ne.symm I)]at hi;exact .inr hi⟩
  obtain⟨v,h1,h2⟩:=z W S ψ (H.cute hc (by simp));exact⟨v,h1,h2⟩
 |D::ds,W,h,S,ψ,z,h0,H=>by
  have J:=H.blk 0 _ h0;have B:=(eG.1 h0).1;have Y:=J.1 D (by show D∈D::ds;simp);refine⟨by simp,.inl ⟨_,_,rfl,run_takeDeferred (J.2.2 D (by simp)),?_⟩⟩;have X:Ext W S h ψ W S (h.set 0 (.res (Bl ds))) (Bp ψ 0 (ψ 0)):=iA (λ_ _=>rfl) h0 (λc' hc=>by simp[gQ]at hc) λh=>by simp[AZ]at h
  have F:=fQ.1 J.2.1;have H1:iG C (h.set 0 (.res (Bl ds))) S (Bp ψ 0 (ψ 0)) W:=H.set (v':=ψ 0) h0 V ⟨rfl,rfl,rfl,iY _,λ_ _ _=>rfl⟩ X
   ⟨λg hg=>J.1 g (fE _ hg),F.2,λd Z=>J.2.2 d (fE _ Z)⟩ λg hg=>.inl (fE _ hg)
  have U:¬owns (h.set 0 (.res (Bl ds))) (Bp ψ 0 (ψ 0)) D:=λ⟨j,h1,h2⟩=>by
   by_cases O:j=0
   ·subst O;rw[eJ B]at h2;exact F.1 h2
   ·rw[eI (Ne.symm O)]at h1 h2;rw[BG O]at h2;exact H.dis j 0 O h1 (by rw[h0];rfl) D h2 (by rw[h0];show D∈D::ds;simp)
  refine Uq ds _ _ S _ (λW S ψ h1=>?_) (eJ B) (H1.other _ Y.1 Y.2.1 U);rw[List.set_set]at h1;exact z W S ψ h1
theorem My{tmps:Array cF}{U O:Nat}{J I:cF}{w:cI}(z:fn.results= #[.cell t ty,.cell u uy])(X:Rw P ty=jG (aH,1))(W:Rw P uy=jG (aH,1))
 (h1:tmps.getD t undef= .pointer (jG ⟨U,0,jF⟩))(h2:tmps.getD u undef= .pointer (jG ⟨O,0,jF⟩))(H:w.cell? ⟨U,0,jF⟩=jG J)(F:w.cell? ⟨O,0,jF⟩=jG I):(results fn tmps).run P w= .ok (.tuple #[J,I]) w:=by
 have B:=I7 (P:=P) (ty:=ty) X H;have l2:=I7 (P:=P) (ty:=uy) W F;unfold Instr.loadAt Instr.sureAddr at B l2;simp only[zan]at B l2;rw[Array.getD_eq_getD_getElem?]at h1 h2;simp[results,z,h1,h2,asAddr,B,l2]
def Ayx{ι:Type}(t u:Tmp)(Rs:ι->Res)(val:ι->cF):Exit->St->Prop:=λe s=>(e= .normal\/e= .ret)/\∃ds H F i j k p B z,s.h[0]? =jG (.res (Bl ds))/\mkD s.h=ds.map Ki/\i≠0/\j≠0/\k≠0/\s.h[i]? =jG (.res (Bf H [.lit B]))/\s.h[j]? =jG (.res (Bf F [.lit z]))/\s.h[k]? =jG (.res (Rs p))/\
 evA s.t (.tmp t)= .lit (.pointer (jG ⟨H,0,jF⟩))/\evA s.t (.tmp u)= .lit (.pointer (jG ⟨F,0,jF⟩))/\val p= .tuple #[B,z]
theorem Qe{f:aR}{c:Code}{args:List AV}{ι:Type}{Rs:ι->Res}{val:ι->cF}(hf:P.funcs[f]? =jG fn)(hb:fn.body=jG c)(hE:Cd P f=aK)(U:fn.results= #[.cell t ty,.cell u uy])(ha:Rw P ty=jG (aH,1))(ae:Rw P uy=jG (aH,1))(hn:fn.ntmps=n)
 (hS:∀p w S S',(Rs p).R w S->(Rs p).R w S')
 (h:∀C:Ctx,C.std->C.rd=jF->Awp P C c (Ayx t u Rs val) ⟨args++fW (n - args.length) (.lit undef),[.res (Bl [])]⟩):Nd P f args Rs val:=by
 refine⟨hE,λw S vs af hr=>(cQ (n:=4)).1 (callsIn_of_wp_marks hf hb trivial ?_)⟩;rw[hn];have aa:St.rel ⟨w,S,λk=>k < w.heap.size,jF⟩ ⟨args++fW (n - args.length) (.lit undef),[.res (Bl [])]⟩ {tmps:=vs.toArray++aD (n - vs.toArray.size) undef,defers:=[]} w:=by
  obtain⟨I,Z,ψ,H,Y⟩:=Dq (n:=n) af hr;have X:=Ext.push (w:=w) (w':=w) (S:=Z) (h:=[]) (ψ:=ψ) (.res (Bl [])) undef λ_ _=>rfl
  exact⟨rfl,Z,_,H.push (b:=.res (Bl [])) (v:=undef) (cA _ _) (show HI _ _ _ _ _ _ (.res (Bl []))from⟨λg hg=>(fS hg).elim,show([]:List Nat).Nodup/\∀d∈([]:List Nat),w.heap[d]? =jG (.deferred (jG []))from⟨fR,λd I=>(fS I).elim⟩⟩) (λg hg=>(fS hg).elim),AA X _ _ Y⟩
 have hw:=h ⟨w,S,λk=>k < w.heap.size,jF⟩ (λ_ h=>h) V _ w aa;refine wpIn_mono hw ?_;rintro e a' w' ⟨s,⟨he,ds,g1,g2,i,j,k,p,v1,v2,h0,hm,ad,ac,ab,hi,hj,hk,ht,hu,O⟩,I,Z,ψ,H,Y⟩;have F:=Bw Y (.tmp t);have B:=Bw Y (.tmp u);rw[ht]at F;rw[hu]at B;unfold gU at F B;rw[hm]at I;have z:∀{W:cI} {S2:Nat->Prop} {g:Nat} {v:cF},(Bf g [.lit v]).R W S2->W.cell? ⟨g,0,jF⟩=jG v:=λ{W S2 g v} hR=>by
  obtain⟨cs,e',h1,h2⟩:=hR;simp only[Af,gU]at h2;obtain⟨_,_,rfl,rfl,rfl⟩:=h2;simp[cJ,h1]
 have J:=Uq (P:=P) (C:=⟨w,S,λk=>k < w.heap.size,jF⟩) (fn:=fn) (tmps:=a'.tmps) (R:=λe w'=>∃v,e= .returned v/\Turns w S (λ_=>False) Rs val v w') (n:=4) ds w' s.h Z ψ (λW S2 ai h1=>by
  have hB:=h1.blk k (.res (Rs p)) (by rw[eI (Ne.symm ab)];exact hk);have ah:=h1.blk i (.res (Bf g1 [.lit v1])) (by rw[eI (Ne.symm ad)];exact hi);have ag:=h1.blk j (.res (Bf g2 [.lit v2])) (by rw[eI (Ne.symm ac)];exact hj);refine⟨_,My U ha ae F B (z ah.2) (z ag.2),_,rfl,⟨h1.bel.os,h1.bel.tape,h1.bel.output,h1.bel.size,λk hk _=>h1.bel.block k hk⟩,p,O.symm,hS p _ _ _ hB.2,λk hk=>?_⟩;obtain⟨k1,k2,k3⟩:=hB.1 k hk;exact⟨.inr (iX k1),k3⟩) h0 H
 rcases he with rfl|rfl
 ·show aU aO 4 P fn a'.tmps _ a'.defers .returning w';rw[I];exact J
 ·show aU aO 4 P fn a'.tmps _ a'.defers .returning w';rw[I];exact J
open Go.Proofs Go.Shelf
attribute [local go_sem] Oper.semAt_some
theorem Vh(F:Fence)(n:Nat)(h78:F.fn 52)(hro:F.round=jF)(A:Option Addr)(m c:Nat)(w:cI):
 aN F n bK 52 #[.slice A m c] w λe w'=>e= .returned (.func (.func 90) #[] #[.pointer (jG ⟨w.heap.size,0,jF⟩)])/\w'=w.alloc (.cells #[.slice A m c] 27):=by
 refine cP Tryz.func52 V h78 ?_ hro;simp only[Tryz.ntmps52,Nat.reduceAdd,Nat.reduceSub,zae]
 gi_wp2
 go_ret
 exact⟨rfl,rfl⟩
theorem Vi(F:Fence)(n:Nat)(h105:F.fn 90)(hro:F.round=jF)(hn:1<=n)(l:Nat)(ds:List Int)(A:Option Addr)(c Bb:Nat)(S0 S:Nat->Prop)(hS0:∀k,S0 k->S k)(W0 W:cI)(J:Nat->cI->Prop)
 (hW:KS S W0 W)
 (hY:∀(k j:Nat) (d:Int) (W:cI),k+j+1=ds.length->ds[j]? =jG d->J k W->YieldAt F (n - 1) bK l #[.int .i64 (j:Int),.int .i64 d] W λe W'=>e= .returned (.bool aK)/\J (k+1) W'/\KS S W W')
 (hB:S Bb)(hB0:W0.cell? ⟨Bb,0,jF⟩=jG (.slice A ds.length c))(hR:tInt.slice.RS W0 S0 [.slice A ds.length c] ds)(hl:ds.length<=2147483648)(h0:J 0 W):
 aN F n bK 90 #[.func (.yield l) #[] #[],.pointer (jG ⟨Bb,0,jF⟩)] W λe W'=>(∃v,e= .returned v)/\J ds.length W':=by
 have HR:=aW hR;have HY:=aW hY;have H0:=aW h0;have x1:aS.wrap ((ds.length:Int) - 1)=(ds.length:Int) - 1:=aT _ (by omega);have hb0:=hW.cell hB hB0;clear hR hY h0;refine cP Tryz.func90 V h105 ?_ hro;simp only[Tryz.ntmps90,Nat.reduceAdd,Nat.reduceSub,zae]
 gi_wp2
 gi_loopw [3] (λi wr=>∃m:Nat,m<=ds.length/\i= .int .i64 ((m:Int) - 1)/\J (ds.length - m) wr/\KS S W wr) (λi _=>(cB i+1).toNat)
 case atStart=>exact⟨ds.length,iY _,rfl,by rw[Nat.sub_self];exact H0.out,KS.refl⟩
 case round=>
  obtain⟨m,hm,rfl,hJ,hK⟩:=hrel;rcases m with _|j
  ·have d0:aL ((0:Int)<=((0:Nat):Int) - 1)=aH:=decide_eq_false (by omega)
   gi_wp2
   go_end0
   exact⟨⟨_,rfl⟩,hJ⟩
  ·have ej:((j+1:Nat):Int) - 1=(j:Int):=by omega
   rw[ej];have d0:aL ((0:Int)<=(j:Int))=aK:=decide_eq_true (by omega);have x2:aS.wrap ((j:Int) - 1)=(j:Int) - 1:=aT _ (by omega);obtain⟨x,hxk⟩:∃x,ds[j]? =jG x:=⟨_,eE (by omega)⟩
   obtain⟨ib,io,rfl,hib,hat,_⟩:=L4 HR.out hxk;replace hib:=hS0 _ hib;have hK0:=hW.trans hK;have e0:=hK0.cell (a:=⟨ib,_,jF⟩) hib hat;have eb:=hK0.cell hB hB0;have hjl:(j:Int) < (ds.length:Int):=by omega
   obtain⟨fn,tmps,assign,body,hy,hR⟩:=HY.out (ds.length - (j+1)) j x wr (by omega) hxk hJ;clear hat hxk
   gi_wp2
   refine hR.mono ?_;rintro e W3 ⟨rfl,hJ3,hk3⟩
   gi_wp2
   go_roundw
   case rel=>
    refine⟨j,by omega,rfl,?_,hK.trans hk3⟩;rw[show ds.length - (j+1)+1=ds.length - j by omega]at hJ3;exact hJ3
   case measure=>simp[cB]
def At9(ds:List Int)(p:Nat×Option Addr×Nat):Res:=⟨[],λg=>g=p.1,λw S=>w.heap[p.1]? =jG (.cells #[.slice p.2.1 ds.length p.2.2] 27 (0,0))/\tInt.slice.RS w S [.slice p.2.1 ds.length p.2.2] ds,
 λh hk B z=>⟨(hk _ V).trans h.1,tInt.slice.keepS h.2 B z⟩⟩
def Azz(p:Nat×Option Addr×Nat):cF:=.func (.func 90) #[] #[.pointer (jG ⟨p.1,0,jF⟩)]
theorem SG(ds:List Int):Nd bK 52 [.bs tInt ds] (At9 ds) Azz:=by
 refine⟨by kernel_rfl,λw S vs H F=>?_⟩;unfold Af gU Af at F;obtain⟨v,_,rfl,B,rfl⟩:=F;obtain⟨A,c,e,hx⟩:=id B;simp only[List.cons.injEq,and_true]at e;subst e;refine((cQ (n:=4)).1 (Vh aO 4 trivial V A ds.length c w)).mono ?_;rintro e w' ⟨rfl,rfl⟩;have z:Below w.heap.size w (w.alloc (.cells #[.slice A ds.length c] 27)):=(cA _ _).alloc (iY _) _;exact⟨_,rfl,⟨z.os,z.tape,z.output,z.size,λk hk _=>z.block k hk⟩,(w.heap.size,A,c),rfl,⟨cV w _,tInt.slice.keepS B (λk hk=>z.block k (H k hk)) λ_ h=>h⟩,λk hk=>by
  have hk:k=w.heap.size:=hk;subst hk;exact⟨.inr (iY _),by simp⟩⟩
def Ajh(ds:List Int)(k:Nat):List AV:=match ds[ds.length - 1 - k]? with
 |some d=>[.lit (.int .i64 ((ds.length - 1 - k:Nat):Int)),.lit (.int .i64 d)]
 |none=>(A2 [])
theorem QJ(ds:List Int)(B:ds.length<=2147483648)(p:Nat×Option Addr×Nat)(w:cI)(S:Nat->Prop)(Z:∀k,S k->k < w.heap.size)(hF:∀k,(At9 ds p).F k->k < w.heap.size)(z:(At9 ds p).R w S):
 Ar2 bK 90 #[.pointer (jG ⟨p.1,0,jF⟩)] (λk=>S k\/(At9 ds p).F k) w (λk vs=>Af w S [] ψ0 (Ajh ds k) vs) ds.length:=λl J W U O h0=>by
 refine Vi aO 3 trivial V (by decide) l ds p.2.1 p.2.2 p.1 S (λk=>S k\/(At9 ds p).F k) (λ_ h=>.inl h) w W J U ?_ (.inr V) (Oo (cs:=[_]) z.1 V) z.2 B h0;intro k j d Y F I X;refine O k [.int .i64 (j:Int),.int .i64 d] Y (by omega) ?_ X;have H:ds.length - 1 - k=j:=by omega
 show Af w S [] ψ0 (Ajh ds k) _;unfold Ajh;rw[H,I];unfold Af;refine⟨_,_,rfl,by unfold gU;rfl,?_⟩;unfold Af;exact⟨_,_,rfl,by unfold gU;rfl,by unfold Af;rfl⟩
theorem Arp(ds:List Int)(k:Nat):Bh (Ajh ds k)=aK:=by
 unfold Ajh;split <;> rfl
theorem Amm(ds:List Int)(k:Nat):(Ajh ds k).length=2:=by
 unfold Ajh;split <;> rfl
end Mu
