/-
  Lemmas for T, part 3.
  Conditions: as each lemma says.
-/
import Derived.Test.YtnhheaffnpflfaaGreatCu2
import Derived.Shelf.Strconv.Itoa3
import Derived.Shelf.Slices.Empties
import Derived.Shelf.SlSortCmp.NoneTotal
import Derived.Shelf.SlicesG.Cmp
import Derived.StillTailTactics
set_option maxRecDepth 100000
set_option maxHeartbeats 8000000
set_option linter.unusedSimpArgs false
set_option linter.unusedVariables false
open Array renaming getElem?_eq_some_iff->aA,getElem?_modify->aB,getElem?_toList->aC,length_toList->aD,mem_append->aE,toList_map->aF
open Bool renaming and_eq_true->aG,decide_or->aH,false->aI,false_eq_true->aJ,false_or->aK,or_assoc->aL,or_eq_true->aM,true->aN
open Decidable renaming decide->aO
open Go renaming Calls->aP,CallsIn->aR,DataW->aS,FuncId->aU,MapEntry->a6,MemPlace->a8,Oper->bC,Operand->bD,Program->bE,TypeId->eQ,Value->eR,World->eX,callsIn_wide->fA,execOp->fB,getObj->fC,heap_alloc_new->fD,maxLen->fE,plainElem->fF,rounds_succ->fG
open Go.Fence renaming wide->aT
open Go.Instr renaming entry->aV,mapUpdate->aW
open Go.IntKind renaming i64->aX
open Go.Lib renaming compact->aY,compareInt->aZ
open Go.Maps renaming size->a7
open Go.Obj renaming cells->bA
open Go.Op renaming operands->bB
open Go.Proofs.Tryz renaming func107->bF,func111->bG,func126->bH,func127->bI,func128->bJ,func146->bK,func147->bL,func97->bM,func99->bN,isAgg0->bO,isAgg104->bP,isAgg143->bR,isAgg144->bS,isAgg151->bT,isAgg166->bU,isAgg170->bV,isAgg185->bW,isAgg186->bX,isAgg27->bY,isAgg3->bZ,isAgg4->b9,isAgg45->cA,isAgg5->cB,isAgg68->cC,isAgg9->cD,ntmps128->cE,prog->cF,sizeOf0->cG,sizeOf104->cH,sizeOf143->cI,sizeOf144->cJ,sizeOf151->cL,sizeOf166->cM,sizeOf170->cN,sizeOf185->cO,sizeOf186->cP,sizeOf27->cQ,sizeOf3->cR,sizeOf4->cT,sizeOf45->cU,sizeOf5->cV,sizeOf68->cW,sizeOf9->cX,underlying0->cY,underlying104->cZ,underlying109->dA,underlying143->dB,underlying144->dC,underlying151->dD,underlying166->dE,underlying170->dF,underlying185->dG,underlying186->dH,underlying27->dI,underlying3->dJ,underlying4->dK,underlying41->dL,underlying45->dM,underlying5->dN,underlying51->dO,underlying68->dP,underlying9->dQ,zeroValue0->dR,zeroValue104->dT,zeroValue143->dU,zeroValue144->dV,zeroValue151->dW,zeroValue166->dX,zeroValue170->dY,zeroValue185->dZ,zeroValue186->eA,zeroValue27->eB,zeroValue3->eC,zeroValue4->eD,zeroValue45->eE,zeroValue5->eF,zeroValue68->eG,zeroValue9->eH
open Go.Result renaming andThen->eI,andThen_ok->eJ
open Go.RowKit.Below renaming refl->eK
open Go.Shelf renaming Ren->eL
open Go.Sort renaming ahead->eM,alloc_eq_grow->eN,putCells->eO,putRow->eP
open Go.Value renaming int->eS,map->eT
open Go.WideElems renaming rd_key->eU,rg->eV,rg_of->eW
open Go.World renaming cell?->eY,drew->eZ
open Int renaming lt_trichotomy->fH,max_def->fI,min_def->fJ,toNat_natCast->fK
open List renaming all_eq_true->fM,any_eq_true->fN,append_assoc->fO,append_nil->fP,cons_append->fQ,contains_eq_mem->fR,contains_iff_mem->fS,count_append->fT,count_cons_self->fU,drop_zero->fV,eq_nil_of_length_eq_zero->fW,ext_getElem?->fX,filter_append->fY,filter_cons->fZ,filter_eq_nil_iff->gB,filter_nil->gC,findIdx?_eq_none_iff->gD,findIdx?_eq_some_iff_getElem->gE,flatMap_append->gF,flatMap_cons->gG,flatMap_nil->gH,foldl_append->gI,foldl_cons->gJ,getD_eq_getElem?_getD->gK,getElem?_append_right->gL,getElem?_cons_zero->gN,getElem?_drop->gO,getElem?_eq_getElem->gP,getElem?_eq_none->gQ,getElem?_eq_some_iff->gR,getElem?_map->gT,getElem?_range->gU,getElem?_replicate->gV,getElem?_set_ne->gW,getElem?_set_self->gX,getElem?_take_eq_none->gY,getElem?_take_of_lt->gZ,getElem_mem->g8,head?_drop->g9,length_append->hZ,length_cons->iA,length_erase_of_mem->iB,length_filter_le->iC,length_map->iD,length_mergeSort->iE,length_nil->iF,length_pos_of_mem->iG,length_reverse->iH,length_take->iI,map_append->iJ,map_cons->iK,map_nil->iL,mem_append->iM,mem_cons->iN,mem_cons_of_mem->iO,mem_cons_self->iP,mem_erase_of_ne->iQ,mem_filter->iR,mem_flatMap->iS,mem_iff_getElem?->iT,mem_map->iU,mem_of_getElem?->iV,mem_of_mem_take->iW,mem_or_eq_of_mem_set->iX,mem_range->iY,mem_reverse->iZ,mem_singleton->i6,mergeSort_perm->i7,nil_append->i8,nodup_append->i9,nodup_cons->jA,nodup_nil->jB,not_mem_nil->jC,pairwise_append->jD,pairwise_cons->jE,pairwise_map->jF,pairwise_reverse->jG,range->jH,range_succ->jI,replicate->jJ,set_cons_succ->jK,set_cons_zero->jL,sum_append->jM,sum_cons->jN,take_add_one->jO,take_append_drop->jP,take_length->jQ,take_of_length_le->jR,take_one->jS,take_zero->jT
open List.Pairwise renaming nil->fL
open Mu renaming ABlk->jU,Block->jY,Edge->j7,EncOf->j8,Func->kE,LOut->kF
open Mu.AV renaming cl->jV,rel->jW
open Mu.Awp renaming region->jX
open Mu.Cut renaming cons->jZ,dead->j5,nil->j6
open Mu.Fin renaming cl->j9,own->kA
open Mu.Fit renaming bool->kB,bs->kC,int->kD
open Mu.OpnB renaming any->kG,keep->kH,nil->kI,ptr->kJ
open Mu.Ty renaming bool->kK
open Nat renaming add_assoc->kL,add_comm->kM,add_mul->kO,add_zero->kP,le_of_ble_eq_true->kQ,le_refl->kR,le_trans->kS,lt_of_lt_of_le->kT,mul_le_mul->kU,mul_one->kV,one_mul->kW,zero_le->kX,zero_lt_one->kY
open Ne renaming symm->kZ
open Option renaming isSome_map->lA,none->lB,some->lC,toList_some->lF
open Option.some renaming inj->lD,injEq->lE
abbrev Mu.zaq.{u}:=And.intro @iM.{u} (And.intro @iN.{u} (@jC.{u}))
abbrev Mu.zaw.{u}:=And.intro @hZ.{u} (And.intro @iA.{u} (@iF.{u}))
namespace Mu
open Go Go.RowKit Go.Proofs
variable{b:Nat}{f:kE}{l:List Ins}
def Tk(l:List Ins)(m:Nat):Nat:=((l.take m).map λx=>x.args.length).sum
def sumB(f:kE)(b:Nat):Nat:=((f.blocks.take b).map λa=>a.ins.length+Tk a.ins 200).sum
def Jq(f:kE):Bool:=aO (40 < f.blocks.length)||decide (250 < sumB f 60)
theorem Tj{m:Nat}{x:Ins}(hx:l[m]? =lC x):Tk l (m+1)=Tk l m+x.args.length:=by
 unfold Tk;rw[jO,hx,iJ,jM];simp
theorem Ti{x:jY}(hx:f.blocks[b]? =lC x):sumB f (b+1)=sumB f b+(x.ins.length+Tk x.ins 200):=by
 unfold sumB;rw[jO,hx,iJ,jM];simp
theorem Adt(h:∀x∈l,x.args.length<=2097152)(m:Nat):Tk l m<=m * 2097152:=by
 induction m with
 |zero=>simp[Tk]
 |succ m a=>
  cases hx:l[m]? with
  |none=>
   have:Tk l (m+1)=Tk l m:=by unfold Tk;rw[jO,hx];simp
   omega
  |some x=>
   rw[Tj hx];have:=h x (iV hx);omega
theorem Ao5(c:smallF f)(b:Nat):sumB f b<=b * 421527552:=by
 induction b with
 |zero=>simp[sumB]
 |succ b d=>
  cases hx:f.blocks[b]? with
  |none=>
   have:sumB f (b+1)=sumB f b:=by unfold sumB;rw[jO,hx];simp
   omega
  |some x=>
   rw[Ti hx];have h1:=c.all x (iV hx);have h2:=h1.ins;have e:=Adt (l:=x.ins) (λy a=>by have:=h1.all y a;omega) 200;omega
theorem Ajt{i:Nat}(hi:i<=l.length)(h:¬(i < l.length/\i < 200))(h2:i<=200):Tk l i=Tk l 200:=by
 by_cases a:i < l.length
 ·have:i=200:=by omega
  rw[this]
 ·have:i=l.length:=by omega
  unfold Tk;rw[jR (by omega),jR (by omega)]
theorem Ajs(hi:b<=f.blocks.length)(h:¬(b < f.blocks.length/\b < 60))(h2:b<=60):sumB f b=sumB f 60:=by
 by_cases a:b < f.blocks.length
 ·have:b=60:=by omega
  rw[this]
 ·have:b=f.blocks.length:=by omega
  unfold sumB;rw[jR (by omega),jR (by omega)]
theorem Tc{p q:Bool}(h:¬(p=aN/\q=aN)):p=aI\/(p=aN/\q=aI):=by cases p <;> cases q <;> simp at h⊢
theorem Aap(f:kE)(A:smallF f):Fn cF 19 [.agg (Ak f)] (.lit (.bool (Jq f))):=by
 have T:=A.blocks;refine AQ Tryz.func19 V (by kernel_rfl) V Tryz.ntmps19 λC hC=>?_
 refine nS ?_;refine rRS ?_;refine rRS ?_;refine Ab λK3 h3=>?_
 refine rRS ?_;refine Ad ?_;refine AH (λb:Nat=>⟨(.any::.ptr 0 0::.any::.lit (.int .i64 (sumB f b:Int))::.lit (.int .i64 (b:Int))::A40 (A10 (A7 []))),[.box (Ak f)]⟩) (λb=>b<=f.blocks.length/\b<=60) (λb=>f.blocks.length - b) 0 ⟨kX _,kX _⟩ (BX) ?_;rintro b ⟨d,u⟩;have K:=Ao5 A b;refine Ab λK5 Z=>?_
 by_cases e:b < f.blocks.length/\b < 60
 ·have S:aO ((b:Int) < (f.blocks.length:Int))=aN:=by simpa using e.1
  have Q:aO ((b:Int) < 60)=aN:=by simp;omega
  obtain⟨c,t⟩:∃c,f.blocks[b]? =lC c:=⟨_,gP e.1⟩
  have q:=A.all c (iV t);have U:=q.ins;have r:=Ti t;refine rRS ?_;refine Ah V (λW=>?_) (λd=>by cases d);refine Al ?_;refine Z _ ?_;refine nT ?_;refine Ab λK8 X=>?_
  refine Ad ?_;refine rRS ?_;refine rRS ?_;refine Ad ?_;refine AH (λi:Nat=>⟨(.any::.ptr 0 0::.any::.lit (.int .i64 ((sumB f b+c.ins.length+Tk c.ins i:Nat):Int))::.lit (.int .i64 (b:Int))::.lit (.int .i64 (i:Int))::A40 (A10 (A6 []))),[.box (Ak f)]⟩) (λi=>i<=c.ins.length/\i<=200) (λi=>c.ins.length - i) 0 ⟨kX _,kX _⟩ (BX) ?_;rintro i ⟨hi,o⟩;have L:=Adt (l:=c.ins) (λy I=>by have:=q.all y I;omega) i;refine Ab λac E=>?_
  by_cases g:i < c.ins.length/\i < 200
  ·have P:aO ((i:Int) < (c.ins.length:Int))=aN:=by simpa using g.1
   have O:aO ((i:Int) < 200)=aN:=by simp;omega
   obtain⟨x,hx⟩:∃x,c.ins[i]? =lC x:=⟨_,gP g.1⟩
   have J:=q.all x (iV hx);have z:=Tj hx;refine rRS ?_;refine Ah V (λG=>?_) (λd=>by cases d);refine Al ?_;refine E _ ?_;refine nT ?_;refine Ab λab B=>?_
   refine Ad ?_;refine rR ?_;refine B _ ?_;refine nT ?_;refine rR ?_;refine Ap ⟨i+1,⟨by omega,by omega⟩,by omega,?_⟩;rw[z,<-kL];exact BX
  ·have k:aO ((i:Int) < (c.ins.length:Int))=aI\/(aO ((i:Int) < (c.ins.length:Int))=aN/\aO ((i:Int) < 200)=aI):=Tc λh=>g ⟨by simpa using h.1,by have:=of_decide_eq_true h.2;omega⟩
   refine Ab λF D=>?_
   have m:=Ajt hi g o;have a:∀j:St,St.le C j ⟨(.any::.ptr 0 0::.any::.lit (.int .i64 ((sumB f b+c.ins.length+Tk c.ins 200:Nat):Int))::.lit (.int .i64 (b:Int))::A20 (A10 (A3 (.lit (.bool aI)::A20 (A3 []))))),[.box (Ak f)]⟩->F j:=λj n=>by
    refine D _ (AK _ n ?_);refine Ah V (λd=>by cases d) (λd=>?_);refine Ay ?_;refine X _ ?_;refine nT ?_;refine rR ?_;refine Ap ⟨b+1,⟨by omega,by omega⟩,by omega,?_⟩;rw[r,<-kL];exact BX
   rw[<-m]at a;rcases k with w|⟨w,H⟩
   all_goals
    refine rR ?_;refine Ap (a _ ?_);exact BX
 ·have k:aO ((b:Int) < (f.blocks.length:Int))=aI\/(aO ((b:Int) < (f.blocks.length:Int))=aN/\aO ((b:Int) < 60)=aI):=Tc λh=>e ⟨by simpa using h.1,by have:=of_decide_eq_true h.2;omega⟩
  refine Ab λK6 Y=>?_
  have m:=Ajs d e u;have a:∀j:St,St.le C j ⟨(.any::.ptr 0 0::.any::.lit (.int .i64 (sumB f 60:Int))::A10 (.lit (.bool aI)::A40 (A7 []))),[.box (Ak f)]⟩->K6 j:=λj n=>by
   refine Y _ (AK _ n ?_);refine Ah V (λd=>by cases d) (λd=>?_);refine Ay ?_;refine h3 _ ?_;refine nT ?_;refine Ab λaa v=>?_
   have s:aO ((f.blocks.length:Int) > 40)=aO (40 < f.blocks.length):=by rw[decide_eq_decide];omega
   have N:aO ((sumB f 60:Int) > 250)=aO (250 < sumB f 60):=by rw[decide_eq_decide];omega
   rcases hq1:aO (40 < f.blocks.length)with _|_
   ·rw[hq1]at s;refine rR ?_;refine v _ ?_;refine nT ?_;refine Aw ?_;have:Jq f=aO (250 < sumB f 60):=by unfold Jq;rw[hq1];rfl
    rw[this];exact⟨.inr V,j9 V⟩
   ·rw[hq1]at s;refine rR ?_;refine v _ ?_;refine nT ?_;refine Aw ?_;have:Jq f=aN:=by unfold Jq;rw[hq1];rfl
    rw[this];exact⟨.inr V,j9 V⟩
  rw[<-m]at a;rcases k with w|⟨w,H⟩
  all_goals
   refine rR ?_;refine Ap (a _ ?_);exact BX
end Mu
namespace Mu
open Go
variable{L:List Int}{S:Int->Bool}{Ss Ss0:List (Int->Bool)}{b:Nat}{f:kE}{k:Nat}{r:Int}
def SE(f:kE)(b:Nat):List Int:=(GV f f.blocks.length).getD b []
theorem Vr{f:kE}(m b:Nat)(j:b < f.blocks.length):∀(a:List (Blk f)) (c:List (List Int)),c.length=f.blocks.length->∀x,x∈(KZ m a c).getD b []↔x∈c.getD b []\/(x=(m:Int)/\∃y∈a,y.1=b)
 | [],c,_,x=>by simp[KZ]
 |y::a,c,i,x=>by
  show x∈(KZ m a (Acv m c y)).getD b []↔_;rw[Vr m b j a (Acv m c y) (by simp[Acv,i]) x];have e:x∈(Acv m c y).getD b []↔x∈c.getD b []\/(x=(m:Int)/\y.1=b):=by
   unfold Acv;by_cases g:y.1=b
   ·rw[<-g,gK,gX (by rw[i];exact y.2)];simp
   ·rw[gK,gW g,<-gK];simp[g]
  rw[e];constructor
  ·rintro((h|h)|⟨h1,z,h2,d⟩)
   ·exact .inl h
   ·exact .inr ⟨h.1,y,by simp,h.2⟩
   ·exact .inr ⟨h1,z,by simp[h2],d⟩
  ·rintro(h|⟨h1,z,h2,d⟩)
   ·exact .inl (.inl h)
   ·rcases iN.1 h2 with rfl|h2
    ·exact .inl (.inr ⟨h1,d⟩)
    ·exact .inr ⟨h1,z,h2,d⟩
theorem Y0{f:kE}(b:Nat)(c:b < f.blocks.length):∀(m:Nat) (x:Int),x∈(GV f m).getD b []↔∃k:Nat,k < m/\j7 f k b/\x=(k:Int)
 |0,x=>by
  rw[GV,gK,gV];split <;> simp
 |m+1,x=>by
  rw[GV,Vr m b c _ _ (Gb f m),Y0 b c m];constructor
  ·rintro(⟨k,h1,h2,a⟩|⟨h1,y,h2,a⟩)
   ·exact⟨k,by omega,h2,a⟩
   ·exact⟨m,by omega,⟨y,h2,a⟩,h1⟩
  ·rintro⟨k,h1,h2,a⟩;by_cases hk:k=m
   ·subst hk;obtain⟨y,e,d⟩:=h2;exact .inr ⟨a,y,e,d⟩
   ·exact .inl ⟨k,by omega,h2,a⟩
theorem Ir(h:j7 f k b):k < f.blocks.length/\b < f.blocks.length:=by
 obtain⟨y,h1,rfl⟩:=h;refine⟨?_,y.2⟩;unfold Hg at h1;rw[if_pos (by omega)]at h1;simp only[fK]at h1;cases hk:f.blocks[k]? with
 |none=>rw[hk]at h1;cases h1
 |some a=>exact(gR.1 hk).1
theorem J6(c:b < f.blocks.length)(x:Int):x∈SE f b↔∃k:Nat,j7 f k b/\x=(k:Int):=by
 unfold SE;rw[Y0 b c];constructor
 ·rintro⟨k,_,h2,a⟩;exact⟨k,h2,a⟩
 ·rintro⟨k,h2,a⟩;exact⟨k,(Ir h2).1,h2,a⟩
def at_(Ss:List (Int->Bool))(k:Nat):Int->Bool:=Ss.getD k λ_=>aI
theorem Aig{j:Nat}(hk:k < Ss.length):at_ (Ss.set k S) j=if j=k then S else at_ Ss j:=by
 unfold at_;by_cases a:j=k
 ·subst a;rw[if_pos V,gK,gX hk];rfl
 ·rw[if_neg a,gK,gW (kZ a),<-gK]
def Pv(L:List Int)(Ss:List (Int->Bool)):Nat:=(Ss.map λS=>L.length - (L.filter S).length).sum
theorem Yt{L:List Int}:∀{Ss:List (Int->Bool)} {k:Nat} {S N:Int->Bool},Ss[k]? =lC S->(L.filter S).length < (L.filter N).length->Pv L (Ss.set k N) < Pv L Ss
 | [],k,S,N,h,_=>by simp at h
 |T::Ss,0,S,N,h,a=>by
  have h:T=S:=by simpa using h
  subst h;have:=iC N L;simp only[Pv,jL,iK,jN];omega
 |T::Ss,k+1,S,N,h,a=>by
  have:=Yt (L:=L) (Ss:=Ss) (k:=k) (by simpa using h) a;simp only[Pv,jK,iK,jN]at this⊢;omega
theorem Ap2(L:List Int)(Ss:List (Int->Bool)):Pv L Ss<=Ss.length * L.length:=by
 induction Ss with
 |nil=>simp[Pv]
 |cons S Ss a=>
  simp only[Pv,iK,jN,iA]at a⊢;rw[kO,kW];omega
structure AllI(f:Func)(L:List Int)(wait:List Nat)(Ss:List (Int->Bool)):Prop where
 len:Ss.length=f.blocks.length
 lt:∀b∈wait,b < f.blocks.length
 sound:∀k r,at_ Ss k r=true->LOut f k r
 sub:∀k,Sub L (at_ Ss k)
 closed:∀k b,Edge f k b->b∉wait->∀r,inS (Cn f b) (at_ Ss b) r=true->at_ Ss k r=true
structure AllJ(f:Func)(L:List Int)(b:Nat)(wait0:List Nat)(Ss0:List (Int->Bool))(pre:List Int)(wait:List Nat)(Ss:List (Int->Bool)):Prop where
 len:Ss.length=f.blocks.length
 lt:∀b∈wait,b < f.blocks.length
 sound:∀k r,at_ Ss k r=true->LOut f k r
 sub:∀k,Sub L (at_ Ss k)
 mono:∀k r,at_ Ss0 k r=true->at_ Ss k r=true
 kept:∀k,k∉wait->at_ Ss k=at_ Ss0 k/\k∉wait0
 done:∀k:Nat,(k:Int)∈pre->∀r,inS (Cn f b) (at_ Ss0 b) r=true->at_ Ss k r=true
 less:2 * Pv L Ss+wait.length<=2 * Pv L Ss0+wait0.length
theorem AllI.start{a:List Nat}(d:∀b,b∈a↔b < f.blocks.length):AllI f L a (jJ f.blocks.length λ_=>aI):=by
 have h0:∀k,at_ (jJ f.blocks.length λ_=>aI) k=λ_=>aI:=λk=>by
  unfold at_;rw[gK,gV];split <;> rfl
 refine⟨by simp,λb c=>(d b).1 c,λk r e=>(by rw[h0]at e;cases e),λk x hx=>(by rw[h0]at hx;cases hx),λk b g c=>?_⟩;exact absurd ((d b).2 (Ir g).2) c
theorem AllI.split{a:List Nat}(h:AllI f L (a++[b]) Ss):AllJ f L b a Ss [] a Ss:=
 ⟨h.len,λc hc=>h.lt c (by simp[hc]),h.sound,h.sub,λ_ _ h=>h,λk hk=>⟨rfl,hk⟩,λk hk=>by simp at hk,kR _⟩
theorem AllJ.done_all{a d:List Nat}(h0:AllI f L (a++[b]) Ss0)(h:AllJ f L b a Ss0 (SE f b) d Ss):AllI f L d Ss:=by
 refine⟨h.len,h.lt,h.sound,h.sub,λk c i hc r g=>?_⟩;obtain⟨m,j⟩:=h.kept c hc;rw[m]at g;by_cases e:c=b
 ·subst e;exact h.done k ((J6 (Ir i).2 _).2 ⟨k,i,rfl⟩) r g
 ·exact h.mono k r (h0.closed k c i (by simp[j,e]) r g)
theorem AllJ.step{a d:List Nat}{n:List Int}(h0:AllI f L (a++[b]) Ss0)(h:AllJ f L b a Ss0 n d Ss)(z:j7 f k b)(u:Ss[k]? =lC S)
 (A:∀x∈Cn f b,∀r∈readsC x,r∈L):
 let N:=inS (Cn f b) (at_ Ss0 b)
 AllJ f L b a Ss0 (n++[(k:Int)]) (if(L.filter S).length < (L.filter (uni S N)).length then d++[k]else d) (Ss.set k (uni S N)):=by
 intro N;have m:k < Ss.length:=(gR.1 u).1;have t:at_ Ss k=S:=by unfold at_;rw[gK,u];rfl
 have y:Sub L N:=(h0.sub b).inS A;have w:∀r,N r=aN->kF f k r:=λr g=>Ab9 z (λh=>h0.sound b r h) g
 have o:∀j r,at_ (Ss.set k (uni S N)) j r=aN↔at_ Ss j r=aN\/(j=k/\N r=aN):=λj r=>by
  rw[Aig m];by_cases hj:j=k
  ·subst hj;rw[if_pos V,t];simp[uni]
  ·rw[if_neg hj];simp[hj]
 have q:(Ss.set k (uni S N)).length=f.blocks.length:=by simp[h.len]
 refine⟨q,λc hc=>?_,λj r g=>?_,λj r g=>?_,λj r g=>(o j r).2 (.inl (h.mono j r g)),λj hj=>?_,λj hj r g=>?_,?_⟩
 ·split at hc
  ·rcases iM.1 hc with h1|h1
   ·exact h.lt c h1
   ·have:c=k:=by simpa using h1
    subst this;exact(Ir z).1
  ·exact h.lt c hc
 ·rcases(o j r).1 g with h1|⟨rfl,h1⟩
  ·exact h.sound j r h1
  ·exact w r h1
 ·rcases(o j r).1 g with h1|⟨rfl,h1⟩
  ·exact h.sub j r h1
  ·exact y r h1
 ·split at hj
  ·rename_i i;have s:j∉d/\j≠k:=by simpa using hj
   rw[Aig m,if_neg s.2];exact h.kept j s.1
  ·rename_i i;have e:uni S N=S:=XL y (by omega);rw[e,Aig m];split
   ·rename_i v;subst v;rw[<-t];exact h.kept j hj
   ·exact h.kept j hj
 ·rw[iM]at hj;rcases hj with hj|hj
  ·exact(o j r).2 (.inl (h.done j hj r g))
  ·have:j=k:=by
    have:(j:Int)=(k:Int):=by simpa using hj
    omega
   exact(o j r).2 (.inr ⟨this,g⟩)
 ·have h1:=h.less;split
  ·rename_i i;have:=Yt (L:=L) u i;simp only[hZ,List.length_singleton];omega
  ·rename_i i;have e:uni S N=S:=XL y (by omega);rw[e];have:Ss.set k S=Ss:=by
    apply fX;intro j;by_cases hj:k=j
    ·subst hj;rw[gX m,u]
    ·rw[gW hj]
   rw[this];exact h1
noncomputable def Yh(f:kE)(k:Nat):Int->Bool:=λr=>@decide (kF f k r) (Classical.propDecidable _)
theorem Of:Yh f k r=aN↔kF f k r:=by simp[Yh]
theorem AllI.end_(h:AllI f L [] Ss):Ss=(jH f.blocks.length).map (Yh f):=by
 have a:∀k r,kF f k r->at_ Ss k r=aN:=λk r i=>by
  induction i with
  |read c h1=>exact h.closed _ _ c (by simp) _ (by rw[Ux,h1];rfl)
  |pass c h1 _ g=>exact h.closed _ _ c (by simp) _ (by rw[Ux,h1,g];simp)
 apply fX;intro k;by_cases hk:k < f.blocks.length
 ·rw[gT,gU hk,gP (by rw[h.len];exact hk)];congr 1;funext r;have e:at_ Ss k=Ss[k]'(by rw[h.len];exact hk):=by unfold at_;rw[gK,gP (by rw[h.len];exact hk)];rfl
  rw[<-e];cases d:Yh f k r
  ·cases j:at_ Ss k r
   ·rfl
   ·have:=Of.2 (h.sound k r j);rw[d]at this;cases this
  ·exact a k r (Of.1 d)
 ·rw[gQ (by rw[h.len];omega),gQ (by simp;omega)]
theorem Anh{L:List Int}{r:Int}:∀{ds:List Ins},(∀x∈ds,∀r∈readsC x,r∈L)->rdB r ds=aN->r∈L
 | [],_,h=>by simp[rdB]at h
 |x::ds,a,h=>by
  simp only[rdB,fS,zay]at h;rcases h with h|⟨_,h⟩
  ·exact a x (by simp) r h
  ·exact Anh (λy c=>a y (by simp[c])) h
theorem Alj(c:∀b∈f.blocks,∀x∈b.ins,∀r∈readsC x,r∈L)(b:Nat):∀x∈Cn f b,∀r∈readsC x,r∈L:=λx hx=>by
 unfold Cn at hx;split at hx
 ·rename_i d a;exact c d (iV a) x hx
 ·cases hx
theorem Yg(h:∀b∈f.blocks,∀x∈b.ins,∀r∈readsC x,r∈L)(k:Nat):Sub L (Yh f k):=λr e=>by
 have a:∀k r,kF f k r->r∈L:=λk r c=>by
  induction c with
  |read g h1=>exact Anh (Alj h _) h1
  |pass g h1 c d=>exact d
 exact a k r (Of.1 e)
open Go.RowKit Go.Proofs Go.Maps
variable{Ss:List (Int->Bool)}{i:Nat}
theorem LU{k:Nat}(h:k<=9223372036854775807):wfI .i64 (k:Int):=by
 simp[wfI,Lit.wf,IntKind.min,IntKind.max,IntKind.signed,IntKind.bits];omega
def setsA(p:Nat×List Nat)(Ss:List (Int->Bool)):Res:=⟨[],λg=>g=p.1\/g∈p.2,λw _=>(∃e,w.heap[p.1]? =lC (.cells (p.2.map λm=>eT (lC m)).toArray e (0,0)))/\p.2.length=Ss.length/\p.2.Nodup/\∀(i m:Nat) (S:Int->Bool),p.2[i]? =lC m->Ss[i]? =lC S->IQ w m S,
 λh hk _ _=>⟨let ⟨e,h1⟩:=h.1;⟨e,(hk p.1 (.inl V)).trans h1⟩,h.2.1,h.2.2.1,λi m S a c=>(h.2.2.2 i m S a c).keep (hk m (.inr (iV a)))⟩⟩
def Ff(m:Nat):AV:=.lit (.map (lC m))
theorem QY{w:eX}{S:Nat->Prop}:∀{a:List Nat} {cs:List eR},Af w S [] ψ0 (a.map Ff) cs->cs=a.map λm=>eT (lC m)
 | [],cs,h=>by unfold Af at h;exact h
 |m::a,cs,h=>by
  simp only[iK]at h;unfold Af at h;obtain⟨v,vs,rfl,h1,h2⟩:=h;unfold Ff jW at h1;rw[h1,QY h2];rfl
section
variable{C:Ctx}{t:List AV}{h:List jU}{o:bC}
theorem Xw{j O:Nat}{a:List Nat}(c:i≠j)(hi:h[i]? =lC (.res (Bf O (a.map Ff))))(d:h[j]? =lC (.res (mapsR a Ss))):St.le C ⟨t,h⟩ ⟨t,(h.set j .dead).set i (.res (setsA (O,a) Ss))⟩:=
 K0 c hi d V V V (λg hg=>hg) λw S ⟨cs,e,h1,h2⟩ m _=>by
  rw[QY h2]at h1;exact⟨⟨e,h1⟩,m⟩
theorem Am4{n:Nat}{p:Nat×List Nat}(hi:h[i]? =lC (.res (setsA p Ss)))(A:Ss.length=n)(E:n<=fE)(a:mkD h= []:=by rfl):Fin h (.lit (.slice (lC ⟨p.1,0,lB⟩) n n)) (.bs Ane Ss):=⟨a,λC S ψ w v I H g=>by
 unfold jW at g;subst g;obtain⟨y,⟨e,G⟩,B,z,F⟩:=H.blk i _ hi;refine⟨λk=>S k\/(setsA p Ss).F k,λ_ h=>.inl h,λk hk=>?_,λk hk=>?_,?_⟩
 ·rcases hk with hk|hk
  ·exact .inl hk
  ·exact .inr (Nat.le_of_not_lt λc=>(y k hk).1 (I k c))
 ·rcases hk with hk|hk
  ·exact H.lt k hk
  ·exact(y k hk).2.2
 ·unfold jW;subst A;refine⟨_,_,rfl,kR _,⟨E,λe=>by cases e⟩,λj d x=>⟨p.1,0,rfl,.inr (.inl V),?_⟩⟩;have D:j < p.2.length:=by rw[B];exact(gR.1 x).1
  obtain⟨m,a⟩:∃m,p.2[j]? =lC m:=⟨_,gP D⟩
  refine⟨[.map (lC m)],⟨m,rfl,.inr (.inr (iV a)),F j m d a x⟩,λq u s=>?_⟩;cases q with
  |zero=>
   cases s;show w.cell? ⟨p.1,0+j * 1+0,lB⟩=_;rw[kV,Nat.zero_add,kP];exact Oo G (by rw[gT,a];rfl)
  |succ q=>cases s⟩
end
end Mu
namespace Mu
open Go Go.RowKit Go.Proofs
variable{f:kE}{k:Nat}{l:List Int}{p:Int->Bool}{x:Int}{α β:Type}
theorem Z8(f:kE)(b:Int)(c:¬(0<=b/\b < f.blocks.length)):Fn cF 128 [.agg (Ak f),.lit (.int .i64 b)] (.bs tInt []):=by
 refine VK (AQ bJ V (by kernel_rfl) V cE λC g=>?_);refine nS ?_;refine rRS ?_;refine Ab λm h2=>?_
 refine Ab λj d=>?_
 rcases hb:aO (b < 0)with _|_
 ·have e:aO (b≥(f.blocks.length:Int))=aN:=by simp at hb⊢;omega
  refine rR ?_;refine d _ ?_;refine nT ?_;refine Ah V (λa=>?_) (λa=>by cases a);refine rRS ?_;refine Aw ?_;exact⟨.inr V,j9 V⟩
 ·refine rR ?_;refine d _ ?_;refine nT ?_;refine Ah V (λa=>?_) (λa=>by cases a);refine rRS ?_;refine Aw ?_;exact⟨.inr V,j9 V⟩
theorem Z9(f:kE)(k:Nat)(c:jY)(hk:f.blocks[k]? =lC c)(m:f.blocks.length<=2097152)(d:c.ins= []):Fn cF 128 [.agg (Ak f),.lit (.int .i64 (k:Int))] (.bs tInt []):=by
 have e:k < f.blocks.length:=(gR.1 hk).1;have n:aO ((k:Int) < 0)=aI:=by simp
 have j:aO ((k:Int)≥(f.blocks.length:Int))=aI:=by simp;omega
 have g:((c.ins.length:Int) ==0)=aN:=by simp[d]
 refine VK (AQ bJ V (by kernel_rfl) V cE λC q=>?_);refine nS ?_;refine rRS ?_;refine Ab λs h2=>?_
 refine rRS ?_;refine Ah V (λa=>?_) (λa=>by cases a);refine rRS ?_;refine Aw ?_;exact⟨.inr V,j9 V⟩
theorem Afz(f:kE)(k:Nat)(n:jY)(x:Ins)(hk:f.blocks[k]? =lC n)(W:f.blocks.length<=2097152)(hi:n.ins.length<=2097152)(hx:n.ins.getLast? =lC x)(v:okIns x):
 Fn cF 128 [.agg (Ak f),.lit (.int .i64 (k:Int))] (.bs tInt ((if QR f x then [x.l1]else [])++if Ajl f x then [x.l2]else [])):=by
 have P:k < f.blocks.length:=(gR.1 hk).1;have F:0 < n.ins.length:=by
  cases G:n.ins with
  |nil=>rw[G]at hx;cases hx
  |cons y l=>simp
 have H:n.ins[((n.ins.length:Int) - 1).toNat]? =lC x:=by
  rw[List.getLast?_eq_getElem?]at hx;rw[<-hx];congr 1;omega
 have g:aO ((k:Int) < 0)=aI:=by simp
 have T:aO ((k:Int)≥(f.blocks.length:Int))=aI:=by simp;omega
 have Q:((n.ins.length:Int) ==0)=aI:=beq_eq_false_iff_ne.2 (by omega);have J:=v.l1;have I:=v.l2;have K:(1:Nat)<=fE:=by decide
 refine AQ bJ V (by kernel_rfl) V cE λC X=>?_
 refine nS ?_;refine rRS ?_;refine Ab λZ h2=>?_
 refine rRS ?_;refine Ah V (λw=>by cases w) (λw=>?_);refine Al ?_;refine h2 _ ?_;refine nT ?_;refine Ab λY U=>?_
 (refine Ai3 47 17 16 (by kernel_rfl) (by kernel_rfl) (by decide) V V ?_;simp only[zad];(repeat((first|(refine AA2 V V V ?_;(first|refine EV (AT.move V (by(conv=>lhs;whnf);try rfl)) ⟨rfl,?_⟩|refine EV (AT.assign V (by(conv=>lhs;whnf);try rfl)) ⟨rfl,?_⟩|refine EV (Bo V V V) ⟨rfl,?_⟩|refine EV (Cr V V) ⟨rfl,?_⟩|refine EV (CL V V V) ⟨rfl,?_⟩|refine EV (Be V V V V) ⟨rfl,?_⟩|refine EV (AC V V V) ⟨rfl,?_⟩|refine EV (Bs V V V (by assumption) V) ⟨rfl,?_⟩|refine EV (AR V V V V) ⟨rfl,?_⟩|refine EV (D2 V V V) ⟨rfl,?_⟩|refine EV (IA V V V V (by assumption)) ⟨rfl,?_⟩|refine EV (HF V V V V (by first|decide|omega) (by assumption)) ⟨rfl,?_⟩|refine EV (JI V V V V V (by first|assumption|omega)) ⟨rfl,?_⟩|refine EV (FM V V V V V (by first|decide|omega) (by first|assumption|omega)) ⟨rfl,?_⟩|refine EV (AT.ln V V) ⟨rfl,?_⟩|refine EV (Gg V V V) ⟨rfl,?_⟩|refine EV (JH V V) ⟨rfl,?_⟩|refine EV (Ee V V V (by omega)) ⟨rfl,?_⟩|refine EV (ER V V V (by omega)) ⟨rfl,?_⟩|refine EV (HG V V V V (by assumption)) ⟨rfl,?_⟩|refine EV (Cw V V V V) ⟨rfl,?_⟩|refine EV (Cp V V) ⟨rfl,?_⟩|refine EV (AT.pick V V (by(conv=>lhs;whnf);try rfl)) ⟨rfl,?_⟩|refine EV (AT.extract V V V) ⟨rfl,?_⟩|refine EV (Cj V V V (by rfl) (by decide) (by first|exact kB|exact kC|exact kD (by assumption))) ⟨rfl,?_⟩|refine EV (AT.max2 V V V) ⟨rfl,?_⟩|refine EV (AT.min2 V V V) ⟨rfl,?_⟩))|refine bQ_skip V V V ?_|refine Az2 V V V V ?_);refine Az1 (by(try simp only[Bn,zac]);exact V) ?_));refine Ayn ?_;(repeat((first|(refine AF V ?_;(first|refine AX (AT.move V (by(conv=>lhs;whnf);try rfl)) ?_|refine AX (AT.assign V (by(conv=>lhs;whnf);try rfl)) ?_|refine AX (Bo V V V) ?_|refine AX (Cr V V) ?_|refine AX (CL V V V) ?_|refine AX (Be V V V V) ?_|refine AX (AC V V V) ?_|refine AX (Bs V V V (by assumption) V) ?_|refine AX (AR V V V V) ?_|refine AX (D2 V V V) ?_|refine AX (IA V V V V (by assumption)) ?_|refine AX (HF V V V V (by first|decide|omega) (by assumption)) ?_|refine AX (JI V V V V V (by first|assumption|omega)) ?_|refine AX (FM V V V V V (by first|decide|omega) (by first|assumption|omega)) ?_|refine AX (AT.ln V V) ?_|refine AX (Gg V V V) ?_|refine AX (JH V V) ?_|refine AX (Ee V V V (by omega)) ?_|refine AX (ER V V V (by omega)) ?_|refine AX (HG V V V V (by assumption)) ?_|refine AX (Cw V V V V) ?_|refine AX (Cp V V) ?_|refine AX (AT.pick V V (by(conv=>lhs;whnf);try rfl)) ?_|refine AX (AT.extract V V V) ?_|refine AX (Cj V V V (by rfl) (by decide) (by first|exact kB|exact kC|exact kD (by assumption))) ?_|refine AX (AT.max2 V V V) ?_|refine AX (AT.min2 V V V) ?_|refine AOp.box V VG.agg ?_|refine Ze V ?_|refine CU V V V (Na V) V (kQ V) ?_|refine S4 V V V V V (by first|assumption|(simp[fE];done)|(simp[fE];omega)) (by first|assumption|(simp;done)|(simp;omega)) ?_|refine CT V V V (by assumption) (by first|exact kB|exact kC|exact kD (by assumption)) V ?_))|refine P2 V ?_);refine Arw (by(try simp only[Bn,zac]);exact V) (by(try simp only[Nat.reduceAdd,zab]);exact V) ?_));refine Au ?_)
 refine U _ ?_;refine nT ?_;refine rRS ?_;refine AK ⟨(A2 (.ptr 0 0::A2 (.ptr 1 0::.own 2 0::A80 (A10 [])))),[.box (Ak f),.box (BZ x),.row 0 3 tInt []]⟩ ((CC 6 3 tInt V kY).trans (BX)) ?_;refine SW ⟨(A2 (.ptr 0 0::A2 (.ptr 1 0::.own 2 (if QR f x then 1 else 0)::A80 (A10 [])))),[.box (Ak f),.box (BZ x),.row (if QR f x then 1 else 0) 3 tInt (if QR f x then [x.l1]else [])]⟩ ?_ ?_
 ·rcases hc1:QR f x with _|_
  all_goals refine Ab λD A=>?_
  ·have a:((x.op ==8)=aI/\(x.op ==9)=aI)\/(((x.op ==8)=aN\/((x.op ==8)=aI/\(x.op ==9)=aN))/\(aO (x.l1≥0)=aI\/(aO (x.l1≥0)=aN/\aO (x.l1 < (f.blocks.length:Int))=aI))):=by
    unfold QR inB at hc1;cases B:(x.op ==8) <;> cases m:(x.op ==9) <;> cases z:aO (x.l1≥0) <;> cases j:aO (x.l1 < (f.blocks.length:Int)) <;> simp[B,m,z,j]at hc1⊢
   have c:∀d:St,St.le C d ⟨(A2 (.ptr 0 0::A2 (.ptr 1 0::.own 2 0::A40 (A10 (A5 (.lit (.bool aI)::A20 (A10 (A4 [])))))))),[.box (Ak f),.box (BZ x),.row 0 3 tInt []]⟩->D d:=λd e=>by
    refine A _ (AK _ e ?_);refine Ah V (λg=>by cases g) (λg=>?_);refine Al ?_;refine Ap ?_;exact BX
   rcases a with⟨q,u⟩|⟨q|⟨q,u⟩,s|⟨s,E⟩⟩
   all_goals
    refine rR ?_;exact Ap (c _ (BX))
  ·have a:((x.op ==8)=aN\/((x.op ==8)=aI/\(x.op ==9)=aN))/\aO (x.l1≥0)=aN/\aO (x.l1 < (f.blocks.length:Int))=aN:=by
    unfold QR inB at hc1;cases B:(x.op ==8) <;> cases m:(x.op ==9) <;> cases z:aO (x.l1≥0) <;> cases j:aO (x.l1 < (f.blocks.length:Int)) <;> simp[B,m,z,j]at hc1⊢
   have c:∀d:St,St.le C d ⟨(A2 (.ptr 0 0::A2 (.ptr 1 0::.own 2 0::A40 (A10 (A5 (.lit (.bool aN)::A20 (A10 (A4 [])))))))),[.box (Ak f),.box (BZ x),.row 0 3 tInt []]⟩->D d:=λd e=>by
    refine A _ (AK _ e ?_);refine Ah V (λg=>?_) (λg=>by cases g);refine rR ?_;refine Ap ?_;exact BX
   obtain⟨q|⟨q,u⟩,s,E⟩:=a;all_goals
    refine rR ?_;exact Ap (c _ (BX))
 ·refine SW ⟨(A6 (.own 2 ((if QR f x then 1 else 0)+if Ajl f x then 1 else 0)::A80 (A10 []))),[.dead,.dead,.row ((if QR f x then 1 else 0)+if Ajl f x then 1 else 0) 3 tInt ((if QR f x then [x.l1]else [])++if Ajl f x then [x.l2]else [])]⟩ ?_ ?_
  ·rcases hc2:Ajl f x with _|_
   all_goals refine Ab λD A=>?_
   ·have a:(x.op ==9)=aI\/((x.op ==9)=aN/\((x.l2 !=x.l1)=aI\/((x.l2 !=x.l1)=aN/\(aO (x.l2≥0)=aI\/(aO (x.l2≥0)=aN/\aO (x.l2 < (f.blocks.length:Int))=aI))))):=by
     unfold Ajl inB at hc2;cases B:(x.l2 !=x.l1) <;> cases m:(x.op ==9) <;> cases z:aO (x.l2≥0) <;> cases j:aO (x.l2 < (f.blocks.length:Int)) <;> simp only[B,m,z,j,Bool.and_true,Bool.and_false,Bool.true_eq_false,aJ,true_and,or_true,true_or,and_true,false_and,or_false]at hc2⊢
    have c:∀d:St,St.le C d ⟨(A2 (.ptr 0 0::A2 (.ptr 1 0::.own 2 (if QR f x then 1 else 0)::A80 (A3 (.lit (.bool aI)::A6 []))))),[.box (Ak f),.box (BZ x),.row (if QR f x then 1 else 0) 3 tInt (if QR f x then [x.l1]else [])]⟩->D d:=λd e=>by
     refine A _ (AK _ e ?_);refine Ah V (λg=>by cases g) (λg=>?_);refine Al ?_;refine Ap ?_;simp only[aJ,if_false,kP,fP];exact Kr (j5 (j5 (Cut.refl _)))
    rcases a with q|⟨q,u|⟨u,s|⟨s,E⟩⟩⟩
    all_goals
     refine rR ?_;exact Ap (c _ (BX))
   ·have a:(x.op ==9)=aN/\(x.l2 !=x.l1)=aN/\aO (x.l2≥0)=aN/\aO (x.l2 < (f.blocks.length:Int))=aN:=by
     unfold Ajl inB at hc2;simpa[aG,and_assoc]using hc2
    have c:∀d:St,St.le C d ⟨(A2 (.ptr 0 0::A2 (.ptr 1 0::.own 2 (if QR f x then 1 else 0)::A80 (A3 (.lit (.bool aN)::A6 []))))),[.box (Ak f),.box (BZ x),.row (if QR f x then 1 else 0) 3 tInt (if QR f x then [x.l1]else [])]⟩->D d:=λd e=>by
     refine A _ (AK _ e ?_);refine Ah V (λg=>?_) (λg=>by cases g);have N:(if QR f x then [x.l1]else []:List Int).length+ [x.l2].length<=fE:=by split <;> simp[fE]
     have O:((if QR f x then [x.l1]else []:List Int).length+ [x.l2].length) * 8<=140737488355328:=by split <;> simp
     refine rR ?_;refine Ap ?_;simp only[if_true];exact Kr (j5 (j5 (Cut.refl _)))
    obtain⟨q,u,s,E⟩:=a;refine rR ?_;exact Ap (c _ (BX))
  ·refine rRS ?_;refine Aw ?_;exact⟨.inr V,kA V⟩
def Di(f:kE)(a:List Bool)(b:Int):Bool:=(nextL f b).any λk=>a.getD k.toNat aI
theorem E2{b:Int}(h:x∈nextL f b):0<=x/\x.toNat < f.blocks.length:=by
 unfold nextL at h;obtain⟨y,_,rfl⟩:=iU.1 h;have:=y.2;simp[Fs];exact this
theorem Afy(f:kE)(b:Int)(m:okFunc f)(e:smallF f):Fn cF 128 [.agg (Ak f),.lit (.int .i64 b)] (.bs tInt (nextL f b)):=by
 by_cases c:0<=b/\b < f.blocks.length
 ·obtain⟨k,rfl⟩:=Int.eq_ofNat_of_zero_le c.1;have hk:k < f.blocks.length:=by omega
  have a:f.blocks[k]? =lC f.blocks[k]:=gP hk;rw[R8 a];cases d:(f.blocks[k]).ins.getLast? with
  |none=>
   have g:(f.blocks[k]).ins= []:=List.getLast?_eq_none_iff.1 d;rw[Uh g];exact Z9 f k _ a e.blocks g
  |some x=>
   rw[Z7 d];have j:=g8 hk;exact Afz f k _ x a e.blocks (e.all _ j).ins d ((m.blocks _ j).ins x (List.mem_of_getLast? d))
 ·rw[Uf c];exact Z8 f b c
theorem Amr(hx:l[k]? =lC x)(c:(l.take k).any p=aI)(a:p x=aI):(l.take (k+1)).any p=aI:=by
 rw[jO,hx,List.any_append,c];simp[a]
theorem EM(f:kE)(a:List Bool)(b:Int)(u:okFunc f)(s:smallF f)(A:a.length=f.blocks.length):Fn cF 103 [.agg (Ak f),.bs kK a,.lit (.int .i64 b)] (.lit (.bool (Di f a b))):=by
 have v:(nextL f b).length<=2:=by unfold nextL;rw[iD];exact LS f b
 refine AQ Tryz.func103 V (by kernel_rfl) V Tryz.ntmps103 λC B=>?_
 refine nS ?_;refine rRS ?_;refine Ab λG h2=>?_
 (refine jX ?_;(repeat(first|refine sQ ?_ (AT.call V (Afy f b u s) V V V)|refine sQ ?_|refine AO ?_|refine Bq ?_));refine Au ?_)
 refine h2 _ ?_;refine nT ?_;refine Ab λF z=>?_
 refine rRS ?_;refine Ad ?_;refine AH (λk:Nat=>⟨(.any::.bs kK a::A5 (.bs tInt (nextL f b)::.lit (.int .i64 (k:Int))::A10 (A6 []))),[]⟩) (λk=>k<=(nextL f b).length/\((nextL f b).take k).any (λk=>a.getD k.toNat aI)=aI) (λk=>(nextL f b).length - k) 0 ⟨kX _,by simp⟩ (Kr (j6 _)) ?_;rintro k ⟨hk,d⟩;refine Ab λE y=>?_
 refine rRS ?_;refine Ah V (λe=>?_) (λe=>?_)
 ·have m:k < (nextL f b).length:=by simpa using e
  obtain⟨x,hx⟩:∃x,(nextL f b)[k]? =lC x:=⟨_,gP m⟩
  have j:=E2 (iV hx);have n:=j.1;obtain⟨q,hq⟩:∃q,a[x.toNat]? =lC q:=⟨_,gP (by omega)⟩
  have g:a.getD x.toNat aI=q:=by rw[gK,hq];rfl
  refine Al ?_;refine y _ ?_;refine nT ?_;refine Ab λD w=>?_
  refine Ad ?_;refine rRS ?_;refine Ah V (λc=>?_) (λc=>?_)
  ·refine rRS ?_;refine Aw ?_;have hc:Di f a b=aN:=fN.2 ⟨x,iV hx,by rw[g];exact c⟩;rw[hc];exact⟨.inr V,j9 V⟩
  ·refine Al ?_;refine w _ ?_;refine nT ?_;refine rR ?_;refine Ap ⟨k+1,⟨by omega,Amr hx d (by rw[g];exact c)⟩,by omega,?_⟩;exact BX
 ·refine Ay ?_;refine z _ ?_;refine nT ?_;have:k=(nextL f b).length:=by
   have:¬k < (nextL f b).length:=by simpa using e
   omega
  have hc:Di f a b=aI:=by
   rw[this,jQ]at d;exact d
  refine rRS ?_;refine Aw ?_;rw[hc];exact⟨.inr V,j9 V⟩
def goB(f:kE)(r:Int)(out:List Bool)(b:Nat):Bool:=(CP r (Cn f b)).1||(!(CP r (Cn f b)).2&&Di f out b)
def Mw(f:kE)(r:Int)(out:List Bool)(b:Nat):List Bool:=if goB f r out b then out.set b aN else out
def foldI(f:kE)(r:Int)(out:List Bool)(m:Nat):List Bool:=(jH m).foldl (Mw f r) out
def roundsI(f:kE)(r:Int):Nat->List Bool
 |0=>jJ f.blocks.length aI
 |m+1=>foldI f r (roundsI f r m) f.blocks.length
def Lk(f:kE)(r:Int):List Bool:=roundsI f r (f.blocks.length+1)
theorem EK(f:kE)(r:Int)(out:List Bool)(m:Nat):foldI f r out (m+1)=Mw f r (foldI f r out m) m:=by unfold foldI;rw[jI,gI];rfl
theorem Adv(f:kE)(r:Int)(out:List Bool)(b:Nat):(Mw f r out b).length=out.length:=by unfold Mw;split <;> simp
theorem UH(f:kE)(r:Int)(out:List Bool)(m:Nat):(foldI f r out m).length=out.length:=by
 induction m with
 |zero=>rfl
 |succ m a=>rw[EK,Adv,a]
theorem KM(f:kE)(r:Int)(m:Nat):(roundsI f r m).length=f.blocks.length:=by
 induction m with
 |zero=>simp[roundsI]
 |succ m a=>unfold roundsI;rw[UH,a]
theorem Yx(f:kE)(r:Int)(F:okFunc f)(E:smallF f):Fn cF 66 [.agg (Ak f),.lit (.int .i64 r)] (.bs kK (Lk f r)):=by
 have Q:=E.blocks;refine AQ Tryz.func66 V (by kernel_rfl) V Tryz.ntmps66 λC hC=>?_
 refine nS ?_;refine rRS ?_;refine Ab λK2 h2=>?_
 refine jX ?_
 iterate 3 (first|refine sQ ?_|refine AO ?_|refine Bq ?_)
 refine AF V ?_;refine Ai9 (e:=4) (z:=.bool aI) (bytes:=1) (T:=kK) aI V (by kernel_rfl) V (λ_ _=>rfl) V V (by omega) (by unfold fE;omega) ?_;refine sNt ?_
 iterate 1 (first|refine sQ ?_|refine AO ?_|refine Bq ?_)
 refine Au ?_;refine h2 _ ?_;refine nT ?_;refine Ab λK3 X=>?_
 refine rRS ?_;refine Ad ?_;refine AH (λm:Nat=>⟨(.any::.lit (.int .i64 r)::.ptr 0 0::A2 (.own 1 0::.lit (.int .i64 (m:Int))::A40 (A6 []))),[.box (Ak f),.row 0 4 kK (roundsI f r m)]⟩) (λm=>m<=f.blocks.length+1) (λm=>f.blocks.length+1 - m) 0 (kX _) (BX) ?_;rintro m hm;refine Ab λK6 W=>?_
 refine rRS ?_;refine Ah V (λu=>?_) (λu=>?_)
 ·have N:m<=f.blocks.length:=by simpa using u
  refine Al ?_;refine W _ ?_;refine nT ?_;refine Ab λK9 U=>?_
  refine Ad ?_;refine rRS ?_;refine Ad ?_;refine AH (λk:Nat=>⟨(.any::.lit (.int .i64 r)::.ptr 0 0::A2 (.own 1 0::.lit (.int .i64 (m:Int))::.lit (.int .i64 (k:Int))::A40 (A5 []))),[.box (Ak f),.row 0 4 kK (foldI f r (roundsI f r m) k)]⟩) (λk=>k<=f.blocks.length) (λk=>f.blocks.length - k) 0 (kX _) (BX) ?_;rintro k hk;refine Ab λab K=>?_
  refine rRS ?_;have w:(foldI f r (roundsI f r m) k).length=f.blocks.length:=by rw[UH,KM]
  refine Ah V (λd=>?_) (λd=>?_)
  ·have H:k < f.blocks.length:=by simpa using d
   obtain⟨g,B⟩:∃g,f.blocks[k]? =lC g:=⟨_,gP H⟩
   have s:=iV B;have A:Cn f k=g.ins:=by unfold Cn;rw[B]
   have a:goB f r (foldI f r (roundsI f r m) k) k=((CP r g.ins).1||(!(CP r g.ins).2&&Di f (foldI f r (roundsI f r m) k) k)):=by unfold goB;rw[A]
   obtain⟨q0,O⟩:∃q,(foldI f r (roundsI f r m) k)[k]? =lC q:=⟨_,gP (by omega)⟩
   have P:k < (foldI f r (roundsI f r m) k).length:=by omega
   have n:goB f r (foldI f r (roundsI f r m) k) k=aN->foldI f r (roundsI f r m) (k+1)=(foldI f r (roundsI f r m) k).set k aN:=λh=>by rw[EK,Mw,if_pos h]
   have y:goB f r (foldI f r (roundsI f r m) k) k=aI->foldI f r (roundsI f r m) (k+1)=foldI f r (roundsI f r m) k:=λh=>by rw[EK,Mw,if_neg (by simp[h])]
   refine Al ?_;refine K _ ?_;refine nT ?_;refine Ab λaa j=>?_
   refine Ad ?_;refine Ab λZ J=>?_
   (refine jX ?_;(repeat(first|refine sQ ?_ (AT.call V (MC g 0 r (F.blocks g s) (E.all g s) (kX _)) V V V)|refine sQ ?_|refine AO ?_|refine Bq ?_));refine Au ?_)
   rw[fV];refine J _ ?_;refine nT ?_;rcases hr1:(CP r g.ins).1 with _|_
   ·rcases hr2:(CP r g.ins).2 with _|_
    ·rw[hr1,hr2]at a;refine Ab λY D=>?_
     rcases hbb:Di f (foldI f r (roundsI f r m) k) k with _|_
     ·rw[hbb]at a
      (refine jX ?_;(repeat(first|refine sQ ?_ (Ka V (by have:=EM f (foldI f r (roundsI f r m) k) k F E w;rw[hbb]at this;exact this) (.cl V (.own V (.cl V .nil))))|refine sQ ?_|refine AO ?_|refine Bq ?_));refine Au ?_)
      refine D _ ?_;refine nT ?_;refine Ah V (λv=>by cases v) (λc=>?_);refine Al ?_;refine j _ ?_;refine nT ?_;refine rR ?_;refine Ap ⟨k+1,by omega,by omega,?_⟩;rw[y a];exact BX
     ·rw[hbb]at a
      (refine jX ?_;(repeat(first|refine sQ ?_ (Ka V (by have:=EM f (foldI f r (roundsI f r m) k) k F E w;rw[hbb]at this;exact this) (.cl V (.own V (.cl V .nil))))|refine sQ ?_|refine AO ?_|refine Bq ?_));refine Au ?_)
      refine D _ ?_;refine nT ?_;refine Ah V (λc=>?_) (λv=>by cases v);refine rR ?_;refine j _ ?_;refine nT ?_;refine rR ?_;refine Ap ⟨k+1,by omega,by omega,?_⟩;rw[n a];exact BX
    ·rw[hr1,hr2]at a;refine rRS ?_;refine Ah V (λv=>by cases v) (λc=>?_);refine Al ?_;refine j _ ?_;refine nT ?_;refine rR ?_;refine Ap ⟨k+1,by omega,by omega,?_⟩;rw[y a];exact BX
   ·rw[hr1]at a;refine rRS ?_;refine Ah V (λc=>?_) (λv=>by cases v);refine rR ?_;refine j _ ?_;refine nT ?_;refine rR ?_;refine Ap ⟨k+1,by omega,by omega,?_⟩;rw[n a];exact BX
  ·refine Ay ?_;refine U _ ?_;refine nT ?_;have I:k=f.blocks.length:=by
    have:¬k < f.blocks.length:=by simpa using d
    omega
   refine rR ?_;refine Ap ⟨m+1,by omega,by omega,?_⟩;rw[I];exact BX
 ·refine Ay ?_;refine X _ ?_;refine nT ?_;have G:m=f.blocks.length+1:=by
   have:¬m<=f.blocks.length:=by simpa using u
   omega
  refine rRS ?_;refine Aw ?_;rw[G];exact⟨.inr V,kA V⟩
def swapL(l:List Int)(q:Nat):List Int:=(l.set q (l.getD (q+1) 0)).set (q+1) (l.getD q 0)
def OM:Nat->List Int->List Int
 |0,l=>l
 |q+1,l=>if l.getD q 0 > l.getD (q+1) 0 then OM q (swapL l q)else l
def IW(l:List Int):List Int:=OM (l.length - 1) l
theorem OG(l:List Int)(q:Nat):(swapL l q).length=l.length:=by simp[swapL]
theorem Tw:∀(k:Nat) (l:List Int),(OM k l).length=l.length
 |0,l=>rfl
 |q+1,l=>by
  unfold OM;split
  ·rw[Tw q,OG]
  ·rfl
theorem XS(h:Bg l){q:Nat}(hq:q+1 < l.length):Bg (swapL l q):=by
 intro x hx;unfold swapL at hx;have a:q < l.length:=by omega
 have h1:l.getD q 0∈l:=by rw[gK,gP a];exact g8 _
 have h2:l.getD (q+1) 0∈l:=by rw[gK,gP hq];exact g8 _
 rcases iX hx with h3|h3
 ·rcases iX h3 with h4|h4
  ·exact h x h4
  ·rw[h4];exact h _ h2
 ·rw[h3];exact h _ h1
theorem V5(l:List Int)(H:Bg l)(h0:0 < l.length)(P:l.length<=4194304):Am3 cF 101 3 tInt l (IW l):=by
 refine VI Tryz.func101 V (by kernel_rfl) V Tryz.ntmps101 (λ_ _ _ _ _ h=>h) λC=>?_
 refine nS ?_;refine rRS ?_;refine Ab λU h2=>?_
 refine rRS ?_;refine Ad ?_;have z:((l.length:Int) - 1)=((l.length - 1:Nat):Int):=by omega
 rw[z];refine AH (λp:Nat×List Int=>⟨(.own 0 0::A2 (.lit (.int .i64 (p.1:Int))::A20 (A10 (A6 [])))),[.row 0 3 tInt p.2]⟩) (λp=>p.2.length=l.length/\p.1 < l.length/\Bg p.2/\OM p.1 p.2=IW l) (λp=>p.1) (l.length - 1,l) ⟨rfl,by omega,H,rfl⟩ (BX) ?_;rintro⟨k,m⟩ ⟨j,w,d,c⟩;dsimp only at j w d c⊢;refine Ab λT K=>?_
 refine Ab λQ A=>?_
 cases k with
 |zero=>
  have I:aO (((0:Nat):Int) > 0)=aI:=by decide
  (refine NY 14 (hh:=?_);(repeat(first|refine qQ ?_|refine Hf ?_));refine Fh ?_;(repeat(first|refine sQ ?_|refine AO ?_|refine Bq ?_));refine Au ?_)
  refine A _ ?_;refine nT ?_;refine Ah V (λa=>by cases a) (λa=>?_);refine Ay ?_;refine h2 _ ?_;refine nT ?_;refine rRS ?_;refine Aw ?_;exact⟨.inr V,0,0,rfl,by rw[<-c];rfl,rfl⟩
 |succ q=>
  have I:aO (((q+1:Nat):Int) > 0)=aN:=by simp
  have u:m[(((q+1:Nat):Int) - 1).toNat]? =lC (m.getD q 0):=by
   have:(((q+1:Nat):Int) - 1).toNat=q:=by omega
   rw[this,gK,gP (by omega)];rfl
  have e:m[q+1]? =lC (m.getD (q+1) 0):=by
   rw[gK,gP (by omega)];rfl
  have G:=d _ (iV u);have F:=d _ (iV e);have g:q+1 < m.length:=by omega
  have E:(m.set (((q+1:Nat):Int) - 1).toNat (m.getD (q+1) 0))[q+1]? =lC (m.getD (q+1) 0):=by
   rw[gW (by omega)];exact e
  have B:q+1 < (m.set (((q+1:Nat):Int) - 1).toNat (m.getD (q+1) 0)).length:=by simpa using g
  rw[OM]at c;rcases hc:aO (m.getD q 0 > m.getD (q+1) 0)with _|_
  ·rw[if_neg (by simpa using hc)]at c
   (refine NY 14 (hh:=?_);(repeat(first|refine qQ ?_|refine Hf ?_));refine Fh ?_;(repeat(first|refine sQ ?_|refine AO ?_|refine Bq ?_));refine Au ?_)
   refine A _ ?_;refine nT ?_;refine Ah V (λa=>by cases a) (λa=>?_);refine Ay ?_;refine h2 _ ?_;refine nT ?_;refine rRS ?_;refine Aw ?_;exact⟨.inr V,0,0,rfl,by rw[<-c];rfl,rfl⟩
  ·rw[if_pos (by simpa using hc)]at c
   (refine NY 14 (hh:=?_);(repeat(first|refine qQ ?_|refine Hf ?_));refine Fh ?_;(repeat(first|refine sQ ?_|refine AO ?_|refine Bq ?_));refine Au ?_)
   refine A _ ?_;refine nT ?_;refine Ah V (λa=>?_) (λa=>by cases a);refine Al ?_;refine K _ ?_;refine nT ?_;refine Ab λD J=>?_
   refine Ad ?_
   (refine Ai2 15 [3,4] [0,1,2,5,6,7,8,9,10,11,12,13,14] (by kernel_rfl) (by kernel_rfl) (by decide) V ?_;refine Aov (by(try simp only[Bn,evA,gN,List.getElem?_cons_succ,Option.getD_some,jL,jK]);exact V) ?_;(repeat(refine Az3 (by simp only[gN,zar];exact V) V ?_;(first|refine EU (AT.move V (by(conv=>lhs;whnf);try rfl)) ?_|refine EU (AT.assign V (by(conv=>lhs;whnf);try rfl)) ?_|refine EU (Bo V V V) ?_|refine EU (Cr V V) ?_|refine EU (CL V V V) ?_|refine EU (Be V V V V) ?_|refine EU (AC V V V) ?_|refine EU (Bs V V V (by assumption) V) ?_|refine EU (AR V V V V) ?_|refine EU (D2 V V V) ?_|refine EU (IA V V V V (by assumption)) ?_|refine EU (HF V V V V (by first|decide|omega) (by assumption)) ?_|refine EU (JI V V V V V (by first|assumption|omega)) ?_|refine EU (FM V V V V V (by first|decide|omega) (by first|assumption|omega)) ?_|refine EU (AT.ln V V) ?_|refine EU (Gg V V V) ?_|refine EU (JH V V) ?_|refine EU (Ee V V V (by omega)) ?_|refine EU (ER V V V (by omega)) ?_|refine EU (HG V V V V (by assumption)) ?_|refine EU (Cw V V V V) ?_|refine EU (Cp V V) ?_|refine EU (AT.pick V V (by(conv=>lhs;whnf);try rfl)) ?_|refine EU (AT.extract V V V) ?_|refine EU (Cj V V V (by rfl) (by decide) (by first|exact kB|exact kC|exact kD (by assumption))) ?_|refine EU (AT.max2 V V V) ?_|refine EU (AT.min2 V V V) ?_);refine Aov (by(try simp only[Bn,zac]);exact V) ?_));refine Arx ?_)
   have n:∀s:St,St.le C s ⟨(.own 0 0::A2 (.lit (.int .i64 ((q+1:Nat):Int))::A20 (A10 (A6 [])))),[.row 0 3 tInt (swapL m q)]⟩->D s:=λs v=>by
    refine J _ (AK _ v ?_);refine rR ?_;refine Ap ⟨(q,swapL m q),⟨by rw[OG];exact j,by omega,XS d g,c⟩,by simp,?_⟩;have N:(((q+1:Nat):Int) - 1)=(q:Int):=by omega
    rw[N];exact BX
   have y:∀t:List AV,Fgt 1 t (.own 0 0::A2 (.lit (.int .i64 ((q+1:Nat):Int))::A20 (A10 (A6 []))))->D ⟨t,[.row 0 3 tInt ((m.set (((q+1:Nat):Int) - 1).toNat (m.getD (q+1) 0)).set (q+1) (m.getD q 0))]⟩:=λt ht=>by
    have O:(((q+1:Nat):Int) - 1).toNat=q:=by omega
    rw[O];exact n _ (Xv V ht)
   refine Lr [15] (by kernel_rfl) (by simp) (Ls (by simp only[gN,zar];exact V) V ?_ AP)
   (first|refine oQ ?_|refine Azv ?_)
   refine Lr [16] (by kernel_rfl) (by simp) (Ls (by simp only[gN,zar];exact V) V ?_ AP)
   (first|refine oQ ?_|refine Azv ?_)
   refine Lr [17] (by kernel_rfl) (by simp) (Ls (by simp only[gN,zar];exact V) V ?_ AP)
   (first|refine oQ ?_|refine Azv ?_)
   exact Th (by kernel_rfl) (y _ (by(try simp only[Bn,zac]);repeat(first|exact Fgt.nil|refine Fgt.keep V ?_|refine Fgt.any ?_)))
def Cg(f:kE):List Int:=f.blocks.flatMap λb=>b.ins.flatMap readsC
def Px(out:List Int)(x:Int):List Int:=if out.contains x then out else IW (out++[x])
def CB(l:List Int):List Int:=l.foldl Px []
def BA(f:kE):List Int:=CB (Cg f)
theorem Wh(l:List Int)(x:Int):CB (l++[x])=Px (CB l) x:=by simp[CB]
theorem OJ(l:List Int):(IW l).length=l.length:=Tw _ _
theorem XV:∀(k:Nat) (l:List Int),k < l.length->Bg l->Bg (OM k l)
 |0,l,_,h=>h
 |q+1,l,hq,h=>by
  unfold OM;split
  ·exact XV q _ (by rw[OG];omega) (XS h hq)
  ·exact h
theorem Alh(out:List Int)(x:Int):(Px out x).length<=out.length+1:=by
 unfold Px;split
 ·omega
 ·rw[OJ];simp
theorem Ap6{out:List Int}(h:Bg out)(hx:wfI .i64 x):Bg (Px out x):=by
 unfold Px;split
 ·exact h
 ·unfold IW;refine XV _ _ (by simp) λy a=>?_
  rcases iM.1 a with h1|h1
  ·exact h y h1
  ·simp at h1;rw[h1];exact hx
theorem QZ(l:List Int):(CB l).length<=l.length/\(Bg l->Bg (CB l)):=by
 have a:∀(l out:List Int),(l.foldl Px out).length<=out.length+l.length/\(Bg l->Bg out->Bg (l.foldl Px out)):=by
  intro l;induction l with
  |nil=>intro out;exact⟨by simp,λ_ h=>h⟩
  |cons x l e=>
   intro out;obtain⟨h1,h2⟩:=e (Px out x);have:=Alh out x;refine⟨by simp only[gJ,iA];omega,λd g=>h2 (λy c=>d y (by simp[c])) (Ap6 g (d x (by simp)))⟩
 obtain⟨h1,h2⟩:=a l [];unfold CB;exact⟨by simpa using h1,λh=>h2 h λy c=>by cases c⟩
theorem Ahb{l:List Ins}(h:∀x∈l,okIns x):Bg (l.flatMap readsC):=λr a=>by
 obtain⟨x,hx,h1⟩:=iS.1 a;exact FV (h x hx) r h1
theorem PX(h:okFunc f):Bg (Cg f):=λr a=>by
 obtain⟨b,c,h1⟩:=iS.1 a;exact Ahb (h.blocks b c).ins r h1
theorem Mc(g:α->List Int)(l:List α)(k:Nat):((l.take k).flatMap g).length<=(l.flatMap g).length:=by
 have:l.flatMap g=(l.take k).flatMap g++(l.drop k).flatMap g:=by rw[<-gF,jP]
 rw[this,hZ];omega
theorem Kt(g:α->List Int){l:List α}{x:α}(hx:l[k]? =lC x):(l.take (k+1)).flatMap g=(l.take k).flatMap g++g x:=by
 rw[jO,hx,gF];simp
theorem Aeu(f:kE)(ho:okFunc f)(hs:smallF f)(hT:(Cg f).length<=2097152):Fn cF 65 [.agg (Ak f)] (.bs tInt (BA f)):=by
 have aq:=hs.blocks;refine AQ Tryz.func65 V (by kernel_rfl) V Tryz.ntmps65 λC hC=>?_
 refine nS ?_;refine rRS ?_;refine rRS ?_;refine Ab λK3 h3=>?_
 refine rRS ?_;refine Ad ?_;refine AH (λp:Nat×Nat=>⟨(.any::.ptr 0 0::.any::.own 1 p.2::.lit (.int .i64 (p.1:Int))::A40 (A10 (A3 []))),[.box (Ak f),.row p.2 3 tInt (CB ((f.blocks.take p.1).flatMap λb=>b.ins.flatMap readsC))]⟩) (λp=>p.1<=f.blocks.length) (λp=>f.blocks.length - p.1) (0,0) (kX _) ((CC 3 3 tInt V kY).trans (BX)) ?_;rintro⟨b,ver⟩ X;dsimp only at X⊢;refine Ab λK6 h6=>?_
 refine rRS ?_;refine Ah V (λI=>?_) (λI=>?_)
 ·have ad:b < f.blocks.length:=by simpa using I
  obtain⟨a,U⟩:∃a,f.blocks[b]? =lC a:=⟨_,gP ad⟩
  have d:=iV U;have am:=(hs.all a d).ins;have j:=Kt (λb:jY=>b.ins.flatMap readsC) U;have F:=Mc (λb:jY=>b.ins.flatMap readsC) f.blocks (b+1);have E:Bg ((f.blocks.take b).flatMap λb=>b.ins.flatMap readsC):=λr J=>PX ho r (by
   obtain⟨c,hc,h1⟩:=iS.1 J;exact iS.2 ⟨c,iW hc,h1⟩)
  generalize ((f.blocks.take b).flatMap λb=>b.ins.flatMap readsC)=A at j E⊢;rw[j]at F;have H:(A++a.ins.flatMap readsC).length<=2097152:=kS F hT;refine Al ?_;refine h6 _ ?_;refine nT ?_;refine Ab λK9 h9=>?_
  refine Ad ?_;refine rRS ?_;refine Ad ?_;refine AH (λp:Nat×Nat=>⟨(.any::.ptr 0 0::.any::.own 1 p.2::.lit (.int .i64 (b:Int))::.lit (.int .i64 (p.1:Int))::A40 (A10 (A2 []))),[.box (Ak f),.row p.2 3 tInt (CB (A++(a.ins.take p.1).flatMap readsC))]⟩) (λp=>p.1<=a.ins.length) (λp=>a.ins.length - p.1) (0,ver) (kX _) (by simp only[jT,gH,fP];exact BX) ?_;rintro⟨i,w⟩ hi;dsimp only at hi⊢;refine Ab λay ak=>?_
  refine rRS ?_;refine Ah V (λv=>?_) (λv=>?_)
  ·have T:i < a.ins.length:=by simpa using v
   obtain⟨x,hx⟩:∃x,a.ins[i]? =lC x:=⟨_,gP T⟩
   have O:=iV hx;have N:=(ho.blocks a d).ins x O;have al:=(hs.all a d).all x O;have g:=Kt readsC hx;have s:=Mc readsC a.ins (i+1);have D:Bg (A++(a.ins.take i).flatMap readsC):=λr J=>by
    rcases iM.1 J with h1|h1
    ·exact E r h1
    ·exact Ahb (λy K=>(ho.blocks a d).ins y (iW K)) r h1
   rw[g]at s;have q:(A++(a.ins.take i).flatMap readsC).length+(readsC x).length<=2097152:=by
    simp only[hZ]at H s⊢;omega
   generalize hB:A++(a.ins.take i).flatMap readsC=B at D q⊢;have P:=FV N;have an:(readsC x).length<=2097152:=by omega
   refine Al ?_;refine ak _ ?_;refine nT ?_;refine Ab λax aj=>?_
   refine Ad ?_;refine Ab λaw ai=>?_
   (refine jX ?_;(repeat(first|refine sQ ?_ (AT.call V (Gn x N (by omega)) V V V)|refine sQ ?_|refine AO ?_|refine Bq ?_));refine Au ?_)
   refine ai _ ?_;refine nT ?_;refine rRS ?_;refine Ad ?_;refine AH (λp:Nat×Nat=>⟨(.any::.ptr 0 0::.any::.own 1 p.2::.lit (.int .i64 (b:Int))::.lit (.int .i64 (i:Int))::.bs tInt (readsC x)::.lit (.int .i64 (p.1:Int))::A40 (A10 [])),[.box (Ak f),.row p.2 3 tInt (CB (B++(readsC x).take p.1))]⟩) (λp=>p.1<=(readsC x).length) (λp=>(readsC x).length - p.1) (0,w) (kX _) (by simp only[jT,fP];exact BX) ?_;rintro⟨k,e⟩ hk;dsimp only at hk⊢;refine Ab λav ah=>?_
   refine rRS ?_;refine Ah V (λu=>?_) (λu=>?_)
   ·have Q:k < (readsC x).length:=by simpa using u
    obtain⟨r,J⟩:∃r,(readsC x)[k]? =lC r:=⟨_,gP Q⟩
    have aa:=P r (iV J);have G:CB (B++(readsC x).take (k+1))=Px (CB (B++(readsC x).take k)) r:=by
     rw[jO,J,<-fO];exact Wh _ _
    obtain⟨ac,ab⟩:=QZ (B++(readsC x).take k);have z:=ab λy K=>by
     rcases iM.1 K with h1|h1
     ·exact D y h1
     ·exact P y (iW h1)
    have m:(CB (B++(readsC x).take k)).length<=2097152:=by
     simp only[hZ,iI]at ac q;omega
    generalize CB (B++(readsC x).take k)=out at G m z⊢;refine Al ?_;refine ah _ ?_;refine nT ?_;refine Ab λau Z=>?_
    refine Ad ?_;refine Ab λar Y=>?_
    rcases hc:out.contains r with _|_
    ·have n:Px out r=IW (out++[r]):=by unfold Px;rw[if_neg (by rw[hc];simp)]
     have ap:out.length+ [r].length<=fE:=by simp[fE];omega
     have ao:(out.length+ [r].length) * 8<=140737488355328:=by simp;omega
     (refine jX ?_;(repeat(first|refine sQ ?_ (Ka V (by have:=WM out r m;rw[hc]at this;exact this) (.own V (.cl V .nil)))|refine sQ ?_|refine AO ?_|refine Bq ?_));refine Au ?_)
     refine Y _ ?_;refine nT ?_;refine Ah V (λW=>?_) (λX=>by cases X)
     (refine jX ?_;(repeat(first|(refine AF V (Qm V (V5 (out++[r]) (λy K=>(iM.1 K).elim (z y) λh=>by simp at h;rw[h];exact aa) (by simp) (by simp;omega)) V V ?_);refine sNt ?_)|refine sQ ?_|refine AO ?_|refine Bq ?_));refine Au ?_)
     refine Z _ ?_;refine nT ?_;refine rR ?_;refine Ap ⟨(k+1,e+1+1),by omega,by dsimp only;omega,?_⟩;dsimp only;rw[G,n];exact BX
    ·have n:Px out r=out:=by unfold Px;rw[if_pos hc]
     (refine jX ?_;(repeat(first|refine sQ ?_ (Ka V (by have:=WM out r m;rw[hc]at this;exact this) (.own V (.cl V .nil)))|refine sQ ?_|refine AO ?_|refine Bq ?_));refine Au ?_)
     refine Y _ ?_;refine nT ?_;refine Ah V (λX=>by cases X) (λW=>?_);refine Al ?_;refine Z _ ?_;refine nT ?_;refine rR ?_;refine Ap ⟨(k+1,e),by omega,by dsimp only;omega,?_⟩;dsimp only;rw[G,n];exact BX
   ·refine Ay ?_;refine aj _ ?_;refine nT ?_;have ae:k=(readsC x).length:=by
     have:¬k < (readsC x).length:=by simpa using u
     omega
    refine rR ?_;refine Ap ⟨(i+1,e),by omega,by dsimp only;omega,?_⟩;dsimp only;rw[g,ae,jQ,<-fO,hB];exact BX
  ·refine Ay ?_;refine h9 _ ?_;refine nT ?_;have af:i=a.ins.length:=by
    have:¬i < a.ins.length:=by simpa using v
    omega
   refine rR ?_;refine Ap ⟨(b+1,w),by omega,by dsimp only;omega,?_⟩;dsimp only;rw[j,af,jQ];exact BX
 ·refine Ay ?_;refine h3 _ ?_;refine nT ?_;have ag:b=f.blocks.length:=by
   have:¬b < f.blocks.length:=by simpa using I
   omega
  refine rRS ?_;refine Aw ?_;rw[ag,jQ];exact⟨.inr V,kA V⟩
def Fv(f:kE)(b i:Nat)(r:Int):Bool:=(CP r ((Cn f b).drop i)).1||(!(CP r ((Cn f b).drop i)).2&&Di f (Lk f r) b)
def Dj(f:kE)(regs:List Int)(b i:Nat):List Int:=regs.filter (Fv f b i)
def Ca(f:kE)(b:Nat):List (List Int):=(jH ((Cn f b).length+1)).map (Dj f (BA f) b)
def PY(f:kE):List (List (List Int)):=(jH f.blocks.length).map (Ca f)
theorem D5(hx:l[k]? =lC x):(l.take (k+1)).filter p=(l.take k).filter p++if p x then [x]else []:=by
 rw[jO,hx,fY];cases h:p x <;> simp[h]
theorem L5(f:kE)(r:Int):(Lk f r).length=f.blocks.length:=KM f r _
theorem ZT(f:kE)(regs:List Int)(b i:Nat)(e:jY)(v:okFunc f)(n:smallF f)(K:Bg regs)(J:regs.length<=2097152)(m:f.blocks[b]? =lC e)(hi:i<=e.ins.length):
 Fn cF 67 [.agg (Ak f),.bs tInt regs,.bs kK.slice (regs.map (Lk f)),.lit (.int .i64 (b:Int)),.lit (.int .i64 (i:Int))] (.bs tInt (Dj f regs b i)):=by
 have Q:=n.blocks;have c:=iV m;have z:Cn f b=e.ins:=by unfold Cn;rw[m]
 refine AQ Tryz.func67 V (by kernel_rfl) V Tryz.ntmps67 λC X=>?_
 refine nS ?_;refine rRS ?_;refine rRS ?_;refine Ab λK3 U=>?_
 refine rRS ?_;refine Ad ?_;refine AH (λp:Nat×Nat=>⟨(.any::.bs tInt regs::.bs kK.slice (regs.map (Lk f))::.lit (.int .i64 (b:Int))::.lit (.int .i64 (i:Int))::.ptr 0 0::A5 (.own 1 p.2::.lit (.int .i64 (p.1:Int))::A40 (A4 []))),[.box (Ak f),.row p.2 3 tInt ((regs.take p.1).filter (Fv f b i))]⟩) (λp=>p.1<=regs.length) (λp=>regs.length - p.1) (0,0) (kX _) ((CC 11 3 tInt V kY).trans (BX)) ?_;rintro⟨k,ver⟩ hk;dsimp only at hk⊢;refine Ab λZ T=>?_
 refine rRS ?_;refine Ah V (λu=>?_) (λu=>?_)
 ·have E:k < regs.length:=by simpa using u
  obtain⟨r,q⟩:∃r,regs[k]? =lC r:=⟨_,gP E⟩
  have I:=K r (iV q);have P:(regs.map (Lk f))[k]? =lC (Lk f r):=by rw[gT,q];rfl
  have w:=D5 (p:=Fv f b i) q;have D:=iC (Fv f b i) (regs.take k);have y:((regs.take k).filter (Fv f b i)).length<=2097152:=by simp only[iI]at D;omega
  have a:Fv f b i r=((CP r (e.ins.drop i)).1||(!(CP r (e.ins.drop i)).2&&Di f (Lk f r) b)):=by unfold Fv;rw[z]
  have g:Fv f b i r=aN->(regs.take (k+1)).filter (Fv f b i)=(regs.take k).filter (Fv f b i)++[r]:=λh=>by rw[w,if_pos h]
  have s:Fv f b i r=aI->(regs.take (k+1)).filter (Fv f b i)=(regs.take k).filter (Fv f b i):=λh=>by rw[w,if_neg (by simp[h]),fP]
  generalize H:(regs.take k).filter (Fv f b i)=out at g s y⊢;have O:out.length+ [r].length<=fE:=by simp[fE];omega
  have N:(out.length+ [r].length) * 8<=140737488355328:=by simp;omega
  refine Al ?_;refine T _ ?_;refine nT ?_;refine Ab λY B=>?_
  refine Ad ?_;refine Ab λW G=>?_
  (refine NY 16 (hh:=?_);(repeat(first|refine qQ ?_ (AT.call V (MC e i r (v.blocks e c) (n.all e c) hi) V V V)|refine qQ ?_|refine Hf ?_));refine Fh ?_;(repeat(first|refine sQ ?_ (AT.call V (MC e i r (v.blocks e c) (n.all e c) hi) V V V)|refine sQ ?_|refine AO ?_|refine Bq ?_));refine Au ?_)
  refine G _ ?_;refine nT ?_;rcases hr1:(CP r (e.ins.drop i)).1 with _|_
  ·rcases hr2:(CP r (e.ins.drop i)).2 with _|_
   ·rw[hr1,hr2]at a;refine Ab λA d=>?_
    rcases hbb:Di f (Lk f r) b with _|_
    ·rw[hbb]at a
     (refine NY 14 (hh:=?_);(repeat(first|refine qQ ?_ (AT.call V (by have:=EM f (Lk f r) b v n (L5 f r);rw[hbb]at this;exact this) V V V)|refine qQ ?_|refine Hf ?_));refine Fh ?_;(repeat(first|refine sQ ?_ (AT.call V (by have:=EM f (Lk f r) b v n (L5 f r);rw[hbb]at this;exact this) V V V)|refine sQ ?_|refine AO ?_|refine Bq ?_));refine Au ?_)
     refine d _ ?_;refine nT ?_;refine Ah V (λm=>by cases m) (λj=>?_);refine Al ?_;refine B _ ?_;refine nT ?_;refine rR ?_;refine Ap ⟨(k+1,ver),by omega,by dsimp only;omega,?_⟩;dsimp only;rw[s a];exact BX
    ·rw[hbb]at a
     (refine NY 14 (hh:=?_);(repeat(first|refine qQ ?_ (AT.call V (by have:=EM f (Lk f r) b v n (L5 f r);rw[hbb]at this;exact this) V V V)|refine qQ ?_|refine Hf ?_));refine Fh ?_;(repeat(first|refine sQ ?_ (AT.call V (by have:=EM f (Lk f r) b v n (L5 f r);rw[hbb]at this;exact this) V V V)|refine sQ ?_|refine AO ?_|refine Bq ?_));refine Au ?_)
     refine d _ ?_;refine nT ?_;refine Ah V (λj=>?_) (λm=>by cases m);refine rR ?_;refine B _ ?_;refine nT ?_;refine rR ?_;refine Ap ⟨(k+1,ver+1),by omega,by dsimp only;omega,?_⟩;dsimp only;rw[g a];exact BX
   ·rw[hr1,hr2]at a;refine Ab λA d=>?_
    (refine NY 14 (hh:=?_);(repeat(first|refine qQ ?_|refine Hf ?_));refine Fh ?_;(repeat(first|refine sQ ?_|refine AO ?_|refine Bq ?_));refine Au ?_)
    refine d _ ?_;refine nT ?_;refine Ah V (λm=>by cases m) (λj=>?_);refine Al ?_;refine B _ ?_;refine nT ?_;refine rR ?_;refine Ap ⟨(k+1,ver),by omega,by dsimp only;omega,?_⟩;dsimp only;rw[s a];exact BX
  ·rw[hr1]at a;refine Ab λA d=>?_
   (refine NY 14 (hh:=?_);(repeat(first|refine qQ ?_|refine Hf ?_));refine Fh ?_;(repeat(first|refine sQ ?_|refine AO ?_|refine Bq ?_));refine Au ?_)
   refine d _ ?_;refine nT ?_;refine Ah V (λj=>?_) (λm=>by cases m);refine rR ?_;refine B _ ?_;refine nT ?_;refine rR ?_;refine Ap ⟨(k+1,ver+1),by omega,by dsimp only;omega,?_⟩;dsimp only;rw[g a];exact BX
 ·refine Ay ?_;refine U _ ?_;refine nT ?_;have F:k=regs.length:=by
   have:¬k < regs.length:=by simpa using u
   omega
  refine rRS ?_;refine Aw ?_;rw[F,jQ];exact⟨.inr V,kA V⟩
theorem Sf(g:α->β){l:List α}{x:α}(hx:l[k]? =lC x):(l.take (k+1)).map g=(l.take k).map g++[g x]:=by
 rw[jO,hx,iJ];simp
theorem Kq(g:Nat->β)(k:Nat):(jH (k+1)).map g=(jH k).map g++[g k]:=by rw[jI,iJ];rfl
theorem Y6(f:kE)(z:okFunc f)(n:smallF f)(hT:(Cg f).length<=2097152):Fn cF 33 [.agg (Ak f)] (.bs tInt.slice.slice (PY f)):=by
 have af:=n.blocks;obtain⟨u,v⟩:=QZ (Cg f);have H:(BA f).length<=2097152:=kS u hT;have G:Bg (BA f):=v (PX z);refine AQ Tryz.func33 V (by kernel_rfl) V Tryz.ntmps33 λC hC=>?_
 refine nS ?_;refine rRS ?_;refine Ab λK2 h2=>?_
 (refine jX ?_;(repeat(first|refine sQ ?_ (AT.call V (Aeu f z n hT) V V V)|refine sQ ?_|refine AO ?_|refine Bq ?_));refine Au ?_)
 refine h2 _ ?_;refine nT ?_;refine rRS ?_;refine Ab λK4 h4=>?_
 refine rRS ?_;refine Ad ?_;refine AH (λp:Nat×Nat=>⟨(.any::.ptr 0 0::.any::.bs tInt (BA f)::.own 1 p.2::.lit (.int .i64 (p.1:Int))::A40 (A10 (A3 []))),[.box (Ak f),.row p.2 99 kK.slice (((BA f).take p.1).map (Lk f))]⟩) (λp=>p.1<=(BA f).length) (λp=>(BA f).length - p.1) (0,0) (kX _) ((CC 4 99 kK.slice V kY).trans (BX)) ?_;rintro⟨k,ver⟩ hk;dsimp only at hk⊢;refine Ab λK7 h7=>?_
 refine rRS ?_;refine Ah V (λm=>?_) (λm=>?_)
 ·have O:k < (BA f).length:=by simpa using m
  obtain⟨r,I⟩:∃r,(BA f)[k]? =lC r:=⟨_,gP O⟩
  have s:=Sf (Lk f) I;have J:(((BA f).take k).map (Lk f)).length<=2097152:=by simp only[iD,iI];omega
  generalize ((BA f).take k).map (Lk f)=out at s J⊢;have N:out.length+ [Lk f r].length<=fE:=by simp[fE];omega
  have K:(out.length+ [Lk f r].length) * 24<=140737488355328:=by simp;omega
  refine Al ?_;refine h7 _ ?_;refine nT ?_;refine Ab λam ab=>?_
  refine Ad ?_
  (refine NY 8 (hh:=?_);(repeat(first|refine qQ ?_ (AT.call V (Yx f r z n) V V V)|refine qQ ?_|refine Hf ?_));refine Fh ?_;(repeat(first|refine sQ ?_ (AT.call V (Yx f r z n) V V V)|refine sQ ?_|refine AO ?_|refine Bq ?_));refine Au ?_)
  refine ab _ ?_;refine nT ?_;refine rR ?_;refine Ap ⟨(k+1,ver+1),by omega,by dsimp only;omega,?_⟩;dsimp only;rw[s];exact BX
 ·refine Ay ?_;refine h4 _ ?_;refine nT ?_;have P:k=(BA f).length:=by
   have:¬k < (BA f).length:=by simpa using m
   omega
  rw[P,jQ];refine AK ⟨(.any::.ptr 0 0::.any::.bs tInt (BA f)::.bs kK.slice ((BA f).map (Lk f))::A40 (A10 (A4 []))),[.box (Ak f),.dead]⟩ ((Ou hC 1 V).trans (by simp only[fzH,DP,AV.fz,ABlk.fz,iK,iL,jL,jK,and_self,if_true,Ak];exact BX)) ?_;refine rRS ?_;refine Ab λal aa=>?_
  refine rRS ?_;refine Ad ?_;refine AH (λp:Nat×Nat=>⟨(.any::.ptr 0 0::.any::.bs tInt (BA f)::.bs kK.slice ((BA f).map (Lk f))::.any::.own 2 p.2::.lit (.int .i64 (p.1:Int))::A40 (A10 [.any])),[.box (Ak f),.dead,.row p.2 66 tInt.slice.slice ((jH p.1).map (Ca f))]⟩) (λp=>p.1<=f.blocks.length) (λp=>f.blocks.length - p.1) (0,0) (kX _) ((CC 6 66 tInt.slice.slice V kY).trans (BX)) ?_;rintro⟨b,ver⟩ hb;dsimp only at hb⊢;refine Ab λak Z=>?_
  refine rRS ?_;refine Ah V (λc=>?_) (λc=>?_)
  ·have D:b < f.blocks.length:=by simpa using c
   obtain⟨d,j⟩:∃d,f.blocks[b]? =lC d:=⟨_,gP D⟩
   have A:=iV j;have ac:=(n.all d A).ins;have E:Cn f b=d.ins:=by unfold Cn;rw[j]
   have g:=Kq (Ca f) b;have F:Ca f b=(jH (d.ins.length+1)).map (Dj f (BA f) b):=by unfold Ca;rw[E]
   have y:((jH b).map (Ca f)).length<=2097152:=by simp;omega
   generalize (jH b).map (Ca f)=out at g y⊢;have N:out.length+ [Ca f b].length<=fE:=by simp[fE];omega
   have K:(out.length+ [Ca f b].length) * 24<=140737488355328:=by simp;omega
   refine Al ?_;refine Z _ ?_;refine nT ?_;refine Ab λaj Y=>?_
   refine Ad ?_;refine rRS ?_;refine Ab λai X=>?_
   refine rRS ?_;refine Ad ?_;refine AH (λp:Nat×Nat=>⟨(.any::.ptr 0 0::.any::.bs tInt (BA f)::.bs kK.slice ((BA f).map (Lk f))::.any::.own 2 ver::.lit (.int .i64 (b:Int))::.own 3 p.2::.lit (.int .i64 (p.1:Int))::A40 (A9 [])),[.box (Ak f),.dead,.row ver 66 tInt.slice.slice out,.row p.2 27 tInt.slice ((jH p.1).map (Dj f (BA f) b))]⟩) (λp=>p.1<=d.ins.length+1) (λp=>d.ins.length+1 - p.1) (0,0) (kX _) ((CC 8 27 tInt.slice V kY).trans (BX)) ?_;rintro⟨i,q⟩ hi;dsimp only at hi⊢;refine Ab λah W=>?_
   refine rRS ?_;refine Ah V (λa=>?_) (λa=>?_)
   ·have B:i<=d.ins.length:=by simpa using a
    have e:=Kq (Dj f (BA f) b) i;have w:((jH i).map (Dj f (BA f) b)).length<=2097152:=by simp;omega
    generalize (jH i).map (Dj f (BA f) b)=l at e w⊢;have ae:l.length+ [Dj f (BA f) b i].length<=fE:=by simp[fE];omega
    have ad:(l.length+ [Dj f (BA f) b i].length) * 24<=140737488355328:=by simp;omega
    refine Al ?_;refine W _ ?_;refine nT ?_;refine Ab λag U=>?_
    refine Ad ?_
    (refine jX ?_;(repeat(first|refine sQ ?_ (AT.call V (ZT f (BA f) b i d z n G H j B) V V V)|refine sQ ?_|refine AO ?_|refine Bq ?_));refine Au ?_)
    refine U _ ?_;refine nT ?_;refine rR ?_;refine Ap ⟨(i+1,q+1),by omega,by dsimp only;omega,?_⟩;dsimp only;rw[e];exact BX
   ·refine Ay ?_;refine X _ ?_;refine nT ?_;have Q:i=d.ins.length+1:=by
     have:¬i<=d.ins.length:=by simpa using a
     omega
    rw[Q,<-F];refine AK ⟨(.any::.ptr 0 0::.any::.bs tInt (BA f)::.bs kK.slice ((BA f).map (Lk f))::.any::.own 2 ver::.lit (.int .i64 (b:Int))::.bs tInt.slice (Ca f b)::A40 (A10 [])),[.box (Ak f),.dead,.row ver 66 tInt.slice.slice out,.dead]⟩ ((Ou hC 3 V).trans (by simp only[fzH,DP,AV.fz,ABlk.fz,iK,iL,jL,jK,and_self,if_true,Ak,Nat.reduceEqDiff,false_and,if_false];exact BX)) ?_;refine rR ?_;refine Y _ ?_;refine nT ?_;refine rR ?_;refine Ap ⟨(b+1,ver+1),by omega,by dsimp only;omega,?_⟩;dsimp only;rw[g];exact Kr (jZ (jZ (jZ (j6 _))))
  ·refine Ay ?_;refine aa _ ?_;refine nT ?_;have T:b=f.blocks.length:=by
    have:¬b < f.blocks.length:=by simpa using c
    omega
   refine rRS ?_;refine Aw ?_;rw[T];exact⟨.inr V,kA V⟩
end Mu
namespace Mu
open Go
variable{A B:List Int}{b:Nat}{f:kE}{k:Nat}{out:List Bool}{q:Nat}{r x:Int}
def LIn(f:kE)(b:Nat)(r:Int):Prop:=rdB r (Cn f b)=aN\/(Ajc r (Cn f b)=aN/\kF f b r)
theorem Ak8:kF f k r↔∃b,j7 f k b/\LIn f b r:=by
 constructor
 ·intro h;cases h with
  |read a h=>exact⟨_,a,.inl h⟩
  |pass a h c=>exact⟨_,a,.inr ⟨h,c⟩⟩
 ·rintro⟨b,a,h|⟨h,c⟩⟩
  ·exact .read a h
  ·exact .pass a h c
theorem M7:Di f out (k:Int)=aN↔∃b,j7 f k b/\out.getD b aI=aN:=by
 unfold Di nextL j7;rw[fN];constructor
 ·rintro⟨x,hx,h⟩;obtain⟨y,a,rfl⟩:=iU.1 hx;exact⟨y.1,⟨y,a,rfl⟩,by simpa[Fs]using h⟩
 ·rintro⟨b,⟨y,a,rfl⟩,h⟩;exact⟨Fs y,iU.2 ⟨y,a,rfl⟩,by simpa[Fs]using h⟩
theorem Aq7(f:kE)(r:Int)(out:List Bool)(b:Nat):goB f r out b=(rdB r (Cn f b)||(Ajc r (Cn f b)&&Di f out b)):=by
 have h:=TI r (Cn f b) (λ_=>Di f out b);rw[Ux]at h;exact h
theorem Ahq(h:j7 f k b):b < f.blocks.length:=by
 obtain⟨x,_,rfl⟩:=h;exact x.2
def RA(f:kE)(r:Int)(out:List Bool):Prop:=∀b,out.getD b aI=aN->LIn f b r
theorem Nj(h:RA f r out)(d:Di f out (k:Int)=aN):kF f k r:=by
 obtain⟨b,c,a⟩:=M7.1 d;exact Ak8.2 ⟨b,c,h b a⟩
theorem Zr(h:RA f r out)(b:Nat):RA f r (Mw f r out b):=by
 unfold Mw;split
 ·rename_i hg;intro c hc;by_cases a:b=c
  ·subst a;rw[Aq7]at hg;simp only[zay]at hg;rcases hg with hg|⟨h1,h2⟩
   ·exact .inl hg
   ·exact .inr ⟨h1,Nj h h2⟩
  ·rw[gK,gW a,<-gK]at hc;exact h c hc
 ·exact h
theorem Zs(h:RA f r out)(m:Nat):RA f r (foldI f r out m):=by
 induction m with
 |zero=>exact h
 |succ m a=>rw[EK];exact Zr a m
theorem Tp(f:kE)(r:Int)(m:Nat):RA f r (roundsI f r m):=by
 induction m with
 |zero=>
  intro b a;unfold roundsI at a;rw[gK,gV]at a;split at a <;> simp at a
 |succ m c=>exact Zs c _
theorem QU(f:kE)(r:Int)(out:List Bool)(b:Nat):out.count aN<=(Mw f r out b).count aN/\(Mw f r out b≠out->out.count aN < (Mw f r out b).count aN):=by
 unfold Mw;split
 ·by_cases g:b < out.length
  ·have e:out.set b aN=out.take b++aN::out.drop (b+1):=List.set_eq_take_append_cons_drop .. |>.trans (by rw[if_pos g])
   have c:out=out.take b++out[b]::out.drop (b+1):=by rw[<-List.drop_eq_getElem_cons g,jP]
   have h1:(out.set b aN).count aN=(out.take b).count aN+1+(out.drop (b+1)).count aN:=by rw[e,fT,fU];omega
   cases a:out[b]with
   |true=>
    have h2:out.count aN=(out.take b).count aN+1+(out.drop (b+1)).count aN:=by
     conv=>lhs;rw[c,a]
     rw[fT,fU];omega
    refine⟨by omega,λd=>absurd ?_ d⟩;rw[e]
    conv=>rhs;rw[c,a]
   |false=>
    have h2:out.count aN=(out.take b).count aN+(out.drop (b+1)).count aN:=by
     conv=>lhs;rw[c,a]
     rw[fT,List.count_cons_of_ne (by simp)]
    exact⟨by omega,λ_=>by omega⟩
  ·rw[List.set_eq_of_length_le (by omega)];exact⟨kR _,λh=>absurd V h⟩
 ·exact⟨kR _,λh=>absurd V h⟩
theorem Rj(f:kE)(r:Int)(out:List Bool)(m:Nat):out.count aN<=(foldI f r out m).count aN/\(foldI f r out m≠out->out.count aN < (foldI f r out m).count aN):=by
 induction m with
 |zero=>exact⟨kR _,λh=>absurd V h⟩
 |succ m d=>
  rw[EK];obtain⟨h1,h2⟩:=QU f r (foldI f r out m) m;refine⟨by omega,λa=>?_⟩;by_cases c:foldI f r out m=out
  ·rw[c]at h1 h2 a⊢;exact h2 a
  ·have:=d.2 c;omega
theorem Ri{n:Nat}(h:foldI f r out n=out):∀m,m<=n->foldI f r out m=out:=by
 intro m e;by_cases c:foldI f r out m=out
 ·exact c
 ·exfalso;have h1:=(Rj f r out m).2 c;have a:∀k,(foldI f r out m).count aN<=(foldI f r out (m+k)).count aN:=by
   intro k;induction k with
   |zero=>exact kR _
   |succ k d=>rw[<-kL,EK];exact kS d (QU f r _ _).1
  have h2:=a (n - m);rw[show m+(n - m)=n by omega,h]at h2;omega
theorem YE(a:out.length=f.blocks.length)(h:foldI f r out f.blocks.length=out)(c:b < f.blocks.length)(hg:goB f r out b=aN):out.getD b aI=aN:=by
 have h1:=Ri h (b+1) (by omega);rw[EK,Ri h b (by omega),Mw,if_pos hg]at h1;rw[<-h1,gK,gX (by omega)];rfl
theorem Ahf(d:out.length=f.blocks.length)(h:foldI f r out f.blocks.length=out)(c:kF f k r):Di f out (k:Int)=aN:=by
 induction c with
 |read a h1=>exact M7.2 ⟨_,a,YE d h (Ahq a) (by rw[Aq7,h1];rfl)⟩
 |pass a h1 _ e=>exact M7.2 ⟨_,a,YE d h (Ahq a) (by rw[Aq7,h1,e h];simp)⟩
theorem TB(f:kE)(r:Int):foldI f r (Lk f r) f.blocks.length=Lk f r:=by
 have d:∀m,(∃j,j < m/\roundsI f r (j+1)=roundsI f r j)\/m<=(roundsI f r m).count aN:=by
  intro m;induction m with
  |zero=>exact .inr (kX _)
  |succ m e=>
   rcases e with⟨j,n,c⟩|h
   ·exact .inl ⟨j,by omega,c⟩
   ·by_cases c:roundsI f r (m+1)=roundsI f r m
    ·exact .inl ⟨m,by omega,c⟩
    ·have:=(Rj f r (roundsI f r m) f.blocks.length).2 c;exact .inr (Nat.lt_of_le_of_lt h this)
 rcases d (f.blocks.length+1)with⟨j,n,c⟩|h
 ·have g:∀k,roundsI f r (j+k)=roundsI f r j:=by
   intro k;induction k with
   |zero=>rfl
   |succ k e=>
    show foldI f r (roundsI f r (j+k)) f.blocks.length=_;rw[e];exact c
  have h1:Lk f r=roundsI f r j:=by
   unfold Lk;rw[show f.blocks.length+1=j+(f.blocks.length+1 - j)by omega];exact g _
  rw[h1];exact c
 ·have:=List.count_le_length (a:=aN) (l:=roundsI f r (f.blocks.length+1));rw[KM]at this;omega
theorem PS(f:kE)(r:Int)(k:Nat):Di f (Lk f r) (k:Int)=aN↔kF f k r:=
 ⟨λh=>Nj (Tp f r _) h,λh=>Ahf (L5 f r) (TB f r) h⟩
theorem Agb(f:kE)(S:Int->Bool)(b i:Nat)(a:∀r,S r=aN↔kF f b r)(r:Int):Fv f b i r=inS ((Cn f b).drop i) S r:=by
 unfold Fv;have e:Di f (Lk f r) (b:Int)=S r:=by
  cases h1:Di f (Lk f r) (b:Int) <;> cases h2:S r
  ·rfl
  ·have:=(PS f r b).2 ((a r).1 h2);rw[h1]at this;cases this
  ·have:=(a r).2 ((PS f r b).1 h1);rw[h2]at this;cases this
  ·rfl
 rw[e];exact TI r _ S
def Jm(x:Int):List Int->List Int
 | []=>[x]
 |a::l=>if a > x then a::Jm x l else x::a::l
theorem So(h:A.length=q):(A++x::B).getD q 0=x:=by
 rw[gK,gL (by omega)];simp[h]
theorem Ajr{a:Int}(h:A.length=q):swapL (A++a::x::B) q=A++x::a::B:=by
 unfold swapL;have h1:(A++a::x::B).getD q 0=a:=So h;have h2:(A++a::x::B).getD (q+1) 0=x:=by
  rw[show A++a::x::B=(A++[a])++x::B by simp];exact So (by simp[h])
 rw[h1,h2];subst h;simp[List.set_append]
theorem Aed(x:Int):∀(R B:List Int),OM R.length (R.reverse++x::B)=(Jm x R).reverse++B
 | [],B=>by simp[OM,Jm]
 |a::R,B=>by
  have d:R.reverse.length=R.length:=iH;have e:(a::R).reverse++x::B=R.reverse++a::x::B:=by simp
  rw[e,iA,OM];have h1:(R.reverse++a::x::B).getD R.length 0=a:=So d;have h2:(R.reverse++a::x::B).getD (R.length+1) 0=x:=by
   rw[show R.reverse++a::x::B=(R.reverse++[a])++x::B by simp];exact So (by simp)
  rw[h1,h2,Ajr d];unfold Jm;by_cases c:a > x
  ·rw[if_pos c,if_pos c,Aed x R (a::B)];simp
  ·rw[if_neg c,if_neg c];simp
theorem Tr(l:List Int)(x:Int):IW (l++[x])=(Jm x l.reverse).reverse:=by
 have h:=Aed x l.reverse [];rw[List.reverse_reverse,iH,fP]at h;unfold IW;simpa using h
theorem MR{x y:Int}:∀{l:List Int},y∈Jm x l↔y=x\/y∈l
 | []=>by simp[Jm]
 |a::l=>by
  unfold Jm;split
  ·rw[iN,MR (l:=l),iN];constructor
   ·rintro(h|h|h) <;> simp[h]
   ·rintro(h|h|h) <;> simp[h]
  ·rw[iN]
theorem Pw{x:Int}:∀{l:List Int},l.Pairwise (λa b=>b < a)->x∉l->(Jm x l).Pairwise λa b=>b < a
 | [],_,_=>by simp[Jm]
 |a::l,h,hx=>by
  rw[jE]at h;simp only[iN,not_or]at hx;unfold Jm;split
  ·rename_i c;refine jE.2 ⟨λy hy=>?_,Pw h.2 hx.2⟩;rcases MR.1 hy with rfl|hy
   ·exact c
   ·exact h.1 y hy
  ·rename_i c;refine jE.2 ⟨λy hy=>?_,jE.2 h⟩;rcases iN.1 hy with rfl|hy
   ·omega
   ·have:=h.1 y hy;omega
theorem Ali{l:List Int}(h:Asc l):Asc (Px l x)/\∀y,y∈Px l x↔y=x\/y∈l:=by
 unfold Px;split
 ·rename_i hc;have a:x∈l:=by simpa using hc
  refine⟨h,λy=>⟨λhy=>.inr hy,?_⟩⟩;rintro(rfl|hy)
  ·exact a
  ·exact hy
 ·rename_i hc;have a:x∉l:=by simpa using hc
  rw[Tr];refine⟨?_,λy=>by rw[iZ,MR,iZ]⟩;unfold Asc at *;rw[jG];exact Pw (by rw[jG];exact h) (by rw[iZ];exact a)
theorem EH(l:List Int):Asc (CB l)/\∀y,y∈CB l↔y∈l:=by
 have a:∀(l out:List Int),Asc out->Asc (l.foldl Px out)/\∀y,y∈l.foldl Px out↔y∈out\/y∈l:=by
  intro l;induction l with
  |nil=>intro out h;exact⟨h,λy=>by simp⟩
  |cons x l c=>
   intro out h;obtain⟨h1,h2⟩:=Ali (x:=x) h;obtain⟨e,d⟩:=c _ h1;refine⟨e,λy=>?_⟩;rw[gJ,d y,h2 y,iN];constructor
   ·rintro((h|h)|h) <;> simp[h]
   ·rintro(h|h|h) <;> simp[h]
 obtain⟨h1,h2⟩:=a l [] fL;exact⟨h1,λy=>by unfold CB;rw[h2 y];simp⟩
theorem TF(f:kE):Asc (BA f):=(EH _).1
theorem Jb:r∈BA f↔∃b∈f.blocks,∃x∈b.ins,r∈readsC x:=by
 unfold BA;rw[(EH _).2 r];unfold Cg;simp only[iS]
open Go.RowKit Go.Proofs Go.Maps
variable{Q:Exit->St->Prop}{b id:Nat}{ms:List Nat}{n:Nat}{s:St}
instance:AG cF 157 aI 1:=⟨by kernel_rfl⟩
instance:SZ cF 157 1:=⟨by kernel_rfl⟩
instance:ES cF 157 1:=⟨by kernel_rfl⟩
instance:SL cF 157:=⟨by kernel_rfl⟩
instance:RT cF 157 156 1 8:=⟨by kernel_rfl⟩
instance:AG cF 156 aI 1:=⟨by kernel_rfl⟩
instance:SZ cF 156 1:=⟨by kernel_rfl⟩
instance:ZC cF 156 [.map lB]:=⟨by kernel_rfl⟩
theorem Aif{i:Nat}{K:St->Prop}(h:Q (.exit i) s):Km K Q (.exit i) s:=h
theorem Abz(h:Q .normal s):JD id Q (.exit id) s:=by simp[JD,h]
theorem Amv(h:Q .normal s):JD id Q .normal s:=h
theorem Azo:GH cF 157=lC (156,.map lB,8):=by kernel_rfl
theorem Adb:cF.underlying 156=lC (.map 3 3):=by kernel_rfl
theorem Dr(l:List Int):(CB l).length<=l.length:=by
 have c:∀(l a:List Int),(l.foldl Px a).length<=a.length+l.length:=by
  intro l;induction l with
  |nil=>intro a;simp
  |cons x l d=>
   intro a;have:=d (Px a x);have h2:(Px a x).length<=a.length+1:=by
    unfold Px;split
    ·omega
    ·rw[OJ];simp
   simp only[gJ,iA];omega
 simpa[CB]using c l []
theorem RV(f:kE)(a:okFunc f)(d:(Cg f).length<=2097152):RegsR (BA f):=by
 refine⟨TF f,λx hx=>?_,?_⟩
 ·obtain⟨b,h1,y,h2,c⟩:=Jb.1 hx;exact FV ((a.blocks b h1).ins y h2) x c
 ·have:=Dr (Cg f);unfold BA;omega
def Kw(ms:List Nat)(n:Nat):List AV:=ms.map Ff++jJ (n - ms.length) (.lit (.map lB))
theorem Abn{m:Nat}(a:ms.length=b)(c:b < n):(Kw ms n).take b++[Ff m]++(Kw ms n).drop (b+1)=Kw (ms++[m]) n:=by
 unfold Kw;have h1:(ms.map Ff).length=b:=by simp[a]
 rw[List.take_append_of_le_length (by omega),jR (by omega),List.drop_append,List.drop_eq_nil_of_le (by simp;omega),i8,h1,List.drop_replicate,iJ,hZ,fO,fO];congr 3;simp;omega
theorem Abo(h:ms.length<=n):(Kw ms n).length=n:=by
 unfold Kw;simp;omega
theorem Xg(h:ms.length=n):Kw ms n=ms.map Ff:=by
 unfold Kw;rw[h];simp
def MS(l:List Nat):List Int:=l.map λk:Nat=>(k:Int)
theorem Gy(l:List Nat):(MS l).length=l.length:=by simp[MS]
theorem L9(l:List Nat)(b:Nat):MS (l++[b])=MS l++[(b:Int)]:=by simp[MS]
theorem Auo{a c:Nat}(d:b<=2097152)(hc:c<=2097152)(h:a<=b * c):a<=4398046511104:=kS h (kS (kU d hc) (by decide))
theorem Aou(f:kE)(H:okFunc f)(G:smallF f)(hT:(Cg f).length<=2097152):Fn cF 131 [.agg (Ak f)] (.bs Ane ((jH f.blocks.length).map (Yh f))):=by
 have bw:=G.blocks;have Z:=RV f H hT;have cb:(BA f).length<=2097152:=kS (Dr _) hT;have ae:∀b∈f.blocks,∀x∈b.ins,∀r∈readsC x,r∈BA f:=λb hb x hx r hr=>Jb.2 ⟨b,hb,x,hx,hr⟩
 have c:8 * f.blocks.length<=281474976710656:=by omega
 have a:f.blocks.length<=fE:=by unfold fE;omega
 refine FN Tryz.func131 V (by kernel_rfl) V Tryz.ntmps131 λC hC bi=>?_
 refine nS ?_;refine Ab λK1 h1=>?_
 refine rR ?_;refine h1 _ ?_;refine nT ?_;refine Bu 1 V V V (λg=>(.any::.lit (.pointer (lC ⟨g,0,lB⟩))::A80 (A20 [.any]))) (λg=>(by(repeat(first|exact kI|refine kJ ?_|refine kG ?_|refine kH V ?_)))) λE=>?_
 refine Ab λK2 h2=>?_
 (refine jX ?_;(repeat(first|refine sQ ?_|refine AO ?_|refine Bq ?_)))
 refine AF V (Ai8 V Azo V V c a λO=>?_);refine sNt ?_
 (repeat(first|refine sQ ?_|refine AO ?_|refine Bq ?_))
 refine Au ?_;refine h2 _ ?_;refine nT ?_;refine AK ⟨(.any::.lit (.pointer (lC ⟨E,0,lB⟩))::.any::.lit (.slice (lC ⟨O,0,lB⟩) f.blocks.length f.blocks.length)::A80 (A10 (A9 []))),[.res (Bl []),.res (Bf E (Ak f)),.res (Bf O (jJ f.blocks.length (.lit (.map lB))))]⟩ (BX) ?_;refine Ab λK3 h3=>?_
 suffices y:∀s':St,St.le C s' ⟨(.any::.lit (.pointer (lC ⟨E,0,lB⟩))::.any::.lit (.slice (lC ⟨O,0,lB⟩) f.blocks.length f.blocks.length)::.own 3 0::.bs tInt.slice (GV f f.blocks.length)::A80 (A10 (A7 []))),[.res (Bl []),.res (Bf E (Ak f)),.res (Bf O (jJ f.blocks.length (.lit (.map lB)))),.row 0 3 tInt []]⟩->K3 s' by
  (refine Ai1 0 (by kernel_rfl) (by kernel_rfl) ?_;refine Fh ?_;(refine BN [0,4] (tC ?_ (tC ?_ AP));(refine oQ ?_;(refine BN [1,4] (tC ?_ (tC ?_ AP));(refine oQ ?_;(refine BN [2,4] (tC ?_ (tC ?_ AP));(refine oQ ?_;(refine BN [3,4] (tC ?_ (tC ?_ AP));((refine Eg (T:=tInt) (m:=1) (e:=3) V V (by decide) V V c a ?_;refine tNt ?_);(refine BN [4] (tC ?_ AP);(refine oQ ?_;(refine BN [5] (tC ?_ AP);(refine oQ ?_ (AT.call V (Cv f H G) V V V);(refine BN [6] (tC ?_ AP);(refine oQ ?_;(refine BN [7] (tC ?_ AP);(refine oQ ?_;(exact KH (y _ (BX))))))))))));(refine oQ ?_;(refine BN [3,5] (tC ?_ (tC ?_ AP));((refine Eg (T:=tInt) (m:=1) (e:=3) V V (by decide) V V c a ?_;refine tNt ?_);(refine BN [5] (tC ?_ AP);(refine oQ ?_ (AT.call V (Cv f H G) V V V);(refine BN [6] (tC ?_ AP);(refine oQ ?_;(refine BN [7] (tC ?_ AP);(refine oQ ?_;(exact KH (y _ (BX))))))))));(refine oQ ?_ (AT.call V (Cv f H G) V V V);(refine BN [3] (tC ?_ AP);((refine Eg (T:=tInt) (m:=1) (e:=3) V V (by decide) V V c a ?_;refine tNt ?_);(refine BN [6] (tC ?_ AP);(refine oQ ?_;(refine BN [7] (tC ?_ AP);(refine oQ ?_;(exact KH (y _ (BX))))))))))))));(refine oQ ?_;(refine BN [2,5] (tC ?_ (tC ?_ AP));(refine oQ ?_;(refine BN [3,5] (tC ?_ (tC ?_ AP));((refine Eg (T:=tInt) (m:=1) (e:=3) V V (by decide) V V c a ?_;refine tNt ?_);(refine BN [5] (tC ?_ AP);(refine oQ ?_ (AT.call V (Cv f H G) V V V);(refine BN [6] (tC ?_ AP);(refine oQ ?_;(refine BN [7] (tC ?_ AP);(refine oQ ?_;(exact KH (y _ (BX))))))))));(refine oQ ?_ (AT.call V (Cv f H G) V V V);(refine BN [3] (tC ?_ AP);((refine Eg (T:=tInt) (m:=1) (e:=3) V V (by decide) V V c a ?_;refine tNt ?_);(refine BN [6] (tC ?_ AP);(refine oQ ?_;(refine BN [7] (tC ?_ AP);(refine oQ ?_;(exact KH (y _ (BX))))))))))));(refine oQ ?_ (AT.call V (Cv f H G) V V V);(refine BN [2] (tC ?_ AP);(refine oQ ?_;(refine BN [3] (tC ?_ AP);((refine Eg (T:=tInt) (m:=1) (e:=3) V V (by decide) V V c a ?_;refine tNt ?_);(refine BN [6] (tC ?_ AP);(refine oQ ?_;(refine BN [7] (tC ?_ AP);(refine oQ ?_;(exact KH (y _ (BX))))))))))))))));(refine oQ ?_;(refine BN [1,5] (tC ?_ (tC ?_ AP));(refine oQ ?_;(refine BN [2,5] (tC ?_ (tC ?_ AP));(refine oQ ?_;(refine BN [3,5] (tC ?_ (tC ?_ AP));((refine Eg (T:=tInt) (m:=1) (e:=3) V V (by decide) V V c a ?_;refine tNt ?_);(refine BN [5] (tC ?_ AP);(refine oQ ?_ (AT.call V (Cv f H G) V V V);(refine BN [6] (tC ?_ AP);(refine oQ ?_;(refine BN [7] (tC ?_ AP);(refine oQ ?_;(exact KH (y _ (BX))))))))));(refine oQ ?_ (AT.call V (Cv f H G) V V V);(refine BN [3] (tC ?_ AP);((refine Eg (T:=tInt) (m:=1) (e:=3) V V (by decide) V V c a ?_;refine tNt ?_);(refine BN [6] (tC ?_ AP);(refine oQ ?_;(refine BN [7] (tC ?_ AP);(refine oQ ?_;(exact KH (y _ (BX))))))))))));(refine oQ ?_ (AT.call V (Cv f H G) V V V);(refine BN [2] (tC ?_ AP);(refine oQ ?_;(refine BN [3] (tC ?_ AP);((refine Eg (T:=tInt) (m:=1) (e:=3) V V (by decide) V V c a ?_;refine tNt ?_);(refine BN [6] (tC ?_ AP);(refine oQ ?_;(refine BN [7] (tC ?_ AP);(refine oQ ?_;(exact KH (y _ (BX))))))))))))));(refine oQ ?_ (AT.call V (Cv f H G) V V V);(refine BN [1] (tC ?_ AP);(refine oQ ?_;(refine BN [2] (tC ?_ AP);(refine oQ ?_;(refine BN [3] (tC ?_ AP);((refine Eg (T:=tInt) (m:=1) (e:=3) V V (by decide) V V c a ?_;refine tNt ?_);(refine BN [6] (tC ?_ AP);(refine oQ ?_;(refine BN [7] (tC ?_ AP);(refine oQ ?_;(exact KH (y _ (BX))))))))))))))))));(refine oQ ?_;(refine BN [0,5] (tC ?_ (tC ?_ AP));(refine oQ ?_;(refine BN [1,5] (tC ?_ (tC ?_ AP));(refine oQ ?_;(refine BN [2,5] (tC ?_ (tC ?_ AP));(refine oQ ?_;(refine BN [3,5] (tC ?_ (tC ?_ AP));((refine Eg (T:=tInt) (m:=1) (e:=3) V V (by decide) V V c a ?_;refine tNt ?_);(refine BN [5] (tC ?_ AP);(refine oQ ?_ (AT.call V (Cv f H G) V V V);(refine BN [6] (tC ?_ AP);(refine oQ ?_;(refine BN [7] (tC ?_ AP);(refine oQ ?_;(exact KH (y _ (BX))))))))));(refine oQ ?_ (AT.call V (Cv f H G) V V V);(refine BN [3] (tC ?_ AP);((refine Eg (T:=tInt) (m:=1) (e:=3) V V (by decide) V V c a ?_;refine tNt ?_);(refine BN [6] (tC ?_ AP);(refine oQ ?_;(refine BN [7] (tC ?_ AP);(refine oQ ?_;(exact KH (y _ (BX))))))))))));(refine oQ ?_ (AT.call V (Cv f H G) V V V);(refine BN [2] (tC ?_ AP);(refine oQ ?_;(refine BN [3] (tC ?_ AP);((refine Eg (T:=tInt) (m:=1) (e:=3) V V (by decide) V V c a ?_;refine tNt ?_);(refine BN [6] (tC ?_ AP);(refine oQ ?_;(refine BN [7] (tC ?_ AP);(refine oQ ?_;(exact KH (y _ (BX))))))))))))));(refine oQ ?_ (AT.call V (Cv f H G) V V V);(refine BN [1] (tC ?_ AP);(refine oQ ?_;(refine BN [2] (tC ?_ AP);(refine oQ ?_;(refine BN [3] (tC ?_ AP);((refine Eg (T:=tInt) (m:=1) (e:=3) V V (by decide) V V c a ?_;refine tNt ?_);(refine BN [6] (tC ?_ AP);(refine oQ ?_;(refine BN [7] (tC ?_ AP);(refine oQ ?_;(exact KH (y _ (BX))))))))))))))));(refine oQ ?_ (AT.call V (Cv f H G) V V V);(refine BN [0] (tC ?_ AP);(refine oQ ?_;(refine BN [1] (tC ?_ AP);(refine oQ ?_;(refine BN [2] (tC ?_ AP);(refine oQ ?_;(refine BN [3] (tC ?_ AP);((refine Eg (T:=tInt) (m:=1) (e:=3) V V (by decide) V V c a ?_;refine tNt ?_);(refine BN [6] (tC ?_ AP);(refine oQ ?_;(refine BN [7] (tC ?_ AP);(refine oQ ?_;(exact KH (y _ (BX))))))))))))))))))))
 intro s' br
 ·refine h3 _ (AK _ br ?_);refine AK _ (Ab0 (R:=mapsR [] []) (λ_ _=>⟨rfl,jB,λi m S hm=>by simp at hm⟩) (λg hg=>by cases hg) V) ?_;refine Ab λK4 h4=>?_
  refine Ab λK5 h5=>?_
  refine rR ?_;refine h5 _ ?_;refine nT ?_;refine Ad ?_;refine AH (λp:Nat×Nat×List Nat=>⟨(.any::.lit (.pointer (lC ⟨E,0,lB⟩))::.any::.lit (.slice (lC ⟨O,0,lB⟩) f.blocks.length f.blocks.length)::.own 3 p.2.1::.bs tInt.slice (GV f f.blocks.length)::A20 (.lit (.int .i64 (f.blocks.length:Int))::.lit (.int .i64 (p.1:Int))::A40 (A20 (A10 (A5 []))))),[.res (Bl []),.res (Bf E (Ak f)),.res (Bf O (Kw p.2.2 f.blocks.length)),.row p.2.1 3 tInt (MS (jH p.1)),.res (mapsR p.2.2 (jJ p.1 λ_=>aI))]⟩) (λp=>p.1<=f.blocks.length/\p.2.2.length=p.1) (λp=>f.blocks.length - p.1) (0,0,[]) ⟨kX _,rfl⟩ (BX) ?_;rintro⟨b,ver,ms⟩ ⟨U,ab⟩;dsimp only at U ab⊢;refine Ab λK7 h7=>?_
  refine rR ?_;refine h7 _ ?_;refine nT ?_;refine Ab λK8 h8=>?_
  refine Ah V (λak=>?_) (λak=>?_)
  ·have ac:b < f.blocks.length:=by simpa using ak
   have aj:b+ [Ff 0].length<=(Kw ms f.blocks.length).length:=by rw[Abo (by omega)];exact ac
   have hw:=LU (k:=b) (by omega);have bn:(MS (jH b)).length+ [(b:Int)].length<=fE:=by rw[Gy];simp[fE];omega
   have bm:((MS (jH b)).length+ [(b:Int)].length) * 8<=140737488355328:=by rw[Gy];simp;omega
   refine Al ?_;refine h8 _ ?_;refine nT ?_;refine Ab λdz cv=>?_
   refine Ad ?_;refine Ab λdy cu=>?_
   refine rR ?_;refine cu _ ?_;refine nT ?_;refine Ab λdx ct=>?_
   (refine jX ?_;(repeat(first|refine sQ ?_|refine AO ?_|refine Bq ?_)))
   refine AF V (Qk V λm=>?_);refine sNt ?_
   (repeat(first|refine sQ ?_|refine AO ?_|refine Bq ?_))
   refine AF V (IB (i:=2) (new:=[Ff m]) V V V (Qb.one (One.lit V)) V V aj ?_);refine sNt ?_;refine Au ?_;rw[Abn ab ac];refine ct _ ?_;refine nT ?_;refine AK _ (Ab1 (i:=4) (j:=5) (by decide) V V) ?_;refine rR ?_;refine cv _ ?_;refine nT ?_;refine rR ?_;refine Ap ⟨(b+1,ver+1,ms++[m]),⟨by omega,by simp[ab]⟩,by dsimp only;omega,?_⟩;dsimp only;rw[jI,L9,List.replicate_succ'];exact Kr (jZ (jZ (jZ (jZ (jZ (j6 _))))))
  ·refine Ay ?_;have ax:b=f.blocks.length:=by
    have:¬b < f.blocks.length:=by simpa using ak
    omega
   subst ax;refine h4 _ ?_;refine nT ?_;rw[Xg ab];refine Ab λdw cs=>?_
   refine Ad ?_;have cc:AllI f (BA f) (jH f.blocks.length) (jJ f.blocks.length λ_=>aI):=AllI.start λb=>iY
   have aq:=Ap2 (BA f) (jJ f.blocks.length λ_=>aI);rw[List.length_replicate]at aq;have cy:=Auo bw cb aq;refine AH (λp:List Nat×Nat×List Nat×List (Int->Bool)=>⟨(.any::.lit (.pointer (lC ⟨E,0,lB⟩))::.any::.lit (.slice (lC ⟨O,0,lB⟩) f.blocks.length f.blocks.length)::.own 3 p.2.1::.bs tInt.slice (GV f f.blocks.length)::A80 (A10 (A7 []))),[.res (Bl p.1),.res (Bf E (Ak f)),.res (Bf O (ms.map Ff)),.row p.2.1 3 tInt (MS p.2.2.1),.res (mapsR ms p.2.2.2)]⟩) (λp=>AllI f (BA f) p.2.2.1 p.2.2.2/\2 * Pv (BA f) p.2.2.2+p.2.2.1.length<=10000000000000) (λp=>2 * Pv (BA f) p.2.2.2+p.2.2.1.length) ([],ver,jH f.blocks.length,jJ f.blocks.length λ_=>aI) ⟨cc,by dsimp only;rw[List.length_range];omega⟩ (BX) ?_;rintro⟨ds,ver,K,Ss⟩ ⟨hI,aa⟩;dsimp only at hI aa⊢;refine Ab λdv cr=>?_
   refine Ab λdu cq=>?_
   refine rR ?_;refine cq _ ?_;refine nT ?_;refine Ah V (λY=>?_) (λY=>?_)
   ·have bk:K≠[]:=λe=>by subst e;simp[MS]at Y
    obtain⟨w0,b,rfl⟩:∃w0 b,K=w0++[b]:=⟨_,_,(List.dropLast_concat_getLast bk).symm⟩
    have hl:(MS (w0++[b])).length=w0.length+1:=by rw[Gy];simp
    have db:w0.length<=10000000000000:=by simp at aa;omega
    have cz:(MS (w0++[b]))[(((MS (w0++[b])).length:Int) - 1).toNat]? =lC (b:Int):=by
     rw[hl,L9,show(((w0.length+1:Nat):Int) - 1).toNat=(MS w0).length by rw[Gy];omega];simp
    have aw:AV.lit (.int .i64 (((MS (w0++[b])).length:Int) - 1))= .lit (.int .i64 (w0.length:Int)):=by
     rw[hl,show(((w0.length+1:Nat):Int) - 1)=(w0.length:Int)by omega]
    have bv:w0.length<=(MS (w0++[b])).length:=by omega
    have bh:(MS (w0++[b])).take w0.length=MS w0:=by rw[L9,<-Gy w0];simp
    have U:b < f.blocks.length:=hI.lt b (by simp);obtain⟨m,hm⟩:∃m,ms[b]? =lC m:=⟨_,gP (by omega)⟩
    obtain⟨S,hS⟩:∃S,Ss[b]? =lC S:=⟨_,gP (by rw[hI.len];exact U)⟩
    obtain⟨z,ag⟩:∃z,f.blocks[b]? =lC z:=⟨_,gP U⟩
    have az:at_ Ss b=S:=by unfold at_;rw[gK,hS];rfl
    have af:Cn f b=z.ins:=by unfold Cn;rw[ag]
    have F:=iV ag;have ap:=G.all z F;have bj:=H.blocks z F;have bb:Sub (BA f) S:=by have:=hI.sub b;rwa [az]at this
    have dd:(ms.map Ff)[b]? =lC (Ff m):=by rw[gT,hm];rfl
    refine Al ?_;refine cr _ ?_;refine nT ?_;refine Ad ?_;refine Ab λdt cp=>?_
    refine rR ?_;refine cp _ ?_;refine nT ?_;refine Ab λdr co=>?_
    (refine jX ?_;(repeat(first|refine sQ ?_|refine AO ?_|refine Bq ?_)))
    refine AF V (Ng (i:=3) (m:=w0.length) V V V V ⟨.i64,aw⟩ bv ?_);refine sNt ?_
    (repeat(first|refine sQ ?_|refine AO ?_|refine Bq ?_))
    refine Au ?_;rw[bh];refine co _ ?_;refine nT ?_;refine Ab λdq cn=>?_
    (refine jX ?_;(repeat(first|refine sQ ?_|refine AO ?_|refine Bq ?_)))
    refine AF V (VS (i:=4) V V (Abj hm hS) (λ_=>rfl) V V λN=>?_);refine sNt ?_
    (repeat(first|(refine AF V (CU (new:=[_]) V V V (Qb.one (One.lit V)) V (kQ V) ?_);refine sNt ?_)|refine sQ ?_|refine AO ?_|refine Bq ?_))
    refine Au ?_;refine cn _ ?_;refine nT ?_;refine Bu 6 V V V (λg=>(.any::.lit (.pointer (lC ⟨E,0,lB⟩))::.any::.lit (.slice (lC ⟨O,0,lB⟩) f.blocks.length f.blocks.length)::.own 3 (ver+1)::.bs tInt.slice (GV f f.blocks.length)::.any::.lit (.int .i64 (b:Int))::.lit (.pointer (lC ⟨g,0,lB⟩))::A80 (A10 (A4 [])))) (λg=>(by(repeat(first|exact kI|refine kJ ?_|refine kG ?_|refine kH V ?_)))) λW=>?_
    refine VL 3 V V (λv=>(.any::.lit (.pointer (lC ⟨E,0,lB⟩))::.any::.lit (.slice (lC ⟨O,0,lB⟩) f.blocks.length f.blocks.length)::.lit v::.bs tInt.slice (GV f f.blocks.length)::.any::.lit (.int .i64 (b:Int))::.lit (.pointer (lC ⟨W,0,lB⟩))::A80 (A10 (A4 [])))) (λv=>(by(repeat(first|exact Opn.nil|refine Opn.own ?_|refine Opn.any ?_|refine Opn.keep V ?_)))) λvw=>?_
    refine Ab λdp cm=>?_
    refine Ab λdn ck=>?_
    (refine jX ?_;(repeat(first|refine sQ ?_|refine AO ?_|refine Bq ?_)))
    refine AF V (Cs V (ND z.ins) (λ_=>rfl) V V λp=>?_);refine sNt ?_
    (repeat(first|refine sQ ?_|refine AO ?_|refine Bq ?_))
    refine Au ?_;refine ck _ ?_;refine nT ?_;refine AK ⟨(.any::.lit (.pointer (lC ⟨E,0,lB⟩))::.any::.lit (.slice (lC ⟨O,0,lB⟩) f.blocks.length f.blocks.length)::.lit vw::.bs tInt.slice (GV f f.blocks.length)::.any::.lit (.int .i64 (b:Int))::.lit (.pointer (lC ⟨W,0,lB⟩))::A40 (A10 (A5 (.lit (bkF p)::A20 (A10 (A8 [])))))),[.res (Bl ds),.res (Bf E (Ak f)),.res (Bf O (ms.map Ff)),.res (rowR vw 3 tInt (MS w0)),.res (mapsR ms Ss),.res (IN S N),.res (Bf W [Ff N]),.res (bkR z.ins p)]⟩ (BX) ?_;refine Ad ?_;obtain⟨sg,P⟩:∃sg:(Int->Bool)->List jU,sg=λT=>[.dead,.res (Bf E (Ak f)),.res (Bf O (ms.map Ff)),.res (rowR vw 3 tInt (MS w0)),.res (mapsR ms Ss),.res (IN T N),.res (Bf W [Ff N]),.dead]:=⟨_,rfl⟩
    refine HJ 7 0 (λk=>sg (bkS z.ins S k)) bi V (by decide) V V V ?hdrop ?hd1 ?hd2 ?hd3 V (Aos _) (Aia _) (Qd (by kernel_rfl) λw T h1 h2 h3=>Mk z.ins ap.ins p w T h1 h2 h3) ?hround ?hdone
    case hdrop=>
     rw[SC,P];exact⟨j5 (jZ (jZ (jZ (jZ (jZ (jZ (j5 (j6 _)))))))),λb hb=>fM.1 (show bdH [.dead,.res (Bf E (Ak f)),.res (Bf O (ms.map Ff)),.res (rowR vw 3 tInt (MS w0)),.res (mapsR ms Ss),.res (IN S N),.res (Bf W [Ff N]),.dead]=aN from V) b hb⟩
    case hd1=>rw[P];rfl
    case hd2=>intro k;rw[P];rfl
    case hd3=>intro k;rw[P];rfl
    case hround=>
     intro k hk C' dc;obtain⟨d,hd⟩:∃d,z.ins[z.ins.length - 1 - k]? =lC d:=⟨_,gP (by omega)⟩
     have ai:=iV hd;have bx:bkE z.ins k= [.lit (.int .i64 ((z.ins.length - 1 - k:Nat):Int)),.agg (BZ d)]:=by unfold bkE;rw[hd]
     have ao:=Xj bb (ae z F) k;have ca:d.args.length<=2097152:=by have:=ap.all d ai;omega
     rw[bx,P];refine C6 (t':=(.any::.lit (.pointer (lC ⟨E,0,lB⟩))::.any::.lit (.slice (lC ⟨O,0,lB⟩) f.blocks.length f.blocks.length)::.lit vw::.bs tInt.slice (GV f f.blocks.length)::.any::.lit (.int .i64 (b:Int))::.lit (.pointer (lC ⟨W,0,lB⟩))::A40 (A10 (A5 (.lit (bkF p)::.lit (.int .i64 ((z.ins.length - 1 - k:Nat):Int))::.agg (BZ d)::A20 (A10 (A6 []))))))) V V ?_;refine rR ?_;refine Ap ?_;intro ea cw;refine nT ?_;refine Ad ?_
     (refine jX ?_;(repeat(first|refine sQ ?_|refine AO ?_|refine Bq ?_)))
     refine AF V (BR (i:=5) V V (Vj d _ (BA f) N (bj.ins d ai) ca Z ao.inR (ae z F d ai)) (λ_=>rfl) V V λ_=>?_);refine sNt ?_;refine Au ?_;refine⟨rfl,?_⟩;rw[YZ hd hk];exact⟨jZ (jZ (jZ (jZ (jZ (jZ (jZ (jZ (j6 _)))))))),λb hb=>fM.1 (show bdH [.dead,.res (Bf E (Ak f)),.res (Bf O (ms.map Ff)),.res (rowR vw 3 tInt (MS w0)),.res (mapsR ms Ss),.res (IN (M8 d (bkS z.ins S k)) N),.res (Bf W [Ff N]),.dead]=aN from V) b hb⟩
    case hdone=>
     intro D;have bz:(GV f f.blocks.length)[b]? =lC (SE f b):=by
      unfold SE;rw[gK,gP (by rw[Gb];exact U)];rfl
     have ax:=SD f f.blocks.length _ (iV bz);have bc:Sub (BA f) (inS z.ins S):=bb.inS (ae z F);rw[Aro,P];refine cm _ ?_;refine C6 (t':=(.any::.lit (.pointer (lC ⟨E,0,lB⟩))::.any::.lit (.slice (lC ⟨O,0,lB⟩) f.blocks.length f.blocks.length)::.lit vw::.bs tInt.slice (GV f f.blocks.length)::.any::.lit (.int .i64 (b:Int))::.lit (.pointer (lC ⟨W,0,lB⟩))::A40 (A10 (A5 (.lit (bkF p)::A20 (A10 (A8 []))))))) (h':=[.res (Bl (D::ds)),.res (Bf E (Ak f)),.res (Bf O (ms.map Ff)),.res (rowR vw 3 tInt (MS w0)),.res (mapsR ms Ss),.res (IN (inS z.ins S) N),.res (Bf W [Ff N]),.dead]) V V ?_;refine AK _ (Iv 3 (ver:=ver+1) (t':=(.any::.lit (.pointer (lC ⟨E,0,lB⟩))::.any::.lit (.slice (lC ⟨O,0,lB⟩) f.blocks.length f.blocks.length)::.own 3 (ver+1)::.bs tInt.slice (GV f f.blocks.length)::.any::.lit (.int .i64 (b:Int))::.lit (.pointer (lC ⟨W,0,lB⟩))::A80 (A10 (A4 [])))) V V (by(try simp only[Bn,zac]);(repeat(first|exact Cls.nil|refine Cls.own ?_|refine Cls.any ?_|refine Cls.keep V ?_)))) ?_;refine Ab λdl ci=>?_
     refine rR ?_;refine ci _ ?_;refine nT ?_;refine Ad ?_;refine AH (λp:Nat×Nat×List Nat×List (Int->Bool)=>⟨(.any::.lit (.pointer (lC ⟨E,0,lB⟩))::.any::.lit (.slice (lC ⟨O,0,lB⟩) f.blocks.length f.blocks.length)::.own 3 p.2.1::.bs tInt.slice (GV f f.blocks.length)::A2 (.lit (.pointer (lC ⟨W,0,lB⟩))::A40 (A20 (A4 (.bs tInt (SE f b)::.lit (.int .i64 ((SE f b).length:Int))::.lit (.int .i64 (p.1:Int))::A20 (A7 [])))))),[.res (Bl (D::ds)),.res (Bf E (Ak f)),.res (Bf O (ms.map Ff)),.row p.2.1 3 tInt (MS p.2.2.1),.res (mapsR ms p.2.2.2),.res (IN (inS z.ins S) N),.res (Bf W [Ff N]),.dead]⟩) (λp=>p.1<=(SE f b).length/\AllJ f (BA f) b w0 Ss ((SE f b).take p.1) p.2.2.1 p.2.2.2) (λp=>(SE f b).length - p.1) (0,ver+1,w0,Ss) ⟨kX _,hI.split⟩ (BX) ?_;rintro⟨i,v2,wt,Ts⟩ ⟨bt,hJ⟩;dsimp only at bt hJ⊢;have bq:=hJ.less;have da:wt.length<=10000000000000:=by simp at aa;omega
     refine Ab λdk ch=>?_
     refine rR ?_;refine ch _ ?_;refine nT ?_;refine Ab λdj cg=>?_
     refine Ah V (λX=>?_) (λX=>?_)
     ·have ac:i < (SE f b).length:=by simpa using X
      obtain⟨x,am⟩:∃x,(SE f b)[i]? =lC x:=⟨_,gP ac⟩
      obtain⟨k,av,rfl⟩:=(J6 U x).1 (iV am);have ar:=(Ir av).1;obtain⟨mk,I⟩:∃mk,ms[k]? =lC mk:=⟨_,gP (by omega)⟩
      obtain⟨T,ad⟩:∃T,Ts[k]? =lC T:=⟨_,gP (by rw[hJ.len];exact ar)⟩
      have cx:(ms.map Ff)[k]? =lC (Ff mk):=by rw[gT,I];rfl
      have ay:at_ Ts k=T:=by unfold at_;rw[gK,ad];rfl
      have al:Sub (BA f) T:=by have:=hJ.sub k;rwa [ay]at this
      have ba:Sub (BA f) (uni T (inS z.ins S)):=λr hr=>by
       unfold uni at hr;rw[aM]at hr;rcases hr with hr|hr
       ·exact al r hr
       ·exact bc r hr
      have ah:(Ts.set k (uni T (inS z.ins S)))[k]? =lC (uni T (inS z.ins S)):=gX (by rw[hJ.len];exact ar);have u:=hJ.step hI av ad (by rw[af];exact ae z F);dsimp only at u;rw[af,az]at u;have an:(SE f b).take (i+1)=(SE f b).take i++[(k:Int)]:=by rw[jO,am];rfl
      rw[<-an]at u;have hw:=LU (k:=k) (by omega);have bn:(MS wt).length+ [(k:Int)].length<=fE:=by rw[Gy];simp[fE];omega
      have bm:((MS wt).length+ [(k:Int)].length) * 8<=140737488355328:=by rw[Gy];simp;omega
      refine Al ?_;refine cg _ ?_;refine nT ?_;refine Ab λdi bf=>?_
      refine Ad ?_;refine Ab λdh cf=>?_
      refine rR ?_;refine cf _ ?_;refine nT ?_;refine Ab λdg ce=>?_
      (refine jX ?_;(repeat(first|refine sQ ?_ (HE (i:=4) V Adb V V (Jk I ad) Z al.inR)|refine sQ ?_|refine AO ?_|refine Bq ?_));refine Au ?_)
      refine ce _ ?_;refine nT ?_;refine Ab λdf cd=>?_
      (refine NY 5 (hh:=?_);(repeat(first|refine qQ ?_|refine Hf ?_));refine Fh ?_;(repeat(first|(refine AF V (SY (i:=4) (j:=5) (by decide) V V V (Abh I ad Z al.inR bc.inR) (λ_=>rfl) V V λ_=>?_);refine sNt ?_)|refine sQ ?_|refine AO ?_|refine Bq ?_));refine Au ?_)
      refine cd _ ?_;refine nT ?_;refine Ab λde be=>?_
      rcases hc:aO ((((BA f).filter (uni T (inS z.ins S))).length:Int) > (((BA f).filter T).length:Int))with _|_
      ·rw[if_neg (by simpa using hc)]at u
       (refine jX ?_;(repeat(first|refine sQ ?_ (HE (i:=4) V Adb V V (Jk I ah) Z ba.inR)|refine sQ ?_|refine AO ?_|refine Bq ?_));refine Au ?_)
       refine be _ ?_;refine nT ?_;refine Ah V (λJ=>by cases J) (λJ=>?_);refine Al ?_;refine bf _ ?_;refine nT ?_;refine rR ?_;refine Ap ⟨(i+1,v2,wt,Ts.set k (uni T (inS z.ins S))),⟨by omega,u⟩,by dsimp only;omega,?_⟩;exact BX
      ·rw[if_pos (by simpa using hc)]at u
       (refine jX ?_;(repeat(first|refine sQ ?_ (HE (i:=4) V Adb V V (Jk I ah) Z ba.inR)|refine sQ ?_|refine AO ?_|refine Bq ?_));refine Au ?_)
       refine be _ ?_;refine nT ?_;refine Ah V (λJ=>?_) (λJ=>by cases J);refine rR ?_;refine bf _ ?_;refine nT ?_;refine rR ?_;refine Ap ⟨(i+1,v2+1,wt++[k],Ts.set k (uni T (inS z.ins S))),⟨by omega,u⟩,by dsimp only;omega,?_⟩;dsimp only;rw[L9];exact BX
     ·refine Ay ?_;have bu:i=(SE f b).length:=by
       have:¬i < (SE f b).length:=by simpa using X
       omega
      subst bu;rw[jQ]at hJ;refine Aif (Aif ?_);refine Abz ?_;refine Amv ?_;refine Ap ⟨(D::ds,v2,wt,Ts),⟨hJ.done_all hI,by dsimp only;simp at aa;omega⟩,by dsimp only;simp;omega,?_⟩;dsimp only;exact Kr (jZ (jZ (jZ (jZ (jZ (j6 _))))))
   ·refine Ay ?_;have bg:K= []:=fW (by
     have:¬(0:Int) < ((MS K).length:Int):=by simpa using Y
     rw[Gy]at this;omega)
    subst bg;refine cs _ ?_;refine nT ?_;have au:=hI.end_;have bo:=hI.len;subst au;refine AK _ (Xw (i:=2) (j:=4) (by decide) V V) ?_;refine Ab λdm cj=>?_
    refine rR ?_;refine cj _ ?_;refine nT ?_;refine Aw ?_;exact⟨.inr V,ds,rfl,rfl,Am4 (i:=2) (p:=(O,ms)) V bo a⟩
instance:AG cF 66 aI 1:=⟨by kernel_rfl⟩
instance:SZ cF 66 1:=⟨by kernel_rfl⟩
instance:ES cF 66 1:=⟨by kernel_rfl⟩
instance:SL cF 66:=⟨by kernel_rfl⟩
instance:RT cF 66 27 1 24:=⟨by kernel_rfl⟩
instance:AG cF 27 aI 1:=⟨by kernel_rfl⟩
instance:SZ cF 27 1:=⟨by kernel_rfl⟩
instance:ES cF 27 1:=⟨by kernel_rfl⟩
instance:SL cF 27:=⟨by kernel_rfl⟩
instance:RT cF 27 3 1 8:=⟨by kernel_rfl⟩
instance:AG cF 22 aI 1:=⟨by kernel_rfl⟩
instance:SZ cF 22 1:=⟨by kernel_rfl⟩
instance:ES cF 22 2:=⟨by kernel_rfl⟩
instance:SL cF 22:=⟨by kernel_rfl⟩
instance:RT cF 22 63 2 40:=⟨by kernel_rfl⟩
instance:AG cF 63 aN 2:=⟨by kernel_rfl⟩
instance:SZ cF 63 2:=⟨by kernel_rfl⟩
theorem Q4(R:List Int)(ds:List Ins)(S:Int->Bool):Id R ds S=(jH (ds.length+1)).map λi=>R.filter (inS (ds.drop i) S):=rfl
theorem Aot(f:kE)(b:Nat):Id (BA f) (Cn f b) (Yh f b)=Ca f b:=by
 rw[Q4];unfold Ca Dj;refine List.map_congr_left λi _=>?_
 congr 1;funext r;exact(Agb f (Yh f b) b i (λr=>Of) r).symm
theorem M6(f:kE)(b:Nat):(Ca f b).length=(Cn f b).length+1:=by simp[Ca]
noncomputable def inL(f:kE)(b:Nat):List Int:=(BA f).filter (inS (Cn f b) (Yh f b))
def atF(f:kE)(b:Int):List (List Int):=if 0<=b/\b < f.blocks.length then Ca f b.toNat else []
theorem GF(f:kE)(b:Nat):(Ca f b)[0]? =lC (inL f b):=by
 rw[<-Aot,Q4,gT,gU (by omega)];rfl
theorem RI{h:List jU}{α:Type}{T:Ty α}(c:mkD h= []:=by rfl):Fin h (.lit (.slice lB 0 0)) (.bs T []):=⟨c,λC S ψ w v d H a=>⟨S,λ_ h=>h,λ_ h=>.inl h,H.lt,by
 unfold jW at a⊢;rw[a];exact T.slice_nilS _ _⟩⟩
theorem Ayp(f:kE)(b:Int)(u:okFunc f)(m:smallF f)(z:(Cg f).length<=2097152):Fn cF 108 [.agg (Ak f),.lit (.int .i64 b)] (.bs tInt.slice (atF f b)):=by
 have G:=m.blocks;have y:=RV f u z;have g:∀b∈f.blocks,∀x∈b.ins,∀r∈readsC x,r∈BA f:=λb H x hx r F=>Jb.2 ⟨b,H,x,hx,F⟩
 refine AQ Tryz.func108 V (by kernel_rfl) V Tryz.ntmps108 λC J=>?_
 refine nS ?_;refine rRS ?_;refine Ab λO h2=>?_
 refine Ab λN D=>?_
 rcases hd1:aO (b < 0)with _|_
 ·rcases hd2:aO (b≥(f.blocks.length:Int))with _|_
  ·have h0:0<=b:=by simpa using hd1
   have v:b.toNat < f.blocks.length:=by
    have:b < (f.blocks.length:Int):=by simpa using hd2
    omega
   obtain⟨e,j⟩:∃e,f.blocks[b.toNat]? =lC e:=⟨_,gP v⟩
   have a:=iV j;have w:Cn f b.toNat=e.ins:=by unfold Cn;rw[j]
   have E:((jH f.blocks.length).map (Yh f))[b.toNat]? =lC (Yh f b.toNat):=by rw[gT,gU v];rfl
   have c:atF f b=Id (BA f) e.ins (Yh f b.toNat):=by
    unfold atF;rw[if_pos ⟨h0,by omega⟩,<-w,Aot]
   refine rR ?_;refine D _ ?_;refine nT ?_;refine Ah V (λd=>by cases d) (λd=>?_);refine Al ?_;refine h2 _ ?_;refine nT ?_;refine Ab λK I=>?_
   (refine NY 12 (hh:=?_);(repeat(first|refine qQ ?_ (AT.call V (Aou f u m z) V V V)|refine qQ ?_ (AT.call V (TV e (Yh f b.toNat) (BA f) (u.blocks e a) (m.all e a) y (Yg g _) (g e a)) V V V)|refine qQ ?_|refine Hf ?_));refine Fh ?_;(repeat(first|refine sQ ?_ (AT.call V (Aou f u m z) V V V)|refine sQ ?_ (AT.call V (TV e (Yh f b.toNat) (BA f) (u.blocks e a) (m.all e a) y (Yg g _) (g e a)) V V V)|refine sQ ?_|refine AO ?_|refine Bq ?_));refine Au ?_)
   refine I _ ?_;refine nT ?_;refine Aw ?_;rw[c];exact⟨.inr V,j9 V⟩
  ·have c:atF f b= []:=by
    have:(f.blocks.length:Int)<=b:=by simpa using hd2
    unfold atF;rw[if_neg (by omega)]
   refine rR ?_;refine D _ ?_;refine nT ?_;refine Ah V (λd=>?_) (λd=>by cases d);refine rRS ?_;refine Aw ?_;rw[c];exact⟨.inr V,RI⟩
 ·have c:atF f b= []:=by
   have:b < 0:=by simpa using hd1
   unfold atF;rw[if_neg (by omega)]
  refine rR ?_;refine D _ ?_;refine nT ?_;refine Ah V (λd=>?_) (λd=>by cases d);refine rRS ?_;refine Aw ?_;rw[c];exact⟨.inr V,RI⟩
end Mu
namespace Mu
open Go Go.RowKit Go.Proofs Go.Shelf
variable{b:Nat}{f:kE}{i:Nat}{l:List Int}{x:Ins}{α:Type}
attribute [local go_sem] Oper.semAt_some
def Z2{α:Type}(g:Nat->List α)(b:Nat):Nat:=((jH b).flatMap g).length
theorem Pj(g:Nat->List α)(b:Nat):Z2 g (b+1)=Z2 g b+(g b).length:=by
 unfold Z2;rw[jI,gF,hZ];simp
theorem Afs(g:Nat->List α)(b k:Nat):Z2 g b<=Z2 g (b+k):=by
 induction k with
 |zero=>exact kR _
 |succ k a=>rw[<-kL,Pj];omega
theorem Aft{α:Type}(g:Nat->List α):∀(n b i:Nat),b < n->i < (g b).length->((jH n).flatMap g)[Z2 g b+i]? =(g b)[i]?
 |0,b,i,h,_=>by omega
 |n+1,b,i,h,hi=>by
  rw[jI,gF];by_cases a:b=n
  ·subst a;rw[gL (by unfold Z2;omega)];unfold Z2;simp
  ·have h1:Z2 g b+i < ((jH n).flatMap g).length:=by
    have h2:=Afs g (b+1) (n - (b+1));rw[show b+1+(n - (b+1))=n by omega,Pj]at h2;unfold Z2 at h2⊢;omega
   rw[List.getElem?_append_left h1];exact Aft g n b i (by omega) hi
def EF(f:kE)(b:Nat):List (Ins×List Int):=(Cn f b).zip ((Ca f b).drop 1)
def stepsL(f:kE):List (Ins×List Int):=(jH f.blocks.length).flatMap (EF f)
theorem QT(f:kE)(b:Nat):(EF f b).length=(Cn f b).length:=by
 unfold EF;rw[List.length_zip,List.length_drop,M6];omega
theorem Tm(hx:(Cn f b)[i]? =lC x)(a:(Ca f b)[i+1]? =lC l):(EF f b)[i]? =lC (x,l):=by
 unfold EF;rw[List.getElem?_zip_eq_some];refine⟨hx,?_⟩;rw[gO,kM];exact a
theorem Tl(c:b < f.blocks.length)(hx:(Cn f b)[i]? =lC x)(a:(Ca f b)[i+1]? =lC l):(stepsL f)[Z2 (EF f) b+i]? =lC (x,l):=by
 have h:=Tm hx a;unfold stepsL;rw[Aft (EF f) _ b i c (gR.1 h).1,h]
def stE(f:kE)(k:Nat):List AV:=match(stepsL f)[k]? with
 |some q=>[.agg (BZ q.1),.bs tInt q.2]
 |none=>(A2 [])
theorem XT{k:Nat}{q:Ins×List Int}(h:(stepsL f)[k]? =lC q):stE f k= [.agg (BZ q.1),.bs tInt q.2]:=by unfold stE;rw[h]
theorem Adz(f:kE)(k:Nat):Bh (stE f k)=aN:=by
 unfold stE;split <;> rfl
theorem V4(f:kE)(k:Nat):(stE f k).length=2:=by
 unfold stE;split <;> rfl
theorem Ajv(F:Fence)(n:Nat)(hF:F.fn 88)(hro:F.round=lB)(cs:List eR)(w:eX)(hcs:cs.length=4):
 aR F n cF 88 #[.agg cs.toArray] w λe w'=>e= .returned (.func (.func 115) #[] #[.pointer (lC ⟨w.heap.size,0,lB⟩)])/\w'=w.alloc (.cells cs.toArray 24):=by
 match cs,hcs with
 | [a,b,c,d],_=>
  refine callsIn_of_wp Tryz.func88 V hF ?_ hro;simp only[Tryz.ntmps88,Nat.reduceAdd,Nat.reduceSub,zae]
  gi_wp2
  go_ret
  exact⟨rfl,rfl⟩
def stF(p:Nat):eR:=.func (.func 115) #[] #[.pointer (lC ⟨p,0,lB⟩)]
theorem OH(f:kE):Nd cF 88 [.agg (Ak f)] (λp=>Bf p (Ak f)) stF:=by
 refine⟨by kernel_rfl,λw S vs j d=>?_⟩;obtain⟨v,rfl,c⟩:=Acu d;obtain⟨cs,rfl,hc⟩:=I9 c;have g:cs.length=4:=by rw[By hc];rfl
 refine((fA (n:=4)).1 (Ajv aT 4 trivial V cs w g)).mono ?_;rintro e w' ⟨rfl,rfl⟩;have a:Below w.heap.size w (w.alloc (.cells cs.toArray 24)):=(eK _ _).alloc (kR _) _;exact⟨_,rfl,⟨a.os,a.tape,a.output,a.size,λk hk _=>a.block k hk⟩,w.heap.size,rfl,⟨cs,24,fD w _,AA (Ext.grow [] ψ0 (λk hk=>a.block k (j k hk)) λ_ h=>h) _ _ hc⟩,λk hk=>by
  have hk:k=w.heap.size:=hk;subst hk;exact⟨.inr (kR _),by simp⟩⟩
theorem Mv(f:kE)(ho:okFunc f)(hs:smallF f)(hT:(Cg f).length<=2097152)(N:∀b∈f.blocks,b.ins.length+1<=2097152)(u:Nat):
 Aiw cF 115 [.pointer (lC ⟨u,0,lB⟩)] (Bf u (Ak f)) (stE f) (stepsL f).length:=by
 have ad:=hs.blocks;refine NM Tryz.func115 V (by kernel_rfl) V Tryz.ntmps115 V λC H ι l F I hY q0=>?_
 simp only[iK,iL,Nat.reduceAdd,Nat.reduceSub,zaa];refine Ab λK1 h1=>?_
 refine rR ?_;refine h1 _ ?_;refine nT ?_;refine Ad ?_;refine AH (λp:Nat×ι=>⟨(.lit (.func (.yield l) #[] #[])::.lit (.pointer (lC ⟨u,0,lB⟩))::A7 (.lit (.int .i64 (f.blocks.length:Int))::.lit (.int .i64 (p.1:Int))::A20 (A8 []))),[.res (F (Z2 (EF f) p.1) p.2),.res (Bf u (Ak f))]⟩) (λp=>p.1<=f.blocks.length) (λp=>f.blocks.length - p.1) (0,q0) (kX _) (BX) ?_;rintro⟨b,q⟩ O;dsimp only at O⊢;refine Ab λK3 h3=>?_
 refine rR ?_;refine h3 _ ?_;refine nT ?_;refine Ab λK4 h4=>?_
 refine Ah V (λm=>?_) (λm=>?_)
 ·have y:b < f.blocks.length:=by simpa using m
  obtain⟨a,g⟩:∃a,f.blocks[b]? =lC a:=⟨_,gP y⟩
  have w:=iV g;have d:Cn f b=a.ins:=by unfold Cn;rw[g]
  have ac:=N a w;have T:atF f (b:Int)=Ca f b:=by
   unfold atF;rw[if_pos ⟨by omega,by omega⟩,fK]
  have hA:=Ayp f (b:Int) ho hs hT;rw[T]at hA;have G:(EF f b).length=a.ins.length:=by rw[QT,d]
  have c:=Pj (EF f) b;rw[G]at c;generalize J:Z2 (EF f) b=k0 at c⊢;refine Al ?_;refine h4 _ ?_;refine nT ?_;refine Ab λK6 h6=>?_
  refine Ad ?_;refine Ab λK7 h7=>?_
  refine rR ?_;refine h7 _ ?_;refine nT ?_;refine Ab λK8 h8=>?_
  (refine jX ?_;(repeat(first|refine sQ ?_ (AT.call V hA V V V)|refine sQ ?_|refine AO ?_|refine Bq ?_));refine Au ?_)
  refine h8 _ ?_;refine nT ?_;refine Ab λK9 h9=>?_
  refine rR ?_;refine h9 _ ?_;refine nT ?_;refine Ad ?_;refine AH (λp:Nat×ι=>⟨(.lit (.func (.yield l) #[] #[])::.lit (.pointer (lC ⟨u,0,lB⟩))::.any::.lit (.int .i64 (b:Int))::.bs tInt.slice (Ca f b)::A4 (.lit (.int .i64 (f.blocks.length:Int))::.lit (.int .i64 (b:Int))::A10 (.bs Em a.ins::.lit (.int .i64 (a.ins.length:Int))::.lit (.int .i64 (p.1:Int))::A10 (A5 [])))),[.res (F (k0+p.1) p.2),.res (Bf u (Ak f))]⟩) (λp=>p.1<=a.ins.length) (λp=>a.ins.length - p.1) (0,q) (kX _) (BX) ?_;rintro⟨i,q⟩ hi;dsimp only at hi⊢;refine Ab λai aa=>?_
  refine rR ?_;refine aa _ ?_;refine nT ?_;refine Ab λah Z=>?_
  refine Ah V (λe=>?_) (λe=>?_)
  ·have z:i < a.ins.length:=by simpa using e
   obtain⟨x,hx⟩:∃x,a.ins[i]? =lC x:=⟨_,gP z⟩
   obtain⟨E,D⟩:∃E,(Ca f b)[i+1]? =lC E:=⟨_,gP (by rw[M6,d];omega)⟩
   have ab:(Ca f b)[((i:Int)+1).toNat]? =lC E:=by rw[show((i:Int)+1).toNat=i+1 by omega];exact D
   have v:(stepsL f)[k0+i]? =lC (x,E):=by rw[<-J];exact Tl y (by rw[d];exact hx) D
   have U:∀q,Air cF l C.S0 C.w0.heap.size (F (k0+i) q) [.agg (BZ x),.bs tInt E] (F (k0+i+1)):=λq=>by
    have:=hY (k0+i) q (gR.1 v).1;rwa [XT v]at this
   refine Al ?_;refine Z _ ?_;refine nT ?_;refine Ab λag Y=>?_
   refine Ad ?_;refine Ab λaf X=>?_
   refine rR ?_;refine X _ ?_;refine nT ?_;refine Ab λae W=>?_
   refine Mr 7 (by kernel_rfl) (by kernel_rfl) ?_;simp only[zad]
   (repeat(first|refine qQ ?_|refine Hf ?_))
   refine Fh ?_;refine P3 V (Ay0.yield (i:=0) H V (λp=>by rw[I,I]) V V V V (U q) λq'=>?_);refine Dn (by(try simp only[Bn,zac]);exact V) (by(try simp only[Nat.reduceAdd,zab]);exact V) ?_;refine It V (AX (Cp V V) ?_);refine Gd ?_;refine W _ ?_;refine nT ?_;refine Ah V (λj=>by cases j) (λj=>?_);refine Al ?_;refine Y _ ?_;refine nT ?_;refine rR ?_;refine Ap ⟨(i+1,q'),by dsimp only;omega,by dsimp only;omega,?_⟩;exact Kr (.cons (.cons (j6 _)))
  ·have K:i=a.ins.length:=by
    have:¬i < a.ins.length:=by simpa using e
    omega
   subst K;rw[<-c];refine Ay ?_;refine h6 _ ?_;refine nT ?_;refine rR ?_;refine Ap ⟨(b+1,q),by dsimp only;omega,by dsimp only;omega,?_⟩;exact BX
 ·have P:b=f.blocks.length:=by
   have:¬b < f.blocks.length:=by simpa using m
   omega
  subst P;refine Ay ?_;exact⟨.inl V,q,rfl,by simp[mkD,ABlk.mrk,I];rfl⟩
end Mu
section
namespace Go.Proofs
open Go.Shelf
def Tryz.keysK_ren:eL:=⟨fun|7=>57|10=>97|n=>n,fun|23=>51|26=>3|3=>3|28=>90|0=>0|27=>89|33=>50|4=>4|n=>n,fun|n=>n⟩
theorem Tryz.keysK:Go.Proofs.SlLaysZI.n7 cF Tryz.keysK_ren:={
 mixed:=by kernel_rfl
 f7:=⟨Tryz.f57.name,by decide,Tryz.func57.trans (congrArg lC (by kernel_rfl))⟩
 f10:=⟨Tryz.f97.name,by decide,bM.trans (congrArg lC (by kernel_rfl))⟩
 t0:=cY
 a0:=bO
 z0:=cG
 v0:=dR
 t4:=dK
 a4:=b9
 z4:=cT
 v4:=eD
 t23:=dO
 a23:=Tryz.isAgg51
 z23:=Tryz.sizeOf51
 v23:=Tryz.zeroValue51
 t26:=dJ
 a26:=bZ
 z26:=cR
 v26:=eC
 t27:=Tryz.underlying89
 a27:=Tryz.isAgg89
 z27:=Tryz.sizeOf89
 v27:=Tryz.zeroValue89
 t28:=Tryz.underlying90
 a28:=Tryz.isAgg90
 z28:=Tryz.sizeOf90
 v28:=Tryz.zeroValue90
 t33:=Tryz.underlying50
 a33:=Tryz.isAgg50
 z33:=Tryz.sizeOf50
 v33:=Tryz.zeroValue50}
end Go.Proofs
end
namespace Mu
open Go Go.RowKit Go.Proofs Go.Maps Go.Shelf
section
variable{P:bE}{C:Ctx}{t:List AV}{h:List jU}{o:bC}
def AAo(P:bE)(f:aU)(R1 R2:Res)(args:List AV)(r:AV):Prop:=
 Cd P f=aN/\∀(w:eX) (S:Nat->Prop) (vs:List eR),(∀k,S k->k < w.heap.size)->(∀g,R1.F g->g < w.heap.size)->(∀g,R2.F g->g < w.heap.size)->R1.R w S->R2.R w S->Af w S [] ψ0 args vs->
  aP P f vs.toArray w λe w'=>∃v,e= .returned v/\Za w S [] ψ0 r v w'
theorem VE{f:aU}{args:Array bD}{m:Array eQ}{xs:List AV}{r:AV}{R1 R2:Res}(i j:Nat)(hi:h[i]? =lC (.res R1))(J:h[j]? =lC (.res R2))
 (y:o.op= .call {callee:=.value (.func f),args:=args,argTypes:=m})(z:AAo P f R1 R2 xs r)(hx:args.toList.map (evA t)=xs)(hc:Bh xs=aN)(I:jV r=aN):AT P C t h o r:=by
 intro S ψ w ρ H a;have h1:ρ (.func f)= .func (.func f) #[] #[]:=by
  have:=a (.func f) (by rw[y];exact aE.2 (.inl (by simp)));simpa[evA,jW]using this
 rw[Cx y z.1 ρ w h1];refine⟨rfl,?_⟩;have h2:Af w S h ψ xs (args.toList.map ρ):=by
  rw[<-hx];exact Cf λx u=>a x (by rw[y];exact aE.2 (.inr (Array.mem_toList_iff.1 u)))
 have d:=H.blk i _ hi;have c:=H.blk j _ J;have O:=z.2 w S (args.toList.map ρ) H.lt (λg hg=>(d.1 g hg).2.2) (λg hg=>(c.1 g hg).2.2) d.2 c.2 (Bj _ _ hc h2);rw[show(args.map ρ)=(args.toList.map ρ).toArray from(by rw[<-aF])];refine O.mono ?_;rintro e w' ⟨v,K,N,S',G,F,E,D⟩;exact⟨v,K,N,S',G,F,E,DA _ _ I D⟩
end
section
variable{C:Ctx}{t:List AV}{h:List jU}{o:bC}
theorem Zc{ty:eQ}{x y z:bD}(i:Nat){m:Nat}{S:Int->Bool}{R:List Int}{r:Int}{K:St->Prop}(u:o.op= .mapUpdate ty x y z)(v:cF.underlying ty=lC (.map 3 3))(hi:h[i]? =lC (.res (IN S m)))
 (hx:evA t x= .lit (.map (lC m)))(W:evA t y= .lit (.int .i64 r))(U:evA t z= .lit (.int .i64 1))(hR:RegsR R)(F:InR R S)(X:Cm r)(hK:K ⟨Bn t o.dst (.lit undef),h.set i (.res (IN (Ain S r) m))⟩):AOp cF C o ⟨t,h⟩ K:=by
 refine AOp.turn (ι:=Unit) (Rs:=λ_=>IN (Ain S r) m) (val:=λ_=>undef) hi (λ_=>rfl) (λT ψ w ρ H I Z c=>?_) (λ_=>hK);have h1:=c x (by simp[u,bB]);have h2:=c y (by simp[u,bB]);have J:=c z (by simp[u,bB]);rw[hx]at h1;rw[W]at h2;rw[U]at J;unfold jW at h1 h2 J;obtain⟨D,a,O⟩:=(show IQ w m S from I)
 have E:=G7 a O hR F;obtain⟨w',j,d,hg⟩:=a.update Qz v (by have:=E.2;unfold fE;omega) (Ay4 X) (plainElem_int dJ Yi);have g:=IQ.put a O d;have e:(fB ρ o).run cF w= .ok .skip w'\/(fB ρ o).run cF w= .ok (.value undef) w':=by
  simp[fB,u,h1,h2,J,j,eI]
 have N:Turns w T (IN S m).F (λ_:Unit=>IN (Ain S r) m) (λ_=>undef) undef w':=
  ⟨Bt hg |> λG=>⟨G.os,G.tape,G.output,G.size,λk hk Y=>G.block k hk λe=>Y (by cases e;rfl)⟩,(),rfl,g,λk hk=>⟨.inl hk,by
   have hk:k=m:=hk;subst hk;exact g.lt⟩⟩
 rcases e with e|e
 ·rw[e];exact N
 ·rw[e];exact N
end
theorem Agj(m:Nat):Nd cF 57 [.lit (.map (lC m))] (λp=>Bf p [.lit (.map (lC m))]) (λp=>.func (.func 97) #[] #[.pointer (lC ⟨p,0,lB⟩)]):=by
 refine⟨by kernel_rfl,λw S vs j c=>?_⟩;obtain⟨g,rfl,h0⟩:=Eo c;unfold Af at h0;subst h0;have d:aR aT 5 cF 57 #[.map (lC m)] w λe w'=>e= .returned (.func (.func 97) #[] #[.pointer (lC ⟨w.heap.size,0,lB⟩)])/\w'=w.alloc (.cells #[.map (lC m)] 51):=AnyZI.keys_in Tryz.keysK aT 5 trivial V (lC m) w
 refine((fA (n:=5)).1 d).mono ?_;rintro e w' ⟨rfl,rfl⟩;have a:Below w.heap.size w (w.alloc (.cells #[.map (lC m)] 51)):=(eK _ _).alloc (kR _) _;exact⟨_,rfl,⟨a.os,a.tape,a.output,a.size,λk hk _=>a.block k hk⟩,w.heap.size,rfl,⟨[.map (lC m)],51,fD w _,FU [.map (lC m)]⟩,λk hk=>by
  have hk:k=w.heap.size:=hk;subst hk;exact⟨.inr (kR _),by simp⟩⟩
theorem Zu(p m:Nat)(S:Int->Bool)(R:List Int)(z:RegsR R)(hi:InR R S):
 AAo cF 56 (Bf p [.lit (.map (lC m))]) (IN S m) [.lit (.func (.func 97) #[] #[.pointer (lC ⟨p,0,lB⟩)])] (.bs tInt (R.filter S)):=by
 refine⟨by kernel_rfl,λw T vs hT U ac I hs hr=>?_⟩;obtain⟨Z,rfl,h0⟩:=Eo hr;unfold Af at h0;subst h0;obtain⟨cs,e,hp,K⟩:=I;obtain⟨Z,rfl,h1⟩:=Eo K;unfold Af at h1;subst h1;have J:=U p V;have u:w.cell? ⟨p,0,lB⟩=lC (.map (lC m)):=by simp[eY,hp]
 obtain⟨D,d,hS⟩:=(show IQ w m S from hs)
 obtain⟨g,E⟩:=Wb d hS z.asc z.wf hi.mem;have aa:=iC S R;have ab:=z.len;have H:a7 D<=fE:=by rw[E];unfold fE;omega
 have c:a7 D * 8<=140737488355328:=by rw[E];omega
 have F:SeqGives aT 2 cF 97 #[.pointer (lC ⟨p,0,lB⟩)] encZ (λss=>ss.Perm (intKeys D)) (a7 D) w:=
  AnyZI.keys_gives (ρ:=Tryz.keysK_ren) {Tryz.keysK with} aT _ trivial rfl (by omega) p m (a7 D) D _ J u d
 have Y:=AnyZI.sorted_in Tryz.sortedM aT 5 trivial trivial trivial trivial V (by omega) (Ad2 _) (enters_of Tryz.func62 (by kernel_rfl) V) 97 #[.pointer (lC ⟨p,0,lB⟩)] trivial (enters_of bM (by kernel_rfl) V) _ _ H c _ F;change aR _ _ cF 56 _ _ _ at Y;refine((fA (n:=5)).1 Y).mono ?_;rintro e w' ⟨v,ss,rfl,N,G,W,X⟩;have j:ss.Perm (R.filter S):=N.trans g;have he:(ss.mergeSort λx y=>decide (x<=y))=R.filter S:=
  GW (Or (j.nodup_iff.2 (z.asc.filter S).nodup)) (z.asc.filter S) (λx=>((i7 ss _).mem_iff).trans j.mem_iff)
 have a:w'.ownsRow w.heap.size 3 1 v ss.length ((ss.mergeSort (λx y=>decide (x<=y))).map encZ):=G;rw[he]at a;have O:Gj w' w.heap.size v (R.filter S):=.of a j.length_eq V;refine⟨v,rfl,X,λk=>T k\/v.ownBlock=lC k,λ_ h=>.inl h,λk hk=>?_,λk hk=>?_,?_⟩
 ·rcases hk with hk|hk
  ·exact .inl hk
  ·exact .inr (O.lt k hk).1
 ·rcases hk with hk|hk
  ·exact kT (hT k hk) X.size
  ·exact(O.lt k hk).2
 ·unfold jW;exact tInt.slice.keepS (LM O λx hx=>z.wf x (iR.1 hx).1) (λ_ _=>rfl) λk hk=>.inr hk
end Mu
namespace Mu
open Go Go.RowKit Go.Proofs Go.Maps
variable{L:List Int}{S:Int->Bool}{f:kE}{i:Nat}{q:Ins×List Int}{r:Int}
instance At4:AG cF 51 aI 1:=⟨by kernel_rfl⟩
instance At3:SZ cF 51 1:=⟨by kernel_rfl⟩
instance At2:ZC cF 51 [.map lB]:=⟨by kernel_rfl⟩
def Fx(q:Ins×List Int):List Int:=if q.1.op !=5&&q.1.op !=7 then []else q.2.filter λr=>q.1.op ==7||r !=q.1.d
def F7(f:kE)(k:Nat):Int->Bool:=addL (λ_=>aI) (((stepsL f).take k).flatMap Fx)
def B9(f:kE):List Int:=(BA f).filter (F7 f (stepsL f).length)
theorem Xs(S:Int->Bool)(l m:List Int):addL S (l++m)=addL (addL S l) m:=by
 funext x;simp only[addL,fR,iM,aH,aL]
theorem WX{k:Nat}(h:(stepsL f)[k]? =lC q):F7 f (k+1)=addL (F7 f k) (Fx q):=by
 unfold F7;rw[jO,h,lF,gF,Xs];simp
theorem Db(h:q∈stepsL f):(∃b∈f.blocks,q.1∈b.ins)/\(∀r∈q.2,r∈BA f)/\q.2.length<=(BA f).length:=by
 unfold stepsL at h;obtain⟨b,m,hq⟩:=iS.1 h;have m:=iY.1 m;unfold EF at hq;have h1:=(List.of_mem_zip (a:=q.1) (b:=q.2) hq)
 obtain⟨g,d⟩:∃g,f.blocks[b]? =lC g:=⟨_,gP m⟩
 have c:Cn f b=g.ins:=by unfold Cn;rw[d]
 have h2:=List.mem_of_mem_drop h1.2;unfold Ca at h2;obtain⟨i,_,e⟩:=iU.1 h2;refine⟨⟨g,iV d,by rw[<-c];exact h1.1⟩,λr j=>?_,by rw[<-e];exact iC _ _⟩;rw[<-e]at j;unfold Dj at j;exact(iR.1 j).1
theorem J4(h:∀r∈q.2,r∈L):∀r∈Fx q,r∈L:=λr a=>by
 unfold Fx at a;split at a
 ·cases a
 ·exact h r (iR.1 a).1
theorem UZ(f:kE)(k:Nat):InR (BA f) (F7 f k):=⟨λx _ hx=>by
 unfold F7 addL at hx;simp only[aK,fS]at hx;obtain⟨q,hq,hx⟩:=iS.1 hx;exact J4 (Db (iW hq)).2.1 x hx⟩
def IG(S:Int->Bool)(q:Ins×List Int)(i:Nat):Int->Bool:=addL S ((q.2.take i).filter λr=>q.1.op ==7||r !=q.1.d)
theorem WY(S:Int->Bool)(q:Ins×List Int):IG S q 0=S:=by
 unfold IG;rw[jT,gC,Ot]
theorem Abd(h:q.2[i]? =lC r)(hq:(q.1.op ==7||r !=q.1.d)=aN):IG S q (i+1)=Ain (IG S q i) r:=by
 unfold IG;rw[jO,h,lF,fY,fZ,hq,gC];simp only[if_true];exact P0 _ _ _
theorem Ahw(h:q.2[i]? =lC r)(hq:(q.1.op ==7||r !=q.1.d)=aI):IG S q (i+1)=IG S q i:=by
 unfold IG;rw[jO,h,lF,fY,fZ,hq,gC];simp
theorem Ahx(h:InR L S)(hq:∀r∈q.2,r∈L)(i:Nat):InR L (IG S q i):=h.addL λr a=>hq r (iW (iR.1 a).1)
theorem Al8(f:kE)(K:okFunc f)(hs:smallF f)(W:(Cg f).length<=2097152)(T:∀b∈f.blocks,b.ins.length+1<=2097152):Fn cF 71 [.agg (Ak f)] (.bs tInt (B9 f)):=by
 have ah:=hs.blocks;have v:=RV f K W;have aj:(BA f).length<=2097152:=kS (Dr _) W;refine FN Tryz.func71 V (by kernel_rfl) V Tryz.ntmps71 λC hC H=>?_
 refine nS ?_;refine Ab λK1 h1=>?_
 refine rC ?_;refine h1 _ ?_;refine nT ?_;refine Ab λK2 h2=>?_
 (refine jX ?_;(repeat(first|refine sQ ?_ (Ax V V V V)|refine sQ ?_ (Av V V V V)|refine sQ ?_|refine AO ?_|refine sG ?_|refine Bq ?_)))
 refine AF V (Qk V λm=>?_);refine sNt ?_
 (repeat(first|refine sQ ?_ (Ax V V V V)|refine sQ ?_ (Av V V V V)|refine sQ ?_|refine AO ?_|refine sG ?_|refine Bq ?_))
 refine Au ?_;refine h2 _ ?_;refine nT ?_;refine Bu 3 V V V (λg=>(.agg (Ak f)::.ptr 1 0::.any::.lit (.pointer (lC ⟨g,0,lB⟩))::A4 (.lit (.map (lC m))::A20 (A10 (A3 []))))) (λg=>(by(repeat(first|exact kI|refine kJ ?_|refine kG ?_|refine kH V ?_)))) λj=>?_
 refine Ab λK3 h3=>?_
 refine Ab λK4 h4=>?_
 (refine jX ?_;(repeat(first|refine sQ ?_ (Ax V V V V)|refine sQ ?_ (Av V V V V)|refine sQ ?_|refine AO ?_|refine sG ?_|refine Bq ?_)))
 refine AF V (Cs V (OH f) (λ_=>rfl) V V λp=>?_);refine sNt ?_;refine Au ?_;refine h4 _ ?_;refine nT ?_;refine Ad ?_;refine AK ⟨(.agg (Ak f)::A2 (.lit (.pointer (lC ⟨j,0,lB⟩))::A6 (.lit (stF p)::A20 (A10 [.any])))),[.res (Bl []),.dead,.res (IN (F7 f 0) m),.res (Bf j [.lit (.map (lC m))]),.res (Bf p (Ak f))]⟩ (Kr (.cons (.dead (.cons (.cons (.cons (j6 _))))))) ?_;refine HJ 4 0 (λk=>[.dead,.dead,.res (IN (F7 f k) m),.res (Bf j [.lit (.map (lC m))]),.dead]) H (by kernel_rfl) (by decide) V V V ?hdrop V (λ_=>rfl) (λ_=>rfl) V (Adz f) (V4 f) (Mv f K hs W T p) ?hround ?hdone
 case hdrop=>
  exact⟨j5 (jZ (jZ (jZ (j5 (j6 _))))),λb z=>fM.1 (show bdH [.dead,.dead,.res (IN (F7 f 0) m),.res (Bf j [.lit (.map (lC m))]),.dead]=aN from V) b z⟩
 case hround=>
  intro k hk C' ae;obtain⟨q,hq⟩:∃q,(stepsL f)[k]? =lC q:=⟨_,gP hk⟩
  obtain⟨⟨bl,U,F⟩,w,af⟩:=Db (iV hq);have ag:=(K.blocks bl U).ins q.1 F;have u:=WX hq;have y:=UZ f k;dsimp only;rw[XT hq];generalize ai:F7 f k=S0 at u y⊢;refine C6 (t':=(.agg (Ak f)::A2 (.lit (.pointer (lC ⟨j,0,lB⟩))::A6 (.lit (stF p)::.agg (BZ q.1)::.bs tInt q.2::A20 (A9 []))))) V V ?_;refine Ab λK6 h6=>?_
  refine rC ?_;refine h6 _ ?_;refine nT ?_;refine rC ?_;refine Ap λar ad=>?_
  refine nT ?_;refine Ad ?_;refine Ab λK8 h8=>?_
  refine Ab λK9 h9=>?_
  refine rC ?_;refine h9 _ ?_;refine nT ?_;refine Ah V (λd=>?_) (λd=>?_)
  ·have e:Fx q= []:=by unfold Fx;rw[if_pos d]
   rw[u,e,Ot];refine Ay ?_;exact⟨rfl,⟨.cons (.cons (.cons (.cons (.cons (j6 _))))),λb z=>fM.1 (show bdH [.dead,.dead,.res (IN S0 m),.res (Bf j [.lit (.map (lC m))]),.dead]=aN from V) b z⟩⟩
  ·have e:Fx q=q.2.filter λr=>q.1.op ==7||r !=q.1.d:=by unfold Fx;rw[if_neg (by rw[d];simp)]
   have J:=λi=>Ahx y w i
   refine Al ?_;refine h8 _ ?_;refine nT ?_;refine Ab λaq ac=>?_
   refine rC ?_;refine ac _ ?_;refine nT ?_;refine Ad ?_;refine AH (λi:Nat=>⟨(A3 (.lit (.pointer (lC ⟨j,0,lB⟩))::.ptr 5 0::A10 (A6 (.bs tInt q.2::.lit (.int .i64 (q.2.length:Int))::.lit (.int .i64 (i:Int))::A10 (A8 []))))),[.dead,.dead,.res (IN (IG S0 q i) m),.res (Bf j [.lit (.map (lC m))]),.dead,.box (BZ q.1)]⟩) (λi=>i<=q.2.length) (λi=>q.2.length - i) 0 (kX _) (by rw[WY];exact BX) ?_;intro i hi
   (try dsimp only at hi);(try dsimp only)
   refine Ab λap ab=>?_
   refine rC ?_;refine ab _ ?_;refine nT ?_;refine Ab λao aa=>?_
   refine Ah V (λc=>?_) (λc=>?_)
   ·have N:i < q.2.length:=by simpa using c
    obtain⟨r,I⟩:∃r,q.2[i]? =lC r:=⟨_,gP N⟩
    have G:=v.wf r (w r (iV I));refine Al ?_;refine aa _ ?_;refine nT ?_;refine Ab λan E=>?_
    refine Ad ?_;refine Ab λam Z=>?_
    refine rC ?_;refine Z _ ?_;refine nT ?_;refine Ab λal Y=>?_
    refine rC ?_;refine Y _ ?_;refine nT ?_;refine Ah V (λa=>?_) (λa=>?_)
    ·have e2:=Abd (S:=S0) I a
     (refine jX ?_;(repeat(first|refine sQ ?_ (Ax V V V V)|refine sQ ?_ (Av V V V V)|refine sQ ?_|refine AO ?_|refine sG ?_|refine Bq ?_)))
     refine AF V (Zc 2 V dO V V V V v (J i) G ?_);refine sNt ?_;refine Au ?_;refine E _ ?_;refine nT ?_;refine rC ?_;refine Ap ⟨i+1,by omega,by omega,?_⟩;rw[e2];exact BX
    ·have e2:=Ahw (S:=S0) I a;refine Al ?_;refine E _ ?_;refine nT ?_;refine rC ?_;refine Ap ⟨i+1,by omega,by omega,?_⟩;rw[e2];exact BX
   ·have O:i=q.2.length:=by
     have:¬i < q.2.length:=by simpa using c
     omega
    subst O;have e3:IG S0 q q.2.length=F7 f (k+1):=by rw[u,e];unfold IG;rw[jQ]
    rw[e3];refine Ay ?_;exact⟨rfl,⟨.cons (.cons (.cons (.cons (.cons (j6 _))))),λb z=>fM.1 (show bdH [.dead,.dead,.res (IN (F7 f (k+1)) m),.res (Bf j [.lit (.map (lC m))]),.dead]=aN from V) b z⟩⟩
 case hdone=>
  intro D;refine h3 _ ?_;refine C6 (t':=(.agg (Ak f)::A2 (.lit (.pointer (lC ⟨j,0,lB⟩))::A6 (.lit (stF p)::A20 (A10 [.any]))))) (h':=[.res (Bl [D]),.dead,.res (IN (F7 f (stepsL f).length) m),.res (Bf j [.lit (.map (lC m))]),.dead]) V V ?_;refine Ab λak X=>?_
  (refine jX ?_;(repeat(first|refine sQ ?_ (Ax V V V V)|refine sQ ?_ (Av V V V V)|refine sQ ?_|refine AO ?_|refine sG ?_|refine Bq ?_)))
  refine AF V (Cs V (Agj m) (λ_=>rfl) V V λp2=>?_);refine sNt ?_
  (repeat(first|refine sQ ?_ (VE 5 2 V V V (Zu p2 m _ _ v (UZ f _)) V V V)|refine sQ ?_ (Ax V V V V)|refine sQ ?_ (Av V V V V)|refine sQ ?_|refine AO ?_|refine sG ?_|refine Bq ?_))
  refine Au ?_;refine X _ ?_;refine nT ?_;refine Aw ?_;exact⟨.inr V,[D],rfl,rfl,j9 V⟩
end Mu
section
namespace Go.Proofs
open Go.Shelf
def Tryz.laysNm225_ren:eL:=⟨fun|25=>38|31=>73|32=>74|37=>107|n=>n,fun|22=>27|3=>3|4=>4|40=>104|0=>0|n=>n,fun|n=>n⟩
theorem Tryz.laysNm225:Go.Proofs.Lays2.n25 cF Tryz.laysNm225_ren:={
 mixed:=by kernel_rfl
 f25:=Tryz.func38.trans (congrArg lC (by kernel_rfl))
 f31:=Tryz.func73.trans (congrArg lC (by kernel_rfl))
 f32:=Tryz.func74.trans (congrArg lC (by kernel_rfl))
 f37:=bF.trans (congrArg lC (by kernel_rfl))
 t0:=cY
 a0:=bO
 z0:=cG
 v0:=dR
 t3:=dJ
 a3:=bZ
 z3:=cR
 v3:=eC
 t4:=dK
 a4:=b9
 z4:=cT
 v4:=eD
 t22:=dI
 a22:=bY
 z22:=cQ
 v22:=eB
 t40:=cZ
 a40:=bP
 z40:=cH
 v40:=dT}
open Go.RowKit Go.Lib in
theorem Tryz.slices_BinarySearch_int(b off n c:Nat)(zs:List Int)(x:Int)(w:eX)(d:n<=zs.length)(a:n < 4611686018427387904)(hc:∀j,j < zs.length->w.cell? ⟨b,off+j,lB⟩=lC (.int .i64 (zs.getD j 0)))(g:(zs.take n).Pairwise (·<=·)):
 aP cF 38 #[.slice (lC ⟨b,off,lB⟩) n c,.int .i64 x] w λe w'=>e= .returned (.tuple #[.int .i64 ((zs.take n).countP (· < x):Nat),.bool ((zs.take n).contains x)])/\∃q,w'=w.drewN q:=Any.slices_BinarySearch_int Tryz.laysNm225 b off n c zs x w d a hc g
open Go.RowKit Go.Lib in
theorem Tryz.slices_BinarySearch_int_empty(a:Option Addr)(c:Nat)(x:Int)(w:eX):
 aP cF 38 #[.slice a 0 c,.int .i64 x] w λe w'=>e= .returned (.tuple #[.int .i64 0,.bool aI])/\w'=w:=Any.slices_BinarySearch_int_empty Tryz.laysNm225 a c x w
end Go.Proofs
end
namespace Mu
open Go Go.RowKit Go.Proofs
section
variable{P:bE}{C:Ctx}{t:List AV}{h:List jU}{o:bC}
theorem Mn{ty:eQ}{a:Array (Nat×bD)}{zs:List eR}{d:List (Nat×Nat)}{rs:List AV}[ZC P ty zs](j:o.op= .build ty a)(c:Eu P ty=lC d)
 (e:putCells d (zs.map .lit) (a.toList.map λp=>(p.1,evA t p.2))=lC rs)(h1:(a.toList.all λp=>WG (evA t p.2))=aN):AT P C t h o (.agg rs):=
 AT.build j ZC.eq c e λp g=>Mp (fM.1 h1 p g)
theorem Fit.agg{α:Type}{T:Ty α}{enc:α->List AV}{x:α}(c:∀w S cs ψ,Af w S h ψ (enc x) cs->T.RS w S cs x):Fit h T (.agg (enc x)) x:=λC S ψ w v H a=>by
 unfold jW at a;obtain⟨cs,rfl,d⟩:=a;exact c w S cs ψ d
end
theorem Qy:Eu cF 47=lC [(0,1),(1,1),(2,1),(3,1),(4,1),(5,1),(6,1),(7,1),(8,1)]:=by kernel_rfl
theorem Apo:Eu cF 63=lC [(0,1),(1,1)]:=by kernel_rfl
theorem Auj:Eu cF 24=lC [(0,1),(1,1),(2,1),(3,1)]:=by kernel_rfl
open Go.Shelf
variable{cs:List eR}
structure Hint where
 r:Int
 at_:Int
def Gk:Ty Hint:=(tInt.cons (tInt.cons Do)).via (λx=>⟨x.1,x.2.1⟩) (λh=>(h.r,h.at_,()))
theorem Adp{w:eX}{S:Nat->Prop}{x:Hint}:Gk.RS w S cs x↔cs= [.int .i64 x.r,.int .i64 x.at_]/\wfI .i64 x.r/\wfI .i64 x.at_:=by
 constructor
 ·rintro⟨⟨_,_,rfl,⟨rfl,h0⟩,_,_,rfl,⟨rfl,h1⟩,rfl⟩,_⟩;exact⟨rfl,h0,h1⟩
 ·rintro⟨rfl,h0,h1⟩;exact⟨⟨[_],_,rfl,⟨rfl,h0⟩,[_],_,rfl,⟨rfl,h1⟩,rfl⟩,rfl⟩
@[reducible] def GT(x:Hint):List AV:=[.lit (.int .i64 x.r),.lit (.int .i64 x.at_)]
theorem YL:Enc Gk GT:=by
 intro w S h ψ cs d H;obtain⟨rfl,_,_⟩:=Adp.1 H;simp only[GT,Af,jW];exact⟨_,_,rfl,rfl,_,_,rfl,rfl,rfl⟩
theorem Afo:ST Gk:=D8 YL λd x hx=>by
 simp only[GT,or_false,zak]at hx;rcases hx with rfl|rfl <;> exact .inl ⟨_,rfl,rfl⟩
instance Ax4:j8 Gk GT:=⟨YL,Afo,by decide⟩
theorem Akg{w:eX}{S:Nat->Prop}{h:List jU}{ψ:Nat->eR}{x:Hint}(h0:wfI .i64 x.r)(h1:wfI .i64 x.at_)(H:Af w S h ψ (GT x) cs):Gk.RS w S cs x:=by
 simp only[GT,Af,jW]at H;obtain⟨_,_,rfl,rfl,_,_,rfl,rfl,rfl⟩:=H;exact Adp.2 ⟨rfl,h0,h1⟩
theorem Ol{h:List jU}{r a:Int}(h0:wfI .i64 r)(h1:wfI .i64 a):Fit h Gk (.agg [.lit (.int .i64 r),.lit (.int .i64 a)]) ⟨r,a⟩:=Fit.agg (enc:=GT) (x:=⟨r,a⟩) λ_ _ _ _ H=>Akg h0 h1 H
instance Ax3:AG cF 84 aN 2:=⟨by kernel_rfl⟩
instance Ax2:SZ cF 84 2:=⟨by kernel_rfl⟩
instance Ax1:ES cF 81 2:=⟨by kernel_rfl⟩
instance Ax0:SL cF 81:=⟨by kernel_rfl⟩
instance Axz:RT cF 81 84 2 16:=⟨by kernel_rfl⟩
instance Axy:FO cF 84 0 0:=⟨by kernel_rfl⟩
instance Atq:FO cF 84 1 1:=⟨by kernel_rfl⟩
instance Atp:ZC cF 84 [.int .i64 0,.int .i64 0]:=⟨by kernel_rfl⟩
instance Ato:TyOf cF 84 _ Gk:=⟨trivial⟩
theorem Yb:Eu cF 84=lC [(0,1),(1,1)]:=by kernel_rfl
section
variable{N S:Nat->Prop}{w:eX}{h:List jU}{ψ:Nat->eR}{v:eR}{ver:Nat}{l:List Int}
theorem JP(H:HI N w S h ψ v (.row ver 3 tInt l)):Gj w 0 v l/\Bg l:=by
 obtain⟨cells,h1,_,h2,_⟩:=H;have u:cells.length=l.length:=by have:=h1.1;rw[show tInt.size=1 from V,kV]at this;exact this
 have a:∀i d,l[i]? =lC d->cells[i]? =lC (eS .i64 d)/\wfI .i64 d:=λi d m=>by
  obtain⟨e,g⟩:=DN.1 (h2 i d m);rw[show tInt.size=1 from V,kV,jS,g9]at e;cases hc:cells[i]? with
  |none=>rw[hc]at e;cases e
  |some c=>
   rw[hc]at e;simp only[lF,List.cons.injEq,and_true]at e;exact⟨by rw[e],g⟩
 have hc:cells=l.map (eS .i64):=by
  apply fX;intro i;by_cases hi:i < l.length
  ·rw[gT,gP hi];exact(a i _ (gP hi)).1
  ·rw[gQ (by omega),gQ (by simp;omega)]
 refine⟨.of h1 V hc,λr j=>?_⟩;obtain⟨i,hi⟩:=iT.1 j;exact(a i r hi).2
theorem LO{base:Nat}(e:Gj w base v l)(c:Bg l)(j:∀g,v.ownBlock=lC g->¬N g/\¬S g):HI N w S h ψ v (.row ver 3 tInt l):=by
 refine⟨_,e.mono (kX _),by decide,λi d a=>?_,j⟩;show tInt.RS w S (((l.map (eS .i64)).drop (i * 1)).take 1) d;have hi:(l.map (eS .i64))[i]? =lC (.int .i64 d):=by rw[gT,a];rfl
 rw[kV,jS,g9,hi];exact DN.2 ⟨rfl,c d (iV a)⟩
end
theorem Pg{l:List Int}(h:Bg l):Bg (l.mergeSort λx y=>decide (x<=y)):=λr a=>h r ((i7 l _).mem_iff.1 a)
section
variable{C:Ctx}{t:List AV}{h:List jU}{o:bC}{K:St->Prop}
theorem Qi{x:bD}{E:Array eQ}{i ver:Nat}{l:List Int}(I:o.op= .call {callee:=.value (.func 62),args:=#[x],argTypes:=E})(hx:evA t x= .own i ver)(hi:h[i]? =lC (.row ver 3 tInt l))(U:l.length<=2147483648)
 (Y:K ⟨Bn t o.dst .any,h.set i (.row ver 3 tInt (l.mergeSort λx y=>decide (x<=y)))⟩):AOp cF C o ⟨t,h⟩ K:=by
 rintro Q' a w ⟨W,S,ψ,H,u⟩;refine⟨λc e=>(by rw[I]at e;cases e),?_⟩;have j:=Bw u x;rw[show evA (St.mk t h).t x= .own i ver from hx]at j;unfold jW at j;have T:=(j.2 _ (by rw[hi];rfl)).2 V;have D:=H.blk i _ hi;have m:=D.lt V;obtain⟨J,O⟩:=JP D;unfold Oper.wp;rw[Cx I (by kernel_rfl) a.eval w V];simp only[Oper.upon];rw[show(#[x].map a.eval)= #[ψ i]from by simp[T]];refine(Ajw J U).mono ?_;rintro r w' ⟨rfl,G,F⟩;have d:w.grownBy w' (Bv (ψ i)):=by
  have e:Bv (ψ i)=(ψ i).ownBlock:=by
   rcases J.2 with⟨e,_⟩|⟨g,cap,cur,e,_⟩ <;> rw[e] <;> rfl
  rw[e];exact F
 have z:∀k,S k->w'.heap[k]? =w.heap[k]?:=λk hk=>d.block k (H.lt k hk) λe=>(m k e.symm).2.2 hk
 have X:Ext w S h ψ w' S (h.set i (.row ver 3 tInt (l.mergeSort λx y=>decide (x<=y)))) (Bp ψ i (ψ i)):=Ext.set z hi (λZ hc=>by
  simp only[ABlk.ver,lE]at hc;exact⟨ver,rfl,by omega,λ_=>⟨rfl,rfl⟩⟩) λh=>by simp[AZ]at h
 exact⟨_,Y,IE (s:=⟨t,h⟩) hi W u (H.set hi V (Bt d) X (LO G (Pg O) λg hg=>⟨(m g (AU hg)).1,(m g (AU hg)).2.2⟩) λg hg=>.inl hg) X (by unfold jW;trivial)⟩
end
theorem Xb(l:List Int):(aY l).length<=l.length:=by
 unfold aY Lib.compactUpTo;rw[iD];exact kS (iC _ _) (by simp)
theorem W9{l:List Int}(z:l.length<=2147483648)(y:Bg (aY l)):Am3 cF 63 3 tInt l (aY l):=by
 refine⟨by kernel_rfl,λN S w v F E u=>?_⟩;obtain⟨m,_⟩:=JP u;have c:=u.lt V;have e:Bv v=v.ownBlock:=by
  rcases m.2 with⟨e,_⟩|⟨g,cap,cur,e,_⟩ <;> rw[e] <;> rfl
 refine(Xa m z).mono ?_;rintro r w' ⟨v',rfl,a,d,j⟩;have D:Bv v'=v'.ownBlock:=by
  rcases a.2 with⟨e,_⟩|⟨g,cap,cur,e,_⟩ <;> rw[e] <;> rfl
 refine⟨v',rfl,by rw[e];exact d,LO a y λg hg=>?_,λg hg=>.inl (by rw[e,<-j,<-D];exact hg)⟩;have:=c g (show Bv v=lC g by rw[e,<-j];exact hg);exact⟨this.1,this.2.2⟩
theorem P6{C:Ctx}{t:List AV}{h:List jU}(j:Nat){α:Type}(T:Ty α)(g:t[j]? =lC (.lit (.slice lB 0 0))):St.le C ⟨t,h⟩ ⟨t.set j (.bs T []),h⟩:=λa w ⟨m,S,ψ,H,e⟩=>by
 refine⟨m,S,ψ,H,?_⟩;obtain⟨v,c,d⟩:=B6 e g;unfold jW at d;subst d;have:=Ib e j (x:=.bs T []) (v:=.slice lB 0 0) (by unfold jW;exact T.slice_nilS _ _);rwa [show a.tmps.toList.set j (.slice lB 0 0)=a.tmps.toList from fX λk=>by
  by_cases hk:j=k
  ·subst hk;rw[gX (gR.1 c).1,c]
  ·rw[gW hk]]at this
end Mu
namespace Mu
open Go Go.RowKit Go.Proofs
variable{S:Nat->Prop}{α:Type}{T:Ty α}{cs:List eR}{d:α}{off:Nat}{w:eX}{z:Int}
structure CGraph where
 regs:List Int
 cls:List (Int×List Int)
 near:List (Int×List Int)
 likes:List (Int×List Int)
 moves:List (Int×List Int)
 cheap:List Int
def Bc:Ty CGraph:=(tInt.slice.cons (KG.cons (KG.cons (KG.cons (KG.cons (tInt.slice.cons Do)))))).via (λx=>⟨x.1,x.2.1,x.2.2.1,x.2.2.2.1,x.2.2.2.2.1,x.2.2.2.2.2.1⟩) (λg=>(g.regs,g.cls,g.near,g.likes,g.moves,g.cheap,()))
theorem Ge(h1:T.size=1)(h:T.RS w S cs d):∃v,cs= [v]:=List.length_eq_one_iff.1 ((T.len h).trans h1)
theorem OF{g:CGraph}:Bc.RS w S cs g↔∃u m j e c a,cs= [u,m,j,e,c,a]/\tInt.slice.RS w S [u] g.regs/\KG.RS w S [m] g.cls/\KG.RS w S [j] g.near/\KG.RS w S [e] g.likes/\KG.RS w S [c] g.moves/\tInt.slice.RS w S [a] g.cheap:=by
 constructor
 ·rintro⟨⟨O,_,rfl,h0,J,_,rfl,h1,I,_,rfl,h2,H,_,rfl,E,G,_,rfl,D,F,_,rfl,y,rfl⟩,_⟩;obtain⟨u,rfl⟩:=Ge V h0;obtain⟨m,rfl⟩:=Ge V h1;obtain⟨j,rfl⟩:=Ge V h2;obtain⟨e,rfl⟩:=Ge V E;obtain⟨c,rfl⟩:=Ge V D;obtain⟨a,rfl⟩:=Ge V y;exact⟨u,m,j,e,c,a,rfl,h0,h1,h2,E,D,y⟩
 ·rintro⟨u,m,j,e,c,a,rfl,h0,h1,h2,E,D,y⟩;exact⟨⟨[u],_,rfl,h0,[m],_,rfl,h1,[j],_,rfl,h2,[e],_,rfl,E,[c],_,rfl,D,[a],_,rfl,y,rfl⟩,rfl⟩
@[reducible] def PI(g:CGraph):List AV:=[.bs tInt g.regs,.tv KG g.cls,.tv KG g.near,.tv KG g.likes,.tv KG g.moves,.bs tInt g.cheap]
theorem Aa0:Enc Bc PI:=by
 intro w S h ψ cs d H;obtain⟨D,y,u,m,j,g,rfl,h0,h1,h2,e,c,a⟩:=OF.1 H;simp only[PI,Af,jW];exact⟨_,_,rfl,h0,_,_,rfl,h1,_,_,rfl,h2,_,_,rfl,e,_,_,rfl,c,_,_,rfl,a,rfl⟩
theorem JV:ST (Adn T):=by
 rintro w S cs d ⟨_,⟨rfl,_⟩|⟨_,_,rfl,_⟩⟩ u a <;> rw[i6.1 a] <;> rfl
theorem Wz:ST Bc:=by
 intro w S cs g H u a;obtain⟨G,F,E,D,y,m,rfl,h0,h1,h2,j,e,c⟩:=OF.1 H;simp only[or_false,zak]at a;rcases a with rfl|rfl|rfl|rfl|rfl|rfl
 ·exact one1_slice _ _ _ _ h0 _ (i6.2 V)
 ·exact JV _ _ _ _ h1 _ (i6.2 V)
 ·exact JV _ _ _ _ h2 _ (i6.2 V)
 ·exact JV _ _ _ _ j _ (i6.2 V)
 ·exact JV _ _ _ _ e _ (i6.2 V)
 ·exact one1_slice _ _ _ _ c _ (i6.2 V)
instance Aqy:j8 Bc PI:=⟨Aa0,Wz,by decide⟩
theorem Ark:Enc (Adn T) λd=>[.tv (Adn T) d]:=by
 intro w S h ψ cs d H;obtain⟨v,rfl⟩:=Ge V H;simp only[Af,jW];exact⟨_,_,rfl,H,rfl⟩
instance An9{α:Type}{T:Ty α}:j8 (Adn T) λd=>[.tv (Adn T) d]:=⟨Ark,JV,by show 0 < 1;decide⟩
def Kg{α:Type}(T:Ty α):Ty α where
 size:=1
 bulk:=λd=>T.bulk d+1
 RS:=λw S cs d=>∃b o,cs= [.pointer (lC ⟨b,o,lB⟩)]/\T.AtS w S b o d
 len:=by rintro _ _ _ _ ⟨_,_,rfl,_⟩;rfl
 keepS:=by
  rintro w w' S S' cs d ⟨b,o,rfl,h⟩ c a;exact⟨b,o,rfl,h.keep c a⟩
theorem Arj:Enc (Kg T) λd=>[.bp T d 0]:=by
 rintro w S h ψ cs d ⟨b,o,rfl,H⟩;simp only[Af,jW];exact⟨_,_,rfl,⟨b,o,rfl,H⟩,rfl⟩
instance An8{α:Type}{T:Ty α}:j8 (Kg T) λd=>[.bp T d 0]:=⟨Arj,by
 rintro w S cs d ⟨b,o,rfl,_⟩ u a;rw[i6.1 a];rfl,by show 0 < 1;decide⟩
theorem One.tv{h:List jU}(h1:ST T):One h (.tv T d):=λC S ψ w u H a=>by
 unfold jW at a;exact h1 w S [u] d a u (i6.2 V)
theorem One.bp{h:List jU}:One h (.bp T d off):=λC S ψ w u H a=>by
 unfold jW at a;obtain⟨b,o,rfl,_⟩:=a;rfl
theorem Nc.int{h:List jU}(c:wfI .i64 z):Nc h (.lit (.int .i64 z)) (.tv tInt z):=λC S ψ w v H a=>by
 unfold jW at a⊢;subst a;exact DN.2 ⟨rfl,c⟩
section
variable{P:bE}{C:Ctx}{t:List AV}{h:List jU}{o:bC}
theorem Cl{x:bD}(g:o.op= .nilCheck x)(hx:evA t x= .bp T d off):AT P C t h o (.bp T d off):=
 AN λS ψ w ρ H a=>by
  have h1:=a x (by simp[g,bB]);rw[hx]at h1;unfold jW at h1;obtain⟨b,q,e,c⟩:=h1;refine⟨.pointer (lC ⟨b,q+off,lB⟩),by simp[fB,g,e],?_⟩;unfold jW;exact⟨b,q,rfl,c⟩
end
instance Aqx:AG cF 53 aI 1:=⟨by kernel_rfl⟩
instance Aqw:AG cF 77 aI 1:=⟨by kernel_rfl⟩
instance Aoh:AG cF 51 aI 1:=⟨by kernel_rfl⟩
instance Aog:SZ cF 51 1:=⟨by kernel_rfl⟩
instance Aof:FO cF 79 0 0:=⟨by kernel_rfl⟩
instance Aoe:FO cF 79 1 1:=⟨by kernel_rfl⟩
instance Aod:FO cF 79 2 2:=⟨by kernel_rfl⟩
instance Aoc:FO cF 79 3 3:=⟨by kernel_rfl⟩
instance Aob:FO cF 79 4 4:=⟨by kernel_rfl⟩
instance Aoa:FO cF 79 5 5:=⟨by kernel_rfl⟩
def RO(v:eR):Ty Unit where
 size:=1
 bulk:=λ_=>1
 RS:=λ_ _ cs _=>cs= [v]/\v.oneCell'=aN
 len:=by rintro _ _ _ _ ⟨rfl,_⟩;rfl
 keepS:=λh _ _=>h
instance Aty{v:eR}:j8 (RO v) λ_=>[.lit v]:=⟨λw S h ψ cs d H=>by
 obtain⟨rfl,_⟩:=(show cs= [v]/\v.oneCell'=aN from H)
 simp only[Af,jW];exact⟨_,_,rfl,rfl,rfl⟩,λw S cs d H u a=>by
 obtain⟨rfl,h1⟩:=(show cs= [v]/\v.oneCell'=aN from H)
 rw[i6.1 a];exact h1,by show 0 < 1;decide⟩
def Zb(x:AV){α:Type}(T:Ty α)(d:α):Prop:=jV x=aN/\∀(w:eX) (S:Nat->Prop) (v:eR),jW w S [] ψ0 x v->T.RS w S [v] d
theorem Zb.lit{v:eR}(h1:v.oneCell'=aN):Zb (.lit v) (RO v) ():=⟨rfl,λw S u a=>by unfold jW at a;rw[a];exact⟨rfl,h1⟩⟩
theorem Zb.int(c:wfI .i64 z):Zb (.lit (.int .i64 z)) tInt z:=⟨rfl,λw S u a=>by unfold jW at a;rw[a];exact DN.2 ⟨rfl,c⟩⟩
theorem Zb.bp:Zb (.bp T d 0) (Kg T) d:=⟨rfl,λw S u c=>by
 unfold jW at c;obtain⟨b,o,rfl,a⟩:=c;exact⟨b,o,rfl,a⟩⟩
theorem EQ{C:Ctx}(G:C.std){t:List AV}{h:List jU}(i j:Nat){x:AV}(hi:h[i]? =lC (.box [x]))(F:t[j]? =lC (.ptr i 0))(hx:Zb x T d):St.le C ⟨t,h⟩ ⟨t.set j (.bp T d 0),h.set i .dead⟩:=
 Hz i j hi V V F (UE G hi V) λS ψ w v H m=>by
  obtain⟨g,cs,e0,hg,W,U,E,D⟩:=H.blk i _ hi;unfold jW at m;obtain⟨X,c,e⟩:=m.2 (by rw[hi];rfl);rw[hg]at c;cases c;unfold jW;rw[e];refine⟨g,0,rfl,.inr (by rw[hg];rfl),?_⟩;have a:Af w S [] ψ0 [x] cs:=Bj _ _ (show Bh [x]=aN by unfold Bh;rw[hx.1];rfl) D;unfold Af at a;obtain⟨u,J,rfl,I,y⟩:=a;unfold Af at y;subst y;refine⟨[u],T.keepS (hx.2 w S u I) (λ_ _=>rfl) λk hk=>.inl hk,λq O hq=>?_⟩;unfold eY;simp[E,hq]
open Go.Maps Go.Shelf Go.ChangeMaps Go.MapKept
section
variable{H:Type}{P:bE}{k:eQ}{R:eR->Option (aS H×List a8)}{w:eX}{b r n:Nat}{D:aS H}{left:Lit->Bool}{cnt:Nat}
theorem TJ{t e:eQ}(h:w.ranges P k R b r n D left cnt)(K:Keyed P k)(ht:P.underlying t=lC (.map k e))(hn:n < fE){key val:eR}{kl:Lit}{d:aS H}{ps:List a8}
 (g:keyOf P k key=lC kl)(hv:R val=lC (d,ps))(Z:has D kl=aN):
 ∃w',(aW t (.map (lC b)) key val).run P w= .ok () w'/\w'.ranges P k R b r n (D.put kl d) left cnt/\w.mapTurned w' b:=by
 have aq:=h.ne;obtain⟨w',U,ag,al⟩:=h.owns.store K ht hn g hv;obtain⟨J,u,E,seen,c0,hb,F,hs,hD,hr,W,hc,ah,ar,an,am⟩:=h;refine⟨w',U,?_,al⟩;rcases K.find w g J.toList F.keys with⟨_,f2⟩|⟨j,e0,f1,f2,f3⟩
 ·exfalso;rw[hD,has_eq]at Z;obtain⟨p,hp,ap⟩:=fN.1 Z;obtain⟨x,hx,rfl⟩:=iU.1 (mem_sorted.1 hp);have h1:=WideAt.sameKey_eq ap;obtain⟨y,O⟩:=F.reads x hx;rw[eW O]at h1;exact f2 x hx (K.inj (h1▸eU O) g)
 ·have hj:J[j]? =lC e0:=by simpa using f2
  have aa:j < J.toList.length:=(gR.1 f2).1;have G:(aW t (.map (lC b)) key val).run P w= .ok () (setBlock w b (.map (J.modify j (λe'=>{e' with key:=key,val:=val})) u)):=by
   simp[aW,run_underlying ht,MapKept.run_getObj_map hb,K.check w aI g,f1,hj,f3,K.stays w g,MapKept.run_setObj_map _ hb,eI,setBlock]
  rw[U]at G;have hw:w'=setBlock w b (.map (J.modify j (λe'=>{e' with key:=key,val:=val})) u):=by
   injection G
  obtain⟨m,I⟩:∃m,m=J.modify j (λe'=>{e' with key:=key,val:=val}):=⟨_,rfl⟩
  rw[<-I]at hw;have aj:w'.heap[b]? =lC (.map m u):=by rw[hw];exact heap_setBlock_same hb _
  have ao:w'.heap[r]? =lC (.mapIter (lC b) E seen c0):=by rw[hw];exact(heap_setBlock_other hb _ aq).trans hr
  obtain⟨ax,ak,ai,F2,aw,au⟩:=ag;rw[aj]at ai;cases ai;have c:m.toList=J.toList.set j {e0 with key:=key,val:=val}:=by rw[I,Array.toList_modify,modify_eq_set _ _ _ _ f2]
  have av:m.size=J.size:=by rw[I];simp
  have ab:e0∈J.toList:=iV f2;have ad:∀x∈m.toList,x= {e0 with key:=key,val:=val}\/x∈J.toList:=λx hx=>by
   rw[c]at hx;exact(iX hx).symm
  have Y:(eV P k R e0).1=kl:=by
   obtain⟨y,O⟩:=F.reads e0 ab;rw[eW O];have:=eU O;rw[f3,g]at this;exact(lD this).symm
  have X:(eV P k R {e0 with key:=key,val:=val}).1=kl:=by
   have hm:({e0 with key:=key,val:=val}:a6)∈m.toList:=by rw[c];exact iV (gX aa)
   obtain⟨y,O⟩:=F2.reads _ hm;rw[eW O];have:=eU O;rw[show({e0 with key:=key,val:=val}:a6).key=key from V,g]at this;exact(lD this).symm
  have ac:m.toList.map (·.born)=J.toList.map (·.born):=by
   rw[c,List.map_set];refine fX λq=>?_
   rw[List.getElem?_set];split
   ·rename_i hq;subst hq;rw[if_pos (by simpa using aa),gT,f2];rfl
   ·rfl
  refine⟨m,u,E,seen,c0,aj,F2,by omega,au,ao,λx hx=>?_,?_,λx hx=>?_,λq hq=>?_,an,am⟩
  ·rcases ad x hx with rfl|hx
   ·exact W e0 ab
   ·exact W x hx
  ·have e1:∀a:Array a6,(leftOf a seen).size=((a.toList.map (·.born)).filter λe=>!seen.contains e).length:=λa=>by
    unfold leftOf;rw[<-aD,Array.toList_filter,List.filter_map,iD];rfl
   rw[e1,ac,<-e1,hc]
  ·rcases ad x hx with rfl|hx
   ·rw[X,<-Y];exact ah e0 ab
   ·exact ah x hx
  ·obtain⟨x,hx,ae⟩:=ar q hq;by_cases af:x=e0
   ·refine⟨{e0 with key:=key,val:=val},?_,?_⟩
    ·rw[c];exact iV (gX aa)
    ·rw[X,<-Y,<-af];exact ae
   ·refine⟨x,?_,ae⟩;obtain⟨i,hi⟩:=iT.1 hx;rw[c];refine iV (i:=i) ?_;rw[gW (λe=>af (by subst e;rw[f2]at hi;exact(lD hi).symm)),hi]
end
theorem H9{α:Type}{l:List (Int×α)}(h:Ef l){k:Int}(hk:(getK l k).isSome=aN)(v:α):(Cb l k v).length=l.length:=by
 have c:∀{β:Type} (m:List (Int×β)) q,q∈keysK m↔(getK m q).isSome=aN:=λm q=>by
  unfold keysK getK;rw[lA,List.find?_isSome];simp
 have a:∀{β:Type} {m:List (Int×β)},Ef m->(keysK m).Nodup:=λh=>jF.2 (h.imp λg e=>by omega)
 have:=((List.perm_ext_iff_of_nodup (a (h.put k v)) (a h)).2 λq=>by
  rw[c,c,BK h];by_cases e:q=k
  ·rw[if_pos e,e,hk];rfl
  ·rw[if_neg e]).length_eq
 simpa[keysK]using this
theorem Aiu.put{w:eX}{m r:Nat}{l:List (Int×eR)}{ks:List Int}{ty e:eQ}(h:Aiu w m r l ks)(u:cF.underlying ty=lC (.map 3 e))(J:l.length < fE){k:Int}(hk:Cm k)(a:(getK l k).isSome=aN)(v:eR):
 ∃w',(aW ty (.map (lC m)) (.int .i64 k) v).run cF w= .ok () w'/\Aiu w' m r (Cb l k v) ks/\w.grownBy w' (lC m)/\w'.heap.size=w.heap.size:=by
 obtain⟨h0,left,cnt,I,O,E,y⟩:=h;obtain⟨w',c,g,ht⟩:=TJ I Qz u J (keyOf_int_mk dJ hk) (d:=.held v) (ps:=[]) V (by rw[Ex];exact a);refine⟨w',c,⟨h0.put hk v,left,cnt,?_,λx hx=>?_,λx hx=>?_,y⟩,ht.grown,?_⟩
 ·rw[H9 h0.1 a,<-Yy h0 hk v (g.owns.canon Qz)];exact g
 ·rw[O x hx,BK h0.1];by_cases F:x=k
  ·rw[if_pos F,F,a];rfl
  ·rw[if_neg F]
 ·rw[BK h0.1];split
  ·rfl
  ·exact E x hx
 ·obtain⟨X,G,U,j,W,rfl⟩:=ht;simp[Go.ChangeMaps.setBlock]
section
variable{C:Ctx}{t:List AV}{h:List jU}{o:bC}{K:St->Prop}{ty e:eQ}{x y z:bD}{m r:Nat}{l:List (Int×Int)}{ks:List Int}{k v:Int}
theorem Acl(i:Nat)(E:o.op= .mapUpdate ty x y z)(F:cF.underlying ty=lC (.map 3 e))(hx:evA t x= .lit (.map (lC m)))(X:evA t y= .lit (.int .i64 k))(W:evA t z= .lit (.int .i64 v))(hk:wfB .i64 k=aN)(Z:l.length < fE)(J:(getK l k).isSome=aN)(hi:h[i]? =lC (.res (TC (eS .i64) l ks m r)))
 (hK:K ⟨Bn t o.dst (.lit undef),h.set i (.res (TC (eS .i64) (Cb l k v) ks m r))⟩):AOp cF C o ⟨t,h⟩ K:=by
 refine AOp.turn (ι:=Unit) (Rs:=λ_=>TC (eS .i64) (Cb l k v) ks m r) (val:=λ_=>undef) hi (λ_=>rfl) (λT ψ w ρ H O I a=>?_) (λ_=>hK);have h1:=a x (by simp[E,bB]);have h2:=a y (by simp[E,bB]);have U:=a z (by simp[E,bB]);rw[hx]at h1;rw[X]at h2;rw[W]at U;unfold jW at h1 h2 U;have HR:Aiu w m r (mapK (eS .i64) l) ks:=O;obtain⟨w',c,j,hg,Y⟩:=HR.put F (by simpa[mapK]using Z) hk (by rw[CD,lA];exact J) (.int .i64 v);rw[<-Gv]at j;have he:(fB ρ o).run cF w= .ok .skip w':=by
  simp[fB,E,h1,h2,U,c,eI]
 rw[he];exact⟨⟨hg.os,hg.tape,hg.output,hg.size,λq hq G=>hg.block q hq λe=>G (by cases e;exact .inl V)⟩,(),rfl,j,λg u=>⟨.inl u,by have:=I g u;omega⟩⟩
theorem Am1.rng{α:Type}{e:α->eR}{l:List (Int×α)}:Am1 (TC e l ks m r) m (mapK e l):=λ_ _ h=>by
 obtain⟨h0,left,cnt,a,_⟩:=(show Aiu _ m r (mapK e l) ks from h)
 exact⟨h0,by have:=a.owns;exact this⟩
theorem Vz(i:Nat)(j:o.op= .lookup ty x y aI)(a:cF.underlying ty=lC (.map 3 e))(c:∀w,(zeroValue e).run cF w= .ok (.int .i64 0) w)(hx:evA t x= .lit (.map (lC m)))(g:evA t y= .lit (.int .i64 k))(hk:wfB .i64 k=aN)(hi:h[i]? =lC (.res (TC (eS .i64) l ks m r))):
 AT cF C t h o (.lit (.int .i64 ((getK l k).getD 0))):=by
 have h1:=Lc (C:=C) i j a c hx g hk hi Am1.rng;rw[CD]at h1;cases hg:getK l k with
 |none=>rw[hg]at h1;exact h1
 |some v=>rw[hg]at h1;exact h1
theorem QM(i:Nat)(j:o.op= .lookup ty x y aN)(a:cF.underlying ty=lC (.map 3 e))(c:∀w,(zeroValue e).run cF w= .ok (.int .i64 0) w)(hx:evA t x= .lit (.map (lC m)))(g:evA t y= .lit (.int .i64 k))(hk:wfB .i64 k=aN)(hi:h[i]? =lC (.res (TC (eS .i64) l ks m r))):
 AT cF C t h o (.tup [.lit (.int .i64 ((getK l k).getD 0)),.lit (.bool (getK l k).isSome)]):=by
 have h1:=Iy (C:=C) i j a c hx g hk hi Am1.rng;rw[CD]at h1;cases hg:getK l k with
 |none=>rw[hg]at h1;exact h1
 |some v=>rw[hg]at h1;exact h1
end
end Mu
namespace Mu
open Go Go.RowKit Go.Proofs
variable{S:Nat->Prop}{cs:List eR}{l:List Int}{v:eR}{w:eX}
theorem Ael{cells:List eR}(h1:w.ownsRow 0 3 tInt.size v l.length cells)(h2:∀i d,l[i]? =lC d->tInt.RS w S ((cells.drop (i * tInt.size)).take tInt.size) d):Gj w 0 v l/\Bg l:=by
 have E:cells.length=l.length:=by have:=h1.1;rw[show tInt.size=1 from V,kV]at this;exact this
 have a:∀i d,l[i]? =lC d->cells[i]? =lC (eS .i64 d)/\wfI .i64 d:=λi d u=>by
  obtain⟨e,g⟩:=DN.1 (h2 i d u);rw[show tInt.size=1 from V,kV,jS,g9]at e;cases hc:cells[i]? with
  |none=>rw[hc]at e;cases e
  |some c=>
   rw[hc]at e;simp only[lF,List.cons.injEq,and_true]at e;exact⟨by rw[e],g⟩
 have hc:cells=l.map (eS .i64):=by
  apply fX;intro i;by_cases hi:i < l.length
  ·rw[gT,gP hi];exact(a i _ (gP hi)).1
  ·rw[gQ (by omega),gQ (by simp;omega)]
 refine⟨.of h1 V hc,λr j=>?_⟩;obtain⟨i,hi⟩:=iT.1 j;exact(a i r hi).2
theorem N7(H:(rowR v 3 tInt l).R w S):Gj w 0 v l/\Bg l:=by
 obtain⟨cells,h1,h0,h2⟩:=H;exact Ael h1 h2
theorem Yd(g:Gj w 0 v l)(c:Bg l):(rowR v 3 tInt l).R w S:=by
 refine⟨_,g,by decide,λi d a=>?_⟩;show tInt.RS w S (((l.map (eS .i64)).drop (i * 1)).take 1) d;have hi:(l.map (eS .i64))[i]? =lC (.int .i64 d):=by rw[gT,a];rfl
 rw[kV,jS,g9,hi];exact DN.2 ⟨rfl,c d (iV a)⟩
theorem XW{S':Nat->Prop}(h:(rowR v 3 tInt l).R w S):(rowR v 3 tInt l).R w S':=let ⟨h1,h2⟩:=N7 h;Yd h1 h2
section
variable{P:bE}{C:Ctx}{o:bC}{t:List AV}{h:List jU}{K:St->Prop}
theorem App(h:Gj w 0 v l){g:Nat}(hg:Bv v=lC g):v.ownBlock=lC g:=by
 rcases h.2 with⟨rfl,_⟩|⟨a,cap,cur,rfl,_⟩
 ·cases hg
 ·exact hg
theorem VV(i:Nat){ty:eQ}{x y:bD}{bytes:Nat}{u:List Int}(ho:o.op= .call {callee:=.builtin .append,args:=#[x,y],argTypes:=#[ty,ty]})(hT:NT P ty=lC (3,1,bytes))
 (hx:evA t x= .lit v)(hi:h[i]? =lC (.res (rowR v 3 tInt l)))(hy:evA t y= .bs tInt u)(hb:EZ (l.length+u.length) bytes=aN)
 (hK:∀v':eR,K ⟨Bn t o.dst (.lit v'),h.set i (.res (rowR v' 3 tInt (l++u)))⟩):AOp P C o ⟨t,h⟩ K:=by
 refine AOp.turn (ι:=eR) (Rs:=λv'=>rowR v' 3 tInt (l++u)) (val:=λv'=>v') hi (λ_=>rfl) (λS ψ w ρ H hR am W=>?_) hK;obtain⟨aa,ae⟩:=N7 hR;have O:=W x (by rw[ho];exact aE.2 (.inr (by simp)));have E:=W y (by rw[ho];exact aE.2 (.inr (by simp)));rw[hx]at O;rw[hy]at E;unfold jW at O E;obtain⟨h1,ti,zz,h2,h3,h4,h5,h6⟩:=Dc hT;obtain⟨A,c,X⟩:=Ck E;rw[X]at E;obtain⟨news,af,Y,ag,ah⟩:=I3 E λcs d ak=>JW _ _ _ _ ak
 have F:news=u.map (eS .i64)/\Bg u:=by
  have ab:news.length=u.length:=by rw[af];exact kV _
  have hg:∀j d,u[j]? =lC d->news[j]? =lC (eS .i64 d)/\wfI .i64 d:=λj d hd=>by
   have:=ag j d hd;rw[show tInt.size=1 from V,kV,jS,g9]at this;have ai:j < news.length:=by rw[ab];exact(gR.1 hd).1
   rw[gP ai]at this⊢;obtain⟨h7,h8⟩:=DN.1 this;exact⟨by simpa using h7,h8⟩
  refine⟨fX λj=>?_,λr hr=>?_⟩
  ·rw[gT];cases hd:u[j]? with
   |none=>rw[gQ (by rw[ab];exact List.getElem?_eq_none_iff.1 hd)];rfl
   |some d=>exact(hg j d hd).1
  ·obtain⟨j,hj⟩:=List.getElem?_of_mem hr;exact(hg j r hj).2
 have I:=hb;unfold EZ at I;simp only[zag]at I;obtain⟨v',w',Z,U,G,al⟩:=Lw (P:=P) (ty:=o.type) (c:=c) (base:=0) h1 h2 h3 h4 h5 h6 (kY) aa (Y w λ_ _=>rfl) ah I.1 I.2 (kX _);have aj:(fB ρ o).run P w= .ok (.value v') w':=by
  unfold fB;simp only[ho,resolve,invoke,builtin,List.map_toArray,iK,iL,O,X,Z,zan]
 rw[aj];have a:Gj w' 0 v' (l++u):=Gj.of (n:=l.length+u.length) U (by simp) (by rw[iJ,F.1]);have ad:∀g,v.ownBlock=lC g->(rowR v 3 tInt l).F g:=λg hg=>AU hg
 refine⟨⟨G.os,G.tape,G.output,G.size,λq hq hn=>G.block q hq λe=>hn (ad q e.symm)⟩,v',rfl,Yd a (λr hr=>(iM.1 hr).elim (ae r) (F.2 r)),λg hg=>?_⟩;have J:=App a hg;have ac:=(a.lt g J).2;rcases al with e1|e1
 ·exact⟨.inl (ad g (e1▸J)),ac⟩
 ·rw[e1]at J;cases J;exact⟨.inr (kR _),ac⟩
end
structure Pair where
 a:Int
 b:Int
def Dp:Ty Pair:=(tInt.cons (tInt.cons Do)).via (λx=>⟨x.1,x.2.1⟩) (λd=>(d.a,d.b,()))
theorem KF{x:Pair}:Dp.RS w S cs x↔cs= [.int .i64 x.a,.int .i64 x.b]/\wfI .i64 x.a/\wfI .i64 x.b:=by
 constructor
 ·rintro⟨⟨_,_,rfl,⟨rfl,h0⟩,_,_,rfl,⟨rfl,h1⟩,rfl⟩,_⟩;exact⟨rfl,h0,h1⟩
 ·rintro⟨rfl,h0,h1⟩;exact⟨⟨[_],_,rfl,⟨rfl,h0⟩,[_],_,rfl,⟨rfl,h1⟩,rfl⟩,rfl⟩
@[reducible] def CS(x:Pair):List AV:=[.lit (.int .i64 x.a),.lit (.int .i64 x.b)]
theorem YO:Enc Dp CS:=by
 intro w S h ψ cs d H;obtain⟨rfl,h0,h1⟩:=KF.1 H;simp only[CS,Af,jW];exact⟨_,_,rfl,rfl,_,_,rfl,rfl,rfl⟩
theorem T9:ST Dp:=D8 YO λd x hx=>by
 simp only[CS,or_false,zak]at hx;rcases hx with rfl|rfl <;> first|exact .inl ⟨_,rfl,rfl⟩|exact .inr ⟨_,_,_,rfl⟩
instance Axu:j8 Dp CS:=⟨YO,T9,by decide⟩
structure okPair(x:Pair):Prop where
 a:wfI .i64 x.a
 b:wfI .i64 x.b
theorem X8{h:List jU}{ψ:Nat->eR}{x:Pair}(a:okPair x)(H:Af w S h ψ (CS x) cs):Dp.RS w S cs x:=by
 simp only[CS,Af,jW]at H;obtain⟨_,_,rfl,rfl,_,_,rfl,rfl,rfl⟩:=H;exact KF.2 ⟨rfl,a.a,a.b⟩
instance Axt:Inhabited Pair:=⟨⟨0,0⟩⟩
def R7(x:Pair):Bool:=wfB .i64 x.a&&wfB .i64 x.b
theorem Z1{x:Pair}(h:R7 x=aN):okPair x:=by
 unfold R7 at h;simp only[aG]at h;exact⟨h.1,h.2⟩
theorem Ann:Eu cF 41=lC [(0,1),(1,1)]:=by kernel_rfl
instance Axs:AG cF 41 aN 2:=⟨by kernel_rfl⟩
instance Axr:SZ cF 41 2:=⟨by kernel_rfl⟩
instance Axq:FO cF 41 0 0:=⟨by kernel_rfl⟩
instance Axp:FO cF 41 1 1:=⟨by kernel_rfl⟩
instance Axo:ZC cF 41 [.int .i64 0,.int .i64 0]:=⟨by kernel_rfl⟩
instance Axn:TyOf cF 41 _ Dp:=⟨trivial⟩
instance Axm:AG cF 38 aI 1:=⟨by kernel_rfl⟩
instance Atm:SZ cF 38 1:=⟨by kernel_rfl⟩
instance Atl:ES cF 38 2:=⟨by kernel_rfl⟩
instance Atk:SL cF 38:=⟨by kernel_rfl⟩
instance Atj:RT cF 38 41 2 16:=⟨by kernel_rfl⟩
open Go.Maps Go.Shelf
variable{D:aS Unit}{K:St->Prop}{L:List Lit}{S:Pair->Bool}{b:Nat}{c:Int}{ks:List Pair}{m n:Nat}{q:Pair}{r:Nat}{ty:eQ}{v:eR}{w w':eX}{x:bD}{y:Pair}
def Acs(x:Pair):eR:=.agg #[.int .i64 x.a,.int .i64 x.b]
def Aab(x:Pair):Lit:=.string (keyBytes [.int .i64 x.a,.int .i64 x.b])
theorem Ans:Keyed cF 41:=Keyed.of_law (deep_law (m:=2) (kQ V) (by kernel_rfl) (by kernel_rfl) (by kernel_rfl))
theorem Ah6:cF.cellsOf 41=2:=by kernel_rfl
theorem Aop:cF.cellsOf 3=1:=by kernel_rfl
theorem L3:cF.keyLits (n+1) 3 [v]=lC L↔∃a,v= .int .i64 a/\(Lit.int .i64 a).wf=aN/\L= [.int .i64 a]:=by
 unfold Program.keyLits;rw[dJ];constructor
 ·intro h;cases v <;> simp only[reduceCtorEq]at h
  rename_i k a;split at h
  ·rename_i hc;obtain⟨rfl,g⟩:=hc;exact⟨a,rfl,g,(lD h).symm⟩
  ·cases h
 ·rintro⟨a,rfl,g,rfl⟩;simp[g]
theorem Agk{vs:List eR}(h:cF.keyLits (n+2) 41 vs=lC L):∃a b,vs= [.int .i64 a,.int .i64 b]/\(Lit.int .i64 a).wf=aN/\(Lit.int .i64 b).wf=aN/\L= [.int .i64 a,.int .i64 b]:=by
 rw[show n+2=(n+1)+1 from V]at h;unfold Program.keyLits at h;rw[dL]at h;simp only[Ah6]at h;split at h
 ·rename_i hc;obtain⟨E,_⟩:=hc;match vs,E with
  | [u,v],_=>
   simp[Aop]at h;cases h1:cF.keyLits (n+1) 3 [u]with
   |none=>rw[h1]at h;simp at h
   |some G=>
    cases h2:cF.keyLits (n+1) 3 [v]with
    |none=>rw[h1,h2]at h;simp at h
    |some F=>
     obtain⟨a,rfl,j,rfl⟩:=L3.1 h1;obtain⟨b,rfl,g,rfl⟩:=L3.1 h2;rw[h1,h2]at h;simp at h;exact⟨a,b,rfl,j,g,h.symm⟩
 ·cases h
theorem Ut{a b:Int}(j:(Lit.int .i64 a).wf=aN)(g:(Lit.int .i64 b).wf=aN):cF.keyLits (n+2) 41 [.int .i64 a,.int .i64 b]=lC [.int .i64 a,.int .i64 b]:=by
 rw[show n+2=(n+1)+1 from V];unfold Program.keyLits;rw[dL];have h1:=(L3 (n:=n) (v:=.int .i64 a)).2 ⟨a,rfl,j,rfl⟩;have h2:=(L3 (n:=n) (v:=.int .i64 b)).2 ⟨b,rfl,g,rfl⟩;simp[Ah6,Aop,h1,h2]
theorem Aub:Nat.ble 1 cF.types.size=aN:=by kernel_rfl
theorem And:∃n,cF.types.size+1=n+2:=by
 have h:=kQ Aub;generalize cF.types.size=m at h;exact⟨m - 1,by omega⟩
theorem Yu{l:Lit}(h:keyOf cF 41 v=lC l):∃x,okPair x/\v=Acs x/\l=Aab x:=by
 obtain⟨xs,L,rfl,h1,rfl⟩:=keyOf_top (by kernel_rfl) h;obtain⟨n,u⟩:=And;rw[u]at h1;obtain⟨a,b,e,j,g,rfl⟩:=Agk h1;refine⟨⟨a,b⟩,⟨j,g⟩,?_,rfl⟩;have E:xs= #[eS .i64 a,eS .i64 b]:=Array.toList_inj.1 e;rw[E];rfl
theorem MP{x:Pair}(h:okPair x):keyOf cF 41 (Acs x)=lC (Aab x):=by
 obtain⟨n,a⟩:=And;have hk:cF.keyType 41=aN:=by kernel_rfl
 have g:(Acs x).formed cF 41=aN:=by
  unfold Acs Value.formed;rw[dL];simp[Ah6]
 unfold keyOf;rw[dL];simp only[hk,g,Bool.and_self,if_true];rw[a];show(cF.keyLits (n+2) 41 [.int .i64 x.a,.int .i64 x.b]).map _=_;rw[Ut h.a h.b];rfl
theorem Yq{x:Pair}(hx:okPair x)(a:okPair y)(h:Aab x=Aab y):x=y:=by
 have h1:=MP hx;rw[h,<-MP a]at h1;have h2:=Ans.inj (h1.trans (MP a)) (MP a);have g:x.a=y.a/\x.b=y.b:=by
  clear h h1;unfold Acs at h2;simpa using h2
 cases x;cases y;exact congr (congrArg Pair.mk g.1) g.2
theorem E9{α:Type}[DecidableEq α]:∀{l m:List α},l.Nodup->(∀x∈l,x∈m)->l.length<=m.length
 | [],_,_,_=>kX _
 |x::l,m,a,h=>by
  have a:=jA.1 a;have hx:=h x (by simp);have:=E9 (m:=m.erase x) a.2 λy g=>(iQ (λe=>a.1 (by subst e;exact g))).2 (h y (by simp[g]))
  rw[iB hx]at this;have:=iG hx;simp only[iA];omega
instance Ati:DecidableEq Pair:=λx y=>decidable_of_iff (x.a=y.a/\x.b=y.b) ⟨λ⟨h1,h2⟩=>by cases x;cases y;simp_all,λh=>by subst h;exact⟨rfl,rfl⟩⟩
def Fq:List Int->List Pair
 | []=>[]
 |a::R=>R.map (λb=>⟨a,b⟩)++Fq R
def Aow(w:eX)(b:Nat)(S:Pair->Bool):Prop:=∃(D:aS Unit),w.ownsMap cF 41 (fF cF 3) b (a7 D) D/\∀x,okPair x->has D (Aab x)=S x
theorem Q9(h:w.ownsMap cF 41 (fF cF 3) b n D):w.ownsMap cF 41 (fF cF 3) b (a7 D) D:=by
 obtain⟨g,a,h1,h2,j,rfl⟩:=h;refine⟨g,a,h1,h2,?_,rfl⟩;rw[size_eq,length_read];exact kR _
theorem Aow.lt(h:Aow w b S):b < w.heap.size:=by
 obtain⟨D,h1,_⟩:=h;exact h1.lt
theorem Aow.keep(h:Aow w b S)(hk:w'.heap[b]? =w.heap[b]?):Aow w' b S:=by
 obtain⟨D,⟨j,a,h1,h2⟩,g⟩:=h;exact⟨D,⟨j,a,hk.trans h1,h2⟩,g⟩
theorem Aee{L:List Pair}(h:w.ownsMap cF 41 (fF cF 3) b n D)(U:∀x,okPair x->has D (Aab x)=S x)(W:∀x,okPair x->S x=aN->x∈L):a7 D<=L.length:=by
 obtain⟨J,rfl,g,_⟩:=h.entries Ans;obtain⟨F,E,u⟩:=h.keysOf;obtain rfl:J=F:=by simpa using E
 haveI:DecidableEq Lit:=λa b=>Classical.propDecidable (a=b)
 suffices j:(J.map λp=>p.1).length<=(L.map Aab).length by simpa[size_eq]using j
 refine E9 (jF.2 g) λl O=>?_
 obtain⟨p,I,rfl⟩:=iU.1 O;obtain⟨v,G⟩:=u p I;obtain⟨x,hx,_,e⟩:=Yu G;refine iU.2 ⟨x,W x hx ?_,e.symm⟩;rw[<-U x hx,has_eq];exact fN.2 ⟨p,I,by rw[<-e];exact WideAt.sameKey_self (Ans.key G)⟩
def Amt(S:Pair->Bool)(y:Pair):Pair->Bool:=λx=>S x||decide (x=y)
theorem Aow.put{g:eX}{d:aS Unit}(j:okPair y)(a:w.ownsMap cF 41 (fF cF 3) b n D)(u:∀x,okPair x->has D (Aab x)=S x)
 (h1:g.ownsMap cF 41 (fF cF 3) b (n+1) (D.put (Aab y) d)):Aow g b (Amt S y):=by
 refine⟨_,Q9 h1,λx hx=>?_⟩;by_cases e:x=y
 ·subst e;rw[has_put_same a.isMap (Ans.key (MP hx))];simp[Amt]
 ·rw[has_put_other (λh=>e (Yq hx j h)),u x hx];simp[Amt,e]
def DV(S:Pair->Bool)(m:Nat):Res:=⟨[],λg=>g=m,λw _=>Aow w m S,λh hk _ _=>h.keep (hk m V)⟩
section
variable{C:Ctx}{t:List AV}{h:List jU}{o:bC}
theorem Am6{y z:bD}(i:Nat){L:List Pair}(F:o.op= .mapUpdate ty x y z)(I:cF.underlying ty=lC (.map 41 3))(hi:h[i]? =lC (.res (DV S m)))
 (hx:evA t x= .lit (.map (lC m)))(Z:evA t y= .agg (CS q))(Y:evA t z= .lit (.int .i64 1))(hL:∀x,okPair x->S x=aN->x∈L)(hl:L.length < fE)(hq:okPair q)(hK:K ⟨Bn t o.dst (.lit undef),h.set i (.res (DV (Amt S q) m))⟩):AOp cF C o ⟨t,h⟩ K:=by
 refine AOp.turn (ι:=Unit) (Rs:=λ_=>DV (Amt S q) m) (val:=λ_=>undef) hi (λ_=>rfl) (λT ψ w ρ H O ab g=>?_) (λ_=>hK);have h1:=g x (by simp[F,bB]);have h2:=g y (by simp[F,bB]);have U:=g z (by simp[F,bB]);rw[hx]at h1;rw[Z]at h2;rw[Y]at U;unfold jW at h1 h2 U;obtain⟨cs,h2,J⟩:=h2;obtain⟨rfl,_⟩:=KF.1 (X8 hq J);have h2:ρ y=Acs q:=h2;obtain⟨D,a,X⟩:=(show Aow w m S from O)
 have aa:=Aee a X hL;obtain⟨w',E,j,hg⟩:=a.update Ans I (by omega) (MP hq) (plainElem_int dJ Yi);have u:=Aow.put hq a X j;have e:(fB ρ o).run cF w= .ok .skip w'\/(fB ρ o).run cF w= .ok (.value undef) w':=by
  simp[fB,F,h1,h2,U,E,eI]
 have W:Turns w T (DV S m).F (λ_:Unit=>DV (Amt S q) m) (λ_=>undef) undef w':=
  ⟨Bt hg |> λG=>⟨G.os,G.tape,G.output,G.size,λk hk hn=>G.block k hk λe=>hn (by cases e;rfl)⟩,(),rfl,u,λk hk=>⟨.inl hk,by
   have hk:k=m:=hk;subst hk;exact u.lt⟩⟩
 rcases e with e|e
 ·rw[e];exact W
 ·rw[e];exact W
end
def Arz(w:eX)(m r:Nat)(S:Pair->Bool)(ks:List Pair):Prop:=∃(D:aS Unit) (left:Lit->Bool) (cnt:Nat),
 w.ranges cF 41 (fF cF 3) m r (a7 D) D left cnt/\(∀x,okPair x->has D (Aab x)=S x)/\(∀x,okPair x->left (Aab x)=(S x&&!ks.contains x))/\(∀x∈ks,okPair x/\S x=aN)/\ks.Nodup
def AtP(w:eX)(r:Nat)(q:Pair)(c:Int):Prop:=(aV (.pointer (lC ⟨r,0,lB⟩))).run cF w= .ok (.tuple #[Acs q,.int .i64 c]) w
theorem Wk{H:Type}{P:bE}{k:eQ}{R:eR->Option (aS H×List a8)}{D:aS H}{left:Lit->Bool}{cnt:Nat}(h:w.ranges P k R b r n D left cnt)(G:w'.heap[b]? =w.heap[b]?)(E:w'.heap[r]? =w.heap[r]?):w'.ranges P k R b r n D left cnt:=by
 obtain⟨J,g,a,seen,O,h1,F,u,I,h2,j⟩:=h;exact⟨J,g,a,seen,O,G.trans h1,F,u,I,E.trans h2,j⟩
theorem Arz.keep(h:Arz w m r S ks)(g:w'.heap[m]? =w.heap[m]?)(a:w'.heap[r]? =w.heap[r]?):Arz w' m r S ks:=by
 obtain⟨D,left,cnt,h1,h2⟩:=h;exact⟨D,left,cnt,Wk h1 g a,h2⟩
theorem AtP.keep(h:Arz w m r S ks)(j:AtP w r q c)(O:w'.heap[m]? =w.heap[m]?)(J:w'.heap[r]? =w.heap[r]?):AtP w' r q c:=by
 obtain⟨D,left,cnt,⟨E,a,g,seen,F,h1,_,_,_,h2,_⟩,_⟩:=h;unfold AtP at j⊢;have Y:(fC r).run cF w= .ok (.mapIter (lC m) g seen F) w:=by simp[fC,Sem.run,h2]
 have X:(fC m).run cF w= .ok (.map E a) w:=by simp[fC,Sem.run,h1]
 have W:(fC r).run cF w'= .ok (.mapIter (lC m) g seen F) w':=by simp[fC,Sem.run,J,h2]
 have U:(fC m).run cF w'= .ok (.map E a) w':=by simp[fC,Sem.run,O,h1]
 unfold aV at j⊢;simp only[Sem.run_bind,Y,W,eJ]at j⊢;cases G:seen.back? with
 |none=>rw[G]at j;simp[stuck]at j
 |some u=>
  rw[G]at j;simp only[Sem.run_bind,X,U,eJ]at j⊢;by_cases hc:a !=F
  ·simp[hc,unsupported]at j
  ·cases I:E.find? (λx=>x.born ==u)with
   |none=>simp[hc,I,unsupported]at j
   |some e=>
    simp[hc,I]at j⊢;exact j
def Apb(S:Pair->Bool)(ks:List Pair)(m r:Nat):Res:=⟨[],λg=>g=m\/g=r,λw _=>Arz w m r S ks,λh hk _ _=>h.keep (hk m (.inl V)) (hk r (.inr V))⟩
def atR(S:Pair->Bool)(ks:List Pair)(q:Pair)(c:Int)(m r:Nat):Res:=⟨[],λg=>g=m\/g=r,λw _=>Arz w m r S ks/\AtP w r q c,λh hk _ _=>⟨h.1.keep (hk m (.inl V)) (hk r (.inr V)),AtP.keep h.1 h.2 (hk m (.inl V)) (hk r (.inr V))⟩⟩
section
variable{C:Ctx}{t:List AV}{h:List jU}{o:bC}
theorem Ack(i:Nat)(F:o.op= .range ty x)(u:cF.underlying ty=lC (.map 41 3))(hi:h[i]? =lC (.res (DV S m)))
 (hx:evA t x= .lit (.map (lC m)))(W:∀r,K ⟨Bn t o.dst (.lit (.pointer (lC ⟨r,0,lB⟩))),h.set i (.res (Apb S [] m r))⟩):AOp cF C o ⟨t,h⟩ K:=by
 refine AOp.turn (ι:=Nat) (Rs:=λr=>Apb S [] m r) (val:=λr=>.pointer (lC ⟨r,0,lB⟩)) hi (λ_=>rfl) (λT ψ w ρ H E U j=>?_) W;have h1:=j x (by simp[F,bB]);rw[hx]at h1;unfold jW at h1;obtain⟨D,a,I⟩:=(show Aow w m S from E)
 obtain⟨w',g,O,hg,J⟩:=a.range Ans u;have e:(fB ρ o).run cF w= .ok (.value (.pointer (lC ⟨w.heap.size,0,lB⟩))) w':=by
  simp[fB,F,h1,g,eI]
 rw[e];have Y:=a.lt;refine⟨Bt hg |> λG=>⟨G.os,G.tape,G.output,G.size,λk hk X=>G.block k hk λe=>by cases e⟩,w.heap.size,rfl,⟨D,_,_,O,I,λx hx=>by simp[I x hx],(λ_ hx=>by cases hx),jB⟩,λk hk=>?_⟩;rcases(show k=m\/k=w.heap.size from hk)with rfl|rfl
 ·exact⟨.inl V,by omega⟩
 ·exact⟨.inr (kR _),by omega⟩
theorem Ai7(i:Nat)(ho:o.op= .next x aI)(hi:h[i]? =lC (.res (Apb S ks m r)))
 (hx:evA t x= .lit (.pointer (lC ⟨r,0,lB⟩)))(ae:(∀x,okPair x->S x=aN->x∈ks)->K ⟨Bn t o.dst (.lit (.tuple #[.bool aI])),h.set i (.res (Apb S ks m r))⟩)
 (ad:∀q c,okPair q->S q=aN->q∉ks->K ⟨Bn t o.dst (.lit (.tuple #[.bool aN,Acs q,.int .i64 c])),h.set i (.res (atR S (ks++[q]) q c m r))⟩):AOp cF C o ⟨t,h⟩ K:=by
 refine AOp.turn (ι:={p:Option (Pair×Int) // match p with|none=>∀x,okPair x->S x=aN->x∈ks|some (q,_)=>okPair q/\S q=aN/\q∉ks})
  (Rs:=λp=>match p.1 with|none=>Apb S ks m r|some (q,c)=>atR S (ks++[q]) q c m r) (val:=λp=>match p.1 with|none=>.tuple #[.bool aI]|some (q,c)=>.tuple #[.bool aN,Acs q,.int .i64 c]) hi ?_ (λT ψ w ρ H O ai U=>?_) ?_
 ·rintro⟨_|⟨q,c⟩,I⟩ <;> rfl
 ·have h1:=U x (by simp[ho,bB]);rw[hx]at h1;unfold jW at h1;obtain⟨D,left,cnt,Z,hD,hl,ac,ab⟩:=(show Arz w m r S ks from O)
  have hm:=Z.owns.lt;have X:=Z.lt;rcases Z.next Ans o.type with⟨_,aa,j⟩|⟨ag,v,kl,y,w',af,u,F,hv,_,j,Y,_,hg,ah,J⟩
  ·have e:(fB ρ o).run cF w= .ok (.value (.tuple #[.bool aI])) w:=by
    simp[fB,ho,h1,j,eI]
   rw[e];refine⟨⟨rfl,rfl,rfl,kR _,λ_ _ _=>rfl⟩,⟨lB,λx hx W=>?_⟩,rfl,O,λk hk=>⟨.inl hk,?_⟩⟩
   ·have:=hl x hx;rw[aa,W]at this;simpa using this
   ·rcases(show k=m\/k=r from hk)with rfl|rfl
    ·exact hm
    ·exact X
  ·obtain⟨q,hq,rfl,rfl⟩:=Yu u;obtain⟨c,rfl,_⟩:=plainElem_int_inv dJ hv;have g:=hl q hq;rw[F]at g;have g:S q=aN/\q∉ks:=by simpa using g.symm
   have e:(fB ρ o).run cF w= .ok (.value (.tuple #[.bool aN,Acs q,.int .i64 c])) w':=by
    simp[fB,ho,h1,j,eI]
   rw[e];refine⟨Bt hg |> λG=>⟨G.os,G.tape,G.output,G.size,λk hk hn=>G.block k hk λe=>hn (by cases e;exact .inr V)⟩,⟨lC (q,c),hq,g.1,g.2⟩,rfl,⟨⟨D,_,_,Y,hD,λx hx=>?_,λx hx=>?_,?_⟩,J⟩,λk hk=>⟨.inl hk,?_⟩⟩
   ·rw[hl x hx];by_cases E:x=q
    ·subst E;rw[WideAt.sameKey_self (Ans.key u)];simp
    ·have W:(Aab x).sameKey (Aab q)=aI:=Maps.sameKey_ne λe=>E (Yq hx hq e)
     rw[W];simp[E]
   ·rcases iM.1 hx with hx|hx
    ·exact ac x hx
    ·simp only[or_false,zak]at hx;subst hx;exact⟨hq,g.1⟩
   ·rw[i9];exact⟨ab,by simp,λa ha b hb=>by
     simp only[or_false,zak]at hb;subst hb;intro e;subst e;exact g.2 ha⟩
   ·rcases(show k=m\/k=r from hk)with rfl|rfl <;> omega
 ·rintro⟨_|⟨q,c⟩,I⟩
  ·exact ae I
  ·exact ad q c I.1 I.2.1 I.2.2
theorem VC(i:Nat)(g:o.op= .entry x)(hi:h[i]? =lC (.res (atR S ks q c m r)))(hx:evA t x= .lit (.pointer (lC ⟨r,0,lB⟩))):
 AT cF C t h o (.tup [.agg (CS q),.lit (.int .i64 c)]):=
 AN λS' ψ w ρ H a=>by
  have h1:=a x (by simp[g,bB]);rw[hx]at h1;unfold jW at h1;obtain⟨_,j⟩:=(show Arz w m r S ks/\AtP w r q c from(H.blk i _ hi).2)
  refine⟨.tuple #[Acs q,.int .i64 c],by simp[fB,g,h1,(show _=_ from j),eI],?_⟩;simp only[jW,Af,CS];exact⟨[Acs q,.int .i64 c],rfl,_,_,rfl,⟨[.int .i64 q.a,.int .i64 q.b],rfl,_,_,rfl,rfl,_,_,rfl,rfl,rfl⟩,_,_,rfl,rfl,rfl⟩
end
end Mu
namespace Mu
open Go Go.RowKit Go.Proofs
variable{S:Nat->Prop}{W:eX}{f:kE}{v:eR}{vs:List eR}{x:AV}{ψ:Nat->eR}
section
variable{w w':eX}{cs:List eR}{T:eQ}
end
def Bz(x:Ins):List Int:=readsC x++if Bd x then [x.d]else []
theorem LA{x:Ins}(h:okIns x):Bg (Bz x):=λr hr=>by
 rcases iM.1 hr with hr|hr
 ·exact FV h r hr
 ·split at hr
  ·simp only[i6]at hr;subst hr;exact h.d
  ·cases hr
instance:AG cF 59 aI 1:=⟨by kernel_rfl⟩
instance:SZ cF 59 1:=⟨by kernel_rfl⟩
instance:ES cF 59 1:=⟨by kernel_rfl⟩
instance:SL cF 59:=⟨by kernel_rfl⟩
instance:RT cF 59 66 1 24:=⟨by kernel_rfl⟩
section
variable{P:bE}{C:Ctx}{t:List AV}{h:List jU}{o:bC}
end
theorem V6{b:jY}(h:Cy.bulk b<=2097152):smallB b:=⟨kS (JB b) h,λx hx=>by
 have h1:=Xi hx;have h2:=SB x;have a:=Ej Wy x.args;omega⟩
theorem Zz(h:Dh.bulk f<=2097152):smallF f:=⟨kS (GR f) h,λb a=>V6 (kS (FC a) h)⟩
theorem Ags(h:Dh.bulk f<=2097152):∀b∈f.blocks,b.ins.length+1<=2097152:=λb a=>by
 have h1:=FC a;have h2:=Hx b;have g:=Ej Afm b.ins;omega
theorem Aew(l:List Ins):(l.flatMap readsC).length<=D1 Em.bulk l:=by
 induction l with
 |nil=>simp[D1]
 |cons x l a=>
  have h1:=KN x;have h2:=SB x;have g:=Ej Wy x.args;simp only[gG,hZ,D1];omega
theorem TH(l:List jY):(l.flatMap λb=>b.ins.flatMap readsC).length<=D1 Cy.bulk l:=by
 induction l with
 |nil=>simp[D1]
 |cons b l a=>
  have h1:=Aew b.ins;have h2:=Hx b;simp only[gG,hZ,D1];omega
theorem ZL(h:Dh.bulk f<=2097152):(Cg f).length<=2097152:=by
 have h1:=TH f.blocks;have h2:=Mh f;unfold Cg;omega
theorem Alx{P:bE}{f:aU}{args:List AV}{u:eR}(h:Fn P f args (.lit u))(g:Af W (λk=>k < W.heap.size) [] ψ0 args vs):aP P f vs.toArray W λe W'=>e= .returned u/\Below W.heap.size W W':=
 (h.2 W _ vs (λ_ h=>h) g).mono λe W' ⟨v,j,E,_,_,_,_,a⟩=>by
  unfold jW at a;exact⟨by rw[j,a],E⟩
theorem Aj8{h:List jU}{cs:List eR}(a:Dh.RS W S cs f):jW W S h ψ (.agg (Ak f)) (.agg cs.toArray):=by
 unfold jW;exact⟨cs,rfl,EncOf.ok (T:=Dh) W S h ψ cs f a⟩
theorem X5{h:List jU}(v:eR):jW W S h ψ (.lit v) v:=by
 unfold jW;rfl
theorem Aj9{h:List jU}(a:jW W S h ψ x v):Af W S h ψ [x] [v]:=by
 unfold Af;exact⟨v,[],rfl,a,by unfold Af;rfl⟩
theorem TD{h:List jU}{l:List AV}(a:jW W S h ψ x v)(g:Af W S h ψ l vs):Af W S h ψ (x::l) (v::vs):=by
 unfold Af;exact⟨v,vs,rfl,a,g⟩
end Mu
namespace Mu
open Go
section
variable{f:kE}{b:Nat}{bl:jY}{x:Ins}(hb:f.blocks[b]? =lC bl)
include hb
end
theorem Dl:∀{l m:List Int},l.Nodup->(∀x∈l,x∈m)->l.length<=m.length
 | [],_,_,_=>kX _
 |x::l,m,a,h=>by
  rw[jA]at a;have hx:=h x (by simp);have:=Dl (m:=m.erase x) a.2 λy g=>(iQ (λe=>a.1 (by subst e;exact g))).2 (h y (by simp[g]))
  rw[iB hx]at this;have:0 < m.length:=iG hx;simp only[iA];omega
open Go.RowKit Go.Proofs
variable{R:List Int}{S:Pair->Bool}{a:Int}{b:Nat}{f:kE}{i k:Nat}{l:List Int}{n:Int}{q:Ins×List Int}{r:Int}{x y:Pair}{α β:Type}
section
variable{P:bE}{C:Ctx}{t:List AV}{h:List jU}{o:bC}
end
def Aih(f:kE):Int:=if(6:Int) < (if(0:Int) > f.args then 0 else f.args)then 6 else(if(0:Int) > f.args then 0 else f.args)
def argsK(f:kE):Nat:=(Aih f).toNat
theorem GG(f:kE):Aih f=(argsK f:Int)/\argsK f<=6:=by
 unfold argsK Aih;constructor <;> (split <;> split <;> omega)
theorem Vo(f:kE):Fn cF 59 [.agg (Ak f)] (.lit (.int .i64 (argsK f:Int))):=by
 refine AQ Tryz.func59 V (by kernel_rfl) V Tryz.ntmps59 λC g=>?_
 refine nS ?_;refine rCS ?_;refine rCS ?_;refine Aw ?_;rw[<-(GG f).1];exact⟨.inr V,j9 V⟩
def WT:List Int:=[8,9,10,11,12,13,4]
def Aga:List Int:=[16,17,18,19,20,21,22,23]
def Agq:List Int:=[24,25,26,27,28,29]
def Ajz(i:Int):List Int:=if i=0 then WT else if i=1 then Aga else Agq
theorem Azl:Vn cF 153=lC (3,1):=by kernel_rfl
theorem z3:Cz cF 153=lC [.slice lB 0 0,.slice lB 0 0,.slice lB 0 0]:=by kernel_rfl
theorem AA3:Rw cF 153=lC (aN,3):=by kernel_rfl
instance At7:ZC cF 153 [.slice lB 0 0,.slice lB 0 0,.slice lB 0 0]:=⟨by kernel_rfl⟩
instance At6:SZ cF 153 3:=⟨by kernel_rfl⟩
theorem Aua(h:(Lit.int .i64 n).wf=aN):wfI .i64 n:=h
theorem F5{h:List jU}:∀l:List Int,Bg l->Fits h tInt (l.map λn=>.lit (.int .i64 n)) l
 | [],_=>.nil
 |n::l,g=>.cons (kD (g n (by simp))) (F5 l λx hx=>g x (by simp[hx]))
theorem JX(h:(l.all λn=>(Lit.int .i64 n).wf)=aN):Bg l:=λr g=>fM.1 h r g
theorem Aek:Fn cF 129 [] (.agg [.bs tInt WT,.bs tInt Aga,.bs tInt Agq]):=by
 refine Kc Tryz.func129 V (by kernel_rfl) V AA3 Tryz.ntmps129 λC g=>?_
 simp only[iF,Nat.sub_zero,List.replicate_succ,List.replicate_zero,i8];refine rCS ?_;refine Ab λj h2=>?_
 (refine jX ?_;(repeat(first|refine sQ ?_ (AT.lt (xs:=[.const (.int .i64 8),.const (.int .i64 9),.const (.int .i64 10),.const (.int .i64 11),.const (.int .i64 12),.const (.int .i64 13),.const (.int .i64 4)]) (T:=tInt) (ds:=WT) V V V (by rfl) (by decide) (F5 WT (JX (by decide))))|refine sQ ?_ (AT.lt (xs:=[.const (.int .i64 16),.const (.int .i64 17),.const (.int .i64 18),.const (.int .i64 19),.const (.int .i64 20),.const (.int .i64 21),.const (.int .i64 22),.const (.int .i64 23)]) (T:=tInt) (ds:=Aga) V V V (by rfl) (by decide) (F5 Aga (JX (by decide))))|refine sQ ?_ (AT.lt (xs:=[.const (.int .i64 24),.const (.int .i64 25),.const (.int .i64 26),.const (.int .i64 27),.const (.int .i64 28),.const (.int .i64 29)]) (T:=tInt) (ds:=Agq) V V V (by rfl) (by decide) (F5 Agq (JX (by decide))))|refine sQ ?_ (RD V z3 Azl V V)|refine sQ ?_ (Ax V V V V)|refine sQ ?_ (Av V V V V)|refine sQ ?_|refine AO ?_|refine sG ?_|refine Bq ?_));refine Au ?_)
 refine h2 _ ?_;refine nT ?_;refine Aw ?_;exact⟨⟨.inr V,0,_,rfl,rfl,j9 V⟩,λi cells e hi=>by cases e;cases hi;rfl⟩
def II(l:List Int):List Int:=l.flatMap Ajz
theorem XX(i:Int):(Ajz i).length<=8:=by
 unfold Ajz;split
 ·decide
 ·split <;> decide
theorem Ad5(l:List Int):(II l).length<=8 * l.length:=by
 induction l with
 |nil=>simp[II]
 |cons x l g=>
  have:=XX x;unfold II at g⊢;rw[gG,hZ,iA];omega
theorem OK(l:List Int)(hl:l.length<=3)(h3:∀i∈l,i=0\/i=1\/i=2):Fn cF 106 [.bs tInt l] (.bs tInt (II l)):=by
 refine AQ Tryz.func106 V (by kernel_rfl) V Tryz.ntmps106 λC hC=>?_
 refine nS ?_;refine rCS ?_;refine Ab λK2 h2=>?_
 (refine jX ?_;(repeat(first|refine sQ ?_ (AT.call V Aek V V V)|refine sQ ?_ (Ax V V V V)|refine sQ ?_ (Av V V V V)|refine sQ ?_|refine AO ?_|refine sG ?_|refine Bq ?_));refine Au ?_)
 refine h2 _ ?_;refine nT ?_;refine Ab λK3 J=>?_
 refine rC ?_;refine J _ ?_;refine nT ?_;refine Ab λK4 Z=>?_
 refine rCS ?_;refine Ad ?_;refine AH (λp:Nat×Nat=>⟨(A3 (.ptr 0 0::.own 1 p.2::A3 (.bs tInt l::.lit (.int .i64 (l.length:Int))::.lit (.int .i64 (p.1:Int))::A10 []))),[.box [.bs tInt WT,.bs tInt Aga,.bs tInt Agq],.row p.2 3 tInt (II (l.take p.1))]⟩) (λp=>p.1<=l.length) (λp=>l.length - p.1) (0,0) (kX _) ((CC 4 3 tInt V (by decide)).trans (BX)) ?_;rintro⟨k,ver⟩ hk;dsimp only at hk⊢;refine rCS ?_;refine Ab λK8 Y=>?_
 refine Ah V (λE=>?_) (λE=>?_)
 ·have G:k < l.length:=by simpa using E
  obtain⟨i,hi⟩:∃i,l[k]? =lC i:=⟨_,gP G⟩
  have O:=Ad5 (l.take k);have X:=XX i;have U:(l.take k).length<=3:=by simp;omega
  have g:II (l.take (k+1))=II (l.take k)++Ajz i:=by unfold II;rw[jO,hi,gF];simp
  have u:(II (l.take k)).length+(Ajz i).length<=fE:=by unfold fE;omega
  have j:((II (l.take k)).length+(Ajz i).length) * 8<=140737488355328:=by omega
  refine Al ?_;refine Y _ ?_;refine nT ?_;refine Ab λaa F=>?_
  refine Ad ?_;refine rCS ?_;rcases h3 i (iV hi)with rfl|rfl|rfl
  ·rw[show Ajz 0=WT from V]at u j g
   (refine jX ?_;(repeat(first|refine sQ ?_ (Iz (k:=0) (n:=3) Azl V V V V (by omega))|refine sQ ?_ (Ax V V V V)|refine sQ ?_ (Av V V V V)|refine sQ ?_|refine AO ?_|refine sG ?_|refine Bq ?_));refine Au ?_)
   refine F _ ?_;refine nT ?_;refine rC ?_;refine Ap ⟨(k+1,ver+1),by dsimp only;omega,by dsimp only;omega,?_⟩;dsimp only;rw[g];exact BX
  ·rw[show Ajz 1=Aga from V]at u j g
   (refine jX ?_;(repeat(first|refine sQ ?_ (Iz (k:=1) (n:=3) Azl V V V V (by omega))|refine sQ ?_ (Ax V V V V)|refine sQ ?_ (Av V V V V)|refine sQ ?_|refine AO ?_|refine sG ?_|refine Bq ?_));refine Au ?_)
   refine F _ ?_;refine nT ?_;refine rC ?_;refine Ap ⟨(k+1,ver+1),by dsimp only;omega,by dsimp only;omega,?_⟩;dsimp only;rw[g];exact BX
  ·rw[show Ajz 2=Agq from V]at u j g
   (refine jX ?_;(repeat(first|refine sQ ?_ (Iz (k:=2) (n:=3) Azl V V V V (by omega))|refine sQ ?_ (Ax V V V V)|refine sQ ?_ (Av V V V V)|refine sQ ?_|refine AO ?_|refine sG ?_|refine Bq ?_));refine Au ?_)
   refine F _ ?_;refine nT ?_;refine rC ?_;refine Ap ⟨(k+1,ver+1),by dsimp only;omega,by dsimp only;omega,?_⟩;dsimp only;rw[g];exact BX
 ·have I:k=l.length:=by
   have:¬k < l.length:=by simpa using E
   omega
  subst I;rw[jQ];refine Ay ?_;refine Z _ ?_;refine nT ?_;refine rCS ?_;refine Aw ?_;exact⟨.inr V,kA V⟩
theorem OP(l:List Int)(r:Int)(X:Asc l)(hl:l.length<=2147483648):Fn cF 38 [.bs tInt l,.lit (.int .i64 r)] (.tup [.lit (.int .i64 ((l.countP (· < r):Nat):Int)),.lit (.bool (l.contains r))]):=by
 refine⟨by kernel_rfl,λw S vs Y J=>?_⟩;unfold Af at J;obtain⟨v,us,rfl,E,h1⟩:=J;obtain⟨U,rfl,h0⟩:=Eo h1;unfold Af at h0;subst h0;unfold jW at E;have g:∀(n:Nat) (b:Bool) (w':eX),Below w.heap.size w w'->n=l.countP (· < r)->b=l.contains r->Za w S [] ψ0 (.tup [.lit (.int .i64 ((l.countP (· < r):Nat):Int)),.lit (.bool (l.contains r))]) (.tuple #[.int .i64 (n:Int),.bool b]) w':=λn b w' hb e1 Z=>by
  subst e1 Z;refine⟨hb,S,λ_ h=>h,λ_ h=>.inl h,λk hk=>kT (Y k hk) hb.size,?_⟩;unfold jW;exact⟨[.int .i64 ((l.countP (· < r):Nat):Int),.bool (l.contains r)],rfl,FU [.int .i64 ((l.countP (· < r):Nat):Int),.bool (l.contains r)]⟩
 obtain⟨A,c,rfl⟩:=Ck E;by_cases I:l= []
 ·subst I;refine(Tryz.slices_BinarySearch_int_empty A c r w).mono λe w' ⟨F,G⟩=>?_
  subst G;exact⟨_,F,g 0 aI w' (eK _ _) V V⟩
 ·have u:0 < l.length:=List.length_pos_iff.2 I;obtain⟨b,o,e,_⟩:=L4 E (gP u);cases e;refine(Tryz.slices_BinarySearch_int b o l.length c l r w (kR _) (by omega) (λj O=>?_) ?_).mono λe w' ⟨F,q,G⟩=>?_
  ·obtain⟨b',o',e',_,hc,_⟩:=L4 E (gP O);cases e';rw[hc];simp[List.getD,O]
  ·rw[jQ];exact X.imp λ{a b} h=>by omega
  ·rw[jQ]at F;subst G;exact⟨_,F,g _ _ _ (Az0 (eK _ _) q) V V⟩
def Br(g:List Int)(r:Int)(leaf:Bool):List Int:=if leaf then II [0]else if g.contains r then II [1,2]else II [0,1,2]
theorem Wp(g:List Int)(r:Int)(leaf:Bool)(O:Asc g)(J:g.length<=2147483648):Fn cF 72 [.bs tInt g,.lit (.int .i64 r),.lit (.bool leaf)] (.bs tInt (Br g r leaf)):=by
 refine AQ Tryz.func72 V (by kernel_rfl) V Tryz.ntmps72 λC hC=>?_
 have w0:Bg [0]:=JX (by decide);have I:Bg [1,2]:=JX (by decide);have G:Bg [0,1,2]:=JX (by decide);refine nS ?_;refine rCS ?_;refine Ab λK2 h2=>?_
 refine rCS ?_;refine Ah V (λu=>?_) (λu=>?_)
 ·subst u;refine Ab λK5 Y=>?_
  (refine jX ?_;(repeat(first|refine sQ ?_ (AT.lt (xs:=[.const (.int .i64 0)]) (T:=tInt) (ds:=[0]) V V V (by rfl) (by decide) (F5 [0] w0))|refine sQ ?_ (AT.call V (OK [0] (by decide) (by decide)) V V V)|refine sQ ?_ (Ax V V V V)|refine sQ ?_ (Av V V V V)|refine sQ ?_|refine AO ?_|refine sG ?_|refine Bq ?_));refine Au ?_)
  refine Y _ ?_;refine nT ?_;refine Aw ?_;exact⟨.inr V,j9 V⟩
 ·subst u;refine Al ?_;refine h2 _ ?_;refine nT ?_;refine Ab λK6 X=>?_
  refine Ab λK7 U=>?_
  (refine jX ?_;(repeat(first|refine sQ ?_ (AT.call V (OP g r O J) V V V)|refine sQ ?_ (Ax V V V V)|refine sQ ?_ (Av V V V V)|refine sQ ?_|refine AO ?_|refine sG ?_|refine Bq ?_));refine Au ?_)
  refine U _ ?_;refine nT ?_;refine rCS ?_;refine Ah V (λj=>?_) (λj=>?_)
  ·have e:Br g r aI=II [1,2]:=by unfold Br;rw[if_neg (by simp),if_pos j]
   refine Ab λaa F=>?_
   (refine jX ?_;(repeat(first|refine sQ ?_ (AT.lt (xs:=[.const (.int .i64 1),.const (.int .i64 2)]) (T:=tInt) (ds:=[1,2]) V V V (by rfl) (by decide) (F5 [1,2] I))|refine sQ ?_ (AT.call V (OK [1,2] (by decide) (by decide)) V V V)|refine sQ ?_ (Ax V V V V)|refine sQ ?_ (Av V V V V)|refine sQ ?_|refine AO ?_|refine sG ?_|refine Bq ?_));refine Au ?_)
   refine F _ ?_;refine nT ?_;refine Aw ?_;rw[e];exact⟨.inr V,j9 V⟩
  ·have e:Br g r aI=II [0,1,2]:=by unfold Br;rw[if_neg (by simp),if_neg (by rw[j];simp)]
   refine Al ?_;refine X _ ?_;refine nT ?_;refine Ab λZ E=>?_
   (refine jX ?_;(repeat(first|refine sQ ?_ (AT.lt (xs:=[.const (.int .i64 0),.const (.int .i64 1),.const (.int .i64 2)]) (T:=tInt) (ds:=[0,1,2]) V V V (by rfl) (by decide) (F5 [0,1,2] G))|refine sQ ?_ (AT.call V (OK [0,1,2] (by decide) (by decide)) V V V)|refine sQ ?_ (Ax V V V V)|refine sQ ?_ (Av V V V V)|refine sQ ?_|refine AO ?_|refine sG ?_|refine Bq ?_));refine Au ?_)
   refine E _ ?_;refine nT ?_;refine Aw ?_;rw[e];exact⟨.inr V,j9 V⟩
theorem Rn(f:kE):Asc (B9 f):=(TF f).filter _
theorem Rm(f:kE):(B9 f).length<=(BA f).length:=iC _ _
def Ale(p:Int):Bool:=(aO (p≥16)&&aO (p < 30))||decide (p≥32)
theorem Agm(p:Int):Fn cF 23 [.lit (.int .i64 p)] (.lit (.bool (Ale p))):=by
 refine AQ Tryz.func23 V (by kernel_rfl) V Tryz.ntmps23 λC g=>?_
 refine nS ?_;refine rCS ?_;refine rCS ?_;refine Aw ?_;exact⟨.inr V,j9 V⟩
theorem Qv(x:Ins)(g:okIns x)(E:x.args.length<=2097152):Fn cF 60 [.agg (BZ x)] (.bs tInt (readsC x)):=
 Acb (by kernel_rfl) (FV g) λw vs u=>by
  obtain⟨v,rfl,j⟩:=Acu u;obtain⟨cs,rfl,hc⟩:=I9 j;exact H8 x w cs (MF g hc) E
theorem FT(x:Ins)(u:okIns x):Fn cF 61 [.agg (BZ x)] (.tup [.lit (.int .i64 (if Bd x then x.d else 0)),.lit (.bool (Bd x))]):=
 RH (by kernel_rfl) λw vs j=>by
  obtain⟨v,rfl,g⟩:=Acu j;obtain⟨cs,rfl,hc⟩:=I9 g;refine(Nl x w cs (MF u hc)).mono λe w' ⟨E,hb⟩=>⟨?_,hb⟩
  rw[E];unfold IR;cases Bd x <;> rfl
theorem Dv{g:α->List β}{l:List α}{x:α}(hx:l[k]? =lC x):(l.take (k+1)).flatMap g=(l.take k).flatMap g++g x:=by
 rw[jO,hx,gF];simp
theorem Ahc(g:α->List β)(l:List α)(k:Nat):((l.take k).flatMap g).length<=(l.flatMap g).length:=by
 conv=>rhs;rw[<-jP k l]
 rw[gF,hZ];omega
theorem Sv{g:Ins->List β}{bs:List jY}{bl:jY}{x:Ins}(hb:bs[b]? =lC bl)(hx:bl.ins[i]? =lC x):
 ((bs.take b).flatMap λc=>c.ins.flatMap g).length+((bl.ins.take i).flatMap g).length+(g x).length<=(bs.flatMap λc=>c.ins.flatMap g).length:=by
 have h1:=Ahc (λc:jY=>c.ins.flatMap g) bs (b+1);rw[Dv hb,hZ]at h1;have h2:=Ahc g bl.ins (i+1);rw[Dv hx,hZ]at h2;omega
def NV(n:Nat):List Int:=(jH n).map λ(r:Nat)=>(r:Int)
theorem Ui(n:Nat):NV (n+1)=NV n++[(n:Int)]:=by unfold NV;rw[jI,iJ];rfl
theorem Oh(n:Nat):(NV n).length=n:=by simp[NV]
def NC(b:jY):List Int:=b.ins.flatMap Bz
def NE(f:kE):List Int:=f.blocks.flatMap NC
def Acr(f:kE):List Int:=NV (argsK f)++NE f
def regsB(f:kE):List Int:=aY ((Acr f).mergeSort λx y=>decide (x<=y))
theorem Xq(j:okFunc f):Bg (NE f):=λr g=>by
 obtain⟨b,hb,g⟩:=iS.1 g;obtain⟨x,hx,g⟩:=iS.1 g;exact LA ((j.blocks b hb).ins x hx) r g
theorem Aez(g:okFunc f):Bg (Acr f):=λr hr=>by
 rcases iM.1 hr with hr|hr
 ·unfold NV at hr;obtain⟨k,hk,rfl⟩:=iU.1 hr;have:=iY.1 hk;have:=(GG f).2;exact LU (by omega)
 ·exact Xq g r hr
theorem Jc:r∈regsB f↔r∈Acr f:=by
 unfold regsB;rw[(GU (Fp _)).2,List.mem_mergeSort]
theorem Jd(f:kE):Asc (regsB f):=(GU (Fp _)).1
theorem Aer(f:kE):(regsB f).length<=(Acr f).length:=by
 have:=Xb ((Acr f).mergeSort λx y=>decide (x<=y));rw[iE]at this;exact this
theorem LB(f:kE)(ho:okFunc f)(hs:smallF f)(hX:(NE f).length<=2097152):Fn cF 30 [.agg (Ak f)] (.bs tInt (regsB f)):=by
 have bj:=hs.blocks;have bh:=(GG f).2;refine AQ Tryz.func30 V (by kernel_rfl) V Tryz.ntmps30 λC hC=>?_
 refine nS ?_;refine rRS ?_;refine rRS ?_;refine Ab λK3 h3=>?_
 refine Ab λK4 h4=>?_
 (refine jX ?_;(repeat(first|refine sQ ?_ (AT.call V (Vo f) V V V)|refine sQ ?_|refine AO ?_|refine Bq ?_));refine Au ?_)
 refine h4 _ ?_;refine nT ?_;refine Ad ?_;refine AH (λp:Nat×Nat=>⟨(.any::.ptr 0 0::.any::.own 1 p.2::A8 (.lit (.int .i64 (argsK f:Int))::.lit (.int .i64 (p.1:Int))::A40 [.any])),[.box (Ak f),.row p.2 3 tInt (NV p.1)]⟩) (λp=>p.1<=argsK f) (λp=>argsK f - p.1) (0,0) (kX _) ((CC 3 3 tInt V (by decide)).trans (BX)) ?_;rintro⟨k,ver⟩ hk;dsimp only at hk⊢;refine rRS ?_;refine Ab λK7 h7=>?_
 refine Ah V (λU=>?_) (λU=>?_)
 ·have ae:k < argsK f:=by simpa using U
  have hw:=LU (k:=k) (by omega);have I:=Oh k;have aa:=Ui k;generalize X:NV k=L0 at I aa⊢;have an:L0.length+ [(k:Int)].length<=fE:=by simp[fE];omega
  have am:(L0.length+ [(k:Int)].length) * 8<=140737488355328:=by simp;omega
  refine Al ?_;refine h7 _ ?_;refine nT ?_;refine Ab λK9 h9=>?_
  refine Ad ?_;refine rRS ?_;refine rR ?_;refine h9 _ ?_;refine nT ?_;refine rR ?_;refine Ap ⟨(k+1,ver+1),by dsimp only;omega,by dsimp only;omega,?_⟩;dsimp only;rw[aa];exact BX
 ·have ao:k=argsK f:=by
   have:¬k < argsK f:=by simpa using U
   omega
  subst ao;have I:=Oh (argsK f);refine Ay ?_;refine h3 _ ?_;refine nT ?_;refine Ab λbw bb=>?_
  refine rRS ?_;refine Ad ?_;refine AH (λp:Nat×Nat=>⟨(.any::.ptr 0 0::.any::.own 1 p.2::A10 (A8 (.bs Cy f.blocks::.lit (.int .i64 (f.blocks.length:Int))::.lit (.int .i64 (p.1:Int))::A20 (A10 [])))),[.box (Ak f),.row p.2 3 tInt (NV (argsK f)++(f.blocks.take p.1).flatMap NC)]⟩) (λp=>p.1<=f.blocks.length) (λp=>f.blocks.length - p.1) (0,ver) (kX _) (by rw[show NV (argsK f)++(f.blocks.take (0,ver).1).flatMap NC=NV (argsK f)by simp];exact BX) ?_;rintro⟨b,ver⟩ hb;dsimp only at hb⊢;refine rRS ?_;refine Ab λbv ba=>?_
  refine Ah V (λG=>?_) (λG=>?_)
  ·have ae:b < f.blocks.length:=by simpa using G
   obtain⟨bl,E⟩:∃bl,f.blocks[b]? =lC bl:=⟨_,gP ae⟩
   have J:=iV E;have al:=ho.blocks bl J;have ab:=hs.all bl J;have bi:=ab.ins;have aq:=Dv (g:=NC) E;refine Al ?_;refine ba _ ?_;refine nT ?_;refine Ab λbu az=>?_
   refine Ad ?_;refine rRS ?_;refine rRS ?_;refine Ad ?_;refine AH (λp:Nat×Nat=>⟨(.any::.ptr 0 0::.any::.own 1 p.2::A10 (A8 (.bs Cy f.blocks::.lit (.int .i64 (f.blocks.length:Int))::.lit (.int .i64 (b:Int))::A4 (.bs Em bl.ins::.lit (.int .i64 (bl.ins.length:Int))::.lit (.int .i64 (p.1:Int))::A20 (A3 []))))),[.box (Ak f),.row p.2 3 tInt (NV (argsK f)++(f.blocks.take b).flatMap NC++(bl.ins.take p.1).flatMap Bz)]⟩) (λp=>p.1<=bl.ins.length) (λp=>bl.ins.length - p.1) (0,ver) (kX _) (by rw[show NV (argsK f)++(f.blocks.take b).flatMap NC++(bl.ins.take (0,ver).1).flatMap Bz=NV (argsK f)++(f.blocks.take b).flatMap NC by simp];exact Kr (.cons (.cons (j6 _)))) ?_;rintro⟨i,ver⟩ hi;dsimp only at hi⊢;refine rRS ?_;refine Ab λbt ay=>?_
   refine Ah V (λF=>?_) (λF=>?_)
   ·have af:i < bl.ins.length:=by simpa using F
    obtain⟨x,hx⟩:∃x,bl.ins[i]? =lC x:=⟨_,gP af⟩
    have Z:=iV hx;have O:=al.ins x Z;have ai:x.args.length<=2097152:=by have:=ab.all x Z;omega
    have Y:=Dv (g:=Bz) hx;have bg:=Sv (g:=Bz) E hx;have bk:(f.blocks.flatMap λc=>c.ins.flatMap Bz).length<=2097152:=hX;have hL:(NV (argsK f)++(f.blocks.take b).flatMap NC++(bl.ins.take i).flatMap Bz).length+(Bz x).length<=2097160:=by
     rw[hZ,hZ,I];have:((f.blocks.take b).flatMap NC).length=((f.blocks.take b).flatMap λc=>c.ins.flatMap Bz).length:=rfl;omega
    have u:Bz x=readsC x++if Bd x then [x.d]else []:=rfl
    generalize X:NV (argsK f)++(f.blocks.take b).flatMap NC++(bl.ins.take i).flatMap Bz=L0 at hL⊢;rw[u,hZ]at hL;have an:L0.length+(readsC x).length<=fE:=by unfold fE;omega
    have am:(L0.length+(readsC x).length) * 8<=140737488355328:=by omega
    refine Al ?_;refine ay _ ?_;refine nT ?_;refine Ab λbr ah=>?_
    refine Ad ?_;refine rRS ?_;refine Ab λbq ax=>?_
    (refine jX ?_;(repeat(first|refine sQ ?_ (AT.call V (Qv x O ai) V V V)|refine sQ ?_|refine AO ?_|refine Bq ?_));refine Au ?_)
    refine ax _ ?_;refine nT ?_;refine Ab λbo aw=>?_
    (refine jX ?_;(repeat(first|refine sQ ?_ (AT.call V (FT x O) V V V)|refine sQ ?_|refine AO ?_|refine Bq ?_));refine Au ?_)
    refine aw _ ?_;refine nT ?_;refine rRS ?_;refine Ah V (λj=>?_) (λj=>?_)
    ·rw[j,if_pos V]at hL u;have e1:(if Bd x=aN then x.d else 0)=x.d:=if_pos j;have bc:=O.d;have bf:(L0++readsC x).length+ [x.d].length<=fE:=by rw[hZ];simp[fE];simp at hL;omega
     have be:((L0++readsC x).length+ [x.d].length) * 8<=140737488355328:=by rw[hZ];simp;simp at hL;omega
     rw[e1];refine rR ?_;refine ah _ ?_;refine nT ?_;refine rR ?_;refine Ap ⟨(i+1,ver+1+1),by dsimp only;omega,by dsimp only;omega,?_⟩;dsimp only;rw[Y,<-fO,X,u,<-fO];exact Kr (.cons (.cons (j6 _)))
    ·rw[j,if_neg (by simp),fP]at u;refine Al ?_;refine ah _ ?_;refine nT ?_;refine rR ?_;refine Ap ⟨(i+1,ver+1),by dsimp only;omega,by dsimp only;omega,?_⟩;dsimp only;rw[Y,<-fO,X,u];exact Kr (.cons (.cons (j6 _)))
   ·have ap:i=bl.ins.length:=by
     have:¬i < bl.ins.length:=by simpa using F
     omega
    subst ap;rw[jQ];refine Ay ?_;refine az _ ?_;refine nT ?_;refine rR ?_;refine Ap ⟨(b+1,ver),by dsimp only;omega,by dsimp only;omega,?_⟩;dsimp only;rw[aq,<-fO];exact BX
  ·have ar:b=f.blocks.length:=by
    have:¬b < f.blocks.length:=by simpa using G
    omega
   subst ar;rw[jQ];have ad:NV (argsK f)++f.blocks.flatMap NC=Acr f:=rfl;rw[ad];have ac:(Acr f).length<=2147483648:=by unfold Acr;rw[hZ,I];omega
   have ak:=Pg (Aez ho);have ag:Bg (aY ((Acr f).mergeSort λx y=>decide (x<=y))):=λr hr=>ak r ((GU (Fp _)).2 r |>.1 hr)
   have aj:((Acr f).mergeSort λx y=>decide (x<=y)).length<=2147483648:=by rw[iE];exact ac
   refine Ay ?_;refine bb _ ?_;refine nT ?_;refine Ab λbn av=>?_
   (refine jX ?_;(repeat(first|(refine AF V (Qi V V V ac ?_);refine sNt ?_)|refine sQ ?_|refine AO ?_|refine Bq ?_));refine Au ?_)
   refine av _ ?_;refine nT ?_;refine Ab λbm au=>?_
   (refine jX ?_;(repeat(first|(refine AF V (Qm V (W9 aj ag) V V ?_);refine sNt ?_)|refine sQ ?_|refine AO ?_|refine Bq ?_));refine Au ?_)
   refine au _ ?_;refine nT ?_;refine Aw ?_;exact⟨.inr V,kA V⟩
theorem Aq0(l:List Int)(n:Int)(J:l.length<=2097152):Fn cF 69 [.bs tInt l,.lit (.int .i64 n)] (.lit (.bool (l.contains n))):=by
 refine AQ Tryz.func69 V (by kernel_rfl) V Tryz.ntmps69 λC O=>?_
 refine nS ?_;refine rCS ?_;refine Ab λY h2=>?_
 refine rCS ?_;refine Ad ?_;refine AH (λi:Nat=>⟨(.bs tInt l::.lit (.int .i64 n)::A3 (.lit (.int .i64 (i:Int))::A10 (A2 []))),[]⟩) (λi=>i<=l.length/\(l.take i).contains n=aI) (λi=>l.length - i) 0 ⟨kX _,rfl⟩ (BX) ?_;rintro i ⟨hi,hc⟩;refine Ab λX I=>?_
 refine rCS ?_;refine Ah V (λhb=>?_) (λhb=>?_)
 ·have u:i < l.length:=by simpa using hb
  obtain⟨x,hx⟩:∃x,l[i]? =lC x:=⟨_,gP u⟩
  refine Al ?_;refine I _ ?_;refine nT ?_;refine Ab λU G=>?_
  refine Ad ?_;refine rCS ?_;refine Ah V (λj=>?_) (λj=>?_)
  ·have g:x=n:=by simpa using j
   have F:l.contains n=aN:=by rw[<-g];exact fS.2 (iV hx)
   refine rCS ?_;refine Aw ?_;rw[F];exact⟨.inr V,j9 V⟩
  ·have g:¬x=n:=by simpa using j
   refine Al ?_;refine G _ ?_;refine nT ?_;refine rC ?_;refine Ap ⟨i+1,⟨by omega,?_⟩,by omega,BX⟩;rw[jO,hx,fR]at *;simp only[lF,iM,iN,jC,or_false,decide_eq_false_iff_not,not_or]at hc⊢;exact⟨by simpa[fR]using hc,λe=>g e.symm⟩
 ·have E:i=l.length:=by
   have:¬i < l.length:=by simpa using hb
   omega
  rw[E,jQ]at hc;refine Ay ?_;refine h2 _ ?_;refine nT ?_;refine rCS ?_;refine Aw ?_;rw[hc];exact⟨.inr V,j9 V⟩
def G3(n:Int)(s:List Int×Bool)(x:Int):List Int×Bool:=if(!s.2&&aO (x > n))=aN then(s.1++[n]++[x],aN)else(s.1++[x],s.2)
def Fr(n:Int)(l:List Int):List Int×Bool:=l.foldl (G3 n) ([],aI)
def B7(l:List Int)(n:Int):List Int:=if l.contains n then l else if(!(Fr n l).2)=aN then(Fr n l).1++[n]else(Fr n l).1
theorem Aau{x:Int}(h:l[i]? =lC x):Fr n (l.take (i+1))=G3 n (Fr n (l.take i)) x:=by
 unfold Fr;rw[jO,h,gI];rfl
theorem UG(n:Int)(l:List Int):(Fr n l).1.length+(if(Fr n l).2 then 0 else 1)=l.length+1/\(wfI .i64 n->Bg l->Bg (Fr n l).1):=by
 suffices h:∀(l:List Int) (s:List Int×Bool),(l.foldl (G3 n) s).1.length+(if(l.foldl (G3 n) s).2 then 0 else 1)=s.1.length+(if s.2 then 0 else 1)+l.length/\(wfI .i64 n->Bg s.1->Bg l->Bg (l.foldl (G3 n) s).1)by
  obtain⟨h1,h2⟩:=h l ([],aI);refine⟨?_,λa b=>h2 a (λr g=>by cases g) b⟩;unfold Fr;rw[h1];simp;omega
 intro l;induction l with
 |nil=>exact λs=>⟨rfl,λ_ h _=>h⟩
 |cons x l j=>
  intro s;obtain⟨h1,h2⟩:=j (G3 n s x);rw[gJ];refine⟨?_,λa b c=>h2 a ?_ λr g=>c r (iO _ g)⟩
  ·rw[h1];unfold G3;obtain⟨o,d⟩:=s;cases d
   ·by_cases hx:x > n <;> simp[hx] <;> omega
   ·simp;omega
  ·unfold G3;have hx:=c x (iP ..);split
   ·intro r g;simp only[or_false,zaq]at g;rcases g with(g|rfl)|rfl
    ·exact b r g
    ·exact a
    ·exact hx
   ·intro r g;simp only[or_false,zaq]at g;rcases g with g|rfl
    ·exact b r g
    ·exact hx
theorem Ac1(l:List Int)(n:Int):(B7 l n).length<=l.length+1/\(wfI .i64 n->Bg l->Bg (B7 l n)):=by
 have h:=UG n l;unfold B7;split
 ·exact⟨by omega,λ_ h=>h⟩
 ·split
  ·rename_i g;have g:(Fr n l).2=aI:=by simpa using g
   rw[g]at h;have h1:=h.1;simp only[aJ,if_false]at h1;refine⟨by simp;omega,λa b r hr=>?_⟩;rcases iM.1 hr with hr|hr
   ·exact h.2 a b r hr
   ·rw[i6.1 hr];exact a
  ·refine⟨?_,λa b=>h.2 a b⟩;have h1:=h.1;omega
theorem IS(l:List Int)(n:Int)(hl:l.length<=2097152)(ho:Bg l)(hn:wfI .i64 n):Fn cF 45 [.bs tInt l,.lit (.int .i64 n)] (.bs tInt (B7 l n)):=by
 have Y:=Aq0 l n hl;refine AQ Tryz.func45 V (by kernel_rfl) V Tryz.ntmps45 λC hC=>?_
 refine nS ?_;refine rCS ?_;refine Ab λK2 h2=>?_
 refine Ab λK3 h3=>?_
 (refine jX ?_;(repeat(first|refine sQ ?_ (AT.call V Y V V V)|refine sQ ?_ (Ax V V V V)|refine sQ ?_ (Av V V V V)|refine sQ ?_|refine AO ?_|refine sG ?_|refine Bq ?_));refine Au ?_)
 refine h3 _ ?_;refine nT ?_;refine Ah V (λI=>?_) (λI=>?_)
 ·refine rCS ?_;refine Aw ?_;rw[show B7 l n=l from by unfold B7;rw[I];rfl];exact⟨.inr V,j9 V⟩
 ·refine Al ?_;refine h2 _ ?_;refine nT ?_;refine rCS ?_;refine rCS ?_;refine Ab λK8 h8=>?_
  refine rCS ?_;refine Ad ?_;refine AH (λp:Nat×Nat=>⟨(.bs tInt l::.lit (.int .i64 n)::A3 (.own 0 p.2::.lit (.bool (Fr n (l.take p.1)).2)::.lit (.int .i64 (p.1:Int))::A20 (A10 (A8 [])))),[.row p.2 3 tInt (Fr n (l.take p.1)).1]⟩) (λp=>p.1<=l.length) (λp=>l.length - p.1) (0,0) (kX _) ((CC 5 3 tInt V (by decide)).trans (BX)) ?_;rintro⟨i,ver⟩ hi;dsimp only at hi⊢;have G:=(UG n (l.take i)).1;rw[iI]at G;have j:∀x,l[i]? =lC x->Fr n (l.take (i+1))=G3 n (Fr n (l.take i)) x:=λx hx=>Aau hx
  have g:i=l.length->Fr n l=Fr n (l.take i):=λe=>by rw[e,jQ]
  generalize Fr n (l.take i)=s at G j g⊢;obtain⟨o,d⟩:=s;dsimp only at G j g⊢;have ac:o.length<=2097154:=by omega
  refine Ab λag aa=>?_
  refine rCS ?_;refine Ah V (λF=>?_) (λF=>?_)
  ·have X:i < l.length:=by simpa using F
   obtain⟨x,hx⟩:∃x,l[i]? =lC x:=⟨_,gP X⟩
   have ab:=ho x (iV hx);have j:=j x hx;refine Al ?_;refine aa _ ?_;refine nT ?_;refine Ab λaf U=>?_
   refine Ad ?_;refine Ab λae O=>?_
   refine rCS ?_;refine Ah V (λE=>?_) (λE=>?_)
   ·have e1:G3 n (o,d) x=(o++[n]++[x],aN):=if_pos E;rw[e1]at j;refine rCS ?_;refine rC ?_;refine O _ ?_;refine nT ?_;refine rC ?_;refine U _ ?_;refine nT ?_;refine rC ?_;refine Ap ⟨(i+1,ver+2),by dsimp only;omega,by dsimp only;omega,?_⟩;dsimp only;rw[j];exact BX
   ·have e1:G3 n (o,d) x=(o++[x],d):=if_neg (by rw[show(!(o,d).2&&aO (x > n))=aI from E];simp);rw[e1]at j;refine Al ?_;refine O _ ?_;refine nT ?_;refine rC ?_;refine U _ ?_;refine nT ?_;refine rC ?_;refine Ap ⟨(i+1,ver+1),by dsimp only;omega,by dsimp only;omega,?_⟩;dsimp only;rw[j];exact BX
  ·have Z:i=l.length:=by
    have:¬i < l.length:=by simpa using F
    omega
   have g:=g Z;have hc:l.contains n=aI:=I;refine Ay ?_;refine h8 _ ?_;refine nT ?_;refine Ab λad J=>?_
   refine rCS ?_;refine Ah V (λu=>?_) (λu=>?_)
   ·have e2:B7 l n=o++[n]:=by unfold B7;rw[hc,if_neg (by simp),g,if_pos u]
    refine rC ?_;refine J _ ?_;refine nT ?_;refine rCS ?_;refine Aw ?_;rw[e2];exact⟨.inr V,kA V⟩
   ·have e2:B7 l n=o:=by unfold B7;rw[hc,if_neg (by simp),g,if_neg (by rw[show(!(o,d).2)=aI from u];simp)]
    refine Al ?_;refine J _ ?_;refine nT ?_;refine rCS ?_;refine Aw ?_;rw[e2];exact⟨.inr V,kA V⟩
def AL(f:kE):List Int:=(NE f).foldl B7 []
theorem FI(l:List Int):(l.foldl B7 []).length<=l.length/\(Bg l->Bg (l.foldl B7 [])):=by
 suffices h:∀(l s:List Int),(l.foldl B7 s).length<=s.length+l.length/\(Bg s->Bg l->Bg (l.foldl B7 s))by
  obtain⟨h1,h2⟩:=h l [];exact⟨by simpa using h1,λa=>h2 (λr g=>by cases g) a⟩
 intro l;induction l with
 |nil=>exact λs=>⟨kR _,λh _=>h⟩
 |cons x l j=>
  intro s;obtain⟨h1,h2⟩:=j (B7 s x);have u:=Ac1 s x;rw[gJ,iA];exact⟨by omega,λa b=>h2 (u.2 (b x (iP ..)) a) λr g=>b r (iO _ g)⟩
theorem PD(P:List Int)(h:l[k]? =lC r):(P++l.take (k+1)).foldl B7 []=B7 ((P++l.take k).foldl B7 []) r:=by
 rw[jO,h,<-fO,gI];rfl
theorem OZ(f:kE)(ho:okFunc f)(hs:smallF f)(hX:(NE f).length<=2097152):Fn cF 20 [.agg (Ak f)] (.bs tInt (AL f)):=by
 have bo:=hs.blocks;refine AQ Tryz.func20 V (by kernel_rfl) V Tryz.ntmps20 λC hC=>?_
 refine nS ?_;refine rCS ?_;refine rCS ?_;refine Ab λK3 h3=>?_
 refine rCS ?_;refine Ad ?_;refine AH (λb:Nat=>⟨(.any::.ptr 0 0::.any::.bs tInt (((f.blocks.take b).flatMap NC).foldl B7 [])::.lit (.int .i64 (b:Int))::A40 (A20 [])),[.box (Ak f)]⟩) (λb=>b<=f.blocks.length) (λb=>f.blocks.length - b) 0 (kX _) ((P6 3 tInt V).trans (BX)) ?_;intro b hb
 (try dsimp only at hb);(try dsimp only)
 refine Ab λK6 h6=>?_
 refine rCS ?_;refine Ah V (λaf=>?_) (λaf=>?_)
 ·have au:b < f.blocks.length:=by simpa using af
  obtain⟨bl,Y⟩:∃bl,f.blocks[b]? =lC bl:=⟨_,gP au⟩
  have ab:=iV Y;have al:=ho.blocks bl ab;have ak:=hs.all bl ab;have bn:=ak.ins;have ax:=Dv (g:=NC) Y;refine Al ?_;refine h6 _ ?_;refine nT ?_;refine Ab λK9 h9=>?_
  refine Ad ?_;refine rCS ?_;refine Ad ?_;refine AH (λi:Nat=>⟨(.any::.ptr 0 0::.any::.bs tInt (((f.blocks.take b).flatMap NC++(bl.ins.take i).flatMap Bz).foldl B7 [])::.lit (.int .i64 (b:Int))::.lit (.int .i64 (i:Int))::A40 (A10 (A9 []))),[.box (Ak f)]⟩) (λi=>i<=bl.ins.length) (λi=>bl.ins.length - i) 0 (kX _) (by rw[show(f.blocks.take b).flatMap NC++(bl.ins.take 0).flatMap Bz=(f.blocks.take b).flatMap NC by simp];exact BX) ?_;intro i hi
  (try dsimp only at hi);(try dsimp only)
  refine Ab λbx bb=>?_
  refine rCS ?_;refine Ah V (λZ=>?_) (λZ=>?_)
  ·have an:i < bl.ins.length:=by simpa using Z
   obtain⟨x,hx⟩:∃x,bl.ins[i]? =lC x:=⟨_,gP an⟩
   have ai:=iV hx;have I:=al.ins x ai;have aj:x.args.length<=2097152:=by have:=ak.all x ai;omega
   have ar:=Dv (g:=Bz) hx;have bm:=Sv (g:=Bz) Y hx;have bq:(f.blocks.flatMap λc=>c.ins.flatMap Bz).length<=2097152:=hX;obtain⟨P,hP⟩:∃P,(f.blocks.take b).flatMap NC++(bl.ins.take i).flatMap Bz=P:=⟨_,rfl⟩
   have br:P.length+(Bz x).length<=2097152:=by
    rw[<-hP,hZ];have:((f.blocks.take b).flatMap NC).length=((f.blocks.take b).flatMap λc=>c.ins.flatMap Bz).length:=rfl;omega
   have ao:Bg P:=by
    rw[<-hP];intro r hr;rcases iM.1 hr with hr|hr
    ·obtain⟨c,hc,hr⟩:=iS.1 hr;obtain⟨y,hy,hr⟩:=iS.1 hr;exact LA ((ho.blocks c (iW hc)).ins y hy) r hr
    ·obtain⟨y,hy,hr⟩:=iS.1 hr;exact LA (al.ins y (iW hy)) r hr
   have am:(f.blocks.take b).flatMap NC++(bl.ins.take (i+1)).flatMap Bz=P++Bz x:=by rw[ar,<-hP,fO]
   rw[hP];have J:Bz x=readsC x++if Bd x then [x.d]else []:=rfl
   have aa:=LA I;have bg:(readsC x).length<=(Bz x).length:=by rw[J,hZ];omega
   have bk:([]:List Int).length+(readsC x).length<=fE:=by simp[fE];omega
   have bj:(([]:List Int).length+(readsC x).length) * 8<=140737488355328:=by simp;omega
   refine Al ?_;refine bb _ ?_;refine nT ?_;refine Ab λbw aq=>?_
   refine Ad ?_;refine rCS ?_;refine Ab λbv ba=>?_
   (refine jX ?_;(repeat(first|(refine AF V (AOp.lit (s:=⟨_,_⟩) (T:=tInt) (xs:=[]) (ds:=[]) (e:=3) (bytes:=8) V V V (by kernel_rfl) (by decide) (by decide) .nil ?_);refine sNt ?_)|refine sQ ?_ (AT.call V (Gn x I aj) V V V)|refine sQ ?_ (Ax V V V V)|refine sQ ?_ (Av V V V V)|refine sQ ?_|refine AO ?_|refine sG (hq:=by(intro hg;(try simp only[Bool.and_eq_true,beq_iff_eq]at hg);(try simp only[hg,Bool.true_and,zaj]);exact AT.call V (Gn x I aj) V V V)) ?_|refine sG ?_|refine Bq ?_));refine Au ?_)
   refine ba _ ?_;refine nT ?_;refine Ab λbu az=>?_
   (refine jX ?_;(repeat(first|refine sQ ?_ (AT.call V (Fz x I) V V V)|refine sQ ?_ (Ax V V V V)|refine sQ ?_ (Av V V V V)|refine sQ ?_|refine AO ?_|refine sG (hq:=by(intro hg;(try simp only[Bool.and_eq_true,beq_iff_eq]at hg);(try simp only[hg,Bool.true_and,zaj]);exact AT.call V (Fz x I) V V V)) ?_|refine sG ?_|refine Bq ?_));refine Au ?_)
   refine az _ ?_;refine nT ?_;refine Ab λbt ap=>?_
   refine rCS ?_;refine Ah V (λG=>?_) (λG=>?_)
   ·rw[G,if_pos V]at J;have e1:(if Bd x=aN then x.d else 0)=x.d:=if_pos G;have bf:=I.d;rw[e1];have bi:(readsC x).length+ [x.d].length<=fE:=by simp[fE];omega
    have bh:((readsC x).length+ [x.d].length) * 8<=140737488355328:=by simp;omega
    refine rC ?_;refine ap _ ?_;refine nT ?_;refine rCS ?_;refine Ad ?_;refine AH (λk:Nat=>⟨(.any::.ptr 0 0::.any::.bs tInt ((P++(Bz x).take k).foldl B7 [])::.lit (.int .i64 (b:Int))::.lit (.int .i64 (i:Int))::.any::.own 2 2::A2 (.lit (.int .i64 (k:Int))::A40 (A10 (A4 [])))),[.box (Ak f),.dead,.row 2 3 tInt (Bz x)]⟩) (λk=>k<=(Bz x).length) (λk=>(Bz x).length - k) 0 (kX _) (by rw[show P++(Bz x).take 0=P by simp,J];exact Kr (.cons (.dead (.cons (j6 _))))) ?_;intro k hk;have av:(P++(Bz x).take k).length<=2097152:=by rw[hZ,iI];omega
    have ad:Bg (P++(Bz x).take k):=λr hr=>by
     rcases iM.1 hr with hr|hr
     ·exact ao r hr
     ·exact aa r (iW hr)
    obtain⟨ac,E⟩:=FI (P++(Bz x).take k);have E:=E ad;have u:∀r,(Bz x)[k]? =lC r->(P++(Bz x).take (k+1)).foldl B7 []=B7 ((P++(Bz x).take k).foldl B7 []) r:=λr hr=>PD P hr
    have j:k=(Bz x).length->(P++(Bz x).take k).foldl B7 []=(P++Bz x).foldl B7 []:=λe=>by rw[e,jQ]
    (try dsimp only at hk);(try dsimp only)
    generalize (P++(Bz x).take k).foldl B7 []=O at ac E u j⊢;refine Ab λbe ah=>?_
    refine rCS ?_;refine Ah V (λF=>?_) (λF=>?_)
    ·have X:k < (Bz x).length:=by simpa using F
     obtain⟨r,hr⟩:∃r,(Bz x)[k]? =lC r:=⟨_,gP X⟩
     have U:=aa r (iV hr);have u:=u r hr;refine Al ?_;refine ah _ ?_;refine nT ?_;refine Ab λbc ag=>?_
     refine Ad ?_
     (refine jX ?_;(repeat(first|refine sQ ?_ (AT.call V (IS O r (by omega) E U) V V V)|refine sQ ?_ (Ax V V V V)|refine sQ ?_ (Av V V V V)|refine sQ ?_|refine AO ?_|refine sG (hq:=by(intro hg;(try simp only[Bool.and_eq_true,beq_iff_eq]at hg);(try simp only[hg,Bool.true_and,zaj]);exact AT.call V (IS O r (by omega) E U) V V V)) ?_|refine sG ?_|refine Bq ?_));refine Au ?_)
     refine ag _ ?_;refine nT ?_;refine rC ?_;refine Ap ⟨k+1,by omega,by omega,?_⟩;rw[u];exact BX
    ·have ae:k=(Bz x).length:=by
      have:¬k < (Bz x).length:=by simpa using F
      omega
     have j:=j ae;refine Ay ?_;refine aq _ ?_;refine nT ?_;refine rC ?_;refine Ap ⟨i+1,by omega,by omega,?_⟩;rw[am,<-j];exact Kr (.cons (j6 _))
   ·rw[G,if_neg (by simp),fP]at J;refine Al ?_;refine ap _ ?_;refine nT ?_;refine rCS ?_;refine Ad ?_;refine AH (λk:Nat=>⟨(.any::.ptr 0 0::.any::.bs tInt ((P++(Bz x).take k).foldl B7 [])::.lit (.int .i64 (b:Int))::.lit (.int .i64 (i:Int))::.any::.own 2 1::A2 (.lit (.int .i64 (k:Int))::A40 (A10 (A4 [])))),[.box (Ak f),.dead,.row 1 3 tInt (Bz x)]⟩) (λk=>k<=(Bz x).length) (λk=>(Bz x).length - k) 0 (kX _) (by rw[show P++(Bz x).take 0=P by simp,J];exact Kr (.cons (.dead (.cons (j6 _))))) ?_;intro k hk;have av:(P++(Bz x).take k).length<=2097152:=by rw[hZ,iI];omega
    have ad:Bg (P++(Bz x).take k):=λr hr=>by
     rcases iM.1 hr with hr|hr
     ·exact ao r hr
     ·exact aa r (iW hr)
    obtain⟨ac,E⟩:=FI (P++(Bz x).take k);have E:=E ad;have u:∀r,(Bz x)[k]? =lC r->(P++(Bz x).take (k+1)).foldl B7 []=B7 ((P++(Bz x).take k).foldl B7 []) r:=λr hr=>PD P hr
    have j:k=(Bz x).length->(P++(Bz x).take k).foldl B7 []=(P++Bz x).foldl B7 []:=λe=>by rw[e,jQ]
    (try dsimp only at hk);(try dsimp only)
    generalize (P++(Bz x).take k).foldl B7 []=O at ac E u j⊢;refine Ab λbe ah=>?_
    refine rCS ?_;refine Ah V (λF=>?_) (λF=>?_)
    ·have X:k < (Bz x).length:=by simpa using F
     obtain⟨r,hr⟩:∃r,(Bz x)[k]? =lC r:=⟨_,gP X⟩
     have U:=aa r (iV hr);have u:=u r hr;refine Al ?_;refine ah _ ?_;refine nT ?_;refine Ab λbc ag=>?_
     refine Ad ?_
     (refine jX ?_;(repeat(first|refine sQ ?_ (AT.call V (IS O r (by omega) E U) V V V)|refine sQ ?_ (Ax V V V V)|refine sQ ?_ (Av V V V V)|refine sQ ?_|refine AO ?_|refine sG (hq:=by(intro hg;(try simp only[Bool.and_eq_true,beq_iff_eq]at hg);(try simp only[hg,Bool.true_and,zaj]);exact AT.call V (IS O r (by omega) E U) V V V)) ?_|refine sG ?_|refine Bq ?_));refine Au ?_)
     refine ag _ ?_;refine nT ?_;refine rC ?_;refine Ap ⟨k+1,by omega,by omega,?_⟩;rw[u];exact BX
    ·have ae:k=(Bz x).length:=by
      have:¬k < (Bz x).length:=by simpa using F
      omega
     have j:=j ae;refine Ay ?_;refine aq _ ?_;refine nT ?_;refine rC ?_;refine Ap ⟨i+1,by omega,by omega,?_⟩;rw[am,<-j];exact Kr (.cons (j6 _))
  ·have aw:i=bl.ins.length:=by
    have:¬i < bl.ins.length:=by simpa using Z
    omega
   subst aw;refine Ay ?_;refine h9 _ ?_;refine nT ?_;refine rC ?_;refine Ap ⟨b+1,by omega,by omega,?_⟩;rw[ax,show(bl.ins.take bl.ins.length).flatMap Bz=NC bl by rw[jQ];rfl];exact BX
 ·have ay:b=f.blocks.length:=by
   have:¬b < f.blocks.length:=by simpa using af
   omega
  subst ay;rw[jQ];refine Ay ?_;refine h3 _ ?_;refine nT ?_;refine rCS ?_;refine Aw ?_;exact⟨.inr V,j9 V⟩
def CI(f:kE):Bool:=Jq f||decide (((AL f).length:Int) > 60)
theorem Aao(f:kE)(E:okFunc f)(u:smallF f)(F:(NE f).length<=2097152):Fn cF 7 [.agg (Ak f)] (.lit (.bool (CI f))):=by
 have j:=Aap f u;have g:=OZ f E u F;refine AQ Tryz.func7 V (by kernel_rfl) V Tryz.ntmps7 λC G=>?_
 refine nS ?_;refine rCS ?_;refine Ab λI h2=>?_
 (refine jX ?_;(repeat(first|refine sQ ?_ (AT.call V j V V V)|refine sQ ?_ (AT.call V g V V V)|refine sQ ?_ (Ax V V V V)|refine sQ ?_ (Av V V V V)|refine sQ ?_|refine AO ?_|refine sG (hq:=by(intro hg;(try simp only[Bool.and_eq_true,beq_iff_eq]at hg);(try simp only[hg,Bool.true_and,zaj]);exact AT.call V j V V V)) ?_|refine sG (hq:=by(intro hg;(try simp only[Bool.and_eq_true,beq_iff_eq]at hg);(try simp only[hg,Bool.true_and,zaj]);exact AT.call V g V V V)) ?_|refine sG ?_|refine Bq ?_));refine Au ?_)
 refine h2 _ ?_;refine nT ?_;refine Aw ?_;exact⟨.inr V,j9 V⟩
theorem PC{n:Int}:∀(l:List Int) (s:List Int×Bool),Asc (s.1++l)->(s.2=aI->∀y∈s.1,y < n)->n∉l->
 Asc (l.foldl (G3 n) s).1/\(∀y,y∈(l.foldl (G3 n) s).1↔(y∈s.1\/y∈l)\/(y=n/\(l.foldl (G3 n) s).2=aN/\s.2=aI))/\((l.foldl (G3 n) s).2=aI->∀y∈(l.foldl (G3 n) s).1,y < n)
 | [],s,E,hb,_=>by
  refine⟨by simpa using E,λy=>?_,hb⟩;simp only[List.foldl_nil,jC,or_false];constructor
  ·exact λh=>.inl h
  ·rintro(h|⟨_,h1,h2⟩)
   ·exact h
   ·rw[h1]at h2;cases h2
 |x::l,s,E,hb,O=>by
  have Y:n≠x:=λe=>O (by rw[e];exact iP ..)
  have u:n∉l:=λe=>O (iO _ e)
  unfold Asc at E;rw[jD]at E;obtain⟨U,j,Z⟩:=E;rw[jE]at j;rw[gJ];by_cases hc:(!s.2&&aO (x > n))=aN
  ·have J:s.2=aI:=by
    simp only[zat]at hc;exact hc.1
   have X:x > n:=by
    simp only[zag]at hc;exact hc.2
   have e:G3 n s x=(s.1++[n]++[x],aN):=if_pos hc;rw[e];obtain⟨I,F,G⟩:=PC l (s.1++[n]++[x],aN) (by
    unfold Asc;rw[fO,fO,jD];refine⟨U,?_,λa g b hbz=>?_⟩
    ·simp only[fQ,i8,jE];refine⟨λb hbm=>?_,j.1,j.2⟩;rcases iN.1 hbm with rfl|hbm
     ·omega
     ·have:=j.1 b hbm;omega
    ·have h1:=hb J a g;simp only[fQ,i8,iN]at hbz;rcases hbz with rfl|rfl|hbz
     ·exact h1
     ·omega
     ·have:=j.1 b hbz;omega) (λh=>by cases h) u
   have ht:(l.foldl (G3 n) (s.1++[n]++[x],aN)).2=aN:=by
    by_cases h:(l.foldl (G3 n) (s.1++[n]++[x],aN)).2=aN
    ·exact h
    ·have h:=G (by simpa using h) n ((F n).2 (.inl (.inl (by simp))));omega
   refine⟨I,λy=>?_,λh=>by rw[ht]at h;cases h⟩;rw[F,ht,J];simp only[or_false,and_true,reduceCtorEq,and_false,zaq];constructor
   ·rintro((h|h)|h)
    ·rcases h with h|h
     ·exact .inl (.inl h)
     ·exact .inr h
    ·exact .inl (.inr (.inl h))
    ·exact .inl (.inr (.inr h))
   ·rintro((h|h|h)|h)
    ·exact .inl (.inl (.inl h))
    ·exact .inl (.inr h)
    ·exact .inr h
    ·exact .inl (.inl (.inr h))
  ·have e:G3 n s x=(s.1++[x],s.2):=if_neg hc;rw[e];obtain⟨I,F,G⟩:=PC l (s.1++[x],s.2) (by
    unfold Asc;rw[fO,jD];refine⟨U,?_,λa g b hbz=>Z a g b (by simpa using hbz)⟩;simp only[fQ,i8,jE];exact j) (λh y hy=>by
    rcases iM.1 hy with hy|hy
    ·exact hb h y hy
    ·rw[i6.1 hy];have h:s.2=aI:=h;rw[h]at hc;have:¬x > n:=by simpa using hc
     omega) u
   refine⟨I,λy=>?_,G⟩;rw[F];simp only[or_false,or_assoc,zaq]
theorem Ac2(h:Asc l)(n:Int):Asc (B7 l n)/\∀y,y∈B7 l n↔y=n\/y∈l:=by
 unfold B7;split
 ·rename_i hc;have hc:=fS.1 hc;exact⟨h,λy=>⟨.inr,λhy=>by
   rcases hy with rfl|hy
   ·exact hc
   ·exact hy⟩⟩
 ·rename_i hc;have F:n∉l:=λe=>hc (fS.2 e)
  obtain⟨u,j,E⟩:=PC (n:=n) l ([],aI) (by simpa using h) (λ_ y hy=>by cases hy) F;have u:Asc (Fr n l).1:=u;have j:∀y,y∈(Fr n l).1↔(y∈([]:List Int)\/y∈l)\/(y=n/\(Fr n l).2=aN/\aI=aI):=j;have E:(Fr n l).2=aI->∀y∈(Fr n l).1,y < n:=E;simp only[jC,false_or,and_true]at j;split
  ·rename_i g;have g:(Fr n l).2=aI:=by simpa using g
   refine⟨?_,λy=>?_⟩
   ·unfold Asc;rw[jD];refine⟨u,List.pairwise_singleton ..,λa G b hb=>?_⟩;rw[i6.1 hb];exact E g a G
   ·rw[iM,j,g,i6];simp only[aJ,and_false,or_false];exact or_comm
  ·rename_i g;have g:(Fr n l).2=aN:=by simpa using g
   refine⟨u,λy=>?_⟩;rw[j,g];simp only[and_true];exact or_comm
theorem MX(l:List Int):Asc (l.foldl B7 [])/\∀y,y∈l.foldl B7 []↔y∈l:=by
 suffices h:∀(l s:List Int),Asc s->Asc (l.foldl B7 s)/\∀y,y∈l.foldl B7 s↔y∈s\/y∈l by
  obtain⟨h1,h2⟩:=h l [] fL;exact⟨h1,λy=>by rw[h2];simp⟩
 intro l;induction l with
 |nil=>exact λs g=>⟨g,λy=>by simp⟩
 |cons x l j=>
  intro s g;obtain⟨E,u⟩:=Ac2 g x;obtain⟨h1,h2⟩:=j (B7 s x) E;rw[gJ];refine⟨h1,λy=>?_⟩;rw[h2,u,iN];constructor
  ·rintro((h|h)|h)
   ·exact .inr (.inl h)
   ·exact .inl h
   ·exact .inr (.inr h)
  ·rintro(h|h|h)
   ·exact .inl (.inr h)
   ·exact .inl (.inl h)
   ·exact .inr h
theorem CO(f:kE):Asc (AL f)/\∀y,y∈AL f↔y∈NE f:=MX _
def Um(f:kE)(n:Nat):List Int:=(NV n).filter λr=>decide (r < f.args)||(AL f).contains r
def MA(f:kE):List Int:=((AL f).takeWhile λr=>decide (r < 0))++Um f 6++(AL f).filter λr=>decide (r > 5)
theorem Ak0(n:Nat):Asc (NV n):=by
 unfold NV Asc;rw[jF];exact List.pairwise_lt_range.imp λ{a b} h=>by omega
theorem Sc{n:Nat}:r∈NV n↔0<=r/\r < n:=by
 unfold NV;rw[iU];constructor
 ·rintro⟨k,hk,rfl⟩;have:=iY.1 hk;omega
 ·rintro⟨h1,h2⟩;exact⟨r.toNat,iY.2 (by omega),by omega⟩
theorem H6:∀{l:List Int},Asc l->(l.takeWhile λr=>decide (r < 0))=l.filter λr=>decide (r < 0)
 | [],_=>rfl
 |x::l,h=>by
  unfold Asc at h;rw[jE]at h;by_cases hx:x < 0
  ·rw[List.takeWhile_cons_of_pos (by simpa using hx),List.filter_cons_of_pos (by simpa using hx),H6 h.2]
  ·rw[List.takeWhile_cons_of_neg (by simpa using hx),List.filter_cons_of_neg (by simpa using hx)];refine(gB.2 λy g=>?_).symm;have:=h.1 y g;simp;omega
theorem Hd(f:kE):MA f=regsB f:=by
 obtain⟨j,G⟩:=CO f;have hk:=GG f;have F:=hk.1;refine GW ?_ (Jd f) λy=>?_
 ·unfold MA Asc;rw[H6 j,jD,jD];refine⟨⟨j.filter _,(Ak0 6).filter _,λa ha b hb=>?_⟩,j.filter _,λa ha b hb=>?_⟩
  ·have h1:=(iR.1 ha).2;have h2:=Sc.1 (iR.1 hb).1;have h1:a < 0:=by simpa using h1
   omega
  ·have h2:=(iR.1 hb).2;have h2:b > 5:=by simpa using h2
   rcases iM.1 ha with ha|ha
   ·have h1:=(iR.1 ha).2;have h1:a < 0:=by simpa using h1
    omega
   ·have h1:=Sc.1 (iR.1 ha).1;omega
 ·unfold MA;rw[H6 j,Jc];unfold Acr Um;simp only[iM,iR,Sc,G,decide_eq_true_eq,aM,fS];have g:(argsK f:Int)=Aih f:=F.symm;unfold Aih at g;constructor
  ·rintro((⟨h,_⟩|⟨⟨h1,h2⟩,h|h⟩)|⟨h,_⟩)
   ·exact .inr h
   ·left;refine⟨h1,?_⟩;rw[g];split <;> split <;> omega
   ·exact .inr h
   ·exact .inr h
  ·rintro(⟨h1,h2⟩|h)
   ·left;right;rw[g]at h2;refine⟨⟨h1,?_⟩,.inl ?_⟩
    ·split at h2 <;> split at h2 <;> omega
    ·split at h2 <;> split at h2 <;> omega
   ·by_cases E:y < 0
    ·exact .inl (.inl ⟨h,E⟩)
    ·by_cases u:y > 5
     ·exact .inr ⟨h,u⟩
     ·exact .inl (.inr ⟨⟨by omega,by omega⟩,.inr h⟩)
def YT(f:kE):List Int:=((stepsL f).flatMap Fx).foldl B7 []
theorem Abf(f:kE):YT f=B9 f:=by
 obtain⟨E,g⟩:=MX ((stepsL f).flatMap Fx);refine GW E (Rn f) λy=>?_
 have u:F7 f (stepsL f).length y=aN↔y∈(stepsL f).flatMap Fx:=by
  unfold F7 addL;rw[jQ];simp only[aK,fS]
 unfold B9;rw[iR,u];constructor
 ·intro h;have h:=(g y).1 h;refine⟨?_,h⟩;obtain⟨q,hq,j⟩:=iS.1 h;exact J4 (Db hq).2.1 y j
 ·rintro⟨_,h⟩;exact(g y).2 h
def F6(x:Ins)(r:Int):Bool:=x.op ==7||(x.op ==5&&r !=x.d)
theorem Ahy(q:Ins×List Int):Fx q=q.2.filter (F6 q.1):=by
 unfold Fx F6;split
 ·rename_i h;simp only[aG,bne_iff_ne,ne_eq]at h;refine(gB.2 λr _=>?_).symm;simp[h.1,h.2]
 ·rename_i h;refine List.filter_congr λr _=>?_
  by_cases j:q.1.op=7
  ·simp[j]
  ·have g:q.1.op=5:=by
    simp only[aG,bne_iff_ne,ne_eq,not_and,Decidable.not_not]at h;by_cases g:q.1.op=5
    ·exact g
    ·exact absurd (h g) j
   simp[j,g]
def Ik:List Int:=Aga++Agq
theorem C4(g:List Int)(r:Int)(leaf:Bool):Br g r leaf=if leaf then WT else if g.contains r then Ik else WT++Ik:=by
 unfold Br;cases leaf
 ·cases g.contains r <;> rfl
 ·rfl
def Akj(f:kE)(b:Nat):List Int:=((jH b).flatMap (EF f)).flatMap Fx
def Ajd(f:kE)(b i:Nat):List Int:=Akj f b++((EF f b).take i).flatMap Fx
theorem Apn(f:kE)(hb:b<=f.blocks.length):∀y∈Akj f b,y∈BA f:=λy g=>by
 obtain⟨q,hq,g⟩:=iS.1 g;obtain⟨c,hc,hq⟩:=iS.1 hq;have hc:=iY.1 hc;exact J4 (Db (iS.2 ⟨c,iY.2 (by omega),hq⟩)).2.1 y g
theorem Apm(f:kE)(hb:b < f.blocks.length):∀y∈Ajd f b i,y∈BA f:=λy hy=>by
 rcases iM.1 hy with hy|hy
 ·exact Apn f (by omega) y hy
 ·obtain⟨q,hq,hy⟩:=iS.1 hy;exact J4 (Db (iS.2 ⟨b,iY.2 hb,iW hq⟩)).2.1 y hy
theorem Afe(f:kE)(b:Nat):Akj f (b+1)=Ajd f b (EF f b).length:=by
 unfold Ajd Akj;rw[jQ,jI,gF,gF];simp
theorem Afc(h:(EF f b)[i]? =lC q):Ajd f b (i+1)=Ajd f b i++q.2.filter (F6 q.1):=by
 unfold Ajd;rw[Dv h,<-fO,Ahy]
theorem Afb(f:kE)(b:Nat):Ajd f b 0=Akj f b:=by unfold Ajd;simp
theorem Afd(f:kE):Akj f 0= []:=rfl
theorem Aki(f:kE):Akj f f.blocks.length=(stepsL f).flatMap Fx:=rfl
theorem Ag9{m:List Int}(h:∀y∈l,y∈m):(l.foldl B7 []).length<=m.length/\(Bg m->Bg (l.foldl B7 [])):=by
 obtain⟨E,g⟩:=MX l;exact⟨Dl E.nodup λx hx=>h x ((g x).1 hx),λu r j=>u r (h r ((g r).1 j))⟩
theorem WS(P:List Int)(r:Int):(P++[r]).foldl B7 []=B7 (P.foldl B7 []) r:=by rw[gI];rfl
theorem Abe(f:kE)(ho:okFunc f)(hs:smallF f)(hT:(Cg f).length<=2097152)(bh:∀b∈f.blocks,b.ins.length+1<=2097152):Fn cF 105 [.agg (Ak f)] (.bs tInt (B9 f)):=by
 have bi:=hs.blocks;have aw:(BA f).length<=2097152:=kS (Dr _) hT;have aj:Bg (BA f):=λx hx=>by
  obtain⟨b,h1,y,h2,h3⟩:=Jb.1 hx;exact FV ((ho.blocks b h1).ins y h2) x h3
 rw[<-Abf];refine AQ Tryz.func105 V (by kernel_rfl) V Tryz.ntmps105 λC hC=>?_
 refine nS ?_;refine rCS ?_;refine Ab λK2 h2=>?_
 (refine jX ?_;(repeat(first|refine sQ ?_ (AT.call V (Y6 f ho hs hT) V V V)|refine sQ ?_ (Ax V V V V)|refine sQ ?_ (Av V V V V)|refine sQ ?_|refine AO ?_|refine sG ?_|refine Bq ?_));refine Au ?_)
 refine h2 _ ?_;refine nT ?_;refine rCS ?_;refine Ab λK4 h4=>?_
 refine rCS ?_;refine Ad ?_;refine AH (λb:Nat=>⟨(.any::.ptr 0 0::.any::.bs tInt.slice.slice (PY f)::.bs tInt ((Akj f b).foldl B7 [])::.lit (.int .i64 (b:Int))::A40 (A20 (A10 [.any]))),[.box (Ak f)]⟩) (λb=>b<=f.blocks.length) (λb=>f.blocks.length - b) 0 (kX _) (by rw[Afd f];exact(P6 4 tInt V).trans (BX)) ?_;intro b hb;refine Ab λK7 h7=>?_
 refine rCS ?_;refine Ah V (λae=>?_) (λae=>?_)
 ·have G:b < f.blocks.length:=by simpa using ae
  obtain⟨bl,ab⟩:∃bl,f.blocks[b]? =lC bl:=⟨_,gP G⟩
  have Z:=iV ab;have ap:=ho.blocks bl Z;have an:=hs.all bl Z;have bg:=an.ins;have I:Cn f b=bl.ins:=by unfold Cn;rw[ab]
  have bj:(PY f)[b]? =lC (Ca f b):=by unfold PY;rw[gT,gU G];rfl
  have am:(EF f b).length=bl.ins.length:=by rw[QT,I]
  have ag:=Afe f b;rw[am]at ag;refine Al ?_;refine h7 _ ?_;refine nT ?_;refine Ab λbr bb=>?_
  refine Ad ?_;refine rCS ?_;refine Ad ?_;refine AH (λi:Nat=>⟨(.any::.ptr 0 0::.any::.bs tInt.slice.slice (PY f)::.bs tInt ((Ajd f b i).foldl B7 [])::.lit (.int .i64 (b:Int))::.lit (.int .i64 (i:Int))::A40 (A20 (A10 []))),[.box (Ak f)]⟩) (λi=>i<=bl.ins.length) (λi=>bl.ins.length - i) 0 (kX _) (by rw[Afb f b];exact BX) ?_;intro i hi;refine Ab λbq ba=>?_
  refine rCS ?_;refine Ah V (λX=>?_) (λX=>?_)
  ·have ai:i < bl.ins.length:=by simpa using X
   obtain⟨x,hx⟩:∃x,bl.ins[i]? =lC x:=⟨_,gP ai⟩
   have al:=iV hx;have be:=ap.ins x al;obtain⟨g,aa⟩:∃g,(Ca f b)[i+1]? =lC g:=⟨_,gP (by rw[M6,I];omega)⟩
   have bf:(Ca f b)[((i:Int)+1).toNat]? =lC g:=by rw[show((i:Int)+1).toNat=i+1 by omega];exact aa
   have ac:=Tm (f:=f) (b:=b) (i:=i) (x:=x) (by rw[I];exact hx) aa;have ad:=Afc ac;have u:=Apm f (i:=i+1) G;rw[ad]at u;have bc:g.length<=2097152:=by
    have:=(Db (iS.2 ⟨b,iY.2 G,iV ac⟩)).2.2;exact kS this aw
   generalize Ajd f b i=P at ad u⊢;refine Al ?_;refine ba _ ?_;refine nT ?_;refine Ab λbo az=>?_
   refine Ad ?_;refine rCS ?_;refine rCS ?_;refine rCS ?_;refine Ad ?_;refine AH (λk:Nat=>⟨(.any::.ptr 0 0::.any::.bs tInt.slice.slice (PY f)::.bs tInt ((P++(g.take k).filter (F6 x)).foldl B7 [])::.lit (.int .i64 (b:Int))::.lit (.int .i64 (i:Int))::.ptr 1 0::.bs tInt g::.lit (.int .i64 (k:Int))::A40 (A20 (A7 []))),[.box (Ak f),.box (BZ x)]⟩) (λk=>k<=g.length) (λk=>g.length - k) 0 (kX _) (by rw[show P++(g.take 0).filter (F6 x)=P by simp];exact Kr (.cons (.cons (j6 _)))) ?_;intro k hk;have af:∀y∈P++(g.take k).filter (F6 x),y∈BA f:=λy hy=>by
    rcases iM.1 hy with hy|hy
    ·exact u y (List.mem_append_left _ hy)
    ·refine u y (List.mem_append_right _ (iR.2 ⟨iW (iR.1 hy).1,(iR.1 hy).2⟩))
   obtain⟨aq,Y⟩:=Ag9 af;have Y:=Y aj;have j:∀r,g[k]? =lC r->F6 x r=aN->(P++(g.take (k+1)).filter (F6 x)).foldl B7 []=B7 ((P++(g.take k).filter (F6 x)).foldl B7 []) r:=λr hr hq=>by
    rw[D5 hr,hq,if_pos V,<-fO,WS]
   have F:∀r,g[k]? =lC r->F6 x r=aI->(P++(g.take (k+1)).filter (F6 x)).foldl B7 []=(P++(g.take k).filter (F6 x)).foldl B7 []:=λr hr hq=>by
    rw[D5 hr,hq,if_neg (by simp),fP]
   have E:k=g.length->(P++g.filter (F6 x)).foldl B7 []=(P++(g.take k).filter (F6 x)).foldl B7 []:=λe=>by rw[e,jQ]
   (try dsimp only at hk);(try dsimp only)
   generalize (P++(g.take k).filter (F6 x)).foldl B7 []=O at aq Y j F E⊢;refine Ab λbn ay=>?_
   refine rCS ?_;refine Ah V (λU=>?_) (λU=>?_)
   ·have ah:k < g.length:=by simpa using U
    obtain⟨r,hr⟩:∃r,g[k]? =lC r:=⟨_,gP ah⟩
    have j:=j r hr;have F:=F r hr;have ao:wfI .i64 r:=aj r (by
     have:=(Db (iS.2 ⟨b,iY.2 G,iV ac⟩)).2.1;exact this r (iV hr))
    refine Al ?_;refine ay _ ?_;refine nT ?_;refine Ab λbm ak=>?_
    refine Ad ?_;refine Ab λbk ax=>?_
    (refine NY 17 (hh:=?_);(repeat(first|refine qQ ?_ (Ax V V V V)|refine qQ ?_ (Av V V V V)|refine qQ ?_|refine Hf ?_|refine qG ?_));refine Fh ?_;(repeat(first|refine sQ ?_ (Ax V V V V)|refine sQ ?_ (Av V V V V)|refine sQ ?_|refine AO ?_|refine sG ?_|refine Bq ?_));refine Au ?_)
    refine ax _ ?_;refine nT ?_;refine Ah V (λJ=>?_) (λJ=>?_)
    ·have j:=j J
     (refine jX ?_;(repeat(first|refine sQ ?_ (AT.call V (IS O r (by omega) Y ao) V V V)|refine sQ ?_ (Ax V V V V)|refine sQ ?_ (Av V V V V)|refine sQ ?_|refine AO ?_|refine sG ?_|refine Bq ?_));refine Au ?_)
     refine ak _ ?_;refine nT ?_;refine rC ?_;refine Ap ⟨k+1,by omega,by omega,?_⟩;rw[j];exact BX
    ·have F:=F J;refine Al ?_;refine ak _ ?_;refine nT ?_;refine rC ?_;refine Ap ⟨k+1,by omega,by omega,?_⟩;rw[F];exact BX
   ·have ar:k=g.length:=by have:¬k < g.length:=(by simpa using U);omega
    have E:=E ar;refine Ay ?_;refine az _ ?_;refine nT ?_;refine rC ?_;refine Ap ⟨i+1,by omega,by omega,?_⟩;rw[ad,E];exact Kr (.cons (j6 _))
  ·have au:i=bl.ins.length:=by have:¬i < bl.ins.length:=(by simpa using X);omega
   refine Ay ?_;refine bb _ ?_;refine nT ?_;refine rC ?_;refine Ap ⟨b+1,by omega,by omega,?_⟩;rw[ag,<-au];exact BX
 ·have av:b=f.blocks.length:=by have:¬b < f.blocks.length:=(by simpa using ae);omega
  have e9:YT f=(Akj f b).foldl B7 []:=by rw[av,Aki];rfl
  refine Ay ?_;refine h4 _ ?_;refine nT ?_;refine rCS ?_;refine Aw ?_;rw[e9];exact⟨.inr V,j9 V⟩
def ltP(x y:Pair):Prop:=x.a < y.a\/(x.a=y.a/\x.b < y.b)
theorem Sh(x:Pair):¬ltP x x:=λh=>by rcases h with h|h <;> omega
theorem Anr{z:Pair}(h1:ltP x y)(h2:ltP y z):ltP x z:=by unfold ltP at *;omega
theorem Af5(h1:ltP x y):¬ltP y x:=λh2=>Sh x (Anr h1 h2)
abbrev Aoz(l:List Pair):Prop:=l.Pairwise ltP
theorem Y5:∀{l m:List Pair},Aoz l->Aoz m->(∀x,x∈l↔x∈m)->l=m
 | [],[],_,_,_=>rfl
 | [],y::m,_,_,h=>by have:=(h y).2 (by simp);cases this
 |x::l,[],_,_,h=>by have:=(h x).1 (by simp);cases this
 |x::l,y::m,u,j,h=>by
  have u:=jE.1 u;have j:=jE.1 j;have e:x=y:=by
   rcases iN.1 ((h x).1 (by simp))with e|e
   ·exact e
   ·rcases iN.1 ((h y).2 (by simp))with e2|e2
    ·exact e2.symm
    ·exact absurd (u.1 y e2) (Af5 (j.1 x e))
  subst e;refine congrArg _ (Y5 u.2 j.2 λz=>⟨λg=>?_,λg=>?_⟩)
  ·rcases iN.1 ((h z).1 (by simp[g]))with e|e
   ·subst e;exact absurd (u.1 _ g) (Sh _)
   ·exact e
  ·rcases iN.1 ((h z).2 (by simp[g]))with e|e
   ·subst e;exact absurd (j.1 _ g) (Sh _)
   ·exact e
theorem D9:∀{R:List Int} {x:Pair},Asc R->(x∈Fq R↔x.a∈R/\x.b∈R/\x.a < x.b)
 | [],x,_=>by simp[Fq]
 |a::R,x,h=>by
  have h:=jE.1 h;unfold Fq;rw[iM,D9 h.2,iU];constructor
  ·rintro(⟨b,hb,rfl⟩|⟨h1,h2,g⟩)
   ·exact⟨by simp,by simp[hb],h.1 b hb⟩
   ·exact⟨by simp[h1],by simp[h2],g⟩
  ·rintro⟨h1,h2,g⟩;rcases iN.1 h1 with e|e
   ·rcases iN.1 h2 with e2|e2
    ·omega
    ·exact .inl ⟨x.b,e2,by rw[<-e]⟩
   ·rcases iN.1 h2 with e2|e2
    ·have:=h.1 x.a e;omega
    ·exact .inr ⟨e,e2,g⟩
theorem O8:∀{R:List Int},Asc R->Aoz (Fq R)
 | [],_=>fL
 |a::R,h=>by
  have h:=jE.1 h;unfold Fq;refine jD.2 ⟨jF.2 (h.2.imp λh=>.inr ⟨rfl,h⟩),O8 h.2,λx hx y g=>?_⟩;obtain⟨b,hb,rfl⟩:=iU.1 hx;exact .inl (h.1 _ ((D9 h.2).1 g).1)
theorem Ie:∀(R:List Int),(Fq R).length<=R.length * R.length
 | []=>kR _
 |a::R=>by
  unfold Fq;rw[hZ,iD,iA];have:=Ie R;have e:(R.length+1) *(R.length+1)=R.length * R.length+2 * R.length+1:=by rw[kO,Nat.mul_add];omega
  omega
def EO(S:Pair->Bool)(l:List Pair):Pair->Bool:=λx=>S x||l.contains x
theorem Dx(S:Pair->Bool):EO S []=S:=by funext x;simp[EO]
theorem Fg(S:Pair->Bool)(l m:List Pair):EO S (l++m)=EO (EO S l) m:=by
 funext x;simp only[EO,fR,iM,aH,aL]
theorem Aio(S:Pair->Bool)(q:Pair):EO S [q]=Amt S q:=by
 funext x;simp only[EO,Amt,fR,iN,jC,or_false]
theorem PZ{l:List Pair}:EO S l x=aN↔S x=aN\/x∈l:=by
 simp only[EO,aM,fS]
def Dk(a b:Int):List Pair:=if a=b then []else [⟨min a b,max a b⟩]
def InP(R:List Int)(S:Pair->Bool):Prop:=∀x,S x=aN->x.a∈R/\x.b∈R/\x.a < x.b
theorem Y9(R:List Int):InP R λ_=>aI:=λ_ h=>by cases h
theorem T3{b:Int}(g:a∈R)(hb:b∈R):∀x∈Dk a b,x.a∈R/\x.b∈R/\x.a < x.b:=λx hx=>by
 unfold Dk at hx;split at hx
 ·cases hx
 ·simp only[or_false,zak]at hx;subst hx;try dsimp only
  rcases Int.lt_or_lt_of_ne (by assumption)with h|h
  ·rw[Int.min_eq_left (by omega),Int.max_eq_right (by omega)];exact⟨g,hb,h⟩
  ·rw[Int.min_eq_right (by omega),Int.max_eq_left (by omega)];exact⟨hb,g,h⟩
theorem InP.addL{l:List Pair}(h:InP R S)(g:∀x∈l,x.a∈R/\x.b∈R/\x.a < x.b):InP R (EO S l):=λx hx=>by
 rcases PZ.1 hx with hx|hx
 ·exact h x hx
 ·exact g x hx
def Ec(R:List Int)(S:Pair->Bool):List Pair:=(Fq R).filter S
theorem WF(g:Asc R)(h:InP R S):x∈Ec R S↔S x=aN:=by
 unfold Ec;rw[iR,D9 g];exact⟨λh=>h.2,λhx=>⟨h x hx,hx⟩⟩
theorem PW(g:Asc R):Aoz (Ec R S):=(O8 g).filter S
def M0(q:Ins×List Int)(r:Int):Bool:=Bd q.1&&(q.1.op !=2||r !=q.1.a)
def WW(q:Ins×List Int):List Pair:=(q.2.filter (M0 q)).flatMap (Dk q.1.d)
def Hs(f:kE)(k:Nat):Pair->Bool:=EO (λ_=>aI) (((stepsL f).take k).flatMap WW)
def edgeF(l:List Int):List Pair:=(jH l.length).flatMap λi=>(l.take i).flatMap (Dk (l[i]?.getD 0))
def CZ(f:kE):List Int:=if f.blocks.length=0 then []else((Ca f 0)[0]?).getD []
def Hq(f:kE):Pair->Bool:=EO (Hs f (stepsL f).length) (edgeF (CZ f))
def CE(f:kE):List Pair:=Ec (AL f) (Hq f)
def mvA(q:Ins×List Int):List Pair:=if q.1.op=2 then Dk q.1.d q.1.a else []
def mvK(f:kE)(k:Nat):Pair->Bool:=EO (λ_=>aI) (((stepsL f).take k).flatMap mvA)
def mvL(f:kE):List Pair:=Ec (AL f) (mvK f (stepsL f).length)
theorem Rl(h:(stepsL f)[k]? =lC q):Hs f (k+1)=EO (Hs f k) (WW q):=by
 unfold Hs;rw[jO,h,lF,gF,Fg];simp
theorem Aa4(f:kE):Hs f 0=λ_=>aI:=by
 unfold Hs;rw[jT,gH,Dx]
theorem Po(h:(stepsL f)[k]? =lC q):mvK f (k+1)=EO (mvK f k) (mvA q):=by
 unfold mvK;rw[jO,h,lF,gF,Fg];simp
theorem WE(f:kE):mvK f 0=λ_=>aI:=by
 unfold mvK;rw[jT,gH,Dx]
def IM(S:Pair->Bool)(q:Ins×List Int)(i:Nat):Pair->Bool:=EO S (((q.2.take i).filter (M0 q)).flatMap (Dk q.1.d))
theorem Aa5(S:Pair->Bool)(q:Ins×List Int):IM S q 0=S:=by
 unfold IM;rw[jT,gC,gH,Dx]
theorem Ahr(h:q.2[i]? =lC r)(hq:M0 q r=aN):IM S q (i+1)=EO (IM S q i) (Dk q.1.d r):=by
 unfold IM;rw[jO,h,lF,fY,fZ,hq,gC,gF,Fg];simp
theorem Al2(h:q.2[i]? =lC r)(hq:M0 q r=aI):IM S q (i+1)=IM S q i:=by
 unfold IM;rw[jO,h,lF,fY,fZ,hq,gC];simp
theorem UW(S:Pair->Bool)(q:Ins×List Int):IM S q q.2.length=EO S (WW q):=by
 unfold IM WW;rw[jQ]
def Me(S:Pair->Bool)(l:List Int)(i k:Nat):Pair->Bool:=EO (EO S ((jH i).flatMap λj=>(l.take j).flatMap (Dk (l[j]?.getD 0)))) ((l.take k).flatMap (Dk (l[i]?.getD 0)))
theorem Aa6(S:Pair->Bool)(l:List Int):Me S l 0 0=S:=by
 unfold Me;rw[List.range_zero,gH,jT,gH,Dx,Dx]
theorem Aa7{b:Int}(g:l[i]? =lC a)(hb:l[k]? =lC b):Me S l i (k+1)=EO (Me S l i k) (Dk a b):=by
 unfold Me;rw[jO,hb,g,lF,gF,Fg];simp
theorem Aa8(S:Pair->Bool)(l:List Int)(i:Nat):Me S l i i=Me S l (i+1) 0:=by
 unfold Me;rw[jI,gF,jT,gH,Dx,Fg];simp
theorem UX(S:Pair->Bool)(l:List Int):Me S l l.length 0=EO S (edgeF l):=by
 unfold Me edgeF;rw[jT,gH,Dx]
theorem MM:r∈AL f↔∃b∈f.blocks,∃x∈b.ins,r∈Bz x:=by
 rw[(CO f).2];unfold NE NC;simp only[iS]
theorem OY(h:r∈BA f):r∈AL f:=by
 obtain⟨b,hb,x,hx,g⟩:=Jb.1 h;exact MM.2 ⟨b,hb,x,hx,iM.2 (.inl g)⟩
theorem Lt(h:q∈stepsL f):(∃b∈f.blocks,q.1∈b.ins)/\∀r∈q.2,r∈AL f:=
 ⟨(Db h).1,λr g=>OY ((Db h).2.1 r g)⟩
theorem Oa(h:q∈stepsL f)(g:Bd q.1=aN):q.1.d∈AL f:=by
 obtain⟨b,hb,hx⟩:=(Lt h).1;exact MM.2 ⟨b,hb,q.1,hx,iM.2 (.inr (by rw[g];simp))⟩
theorem MK{x:Ins}(h:x.op=2):Bd x=aN/\x.a∈readsC x:=by
 unfold Bd readsC;rw[h];exact⟨by rfl,iM.2 (.inl (iM.2 (.inl (by rw[if_pos (by rfl)];simp))))⟩
theorem X6(h:q∈stepsL f)(g:q.1.op=2):q.1.a∈AL f:=by
 obtain⟨b,hb,hx⟩:=(Lt h).1;exact MM.2 ⟨b,hb,q.1,hx,iM.2 (.inl (MK g).2)⟩
theorem Ip(u:a∈R)(j:∀r∈l,r∈R):∀x∈l.flatMap (Dk a),x.a∈R/\x.b∈R/\x.a < x.b:=λx hx=>by
 obtain⟨r,g,hx⟩:=iS.1 hx;exact T3 u (j r g) x hx
theorem YQ(j:InP (AL f) S)(h:q∈stepsL f)(i:Nat):InP (AL f) (IM S q i):=by
 unfold IM;by_cases g:Bd q.1=aN
 ·exact j.addL (Ip (Oa h g) λr u=>(Lt h).2 r (iW (iR.1 u).1))
 ·rw[show(q.2.take i).filter (M0 q)= []from gB.2 λr _=>by unfold M0;simp[g],gH,Dx];exact j
theorem Md(f:kE):∀k,InP (AL f) (Hs f k)
 |0=>by rw[Aa4];exact Y9 _
 |k+1=>by
  by_cases hk:k < (stepsL f).length
  ·have hq:=gP hk;rw[Rl hq,<-UW];exact YQ (Md f k) (iV hq) _
  ·have:Hs f (k+1)=Hs f k:=by
    unfold Hs;rw[jR (by omega),jR (by omega)]
   rw[this];exact Md f k
theorem UO(f:kE):∀r∈CZ f,r∈AL f:=λr g=>by
 unfold CZ at g;split at g
 ·cases g
 ·unfold Ca at g;cases h:((jH ((Cn f 0).length+1)).map (Dj f (BA f) 0))[0]? with
  |none=>rw[h]at g;cases g
  |some l=>
   rw[h]at g;obtain⟨i,_,e⟩:=iU.1 (iV h);rw[<-e]at g;exact OY (iR.1 g).1
theorem YR(F:InP R S)(E:∀r∈l,r∈R)(hi:i<=l.length)(hik:k=0\/i < l.length):InP R (Me S l i k):=by
 have hg:∀j,j < l.length->(l[j]?.getD 0)∈R:=λj g=>by
  rw[gP g];exact E _ (g8 g)
 unfold Me;refine InP.addL (InP.addL F λx hx=>?_) ?_
 ·obtain⟨j,g,hx⟩:=iS.1 hx;exact Ip (hg j (by have:=iY.1 g;omega)) (λr u=>E r (iW u)) x hx
 ·rcases hik with rfl|hik
  ·intro x hx;simp at hx
  ·exact Ip (hg i hik) λr u=>E r (iW u)
theorem Ahp(f:kE):InP (AL f) (Hq f):=by
 unfold Hq;rw[<-UX];exact YR (Md f _) (UO f) (kR _) (.inl V)
theorem LV(f:kE):∀k,InP (AL f) (mvK f k)
 |0=>by rw[WE];exact Y9 _
 |k+1=>by
  by_cases hk:k < (stepsL f).length
  ·have hq:=gP hk;have g:=iV hq;rw[Po hq];refine(LV f k).addL λx hx=>?_
   unfold mvA at hx;split at hx
   ·rename_i h2;exact T3 (Oa g (MK h2).1) (X6 g h2) x hx
   ·cases hx
  ·have:mvK f (k+1)=mvK f k:=by
    unfold mvK;rw[jR (by omega),jR (by omega)]
   rw[this];exact LV f k
open Go.Maps
def O7(p:Pair->Bool)(a:Int)(b:Int):M (Pair->Bool):=M.cnd (!(((if b < a then b else a) ==(if b > a then b else a))&&(((if b > a then b else a) ==(if b < a then b else a))&&aN))) (M.chk (R7 ⟨(if b < a then b else a),(if b > a then b else a)⟩) (M.ok (Amt p ⟨(if b < a then b else a),(if b > a then b else a)⟩))) (M.ok p)
theorem Wt{p:Pair->Bool}{a:Int}{b:Int}{m:Nat}{r:Pair->Bool}{L:List Pair}(u:∀x,okPair x->p x=aN->x∈L)(j:L.length < fE)(H:(O7 p a b).to r):DO cF 89 (DV p m) [.lit (.map (lC m)),.lit (.int .i64 a),.lit (.int .i64 b)] (λ_:Unit=>DV r m) (λ_=>.tuple #[]):=by
 delta O7 at H;try dsimp only at H
 refine D3 Tryz.func89 V (by kernel_rfl) V Tryz.ntmps89 V (λ_ _ _ _ h=>h) λC=>?_
 simp only[Nat.reduceAdd,Nat.reduceSub,zaa];refine wS (sT (sT ?_));refine sA ?_ (AT.min2 V GP (Ao IP)) (Aq IK);refine sT (sT ?_);refine sA ?_ (AT.max2 V (Ao Fm) (Ao Fw)) (Aq I5);refine sA ?_ (BT (rs:=[.lit (.int .i64 (if b < a then b else a)),.lit (.int .i64 (if b > a then b else a))]) V Ann V V) (Aq GK);refine sA0 ?_;refine sW ?_;refine wN ?_;refine wS (sT (sT (sT (sT (sT ?_)))));refine sA ?_ (BT (rs:=[.lit (.int .i64 (if b > a then b else a)),.lit (.int .i64 (if b < a then b else a))]) V Ann V V) (Aq (Aq IF));refine sA ?_ (Xz (bs:=[aN,aN]) (vs:=[(.int .i64 (if b < a then b else a)),(.int .i64 (if b > a then b else a))]) (ws:=[(.int .i64 (if b > a then b else a)),(.int .i64 (if b < a then b else a))]) (by kernel_rfl) V (Ao HW) (Ao (Ao Fw)) V) (Aq (Aq I5));refine wN ?_;refine Ah V (λg=>?_) (λg=>?_)
 ·have H:=AI g H;obtain⟨E,H⟩:=Aj.1 H;refine wSE (sT (sT ?_));(refine AF V (Am6 (q:=⟨(if b < a then b else a),(if b > a then b else a)⟩) 0 V dA V V V V u j (Z1 E) ?_);refine DU ?_ Qx);refine wN ?_;repeat(first|refine abN ?_|refine asN ?_)
  obtain rfl:=Ac.1 H;exact⟨.inl V,(),rfl,rfl⟩
 ·have H:=AJ g H;refine Al ?_;repeat(first|refine abN ?_|refine asN ?_)
  obtain rfl:=Ac.1 H;exact⟨.inl V,(),rfl,rfl⟩
end Mu
section
namespace Go.Proofs
open Go.Shelf
def Tryz.sortP_ren:eL:=⟨fun|6=>133|15=>99|14=>157|28=>126|29=>127|20=>168|21=>169|22=>170|23=>171|24=>172|25=>173|26=>174|27=>175|46=>183|47=>146|48=>147|49=>184|50=>185|57=>191|n=>n,fun|22=>38|24=>41|25=>137|3=>3|39=>104|0=>0|53=>45|55=>151|4=>4|46=>144|45=>143|50=>68|5=>5|9=>9|66=>166|70=>170|76=>185|77=>186|n=>n,fun|n=>n⟩
theorem Tryz.sortP:Go.Proofs.SlLaysF0.n6 cF Tryz.sortP_ren:={
 mixed:=by kernel_rfl
 f6:=⟨Tryz.f133.name,by decide,Tryz.func133.trans (congrArg lC (by kernel_rfl))⟩
 f14:=⟨Tryz.f157.name,by decide,Tryz.func157.trans (congrArg lC (by kernel_rfl))⟩
 f15:=bN.trans (congrArg lC (by kernel_rfl))
 f20:=⟨Tryz.f168.name,by decide,Tryz.func168.trans (congrArg lC (by kernel_rfl))⟩
 f21:=⟨Tryz.f169.name,by decide,Tryz.func169.trans (congrArg lC (by kernel_rfl))⟩
 f22:=⟨Tryz.f170.name,by decide,Tryz.func170.trans (congrArg lC (by kernel_rfl))⟩
 f23:=⟨Tryz.f171.name,by decide,Tryz.func171.trans (congrArg lC (by kernel_rfl))⟩
 f24:=⟨Tryz.f172.name,by decide,Tryz.func172.trans (congrArg lC (by kernel_rfl))⟩
 f25:=⟨Tryz.f173.name,by decide,Tryz.func173.trans (congrArg lC (by kernel_rfl))⟩
 f26:=⟨Tryz.f174.name,by decide,Tryz.func174.trans (congrArg lC (by kernel_rfl))⟩
 f27:=⟨Tryz.f175.name,by decide,Tryz.func175.trans (congrArg lC (by kernel_rfl))⟩
 f28:=bH.trans (congrArg lC (by kernel_rfl))
 f29:=bI.trans (congrArg lC (by kernel_rfl))
 f46:=⟨Tryz.f183.name,by decide,Tryz.func183.trans (congrArg lC (by kernel_rfl))⟩
 f47:=bK.trans (congrArg lC (by kernel_rfl))
 f48:=bL.trans (congrArg lC (by kernel_rfl))
 f49:=⟨Tryz.f184.name,by decide,Tryz.func184.trans (congrArg lC (by kernel_rfl))⟩
 f50:=⟨Tryz.f185.name,by decide,Tryz.func185.trans (congrArg lC (by kernel_rfl))⟩
 f57:=⟨Tryz.f191.name,by decide,Tryz.func191.trans (congrArg lC (by kernel_rfl))⟩
 t0:=cY
 a0:=bO
 z0:=cG
 v0:=dR
 t3:=dJ
 a3:=bZ
 z3:=cR
 v3:=eC
 t4:=dK
 a4:=b9
 z4:=cT
 v4:=eD
 t5:=dN
 a5:=cB
 z5:=cV
 v5:=eF
 t9:=dQ
 a9:=cD
 z9:=cX
 v9:=eH
 t22:=Tryz.underlying38
 a22:=Tryz.isAgg38
 z22:=Tryz.sizeOf38
 v22:=Tryz.zeroValue38
 t25:=Tryz.underlying137
 a25:=Tryz.isAgg137
 z25:=Tryz.sizeOf137
 v25:=Tryz.zeroValue137
 t39:=cZ
 a39:=bP
 z39:=cH
 v39:=dT
 t45:=dB
 a45:=bR
 z45:=cI
 v45:=dU
 t46:=dC
 a46:=bS
 z46:=cJ
 v46:=dV
 t50:=dP
 a50:=cC
 z50:=cW
 v50:=eG
 t53:=dM
 a53:=cA
 z53:=cU
 v53:=eE
 t55:=dD
 a55:=bT
 z55:=cL
 v55:=dW
 t66:=dE
 a66:=bU
 z66:=cM
 v66:=dX
 t70:=dF
 a70:=bV
 z70:=cN
 v70:=dY
 t76:=dG
 a76:=bW
 z76:=cO
 v76:=dZ
 t77:=dH
 a77:=bX
 z77:=cP
 v77:=eA}
def Tryz.cmpIntP_ren:eL:=⟨fun|5=>87|7=>107|n=>n,fun|22=>3|3=>3|4=>4|n=>n,fun|n=>n⟩
theorem Tryz.cmpIntP:Go.Proofs.SlLaysC2.n5 cF Tryz.cmpIntP_ren:={
 mixed:=by kernel_rfl
 f5:=⟨Tryz.f87.name,by decide,Tryz.func87.trans (congrArg lC (by kernel_rfl))⟩
 f7:=⟨Tryz.f107.name,by decide,bF.trans (congrArg lC (by kernel_rfl))⟩
 t3:=dJ
 a3:=bZ
 z3:=cR
 v3:=eC
 t4:=dK
 a4:=b9
 z4:=cT
 v4:=eD
 t22:=dJ
 a22:=bZ
 z22:=cR
 v22:=eC}
end Go.Proofs
end
namespace Mu
open Go Go.RowKit Go.Proofs Go.Shelf Go.Lib Go.Sort
variable{g:Nat}{l:List Pair}{n:Nat}{os:Array Obj}{v:eR}{w:eX}{x y:Pair}
theorem Anp(a b:Int)(g:Nat)(ty:eQ)(W:eX)(h:W.heap[g]? =lC (.cells #[.int .i64 a,.int .i64 b] ty)):
 aP cF 86 #[.slice (lC ⟨g,0,lB⟩) 2 2] W λe w'=>e= .returned (.int .i64 (if a≠0 then a else b))/\w'=W:=by
 have c0:W.cell? ⟨g,0,lB⟩=lC (.int .i64 a):=by simp[eY,h]
 have c1:W.cell? ⟨g,1,lB⟩=lC (.int .i64 b):=by simp[eY,h]
 go_enter Tryz.func86,Tryz.ntmps86
 go_wp2
 refine wp_loop_rounds 3 ?_;rw[fG];by_cases ha:a=0
 ·subst ha
  go_wp2
  rw[fG];by_cases hb:b=0
  ·subst hb
   go_wp2
   rw[fG]
   go_wp2
   go_ret
   exact⟨rfl,rfl⟩
  ·go_wp2
   go_ret
   exact⟨rfl,rfl⟩
 ·go_wp2
  go_ret
  exact⟨by simp,rfl⟩
theorem Adc(W:eX)(j u:Obj):∃E,E=((W.alloc j).alloc u).drew/\E.heap[W.heap.size]? =lC j/\E.heap[W.heap.size+1]? =lC u/\∃n os,E=grow (W.drewN n) os:=by
 refine⟨_,rfl,?_,?_,1,#[j,u],?_⟩
 ·show((W.heap.push j).push u)[W.heap.size]? =_;simp[Array.getElem?_push]
 ·show((W.heap.push j).push u)[W.heap.size+1]? =_;have:W.heap.size+1=(W.heap.push j).size:=by simp
  rw[this];exact Array.getElem?_push_size
 ·rw[eN,eN,grow_grow];rfl
def cfP(x y:Pair):Int:=if aZ x.a y.a≠0 then aZ x.a y.a else aZ x.b y.b
def Iq(x:Pair):List eR:=[.int .i64 x.a,.int .i64 x.b]
theorem Ame(x y:Pair)(W:eX):aP cF 111 #[.agg (Iq x).toArray,.agg (Iq y).toArray] W λe w'=>e= .returned (.int .i64 (cfP x y))/\∃q os,w'=grow (W.drewN q) os:=by
 have hA:=λW=>AnyG.cmp_Compare_int Tryz.cmpIntP x.a y.a W
 have hB:=λW=>AnyG.cmp_Compare_int Tryz.cmpIntP x.b y.b W
 change∀W,aP cF 87 _ _ _ at hA;change∀W,aP cF 87 _ _ _ at hB;obtain⟨r,hr⟩:∃r,aZ x.a y.a=r:=⟨_,rfl⟩
 obtain⟨s,hs⟩:∃s,aZ x.b y.b=s:=⟨_,rfl⟩
 have hu:cfP x y=if r≠0 then r else s:=by unfold cfP;rw[hr,hs]
 rw[hr]at hA;rw[hs]at hB;clear hr hs;have hO:=λW=>Anp r s W.heap.size 3 (W.alloc (.cells #[.int .i64 r,.int .i64 s] 3)) (fD W _)
 rw[<-hu]at hO;generalize cfP x y=u at hO⊢;clear hu;unfold Iq
 go_enter bG,Tryz.ntmps111
 go_wp2
 refine wp_region_still_tail 10 (by kernel_rfl) (by kernel_rfl) ?_;simp only[List.take_succ_cons,jT,List.drop_succ_cons,fV];change wpStill _ _ (eZ ((W.alloc (bA #[eS aX x.a,eS aX x.b] 41)).alloc (bA #[eS aX y.a,eS aX y.b] 41))) (λa'=>wpList _ _ _ _ a' (eZ ((W.alloc (bA #[eS aX x.a,eS aX x.b] 41)).alloc (bA #[eS aX y.a,eS aX y.b] 41)))) _ _;obtain⟨W2,hW2,g1,g2,hg⟩:=Adc W (bA #[eS aX x.a,eS aX x.b] 41) (bA #[eS aX y.a,eS aX y.b] 41);rw[<-hW2];have c1:W2.cell? ⟨W.heap.size,0,lB⟩=lC (.int .i64 x.a):=by simp[eY,g1]
 have c2:W2.cell? ⟨W.heap.size,1,lB⟩=lC (.int .i64 x.b):=by simp[eY,g1]
 have c3:W2.cell? ⟨W.heap.size+1,0,lB⟩=lC (.int .i64 y.a):=by simp[eY,g2]
 have c4:W2.cell? ⟨W.heap.size+1,1,lB⟩=lC (.int .i64 y.b):=by simp[eY,g2]
 clear hW2 g1 g2
 iterate 4 still_step
 still_call (hA _)
 iterate 4 still_step
 still_call (hB _)
 refine wpStill_nil ?_
 go_wp2_with (go_at_call 86;refine(hO W2).mono ?_;rintro e w' ⟨rfl,rfl⟩)
 go_ret
 obtain⟨n,os,rfl⟩:=hg;exact⟨rfl,n,_,by rw[eN,grow_grow]⟩
theorem Si:ltOf cfP x y=aN↔ltP x y:=by
 unfold ltOf cfP aZ ltP;by_cases h1:x.a < y.a
 ·simp[h1]
 ·by_cases h2:y.a < x.a
  ·have:x.a≠y.a:=by omega
   simp[h1,h2,this]
  ·have e:x.a=y.a:=by omega
   by_cases j:x.b < y.b
   ·simp[e,j]
   ·by_cases u:y.b < x.b <;> simp[e,j,u]
theorem Ps:ltOf cfP x y=aI↔¬ltP x y:=by
 rw[<-Si,Bool.not_eq_true]
theorem AAs:SWO (ltOf cfP) where
 irrefl x:=Ps.2 (Sh x)
 trans x y z h1 h2:=Si.2 (Anr (Si.1 h1) (Si.1 h2))
 ntrans x y z h1 h2:=by
  have h1:=Ps.1 h1;have h2:=Ps.1 h2;refine Ps.2 ?_;unfold ltP at *;omega
theorem AAp(x y:Pair)(h1:ltOf cfP x y=aI)(h2:ltOf cfP y x=aI):x=y:=by
 have h1:=Ps.1 h1;have h2:=Ps.1 h2;unfold ltP at h1 h2;obtain⟨a,b⟩:=x;obtain⟨c,d⟩:=y
 (try dsimp only at h1);(try dsimp only at h2)
 have u:a=c:=by omega
 have j:b=d:=by omega
 rw[u,j]
def G4(l:List Pair):List Pair:=l.mergeSort λx y=>!(ltOf cfP) y x
theorem MU:(!(ltOf cfP) y x)=aN↔¬ltP y x:=by
 rw[Bool.not_eq_true',Ps]
theorem H7(l:List Pair):(G4 l).Perm l:=i7 _ _
theorem Zw(j:l.Nodup):Aoz (G4 l):=by
 have h:=List.pairwise_mergeSort (le:=λx y:Pair=>!(ltOf cfP) y x) (λa b c h1 h2=>by
  have h1:=MU.1 h1;have h2:=MU.1 h2;refine MU.2 ?_;unfold ltP at *;omega) (λa b=>by
  rw[aM,MU,MU];unfold ltP;omega) l
 have u:(G4 l).Nodup:=(H7 l).nodup_iff.2 j;refine(h.and u).imp λ{x y} hxy=>?_
 obtain⟨h1,h2⟩:=hxy;have h1:=MU.1 h1;unfold ltP at h1;obtain⟨a,b⟩:=x;obtain⟨c,d⟩:=y;unfold ltP
 (try dsimp only at h1);(try dsimp only)
 rcases fH a c with h|h|h
 ·exact .inl h
 ·rcases fH b d with k|k|k
  ·exact .inr ⟨h,k⟩
  ·exact absurd (by rw[h,k]) h2
  ·omega
 ·omega
theorem Ad3{R:List Int}{S:Pair->Bool}(u:Asc R)(j:InP R S)(E:l.Nodup)(h1:∀x∈l,S x=aN)(h2:∀x,S x=aN->x∈l):G4 l=Ec R S:=
 Y5 (Zw E) (PW u) λx=>by
  rw[(H7 l).mem_iff,WF u j];exact⟨h1 x,h2 x⟩
theorem Ahd{i:Nat}{d:Pair}(I:l[i]? =lC d):((flatK Iq 2 l.toArray).toList.drop (i * 2)).take 2=Iq d:=by
 have J:=(gR.1 I).1;have F:l.toArray[i]! =d:=by simp[getElem!_def,I]
 refine fX λj=>?_
 by_cases G:j < 2
 ·rw[gZ G,gO,aC];have u:i * 2+j < (flatK Iq 2 l.toArray).size:=by simp;omega
  have e:=get_flatK Iq 2 l.toArray (i * 2+j) (by simpa using u);rw[getElem!_pos (flatK Iq 2 l.toArray) _ u]at e;rw[Array.getElem?_eq_getElem u,e,show(i * 2+j) / 2=i by omega,show(i * 2+j) % 2=j by omega,F];have E:j < (Iq d).length:=G;rw[getElem!_pos (Iq d) _ E,gP E]
 ·rw[gY (by omega),gQ (by show 2<=j;omega)]
theorem Qs(cur F:Array eR)(h:F.size<=cur.size):(eO id 0 F cur).toList.take F.size=F.toList:=by
 apply fX;intro j;by_cases u:j < F.size
 ·rw[gZ u,aC];simp[eO,u,show j < cur.size by omega]
 ·rw[gY (by omega),gQ (by simp;omega)]
theorem PB(d:Array eR):w.grownBy (grow (eP id (eM w n) g 0 d) os) (lC g):=by
 refine⟨rfl,rfl,rfl,by simp,λk hk j=>?_⟩;rw[heap_grow_old _ _ (by simpa using hk)];have:g≠k:=λe=>j (by rw[e])
 simp[eP,mapBlock,eM,aB,this]
theorem Nv{cur:Array eR}{e:eQ}{j:Nat×Nat}(d:Array eR)(hb:w.heap[g]? =lC (.cells cur e j)):
 (grow (eP id (eM w n) g 0 d) os).heap[g]? =lC (.cells (eO id 0 d cur) e j):=by
 have hg:g < w.heap.size:=(aA.1 hb).1;rw[heap_grow_old _ _ (by simpa using hg)];simp[eP,mapBlock,eM,aB,hb,onCells]
theorem ZI{S:Nat->Prop}{h:List jU}{ψ:Nat->eR}{u:eR}{vs:List eR}(H:Af w S h ψ [.lit u,.lit v] vs):vs= [u,v]:=by
 obtain⟨a,b,rfl,h1,h2⟩:=Azm H;unfold jW at h1 h2;rw[h1,h2]
theorem Zv(hl:l.length < 4611686018427387904):DO cF 133 (rowR v 41 Dp l) [.lit v,.lit (.func (.func 111) #[] #[])] (λ_:Unit=>rowR v 41 Dp (G4 l)) (λ_=>.tuple #[]):=by
 refine⟨by kernel_rfl,λw S vs hS hF hR hr=>?_⟩;obtain⟨cells,u,h0,hc⟩:=hR;rw[ZI hr];rcases u.2 with⟨rfl,X⟩|⟨g,cap,cur,rfl,_,hb,h1,h2,h3,h4⟩
 ·have hz:l= []:=fW X;subst hz;rw[show G4 []= []by simp[G4]];refine(AnyF.slices_SortFunc_none Tryz.sortP lB 0 _ w).mono λe w' ⟨he,hw⟩=>?_
  subst hw;exact⟨_,he,⟨⟨rfl,rfl,rfl,kR _,λ_ _ _=>rfl⟩,(),rfl,⟨cells,u,h0,hc⟩,λk hk=>⟨.inl hk,hF k hk⟩⟩⟩
 ·have aa:g < w.heap.size:=(aA.1 hb).1;have ag:cells.length=l.length * 2:=u.1;have ae:cur.toList.take (l.length * 2)=cells:=h4;have af:cur.size=cap * 2:=h3;have E:∀i d,l[i]? =lC d->(cells.drop (i * 2)).take 2=Iq d/\wfI .i64 d.a/\wfI .i64 d.b:=λi d J=>KF.1 (hc i d J)
  have hH:HoldsK Iq 2 w g 0 l.toArray:=λj hj=>by
   have Y:j < l.length * 2:=by simpa using hj
   obtain⟨d,J⟩:∃d,l[j / 2]? =lC d:=⟨_,gP (by omega)⟩
   have ac:l.toArray[j / 2]! =d:=by simp[getElem!_def,J]
   have e1:=congrArg (λ(l:List eR)=>l[j % 2]?) (E _ d J).1;rw[gZ (by omega),gO,<-ae,gZ (by omega),aC,show j / 2 * 2+j % 2=j by omega]at e1;refine⟨?_,by simp[World.frozen?,hb]⟩;rw[get_flatK _ _ _ _ (by simpa using Y),ac];have O:j % 2 < (Iq d).length:=by show j % 2 < 2;omega
   rw[getElem!_pos (Iq d) _ O];rw[gP O]at e1;simp[eY,hb,e1]
  have eg:∀args w,(callFunc 111 args).run cF w= .ok (.enter 111 args) w:=enters_of bG (by kernel_rfl) V;have ad:=AnyQ.slices_SortFunc_total Tryz.sortP 2 (λw=>by kernel_rfl) (λw=>by kernel_rfl) Iq (λ_=>rfl) (λx v hv=>by
   simp only[Iq,or_false,zak]at hv;rcases hv with rfl|rfl <;> rfl) cfP AAs 111 #[] g 0 cap l.toArray w eg (λm os dk _ x y=>Ame x y _) hH aa (by simpa using hl) AAp
  refine ad.mono ?_;rintro e w' ⟨he,n,os,rfl⟩;have U:(l.toArray.toList.mergeSort λx y=>!(ltOf cfP) y x)=G4 l:=rfl;rw[U];have F:(G4 l).length=l.length:=(H7 l).length_eq;have I:(flatK Iq 2 (G4 l).toArray).size=l.length * 2:=by simp[F]
  refine⟨_,he,⟨Bt (PB _) |> λG=>⟨G.os,G.tape,G.output,G.size,λk hk X=>G.block k hk λe=>X e⟩,(),rfl,⟨(flatK Iq 2 (G4 l).toArray).toList,?_,h0,λi d J=>?_⟩,λk hk=>⟨.inl hk,?_⟩⟩⟩
  ·rw[F];refine⟨by rw[aD,I];rfl,.inr ⟨g,cap,_,rfl,kX _,Nv _ hb,h1,h2,by simp[eO,h3],?_⟩⟩;have e2:=Qs cur (flatK Iq 2 (G4 l).toArray) (by rw[I,af];omega);rw[I]at e2;exact e2
  ·have ab:d∈l:=(H7 l).mem_iff.1 (iV J);obtain⟨i',Z⟩:=iT.1 ab;exact KF.2 ⟨Ahd J,(E _ _ Z).2⟩
  ·have hk:Bv (.slice (lC ⟨g,0,lB⟩) l.length cap)=lC k:=hk;have hk:g=k:=by simpa[Bv]using hk
   subst hk;exact(aA.1 (Nv _ hb)).1
end Mu
namespace Mu
open Go Go.RowKit Go.Proofs Go.Maps Go.Shelf
variable{R:List Int}{S:Pair->Bool}{h:List jU}{ks:List Pair}{v:eR}
instance Atn:AG cF 109 aI 1:=⟨by kernel_rfl⟩
attribute [local go_sem] Oper.semAt_some
theorem Kz{P:bE}{C:Ctx}{t:List AV}{o:bC}{x:bD}{j:Nat}{xs:Array eR}(E:o.op= .extract x j)(hx:evA t x= .lit (.tuple xs))(F:xs[j]? =lC v):AT P C t h o (.lit v):=
 AN λS ψ w ρ _ u=>by
  have h1:=u x (by simp[E,bB]);rw[hx]at h1;unfold jW at h1;exact⟨v,by simp[fB,E,h1,Instr.extract,F],by unfold jW;rfl⟩
theorem XD{cells:List eR}(e:v.cells.toList=cells):VG h (.lit v) (cells.map .lit):=λC S ψ w u _ j=>by
 unfold jW at j;subst j;rw[e];exact Ja cells
def Agi(S:Pair->Bool)(g m:Nat):Res:=⟨[],λk=>k=g\/k=m,λw T=>(Bf g [.lit (.map (lC m))]).R w T/\(DV S m).R w T/\g≠m,
 λh hk hb u=>⟨(Bf g [.lit (.map (lC m))]).keep h.1 (λk j=>hk k (.inl j)) hb u,(DV S m).keep h.2.1 (λk j=>hk k (.inr j)) hb u,h.2.2⟩⟩
def Ajf(g:Nat):eR:=.func (.func 134) #[] #[.pointer (lC ⟨g,0,lB⟩)]
theorem Ald(F:Fence)(n:Nat)(hF:F.fn 110)(hro:F.round=lB)(m:Nat)(w:eX):
 aR F n cF 110 #[.map (lC m)] w λe w'=>e= .returned (Ajf w.heap.size)/\w'=w.alloc (.cells #[.map (lC m)] 109):=by
 refine callsIn_of_wp Tryz.func110 V hF ?_ hro;simp only[Tryz.ntmps110,Nat.reduceAdd,Nat.reduceSub,zae]
 gi_wp2
 go_ret
 exact⟨rfl,rfl⟩
theorem Aae(S:Pair->Bool)(m:Nat):DO cF 110 (DV S m) [.lit (.map (lC m))] (λg=>Agi S g m) Ajf:=by
 refine⟨by kernel_rfl,λw T vs I F E j=>?_⟩;obtain⟨G,rfl,h0⟩:=Eo j;unfold Af at h0;subst h0;refine((fA (n:=4)).1 (Ald aT 4 trivial V m w)).mono ?_;rintro e w' ⟨rfl,rfl⟩;have u:m < w.heap.size:=F m V;have hb:Below w.heap.size w (w.alloc (.cells #[.map (lC m)] 109)):=(eK _ _).alloc (kR _) _;refine⟨_,rfl,⟨hb.os,hb.tape,hb.output,hb.size,λk hk _=>hb.block k hk⟩,w.heap.size,rfl,⟨⟨[.map (lC m)],109,fD w _,FU [.map (lC m)]⟩,(show Aow w m S from E).keep (hb.block m u),by omega⟩,λk hk=>?_⟩;rcases(show k=w.heap.size\/k=m from hk)with rfl|rfl
 ·exact⟨.inr (kR _),by simp⟩
 ·exact⟨.inl V,by simp;omega⟩
def Ad6(S:Pair->Bool)(ks:List Pair):Prop:=ks.Nodup/\∀x∈ks,okPair x/\S x=aN
def stK(S:Pair->Bool)(ks:List Pair)(u:List AV)(j:List Pair):Prop:=Ad6 S ks/\∃q,okPair q/\S q=aN/\q∉ks/\u= [.agg (CS q)]/\j=ks++[q]
def Azy(S:Pair->Bool)(ks:List Pair):Prop:=Ad6 S ks/\∀x,okPair x->S x=aN->x∈ks
theorem Ad6.add{q:Pair}(h:Ad6 S ks)(h1:okPair q)(h2:S q=aN)(u:q∉ks):Ad6 S (ks++[q]):=by
 refine⟨i9.2 ⟨h.1,by simp,λa j b hb=>?_⟩,λx hx=>?_⟩
 ·simp only[or_false,zak]at hb;subst hb;exact λe=>u (e▸j)
 ·rcases iM.1 hx with hx|hx
  ·exact h.2 x hx
  ·simp only[or_false,zak]at hx;subst hx;exact⟨h1,h2⟩
theorem Aaf(S:Pair->Bool)(g m:Nat)(L:List Pair)(hL:∀x,okPair x->S x=aN->x∈L):Am0 cF 134 [.pointer (lC ⟨g,0,lB⟩)] (Agi S g m) (stK S) [] (Azy S):=by
 refine NN Tryz.func134 V (by kernel_rfl) V Tryz.ntmps134 V λC U ι l Jr X hY O=>?_
 simp only[iK,iL,Nat.reduceAdd,Nat.reduceSub,zaa];refine AK _ (P5 (i:=1) (R1:=Bf g [.lit (.map (lC m))]) (R2:=DV S m) V V V V (λ_ h=>h) λw T h=>⟨h.1,h.2.1,λk h1 h2=>h.2.2 (h1.symm.trans h2)⟩) ?_;refine nT ?_;refine Ab λK1 h1=>?_
 (refine jX ?_;(repeat(first|refine sQ ?_|refine AO ?_|refine Bq ?_)))
 refine AF V (Ack 2 V dA V V λr=>?_);refine sNt ?_;refine Au ?_;refine h1 _ ?_;refine nT ?_;refine Ad ?_;refine AH (λp:List Pair×ι=>⟨(.lit (.func (.yield l) #[] #[])::.lit (.pointer (lC ⟨g,0,lB⟩))::A3 (.lit (.pointer (lC ⟨r,0,lB⟩))::A8 [])),[.res (Jr p.1 p.2),.res (Bf g [.lit (.map (lC m))]),.res (Apb S p.1 m r)]⟩) (λp=>Ad6 S p.1) (λp=>L.length - p.1.length) ([],O) ⟨jB,λ_ h=>by cases h⟩ (BX) ?_;rintro⟨ks,O⟩ F
 (try dsimp only at F);(try dsimp only)
 refine Ab λK3 Z=>?_
 refine jX ?_;refine AF V (Ai7 2 V V V (λI=>?_) (λq c hq J j=>?_))
 ·refine sNt ?_
  (repeat(first|refine sQ ?_ (Kz V V V)|refine sQ ?_|refine AO ?_|refine Bq ?_))
  refine Au ?_;refine Z _ ?_;refine nT ?_;refine Ab λK4 Y=>?_
  refine Ah V (λu=>by cases u) (λu=>?_);refine Ay ?_;exact⟨.inl V,ks,⟨F,I⟩,O,rfl,by simp[mkD,ABlk.mrk,X];exact⟨rfl,rfl⟩⟩
 ·refine sNt ?_
  (repeat(first|refine sQ ?_ (Kz V V V)|refine sQ ?_|refine AO ?_|refine Bq ?_))
  refine Au ?_;refine Z _ ?_;refine nT ?_;refine Ab λK4 Y=>?_
  refine Ah V (λu=>?_) (λu=>by cases u);refine Al ?_;refine Y _ ?_;refine nT ?_;refine Ad ?_;refine Ab λK6 h6=>?_
  (refine jX ?_;(repeat(first|refine sQ ?_ (VC 2 V V V)|refine sQ ?_|refine AO ?_|refine Bq ?_));refine Au ?_)
  refine h6 _ ?_;refine nT ?_;refine Ab λK7 h7=>?_
  refine Qg ?_;refine It V (AX (AT.move V (by(conv=>lhs;whnf);try rfl)) ?_);refine Dn (by(try simp only[Bn,zac]);exact V) (by(try simp only[Nat.reduceAdd,zab]);exact V) ?_;refine It V (AX (AR V V V V) ?_);refine Dn (by(try simp only[Bn,zac]);exact V) (by(try simp only[Nat.reduceAdd,zab]);exact V) ?_;refine P3 V (Ay0.yield (i:=0) U V (λp=>by rw[X,X]) V V V V (hY ks _ (ks++[q]) ⟨F,q,hq,J,j,rfl,rfl⟩ O) λq'=>?_);refine Dn (by(try simp only[Bn,zac]);exact V) (by(try simp only[Nat.reduceAdd,zab]);exact V) ?_;refine It V (AX (Cp V V) ?_);refine Gd ?_;refine h7 _ ?_;refine nT ?_;refine Ah V (λE=>by cases E) (λE=>?_);refine Al ?_;have G:=E9 (F.add hq J j).1 λx hx=>hL x ((F.add hq J j).2 x hx).1 ((F.add hq J j).2 x hx).2
  refine abN (Ap ⟨(ks++[q],q'),F.add hq J j,by simp only[zaw]at G⊢;omega,?_⟩);refine St.le.trans (JE (i:=2) (R':=Apb S (ks++[q]) m r) V (λ_ h=>h) (λ_ _ h=>h.1) V) ?_;exact Kr (.cons (.cons (.cons (j6 _))))
theorem N8{l:List Pair}{w:eX}{S S':Nat->Prop}(h:(rowR v 41 Dp l).R w S):(rowR v 41 Dp l).R w S':=by
 obtain⟨cells,h1,h0,h2⟩:=h;exact⟨cells,h1,h0,λi d j=>KF.2 (KF.1 (h2 i d j))⟩
def AAn(S:Pair->Bool):Type:={p:eR×List Pair // Azy S p.2}
theorem Ao6{L:List Pair}(G:∀x,okPair x->S x=aN->x∈L){u:List Pair}{I:List AV}(h:stK S ks I u):ks.length+1<=L.length:=by
 obtain⟨F,q,hq,E,j,_,_⟩:=h;have:=E9 (F.add hq E j).1 λx hx=>G x ((F.add hq E j).2 x hx).1 ((F.add hq E j).2 x hx).2
 simpa using this
theorem Vp(S:Pair->Bool)(g m:Nat)(L:List Pair)(X:∀x,okPair x->S x=aN->x∈L)(hl:L.length<=4398046511104):
 DO cF 156 (Agi S g m) [.lit (.slice lB 0 0),.lit (Ajf g)] (λp:AAn S=>rowR p.1.1 41 Dp p.1.2) (λp=>p.1.1):=by
 refine E5 Tryz.func156 V (by kernel_rfl) V Tryz.ntmps156 V (λ_ _ _ _ h=>N8 h) λC I=>?_
 refine nS ?_;refine Ab λK1 h1=>?_
 refine jX ?_;refine AF V (AOp.box (cells:=[.lit (.slice lB 0 0)]) V (XD (cells:=[.slice lB 0 0]) V) ?_);refine sNt ?_
 (repeat(first|refine sQ ?_|refine AO ?_|refine Bq ?_))
 refine Au ?_;refine h1 _ ?_;refine nT ?_;refine Bu 2 V V V (λj=>(.any::.lit (Ajf g)::.lit (.pointer (lC ⟨j,0,lB⟩))::A10 [])) (λg=>(by(repeat(first|exact kI|refine kJ ?_|refine kG ?_|refine kH V ?_)))) λj=>?_
 refine AK _ (J9 41 Dp (by decide)) ?_;refine nT ?_;refine Ab λK2 h2=>?_
 refine Ab λK3 h3=>?_
 refine rR ?_;refine h3 _ ?_;refine nT ?_;refine Ad ?_;refine HN (J:=eR) 1 0 (λks v=>[.dead,.dead,.res (Bf j [.lit v]),.res (rowR v 41 Dp ks)]) (.slice lB 0 0) I V (by decide) V V V ?hdrop V (λ_ _=>rfl) (λ_ _=>rfl) V ?hes (Aaf S g m L X) ?hround ?hdone
 case hdrop=>
  exact⟨j5 (j5 (jZ (jZ (j6 _)))),λb hb=>fM.1 (show bdH [.dead,.dead,.res (Bf j [.lit (.slice lB 0 0)]),.res (rowR (.slice lB 0 0) 41 Dp [])]=aN from V) b hb⟩
 case hes=>
  rintro ks es G ⟨_,q,_,_,_,rfl,rfl⟩;exact⟨rfl,rfl⟩
 case hround=>
  intro ks v es G u C' Y;have U:=Ao6 X u;obtain⟨_,q,hq,hS,Z,rfl,rfl⟩:=u;refine C6 (t':=(.any::.lit (Ajf g)::.lit (.pointer (lC ⟨j,0,lB⟩))::A3 (.lit (Ajf g)::.agg (CS q)::A5 []))) V V ?_;refine rR ?_;refine Ap λaa O=>?_
  refine nT ?_;refine Ad ?_;have E:Fit [.dead,.dead,.res (Bf j [.lit v]),.res (rowR v 41 Dp ks),.box (CS q)] Dp (.agg (CS q)) q:=Ow (enc:=CS) λ_ _ _ _ H=>X8 hq H
  (refine jX ?_;(repeat(first|refine sQ ?_ (Cj V V V V (by decide) E)|refine sQ ?_|refine AO ?_|refine Bq ?_)))
  refine AF V (Qo (i:=3) V (by kernel_rfl) V V V T9 (by show ks.length+1<=_;unfold fE;omega) (by show(ks.length+1) * 16<=_;omega) λv'=>?_);refine sNt ?_;refine AF V (IB (i:=2) (new:=[.lit v']) V V V (Qb.one (Mo (i:=3) V)) V V (kQ V) ?_);refine sNt ?_;refine Au ?_;exact⟨rfl,v',⟨.cons (.cons (.cons (.cons (j6 _)))),λb hb=>fM.1 (show bdH [.dead,.dead,.res (Bf j [.lit v']),.res (rowR v' 41 Dp (ks++[q]))]=aN from V) b hb⟩⟩
 case hdone=>
  intro ks F v D;refine h2 _ ?_;refine C6 (t':=(.any::.lit (Ajf g)::.lit (.pointer (lC ⟨j,0,lB⟩))::A3 (.lit (Ajf g)::A6 []))) (h':=[.res (Bl [D]),.dead,.res (Bf j [.lit v]),.res (rowR v 41 Dp ks)]) V V ?_;refine Ab λK6 h6=>?_
  refine rR ?_;refine h6 _ ?_;refine nT ?_;exact Aw ⟨.inr V,[D],3,⟨(v,ks),F⟩,rfl,rfl,by decide,rfl,rfl⟩
theorem Sx(S:Pair->Bool)(g m:Nat)(L:List Pair)(E:∀x,okPair x->S x=aN->x∈L)(u:L.length<=4398046511104):
 DO cF 132 (Agi S g m) [.lit (Ajf g)] (λp:AAn S=>rowR p.1.1 41 Dp p.1.2) (λp=>p.1.1):=by
 refine E5 Tryz.func132 V (by kernel_rfl) V Tryz.ntmps132 V (λ_ _ _ _ h=>N8 h) λC j=>?_
 refine nS ?_;refine Ab λG h1=>?_
 refine rR ?_;refine h1 _ ?_;refine nT ?_;refine Ab λF h2=>?_
 (refine jX ?_;(repeat(first|refine sQ ?_|refine AO ?_|refine Bq ?_)))
 refine AF V (BR (i:=1) V V (Vp S g m L E u) (λ_=>rfl) V V λp=>?_);refine sNt ?_
 (repeat(first|refine sQ ?_|refine AO ?_|refine Bq ?_))
 refine Au ?_;refine h2 _ ?_;refine nT ?_;exact Aw ⟨.inr V,[],1,p,rfl,rfl,by decide,rfl,rfl⟩
structure InRow(R:List Int)(S:Pair->Bool):Prop where
 asc:Asc R
 len:R.length<=2097152
 mem:InP R S
theorem InRow.sub(h:InRow R S):∀x,okPair x->S x=aN->x∈Fq R:=λx _ hx=>(D9 h.asc).2 (h.mem x hx)
theorem InRow.lens(h:InRow R S):(Fq R).length<=4398046511104:=
 kS (Ie R) (kS (kU h.len h.len) (by decide))
theorem InRow.sort(h:InRow R S)(j:∀r∈R,Cm r)(hk:Azy S ks):G4 ks=Ec R S:=
 Ad3 h.asc h.mem hk.1.1 (λx hx=>(hk.1.2 x hx).2) λx hx=>hk.2 x ⟨j _ (h.mem x hx).1,j _ (h.mem x hx).2.1⟩ hx
theorem Tq(h:InRow R S)(u:∀r∈R,Cm r)(g m:Nat):
 DO cF 109 (Agi S g m) [.lit (Ajf g),.lit (.func (.func 111) #[] #[])] (λv:eR=>rowR v 41 Dp (Ec R S)) (λv=>v):=by
 refine E5 Tryz.func109 V (by kernel_rfl) V Tryz.ntmps109 V (λ_ _ _ _ h=>N8 h) λC F=>?_
 refine nS ?_;refine Ab λX h1=>?_
 refine rR ?_;refine h1 _ ?_;refine nT ?_;refine Ab λU h2=>?_
 (refine jX ?_;(repeat(first|refine sQ ?_|refine AO ?_|refine Bq ?_)))
 refine AF V (BR (i:=1) V V (Sx S g m _ h.sub h.lens) (λ_=>rfl) V V λp=>?_);refine sNt ?_
 (repeat(first|refine sQ ?_|refine AO ?_|refine Bq ?_))
 refine Au ?_;refine h2 _ ?_;refine nT ?_;obtain⟨⟨v,ks⟩,hk⟩:=p
 (try dsimp only at hk);(try dsimp only)
 have E:=h.sort u hk;have j:ks.length < 4611686018427387904:=by
  have h1:=E9 hk.1.1 λx hx=>h.sub x (hk.1.2 x hx).1 (hk.1.2 x hx).2
  have h2:=h.lens;omega
 refine Ab λO I=>?_
 (refine jX ?_;(repeat(first|refine sQ ?_|refine AO ?_|refine Bq ?_)))
 refine AF V (BR (i:=1) V V (Zv j) (λ_=>rfl) V V λ_=>?_);refine sNt ?_;refine Au ?_;refine I _ ?_;refine nT ?_;rw[E];refine Ab λJ G=>?_
 refine rR ?_;refine G _ ?_;refine nT ?_;exact Aw ⟨.inr V,[],1,v,rfl,rfl,by decide,rfl,rfl⟩
theorem Re(h:InRow R S)(j:∀r∈R,Cm r)(m:Nat):
 DO cF 78 (DV S m) [.lit (.map (lC m))] (λv:eR=>rowR v 41 Dp (Ec R S)) (λv=>v):=by
 refine E5 Tryz.func78 V (by kernel_rfl) V Tryz.ntmps78 V (λ_ _ _ _ h=>N8 h) λC u=>?_
 refine nS ?_;refine Ab λF h1=>?_
 refine rR ?_;refine h1 _ ?_;refine nT ?_;refine Ab λE h2=>?_
 (refine jX ?_;(repeat(first|refine sQ ?_|refine AO ?_|refine Bq ?_)))
 refine AF V (BR (i:=1) V V (Aae S m) (λ_=>rfl) V V λg=>?_);refine sNt ?_
 (repeat(first|refine sQ ?_|refine AO ?_|refine Bq ?_))
 refine AF V (BR (i:=1) V V (Tq h j g m) (λ_=>rfl) V V λv=>?_);refine sNt ?_
 (repeat(first|refine sQ ?_|refine AO ?_|refine Bq ?_))
 refine Au ?_;refine h2 _ ?_;refine nT ?_;exact Aw ⟨.inr V,[],1,v,rfl,rfl,by decide,rfl,rfl⟩
end Mu
section
namespace Go.Proofs
open Go.Shelf
def Tryz.sortFI_ren:eL:=⟨fun|6=>84|15=>99|14=>114|28=>126|29=>127|20=>137|21=>138|22=>139|23=>140|24=>141|25=>142|26=>143|27=>144|46=>160|47=>146|48=>147|49=>161|50=>162|57=>180|n=>n,fun|22=>27|24=>3|25=>119|3=>3|39=>104|0=>0|53=>45|55=>151|4=>4|46=>144|45=>143|50=>68|5=>5|9=>9|66=>166|70=>170|76=>185|77=>186|n=>n,fun|n=>n⟩
theorem Tryz.sortFI:Go.Proofs.SlLaysF.n6 cF Tryz.sortFI_ren:={
 mixed:=by kernel_rfl
 f6:=⟨Tryz.f84.name,by decide,Tryz.func84.trans (congrArg lC (by kernel_rfl))⟩
 f14:=⟨Tryz.f114.name,by decide,Tryz.func114.trans (congrArg lC (by kernel_rfl))⟩
 f15:=bN.trans (congrArg lC (by kernel_rfl))
 f20:=⟨Tryz.f137.name,by decide,Tryz.func137.trans (congrArg lC (by kernel_rfl))⟩
 f21:=⟨Tryz.f138.name,by decide,Tryz.func138.trans (congrArg lC (by kernel_rfl))⟩
 f22:=⟨Tryz.f139.name,by decide,Tryz.func139.trans (congrArg lC (by kernel_rfl))⟩
 f23:=⟨Tryz.f140.name,by decide,Tryz.func140.trans (congrArg lC (by kernel_rfl))⟩
 f24:=⟨Tryz.f141.name,by decide,Tryz.func141.trans (congrArg lC (by kernel_rfl))⟩
 f25:=⟨Tryz.f142.name,by decide,Tryz.func142.trans (congrArg lC (by kernel_rfl))⟩
 f26:=⟨Tryz.f143.name,by decide,Tryz.func143.trans (congrArg lC (by kernel_rfl))⟩
 f27:=⟨Tryz.f144.name,by decide,Tryz.func144.trans (congrArg lC (by kernel_rfl))⟩
 f28:=bH.trans (congrArg lC (by kernel_rfl))
 f29:=bI.trans (congrArg lC (by kernel_rfl))
 f46:=⟨Tryz.f160.name,by decide,Tryz.func160.trans (congrArg lC (by kernel_rfl))⟩
 f47:=bK.trans (congrArg lC (by kernel_rfl))
 f48:=bL.trans (congrArg lC (by kernel_rfl))
 f49:=⟨Tryz.f161.name,by decide,Tryz.func161.trans (congrArg lC (by kernel_rfl))⟩
 f50:=⟨Tryz.f162.name,by decide,Tryz.func162.trans (congrArg lC (by kernel_rfl))⟩
 f57:=⟨Tryz.f180.name,by decide,Tryz.func180.trans (congrArg lC (by kernel_rfl))⟩
 t0:=cY
 a0:=bO
 z0:=cG
 v0:=dR
 t3:=dJ
 a3:=bZ
 z3:=cR
 v3:=eC
 t4:=dK
 a4:=b9
 z4:=cT
 v4:=eD
 t5:=dN
 a5:=cB
 z5:=cV
 v5:=eF
 t9:=dQ
 a9:=cD
 z9:=cX
 v9:=eH
 t22:=dI
 a22:=bY
 z22:=cQ
 v22:=eB
 a24:=bZ
 z24:=cR
 t25:=Tryz.underlying119
 a25:=Tryz.isAgg119
 z25:=Tryz.sizeOf119
 v25:=Tryz.zeroValue119
 t39:=cZ
 a39:=bP
 z39:=cH
 v39:=dT
 t45:=dB
 a45:=bR
 z45:=cI
 v45:=dU
 t46:=dC
 a46:=bS
 z46:=cJ
 v46:=dV
 t50:=dP
 a50:=cC
 z50:=cW
 v50:=eG
 t53:=dM
 a53:=cA
 z53:=cU
 v53:=eE
 t55:=dD
 a55:=bT
 z55:=cL
 v55:=dW
 t66:=dE
 a66:=bU
 z66:=cM
 v66:=dX
 t70:=dF
 a70:=bV
 z70:=cN
 v70:=dY
 t76:=dG
 a76:=bW
 z76:=cO
 v76:=dZ
 t77:=dH
 a77:=bX
 z77:=cP
 v77:=eA}
end Go.Proofs
end
namespace Mu
open Go Go.RowKit Go.Proofs
variable{k:Nat}{l:List Int}{p:Int->Bool}{x:Int}
def Ajg(p:Int->Bool)(l:List Int):Int:=match l.findIdx? p with|some i=>(i:Int)|none=> -1
theorem Aq2(h:∀x∈l.take k,p x=aI)(hx:l[k]? =lC x)(u:p x=aN):Ajg p l=(k:Int):=by
 have:l.findIdx? p=lC k:=by
  rw[gE];obtain⟨hk,e⟩:=gR.1 hx;refine⟨hk,by rw[e];exact u,λj E=>?_⟩;have:=h (l[j]'(by omega)) (by
   rw[List.mem_take_iff_getElem];exact⟨j,by omega,rfl⟩)
  rw[this];simp
 unfold Ajg;rw[this]
theorem Agw(h:∀x∈l,p x=aI):Ajg p l= -1:=by
 have:l.findIdx? p=lB:=by
  rw[gD];exact h
 unfold Ajg;rw[this]
theorem Zo(h:∀x∈l.take k,p x=aI)(hx:l[k]? =lC x)(j:p x=aI):∀y∈l.take (k+1),p y=aI:=by
 rw[jO,hx];intro y hy;rcases iM.1 hy with hy|hy
 ·exact h y hy
 ·rw[i6.1 hy];exact j
theorem Alm:aO (Ajg p l≥0)=l.any p:=by
 unfold Ajg;cases h:l.findIdx? p with
 |none=>
  rw[gD]at h;have:l.any p=aI:=by rw[List.any_eq_false];intro x hx;rw[h x hx];simp
  rw[this];rfl
 |some i=>
  rw[gE]at h;obtain⟨hi,j,_⟩:=h;have:l.any p=aN:=fN.2 ⟨_,g8 hi,j⟩;rw[this];exact decide_eq_true (by simp only;omega)
theorem Agx(l:List Int)(hl:l.length<=2147483648)(f:aU)(j:List AV)(J:Bh j=aN)(p:Int->Bool)(U:∀x∈l,Fn cF f (.lit (.int .i64 x)::j) (.lit (.bool (p x)))):Fn cF 58 [.bs tInt l,.fn f j] (.lit (.int .i64 (Ajg p l))):=by
 have X:jV (.fn f j)=aN:=by unfold jV;exact J
 refine AQ Tryz.func58 V (by kernel_rfl) V Tryz.ntmps58 λC hC=>?_
 simp only[Nat.reduceAdd,Nat.reduceSub,zaa];refine wR ?_;refine Ab λK2 h2=>?_
 refine wR ?_;refine Ad ?_;refine AH (λk:Nat=>⟨(.bs tInt l::.fn f j::A5 (.lit (.int .i64 (l.length:Int))::.lit (.int .i64 (k:Int))::A10 [])),[]⟩) (λk=>k<=l.length/\∀x∈l.take k,p x=aI) (λk=>l.length - k) 0 ⟨kX _,by simp⟩ (AS) ?_;rintro k ⟨hk,E⟩;refine wR ?_;refine Ab λK6 Z=>?_
 refine Ah V (λF=>?_) (λF=>?_)
 ·have G:k < l.length:=by simpa using F
  obtain⟨x,hx⟩:∃x,l[k]? =lC x:=⟨_,gP G⟩
  have O:=U x (iV hx);refine Al ?_;refine Z _ ?_;refine nT ?_;refine Ab λK8 Y=>?_
  refine Ad ?_;refine wR ?_;refine wR ?_;refine Ah V (λu=>?_) (λu=>?_)
  ·refine wR ?_;rw[Aq2 E hx u];exact Aw ⟨.inr V,j9 V⟩
  ·refine Al ?_;refine Y _ ?_;refine nT ?_;refine wRE ?_;refine Ap ⟨k+1,⟨by omega,Zo E hx u⟩,by omega,AS⟩
 ·refine Ay ?_;refine h2 _ ?_;refine nT ?_;refine wR ?_;have I:k=l.length:=by have:¬k < l.length:=(by simpa using F);omega
  rw[Agw (by rw[I,jQ]at E;exact E)];exact Aw ⟨.inr V,j9 V⟩
open Go.ChangeShapes Go.WideShapes
variable{S:Nat->Prop}{α:Type}{T:Ty α}{e:eQ}{f:aU}{l:List α}{tys:Array eQ}{v:eR}{w:eX}{xs:List AV}{ψ:Nat->eR}
section
variable{P:bE}{C:Ctx}{t:List AV}{h:List jU}{o:bC}{K:St->Prop}
end
def Aiz(P:bE)(f:aU)(args:List AV)(e:eQ){α:Type}(T:Ty α)(l:List α):Prop:=
 Cd P f=aN/\∀(w:eX) (S:Nat->Prop) (vs:List eR),(∀k,S k->k < w.heap.size)->Af w S [] ψ0 args vs->
  aP P f vs.toArray w λr w'=>∃v cells,r= .returned v/\Below w.heap.size w w'/\w'.ownsRow w.heap.size e T.size v l.length cells/\
   ∃S':Nat->Prop,(∀k,S k->S' k)/\(∀k,S' k->S k\/w.heap.size<=k)/\(∀k,S' k->k < w'.heap.size)/\(∀i d,l[i]? =lC d->T.RS w' S' ((cells.drop (i * T.size)).take T.size) d)/\∀g,v.ownBlock=lC g->¬S' g
section
variable{P:bE}{C:Ctx}{t:List AV}{h:List jU}{o:bC}{K:St->Prop}
theorem Abq{args:Array bD}{a:Act}{Q':Exit->Act->eX->Prop}{F:Act->eX->Prop}
 (U:o.op= .call {callee:=.value (.func f),args:=args,argTypes:=tys})(E:Aiz P f xs e T l)(hx:args.toList.map (evA t)=xs)(hc:Bh xs=aN)(H:HRel C h S ψ w)(X:Af w S h ψ t a.tmps.toList)
 (Y:∀v cells w' S',Below w.heap.size w w'->w'.ownsRow w.heap.size e T.size v l.length cells->(∀k,S k->S' k)->HRel C h S' ψ w'->(∀i d,l[i]? =lC d->T.RS w' S' ((cells.drop (i * T.size)).take T.size) d)->(∀g,v.ownBlock=lC g->¬S' g)->F (a.put o.dst v) w'):
 o.wp P a w F Q':=by
 have h2:Af w S h ψ xs (args.toList.map a.eval):=by
  rw[<-hx];exact Cf λx _=>Bw X x
 unfold Oper.wp;rw[Cx U E.1 a.eval w V];simp only[Oper.upon];rw[show(args.map a.eval)=(args.toList.map a.eval).toArray from(by rw[<-aF])];refine(E.2 w S (args.toList.map a.eval) H.lt (Bj _ _ hc h2)).mono ?_;rintro r w' ⟨v,cells,rfl,hb,j,S',u,O,J,I,G⟩;exact Y v cells w' S' hb j u (H.grow hb u O J) I G
theorem HRel.addAt{b:jU}{p:Nat}(H:HRel C h S ψ w)(hp:h[p]? =lC .dead)(hn:h.all (nrB p)=aN)(hB:HI C.N w S (h.set p b) (Bp ψ p v) v b)(U:∀g,ftp (lC b) v g->∀i,ABlk.live h[i]? =aN->¬ftp h[i]? (ψ i) g):
 HRel C (h.set p b) S (Bp ψ p v) w:=by
 have F:=(gR.1 hp).1;refine⟨H.bel,H.nlt,H.lt,H.sub,H.new,λi c hi=>?_,λi j I hi J g h1 h2=>?_⟩
 ·by_cases u:i=p
  ·subst u;rw[gX F]at hi;cases hi;rw[Bk];exact hB
  ·rw[gW (kZ u)]at hi;rw[BG u];have hc:=H.blk i c hi;have O:=fM.1 hn c (iV hi);cases c with
   |dead=>trivial
   |box cells=>
    obtain⟨g,cs,e,k1,k2,Z,Y,X⟩:=hc;exact⟨g,cs,e,k1,k2,Z,Y,DM (λi hi=>BG hi) _ _ O X⟩
   |row ver e T l=>exact hc
   |res R=>exact hc
 ·by_cases u:i=p
  ·subst u;rw[Bk,gX F]at h1;have G:j≠i:=kZ I;rw[BG G,gW (kZ G)]at h2;rw[gW (kZ G)]at J;exact U g h1 j J h2
  ·rw[BG u,gW (kZ u)]at h1;rw[gW (kZ u)]at hi;by_cases E:j=p
   ·subst E;rw[Bk,gX F]at h2;exact U g h2 i hi h1
   ·rw[BG E,gW (kZ E)]at h2;rw[gW (kZ E)]at J;exact H.dis i j I hi J g h1 h2
theorem Apu{w':eX}{ver sz n:Nat}{cells:List eR}(H:HRel C h S ψ w)(u:w'.ownsRow w.heap.size e sz v n cells):∀g,ftp (lC (.row ver e T l)) v g->∀i,ABlk.live h[i]? =aN->¬ftp h[i]? (ψ i) g:=λg hg i hi j=>by
 have h1:=WQ u g hg;obtain⟨c,hc⟩:=DW hi;rw[hc]at j;have:=((H.blk i c hc).lt (by rw[<-hc];exact hi) g j).2.1;omega
theorem KA{args:Array bD}(p:Nat)
 (O:o.op= .call {callee:=.value (.func f),args:=args,argTypes:=tys})(hx:args.toList.map (evA t)=xs)(hF:Aiz P f xs e T l)(h0:0 < T.size)(hc:Bh xs=aN)(u:h[p]? =lC .dead)(X:h.all (nrB p)=aN)(E:DB p t=aN)
 (hK:K ⟨Bn t o.dst (.own p 0),h.set p (.row 0 e T l)⟩):AOp P C o ⟨t,h⟩ K:=by
 rintro Q' a w ⟨Y,S,ψ,H,U⟩;refine⟨λc e=>(by rw[O]at e;cases e),?_⟩;refine Abq O hF hx hc H U λv cells w' S' hb j Z H' hR hN=>?_
 have F:=j.lt;have hB:HI C.N w' S' (h.set p (.row 0 e T l)) (Bp ψ p v) v (.row 0 e T l):=⟨cells,j.mono (kX _),h0,hR,λg hg=>⟨λJ=>by have:=H.nlt _ J;have:=H.bel.size;have:=(F g hg).1;omega,hN g hg⟩⟩
 have I:=AA (Ext.grow h ψ (λk hk=>hb.block k (H.lt k hk)) Z) _ _ U;have G:=DM (b:=.row 0 e T l) (ψ':=Bp ψ p v) (λi hi=>BG hi) _ _ E I;refine⟨_,hK,by rw[put_defers,Y];exact(DT (b':=.row 0 e T l) u V).symm,S',_,H'.addAt u X hB (Apu H j),KO G o.dst ?_⟩;unfold jW;refine⟨by simpa using(gR.1 u).1,λc hc=>?_⟩;rw[gX (gR.1 u).1]at hc;simp only[ABlk.ver,lE]at hc;exact⟨by omega,λ_=>Bk.symm⟩
end
end Mu
namespace Mu
open Go Go.RowKit Go.Proofs
variable{S:Nat->Prop}{cs:List eR}{h:List jU}{w:eX}
structure Plan where
 leaf:Bool
 slots:Int
 at_:List Int
def Tf:Ty Plan:=(kK.cons (tInt.cons (tInt.slice.cons Do))).via (λx=>⟨x.1,x.2.1,x.2.2.1⟩) (λd=>(d.leaf,d.slots,d.at_,()))
theorem Adl{x:Plan}:Tf.RS w S cs x↔∃j:eR,cs= [.bool x.leaf,.int .i64 x.slots,j]/\wfI .i64 x.slots/\tInt.slice.RS w S [j] x.at_:=by
 constructor
 ·rintro⟨⟨_,_,rfl,rfl,_,_,rfl,⟨rfl,h1⟩,_,_,rfl,h2,rfl⟩,_⟩;have u:=h2;obtain⟨A2,E,rfl,_⟩:=h2;exact⟨_,rfl,h1,u⟩
 ·rintro⟨j,rfl,h1,h2⟩;exact⟨⟨[_],_,rfl,rfl,[_],_,rfl,⟨rfl,h1⟩,[_],_,rfl,h2,rfl⟩,rfl⟩
@[reducible] def BE(x:Plan):List AV:=[.lit (.bool x.leaf),.lit (.int .i64 x.slots),.bs tInt x.at_]
theorem YN:Enc Tf BE:=by
 intro w S h ψ cs d H;obtain⟨j,rfl,h1,h2⟩:=Adl.1 H;simp only[BE,Af,jW];exact⟨_,_,rfl,rfl,_,_,rfl,rfl,_,_,rfl,h2,rfl⟩
theorem Afr:ST Tf:=D8 YN λd x hx=>by
 simp only[BE,or_false,zak]at hx;rcases hx with rfl|rfl|rfl <;> first|exact .inl ⟨_,rfl,rfl⟩|exact .inr ⟨_,_,_,rfl⟩
instance Axl:j8 Tf BE:=⟨YN,Afr,by decide⟩
structure okPlan(x:Plan):Prop where
 slots:wfI .i64 x.slots
theorem Akh{ψ:Nat->eR}{x:Plan}(j:okPlan x)(H:Af w S h ψ (BE x) cs):Tf.RS w S cs x:=by
 simp only[BE,Af,jW]at H;obtain⟨_,_,rfl,rfl,_,_,rfl,rfl,_,_,rfl,h2,rfl⟩:=H;exact Adl.2 ⟨_,rfl,j.slots,h2⟩
def WA(x:Plan):Bool:=wfB .i64 x.slots
theorem Z0{x:Plan}(h:WA x=aN):okPlan x:=by
 unfold WA at h;exact⟨h⟩
theorem Anm:Eu cF 29=lC [(0,1),(1,1),(2,1)]:=by kernel_rfl
instance Axk:AG cF 29 aN 3:=⟨by kernel_rfl⟩
instance Axj:SZ cF 29 3:=⟨by kernel_rfl⟩
instance Axi:FO cF 29 0 0:=⟨by kernel_rfl⟩
instance Axh:FO cF 29 1 1:=⟨by kernel_rfl⟩
instance Axg:FO cF 29 2 2:=⟨by kernel_rfl⟩
instance Axf:ZC cF 29 [.bool aI,.int .i64 0,.slice lB 0 0]:=⟨by kernel_rfl⟩
theorem XC{P:bE}{C:Ctx}{t:List AV}{o:bC}{ty:eQ}{j:Array (Nat×bD)}{zs:List eR}{E:List (Nat×Nat)}{rs xs:List AV}[ZC P ty zs](G:o.op= .build ty j)(u:Eu P ty=lC E)
 (hx:(j.toList.map λp=>evA t p.2)=xs)(F:putCells E (zs.map .lit) ((j.toList.map λp=>p.1).zip xs)=lC rs)(h1:xs.all WG=aN):AT P C t h o (.agg rs):=by
 subst hx;rw[List.zip_map']at F;exact BT G u F (by rw[List.all_map]at h1;exact h1)
open Go.Maps
variable{f:kE}
instance At1:AG cF 109 aI 1:=⟨by kernel_rfl⟩
instance At0:SZ cF 109 1:=⟨by kernel_rfl⟩
instance Atz:ZC cF 109 [.map lB]:=⟨by kernel_rfl⟩
section
variable{C:Ctx}{t:List AV}{h:List jU}{o:bC}{K:St->Prop}
theorem Qj{ty:eQ}(E:o.op= .makeMap ty lB)(G:∀m,K ⟨Bn t o.dst (.lit (.map (lC m))),h++[.res (DV (λ_=>aI) m)]⟩):AOp cF C o ⟨t,h⟩ K:=by
 refine C1 (ι:=Nat) (Rs:=DV λ_=>aI) (val:=λm=>.map (lC m)) (λ_=>rfl) (λS ψ w ρ H u=>?_) G;have F:(fB ρ o).run cF w= .ok (.value (.map (lC w.heap.size))) (w.alloc (.map #[] 0)):=by simp[fB,E,run_makeMap]
 rw[F];have j:=(eK w.heap.size w).alloc (kR _) (.map #[] 0);refine⟨⟨j.os,j.tape,j.output,j.size,λk hk _=>j.block k hk⟩,w.heap.size,rfl,⟨.map [],Q9 (World.ownsMap_made w cF 41 (fF cF 3)),λx _=>by simp[has_eq]⟩,λk hk=>?_⟩;have hk:k=w.heap.size:=hk;subst hk;exact⟨.inr (kR _),by simp⟩
end
theorem LC(j:(NE f).length<=2097152):(AL f).length<=2097152:=kS (FI _).1 j
theorem OX(u:okFunc f):∀r∈AL f,Cm r:=λr j=>by
 refine(FI (NE f)).2 (λq hq=>?_) r j;unfold NE NC at hq;obtain⟨b,hb,hq⟩:=iS.1 hq;obtain⟨x,hx,hq⟩:=iS.1 hq;exact LA ((u.blocks b hb).ins x hx) q hq
theorem RZ{R:List Int}{S:Pair->Bool}{m:Nat}{a b:Int}(F:R.length<=2097152)(u:InP R S)(E:Cm a)(hb:Cm b):
 DO cF 89 (DV S m) [.lit (.map (lC m)),.lit (.int .i64 a),.lit (.int .i64 b)] (λ_:Unit=>DV (EO S (Dk a b)) m) (λ_=>.tuple #[]):=by
 have J:∀x,okPair x->S x=aN->x∈R.flatMap λa=>R.map λb=>(⟨a,b⟩:Pair):=λx _ hx=>by
  obtain⟨h1,h2,_⟩:=u x hx;exact iS.2 ⟨x.a,h1,iU.2 ⟨x.b,h2,rfl⟩⟩
 have j:∀l:List Int,(l.flatMap λa=>R.map λb=>(⟨a,b⟩:Pair)).length=l.length * R.length:=λl=>by
  induction l with
  |nil=>simp
  |cons a l G=>rw[gG,hZ,G,iD,iA,kO,kW,kM]
 have I:(R.flatMap λa=>R.map λb=>(⟨a,b⟩:Pair)).length < fE:=by
  rw[j];have:R.length * R.length<=2097152 * 2097152:=kU F F;unfold fE;omega
 refine Wt J I ?_;unfold O7 Dk;by_cases h:a=b
 ·subst h;rw[if_pos V,Dx];refine AB ?_ (Ag _);simp
 ·rw[if_neg h,Aio];have U:(if b < a then b else a)=min a b:=by rw[fJ];split <;> split <;> omega
  have O:(if b > a then b else a)=max a b:=by rw[fI];split <;> split <;> omega
  rw[U,O];refine Az ?_ (Ae ?_ (Ag _))
  ·have:min a b≠max a b:=by rw[fJ,fI];split <;> omega
   simp[this]
  ·unfold R7;rw[aG];constructor
   ·show wfB .i64 (min a b)=aN;rw[fJ];split
    ·exact E
    ·exact hb
   ·show wfB .i64 (max a b)=aN;rw[fI];split
    ·exact hb
    ·exact E
theorem Aho(f:kE)(ho:okFunc f)(hs:smallF f)(hT:(Cg f).length<=2097152)(hA:(NE f).length<=2097152)(av:∀b∈f.blocks,b.ins.length+1<=2097152):Nd cF 77 [.agg (Ak f)] (λm=>DV (Hq f) m) (λm=>.map (lC m)):=by
 have cf:=hs.blocks;have ai:(AL f).length<=2097152:=LC hA;have bc:(BA f).length<=2097152:=kS (Dr _) hT;have ab:∀r∈AL f,Cm r:=OX ho;refine SV Tryz.func77 V (by kernel_rfl) V Tryz.ntmps77 (λ_ _ _ _ h=>h) λC hC an=>?_
 refine nS ?_;refine Ab λK1 h1=>?_
 refine rC ?_;refine h1 _ ?_;refine nT ?_;refine Ab λK2 h2=>?_
 (refine jX ?_;(repeat(first|refine sQ ?_ (Ax V V V V)|refine sQ ?_ (Av V V V V)|refine sQ ?_|refine AO ?_|refine sG ?_|refine Bq ?_)))
 refine AF V (Qj V λm=>?_);refine sNt ?_
 (repeat(first|refine sQ ?_ (Ax V V V V)|refine sQ ?_ (Av V V V V)|refine sQ ?_|refine AO ?_|refine sG ?_|refine Bq ?_))
 refine Au ?_;refine h2 _ ?_;refine nT ?_;refine Bu 1 V V V (λg=>(.any::.lit (.pointer (lC ⟨g,0,lB⟩))::.lit (.map lB)::.ptr 3 0::A40 (A20 (A10 (A4 []))))) (λg=>(by(repeat(first|exact kI|refine kJ ?_|refine kG ?_|refine kH V ?_)))) λE=>?_
 refine Bu 3 V V V (λg=>(.any::.lit (.pointer (lC ⟨E,0,lB⟩))::.any::.lit (.pointer (lC ⟨g,0,lB⟩))::A40 (A20 (A10 (A4 []))))) (λg=>(by(repeat(first|exact kI|refine kJ ?_|refine kG ?_|refine kH V ?_)))) λu=>?_
 refine Ab λK3 h3=>?_
 refine Ab λK4 h4=>?_
 (refine jX ?_;(repeat(first|refine sQ ?_ (Ax V V V V)|refine sQ ?_ (Av V V V V)|refine sQ ?_|refine AO ?_|refine sG ?_|refine Bq ?_)))
 (repeat(first|refine sQ ?_ (Ax V V V V)|refine sQ ?_ (Av V V V V)|refine sQ ?_|refine AO ?_|refine sG ?_|refine Bq ?_))
 refine AF V (Cs V (OH f) (λ_=>rfl) V V λp=>?_);refine sNt ?_;refine Au ?_;refine h4 _ ?_;refine nT ?_;refine Ad ?_;refine AK ⟨(.any::.lit (.pointer (lC ⟨E,0,lB⟩))::.any::.lit (.pointer (lC ⟨u,0,lB⟩))::A10 (A3 (.lit (stF p)::A40 (A20 [])))),[.res (Bl []),.res (Bf E (Ak f)),.res (DV (Hs f 0) m),.res (Bf u [.lit (.map (lC m))]),.res (Bf p (Ak f))]⟩ (Kr (.cons (.cons (.cons (.cons (.cons (j6 _))))))) ?_;refine HJ 4 0 (λk=>[.dead,.res (Bf E (Ak f)),.res (DV (Hs f k) m),.res (Bf u [.lit (.map (lC m))]),.dead]) an (by kernel_rfl) (by decide) V V V ?hdrop V (λ_=>rfl) (λ_=>rfl) V (Adz f) (V4 f) (Mv f ho hs hT av p) ?hround ?hdone
 case hdrop=>
  exact⟨j5 (jZ (jZ (jZ (j5 (j6 _))))),λb hb=>fM.1 (show bdH [.dead,.res (Bf E (Ak f)),.res (DV (Hs f 0) m),.res (Bf u [.lit (.map (lC m))]),.dead]=aN from V) b hb⟩
 case hround=>
  intro k hk C' cb;obtain⟨q,hq⟩:∃q,(stepsL f)[k]? =lC q:=⟨_,gP hk⟩
  have X:=iV hq;obtain⟨⟨bl,az,al⟩,ao⟩:=Lt X;have cc:=(Db X).2.2;have aq:=(ho.blocks bl az).ins q.1 al;have ah:=Rl hq;have F:=Md f k;try dsimp only
  rw[XT hq];generalize ch:Hs f k=S0 at ah F⊢;refine C6 (t':=(.any::.lit (.pointer (lC ⟨E,0,lB⟩))::.any::.lit (.pointer (lC ⟨u,0,lB⟩))::A10 (A3 (.lit (stF p)::.agg (BZ q.1)::.bs tInt q.2::A40 (A10 (A8 [])))))) V V ?_;refine Ab λK6 h6=>?_
  refine rC ?_;refine h6 _ ?_;refine nT ?_;refine rC ?_;refine Ap λdc bz=>?_
  refine nT ?_;refine Ad ?_;refine Ab λK8 h8=>?_
  (refine jX ?_;(repeat(first|refine sQ ?_ (AT.call V (FT q.1 aq) V V V)|refine sQ ?_ (Ax V V V V)|refine sQ ?_ (Av V V V V)|refine sQ ?_|refine AO ?_|refine sG ?_|refine Bq ?_));refine Au ?_)
  refine h8 _ ?_;refine nT ?_;refine Ab λK9 h9=>?_
  refine rC ?_;refine h9 _ ?_;refine nT ?_;refine Ad ?_;have ap:=λi=>YQ F X i
  refine AH (λi:Nat=>⟨(.any::.lit (.pointer (lC ⟨E,0,lB⟩))::.any::.lit (.pointer (lC ⟨u,0,lB⟩))::.ptr 5 0::.any::.lit (.int .i64 (if Bd q.1 then q.1.d else 0))::.lit (.bool (Bd q.1))::A10 (A7 (.bs tInt q.2::.lit (.int .i64 (q.2.length:Int))::.lit (.int .i64 (i:Int))::A40 (A10 [])))),[.dead,.res (Bf E (Ak f)),.res (DV (IM S0 q i) m),.res (Bf u [.lit (.map (lC m))]),.dead,.box (BZ q.1)]⟩) (λi=>i<=q.2.length) (λi=>q.2.length - i) 0 (kX _) (by rw[Aa5];exact BX) ?_;intro i hi
  (try dsimp only at hi);(try dsimp only)
  refine Ab λdb bw=>?_
  refine rC ?_;refine bw _ ?_;refine nT ?_;refine Ab λda bv=>?_
  refine Ah V (λU=>?_) (λU=>?_)
  ·have Y:i < q.2.length:=by simpa using U
   obtain⟨r,hr⟩:∃r,q.2[i]? =lC r:=⟨_,gP Y⟩
   have am:=ab r (ao r (iV hr));refine Al ?_;refine bv _ ?_;refine nT ?_;refine Ab λcz ak=>?_
   refine Ad ?_;refine Ab λcy bu=>?_
   refine rC ?_;refine bu _ ?_;refine nT ?_;refine Ab λcx bt=>?_
   refine rC ?_;refine bt _ ?_;refine nT ?_;refine Ah V (λO=>?_) (λO=>?_)
   ·have aa:M0 q r=aN:=O;have hw:Bd q.1=aN:=by unfold M0 at aa;rw[aG]at aa;exact aa.1
    have hd:(if Bd q.1 then q.1.d else 0)=q.1.d:=if_pos hw;have e2:IM S0 q (i+1)=EO (IM S0 q i) (Dk (if Bd q.1 then q.1.d else 0) r):=by rw[hd];exact Ahr hr aa
    have ax:Cm (if Bd q.1 then q.1.d else 0):=by rw[hd];exact ab _ (Oa X hw)
    (refine jX ?_;(repeat(first|refine sQ ?_ (Ax V V V V)|refine sQ ?_ (Av V V V V)|refine sQ ?_|refine AO ?_|refine sG ?_|refine Bq ?_)))
    (repeat(first|refine sQ ?_ (Ax V V V V)|refine sQ ?_ (Av V V V V)|refine sQ ?_|refine AO ?_|refine sG ?_|refine Bq ?_))
    refine AF V (BR (i:=2) V V (RZ ai (ap i) ax am) (λ_=>rfl) V V λ_=>?_);refine sNt ?_;refine Au ?_;refine ak _ ?_;refine nT ?_;refine rC ?_;refine Ap ⟨i+1,by omega,by omega,?_⟩;rw[e2];exact BX
   ·have e2:IM S0 q (i+1)=IM S0 q i:=Al2 hr O;refine Al ?_;refine ak _ ?_;refine nT ?_;refine rC ?_;refine Ap ⟨i+1,by omega,by omega,?_⟩;rw[e2];exact BX
  ·have ac:i=q.2.length:=by
    have:¬i < q.2.length:=by simpa using U
    omega
   subst ac;have e3:IM S0 q q.2.length=Hs f (k+1):=by rw[ah,UW]
   rw[e3];refine Ay ?_;exact⟨rfl,⟨.cons (.cons (.cons (.cons (.cons (j6 _))))),λb hb=>fM.1 (show bdH [.dead,.res (Bf E (Ak f)),.res (DV (Hs f (k+1)) m),.res (Bf u [.lit (.map (lC m))]),.dead]=aN from V) b hb⟩⟩
 case hdone=>
  intro D;refine h3 _ ?_;refine C6 (t':=(.any::.lit (.pointer (lC ⟨E,0,lB⟩))::.any::.lit (.pointer (lC ⟨u,0,lB⟩))::A10 (A3 (.lit (stF p)::A40 (A20 []))))) (h':=[.res (Bl [D]),.res (Bf E (Ak f)),.res (DV (Hs f (stepsL f).length) m),.res (Bf u [.lit (.map (lC m))]),.dead]) V V ?_;have F:=Md f (stepsL f).length;have Z:Hq f=EO (Hs f (stepsL f).length) (edgeF (CZ f)):=rfl;generalize cg:Hs f (stepsL f).length=S1 at F Z⊢;refine Ab λcw aj=>?_
  refine Ab λcv br=>?_
  refine rC ?_;refine br _ ?_;refine nT ?_;refine Ah V (λJ=>?_) (λJ=>?_)
  ·have ag:0 < f.blocks.length:=by simpa using J
   have bb:(atF f 0)[0]? =lC (CZ f):=by
    unfold atF CZ;rw[if_pos ⟨by decide,by omega⟩,if_neg (by omega),show(0:Int).toNat=0 from V,GF];rfl
   have j:=UO f;have ad:(CZ f).length<=2097152:=by
    unfold CZ;rw[if_neg (by omega),GF];exact kS (iC _ _) bc
   generalize cd:CZ f=l at bb Z j ad;refine Ab λcu bq=>?_
   (refine jX ?_;(repeat(first|refine sQ ?_ (AT.call V (Ayp f 0 ho hs hT) V V V)|refine sQ ?_ (Ax V V V V)|refine sQ ?_ (Av V V V V)|refine sQ ?_|refine AO ?_|refine sG ?_|refine Bq ?_));refine Au ?_)
   refine bq _ ?_;refine nT ?_;refine Ab λct bo=>?_
   refine rC ?_;refine bo _ ?_;refine nT ?_;refine Ad ?_;refine AH (λi:Nat=>⟨(A3 (.lit (.pointer (lC ⟨u,0,lB⟩))::A6 (.bs tInt l::A40 (A5 (.bs tInt l::.lit (.int .i64 (l.length:Int))::.lit (.int .i64 (i:Int))::A10 (A9 [])))))),[.res (Bl [D]),.res (Bf E (Ak f)),.res (DV (Me S1 l i 0) m),.res (Bf u [.lit (.map (lC m))]),.dead]⟩) (λi=>i<=l.length) (λi=>l.length - i) 0 (kX _) (by rw[Aa6];exact BX) ?_;intro i hi
   (try dsimp only at hi);(try dsimp only)
   refine Ab λcr bn=>?_
   refine rC ?_;refine bn _ ?_;refine nT ?_;refine Ab λcq bm=>?_
   refine Ah V (λI=>?_) (λI=>?_)
   ·have Y:i < l.length:=by simpa using I
    obtain⟨a,ha⟩:∃a,l[i]? =lC a:=⟨_,gP Y⟩
    have ba:=ab a (j a (iV ha));have ca:(l.take i).length=i:=by rw[iI];omega
    refine Al ?_;refine bm _ ?_;refine nT ?_;refine Ab λcp bk=>?_
    refine Ad ?_;refine Ab λco bj=>?_
    refine rC ?_;refine bj _ ?_;refine nT ?_;refine Ab λcn bi=>?_
    (refine jX ?_;(repeat(first|refine sQ ?_ (P7 (l:=0) (m:=i) V V V V ⟨_,rfl⟩ (kX _) (by omega))|refine sQ ?_ (Ax V V V V)|refine sQ ?_ (Av V V V V)|refine sQ ?_|refine AO ?_|refine sG ?_|refine Bq ?_));refine Au ?_)
    refine bi _ ?_;refine nT ?_;refine Ad ?_;refine AH (λk:Nat=>⟨(A3 (.lit (.pointer (lC ⟨u,0,lB⟩))::A6 (.bs tInt l::.any::.lit (.int .i64 a)::A40 (A3 (.bs tInt l::.lit (.int .i64 (l.length:Int))::.lit (.int .i64 (i:Int))::A6 (.bs tInt (l.take i)::.lit (.int .i64 ((l.take i).length:Int))::.lit (.int .i64 (k:Int))::A10 [])))))),[.res (Bl [D]),.res (Bf E (Ak f)),.res (DV (Me S1 l i k) m),.res (Bf u [.lit (.map (lC m))]),.dead]⟩) (λk=>k<=i) (λk=>i - k) 0 (kX _) (BX) ?_;intro k hk
    (try dsimp only at hk);(try dsimp only)
    refine Ab λcm bh=>?_
    refine rC ?_;refine bh _ ?_;refine nT ?_;refine Ab λck bg=>?_
    refine Ah V (λG=>?_) (λG=>?_)
    ·have ar:k < i:=by
      have:(k:Int) < ((l.take i).length:Int):=of_decide_eq_true G;omega
     obtain⟨b,ae⟩:∃b,l[k]? =lC b:=⟨_,gP (by omega)⟩
     have ce:(l.take i)[k]? =lC b:=by rw[List.getElem?_take,if_pos ar];exact ae
     have ay:=ab b (j b (iV ae));have e2:=Aa7 (S:=S1) ha ae;refine Al ?_;refine bg _ ?_;refine nT ?_;refine Ab λcj bf=>?_
     refine Ad ?_;refine Ab λci be=>?_
     refine rC ?_;refine be _ ?_;refine nT ?_
     (refine jX ?_;(repeat(first|refine sQ ?_ (Ax V V V V)|refine sQ ?_ (Av V V V V)|refine sQ ?_|refine AO ?_|refine sG ?_|refine Bq ?_)))
     (repeat(first|refine sQ ?_ (Ax V V V V)|refine sQ ?_ (Av V V V V)|refine sQ ?_|refine AO ?_|refine sG ?_|refine Bq ?_))
     refine AF V (BR (i:=2) V V (RZ ai (YR F j hi (.inr Y)) ba ay) (λ_=>rfl) V V λ_=>?_);refine sNt ?_;refine Au ?_;refine bf _ ?_;refine nT ?_;refine rC ?_;refine Ap ⟨k+1,by omega,by omega,?_⟩;rw[e2];exact BX
    ·have au:k=i:=by
      have:¬(k:Int) < ((l.take i).length:Int):=of_decide_eq_false G;omega
     subst au;rw[Aa8];refine Ay (BF (BF (exN (abN (Ap (bk _ ?_))))));refine nT ?_;refine rC ?_;refine Ap ⟨k+1,by omega,by omega,?_⟩;exact BX
   ·have ac:i=l.length:=by
     have:¬i < l.length:=by simpa using I
     omega
    subst ac;rw[UX,<-Z];refine Ay (BF (BF (exN (Ap (aj _ ?_)))));refine nT ?_;refine Ab λbx af=>?_
    refine rC ?_;refine af _ ?_;refine nT ?_;exact Aw ⟨.inr V,[D],2,m,rfl,rfl,by decide,rfl,rfl⟩
  ·have ag:f.blocks.length=0:=by
    have:¬0 < f.blocks.length:=by simpa using J
    omega
   have ad:CZ f= []:=by unfold CZ;rw[if_pos ag]
   have aw:Hq f=S1:=by rw[Z,ad];exact Dx _
   rw[<-aw];refine Al ?_;refine aj _ ?_;refine nT ?_;refine Ab λbx af=>?_
   refine rC ?_;refine af _ ?_;refine nT ?_;exact Aw ⟨.inr V,[D],2,m,rfl,rfl,by decide,rfl,rfl⟩
instance Aqs:AG cF 109 aI 1:=⟨by kernel_rfl⟩
instance Aqr:SZ cF 109 1:=⟨by kernel_rfl⟩
instance Aqq:ZC cF 109 [.map lB]:=⟨by kernel_rfl⟩
theorem UV(j:(NE f).length<=2097152):InRow (AL f) (Hq f):=⟨(CO f).1,LC j,Ahp f⟩
theorem Af2(j:(NE f).length<=2097152):InRow (AL f) (mvK f (stepsL f).length):=⟨(CO f).1,LC j,LV f _⟩
theorem YP(f:kE)(u:okFunc f)(F:smallF f)(G:(Cg f).length<=2097152)(E:(NE f).length<=2097152)(j:∀b∈f.blocks,b.ins.length+1<=2097152):Fn cF 41 [.agg (Ak f)] (.bs Dp (CE f)):=by
 refine AQ Tryz.func41 V (by kernel_rfl) V Tryz.ntmps41 λC I=>?_
 refine nS ?_;refine Ab λO h1=>?_
 refine rR ?_;refine h1 _ ?_;refine nT ?_;refine Ab λJ h2=>?_
 (refine jX ?_;(repeat(first|refine sQ ?_|refine AO ?_|refine Bq ?_)))
 refine AF V (Cs V (Aho f u F G E j) (λ_=>rfl) V V λm=>?_);refine sNt ?_;refine AF V (BR (i:=1) V V (Re (UV E) (OX u) m) (λ_=>rfl) V V λv=>?_);refine sNt ?_
 (repeat(first|refine sQ ?_|refine AO ?_|refine Bq ?_))
 refine Au ?_;refine h2 _ ?_;refine nT ?_;refine AK _ (Iv 1 (ver:=0) (t':=(A2 (.own 1 0::A3 []))) V V (by(try simp only[Bn,zac]);(repeat(first|exact Cls.nil|refine Cls.own ?_|refine Cls.any ?_|refine Cls.keep V ?_)))) ?_;refine nT ?_;exact Aw ⟨.inr V,kA V⟩
theorem Ak1(f:kE)(ho:okFunc f)(hs:smallF f)(hT:(Cg f).length<=2097152)(hA:(NE f).length<=2097152)(U:∀b∈f.blocks,b.ins.length+1<=2097152):Fn cF 50 [.agg (Ak f)] (.bs Dp (mvL f)):=by
 have ad:=hs.blocks;have Z:(AL f).length<=2097152:=LC hA;have G:∀r∈AL f,Cm r:=OX ho;refine FN Tryz.func50 V (by kernel_rfl) V Tryz.ntmps50 λC hC O=>?_
 refine nS ?_;refine Ab λK1 h1=>?_
 refine rR ?_;refine h1 _ ?_;refine nT ?_;refine Ab λK2 h2=>?_
 (refine jX ?_;(repeat(first|refine sQ ?_|refine AO ?_|refine Bq ?_)))
 refine AF V (Qj V λm=>?_);refine sNt ?_
 (repeat(first|refine sQ ?_|refine AO ?_|refine Bq ?_))
 refine Au ?_;refine h2 _ ?_;refine nT ?_;refine Bu 1 V V V (λg=>(.any::.lit (.pointer (lC ⟨g,0,lB⟩))::.any::.ptr 3 0::A10 (A7 []))) (λg=>(by(repeat(first|exact kI|refine kJ ?_|refine kG ?_|refine kH V ?_)))) λu=>?_
 refine Bu 3 V V V (λg=>(.any::.lit (.pointer (lC ⟨u,0,lB⟩))::.any::.lit (.pointer (lC ⟨g,0,lB⟩))::A10 (A7 []))) (λg=>(by(repeat(first|exact kI|refine kJ ?_|refine kG ?_|refine kH V ?_)))) λE=>?_
 refine Ab λK3 h3=>?_
 refine Ab λK4 h4=>?_
 (refine jX ?_;(repeat(first|refine sQ ?_|refine AO ?_|refine Bq ?_)))
 (repeat(first|refine sQ ?_|refine AO ?_|refine Bq ?_))
 refine AF V (Cs V (OH f) (λ_=>rfl) V V λp=>?_);refine sNt ?_;refine Au ?_;refine h4 _ ?_;refine nT ?_;refine Ad ?_;refine AK ⟨(.any::.lit (.pointer (lC ⟨u,0,lB⟩))::.any::.lit (.pointer (lC ⟨E,0,lB⟩))::A3 (.lit (stF p)::A10 (A3 []))),[.res (Bl []),.res (Bf u (Ak f)),.res (DV (mvK f 0) m),.res (Bf E [.lit (.map (lC m))]),.res (Bf p (Ak f))]⟩ (Kr (.cons (.cons (.cons (.cons (.cons (j6 _))))))) ?_;refine HJ 4 0 (λk=>[.dead,.res (Bf u (Ak f)),.res (DV (mvK f k) m),.res (Bf E [.lit (.map (lC m))]),.dead]) O (by kernel_rfl) (by decide) V V V ?hdrop V (λ_=>rfl) (λ_=>rfl) V (Adz f) (V4 f) (Mv f ho hs hT U p) ?hround ?hdone
 case hdrop=>
  exact⟨j5 (jZ (jZ (jZ (j5 (j6 _))))),λb hb=>fM.1 (show bdH [.dead,.res (Bf u (Ak f)),.res (DV (mvK f 0) m),.res (Bf E [.lit (.map (lC m))]),.dead]=aN from V) b hb⟩
 case hround=>
  intro k hk C' ac;obtain⟨q,hq⟩:∃q,(stepsL f)[k]? =lC q:=⟨_,gP hk⟩
  have I:=iV hq;have F:=Po hq;have J:=LV f k;try dsimp only
  rw[XT hq];generalize ae:mvK f k=S0 at F J⊢;refine C6 (t':=(.any::.lit (.pointer (lC ⟨u,0,lB⟩))::.any::.lit (.pointer (lC ⟨E,0,lB⟩))::A3 (.lit (stF p)::.agg (BZ q.1)::.bs tInt q.2::A10 [.any]))) V V ?_;refine rR ?_;refine Ap λag ab=>?_
  refine nT ?_;refine Ad ?_;refine Ab λK8 h8=>?_
  refine rR ?_;refine h8 _ ?_;refine nT ?_;refine Ah V (λj=>?_) (λj=>?_)
  ·have h2:q.1.op=2:=by simpa using j
   have e2:mvK f (k+1)=EO S0 (Dk q.1.d q.1.a):=by rw[F];unfold mvA;rw[if_pos h2]
   have X:Cm q.1.d:=G _ (Oa I (MK h2).1);have Y:Cm q.1.a:=G _ (X6 I h2)
   (refine jX ?_;(repeat(first|refine sQ ?_|refine AO ?_|refine Bq ?_)))
   (repeat(first|refine sQ ?_|refine AO ?_|refine Bq ?_))
   refine AF V (BR (i:=2) V V (RZ Z J X Y) (λ_=>rfl) V V λ_=>?_);refine sNt ?_;refine Au ?_;rw[<-e2];exact⟨rfl,⟨.cons (.cons (.cons (.cons (.cons (j6 _))))),λb hb=>fM.1 (show bdH [.dead,.res (Bf u (Ak f)),.res (DV (mvK f (k+1)) m),.res (Bf E [.lit (.map (lC m))]),.dead]=aN from V) b hb⟩⟩
  ·have e2:mvK f (k+1)=S0:=by
    rw[F];unfold mvA;rw[if_neg (by simpa using j),Dx]
   refine Al ?_;rw[e2];exact⟨rfl,⟨.cons (.cons (.cons (.cons (.cons (j6 _))))),λb hb=>fM.1 (show bdH [.dead,.res (Bf u (Ak f)),.res (DV S0 m),.res (Bf E [.lit (.map (lC m))]),.dead]=aN from V) b hb⟩⟩
 case hdone=>
  intro D;refine h3 _ ?_;refine C6 (t':=(.any::.lit (.pointer (lC ⟨u,0,lB⟩))::.any::.lit (.pointer (lC ⟨E,0,lB⟩))::A3 (.lit (stF p)::A10 (A3 [])))) (h':=[.res (Bl [D]),.res (Bf u (Ak f)),.res (DV (mvK f (stepsL f).length) m),.res (Bf E [.lit (.map (lC m))]),.dead]) V V ?_;refine Ab λaf aa=>?_
  (refine jX ?_;(repeat(first|refine sQ ?_|refine AO ?_|refine Bq ?_)))
  refine AF V (BR (i:=2) V V (Re (Af2 hA) G m) (λ_=>rfl) V V λv=>?_);refine sNt ?_
  (repeat(first|refine sQ ?_|refine AO ?_|refine Bq ?_))
  refine Au ?_;refine aa _ ?_;refine nT ?_;refine AK _ (Iv 2 (ver:=0) (t':=(A2 (.own 2 0::A10 (A8 [])))) V V (by(try simp only[Bn,zac]);(repeat(first|exact Cls.nil|refine Cls.own ?_|refine Cls.any ?_|refine Cls.keep V ?_)))) ?_;refine nT ?_;exact Aw ⟨.inr V,[D],rfl,rfl,kA V⟩
end Mu
