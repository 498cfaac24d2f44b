/-
  Lemmas for N, part 3.
  Conditions: as each lemma says.
-/
import Derived.Test.YtnhheaffnpflfaaGreatCn2
import Derived.Shelf.Strconv.Itoa3
import Derived.Shelf.Slices.Empties
import Derived.Shelf.SlSortCmp.NoneTotal
import Derived.Shelf.SlicesG.Cmp
import Derived.StillTailTactics
set_option maxRecDepth 100000
set_option maxHeartbeats 8000000
set_option linter.unusedSimpArgs false
set_option linter.unusedVariables false
open Array renaming getElem?_eq_some_iff->aA,getElem?_modify->aB,getElem?_toList->aC,length_toList->aD,mem_append->aE,toList_map->aF
open Bool renaming and_eq_true->aG,decide_or->aH,false->aI,false_eq_true->aJ,false_or->aK,or_assoc->aL,or_eq_true->aM,true->aN
open Decidable renaming decide->aO
open Go renaming Calls->aP,CallsIn->aR,DataW->aS,FuncId->aU,MapEntry->a6,MemPlace->a8,Oper->bC,Operand->bD,Program->bE,TypeId->eQ,Value->eR,World->eX,callsIn_wide->fA,execOp->fB,getObj->fC,heap_alloc_new->fD,maxLen->fE,plainElem->fF,rounds_succ->fG
open Go.Fence renaming wide->aT
open Go.Instr renaming entry->aV,mapUpdate->aW
open Go.IntKind renaming i64->aX
open Go.Lib renaming compact->aY,compareInt->aZ
open Go.Maps renaming size->a7
open Go.Obj renaming cells->bA
open Go.Op renaming operands->bB
open Go.Proofs.Tryz renaming func107->bF,func111->bG,func126->bH,func127->bI,func128->bJ,func146->bK,func147->bL,func97->bM,func99->bN,isAgg0->bO,isAgg104->bP,isAgg143->bR,isAgg144->bS,isAgg151->bT,isAgg166->bU,isAgg170->bV,isAgg185->bW,isAgg186->bX,isAgg27->bY,isAgg3->bZ,isAgg4->b9,isAgg45->cA,isAgg5->cB,isAgg68->cC,isAgg9->cD,ntmps128->cE,prog->cF,sizeOf0->cG,sizeOf104->cH,sizeOf143->cI,sizeOf144->cJ,sizeOf151->cL,sizeOf166->cM,sizeOf170->cN,sizeOf185->cO,sizeOf186->cP,sizeOf27->cQ,sizeOf3->cR,sizeOf4->cT,sizeOf45->cU,sizeOf5->cV,sizeOf68->cW,sizeOf9->cX,underlying0->cY,underlying104->cZ,underlying109->dA,underlying143->dB,underlying144->dC,underlying151->dD,underlying166->dE,underlying170->dF,underlying185->dG,underlying186->dH,underlying27->dI,underlying3->dJ,underlying4->dK,underlying41->dL,underlying45->dM,underlying5->dN,underlying51->dO,underlying68->dP,underlying9->dQ,zeroValue0->dR,zeroValue104->dT,zeroValue143->dU,zeroValue144->dV,zeroValue151->dW,zeroValue166->dX,zeroValue170->dY,zeroValue185->dZ,zeroValue186->eA,zeroValue27->eB,zeroValue3->eC,zeroValue4->eD,zeroValue45->eE,zeroValue5->eF,zeroValue68->eG,zeroValue9->eH
open Go.Result renaming andThen->eI,andThen_ok->eJ
open Go.RowKit.Below renaming refl->eK
open Go.Shelf renaming Ren->eL
open Go.Sort renaming ahead->eM,alloc_eq_grow->eN,putCells->eO,putRow->eP
open Go.Value renaming int->eS,map->eT
open Go.WideElems renaming rd_key->eU,rg->eV,rg_of->eW
open Go.World renaming cell?->eY,drew->eZ
open Int renaming lt_trichotomy->fH,max_def->fI,min_def->fJ,toNat_natCast->fK
open List renaming all_eq_true->fM,any_eq_true->fN,append_assoc->fO,append_nil->fP,cons_append->fQ,contains_eq_mem->fR,contains_iff_mem->fS,count_append->fT,count_cons_self->fU,drop_zero->fV,eq_nil_of_length_eq_zero->fW,ext_getElem?->fX,filter_append->fY,filter_cons->fZ,filter_eq_nil_iff->gB,filter_nil->gC,findIdx?_eq_none_iff->gD,findIdx?_eq_some_iff_getElem->gE,flatMap_append->gF,flatMap_cons->gG,flatMap_nil->gH,foldl_append->gI,foldl_cons->gJ,getD_eq_getElem?_getD->gK,getElem?_append_right->gL,getElem?_cons_zero->gN,getElem?_drop->gO,getElem?_eq_getElem->gP,getElem?_eq_none->gQ,getElem?_eq_some_iff->gR,getElem?_map->gT,getElem?_range->gU,getElem?_replicate->gV,getElem?_set_ne->gW,getElem?_set_self->gX,getElem?_take_eq_none->gY,getElem?_take_of_lt->gZ,getElem_mem->g8,head?_drop->g9,length_append->hZ,length_cons->iA,length_erase_of_mem->iB,length_filter_le->iC,length_map->iD,length_mergeSort->iE,length_nil->iF,length_pos_of_mem->iG,length_reverse->iH,length_take->iI,map_append->iJ,map_cons->iK,map_nil->iL,mem_append->iM,mem_cons->iN,mem_cons_of_mem->iO,mem_cons_self->iP,mem_erase_of_ne->iQ,mem_filter->iR,mem_flatMap->iS,mem_iff_getElem?->iT,mem_map->iU,mem_of_getElem?->iV,mem_of_mem_take->iW,mem_or_eq_of_mem_set->iX,mem_range->iY,mem_reverse->iZ,mem_singleton->i6,mergeSort_perm->i7,nil_append->i8,nodup_append->i9,nodup_cons->jA,nodup_nil->jB,not_mem_nil->jC,pairwise_append->jD,pairwise_cons->jE,pairwise_map->jF,pairwise_reverse->jG,range->jH,range_succ->jI,replicate->jJ,set_cons_succ->jK,set_cons_zero->jL,sum_append->jM,sum_cons->jN,take_add_one->jO,take_append_drop->jP,take_length->jQ,take_of_length_le->jR,take_one->jS,take_zero->jT
open List.Pairwise renaming nil->fL
open Mu renaming ABlk->jU,Block->jY,Edge->j7,EncOf->j8,Func->kE,LOut->kF
open Mu.AV renaming cl->jV,rel->jW
open Mu.Awp renaming region->jX
open Mu.Cut renaming cons->jZ,dead->j5,nil->j6
open Mu.Fin renaming cl->j9,own->kA
open Mu.Fit renaming bool->kB,bs->kC,int->kD
open Mu.OpnB renaming any->kG,keep->kH,nil->kI,ptr->kJ
open Mu.Ty renaming bool->kK
open Nat renaming add_assoc->kL,add_comm->kM,add_mul->kO,add_zero->kP,le_of_ble_eq_true->kQ,le_refl->kR,le_trans->kS,lt_of_lt_of_le->kT,mul_le_mul->kU,mul_one->kV,one_mul->kW,zero_le->kX,zero_lt_one->kY
open Ne renaming symm->kZ
open Option renaming isSome_map->lA,none->lB,some->lC,toList_some->lF
open Option.some renaming inj->lD,injEq->lE
abbrev Mu.zav.{u}:=And.intro @iM.{u} (And.intro @iN.{u} (@jC.{u}))
abbrev Mu.zat.{u}:=And.intro @hZ.{u} (And.intro @iA.{u} (@iF.{u}))
namespace Mu
open Go Go.RowKit Go.Proofs
variable{b:Nat}{f:kE}{l:List Ins}
def Tv(l:List Ins)(m:Nat):Nat:=((l.take m).map λx=>x.args.length).sum
def sumB(f:kE)(b:Nat):Nat:=((f.blocks.take b).map λa=>a.ins.length+Tv a.ins 200).sum
def Jz(f:kE):Bool:=aO (40 < f.blocks.length)||decide (250 < sumB f 60)
theorem Tu{m:Nat}{x:Ins}(hx:l[m]? =lC x):Tv l (m+1)=Tv l m+x.args.length:=by
 unfold Tv;rw[jO,hx,iJ,jM];simp
theorem Tt{x:jY}(hx:f.blocks[b]? =lC x):sumB f (b+1)=sumB f b+(x.ins.length+Tv x.ins 200):=by
 unfold sumB;rw[jO,hx,iJ,jM];simp
theorem Ady(h:∀x∈l,x.args.length<=2097152)(m:Nat):Tv l m<=m * 2097152:=by
 induction m with
 |zero=>simp[Tv]
 |succ m a=>
  cases hx:l[m]? with
  |none=>
   have:Tv l (m+1)=Tv l m:=by unfold Tv;rw[jO,hx];simp
   omega
  |some x=>
   rw[Tu hx];have:=h x (iV hx);omega
theorem Apc(c:smallF f)(b:Nat):sumB f b<=b * 421527552:=by
 induction b with
 |zero=>simp[sumB]
 |succ b d=>
  cases hx:f.blocks[b]? with
  |none=>
   have:sumB f (b+1)=sumB f b:=by unfold sumB;rw[jO,hx];simp
   omega
  |some x=>
   rw[Tt hx];have h1:=c.all x (iV hx);have h2:=h1.ins;have e:=Ady (l:=x.ins) (λy a=>by have:=h1.all y a;omega) 200;omega
theorem Ajz{i:Nat}(hi:i<=l.length)(h:¬(i < l.length/\i < 200))(h2:i<=200):Tv l i=Tv l 200:=by
 by_cases a:i < l.length
 ·have:i=200:=by omega
  rw[this]
 ·have:i=l.length:=by omega
  unfold Tv;rw[jR (by omega),jR (by omega)]
theorem Ajy(hi:b<=f.blocks.length)(h:¬(b < f.blocks.length/\b < 60))(h2:b<=60):sumB f b=sumB f 60:=by
 by_cases a:b < f.blocks.length
 ·have:b=60:=by omega
  rw[this]
 ·have:b=f.blocks.length:=by omega
  unfold sumB;rw[jR (by omega),jR (by omega)]
theorem Tn{p q:Bool}(h:¬(p=aN/\q=aN)):p=aI\/(p=aN/\q=aI):=by cases p <;> cases q <;> simp at h⊢
theorem Aay(f:kE)(z:smallF f):Fn cF 19 [.agg (An f)] (.lit (.bool (Jz f))):=by
 have S:=z.blocks;refine AT Tryz.func19 V (by kernel_rfl) V Tryz.ntmps19 λC hC=>?_
 refine nS ?_;refine rRS ?_;refine rRS ?_;refine Ae λK3 Z=>?_
 refine rRS ?_;refine Ah ?_;refine AJ (λb:Nat=>⟨(.any::.ptr 0 0::.any::.lit (.int .i64 (sumB f b:Int))::.lit (.int .i64 (b:Int))::A40 (A10 (A7 []))),[.box (An f)]⟩) (λb=>b<=f.blocks.length/\b<=60) (λb=>f.blocks.length - b) 0 ⟨kX _,kX _⟩ (B6) ?_;rintro b ⟨d,t⟩;have J:=Apc z b;refine Ae λK5 Y=>?_
 by_cases e:b < f.blocks.length/\b < 60
 ·have Q:aO ((b:Int) < (f.blocks.length:Int))=aN:=by simpa using e.1
  have P:aO ((b:Int) < 60)=aN:=by simp;omega
  obtain⟨c,s⟩:∃c,f.blocks[b]? =lC c:=⟨_,gP e.1⟩
  have o:=z.all c (iV s);have T:=o.ins;have q:=Tt s;refine rRS ?_;refine Am V (λU=>?_) (λd=>by cases d);refine Ao ?_;refine Y _ ?_;refine nT ?_;refine Ae λK8 W=>?_
  refine Ah ?_;refine rRS ?_;refine rRS ?_;refine Ah ?_;refine AJ (λi:Nat=>⟨(.any::.ptr 0 0::.any::.lit (.int .i64 ((sumB f b+c.ins.length+Tv c.ins i:Nat):Int))::.lit (.int .i64 (b:Int))::.lit (.int .i64 (i:Int))::A40 (A10 (A6 []))),[.box (An f)]⟩) (λi=>i<=c.ins.length/\i<=200) (λi=>c.ins.length - i) 0 ⟨kX _,kX _⟩ (B6) ?_;rintro i ⟨hi,n⟩;have K:=Ady (l:=c.ins) (λy H=>by have:=o.all y H;omega) i;refine Ae λac D=>?_
  by_cases g:i < c.ins.length/\i < 200
  ·have O:aO ((i:Int) < (c.ins.length:Int))=aN:=by simpa using g.1
   have N:aO ((i:Int) < 200)=aN:=by simp;omega
   obtain⟨x,hx⟩:∃x,c.ins[i]? =lC x:=⟨_,gP g.1⟩
   have I:=o.all x (iV hx);have w:=Tu hx;refine rRS ?_;refine Am V (λF=>?_) (λd=>by cases d);refine Ao ?_;refine D _ ?_;refine nT ?_;refine Ae λab A=>?_
   refine Ah ?_;refine rR ?_;refine A _ ?_;refine nT ?_;refine rR ?_;refine As ⟨i+1,⟨by omega,by omega⟩,by omega,?_⟩;rw[w,<-kL];exact B6
  ·have j:aO ((i:Int) < (c.ins.length:Int))=aI\/(aO ((i:Int) < (c.ins.length:Int))=aN/\aO ((i:Int) < 200)=aI):=Tn λh=>g ⟨by simpa using h.1,by have:=of_decide_eq_true h.2;omega⟩
   refine Ae λE B=>?_
   have k:=Ajz hi g n;have a:∀s':St,St.le C s' ⟨(.any::.ptr 0 0::.any::.lit (.int .i64 ((sumB f b+c.ins.length+Tv c.ins 200:Nat):Int))::.lit (.int .i64 (b:Int))::A20 (A10 (A3 (.lit (.bool aI)::A20 (A3 []))))),[.box (An f)]⟩->E s':=λs' m=>by
    refine B _ (AN _ m ?_);refine Am V (λd=>by cases d) (λd=>?_);refine AA ?_;refine W _ ?_;refine nT ?_;refine rR ?_;refine As ⟨b+1,⟨by omega,by omega⟩,by omega,?_⟩;rw[q,<-kL];exact B6
   rw[<-k]at a;rcases j with v|⟨v,G⟩
   all_goals
    refine rR ?_;refine As (a _ ?_);exact B6
 ·have j:aO ((b:Int) < (f.blocks.length:Int))=aI\/(aO ((b:Int) < (f.blocks.length:Int))=aN/\aO ((b:Int) < 60)=aI):=Tn λh=>e ⟨by simpa using h.1,by have:=of_decide_eq_true h.2;omega⟩
  refine Ae λK6 X=>?_
  have k:=Ajy d e t;have a:∀s':St,St.le C s' ⟨(.any::.ptr 0 0::.any::.lit (.int .i64 (sumB f 60:Int))::A10 (.lit (.bool aI)::A40 (A7 []))),[.box (An f)]⟩->K6 s':=λs' m=>by
   refine X _ (AN _ m ?_);refine Am V (λd=>by cases d) (λd=>?_);refine AA ?_;refine Z _ ?_;refine nT ?_;refine Ae λaa u=>?_
   have r:aO ((f.blocks.length:Int) > 40)=aO (40 < f.blocks.length):=by rw[decide_eq_decide];omega
   have L:aO ((sumB f 60:Int) > 250)=aO (250 < sumB f 60):=by rw[decide_eq_decide];omega
   rcases hq1:aO (40 < f.blocks.length)with _|_
   ·rw[hq1]at r;refine rR ?_;refine u _ ?_;refine nT ?_;refine Az ?_;have:Jz f=aO (250 < sumB f 60):=by unfold Jz;rw[hq1];rfl
    rw[this];exact⟨.inr V,j9 V⟩
   ·rw[hq1]at r;refine rR ?_;refine u _ ?_;refine nT ?_;refine Az ?_;have:Jz f=aN:=by unfold Jz;rw[hq1];rfl
    rw[this];exact⟨.inr V,j9 V⟩
  rw[<-k]at a;rcases j with v|⟨v,G⟩
  all_goals
   refine rR ?_;refine As (a _ ?_);exact B6
end Mu
namespace Mu
open Go
variable{L:List Int}{S:Int->Bool}{Ss Ss0:List (Int->Bool)}{b:Nat}{f:kE}{k:Nat}{r:Int}
def SR(f:kE)(b:Nat):List Int:=(G6 f f.blocks.length).getD b []
theorem Vz{f:kE}(m b:Nat)(j:b < f.blocks.length):∀(a:List (Blk f)) (c:List (List Int)),c.length=f.blocks.length->∀x,x∈(Le m a c).getD b []↔x∈c.getD b []\/(x=(m:Int)/\∃y∈a,y.1=b)
 | [],c,_,x=>by simp[Le]
 |y::a,c,i,x=>by
  show x∈(Le m a (Ac5 m c y)).getD b []↔_;rw[Vz m b j a (Ac5 m c y) (by simp[Ac5,i]) x];have e:x∈(Ac5 m c y).getD b []↔x∈c.getD b []\/(x=(m:Int)/\y.1=b):=by
   unfold Ac5;by_cases g:y.1=b
   ·rw[<-g,gK,gX (by rw[i];exact y.2)];simp
   ·rw[gK,gW g,<-gK];simp[g]
  rw[e];constructor
  ·rintro((h|h)|⟨h1,z,h2,d⟩)
   ·exact .inl h
   ·exact .inr ⟨h.1,y,by simp,h.2⟩
   ·exact .inr ⟨h1,z,by simp[h2],d⟩
  ·rintro(h|⟨h1,z,h2,d⟩)
   ·exact .inl (.inl h)
   ·rcases iN.1 h2 with rfl|h2
    ·exact .inl (.inr ⟨h1,d⟩)
    ·exact .inr ⟨h1,z,h2,d⟩
theorem Y8{f:kE}(b:Nat)(c:b < f.blocks.length):∀(m:Nat) (x:Int),x∈(G6 f m).getD b []↔∃k:Nat,k < m/\j7 f k b/\x=(k:Int)
 |0,x=>by
  rw[G6,gK,gV];split <;> simp
 |m+1,x=>by
  rw[G6,Vz m b c _ _ (Gi f m),Y8 b c m];constructor
  ·rintro(⟨k,h1,h2,a⟩|⟨h1,y,h2,a⟩)
   ·exact⟨k,by omega,h2,a⟩
   ·exact⟨m,by omega,⟨y,h2,a⟩,h1⟩
  ·rintro⟨k,h1,h2,a⟩;by_cases hk:k=m
   ·subst hk;obtain⟨y,e,d⟩:=h2;exact .inr ⟨a,y,e,d⟩
   ·exact .inl ⟨k,by omega,h2,a⟩
theorem Iw(h:j7 f k b):k < f.blocks.length/\b < f.blocks.length:=by
 obtain⟨y,h1,rfl⟩:=h;refine⟨?_,y.2⟩;unfold Hq at h1;rw[if_pos (by omega)]at h1;simp only[fK]at h1;cases hk:f.blocks[k]? with
 |none=>rw[hk]at h1;cases h1
 |some a=>exact(gR.1 hk).1
theorem Ke(c:b < f.blocks.length)(x:Int):x∈SR f b↔∃k:Nat,j7 f k b/\x=(k:Int):=by
 unfold SR;rw[Y8 b c];constructor
 ·rintro⟨k,_,h2,a⟩;exact⟨k,h2,a⟩
 ·rintro⟨k,h2,a⟩;exact⟨k,(Iw h2).1,h2,a⟩
def at_(Ss:List (Int->Bool))(k:Nat):Int->Bool:=Ss.getD k λ_=>aI
theorem Aik{j:Nat}(hk:k < Ss.length):at_ (Ss.set k S) j=if j=k then S else at_ Ss j:=by
 unfold at_;by_cases a:j=k
 ·subst a;rw[if_pos V,gK,gX hk];rfl
 ·rw[if_neg a,gK,gW (kZ a),<-gK]
def Pz(L:List Int)(Ss:List (Int->Bool)):Nat:=(Ss.map λS=>L.length - (L.filter S).length).sum
theorem YA{L:List Int}:∀{Ss:List (Int->Bool)} {k:Nat} {S N:Int->Bool},Ss[k]? =lC S->(L.filter S).length < (L.filter N).length->Pz L (Ss.set k N) < Pz L Ss
 | [],k,S,N,h,_=>by simp at h
 |T::Ss,0,S,N,h,a=>by
  have h:T=S:=by simpa using h
  subst h;have:=iC N L;simp only[Pz,jL,iK,jN];omega
 |T::Ss,k+1,S,N,h,a=>by
  have:=YA (L:=L) (Ss:=Ss) (k:=k) (by simpa using h) a;simp only[Pz,jK,iK,jN]at this⊢;omega
theorem Aqc(L:List Int)(Ss:List (Int->Bool)):Pz L Ss<=Ss.length * L.length:=by
 induction Ss with
 |nil=>simp[Pz]
 |cons S Ss a=>
  simp only[Pz,iK,jN,iA]at a⊢;rw[kO,kW];omega
structure AllI(f:Func)(L:List Int)(wait:List Nat)(Ss:List (Int->Bool)):Prop where
 len:Ss.length=f.blocks.length
 lt:∀b∈wait,b < f.blocks.length
 sound:∀k r,at_ Ss k r=true->LOut f k r
 sub:∀k,Sub L (at_ Ss k)
 closed:∀k b,Edge f k b->b∉wait->∀r,inS (Cq f b) (at_ Ss b) r=true->at_ Ss k r=true
structure AllJ(f:Func)(L:List Int)(b:Nat)(wait0:List Nat)(Ss0:List (Int->Bool))(pre:List Int)(wait:List Nat)(Ss:List (Int->Bool)):Prop where
 len:Ss.length=f.blocks.length
 lt:∀b∈wait,b < f.blocks.length
 sound:∀k r,at_ Ss k r=true->LOut f k r
 sub:∀k,Sub L (at_ Ss k)
 mono:∀k r,at_ Ss0 k r=true->at_ Ss k r=true
 kept:∀k,k∉wait->at_ Ss k=at_ Ss0 k/\k∉wait0
 done:∀k:Nat,(k:Int)∈pre->∀r,inS (Cq f b) (at_ Ss0 b) r=true->at_ Ss k r=true
 less:2 * Pz L Ss+wait.length<=2 * Pz L Ss0+wait0.length
theorem AllI.start{a:List Nat}(d:∀b,b∈a↔b < f.blocks.length):AllI f L a (jJ f.blocks.length λ_=>aI):=by
 have h0:∀k,at_ (jJ f.blocks.length λ_=>aI) k=λ_=>aI:=λk=>by
  unfold at_;rw[gK,gV];split <;> rfl
 refine⟨by simp,λb c=>(d b).1 c,λk r e=>(by rw[h0]at e;cases e),λk x hx=>(by rw[h0]at hx;cases hx),λk b g c=>?_⟩;exact absurd ((d b).2 (Iw g).2) c
theorem AllI.split{a:List Nat}(h:AllI f L (a++[b]) Ss):AllJ f L b a Ss [] a Ss:=
 ⟨h.len,λc hc=>h.lt c (by simp[hc]),h.sound,h.sub,λ_ _ h=>h,λk hk=>⟨rfl,hk⟩,λk hk=>by simp at hk,kR _⟩
theorem AllJ.done_all{a d:List Nat}(h0:AllI f L (a++[b]) Ss0)(h:AllJ f L b a Ss0 (SR f b) d Ss):AllI f L d Ss:=by
 refine⟨h.len,h.lt,h.sound,h.sub,λk c i hc r g=>?_⟩;obtain⟨m,j⟩:=h.kept c hc;rw[m]at g;by_cases e:c=b
 ·subst e;exact h.done k ((Ke (Iw i).2 _).2 ⟨k,i,rfl⟩) r g
 ·exact h.mono k r (h0.closed k c i (by simp[j,e]) r g)
theorem AllJ.step{a d:List Nat}{n:List Int}(h0:AllI f L (a++[b]) Ss0)(h:AllJ f L b a Ss0 n d Ss)(z:j7 f k b)(u:Ss[k]? =lC S)
 (A:∀x∈Cq f b,∀r∈readsC x,r∈L):
 let N:=inS (Cq f b) (at_ Ss0 b)
 AllJ f L b a Ss0 (n++[(k:Int)]) (if(L.filter S).length < (L.filter (uni S N)).length then d++[k]else d) (Ss.set k (uni S N)):=by
 intro N;have m:k < Ss.length:=(gR.1 u).1;have t:at_ Ss k=S:=by unfold at_;rw[gK,u];rfl
 have y:Sub L N:=(h0.sub b).inS A;have w:∀r,N r=aN->kF f k r:=λr g=>Aci z (λh=>h0.sound b r h) g
 have o:∀j r,at_ (Ss.set k (uni S N)) j r=aN↔at_ Ss j r=aN\/(j=k/\N r=aN):=λj r=>by
  rw[Aik m];by_cases hj:j=k
  ·subst hj;rw[if_pos V,t];simp[uni]
  ·rw[if_neg hj];simp[hj]
 have q:(Ss.set k (uni S N)).length=f.blocks.length:=by simp[h.len]
 refine⟨q,λc hc=>?_,λj r g=>?_,λj r g=>?_,λj r g=>(o j r).2 (.inl (h.mono j r g)),λj hj=>?_,λj hj r g=>?_,?_⟩
 ·split at hc
  ·rcases iM.1 hc with h1|h1
   ·exact h.lt c h1
   ·have:c=k:=by simpa using h1
    subst this;exact(Iw z).1
  ·exact h.lt c hc
 ·rcases(o j r).1 g with h1|⟨rfl,h1⟩
  ·exact h.sound j r h1
  ·exact w r h1
 ·rcases(o j r).1 g with h1|⟨rfl,h1⟩
  ·exact h.sub j r h1
  ·exact y r h1
 ·split at hj
  ·rename_i i;have s:j∉d/\j≠k:=by simpa using hj
   rw[Aik m,if_neg s.2];exact h.kept j s.1
  ·rename_i i;have e:uni S N=S:=XT y (by omega);rw[e,Aik m];split
   ·rename_i v;subst v;rw[<-t];exact h.kept j hj
   ·exact h.kept j hj
 ·rw[iM]at hj;rcases hj with hj|hj
  ·exact(o j r).2 (.inl (h.done j hj r g))
  ·have:j=k:=by
    have:(j:Int)=(k:Int):=by simpa using hj
    omega
   exact(o j r).2 (.inr ⟨this,g⟩)
 ·have h1:=h.less;split
  ·rename_i i;have:=YA (L:=L) u i;simp only[hZ,List.length_singleton];omega
  ·rename_i i;have e:uni S N=S:=XT y (by omega);rw[e];have:Ss.set k S=Ss:=by
    apply fX;intro j;by_cases hj:k=j
    ·subst hj;rw[gX m,u]
    ·rw[gW hj]
   rw[this];exact h1
noncomputable def Yn(f:kE)(k:Nat):Int->Bool:=λr=>@decide (kF f k r) (Classical.propDecidable _)
theorem Ok:Yn f k r=aN↔kF f k r:=by simp[Yn]
theorem AllI.end_(h:AllI f L [] Ss):Ss=(jH f.blocks.length).map (Yn f):=by
 have a:∀k r,kF f k r->at_ Ss k r=aN:=λk r i=>by
  induction i with
  |read c h1=>exact h.closed _ _ c (by simp) _ (by rw[UH,h1];rfl)
  |pass c h1 _ g=>exact h.closed _ _ c (by simp) _ (by rw[UH,h1,g];simp)
 apply fX;intro k;by_cases hk:k < f.blocks.length
 ·rw[gT,gU hk,gP (by rw[h.len];exact hk)];congr 1;funext r;have e:at_ Ss k=Ss[k]'(by rw[h.len];exact hk):=by unfold at_;rw[gK,gP (by rw[h.len];exact hk)];rfl
  rw[<-e];cases d:Yn f k r
  ·cases j:at_ Ss k r
   ·rfl
   ·have:=Ok.2 (h.sound k r j);rw[d]at this;cases this
  ·exact a k r (Ok.1 d)
 ·rw[gQ (by rw[h.len];omega),gQ (by simp;omega)]
theorem Ann{L:List Int}{r:Int}:∀{ds:List Ins},(∀x∈ds,∀r∈readsC x,r∈L)->rdB r ds=aN->r∈L
 | [],_,h=>by simp[rdB]at h
 |x::ds,a,h=>by
  simp only[rdB,fS,zay]at h;rcases h with h|⟨_,h⟩
  ·exact a x (by simp) r h
  ·exact Ann (λy c=>a y (by simp[c])) h
theorem Aln(c:∀b∈f.blocks,∀x∈b.ins,∀r∈readsC x,r∈L)(b:Nat):∀x∈Cq f b,∀r∈readsC x,r∈L:=λx hx=>by
 unfold Cq at hx;split at hx
 ·rename_i d a;exact c d (iV a) x hx
 ·cases hx
theorem Ym(h:∀b∈f.blocks,∀x∈b.ins,∀r∈readsC x,r∈L)(k:Nat):Sub L (Yn f k):=λr e=>by
 have a:∀k r,kF f k r->r∈L:=λk r c=>by
  induction c with
  |read g h1=>exact Ann (Aln h _) h1
  |pass g h1 c d=>exact d
 exact a k r (Ok.1 e)
open Go.RowKit Go.Proofs Go.Maps
variable{Ss:List (Int->Bool)}{i:Nat}
theorem LY{k:Nat}(h:k<=9223372036854775807):wfI .i64 (k:Int):=by
 simp[wfI,Lit.wf,IntKind.min,IntKind.max,IntKind.signed,IntKind.bits];omega
def setsA(p:Nat×List Nat)(Ss:List (Int->Bool)):Res:=⟨[],λg=>g=p.1\/g∈p.2,λw _=>(∃e,w.heap[p.1]? =lC (.cells (p.2.map λm=>eT (lC m)).toArray e (0,0)))/\p.2.length=Ss.length/\p.2.Nodup/\∀(i m:Nat) (S:Int->Bool),p.2[i]? =lC m->Ss[i]? =lC S->IU w m S,
 λh hk _ _=>⟨let ⟨e,h1⟩:=h.1;⟨e,(hk p.1 (.inl V)).trans h1⟩,h.2.1,h.2.2.1,λi m S a c=>(h.2.2.2 i m S a c).keep (hk m (.inr (iV a)))⟩⟩
def Fl(m:Nat):AV:=.lit (.map (lC m))
theorem Q3{w:eX}{S:Nat->Prop}:∀{a:List Nat} {cs:List eR},Ak w S [] ψ0 (a.map Fl) cs->cs=a.map λm=>eT (lC m)
 | [],cs,h=>by unfold Ak at h;exact h
 |m::a,cs,h=>by
  simp only[iK]at h;unfold Ak at h;obtain⟨v,vs,rfl,h1,h2⟩:=h;unfold Fl jW at h1;rw[h1,Q3 h2];rfl
section
variable{C:Ctx}{t:List AV}{h:List jU}{o:bC}
theorem XF{j O:Nat}{a:List Nat}(c:i≠j)(hi:h[i]? =lC (.res (Bh O (a.map Fl))))(d:h[j]? =lC (.res (mapsR a Ss))):St.le C ⟨t,h⟩ ⟨t,(h.set j .dead).set i (.res (setsA (O,a) Ss))⟩:=
 Lf c hi d V V V (λg hg=>hg) λw S ⟨cs,e,h1,h2⟩ m _=>by
  rw[Q3 h2]at h1;exact⟨⟨e,h1⟩,m⟩
theorem Am9{n:Nat}{p:Nat×List Nat}(hi:h[i]? =lC (.res (setsA p Ss)))(A:Ss.length=n)(E:n<=fE)(a:mkD h= []:=by rfl):Fin h (.lit (.slice (lC ⟨p.1,0,lB⟩) n n)) (.bs Anj Ss):=⟨a,λC S ψ w v I H g=>by
 unfold jW at g;subst g;obtain⟨y,⟨e,G⟩,B,z,F⟩:=H.blk i _ hi;refine⟨λk=>S k\/(setsA p Ss).F k,λ_ h=>.inl h,λk hk=>?_,λk hk=>?_,?_⟩
 ·rcases hk with hk|hk
  ·exact .inl hk
  ·exact .inr (Nat.le_of_not_lt λc=>(y k hk).1 (I k c))
 ·rcases hk with hk|hk
  ·exact H.lt k hk
  ·exact(y k hk).2.2
 ·unfold jW;subst A;refine⟨_,_,rfl,kR _,⟨E,λe=>by cases e⟩,λj d x=>⟨p.1,0,rfl,.inr (.inl V),?_⟩⟩;have D:j < p.2.length:=by rw[B];exact(gR.1 x).1
  obtain⟨m,a⟩:∃m,p.2[j]? =lC m:=⟨_,gP D⟩
  refine⟨[.map (lC m)],⟨m,rfl,.inr (.inr (iV a)),F j m d a x⟩,λq u s=>?_⟩;cases q with
  |zero=>
   cases s;show w.cell? ⟨p.1,0+j * 1+0,lB⟩=_;rw[kV,Nat.zero_add,kP];exact Ow G (by rw[gT,a];rfl)
  |succ q=>cases s⟩
end
end Mu
namespace Mu
open Go Go.RowKit Go.Proofs
variable{f:kE}{k:Nat}{l:List Int}{p:Int->Bool}{x:Int}{α β:Type}
theorem Aag(f:kE)(b:Int)(c:¬(0<=b/\b < f.blocks.length)):Fn cF 128 [.agg (An f),.lit (.int .i64 b)] (.bs tInt []):=by
 refine VR (AT bJ V (by kernel_rfl) V cE λC g=>?_);refine nS ?_;refine rRS ?_;refine Ae λm h2=>?_
 refine Ae λj d=>?_
 rcases hb:aO (b < 0)with _|_
 ·have e:aO (b≥(f.blocks.length:Int))=aN:=by simp at hb⊢;omega
  refine rR ?_;refine d _ ?_;refine nT ?_;refine Am V (λa=>?_) (λa=>by cases a);refine rRS ?_;refine Az ?_;exact⟨.inr V,j9 V⟩
 ·refine rR ?_;refine d _ ?_;refine nT ?_;refine Am V (λa=>?_) (λa=>by cases a);refine rRS ?_;refine Az ?_;exact⟨.inr V,j9 V⟩
theorem Aah(f:kE)(k:Nat)(c:jY)(hk:f.blocks[k]? =lC c)(m:f.blocks.length<=2097152)(d:c.ins= []):Fn cF 128 [.agg (An f),.lit (.int .i64 (k:Int))] (.bs tInt []):=by
 have e:k < f.blocks.length:=(gR.1 hk).1;have n:aO ((k:Int) < 0)=aI:=by simp
 have j:aO ((k:Int)≥(f.blocks.length:Int))=aI:=by simp;omega
 have g:((c.ins.length:Int) ==0)=aN:=by simp[d]
 refine VR (AT bJ V (by kernel_rfl) V cE λC q=>?_);refine nS ?_;refine rRS ?_;refine Ae λs h2=>?_
 refine rRS ?_;refine Am V (λa=>?_) (λa=>by cases a);refine rRS ?_;refine Az ?_;exact⟨.inr V,j9 V⟩
theorem Af4(f:kE)(k:Nat)(m:jY)(x:Ins)(hk:f.blocks[k]? =lC m)(U:f.blocks.length<=2097152)(hi:m.ins.length<=2097152)(hx:m.ins.getLast? =lC x)(u:okIns x):
 Fn cF 128 [.agg (An f),.lit (.int .i64 (k:Int))] (.bs tInt ((if QW f x then [x.l1]else [])++if Ajr f x then [x.l2]else [])):=by
 have O:k < f.blocks.length:=(gR.1 hk).1;have E:0 < m.ins.length:=by
  cases F:m.ins with
  |nil=>rw[F]at hx;cases hx
  |cons y l=>simp
 have G:m.ins[((m.ins.length:Int) - 1).toNat]? =lC x:=by
  rw[List.getLast?_eq_getElem?]at hx;rw[<-hx];congr 1;omega
 have e:aO ((k:Int) < 0)=aI:=by simp
 have Q:aO ((k:Int)≥(f.blocks.length:Int))=aI:=by simp;omega
 have P:((m.ins.length:Int) ==0)=aI:=beq_eq_false_iff_ne.2 (by omega);have I:=u.l1;have H:=u.l2;have J:(1:Nat)<=fE:=by decide
 refine AT bJ V (by kernel_rfl) V cE λC W=>?_
 refine nS ?_;refine rRS ?_;refine Ae λY h2=>?_
 refine rRS ?_;refine Am V (λv=>by cases v) (λv=>?_);refine Ao ?_;refine h2 _ ?_;refine nT ?_;refine Ae λX T=>?_
 (refine Ai7 47 17 16 (by kernel_rfl) (by kernel_rfl) (by decide) V V ?_;simp only[zad];(repeat((first|(refine ABa V V V ?_;(first|refine E3 (AX.move V (by(conv=>lhs;whnf);try rfl)) ⟨rfl,?_⟩|refine E3 (AX.assign V (by(conv=>lhs;whnf);try rfl)) ⟨rfl,?_⟩|refine E3 (Bu V V V) ⟨rfl,?_⟩|refine E3 (Cw V V) ⟨rfl,?_⟩|refine E3 (CQ V V V) ⟨rfl,?_⟩|refine E3 (Bi V V V V) ⟨rfl,?_⟩|refine E3 (AI V V V) ⟨rfl,?_⟩|refine E3 (Bp V V V (by assumption) V) ⟨rfl,?_⟩|refine E3 (AW V V V V) ⟨rfl,?_⟩|refine E3 (D8 V V V) ⟨rfl,?_⟩|refine E3 (IG V V V V (by assumption)) ⟨rfl,?_⟩|refine E3 (H6 V V V V (by first|decide|omega) (by assumption)) ⟨rfl,?_⟩|refine E3 (JP V V V V V (by first|assumption|omega)) ⟨rfl,?_⟩|refine E3 (FW V V V V V (by first|decide|omega) (by first|assumption|omega)) ⟨rfl,?_⟩|refine E3 (AX.ln V V) ⟨rfl,?_⟩|refine E3 (Fq V V V) ⟨rfl,?_⟩|refine E3 (JO V V) ⟨rfl,?_⟩|refine E3 (El V V V (by omega)) ⟨rfl,?_⟩|refine E3 (EZ V V V (by omega)) ⟨rfl,?_⟩|refine E3 (H7 V V V V (by assumption)) ⟨rfl,?_⟩|refine E3 (CN V V V V) ⟨rfl,?_⟩|refine E3 (Cu V V) ⟨rfl,?_⟩|refine E3 (AX.pick V V (by(conv=>lhs;whnf);try rfl)) ⟨rfl,?_⟩|refine E3 (AX.extract V V V) ⟨rfl,?_⟩|refine E3 (Cm V V V (by rfl) (by decide) (by first|exact kB|exact kC|exact kD (by assumption))) ⟨rfl,?_⟩|refine E3 (AX.max2 V V V) ⟨rfl,?_⟩|refine E3 (AX.min2 V V V) ⟨rfl,?_⟩))|refine bQ_skip V V V ?_|refine AAa V V V V ?_);refine Az9 (by(try simp only[Br,zac]);exact V) ?_));refine Ayv ?_;(repeat((first|(refine AH V ?_;(first|refine Ba (AX.move V (by(conv=>lhs;whnf);try rfl)) ?_|refine Ba (AX.assign V (by(conv=>lhs;whnf);try rfl)) ?_|refine Ba (Bu V V V) ?_|refine Ba (Cw V V) ?_|refine Ba (CQ V V V) ?_|refine Ba (Bi V V V V) ?_|refine Ba (AI V V V) ?_|refine Ba (Bp V V V (by assumption) V) ?_|refine Ba (AW V V V V) ?_|refine Ba (D8 V V V) ?_|refine Ba (IG V V V V (by assumption)) ?_|refine Ba (H6 V V V V (by first|decide|omega) (by assumption)) ?_|refine Ba (JP V V V V V (by first|assumption|omega)) ?_|refine Ba (FW V V V V V (by first|decide|omega) (by first|assumption|omega)) ?_|refine Ba (AX.ln V V) ?_|refine Ba (Fq V V V) ?_|refine Ba (JO V V) ?_|refine Ba (El V V V (by omega)) ?_|refine Ba (EZ V V V (by omega)) ?_|refine Ba (H7 V V V V (by assumption)) ?_|refine Ba (CN V V V V) ?_|refine Ba (Cu V V) ?_|refine Ba (AX.pick V V (by(conv=>lhs;whnf);try rfl)) ?_|refine Ba (AX.extract V V V) ?_|refine Ba (Cm V V V (by rfl) (by decide) (by first|exact kB|exact kC|exact kD (by assumption))) ?_|refine Ba (AX.max2 V V V) ?_|refine Ba (AX.min2 V V V) ?_|refine AOp.box V VN.agg ?_|refine Zm V ?_|refine CZ V V V (Nh V) V (kQ V) ?_|refine Tf V V V V V (by first|assumption|(simp[fE];done)|(simp[fE];omega)) (by first|assumption|(simp;done)|(simp;omega)) ?_|refine CY V V V (by assumption) (by first|exact kB|exact kC|exact kD (by assumption)) V ?_))|refine P4 V ?_);refine Ar6 (by(try simp only[Br,zac]);exact V) (by(try simp only[Nat.reduceAdd,zab]);exact V) ?_));refine Ax ?_)
 refine T _ ?_;refine nT ?_;refine rRS ?_;refine AN ⟨(A2 (.ptr 0 0::A2 (.ptr 1 0::.own 2 0::A80 (A10 [])))),[.box (An f),.box (B8 x),.row 0 3 tInt []]⟩ ((CG 6 3 tInt V kY).trans (B6)) ?_;refine Tc ⟨(A2 (.ptr 0 0::A2 (.ptr 1 0::.own 2 (if QW f x then 1 else 0)::A80 (A10 [])))),[.box (An f),.box (B8 x),.row (if QW f x then 1 else 0) 3 tInt (if QW f x then [x.l1]else [])]⟩ ?_ ?_
 ·rcases hc1:QW f x with _|_
  all_goals refine Ae λB z=>?_
  ·have a:((x.op ==8)=aI/\(x.op ==9)=aI)\/(((x.op ==8)=aN\/((x.op ==8)=aI/\(x.op ==9)=aN))/\(aO (x.l1≥0)=aI\/(aO (x.l1≥0)=aN/\aO (x.l1 < (f.blocks.length:Int))=aI))):=by
    unfold QW inB at hc1;cases A:(x.op ==8) <;> cases j:(x.op ==9) <;> cases w:aO (x.l1≥0) <;> cases g:aO (x.l1 < (f.blocks.length:Int)) <;> simp[A,j,w,g]at hc1⊢
   have c:∀s':St,St.le C s' ⟨(A2 (.ptr 0 0::A2 (.ptr 1 0::.own 2 0::A40 (A10 (A5 (.lit (.bool aI)::A20 (A10 (A4 [])))))))),[.box (An f),.box (B8 x),.row 0 3 tInt []]⟩->B s':=λs' d=>by
    refine z _ (AN _ d ?_);refine Am V (λe=>by cases e) (λe=>?_);refine Ao ?_;refine As ?_;exact B6
   rcases a with⟨n,s⟩|⟨n|⟨n,s⟩,q|⟨q,D⟩⟩
   all_goals
    refine rR ?_;exact As (c _ (B6))
  ·have a:((x.op ==8)=aN\/((x.op ==8)=aI/\(x.op ==9)=aN))/\aO (x.l1≥0)=aN/\aO (x.l1 < (f.blocks.length:Int))=aN:=by
    unfold QW inB at hc1;cases A:(x.op ==8) <;> cases j:(x.op ==9) <;> cases w:aO (x.l1≥0) <;> cases g:aO (x.l1 < (f.blocks.length:Int)) <;> simp[A,j,w,g]at hc1⊢
   have c:∀s':St,St.le C s' ⟨(A2 (.ptr 0 0::A2 (.ptr 1 0::.own 2 0::A40 (A10 (A5 (.lit (.bool aN)::A20 (A10 (A4 [])))))))),[.box (An f),.box (B8 x),.row 0 3 tInt []]⟩->B s':=λs' d=>by
    refine z _ (AN _ d ?_);refine Am V (λe=>?_) (λe=>by cases e);refine rR ?_;refine As ?_;exact B6
   obtain⟨n|⟨n,s⟩,q,D⟩:=a;all_goals
    refine rR ?_;exact As (c _ (B6))
 ·refine Tc ⟨(A6 (.own 2 ((if QW f x then 1 else 0)+if Ajr f x then 1 else 0)::A80 (A10 []))),[.dead,.dead,.row ((if QW f x then 1 else 0)+if Ajr f x then 1 else 0) 3 tInt ((if QW f x then [x.l1]else [])++if Ajr f x then [x.l2]else [])]⟩ ?_ ?_
  ·rcases hc2:Ajr f x with _|_
   all_goals refine Ae λB z=>?_
   ·have a:(x.op ==9)=aI\/((x.op ==9)=aN/\((x.l2 !=x.l1)=aI\/((x.l2 !=x.l1)=aN/\(aO (x.l2≥0)=aI\/(aO (x.l2≥0)=aN/\aO (x.l2 < (f.blocks.length:Int))=aI))))):=by
     unfold Ajr inB at hc2;cases A:(x.l2 !=x.l1) <;> cases j:(x.op ==9) <;> cases w:aO (x.l2≥0) <;> cases g:aO (x.l2 < (f.blocks.length:Int)) <;> simp only[A,j,w,g,Bool.and_true,Bool.and_false,Bool.true_eq_false,aJ,true_and,or_true,true_or,and_true,false_and,or_false]at hc2⊢
    have c:∀s':St,St.le C s' ⟨(A2 (.ptr 0 0::A2 (.ptr 1 0::.own 2 (if QW f x then 1 else 0)::A80 (A3 (.lit (.bool aI)::A6 []))))),[.box (An f),.box (B8 x),.row (if QW f x then 1 else 0) 3 tInt (if QW f x then [x.l1]else [])]⟩->B s':=λs' d=>by
     refine z _ (AN _ d ?_);refine Am V (λe=>by cases e) (λe=>?_);refine Ao ?_;refine As ?_;simp only[aJ,if_false,kP,fP];exact Ky (j5 (j5 (Cut.refl _)))
    rcases a with n|⟨n,s|⟨s,q|⟨q,D⟩⟩⟩
    all_goals
     refine rR ?_;exact As (c _ (B6))
   ·have a:(x.op ==9)=aN/\(x.l2 !=x.l1)=aN/\aO (x.l2≥0)=aN/\aO (x.l2 < (f.blocks.length:Int))=aN:=by
     unfold Ajr inB at hc2;simpa[aG,and_assoc]using hc2
    have c:∀s':St,St.le C s' ⟨(A2 (.ptr 0 0::A2 (.ptr 1 0::.own 2 (if QW f x then 1 else 0)::A80 (A3 (.lit (.bool aN)::A6 []))))),[.box (An f),.box (B8 x),.row (if QW f x then 1 else 0) 3 tInt (if QW f x then [x.l1]else [])]⟩->B s':=λs' d=>by
     refine z _ (AN _ d ?_);refine Am V (λe=>?_) (λe=>by cases e);have K:(if QW f x then [x.l1]else []:List Int).length+ [x.l2].length<=fE:=by split <;> simp[fE]
     have N:((if QW f x then [x.l1]else []:List Int).length+ [x.l2].length) * 8<=140737488355328:=by split <;> simp
     refine rR ?_;refine As ?_;simp only[if_true];exact Ky (j5 (j5 (Cut.refl _)))
    obtain⟨n,s,q,D⟩:=a;refine rR ?_;exact As (c _ (B6))
  ·refine rRS ?_;refine Az ?_;exact⟨.inr V,kA V⟩
def Dn(f:kE)(a:List Bool)(b:Int):Bool:=(nextL f b).any λk=>a.getD k.toNat aI
theorem E8{b:Int}(h:x∈nextL f b):0<=x/\x.toNat < f.blocks.length:=by
 unfold nextL at h;obtain⟨y,_,rfl⟩:=iU.1 h;have:=y.2;simp[Fy];exact this
theorem Af3(f:kE)(b:Int)(m:okFunc f)(e:smallF f):Fn cF 128 [.agg (An f),.lit (.int .i64 b)] (.bs tInt (nextL f b)):=by
 by_cases c:0<=b/\b < f.blocks.length
 ·obtain⟨k,rfl⟩:=Int.eq_ofNat_of_zero_le c.1;have hk:k < f.blocks.length:=by omega
  have a:f.blocks[k]? =lC f.blocks[k]:=gP hk;rw[Sm a];cases d:(f.blocks[k]).ins.getLast? with
  |none=>
   have g:(f.blocks[k]).ins= []:=List.getLast?_eq_none_iff.1 d;rw[Us g];exact Aah f k _ a e.blocks g
  |some x=>
   rw[Aaf d];have j:=g8 hk;exact Af4 f k _ x a e.blocks (e.all _ j).ins d ((m.blocks _ j).ins x (List.mem_of_getLast? d))
 ·rw[Uq c];exact Aag f b c
theorem Amw(hx:l[k]? =lC x)(c:(l.take k).any p=aI)(a:p x=aI):(l.take (k+1)).any p=aI:=by
 rw[jO,hx,List.any_append,c];simp[a]
theorem EV(f:kE)(a:List Bool)(b:Int)(u:okFunc f)(s:smallF f)(A:a.length=f.blocks.length):Fn cF 103 [.agg (An f),.bs kK a,.lit (.int .i64 b)] (.lit (.bool (Dn f a b))):=by
 have v:(nextL f b).length<=2:=by unfold nextL;rw[iD];exact LW f b
 refine AT Tryz.func103 V (by kernel_rfl) V Tryz.ntmps103 λC B=>?_
 refine nS ?_;refine rRS ?_;refine Ae λG h2=>?_
 (refine jX ?_;(repeat(first|refine sQ ?_ (AX.call V (Af3 f b u s) V V V)|refine sQ ?_|refine AR ?_|refine Bt ?_));refine Ax ?_)
 refine h2 _ ?_;refine nT ?_;refine Ae λF z=>?_
 refine rRS ?_;refine Ah ?_;refine AJ (λk:Nat=>⟨(.any::.bs kK a::A5 (.bs tInt (nextL f b)::.lit (.int .i64 (k:Int))::A10 (A6 []))),[]⟩) (λk=>k<=(nextL f b).length/\((nextL f b).take k).any (λk=>a.getD k.toNat aI)=aI) (λk=>(nextL f b).length - k) 0 ⟨kX _,by simp⟩ (Ky (j6 _)) ?_;rintro k ⟨hk,d⟩;refine Ae λE y=>?_
 refine rRS ?_;refine Am V (λe=>?_) (λe=>?_)
 ·have m:k < (nextL f b).length:=by simpa using e
  obtain⟨x,hx⟩:∃x,(nextL f b)[k]? =lC x:=⟨_,gP m⟩
  have j:=E8 (iV hx);have n:=j.1;obtain⟨q,hq⟩:∃q,a[x.toNat]? =lC q:=⟨_,gP (by omega)⟩
  have g:a.getD x.toNat aI=q:=by rw[gK,hq];rfl
  refine Ao ?_;refine y _ ?_;refine nT ?_;refine Ae λD w=>?_
  refine Ah ?_;refine rRS ?_;refine Am V (λc=>?_) (λc=>?_)
  ·refine rRS ?_;refine Az ?_;have hc:Dn f a b=aN:=fN.2 ⟨x,iV hx,by rw[g];exact c⟩;rw[hc];exact⟨.inr V,j9 V⟩
  ·refine Ao ?_;refine w _ ?_;refine nT ?_;refine rR ?_;refine As ⟨k+1,⟨by omega,Amw hx d (by rw[g];exact c)⟩,by omega,?_⟩;exact B6
 ·refine AA ?_;refine z _ ?_;refine nT ?_;have:k=(nextL f b).length:=by
   have:¬k < (nextL f b).length:=by simpa using e
   omega
  have hc:Dn f a b=aI:=by
   rw[this,jQ]at d;exact d
  refine rRS ?_;refine Az ?_;rw[hc];exact⟨.inr V,j9 V⟩
def goB(f:kE)(r:Int)(out:List Bool)(b:Nat):Bool:=(CV r (Cq f b)).1||(!(CV r (Cq f b)).2&&Dn f out b)
def MD(f:kE)(r:Int)(out:List Bool)(b:Nat):List Bool:=if goB f r out b then out.set b aN else out
def foldI(f:kE)(r:Int)(out:List Bool)(m:Nat):List Bool:=(jH m).foldl (MD f r) out
def roundsI(f:kE)(r:Int):Nat->List Bool
 |0=>jJ f.blocks.length aI
 |m+1=>foldI f r (roundsI f r m) f.blocks.length
def Lr(f:kE)(r:Int):List Bool:=roundsI f r (f.blocks.length+1)
theorem EU(f:kE)(r:Int)(out:List Bool)(m:Nat):foldI f r out (m+1)=MD f r (foldI f r out m) m:=by unfold foldI;rw[jI,gI];rfl
theorem Ad0(f:kE)(r:Int)(out:List Bool)(b:Nat):(MD f r out b).length=out.length:=by unfold MD;split <;> simp
theorem UQ(f:kE)(r:Int)(out:List Bool)(m:Nat):(foldI f r out m).length=out.length:=by
 induction m with
 |zero=>rfl
 |succ m a=>rw[EU,Ad0,a]
theorem KR(f:kE)(r:Int)(m:Nat):(roundsI f r m).length=f.blocks.length:=by
 induction m with
 |zero=>simp[roundsI]
 |succ m a=>unfold roundsI;rw[UQ,a]
theorem YE(f:kE)(r:Int)(F:okFunc f)(E:smallF f):Fn cF 66 [.agg (An f),.lit (.int .i64 r)] (.bs kK (Lr f r)):=by
 have Q:=E.blocks;refine AT Tryz.func66 V (by kernel_rfl) V Tryz.ntmps66 λC hC=>?_
 refine nS ?_;refine rRS ?_;refine Ae λK2 h2=>?_
 refine jX ?_
 iterate 3 (first|refine sQ ?_|refine AR ?_|refine Bt ?_)
 refine AH V ?_;refine Ajd (e:=4) (z:=.bool aI) (bytes:=1) (T:=kK) aI V (by kernel_rfl) V (λ_ _=>rfl) V V (by omega) (by unfold fE;omega) ?_;refine sNt ?_
 iterate 1 (first|refine sQ ?_|refine AR ?_|refine Bt ?_)
 refine Ax ?_;refine h2 _ ?_;refine nT ?_;refine Ae λK3 X=>?_
 refine rRS ?_;refine Ah ?_;refine AJ (λm:Nat=>⟨(.any::.lit (.int .i64 r)::.ptr 0 0::A2 (.own 1 0::.lit (.int .i64 (m:Int))::A40 (A6 []))),[.box (An f),.row 0 4 kK (roundsI f r m)]⟩) (λm=>m<=f.blocks.length+1) (λm=>f.blocks.length+1 - m) 0 (kX _) (B6) ?_;rintro m hm;refine Ae λK6 W=>?_
 refine rRS ?_;refine Am V (λu=>?_) (λu=>?_)
 ·have N:m<=f.blocks.length:=by simpa using u
  refine Ao ?_;refine W _ ?_;refine nT ?_;refine Ae λK9 U=>?_
  refine Ah ?_;refine rRS ?_;refine Ah ?_;refine AJ (λk:Nat=>⟨(.any::.lit (.int .i64 r)::.ptr 0 0::A2 (.own 1 0::.lit (.int .i64 (m:Int))::.lit (.int .i64 (k:Int))::A40 (A5 []))),[.box (An f),.row 0 4 kK (foldI f r (roundsI f r m) k)]⟩) (λk=>k<=f.blocks.length) (λk=>f.blocks.length - k) 0 (kX _) (B6) ?_;rintro k hk;refine Ae λab K=>?_
  refine rRS ?_;have w:(foldI f r (roundsI f r m) k).length=f.blocks.length:=by rw[UQ,KR]
  refine Am V (λd=>?_) (λd=>?_)
  ·have H:k < f.blocks.length:=by simpa using d
   obtain⟨g,B⟩:∃g,f.blocks[k]? =lC g:=⟨_,gP H⟩
   have s:=iV B;have A:Cq f k=g.ins:=by unfold Cq;rw[B]
   have a:goB f r (foldI f r (roundsI f r m) k) k=((CV r g.ins).1||(!(CV r g.ins).2&&Dn f (foldI f r (roundsI f r m) k) k)):=by unfold goB;rw[A]
   obtain⟨q0,O⟩:∃q,(foldI f r (roundsI f r m) k)[k]? =lC q:=⟨_,gP (by omega)⟩
   have P:k < (foldI f r (roundsI f r m) k).length:=by omega
   have n:goB f r (foldI f r (roundsI f r m) k) k=aN->foldI f r (roundsI f r m) (k+1)=(foldI f r (roundsI f r m) k).set k aN:=λh=>by rw[EU,MD,if_pos h]
   have y:goB f r (foldI f r (roundsI f r m) k) k=aI->foldI f r (roundsI f r m) (k+1)=foldI f r (roundsI f r m) k:=λh=>by rw[EU,MD,if_neg (by simp[h])]
   refine Ao ?_;refine K _ ?_;refine nT ?_;refine Ae λaa j=>?_
   refine Ah ?_;refine Ae λZ J=>?_
   (refine jX ?_;(repeat(first|refine sQ ?_ (AX.call V (MJ g 0 r (F.blocks g s) (E.all g s) (kX _)) V V V)|refine sQ ?_|refine AR ?_|refine Bt ?_));refine Ax ?_)
   rw[fV];refine J _ ?_;refine nT ?_;rcases hr1:(CV r g.ins).1 with _|_
   ·rcases hr2:(CV r g.ins).2 with _|_
    ·rw[hr1,hr2]at a;refine Ae λY D=>?_
     rcases hbb:Dn f (foldI f r (roundsI f r m) k) k with _|_
     ·rw[hbb]at a
      (refine jX ?_;(repeat(first|refine sQ ?_ (Kh V (by have:=EV f (foldI f r (roundsI f r m) k) k F E w;rw[hbb]at this;exact this) (.cl V (.own V (.cl V .nil))))|refine sQ ?_|refine AR ?_|refine Bt ?_));refine Ax ?_)
      refine D _ ?_;refine nT ?_;refine Am V (λv=>by cases v) (λc=>?_);refine Ao ?_;refine j _ ?_;refine nT ?_;refine rR ?_;refine As ⟨k+1,by omega,by omega,?_⟩;rw[y a];exact B6
     ·rw[hbb]at a
      (refine jX ?_;(repeat(first|refine sQ ?_ (Kh V (by have:=EV f (foldI f r (roundsI f r m) k) k F E w;rw[hbb]at this;exact this) (.cl V (.own V (.cl V .nil))))|refine sQ ?_|refine AR ?_|refine Bt ?_));refine Ax ?_)
      refine D _ ?_;refine nT ?_;refine Am V (λc=>?_) (λv=>by cases v);refine rR ?_;refine j _ ?_;refine nT ?_;refine rR ?_;refine As ⟨k+1,by omega,by omega,?_⟩;rw[n a];exact B6
    ·rw[hr1,hr2]at a;refine rRS ?_;refine Am V (λv=>by cases v) (λc=>?_);refine Ao ?_;refine j _ ?_;refine nT ?_;refine rR ?_;refine As ⟨k+1,by omega,by omega,?_⟩;rw[y a];exact B6
   ·rw[hr1]at a;refine rRS ?_;refine Am V (λc=>?_) (λv=>by cases v);refine rR ?_;refine j _ ?_;refine nT ?_;refine rR ?_;refine As ⟨k+1,by omega,by omega,?_⟩;rw[n a];exact B6
  ·refine AA ?_;refine U _ ?_;refine nT ?_;have I:k=f.blocks.length:=by
    have:¬k < f.blocks.length:=by simpa using d
    omega
   refine rR ?_;refine As ⟨m+1,by omega,by omega,?_⟩;rw[I];exact B6
 ·refine AA ?_;refine X _ ?_;refine nT ?_;have G:m=f.blocks.length+1:=by
   have:¬m<=f.blocks.length:=by simpa using u
   omega
  refine rRS ?_;refine Az ?_;rw[G];exact⟨.inr V,kA V⟩
def swapL(l:List Int)(q:Nat):List Int:=(l.set q (l.getD (q+1) 0)).set (q+1) (l.getD q 0)
def OQ:Nat->List Int->List Int
 |0,l=>l
 |q+1,l=>if l.getD q 0 > l.getD (q+1) 0 then OQ q (swapL l q)else l
def IZ(l:List Int):List Int:=OQ (l.length - 1) l
theorem OK(l:List Int)(q:Nat):(swapL l q).length=l.length:=by simp[swapL]
theorem TH:∀(k:Nat) (l:List Int),(OQ k l).length=l.length
 |0,l=>rfl
 |q+1,l=>by
  unfold OQ;split
  ·rw[TH q,OK]
  ·rfl
theorem X0(h:Bj l){q:Nat}(hq:q+1 < l.length):Bj (swapL l q):=by
 intro x hx;unfold swapL at hx;have a:q < l.length:=by omega
 have h1:l.getD q 0∈l:=by rw[gK,gP a];exact g8 _
 have h2:l.getD (q+1) 0∈l:=by rw[gK,gP hq];exact g8 _
 rcases iX hx with h3|h3
 ·rcases iX h3 with h4|h4
  ·exact h x h4
  ·rw[h4];exact h _ h2
 ·rw[h3];exact h _ h1
theorem Wc(l:List Int)(G:Bj l)(h0:0 < l.length)(O:l.length<=4194304):Am8 cF 101 3 tInt l (IZ l):=by
 refine VP Tryz.func101 V (by kernel_rfl) V Tryz.ntmps101 (λ_ _ _ _ _ h=>h) λC=>?_
 refine nS ?_;refine rRS ?_;refine Ae λT h2=>?_
 refine rRS ?_;refine Ah ?_;have y:((l.length:Int) - 1)=((l.length - 1:Nat):Int):=by omega
 rw[y];refine AJ (λp:Nat×List Int=>⟨(.own 0 0::A2 (.lit (.int .i64 (p.1:Int))::A20 (A10 (A6 [])))),[.row 0 3 tInt p.2]⟩) (λp=>p.2.length=l.length/\p.1 < l.length/\Bj p.2/\OQ p.1 p.2=IZ l) (λp=>p.1) (l.length - 1,l) ⟨rfl,by omega,G,rfl⟩ (B6) ?_;rintro⟨k,m⟩ ⟨j,v,d,c⟩;dsimp only at j v d c⊢;refine Ae λQ J=>?_
 refine Ae λP z=>?_
 cases k with
 |zero=>
  have H:aO (((0:Nat):Int) > 0)=aI:=by decide
  (refine N7 14 (hh:=?_);(repeat(first|refine qQ ?_|refine Hp ?_));refine Fo ?_;(repeat(first|refine sQ ?_|refine AR ?_|refine Bt ?_));refine Ax ?_)
  refine z _ ?_;refine nT ?_;refine Am V (λa=>by cases a) (λa=>?_);refine AA ?_;refine h2 _ ?_;refine nT ?_;refine rRS ?_;refine Az ?_;exact⟨.inr V,0,0,rfl,by rw[<-c];rfl,rfl⟩
 |succ q=>
  have H:aO (((q+1:Nat):Int) > 0)=aN:=by simp
  have s:m[(((q+1:Nat):Int) - 1).toNat]? =lC (m.getD q 0):=by
   have:(((q+1:Nat):Int) - 1).toNat=q:=by omega
   rw[this,gK,gP (by omega)];rfl
  have e:m[q+1]? =lC (m.getD (q+1) 0):=by
   rw[gK,gP (by omega)];rfl
  have F:=d _ (iV s);have E:=d _ (iV e);have g:q+1 < m.length:=by omega
  have D:(m.set (((q+1:Nat):Int) - 1).toNat (m.getD (q+1) 0))[q+1]? =lC (m.getD (q+1) 0):=by
   rw[gW (by omega)];exact e
  have A:q+1 < (m.set (((q+1:Nat):Int) - 1).toNat (m.getD (q+1) 0)).length:=by simpa using g
  rw[OQ]at c;rcases hc:aO (m.getD q 0 > m.getD (q+1) 0)with _|_
  ·rw[if_neg (by simpa using hc)]at c
   (refine N7 14 (hh:=?_);(repeat(first|refine qQ ?_|refine Hp ?_));refine Fo ?_;(repeat(first|refine sQ ?_|refine AR ?_|refine Bt ?_));refine Ax ?_)
   refine z _ ?_;refine nT ?_;refine Am V (λa=>by cases a) (λa=>?_);refine AA ?_;refine h2 _ ?_;refine nT ?_;refine rRS ?_;refine Az ?_;exact⟨.inr V,0,0,rfl,by rw[<-c];rfl,rfl⟩
  ·rw[if_pos (by simpa using hc)]at c
   (refine N7 14 (hh:=?_);(repeat(first|refine qQ ?_|refine Hp ?_));refine Fo ?_;(repeat(first|refine sQ ?_|refine AR ?_|refine Bt ?_));refine Ax ?_)
   refine z _ ?_;refine nT ?_;refine Am V (λa=>?_) (λa=>by cases a);refine Ao ?_;refine J _ ?_;refine nT ?_;refine Ae λB I=>?_
   refine Ah ?_
   (refine Ai6 15 [3,4] [0,1,2,5,6,7,8,9,10,11,12,13,14] (by kernel_rfl) (by kernel_rfl) (by decide) V ?_;refine Ao2 (by(try simp only[Br,evA,gN,List.getElem?_cons_succ,Option.getD_some,jL,jK]);exact V) ?_;(repeat(refine AAb (by simp only[gN,zaq];exact V) V ?_;(first|refine E2 (AX.move V (by(conv=>lhs;whnf);try rfl)) ?_|refine E2 (AX.assign V (by(conv=>lhs;whnf);try rfl)) ?_|refine E2 (Bu V V V) ?_|refine E2 (Cw V V) ?_|refine E2 (CQ V V V) ?_|refine E2 (Bi V V V V) ?_|refine E2 (AI V V V) ?_|refine E2 (Bp V V V (by assumption) V) ?_|refine E2 (AW V V V V) ?_|refine E2 (D8 V V V) ?_|refine E2 (IG V V V V (by assumption)) ?_|refine E2 (H6 V V V V (by first|decide|omega) (by assumption)) ?_|refine E2 (JP V V V V V (by first|assumption|omega)) ?_|refine E2 (FW V V V V V (by first|decide|omega) (by first|assumption|omega)) ?_|refine E2 (AX.ln V V) ?_|refine E2 (Fq V V V) ?_|refine E2 (JO V V) ?_|refine E2 (El V V V (by omega)) ?_|refine E2 (EZ V V V (by omega)) ?_|refine E2 (H7 V V V V (by assumption)) ?_|refine E2 (CN V V V V) ?_|refine E2 (Cu V V) ?_|refine E2 (AX.pick V V (by(conv=>lhs;whnf);try rfl)) ?_|refine E2 (AX.extract V V V) ?_|refine E2 (Cm V V V (by rfl) (by decide) (by first|exact kB|exact kC|exact kD (by assumption))) ?_|refine E2 (AX.max2 V V V) ?_|refine E2 (AX.min2 V V V) ?_);refine Ao2 (by(try simp only[Br,zac]);exact V) ?_));refine Ar7 ?_)
   have n:∀s':St,St.le C s' ⟨(.own 0 0::A2 (.lit (.int .i64 ((q+1:Nat):Int))::A20 (A10 (A6 [])))),[.row 0 3 tInt (swapL m q)]⟩->B s':=λs' u=>by
    refine I _ (AN _ u ?_);refine rR ?_;refine As ⟨(q,swapL m q),⟨by rw[OK];exact j,by omega,X0 d g,c⟩,by simp,?_⟩;have K:(((q+1:Nat):Int) - 1)=(q:Int):=by omega
    rw[K];exact B6
   have w:∀t:List AV,Fgt 1 t (.own 0 0::A2 (.lit (.int .i64 ((q+1:Nat):Int))::A20 (A10 (A6 []))))->B ⟨t,[.row 0 3 tInt ((m.set (((q+1:Nat):Int) - 1).toNat (m.getD (q+1) 0)).set (q+1) (m.getD q 0))]⟩:=λt ht=>by
    have N:(((q+1:Nat):Int) - 1).toNat=q:=by omega
    rw[N];exact n _ (XE V ht)
   refine Lx [15] (by kernel_rfl) (by simp) (Ly (by simp only[gN,zaq];exact V) V ?_ AS)
   (first|refine oQ ?_|refine Az3 ?_)
   refine Lx [16] (by kernel_rfl) (by simp) (Ly (by simp only[gN,zaq];exact V) V ?_ AS)
   (first|refine oQ ?_|refine Az3 ?_)
   refine Lx [17] (by kernel_rfl) (by simp) (Ly (by simp only[gN,zaq];exact V) V ?_ AS)
   (first|refine oQ ?_|refine Az3 ?_)
   exact Tr (by kernel_rfl) (w _ (by(try simp only[Br,zac]);repeat(first|exact Fgt.nil|refine Fgt.keep V ?_|refine Fgt.any ?_)))
def Cl(f:kE):List Int:=f.blocks.flatMap λb=>b.ins.flatMap readsC
def PC(out:List Int)(x:Int):List Int:=if out.contains x then out else IZ (out++[x])
def CE(l:List Int):List Int:=l.foldl PC []
def BE(f:kE):List Int:=CE (Cl f)
theorem Wn(l:List Int)(x:Int):CE (l++[x])=PC (CE l) x:=by simp[CE]
theorem ON(l:List Int):(IZ l).length=l.length:=TH _ _
theorem X5:∀(k:Nat) (l:List Int),k < l.length->Bj l->Bj (OQ k l)
 |0,l,_,h=>h
 |q+1,l,hq,h=>by
  unfold OQ;split
  ·exact X5 q _ (by rw[OK];omega) (X0 h hq)
  ·exact h
theorem All(out:List Int)(x:Int):(PC out x).length<=out.length+1:=by
 unfold PC;split
 ·omega
 ·rw[ON];simp
theorem Aqg{out:List Int}(h:Bj out)(hx:wfI .i64 x):Bj (PC out x):=by
 unfold PC;split
 ·exact h
 ·unfold IZ;refine X5 _ _ (by simp) λy a=>?_
  rcases iM.1 a with h1|h1
  ·exact h y h1
  ·simp at h1;rw[h1];exact hx
theorem Q4(l:List Int):(CE l).length<=l.length/\(Bj l->Bj (CE l)):=by
 have a:∀(l out:List Int),(l.foldl PC out).length<=out.length+l.length/\(Bj l->Bj out->Bj (l.foldl PC out)):=by
  intro l;induction l with
  |nil=>intro out;exact⟨by simp,λ_ h=>h⟩
  |cons x l e=>
   intro out;obtain⟨h1,h2⟩:=e (PC out x);have:=All out x;refine⟨by simp only[gJ,iA];omega,λd g=>h2 (λy c=>d y (by simp[c])) (Aqg g (d x (by simp)))⟩
 obtain⟨h1,h2⟩:=a l [];unfold CE;exact⟨by simpa using h1,λh=>h2 h λy c=>by cases c⟩
theorem Ahf{l:List Ins}(h:∀x∈l,okIns x):Bj (l.flatMap readsC):=λr a=>by
 obtain⟨x,hx,h1⟩:=iS.1 a;exact F5 (h x hx) r h1
theorem P0(h:okFunc f):Bj (Cl f):=λr a=>by
 obtain⟨b,c,h1⟩:=iS.1 a;exact Ahf (h.blocks b c).ins r h1
theorem Mh(g:α->List Int)(l:List α)(k:Nat):((l.take k).flatMap g).length<=(l.flatMap g).length:=by
 have:l.flatMap g=(l.take k).flatMap g++(l.drop k).flatMap g:=by rw[<-gF,jP]
 rw[this,hZ];omega
theorem KA(g:α->List Int){l:List α}{x:α}(hx:l[k]? =lC x):(l.take (k+1)).flatMap g=(l.take k).flatMap g++g x:=by
 rw[jO,hx,gF];simp
theorem Ae0(f:kE)(ho:okFunc f)(hs:smallF f)(hT:(Cl f).length<=2097152):Fn cF 65 [.agg (An f)] (.bs tInt (BE f)):=by
 have aq:=hs.blocks;refine AT Tryz.func65 V (by kernel_rfl) V Tryz.ntmps65 λC hC=>?_
 refine nS ?_;refine rRS ?_;refine rRS ?_;refine Ae λK3 h3=>?_
 refine rRS ?_;refine Ah ?_;refine AJ (λp:Nat×Nat=>⟨(.any::.ptr 0 0::.any::.own 1 p.2::.lit (.int .i64 (p.1:Int))::A40 (A10 (A3 []))),[.box (An f),.row p.2 3 tInt (CE ((f.blocks.take p.1).flatMap λb=>b.ins.flatMap readsC))]⟩) (λp=>p.1<=f.blocks.length) (λp=>f.blocks.length - p.1) (0,0) (kX _) ((CG 3 3 tInt V kY).trans (B6)) ?_;rintro⟨b,ver⟩ X;dsimp only at X⊢;refine Ae λK6 h6=>?_
 refine rRS ?_;refine Am V (λI=>?_) (λI=>?_)
 ·have ad:b < f.blocks.length:=by simpa using I
  obtain⟨a,U⟩:∃a,f.blocks[b]? =lC a:=⟨_,gP ad⟩
  have d:=iV U;have am:=(hs.all a d).ins;have j:=KA (λb:jY=>b.ins.flatMap readsC) U;have F:=Mh (λb:jY=>b.ins.flatMap readsC) f.blocks (b+1);have E:Bj ((f.blocks.take b).flatMap λb=>b.ins.flatMap readsC):=λr J=>P0 ho r (by
   obtain⟨c,hc,h1⟩:=iS.1 J;exact iS.2 ⟨c,iW hc,h1⟩)
  generalize ((f.blocks.take b).flatMap λb=>b.ins.flatMap readsC)=A at j E⊢;rw[j]at F;have H:(A++a.ins.flatMap readsC).length<=2097152:=kS F hT;refine Ao ?_;refine h6 _ ?_;refine nT ?_;refine Ae λK9 h9=>?_
  refine Ah ?_;refine rRS ?_;refine Ah ?_;refine AJ (λp:Nat×Nat=>⟨(.any::.ptr 0 0::.any::.own 1 p.2::.lit (.int .i64 (b:Int))::.lit (.int .i64 (p.1:Int))::A40 (A10 (A2 []))),[.box (An f),.row p.2 3 tInt (CE (A++(a.ins.take p.1).flatMap readsC))]⟩) (λp=>p.1<=a.ins.length) (λp=>a.ins.length - p.1) (0,ver) (kX _) (by simp only[jT,gH,fP];exact B6) ?_;rintro⟨i,w⟩ hi;dsimp only at hi⊢;refine Ae λay ak=>?_
  refine rRS ?_;refine Am V (λv=>?_) (λv=>?_)
  ·have T:i < a.ins.length:=by simpa using v
   obtain⟨x,hx⟩:∃x,a.ins[i]? =lC x:=⟨_,gP T⟩
   have O:=iV hx;have N:=(ho.blocks a d).ins x O;have al:=(hs.all a d).all x O;have g:=KA readsC hx;have s:=Mh readsC a.ins (i+1);have D:Bj (A++(a.ins.take i).flatMap readsC):=λr J=>by
    rcases iM.1 J with h1|h1
    ·exact E r h1
    ·exact Ahf (λy K=>(ho.blocks a d).ins y (iW K)) r h1
   rw[g]at s;have q:(A++(a.ins.take i).flatMap readsC).length+(readsC x).length<=2097152:=by
    simp only[hZ]at H s⊢;omega
   generalize hB:A++(a.ins.take i).flatMap readsC=B at D q⊢;have P:=F5 N;have an:(readsC x).length<=2097152:=by omega
   refine Ao ?_;refine ak _ ?_;refine nT ?_;refine Ae λax aj=>?_
   refine Ah ?_;refine Ae λaw ai=>?_
   (refine jX ?_;(repeat(first|refine sQ ?_ (AX.call V (Gw x N (by omega)) V V V)|refine sQ ?_|refine AR ?_|refine Bt ?_));refine Ax ?_)
   refine ai _ ?_;refine nT ?_;refine rRS ?_;refine Ah ?_;refine AJ (λp:Nat×Nat=>⟨(.any::.ptr 0 0::.any::.own 1 p.2::.lit (.int .i64 (b:Int))::.lit (.int .i64 (i:Int))::.bs tInt (readsC x)::.lit (.int .i64 (p.1:Int))::A40 (A10 [])),[.box (An f),.row p.2 3 tInt (CE (B++(readsC x).take p.1))]⟩) (λp=>p.1<=(readsC x).length) (λp=>(readsC x).length - p.1) (0,w) (kX _) (by simp only[jT,fP];exact B6) ?_;rintro⟨k,e⟩ hk;dsimp only at hk⊢;refine Ae λav ah=>?_
   refine rRS ?_;refine Am V (λu=>?_) (λu=>?_)
   ·have Q:k < (readsC x).length:=by simpa using u
    obtain⟨r,J⟩:∃r,(readsC x)[k]? =lC r:=⟨_,gP Q⟩
    have aa:=P r (iV J);have G:CE (B++(readsC x).take (k+1))=PC (CE (B++(readsC x).take k)) r:=by
     rw[jO,J,<-fO];exact Wn _ _
    obtain⟨ac,ab⟩:=Q4 (B++(readsC x).take k);have z:=ab λy K=>by
     rcases iM.1 K with h1|h1
     ·exact D y h1
     ·exact P y (iW h1)
    have m:(CE (B++(readsC x).take k)).length<=2097152:=by
     simp only[hZ,iI]at ac q;omega
    generalize CE (B++(readsC x).take k)=out at G m z⊢;refine Ao ?_;refine ah _ ?_;refine nT ?_;refine Ae λau Z=>?_
    refine Ah ?_;refine Ae λar Y=>?_
    rcases hc:out.contains r with _|_
    ·have n:PC out r=IZ (out++[r]):=by unfold PC;rw[if_neg (by rw[hc];simp)]
     have ap:out.length+ [r].length<=fE:=by simp[fE];omega
     have ao:(out.length+ [r].length) * 8<=140737488355328:=by simp;omega
     (refine jX ?_;(repeat(first|refine sQ ?_ (Kh V (by have:=WV out r m;rw[hc]at this;exact this) (.own V (.cl V .nil)))|refine sQ ?_|refine AR ?_|refine Bt ?_));refine Ax ?_)
     refine Y _ ?_;refine nT ?_;refine Am V (λW=>?_) (λX=>by cases X)
     (refine jX ?_;(repeat(first|(refine AH V (Qo V (Wc (out++[r]) (λy K=>(iM.1 K).elim (z y) λh=>by simp at h;rw[h];exact aa) (by simp) (by simp;omega)) V V ?_);refine sNt ?_)|refine sQ ?_|refine AR ?_|refine Bt ?_));refine Ax ?_)
     refine Z _ ?_;refine nT ?_;refine rR ?_;refine As ⟨(k+1,e+1+1),by omega,by dsimp only;omega,?_⟩;dsimp only;rw[G,n];exact B6
    ·have n:PC out r=out:=by unfold PC;rw[if_pos hc]
     (refine jX ?_;(repeat(first|refine sQ ?_ (Kh V (by have:=WV out r m;rw[hc]at this;exact this) (.own V (.cl V .nil)))|refine sQ ?_|refine AR ?_|refine Bt ?_));refine Ax ?_)
     refine Y _ ?_;refine nT ?_;refine Am V (λX=>by cases X) (λW=>?_);refine Ao ?_;refine Z _ ?_;refine nT ?_;refine rR ?_;refine As ⟨(k+1,e),by omega,by dsimp only;omega,?_⟩;dsimp only;rw[G,n];exact B6
   ·refine AA ?_;refine aj _ ?_;refine nT ?_;have ae:k=(readsC x).length:=by
     have:¬k < (readsC x).length:=by simpa using u
     omega
    refine rR ?_;refine As ⟨(i+1,e),by omega,by dsimp only;omega,?_⟩;dsimp only;rw[g,ae,jQ,<-fO,hB];exact B6
  ·refine AA ?_;refine h9 _ ?_;refine nT ?_;have af:i=a.ins.length:=by
    have:¬i < a.ins.length:=by simpa using v
    omega
   refine rR ?_;refine As ⟨(b+1,w),by omega,by dsimp only;omega,?_⟩;dsimp only;rw[j,af,jQ];exact B6
 ·refine AA ?_;refine h3 _ ?_;refine nT ?_;have ag:b=f.blocks.length:=by
   have:¬b < f.blocks.length:=by simpa using I
   omega
  refine rRS ?_;refine Az ?_;rw[ag,jQ];exact⟨.inr V,kA V⟩
def FC(f:kE)(b i:Nat)(r:Int):Bool:=(CV r ((Cq f b).drop i)).1||(!(CV r ((Cq f b).drop i)).2&&Dn f (Lr f r) b)
def Do(f:kE)(regs:List Int)(b i:Nat):List Int:=regs.filter (FC f b i)
def Ce(f:kE)(b:Nat):List (List Int):=(jH ((Cq f b).length+1)).map (Do f (BE f) b)
def Ng(f:kE):List (List (List Int)):=(jH f.blocks.length).map (Ce f)
theorem Ec(hx:l[k]? =lC x):(l.take (k+1)).filter p=(l.take k).filter p++if p x then [x]else []:=by
 rw[jO,hx,fY];cases h:p x <;> simp[h]
theorem L9(f:kE)(r:Int):(Lr f r).length=f.blocks.length:=KR f r _
theorem Z0(f:kE)(regs:List Int)(b i:Nat)(e:jY)(v:okFunc f)(n:smallF f)(K:Bj regs)(J:regs.length<=2097152)(m:f.blocks[b]? =lC e)(hi:i<=e.ins.length):
 Fn cF 67 [.agg (An f),.bs tInt regs,.bs kK.slice (regs.map (Lr f)),.lit (.int .i64 (b:Int)),.lit (.int .i64 (i:Int))] (.bs tInt (Do f regs b i)):=by
 have Q:=n.blocks;have c:=iV m;have z:Cq f b=e.ins:=by unfold Cq;rw[m]
 refine AT Tryz.func67 V (by kernel_rfl) V Tryz.ntmps67 λC X=>?_
 refine nS ?_;refine rRS ?_;refine rRS ?_;refine Ae λK3 U=>?_
 refine rRS ?_;refine Ah ?_;refine AJ (λp:Nat×Nat=>⟨(.any::.bs tInt regs::.bs kK.slice (regs.map (Lr f))::.lit (.int .i64 (b:Int))::.lit (.int .i64 (i:Int))::.ptr 0 0::A5 (.own 1 p.2::.lit (.int .i64 (p.1:Int))::A40 (A4 []))),[.box (An f),.row p.2 3 tInt ((regs.take p.1).filter (FC f b i))]⟩) (λp=>p.1<=regs.length) (λp=>regs.length - p.1) (0,0) (kX _) ((CG 11 3 tInt V kY).trans (B6)) ?_;rintro⟨k,ver⟩ hk;dsimp only at hk⊢;refine Ae λZ T=>?_
 refine rRS ?_;refine Am V (λu=>?_) (λu=>?_)
 ·have E:k < regs.length:=by simpa using u
  obtain⟨r,q⟩:∃r,regs[k]? =lC r:=⟨_,gP E⟩
  have I:=K r (iV q);have P:(regs.map (Lr f))[k]? =lC (Lr f r):=by rw[gT,q];rfl
  have w:=Ec (p:=FC f b i) q;have D:=iC (FC f b i) (regs.take k);have y:((regs.take k).filter (FC f b i)).length<=2097152:=by simp only[iI]at D;omega
  have a:FC f b i r=((CV r (e.ins.drop i)).1||(!(CV r (e.ins.drop i)).2&&Dn f (Lr f r) b)):=by unfold FC;rw[z]
  have g:FC f b i r=aN->(regs.take (k+1)).filter (FC f b i)=(regs.take k).filter (FC f b i)++[r]:=λh=>by rw[w,if_pos h]
  have s:FC f b i r=aI->(regs.take (k+1)).filter (FC f b i)=(regs.take k).filter (FC f b i):=λh=>by rw[w,if_neg (by simp[h]),fP]
  generalize H:(regs.take k).filter (FC f b i)=out at g s y⊢;have O:out.length+ [r].length<=fE:=by simp[fE];omega
  have N:(out.length+ [r].length) * 8<=140737488355328:=by simp;omega
  refine Ao ?_;refine T _ ?_;refine nT ?_;refine Ae λY B=>?_
  refine Ah ?_;refine Ae λW G=>?_
  (refine N7 16 (hh:=?_);(repeat(first|refine qQ ?_ (AX.call V (MJ e i r (v.blocks e c) (n.all e c) hi) V V V)|refine qQ ?_|refine Hp ?_));refine Fo ?_;(repeat(first|refine sQ ?_ (AX.call V (MJ e i r (v.blocks e c) (n.all e c) hi) V V V)|refine sQ ?_|refine AR ?_|refine Bt ?_));refine Ax ?_)
  refine G _ ?_;refine nT ?_;rcases hr1:(CV r (e.ins.drop i)).1 with _|_
  ·rcases hr2:(CV r (e.ins.drop i)).2 with _|_
   ·rw[hr1,hr2]at a;refine Ae λA d=>?_
    rcases hbb:Dn f (Lr f r) b with _|_
    ·rw[hbb]at a
     (refine N7 14 (hh:=?_);(repeat(first|refine qQ ?_ (AX.call V (by have:=EV f (Lr f r) b v n (L9 f r);rw[hbb]at this;exact this) V V V)|refine qQ ?_|refine Hp ?_));refine Fo ?_;(repeat(first|refine sQ ?_ (AX.call V (by have:=EV f (Lr f r) b v n (L9 f r);rw[hbb]at this;exact this) V V V)|refine sQ ?_|refine AR ?_|refine Bt ?_));refine Ax ?_)
     refine d _ ?_;refine nT ?_;refine Am V (λm=>by cases m) (λj=>?_);refine Ao ?_;refine B _ ?_;refine nT ?_;refine rR ?_;refine As ⟨(k+1,ver),by omega,by dsimp only;omega,?_⟩;dsimp only;rw[s a];exact B6
    ·rw[hbb]at a
     (refine N7 14 (hh:=?_);(repeat(first|refine qQ ?_ (AX.call V (by have:=EV f (Lr f r) b v n (L9 f r);rw[hbb]at this;exact this) V V V)|refine qQ ?_|refine Hp ?_));refine Fo ?_;(repeat(first|refine sQ ?_ (AX.call V (by have:=EV f (Lr f r) b v n (L9 f r);rw[hbb]at this;exact this) V V V)|refine sQ ?_|refine AR ?_|refine Bt ?_));refine Ax ?_)
     refine d _ ?_;refine nT ?_;refine Am V (λj=>?_) (λm=>by cases m);refine rR ?_;refine B _ ?_;refine nT ?_;refine rR ?_;refine As ⟨(k+1,ver+1),by omega,by dsimp only;omega,?_⟩;dsimp only;rw[g a];exact B6
   ·rw[hr1,hr2]at a;refine Ae λA d=>?_
    (refine N7 14 (hh:=?_);(repeat(first|refine qQ ?_|refine Hp ?_));refine Fo ?_;(repeat(first|refine sQ ?_|refine AR ?_|refine Bt ?_));refine Ax ?_)
    refine d _ ?_;refine nT ?_;refine Am V (λm=>by cases m) (λj=>?_);refine Ao ?_;refine B _ ?_;refine nT ?_;refine rR ?_;refine As ⟨(k+1,ver),by omega,by dsimp only;omega,?_⟩;dsimp only;rw[s a];exact B6
  ·rw[hr1]at a;refine Ae λA d=>?_
   (refine N7 14 (hh:=?_);(repeat(first|refine qQ ?_|refine Hp ?_));refine Fo ?_;(repeat(first|refine sQ ?_|refine AR ?_|refine Bt ?_));refine Ax ?_)
   refine d _ ?_;refine nT ?_;refine Am V (λj=>?_) (λm=>by cases m);refine rR ?_;refine B _ ?_;refine nT ?_;refine rR ?_;refine As ⟨(k+1,ver+1),by omega,by dsimp only;omega,?_⟩;dsimp only;rw[g a];exact B6
 ·refine AA ?_;refine U _ ?_;refine nT ?_;have F:k=regs.length:=by
   have:¬k < regs.length:=by simpa using u
   omega
  refine rRS ?_;refine Az ?_;rw[F,jQ];exact⟨.inr V,kA V⟩
theorem Su(g:α->β){l:List α}{x:α}(hx:l[k]? =lC x):(l.take (k+1)).map g=(l.take k).map g++[g x]:=by
 rw[jO,hx,iJ];simp
theorem Kx(g:Nat->β)(k:Nat):(jH (k+1)).map g=(jH k).map g++[g k]:=by rw[jI,iJ];rfl
theorem Ze(f:kE)(z:okFunc f)(n:smallF f)(hT:(Cl f).length<=2097152):Fn cF 33 [.agg (An f)] (.bs tInt.slice.slice (Ng f)):=by
 have af:=n.blocks;obtain⟨u,v⟩:=Q4 (Cl f);have H:(BE f).length<=2097152:=kS u hT;have G:Bj (BE f):=v (P0 z);refine AT Tryz.func33 V (by kernel_rfl) V Tryz.ntmps33 λC hC=>?_
 refine nS ?_;refine rRS ?_;refine Ae λK2 h2=>?_
 (refine jX ?_;(repeat(first|refine sQ ?_ (AX.call V (Ae0 f z n hT) V V V)|refine sQ ?_|refine AR ?_|refine Bt ?_));refine Ax ?_)
 refine h2 _ ?_;refine nT ?_;refine rRS ?_;refine Ae λK4 h4=>?_
 refine rRS ?_;refine Ah ?_;refine AJ (λp:Nat×Nat=>⟨(.any::.ptr 0 0::.any::.bs tInt (BE f)::.own 1 p.2::.lit (.int .i64 (p.1:Int))::A40 (A10 (A3 []))),[.box (An f),.row p.2 99 kK.slice (((BE f).take p.1).map (Lr f))]⟩) (λp=>p.1<=(BE f).length) (λp=>(BE f).length - p.1) (0,0) (kX _) ((CG 4 99 kK.slice V kY).trans (B6)) ?_;rintro⟨k,ver⟩ hk;dsimp only at hk⊢;refine Ae λK7 h7=>?_
 refine rRS ?_;refine Am V (λm=>?_) (λm=>?_)
 ·have O:k < (BE f).length:=by simpa using m
  obtain⟨r,I⟩:∃r,(BE f)[k]? =lC r:=⟨_,gP O⟩
  have s:=Su (Lr f) I;have J:(((BE f).take k).map (Lr f)).length<=2097152:=by simp only[iD,iI];omega
  generalize ((BE f).take k).map (Lr f)=out at s J⊢;have N:out.length+ [Lr f r].length<=fE:=by simp[fE];omega
  have K:(out.length+ [Lr f r].length) * 24<=140737488355328:=by simp;omega
  refine Ao ?_;refine h7 _ ?_;refine nT ?_;refine Ae λam ab=>?_
  refine Ah ?_
  (refine N7 8 (hh:=?_);(repeat(first|refine qQ ?_ (AX.call V (YE f r z n) V V V)|refine qQ ?_|refine Hp ?_));refine Fo ?_;(repeat(first|refine sQ ?_ (AX.call V (YE f r z n) V V V)|refine sQ ?_|refine AR ?_|refine Bt ?_));refine Ax ?_)
  refine ab _ ?_;refine nT ?_;refine rR ?_;refine As ⟨(k+1,ver+1),by omega,by dsimp only;omega,?_⟩;dsimp only;rw[s];exact B6
 ·refine AA ?_;refine h4 _ ?_;refine nT ?_;have P:k=(BE f).length:=by
   have:¬k < (BE f).length:=by simpa using m
   omega
  rw[P,jQ];refine AN ⟨(.any::.ptr 0 0::.any::.bs tInt (BE f)::.bs kK.slice ((BE f).map (Lr f))::A40 (A10 (A4 []))),[.box (An f),.dead]⟩ ((OA hC 1 V).trans (by simp only[fzH,Du,AV.fz,ABlk.fz,iK,iL,jL,jK,and_self,if_true,An];exact B6)) ?_;refine rRS ?_;refine Ae λal aa=>?_
  refine rRS ?_;refine Ah ?_;refine AJ (λp:Nat×Nat=>⟨(.any::.ptr 0 0::.any::.bs tInt (BE f)::.bs kK.slice ((BE f).map (Lr f))::.any::.own 2 p.2::.lit (.int .i64 (p.1:Int))::A40 (A10 [.any])),[.box (An f),.dead,.row p.2 66 tInt.slice.slice ((jH p.1).map (Ce f))]⟩) (λp=>p.1<=f.blocks.length) (λp=>f.blocks.length - p.1) (0,0) (kX _) ((CG 6 66 tInt.slice.slice V kY).trans (B6)) ?_;rintro⟨b,ver⟩ hb;dsimp only at hb⊢;refine Ae λak Z=>?_
  refine rRS ?_;refine Am V (λc=>?_) (λc=>?_)
  ·have D:b < f.blocks.length:=by simpa using c
   obtain⟨d,j⟩:∃d,f.blocks[b]? =lC d:=⟨_,gP D⟩
   have A:=iV j;have ac:=(n.all d A).ins;have E:Cq f b=d.ins:=by unfold Cq;rw[j]
   have g:=Kx (Ce f) b;have F:Ce f b=(jH (d.ins.length+1)).map (Do f (BE f) b):=by unfold Ce;rw[E]
   have y:((jH b).map (Ce f)).length<=2097152:=by simp;omega
   generalize (jH b).map (Ce f)=out at g y⊢;have N:out.length+ [Ce f b].length<=fE:=by simp[fE];omega
   have K:(out.length+ [Ce f b].length) * 24<=140737488355328:=by simp;omega
   refine Ao ?_;refine Z _ ?_;refine nT ?_;refine Ae λaj Y=>?_
   refine Ah ?_;refine rRS ?_;refine Ae λai X=>?_
   refine rRS ?_;refine Ah ?_;refine AJ (λp:Nat×Nat=>⟨(.any::.ptr 0 0::.any::.bs tInt (BE f)::.bs kK.slice ((BE f).map (Lr f))::.any::.own 2 ver::.lit (.int .i64 (b:Int))::.own 3 p.2::.lit (.int .i64 (p.1:Int))::A40 (A9 [])),[.box (An f),.dead,.row ver 66 tInt.slice.slice out,.row p.2 27 tInt.slice ((jH p.1).map (Do f (BE f) b))]⟩) (λp=>p.1<=d.ins.length+1) (λp=>d.ins.length+1 - p.1) (0,0) (kX _) ((CG 8 27 tInt.slice V kY).trans (B6)) ?_;rintro⟨i,q⟩ hi;dsimp only at hi⊢;refine Ae λah W=>?_
   refine rRS ?_;refine Am V (λa=>?_) (λa=>?_)
   ·have B:i<=d.ins.length:=by simpa using a
    have e:=Kx (Do f (BE f) b) i;have w:((jH i).map (Do f (BE f) b)).length<=2097152:=by simp;omega
    generalize (jH i).map (Do f (BE f) b)=l at e w⊢;have ae:l.length+ [Do f (BE f) b i].length<=fE:=by simp[fE];omega
    have ad:(l.length+ [Do f (BE f) b i].length) * 24<=140737488355328:=by simp;omega
    refine Ao ?_;refine W _ ?_;refine nT ?_;refine Ae λag U=>?_
    refine Ah ?_
    (refine jX ?_;(repeat(first|refine sQ ?_ (AX.call V (Z0 f (BE f) b i d z n G H j B) V V V)|refine sQ ?_|refine AR ?_|refine Bt ?_));refine Ax ?_)
    refine U _ ?_;refine nT ?_;refine rR ?_;refine As ⟨(i+1,q+1),by omega,by dsimp only;omega,?_⟩;dsimp only;rw[e];exact B6
   ·refine AA ?_;refine X _ ?_;refine nT ?_;have Q:i=d.ins.length+1:=by
     have:¬i<=d.ins.length:=by simpa using a
     omega
    rw[Q,<-F];refine AN ⟨(.any::.ptr 0 0::.any::.bs tInt (BE f)::.bs kK.slice ((BE f).map (Lr f))::.any::.own 2 ver::.lit (.int .i64 (b:Int))::.bs tInt.slice (Ce f b)::A40 (A10 [])),[.box (An f),.dead,.row ver 66 tInt.slice.slice out,.dead]⟩ ((OA hC 3 V).trans (by simp only[fzH,Du,AV.fz,ABlk.fz,iK,iL,jL,jK,and_self,if_true,An,Nat.reduceEqDiff,false_and,if_false];exact B6)) ?_;refine rR ?_;refine Y _ ?_;refine nT ?_;refine rR ?_;refine As ⟨(b+1,ver+1),by omega,by dsimp only;omega,?_⟩;dsimp only;rw[g];exact Ky (jZ (jZ (jZ (j6 _))))
  ·refine AA ?_;refine aa _ ?_;refine nT ?_;have T:b=f.blocks.length:=by
    have:¬b < f.blocks.length:=by simpa using c
    omega
   refine rRS ?_;refine Az ?_;rw[T];exact⟨.inr V,kA V⟩
end Mu
namespace Mu
open Go
variable{A B:List Int}{b:Nat}{f:kE}{k:Nat}{out:List Bool}{q:Nat}{r x:Int}
def LIn(f:kE)(b:Nat)(r:Int):Prop:=rdB r (Cq f b)=aN\/(Ajg r (Cq f b)=aN/\kF f b r)
theorem Alc:kF f k r↔∃b,j7 f k b/\LIn f b r:=by
 constructor
 ·intro h;cases h with
  |read a h=>exact⟨_,a,.inl h⟩
  |pass a h c=>exact⟨_,a,.inr ⟨h,c⟩⟩
 ·rintro⟨b,a,h|⟨h,c⟩⟩
  ·exact .read a h
  ·exact .pass a h c
theorem Nc:Dn f out (k:Int)=aN↔∃b,j7 f k b/\out.getD b aI=aN:=by
 unfold Dn nextL j7;rw[fN];constructor
 ·rintro⟨x,hx,h⟩;obtain⟨y,a,rfl⟩:=iU.1 hx;exact⟨y.1,⟨y,a,rfl⟩,by simpa[Fy]using h⟩
 ·rintro⟨b,⟨y,a,rfl⟩,h⟩;exact⟨Fy y,iU.2 ⟨y,a,rfl⟩,by simpa[Fy]using h⟩
theorem Arh(f:kE)(r:Int)(out:List Bool)(b:Nat):goB f r out b=(rdB r (Cq f b)||(Ajg r (Cq f b)&&Dn f out b)):=by
 have h:=TS r (Cq f b) (λ_=>Dn f out b);rw[UH]at h;exact h
theorem Ahu(h:j7 f k b):b < f.blocks.length:=by
 obtain⟨x,_,rfl⟩:=h;exact x.2
def RL(f:kE)(r:Int)(out:List Bool):Prop:=∀b,out.getD b aI=aN->LIn f b r
theorem Nq(h:RL f r out)(d:Dn f out (k:Int)=aN):kF f k r:=by
 obtain⟨b,c,a⟩:=Nc.1 d;exact Alc.2 ⟨b,c,h b a⟩
theorem Zy(h:RL f r out)(b:Nat):RL f r (MD f r out b):=by
 unfold MD;split
 ·rename_i hg;intro c hc;by_cases a:b=c
  ·subst a;rw[Arh]at hg;simp only[zay]at hg;rcases hg with hg|⟨h1,h2⟩
   ·exact .inl hg
   ·exact .inr ⟨h1,Nq h h2⟩
  ·rw[gK,gW a,<-gK]at hc;exact h c hc
 ·exact h
theorem Zz(h:RL f r out)(m:Nat):RL f r (foldI f r out m):=by
 induction m with
 |zero=>exact h
 |succ m a=>rw[EU];exact Zy a m
theorem TB(f:kE)(r:Int)(m:Nat):RL f r (roundsI f r m):=by
 induction m with
 |zero=>
  intro b a;unfold roundsI at a;rw[gK,gV]at a;split at a <;> simp at a
 |succ m c=>exact Zz c _
theorem QZ(f:kE)(r:Int)(out:List Bool)(b:Nat):out.count aN<=(MD f r out b).count aN/\(MD f r out b≠out->out.count aN < (MD f r out b).count aN):=by
 unfold MD;split
 ·by_cases g:b < out.length
  ·have e:out.set b aN=out.take b++aN::out.drop (b+1):=List.set_eq_take_append_cons_drop .. |>.trans (by rw[if_pos g])
   have c:out=out.take b++out[b]::out.drop (b+1):=by rw[<-List.drop_eq_getElem_cons g,jP]
   have h1:(out.set b aN).count aN=(out.take b).count aN+1+(out.drop (b+1)).count aN:=by rw[e,fT,fU];omega
   cases a:out[b]with
   |true=>
    have h2:out.count aN=(out.take b).count aN+1+(out.drop (b+1)).count aN:=by
     conv=>lhs;rw[c,a]
     rw[fT,fU];omega
    refine⟨by omega,λd=>absurd ?_ d⟩;rw[e]
    conv=>rhs;rw[c,a]
   |false=>
    have h2:out.count aN=(out.take b).count aN+(out.drop (b+1)).count aN:=by
     conv=>lhs;rw[c,a]
     rw[fT,List.count_cons_of_ne (by simp)]
    exact⟨by omega,λ_=>by omega⟩
  ·rw[List.set_eq_of_length_le (by omega)];exact⟨kR _,λh=>absurd V h⟩
 ·exact⟨kR _,λh=>absurd V h⟩
theorem Rt(f:kE)(r:Int)(out:List Bool)(m:Nat):out.count aN<=(foldI f r out m).count aN/\(foldI f r out m≠out->out.count aN < (foldI f r out m).count aN):=by
 induction m with
 |zero=>exact⟨kR _,λh=>absurd V h⟩
 |succ m d=>
  rw[EU];obtain⟨h1,h2⟩:=QZ f r (foldI f r out m) m;refine⟨by omega,λa=>?_⟩;by_cases c:foldI f r out m=out
  ·rw[c]at h1 h2 a⊢;exact h2 a
  ·have:=d.2 c;omega
theorem Rq{n:Nat}(h:foldI f r out n=out):∀m,m<=n->foldI f r out m=out:=by
 intro m e;by_cases c:foldI f r out m=out
 ·exact c
 ·exfalso;have h1:=(Rt f r out m).2 c;have a:∀k,(foldI f r out m).count aN<=(foldI f r out (m+k)).count aN:=by
   intro k;induction k with
   |zero=>exact kR _
   |succ k d=>rw[<-kL,EU];exact kS d (QZ f r _ _).1
  have h2:=a (n - m);rw[show m+(n - m)=n by omega,h]at h2;omega
theorem YL(a:out.length=f.blocks.length)(h:foldI f r out f.blocks.length=out)(c:b < f.blocks.length)(hg:goB f r out b=aN):out.getD b aI=aN:=by
 have h1:=Rq h (b+1) (by omega);rw[EU,Rq h b (by omega),MD,if_pos hg]at h1;rw[<-h1,gK,gX (by omega)];rfl
theorem Ahj(d:out.length=f.blocks.length)(h:foldI f r out f.blocks.length=out)(c:kF f k r):Dn f out (k:Int)=aN:=by
 induction c with
 |read a h1=>exact Nc.2 ⟨_,a,YL d h (Ahu a) (by rw[Arh,h1];rfl)⟩
 |pass a h1 _ e=>exact Nc.2 ⟨_,a,YL d h (Ahu a) (by rw[Arh,h1,e h];simp)⟩
theorem TM(f:kE)(r:Int):foldI f r (Lr f r) f.blocks.length=Lr f r:=by
 have d:∀m,(∃j,j < m/\roundsI f r (j+1)=roundsI f r j)\/m<=(roundsI f r m).count aN:=by
  intro m;induction m with
  |zero=>exact .inr (kX _)
  |succ m e=>
   rcases e with⟨j,n,c⟩|h
   ·exact .inl ⟨j,by omega,c⟩
   ·by_cases c:roundsI f r (m+1)=roundsI f r m
    ·exact .inl ⟨m,by omega,c⟩
    ·have:=(Rt f r (roundsI f r m) f.blocks.length).2 c;exact .inr (Nat.lt_of_le_of_lt h this)
 rcases d (f.blocks.length+1)with⟨j,n,c⟩|h
 ·have g:∀k,roundsI f r (j+k)=roundsI f r j:=by
   intro k;induction k with
   |zero=>rfl
   |succ k e=>
    show foldI f r (roundsI f r (j+k)) f.blocks.length=_;rw[e];exact c
  have h1:Lr f r=roundsI f r j:=by
   unfold Lr;rw[show f.blocks.length+1=j+(f.blocks.length+1 - j)by omega];exact g _
  rw[h1];exact c
 ·have:=List.count_le_length (a:=aN) (l:=roundsI f r (f.blocks.length+1));rw[KR]at this;omega
theorem PW(f:kE)(r:Int)(k:Nat):Dn f (Lr f r) (k:Int)=aN↔kF f k r:=
 ⟨λh=>Nq (TB f r _) h,λh=>Ahj (L9 f r) (TM f r) h⟩
theorem Agf(f:kE)(S:Int->Bool)(b i:Nat)(a:∀r,S r=aN↔kF f b r)(r:Int):FC f b i r=inS ((Cq f b).drop i) S r:=by
 unfold FC;have e:Dn f (Lr f r) (b:Int)=S r:=by
  cases h1:Dn f (Lr f r) (b:Int) <;> cases h2:S r
  ·rfl
  ·have:=(PW f r b).2 ((a r).1 h2);rw[h1]at this;cases this
  ·have:=(a r).2 ((PW f r b).1 h1);rw[h2]at this;cases this
  ·rfl
 rw[e];exact TS r _ S
def Ju(x:Int):List Int->List Int
 | []=>[x]
 |a::l=>if a > x then a::Ju x l else x::a::l
theorem SB(h:A.length=q):(A++x::B).getD q 0=x:=by
 rw[gK,gL (by omega)];simp[h]
theorem Ajx{a:Int}(h:A.length=q):swapL (A++a::x::B) q=A++x::a::B:=by
 unfold swapL;have h1:(A++a::x::B).getD q 0=a:=SB h;have h2:(A++a::x::B).getD (q+1) 0=x:=by
  rw[show A++a::x::B=(A++[a])++x::B by simp];exact SB (by simp[h])
 rw[h1,h2];subst h;simp[List.set_append]
theorem Aei(x:Int):∀(R B:List Int),OQ R.length (R.reverse++x::B)=(Ju x R).reverse++B
 | [],B=>by simp[OQ,Ju]
 |a::R,B=>by
  have d:R.reverse.length=R.length:=iH;have e:(a::R).reverse++x::B=R.reverse++a::x::B:=by simp
  rw[e,iA,OQ];have h1:(R.reverse++a::x::B).getD R.length 0=a:=SB d;have h2:(R.reverse++a::x::B).getD (R.length+1) 0=x:=by
   rw[show R.reverse++a::x::B=(R.reverse++[a])++x::B by simp];exact SB (by simp)
  rw[h1,h2,Ajx d];unfold Ju;by_cases c:a > x
  ·rw[if_pos c,if_pos c,Aei x R (a::B)];simp
  ·rw[if_neg c,if_neg c];simp
theorem TD(l:List Int)(x:Int):IZ (l++[x])=(Ju x l.reverse).reverse:=by
 have h:=Aei x l.reverse [];rw[List.reverse_reverse,iH,fP]at h;unfold IZ;simpa using h
theorem MY{x y:Int}:∀{l:List Int},y∈Ju x l↔y=x\/y∈l
 | []=>by simp[Ju]
 |a::l=>by
  unfold Ju;split
  ·rw[iN,MY (l:=l),iN];constructor
   ·rintro(h|h|h) <;> simp[h]
   ·rintro(h|h|h) <;> simp[h]
  ·rw[iN]
theorem PB{x:Int}:∀{l:List Int},l.Pairwise (λa b=>b < a)->x∉l->(Ju x l).Pairwise λa b=>b < a
 | [],_,_=>by simp[Ju]
 |a::l,h,hx=>by
  rw[jE]at h;simp only[iN,not_or]at hx;unfold Ju;split
  ·rename_i c;refine jE.2 ⟨λy hy=>?_,PB h.2 hx.2⟩;rcases MY.1 hy with rfl|hy
   ·exact c
   ·exact h.1 y hy
  ·rename_i c;refine jE.2 ⟨λy hy=>?_,jE.2 h⟩;rcases iN.1 hy with rfl|hy
   ·omega
   ·have:=h.1 y hy;omega
theorem Alm{l:List Int}(h:Asc l):Asc (PC l x)/\∀y,y∈PC l x↔y=x\/y∈l:=by
 unfold PC;split
 ·rename_i hc;have a:x∈l:=by simpa using hc
  refine⟨h,λy=>⟨λhy=>.inr hy,?_⟩⟩;rintro(rfl|hy)
  ·exact a
  ·exact hy
 ·rename_i hc;have a:x∉l:=by simpa using hc
  rw[TD];refine⟨?_,λy=>by rw[iZ,MY,iZ]⟩;unfold Asc at *;rw[jG];exact PB (by rw[jG];exact h) (by rw[iZ];exact a)
theorem EQ(l:List Int):Asc (CE l)/\∀y,y∈CE l↔y∈l:=by
 have a:∀(l out:List Int),Asc out->Asc (l.foldl PC out)/\∀y,y∈l.foldl PC out↔y∈out\/y∈l:=by
  intro l;induction l with
  |nil=>intro out h;exact⟨h,λy=>by simp⟩
  |cons x l c=>
   intro out h;obtain⟨h1,h2⟩:=Alm (x:=x) h;obtain⟨e,d⟩:=c _ h1;refine⟨e,λy=>?_⟩;rw[gJ,d y,h2 y,iN];constructor
   ·rintro((h|h)|h) <;> simp[h]
   ·rintro(h|h|h) <;> simp[h]
 obtain⟨h1,h2⟩:=a l [] fL;exact⟨h1,λy=>by unfold CE;rw[h2 y];simp⟩
theorem TP(f:kE):Asc (BE f):=(EQ _).1
theorem Je:r∈BE f↔∃b∈f.blocks,∃x∈b.ins,r∈readsC x:=by
 unfold BE;rw[(EQ _).2 r];unfold Cl;simp only[iS]
open Go.RowKit Go.Proofs Go.Maps
variable{Q:Exit->St->Prop}{b id:Nat}{ms:List Nat}{n:Nat}{s:St}
instance:AG cF 157 aI 1:=⟨by kernel_rfl⟩
instance:SZ cF 157 1:=⟨by kernel_rfl⟩
instance:ES cF 157 1:=⟨by kernel_rfl⟩
instance:SL cF 157:=⟨by kernel_rfl⟩
instance:RT cF 157 156 1 8:=⟨by kernel_rfl⟩
instance:AG cF 156 aI 1:=⟨by kernel_rfl⟩
instance:SZ cF 156 1:=⟨by kernel_rfl⟩
instance:ZC cF 156 [.map lB]:=⟨by kernel_rfl⟩
theorem Aij{i:Nat}{K:St->Prop}(h:Q (.exit i) s):Ku K Q (.exit i) s:=h
theorem Ab8(h:Q .normal s):JL id Q (.exit id) s:=by simp[JL,h]
theorem Am0(h:Q .normal s):JL id Q .normal s:=h
theorem Azw:GO cF 157=lC (156,.map lB,8):=by kernel_rfl
theorem Adl:cF.underlying 156=lC (.map 3 3):=by kernel_rfl
theorem Dw(l:List Int):(CE l).length<=l.length:=by
 have c:∀(l a:List Int),(l.foldl PC a).length<=a.length+l.length:=by
  intro l;induction l with
  |nil=>intro a;simp
  |cons x l d=>
   intro a;have:=d (PC a x);have h2:(PC a x).length<=a.length+1:=by
    unfold PC;split
    ·omega
    ·rw[ON];simp
   simp only[gJ,iA];omega
 simpa[CE]using c l []
theorem R9(f:kE)(a:okFunc f)(d:(Cl f).length<=2097152):RegsR (BE f):=by
 refine⟨TP f,λx hx=>?_,?_⟩
 ·obtain⟨b,h1,y,h2,c⟩:=Je.1 hx;exact F5 ((a.blocks b h1).ins y h2) x c
 ·have:=Dw (Cl f);unfold BE;omega
def KC(ms:List Nat)(n:Nat):List AV:=ms.map Fl++jJ (n - ms.length) (.lit (.map lB))
theorem Abw{m:Nat}(a:ms.length=b)(c:b < n):(KC ms n).take b++[Fl m]++(KC ms n).drop (b+1)=KC (ms++[m]) n:=by
 unfold KC;have h1:(ms.map Fl).length=b:=by simp[a]
 rw[List.take_append_of_le_length (by omega),jR (by omega),List.drop_append,List.drop_eq_nil_of_le (by simp;omega),i8,h1,List.drop_replicate,iJ,hZ,fO,fO];congr 3;simp;omega
theorem Abx(h:ms.length<=n):(KC ms n).length=n:=by
 unfold KC;simp;omega
theorem Xp(h:ms.length=n):KC ms n=ms.map Fl:=by
 unfold KC;rw[h];simp
def M0(l:List Nat):List Int:=l.map λk:Nat=>(k:Int)
theorem GG(l:List Nat):(M0 l).length=l.length:=by simp[M0]
theorem Mc(l:List Nat)(b:Nat):M0 (l++[b])=M0 l++[(b:Int)]:=by simp[M0]
theorem Auy{a c:Nat}(d:b<=2097152)(hc:c<=2097152)(h:a<=b * c):a<=4398046511104:=kS h (kS (kU d hc) (by decide))
theorem Ao1(f:kE)(H:okFunc f)(G:smallF f)(hT:(Cl f).length<=2097152):Fn cF 131 [.agg (An f)] (.bs Anj ((jH f.blocks.length).map (Yn f))):=by
 have bw:=G.blocks;have Z:=R9 f H hT;have cb:(BE f).length<=2097152:=kS (Dw _) hT;have ae:∀b∈f.blocks,∀x∈b.ins,∀r∈readsC x,r∈BE f:=λb hb x hx r hr=>Je.2 ⟨b,hb,x,hx,hr⟩
 have c:8 * f.blocks.length<=281474976710656:=by omega
 have a:f.blocks.length<=fE:=by unfold fE;omega
 refine FX Tryz.func131 V (by kernel_rfl) V Tryz.ntmps131 λC hC bi=>?_
 refine nS ?_;refine Ae λK1 h1=>?_
 refine rR ?_;refine h1 _ ?_;refine nT ?_;refine Bw 1 V V V (λg=>(.any::.lit (.pointer (lC ⟨g,0,lB⟩))::A80 (A20 [.any]))) (λg=>(by(repeat(first|exact kI|refine kJ ?_|refine kG ?_|refine kH V ?_)))) λE=>?_
 refine Ae λK2 h2=>?_
 (refine jX ?_;(repeat(first|refine sQ ?_|refine AR ?_|refine Bt ?_)))
 refine AH V (Ajc V Azw V V c a λO=>?_);refine sNt ?_
 (repeat(first|refine sQ ?_|refine AR ?_|refine Bt ?_))
 refine Ax ?_;refine h2 _ ?_;refine nT ?_;refine AN ⟨(.any::.lit (.pointer (lC ⟨E,0,lB⟩))::.any::.lit (.slice (lC ⟨O,0,lB⟩) f.blocks.length f.blocks.length)::A80 (A10 (A9 []))),[.res (Bq []),.res (Bh E (An f)),.res (Bh O (jJ f.blocks.length (.lit (.map lB))))]⟩ (B6) ?_;refine Ae λK3 h3=>?_
 suffices y:∀s':St,St.le C s' ⟨(.any::.lit (.pointer (lC ⟨E,0,lB⟩))::.any::.lit (.slice (lC ⟨O,0,lB⟩) f.blocks.length f.blocks.length)::.own 3 0::.bs tInt.slice (G6 f f.blocks.length)::A80 (A10 (A7 []))),[.res (Bq []),.res (Bh E (An f)),.res (Bh O (jJ f.blocks.length (.lit (.map lB)))),.row 0 3 tInt []]⟩->K3 s' by
  (refine Ai5 0 (by kernel_rfl) (by kernel_rfl) ?_;refine Fo ?_;(refine BQ [0,4] (tC ?_ (tC ?_ AS));(refine oQ ?_;(refine BQ [1,4] (tC ?_ (tC ?_ AS));(refine oQ ?_;(refine BQ [2,4] (tC ?_ (tC ?_ AS));(refine oQ ?_;(refine BQ [3,4] (tC ?_ (tC ?_ AS));((refine En (T:=tInt) (m:=1) (e:=3) V V (by decide) V V c a ?_;refine tNt ?_);(refine BQ [4] (tC ?_ AS);(refine oQ ?_;(refine BQ [5] (tC ?_ AS);(refine oQ ?_ (AX.call V (CB f H G) V V V);(refine BQ [6] (tC ?_ AS);(refine oQ ?_;(refine BQ [7] (tC ?_ AS);(refine oQ ?_;(exact KM (y _ (B6))))))))))));(refine oQ ?_;(refine BQ [3,5] (tC ?_ (tC ?_ AS));((refine En (T:=tInt) (m:=1) (e:=3) V V (by decide) V V c a ?_;refine tNt ?_);(refine BQ [5] (tC ?_ AS);(refine oQ ?_ (AX.call V (CB f H G) V V V);(refine BQ [6] (tC ?_ AS);(refine oQ ?_;(refine BQ [7] (tC ?_ AS);(refine oQ ?_;(exact KM (y _ (B6))))))))));(refine oQ ?_ (AX.call V (CB f H G) V V V);(refine BQ [3] (tC ?_ AS);((refine En (T:=tInt) (m:=1) (e:=3) V V (by decide) V V c a ?_;refine tNt ?_);(refine BQ [6] (tC ?_ AS);(refine oQ ?_;(refine BQ [7] (tC ?_ AS);(refine oQ ?_;(exact KM (y _ (B6))))))))))))));(refine oQ ?_;(refine BQ [2,5] (tC ?_ (tC ?_ AS));(refine oQ ?_;(refine BQ [3,5] (tC ?_ (tC ?_ AS));((refine En (T:=tInt) (m:=1) (e:=3) V V (by decide) V V c a ?_;refine tNt ?_);(refine BQ [5] (tC ?_ AS);(refine oQ ?_ (AX.call V (CB f H G) V V V);(refine BQ [6] (tC ?_ AS);(refine oQ ?_;(refine BQ [7] (tC ?_ AS);(refine oQ ?_;(exact KM (y _ (B6))))))))));(refine oQ ?_ (AX.call V (CB f H G) V V V);(refine BQ [3] (tC ?_ AS);((refine En (T:=tInt) (m:=1) (e:=3) V V (by decide) V V c a ?_;refine tNt ?_);(refine BQ [6] (tC ?_ AS);(refine oQ ?_;(refine BQ [7] (tC ?_ AS);(refine oQ ?_;(exact KM (y _ (B6))))))))))));(refine oQ ?_ (AX.call V (CB f H G) V V V);(refine BQ [2] (tC ?_ AS);(refine oQ ?_;(refine BQ [3] (tC ?_ AS);((refine En (T:=tInt) (m:=1) (e:=3) V V (by decide) V V c a ?_;refine tNt ?_);(refine BQ [6] (tC ?_ AS);(refine oQ ?_;(refine BQ [7] (tC ?_ AS);(refine oQ ?_;(exact KM (y _ (B6))))))))))))))));(refine oQ ?_;(refine BQ [1,5] (tC ?_ (tC ?_ AS));(refine oQ ?_;(refine BQ [2,5] (tC ?_ (tC ?_ AS));(refine oQ ?_;(refine BQ [3,5] (tC ?_ (tC ?_ AS));((refine En (T:=tInt) (m:=1) (e:=3) V V (by decide) V V c a ?_;refine tNt ?_);(refine BQ [5] (tC ?_ AS);(refine oQ ?_ (AX.call V (CB f H G) V V V);(refine BQ [6] (tC ?_ AS);(refine oQ ?_;(refine BQ [7] (tC ?_ AS);(refine oQ ?_;(exact KM (y _ (B6))))))))));(refine oQ ?_ (AX.call V (CB f H G) V V V);(refine BQ [3] (tC ?_ AS);((refine En (T:=tInt) (m:=1) (e:=3) V V (by decide) V V c a ?_;refine tNt ?_);(refine BQ [6] (tC ?_ AS);(refine oQ ?_;(refine BQ [7] (tC ?_ AS);(refine oQ ?_;(exact KM (y _ (B6))))))))))));(refine oQ ?_ (AX.call V (CB f H G) V V V);(refine BQ [2] (tC ?_ AS);(refine oQ ?_;(refine BQ [3] (tC ?_ AS);((refine En (T:=tInt) (m:=1) (e:=3) V V (by decide) V V c a ?_;refine tNt ?_);(refine BQ [6] (tC ?_ AS);(refine oQ ?_;(refine BQ [7] (tC ?_ AS);(refine oQ ?_;(exact KM (y _ (B6))))))))))))));(refine oQ ?_ (AX.call V (CB f H G) V V V);(refine BQ [1] (tC ?_ AS);(refine oQ ?_;(refine BQ [2] (tC ?_ AS);(refine oQ ?_;(refine BQ [3] (tC ?_ AS);((refine En (T:=tInt) (m:=1) (e:=3) V V (by decide) V V c a ?_;refine tNt ?_);(refine BQ [6] (tC ?_ AS);(refine oQ ?_;(refine BQ [7] (tC ?_ AS);(refine oQ ?_;(exact KM (y _ (B6))))))))))))))))));(refine oQ ?_;(refine BQ [0,5] (tC ?_ (tC ?_ AS));(refine oQ ?_;(refine BQ [1,5] (tC ?_ (tC ?_ AS));(refine oQ ?_;(refine BQ [2,5] (tC ?_ (tC ?_ AS));(refine oQ ?_;(refine BQ [3,5] (tC ?_ (tC ?_ AS));((refine En (T:=tInt) (m:=1) (e:=3) V V (by decide) V V c a ?_;refine tNt ?_);(refine BQ [5] (tC ?_ AS);(refine oQ ?_ (AX.call V (CB f H G) V V V);(refine BQ [6] (tC ?_ AS);(refine oQ ?_;(refine BQ [7] (tC ?_ AS);(refine oQ ?_;(exact KM (y _ (B6))))))))));(refine oQ ?_ (AX.call V (CB f H G) V V V);(refine BQ [3] (tC ?_ AS);((refine En (T:=tInt) (m:=1) (e:=3) V V (by decide) V V c a ?_;refine tNt ?_);(refine BQ [6] (tC ?_ AS);(refine oQ ?_;(refine BQ [7] (tC ?_ AS);(refine oQ ?_;(exact KM (y _ (B6))))))))))));(refine oQ ?_ (AX.call V (CB f H G) V V V);(refine BQ [2] (tC ?_ AS);(refine oQ ?_;(refine BQ [3] (tC ?_ AS);((refine En (T:=tInt) (m:=1) (e:=3) V V (by decide) V V c a ?_;refine tNt ?_);(refine BQ [6] (tC ?_ AS);(refine oQ ?_;(refine BQ [7] (tC ?_ AS);(refine oQ ?_;(exact KM (y _ (B6))))))))))))));(refine oQ ?_ (AX.call V (CB f H G) V V V);(refine BQ [1] (tC ?_ AS);(refine oQ ?_;(refine BQ [2] (tC ?_ AS);(refine oQ ?_;(refine BQ [3] (tC ?_ AS);((refine En (T:=tInt) (m:=1) (e:=3) V V (by decide) V V c a ?_;refine tNt ?_);(refine BQ [6] (tC ?_ AS);(refine oQ ?_;(refine BQ [7] (tC ?_ AS);(refine oQ ?_;(exact KM (y _ (B6))))))))))))))));(refine oQ ?_ (AX.call V (CB f H G) V V V);(refine BQ [0] (tC ?_ AS);(refine oQ ?_;(refine BQ [1] (tC ?_ AS);(refine oQ ?_;(refine BQ [2] (tC ?_ AS);(refine oQ ?_;(refine BQ [3] (tC ?_ AS);((refine En (T:=tInt) (m:=1) (e:=3) V V (by decide) V V c a ?_;refine tNt ?_);(refine BQ [6] (tC ?_ AS);(refine oQ ?_;(refine BQ [7] (tC ?_ AS);(refine oQ ?_;(exact KM (y _ (B6))))))))))))))))))))
 intro s' br
 ·refine h3 _ (AN _ br ?_);refine AN _ (Ab9 (R:=mapsR [] []) (λ_ _=>⟨rfl,jB,λi m S hm=>by simp at hm⟩) (λg hg=>by cases hg) V) ?_;refine Ae λK4 h4=>?_
  refine Ae λK5 h5=>?_
  refine rR ?_;refine h5 _ ?_;refine nT ?_;refine Ah ?_;refine AJ (λp:Nat×Nat×List Nat=>⟨(.any::.lit (.pointer (lC ⟨E,0,lB⟩))::.any::.lit (.slice (lC ⟨O,0,lB⟩) f.blocks.length f.blocks.length)::.own 3 p.2.1::.bs tInt.slice (G6 f f.blocks.length)::A20 (.lit (.int .i64 (f.blocks.length:Int))::.lit (.int .i64 (p.1:Int))::A40 (A20 (A10 (A5 []))))),[.res (Bq []),.res (Bh E (An f)),.res (Bh O (KC p.2.2 f.blocks.length)),.row p.2.1 3 tInt (M0 (jH p.1)),.res (mapsR p.2.2 (jJ p.1 λ_=>aI))]⟩) (λp=>p.1<=f.blocks.length/\p.2.2.length=p.1) (λp=>f.blocks.length - p.1) (0,0,[]) ⟨kX _,rfl⟩ (B6) ?_;rintro⟨b,ver,ms⟩ ⟨U,ab⟩;dsimp only at U ab⊢;refine Ae λK7 h7=>?_
  refine rR ?_;refine h7 _ ?_;refine nT ?_;refine Ae λK8 h8=>?_
  refine Am V (λak=>?_) (λak=>?_)
  ·have ac:b < f.blocks.length:=by simpa using ak
   have aj:b+ [Fl 0].length<=(KC ms f.blocks.length).length:=by rw[Abx (by omega)];exact ac
   have hw:=LY (k:=b) (by omega);have bn:(M0 (jH b)).length+ [(b:Int)].length<=fE:=by rw[GG];simp[fE];omega
   have bm:((M0 (jH b)).length+ [(b:Int)].length) * 8<=140737488355328:=by rw[GG];simp;omega
   refine Ao ?_;refine h8 _ ?_;refine nT ?_;refine Ae λdz cv=>?_
   refine Ah ?_;refine Ae λdy cu=>?_
   refine rR ?_;refine cu _ ?_;refine nT ?_;refine Ae λdx ct=>?_
   (refine jX ?_;(repeat(first|refine sQ ?_|refine AR ?_|refine Bt ?_)))
   refine AH V (Qm V λm=>?_);refine sNt ?_
   (repeat(first|refine sQ ?_|refine AR ?_|refine Bt ?_))
   refine AH V (IH (i:=2) (new:=[Fl m]) V V V (Qd.one (One.lit V)) V V aj ?_);refine sNt ?_;refine Ax ?_;rw[Abw ab ac];refine ct _ ?_;refine nT ?_;refine AN _ (Aca (i:=4) (j:=5) (by decide) V V) ?_;refine rR ?_;refine cv _ ?_;refine nT ?_;refine rR ?_;refine As ⟨(b+1,ver+1,ms++[m]),⟨by omega,by simp[ab]⟩,by dsimp only;omega,?_⟩;dsimp only;rw[jI,Mc,List.replicate_succ'];exact Ky (jZ (jZ (jZ (jZ (jZ (j6 _))))))
  ·refine AA ?_;have ax:b=f.blocks.length:=by
    have:¬b < f.blocks.length:=by simpa using ak
    omega
   subst ax;refine h4 _ ?_;refine nT ?_;rw[Xp ab];refine Ae λdw cs=>?_
   refine Ah ?_;have cc:AllI f (BE f) (jH f.blocks.length) (jJ f.blocks.length λ_=>aI):=AllI.start λb=>iY
   have aq:=Aqc (BE f) (jJ f.blocks.length λ_=>aI);rw[List.length_replicate]at aq;have cy:=Auy bw cb aq;refine AJ (λp:List Nat×Nat×List Nat×List (Int->Bool)=>⟨(.any::.lit (.pointer (lC ⟨E,0,lB⟩))::.any::.lit (.slice (lC ⟨O,0,lB⟩) f.blocks.length f.blocks.length)::.own 3 p.2.1::.bs tInt.slice (G6 f f.blocks.length)::A80 (A10 (A7 []))),[.res (Bq p.1),.res (Bh E (An f)),.res (Bh O (ms.map Fl)),.row p.2.1 3 tInt (M0 p.2.2.1),.res (mapsR ms p.2.2.2)]⟩) (λp=>AllI f (BE f) p.2.2.1 p.2.2.2/\2 * Pz (BE f) p.2.2.2+p.2.2.1.length<=10000000000000) (λp=>2 * Pz (BE f) p.2.2.2+p.2.2.1.length) ([],ver,jH f.blocks.length,jJ f.blocks.length λ_=>aI) ⟨cc,by dsimp only;rw[List.length_range];omega⟩ (B6) ?_;rintro⟨ds,ver,K,Ss⟩ ⟨hI,aa⟩;dsimp only at hI aa⊢;refine Ae λdv cr=>?_
   refine Ae λdu cq=>?_
   refine rR ?_;refine cq _ ?_;refine nT ?_;refine Am V (λY=>?_) (λY=>?_)
   ·have bk:K≠[]:=λe=>by subst e;simp[M0]at Y
    obtain⟨w0,b,rfl⟩:∃w0 b,K=w0++[b]:=⟨_,_,(List.dropLast_concat_getLast bk).symm⟩
    have hl:(M0 (w0++[b])).length=w0.length+1:=by rw[GG];simp
    have db:w0.length<=10000000000000:=by simp at aa;omega
    have cz:(M0 (w0++[b]))[(((M0 (w0++[b])).length:Int) - 1).toNat]? =lC (b:Int):=by
     rw[hl,Mc,show(((w0.length+1:Nat):Int) - 1).toNat=(M0 w0).length by rw[GG];omega];simp
    have aw:AV.lit (.int .i64 (((M0 (w0++[b])).length:Int) - 1))= .lit (.int .i64 (w0.length:Int)):=by
     rw[hl,show(((w0.length+1:Nat):Int) - 1)=(w0.length:Int)by omega]
    have bv:w0.length<=(M0 (w0++[b])).length:=by omega
    have bh:(M0 (w0++[b])).take w0.length=M0 w0:=by rw[Mc,<-GG w0];simp
    have U:b < f.blocks.length:=hI.lt b (by simp);obtain⟨m,hm⟩:∃m,ms[b]? =lC m:=⟨_,gP (by omega)⟩
    obtain⟨S,hS⟩:∃S,Ss[b]? =lC S:=⟨_,gP (by rw[hI.len];exact U)⟩
    obtain⟨z,ag⟩:∃z,f.blocks[b]? =lC z:=⟨_,gP U⟩
    have az:at_ Ss b=S:=by unfold at_;rw[gK,hS];rfl
    have af:Cq f b=z.ins:=by unfold Cq;rw[ag]
    have F:=iV ag;have ap:=G.all z F;have bj:=H.blocks z F;have bb:Sub (BE f) S:=by have:=hI.sub b;rwa [az]at this
    have dd:(ms.map Fl)[b]? =lC (Fl m):=by rw[gT,hm];rfl
    refine Ao ?_;refine cr _ ?_;refine nT ?_;refine Ah ?_;refine Ae λdt cp=>?_
    refine rR ?_;refine cp _ ?_;refine nT ?_;refine Ae λdr co=>?_
    (refine jX ?_;(repeat(first|refine sQ ?_|refine AR ?_|refine Bt ?_)))
    refine AH V (Nm (i:=3) (m:=w0.length) V V V V ⟨.i64,aw⟩ bv ?_);refine sNt ?_
    (repeat(first|refine sQ ?_|refine AR ?_|refine Bt ?_))
    refine Ax ?_;rw[bh];refine co _ ?_;refine nT ?_;refine Ae λdq cn=>?_
    (refine jX ?_;(repeat(first|refine sQ ?_|refine AR ?_|refine Bt ?_)))
    refine AH V (VZ (i:=4) V V (Abs hm hS) (λ_=>rfl) V V λN=>?_);refine sNt ?_
    (repeat(first|(refine AH V (CZ (new:=[_]) V V V (Qd.one (One.lit V)) V (kQ V) ?_);refine sNt ?_)|refine sQ ?_|refine AR ?_|refine Bt ?_))
    refine Ax ?_;refine cn _ ?_;refine nT ?_;refine Bw 6 V V V (λg=>(.any::.lit (.pointer (lC ⟨E,0,lB⟩))::.any::.lit (.slice (lC ⟨O,0,lB⟩) f.blocks.length f.blocks.length)::.own 3 (ver+1)::.bs tInt.slice (G6 f f.blocks.length)::.any::.lit (.int .i64 (b:Int))::.lit (.pointer (lC ⟨g,0,lB⟩))::A80 (A10 (A4 [])))) (λg=>(by(repeat(first|exact kI|refine kJ ?_|refine kG ?_|refine kH V ?_)))) λW=>?_
    refine VS 3 V V (λv=>(.any::.lit (.pointer (lC ⟨E,0,lB⟩))::.any::.lit (.slice (lC ⟨O,0,lB⟩) f.blocks.length f.blocks.length)::.lit v::.bs tInt.slice (G6 f f.blocks.length)::.any::.lit (.int .i64 (b:Int))::.lit (.pointer (lC ⟨W,0,lB⟩))::A80 (A10 (A4 [])))) (λv=>(by(repeat(first|exact Opn.nil|refine Opn.own ?_|refine Opn.any ?_|refine Opn.keep V ?_)))) λvw=>?_
    refine Ae λdp cm=>?_
    refine Ae λdn ck=>?_
    (refine jX ?_;(repeat(first|refine sQ ?_|refine AR ?_|refine Bt ?_)))
    refine AH V (Cx V (NJ z.ins) (λ_=>rfl) V V λp=>?_);refine sNt ?_
    (repeat(first|refine sQ ?_|refine AR ?_|refine Bt ?_))
    refine Ax ?_;refine ck _ ?_;refine nT ?_;refine AN ⟨(.any::.lit (.pointer (lC ⟨E,0,lB⟩))::.any::.lit (.slice (lC ⟨O,0,lB⟩) f.blocks.length f.blocks.length)::.lit vw::.bs tInt.slice (G6 f f.blocks.length)::.any::.lit (.int .i64 (b:Int))::.lit (.pointer (lC ⟨W,0,lB⟩))::A40 (A10 (A5 (.lit (bkF p)::A20 (A10 (A8 [])))))),[.res (Bq ds),.res (Bh E (An f)),.res (Bh O (ms.map Fl)),.res (rowR vw 3 tInt (M0 w0)),.res (mapsR ms Ss),.res (IT S N),.res (Bh W [Fl N]),.res (bkR z.ins p)]⟩ (B6) ?_;refine Ah ?_;obtain⟨sg,P⟩:∃sg:(Int->Bool)->List jU,sg=λT=>[.dead,.res (Bh E (An f)),.res (Bh O (ms.map Fl)),.res (rowR vw 3 tInt (M0 w0)),.res (mapsR ms Ss),.res (IT T N),.res (Bh W [Fl N]),.dead]:=⟨_,rfl⟩
    refine H9 7 0 (λk=>sg (bkS z.ins S k)) bi V (by decide) V V V ?hdrop ?hd1 ?hd2 ?hd3 V (Aoz _) (Aie _) (Qf (by kernel_rfl) λw T h1 h2 h3=>Mq z.ins ap.ins p w T h1 h2 h3) ?hround ?hdone
    case hdrop=>
     rw[SP,P];exact⟨j5 (jZ (jZ (jZ (jZ (jZ (jZ (j5 (j6 _)))))))),λb hb=>fM.1 (show bdH [.dead,.res (Bh E (An f)),.res (Bh O (ms.map Fl)),.res (rowR vw 3 tInt (M0 w0)),.res (mapsR ms Ss),.res (IT S N),.res (Bh W [Fl N]),.dead]=aN from V) b hb⟩
    case hd1=>rw[P];rfl
    case hd2=>intro k;rw[P];rfl
    case hd3=>intro k;rw[P];rfl
    case hround=>
     intro k hk C' dc;obtain⟨d,hd⟩:∃d,z.ins[z.ins.length - 1 - k]? =lC d:=⟨_,gP (by omega)⟩
     have ai:=iV hd;have bx:bkE z.ins k= [.lit (.int .i64 ((z.ins.length - 1 - k:Nat):Int)),.agg (B8 d)]:=by unfold bkE;rw[hd]
     have ao:=Xs bb (ae z F) k;have ca:d.args.length<=2097152:=by have:=ap.all d ai;omega
     rw[bx,P];refine Df (t':=(.any::.lit (.pointer (lC ⟨E,0,lB⟩))::.any::.lit (.slice (lC ⟨O,0,lB⟩) f.blocks.length f.blocks.length)::.lit vw::.bs tInt.slice (G6 f f.blocks.length)::.any::.lit (.int .i64 (b:Int))::.lit (.pointer (lC ⟨W,0,lB⟩))::A40 (A10 (A5 (.lit (bkF p)::.lit (.int .i64 ((z.ins.length - 1 - k:Nat):Int))::.agg (B8 d)::A20 (A10 (A6 []))))))) V V ?_;refine rR ?_;refine As ?_;intro ea cw;refine nT ?_;refine Ah ?_
     (refine jX ?_;(repeat(first|refine sQ ?_|refine AR ?_|refine Bt ?_)))
     refine AH V (BW (i:=5) V V (Vr d _ (BE f) N (bj.ins d ai) ca Z ao.inR (ae z F d ai)) (λ_=>rfl) V V λ_=>?_);refine sNt ?_;refine Ax ?_;refine⟨rfl,?_⟩;rw[Y7 hd hk];exact⟨jZ (jZ (jZ (jZ (jZ (jZ (jZ (jZ (j6 _)))))))),λb hb=>fM.1 (show bdH [.dead,.res (Bh E (An f)),.res (Bh O (ms.map Fl)),.res (rowR vw 3 tInt (M0 w0)),.res (mapsR ms Ss),.res (IT (Nd d (bkS z.ins S k)) N),.res (Bh W [Fl N]),.dead]=aN from V) b hb⟩
    case hdone=>
     intro D;have bz:(G6 f f.blocks.length)[b]? =lC (SR f b):=by
      unfold SR;rw[gK,gP (by rw[Gi];exact U)];rfl
     have ax:=SQ f f.blocks.length _ (iV bz);have bc:Sub (BE f) (inS z.ins S):=bb.inS (ae z F);rw[Ary,P];refine cm _ ?_;refine Df (t':=(.any::.lit (.pointer (lC ⟨E,0,lB⟩))::.any::.lit (.slice (lC ⟨O,0,lB⟩) f.blocks.length f.blocks.length)::.lit vw::.bs tInt.slice (G6 f f.blocks.length)::.any::.lit (.int .i64 (b:Int))::.lit (.pointer (lC ⟨W,0,lB⟩))::A40 (A10 (A5 (.lit (bkF p)::A20 (A10 (A8 []))))))) (h':=[.res (Bq (D::ds)),.res (Bh E (An f)),.res (Bh O (ms.map Fl)),.res (rowR vw 3 tInt (M0 w0)),.res (mapsR ms Ss),.res (IT (inS z.ins S) N),.res (Bh W [Fl N]),.dead]) V V ?_;refine AN _ (IB 3 (ver:=ver+1) (t':=(.any::.lit (.pointer (lC ⟨E,0,lB⟩))::.any::.lit (.slice (lC ⟨O,0,lB⟩) f.blocks.length f.blocks.length)::.own 3 (ver+1)::.bs tInt.slice (G6 f f.blocks.length)::.any::.lit (.int .i64 (b:Int))::.lit (.pointer (lC ⟨W,0,lB⟩))::A80 (A10 (A4 [])))) V V (by(try simp only[Br,zac]);(repeat(first|exact Cls.nil|refine Cls.own ?_|refine Cls.any ?_|refine Cls.keep V ?_)))) ?_;refine Ae λdl ci=>?_
     refine rR ?_;refine ci _ ?_;refine nT ?_;refine Ah ?_;refine AJ (λp:Nat×Nat×List Nat×List (Int->Bool)=>⟨(.any::.lit (.pointer (lC ⟨E,0,lB⟩))::.any::.lit (.slice (lC ⟨O,0,lB⟩) f.blocks.length f.blocks.length)::.own 3 p.2.1::.bs tInt.slice (G6 f f.blocks.length)::A2 (.lit (.pointer (lC ⟨W,0,lB⟩))::A40 (A20 (A4 (.bs tInt (SR f b)::.lit (.int .i64 ((SR f b).length:Int))::.lit (.int .i64 (p.1:Int))::A20 (A7 [])))))),[.res (Bq (D::ds)),.res (Bh E (An f)),.res (Bh O (ms.map Fl)),.row p.2.1 3 tInt (M0 p.2.2.1),.res (mapsR ms p.2.2.2),.res (IT (inS z.ins S) N),.res (Bh W [Fl N]),.dead]⟩) (λp=>p.1<=(SR f b).length/\AllJ f (BE f) b w0 Ss ((SR f b).take p.1) p.2.2.1 p.2.2.2) (λp=>(SR f b).length - p.1) (0,ver+1,w0,Ss) ⟨kX _,hI.split⟩ (B6) ?_;rintro⟨i,v2,wt,Ts⟩ ⟨bt,hJ⟩;dsimp only at bt hJ⊢;have bq:=hJ.less;have da:wt.length<=10000000000000:=by simp at aa;omega
     refine Ae λdk ch=>?_
     refine rR ?_;refine ch _ ?_;refine nT ?_;refine Ae λdj cg=>?_
     refine Am V (λX=>?_) (λX=>?_)
     ·have ac:i < (SR f b).length:=by simpa using X
      obtain⟨x,am⟩:∃x,(SR f b)[i]? =lC x:=⟨_,gP ac⟩
      obtain⟨k,av,rfl⟩:=(Ke U x).1 (iV am);have ar:=(Iw av).1;obtain⟨mk,I⟩:∃mk,ms[k]? =lC mk:=⟨_,gP (by omega)⟩
      obtain⟨T,ad⟩:∃T,Ts[k]? =lC T:=⟨_,gP (by rw[hJ.len];exact ar)⟩
      have cx:(ms.map Fl)[k]? =lC (Fl mk):=by rw[gT,I];rfl
      have ay:at_ Ts k=T:=by unfold at_;rw[gK,ad];rfl
      have al:Sub (BE f) T:=by have:=hJ.sub k;rwa [ay]at this
      have ba:Sub (BE f) (uni T (inS z.ins S)):=λr hr=>by
       unfold uni at hr;rw[aM]at hr;rcases hr with hr|hr
       ·exact al r hr
       ·exact bc r hr
      have ah:(Ts.set k (uni T (inS z.ins S)))[k]? =lC (uni T (inS z.ins S)):=gX (by rw[hJ.len];exact ar);have u:=hJ.step hI av ad (by rw[af];exact ae z F);dsimp only at u;rw[af,az]at u;have an:(SR f b).take (i+1)=(SR f b).take i++[(k:Int)]:=by rw[jO,am];rfl
      rw[<-an]at u;have hw:=LY (k:=k) (by omega);have bn:(M0 wt).length+ [(k:Int)].length<=fE:=by rw[GG];simp[fE];omega
      have bm:((M0 wt).length+ [(k:Int)].length) * 8<=140737488355328:=by rw[GG];simp;omega
      refine Ao ?_;refine cg _ ?_;refine nT ?_;refine Ae λdi bf=>?_
      refine Ah ?_;refine Ae λdh cf=>?_
      refine rR ?_;refine cf _ ?_;refine nT ?_;refine Ae λdg ce=>?_
      (refine jX ?_;(repeat(first|refine sQ ?_ (H5 (i:=4) V Adl V V (Jq I ad) Z al.inR)|refine sQ ?_|refine AR ?_|refine Bt ?_));refine Ax ?_)
      refine ce _ ?_;refine nT ?_;refine Ae λdf cd=>?_
      (refine N7 5 (hh:=?_);(repeat(first|refine qQ ?_|refine Hp ?_));refine Fo ?_;(repeat(first|(refine AH V (Te (i:=4) (j:=5) (by decide) V V V (Abq I ad Z al.inR bc.inR) (λ_=>rfl) V V λ_=>?_);refine sNt ?_)|refine sQ ?_|refine AR ?_|refine Bt ?_));refine Ax ?_)
      refine cd _ ?_;refine nT ?_;refine Ae λde be=>?_
      rcases hc:aO ((((BE f).filter (uni T (inS z.ins S))).length:Int) > (((BE f).filter T).length:Int))with _|_
      ·rw[if_neg (by simpa using hc)]at u
       (refine jX ?_;(repeat(first|refine sQ ?_ (H5 (i:=4) V Adl V V (Jq I ah) Z ba.inR)|refine sQ ?_|refine AR ?_|refine Bt ?_));refine Ax ?_)
       refine be _ ?_;refine nT ?_;refine Am V (λJ=>by cases J) (λJ=>?_);refine Ao ?_;refine bf _ ?_;refine nT ?_;refine rR ?_;refine As ⟨(i+1,v2,wt,Ts.set k (uni T (inS z.ins S))),⟨by omega,u⟩,by dsimp only;omega,?_⟩;exact B6
      ·rw[if_pos (by simpa using hc)]at u
       (refine jX ?_;(repeat(first|refine sQ ?_ (H5 (i:=4) V Adl V V (Jq I ah) Z ba.inR)|refine sQ ?_|refine AR ?_|refine Bt ?_));refine Ax ?_)
       refine be _ ?_;refine nT ?_;refine Am V (λJ=>?_) (λJ=>by cases J);refine rR ?_;refine bf _ ?_;refine nT ?_;refine rR ?_;refine As ⟨(i+1,v2+1,wt++[k],Ts.set k (uni T (inS z.ins S))),⟨by omega,u⟩,by dsimp only;omega,?_⟩;dsimp only;rw[Mc];exact B6
     ·refine AA ?_;have bu:i=(SR f b).length:=by
       have:¬i < (SR f b).length:=by simpa using X
       omega
      subst bu;rw[jQ]at hJ;refine Aij (Aij ?_);refine Ab8 ?_;refine Am0 ?_;refine As ⟨(D::ds,v2,wt,Ts),⟨hJ.done_all hI,by dsimp only;simp at aa;omega⟩,by dsimp only;simp;omega,?_⟩;dsimp only;exact Ky (jZ (jZ (jZ (jZ (jZ (j6 _))))))
   ·refine AA ?_;have bg:K= []:=fW (by
     have:¬(0:Int) < ((M0 K).length:Int):=by simpa using Y
     rw[GG]at this;omega)
    subst bg;refine cs _ ?_;refine nT ?_;have au:=hI.end_;have bo:=hI.len;subst au;refine AN _ (XF (i:=2) (j:=4) (by decide) V V) ?_;refine Ae λdm cj=>?_
    refine rR ?_;refine cj _ ?_;refine nT ?_;refine Az ?_;exact⟨.inr V,ds,rfl,rfl,Am9 (i:=2) (p:=(O,ms)) V bo a⟩
instance:AG cF 66 aI 1:=⟨by kernel_rfl⟩
instance:SZ cF 66 1:=⟨by kernel_rfl⟩
instance:ES cF 66 1:=⟨by kernel_rfl⟩
instance:SL cF 66:=⟨by kernel_rfl⟩
instance:RT cF 66 27 1 24:=⟨by kernel_rfl⟩
instance:AG cF 27 aI 1:=⟨by kernel_rfl⟩
instance:SZ cF 27 1:=⟨by kernel_rfl⟩
instance:ES cF 27 1:=⟨by kernel_rfl⟩
instance:SL cF 27:=⟨by kernel_rfl⟩
instance:RT cF 27 3 1 8:=⟨by kernel_rfl⟩
instance:AG cF 22 aI 1:=⟨by kernel_rfl⟩
instance:SZ cF 22 1:=⟨by kernel_rfl⟩
instance:ES cF 22 2:=⟨by kernel_rfl⟩
instance:SL cF 22:=⟨by kernel_rfl⟩
instance:RT cF 22 63 2 40:=⟨by kernel_rfl⟩
instance:AG cF 63 aN 2:=⟨by kernel_rfl⟩
instance:SZ cF 63 2:=⟨by kernel_rfl⟩
theorem Ra(R:List Int)(ds:List Ins)(S:Int->Bool):Il R ds S=(jH (ds.length+1)).map λi=>R.filter (inS (ds.drop i) S):=rfl
theorem Ao0(f:kE)(b:Nat):Il (BE f) (Cq f b) (Yn f b)=Ce f b:=by
 rw[Ra];unfold Ce Do;refine List.map_congr_left λi _=>?_
 congr 1;funext r;exact(Agf f (Yn f b) b i (λr=>Ok) r).symm
theorem Nb(f:kE)(b:Nat):(Ce f b).length=(Cq f b).length+1:=by simp[Ce]
noncomputable def inL(f:kE)(b:Nat):List Int:=(BE f).filter (inS (Cq f b) (Yn f b))
def atF(f:kE)(b:Int):List (List Int):=if 0<=b/\b < f.blocks.length then Ce f b.toNat else []
theorem GL(f:kE)(b:Nat):(Ce f b)[0]? =lC (inL f b):=by
 rw[<-Ao0,Ra,gT,gU (by omega)];rfl
theorem RU{h:List jU}{α:Type}{T:Ty α}(c:mkD h= []:=by rfl):Fin h (.lit (.slice lB 0 0)) (.bs T []):=⟨c,λC S ψ w v d H a=>⟨S,λ_ h=>h,λ_ h=>.inl h,H.lt,by
 unfold jW at a⊢;rw[a];exact T.slice_nilS _ _⟩⟩
theorem Ayx(f:kE)(b:Int)(u:okFunc f)(m:smallF f)(z:(Cl f).length<=2097152):Fn cF 108 [.agg (An f),.lit (.int .i64 b)] (.bs tInt.slice (atF f b)):=by
 have G:=m.blocks;have y:=R9 f u z;have g:∀b∈f.blocks,∀x∈b.ins,∀r∈readsC x,r∈BE f:=λb H x hx r F=>Je.2 ⟨b,H,x,hx,F⟩
 refine AT Tryz.func108 V (by kernel_rfl) V Tryz.ntmps108 λC J=>?_
 refine nS ?_;refine rRS ?_;refine Ae λO h2=>?_
 refine Ae λN D=>?_
 rcases hd1:aO (b < 0)with _|_
 ·rcases hd2:aO (b≥(f.blocks.length:Int))with _|_
  ·have h0:0<=b:=by simpa using hd1
   have v:b.toNat < f.blocks.length:=by
    have:b < (f.blocks.length:Int):=by simpa using hd2
    omega
   obtain⟨e,j⟩:∃e,f.blocks[b.toNat]? =lC e:=⟨_,gP v⟩
   have a:=iV j;have w:Cq f b.toNat=e.ins:=by unfold Cq;rw[j]
   have E:((jH f.blocks.length).map (Yn f))[b.toNat]? =lC (Yn f b.toNat):=by rw[gT,gU v];rfl
   have c:atF f b=Il (BE f) e.ins (Yn f b.toNat):=by
    unfold atF;rw[if_pos ⟨h0,by omega⟩,<-w,Ao0]
   refine rR ?_;refine D _ ?_;refine nT ?_;refine Am V (λd=>by cases d) (λd=>?_);refine Ao ?_;refine h2 _ ?_;refine nT ?_;refine Ae λK I=>?_
   (refine N7 12 (hh:=?_);(repeat(first|refine qQ ?_ (AX.call V (Ao1 f u m z) V V V)|refine qQ ?_ (AX.call V (T8 e (Yn f b.toNat) (BE f) (u.blocks e a) (m.all e a) y (Ym g _) (g e a)) V V V)|refine qQ ?_|refine Hp ?_));refine Fo ?_;(repeat(first|refine sQ ?_ (AX.call V (Ao1 f u m z) V V V)|refine sQ ?_ (AX.call V (T8 e (Yn f b.toNat) (BE f) (u.blocks e a) (m.all e a) y (Ym g _) (g e a)) V V V)|refine sQ ?_|refine AR ?_|refine Bt ?_));refine Ax ?_)
   refine I _ ?_;refine nT ?_;refine Az ?_;rw[c];exact⟨.inr V,j9 V⟩
  ·have c:atF f b= []:=by
    have:(f.blocks.length:Int)<=b:=by simpa using hd2
    unfold atF;rw[if_neg (by omega)]
   refine rR ?_;refine D _ ?_;refine nT ?_;refine Am V (λd=>?_) (λd=>by cases d);refine rRS ?_;refine Az ?_;rw[c];exact⟨.inr V,RU⟩
 ·have c:atF f b= []:=by
   have:b < 0:=by simpa using hd1
   unfold atF;rw[if_neg (by omega)]
  refine rR ?_;refine D _ ?_;refine nT ?_;refine Am V (λd=>?_) (λd=>by cases d);refine rRS ?_;refine Az ?_;rw[c];exact⟨.inr V,RU⟩
end Mu
namespace Mu
open Go Go.RowKit Go.Proofs Go.Shelf
variable{b:Nat}{f:kE}{i:Nat}{l:List Int}{x:Ins}{α:Type}
attribute [local go_sem] Oper.semAt_some
def Aaa{α:Type}(g:Nat->List α)(b:Nat):Nat:=((jH b).flatMap g).length
theorem Pm(g:Nat->List α)(b:Nat):Aaa g (b+1)=Aaa g b+(g b).length:=by
 unfold Aaa;rw[jI,gF,hZ];simp
theorem Afw(g:Nat->List α)(b k:Nat):Aaa g b<=Aaa g (b+k):=by
 induction k with
 |zero=>exact kR _
 |succ k a=>rw[<-kL,Pm];omega
theorem Afx{α:Type}(g:Nat->List α):∀(n b i:Nat),b < n->i < (g b).length->((jH n).flatMap g)[Aaa g b+i]? =(g b)[i]?
 |0,b,i,h,_=>by omega
 |n+1,b,i,h,hi=>by
  rw[jI,gF];by_cases a:b=n
  ·subst a;rw[gL (by unfold Aaa;omega)];unfold Aaa;simp
  ·have h1:Aaa g b+i < ((jH n).flatMap g).length:=by
    have h2:=Afw g (b+1) (n - (b+1));rw[show b+1+(n - (b+1))=n by omega,Pm]at h2;unfold Aaa at h2⊢;omega
   rw[List.getElem?_append_left h1];exact Afx g n b i (by omega) hi
def EO(f:kE)(b:Nat):List (Ins×List Int):=(Cq f b).zip ((Ce f b).drop 1)
def stepsL(f:kE):List (Ins×List Int):=(jH f.blocks.length).flatMap (EO f)
theorem QY(f:kE)(b:Nat):(EO f b).length=(Cq f b).length:=by
 unfold EO;rw[List.length_zip,List.length_drop,Nb];omega
theorem Tx(hx:(Cq f b)[i]? =lC x)(a:(Ce f b)[i+1]? =lC l):(EO f b)[i]? =lC (x,l):=by
 unfold EO;rw[List.getElem?_zip_eq_some];refine⟨hx,?_⟩;rw[gO,kM];exact a
theorem Tw(c:b < f.blocks.length)(hx:(Cq f b)[i]? =lC x)(a:(Ce f b)[i+1]? =lC l):(stepsL f)[Aaa (EO f) b+i]? =lC (x,l):=by
 have h:=Tx hx a;unfold stepsL;rw[Afx (EO f) _ b i c (gR.1 h).1,h]
def stE(f:kE)(k:Nat):List AV:=match(stepsL f)[k]? with
 |some q=>[.agg (B8 q.1),.bs tInt q.2]
 |none=>(A2 [])
theorem X3{k:Nat}{q:Ins×List Int}(h:(stepsL f)[k]? =lC q):stE f k= [.agg (B8 q.1),.bs tInt q.2]:=by unfold stE;rw[h]
theorem Ad4(f:kE)(k:Nat):Bl (stE f k)=aN:=by
 unfold stE;split <;> rfl
theorem Wb(f:kE)(k:Nat):(stE f k).length=2:=by
 unfold stE;split <;> rfl
theorem Aj1(F:Fence)(n:Nat)(hF:F.fn 88)(hro:F.round=lB)(cs:List eR)(w:eX)(hcs:cs.length=4):
 aR F n cF 88 #[.agg cs.toArray] w λe w'=>e= .returned (.func (.func 115) #[] #[.pointer (lC ⟨w.heap.size,0,lB⟩)])/\w'=w.alloc (.cells cs.toArray 24):=by
 match cs,hcs with
 | [a,b,c,d],_=>
  refine callsIn_of_wp Tryz.func88 V hF ?_ hro;simp only[Tryz.ntmps88,Nat.reduceAdd,Nat.reduceSub,zae]
  gi_wp2
  go_ret
  exact⟨rfl,rfl⟩
def stF(p:Nat):eR:=.func (.func 115) #[] #[.pointer (lC ⟨p,0,lB⟩)]
theorem OL(f:kE):Nk cF 88 [.agg (An f)] (λp=>Bh p (An f)) stF:=by
 refine⟨by kernel_rfl,λw S vs j d=>?_⟩;obtain⟨v,rfl,c⟩:=Ac4 d;obtain⟨cs,rfl,hc⟩:=Jc c;have g:cs.length=4:=by rw[BB hc];rfl
 refine((fA (n:=4)).1 (Aj1 aT 4 trivial V cs w g)).mono ?_;rintro e w' ⟨rfl,rfl⟩;have a:Below w.heap.size w (w.alloc (.cells cs.toArray 24)):=(eK _ _).alloc (kR _) _;exact⟨_,rfl,⟨a.os,a.tape,a.output,a.size,λk hk _=>a.block k hk⟩,w.heap.size,rfl,⟨cs,24,fD w _,AE (Ext.grow [] ψ0 (λk hk=>a.block k (j k hk)) λ_ h=>h) _ _ hc⟩,λk hk=>by
  have hk:k=w.heap.size:=hk;subst hk;exact⟨.inr (kR _),by simp⟩⟩
theorem MC(f:kE)(ho:okFunc f)(hs:smallF f)(hT:(Cl f).length<=2097152)(N:∀b∈f.blocks,b.ins.length+1<=2097152)(u:Nat):
 Ai0 cF 115 [.pointer (lC ⟨u,0,lB⟩)] (Bh u (An f)) (stE f) (stepsL f).length:=by
 have ad:=hs.blocks;refine NS Tryz.func115 V (by kernel_rfl) V Tryz.ntmps115 V λC H ι l F I hY q0=>?_
 simp only[iK,iL,Nat.reduceAdd,Nat.reduceSub,zaa];refine Ae λK1 h1=>?_
 refine rR ?_;refine h1 _ ?_;refine nT ?_;refine Ah ?_;refine AJ (λp:Nat×ι=>⟨(.lit (.func (.yield l) #[] #[])::.lit (.pointer (lC ⟨u,0,lB⟩))::A7 (.lit (.int .i64 (f.blocks.length:Int))::.lit (.int .i64 (p.1:Int))::A20 (A8 []))),[.res (F (Aaa (EO f) p.1) p.2),.res (Bh u (An f))]⟩) (λp=>p.1<=f.blocks.length) (λp=>f.blocks.length - p.1) (0,q0) (kX _) (B6) ?_;rintro⟨b,q⟩ O;dsimp only at O⊢;refine Ae λK3 h3=>?_
 refine rR ?_;refine h3 _ ?_;refine nT ?_;refine Ae λK4 h4=>?_
 refine Am V (λm=>?_) (λm=>?_)
 ·have y:b < f.blocks.length:=by simpa using m
  obtain⟨a,g⟩:∃a,f.blocks[b]? =lC a:=⟨_,gP y⟩
  have w:=iV g;have d:Cq f b=a.ins:=by unfold Cq;rw[g]
  have ac:=N a w;have T:atF f (b:Int)=Ce f b:=by
   unfold atF;rw[if_pos ⟨by omega,by omega⟩,fK]
  have hA:=Ayx f (b:Int) ho hs hT;rw[T]at hA;have G:(EO f b).length=a.ins.length:=by rw[QY,d]
  have c:=Pm (EO f) b;rw[G]at c;generalize J:Aaa (EO f) b=k0 at c⊢;refine Ao ?_;refine h4 _ ?_;refine nT ?_;refine Ae λK6 h6=>?_
  refine Ah ?_;refine Ae λK7 h7=>?_
  refine rR ?_;refine h7 _ ?_;refine nT ?_;refine Ae λK8 h8=>?_
  (refine jX ?_;(repeat(first|refine sQ ?_ (AX.call V hA V V V)|refine sQ ?_|refine AR ?_|refine Bt ?_));refine Ax ?_)
  refine h8 _ ?_;refine nT ?_;refine Ae λK9 h9=>?_
  refine rR ?_;refine h9 _ ?_;refine nT ?_;refine Ah ?_;refine AJ (λp:Nat×ι=>⟨(.lit (.func (.yield l) #[] #[])::.lit (.pointer (lC ⟨u,0,lB⟩))::.any::.lit (.int .i64 (b:Int))::.bs tInt.slice (Ce f b)::A4 (.lit (.int .i64 (f.blocks.length:Int))::.lit (.int .i64 (b:Int))::A10 (.bs Et a.ins::.lit (.int .i64 (a.ins.length:Int))::.lit (.int .i64 (p.1:Int))::A10 (A5 [])))),[.res (F (k0+p.1) p.2),.res (Bh u (An f))]⟩) (λp=>p.1<=a.ins.length) (λp=>a.ins.length - p.1) (0,q) (kX _) (B6) ?_;rintro⟨i,q⟩ hi;dsimp only at hi⊢;refine Ae λai aa=>?_
  refine rR ?_;refine aa _ ?_;refine nT ?_;refine Ae λah Z=>?_
  refine Am V (λe=>?_) (λe=>?_)
  ·have z:i < a.ins.length:=by simpa using e
   obtain⟨x,hx⟩:∃x,a.ins[i]? =lC x:=⟨_,gP z⟩
   obtain⟨E,D⟩:∃E,(Ce f b)[i+1]? =lC E:=⟨_,gP (by rw[Nb,d];omega)⟩
   have ab:(Ce f b)[((i:Int)+1).toNat]? =lC E:=by rw[show((i:Int)+1).toNat=i+1 by omega];exact D
   have v:(stepsL f)[k0+i]? =lC (x,E):=by rw[<-J];exact Tw y (by rw[d];exact hx) D
   have U:∀q,Aiv cF l C.S0 C.w0.heap.size (F (k0+i) q) [.agg (B8 x),.bs tInt E] (F (k0+i+1)):=λq=>by
    have:=hY (k0+i) q (gR.1 v).1;rwa [X3 v]at this
   refine Ao ?_;refine Z _ ?_;refine nT ?_;refine Ae λag Y=>?_
   refine Ah ?_;refine Ae λaf X=>?_
   refine rR ?_;refine X _ ?_;refine nT ?_;refine Ae λae W=>?_
   refine My 7 (by kernel_rfl) (by kernel_rfl) ?_;simp only[zad]
   (repeat(first|refine qQ ?_|refine Hp ?_))
   refine Fo ?_;refine P5 V (Ay8.yield (i:=0) H V (λp=>by rw[I,I]) V V V V (U q) λq'=>?_);refine Dr (by(try simp only[Br,zac]);exact V) (by(try simp only[Nat.reduceAdd,zab]);exact V) ?_;refine Iz V (Ba (Cu V V) ?_);refine Gk ?_;refine W _ ?_;refine nT ?_;refine Am V (λj=>by cases j) (λj=>?_);refine Ao ?_;refine Y _ ?_;refine nT ?_;refine rR ?_;refine As ⟨(i+1,q'),by dsimp only;omega,by dsimp only;omega,?_⟩;exact Ky (.cons (.cons (j6 _)))
  ·have K:i=a.ins.length:=by
    have:¬i < a.ins.length:=by simpa using e
    omega
   subst K;rw[<-c];refine AA ?_;refine h6 _ ?_;refine nT ?_;refine rR ?_;refine As ⟨(b+1,q),by dsimp only;omega,by dsimp only;omega,?_⟩;exact B6
 ·have P:b=f.blocks.length:=by
   have:¬b < f.blocks.length:=by simpa using m
   omega
  subst P;refine AA ?_;exact⟨.inl V,q,rfl,by simp[mkD,ABlk.mrk,I];rfl⟩
end Mu
section
namespace Go.Proofs
open Go.Shelf
def Tryz.keysK_ren:eL:=⟨fun|7=>57|10=>97|n=>n,fun|23=>51|26=>3|3=>3|28=>90|0=>0|27=>89|33=>50|4=>4|n=>n,fun|n=>n⟩
theorem Tryz.keysK:Go.Proofs.SlLaysZI.n7 cF Tryz.keysK_ren:={
 mixed:=by kernel_rfl
 f7:=⟨Tryz.f57.name,by decide,Tryz.func57.trans (congrArg lC (by kernel_rfl))⟩
 f10:=⟨Tryz.f97.name,by decide,bM.trans (congrArg lC (by kernel_rfl))⟩
 t0:=cY
 a0:=bO
 z0:=cG
 v0:=dR
 t4:=dK
 a4:=b9
 z4:=cT
 v4:=eD
 t23:=dO
 a23:=Tryz.isAgg51
 z23:=Tryz.sizeOf51
 v23:=Tryz.zeroValue51
 t26:=dJ
 a26:=bZ
 z26:=cR
 v26:=eC
 t27:=Tryz.underlying89
 a27:=Tryz.isAgg89
 z27:=Tryz.sizeOf89
 v27:=Tryz.zeroValue89
 t28:=Tryz.underlying90
 a28:=Tryz.isAgg90
 z28:=Tryz.sizeOf90
 v28:=Tryz.zeroValue90
 t33:=Tryz.underlying50
 a33:=Tryz.isAgg50
 z33:=Tryz.sizeOf50
 v33:=Tryz.zeroValue50}
end Go.Proofs
end
namespace Mu
open Go Go.RowKit Go.Proofs Go.Maps Go.Shelf
section
variable{P:bE}{C:Ctx}{t:List AV}{h:List jU}{o:bC}
def AAw(P:bE)(f:aU)(R1 R2:Res)(args:List AV)(r:AV):Prop:=
 Ch P f=aN/\∀(w:eX) (S:Nat->Prop) (vs:List eR),(∀k,S k->k < w.heap.size)->(∀g,R1.F g->g < w.heap.size)->(∀g,R2.F g->g < w.heap.size)->R1.R w S->R2.R w S->Ak w S [] ψ0 args vs->
  aP P f vs.toArray w λe w'=>∃v,e= .returned v/\Zi w S [] ψ0 r v w'
theorem VL{f:aU}{args:Array bD}{m:Array eQ}{xs:List AV}{r:AV}{R1 R2:Res}(i j:Nat)(hi:h[i]? =lC (.res R1))(J:h[j]? =lC (.res R2))
 (y:o.op= .call {callee:=.value (.func f),args:=args,argTypes:=m})(z:AAw P f R1 R2 xs r)(hx:args.toList.map (evA t)=xs)(hc:Bl xs=aN)(I:jV r=aN):AX P C t h o r:=by
 intro S ψ w ρ H a;have h1:ρ (.func f)= .func (.func f) #[] #[]:=by
  have:=a (.func f) (by rw[y];exact aE.2 (.inl (by simp)));simpa[evA,jW]using this
 rw[CC y z.1 ρ w h1];refine⟨rfl,?_⟩;have h2:Ak w S h ψ xs (args.toList.map ρ):=by
  rw[<-hx];exact Ck λx u=>a x (by rw[y];exact aE.2 (.inr (Array.mem_toList_iff.1 u)))
 have d:=H.blk i _ hi;have c:=H.blk j _ J;have O:=z.2 w S (args.toList.map ρ) H.lt (λg hg=>(d.1 g hg).2.2) (λg hg=>(c.1 g hg).2.2) d.2 c.2 (Bn _ _ hc h2);rw[show(args.map ρ)=(args.toList.map ρ).toArray from(by rw[<-aF])];refine O.mono ?_;rintro e w' ⟨v,K,N,S',G,F,E,D⟩;exact⟨v,K,N,S',G,F,E,DE _ _ I D⟩
end
section
variable{C:Ctx}{t:List AV}{h:List jU}{o:bC}
theorem Zk{ty:eQ}{x y z:bD}(i:Nat){m:Nat}{S:Int->Bool}{R:List Int}{r:Int}{K:St->Prop}(u:o.op= .mapUpdate ty x y z)(v:cF.underlying ty=lC (.map 3 3))(hi:h[i]? =lC (.res (IT S m)))
 (hx:evA t x= .lit (.map (lC m)))(W:evA t y= .lit (.int .i64 r))(U:evA t z= .lit (.int .i64 1))(hR:RegsR R)(F:InR R S)(X:Ci r)(hK:K ⟨Br t o.dst (.lit undef),h.set i (.res (IT (Air S r) m))⟩):AOp cF C o ⟨t,h⟩ K:=by
 refine AOp.turn (ι:=Unit) (Rs:=λ_=>IT (Air S r) m) (val:=λ_=>undef) hi (λ_=>rfl) (λT ψ w ρ H I Z c=>?_) (λ_=>hK);have h1:=c x (by simp[u,bB]);have h2:=c y (by simp[u,bB]);have J:=c z (by simp[u,bB]);rw[hx]at h1;rw[W]at h2;rw[U]at J;unfold jW at h1 h2 J;obtain⟨D,a,O⟩:=(show IU w m S from I)
 have E:=Hf a O hR F;obtain⟨w',j,d,hg⟩:=a.update QC v (by have:=E.2;unfold fE;omega) (Azc X) (plainElem_int dJ Yo);have g:=IU.put a O d;have e:(fB ρ o).run cF w= .ok .skip w'\/(fB ρ o).run cF w= .ok (.value undef) w':=by
  simp[fB,u,h1,h2,J,j,eI]
 have N:Turns w T (IT S m).F (λ_:Unit=>IT (Air S r) m) (λ_=>undef) undef w':=
  ⟨Bv hg |> λG=>⟨G.os,G.tape,G.output,G.size,λk hk Y=>G.block k hk λe=>Y (by cases e;rfl)⟩,(),rfl,g,λk hk=>⟨.inl hk,by
   have hk:k=m:=hk;subst hk;exact g.lt⟩⟩
 rcases e with e|e
 ·rw[e];exact N
 ·rw[e];exact N
end
theorem Agn(m:Nat):Nk cF 57 [.lit (.map (lC m))] (λp=>Bh p [.lit (.map (lC m))]) (λp=>.func (.func 97) #[] #[.pointer (lC ⟨p,0,lB⟩)]):=by
 refine⟨by kernel_rfl,λw S vs j c=>?_⟩;obtain⟨g,rfl,h0⟩:=Ev c;unfold Ak at h0;subst h0;have d:aR aT 5 cF 57 #[.map (lC m)] w λe w'=>e= .returned (.func (.func 97) #[] #[.pointer (lC ⟨w.heap.size,0,lB⟩)])/\w'=w.alloc (.cells #[.map (lC m)] 51):=AnyZI.keys_in Tryz.keysK aT 5 trivial V (lC m) w
 refine((fA (n:=5)).1 d).mono ?_;rintro e w' ⟨rfl,rfl⟩;have a:Below w.heap.size w (w.alloc (.cells #[.map (lC m)] 51)):=(eK _ _).alloc (kR _) _;exact⟨_,rfl,⟨a.os,a.tape,a.output,a.size,λk hk _=>a.block k hk⟩,w.heap.size,rfl,⟨[.map (lC m)],51,fD w _,F4 [.map (lC m)]⟩,λk hk=>by
  have hk:k=w.heap.size:=hk;subst hk;exact⟨.inr (kR _),by simp⟩⟩
theorem ZB(p m:Nat)(S:Int->Bool)(R:List Int)(z:RegsR R)(hi:InR R S):
 AAw cF 56 (Bh p [.lit (.map (lC m))]) (IT S m) [.lit (.func (.func 97) #[] #[.pointer (lC ⟨p,0,lB⟩)])] (.bs tInt (R.filter S)):=by
 refine⟨by kernel_rfl,λw T vs hT U ac I hs hr=>?_⟩;obtain⟨Z,rfl,h0⟩:=Ev hr;unfold Ak at h0;subst h0;obtain⟨cs,e,hp,K⟩:=I;obtain⟨Z,rfl,h1⟩:=Ev K;unfold Ak at h1;subst h1;have J:=U p V;have u:w.cell? ⟨p,0,lB⟩=lC (.map (lC m)):=by simp[eY,hp]
 obtain⟨D,d,hS⟩:=(show IU w m S from hs)
 obtain⟨g,E⟩:=Wh d hS z.asc z.wf hi.mem;have aa:=iC S R;have ab:=z.len;have H:a7 D<=fE:=by rw[E];unfold fE;omega
 have c:a7 D * 8<=140737488355328:=by rw[E];omega
 have F:SeqGives aT 2 cF 97 #[.pointer (lC ⟨p,0,lB⟩)] encZ (λss=>ss.Perm (intKeys D)) (a7 D) w:=
  AnyZI.keys_gives (ρ:=Tryz.keysK_ren) {Tryz.keysK with} aT _ trivial rfl (by omega) p m (a7 D) D _ J u d
 have Y:=AnyZI.sorted_in Tryz.sortedM aT 5 trivial trivial trivial trivial V (by omega) (Ad7 _) (enters_of Tryz.func62 (by kernel_rfl) V) 97 #[.pointer (lC ⟨p,0,lB⟩)] trivial (enters_of bM (by kernel_rfl) V) _ _ H c _ F;change aR _ _ cF 56 _ _ _ at Y;refine((fA (n:=5)).1 Y).mono ?_;rintro e w' ⟨v,ss,rfl,N,G,W,X⟩;have j:ss.Perm (R.filter S):=N.trans g;have he:(ss.mergeSort λx y=>decide (x<=y))=R.filter S:=
  G7 (Oy (j.nodup_iff.2 (z.asc.filter S).nodup)) (z.asc.filter S) (λx=>((i7 ss _).mem_iff).trans j.mem_iff)
 have a:w'.ownsRow w.heap.size 3 1 v ss.length ((ss.mergeSort (λx y=>decide (x<=y))).map encZ):=G;rw[he]at a;have O:Gp w' w.heap.size v (R.filter S):=.of a j.length_eq V;refine⟨v,rfl,X,λk=>T k\/v.ownBlock=lC k,λ_ h=>.inl h,λk hk=>?_,λk hk=>?_,?_⟩
 ·rcases hk with hk|hk
  ·exact .inl hk
  ·exact .inr (O.lt k hk).1
 ·rcases hk with hk|hk
  ·exact kT (hT k hk) X.size
  ·exact(O.lt k hk).2
 ·unfold jW;exact tInt.slice.keepS (LQ O λx hx=>z.wf x (iR.1 hx).1) (λ_ _=>rfl) λk hk=>.inr hk
end Mu
namespace Mu
open Go Go.RowKit Go.Proofs Go.Maps
variable{L:List Int}{S:Int->Bool}{f:kE}{i:Nat}{q:Ins×List Int}{r:Int}
instance Aue:AG cF 51 aI 1:=⟨by kernel_rfl⟩
instance Aud:SZ cF 51 1:=⟨by kernel_rfl⟩
instance Auc:ZC cF 51 [.map lB]:=⟨by kernel_rfl⟩
def FE(q:Ins×List Int):List Int:=if q.1.op !=5&&q.1.op !=7 then []else q.2.filter λr=>q.1.op ==7||r !=q.1.d
def Ge(f:kE)(k:Nat):Int->Bool:=addL (λ_=>aI) (((stepsL f).take k).flatMap FE)
def B9(f:kE):List Int:=(BE f).filter (Ge f (stepsL f).length)
theorem XB(S:Int->Bool)(l m:List Int):addL S (l++m)=addL (addL S l) m:=by
 funext x;simp only[addL,fR,iM,aH,aL]
theorem Xc{k:Nat}(h:(stepsL f)[k]? =lC q):Ge f (k+1)=addL (Ge f k) (FE q):=by
 unfold Ge;rw[jO,h,lF,gF,XB];simp
theorem Dj(h:q∈stepsL f):(∃b∈f.blocks,q.1∈b.ins)/\(∀r∈q.2,r∈BE f)/\q.2.length<=(BE f).length:=by
 unfold stepsL at h;obtain⟨b,m,hq⟩:=iS.1 h;have m:=iY.1 m;unfold EO at hq;have h1:=(List.of_mem_zip (a:=q.1) (b:=q.2) hq)
 obtain⟨g,d⟩:∃g,f.blocks[b]? =lC g:=⟨_,gP m⟩
 have c:Cq f b=g.ins:=by unfold Cq;rw[d]
 have h2:=List.mem_of_mem_drop h1.2;unfold Ce at h2;obtain⟨i,_,e⟩:=iU.1 h2;refine⟨⟨g,iV d,by rw[<-c];exact h1.1⟩,λr j=>?_,by rw[<-e];exact iC _ _⟩;rw[<-e]at j;unfold Do at j;exact(iR.1 j).1
theorem Kd(h:∀r∈q.2,r∈L):∀r∈FE q,r∈L:=λr a=>by
 unfold FE at a;split at a
 ·cases a
 ·exact h r (iR.1 a).1
theorem U7(f:kE)(k:Nat):InR (BE f) (Ge f k):=⟨λx _ hx=>by
 unfold Ge addL at hx;simp only[aK,fS]at hx;obtain⟨q,hq,hx⟩:=iS.1 hx;exact Kd (Dj (iW hq)).2.1 x hx⟩
def IM(S:Int->Bool)(q:Ins×List Int)(i:Nat):Int->Bool:=addL S ((q.2.take i).filter λr=>q.1.op ==7||r !=q.1.d)
theorem Xd(S:Int->Bool)(q:Ins×List Int):IM S q 0=S:=by
 unfold IM;rw[jT,gC,Oz]
theorem Abm(h:q.2[i]? =lC r)(hq:(q.1.op ==7||r !=q.1.d)=aN):IM S q (i+1)=Air (IM S q i) r:=by
 unfold IM;rw[jO,h,lF,fY,fZ,hq,gC];simp only[if_true];exact P2 _ _ _
theorem Ah0(h:q.2[i]? =lC r)(hq:(q.1.op ==7||r !=q.1.d)=aI):IM S q (i+1)=IM S q i:=by
 unfold IM;rw[jO,h,lF,fY,fZ,hq,gC];simp
theorem Ah1(h:InR L S)(hq:∀r∈q.2,r∈L)(i:Nat):InR L (IM S q i):=h.addL λr a=>hq r (iW (iR.1 a).1)
theorem Amd(f:kE)(K:okFunc f)(hs:smallF f)(W:(Cl f).length<=2097152)(T:∀b∈f.blocks,b.ins.length+1<=2097152):Fn cF 71 [.agg (An f)] (.bs tInt (B9 f)):=by
 have ah:=hs.blocks;have v:=R9 f K W;have aj:(BE f).length<=2097152:=kS (Dw _) W;refine FX Tryz.func71 V (by kernel_rfl) V Tryz.ntmps71 λC hC H=>?_
 refine nS ?_;refine Ae λK1 h1=>?_
 refine rC ?_;refine h1 _ ?_;refine nT ?_;refine Ae λK2 h2=>?_
 (refine jX ?_;(repeat(first|refine sQ ?_ (AB V V V V)|refine sQ ?_ (Ay V V V V)|refine sQ ?_|refine AR ?_|refine sG ?_|refine Bt ?_)))
 refine AH V (Qm V λm=>?_);refine sNt ?_
 (repeat(first|refine sQ ?_ (AB V V V V)|refine sQ ?_ (Ay V V V V)|refine sQ ?_|refine AR ?_|refine sG ?_|refine Bt ?_))
 refine Ax ?_;refine h2 _ ?_;refine nT ?_;refine Bw 3 V V V (λg=>(.agg (An f)::.ptr 1 0::.any::.lit (.pointer (lC ⟨g,0,lB⟩))::A4 (.lit (.map (lC m))::A20 (A10 (A3 []))))) (λg=>(by(repeat(first|exact kI|refine kJ ?_|refine kG ?_|refine kH V ?_)))) λj=>?_
 refine Ae λK3 h3=>?_
 refine Ae λK4 h4=>?_
 (refine jX ?_;(repeat(first|refine sQ ?_ (AB V V V V)|refine sQ ?_ (Ay V V V V)|refine sQ ?_|refine AR ?_|refine sG ?_|refine Bt ?_)))
 refine AH V (Cx V (OL f) (λ_=>rfl) V V λp=>?_);refine sNt ?_;refine Ax ?_;refine h4 _ ?_;refine nT ?_;refine Ah ?_;refine AN ⟨(.agg (An f)::A2 (.lit (.pointer (lC ⟨j,0,lB⟩))::A6 (.lit (stF p)::A20 (A10 [.any])))),[.res (Bq []),.dead,.res (IT (Ge f 0) m),.res (Bh j [.lit (.map (lC m))]),.res (Bh p (An f))]⟩ (Ky (.cons (.dead (.cons (.cons (.cons (j6 _))))))) ?_;refine H9 4 0 (λk=>[.dead,.dead,.res (IT (Ge f k) m),.res (Bh j [.lit (.map (lC m))]),.dead]) H (by kernel_rfl) (by decide) V V V ?hdrop V (λ_=>rfl) (λ_=>rfl) V (Ad4 f) (Wb f) (MC f K hs W T p) ?hround ?hdone
 case hdrop=>
  exact⟨j5 (jZ (jZ (jZ (j5 (j6 _))))),λb z=>fM.1 (show bdH [.dead,.dead,.res (IT (Ge f 0) m),.res (Bh j [.lit (.map (lC m))]),.dead]=aN from V) b z⟩
 case hround=>
  intro k hk C' ae;obtain⟨q,hq⟩:∃q,(stepsL f)[k]? =lC q:=⟨_,gP hk⟩
  obtain⟨⟨bl,U,F⟩,w,af⟩:=Dj (iV hq);have ag:=(K.blocks bl U).ins q.1 F;have u:=Xc hq;have y:=U7 f k;dsimp only;rw[X3 hq];generalize ai:Ge f k=S0 at u y⊢;refine Df (t':=(.agg (An f)::A2 (.lit (.pointer (lC ⟨j,0,lB⟩))::A6 (.lit (stF p)::.agg (B8 q.1)::.bs tInt q.2::A20 (A9 []))))) V V ?_;refine Ae λK6 h6=>?_
  refine rC ?_;refine h6 _ ?_;refine nT ?_;refine rC ?_;refine As λar ad=>?_
  refine nT ?_;refine Ah ?_;refine Ae λK8 h8=>?_
  refine Ae λK9 h9=>?_
  refine rC ?_;refine h9 _ ?_;refine nT ?_;refine Am V (λd=>?_) (λd=>?_)
  ·have e:FE q= []:=by unfold FE;rw[if_pos d]
   rw[u,e,Oz];refine AA ?_;exact⟨rfl,⟨.cons (.cons (.cons (.cons (.cons (j6 _))))),λb z=>fM.1 (show bdH [.dead,.dead,.res (IT S0 m),.res (Bh j [.lit (.map (lC m))]),.dead]=aN from V) b z⟩⟩
  ·have e:FE q=q.2.filter λr=>q.1.op ==7||r !=q.1.d:=by unfold FE;rw[if_neg (by rw[d];simp)]
   have J:=λi=>Ah1 y w i
   refine Ao ?_;refine h8 _ ?_;refine nT ?_;refine Ae λaq ac=>?_
   refine rC ?_;refine ac _ ?_;refine nT ?_;refine Ah ?_;refine AJ (λi:Nat=>⟨(A3 (.lit (.pointer (lC ⟨j,0,lB⟩))::.ptr 5 0::A10 (A6 (.bs tInt q.2::.lit (.int .i64 (q.2.length:Int))::.lit (.int .i64 (i:Int))::A10 (A8 []))))),[.dead,.dead,.res (IT (IM S0 q i) m),.res (Bh j [.lit (.map (lC m))]),.dead,.box (B8 q.1)]⟩) (λi=>i<=q.2.length) (λi=>q.2.length - i) 0 (kX _) (by rw[Xd];exact B6) ?_;intro i hi
   (try dsimp only at hi);(try dsimp only)
   refine Ae λap ab=>?_
   refine rC ?_;refine ab _ ?_;refine nT ?_;refine Ae λao aa=>?_
   refine Am V (λc=>?_) (λc=>?_)
   ·have N:i < q.2.length:=by simpa using c
    obtain⟨r,I⟩:∃r,q.2[i]? =lC r:=⟨_,gP N⟩
    have G:=v.wf r (w r (iV I));refine Ao ?_;refine aa _ ?_;refine nT ?_;refine Ae λan E=>?_
    refine Ah ?_;refine Ae λam Z=>?_
    refine rC ?_;refine Z _ ?_;refine nT ?_;refine Ae λal Y=>?_
    refine rC ?_;refine Y _ ?_;refine nT ?_;refine Am V (λa=>?_) (λa=>?_)
    ·have e2:=Abm (S:=S0) I a
     (refine jX ?_;(repeat(first|refine sQ ?_ (AB V V V V)|refine sQ ?_ (Ay V V V V)|refine sQ ?_|refine AR ?_|refine sG ?_|refine Bt ?_)))
     refine AH V (Zk 2 V dO V V V V v (J i) G ?_);refine sNt ?_;refine Ax ?_;refine E _ ?_;refine nT ?_;refine rC ?_;refine As ⟨i+1,by omega,by omega,?_⟩;rw[e2];exact B6
    ·have e2:=Ah0 (S:=S0) I a;refine Ao ?_;refine E _ ?_;refine nT ?_;refine rC ?_;refine As ⟨i+1,by omega,by omega,?_⟩;rw[e2];exact B6
   ·have O:i=q.2.length:=by
     have:¬i < q.2.length:=by simpa using c
     omega
    subst O;have e3:IM S0 q q.2.length=Ge f (k+1):=by rw[u,e];unfold IM;rw[jQ]
    rw[e3];refine AA ?_;exact⟨rfl,⟨.cons (.cons (.cons (.cons (.cons (j6 _))))),λb z=>fM.1 (show bdH [.dead,.dead,.res (IT (Ge f (k+1)) m),.res (Bh j [.lit (.map (lC m))]),.dead]=aN from V) b z⟩⟩
 case hdone=>
  intro D;refine h3 _ ?_;refine Df (t':=(.agg (An f)::A2 (.lit (.pointer (lC ⟨j,0,lB⟩))::A6 (.lit (stF p)::A20 (A10 [.any]))))) (h':=[.res (Bq [D]),.dead,.res (IT (Ge f (stepsL f).length) m),.res (Bh j [.lit (.map (lC m))]),.dead]) V V ?_;refine Ae λak X=>?_
  (refine jX ?_;(repeat(first|refine sQ ?_ (AB V V V V)|refine sQ ?_ (Ay V V V V)|refine sQ ?_|refine AR ?_|refine sG ?_|refine Bt ?_)))
  refine AH V (Cx V (Agn m) (λ_=>rfl) V V λp2=>?_);refine sNt ?_
  (repeat(first|refine sQ ?_ (VL 5 2 V V V (ZB p2 m _ _ v (U7 f _)) V V V)|refine sQ ?_ (AB V V V V)|refine sQ ?_ (Ay V V V V)|refine sQ ?_|refine AR ?_|refine sG ?_|refine Bt ?_))
  refine Ax ?_;refine X _ ?_;refine nT ?_;refine Az ?_;exact⟨.inr V,[D],rfl,rfl,j9 V⟩
end Mu
section
namespace Go.Proofs
open Go.Shelf
def Tryz.laysNm225_ren:eL:=⟨fun|25=>38|31=>73|32=>74|37=>107|n=>n,fun|22=>27|3=>3|4=>4|40=>104|0=>0|n=>n,fun|n=>n⟩
theorem Tryz.laysNm225:Go.Proofs.Lays2.n25 cF Tryz.laysNm225_ren:={
 mixed:=by kernel_rfl
 f25:=Tryz.func38.trans (congrArg lC (by kernel_rfl))
 f31:=Tryz.func73.trans (congrArg lC (by kernel_rfl))
 f32:=Tryz.func74.trans (congrArg lC (by kernel_rfl))
 f37:=bF.trans (congrArg lC (by kernel_rfl))
 t0:=cY
 a0:=bO
 z0:=cG
 v0:=dR
 t3:=dJ
 a3:=bZ
 z3:=cR
 v3:=eC
 t4:=dK
 a4:=b9
 z4:=cT
 v4:=eD
 t22:=dI
 a22:=bY
 z22:=cQ
 v22:=eB
 t40:=cZ
 a40:=bP
 z40:=cH
 v40:=dT}
open Go.RowKit Go.Lib in
theorem Tryz.slices_BinarySearch_int(b off n c:Nat)(zs:List Int)(x:Int)(w:eX)(d:n<=zs.length)(a:n < 4611686018427387904)(hc:∀j,j < zs.length->w.cell? ⟨b,off+j,lB⟩=lC (.int .i64 (zs.getD j 0)))(g:(zs.take n).Pairwise (·<=·)):
 aP cF 38 #[.slice (lC ⟨b,off,lB⟩) n c,.int .i64 x] w λe w'=>e= .returned (.tuple #[.int .i64 ((zs.take n).countP (· < x):Nat),.bool ((zs.take n).contains x)])/\∃q,w'=w.drewN q:=Any.slices_BinarySearch_int Tryz.laysNm225 b off n c zs x w d a hc g
open Go.RowKit Go.Lib in
theorem Tryz.slices_BinarySearch_int_empty(a:Option Addr)(c:Nat)(x:Int)(w:eX):
 aP cF 38 #[.slice a 0 c,.int .i64 x] w λe w'=>e= .returned (.tuple #[.int .i64 0,.bool aI])/\w'=w:=Any.slices_BinarySearch_int_empty Tryz.laysNm225 a c x w
end Go.Proofs
end
namespace Mu
open Go Go.RowKit Go.Proofs
section
variable{P:bE}{C:Ctx}{t:List AV}{h:List jU}{o:bC}
theorem Mt{ty:eQ}{a:Array (Nat×bD)}{zs:List eR}{d:List (Nat×Nat)}{rs:List AV}[ZC P ty zs](j:o.op= .build ty a)(c:EB P ty=lC d)
 (e:putCells d (zs.map .lit) (a.toList.map λp=>(p.1,evA t p.2))=lC rs)(h1:(a.toList.all λp=>WO (evA t p.2))=aN):AX P C t h o (.agg rs):=
 AX.build j ZC.eq c e λp g=>Mv (fM.1 h1 p g)
theorem Fit.agg{α:Type}{T:Ty α}{enc:α->List AV}{x:α}(c:∀w S cs ψ,Ak w S h ψ (enc x) cs->T.RS w S cs x):Fit h T (.agg (enc x)) x:=λC S ψ w v H a=>by
 unfold jW at a;obtain⟨cs,rfl,d⟩:=a;exact c w S cs ψ d
end
theorem QB:EB cF 47=lC [(0,1),(1,1),(2,1),(3,1),(4,1),(5,1),(6,1),(7,1),(8,1)]:=by kernel_rfl
theorem Apx:EB cF 63=lC [(0,1),(1,1)]:=by kernel_rfl
theorem Aut:EB cF 24=lC [(0,1),(1,1),(2,1),(3,1)]:=by kernel_rfl
open Go.Shelf
variable{cs:List eR}
structure Hint where
 r:Int
 at_:Int
def Gq:Ty Hint:=(tInt.cons (tInt.cons Dt)).via (λx=>⟨x.1,x.2.1⟩) (λh=>(h.r,h.at_,()))
theorem Adu{w:eX}{S:Nat->Prop}{x:Hint}:Gq.RS w S cs x↔cs= [.int .i64 x.r,.int .i64 x.at_]/\wfI .i64 x.r/\wfI .i64 x.at_:=by
 constructor
 ·rintro⟨⟨_,_,rfl,⟨rfl,h0⟩,_,_,rfl,⟨rfl,h1⟩,rfl⟩,_⟩;exact⟨rfl,h0,h1⟩
 ·rintro⟨rfl,h0,h1⟩;exact⟨⟨[_],_,rfl,⟨rfl,h0⟩,[_],_,rfl,⟨rfl,h1⟩,rfl⟩,rfl⟩
@[reducible] def G3(x:Hint):List AV:=[.lit (.int .i64 x.r),.lit (.int .i64 x.at_)]
theorem YT:Enc Gq G3:=by
 intro w S h ψ cs d H;obtain⟨rfl,_,_⟩:=Adu.1 H;simp only[G3,Ak,jW];exact⟨_,_,rfl,rfl,_,_,rfl,rfl,rfl⟩
theorem Afs:S9 Gq:=Ef YT λd x hx=>by
 simp only[G3,or_false,zak]at hx;rcases hx with rfl|rfl <;> exact .inl ⟨_,rfl,rfl⟩
instance Ayd:j8 Gq G3:=⟨YT,Afs,by decide⟩
theorem Akm{w:eX}{S:Nat->Prop}{h:List jU}{ψ:Nat->eR}{x:Hint}(h0:wfI .i64 x.r)(h1:wfI .i64 x.at_)(H:Ak w S h ψ (G3 x) cs):Gq.RS w S cs x:=by
 simp only[G3,Ak,jW]at H;obtain⟨_,_,rfl,rfl,_,_,rfl,rfl,rfl⟩:=H;exact Adu.2 ⟨rfl,h0,h1⟩
theorem Ot{h:List jU}{r a:Int}(h0:wfI .i64 r)(h1:wfI .i64 a):Fit h Gq (.agg [.lit (.int .i64 r),.lit (.int .i64 a)]) ⟨r,a⟩:=Fit.agg (enc:=G3) (x:=⟨r,a⟩) λ_ _ _ _ H=>Akm h0 h1 H
instance Ayc:AG cF 84 aN 2:=⟨by kernel_rfl⟩
instance Ayb:SZ cF 84 2:=⟨by kernel_rfl⟩
instance Aya:ES cF 81 2:=⟨by kernel_rfl⟩
instance Ax9:SL cF 81:=⟨by kernel_rfl⟩
instance Ax8:RT cF 81 84 2 16:=⟨by kernel_rfl⟩
instance Ax7:FO cF 84 0 0:=⟨by kernel_rfl⟩
instance At0:FO cF 84 1 1:=⟨by kernel_rfl⟩
instance Atz:ZC cF 84 [.int .i64 0,.int .i64 0]:=⟨by kernel_rfl⟩
instance Aty:TyOf cF 84 _ Gq:=⟨trivial⟩
theorem Yh:EB cF 84=lC [(0,1),(1,1)]:=by kernel_rfl
section
variable{N S:Nat->Prop}{w:eX}{h:List jU}{ψ:Nat->eR}{v:eR}{ver:Nat}{l:List Int}
theorem JY(H:H8 N w S h ψ v (.row ver 3 tInt l)):Gp w 0 v l/\Bj l:=by
 obtain⟨cells,h1,_,h2,_⟩:=H;have u:cells.length=l.length:=by have:=h1.1;rw[show tInt.size=1 from V,kV]at this;exact this
 have a:∀i d,l[i]? =lC d->cells[i]? =lC (eS .i64 d)/\wfI .i64 d:=λi d m=>by
  obtain⟨e,g⟩:=DR.1 (h2 i d m);rw[show tInt.size=1 from V,kV,jS,g9]at e;cases hc:cells[i]? with
  |none=>rw[hc]at e;cases e
  |some c=>
   rw[hc]at e;simp only[lF,List.cons.injEq,and_true]at e;exact⟨by rw[e],g⟩
 have hc:cells=l.map (eS .i64):=by
  apply fX;intro i;by_cases hi:i < l.length
  ·rw[gT,gP hi];exact(a i _ (gP hi)).1
  ·rw[gQ (by omega),gQ (by simp;omega)]
 refine⟨.of h1 V hc,λr j=>?_⟩;obtain⟨i,hi⟩:=iT.1 j;exact(a i r hi).2
theorem LS{base:Nat}(e:Gp w base v l)(c:Bj l)(j:∀g,v.ownBlock=lC g->¬N g/\¬S g):H8 N w S h ψ v (.row ver 3 tInt l):=by
 refine⟨_,e.mono (kX _),by decide,λi d a=>?_,j⟩;show tInt.RS w S (((l.map (eS .i64)).drop (i * 1)).take 1) d;have hi:(l.map (eS .i64))[i]? =lC (.int .i64 d):=by rw[gT,a];rfl
 rw[kV,jS,g9,hi];exact DR.2 ⟨rfl,c d (iV a)⟩
end
theorem Pj{l:List Int}(h:Bj l):Bj (l.mergeSort λx y=>decide (x<=y)):=λr a=>h r ((i7 l _).mem_iff.1 a)
section
variable{C:Ctx}{t:List AV}{h:List jU}{o:bC}{K:St->Prop}
theorem Qk{x:bD}{E:Array eQ}{i ver:Nat}{l:List Int}(I:o.op= .call {callee:=.value (.func 62),args:=#[x],argTypes:=E})(hx:evA t x= .own i ver)(hi:h[i]? =lC (.row ver 3 tInt l))(U:l.length<=2147483648)
 (Y:K ⟨Br t o.dst .any,h.set i (.row ver 3 tInt (l.mergeSort λx y=>decide (x<=y)))⟩):AOp cF C o ⟨t,h⟩ K:=by
 rintro Q' a w ⟨W,S,ψ,H,u⟩;refine⟨λc e=>(by rw[I]at e;cases e),?_⟩;have j:=BA u x;rw[show evA (St.mk t h).t x= .own i ver from hx]at j;unfold jW at j;have T:=(j.2 _ (by rw[hi];rfl)).2 V;have D:=H.blk i _ hi;have m:=D.lt V;obtain⟨J,O⟩:=JY D;unfold Oper.wp;rw[CC I (by kernel_rfl) a.eval w V];simp only[Oper.upon];rw[show(#[x].map a.eval)= #[ψ i]from by simp[T]];refine(Aj2 J U).mono ?_;rintro r w' ⟨rfl,G,F⟩;have d:w.grownBy w' (Bz (ψ i)):=by
  have e:Bz (ψ i)=(ψ i).ownBlock:=by
   rcases J.2 with⟨e,_⟩|⟨g,cap,cur,e,_⟩ <;> rw[e] <;> rfl
  rw[e];exact F
 have z:∀k,S k->w'.heap[k]? =w.heap[k]?:=λk hk=>d.block k (H.lt k hk) λe=>(m k e.symm).2.2 hk
 have X:Ext w S h ψ w' S (h.set i (.row ver 3 tInt (l.mergeSort λx y=>decide (x<=y)))) (Bs ψ i (ψ i)):=Ext.set z hi (λZ hc=>by
  simp only[ABlk.ver,lE]at hc;exact⟨ver,rfl,by omega,λ_=>⟨rfl,rfl⟩⟩) λh=>by simp[Bd]at h
 exact⟨_,Y,IK (s:=⟨t,h⟩) hi W u (H.set hi V (Bv d) X (LS G (Pj O) λg hg=>⟨(m g (AY hg)).1,(m g (AY hg)).2.2⟩) λg hg=>.inl hg) X (by unfold jW;trivial)⟩
end
theorem Xk(l:List Int):(aY l).length<=l.length:=by
 unfold aY Lib.compactUpTo;rw[iD];exact kS (iC _ _) (by simp)
theorem Xi{l:List Int}(z:l.length<=2147483648)(y:Bj (aY l)):Am8 cF 63 3 tInt l (aY l):=by
 refine⟨by kernel_rfl,λN S w v F E u=>?_⟩;obtain⟨m,_⟩:=JY u;have c:=u.lt V;have e:Bz v=v.ownBlock:=by
  rcases m.2 with⟨e,_⟩|⟨g,cap,cur,e,_⟩ <;> rw[e] <;> rfl
 refine(Xj m z).mono ?_;rintro r w' ⟨v',rfl,a,d,j⟩;have D:Bz v'=v'.ownBlock:=by
  rcases a.2 with⟨e,_⟩|⟨g,cap,cur,e,_⟩ <;> rw[e] <;> rfl
 refine⟨v',rfl,by rw[e];exact d,LS a y λg hg=>?_,λg hg=>.inl (by rw[e,<-j,<-D];exact hg)⟩;have:=c g (show Bz v=lC g by rw[e,<-j];exact hg);exact⟨this.1,this.2.2⟩
theorem P8{C:Ctx}{t:List AV}{h:List jU}(j:Nat){α:Type}(T:Ty α)(g:t[j]? =lC (.lit (.slice lB 0 0))):St.le C ⟨t,h⟩ ⟨t.set j (.bs T []),h⟩:=λa w ⟨m,S,ψ,H,e⟩=>by
 refine⟨m,S,ψ,H,?_⟩;obtain⟨v,c,d⟩:=Cb e g;unfold jW at d;subst d;have:=Ij e j (x:=.bs T []) (v:=.slice lB 0 0) (by unfold jW;exact T.slice_nilS _ _);rwa [show a.tmps.toList.set j (.slice lB 0 0)=a.tmps.toList from fX λk=>by
  by_cases hk:j=k
  ·subst hk;rw[gX (gR.1 c).1,c]
  ·rw[gW hk]]at this
end Mu
namespace Mu
open Go Go.RowKit Go.Proofs
variable{S:Nat->Prop}{α:Type}{T:Ty α}{cs:List eR}{d:α}{off:Nat}{w:eX}{z:Int}
structure CGraph where
 regs:List Int
 cls:List (Int×List Int)
 near:List (Int×List Int)
 likes:List (Int×List Int)
 moves:List (Int×List Int)
 cheap:List Int
def Bf:Ty CGraph:=(tInt.slice.cons (KL.cons (KL.cons (KL.cons (KL.cons (tInt.slice.cons Dt)))))).via (λx=>⟨x.1,x.2.1,x.2.2.1,x.2.2.2.1,x.2.2.2.2.1,x.2.2.2.2.2.1⟩) (λg=>(g.regs,g.cls,g.near,g.likes,g.moves,g.cheap,()))
theorem Gl(h1:T.size=1)(h:T.RS w S cs d):∃v,cs= [v]:=List.length_eq_one_iff.1 ((T.len h).trans h1)
theorem OJ{g:CGraph}:Bf.RS w S cs g↔∃u m j e c a,cs= [u,m,j,e,c,a]/\tInt.slice.RS w S [u] g.regs/\KL.RS w S [m] g.cls/\KL.RS w S [j] g.near/\KL.RS w S [e] g.likes/\KL.RS w S [c] g.moves/\tInt.slice.RS w S [a] g.cheap:=by
 constructor
 ·rintro⟨⟨O,_,rfl,h0,J,_,rfl,h1,I,_,rfl,h2,H,_,rfl,E,G,_,rfl,D,F,_,rfl,y,rfl⟩,_⟩;obtain⟨u,rfl⟩:=Gl V h0;obtain⟨m,rfl⟩:=Gl V h1;obtain⟨j,rfl⟩:=Gl V h2;obtain⟨e,rfl⟩:=Gl V E;obtain⟨c,rfl⟩:=Gl V D;obtain⟨a,rfl⟩:=Gl V y;exact⟨u,m,j,e,c,a,rfl,h0,h1,h2,E,D,y⟩
 ·rintro⟨u,m,j,e,c,a,rfl,h0,h1,h2,E,D,y⟩;exact⟨⟨[u],_,rfl,h0,[m],_,rfl,h1,[j],_,rfl,h2,[e],_,rfl,E,[c],_,rfl,D,[a],_,rfl,y,rfl⟩,rfl⟩
@[reducible] def PM(g:CGraph):List AV:=[.bs tInt g.regs,.tv KL g.cls,.tv KL g.near,.tv KL g.likes,.tv KL g.moves,.bs tInt g.cheap]
theorem Aa8:Enc Bf PM:=by
 intro w S h ψ cs d H;obtain⟨D,y,u,m,j,g,rfl,h0,h1,h2,e,c,a⟩:=OJ.1 H;simp only[PM,Ak,jW];exact⟨_,_,rfl,h0,_,_,rfl,h1,_,_,rfl,h2,_,_,rfl,e,_,_,rfl,c,_,_,rfl,a,rfl⟩
theorem J4:S9 (Ads T):=by
 rintro w S cs d ⟨_,⟨rfl,_⟩|⟨_,_,rfl,_⟩⟩ u a <;> rw[i6.1 a] <;> rfl
theorem WH:S9 Bf:=by
 intro w S cs g H u a;obtain⟨G,F,E,D,y,m,rfl,h0,h1,h2,j,e,c⟩:=OJ.1 H;simp only[or_false,zak]at a;rcases a with rfl|rfl|rfl|rfl|rfl|rfl
 ·exact one1_slice _ _ _ _ h0 _ (i6.2 V)
 ·exact J4 _ _ _ _ h1 _ (i6.2 V)
 ·exact J4 _ _ _ _ h2 _ (i6.2 V)
 ·exact J4 _ _ _ _ j _ (i6.2 V)
 ·exact J4 _ _ _ _ e _ (i6.2 V)
 ·exact one1_slice _ _ _ _ c _ (i6.2 V)
instance Aq8:j8 Bf PM:=⟨Aa8,WH,by decide⟩
theorem Aru:Enc (Ads T) λd=>[.tv (Ads T) d]:=by
 intro w S h ψ cs d H;obtain⟨v,rfl⟩:=Gl V H;simp only[Ak,jW];exact⟨_,_,rfl,H,rfl⟩
instance Aof{α:Type}{T:Ty α}:j8 (Ads T) λd=>[.tv (Ads T) d]:=⟨Aru,J4,by show 0 < 1;decide⟩
def Ko{α:Type}(T:Ty α):Ty α where
 size:=1
 bulk:=λd=>T.bulk d+1
 RS:=λw S cs d=>∃b o,cs= [.pointer (lC ⟨b,o,lB⟩)]/\T.AtS w S b o d
 len:=by rintro _ _ _ _ ⟨_,_,rfl,_⟩;rfl
 keepS:=by
  rintro w w' S S' cs d ⟨b,o,rfl,h⟩ c a;exact⟨b,o,rfl,h.keep c a⟩
theorem Art:Enc (Ko T) λd=>[.bp T d 0]:=by
 rintro w S h ψ cs d ⟨b,o,rfl,H⟩;simp only[Ak,jW];exact⟨_,_,rfl,⟨b,o,rfl,H⟩,rfl⟩
instance Aoe{α:Type}{T:Ty α}:j8 (Ko T) λd=>[.bp T d 0]:=⟨Art,by
 rintro w S cs d ⟨b,o,rfl,_⟩ u a;rw[i6.1 a];rfl,by show 0 < 1;decide⟩
theorem One.tv{h:List jU}(h1:S9 T):One h (.tv T d):=λC S ψ w u H a=>by
 unfold jW at a;exact h1 w S [u] d a u (i6.2 V)
theorem One.bp{h:List jU}:One h (.bp T d off):=λC S ψ w u H a=>by
 unfold jW at a;obtain⟨b,o,rfl,_⟩:=a;rfl
theorem Nj.int{h:List jU}(c:wfI .i64 z):Nj h (.lit (.int .i64 z)) (.tv tInt z):=λC S ψ w v H a=>by
 unfold jW at a⊢;subst a;exact DR.2 ⟨rfl,c⟩
section
variable{P:bE}{C:Ctx}{t:List AV}{h:List jU}{o:bC}
theorem Co{x:bD}(g:o.op= .nilCheck x)(hx:evA t x= .bp T d off):AX P C t h o (.bp T d off):=
 AQ λS ψ w ρ H a=>by
  have h1:=a x (by simp[g,bB]);rw[hx]at h1;unfold jW at h1;obtain⟨b,q,e,c⟩:=h1;refine⟨.pointer (lC ⟨b,q+off,lB⟩),by simp[fB,g,e],?_⟩;unfold jW;exact⟨b,q,rfl,c⟩
end
instance Aq7:AG cF 53 aI 1:=⟨by kernel_rfl⟩
instance Aq6:AG cF 77 aI 1:=⟨by kernel_rfl⟩
instance Aon:AG cF 51 aI 1:=⟨by kernel_rfl⟩
instance Aom:SZ cF 51 1:=⟨by kernel_rfl⟩
instance Aol:FO cF 79 0 0:=⟨by kernel_rfl⟩
instance Aok:FO cF 79 1 1:=⟨by kernel_rfl⟩
instance Aoj:FO cF 79 2 2:=⟨by kernel_rfl⟩
instance Aoi:FO cF 79 3 3:=⟨by kernel_rfl⟩
instance Aoh:FO cF 79 4 4:=⟨by kernel_rfl⟩
instance Aog:FO cF 79 5 5:=⟨by kernel_rfl⟩
def R3(v:eR):Ty Unit where
 size:=1
 bulk:=λ_=>1
 RS:=λ_ _ cs _=>cs= [v]/\v.oneCell'=aN
 len:=by rintro _ _ _ _ ⟨rfl,_⟩;rfl
 keepS:=λh _ _=>h
instance At8{v:eR}:j8 (R3 v) λ_=>[.lit v]:=⟨λw S h ψ cs d H=>by
 obtain⟨rfl,_⟩:=(show cs= [v]/\v.oneCell'=aN from H)
 simp only[Ak,jW];exact⟨_,_,rfl,rfl,rfl⟩,λw S cs d H u a=>by
 obtain⟨rfl,h1⟩:=(show cs= [v]/\v.oneCell'=aN from H)
 rw[i6.1 a];exact h1,by show 0 < 1;decide⟩
def Zj(x:AV){α:Type}(T:Ty α)(d:α):Prop:=jV x=aN/\∀(w:eX) (S:Nat->Prop) (v:eR),jW w S [] ψ0 x v->T.RS w S [v] d
theorem Zj.lit{v:eR}(h1:v.oneCell'=aN):Zj (.lit v) (R3 v) ():=⟨rfl,λw S u a=>by unfold jW at a;rw[a];exact⟨rfl,h1⟩⟩
theorem Zj.int(c:wfI .i64 z):Zj (.lit (.int .i64 z)) tInt z:=⟨rfl,λw S u a=>by unfold jW at a;rw[a];exact DR.2 ⟨rfl,c⟩⟩
theorem Zj.bp:Zj (.bp T d 0) (Ko T) d:=⟨rfl,λw S u c=>by
 unfold jW at c;obtain⟨b,o,rfl,a⟩:=c;exact⟨b,o,rfl,a⟩⟩
theorem EY{C:Ctx}(G:C.std){t:List AV}{h:List jU}(i j:Nat){x:AV}(hi:h[i]? =lC (.box [x]))(F:t[j]? =lC (.ptr i 0))(hx:Zj x T d):St.le C ⟨t,h⟩ ⟨t.set j (.bp T d 0),h.set i .dead⟩:=
 HV i j hi V V F (UN G hi V) λS ψ w v H m=>by
  obtain⟨g,cs,e0,hg,W,U,E,D⟩:=H.blk i _ hi;unfold jW at m;obtain⟨X,c,e⟩:=m.2 (by rw[hi];rfl);rw[hg]at c;cases c;unfold jW;rw[e];refine⟨g,0,rfl,.inr (by rw[hg];rfl),?_⟩;have a:Ak w S [] ψ0 [x] cs:=Bn _ _ (show Bl [x]=aN by unfold Bl;rw[hx.1];rfl) D;unfold Ak at a;obtain⟨u,J,rfl,I,y⟩:=a;unfold Ak at y;subst y;refine⟨[u],T.keepS (hx.2 w S u I) (λ_ _=>rfl) λk hk=>.inl hk,λq O hq=>?_⟩;unfold eY;simp[E,hq]
open Go.Maps Go.Shelf Go.ChangeMaps Go.MapKept
section
variable{H:Type}{P:bE}{k:eQ}{R:eR->Option (aS H×List a8)}{w:eX}{b r n:Nat}{D:aS H}{left:Lit->Bool}{cnt:Nat}
theorem TT{t e:eQ}(h:w.ranges P k R b r n D left cnt)(K:Keyed P k)(ht:P.underlying t=lC (.map k e))(hn:n < fE){key val:eR}{kl:Lit}{d:aS H}{ps:List a8}
 (g:keyOf P k key=lC kl)(hv:R val=lC (d,ps))(Z:has D kl=aN):
 ∃w',(aW t (.map (lC b)) key val).run P w= .ok () w'/\w'.ranges P k R b r n (D.put kl d) left cnt/\w.mapTurned w' b:=by
 have aq:=h.ne;obtain⟨w',U,ag,al⟩:=h.owns.store K ht hn g hv;obtain⟨J,u,E,seen,c0,hb,F,hs,hD,hr,W,hc,ah,ar,an,am⟩:=h;refine⟨w',U,?_,al⟩;rcases K.find w g J.toList F.keys with⟨_,f2⟩|⟨j,e0,f1,f2,f3⟩
 ·exfalso;rw[hD,has_eq]at Z;obtain⟨p,hp,ap⟩:=fN.1 Z;obtain⟨x,hx,rfl⟩:=iU.1 (mem_sorted.1 hp);have h1:=WideAt.sameKey_eq ap;obtain⟨y,O⟩:=F.reads x hx;rw[eW O]at h1;exact f2 x hx (K.inj (h1▸eU O) g)
 ·have hj:J[j]? =lC e0:=by simpa using f2
  have aa:j < J.toList.length:=(gR.1 f2).1;have G:(aW t (.map (lC b)) key val).run P w= .ok () (setBlock w b (.map (J.modify j (λe'=>{e' with key:=key,val:=val})) u)):=by
   simp[aW,run_underlying ht,MapKept.run_getObj_map hb,K.check w aI g,f1,hj,f3,K.stays w g,MapKept.run_setObj_map _ hb,eI,setBlock]
  rw[U]at G;have hw:w'=setBlock w b (.map (J.modify j (λe'=>{e' with key:=key,val:=val})) u):=by
   injection G
  obtain⟨m,I⟩:∃m,m=J.modify j (λe'=>{e' with key:=key,val:=val}):=⟨_,rfl⟩
  rw[<-I]at hw;have aj:w'.heap[b]? =lC (.map m u):=by rw[hw];exact heap_setBlock_same hb _
  have ao:w'.heap[r]? =lC (.mapIter (lC b) E seen c0):=by rw[hw];exact(heap_setBlock_other hb _ aq).trans hr
  obtain⟨ax,ak,ai,F2,aw,au⟩:=ag;rw[aj]at ai;cases ai;have c:m.toList=J.toList.set j {e0 with key:=key,val:=val}:=by rw[I,Array.toList_modify,modify_eq_set _ _ _ _ f2]
  have av:m.size=J.size:=by rw[I];simp
  have ab:e0∈J.toList:=iV f2;have ad:∀x∈m.toList,x= {e0 with key:=key,val:=val}\/x∈J.toList:=λx hx=>by
   rw[c]at hx;exact(iX hx).symm
  have Y:(eV P k R e0).1=kl:=by
   obtain⟨y,O⟩:=F.reads e0 ab;rw[eW O];have:=eU O;rw[f3,g]at this;exact(lD this).symm
  have X:(eV P k R {e0 with key:=key,val:=val}).1=kl:=by
   have hm:({e0 with key:=key,val:=val}:a6)∈m.toList:=by rw[c];exact iV (gX aa)
   obtain⟨y,O⟩:=F2.reads _ hm;rw[eW O];have:=eU O;rw[show({e0 with key:=key,val:=val}:a6).key=key from V,g]at this;exact(lD this).symm
  have ac:m.toList.map (·.born)=J.toList.map (·.born):=by
   rw[c,List.map_set];refine fX λq=>?_
   rw[List.getElem?_set];split
   ·rename_i hq;subst hq;rw[if_pos (by simpa using aa),gT,f2];rfl
   ·rfl
  refine⟨m,u,E,seen,c0,aj,F2,by omega,au,ao,λx hx=>?_,?_,λx hx=>?_,λq hq=>?_,an,am⟩
  ·rcases ad x hx with rfl|hx
   ·exact W e0 ab
   ·exact W x hx
  ·have e1:∀a:Array a6,(leftOf a seen).size=((a.toList.map (·.born)).filter λe=>!seen.contains e).length:=λa=>by
    unfold leftOf;rw[<-aD,Array.toList_filter,List.filter_map,iD];rfl
   rw[e1,ac,<-e1,hc]
  ·rcases ad x hx with rfl|hx
   ·rw[X,<-Y];exact ah e0 ab
   ·exact ah x hx
  ·obtain⟨x,hx,ae⟩:=ar q hq;by_cases af:x=e0
   ·refine⟨{e0 with key:=key,val:=val},?_,?_⟩
    ·rw[c];exact iV (gX aa)
    ·rw[X,<-Y,<-af];exact ae
   ·refine⟨x,?_,ae⟩;obtain⟨i,hi⟩:=iT.1 hx;rw[c];refine iV (i:=i) ?_;rw[gW (λe=>af (by subst e;rw[f2]at hi;exact(lD hi).symm)),hi]
end
theorem Ih{α:Type}{l:List (Int×α)}(h:Em l){k:Int}(hk:(getK l k).isSome=aN)(v:α):(Cf l k v).length=l.length:=by
 have c:∀{β:Type} (m:List (Int×β)) q,q∈keysK m↔(getK m q).isSome=aN:=λm q=>by
  unfold keysK getK;rw[lA,List.find?_isSome];simp
 have a:∀{β:Type} {m:List (Int×β)},Em m->(keysK m).Nodup:=λh=>jF.2 (h.imp λg e=>by omega)
 have:=((List.perm_ext_iff_of_nodup (a (h.put k v)) (a h)).2 λq=>by
  rw[c,c,BM h];by_cases e:q=k
  ·rw[if_pos e,e,hk];rfl
  ·rw[if_neg e]).length_eq
 simpa[keysK]using this
theorem Aiy.put{w:eX}{m r:Nat}{l:List (Int×eR)}{ks:List Int}{ty e:eQ}(h:Aiy w m r l ks)(u:cF.underlying ty=lC (.map 3 e))(J:l.length < fE){k:Int}(hk:Ci k)(a:(getK l k).isSome=aN)(v:eR):
 ∃w',(aW ty (.map (lC m)) (.int .i64 k) v).run cF w= .ok () w'/\Aiy w' m r (Cf l k v) ks/\w.grownBy w' (lC m)/\w'.heap.size=w.heap.size:=by
 obtain⟨h0,left,cnt,I,O,E,y⟩:=h;obtain⟨w',c,g,ht⟩:=TT I QC u J (keyOf_int_mk dJ hk) (d:=.held v) (ps:=[]) V (by rw[EE];exact a);refine⟨w',c,⟨h0.put hk v,left,cnt,?_,λx hx=>?_,λx hx=>?_,y⟩,ht.grown,?_⟩
 ·rw[Ih h0.1 a,<-YF h0 hk v (g.owns.canon QC)];exact g
 ·rw[O x hx,BM h0.1];by_cases F:x=k
  ·rw[if_pos F,F,a];rfl
  ·rw[if_neg F]
 ·rw[BM h0.1];split
  ·rfl
  ·exact E x hx
 ·obtain⟨X,G,U,j,W,rfl⟩:=ht;simp[Go.ChangeMaps.setBlock]
section
variable{C:Ctx}{t:List AV}{h:List jU}{o:bC}{K:St->Prop}{ty e:eQ}{x y z:bD}{m r:Nat}{l:List (Int×Int)}{ks:List Int}{k v:Int}
theorem Acv(i:Nat)(E:o.op= .mapUpdate ty x y z)(F:cF.underlying ty=lC (.map 3 e))(hx:evA t x= .lit (.map (lC m)))(X:evA t y= .lit (.int .i64 k))(W:evA t z= .lit (.int .i64 v))(hk:wfB .i64 k=aN)(Z:l.length < fE)(J:(getK l k).isSome=aN)(hi:h[i]? =lC (.res (TN (eS .i64) l ks m r)))
 (hK:K ⟨Br t o.dst (.lit undef),h.set i (.res (TN (eS .i64) (Cf l k v) ks m r))⟩):AOp cF C o ⟨t,h⟩ K:=by
 refine AOp.turn (ι:=Unit) (Rs:=λ_=>TN (eS .i64) (Cf l k v) ks m r) (val:=λ_=>undef) hi (λ_=>rfl) (λT ψ w ρ H O I a=>?_) (λ_=>hK);have h1:=a x (by simp[E,bB]);have h2:=a y (by simp[E,bB]);have U:=a z (by simp[E,bB]);rw[hx]at h1;rw[X]at h2;rw[W]at U;unfold jW at h1 h2 U;have HR:Aiy w m r (mapK (eS .i64) l) ks:=O;obtain⟨w',c,j,hg,Y⟩:=HR.put F (by simpa[mapK]using Z) hk (by rw[CH,lA];exact J) (.int .i64 v);rw[<-GD]at j;have he:(fB ρ o).run cF w= .ok .skip w':=by
  simp[fB,E,h1,h2,U,c,eI]
 rw[he];exact⟨⟨hg.os,hg.tape,hg.output,hg.size,λq hq G=>hg.block q hq λe=>G (by cases e;exact .inl V)⟩,(),rfl,j,λg u=>⟨.inl u,by have:=I g u;omega⟩⟩
theorem Am6.rng{α:Type}{e:α->eR}{l:List (Int×α)}:Am6 (TN e l ks m r) m (mapK e l):=λ_ _ h=>by
 obtain⟨h0,left,cnt,a,_⟩:=(show Aiy _ m r (mapK e l) ks from h)
 exact⟨h0,by have:=a.owns;exact this⟩
theorem VG(i:Nat)(j:o.op= .lookup ty x y aI)(a:cF.underlying ty=lC (.map 3 e))(c:∀w,(zeroValue e).run cF w= .ok (.int .i64 0) w)(hx:evA t x= .lit (.map (lC m)))(g:evA t y= .lit (.int .i64 k))(hk:wfB .i64 k=aN)(hi:h[i]? =lC (.res (TN (eS .i64) l ks m r))):
 AX cF C t h o (.lit (.int .i64 ((getK l k).getD 0))):=by
 have h1:=Li (C:=C) i j a c hx g hk hi Am6.rng;rw[CH]at h1;cases hg:getK l k with
 |none=>rw[hg]at h1;exact h1
 |some v=>rw[hg]at h1;exact h1
theorem QR(i:Nat)(j:o.op= .lookup ty x y aN)(a:cF.underlying ty=lC (.map 3 e))(c:∀w,(zeroValue e).run cF w= .ok (.int .i64 0) w)(hx:evA t x= .lit (.map (lC m)))(g:evA t y= .lit (.int .i64 k))(hk:wfB .i64 k=aN)(hi:h[i]? =lC (.res (TN (eS .i64) l ks m r))):
 AX cF C t h o (.tup [.lit (.int .i64 ((getK l k).getD 0)),.lit (.bool (getK l k).isSome)]):=by
 have h1:=IE (C:=C) i j a c hx g hk hi Am6.rng;rw[CH]at h1;cases hg:getK l k with
 |none=>rw[hg]at h1;exact h1
 |some v=>rw[hg]at h1;exact h1
end
end Mu
namespace Mu
open Go Go.RowKit Go.Proofs
variable{S:Nat->Prop}{cs:List eR}{l:List Int}{v:eR}{w:eX}
theorem Aer{cells:List eR}(h1:w.ownsRow 0 3 tInt.size v l.length cells)(h2:∀i d,l[i]? =lC d->tInt.RS w S ((cells.drop (i * tInt.size)).take tInt.size) d):Gp w 0 v l/\Bj l:=by
 have E:cells.length=l.length:=by have:=h1.1;rw[show tInt.size=1 from V,kV]at this;exact this
 have a:∀i d,l[i]? =lC d->cells[i]? =lC (eS .i64 d)/\wfI .i64 d:=λi d u=>by
  obtain⟨e,g⟩:=DR.1 (h2 i d u);rw[show tInt.size=1 from V,kV,jS,g9]at e;cases hc:cells[i]? with
  |none=>rw[hc]at e;cases e
  |some c=>
   rw[hc]at e;simp only[lF,List.cons.injEq,and_true]at e;exact⟨by rw[e],g⟩
 have hc:cells=l.map (eS .i64):=by
  apply fX;intro i;by_cases hi:i < l.length
  ·rw[gT,gP hi];exact(a i _ (gP hi)).1
  ·rw[gQ (by omega),gQ (by simp;omega)]
 refine⟨.of h1 V hc,λr j=>?_⟩;obtain⟨i,hi⟩:=iT.1 j;exact(a i r hi).2
theorem Od(H:(rowR v 3 tInt l).R w S):Gp w 0 v l/\Bj l:=by
 obtain⟨cells,h1,h0,h2⟩:=H;exact Aer h1 h2
theorem Yj(g:Gp w 0 v l)(c:Bj l):(rowR v 3 tInt l).R w S:=by
 refine⟨_,g,by decide,λi d a=>?_⟩;show tInt.RS w S (((l.map (eS .i64)).drop (i * 1)).take 1) d;have hi:(l.map (eS .i64))[i]? =lC (.int .i64 d):=by rw[gT,a];rfl
 rw[kV,jS,g9,hi];exact DR.2 ⟨rfl,c d (iV a)⟩
theorem X6{S':Nat->Prop}(h:(rowR v 3 tInt l).R w S):(rowR v 3 tInt l).R w S':=let ⟨h1,h2⟩:=Od h;Yj h1 h2
section
variable{P:bE}{C:Ctx}{o:bC}{t:List AV}{h:List jU}{K:St->Prop}
theorem Apy(h:Gp w 0 v l){g:Nat}(hg:Bz v=lC g):v.ownBlock=lC g:=by
 rcases h.2 with⟨rfl,_⟩|⟨a,cap,cur,rfl,_⟩
 ·cases hg
 ·exact hg
theorem V2(i:Nat){ty:eQ}{x y:bD}{bytes:Nat}{u:List Int}(ho:o.op= .call {callee:=.builtin .append,args:=#[x,y],argTypes:=#[ty,ty]})(hT:NZ P ty=lC (3,1,bytes))
 (hx:evA t x= .lit v)(hi:h[i]? =lC (.res (rowR v 3 tInt l)))(hy:evA t y= .bs tInt u)(hb:EM (l.length+u.length) bytes=aN)
 (hK:∀v':eR,K ⟨Br t o.dst (.lit v'),h.set i (.res (rowR v' 3 tInt (l++u)))⟩):AOp P C o ⟨t,h⟩ K:=by
 refine AOp.turn (ι:=eR) (Rs:=λv'=>rowR v' 3 tInt (l++u)) (val:=λv'=>v') hi (λ_=>rfl) (λS ψ w ρ H hR am W=>?_) hK;obtain⟨aa,ae⟩:=Od hR;have O:=W x (by rw[ho];exact aE.2 (.inr (by simp)));have E:=W y (by rw[ho];exact aE.2 (.inr (by simp)));rw[hx]at O;rw[hy]at E;unfold jW at O E;obtain⟨h1,ti,zz,h2,h3,h4,h5,h6⟩:=Dk hT;obtain⟨A,c,X⟩:=Cn E;rw[X]at E;obtain⟨news,af,Y,ag,ah⟩:=I6 E λcs d ak=>J5 _ _ _ _ ak
 have F:news=u.map (eS .i64)/\Bj u:=by
  have ab:news.length=u.length:=by rw[af];exact kV _
  have hg:∀j d,u[j]? =lC d->news[j]? =lC (eS .i64 d)/\wfI .i64 d:=λj d hd=>by
   have:=ag j d hd;rw[show tInt.size=1 from V,kV,jS,g9]at this;have ai:j < news.length:=by rw[ab];exact(gR.1 hd).1
   rw[gP ai]at this⊢;obtain⟨h7,h8⟩:=DR.1 this;exact⟨by simpa using h7,h8⟩
  refine⟨fX λj=>?_,λr hr=>?_⟩
  ·rw[gT];cases hd:u[j]? with
   |none=>rw[gQ (by rw[ab];exact List.getElem?_eq_none_iff.1 hd)];rfl
   |some d=>exact(hg j d hd).1
  ·obtain⟨j,hj⟩:=List.getElem?_of_mem hr;exact(hg j r hj).2
 have I:=hb;unfold EM at I;simp only[zag]at I;obtain⟨v',w',Z,U,G,al⟩:=LC (P:=P) (ty:=o.type) (c:=c) (base:=0) h1 h2 h3 h4 h5 h6 (kY) aa (Y w λ_ _=>rfl) ah I.1 I.2 (kX _);have aj:(fB ρ o).run P w= .ok (.value v') w':=by
  unfold fB;simp only[ho,resolve,invoke,builtin,List.map_toArray,iK,iL,O,X,Z,zan]
 rw[aj];have a:Gp w' 0 v' (l++u):=Gp.of (n:=l.length+u.length) U (by simp) (by rw[iJ,F.1]);have ad:∀g,v.ownBlock=lC g->(rowR v 3 tInt l).F g:=λg hg=>AY hg
 refine⟨⟨G.os,G.tape,G.output,G.size,λq hq hn=>G.block q hq λe=>hn (ad q e.symm)⟩,v',rfl,Yj a (λr hr=>(iM.1 hr).elim (ae r) (F.2 r)),λg hg=>?_⟩;have J:=Apy a hg;have ac:=(a.lt g J).2;rcases al with e1|e1
 ·exact⟨.inl (ad g (e1▸J)),ac⟩
 ·rw[e1]at J;cases J;exact⟨.inr (kR _),ac⟩
end
structure Pair where
 a:Int
 b:Int
def CI:Ty Pair:=(tInt.cons (tInt.cons Dt)).via (λx=>⟨x.1,x.2.1⟩) (λd=>(d.a,d.b,()))
theorem KK{x:Pair}:CI.RS w S cs x↔cs= [.int .i64 x.a,.int .i64 x.b]/\wfI .i64 x.a/\wfI .i64 x.b:=by
 constructor
 ·rintro⟨⟨_,_,rfl,⟨rfl,h0⟩,_,_,rfl,⟨rfl,h1⟩,rfl⟩,_⟩;exact⟨rfl,h0,h1⟩
 ·rintro⟨rfl,h0,h1⟩;exact⟨⟨[_],_,rfl,⟨rfl,h0⟩,[_],_,rfl,⟨rfl,h1⟩,rfl⟩,rfl⟩
@[reducible] def CK(x:Pair):List AV:=[.lit (.int .i64 x.a),.lit (.int .i64 x.b)]
theorem YW:Enc CI CK:=by
 intro w S h ψ cs d H;obtain⟨rfl,h0,h1⟩:=KK.1 H;simp only[CK,Ak,jW];exact⟨_,_,rfl,rfl,_,_,rfl,rfl,rfl⟩
theorem Uj:S9 CI:=Ef YW λd x hx=>by
 simp only[CK,or_false,zak]at hx;rcases hx with rfl|rfl <;> first|exact .inl ⟨_,rfl,rfl⟩|exact .inr ⟨_,_,_,rfl⟩
instance Ax3:j8 CI CK:=⟨YW,Uj,by decide⟩
structure okPair(x:Pair):Prop where
 a:wfI .i64 x.a
 b:wfI .i64 x.b
theorem Sh{h:List jU}{ψ:Nat->eR}{x:Pair}(a:okPair x)(H:Ak w S h ψ (CK x) cs):CI.RS w S cs x:=by
 simp only[CK,Ak,jW]at H;obtain⟨_,_,rfl,rfl,_,_,rfl,rfl,rfl⟩:=H;exact KK.2 ⟨rfl,a.a,a.b⟩
instance Ax2:Inhabited Pair:=⟨⟨0,0⟩⟩
def Jo(x:Pair):Bool:=wfB .i64 x.a&&wfB .i64 x.b
theorem Rj{x:Pair}(h:Jo x=aN):okPair x:=by
 unfold Jo at h;simp only[aG]at h;exact⟨h.1,h.2⟩
theorem Al2{h:List jU}{x:Pair}(hk:Jo x=aN):Fit h CI (.agg (CK x)) x:=Mx (enc:=CK) λ_ _ _ _ H=>Sh (Rj hk) H
theorem Afk:EB cF 41=lC [(0,1),(1,1)]:=by kernel_rfl
instance Ax1:AG cF 41 aN 2:=⟨by kernel_rfl⟩
instance Ax0:SZ cF 41 2:=⟨by kernel_rfl⟩
instance Axz:FO cF 41 0 0:=⟨by kernel_rfl⟩
instance Axy:FO cF 41 1 1:=⟨by kernel_rfl⟩
instance Axx:ZC cF 41 [.int .i64 0,.int .i64 0]:=⟨by kernel_rfl⟩
instance Axw:TyOf cF 41 _ CI:=⟨trivial⟩
instance Axv:AG cF 38 aI 1:=⟨by kernel_rfl⟩
instance Atw:SZ cF 38 1:=⟨by kernel_rfl⟩
instance Atv:ES cF 38 2:=⟨by kernel_rfl⟩
instance Atu:SL cF 38:=⟨by kernel_rfl⟩
instance Att:RT cF 38 41 2 16:=⟨by kernel_rfl⟩
open Go.Maps Go.Shelf
variable{D:aS Unit}{K:St->Prop}{L:List Lit}{S:Pair->Bool}{b:Nat}{c:Int}{ks:List Pair}{m n:Nat}{q:Pair}{r:Nat}{ty:eQ}{v:eR}{w w':eX}{x:bD}{y:Pair}
def Ac3(x:Pair):eR:=.agg #[.int .i64 x.a,.int .i64 x.b]
def Aak(x:Pair):Lit:=.string (keyBytes [.int .i64 x.a,.int .i64 x.b])
theorem Anz:Keyed cF 41:=Keyed.of_law (deep_law (m:=2) (kQ V) (by kernel_rfl) (by kernel_rfl) (by kernel_rfl))
theorem Aia:cF.cellsOf 41=2:=by kernel_rfl
theorem Aow:cF.cellsOf 3=1:=by kernel_rfl
theorem L7:cF.keyLits (n+1) 3 [v]=lC L↔∃a,v= .int .i64 a/\(Lit.int .i64 a).wf=aN/\L= [.int .i64 a]:=by
 unfold Program.keyLits;rw[dJ];constructor
 ·intro h;cases v <;> simp only[reduceCtorEq]at h
  rename_i k a;split at h
  ·rename_i hc;obtain⟨rfl,g⟩:=hc;exact⟨a,rfl,g,(lD h).symm⟩
  ·cases h
 ·rintro⟨a,rfl,g,rfl⟩;simp[g]
theorem Ago{vs:List eR}(h:cF.keyLits (n+2) 41 vs=lC L):∃a b,vs= [.int .i64 a,.int .i64 b]/\(Lit.int .i64 a).wf=aN/\(Lit.int .i64 b).wf=aN/\L= [.int .i64 a,.int .i64 b]:=by
 rw[show n+2=(n+1)+1 from V]at h;unfold Program.keyLits at h;rw[dL]at h;simp only[Aia]at h;split at h
 ·rename_i hc;obtain⟨E,_⟩:=hc;match vs,E with
  | [u,v],_=>
   simp[Aow]at h;cases h1:cF.keyLits (n+1) 3 [u]with
   |none=>rw[h1]at h;simp at h
   |some G=>
    cases h2:cF.keyLits (n+1) 3 [v]with
    |none=>rw[h1,h2]at h;simp at h
    |some F=>
     obtain⟨a,rfl,j,rfl⟩:=L7.1 h1;obtain⟨b,rfl,g,rfl⟩:=L7.1 h2;rw[h1,h2]at h;simp at h;exact⟨a,b,rfl,j,g,h.symm⟩
 ·cases h
theorem UD{a b:Int}(j:(Lit.int .i64 a).wf=aN)(g:(Lit.int .i64 b).wf=aN):cF.keyLits (n+2) 41 [.int .i64 a,.int .i64 b]=lC [.int .i64 a,.int .i64 b]:=by
 rw[show n+2=(n+1)+1 from V];unfold Program.keyLits;rw[dL];have h1:=(L7 (n:=n) (v:=.int .i64 a)).2 ⟨a,rfl,j,rfl⟩;have h2:=(L7 (n:=n) (v:=.int .i64 b)).2 ⟨b,rfl,g,rfl⟩;simp[Aia,Aow,h1,h2]
theorem Aum:Nat.ble 1 cF.types.size=aN:=by kernel_rfl
theorem Ani:∃n,cF.types.size+1=n+2:=by
 have h:=kQ Aum;generalize cF.types.size=m at h;exact⟨m - 1,by omega⟩
theorem YB{l:Lit}(h:keyOf cF 41 v=lC l):∃x,okPair x/\v=Ac3 x/\l=Aak x:=by
 obtain⟨xs,L,rfl,h1,rfl⟩:=keyOf_top (by kernel_rfl) h;obtain⟨n,u⟩:=Ani;rw[u]at h1;obtain⟨a,b,e,j,g,rfl⟩:=Ago h1;refine⟨⟨a,b⟩,⟨j,g⟩,?_,rfl⟩;have E:xs= #[eS .i64 a,eS .i64 b]:=Array.toList_inj.1 e;rw[E];rfl
theorem MW{x:Pair}(h:okPair x):keyOf cF 41 (Ac3 x)=lC (Aak x):=by
 obtain⟨n,a⟩:=Ani;have hk:cF.keyType 41=aN:=by kernel_rfl
 have g:(Ac3 x).formed cF 41=aN:=by
  unfold Ac3 Value.formed;rw[dL];simp[Aia]
 unfold keyOf;rw[dL];simp only[hk,g,Bool.and_self,if_true];rw[a];show(cF.keyLits (n+2) 41 [.int .i64 x.a,.int .i64 x.b]).map _=_;rw[UD h.a h.b];rfl
theorem Yx{x:Pair}(hx:okPair x)(a:okPair y)(h:Aak x=Aak y):x=y:=by
 have h1:=MW hx;rw[h,<-MW a]at h1;have h2:=Anz.inj (h1.trans (MW a)) (MW a);have g:x.a=y.a/\x.b=y.b:=by
  clear h h1;unfold Ac3 at h2;simpa using h2
 cases x;cases y;exact congr (congrArg Pair.mk g.1) g.2
theorem Fg{α:Type}[DecidableEq α]:∀{l m:List α},l.Nodup->(∀x∈l,x∈m)->l.length<=m.length
 | [],_,_,_=>kX _
 |x::l,m,a,h=>by
  have a:=jA.1 a;have hx:=h x (by simp);have:=Fg (m:=m.erase x) a.2 λy g=>(iQ (λe=>a.1 (by subst e;exact g))).2 (h y (by simp[g]))
  rw[iB hx]at this;have:=iG hx;simp only[iA];omega
instance Ats:DecidableEq Pair:=λx y=>decidable_of_iff (x.a=y.a/\x.b=y.b) ⟨λ⟨h1,h2⟩=>by cases x;cases y;simp_all,λh=>by subst h;exact⟨rfl,rfl⟩⟩
def Dc:List Int->List Pair
 | []=>[]
 |a::R=>R.map (λb=>⟨a,b⟩)++Dc R
def Ao3(w:eX)(b:Nat)(S:Pair->Bool):Prop:=∃(D:aS Unit),w.ownsMap cF 41 (fF cF 3) b (a7 D) D/\∀x,okPair x->has D (Aak x)=S x
theorem Rf(h:w.ownsMap cF 41 (fF cF 3) b n D):w.ownsMap cF 41 (fF cF 3) b (a7 D) D:=by
 obtain⟨g,a,h1,h2,j,rfl⟩:=h;refine⟨g,a,h1,h2,?_,rfl⟩;rw[size_eq,length_read];exact kR _
theorem Ao3.lt(h:Ao3 w b S):b < w.heap.size:=by
 obtain⟨D,h1,_⟩:=h;exact h1.lt
theorem Ao3.keep(h:Ao3 w b S)(hk:w'.heap[b]? =w.heap[b]?):Ao3 w' b S:=by
 obtain⟨D,⟨j,a,h1,h2⟩,g⟩:=h;exact⟨D,⟨j,a,hk.trans h1,h2⟩,g⟩
theorem Aek{L:List Pair}(h:w.ownsMap cF 41 (fF cF 3) b n D)(U:∀x,okPair x->has D (Aak x)=S x)(W:∀x,okPair x->S x=aN->x∈L):a7 D<=L.length:=by
 obtain⟨J,rfl,g,_⟩:=h.entries Anz;obtain⟨F,E,u⟩:=h.keysOf;obtain rfl:J=F:=by simpa using E
 haveI:DecidableEq Lit:=λa b=>Classical.propDecidable (a=b)
 suffices j:(J.map λp=>p.1).length<=(L.map Aak).length by simpa[size_eq]using j
 refine Fg (jF.2 g) λl O=>?_
 obtain⟨p,I,rfl⟩:=iU.1 O;obtain⟨v,G⟩:=u p I;obtain⟨x,hx,_,e⟩:=YB G;refine iU.2 ⟨x,W x hx ?_,e.symm⟩;rw[<-U x hx,has_eq];exact fN.2 ⟨p,I,by rw[<-e];exact WideAt.sameKey_self (Anz.key G)⟩
def Amy(S:Pair->Bool)(y:Pair):Pair->Bool:=λx=>S x||decide (x=y)
theorem Ao3.put{g:eX}{d:aS Unit}(j:okPair y)(a:w.ownsMap cF 41 (fF cF 3) b n D)(u:∀x,okPair x->has D (Aak x)=S x)
 (h1:g.ownsMap cF 41 (fF cF 3) b (n+1) (D.put (Aak y) d)):Ao3 g b (Amy S y):=by
 refine⟨_,Rf h1,λx hx=>?_⟩;by_cases e:x=y
 ·subst e;rw[has_put_same a.isMap (Anz.key (MW hx))];simp[Amy]
 ·rw[has_put_other (λh=>e (Yx hx j h)),u x hx];simp[Amy,e]
def DZ(S:Pair->Bool)(m:Nat):Res:=⟨[],λg=>g=m,λw _=>Ao3 w m S,λh hk _ _=>h.keep (hk m V)⟩
section
variable{C:Ctx}{t:List AV}{h:List jU}{o:bC}
theorem Anb{y z:bD}(i:Nat){L:List Pair}(F:o.op= .mapUpdate ty x y z)(I:cF.underlying ty=lC (.map 41 3))(hi:h[i]? =lC (.res (DZ S m)))
 (hx:evA t x= .lit (.map (lC m)))(Z:evA t y= .agg (CK q))(Y:evA t z= .lit (.int .i64 1))(hL:∀x,okPair x->S x=aN->x∈L)(hl:L.length < fE)(hq:okPair q)(hK:K ⟨Br t o.dst (.lit undef),h.set i (.res (DZ (Amy S q) m))⟩):AOp cF C o ⟨t,h⟩ K:=by
 refine AOp.turn (ι:=Unit) (Rs:=λ_=>DZ (Amy S q) m) (val:=λ_=>undef) hi (λ_=>rfl) (λT ψ w ρ H O ab g=>?_) (λ_=>hK);have h1:=g x (by simp[F,bB]);have h2:=g y (by simp[F,bB]);have U:=g z (by simp[F,bB]);rw[hx]at h1;rw[Z]at h2;rw[Y]at U;unfold jW at h1 h2 U;obtain⟨cs,h2,J⟩:=h2;obtain⟨rfl,_⟩:=KK.1 (Sh hq J);have h2:ρ y=Ac3 q:=h2;obtain⟨D,a,X⟩:=(show Ao3 w m S from O)
 have aa:=Aek a X hL;obtain⟨w',E,j,hg⟩:=a.update Anz I (by omega) (MW hq) (plainElem_int dJ Yo);have u:=Ao3.put hq a X j;have e:(fB ρ o).run cF w= .ok .skip w'\/(fB ρ o).run cF w= .ok (.value undef) w':=by
  simp[fB,F,h1,h2,U,E,eI]
 have W:Turns w T (DZ S m).F (λ_:Unit=>DZ (Amy S q) m) (λ_=>undef) undef w':=
  ⟨Bv hg |> λG=>⟨G.os,G.tape,G.output,G.size,λk hk hn=>G.block k hk λe=>hn (by cases e;rfl)⟩,(),rfl,u,λk hk=>⟨.inl hk,by
   have hk:k=m:=hk;subst hk;exact u.lt⟩⟩
 rcases e with e|e
 ·rw[e];exact W
 ·rw[e];exact W
end
def Ar9(w:eX)(m r:Nat)(S:Pair->Bool)(ks:List Pair):Prop:=∃(D:aS Unit) (left:Lit->Bool) (cnt:Nat),
 w.ranges cF 41 (fF cF 3) m r (a7 D) D left cnt/\(∀x,okPair x->has D (Aak x)=S x)/\(∀x,okPair x->left (Aak x)=(S x&&!ks.contains x))/\(∀x∈ks,okPair x/\S x=aN)/\ks.Nodup
def AtP(w:eX)(r:Nat)(q:Pair)(c:Int):Prop:=(aV (.pointer (lC ⟨r,0,lB⟩))).run cF w= .ok (.tuple #[Ac3 q,.int .i64 c]) w
theorem Wq{H:Type}{P:bE}{k:eQ}{R:eR->Option (aS H×List a8)}{D:aS H}{left:Lit->Bool}{cnt:Nat}(h:w.ranges P k R b r n D left cnt)(G:w'.heap[b]? =w.heap[b]?)(E:w'.heap[r]? =w.heap[r]?):w'.ranges P k R b r n D left cnt:=by
 obtain⟨J,g,a,seen,O,h1,F,u,I,h2,j⟩:=h;exact⟨J,g,a,seen,O,G.trans h1,F,u,I,E.trans h2,j⟩
theorem Ar9.keep(h:Ar9 w m r S ks)(g:w'.heap[m]? =w.heap[m]?)(a:w'.heap[r]? =w.heap[r]?):Ar9 w' m r S ks:=by
 obtain⟨D,left,cnt,h1,h2⟩:=h;exact⟨D,left,cnt,Wq h1 g a,h2⟩
theorem AtP.keep(h:Ar9 w m r S ks)(j:AtP w r q c)(O:w'.heap[m]? =w.heap[m]?)(J:w'.heap[r]? =w.heap[r]?):AtP w' r q c:=by
 obtain⟨D,left,cnt,⟨E,a,g,seen,F,h1,_,_,_,h2,_⟩,_⟩:=h;unfold AtP at j⊢;have Y:(fC r).run cF w= .ok (.mapIter (lC m) g seen F) w:=by simp[fC,Sem.run,h2]
 have X:(fC m).run cF w= .ok (.map E a) w:=by simp[fC,Sem.run,h1]
 have W:(fC r).run cF w'= .ok (.mapIter (lC m) g seen F) w':=by simp[fC,Sem.run,J,h2]
 have U:(fC m).run cF w'= .ok (.map E a) w':=by simp[fC,Sem.run,O,h1]
 unfold aV at j⊢;simp only[Sem.run_bind,Y,W,eJ]at j⊢;cases G:seen.back? with
 |none=>rw[G]at j;simp[stuck]at j
 |some u=>
  rw[G]at j;simp only[Sem.run_bind,X,U,eJ]at j⊢;by_cases hc:a !=F
  ·simp[hc,unsupported]at j
  ·cases I:E.find? (λx=>x.born ==u)with
   |none=>simp[hc,I,unsupported]at j
   |some e=>
    simp[hc,I]at j⊢;exact j
def Apk(S:Pair->Bool)(ks:List Pair)(m r:Nat):Res:=⟨[],λg=>g=m\/g=r,λw _=>Ar9 w m r S ks,λh hk _ _=>h.keep (hk m (.inl V)) (hk r (.inr V))⟩
def atR(S:Pair->Bool)(ks:List Pair)(q:Pair)(c:Int)(m r:Nat):Res:=⟨[],λg=>g=m\/g=r,λw _=>Ar9 w m r S ks/\AtP w r q c,λh hk _ _=>⟨h.1.keep (hk m (.inl V)) (hk r (.inr V)),AtP.keep h.1 h.2 (hk m (.inl V)) (hk r (.inr V))⟩⟩
section
variable{C:Ctx}{t:List AV}{h:List jU}{o:bC}
theorem Acu(i:Nat)(F:o.op= .range ty x)(u:cF.underlying ty=lC (.map 41 3))(hi:h[i]? =lC (.res (DZ S m)))
 (hx:evA t x= .lit (.map (lC m)))(W:∀r,K ⟨Br t o.dst (.lit (.pointer (lC ⟨r,0,lB⟩))),h.set i (.res (Apk S [] m r))⟩):AOp cF C o ⟨t,h⟩ K:=by
 refine AOp.turn (ι:=Nat) (Rs:=λr=>Apk S [] m r) (val:=λr=>.pointer (lC ⟨r,0,lB⟩)) hi (λ_=>rfl) (λT ψ w ρ H E U j=>?_) W;have h1:=j x (by simp[F,bB]);rw[hx]at h1;unfold jW at h1;obtain⟨D,a,I⟩:=(show Ao3 w m S from E)
 obtain⟨w',g,O,hg,J⟩:=a.range Anz u;have e:(fB ρ o).run cF w= .ok (.value (.pointer (lC ⟨w.heap.size,0,lB⟩))) w':=by
  simp[fB,F,h1,g,eI]
 rw[e];have Y:=a.lt;refine⟨Bv hg |> λG=>⟨G.os,G.tape,G.output,G.size,λk hk X=>G.block k hk λe=>by cases e⟩,w.heap.size,rfl,⟨D,_,_,O,I,λx hx=>by simp[I x hx],(λ_ hx=>by cases hx),jB⟩,λk hk=>?_⟩;rcases(show k=m\/k=w.heap.size from hk)with rfl|rfl
 ·exact⟨.inl V,by omega⟩
 ·exact⟨.inr (kR _),by omega⟩
theorem Ajb(i:Nat)(ho:o.op= .next x aI)(hi:h[i]? =lC (.res (Apk S ks m r)))
 (hx:evA t x= .lit (.pointer (lC ⟨r,0,lB⟩)))(ae:(∀x,okPair x->S x=aN->x∈ks)->K ⟨Br t o.dst (.lit (.tuple #[.bool aI])),h.set i (.res (Apk S ks m r))⟩)
 (ad:∀q c,okPair q->S q=aN->q∉ks->K ⟨Br t o.dst (.lit (.tuple #[.bool aN,Ac3 q,.int .i64 c])),h.set i (.res (atR S (ks++[q]) q c m r))⟩):AOp cF C o ⟨t,h⟩ K:=by
 refine AOp.turn (ι:={p:Option (Pair×Int) // match p with|none=>∀x,okPair x->S x=aN->x∈ks|some (q,_)=>okPair q/\S q=aN/\q∉ks})
  (Rs:=λp=>match p.1 with|none=>Apk S ks m r|some (q,c)=>atR S (ks++[q]) q c m r) (val:=λp=>match p.1 with|none=>.tuple #[.bool aI]|some (q,c)=>.tuple #[.bool aN,Ac3 q,.int .i64 c]) hi ?_ (λT ψ w ρ H O ai U=>?_) ?_
 ·rintro⟨_|⟨q,c⟩,I⟩ <;> rfl
 ·have h1:=U x (by simp[ho,bB]);rw[hx]at h1;unfold jW at h1;obtain⟨D,left,cnt,Z,hD,hl,ac,ab⟩:=(show Ar9 w m r S ks from O)
  have hm:=Z.owns.lt;have X:=Z.lt;rcases Z.next Anz o.type with⟨_,aa,j⟩|⟨ag,v,kl,y,w',af,u,F,hv,_,j,Y,_,hg,ah,J⟩
  ·have e:(fB ρ o).run cF w= .ok (.value (.tuple #[.bool aI])) w:=by
    simp[fB,ho,h1,j,eI]
   rw[e];refine⟨⟨rfl,rfl,rfl,kR _,λ_ _ _=>rfl⟩,⟨lB,λx hx W=>?_⟩,rfl,O,λk hk=>⟨.inl hk,?_⟩⟩
   ·have:=hl x hx;rw[aa,W]at this;simpa using this
   ·rcases(show k=m\/k=r from hk)with rfl|rfl
    ·exact hm
    ·exact X
  ·obtain⟨q,hq,rfl,rfl⟩:=YB u;obtain⟨c,rfl,_⟩:=plainElem_int_inv dJ hv;have g:=hl q hq;rw[F]at g;have g:S q=aN/\q∉ks:=by simpa using g.symm
   have e:(fB ρ o).run cF w= .ok (.value (.tuple #[.bool aN,Ac3 q,.int .i64 c])) w':=by
    simp[fB,ho,h1,j,eI]
   rw[e];refine⟨Bv hg |> λG=>⟨G.os,G.tape,G.output,G.size,λk hk hn=>G.block k hk λe=>hn (by cases e;exact .inr V)⟩,⟨lC (q,c),hq,g.1,g.2⟩,rfl,⟨⟨D,_,_,Y,hD,λx hx=>?_,λx hx=>?_,?_⟩,J⟩,λk hk=>⟨.inl hk,?_⟩⟩
   ·rw[hl x hx];by_cases E:x=q
    ·subst E;rw[WideAt.sameKey_self (Anz.key u)];simp
    ·have W:(Aak x).sameKey (Aak q)=aI:=Maps.sameKey_ne λe=>E (Yx hx hq e)
     rw[W];simp[E]
   ·rcases iM.1 hx with hx|hx
    ·exact ac x hx
    ·simp only[or_false,zak]at hx;subst hx;exact⟨hq,g.1⟩
   ·rw[i9];exact⟨ab,by simp,λa ha b hb=>by
     simp only[or_false,zak]at hb;subst hb;intro e;subst e;exact g.2 ha⟩
   ·rcases(show k=m\/k=r from hk)with rfl|rfl <;> omega
 ·rintro⟨_|⟨q,c⟩,I⟩
  ·exact ae I
  ·exact ad q c I.1 I.2.1 I.2.2
theorem VJ(i:Nat)(g:o.op= .entry x)(hi:h[i]? =lC (.res (atR S ks q c m r)))(hx:evA t x= .lit (.pointer (lC ⟨r,0,lB⟩))):
 AX cF C t h o (.tup [.agg (CK q),.lit (.int .i64 c)]):=
 AQ λS' ψ w ρ H a=>by
  have h1:=a x (by simp[g,bB]);rw[hx]at h1;unfold jW at h1;obtain⟨_,j⟩:=(show Ar9 w m r S ks/\AtP w r q c from(H.blk i _ hi).2)
  refine⟨.tuple #[Ac3 q,.int .i64 c],by simp[fB,g,h1,(show _=_ from j),eI],?_⟩;simp only[jW,Ak,CK];exact⟨[Ac3 q,.int .i64 c],rfl,_,_,rfl,⟨[.int .i64 q.a,.int .i64 q.b],rfl,_,_,rfl,rfl,_,_,rfl,rfl,rfl⟩,_,_,rfl,rfl,rfl⟩
end
end Mu
namespace Mu
open Go Go.RowKit Go.Proofs
variable{S:Nat->Prop}{W:eX}{f:kE}{v:eR}{vs:List eR}{x:AV}{ψ:Nat->eR}
section
variable{w w':eX}{cs:List eR}{T:eQ}
end
def BC(x:Ins):List Int:=readsC x++if Bg x then [x.d]else []
theorem LH{x:Ins}(h:okIns x):Bj (BC x):=λr hr=>by
 rcases iM.1 hr with hr|hr
 ·exact F5 h r hr
 ·split at hr
  ·simp only[i6]at hr;subst hr;exact h.d
  ·cases hr
instance:AG cF 59 aI 1:=⟨by kernel_rfl⟩
instance:SZ cF 59 1:=⟨by kernel_rfl⟩
instance:ES cF 59 1:=⟨by kernel_rfl⟩
instance:SL cF 59:=⟨by kernel_rfl⟩
instance:RT cF 59 66 1 24:=⟨by kernel_rfl⟩
section
variable{P:bE}{C:Ctx}{t:List AV}{h:List jU}{o:bC}
end
theorem Wd{b:jY}(h:Ct.bulk b<=2097152):smallB b:=⟨kS (JJ b) h,λx hx=>by
 have h1:=Xr hx;have h2:=SO x;have a:=Eq WG x.args;omega⟩
theorem ZH(h:Dg.bulk f<=2097152):smallF f:=⟨kS (GZ f) h,λb a=>Wd (kS (FJ a) h)⟩
theorem Agv(h:Dg.bulk f<=2097152):∀b∈f.blocks,b.ins.length+1<=2097152:=λb a=>by
 have h1:=FJ a;have h2:=HN b;have g:=Eq Afq b.ins;omega
theorem Ae2(l:List Ins):(l.flatMap readsC).length<=D5 Et.bulk l:=by
 induction l with
 |nil=>simp[D5]
 |cons x l a=>
  have h1:=KT x;have h2:=SO x;have g:=Eq WG x.args;simp only[gG,hZ,D5];omega
theorem TR(l:List jY):(l.flatMap λb=>b.ins.flatMap readsC).length<=D5 Ct.bulk l:=by
 induction l with
 |nil=>simp[D5]
 |cons b l a=>
  have h1:=Ae2 b.ins;have h2:=HN b;simp only[gG,hZ,D5];omega
theorem ZS(h:Dg.bulk f<=2097152):(Cl f).length<=2097152:=by
 have h1:=TR f.blocks;have h2:=Mn f;unfold Cl;omega
theorem Al1{P:bE}{f:aU}{args:List AV}{u:eR}(h:Fn P f args (.lit u))(g:Ak W (λk=>k < W.heap.size) [] ψ0 args vs):aP P f vs.toArray W λe W'=>e= .returned u/\Below W.heap.size W W':=
 (h.2 W _ vs (λ_ h=>h) g).mono λe W' ⟨v,j,E,_,_,_,_,a⟩=>by
  unfold jW at a;exact⟨by rw[j,a],E⟩
theorem Ake{h:List jU}{cs:List eR}(a:Dg.RS W S cs f):jW W S h ψ (.agg (An f)) (.agg cs.toArray):=by
 unfold jW;exact⟨cs,rfl,EncOf.ok (T:=Dg) W S h ψ cs f a⟩
theorem Akd{h:List jU}(v:eR):jW W S h ψ (.lit v) v:=by
 unfold jW;rfl
theorem Akf{h:List jU}(a:jW W S h ψ x v):Ak W S h ψ [x] [v]:=by
 unfold Ak;exact⟨v,[],rfl,a,by unfold Ak;rfl⟩
theorem Aew{h:List jU}{l:List AV}(a:jW W S h ψ x v)(g:Ak W S h ψ l vs):Ak W S h ψ (x::l) (v::vs):=by
 unfold Ak;exact⟨v,vs,rfl,a,g⟩
end Mu
namespace Mu
open Go
section
variable{f:kE}{b:Nat}{bl:jY}{x:Ins}(hb:f.blocks[b]? =lC bl)
include hb
end
theorem Dq:∀{l m:List Int},l.Nodup->(∀x∈l,x∈m)->l.length<=m.length
 | [],_,_,_=>kX _
 |x::l,m,a,h=>by
  rw[jA]at a;have hx:=h x (by simp);have:=Dq (m:=m.erase x) a.2 λy g=>(iQ (λe=>a.1 (by subst e;exact g))).2 (h y (by simp[g]))
  rw[iB hx]at this;have:0 < m.length:=iG hx;simp only[iA];omega
open Go.RowKit Go.Proofs
variable{R:List Int}{S:Pair->Bool}{a:Int}{b:Nat}{f:kE}{i k:Nat}{l:List Int}{n:Int}{q:Ins×List Int}{r:Int}{x y:Pair}{α β:Type}
section
variable{P:bE}{C:Ctx}{t:List AV}{h:List jU}{o:bC}
end
def Ail(f:kE):Int:=if(6:Int) < (if(0:Int) > f.args then 0 else f.args)then 6 else(if(0:Int) > f.args then 0 else f.args)
def argsK(f:kE):Nat:=(Ail f).toNat
theorem GM(f:kE):Ail f=(argsK f:Int)/\argsK f<=6:=by
 unfold argsK Ail;constructor <;> (split <;> split <;> omega)
theorem Vw(f:kE):Fn cF 59 [.agg (An f)] (.lit (.int .i64 (argsK f:Int))):=by
 refine AT Tryz.func59 V (by kernel_rfl) V Tryz.ntmps59 λC g=>?_
 refine nS ?_;refine rCS ?_;refine rCS ?_;refine Az ?_;rw[<-(GM f).1];exact⟨.inr V,j9 V⟩
def YS:List Int:=[8,9,10,11,12,13,4]
def Ajj:List Int:=[16,17,18,19,20,21,22,23]
def Ajl:List Int:=[24,25,26,27,28,29]
def Aj4(i:Int):List Int:=if i=0 then YS else if i=1 then Ajj else Ajl
theorem Azt:Vv cF 153=lC (3,1):=by kernel_rfl
theorem z3:CD cF 153=lC [.slice lB 0 0,.slice lB 0 0,.slice lB 0 0]:=by kernel_rfl
theorem ABb:RG cF 153=lC (aN,3):=by kernel_rfl
instance Auh:ZC cF 153 [.slice lB 0 0,.slice lB 0 0,.slice lB 0 0]:=⟨by kernel_rfl⟩
instance Aug:SZ cF 153 3:=⟨by kernel_rfl⟩
theorem Auk(h:(Lit.int .i64 n).wf=aN):wfI .i64 n:=h
theorem Gc{h:List jU}:∀l:List Int,Bj l->Fits h tInt (l.map λn=>.lit (.int .i64 n)) l
 | [],_=>.nil
 |n::l,g=>.cons (kD (g n (by simp))) (Gc l λx hx=>g x (by simp[hx]))
theorem J6(h:(l.all λn=>(Lit.int .i64 n).wf)=aN):Bj l:=λr g=>fM.1 h r g
theorem Aeq:Fn cF 129 [] (.agg [.bs tInt YS,.bs tInt Ajj,.bs tInt Ajl]):=by
 refine Kj Tryz.func129 V (by kernel_rfl) V ABb Tryz.ntmps129 λC g=>?_
 simp only[iF,Nat.sub_zero,List.replicate_succ,List.replicate_zero,i8];refine rCS ?_;refine Ae λj h2=>?_
 (refine jX ?_;(repeat(first|refine sQ ?_ (AX.lt (xs:=[.const (.int .i64 8),.const (.int .i64 9),.const (.int .i64 10),.const (.int .i64 11),.const (.int .i64 12),.const (.int .i64 13),.const (.int .i64 4)]) (T:=tInt) (ds:=YS) V V V (by rfl) (by decide) (Gc YS (J6 (by decide))))|refine sQ ?_ (AX.lt (xs:=[.const (.int .i64 16),.const (.int .i64 17),.const (.int .i64 18),.const (.int .i64 19),.const (.int .i64 20),.const (.int .i64 21),.const (.int .i64 22),.const (.int .i64 23)]) (T:=tInt) (ds:=Ajj) V V V (by rfl) (by decide) (Gc Ajj (J6 (by decide))))|refine sQ ?_ (AX.lt (xs:=[.const (.int .i64 24),.const (.int .i64 25),.const (.int .i64 26),.const (.int .i64 27),.const (.int .i64 28),.const (.int .i64 29)]) (T:=tInt) (ds:=Ajl) V V V (by rfl) (by decide) (Gc Ajl (J6 (by decide))))|refine sQ ?_ (RN V z3 Azt V V)|refine sQ ?_ (AB V V V V)|refine sQ ?_ (Ay V V V V)|refine sQ ?_|refine AR ?_|refine sG ?_|refine Bt ?_));refine Ax ?_)
 refine h2 _ ?_;refine nT ?_;refine Az ?_;exact⟨⟨.inr V,0,_,rfl,rfl,j9 V⟩,λi cells e hi=>by cases e;cases hi;rfl⟩
def IP(l:List Int):List Int:=l.flatMap Aj4
theorem X7(i:Int):(Aj4 i).length<=8:=by
 unfold Aj4;split
 ·decide
 ·split <;> decide
theorem Aea(l:List Int):(IP l).length<=8 * l.length:=by
 induction l with
 |nil=>simp[IP]
 |cons x l g=>
  have:=X7 x;unfold IP at g⊢;rw[gG,hZ,iA];omega
theorem OO(l:List Int)(hl:l.length<=3)(h3:∀i∈l,i=0\/i=1\/i=2):Fn cF 106 [.bs tInt l] (.bs tInt (IP l)):=by
 refine AT Tryz.func106 V (by kernel_rfl) V Tryz.ntmps106 λC hC=>?_
 refine nS ?_;refine rCS ?_;refine Ae λK2 h2=>?_
 (refine jX ?_;(repeat(first|refine sQ ?_ (AX.call V Aeq V V V)|refine sQ ?_ (AB V V V V)|refine sQ ?_ (Ay V V V V)|refine sQ ?_|refine AR ?_|refine sG ?_|refine Bt ?_));refine Ax ?_)
 refine h2 _ ?_;refine nT ?_;refine Ae λK3 J=>?_
 refine rC ?_;refine J _ ?_;refine nT ?_;refine Ae λK4 Z=>?_
 refine rCS ?_;refine Ah ?_;refine AJ (λp:Nat×Nat=>⟨(A3 (.ptr 0 0::.own 1 p.2::A3 (.bs tInt l::.lit (.int .i64 (l.length:Int))::.lit (.int .i64 (p.1:Int))::A10 []))),[.box [.bs tInt YS,.bs tInt Ajj,.bs tInt Ajl],.row p.2 3 tInt (IP (l.take p.1))]⟩) (λp=>p.1<=l.length) (λp=>l.length - p.1) (0,0) (kX _) ((CG 4 3 tInt V (by decide)).trans (B6)) ?_;rintro⟨k,ver⟩ hk;dsimp only at hk⊢;refine rCS ?_;refine Ae λK8 Y=>?_
 refine Am V (λE=>?_) (λE=>?_)
 ·have G:k < l.length:=by simpa using E
  obtain⟨i,hi⟩:∃i,l[k]? =lC i:=⟨_,gP G⟩
  have O:=Aea (l.take k);have X:=X7 i;have U:(l.take k).length<=3:=by simp;omega
  have g:IP (l.take (k+1))=IP (l.take k)++Aj4 i:=by unfold IP;rw[jO,hi,gF];simp
  have u:(IP (l.take k)).length+(Aj4 i).length<=fE:=by unfold fE;omega
  have j:((IP (l.take k)).length+(Aj4 i).length) * 8<=140737488355328:=by omega
  refine Ao ?_;refine Y _ ?_;refine nT ?_;refine Ae λaa F=>?_
  refine Ah ?_;refine rCS ?_;rcases h3 i (iV hi)with rfl|rfl|rfl
  ·rw[show Aj4 0=YS from V]at u j g
   (refine jX ?_;(repeat(first|refine sQ ?_ (IF (k:=0) (n:=3) Azt V V V V (by omega))|refine sQ ?_ (AB V V V V)|refine sQ ?_ (Ay V V V V)|refine sQ ?_|refine AR ?_|refine sG ?_|refine Bt ?_));refine Ax ?_)
   refine F _ ?_;refine nT ?_;refine rC ?_;refine As ⟨(k+1,ver+1),by dsimp only;omega,by dsimp only;omega,?_⟩;dsimp only;rw[g];exact B6
  ·rw[show Aj4 1=Ajj from V]at u j g
   (refine jX ?_;(repeat(first|refine sQ ?_ (IF (k:=1) (n:=3) Azt V V V V (by omega))|refine sQ ?_ (AB V V V V)|refine sQ ?_ (Ay V V V V)|refine sQ ?_|refine AR ?_|refine sG ?_|refine Bt ?_));refine Ax ?_)
   refine F _ ?_;refine nT ?_;refine rC ?_;refine As ⟨(k+1,ver+1),by dsimp only;omega,by dsimp only;omega,?_⟩;dsimp only;rw[g];exact B6
  ·rw[show Aj4 2=Ajl from V]at u j g
   (refine jX ?_;(repeat(first|refine sQ ?_ (IF (k:=2) (n:=3) Azt V V V V (by omega))|refine sQ ?_ (AB V V V V)|refine sQ ?_ (Ay V V V V)|refine sQ ?_|refine AR ?_|refine sG ?_|refine Bt ?_));refine Ax ?_)
   refine F _ ?_;refine nT ?_;refine rC ?_;refine As ⟨(k+1,ver+1),by dsimp only;omega,by dsimp only;omega,?_⟩;dsimp only;rw[g];exact B6
 ·have I:k=l.length:=by
   have:¬k < l.length:=by simpa using E
   omega
  subst I;rw[jQ];refine AA ?_;refine Z _ ?_;refine nT ?_;refine rCS ?_;refine Az ?_;exact⟨.inr V,kA V⟩
theorem OT(l:List Int)(r:Int)(X:Asc l)(hl:l.length<=2147483648):Fn cF 38 [.bs tInt l,.lit (.int .i64 r)] (.tup [.lit (.int .i64 ((l.countP (· < r):Nat):Int)),.lit (.bool (l.contains r))]):=by
 refine⟨by kernel_rfl,λw S vs Y J=>?_⟩;unfold Ak at J;obtain⟨v,us,rfl,E,h1⟩:=J;obtain⟨U,rfl,h0⟩:=Ev h1;unfold Ak at h0;subst h0;unfold jW at E;have g:∀(n:Nat) (b:Bool) (w':eX),Below w.heap.size w w'->n=l.countP (· < r)->b=l.contains r->Zi w S [] ψ0 (.tup [.lit (.int .i64 ((l.countP (· < r):Nat):Int)),.lit (.bool (l.contains r))]) (.tuple #[.int .i64 (n:Int),.bool b]) w':=λn b w' hb e1 Z=>by
  subst e1 Z;refine⟨hb,S,λ_ h=>h,λ_ h=>.inl h,λk hk=>kT (Y k hk) hb.size,?_⟩;unfold jW;exact⟨[.int .i64 ((l.countP (· < r):Nat):Int),.bool (l.contains r)],rfl,F4 [.int .i64 ((l.countP (· < r):Nat):Int),.bool (l.contains r)]⟩
 obtain⟨A,c,rfl⟩:=Cn E;by_cases I:l= []
 ·subst I;refine(Tryz.slices_BinarySearch_int_empty A c r w).mono λe w' ⟨F,G⟩=>?_
  subst G;exact⟨_,F,g 0 aI w' (eK _ _) V V⟩
 ·have u:0 < l.length:=List.length_pos_iff.2 I;obtain⟨b,o,e,_⟩:=L8 E (gP u);cases e;refine(Tryz.slices_BinarySearch_int b o l.length c l r w (kR _) (by omega) (λj O=>?_) ?_).mono λe w' ⟨F,q,G⟩=>?_
  ·obtain⟨b',o',e',_,hc,_⟩:=L8 E (gP O);cases e';rw[hc];simp[List.getD,O]
  ·rw[jQ];exact X.imp λ{a b} h=>by omega
  ·rw[jQ]at F;subst G;exact⟨_,F,g _ _ _ (Az8 (eK _ _) q) V V⟩
def BD(cross:List Int)(r:Int)(leaf:Bool):List Int:=if leaf then IP [0]else if cross.contains r then IP [1,2]else IP [0,1,2]
theorem Wx(cross:List Int)(r:Int)(leaf:Bool)(J:Asc cross)(I:cross.length<=2147483648):Fn cF 72 [.bs tInt cross,.lit (.int .i64 r),.lit (.bool leaf)] (.bs tInt (BD cross r leaf)):=by
 refine AT Tryz.func72 V (by kernel_rfl) V Tryz.ntmps72 λC hC=>?_
 have w0:Bj [0]:=J6 (by decide);have G:Bj [1,2]:=J6 (by decide);have F:Bj [0,1,2]:=J6 (by decide);refine nS ?_;refine rCS ?_;refine Ae λK2 h2=>?_
 refine rCS ?_;refine Am V (λj=>?_) (λj=>?_)
 ·subst j;refine Ae λK5 X=>?_
  (refine jX ?_;(repeat(first|refine sQ ?_ (AX.lt (xs:=[.const (.int .i64 0)]) (T:=tInt) (ds:=[0]) V V V (by rfl) (by decide) (Gc [0] w0))|refine sQ ?_ (AX.call V (OO [0] (by decide) (by decide)) V V V)|refine sQ ?_ (AB V V V V)|refine sQ ?_ (Ay V V V V)|refine sQ ?_|refine AR ?_|refine sG ?_|refine Bt ?_));refine Ax ?_)
  refine X _ ?_;refine nT ?_;refine Az ?_;exact⟨.inr V,j9 V⟩
 ·subst j;refine Ao ?_;refine h2 _ ?_;refine nT ?_;refine Ae λK6 U=>?_
  refine Ae λK7 O=>?_
  (refine jX ?_;(repeat(first|refine sQ ?_ (AX.call V (OT cross r J I) V V V)|refine sQ ?_ (AB V V V V)|refine sQ ?_ (Ay V V V V)|refine sQ ?_|refine AR ?_|refine sG ?_|refine Bt ?_));refine Ax ?_)
  refine O _ ?_;refine nT ?_;refine rCS ?_;refine Am V (λg=>?_) (λg=>?_)
  ·have e:BD cross r aI=IP [1,2]:=by unfold BD;rw[if_neg (by simp),if_pos g]
   refine Ae λZ E=>?_
   (refine jX ?_;(repeat(first|refine sQ ?_ (AX.lt (xs:=[.const (.int .i64 1),.const (.int .i64 2)]) (T:=tInt) (ds:=[1,2]) V V V (by rfl) (by decide) (Gc [1,2] G))|refine sQ ?_ (AX.call V (OO [1,2] (by decide) (by decide)) V V V)|refine sQ ?_ (AB V V V V)|refine sQ ?_ (Ay V V V V)|refine sQ ?_|refine AR ?_|refine sG ?_|refine Bt ?_));refine Ax ?_)
   refine E _ ?_;refine nT ?_;refine Az ?_;rw[e];exact⟨.inr V,j9 V⟩
  ·have e:BD cross r aI=IP [0,1,2]:=by unfold BD;rw[if_neg (by simp),if_neg (by rw[g];simp)]
   refine Ao ?_;refine U _ ?_;refine nT ?_;refine Ae λY u=>?_
   (refine jX ?_;(repeat(first|refine sQ ?_ (AX.lt (xs:=[.const (.int .i64 0),.const (.int .i64 1),.const (.int .i64 2)]) (T:=tInt) (ds:=[0,1,2]) V V V (by rfl) (by decide) (Gc [0,1,2] F))|refine sQ ?_ (AX.call V (OO [0,1,2] (by decide) (by decide)) V V V)|refine sQ ?_ (AB V V V V)|refine sQ ?_ (Ay V V V V)|refine sQ ?_|refine AR ?_|refine sG ?_|refine Bt ?_));refine Ax ?_)
   refine u _ ?_;refine nT ?_;refine Az ?_;rw[e];exact⟨.inr V,j9 V⟩
theorem Ry(f:kE):Asc (B9 f):=(TP f).filter _
theorem Rx(f:kE):(B9 f).length<=(BE f).length:=iC _ _
def Ali(p:Int):Bool:=(aO (p≥16)&&aO (p < 30))||decide (p≥32)
theorem Agq(p:Int):Fn cF 23 [.lit (.int .i64 p)] (.lit (.bool (Ali p))):=by
 refine AT Tryz.func23 V (by kernel_rfl) V Tryz.ntmps23 λC g=>?_
 refine nS ?_;refine rCS ?_;refine rCS ?_;refine Az ?_;exact⟨.inr V,j9 V⟩
theorem Qy(x:Ins)(g:okIns x)(E:x.args.length<=2097152):Fn cF 60 [.agg (B8 x)] (.bs tInt (readsC x)):=
 Ack (by kernel_rfl) (F5 g) λw vs u=>by
  obtain⟨v,rfl,j⟩:=Ac4 u;obtain⟨cs,rfl,hc⟩:=Jc j;exact Ig x w cs (MN g hc) E
theorem F3(x:Ins)(u:okIns x):Fn cF 61 [.agg (B8 x)] (.tup [.lit (.int .i64 (if Bg x then x.d else 0)),.lit (.bool (Bg x))]):=
 RR (by kernel_rfl) λw vs j=>by
  obtain⟨v,rfl,g⟩:=Ac4 j;obtain⟨cs,rfl,hc⟩:=Jc g;refine(Ns x w cs (MN u hc)).mono λe w' ⟨E,hb⟩=>⟨?_,hb⟩
  rw[E];unfold IV;cases Bg x <;> rfl
theorem Dz{g:α->List β}{l:List α}{x:α}(hx:l[k]? =lC x):(l.take (k+1)).flatMap g=(l.take k).flatMap g++g x:=by
 rw[jO,hx,gF];simp
theorem Ahg(g:α->List β)(l:List α)(k:Nat):((l.take k).flatMap g).length<=(l.flatMap g).length:=by
 conv=>rhs;rw[<-jP k l]
 rw[gF,hZ];omega
theorem SG{g:Ins->List β}{bs:List jY}{bl:jY}{x:Ins}(hb:bs[b]? =lC bl)(hx:bl.ins[i]? =lC x):
 ((bs.take b).flatMap λc=>c.ins.flatMap g).length+((bl.ins.take i).flatMap g).length+(g x).length<=(bs.flatMap λc=>c.ins.flatMap g).length:=by
 have h1:=Ahg (λc:jY=>c.ins.flatMap g) bs (b+1);rw[Dz hb,hZ]at h1;have h2:=Ahg g bl.ins (i+1);rw[Dz hx,hZ]at h2;omega
def N4(n:Nat):List Int:=(jH n).map λ(r:Nat)=>(r:Int)
theorem Ut(n:Nat):N4 (n+1)=N4 n++[(n:Int)]:=by unfold N4;rw[jI,iJ];rfl
theorem Om(n:Nat):(N4 n).length=n:=by simp[N4]
def NI(b:jY):List Int:=b.ins.flatMap BC
def NK(f:kE):List Int:=f.blocks.flatMap NI
def Ac1(f:kE):List Int:=N4 (argsK f)++NK f
def regsB(f:kE):List Int:=aY ((Ac1 f).mergeSort λx y=>decide (x<=y))
theorem Xz(j:okFunc f):Bj (NK f):=λr g=>by
 obtain⟨b,hb,g⟩:=iS.1 g;obtain⟨x,hx,g⟩:=iS.1 g;exact LH ((j.blocks b hb).ins x hx) r g
theorem Ae5(g:okFunc f):Bj (Ac1 f):=λr hr=>by
 rcases iM.1 hr with hr|hr
 ·unfold N4 at hr;obtain⟨k,hk,rfl⟩:=iU.1 hr;have:=iY.1 hk;have:=(GM f).2;exact LY (by omega)
 ·exact Xz g r hr
theorem Jf:r∈regsB f↔r∈Ac1 f:=by
 unfold regsB;rw[(G4 (Fw _)).2,List.mem_mergeSort]
theorem Jg(f:kE):Asc (regsB f):=(G4 (Fw _)).1
theorem Aex(f:kE):(regsB f).length<=(Ac1 f).length:=by
 have:=Xk ((Ac1 f).mergeSort λx y=>decide (x<=y));rw[iE]at this;exact this
theorem LI(f:kE)(ho:okFunc f)(hs:smallF f)(hX:(NK f).length<=2097152):Fn cF 30 [.agg (An f)] (.bs tInt (regsB f)):=by
 have bj:=hs.blocks;have bh:=(GM f).2;refine AT Tryz.func30 V (by kernel_rfl) V Tryz.ntmps30 λC hC=>?_
 refine nS ?_;refine rRS ?_;refine rRS ?_;refine Ae λK3 h3=>?_
 refine Ae λK4 h4=>?_
 (refine jX ?_;(repeat(first|refine sQ ?_ (AX.call V (Vw f) V V V)|refine sQ ?_|refine AR ?_|refine Bt ?_));refine Ax ?_)
 refine h4 _ ?_;refine nT ?_;refine Ah ?_;refine AJ (λp:Nat×Nat=>⟨(.any::.ptr 0 0::.any::.own 1 p.2::A8 (.lit (.int .i64 (argsK f:Int))::.lit (.int .i64 (p.1:Int))::A40 [.any])),[.box (An f),.row p.2 3 tInt (N4 p.1)]⟩) (λp=>p.1<=argsK f) (λp=>argsK f - p.1) (0,0) (kX _) ((CG 3 3 tInt V (by decide)).trans (B6)) ?_;rintro⟨k,ver⟩ hk;dsimp only at hk⊢;refine rRS ?_;refine Ae λK7 h7=>?_
 refine Am V (λU=>?_) (λU=>?_)
 ·have ae:k < argsK f:=by simpa using U
  have hw:=LY (k:=k) (by omega);have I:=Om k;have aa:=Ut k;generalize X:N4 k=L0 at I aa⊢;have an:L0.length+ [(k:Int)].length<=fE:=by simp[fE];omega
  have am:(L0.length+ [(k:Int)].length) * 8<=140737488355328:=by simp;omega
  refine Ao ?_;refine h7 _ ?_;refine nT ?_;refine Ae λK9 h9=>?_
  refine Ah ?_;refine rRS ?_;refine rR ?_;refine h9 _ ?_;refine nT ?_;refine rR ?_;refine As ⟨(k+1,ver+1),by dsimp only;omega,by dsimp only;omega,?_⟩;dsimp only;rw[aa];exact B6
 ·have ao:k=argsK f:=by
   have:¬k < argsK f:=by simpa using U
   omega
  subst ao;have I:=Om (argsK f);refine AA ?_;refine h3 _ ?_;refine nT ?_;refine Ae λbw bb=>?_
  refine rRS ?_;refine Ah ?_;refine AJ (λp:Nat×Nat=>⟨(.any::.ptr 0 0::.any::.own 1 p.2::A10 (A8 (.bs Ct f.blocks::.lit (.int .i64 (f.blocks.length:Int))::.lit (.int .i64 (p.1:Int))::A20 (A10 [])))),[.box (An f),.row p.2 3 tInt (N4 (argsK f)++(f.blocks.take p.1).flatMap NI)]⟩) (λp=>p.1<=f.blocks.length) (λp=>f.blocks.length - p.1) (0,ver) (kX _) (by rw[show N4 (argsK f)++(f.blocks.take (0,ver).1).flatMap NI=N4 (argsK f)by simp];exact B6) ?_;rintro⟨b,ver⟩ hb;dsimp only at hb⊢;refine rRS ?_;refine Ae λbv ba=>?_
  refine Am V (λG=>?_) (λG=>?_)
  ·have ae:b < f.blocks.length:=by simpa using G
   obtain⟨bl,E⟩:∃bl,f.blocks[b]? =lC bl:=⟨_,gP ae⟩
   have J:=iV E;have al:=ho.blocks bl J;have ab:=hs.all bl J;have bi:=ab.ins;have aq:=Dz (g:=NI) E;refine Ao ?_;refine ba _ ?_;refine nT ?_;refine Ae λbu az=>?_
   refine Ah ?_;refine rRS ?_;refine rRS ?_;refine Ah ?_;refine AJ (λp:Nat×Nat=>⟨(.any::.ptr 0 0::.any::.own 1 p.2::A10 (A8 (.bs Ct f.blocks::.lit (.int .i64 (f.blocks.length:Int))::.lit (.int .i64 (b:Int))::A4 (.bs Et bl.ins::.lit (.int .i64 (bl.ins.length:Int))::.lit (.int .i64 (p.1:Int))::A20 (A3 []))))),[.box (An f),.row p.2 3 tInt (N4 (argsK f)++(f.blocks.take b).flatMap NI++(bl.ins.take p.1).flatMap BC)]⟩) (λp=>p.1<=bl.ins.length) (λp=>bl.ins.length - p.1) (0,ver) (kX _) (by rw[show N4 (argsK f)++(f.blocks.take b).flatMap NI++(bl.ins.take (0,ver).1).flatMap BC=N4 (argsK f)++(f.blocks.take b).flatMap NI by simp];exact Ky (.cons (.cons (j6 _)))) ?_;rintro⟨i,ver⟩ hi;dsimp only at hi⊢;refine rRS ?_;refine Ae λbt ay=>?_
   refine Am V (λF=>?_) (λF=>?_)
   ·have af:i < bl.ins.length:=by simpa using F
    obtain⟨x,hx⟩:∃x,bl.ins[i]? =lC x:=⟨_,gP af⟩
    have Z:=iV hx;have O:=al.ins x Z;have ai:x.args.length<=2097152:=by have:=ab.all x Z;omega
    have Y:=Dz (g:=BC) hx;have bg:=SG (g:=BC) E hx;have bk:(f.blocks.flatMap λc=>c.ins.flatMap BC).length<=2097152:=hX;have hL:(N4 (argsK f)++(f.blocks.take b).flatMap NI++(bl.ins.take i).flatMap BC).length+(BC x).length<=2097160:=by
     rw[hZ,hZ,I];have:((f.blocks.take b).flatMap NI).length=((f.blocks.take b).flatMap λc=>c.ins.flatMap BC).length:=rfl;omega
    have u:BC x=readsC x++if Bg x then [x.d]else []:=rfl
    generalize X:N4 (argsK f)++(f.blocks.take b).flatMap NI++(bl.ins.take i).flatMap BC=L0 at hL⊢;rw[u,hZ]at hL;have an:L0.length+(readsC x).length<=fE:=by unfold fE;omega
    have am:(L0.length+(readsC x).length) * 8<=140737488355328:=by omega
    refine Ao ?_;refine ay _ ?_;refine nT ?_;refine Ae λbr ah=>?_
    refine Ah ?_;refine rRS ?_;refine Ae λbq ax=>?_
    (refine jX ?_;(repeat(first|refine sQ ?_ (AX.call V (Qy x O ai) V V V)|refine sQ ?_|refine AR ?_|refine Bt ?_));refine Ax ?_)
    refine ax _ ?_;refine nT ?_;refine Ae λbo aw=>?_
    (refine jX ?_;(repeat(first|refine sQ ?_ (AX.call V (F3 x O) V V V)|refine sQ ?_|refine AR ?_|refine Bt ?_));refine Ax ?_)
    refine aw _ ?_;refine nT ?_;refine rRS ?_;refine Am V (λj=>?_) (λj=>?_)
    ·rw[j,if_pos V]at hL u;have e1:(if Bg x=aN then x.d else 0)=x.d:=if_pos j;have bc:=O.d;have bf:(L0++readsC x).length+ [x.d].length<=fE:=by rw[hZ];simp[fE];simp at hL;omega
     have be:((L0++readsC x).length+ [x.d].length) * 8<=140737488355328:=by rw[hZ];simp;simp at hL;omega
     rw[e1];refine rR ?_;refine ah _ ?_;refine nT ?_;refine rR ?_;refine As ⟨(i+1,ver+1+1),by dsimp only;omega,by dsimp only;omega,?_⟩;dsimp only;rw[Y,<-fO,X,u,<-fO];exact Ky (.cons (.cons (j6 _)))
    ·rw[j,if_neg (by simp),fP]at u;refine Ao ?_;refine ah _ ?_;refine nT ?_;refine rR ?_;refine As ⟨(i+1,ver+1),by dsimp only;omega,by dsimp only;omega,?_⟩;dsimp only;rw[Y,<-fO,X,u];exact Ky (.cons (.cons (j6 _)))
   ·have ap:i=bl.ins.length:=by
     have:¬i < bl.ins.length:=by simpa using F
     omega
    subst ap;rw[jQ];refine AA ?_;refine az _ ?_;refine nT ?_;refine rR ?_;refine As ⟨(b+1,ver),by dsimp only;omega,by dsimp only;omega,?_⟩;dsimp only;rw[aq,<-fO];exact B6
  ·have ar:b=f.blocks.length:=by
    have:¬b < f.blocks.length:=by simpa using G
    omega
   subst ar;rw[jQ];have ad:N4 (argsK f)++f.blocks.flatMap NI=Ac1 f:=rfl;rw[ad];have ac:(Ac1 f).length<=2147483648:=by unfold Ac1;rw[hZ,I];omega
   have ak:=Pj (Ae5 ho);have ag:Bj (aY ((Ac1 f).mergeSort λx y=>decide (x<=y))):=λr hr=>ak r ((G4 (Fw _)).2 r |>.1 hr)
   have aj:((Ac1 f).mergeSort λx y=>decide (x<=y)).length<=2147483648:=by rw[iE];exact ac
   refine AA ?_;refine bb _ ?_;refine nT ?_;refine Ae λbn av=>?_
   (refine jX ?_;(repeat(first|(refine AH V (Qk V V V ac ?_);refine sNt ?_)|refine sQ ?_|refine AR ?_|refine Bt ?_));refine Ax ?_)
   refine av _ ?_;refine nT ?_;refine Ae λbm au=>?_
   (refine jX ?_;(repeat(first|(refine AH V (Qo V (Xi aj ag) V V ?_);refine sNt ?_)|refine sQ ?_|refine AR ?_|refine Bt ?_));refine Ax ?_)
   refine au _ ?_;refine nT ?_;refine Az ?_;exact⟨.inr V,kA V⟩
theorem Ara(l:List Int)(n:Int)(J:l.length<=2097152):Fn cF 69 [.bs tInt l,.lit (.int .i64 n)] (.lit (.bool (l.contains n))):=by
 refine AT Tryz.func69 V (by kernel_rfl) V Tryz.ntmps69 λC O=>?_
 refine nS ?_;refine rCS ?_;refine Ae λY h2=>?_
 refine rCS ?_;refine Ah ?_;refine AJ (λi:Nat=>⟨(.bs tInt l::.lit (.int .i64 n)::A3 (.lit (.int .i64 (i:Int))::A10 (A2 []))),[]⟩) (λi=>i<=l.length/\(l.take i).contains n=aI) (λi=>l.length - i) 0 ⟨kX _,rfl⟩ (B6) ?_;rintro i ⟨hi,hc⟩;refine Ae λX I=>?_
 refine rCS ?_;refine Am V (λhb=>?_) (λhb=>?_)
 ·have u:i < l.length:=by simpa using hb
  obtain⟨x,hx⟩:∃x,l[i]? =lC x:=⟨_,gP u⟩
  refine Ao ?_;refine I _ ?_;refine nT ?_;refine Ae λU G=>?_
  refine Ah ?_;refine rCS ?_;refine Am V (λj=>?_) (λj=>?_)
  ·have g:x=n:=by simpa using j
   have F:l.contains n=aN:=by rw[<-g];exact fS.2 (iV hx)
   refine rCS ?_;refine Az ?_;rw[F];exact⟨.inr V,j9 V⟩
  ·have g:¬x=n:=by simpa using j
   refine Ao ?_;refine G _ ?_;refine nT ?_;refine rC ?_;refine As ⟨i+1,⟨by omega,?_⟩,by omega,B6⟩;rw[jO,hx,fR]at *;simp only[lF,iM,iN,jC,or_false,decide_eq_false_iff_not,not_or]at hc⊢;exact⟨by simpa[fR]using hc,λe=>g e.symm⟩
 ·have E:i=l.length:=by
   have:¬i < l.length:=by simpa using hb
   omega
  rw[E,jQ]at hc;refine AA ?_;refine h2 _ ?_;refine nT ?_;refine rCS ?_;refine Az ?_;rw[hc];exact⟨.inr V,j9 V⟩
def Hb(n:Int)(s:List Int×Bool)(x:Int):List Int×Bool:=if(!s.2&&aO (x > n))=aN then(s.1++[n]++[x],aN)else(s.1++[x],s.2)
def Fx(n:Int)(l:List Int):List Int×Bool:=l.foldl (Hb n) ([],aI)
def Cc(l:List Int)(n:Int):List Int:=if l.contains n then l else if(!(Fx n l).2)=aN then(Fx n l).1++[n]else(Fx n l).1
theorem Aa2{x:Int}(h:l[i]? =lC x):Fx n (l.take (i+1))=Hb n (Fx n (l.take i)) x:=by
 unfold Fx;rw[jO,h,gI];rfl
theorem UP(n:Int)(l:List Int):(Fx n l).1.length+(if(Fx n l).2 then 0 else 1)=l.length+1/\(wfI .i64 n->Bj l->Bj (Fx n l).1):=by
 suffices h:∀(l:List Int) (s:List Int×Bool),(l.foldl (Hb n) s).1.length+(if(l.foldl (Hb n) s).2 then 0 else 1)=s.1.length+(if s.2 then 0 else 1)+l.length/\(wfI .i64 n->Bj s.1->Bj l->Bj (l.foldl (Hb n) s).1)by
  obtain⟨h1,h2⟩:=h l ([],aI);refine⟨?_,λa b=>h2 a (λr g=>by cases g) b⟩;unfold Fx;rw[h1];simp;omega
 intro l;induction l with
 |nil=>exact λs=>⟨rfl,λ_ h _=>h⟩
 |cons x l j=>
  intro s;obtain⟨h1,h2⟩:=j (Hb n s x);rw[gJ];refine⟨?_,λa b c=>h2 a ?_ λr g=>c r (iO _ g)⟩
  ·rw[h1];unfold Hb;obtain⟨o,d⟩:=s;cases d
   ·by_cases hx:x > n <;> simp[hx] <;> omega
   ·simp;omega
  ·unfold Hb;have hx:=c x (iP ..);split
   ·intro r g;simp only[or_false,zav]at g;rcases g with(g|rfl)|rfl
    ·exact b r g
    ·exact a
    ·exact hx
   ·intro r g;simp only[or_false,zav]at g;rcases g with g|rfl
    ·exact b r g
    ·exact hx
theorem Adb(l:List Int)(n:Int):(Cc l n).length<=l.length+1/\(wfI .i64 n->Bj l->Bj (Cc l n)):=by
 have h:=UP n l;unfold Cc;split
 ·exact⟨by omega,λ_ h=>h⟩
 ·split
  ·rename_i g;have g:(Fx n l).2=aI:=by simpa using g
   rw[g]at h;have h1:=h.1;simp only[aJ,if_false]at h1;refine⟨by simp;omega,λa b r hr=>?_⟩;rcases iM.1 hr with hr|hr
   ·exact h.2 a b r hr
   ·rw[i6.1 hr];exact a
  ·refine⟨?_,λa b=>h.2 a b⟩;have h1:=h.1;omega
theorem IW(l:List Int)(n:Int)(hl:l.length<=2097152)(ho:Bj l)(hn:wfI .i64 n):Fn cF 45 [.bs tInt l,.lit (.int .i64 n)] (.bs tInt (Cc l n)):=by
 have Y:=Ara l n hl;refine AT Tryz.func45 V (by kernel_rfl) V Tryz.ntmps45 λC hC=>?_
 refine nS ?_;refine rCS ?_;refine Ae λK2 h2=>?_
 refine Ae λK3 h3=>?_
 (refine jX ?_;(repeat(first|refine sQ ?_ (AX.call V Y V V V)|refine sQ ?_ (AB V V V V)|refine sQ ?_ (Ay V V V V)|refine sQ ?_|refine AR ?_|refine sG ?_|refine Bt ?_));refine Ax ?_)
 refine h3 _ ?_;refine nT ?_;refine Am V (λI=>?_) (λI=>?_)
 ·refine rCS ?_;refine Az ?_;rw[show Cc l n=l from by unfold Cc;rw[I];rfl];exact⟨.inr V,j9 V⟩
 ·refine Ao ?_;refine h2 _ ?_;refine nT ?_;refine rCS ?_;refine rCS ?_;refine Ae λK8 h8=>?_
  refine rCS ?_;refine Ah ?_;refine AJ (λp:Nat×Nat=>⟨(.bs tInt l::.lit (.int .i64 n)::A3 (.own 0 p.2::.lit (.bool (Fx n (l.take p.1)).2)::.lit (.int .i64 (p.1:Int))::A20 (A10 (A8 [])))),[.row p.2 3 tInt (Fx n (l.take p.1)).1]⟩) (λp=>p.1<=l.length) (λp=>l.length - p.1) (0,0) (kX _) ((CG 5 3 tInt V (by decide)).trans (B6)) ?_;rintro⟨i,ver⟩ hi;dsimp only at hi⊢;have G:=(UP n (l.take i)).1;rw[iI]at G;have j:∀x,l[i]? =lC x->Fx n (l.take (i+1))=Hb n (Fx n (l.take i)) x:=λx hx=>Aa2 hx
  have g:i=l.length->Fx n l=Fx n (l.take i):=λe=>by rw[e,jQ]
  generalize Fx n (l.take i)=s at G j g⊢;obtain⟨o,d⟩:=s;dsimp only at G j g⊢;have ac:o.length<=2097154:=by omega
  refine Ae λag aa=>?_
  refine rCS ?_;refine Am V (λF=>?_) (λF=>?_)
  ·have X:i < l.length:=by simpa using F
   obtain⟨x,hx⟩:∃x,l[i]? =lC x:=⟨_,gP X⟩
   have ab:=ho x (iV hx);have j:=j x hx;refine Ao ?_;refine aa _ ?_;refine nT ?_;refine Ae λaf U=>?_
   refine Ah ?_;refine Ae λae O=>?_
   refine rCS ?_;refine Am V (λE=>?_) (λE=>?_)
   ·have e1:Hb n (o,d) x=(o++[n]++[x],aN):=if_pos E;rw[e1]at j;refine rCS ?_;refine rC ?_;refine O _ ?_;refine nT ?_;refine rC ?_;refine U _ ?_;refine nT ?_;refine rC ?_;refine As ⟨(i+1,ver+2),by dsimp only;omega,by dsimp only;omega,?_⟩;dsimp only;rw[j];exact B6
   ·have e1:Hb n (o,d) x=(o++[x],d):=if_neg (by rw[show(!(o,d).2&&aO (x > n))=aI from E];simp);rw[e1]at j;refine Ao ?_;refine O _ ?_;refine nT ?_;refine rC ?_;refine U _ ?_;refine nT ?_;refine rC ?_;refine As ⟨(i+1,ver+1),by dsimp only;omega,by dsimp only;omega,?_⟩;dsimp only;rw[j];exact B6
  ·have Z:i=l.length:=by
    have:¬i < l.length:=by simpa using F
    omega
   have g:=g Z;have hc:l.contains n=aI:=I;refine AA ?_;refine h8 _ ?_;refine nT ?_;refine Ae λad J=>?_
   refine rCS ?_;refine Am V (λu=>?_) (λu=>?_)
   ·have e2:Cc l n=o++[n]:=by unfold Cc;rw[hc,if_neg (by simp),g,if_pos u]
    refine rC ?_;refine J _ ?_;refine nT ?_;refine rCS ?_;refine Az ?_;rw[e2];exact⟨.inr V,kA V⟩
   ·have e2:Cc l n=o:=by unfold Cc;rw[hc,if_neg (by simp),g,if_neg (by rw[show(!(o,d).2)=aI from u];simp)]
    refine Ao ?_;refine J _ ?_;refine nT ?_;refine rCS ?_;refine Az ?_;rw[e2];exact⟨.inr V,kA V⟩
def AC(f:kE):List Int:=(NK f).foldl Cc []
theorem FR(l:List Int):(l.foldl Cc []).length<=l.length/\(Bj l->Bj (l.foldl Cc [])):=by
 suffices h:∀(l s:List Int),(l.foldl Cc s).length<=s.length+l.length/\(Bj s->Bj l->Bj (l.foldl Cc s))by
  obtain⟨h1,h2⟩:=h l [];exact⟨by simpa using h1,λa=>h2 (λr g=>by cases g) a⟩
 intro l;induction l with
 |nil=>exact λs=>⟨kR _,λh _=>h⟩
 |cons x l j=>
  intro s;obtain⟨h1,h2⟩:=j (Cc s x);have u:=Adb s x;rw[gJ,iA];exact⟨by omega,λa b=>h2 (u.2 (b x (iP ..)) a) λr g=>b r (iO _ g)⟩
theorem PH(P:List Int)(h:l[k]? =lC r):(P++l.take (k+1)).foldl Cc []=Cc ((P++l.take k).foldl Cc []) r:=by
 rw[jO,h,<-fO,gI];rfl
theorem LK(f:kE)(ho:okFunc f)(hs:smallF f)(hX:(NK f).length<=2097152):Fn cF 20 [.agg (An f)] (.bs tInt (AC f)):=by
 have bo:=hs.blocks;refine AT Tryz.func20 V (by kernel_rfl) V Tryz.ntmps20 λC hC=>?_
 refine nS ?_;refine rCS ?_;refine rCS ?_;refine Ae λK3 h3=>?_
 refine rCS ?_;refine Ah ?_;refine AJ (λb:Nat=>⟨(.any::.ptr 0 0::.any::.bs tInt (((f.blocks.take b).flatMap NI).foldl Cc [])::.lit (.int .i64 (b:Int))::A40 (A20 [])),[.box (An f)]⟩) (λb=>b<=f.blocks.length) (λb=>f.blocks.length - b) 0 (kX _) ((P8 3 tInt V).trans (B6)) ?_;intro b hb
 (try dsimp only at hb);(try dsimp only)
 refine Ae λK6 h6=>?_
 refine rCS ?_;refine Am V (λaf=>?_) (λaf=>?_)
 ·have au:b < f.blocks.length:=by simpa using af
  obtain⟨bl,Y⟩:∃bl,f.blocks[b]? =lC bl:=⟨_,gP au⟩
  have ab:=iV Y;have al:=ho.blocks bl ab;have ak:=hs.all bl ab;have bn:=ak.ins;have ax:=Dz (g:=NI) Y;refine Ao ?_;refine h6 _ ?_;refine nT ?_;refine Ae λK9 h9=>?_
  refine Ah ?_;refine rCS ?_;refine Ah ?_;refine AJ (λi:Nat=>⟨(.any::.ptr 0 0::.any::.bs tInt (((f.blocks.take b).flatMap NI++(bl.ins.take i).flatMap BC).foldl Cc [])::.lit (.int .i64 (b:Int))::.lit (.int .i64 (i:Int))::A40 (A10 (A9 []))),[.box (An f)]⟩) (λi=>i<=bl.ins.length) (λi=>bl.ins.length - i) 0 (kX _) (by rw[show(f.blocks.take b).flatMap NI++(bl.ins.take 0).flatMap BC=(f.blocks.take b).flatMap NI by simp];exact B6) ?_;intro i hi
  (try dsimp only at hi);(try dsimp only)
  refine Ae λbx bb=>?_
  refine rCS ?_;refine Am V (λZ=>?_) (λZ=>?_)
  ·have an:i < bl.ins.length:=by simpa using Z
   obtain⟨x,hx⟩:∃x,bl.ins[i]? =lC x:=⟨_,gP an⟩
   have ai:=iV hx;have I:=al.ins x ai;have aj:x.args.length<=2097152:=by have:=ak.all x ai;omega
   have ar:=Dz (g:=BC) hx;have bm:=SG (g:=BC) Y hx;have bq:(f.blocks.flatMap λc=>c.ins.flatMap BC).length<=2097152:=hX;obtain⟨P,hP⟩:∃P,(f.blocks.take b).flatMap NI++(bl.ins.take i).flatMap BC=P:=⟨_,rfl⟩
   have br:P.length+(BC x).length<=2097152:=by
    rw[<-hP,hZ];have:((f.blocks.take b).flatMap NI).length=((f.blocks.take b).flatMap λc=>c.ins.flatMap BC).length:=rfl;omega
   have ao:Bj P:=by
    rw[<-hP];intro r hr;rcases iM.1 hr with hr|hr
    ·obtain⟨c,hc,hr⟩:=iS.1 hr;obtain⟨y,hy,hr⟩:=iS.1 hr;exact LH ((ho.blocks c (iW hc)).ins y hy) r hr
    ·obtain⟨y,hy,hr⟩:=iS.1 hr;exact LH (al.ins y (iW hy)) r hr
   have am:(f.blocks.take b).flatMap NI++(bl.ins.take (i+1)).flatMap BC=P++BC x:=by rw[ar,<-hP,fO]
   rw[hP];have J:BC x=readsC x++if Bg x then [x.d]else []:=rfl
   have aa:=LH I;have bg:(readsC x).length<=(BC x).length:=by rw[J,hZ];omega
   have bk:([]:List Int).length+(readsC x).length<=fE:=by simp[fE];omega
   have bj:(([]:List Int).length+(readsC x).length) * 8<=140737488355328:=by simp;omega
   refine Ao ?_;refine bb _ ?_;refine nT ?_;refine Ae λbw aq=>?_
   refine Ah ?_;refine rCS ?_;refine Ae λbv ba=>?_
   (refine jX ?_;(repeat(first|(refine AH V (AOp.lit (s:=⟨_,_⟩) (T:=tInt) (xs:=[]) (ds:=[]) (e:=3) (bytes:=8) V V V (by kernel_rfl) (by decide) (by decide) .nil ?_);refine sNt ?_)|refine sQ ?_ (AX.call V (Gw x I aj) V V V)|refine sQ ?_ (AB V V V V)|refine sQ ?_ (Ay V V V V)|refine sQ ?_|refine AR ?_|refine sG (hq:=by(intro hg;(try simp only[Bool.and_eq_true,beq_iff_eq]at hg);(try simp only[hg,Bool.true_and,zaj]);exact AX.call V (Gw x I aj) V V V)) ?_|refine sG ?_|refine Bt ?_));refine Ax ?_)
   refine ba _ ?_;refine nT ?_;refine Ae λbu az=>?_
   (refine jX ?_;(repeat(first|refine sQ ?_ (AX.call V (FG x I) V V V)|refine sQ ?_ (AB V V V V)|refine sQ ?_ (Ay V V V V)|refine sQ ?_|refine AR ?_|refine sG (hq:=by(intro hg;(try simp only[Bool.and_eq_true,beq_iff_eq]at hg);(try simp only[hg,Bool.true_and,zaj]);exact AX.call V (FG x I) V V V)) ?_|refine sG ?_|refine Bt ?_));refine Ax ?_)
   refine az _ ?_;refine nT ?_;refine Ae λbt ap=>?_
   refine rCS ?_;refine Am V (λG=>?_) (λG=>?_)
   ·rw[G,if_pos V]at J;have e1:(if Bg x=aN then x.d else 0)=x.d:=if_pos G;have bf:=I.d;rw[e1];have bi:(readsC x).length+ [x.d].length<=fE:=by simp[fE];omega
    have bh:((readsC x).length+ [x.d].length) * 8<=140737488355328:=by simp;omega
    refine rC ?_;refine ap _ ?_;refine nT ?_;refine rCS ?_;refine Ah ?_;refine AJ (λk:Nat=>⟨(.any::.ptr 0 0::.any::.bs tInt ((P++(BC x).take k).foldl Cc [])::.lit (.int .i64 (b:Int))::.lit (.int .i64 (i:Int))::.any::.own 2 2::A2 (.lit (.int .i64 (k:Int))::A40 (A10 (A4 [])))),[.box (An f),.dead,.row 2 3 tInt (BC x)]⟩) (λk=>k<=(BC x).length) (λk=>(BC x).length - k) 0 (kX _) (by rw[show P++(BC x).take 0=P by simp,J];exact Ky (.cons (.dead (.cons (j6 _))))) ?_;intro k hk;have av:(P++(BC x).take k).length<=2097152:=by rw[hZ,iI];omega
    have ad:Bj (P++(BC x).take k):=λr hr=>by
     rcases iM.1 hr with hr|hr
     ·exact ao r hr
     ·exact aa r (iW hr)
    obtain⟨ac,E⟩:=FR (P++(BC x).take k);have E:=E ad;have u:∀r,(BC x)[k]? =lC r->(P++(BC x).take (k+1)).foldl Cc []=Cc ((P++(BC x).take k).foldl Cc []) r:=λr hr=>PH P hr
    have j:k=(BC x).length->(P++(BC x).take k).foldl Cc []=(P++BC x).foldl Cc []:=λe=>by rw[e,jQ]
    (try dsimp only at hk);(try dsimp only)
    generalize (P++(BC x).take k).foldl Cc []=O at ac E u j⊢;refine Ae λbe ah=>?_
    refine rCS ?_;refine Am V (λF=>?_) (λF=>?_)
    ·have X:k < (BC x).length:=by simpa using F
     obtain⟨r,hr⟩:∃r,(BC x)[k]? =lC r:=⟨_,gP X⟩
     have U:=aa r (iV hr);have u:=u r hr;refine Ao ?_;refine ah _ ?_;refine nT ?_;refine Ae λbc ag=>?_
     refine Ah ?_
     (refine jX ?_;(repeat(first|refine sQ ?_ (AX.call V (IW O r (by omega) E U) V V V)|refine sQ ?_ (AB V V V V)|refine sQ ?_ (Ay V V V V)|refine sQ ?_|refine AR ?_|refine sG (hq:=by(intro hg;(try simp only[Bool.and_eq_true,beq_iff_eq]at hg);(try simp only[hg,Bool.true_and,zaj]);exact AX.call V (IW O r (by omega) E U) V V V)) ?_|refine sG ?_|refine Bt ?_));refine Ax ?_)
     refine ag _ ?_;refine nT ?_;refine rC ?_;refine As ⟨k+1,by omega,by omega,?_⟩;rw[u];exact B6
    ·have ae:k=(BC x).length:=by
      have:¬k < (BC x).length:=by simpa using F
      omega
     have j:=j ae;refine AA ?_;refine aq _ ?_;refine nT ?_;refine rC ?_;refine As ⟨i+1,by omega,by omega,?_⟩;rw[am,<-j];exact Ky (.cons (j6 _))
   ·rw[G,if_neg (by simp),fP]at J;refine Ao ?_;refine ap _ ?_;refine nT ?_;refine rCS ?_;refine Ah ?_;refine AJ (λk:Nat=>⟨(.any::.ptr 0 0::.any::.bs tInt ((P++(BC x).take k).foldl Cc [])::.lit (.int .i64 (b:Int))::.lit (.int .i64 (i:Int))::.any::.own 2 1::A2 (.lit (.int .i64 (k:Int))::A40 (A10 (A4 [])))),[.box (An f),.dead,.row 1 3 tInt (BC x)]⟩) (λk=>k<=(BC x).length) (λk=>(BC x).length - k) 0 (kX _) (by rw[show P++(BC x).take 0=P by simp,J];exact Ky (.cons (.dead (.cons (j6 _))))) ?_;intro k hk;have av:(P++(BC x).take k).length<=2097152:=by rw[hZ,iI];omega
    have ad:Bj (P++(BC x).take k):=λr hr=>by
     rcases iM.1 hr with hr|hr
     ·exact ao r hr
     ·exact aa r (iW hr)
    obtain⟨ac,E⟩:=FR (P++(BC x).take k);have E:=E ad;have u:∀r,(BC x)[k]? =lC r->(P++(BC x).take (k+1)).foldl Cc []=Cc ((P++(BC x).take k).foldl Cc []) r:=λr hr=>PH P hr
    have j:k=(BC x).length->(P++(BC x).take k).foldl Cc []=(P++BC x).foldl Cc []:=λe=>by rw[e,jQ]
    (try dsimp only at hk);(try dsimp only)
    generalize (P++(BC x).take k).foldl Cc []=O at ac E u j⊢;refine Ae λbe ah=>?_
    refine rCS ?_;refine Am V (λF=>?_) (λF=>?_)
    ·have X:k < (BC x).length:=by simpa using F
     obtain⟨r,hr⟩:∃r,(BC x)[k]? =lC r:=⟨_,gP X⟩
     have U:=aa r (iV hr);have u:=u r hr;refine Ao ?_;refine ah _ ?_;refine nT ?_;refine Ae λbc ag=>?_
     refine Ah ?_
     (refine jX ?_;(repeat(first|refine sQ ?_ (AX.call V (IW O r (by omega) E U) V V V)|refine sQ ?_ (AB V V V V)|refine sQ ?_ (Ay V V V V)|refine sQ ?_|refine AR ?_|refine sG (hq:=by(intro hg;(try simp only[Bool.and_eq_true,beq_iff_eq]at hg);(try simp only[hg,Bool.true_and,zaj]);exact AX.call V (IW O r (by omega) E U) V V V)) ?_|refine sG ?_|refine Bt ?_));refine Ax ?_)
     refine ag _ ?_;refine nT ?_;refine rC ?_;refine As ⟨k+1,by omega,by omega,?_⟩;rw[u];exact B6
    ·have ae:k=(BC x).length:=by
      have:¬k < (BC x).length:=by simpa using F
      omega
     have j:=j ae;refine AA ?_;refine aq _ ?_;refine nT ?_;refine rC ?_;refine As ⟨i+1,by omega,by omega,?_⟩;rw[am,<-j];exact Ky (.cons (j6 _))
  ·have aw:i=bl.ins.length:=by
    have:¬i < bl.ins.length:=by simpa using Z
    omega
   subst aw;refine AA ?_;refine h9 _ ?_;refine nT ?_;refine rC ?_;refine As ⟨b+1,by omega,by omega,?_⟩;rw[ax,show(bl.ins.take bl.ins.length).flatMap BC=NI bl by rw[jQ];rfl];exact B6
 ·have ay:b=f.blocks.length:=by
   have:¬b < f.blocks.length:=by simpa using af
   omega
  subst ay;rw[jQ];refine AA ?_;refine h3 _ ?_;refine nT ?_;refine rCS ?_;refine Az ?_;exact⟨.inr V,j9 V⟩
def CJ(f:kE):Bool:=Jz f||decide (((AC f).length:Int) > 60)
theorem Aax(f:kE)(E:okFunc f)(u:smallF f)(F:(NK f).length<=2097152):Fn cF 7 [.agg (An f)] (.lit (.bool (CJ f))):=by
 have j:=Aay f u;have g:=LK f E u F;refine AT Tryz.func7 V (by kernel_rfl) V Tryz.ntmps7 λC G=>?_
 refine nS ?_;refine rCS ?_;refine Ae λI h2=>?_
 (refine jX ?_;(repeat(first|refine sQ ?_ (AX.call V j V V V)|refine sQ ?_ (AX.call V g V V V)|refine sQ ?_ (AB V V V V)|refine sQ ?_ (Ay V V V V)|refine sQ ?_|refine AR ?_|refine sG (hq:=by(intro hg;(try simp only[Bool.and_eq_true,beq_iff_eq]at hg);(try simp only[hg,Bool.true_and,zaj]);exact AX.call V j V V V)) ?_|refine sG (hq:=by(intro hg;(try simp only[Bool.and_eq_true,beq_iff_eq]at hg);(try simp only[hg,Bool.true_and,zaj]);exact AX.call V g V V V)) ?_|refine sG ?_|refine Bt ?_));refine Ax ?_)
 refine h2 _ ?_;refine nT ?_;refine Az ?_;exact⟨.inr V,j9 V⟩
theorem PG{n:Int}:∀(l:List Int) (s:List Int×Bool),Asc (s.1++l)->(s.2=aI->∀y∈s.1,y < n)->n∉l->
 Asc (l.foldl (Hb n) s).1/\(∀y,y∈(l.foldl (Hb n) s).1↔(y∈s.1\/y∈l)\/(y=n/\(l.foldl (Hb n) s).2=aN/\s.2=aI))/\((l.foldl (Hb n) s).2=aI->∀y∈(l.foldl (Hb n) s).1,y < n)
 | [],s,E,hb,_=>by
  refine⟨by simpa using E,λy=>?_,hb⟩;simp only[List.foldl_nil,jC,or_false];constructor
  ·exact λh=>.inl h
  ·rintro(h|⟨_,h1,h2⟩)
   ·exact h
   ·rw[h1]at h2;cases h2
 |x::l,s,E,hb,O=>by
  have Y:n≠x:=λe=>O (by rw[e];exact iP ..)
  have u:n∉l:=λe=>O (iO _ e)
  unfold Asc at E;rw[jD]at E;obtain⟨U,j,Z⟩:=E;rw[jE]at j;rw[gJ];by_cases hc:(!s.2&&aO (x > n))=aN
  ·have J:s.2=aI:=by
    simp only[zas]at hc;exact hc.1
   have X:x > n:=by
    simp only[zag]at hc;exact hc.2
   have e:Hb n s x=(s.1++[n]++[x],aN):=if_pos hc;rw[e];obtain⟨I,F,G⟩:=PG l (s.1++[n]++[x],aN) (by
    unfold Asc;rw[fO,fO,jD];refine⟨U,?_,λa g b hbz=>?_⟩
    ·simp only[fQ,i8,jE];refine⟨λb hbm=>?_,j.1,j.2⟩;rcases iN.1 hbm with rfl|hbm
     ·omega
     ·have:=j.1 b hbm;omega
    ·have h1:=hb J a g;simp only[fQ,i8,iN]at hbz;rcases hbz with rfl|rfl|hbz
     ·exact h1
     ·omega
     ·have:=j.1 b hbz;omega) (λh=>by cases h) u
   have ht:(l.foldl (Hb n) (s.1++[n]++[x],aN)).2=aN:=by
    by_cases h:(l.foldl (Hb n) (s.1++[n]++[x],aN)).2=aN
    ·exact h
    ·have h:=G (by simpa using h) n ((F n).2 (.inl (.inl (by simp))));omega
   refine⟨I,λy=>?_,λh=>by rw[ht]at h;cases h⟩;rw[F,ht,J];simp only[or_false,and_true,reduceCtorEq,and_false,zav];constructor
   ·rintro((h|h)|h)
    ·rcases h with h|h
     ·exact .inl (.inl h)
     ·exact .inr h
    ·exact .inl (.inr (.inl h))
    ·exact .inl (.inr (.inr h))
   ·rintro((h|h|h)|h)
    ·exact .inl (.inl (.inl h))
    ·exact .inl (.inr h)
    ·exact .inr h
    ·exact .inl (.inl (.inr h))
  ·have e:Hb n s x=(s.1++[x],s.2):=if_neg hc;rw[e];obtain⟨I,F,G⟩:=PG l (s.1++[x],s.2) (by
    unfold Asc;rw[fO,jD];refine⟨U,?_,λa g b hbz=>Z a g b (by simpa using hbz)⟩;simp only[fQ,i8,jE];exact j) (λh y hy=>by
    rcases iM.1 hy with hy|hy
    ·exact hb h y hy
    ·rw[i6.1 hy];have h:s.2=aI:=h;rw[h]at hc;have:¬x > n:=by simpa using hc
     omega) u
   refine⟨I,λy=>?_,G⟩;rw[F];simp only[or_false,or_assoc,zav]
theorem Adc(h:Asc l)(n:Int):Asc (Cc l n)/\∀y,y∈Cc l n↔y=n\/y∈l:=by
 unfold Cc;split
 ·rename_i hc;have hc:=fS.1 hc;exact⟨h,λy=>⟨.inr,λhy=>by
   rcases hy with rfl|hy
   ·exact hc
   ·exact hy⟩⟩
 ·rename_i hc;have F:n∉l:=λe=>hc (fS.2 e)
  obtain⟨u,j,E⟩:=PG (n:=n) l ([],aI) (by simpa using h) (λ_ y hy=>by cases hy) F;have u:Asc (Fx n l).1:=u;have j:∀y,y∈(Fx n l).1↔(y∈([]:List Int)\/y∈l)\/(y=n/\(Fx n l).2=aN/\aI=aI):=j;have E:(Fx n l).2=aI->∀y∈(Fx n l).1,y < n:=E;simp only[jC,false_or,and_true]at j;split
  ·rename_i g;have g:(Fx n l).2=aI:=by simpa using g
   refine⟨?_,λy=>?_⟩
   ·unfold Asc;rw[jD];refine⟨u,List.pairwise_singleton ..,λa G b hb=>?_⟩;rw[i6.1 hb];exact E g a G
   ·rw[iM,j,g,i6];simp only[aJ,and_false,or_false];exact or_comm
  ·rename_i g;have g:(Fx n l).2=aN:=by simpa using g
   refine⟨u,λy=>?_⟩;rw[j,g];simp only[and_true];exact or_comm
theorem M4(l:List Int):Asc (l.foldl Cc [])/\∀y,y∈l.foldl Cc []↔y∈l:=by
 suffices h:∀(l s:List Int),Asc s->Asc (l.foldl Cc s)/\∀y,y∈l.foldl Cc s↔y∈s\/y∈l by
  obtain⟨h1,h2⟩:=h l [] fL;exact⟨h1,λy=>by rw[h2];simp⟩
 intro l;induction l with
 |nil=>exact λs g=>⟨g,λy=>by simp⟩
 |cons x l j=>
  intro s g;obtain⟨E,u⟩:=Adc g x;obtain⟨h1,h2⟩:=j (Cc s x) E;rw[gJ];refine⟨h1,λy=>?_⟩;rw[h2,u,iN];constructor
  ·rintro((h|h)|h)
   ·exact .inr (.inl h)
   ·exact .inl h
   ·exact .inr (.inr h)
  ·rintro(h|h|h)
   ·exact .inl (.inr h)
   ·exact .inl (.inl h)
   ·exact .inr h
theorem CU(f:kE):Asc (AC f)/\∀y,y∈AC f↔y∈NK f:=M4 _
def Ux(f:kE)(n:Nat):List Int:=(N4 n).filter λr=>decide (r < f.args)||(AC f).contains r
def MH(f:kE):List Int:=((AC f).takeWhile λr=>decide (r < 0))++Ux f 6++(AC f).filter λr=>decide (r > 5)
theorem Ak6(n:Nat):Asc (N4 n):=by
 unfold N4 Asc;rw[jF];exact List.pairwise_lt_range.imp λ{a b} h=>by omega
theorem Sp{n:Nat}:r∈N4 n↔0<=r/\r < n:=by
 unfold N4;rw[iU];constructor
 ·rintro⟨k,hk,rfl⟩;have:=iY.1 hk;omega
 ·rintro⟨h1,h2⟩;exact⟨r.toNat,iY.2 (by omega),by omega⟩
theorem Ie:∀{l:List Int},Asc l->(l.takeWhile λr=>decide (r < 0))=l.filter λr=>decide (r < 0)
 | [],_=>rfl
 |x::l,h=>by
  unfold Asc at h;rw[jE]at h;by_cases hx:x < 0
  ·rw[List.takeWhile_cons_of_pos (by simpa using hx),List.filter_cons_of_pos (by simpa using hx),Ie h.2]
  ·rw[List.takeWhile_cons_of_neg (by simpa using hx),List.filter_cons_of_neg (by simpa using hx)];refine(gB.2 λy g=>?_).symm;have:=h.1 y g;simp;omega
theorem Hl(f:kE):MH f=regsB f:=by
 obtain⟨j,G⟩:=CU f;have hk:=GM f;have F:=hk.1;refine G7 ?_ (Jg f) λy=>?_
 ·unfold MH Asc;rw[Ie j,jD,jD];refine⟨⟨j.filter _,(Ak6 6).filter _,λa ha b hb=>?_⟩,j.filter _,λa ha b hb=>?_⟩
  ·have h1:=(iR.1 ha).2;have h2:=Sp.1 (iR.1 hb).1;have h1:a < 0:=by simpa using h1
   omega
  ·have h2:=(iR.1 hb).2;have h2:b > 5:=by simpa using h2
   rcases iM.1 ha with ha|ha
   ·have h1:=(iR.1 ha).2;have h1:a < 0:=by simpa using h1
    omega
   ·have h1:=Sp.1 (iR.1 ha).1;omega
 ·unfold MH;rw[Ie j,Jf];unfold Ac1 Ux;simp only[iM,iR,Sp,G,decide_eq_true_eq,aM,fS];have g:(argsK f:Int)=Ail f:=F.symm;unfold Ail at g;constructor
  ·rintro((⟨h,_⟩|⟨⟨h1,h2⟩,h|h⟩)|⟨h,_⟩)
   ·exact .inr h
   ·left;refine⟨h1,?_⟩;rw[g];split <;> split <;> omega
   ·exact .inr h
   ·exact .inr h
  ·rintro(⟨h1,h2⟩|h)
   ·left;right;rw[g]at h2;refine⟨⟨h1,?_⟩,.inl ?_⟩
    ·split at h2 <;> split at h2 <;> omega
    ·split at h2 <;> split at h2 <;> omega
   ·by_cases E:y < 0
    ·exact .inl (.inl ⟨h,E⟩)
    ·by_cases u:y > 5
     ·exact .inr ⟨h,u⟩
     ·exact .inl (.inr ⟨⟨by omega,by omega⟩,.inr h⟩)
def Y1(f:kE):List Int:=((stepsL f).flatMap FE).foldl Cc []
theorem Abo(f:kE):Y1 f=B9 f:=by
 obtain⟨E,g⟩:=M4 ((stepsL f).flatMap FE);refine G7 E (Ry f) λy=>?_
 have u:Ge f (stepsL f).length y=aN↔y∈(stepsL f).flatMap FE:=by
  unfold Ge addL;rw[jQ];simp only[aK,fS]
 unfold B9;rw[iR,u];constructor
 ·intro h;have h:=(g y).1 h;refine⟨?_,h⟩;obtain⟨q,hq,j⟩:=iS.1 h;exact Kd (Dj hq).2.1 y j
 ·rintro⟨_,h⟩;exact(g y).2 h
def Gd(x:Ins)(r:Int):Bool:=x.op ==7||(x.op ==5&&r !=x.d)
theorem Ah2(q:Ins×List Int):FE q=q.2.filter (Gd q.1):=by
 unfold FE Gd;split
 ·rename_i h;simp only[aG,bne_iff_ne,ne_eq]at h;refine(gB.2 λr _=>?_).symm;simp[h.1,h.2]
 ·rename_i h;refine List.filter_congr λr _=>?_
  by_cases j:q.1.op=7
  ·simp[j]
  ·have g:q.1.op=5:=by
    simp only[aG,bne_iff_ne,ne_eq,not_and,Decidable.not_not]at h;by_cases g:q.1.op=5
    ·exact g
    ·exact absurd (h g) j
   simp[j,g]
def Jt:List Int:=Ajj++Ajl
theorem Db(cross:List Int)(r:Int)(leaf:Bool):BD cross r leaf=if leaf then YS else if cross.contains r then Jt else YS++Jt:=by
 unfold BD;cases leaf
 ·cases cross.contains r <;> rfl
 ·rfl
def Akp(f:kE)(b:Nat):List Int:=((jH b).flatMap (EO f)).flatMap FE
def Ajh(f:kE)(b i:Nat):List Int:=Akp f b++((EO f b).take i).flatMap FE
theorem Apw(f:kE)(hb:b<=f.blocks.length):∀y∈Akp f b,y∈BE f:=λy g=>by
 obtain⟨q,hq,g⟩:=iS.1 g;obtain⟨c,hc,hq⟩:=iS.1 hq;have hc:=iY.1 hc;exact Kd (Dj (iS.2 ⟨c,iY.2 (by omega),hq⟩)).2.1 y g
theorem Apv(f:kE)(hb:b < f.blocks.length):∀y∈Ajh f b i,y∈BE f:=λy hy=>by
 rcases iM.1 hy with hy|hy
 ·exact Apw f (by omega) y hy
 ·obtain⟨q,hq,hy⟩:=iS.1 hy;exact Kd (Dj (iS.2 ⟨b,iY.2 hb,iW hq⟩)).2.1 y hy
theorem Afi(f:kE)(b:Nat):Akp f (b+1)=Ajh f b (EO f b).length:=by
 unfold Ajh Akp;rw[jQ,jI,gF,gF];simp
theorem Afg(h:(EO f b)[i]? =lC q):Ajh f b (i+1)=Ajh f b i++q.2.filter (Gd q.1):=by
 unfold Ajh;rw[Dz h,<-fO,Ah2]
theorem Aff(f:kE)(b:Nat):Ajh f b 0=Akp f b:=by unfold Ajh;simp
theorem Afh(f:kE):Akp f 0= []:=rfl
theorem Ako(f:kE):Akp f f.blocks.length=(stepsL f).flatMap FE:=rfl
theorem Ahd{m:List Int}(h:∀y∈l,y∈m):(l.foldl Cc []).length<=m.length/\(Bj m->Bj (l.foldl Cc [])):=by
 obtain⟨E,g⟩:=M4 l;exact⟨Dq E.nodup λx hx=>h x ((g x).1 hx),λu r j=>u r (h r ((g r).1 j))⟩
theorem W6(P:List Int)(r:Int):(P++[r]).foldl Cc []=Cc (P.foldl Cc []) r:=by rw[gI];rfl
theorem Abn(f:kE)(ho:okFunc f)(hs:smallF f)(hT:(Cl f).length<=2097152)(bh:∀b∈f.blocks,b.ins.length+1<=2097152):Fn cF 105 [.agg (An f)] (.bs tInt (B9 f)):=by
 have bi:=hs.blocks;have aw:(BE f).length<=2097152:=kS (Dw _) hT;have aj:Bj (BE f):=λx hx=>by
  obtain⟨b,h1,y,h2,h3⟩:=Je.1 hx;exact F5 ((ho.blocks b h1).ins y h2) x h3
 rw[<-Abo];refine AT Tryz.func105 V (by kernel_rfl) V Tryz.ntmps105 λC hC=>?_
 refine nS ?_;refine rCS ?_;refine Ae λK2 h2=>?_
 (refine jX ?_;(repeat(first|refine sQ ?_ (AX.call V (Ze f ho hs hT) V V V)|refine sQ ?_ (AB V V V V)|refine sQ ?_ (Ay V V V V)|refine sQ ?_|refine AR ?_|refine sG ?_|refine Bt ?_));refine Ax ?_)
 refine h2 _ ?_;refine nT ?_;refine rCS ?_;refine Ae λK4 h4=>?_
 refine rCS ?_;refine Ah ?_;refine AJ (λb:Nat=>⟨(.any::.ptr 0 0::.any::.bs tInt.slice.slice (Ng f)::.bs tInt ((Akp f b).foldl Cc [])::.lit (.int .i64 (b:Int))::A40 (A20 (A10 [.any]))),[.box (An f)]⟩) (λb=>b<=f.blocks.length) (λb=>f.blocks.length - b) 0 (kX _) (by rw[Afh f];exact(P8 4 tInt V).trans (B6)) ?_;intro b hb;refine Ae λK7 h7=>?_
 refine rCS ?_;refine Am V (λae=>?_) (λae=>?_)
 ·have G:b < f.blocks.length:=by simpa using ae
  obtain⟨bl,ab⟩:∃bl,f.blocks[b]? =lC bl:=⟨_,gP G⟩
  have Z:=iV ab;have ap:=ho.blocks bl Z;have an:=hs.all bl Z;have bg:=an.ins;have I:Cq f b=bl.ins:=by unfold Cq;rw[ab]
  have bj:(Ng f)[b]? =lC (Ce f b):=by unfold Ng;rw[gT,gU G];rfl
  have am:(EO f b).length=bl.ins.length:=by rw[QY,I]
  have ag:=Afi f b;rw[am]at ag;refine Ao ?_;refine h7 _ ?_;refine nT ?_;refine Ae λbr bb=>?_
  refine Ah ?_;refine rCS ?_;refine Ah ?_;refine AJ (λi:Nat=>⟨(.any::.ptr 0 0::.any::.bs tInt.slice.slice (Ng f)::.bs tInt ((Ajh f b i).foldl Cc [])::.lit (.int .i64 (b:Int))::.lit (.int .i64 (i:Int))::A40 (A20 (A10 []))),[.box (An f)]⟩) (λi=>i<=bl.ins.length) (λi=>bl.ins.length - i) 0 (kX _) (by rw[Aff f b];exact B6) ?_;intro i hi;refine Ae λbq ba=>?_
  refine rCS ?_;refine Am V (λX=>?_) (λX=>?_)
  ·have ai:i < bl.ins.length:=by simpa using X
   obtain⟨x,hx⟩:∃x,bl.ins[i]? =lC x:=⟨_,gP ai⟩
   have al:=iV hx;have be:=ap.ins x al;obtain⟨g,aa⟩:∃g,(Ce f b)[i+1]? =lC g:=⟨_,gP (by rw[Nb,I];omega)⟩
   have bf:(Ce f b)[((i:Int)+1).toNat]? =lC g:=by rw[show((i:Int)+1).toNat=i+1 by omega];exact aa
   have ac:=Tx (f:=f) (b:=b) (i:=i) (x:=x) (by rw[I];exact hx) aa;have ad:=Afg ac;have u:=Apv f (i:=i+1) G;rw[ad]at u;have bc:g.length<=2097152:=by
    have:=(Dj (iS.2 ⟨b,iY.2 G,iV ac⟩)).2.2;exact kS this aw
   generalize Ajh f b i=P at ad u⊢;refine Ao ?_;refine ba _ ?_;refine nT ?_;refine Ae λbo az=>?_
   refine Ah ?_;refine rCS ?_;refine rCS ?_;refine rCS ?_;refine Ah ?_;refine AJ (λk:Nat=>⟨(.any::.ptr 0 0::.any::.bs tInt.slice.slice (Ng f)::.bs tInt ((P++(g.take k).filter (Gd x)).foldl Cc [])::.lit (.int .i64 (b:Int))::.lit (.int .i64 (i:Int))::.ptr 1 0::.bs tInt g::.lit (.int .i64 (k:Int))::A40 (A20 (A7 []))),[.box (An f),.box (B8 x)]⟩) (λk=>k<=g.length) (λk=>g.length - k) 0 (kX _) (by rw[show P++(g.take 0).filter (Gd x)=P by simp];exact Ky (.cons (.cons (j6 _)))) ?_;intro k hk;have af:∀y∈P++(g.take k).filter (Gd x),y∈BE f:=λy hy=>by
    rcases iM.1 hy with hy|hy
    ·exact u y (List.mem_append_left _ hy)
    ·refine u y (List.mem_append_right _ (iR.2 ⟨iW (iR.1 hy).1,(iR.1 hy).2⟩))
   obtain⟨aq,Y⟩:=Ahd af;have Y:=Y aj;have j:∀r,g[k]? =lC r->Gd x r=aN->(P++(g.take (k+1)).filter (Gd x)).foldl Cc []=Cc ((P++(g.take k).filter (Gd x)).foldl Cc []) r:=λr hr hq=>by
    rw[Ec hr,hq,if_pos V,<-fO,W6]
   have F:∀r,g[k]? =lC r->Gd x r=aI->(P++(g.take (k+1)).filter (Gd x)).foldl Cc []=(P++(g.take k).filter (Gd x)).foldl Cc []:=λr hr hq=>by
    rw[Ec hr,hq,if_neg (by simp),fP]
   have E:k=g.length->(P++g.filter (Gd x)).foldl Cc []=(P++(g.take k).filter (Gd x)).foldl Cc []:=λe=>by rw[e,jQ]
   (try dsimp only at hk);(try dsimp only)
   generalize (P++(g.take k).filter (Gd x)).foldl Cc []=O at aq Y j F E⊢;refine Ae λbn ay=>?_
   refine rCS ?_;refine Am V (λU=>?_) (λU=>?_)
   ·have ah:k < g.length:=by simpa using U
    obtain⟨r,hr⟩:∃r,g[k]? =lC r:=⟨_,gP ah⟩
    have j:=j r hr;have F:=F r hr;have ao:wfI .i64 r:=aj r (by
     have:=(Dj (iS.2 ⟨b,iY.2 G,iV ac⟩)).2.1;exact this r (iV hr))
    refine Ao ?_;refine ay _ ?_;refine nT ?_;refine Ae λbm ak=>?_
    refine Ah ?_;refine Ae λbk ax=>?_
    (refine N7 17 (hh:=?_);(repeat(first|refine qQ ?_ (AB V V V V)|refine qQ ?_ (Ay V V V V)|refine qQ ?_|refine Hp ?_|refine qG ?_));refine Fo ?_;(repeat(first|refine sQ ?_ (AB V V V V)|refine sQ ?_ (Ay V V V V)|refine sQ ?_|refine AR ?_|refine sG ?_|refine Bt ?_));refine Ax ?_)
    refine ax _ ?_;refine nT ?_;refine Am V (λJ=>?_) (λJ=>?_)
    ·have j:=j J
     (refine jX ?_;(repeat(first|refine sQ ?_ (AX.call V (IW O r (by omega) Y ao) V V V)|refine sQ ?_ (AB V V V V)|refine sQ ?_ (Ay V V V V)|refine sQ ?_|refine AR ?_|refine sG ?_|refine Bt ?_));refine Ax ?_)
     refine ak _ ?_;refine nT ?_;refine rC ?_;refine As ⟨k+1,by omega,by omega,?_⟩;rw[j];exact B6
    ·have F:=F J;refine Ao ?_;refine ak _ ?_;refine nT ?_;refine rC ?_;refine As ⟨k+1,by omega,by omega,?_⟩;rw[F];exact B6
   ·have ar:k=g.length:=by have:¬k < g.length:=(by simpa using U);omega
    have E:=E ar;refine AA ?_;refine az _ ?_;refine nT ?_;refine rC ?_;refine As ⟨i+1,by omega,by omega,?_⟩;rw[ad,E];exact Ky (.cons (j6 _))
  ·have au:i=bl.ins.length:=by have:¬i < bl.ins.length:=(by simpa using X);omega
   refine AA ?_;refine bb _ ?_;refine nT ?_;refine rC ?_;refine As ⟨b+1,by omega,by omega,?_⟩;rw[ag,<-au];exact B6
 ·have av:b=f.blocks.length:=by have:¬b < f.blocks.length:=(by simpa using ae);omega
  have e9:Y1 f=(Akp f b).foldl Cc []:=by rw[av,Ako];rfl
  refine AA ?_;refine h4 _ ?_;refine nT ?_;refine rCS ?_;refine Az ?_;rw[e9];exact⟨.inr V,j9 V⟩
def ltP(x y:Pair):Prop:=x.a < y.a\/(x.a=y.a/\x.b < y.b)
theorem Sv(x:Pair):¬ltP x x:=λh=>by rcases h with h|h <;> omega
theorem Anx{z:Pair}(h1:ltP x y)(h2:ltP y z):ltP x z:=by unfold ltP at *;omega
theorem Aga(h1:ltP x y):¬ltP y x:=λh2=>Sv x (Anx h1 h2)
abbrev Ao6(l:List Pair):Prop:=l.Pairwise ltP
theorem Zd:∀{l m:List Pair},Ao6 l->Ao6 m->(∀x,x∈l↔x∈m)->l=m
 | [],[],_,_,_=>rfl
 | [],y::m,_,_,h=>by have:=(h y).2 (by simp);cases this
 |x::l,[],_,_,h=>by have:=(h x).1 (by simp);cases this
 |x::l,y::m,u,j,h=>by
  have u:=jE.1 u;have j:=jE.1 j;have e:x=y:=by
   rcases iN.1 ((h x).1 (by simp))with e|e
   ·exact e
   ·rcases iN.1 ((h y).2 (by simp))with e2|e2
    ·exact e2.symm
    ·exact absurd (u.1 y e2) (Aga (j.1 x e))
  subst e;refine congrArg _ (Zd u.2 j.2 λz=>⟨λg=>?_,λg=>?_⟩)
  ·rcases iN.1 ((h z).1 (by simp[g]))with e|e
   ·subst e;exact absurd (u.1 _ g) (Sv _)
   ·exact e
  ·rcases iN.1 ((h z).2 (by simp[g]))with e|e
   ·subst e;exact absurd (j.1 _ g) (Sv _)
   ·exact e
theorem Eg:∀{R:List Int} {x:Pair},Asc R->(x∈Dc R↔x.a∈R/\x.b∈R/\x.a < x.b)
 | [],x,_=>by simp[Dc]
 |a::R,x,h=>by
  have h:=jE.1 h;unfold Dc;rw[iM,Eg h.2,iU];constructor
  ·rintro(⟨b,hb,rfl⟩|⟨h1,h2,g⟩)
   ·exact⟨by simp,by simp[hb],h.1 b hb⟩
   ·exact⟨by simp[h1],by simp[h2],g⟩
  ·rintro⟨h1,h2,g⟩;rcases iN.1 h1 with e|e
   ·rcases iN.1 h2 with e2|e2
    ·omega
    ·exact .inl ⟨x.b,e2,by rw[<-e]⟩
   ·rcases iN.1 h2 with e2|e2
    ·have:=h.1 x.a e;omega
    ·exact .inr ⟨e,e2,g⟩
theorem Pb:∀{R:List Int},Asc R->Ao6 (Dc R)
 | [],_=>fL
 |a::R,h=>by
  have h:=jE.1 h;unfold Dc;refine jD.2 ⟨jF.2 (h.2.imp λh=>.inr ⟨rfl,h⟩),Pb h.2,λx hx y g=>?_⟩;obtain⟨b,hb,rfl⟩:=iU.1 hx;exact .inl (h.1 _ ((Eg h.2).1 g).1)
theorem Im:∀(R:List Int),(Dc R).length<=R.length * R.length
 | []=>kR _
 |a::R=>by
  unfold Dc;rw[hZ,iD,iA];have:=Im R;have e:(R.length+1) *(R.length+1)=R.length * R.length+2 * R.length+1:=by rw[kO,Nat.mul_add];omega
  omega
def EW(S:Pair->Bool)(l:List Pair):Pair->Bool:=λx=>S x||l.contains x
theorem DB(S:Pair->Bool):EW S []=S:=by funext x;simp[EW]
theorem Fm(S:Pair->Bool)(l m:List Pair):EW S (l++m)=EW (EW S l) m:=by
 funext x;simp only[EW,fR,iM,aH,aL]
theorem Ais(S:Pair->Bool)(q:Pair):EW S [q]=Amy S q:=by
 funext x;simp only[EW,Amy,fR,iN,jC,or_false]
theorem P1{l:List Pair}:EW S l x=aN↔S x=aN\/x∈l:=by
 simp only[EW,aM,fS]
def Dp(a b:Int):List Pair:=if a=b then []else [⟨min a b,max a b⟩]
def InP(R:List Int)(S:Pair->Bool):Prop:=∀x,S x=aN->x.a∈R/\x.b∈R/\x.a < x.b
theorem Zh(R:List Int):InP R λ_=>aI:=λ_ h=>by cases h
theorem Ud{b:Int}(g:a∈R)(hb:b∈R):∀x∈Dp a b,x.a∈R/\x.b∈R/\x.a < x.b:=λx hx=>by
 unfold Dp at hx;split at hx
 ·cases hx
 ·simp only[or_false,zak]at hx;subst hx;try dsimp only
  rcases Int.lt_or_lt_of_ne (by assumption)with h|h
  ·rw[Int.min_eq_left (by omega),Int.max_eq_right (by omega)];exact⟨g,hb,h⟩
  ·rw[Int.min_eq_right (by omega),Int.max_eq_left (by omega)];exact⟨hb,g,h⟩
theorem InP.addL{l:List Pair}(h:InP R S)(g:∀x∈l,x.a∈R/\x.b∈R/\x.a < x.b):InP R (EW S l):=λx hx=>by
 rcases P1.1 hx with hx|hx
 ·exact h x hx
 ·exact g x hx
def Ej(R:List Int)(S:Pair->Bool):List Pair:=(Dc R).filter S
theorem WN(g:Asc R)(h:InP R S):x∈Ej R S↔S x=aN:=by
 unfold Ej;rw[iR,Eg g];exact⟨λh=>h.2,λhx=>⟨h x hx,hx⟩⟩
theorem PZ(g:Asc R):Ao6 (Ej R S):=(Pb g).filter S
def M6(q:Ins×List Int)(r:Int):Bool:=Bg q.1&&(q.1.op !=2||r !=q.1.a)
def Xb(q:Ins×List Int):List Pair:=(q.2.filter (M6 q)).flatMap (Dp q.1.d)
def HE(f:kE)(k:Nat):Pair->Bool:=EW (λ_=>aI) (((stepsL f).take k).flatMap Xb)
def edgeF(l:List Int):List Pair:=(jH l.length).flatMap λi=>(l.take i).flatMap (Dp (l[i]?.getD 0))
def C6(f:kE):List Int:=if f.blocks.length=0 then []else((Ce f 0)[0]?).getD []
def HC(f:kE):Pair->Bool:=EW (HE f (stepsL f).length) (edgeF (C6 f))
def Cp(f:kE):List Pair:=Ej (AC f) (HC f)
def mvA(q:Ins×List Int):List Pair:=if q.1.op=2 then Dp q.1.d q.1.a else []
def mvK(f:kE)(k:Nat):Pair->Bool:=EW (λ_=>aI) (((stepsL f).take k).flatMap mvA)
def mvL(f:kE):List Pair:=Ej (AC f) (mvK f (stepsL f).length)
theorem Rw(h:(stepsL f)[k]? =lC q):HE f (k+1)=EW (HE f k) (Xb q):=by
 unfold HE;rw[jO,h,lF,gF,Fm];simp
theorem Abd(f:kE):HE f 0=λ_=>aI:=by
 unfold HE;rw[jT,gH,DB]
theorem Ps(h:(stepsL f)[k]? =lC q):mvK f (k+1)=EW (mvK f k) (mvA q):=by
 unfold mvK;rw[jO,h,lF,gF,Fm];simp
theorem WM(f:kE):mvK f 0=λ_=>aI:=by
 unfold mvK;rw[jT,gH,DB]
def IS(S:Pair->Bool)(q:Ins×List Int)(i:Nat):Pair->Bool:=EW S (((q.2.take i).filter (M6 q)).flatMap (Dp q.1.d))
theorem Abe(S:Pair->Bool)(q:Ins×List Int):IS S q 0=S:=by
 unfold IS;rw[jT,gC,gH,DB]
theorem Ahv(h:q.2[i]? =lC r)(hq:M6 q r=aN):IS S q (i+1)=EW (IS S q i) (Dp q.1.d r):=by
 unfold IS;rw[jO,h,lF,fY,fZ,hq,gC,gF,Fm];simp
theorem Al7(h:q.2[i]? =lC r)(hq:M6 q r=aI):IS S q (i+1)=IS S q i:=by
 unfold IS;rw[jO,h,lF,fY,fZ,hq,gC];simp
theorem U4(S:Pair->Bool)(q:Ins×List Int):IS S q q.2.length=EW S (Xb q):=by
 unfold IS Xb;rw[jQ]
def Mk(S:Pair->Bool)(l:List Int)(i k:Nat):Pair->Bool:=EW (EW S ((jH i).flatMap λj=>(l.take j).flatMap (Dp (l[j]?.getD 0)))) ((l.take k).flatMap (Dp (l[i]?.getD 0)))
theorem Abf(S:Pair->Bool)(l:List Int):Mk S l 0 0=S:=by
 unfold Mk;rw[List.range_zero,gH,jT,gH,DB,DB]
theorem Abg{b:Int}(g:l[i]? =lC a)(hb:l[k]? =lC b):Mk S l i (k+1)=EW (Mk S l i k) (Dp a b):=by
 unfold Mk;rw[jO,hb,g,lF,gF,Fm];simp
theorem Abh(S:Pair->Bool)(l:List Int)(i:Nat):Mk S l i i=Mk S l (i+1) 0:=by
 unfold Mk;rw[jI,gF,jT,gH,DB,Fm];simp
theorem U5(S:Pair->Bool)(l:List Int):Mk S l l.length 0=EW S (edgeF l):=by
 unfold Mk edgeF;rw[jT,gH,DB]
theorem MT:r∈AC f↔∃b∈f.blocks,∃x∈b.ins,r∈BC x:=by
 rw[(CU f).2];unfold NK NI;simp only[iS]
theorem O1(h:r∈BE f):r∈AC f:=by
 obtain⟨b,hb,x,hx,g⟩:=Je.1 h;exact MT.2 ⟨b,hb,x,hx,iM.2 (.inl g)⟩
theorem Lz(h:q∈stepsL f):(∃b∈f.blocks,q.1∈b.ins)/\∀r∈q.2,r∈AC f:=
 ⟨(Dj h).1,λr g=>O1 ((Dj h).2.1 r g)⟩
theorem Of(h:q∈stepsL f)(g:Bg q.1=aN):q.1.d∈AC f:=by
 obtain⟨b,hb,hx⟩:=(Lz h).1;exact MT.2 ⟨b,hb,q.1,hx,iM.2 (.inr (by rw[g];simp))⟩
theorem MS{x:Ins}(h:x.op=2):Bg x=aN/\x.a∈readsC x:=by
 unfold Bg readsC;rw[h];exact⟨by rfl,iM.2 (.inl (iM.2 (.inl (by rw[if_pos (by rfl)];simp))))⟩
theorem Yc(h:q∈stepsL f)(g:q.1.op=2):q.1.a∈AC f:=by
 obtain⟨b,hb,hx⟩:=(Lz h).1;exact MT.2 ⟨b,hb,q.1,hx,iM.2 (.inl (MS g).2)⟩
theorem Iu(u:a∈R)(j:∀r∈l,r∈R):∀x∈l.flatMap (Dp a),x.a∈R/\x.b∈R/\x.a < x.b:=λx hx=>by
 obtain⟨r,g,hx⟩:=iS.1 hx;exact Ud u (j r g) x hx
theorem YY(j:InP (AC f) S)(h:q∈stepsL f)(i:Nat):InP (AC f) (IS S q i):=by
 unfold IS;by_cases g:Bg q.1=aN
 ·exact j.addL (Iu (Of h g) λr u=>(Lz h).2 r (iW (iR.1 u).1))
 ·rw[show(q.2.take i).filter (M6 q)= []from gB.2 λr _=>by unfold M6;simp[g],gH,DB];exact j
theorem Mj(f:kE):∀k,InP (AC f) (HE f k)
 |0=>by rw[Abd];exact Zh _
 |k+1=>by
  by_cases hk:k < (stepsL f).length
  ·have hq:=gP hk;rw[Rw hq,<-U4];exact YY (Mj f k) (iV hq) _
  ·have:HE f (k+1)=HE f k:=by
    unfold HE;rw[jR (by omega),jR (by omega)]
   rw[this];exact Mj f k
theorem UX(f:kE):∀r∈C6 f,r∈AC f:=λr g=>by
 unfold C6 at g;split at g
 ·cases g
 ·unfold Ce at g;cases h:((jH ((Cq f 0).length+1)).map (Do f (BE f) 0))[0]? with
  |none=>rw[h]at g;cases g
  |some l=>
   rw[h]at g;obtain⟨i,_,e⟩:=iU.1 (iV h);rw[<-e]at g;exact O1 (iR.1 g).1
theorem YZ(F:InP R S)(E:∀r∈l,r∈R)(hi:i<=l.length)(hik:k=0\/i < l.length):InP R (Mk S l i k):=by
 have hg:∀j,j < l.length->(l[j]?.getD 0)∈R:=λj g=>by
  rw[gP g];exact E _ (g8 g)
 unfold Mk;refine InP.addL (InP.addL F λx hx=>?_) ?_
 ·obtain⟨j,g,hx⟩:=iS.1 hx;exact Iu (hg j (by have:=iY.1 g;omega)) (λr u=>E r (iW u)) x hx
 ·rcases hik with rfl|hik
  ·intro x hx;simp at hx
  ·exact Iu (hg i hik) λr u=>E r (iW u)
theorem Aht(f:kE):InP (AC f) (HC f):=by
 unfold HC;rw[<-U5];exact YZ (Mj f _) (UX f) (kR _) (.inl V)
theorem LZ(f:kE):∀k,InP (AC f) (mvK f k)
 |0=>by rw[WM];exact Zh _
 |k+1=>by
  by_cases hk:k < (stepsL f).length
  ·have hq:=gP hk;have g:=iV hq;rw[Ps hq];refine(LZ f k).addL λx hx=>?_
   unfold mvA at hx;split at hx
   ·rename_i h2;exact Ud (Of g (MS h2).1) (Yc g h2) x hx
   ·cases hx
  ·have:mvK f (k+1)=mvK f k:=by
    unfold mvK;rw[jR (by omega),jR (by omega)]
   rw[this];exact LZ f k
open Go.Maps
def Pa(p:Pair->Bool)(a:Int)(b:Int):M (Pair->Bool):=M.cnd (!(((if b < a then b else a) ==(if b > a then b else a))&&(((if b > a then b else a) ==(if b < a then b else a))&&aN))) (M.chk (Jo ⟨(if b < a then b else a),(if b > a then b else a)⟩) (M.ok (Amy p ⟨(if b < a then b else a),(if b > a then b else a)⟩))) (M.ok p)
theorem WB{p:Pair->Bool}{a:Int}{b:Int}{m:Nat}{r:Pair->Bool}{L:List Pair}(u:∀x,okPair x->p x=aN->x∈L)(j:L.length < fE)(H:(Pa p a b).to r):DU cF 89 (DZ p m) [.lit (.map (lC m)),.lit (.int .i64 a),.lit (.int .i64 b)] (λ_:Unit=>DZ r m) (λ_=>.tuple #[]):=by
 delta Pa at H;try dsimp only at H
 refine D9 Tryz.func89 V (by kernel_rfl) V Tryz.ntmps89 V (λ_ _ _ _ h=>h) λC=>?_
 simp only[Nat.reduceAdd,Nat.reduceSub,zaa];refine wS (sT (sT ?_));refine sA ?_ (AX.min2 V GY (Aq IL)) (Au JX);refine sT (sT ?_);refine sA ?_ (AX.max2 V (Aq FD) (Aq FQ)) (Au JW);refine sA ?_ (BT (rs:=[.lit (.int .i64 (if b < a then b else a)),.lit (.int .i64 (if b > a then b else a))]) V Afk V V) (Au Gv);refine sA0 ?_;refine sW ?_;refine wN ?_;refine wS (sT (sT (sT (sT (sT ?_)))));refine sA ?_ (BT (rs:=[.lit (.int .i64 (if b > a then b else a)),.lit (.int .i64 (if b < a then b else a))]) V Afk V V) (Au (Au I8));refine sA ?_ (XI (bs:=[aN,aN]) (vs:=[(.int .i64 (if b < a then b else a)),(.int .i64 (if b > a then b else a))]) (ws:=[(.int .i64 (if b > a then b else a)),(.int .i64 (if b < a then b else a))]) (by kernel_rfl) V (Aq G8) (Aq (Aq FQ)) V) (Au (Au JW));refine wN ?_;refine Am V (λg=>?_) (λg=>?_)
 ·have H:=AK g H;obtain⟨E,H⟩:=Aj.1 H;refine wSE (sT (sT ?_));(refine AH V (Anb (q:=⟨(if b < a then b else a),(if b > a then b else a)⟩) 0 V dA V V V V u j (Rj E) ?_);refine DS ?_ QA);refine wN ?_;repeat(first|refine abN ?_|refine asN ?_)
  obtain rfl:=Af.1 H;exact⟨.inl V,(),rfl,rfl⟩
 ·have H:=AL g H;refine Ao ?_;repeat(first|refine abN ?_|refine asN ?_)
  obtain rfl:=Af.1 H;exact⟨.inl V,(),rfl,rfl⟩
end Mu
section
namespace Go.Proofs
open Go.Shelf
def Tryz.sortP_ren:eL:=⟨fun|6=>133|15=>99|14=>157|28=>126|29=>127|20=>168|21=>169|22=>170|23=>171|24=>172|25=>173|26=>174|27=>175|46=>183|47=>146|48=>147|49=>184|50=>185|57=>191|n=>n,fun|22=>38|24=>41|25=>137|3=>3|39=>104|0=>0|53=>45|55=>151|4=>4|46=>144|45=>143|50=>68|5=>5|9=>9|66=>166|70=>170|76=>185|77=>186|n=>n,fun|n=>n⟩
theorem Tryz.sortP:Go.Proofs.SlLaysF0.n6 cF Tryz.sortP_ren:={
 mixed:=by kernel_rfl
 f6:=⟨Tryz.f133.name,by decide,Tryz.func133.trans (congrArg lC (by kernel_rfl))⟩
 f14:=⟨Tryz.f157.name,by decide,Tryz.func157.trans (congrArg lC (by kernel_rfl))⟩
 f15:=bN.trans (congrArg lC (by kernel_rfl))
 f20:=⟨Tryz.f168.name,by decide,Tryz.func168.trans (congrArg lC (by kernel_rfl))⟩
 f21:=⟨Tryz.f169.name,by decide,Tryz.func169.trans (congrArg lC (by kernel_rfl))⟩
 f22:=⟨Tryz.f170.name,by decide,Tryz.func170.trans (congrArg lC (by kernel_rfl))⟩
 f23:=⟨Tryz.f171.name,by decide,Tryz.func171.trans (congrArg lC (by kernel_rfl))⟩
 f24:=⟨Tryz.f172.name,by decide,Tryz.func172.trans (congrArg lC (by kernel_rfl))⟩
 f25:=⟨Tryz.f173.name,by decide,Tryz.func173.trans (congrArg lC (by kernel_rfl))⟩
 f26:=⟨Tryz.f174.name,by decide,Tryz.func174.trans (congrArg lC (by kernel_rfl))⟩
 f27:=⟨Tryz.f175.name,by decide,Tryz.func175.trans (congrArg lC (by kernel_rfl))⟩
 f28:=bH.trans (congrArg lC (by kernel_rfl))
 f29:=bI.trans (congrArg lC (by kernel_rfl))
 f46:=⟨Tryz.f183.name,by decide,Tryz.func183.trans (congrArg lC (by kernel_rfl))⟩
 f47:=bK.trans (congrArg lC (by kernel_rfl))
 f48:=bL.trans (congrArg lC (by kernel_rfl))
 f49:=⟨Tryz.f184.name,by decide,Tryz.func184.trans (congrArg lC (by kernel_rfl))⟩
 f50:=⟨Tryz.f185.name,by decide,Tryz.func185.trans (congrArg lC (by kernel_rfl))⟩
 f57:=⟨Tryz.f191.name,by decide,Tryz.func191.trans (congrArg lC (by kernel_rfl))⟩
 t0:=cY
 a0:=bO
 z0:=cG
 v0:=dR
 t3:=dJ
 a3:=bZ
 z3:=cR
 v3:=eC
 t4:=dK
 a4:=b9
 z4:=cT
 v4:=eD
 t5:=dN
 a5:=cB
 z5:=cV
 v5:=eF
 t9:=dQ
 a9:=cD
 z9:=cX
 v9:=eH
 t22:=Tryz.underlying38
 a22:=Tryz.isAgg38
 z22:=Tryz.sizeOf38
 v22:=Tryz.zeroValue38
 t25:=Tryz.underlying137
 a25:=Tryz.isAgg137
 z25:=Tryz.sizeOf137
 v25:=Tryz.zeroValue137
 t39:=cZ
 a39:=bP
 z39:=cH
 v39:=dT
 t45:=dB
 a45:=bR
 z45:=cI
 v45:=dU
 t46:=dC
 a46:=bS
 z46:=cJ
 v46:=dV
 t50:=dP
 a50:=cC
 z50:=cW
 v50:=eG
 t53:=dM
 a53:=cA
 z53:=cU
 v53:=eE
 t55:=dD
 a55:=bT
 z55:=cL
 v55:=dW
 t66:=dE
 a66:=bU
 z66:=cM
 v66:=dX
 t70:=dF
 a70:=bV
 z70:=cN
 v70:=dY
 t76:=dG
 a76:=bW
 z76:=cO
 v76:=dZ
 t77:=dH
 a77:=bX
 z77:=cP
 v77:=eA}
def Tryz.cmpIntP_ren:eL:=⟨fun|5=>87|7=>107|n=>n,fun|22=>3|3=>3|4=>4|n=>n,fun|n=>n⟩
theorem Tryz.cmpIntP:Go.Proofs.SlLaysC2.n5 cF Tryz.cmpIntP_ren:={
 mixed:=by kernel_rfl
 f5:=⟨Tryz.f87.name,by decide,Tryz.func87.trans (congrArg lC (by kernel_rfl))⟩
 f7:=⟨Tryz.f107.name,by decide,bF.trans (congrArg lC (by kernel_rfl))⟩
 t3:=dJ
 a3:=bZ
 z3:=cR
 v3:=eC
 t4:=dK
 a4:=b9
 z4:=cT
 v4:=eD
 t22:=dJ
 a22:=bZ
 z22:=cR
 v22:=eC}
end Go.Proofs
end
namespace Mu
open Go Go.RowKit Go.Proofs Go.Shelf Go.Lib Go.Sort
variable{g:Nat}{l:List Pair}{n:Nat}{os:Array Obj}{v:eR}{w:eX}{x y:Pair}
theorem Anu(a b:Int)(g:Nat)(ty:eQ)(W:eX)(h:W.heap[g]? =lC (.cells #[.int .i64 a,.int .i64 b] ty)):
 aP cF 86 #[.slice (lC ⟨g,0,lB⟩) 2 2] W λe w'=>e= .returned (.int .i64 (if a≠0 then a else b))/\w'=W:=by
 have c0:W.cell? ⟨g,0,lB⟩=lC (.int .i64 a):=by simp[eY,h]
 have c1:W.cell? ⟨g,1,lB⟩=lC (.int .i64 b):=by simp[eY,h]
 go_enter Tryz.func86,Tryz.ntmps86
 go_wp2
 refine wp_loop_rounds 3 ?_;rw[fG];by_cases ha:a=0
 ·subst ha
  go_wp2
  rw[fG];by_cases hb:b=0
  ·subst hb
   go_wp2
   rw[fG]
   go_wp2
   go_ret
   exact⟨rfl,rfl⟩
  ·go_wp2
   go_ret
   exact⟨rfl,rfl⟩
 ·go_wp2
  go_ret
  exact⟨by simp,rfl⟩
theorem Adm(W:eX)(j u:Obj):∃E,E=((W.alloc j).alloc u).drew/\E.heap[W.heap.size]? =lC j/\E.heap[W.heap.size+1]? =lC u/\∃n os,E=grow (W.drewN n) os:=by
 refine⟨_,rfl,?_,?_,1,#[j,u],?_⟩
 ·show((W.heap.push j).push u)[W.heap.size]? =_;simp[Array.getElem?_push]
 ·show((W.heap.push j).push u)[W.heap.size+1]? =_;have:W.heap.size+1=(W.heap.push j).size:=by simp
  rw[this];exact Array.getElem?_push_size
 ·rw[eN,eN,grow_grow];rfl
def cfP(x y:Pair):Int:=if aZ x.a y.a≠0 then aZ x.a y.a else aZ x.b y.b
def Iv(x:Pair):List eR:=[.int .i64 x.a,.int .i64 x.b]
theorem Amj(x y:Pair)(W:eX):aP cF 111 #[.agg (Iv x).toArray,.agg (Iv y).toArray] W λe w'=>e= .returned (.int .i64 (cfP x y))/\∃q os,w'=grow (W.drewN q) os:=by
 have hA:=λW=>AnyG.cmp_Compare_int Tryz.cmpIntP x.a y.a W
 have hB:=λW=>AnyG.cmp_Compare_int Tryz.cmpIntP x.b y.b W
 change∀W,aP cF 87 _ _ _ at hA;change∀W,aP cF 87 _ _ _ at hB;obtain⟨r,hr⟩:∃r,aZ x.a y.a=r:=⟨_,rfl⟩
 obtain⟨s,hs⟩:∃s,aZ x.b y.b=s:=⟨_,rfl⟩
 have hu:cfP x y=if r≠0 then r else s:=by unfold cfP;rw[hr,hs]
 rw[hr]at hA;rw[hs]at hB;clear hr hs;have hO:=λW=>Anu r s W.heap.size 3 (W.alloc (.cells #[.int .i64 r,.int .i64 s] 3)) (fD W _)
 rw[<-hu]at hO;generalize cfP x y=u at hO⊢;clear hu;unfold Iv
 go_enter bG,Tryz.ntmps111
 go_wp2
 refine wp_region_still_tail 10 (by kernel_rfl) (by kernel_rfl) ?_;simp only[List.take_succ_cons,jT,List.drop_succ_cons,fV];change wpStill _ _ (eZ ((W.alloc (bA #[eS aX x.a,eS aX x.b] 41)).alloc (bA #[eS aX y.a,eS aX y.b] 41))) (λa'=>wpList _ _ _ _ a' (eZ ((W.alloc (bA #[eS aX x.a,eS aX x.b] 41)).alloc (bA #[eS aX y.a,eS aX y.b] 41)))) _ _;obtain⟨W2,hW2,g1,g2,hg⟩:=Adm W (bA #[eS aX x.a,eS aX x.b] 41) (bA #[eS aX y.a,eS aX y.b] 41);rw[<-hW2];have c1:W2.cell? ⟨W.heap.size,0,lB⟩=lC (.int .i64 x.a):=by simp[eY,g1]
 have c2:W2.cell? ⟨W.heap.size,1,lB⟩=lC (.int .i64 x.b):=by simp[eY,g1]
 have c3:W2.cell? ⟨W.heap.size+1,0,lB⟩=lC (.int .i64 y.a):=by simp[eY,g2]
 have c4:W2.cell? ⟨W.heap.size+1,1,lB⟩=lC (.int .i64 y.b):=by simp[eY,g2]
 clear hW2 g1 g2
 iterate 4 still_step
 still_call (hA _)
 iterate 4 still_step
 still_call (hB _)
 refine wpStill_nil ?_
 go_wp2_with (go_at_call 86;refine(hO W2).mono ?_;rintro e w' ⟨rfl,rfl⟩)
 go_ret
 obtain⟨n,os,rfl⟩:=hg;exact⟨rfl,n,_,by rw[eN,grow_grow]⟩
theorem Sw:ltOf cfP x y=aN↔ltP x y:=by
 unfold ltOf cfP aZ ltP;by_cases h1:x.a < y.a
 ·simp[h1]
 ·by_cases h2:y.a < x.a
  ·have:x.a≠y.a:=by omega
   simp[h1,h2,this]
  ·have e:x.a=y.a:=by omega
   by_cases j:x.b < y.b
   ·simp[e,j]
   ·by_cases u:y.b < x.b <;> simp[e,j,u]
theorem Pw:ltOf cfP x y=aI↔¬ltP x y:=by
 rw[<-Sw,Bool.not_eq_true]
theorem AA0:SWO (ltOf cfP) where
 irrefl x:=Pw.2 (Sv x)
 trans x y z h1 h2:=Sw.2 (Anx (Sw.1 h1) (Sw.1 h2))
 ntrans x y z h1 h2:=by
  have h1:=Pw.1 h1;have h2:=Pw.1 h2;refine Pw.2 ?_;unfold ltP at *;omega
theorem AAx(x y:Pair)(h1:ltOf cfP x y=aI)(h2:ltOf cfP y x=aI):x=y:=by
 have h1:=Pw.1 h1;have h2:=Pw.1 h2;unfold ltP at h1 h2;obtain⟨a,b⟩:=x;obtain⟨c,d⟩:=y
 (try dsimp only at h1);(try dsimp only at h2)
 have u:a=c:=by omega
 have j:b=d:=by omega
 rw[u,j]
def Hc(l:List Pair):List Pair:=l.mergeSort λx y=>!(ltOf cfP) y x
theorem M2:(!(ltOf cfP) y x)=aN↔¬ltP y x:=by
 rw[Bool.not_eq_true',Pw]
theorem If(l:List Pair):(Hc l).Perm l:=i7 _ _
theorem ZE(j:l.Nodup):Ao6 (Hc l):=by
 have h:=List.pairwise_mergeSort (le:=λx y:Pair=>!(ltOf cfP) y x) (λa b c h1 h2=>by
  have h1:=M2.1 h1;have h2:=M2.1 h2;refine M2.2 ?_;unfold ltP at *;omega) (λa b=>by
  rw[aM,M2,M2];unfold ltP;omega) l
 have u:(Hc l).Nodup:=(If l).nodup_iff.2 j;refine(h.and u).imp λ{x y} hxy=>?_
 obtain⟨h1,h2⟩:=hxy;have h1:=M2.1 h1;unfold ltP at h1;obtain⟨a,b⟩:=x;obtain⟨c,d⟩:=y;unfold ltP
 (try dsimp only at h1);(try dsimp only)
 rcases fH a c with h|h|h
 ·exact .inl h
 ·rcases fH b d with k|k|k
  ·exact .inr ⟨h,k⟩
  ·exact absurd (by rw[h,k]) h2
  ·omega
 ·omega
theorem Ad8{R:List Int}{S:Pair->Bool}(u:Asc R)(j:InP R S)(E:l.Nodup)(h1:∀x∈l,S x=aN)(h2:∀x,S x=aN->x∈l):Hc l=Ej R S:=
 Zd (ZE E) (PZ u) λx=>by
  rw[(If l).mem_iff,WN u j];exact⟨h1 x,h2 x⟩
theorem Ahh{i:Nat}{d:Pair}(I:l[i]? =lC d):((flatK Iv 2 l.toArray).toList.drop (i * 2)).take 2=Iv d:=by
 have J:=(gR.1 I).1;have F:l.toArray[i]! =d:=by simp[getElem!_def,I]
 refine fX λj=>?_
 by_cases G:j < 2
 ·rw[gZ G,gO,aC];have u:i * 2+j < (flatK Iv 2 l.toArray).size:=by simp;omega
  have e:=get_flatK Iv 2 l.toArray (i * 2+j) (by simpa using u);rw[getElem!_pos (flatK Iv 2 l.toArray) _ u]at e;rw[Array.getElem?_eq_getElem u,e,show(i * 2+j) / 2=i by omega,show(i * 2+j) % 2=j by omega,F];have E:j < (Iv d).length:=G;rw[getElem!_pos (Iv d) _ E,gP E]
 ·rw[gY (by omega),gQ (by show 2<=j;omega)]
theorem Qv(cur F:Array eR)(h:F.size<=cur.size):(eO id 0 F cur).toList.take F.size=F.toList:=by
 apply fX;intro j;by_cases u:j < F.size
 ·rw[gZ u,aC];simp[eO,u,show j < cur.size by omega]
 ·rw[gY (by omega),gQ (by simp;omega)]
theorem PF(d:Array eR):w.grownBy (grow (eP id (eM w n) g 0 d) os) (lC g):=by
 refine⟨rfl,rfl,rfl,by simp,λk hk j=>?_⟩;rw[heap_grow_old _ _ (by simpa using hk)];have:g≠k:=λe=>j (by rw[e])
 simp[eP,mapBlock,eM,aB,this]
theorem NB{cur:Array eR}{e:eQ}{j:Nat×Nat}(d:Array eR)(hb:w.heap[g]? =lC (.cells cur e j)):
 (grow (eP id (eM w n) g 0 d) os).heap[g]? =lC (.cells (eO id 0 d cur) e j):=by
 have hg:g < w.heap.size:=(aA.1 hb).1;rw[heap_grow_old _ _ (by simpa using hg)];simp[eP,mapBlock,eM,aB,hb,onCells]
theorem ZP{S:Nat->Prop}{h:List jU}{ψ:Nat->eR}{u:eR}{vs:List eR}(H:Ak w S h ψ [.lit u,.lit v] vs):vs= [u,v]:=by
 obtain⟨a,b,rfl,h1,h2⟩:=Azu H;unfold jW at h1 h2;rw[h1,h2]
theorem ZD(hl:l.length < 4611686018427387904):DU cF 133 (rowR v 41 CI l) [.lit v,.lit (.func (.func 111) #[] #[])] (λ_:Unit=>rowR v 41 CI (Hc l)) (λ_=>.tuple #[]):=by
 refine⟨by kernel_rfl,λw S vs hS hF hR hr=>?_⟩;obtain⟨cells,u,h0,hc⟩:=hR;rw[ZP hr];rcases u.2 with⟨rfl,X⟩|⟨g,cap,cur,rfl,_,hb,h1,h2,h3,h4⟩
 ·have hz:l= []:=fW X;subst hz;rw[show Hc []= []by simp[Hc]];refine(AnyF.slices_SortFunc_none Tryz.sortP lB 0 _ w).mono λe w' ⟨he,hw⟩=>?_
  subst hw;exact⟨_,he,⟨⟨rfl,rfl,rfl,kR _,λ_ _ _=>rfl⟩,(),rfl,⟨cells,u,h0,hc⟩,λk hk=>⟨.inl hk,hF k hk⟩⟩⟩
 ·have aa:g < w.heap.size:=(aA.1 hb).1;have ag:cells.length=l.length * 2:=u.1;have ae:cur.toList.take (l.length * 2)=cells:=h4;have af:cur.size=cap * 2:=h3;have E:∀i d,l[i]? =lC d->(cells.drop (i * 2)).take 2=Iv d/\wfI .i64 d.a/\wfI .i64 d.b:=λi d J=>KK.1 (hc i d J)
  have hH:HoldsK Iv 2 w g 0 l.toArray:=λj hj=>by
   have Y:j < l.length * 2:=by simpa using hj
   obtain⟨d,J⟩:∃d,l[j / 2]? =lC d:=⟨_,gP (by omega)⟩
   have ac:l.toArray[j / 2]! =d:=by simp[getElem!_def,J]
   have e1:=congrArg (λ(l:List eR)=>l[j % 2]?) (E _ d J).1;rw[gZ (by omega),gO,<-ae,gZ (by omega),aC,show j / 2 * 2+j % 2=j by omega]at e1;refine⟨?_,by simp[World.frozen?,hb]⟩;rw[get_flatK _ _ _ _ (by simpa using Y),ac];have O:j % 2 < (Iv d).length:=by show j % 2 < 2;omega
   rw[getElem!_pos (Iv d) _ O];rw[gP O]at e1;simp[eY,hb,e1]
  have eg:∀args w,(callFunc 111 args).run cF w= .ok (.enter 111 args) w:=enters_of bG (by kernel_rfl) V;have ad:=AnyQ.slices_SortFunc_total Tryz.sortP 2 (λw=>by kernel_rfl) (λw=>by kernel_rfl) Iv (λ_=>rfl) (λx v hv=>by
   simp only[Iv,or_false,zak]at hv;rcases hv with rfl|rfl <;> rfl) cfP AA0 111 #[] g 0 cap l.toArray w eg (λm os dk _ x y=>Amj x y _) hH aa (by simpa using hl) AAx
  refine ad.mono ?_;rintro e w' ⟨he,n,os,rfl⟩;have U:(l.toArray.toList.mergeSort λx y=>!(ltOf cfP) y x)=Hc l:=rfl;rw[U];have F:(Hc l).length=l.length:=(If l).length_eq;have I:(flatK Iv 2 (Hc l).toArray).size=l.length * 2:=by simp[F]
  refine⟨_,he,⟨Bv (PF _) |> λG=>⟨G.os,G.tape,G.output,G.size,λk hk X=>G.block k hk λe=>X e⟩,(),rfl,⟨(flatK Iv 2 (Hc l).toArray).toList,?_,h0,λi d J=>?_⟩,λk hk=>⟨.inl hk,?_⟩⟩⟩
  ·rw[F];refine⟨by rw[aD,I];rfl,.inr ⟨g,cap,_,rfl,kX _,NB _ hb,h1,h2,by simp[eO,h3],?_⟩⟩;have e2:=Qv cur (flatK Iv 2 (Hc l).toArray) (by rw[I,af];omega);rw[I]at e2;exact e2
  ·have ab:d∈l:=(If l).mem_iff.1 (iV J);obtain⟨i',Z⟩:=iT.1 ab;exact KK.2 ⟨Ahh J,(E _ _ Z).2⟩
  ·have hk:Bz (.slice (lC ⟨g,0,lB⟩) l.length cap)=lC k:=hk;have hk:g=k:=by simpa[Bz]using hk
   subst hk;exact(aA.1 (NB _ hb)).1
end Mu
namespace Mu
open Go Go.RowKit Go.Proofs Go.Maps Go.Shelf
variable{R:List Int}{S:Pair->Bool}{h:List jU}{ks:List Pair}{v:eR}
instance Atx:AG cF 109 aI 1:=⟨by kernel_rfl⟩
attribute [local go_sem] Oper.semAt_some
theorem KF{P:bE}{C:Ctx}{t:List AV}{o:bC}{x:bD}{j:Nat}{xs:Array eR}(E:o.op= .extract x j)(hx:evA t x= .lit (.tuple xs))(F:xs[j]? =lC v):AX P C t h o (.lit v):=
 AQ λS ψ w ρ _ u=>by
  have h1:=u x (by simp[E,bB]);rw[hx]at h1;unfold jW at h1;exact⟨v,by simp[fB,E,h1,Instr.extract,F],by unfold jW;rfl⟩
theorem XM{cells:List eR}(e:v.cells.toList=cells):VN h (.lit v) (cells.map .lit):=λC S ψ w u _ j=>by
 unfold jW at j;subst j;rw[e];exact Jd cells
def Agm(S:Pair->Bool)(g m:Nat):Res:=⟨[],λk=>k=g\/k=m,λw T=>(Bh g [.lit (.map (lC m))]).R w T/\(DZ S m).R w T/\g≠m,
 λh hk hb u=>⟨(Bh g [.lit (.map (lC m))]).keep h.1 (λk j=>hk k (.inl j)) hb u,(DZ S m).keep h.2.1 (λk j=>hk k (.inr j)) hb u,h.2.2⟩⟩
def Ajk(g:Nat):eR:=.func (.func 134) #[] #[.pointer (lC ⟨g,0,lB⟩)]
theorem Alh(F:Fence)(n:Nat)(hF:F.fn 110)(hro:F.round=lB)(m:Nat)(w:eX):
 aR F n cF 110 #[.map (lC m)] w λe w'=>e= .returned (Ajk w.heap.size)/\w'=w.alloc (.cells #[.map (lC m)] 109):=by
 refine callsIn_of_wp Tryz.func110 V hF ?_ hro;simp only[Tryz.ntmps110,Nat.reduceAdd,Nat.reduceSub,zae]
 gi_wp2
 go_ret
 exact⟨rfl,rfl⟩
theorem Aan(S:Pair->Bool)(m:Nat):DU cF 110 (DZ S m) [.lit (.map (lC m))] (λg=>Agm S g m) Ajk:=by
 refine⟨by kernel_rfl,λw T vs I F E j=>?_⟩;obtain⟨G,rfl,h0⟩:=Ev j;unfold Ak at h0;subst h0;refine((fA (n:=4)).1 (Alh aT 4 trivial V m w)).mono ?_;rintro e w' ⟨rfl,rfl⟩;have u:m < w.heap.size:=F m V;have hb:Below w.heap.size w (w.alloc (.cells #[.map (lC m)] 109)):=(eK _ _).alloc (kR _) _;refine⟨_,rfl,⟨hb.os,hb.tape,hb.output,hb.size,λk hk _=>hb.block k hk⟩,w.heap.size,rfl,⟨⟨[.map (lC m)],109,fD w _,F4 [.map (lC m)]⟩,(show Ao3 w m S from E).keep (hb.block m u),by omega⟩,λk hk=>?_⟩;rcases(show k=w.heap.size\/k=m from hk)with rfl|rfl
 ·exact⟨.inr (kR _),by simp⟩
 ·exact⟨.inl V,by simp;omega⟩
def Aeb(S:Pair->Bool)(ks:List Pair):Prop:=ks.Nodup/\∀x∈ks,okPair x/\S x=aN
def stK(S:Pair->Bool)(ks:List Pair)(u:List AV)(j:List Pair):Prop:=Aeb S ks/\∃q,okPair q/\S q=aN/\q∉ks/\u= [.agg (CK q)]/\j=ks++[q]
def Az6(S:Pair->Bool)(ks:List Pair):Prop:=Aeb S ks/\∀x,okPair x->S x=aN->x∈ks
theorem Aeb.add{q:Pair}(h:Aeb S ks)(h1:okPair q)(h2:S q=aN)(u:q∉ks):Aeb S (ks++[q]):=by
 refine⟨i9.2 ⟨h.1,by simp,λa j b hb=>?_⟩,λx hx=>?_⟩
 ·simp only[or_false,zak]at hb;subst hb;exact λe=>u (e▸j)
 ·rcases iM.1 hx with hx|hx
  ·exact h.2 x hx
  ·simp only[or_false,zak]at hx;subst hx;exact⟨h1,h2⟩
theorem Aao(S:Pair->Bool)(g m:Nat)(L:List Pair)(hL:∀x,okPair x->S x=aN->x∈L):Am5 cF 134 [.pointer (lC ⟨g,0,lB⟩)] (Agm S g m) (stK S) [] (Az6 S):=by
 refine NT Tryz.func134 V (by kernel_rfl) V Tryz.ntmps134 V λC U ι l Jr X hY O=>?_
 simp only[iK,iL,Nat.reduceAdd,Nat.reduceSub,zaa];refine AN _ (P7 (i:=1) (R1:=Bh g [.lit (.map (lC m))]) (R2:=DZ S m) V V V V (λ_ h=>h) λw T h=>⟨h.1,h.2.1,λk h1 h2=>h.2.2 (h1.symm.trans h2)⟩) ?_;refine nT ?_;refine Ae λK1 h1=>?_
 (refine jX ?_;(repeat(first|refine sQ ?_|refine AR ?_|refine Bt ?_)))
 refine AH V (Acu 2 V dA V V λr=>?_);refine sNt ?_;refine Ax ?_;refine h1 _ ?_;refine nT ?_;refine Ah ?_;refine AJ (λp:List Pair×ι=>⟨(.lit (.func (.yield l) #[] #[])::.lit (.pointer (lC ⟨g,0,lB⟩))::A3 (.lit (.pointer (lC ⟨r,0,lB⟩))::A8 [])),[.res (Jr p.1 p.2),.res (Bh g [.lit (.map (lC m))]),.res (Apk S p.1 m r)]⟩) (λp=>Aeb S p.1) (λp=>L.length - p.1.length) ([],O) ⟨jB,λ_ h=>by cases h⟩ (B6) ?_;rintro⟨ks,O⟩ F
 (try dsimp only at F);(try dsimp only)
 refine Ae λK3 Z=>?_
 refine jX ?_;refine AH V (Ajb 2 V V V (λI=>?_) (λq c hq J j=>?_))
 ·refine sNt ?_
  (repeat(first|refine sQ ?_ (KF V V V)|refine sQ ?_|refine AR ?_|refine Bt ?_))
  refine Ax ?_;refine Z _ ?_;refine nT ?_;refine Ae λK4 Y=>?_
  refine Am V (λu=>by cases u) (λu=>?_);refine AA ?_;exact⟨.inl V,ks,⟨F,I⟩,O,rfl,by simp[mkD,ABlk.mrk,X];exact⟨rfl,rfl⟩⟩
 ·refine sNt ?_
  (repeat(first|refine sQ ?_ (KF V V V)|refine sQ ?_|refine AR ?_|refine Bt ?_))
  refine Ax ?_;refine Z _ ?_;refine nT ?_;refine Ae λK4 Y=>?_
  refine Am V (λu=>?_) (λu=>by cases u);refine Ao ?_;refine Y _ ?_;refine nT ?_;refine Ah ?_;refine Ae λK6 h6=>?_
  (refine jX ?_;(repeat(first|refine sQ ?_ (VJ 2 V V V)|refine sQ ?_|refine AR ?_|refine Bt ?_));refine Ax ?_)
  refine h6 _ ?_;refine nT ?_;refine Ae λK7 h7=>?_
  refine Qi ?_;refine Iz V (Ba (AX.move V (by(conv=>lhs;whnf);try rfl)) ?_);refine Dr (by(try simp only[Br,zac]);exact V) (by(try simp only[Nat.reduceAdd,zab]);exact V) ?_;refine Iz V (Ba (AW V V V V) ?_);refine Dr (by(try simp only[Br,zac]);exact V) (by(try simp only[Nat.reduceAdd,zab]);exact V) ?_;refine P5 V (Ay8.yield (i:=0) U V (λp=>by rw[X,X]) V V V V (hY ks _ (ks++[q]) ⟨F,q,hq,J,j,rfl,rfl⟩ O) λq'=>?_);refine Dr (by(try simp only[Br,zac]);exact V) (by(try simp only[Nat.reduceAdd,zab]);exact V) ?_;refine Iz V (Ba (Cu V V) ?_);refine Gk ?_;refine h7 _ ?_;refine nT ?_;refine Am V (λE=>by cases E) (λE=>?_);refine Ao ?_;have G:=Fg (F.add hq J j).1 λx hx=>hL x ((F.add hq J j).2 x hx).1 ((F.add hq J j).2 x hx).2
  refine abN (As ⟨(ks++[q],q'),F.add hq J j,by simp only[zat]at G⊢;omega,?_⟩);refine St.le.trans (JM (i:=2) (R':=Apk S (ks++[q]) m r) V (λ_ h=>h) (λ_ _ h=>h.1) V) ?_;exact Ky (.cons (.cons (.cons (j6 _))))
theorem Oe{l:List Pair}{w:eX}{S S':Nat->Prop}(h:(rowR v 41 CI l).R w S):(rowR v 41 CI l).R w S':=by
 obtain⟨cells,h1,h0,h2⟩:=h;exact⟨cells,h1,h0,λi d j=>KK.2 (KK.1 (h2 i d j))⟩
def AAv(S:Pair->Bool):Type:={p:eR×List Pair // Az6 S p.2}
theorem Apd{L:List Pair}(G:∀x,okPair x->S x=aN->x∈L){u:List Pair}{I:List AV}(h:stK S ks I u):ks.length+1<=L.length:=by
 obtain⟨F,q,hq,E,j,_,_⟩:=h;have:=Fg (F.add hq E j).1 λx hx=>G x ((F.add hq E j).2 x hx).1 ((F.add hq E j).2 x hx).2
 simpa using this
theorem Vx(S:Pair->Bool)(g m:Nat)(L:List Pair)(X:∀x,okPair x->S x=aN->x∈L)(hl:L.length<=4398046511104):
 DU cF 156 (Agm S g m) [.lit (.slice lB 0 0),.lit (Ajk g)] (λp:AAv S=>rowR p.1.1 41 CI p.1.2) (λp=>p.1.1):=by
 refine Fb Tryz.func156 V (by kernel_rfl) V Tryz.ntmps156 V (λ_ _ _ _ h=>Oe h) λC I=>?_
 refine nS ?_;refine Ae λK1 h1=>?_
 refine jX ?_;refine AH V (AOp.box (cells:=[.lit (.slice lB 0 0)]) V (XM (cells:=[.slice lB 0 0]) V) ?_);refine sNt ?_
 (repeat(first|refine sQ ?_|refine AR ?_|refine Bt ?_))
 refine Ax ?_;refine h1 _ ?_;refine nT ?_;refine Bw 2 V V V (λj=>(.any::.lit (Ajk g)::.lit (.pointer (lC ⟨j,0,lB⟩))::A10 [])) (λg=>(by(repeat(first|exact kI|refine kJ ?_|refine kG ?_|refine kH V ?_)))) λj=>?_
 refine AN _ (Kg 41 CI (by decide)) ?_;refine nT ?_;refine Ae λK2 h2=>?_
 refine Ae λK3 h3=>?_
 refine rR ?_;refine h3 _ ?_;refine nT ?_;refine Ah ?_;refine Ia (J:=eR) 1 0 (λks v=>[.dead,.dead,.res (Bh j [.lit v]),.res (rowR v 41 CI ks)]) (.slice lB 0 0) I V (by decide) V V V ?hdrop V (λ_ _=>rfl) (λ_ _=>rfl) V ?hes (Aao S g m L X) ?hround ?hdone
 case hdrop=>
  exact⟨j5 (j5 (jZ (jZ (j6 _)))),λb hb=>fM.1 (show bdH [.dead,.dead,.res (Bh j [.lit (.slice lB 0 0)]),.res (rowR (.slice lB 0 0) 41 CI [])]=aN from V) b hb⟩
 case hes=>
  rintro ks es G ⟨_,q,_,_,_,rfl,rfl⟩;exact⟨rfl,rfl⟩
 case hround=>
  intro ks v es G u C' Y;have U:=Apd X u;obtain⟨_,q,hq,hS,Z,rfl,rfl⟩:=u;refine Df (t':=(.any::.lit (Ajk g)::.lit (.pointer (lC ⟨j,0,lB⟩))::A3 (.lit (Ajk g)::.agg (CK q)::A5 []))) V V ?_;refine rR ?_;refine As λaa O=>?_
  refine nT ?_;refine Ah ?_;have E:Fit [.dead,.dead,.res (Bh j [.lit v]),.res (rowR v 41 CI ks),.box (CK q)] CI (.agg (CK q)) q:=Mx (enc:=CK) λ_ _ _ _ H=>Sh hq H
  (refine jX ?_;(repeat(first|refine sQ ?_ (Cm V V V V (by decide) E)|refine sQ ?_|refine AR ?_|refine Bt ?_)))
  refine AH V (Qq (i:=3) V (by kernel_rfl) V V V Uj (by show ks.length+1<=_;unfold fE;omega) (by show(ks.length+1) * 16<=_;omega) λv'=>?_);refine sNt ?_;refine AH V (IH (i:=2) (new:=[.lit v']) V V V (Qd.one (Mu (i:=3) V)) V V (kQ V) ?_);refine sNt ?_;refine Ax ?_;exact⟨rfl,v',⟨.cons (.cons (.cons (.cons (j6 _)))),λb hb=>fM.1 (show bdH [.dead,.dead,.res (Bh j [.lit v']),.res (rowR v' 41 CI (ks++[q]))]=aN from V) b hb⟩⟩
 case hdone=>
  intro ks F v D;refine h2 _ ?_;refine Df (t':=(.any::.lit (Ajk g)::.lit (.pointer (lC ⟨j,0,lB⟩))::A3 (.lit (Ajk g)::A6 []))) (h':=[.res (Bq [D]),.dead,.res (Bh j [.lit v]),.res (rowR v 41 CI ks)]) V V ?_;refine Ae λK6 h6=>?_
  refine rR ?_;refine h6 _ ?_;refine nT ?_;exact Az ⟨.inr V,[D],3,⟨(v,ks),F⟩,rfl,rfl,by decide,rfl,rfl⟩
theorem SJ(S:Pair->Bool)(g m:Nat)(L:List Pair)(E:∀x,okPair x->S x=aN->x∈L)(u:L.length<=4398046511104):
 DU cF 132 (Agm S g m) [.lit (Ajk g)] (λp:AAv S=>rowR p.1.1 41 CI p.1.2) (λp=>p.1.1):=by
 refine Fb Tryz.func132 V (by kernel_rfl) V Tryz.ntmps132 V (λ_ _ _ _ h=>Oe h) λC j=>?_
 refine nS ?_;refine Ae λG h1=>?_
 refine rR ?_;refine h1 _ ?_;refine nT ?_;refine Ae λF h2=>?_
 (refine jX ?_;(repeat(first|refine sQ ?_|refine AR ?_|refine Bt ?_)))
 refine AH V (BW (i:=1) V V (Vx S g m L E u) (λ_=>rfl) V V λp=>?_);refine sNt ?_
 (repeat(first|refine sQ ?_|refine AR ?_|refine Bt ?_))
 refine Ax ?_;refine h2 _ ?_;refine nT ?_;exact Az ⟨.inr V,[],1,p,rfl,rfl,by decide,rfl,rfl⟩
structure InRow(R:List Int)(S:Pair->Bool):Prop where
 asc:Asc R
 len:R.length<=2097152
 mem:InP R S
theorem InRow.sub(h:InRow R S):∀x,okPair x->S x=aN->x∈Dc R:=λx _ hx=>(Eg h.asc).2 (h.mem x hx)
theorem InRow.lens(h:InRow R S):(Dc R).length<=4398046511104:=
 kS (Im R) (kS (kU h.len h.len) (by decide))
theorem InRow.sort(h:InRow R S)(j:∀r∈R,Ci r)(hk:Az6 S ks):Hc ks=Ej R S:=
 Ad8 h.asc h.mem hk.1.1 (λx hx=>(hk.1.2 x hx).2) λx hx=>hk.2 x ⟨j _ (h.mem x hx).1,j _ (h.mem x hx).2.1⟩ hx
theorem TC(h:InRow R S)(u:∀r∈R,Ci r)(g m:Nat):
 DU cF 109 (Agm S g m) [.lit (Ajk g),.lit (.func (.func 111) #[] #[])] (λv:eR=>rowR v 41 CI (Ej R S)) (λv=>v):=by
 refine Fb Tryz.func109 V (by kernel_rfl) V Tryz.ntmps109 V (λ_ _ _ _ h=>Oe h) λC F=>?_
 refine nS ?_;refine Ae λX h1=>?_
 refine rR ?_;refine h1 _ ?_;refine nT ?_;refine Ae λU h2=>?_
 (refine jX ?_;(repeat(first|refine sQ ?_|refine AR ?_|refine Bt ?_)))
 refine AH V (BW (i:=1) V V (SJ S g m _ h.sub h.lens) (λ_=>rfl) V V λp=>?_);refine sNt ?_
 (repeat(first|refine sQ ?_|refine AR ?_|refine Bt ?_))
 refine Ax ?_;refine h2 _ ?_;refine nT ?_;obtain⟨⟨v,ks⟩,hk⟩:=p
 (try dsimp only at hk);(try dsimp only)
 have E:=h.sort u hk;have j:ks.length < 4611686018427387904:=by
  have h1:=Fg hk.1.1 λx hx=>h.sub x (hk.1.2 x hx).1 (hk.1.2 x hx).2
  have h2:=h.lens;omega
 refine Ae λO I=>?_
 (refine jX ?_;(repeat(first|refine sQ ?_|refine AR ?_|refine Bt ?_)))
 refine AH V (BW (i:=1) V V (ZD j) (λ_=>rfl) V V λ_=>?_);refine sNt ?_;refine Ax ?_;refine I _ ?_;refine nT ?_;rw[E];refine Ae λJ G=>?_
 refine rR ?_;refine G _ ?_;refine nT ?_;exact Az ⟨.inr V,[],1,v,rfl,rfl,by decide,rfl,rfl⟩
theorem Rl(h:InRow R S)(j:∀r∈R,Ci r)(m:Nat):
 DU cF 78 (DZ S m) [.lit (.map (lC m))] (λv:eR=>rowR v 41 CI (Ej R S)) (λv=>v):=by
 refine Fb Tryz.func78 V (by kernel_rfl) V Tryz.ntmps78 V (λ_ _ _ _ h=>Oe h) λC u=>?_
 refine nS ?_;refine Ae λF h1=>?_
 refine rR ?_;refine h1 _ ?_;refine nT ?_;refine Ae λE h2=>?_
 (refine jX ?_;(repeat(first|refine sQ ?_|refine AR ?_|refine Bt ?_)))
 refine AH V (BW (i:=1) V V (Aan S m) (λ_=>rfl) V V λg=>?_);refine sNt ?_
 (repeat(first|refine sQ ?_|refine AR ?_|refine Bt ?_))
 refine AH V (BW (i:=1) V V (TC h j g m) (λ_=>rfl) V V λv=>?_);refine sNt ?_
 (repeat(first|refine sQ ?_|refine AR ?_|refine Bt ?_))
 refine Ax ?_;refine h2 _ ?_;refine nT ?_;exact Az ⟨.inr V,[],1,v,rfl,rfl,by decide,rfl,rfl⟩
end Mu
section
namespace Go.Proofs
open Go.Shelf
def Tryz.sortFI_ren:eL:=⟨fun|6=>84|15=>99|14=>114|28=>126|29=>127|20=>137|21=>138|22=>139|23=>140|24=>141|25=>142|26=>143|27=>144|46=>160|47=>146|48=>147|49=>161|50=>162|57=>180|n=>n,fun|22=>27|24=>3|25=>119|3=>3|39=>104|0=>0|53=>45|55=>151|4=>4|46=>144|45=>143|50=>68|5=>5|9=>9|66=>166|70=>170|76=>185|77=>186|n=>n,fun|n=>n⟩
theorem Tryz.sortFI:Go.Proofs.SlLaysF.n6 cF Tryz.sortFI_ren:={
 mixed:=by kernel_rfl
 f6:=⟨Tryz.f84.name,by decide,Tryz.func84.trans (congrArg lC (by kernel_rfl))⟩
 f14:=⟨Tryz.f114.name,by decide,Tryz.func114.trans (congrArg lC (by kernel_rfl))⟩
 f15:=bN.trans (congrArg lC (by kernel_rfl))
 f20:=⟨Tryz.f137.name,by decide,Tryz.func137.trans (congrArg lC (by kernel_rfl))⟩
 f21:=⟨Tryz.f138.name,by decide,Tryz.func138.trans (congrArg lC (by kernel_rfl))⟩
 f22:=⟨Tryz.f139.name,by decide,Tryz.func139.trans (congrArg lC (by kernel_rfl))⟩
 f23:=⟨Tryz.f140.name,by decide,Tryz.func140.trans (congrArg lC (by kernel_rfl))⟩
 f24:=⟨Tryz.f141.name,by decide,Tryz.func141.trans (congrArg lC (by kernel_rfl))⟩
 f25:=⟨Tryz.f142.name,by decide,Tryz.func142.trans (congrArg lC (by kernel_rfl))⟩
 f26:=⟨Tryz.f143.name,by decide,Tryz.func143.trans (congrArg lC (by kernel_rfl))⟩
 f27:=⟨Tryz.f144.name,by decide,Tryz.func144.trans (congrArg lC (by kernel_rfl))⟩
 f28:=bH.trans (congrArg lC (by kernel_rfl))
 f29:=bI.trans (congrArg lC (by kernel_rfl))
 f46:=⟨Tryz.f160.name,by decide,Tryz.func160.trans (congrArg lC (by kernel_rfl))⟩
 f47:=bK.trans (congrArg lC (by kernel_rfl))
 f48:=bL.trans (congrArg lC (by kernel_rfl))
 f49:=⟨Tryz.f161.name,by decide,Tryz.func161.trans (congrArg lC (by kernel_rfl))⟩
 f50:=⟨Tryz.f162.name,by decide,Tryz.func162.trans (congrArg lC (by kernel_rfl))⟩
 f57:=⟨Tryz.f180.name,by decide,Tryz.func180.trans (congrArg lC (by kernel_rfl))⟩
 t0:=cY
 a0:=bO
 z0:=cG
 v0:=dR
 t3:=dJ
 a3:=bZ
 z3:=cR
 v3:=eC
 t4:=dK
 a4:=b9
 z4:=cT
 v4:=eD
 t5:=dN
 a5:=cB
 z5:=cV
 v5:=eF
 t9:=dQ
 a9:=cD
 z9:=cX
 v9:=eH
 t22:=dI
 a22:=bY
 z22:=cQ
 v22:=eB
 a24:=bZ
 z24:=cR
 t25:=Tryz.underlying119
 a25:=Tryz.isAgg119
 z25:=Tryz.sizeOf119
 v25:=Tryz.zeroValue119
 t39:=cZ
 a39:=bP
 z39:=cH
 v39:=dT
 t45:=dB
 a45:=bR
 z45:=cI
 v45:=dU
 t46:=dC
 a46:=bS
 z46:=cJ
 v46:=dV
 t50:=dP
 a50:=cC
 z50:=cW
 v50:=eG
 t53:=dM
 a53:=cA
 z53:=cU
 v53:=eE
 t55:=dD
 a55:=bT
 z55:=cL
 v55:=dW
 t66:=dE
 a66:=bU
 z66:=cM
 v66:=dX
 t70:=dF
 a70:=bV
 z70:=cN
 v70:=dY
 t76:=dG
 a76:=bW
 z76:=cO
 v76:=dZ
 t77:=dH
 a77:=bX
 z77:=cP
 v77:=eA}
end Go.Proofs
end
namespace Mu
open Go Go.RowKit Go.Proofs
variable{k:Nat}{l:List Int}{p:Int->Bool}{x:Int}
def Ajm(p:Int->Bool)(l:List Int):Int:=match l.findIdx? p with|some i=>(i:Int)|none=> -1
theorem Arc(h:∀x∈l.take k,p x=aI)(hx:l[k]? =lC x)(u:p x=aN):Ajm p l=(k:Int):=by
 have:l.findIdx? p=lC k:=by
  rw[gE];obtain⟨hk,e⟩:=gR.1 hx;refine⟨hk,by rw[e];exact u,λj E=>?_⟩;have:=h (l[j]'(by omega)) (by
   rw[List.mem_take_iff_getElem];exact⟨j,by omega,rfl⟩)
  rw[this];simp
 unfold Ajm;rw[this]
theorem Agz(h:∀x∈l,p x=aI):Ajm p l= -1:=by
 have:l.findIdx? p=lB:=by
  rw[gD];exact h
 unfold Ajm;rw[this]
theorem Zv(h:∀x∈l.take k,p x=aI)(hx:l[k]? =lC x)(j:p x=aI):∀y∈l.take (k+1),p y=aI:=by
 rw[jO,hx];intro y hy;rcases iM.1 hy with hy|hy
 ·exact h y hy
 ·rw[i6.1 hy];exact j
theorem Alq:aO (Ajm p l≥0)=l.any p:=by
 unfold Ajm;cases h:l.findIdx? p with
 |none=>
  rw[gD]at h;have:l.any p=aI:=by rw[List.any_eq_false];intro x hx;rw[h x hx];simp
  rw[this];rfl
 |some i=>
  rw[gE]at h;obtain⟨hi,j,_⟩:=h;have:l.any p=aN:=fN.2 ⟨_,g8 hi,j⟩;rw[this];exact decide_eq_true (by simp only;omega)
theorem Ag0(l:List Int)(hl:l.length<=2147483648)(f:aU)(j:List AV)(J:Bl j=aN)(p:Int->Bool)(U:∀x∈l,Fn cF f (.lit (.int .i64 x)::j) (.lit (.bool (p x)))):Fn cF 58 [.bs tInt l,.fn f j] (.lit (.int .i64 (Ajm p l))):=by
 have X:jV (.fn f j)=aN:=by unfold jV;exact J
 refine AT Tryz.func58 V (by kernel_rfl) V Tryz.ntmps58 λC hC=>?_
 simp only[Nat.reduceAdd,Nat.reduceSub,zaa];refine wR ?_;refine Ae λK2 h2=>?_
 refine wR ?_;refine Ah ?_;refine AJ (λk:Nat=>⟨(.bs tInt l::.fn f j::A5 (.lit (.int .i64 (l.length:Int))::.lit (.int .i64 (k:Int))::A10 [])),[]⟩) (λk=>k<=l.length/\∀x∈l.take k,p x=aI) (λk=>l.length - k) 0 ⟨kX _,by simp⟩ (AU) ?_;rintro k ⟨hk,E⟩;refine wR ?_;refine Ae λK6 Z=>?_
 refine Am V (λF=>?_) (λF=>?_)
 ·have G:k < l.length:=by simpa using F
  obtain⟨x,hx⟩:∃x,l[k]? =lC x:=⟨_,gP G⟩
  have O:=U x (iV hx);refine Ao ?_;refine Z _ ?_;refine nT ?_;refine Ae λK8 Y=>?_
  refine Ah ?_;refine wR ?_;refine wR ?_;refine Am V (λu=>?_) (λu=>?_)
  ·refine wR ?_;rw[Arc E hx u];exact Az ⟨.inr V,j9 V⟩
  ·refine Ao ?_;refine Y _ ?_;refine nT ?_;refine wRE ?_;refine As ⟨k+1,⟨by omega,Zv E hx u⟩,by omega,AU⟩
 ·refine AA ?_;refine h2 _ ?_;refine nT ?_;refine wR ?_;have I:k=l.length:=by have:¬k < l.length:=(by simpa using F);omega
  rw[Agz (by rw[I,jQ]at E;exact E)];exact Az ⟨.inr V,j9 V⟩
open Go.ChangeShapes Go.WideShapes
variable{S:Nat->Prop}{α:Type}{T:Ty α}{e:eQ}{f:aU}{l:List α}{tys:Array eQ}{v:eR}{w:eX}{xs:List AV}{ψ:Nat->eR}
section
variable{P:bE}{C:Ctx}{t:List AV}{h:List jU}{o:bC}{K:St->Prop}
end
def Ai3(P:bE)(f:aU)(args:List AV)(e:eQ){α:Type}(T:Ty α)(l:List α):Prop:=
 Ch P f=aN/\∀(w:eX) (S:Nat->Prop) (vs:List eR),(∀k,S k->k < w.heap.size)->Ak w S [] ψ0 args vs->
  aP P f vs.toArray w λr w'=>∃v cells,r= .returned v/\Below w.heap.size w w'/\w'.ownsRow w.heap.size e T.size v l.length cells/\
   ∃S':Nat->Prop,(∀k,S k->S' k)/\(∀k,S' k->S k\/w.heap.size<=k)/\(∀k,S' k->k < w'.heap.size)/\(∀i d,l[i]? =lC d->T.RS w' S' ((cells.drop (i * T.size)).take T.size) d)/\∀g,v.ownBlock=lC g->¬S' g
section
variable{P:bE}{C:Ctx}{t:List AV}{h:List jU}{o:bC}{K:St->Prop}
theorem Abz{args:Array bD}{a:Act}{Q':Exit->Act->eX->Prop}{F:Act->eX->Prop}
 (U:o.op= .call {callee:=.value (.func f),args:=args,argTypes:=tys})(E:Ai3 P f xs e T l)(hx:args.toList.map (evA t)=xs)(hc:Bl xs=aN)(H:HRel C h S ψ w)(X:Ak w S h ψ t a.tmps.toList)
 (Y:∀v cells w' S',Below w.heap.size w w'->w'.ownsRow w.heap.size e T.size v l.length cells->(∀k,S k->S' k)->HRel C h S' ψ w'->(∀i d,l[i]? =lC d->T.RS w' S' ((cells.drop (i * T.size)).take T.size) d)->(∀g,v.ownBlock=lC g->¬S' g)->F (a.put o.dst v) w'):
 o.wp P a w F Q':=by
 have h2:Ak w S h ψ xs (args.toList.map a.eval):=by
  rw[<-hx];exact Ck λx _=>BA X x
 unfold Oper.wp;rw[CC U E.1 a.eval w V];simp only[Oper.upon];rw[show(args.map a.eval)=(args.toList.map a.eval).toArray from(by rw[<-aF])];refine(E.2 w S (args.toList.map a.eval) H.lt (Bn _ _ hc h2)).mono ?_;rintro r w' ⟨v,cells,rfl,hb,j,S',u,O,J,I,G⟩;exact Y v cells w' S' hb j u (H.grow hb u O J) I G
theorem HRel.addAt{b:jU}{p:Nat}(H:HRel C h S ψ w)(hp:h[p]? =lC .dead)(hn:h.all (nrB p)=aN)(hB:H8 C.N w S (h.set p b) (Bs ψ p v) v b)(U:∀g,ftp (lC b) v g->∀i,ABlk.live h[i]? =aN->¬ftp h[i]? (ψ i) g):
 HRel C (h.set p b) S (Bs ψ p v) w:=by
 have F:=(gR.1 hp).1;refine⟨H.bel,H.nlt,H.lt,H.sub,H.new,λi c hi=>?_,λi j I hi J g h1 h2=>?_⟩
 ·by_cases u:i=p
  ·subst u;rw[gX F]at hi;cases hi;rw[Bo];exact hB
  ·rw[gW (kZ u)]at hi;rw[BH u];have hc:=H.blk i c hi;have O:=fM.1 hn c (iV hi);cases c with
   |dead=>trivial
   |box cells=>
    obtain⟨g,cs,e,k1,k2,Z,Y,X⟩:=hc;exact⟨g,cs,e,k1,k2,Z,Y,DQ (λi hi=>BH hi) _ _ O X⟩
   |row ver e T l=>exact hc
   |res R=>exact hc
 ·by_cases u:i=p
  ·subst u;rw[Bo,gX F]at h1;have G:j≠i:=kZ I;rw[BH G,gW (kZ G)]at h2;rw[gW (kZ G)]at J;exact U g h1 j J h2
  ·rw[BH u,gW (kZ u)]at h1;rw[gW (kZ u)]at hi;by_cases E:j=p
   ·subst E;rw[Bo,gX F]at h2;exact U g h2 i hi h1
   ·rw[BH E,gW (kZ E)]at h2;rw[gW (kZ E)]at J;exact H.dis i j I hi J g h1 h2
theorem Ap3{w':eX}{ver sz n:Nat}{cells:List eR}(H:HRel C h S ψ w)(u:w'.ownsRow w.heap.size e sz v n cells):∀g,ftp (lC (.row ver e T l)) v g->∀i,ABlk.live h[i]? =aN->¬ftp h[i]? (ψ i) g:=λg hg i hi j=>by
 have h1:=WZ u g hg;obtain⟨c,hc⟩:=D1 hi;rw[hc]at j;have:=((H.blk i c hc).lt (by rw[<-hc];exact hi) g j).2.1;omega
theorem KG{args:Array bD}(p:Nat)
 (O:o.op= .call {callee:=.value (.func f),args:=args,argTypes:=tys})(hx:args.toList.map (evA t)=xs)(hF:Ai3 P f xs e T l)(h0:0 < T.size)(hc:Bl xs=aN)(u:h[p]? =lC .dead)(X:h.all (nrB p)=aN)(E:DF p t=aN)
 (hK:K ⟨Br t o.dst (.own p 0),h.set p (.row 0 e T l)⟩):AOp P C o ⟨t,h⟩ K:=by
 rintro Q' a w ⟨Y,S,ψ,H,U⟩;refine⟨λc e=>(by rw[O]at e;cases e),?_⟩;refine Abz O hF hx hc H U λv cells w' S' hb j Z H' hR hN=>?_
 have F:=j.lt;have hB:H8 C.N w' S' (h.set p (.row 0 e T l)) (Bs ψ p v) v (.row 0 e T l):=⟨cells,j.mono (kX _),h0,hR,λg hg=>⟨λJ=>by have:=H.nlt _ J;have:=H.bel.size;have:=(F g hg).1;omega,hN g hg⟩⟩
 have I:=AE (Ext.grow h ψ (λk hk=>hb.block k (H.lt k hk)) Z) _ _ U;have G:=DQ (b:=.row 0 e T l) (ψ':=Bs ψ p v) (λi hi=>BH hi) _ _ E I;refine⟨_,hK,by rw[put_defers,Y];exact(DY (b':=.row 0 e T l) u V).symm,S',_,H'.addAt u X hB (Ap3 H j),KU G o.dst ?_⟩;unfold jW;refine⟨by simpa using(gR.1 u).1,λc hc=>?_⟩;rw[gX (gR.1 u).1]at hc;simp only[ABlk.ver,lE]at hc;exact⟨by omega,λ_=>Bo.symm⟩
end
end Mu
namespace Mu
open Go Go.RowKit Go.Proofs
variable{S:Nat->Prop}{cs:List eR}{h:List jU}{w:eX}
structure Plan where
 leaf:Bool
 slots:Int
 at_:List Int
def Tp:Ty Plan:=(kK.cons (tInt.cons (tInt.slice.cons Dt))).via (λx=>⟨x.1,x.2.1,x.2.2.1⟩) (λd=>(d.leaf,d.slots,d.at_,()))
theorem Adq{x:Plan}:Tp.RS w S cs x↔∃j:eR,cs= [.bool x.leaf,.int .i64 x.slots,j]/\wfI .i64 x.slots/\tInt.slice.RS w S [j] x.at_:=by
 constructor
 ·rintro⟨⟨_,_,rfl,rfl,_,_,rfl,⟨rfl,h1⟩,_,_,rfl,h2,rfl⟩,_⟩;have u:=h2;obtain⟨A2,E,rfl,_⟩:=h2;exact⟨_,rfl,h1,u⟩
 ·rintro⟨j,rfl,h1,h2⟩;exact⟨⟨[_],_,rfl,rfl,[_],_,rfl,⟨rfl,h1⟩,[_],_,rfl,h2,rfl⟩,rfl⟩
@[reducible] def BS(x:Plan):List AV:=[.lit (.bool x.leaf),.lit (.int .i64 x.slots),.bs tInt x.at_]
theorem YV:Enc Tp BS:=by
 intro w S h ψ cs d H;obtain⟨j,rfl,h1,h2⟩:=Adq.1 H;simp only[BS,Ak,jW];exact⟨_,_,rfl,rfl,_,_,rfl,rfl,_,_,rfl,h2,rfl⟩
theorem Afv:S9 Tp:=Ef YV λd x hx=>by
 simp only[BS,or_false,zak]at hx;rcases hx with rfl|rfl|rfl <;> first|exact .inl ⟨_,rfl,rfl⟩|exact .inr ⟨_,_,_,rfl⟩
instance Axu:j8 Tp BS:=⟨YV,Afv,by decide⟩
structure okPlan(x:Plan):Prop where
 slots:wfI .i64 x.slots
theorem Akn{ψ:Nat->eR}{x:Plan}(j:okPlan x)(H:Ak w S h ψ (BS x) cs):Tp.RS w S cs x:=by
 simp only[BS,Ak,jW]at H;obtain⟨_,_,rfl,rfl,_,_,rfl,rfl,_,_,rfl,h2,rfl⟩:=H;exact Adq.2 ⟨_,rfl,j.slots,h2⟩
def WI(x:Plan):Bool:=wfB .i64 x.slots
theorem Z8{x:Plan}(h:WI x=aN):okPlan x:=by
 unfold WI at h;exact⟨h⟩
theorem Ans:EB cF 29=lC [(0,1),(1,1),(2,1)]:=by kernel_rfl
instance Axt:AG cF 29 aN 3:=⟨by kernel_rfl⟩
instance Axs:SZ cF 29 3:=⟨by kernel_rfl⟩
instance Axr:FO cF 29 0 0:=⟨by kernel_rfl⟩
instance Axq:FO cF 29 1 1:=⟨by kernel_rfl⟩
instance Axp:FO cF 29 2 2:=⟨by kernel_rfl⟩
instance Axo:ZC cF 29 [.bool aI,.int .i64 0,.slice lB 0 0]:=⟨by kernel_rfl⟩
theorem XL{P:bE}{C:Ctx}{t:List AV}{o:bC}{ty:eQ}{j:Array (Nat×bD)}{zs:List eR}{E:List (Nat×Nat)}{rs xs:List AV}[ZC P ty zs](G:o.op= .build ty j)(u:EB P ty=lC E)
 (hx:(j.toList.map λp=>evA t p.2)=xs)(F:putCells E (zs.map .lit) ((j.toList.map λp=>p.1).zip xs)=lC rs)(h1:xs.all WO=aN):AX P C t h o (.agg rs):=by
 subst hx;rw[List.zip_map']at F;exact BT G u F (by rw[List.all_map]at h1;exact h1)
open Go.Maps
variable{f:kE}
instance Aub:AG cF 109 aI 1:=⟨by kernel_rfl⟩
instance Aua:SZ cF 109 1:=⟨by kernel_rfl⟩
instance At9:ZC cF 109 [.map lB]:=⟨by kernel_rfl⟩
section
variable{C:Ctx}{t:List AV}{h:List jU}{o:bC}{K:St->Prop}
theorem Ql{ty:eQ}(E:o.op= .makeMap ty lB)(G:∀m,K ⟨Br t o.dst (.lit (.map (lC m))),h++[.res (DZ (λ_=>aI) m)]⟩):AOp cF C o ⟨t,h⟩ K:=by
 refine C8 (ι:=Nat) (Rs:=DZ λ_=>aI) (val:=λm=>.map (lC m)) (λ_=>rfl) (λS ψ w ρ H u=>?_) G;have F:(fB ρ o).run cF w= .ok (.value (.map (lC w.heap.size))) (w.alloc (.map #[] 0)):=by simp[fB,E,run_makeMap]
 rw[F];have j:=(eK w.heap.size w).alloc (kR _) (.map #[] 0);refine⟨⟨j.os,j.tape,j.output,j.size,λk hk _=>j.block k hk⟩,w.heap.size,rfl,⟨.map [],Rf (World.ownsMap_made w cF 41 (fF cF 3)),λx _=>by simp[has_eq]⟩,λk hk=>?_⟩;have hk:k=w.heap.size:=hk;subst hk;exact⟨.inr (kR _),by simp⟩
end
theorem Hm(j:(NK f).length<=2097152):(AC f).length<=2097152:=kS (FR _).1 j
theorem LJ(u:okFunc f):∀r∈AC f,Ci r:=λr j=>by
 refine(FR (NK f)).2 (λq hq=>?_) r j;unfold NK NI at hq;obtain⟨b,hb,hq⟩:=iS.1 hq;obtain⟨x,hx,hq⟩:=iS.1 hq;exact LH ((u.blocks b hb).ins x hx) q hq
theorem Se{R:List Int}{S:Pair->Bool}{m:Nat}{a b:Int}(F:R.length<=2097152)(u:InP R S)(E:Ci a)(hb:Ci b):
 DU cF 89 (DZ S m) [.lit (.map (lC m)),.lit (.int .i64 a),.lit (.int .i64 b)] (λ_:Unit=>DZ (EW S (Dp a b)) m) (λ_=>.tuple #[]):=by
 have J:∀x,okPair x->S x=aN->x∈R.flatMap λa=>R.map λb=>(⟨a,b⟩:Pair):=λx _ hx=>by
  obtain⟨h1,h2,_⟩:=u x hx;exact iS.2 ⟨x.a,h1,iU.2 ⟨x.b,h2,rfl⟩⟩
 have j:∀l:List Int,(l.flatMap λa=>R.map λb=>(⟨a,b⟩:Pair)).length=l.length * R.length:=λl=>by
  induction l with
  |nil=>simp
  |cons a l G=>rw[gG,hZ,G,iD,iA,kO,kW,kM]
 have I:(R.flatMap λa=>R.map λb=>(⟨a,b⟩:Pair)).length < fE:=by
  rw[j];have:R.length * R.length<=2097152 * 2097152:=kU F F;unfold fE;omega
 refine WB J I ?_;unfold Pa Dp;by_cases h:a=b
 ·subst h;rw[if_pos V,DB];refine AF ?_ (Al _);simp
 ·rw[if_neg h,Ais];have U:(if b < a then b else a)=min a b:=by rw[fJ];split <;> split <;> omega
  have O:(if b > a then b else a)=max a b:=by rw[fI];split <;> split <;> omega
  rw[U,O];refine AM ?_ (Ag ?_ (Al _))
  ·have:min a b≠max a b:=by rw[fJ,fI];split <;> omega
   simp[this]
  ·unfold Jo;rw[aG];constructor
   ·show wfB .i64 (min a b)=aN;rw[fJ];split
    ·exact E
    ·exact hb
   ·show wfB .i64 (max a b)=aN;rw[fI];split
    ·exact hb
    ·exact E
theorem Ahs(f:kE)(ho:okFunc f)(hs:smallF f)(hT:(Cl f).length<=2097152)(hA:(NK f).length<=2097152)(av:∀b∈f.blocks,b.ins.length+1<=2097152):Nk cF 77 [.agg (An f)] (λm=>DZ (HC f) m) (λm=>.map (lC m)):=by
 have cf:=hs.blocks;have ai:(AC f).length<=2097152:=Hm hA;have bc:(BE f).length<=2097152:=kS (Dw _) hT;have ab:∀r∈AC f,Ci r:=LJ ho;refine Tb Tryz.func77 V (by kernel_rfl) V Tryz.ntmps77 (λ_ _ _ _ h=>h) λC hC an=>?_
 refine nS ?_;refine Ae λK1 h1=>?_
 refine rC ?_;refine h1 _ ?_;refine nT ?_;refine Ae λK2 h2=>?_
 (refine jX ?_;(repeat(first|refine sQ ?_ (AB V V V V)|refine sQ ?_ (Ay V V V V)|refine sQ ?_|refine AR ?_|refine sG ?_|refine Bt ?_)))
 refine AH V (Ql V λm=>?_);refine sNt ?_
 (repeat(first|refine sQ ?_ (AB V V V V)|refine sQ ?_ (Ay V V V V)|refine sQ ?_|refine AR ?_|refine sG ?_|refine Bt ?_))
 refine Ax ?_;refine h2 _ ?_;refine nT ?_;refine Bw 1 V V V (λg=>(.any::.lit (.pointer (lC ⟨g,0,lB⟩))::.lit (.map lB)::.ptr 3 0::A40 (A20 (A10 (A4 []))))) (λg=>(by(repeat(first|exact kI|refine kJ ?_|refine kG ?_|refine kH V ?_)))) λE=>?_
 refine Bw 3 V V V (λg=>(.any::.lit (.pointer (lC ⟨E,0,lB⟩))::.any::.lit (.pointer (lC ⟨g,0,lB⟩))::A40 (A20 (A10 (A4 []))))) (λg=>(by(repeat(first|exact kI|refine kJ ?_|refine kG ?_|refine kH V ?_)))) λu=>?_
 refine Ae λK3 h3=>?_
 refine Ae λK4 h4=>?_
 (refine jX ?_;(repeat(first|refine sQ ?_ (AB V V V V)|refine sQ ?_ (Ay V V V V)|refine sQ ?_|refine AR ?_|refine sG ?_|refine Bt ?_)))
 (repeat(first|refine sQ ?_ (AB V V V V)|refine sQ ?_ (Ay V V V V)|refine sQ ?_|refine AR ?_|refine sG ?_|refine Bt ?_))
 refine AH V (Cx V (OL f) (λ_=>rfl) V V λp=>?_);refine sNt ?_;refine Ax ?_;refine h4 _ ?_;refine nT ?_;refine Ah ?_;refine AN ⟨(.any::.lit (.pointer (lC ⟨E,0,lB⟩))::.any::.lit (.pointer (lC ⟨u,0,lB⟩))::A10 (A3 (.lit (stF p)::A40 (A20 [])))),[.res (Bq []),.res (Bh E (An f)),.res (DZ (HE f 0) m),.res (Bh u [.lit (.map (lC m))]),.res (Bh p (An f))]⟩ (Ky (.cons (.cons (.cons (.cons (.cons (j6 _))))))) ?_;refine H9 4 0 (λk=>[.dead,.res (Bh E (An f)),.res (DZ (HE f k) m),.res (Bh u [.lit (.map (lC m))]),.dead]) an (by kernel_rfl) (by decide) V V V ?hdrop V (λ_=>rfl) (λ_=>rfl) V (Ad4 f) (Wb f) (MC f ho hs hT av p) ?hround ?hdone
 case hdrop=>
  exact⟨j5 (jZ (jZ (jZ (j5 (j6 _))))),λb hb=>fM.1 (show bdH [.dead,.res (Bh E (An f)),.res (DZ (HE f 0) m),.res (Bh u [.lit (.map (lC m))]),.dead]=aN from V) b hb⟩
 case hround=>
  intro k hk C' cb;obtain⟨q,hq⟩:∃q,(stepsL f)[k]? =lC q:=⟨_,gP hk⟩
  have X:=iV hq;obtain⟨⟨bl,az,al⟩,ao⟩:=Lz X;have cc:=(Dj X).2.2;have aq:=(ho.blocks bl az).ins q.1 al;have ah:=Rw hq;have F:=Mj f k;try dsimp only
  rw[X3 hq];generalize ch:HE f k=S0 at ah F⊢;refine Df (t':=(.any::.lit (.pointer (lC ⟨E,0,lB⟩))::.any::.lit (.pointer (lC ⟨u,0,lB⟩))::A10 (A3 (.lit (stF p)::.agg (B8 q.1)::.bs tInt q.2::A40 (A10 (A8 [])))))) V V ?_;refine Ae λK6 h6=>?_
  refine rC ?_;refine h6 _ ?_;refine nT ?_;refine rC ?_;refine As λdc bz=>?_
  refine nT ?_;refine Ah ?_;refine Ae λK8 h8=>?_
  (refine jX ?_;(repeat(first|refine sQ ?_ (AX.call V (F3 q.1 aq) V V V)|refine sQ ?_ (AB V V V V)|refine sQ ?_ (Ay V V V V)|refine sQ ?_|refine AR ?_|refine sG ?_|refine Bt ?_));refine Ax ?_)
  refine h8 _ ?_;refine nT ?_;refine Ae λK9 h9=>?_
  refine rC ?_;refine h9 _ ?_;refine nT ?_;refine Ah ?_;have ap:=λi=>YY F X i
  refine AJ (λi:Nat=>⟨(.any::.lit (.pointer (lC ⟨E,0,lB⟩))::.any::.lit (.pointer (lC ⟨u,0,lB⟩))::.ptr 5 0::.any::.lit (.int .i64 (if Bg q.1 then q.1.d else 0))::.lit (.bool (Bg q.1))::A10 (A7 (.bs tInt q.2::.lit (.int .i64 (q.2.length:Int))::.lit (.int .i64 (i:Int))::A40 (A10 [])))),[.dead,.res (Bh E (An f)),.res (DZ (IS S0 q i) m),.res (Bh u [.lit (.map (lC m))]),.dead,.box (B8 q.1)]⟩) (λi=>i<=q.2.length) (λi=>q.2.length - i) 0 (kX _) (by rw[Abe];exact B6) ?_;intro i hi
  (try dsimp only at hi);(try dsimp only)
  refine Ae λdb bw=>?_
  refine rC ?_;refine bw _ ?_;refine nT ?_;refine Ae λda bv=>?_
  refine Am V (λU=>?_) (λU=>?_)
  ·have Y:i < q.2.length:=by simpa using U
   obtain⟨r,hr⟩:∃r,q.2[i]? =lC r:=⟨_,gP Y⟩
   have am:=ab r (ao r (iV hr));refine Ao ?_;refine bv _ ?_;refine nT ?_;refine Ae λcz ak=>?_
   refine Ah ?_;refine Ae λcy bu=>?_
   refine rC ?_;refine bu _ ?_;refine nT ?_;refine Ae λcx bt=>?_
   refine rC ?_;refine bt _ ?_;refine nT ?_;refine Am V (λO=>?_) (λO=>?_)
   ·have aa:M6 q r=aN:=O;have hw:Bg q.1=aN:=by unfold M6 at aa;rw[aG]at aa;exact aa.1
    have hd:(if Bg q.1 then q.1.d else 0)=q.1.d:=if_pos hw;have e2:IS S0 q (i+1)=EW (IS S0 q i) (Dp (if Bg q.1 then q.1.d else 0) r):=by rw[hd];exact Ahv hr aa
    have ax:Ci (if Bg q.1 then q.1.d else 0):=by rw[hd];exact ab _ (Of X hw)
    (refine jX ?_;(repeat(first|refine sQ ?_ (AB V V V V)|refine sQ ?_ (Ay V V V V)|refine sQ ?_|refine AR ?_|refine sG ?_|refine Bt ?_)))
    (repeat(first|refine sQ ?_ (AB V V V V)|refine sQ ?_ (Ay V V V V)|refine sQ ?_|refine AR ?_|refine sG ?_|refine Bt ?_))
    refine AH V (BW (i:=2) V V (Se ai (ap i) ax am) (λ_=>rfl) V V λ_=>?_);refine sNt ?_;refine Ax ?_;refine ak _ ?_;refine nT ?_;refine rC ?_;refine As ⟨i+1,by omega,by omega,?_⟩;rw[e2];exact B6
   ·have e2:IS S0 q (i+1)=IS S0 q i:=Al7 hr O;refine Ao ?_;refine ak _ ?_;refine nT ?_;refine rC ?_;refine As ⟨i+1,by omega,by omega,?_⟩;rw[e2];exact B6
  ·have ac:i=q.2.length:=by
    have:¬i < q.2.length:=by simpa using U
    omega
   subst ac;have e3:IS S0 q q.2.length=HE f (k+1):=by rw[ah,U4]
   rw[e3];refine AA ?_;exact⟨rfl,⟨.cons (.cons (.cons (.cons (.cons (j6 _))))),λb hb=>fM.1 (show bdH [.dead,.res (Bh E (An f)),.res (DZ (HE f (k+1)) m),.res (Bh u [.lit (.map (lC m))]),.dead]=aN from V) b hb⟩⟩
 case hdone=>
  intro D;refine h3 _ ?_;refine Df (t':=(.any::.lit (.pointer (lC ⟨E,0,lB⟩))::.any::.lit (.pointer (lC ⟨u,0,lB⟩))::A10 (A3 (.lit (stF p)::A40 (A20 []))))) (h':=[.res (Bq [D]),.res (Bh E (An f)),.res (DZ (HE f (stepsL f).length) m),.res (Bh u [.lit (.map (lC m))]),.dead]) V V ?_;have F:=Mj f (stepsL f).length;have Z:HC f=EW (HE f (stepsL f).length) (edgeF (C6 f)):=rfl;generalize cg:HE f (stepsL f).length=S1 at F Z⊢;refine Ae λcw aj=>?_
  refine Ae λcv br=>?_
  refine rC ?_;refine br _ ?_;refine nT ?_;refine Am V (λJ=>?_) (λJ=>?_)
  ·have ag:0 < f.blocks.length:=by simpa using J
   have bb:(atF f 0)[0]? =lC (C6 f):=by
    unfold atF C6;rw[if_pos ⟨by decide,by omega⟩,if_neg (by omega),show(0:Int).toNat=0 from V,GL];rfl
   have j:=UX f;have ad:(C6 f).length<=2097152:=by
    unfold C6;rw[if_neg (by omega),GL];exact kS (iC _ _) bc
   generalize cd:C6 f=l at bb Z j ad;refine Ae λcu bq=>?_
   (refine jX ?_;(repeat(first|refine sQ ?_ (AX.call V (Ayx f 0 ho hs hT) V V V)|refine sQ ?_ (AB V V V V)|refine sQ ?_ (Ay V V V V)|refine sQ ?_|refine AR ?_|refine sG ?_|refine Bt ?_));refine Ax ?_)
   refine bq _ ?_;refine nT ?_;refine Ae λct bo=>?_
   refine rC ?_;refine bo _ ?_;refine nT ?_;refine Ah ?_;refine AJ (λi:Nat=>⟨(A3 (.lit (.pointer (lC ⟨u,0,lB⟩))::A6 (.bs tInt l::A40 (A5 (.bs tInt l::.lit (.int .i64 (l.length:Int))::.lit (.int .i64 (i:Int))::A10 (A9 [])))))),[.res (Bq [D]),.res (Bh E (An f)),.res (DZ (Mk S1 l i 0) m),.res (Bh u [.lit (.map (lC m))]),.dead]⟩) (λi=>i<=l.length) (λi=>l.length - i) 0 (kX _) (by rw[Abf];exact B6) ?_;intro i hi
   (try dsimp only at hi);(try dsimp only)
   refine Ae λcr bn=>?_
   refine rC ?_;refine bn _ ?_;refine nT ?_;refine Ae λcq bm=>?_
   refine Am V (λI=>?_) (λI=>?_)
   ·have Y:i < l.length:=by simpa using I
    obtain⟨a,ha⟩:∃a,l[i]? =lC a:=⟨_,gP Y⟩
    have ba:=ab a (j a (iV ha));have ca:(l.take i).length=i:=by rw[iI];omega
    refine Ao ?_;refine bm _ ?_;refine nT ?_;refine Ae λcp bk=>?_
    refine Ah ?_;refine Ae λco bj=>?_
    refine rC ?_;refine bj _ ?_;refine nT ?_;refine Ae λcn bi=>?_
    (refine jX ?_;(repeat(first|refine sQ ?_ (P9 (l:=0) (m:=i) V V V V ⟨_,rfl⟩ (kX _) (by omega))|refine sQ ?_ (AB V V V V)|refine sQ ?_ (Ay V V V V)|refine sQ ?_|refine AR ?_|refine sG ?_|refine Bt ?_));refine Ax ?_)
    refine bi _ ?_;refine nT ?_;refine Ah ?_;refine AJ (λk:Nat=>⟨(A3 (.lit (.pointer (lC ⟨u,0,lB⟩))::A6 (.bs tInt l::.any::.lit (.int .i64 a)::A40 (A3 (.bs tInt l::.lit (.int .i64 (l.length:Int))::.lit (.int .i64 (i:Int))::A6 (.bs tInt (l.take i)::.lit (.int .i64 ((l.take i).length:Int))::.lit (.int .i64 (k:Int))::A10 [])))))),[.res (Bq [D]),.res (Bh E (An f)),.res (DZ (Mk S1 l i k) m),.res (Bh u [.lit (.map (lC m))]),.dead]⟩) (λk=>k<=i) (λk=>i - k) 0 (kX _) (B6) ?_;intro k hk
    (try dsimp only at hk);(try dsimp only)
    refine Ae λcm bh=>?_
    refine rC ?_;refine bh _ ?_;refine nT ?_;refine Ae λck bg=>?_
    refine Am V (λG=>?_) (λG=>?_)
    ·have ar:k < i:=by
      have:(k:Int) < ((l.take i).length:Int):=of_decide_eq_true G;omega
     obtain⟨b,ae⟩:∃b,l[k]? =lC b:=⟨_,gP (by omega)⟩
     have ce:(l.take i)[k]? =lC b:=by rw[List.getElem?_take,if_pos ar];exact ae
     have ay:=ab b (j b (iV ae));have e2:=Abg (S:=S1) ha ae;refine Ao ?_;refine bg _ ?_;refine nT ?_;refine Ae λcj bf=>?_
     refine Ah ?_;refine Ae λci be=>?_
     refine rC ?_;refine be _ ?_;refine nT ?_
     (refine jX ?_;(repeat(first|refine sQ ?_ (AB V V V V)|refine sQ ?_ (Ay V V V V)|refine sQ ?_|refine AR ?_|refine sG ?_|refine Bt ?_)))
     (repeat(first|refine sQ ?_ (AB V V V V)|refine sQ ?_ (Ay V V V V)|refine sQ ?_|refine AR ?_|refine sG ?_|refine Bt ?_))
     refine AH V (BW (i:=2) V V (Se ai (YZ F j hi (.inr Y)) ba ay) (λ_=>rfl) V V λ_=>?_);refine sNt ?_;refine Ax ?_;refine bf _ ?_;refine nT ?_;refine rC ?_;refine As ⟨k+1,by omega,by omega,?_⟩;rw[e2];exact B6
    ·have au:k=i:=by
      have:¬(k:Int) < ((l.take i).length:Int):=of_decide_eq_false G;omega
     subst au;rw[Abh];refine AA (BF (BF (exN (abN (As (bk _ ?_))))));refine nT ?_;refine rC ?_;refine As ⟨k+1,by omega,by omega,?_⟩;exact B6
   ·have ac:i=l.length:=by
     have:¬i < l.length:=by simpa using I
     omega
    subst ac;rw[U5,<-Z];refine AA (BF (BF (exN (As (aj _ ?_)))));refine nT ?_;refine Ae λbx af=>?_
    refine rC ?_;refine af _ ?_;refine nT ?_;exact Az ⟨.inr V,[D],2,m,rfl,rfl,by decide,rfl,rfl⟩
  ·have ag:f.blocks.length=0:=by
    have:¬0 < f.blocks.length:=by simpa using J
    omega
   have ad:C6 f= []:=by unfold C6;rw[if_pos ag]
   have aw:HC f=S1:=by rw[Z,ad];exact DB _
   rw[<-aw];refine Ao ?_;refine aj _ ?_;refine nT ?_;refine Ae λbx af=>?_
   refine rC ?_;refine af _ ?_;refine nT ?_;exact Az ⟨.inr V,[D],2,m,rfl,rfl,by decide,rfl,rfl⟩
instance Aq2:AG cF 109 aI 1:=⟨by kernel_rfl⟩
instance Aq1:SZ cF 109 1:=⟨by kernel_rfl⟩
instance Aq0:ZC cF 109 [.map lB]:=⟨by kernel_rfl⟩
theorem PO(j:(NK f).length<=2097152):InRow (AC f) (HC f):=⟨(CU f).1,Hm j,Aht f⟩
theorem Af7(j:(NK f).length<=2097152):InRow (AC f) (mvK f (stepsL f).length):=⟨(CU f).1,Hm j,LZ f _⟩
theorem YX(f:kE)(u:okFunc f)(F:smallF f)(G:(Cl f).length<=2097152)(E:(NK f).length<=2097152)(j:∀b∈f.blocks,b.ins.length+1<=2097152):Fn cF 41 [.agg (An f)] (.bs CI (Cp f)):=by
 refine AT Tryz.func41 V (by kernel_rfl) V Tryz.ntmps41 λC I=>?_
 refine nS ?_;refine Ae λO h1=>?_
 refine rR ?_;refine h1 _ ?_;refine nT ?_;refine Ae λJ h2=>?_
 (refine jX ?_;(repeat(first|refine sQ ?_|refine AR ?_|refine Bt ?_)))
 refine AH V (Cx V (Ahs f u F G E j) (λ_=>rfl) V V λm=>?_);refine sNt ?_;refine AH V (BW (i:=1) V V (Rl (PO E) (LJ u) m) (λ_=>rfl) V V λv=>?_);refine sNt ?_
 (repeat(first|refine sQ ?_|refine AR ?_|refine Bt ?_))
 refine Ax ?_;refine h2 _ ?_;refine nT ?_;refine AN _ (IB 1 (ver:=0) (t':=(A2 (.own 1 0::A3 []))) V V (by(try simp only[Br,zac]);(repeat(first|exact Cls.nil|refine Cls.own ?_|refine Cls.any ?_|refine Cls.keep V ?_)))) ?_;refine nT ?_;exact Az ⟨.inr V,kA V⟩
theorem Ak7(f:kE)(ho:okFunc f)(hs:smallF f)(hT:(Cl f).length<=2097152)(hA:(NK f).length<=2097152)(U:∀b∈f.blocks,b.ins.length+1<=2097152):Fn cF 50 [.agg (An f)] (.bs CI (mvL f)):=by
 have ad:=hs.blocks;have Z:(AC f).length<=2097152:=Hm hA;have G:∀r∈AC f,Ci r:=LJ ho;refine FX Tryz.func50 V (by kernel_rfl) V Tryz.ntmps50 λC hC O=>?_
 refine nS ?_;refine Ae λK1 h1=>?_
 refine rR ?_;refine h1 _ ?_;refine nT ?_;refine Ae λK2 h2=>?_
 (refine jX ?_;(repeat(first|refine sQ ?_|refine AR ?_|refine Bt ?_)))
 refine AH V (Ql V λm=>?_);refine sNt ?_
 (repeat(first|refine sQ ?_|refine AR ?_|refine Bt ?_))
 refine Ax ?_;refine h2 _ ?_;refine nT ?_;refine Bw 1 V V V (λg=>(.any::.lit (.pointer (lC ⟨g,0,lB⟩))::.any::.ptr 3 0::A10 (A7 []))) (λg=>(by(repeat(first|exact kI|refine kJ ?_|refine kG ?_|refine kH V ?_)))) λu=>?_
 refine Bw 3 V V V (λg=>(.any::.lit (.pointer (lC ⟨u,0,lB⟩))::.any::.lit (.pointer (lC ⟨g,0,lB⟩))::A10 (A7 []))) (λg=>(by(repeat(first|exact kI|refine kJ ?_|refine kG ?_|refine kH V ?_)))) λE=>?_
 refine Ae λK3 h3=>?_
 refine Ae λK4 h4=>?_
 (refine jX ?_;(repeat(first|refine sQ ?_|refine AR ?_|refine Bt ?_)))
 (repeat(first|refine sQ ?_|refine AR ?_|refine Bt ?_))
 refine AH V (Cx V (OL f) (λ_=>rfl) V V λp=>?_);refine sNt ?_;refine Ax ?_;refine h4 _ ?_;refine nT ?_;refine Ah ?_;refine AN ⟨(.any::.lit (.pointer (lC ⟨u,0,lB⟩))::.any::.lit (.pointer (lC ⟨E,0,lB⟩))::A3 (.lit (stF p)::A10 (A3 []))),[.res (Bq []),.res (Bh u (An f)),.res (DZ (mvK f 0) m),.res (Bh E [.lit (.map (lC m))]),.res (Bh p (An f))]⟩ (Ky (.cons (.cons (.cons (.cons (.cons (j6 _))))))) ?_;refine H9 4 0 (λk=>[.dead,.res (Bh u (An f)),.res (DZ (mvK f k) m),.res (Bh E [.lit (.map (lC m))]),.dead]) O (by kernel_rfl) (by decide) V V V ?hdrop V (λ_=>rfl) (λ_=>rfl) V (Ad4 f) (Wb f) (MC f ho hs hT U p) ?hround ?hdone
 case hdrop=>
  exact⟨j5 (jZ (jZ (jZ (j5 (j6 _))))),λb hb=>fM.1 (show bdH [.dead,.res (Bh u (An f)),.res (DZ (mvK f 0) m),.res (Bh E [.lit (.map (lC m))]),.dead]=aN from V) b hb⟩
 case hround=>
  intro k hk C' ac;obtain⟨q,hq⟩:∃q,(stepsL f)[k]? =lC q:=⟨_,gP hk⟩
  have I:=iV hq;have F:=Ps hq;have J:=LZ f k;try dsimp only
  rw[X3 hq];generalize ae:mvK f k=S0 at F J⊢;refine Df (t':=(.any::.lit (.pointer (lC ⟨u,0,lB⟩))::.any::.lit (.pointer (lC ⟨E,0,lB⟩))::A3 (.lit (stF p)::.agg (B8 q.1)::.bs tInt q.2::A10 [.any]))) V V ?_;refine rR ?_;refine As λag ab=>?_
  refine nT ?_;refine Ah ?_;refine Ae λK8 h8=>?_
  refine rR ?_;refine h8 _ ?_;refine nT ?_;refine Am V (λj=>?_) (λj=>?_)
  ·have h2:q.1.op=2:=by simpa using j
   have e2:mvK f (k+1)=EW S0 (Dp q.1.d q.1.a):=by rw[F];unfold mvA;rw[if_pos h2]
   have X:Ci q.1.d:=G _ (Of I (MS h2).1);have Y:Ci q.1.a:=G _ (Yc I h2)
   (refine jX ?_;(repeat(first|refine sQ ?_|refine AR ?_|refine Bt ?_)))
   (repeat(first|refine sQ ?_|refine AR ?_|refine Bt ?_))
   refine AH V (BW (i:=2) V V (Se Z J X Y) (λ_=>rfl) V V λ_=>?_);refine sNt ?_;refine Ax ?_;rw[<-e2];exact⟨rfl,⟨.cons (.cons (.cons (.cons (.cons (j6 _))))),λb hb=>fM.1 (show bdH [.dead,.res (Bh u (An f)),.res (DZ (mvK f (k+1)) m),.res (Bh E [.lit (.map (lC m))]),.dead]=aN from V) b hb⟩⟩
  ·have e2:mvK f (k+1)=S0:=by
    rw[F];unfold mvA;rw[if_neg (by simpa using j),DB]
   refine Ao ?_;rw[e2];exact⟨rfl,⟨.cons (.cons (.cons (.cons (.cons (j6 _))))),λb hb=>fM.1 (show bdH [.dead,.res (Bh u (An f)),.res (DZ S0 m),.res (Bh E [.lit (.map (lC m))]),.dead]=aN from V) b hb⟩⟩
 case hdone=>
  intro D;refine h3 _ ?_;refine Df (t':=(.any::.lit (.pointer (lC ⟨u,0,lB⟩))::.any::.lit (.pointer (lC ⟨E,0,lB⟩))::A3 (.lit (stF p)::A10 (A3 [])))) (h':=[.res (Bq [D]),.res (Bh u (An f)),.res (DZ (mvK f (stepsL f).length) m),.res (Bh E [.lit (.map (lC m))]),.dead]) V V ?_;refine Ae λaf aa=>?_
  (refine jX ?_;(repeat(first|refine sQ ?_|refine AR ?_|refine Bt ?_)))
  refine AH V (BW (i:=2) V V (Rl (Af7 hA) G m) (λ_=>rfl) V V λv=>?_);refine sNt ?_
  (repeat(first|refine sQ ?_|refine AR ?_|refine Bt ?_))
  refine Ax ?_;refine aa _ ?_;refine nT ?_;refine AN _ (IB 2 (ver:=0) (t':=(A2 (.own 2 0::A10 (A8 [])))) V V (by(try simp only[Br,zac]);(repeat(first|exact Cls.nil|refine Cls.own ?_|refine Cls.any ?_|refine Cls.keep V ?_)))) ?_;refine nT ?_;exact Az ⟨.inr V,[D],rfl,rfl,kA V⟩
end Mu
