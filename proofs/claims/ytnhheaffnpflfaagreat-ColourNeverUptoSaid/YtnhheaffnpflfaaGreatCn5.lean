/-
  Lemmas for N, part 5.
  Conditions: as each lemma says.
-/
import Derived.Test.YtnhheaffnpflfaaGreatCn4
import Derived.WideKeyEntry
set_option maxRecDepth 100000
set_option maxHeartbeats 4000000
set_option linter.unusedSimpArgs false
set_option linter.unusedVariables false
open Array renaming ext'->aA,getElem?_eq_some_iff->aB,mem_append->aC,mem_toList_iff->aD,toList_map->aE,toList_modify->aF,toList_push->aG
open Bool renaming and_eq_false_iff->aH,and_eq_true->aI,beq_comm->aJ,eq_iff_iff->aK,false->aL,false_and->aM,false_eq_true->aN,false_or->aO,not_eq_false'->aP,not_eq_true'->aR,not_false->aS,not_not->aT,not_true->aU,or_eq_false_iff->aV,or_eq_true->aW,or_false->aX,or_true->aY,true->aZ,true_and->a6
open Classical renaming byContradiction->a7
open Decidable renaming decide->a8
open Go renaming LeavesInM->bK,MapEntry->bL,Oper->bP,Operand->bR,Program->bS,TypeId->bY,Value->bZ,World->cC,execOp->cD,heap_alloc_new->cE,maxLen->cF,run_underlying->cG
open Go.Fence renaming wide->bA
open Go.Instr renaming entryStore->bB,mapEntry->bC,mapUpdate->bD
open Go.IntKind renaming bits->bE,i64->bF,max->bG,min->bH,signed->bI
open Go.IntWalk renaming i64_in->bJ
open Go.MapKept renaming run_getObj_map->bM,run_setObj_map->bN
open Go.Op renaming operands->bO
open Go.Proofs.Tryz renaming func9->bT,ntmps9->bU,prog->bV,underlying77->bW
open Go.Result renaming andThen->bX
open Go.Value renaming int->b9
open Go.WideElems renaming findIdx_arr->cA,findIdx_born->cB
open Int renaming le_refl->cH,toNat_natCast->cI,toNat_of_nonneg->cJ
open List renaming all_eq_true->cO,any_cons->cP,any_eq_false->cQ,any_eq_true->cR,append_assoc->cT,append_inj'->cU,append_nil->cV,concat_eq_append->cW,cons_append->cX,contains_iff_mem->cY,countP_cons_of_pos->cZ,countP_eq_length_filter->dA,countP_eq_zero->dB,countP_le_length->dC,drop->dD,drop_eq_getElem_cons->dE,drop_of_length_le->dF,drop_zero->dG,eq_nil_of_length_eq_zero->dH,eq_nil_or_concat->dI,exists_mem_of_ne_nil->dJ,ext_getElem?->dK,filter_append->dL,filter_congr->dM,filter_cons->dN,filter_cons_of_neg->dO,filter_cons_of_pos->dP,filter_eq_nil_iff->dQ,filter_eq_self->dR,filter_nil->dT,find?_eq_none->dU,flatMap_cons->dV,foldl_append->dW,foldl_cons->dX,getD->dY,getD_eq_getElem?_getD->dZ,getElem?_append_left->eA,getElem?_append_right->eB,getElem?_eq_getElem->eC,getElem?_eq_none->eD,getElem?_eq_some_iff->eE,getElem?_map->eF,getElem?_of_mem->eG,getElem?_range->eH,getElem?_replicate->eI,getElem?_set->eJ,getElem?_set_ne->eK,getElem?_set_self->eL,getElem?_zip_eq_some->eM,getElem_mem->eN,head?_drop->eO,length_append->eP,length_cons->eQ,length_drop->eR,length_filter_le->eS,length_map->eT,length_range->eU,length_replicate->eV,length_reverse->eW,length_set->eX,length_take->eY,map_append->eZ,map_cons->fA,map_nil->fB,mem_append->fC,mem_append_left->fD,mem_append_right->fE,mem_cons->fF,mem_cons_of_mem->fG,mem_cons_self->fH,mem_erase_of_ne->fI,mem_filter->fJ,mem_flatMap->fK,mem_iff_getElem?->fL,mem_map->fM,mem_of_getElem?->fN,mem_of_mem_take->fO,mem_or_eq_of_mem_set->fP,mem_range->fQ,mem_replicate->fR,mem_reverse->fS,mem_singleton->fT,ne_nil_of_mem->fU,nil_append->fV,nodup_append->fW,nodup_cons->fX,nodup_nil->fY,not_mem_nil->fZ,pairwise_cons->gB,pairwise_iff_getElem->gC,pairwise_map->gD,range->gE,range'->gF,range'_succ->gG,range_eq_range'->gH,range_succ->gI,replicate->gJ,reverse_append->gK,reverse_cons->gL,set_set->gN,sum_cons->gO,take_add_one->gP,take_length->gQ,take_of_length_le->gR,take_one->gT,take_sublist->gU
open List.Pairwise renaming filter->cL,imp->cM,nil->cN
open Mu renaming ABlk->gV,Block->g8,CGraph->g9,FStep->iB,FineF->iD,Func->iE,Hint->iF,OkGr->iT,Pair->iY,Plan->iZ
open Mu.ABlk renaming res->gW
open Mu.AOp renaming turn->gX
open Mu.AV renaming rel->gY
open Mu.Awp renaming region->gZ
open Mu.Cut renaming dead->hZ,nil->iA
open Mu.Fin renaming cl->iC
open Mu.M renaming bnd->iG,chk->iH,cnd->iI,els->iJ,els_l->iK,els_r->iL,loop->iM,loop_in->iN,loop_inv->iO,loop_out->iP,ok->iQ,to_whn->iR,whn_f->iS
open Mu.OpnB renaming any->iU,keep->iV,nil->iW,ptr->iX
open Mu.St.le renaming refl->i6
open Nat renaming le_antisymm->i7,le_of_ble_eq_true->i8,le_of_not_lt->i9,le_refl->jA,le_trans->jB,lt_or_ge->jC,lt_succ_self->jD,lt_trichotomy->jE,mul_add->jF,mul_le_mul->jG,mul_le_mul_left->jH,mul_one->jI,not_lt_zero->jJ,zero_add->jK,zero_le->jL
open Ne renaming symm->jM
open Option renaming getD_some->jN,isSome_iff_exists->jO,isSome_map->jP,map_eq_some_iff->jQ,none->jR,some->jS,toList_some->jU
open Option.some renaming inj->jT
abbrev Mu.zap:=And.intro @aI (And.intro @aR (And.intro @aV (@decide_eq_false_iff_not)))
namespace Mu
open Go Go.RowKit
variable{P:bS}{fn:Go.Func}{n:Nat}{t:Tmp}{ty:bY}{u:Tmp}{uy:bY}
theorem UA{P:bS}{C:Ctx}{fn:Go.Func}{tmps:Array bZ}{R:Ending->cC->Prop}{n:Nat}:
 ∀(ds:List Nat) (W:cC) (h:List gV) (S:Nat->Prop) (ψ:Nat->bZ),(∀W S ψ,HRel C (h.set 0 .dead) S ψ W->∃v,(results fn tmps).run P W= .ok v W/\R (.returned v) W)->h[0]? =jS (.res (Bq ds))->HRel C h S ψ W->
  bK bA n P fn tmps R (ds.map Kr) .returning W
 | [],W,h,S,ψ,a,h0,H=>by
  have hc:Cut h (h.set 0 .dead):=⟨by simp,λi b hi=>by
   by_cases f:i=0
   ·subst f;rw[eL (eE.1 h0).1]at hi;cases hi;exact .inl V
   ·rw[eK (jM f)]at hi;exact .inr hi⟩
  obtain⟨v,h1,h2⟩:=a W S ψ (H.cute hc (by simp));exact⟨v,h1,h2⟩
 |D::ds,W,h,S,ψ,a,h0,H=>by
  have k:=H.blk 0 _ h0;have c:=(eE.1 h0).1;have o:=k.1 D (by show D∈D::ds;simp);refine⟨by simp,.inl ⟨_,_,rfl,run_takeDeferred (k.2.2 D (by simp)),?_⟩⟩;have X:Ext W S h ψ W S (h.set 0 (.res (Bq ds))) (Bs ψ 0 (ψ 0)):=Ext.set (λ_ _=>rfl) h0 (λs hc=>by simp[ABlk.ver]at hc) λh=>by simp[Bd]at h
  have e:=fX.1 k.2.1;have r:HRel C (h.set 0 (.res (Bq ds))) S (Bs ψ 0 (ψ 0)) W:=H.set (v':=ψ 0) h0 V ⟨rfl,rfl,rfl,jA _,λ_ _ _=>rfl⟩ X
   ⟨λg hg=>k.1 g (fG _ hg),e.2,λd q=>k.2.2 d (fG _ q)⟩ λg hg=>.inl (fG _ hg)
  have m:¬owns (h.set 0 (.res (Bq ds))) (Bs ψ 0 (ψ 0)) D:=λ⟨j,h1,h2⟩=>by
   by_cases l:j=0
   ·subst l;rw[eL c]at h2;exact e.1 h2
   ·rw[eK (jM l)]at h1 h2;rw[BH l]at h2;exact H.dis j 0 l h1 (by rw[h0];rfl) D h2 (by rw[h0];show D∈D::ds;simp)
  refine UA ds _ _ S _ (λW S ψ h1=>?_) (eL c) (r.other _ o.1 o.2.1 m);rw[gN]at h1;exact a W S ψ h1
theorem MF{tmps:Array bZ}{i h:Nat}{g f:bZ}{w:cC}(a:fn.results= #[.cell t ty,.cell u uy])(k:RG P ty=jS (aL,1))(j:RG P uy=jS (aL,1))
 (h1:tmps.getD t undef= .pointer (jS ⟨i,0,jR⟩))(h2:tmps.getD u undef= .pointer (jS ⟨h,0,jR⟩))(e:w.cell? ⟨i,0,jR⟩=jS g)(d:w.cell? ⟨h,0,jR⟩=jS f):(results fn tmps).run P w= .ok (.tuple #[g,f]) w:=by
 have c:=Ja (P:=P) (ty:=ty) k e;have b:=Ja (P:=P) (ty:=uy) j d;unfold Instr.loadAt Instr.sureAddr at c b;simp only[zan]at c b;rw[Array.getD_eq_getD_getElem?]at h1 h2;simp[results,a,h1,h2,asAddr,c,b]
def Ay5{ι:Type}(t u:Tmp)(Rs:ι->Res)(val:ι->bZ):Exit->St->Prop:=λe s=>(e= .normal\/e= .ret)/\∃ds d c i j k p b a,s.h[0]? =jS (.res (Bq ds))/\mkD s.h=ds.map Kr/\i≠0/\j≠0/\k≠0/\s.h[i]? =jS (.res (Bh d [.lit b]))/\s.h[j]? =jS (.res (Bh c [.lit a]))/\s.h[k]? =jS (.res (Rs p))/\
 evA s.t (.tmp t)= .lit (.pointer (jS ⟨d,0,jR⟩))/\evA s.t (.tmp u)= .lit (.pointer (jS ⟨c,0,jR⟩))/\val p= .tuple #[b,a]
theorem Qg{f:FuncId}{c:Code}{args:List AV}{ι:Type}{Rs:ι->Res}{val:ι->bZ}(hf:P.funcs[f]? =jS fn)(hb:fn.body=jS c)(hE:Ch P f=aZ)(x:fn.results= #[.cell t ty,.cell u uy])(ha:RG P ty=jS (aL,1))(F:RG P uy=jS (aL,1))(hn:fn.ntmps=n)
 (hS:∀p w S S',(Rs p).R w S->(Rs p).R w S')
 (h:∀C:Ctx,C.std->C.rd=jR->Awp P C c (Ay5 t u Rs val) ⟨args++gJ (n - args.length) (.lit undef),[.res (Bq [])]⟩):Nk P f args Rs val:=by
 refine⟨hE,λw S vs G hr=>(callsIn_wide (n:=4)).1 (callsIn_of_wp_marks hf hb trivial ?_)⟩;rw[hn];have A:St.rel ⟨w,S,λk=>k < w.heap.size,jR⟩ ⟨args++gJ (n - args.length) (.lit undef),[.res (Bq [])]⟩ {tmps:=vs.toArray++Array.replicate (n - vs.toArray.size) undef,defers:=[]} w:=by
  obtain⟨o,z,ψ,H,y⟩:=Dv (n:=n) G hr;have X:=Ext.push (w:=w) (w':=w) (S:=z) (h:=[]) (ψ:=ψ) (.res (Bq [])) undef λ_ _=>rfl
  exact⟨rfl,z,_,H.push (b:=.res (Bq [])) (v:=undef) (Below.refl _ _) (show H8 _ _ _ _ _ _ (.res (Bq []))from⟨λg hg=>(fZ hg).elim,show([]:List Nat).Nodup/\∀d∈([]:List Nat),w.heap[d]? =jS (.deferred (jS []))from⟨fY,λd o=>(fZ o).elim⟩⟩) (λg hg=>(fZ hg).elim),AE X _ _ y⟩
 have Y:=h ⟨w,S,λk=>k < w.heap.size,jR⟩ (λ_ h=>h) V _ w A;refine wpIn_mono Y ?_;rintro e a' w' ⟨s,⟨he,ds,g1,g2,i,j,k,p,Q,O,h0,hm,E,D,B,hi,hj,hk,ht,Z,r⟩,o,z,ψ,H,y⟩;have m:=BA y (.tmp t);have l:=BA y (.tmp u);rw[ht]at m;rw[Z]at l;unfold gY at m l;rw[hm]at o;have a:∀{W:cC} {K:Nat->Prop} {g:Nat} {v:bZ},(Bh g [.lit v]).R W K->W.cell? ⟨g,0,jR⟩=jS v:=λ{W K g v} hR=>by
  obtain⟨cs,e',h1,h2⟩:=hR;simp only[Ak,gY]at h2;obtain⟨_,_,rfl,rfl,rfl⟩:=h2;simp[World.cell?,h1]
 have q:=UA (P:=P) (C:=⟨w,S,λk=>k < w.heap.size,jR⟩) (fn:=fn) (tmps:=a'.tmps) (R:=λe w'=>∃v,e= .returned v/\Turns w S (λ_=>False) Rs val v w') (n:=4) ds w' s.h z ψ (λW K N h1=>by
  have L:=h1.blk k (.res (Rs p)) (by rw[eK (jM B)];exact hk);have J:=h1.blk i (.res (Bh g1 [.lit Q])) (by rw[eK (jM E)];exact hi);have I:=h1.blk j (.res (Bh g2 [.lit O])) (by rw[eK (jM D)];exact hj);refine⟨_,MF x ha F m l (a J.2) (a I.2),_,rfl,⟨h1.bel.os,h1.bel.tape,h1.bel.output,h1.bel.size,λk hk _=>h1.bel.block k hk⟩,p,r.symm,hS p _ _ _ L.2,λk hk=>?_⟩;obtain⟨U,k2,T⟩:=L.1 k hk;exact⟨.inr (i9 U),T⟩) h0 H
 rcases he with rfl|rfl
 ·show bK bA 4 P fn a'.tmps _ a'.defers .returning w';rw[o];exact q
 ·show bK bA 4 P fn a'.tmps _ a'.defers .returning w';rw[o];exact q
open Go.Proofs Go.Shelf
attribute [local go_sem] Oper.semAt_some
theorem Vp(F:Fence)(n:Nat)(h78:F.fn 52)(hro:F.round=jR)(A:Option Addr)(m c:Nat)(w:cC):
 CallsIn F n bV 52 #[.slice A m c] w λe w'=>e= .returned (.func (.func 90) #[] #[.pointer (jS ⟨w.heap.size,0,jR⟩)])/\w'=w.alloc (.cells #[.slice A m c] 27):=by
 refine callsIn_of_wp Tryz.func52 V h78 ?_ hro;simp only[Tryz.ntmps52,Nat.reduceAdd,Nat.reduceSub,zae]
 gi_wp2
 go_ret
 exact⟨rfl,rfl⟩
theorem Vq(F:Fence)(n:Nat)(h105:F.fn 90)(hro:F.round=jR)(hn:1<=n)(l:Nat)(ds:List Int)(A:Option Addr)(c Bb:Nat)(S0 S:Nat->Prop)(hS0:∀k,S0 k->S k)(W0 W:cC)(J:Nat->cC->Prop)
 (hW:KS S W0 W)
 (hY:∀(k j:Nat) (d:Int) (W:cC),k+j+1=ds.length->ds[j]? =jS d->J k W->YieldAt F (n - 1) bV l #[.int .i64 (j:Int),.int .i64 d] W λe W'=>e= .returned (.bool aZ)/\J (k+1) W'/\KS S W W')
 (hB:S Bb)(hB0:W0.cell? ⟨Bb,0,jR⟩=jS (.slice A ds.length c))(hR:tInt.slice.RS W0 S0 [.slice A ds.length c] ds)(hl:ds.length<=2147483648)(h0:J 0 W):
 CallsIn F n bV 90 #[.func (.yield l) #[] #[],.pointer (jS ⟨Bb,0,jR⟩)] W λe W'=>(∃v,e= .returned v)/\J ds.length W':=by
 have HR:=Lib.hid hR;have HY:=Lib.hid hY;have H0:=Lib.hid h0;have x1:bF.wrap ((ds.length:Int) - 1)=(ds.length:Int) - 1:=bJ _ (by omega);have hb0:=hW.cell hB hB0;clear hR hY h0;refine callsIn_of_wp Tryz.func90 V h105 ?_ hro;simp only[Tryz.ntmps90,Nat.reduceAdd,Nat.reduceSub,zae]
 gi_wp2
 gi_loopw [3] (λi wr=>∃m:Nat,m<=ds.length/\i= .int .i64 ((m:Int) - 1)/\J (ds.length - m) wr/\KS S W wr) (λi _=>(RowKit.intOf i+1).toNat)
 case atStart=>exact⟨ds.length,jA _,rfl,by rw[Nat.sub_self];exact H0.out,KS.refl⟩
 case round=>
  obtain⟨m,hm,rfl,hJ,hK⟩:=hrel;rcases m with _|j
  ·have d0:a8 ((0:Int)<=((0:Nat):Int) - 1)=aL:=decide_eq_false (by omega)
   gi_wp2
   go_end0
   exact⟨⟨_,rfl⟩,hJ⟩
  ·have ej:((j+1:Nat):Int) - 1=(j:Int):=by omega
   rw[ej];have d0:a8 ((0:Int)<=(j:Int))=aZ:=decide_eq_true (by omega);have x2:bF.wrap ((j:Int) - 1)=(j:Int) - 1:=bJ _ (by omega);obtain⟨x,hxk⟩:∃x,ds[j]? =jS x:=⟨_,eC (by omega)⟩
   obtain⟨ib,io,rfl,hib,hat,_⟩:=L8 HR.out hxk;replace hib:=hS0 _ hib;have hK0:=hW.trans hK;have e0:=hK0.cell (a:=⟨ib,_,jR⟩) hib hat;have eb:=hK0.cell hB hB0;have hjl:(j:Int) < (ds.length:Int):=by omega
   obtain⟨fn,tmps,assign,body,hy,hR⟩:=HY.out (ds.length - (j+1)) j x wr (by omega) hxk hJ;clear hat hxk
   gi_wp2
   refine hR.mono ?_;rintro e W3 ⟨rfl,hJ3,hk3⟩
   gi_wp2
   go_roundw
   case rel=>
    refine⟨j,by omega,rfl,?_,hK.trans hk3⟩;rw[show ds.length - (j+1)+1=ds.length - j by omega]at hJ3;exact hJ3
   case measure=>simp[RowKit.intOf]
def Auj(ds:List Int)(p:Nat×Option Addr×Nat):Res:=⟨[],λg=>g=p.1,λw S=>w.heap[p.1]? =jS (.cells #[.slice p.2.1 ds.length p.2.2] 27 (0,0))/\tInt.slice.RS w S [.slice p.2.1 ds.length p.2.2] ds,
 λh hk b a=>⟨(hk _ V).trans h.1,tInt.slice.keepS h.2 b a⟩⟩
def Az7(p:Nat×Option Addr×Nat):bZ:=.func (.func 90) #[] #[.pointer (jS ⟨p.1,0,jR⟩)]
theorem ST(ds:List Int):Nk bV 52 [.bs tInt ds] (Auj ds) Az7:=by
 refine⟨by kernel_rfl,λw S vs f d=>?_⟩;unfold Ak gY Ak at d;obtain⟨v,_,rfl,b,rfl⟩:=d;obtain⟨A,c,e,hx⟩:=id b;simp only[List.cons.injEq,and_true]at e;subst e;refine((callsIn_wide (n:=4)).1 (Vp bA 4 trivial V A ds.length c w)).mono ?_;rintro e w' ⟨rfl,rfl⟩;have a:Below w.heap.size w (w.alloc (.cells #[.slice A ds.length c] 27)):=(Below.refl _ _).alloc (jA _) _;exact⟨_,rfl,⟨a.os,a.tape,a.output,a.size,λk hk _=>a.block k hk⟩,(w.heap.size,A,c),rfl,⟨cE w _,tInt.slice.keepS b (λk hk=>a.block k (f k hk)) λ_ h=>h⟩,λk hk=>by
  have hk:k=w.heap.size:=hk;subst hk;exact⟨.inr (jA _),by simp⟩⟩
def Ajn(ds:List Int)(k:Nat):List AV:=match ds[ds.length - 1 - k]? with
 |some d=>[.lit (.int .i64 ((ds.length - 1 - k:Nat):Int)),.lit (.int .i64 d)]
 |none=>(A2 [])
theorem QO(ds:List Int)(b:ds.length<=2147483648)(p:Nat×Option Addr×Nat)(w:cC)(S:Nat->Prop)(q:∀k,S k->k < w.heap.size)(r:∀k,(Auj ds p).F k->k < w.heap.size)(a:(Auj ds p).R w S):
 Asd bV 90 #[.pointer (jS ⟨p.1,0,jR⟩)] (λk=>S k\/(Auj ds p).F k) w (λk vs=>Ak w S [] ψ0 (Ajn ds k) vs) ds.length:=λl J W i g h0=>by
 refine Vq bA 3 trivial V (by decide) l ds p.2.1 p.2.2 p.1 S (λk=>S k\/(Auj ds p).F k) (λ_ h=>.inl h) w W J i ?_ (.inr V) (Ow (cs:=[_]) a.1 V) a.2 b h0;intro k j d o c f m;refine g k [.int .i64 (j:Int),.int .i64 d] o (by omega) ?_ m;have e:ds.length - 1 - k=j:=by omega
 show Ak w S [] ψ0 (Ajn ds k) _;unfold Ajn;rw[e,f];unfold Ak;refine⟨_,_,rfl,by unfold gY;rfl,?_⟩;unfold Ak;exact⟨_,_,rfl,by unfold gY;rfl,by unfold Ak;rfl⟩
theorem Arz(ds:List Int)(k:Nat):Bl (Ajn ds k)=aZ:=by
 unfold Ajn;split <;> rfl
theorem Amr(ds:List Int)(k:Nat):(Ajn ds k).length=2:=by
 unfold Ajn;split <;> rfl
end Mu
namespace Mu
open Go Go.RowKit Go.Proofs Go.Maps
variable{A:List (Int×Int)}{C:Ctx}{G:g9}{Q:Int->Prop}{h:List gV}{l:List Int}{out:List (Int×Int)}{p r:Int}{t:List AV}{x:Int}
def Az2(A:List (Int×Int))(a:List Int)(p:Nat×bZ):Res:=Res.and (ER (b9 .i64) A p.1) (rowR p.2 3 tInt a)
def AA3(p:Nat×bZ):bZ:=.tuple #[.map (jS p.1),p.2]
theorem Qd.at{H:List gV}{a b:AV}{new:List AV}(e:a=b)(p:Qd H b new):Qd H a new:=e▸p
theorem Oi{a:List Int}(p:Nat×bZ)(w:cC)(S S':Nat->Prop)(h:(Az2 A a p).R w S):(Az2 A a p).R w S':=⟨h.1,X6 h.2.1,h.2.2⟩
theorem Pc(G:g9)(out:List (Int×Int))(q:iT G):Nk bV 26 [.bp Bf G 0,.tv tMapI out] (Az2 (BJ G out).1 (BJ G out).2) AA3:=by
 have O:=Akx G out q.toOkG;obtain⟨l,hl⟩:∃l,l=C5 G out:=⟨_,rfl⟩
 have aq:l.length<=1073741824:=by rw[hl];exact Rg q.toOkG
 rw[<-hl]at O;refine Qg (uy:=27) (ty:=51) Tryz.func26 V (by kernel_rfl) V (by kernel_rfl) (by kernel_rfl) Tryz.ntmps26 Oi λC hC ao=>?_
 simp only[Nat.reduceAdd,Nat.reduceSub,zaa];refine wR (hx:=by((repeat(first|(refine AH V (AOp.boxI 1 V V (Qd.one One.bp).weak ?_);refine sNt ?_)|refine sA ?_|refine AR ?_|refine sAG ?_|refine Bt ?_));exact C1 V)) (hk:=?_);refine AN _ (EY hC 1 2 V V Zj.bp) ?_;refine nT ?_;refine Awp.scope ?_;refine wRK λK2 ay=>?_
 refine AH V (Kl (b9 .i64) V λm=>?_);refine DS ?_ (Au JX);refine AH V (CZ (new:=[_]) V V V (Qd.one (One.lit V)) V (i8 V) ?_);refine DS ?_ QA;refine Ax (ay _ ?_);refine Ae λK3 h3=>?_
 refine Awp.label ?_;refine h3 _ ?_;refine nT ?_;refine Ae λK4 h4=>?_
 refine Bw 2 V V V (λa=>(.any::.tv tMapI out::.bp (Ko Bf) G 0::.any::.lit (.pointer (jS ⟨a,0,jR⟩))::.ptr 3 0::A20 (A9 []))) (λg=>(by(repeat(first|exact iW|refine iX ?_|refine iU ?_|refine iV V ?_)))) λa=>?_
 refine Bw 3 V V V (λc=>(.any::.tv tMapI out::.bp (Ko Bf) G 0::.any::.lit (.pointer (jS ⟨a,0,jR⟩))::.lit (.pointer (jS ⟨c,0,jR⟩))::A20 (A9 []))) (λg=>(by(repeat(first|exact iW|refine iX ?_|refine iU ?_|refine iV V ?_)))) λc=>?_
 refine AN _ (Kg 3 tInt (by decide)) ?_;refine nT ?_;refine wRK λK5 ax=>?_
 refine sA ?_ (AI V FD V) (Au KP);refine sA ?_ (AX.move V GH) (Au I8);refine sA ?_ (AO V V O V V) (Au JW);refine AH V (Cx V (ST l) (λ_=>rfl) V V λbp=>?_);refine DS ?_ (Au Gv);refine Ax (ax _ ?_);refine Ah ?_;refine AN ⟨(A2 (.bp (Ko Bf) G 0::.any::.lit (.pointer (jS ⟨a,0,jR⟩))::.lit (.pointer (jS ⟨c,0,jR⟩))::A7 (.lit (Az7 bp)::A20 [.any]))),[.res (Bq []),.dead,.res (Bh a [.lit (.map (jS m))]),.res (Bh c [.lit (.slice jR 0 0)]),.res (ER (b9 .i64) [] m),.res (rowR (.slice jR 0 0) 3 tInt []),.res (Auj l bp)]⟩ (AU) ?_;refine Ia (J:=bZ) 6 0 (λk v=>[.dead,.dead,.res (Bh a [.lit (.map (jS m))]),.res (Bh c [.lit v]),.res (ER (b9 .i64) (Jm G out k).1 m),.res (rowR v 3 tInt (Jm G out k).2),.dead]) (.slice jR 0 0) ao V (by decide) V V V ?_ V (λ_ _=>rfl) (λ_ _=>rfl) V (λk _ _ ⟨_,h,_⟩=>h▸⟨Arz l k,Amr l k⟩) (Qf (N:=l.length) (encs:=Ajn l) (by kernel_rfl) λw S hS hF hR=>QO l (jB aq (by decide)) bp w S hS hF hR) ?_ ?_
 ·exact⟨.dead (.cons (.cons (.cons (.cons (.cons (.dead (.nil _))))))),λb B=>cO.1 (show bdH [.dead,.dead,.res (Bh a [.lit (.map (jS m))]),.res (Bh c [.lit (.slice jR 0 0)]),.res (ER (b9 .i64) (Jm G out 0).1 m),.res (rowR (.slice jR 0 0) 3 tInt (Jm G out 0).2),.dead]=aZ from V) b B⟩
 ·rintro k v _ _ ⟨hk,rfl,rfl⟩ C' bi;have ar:k < (C5 G out).length:=by rw[<-hl];exact hk
  obtain⟨r,hr⟩:∃r,l[l.length - 1 - k]? =jS r:=⟨_,eC (by omega)⟩
  have ap:(C5 G out)[(C5 G out).length - 1 - k]? =jS r:=by rw[<-hl];exact hr
  have an:r∈G.regs:=Z3 q.toOkG r (by rw[<-hl];exact fN hr);have E:wfB .i64 r=aZ:=q.regs r an;have hI:=J2 q out k (by omega);have ac:=Pd ap ar;have ag:Ajn l k= [.lit (.int .i64 ((l.length - 1 - k:Nat):Int)),.lit (.int .i64 r)]:=by unfold Ajn;rw[hr]
  rw[ag];obtain⟨⟨A,d⟩,hs⟩:∃s,s=Jm G out k:=⟨_,rfl⟩
  rw[<-hs]at hI ac⊢;rw[ac];obtain⟨bb,ak,al⟩:=hI;dsimp only at bb ak al;refine Df (t':=(A2 (.bp (Ko Bf) G 0::.any::.lit (.pointer (jS ⟨a,0,jR⟩))::.lit (.pointer (jS ⟨c,0,jR⟩))::A7 (.lit (Az7 bp)::.lit (.int .i64 ((l.length - 1 - k:Nat):Int))::.lit (.int .i64 r)::A10 (A9 []))))) (h':=[.dead,.dead,.res (Bh a [.lit (.map (jS m))]),.res (Bh c [.lit v]),.res (ER (b9 .i64) A m),.res (rowR v 3 tInt d),.dead]) V V ?_;refine wRE (hx:=by((refine AH V (Tg 7 V V ?_);refine DS ?_ GR);(refine AH V (CZ (new:=[_]) V V V (Qd.one (One.lit V)) V (Nat.le_of_ble_eq_true V) ?_);refine DS ?_ QA);exact C1 V)) (hk:=?_);refine As λC7 az=>?_
  refine Ah ?_;refine Ae λK8 h8=>?_
  refine Bw 7 V V V (λf=>(A2 (.bp (Ko Bf) G 0::.any::.lit (.pointer (jS ⟨a,0,jR⟩))::.lit (.pointer (jS ⟨c,0,jR⟩))::.any::.lit (.pointer (jS ⟨f,0,jR⟩))::A20 (A7 [])))) (λg=>(by(repeat(first|exact iW|refine iX ?_|refine iU ?_|refine iV V ?_)))) λf=>?_
  refine nT ?_;refine wR (hx:=by(refine sA ?_ (AI V FD V) (Au (Au GS));refine sA ?_ (Bc (i:=7) (g:=f) V GY V V V) (Au (Au JX));refine sA ?_ (Bc (i:=2) (g:=a) V Gt V V V) (Au (Au KP));refine sA ?_ (AO V V (Ajt G r m E) V V) (Au (Au I8));exact C1 V)) ?_;refine Ah ?_;refine AN ⟨(A2 (.bp (Ko Bf) G 0::.any::.lit (.pointer (jS ⟨a,0,jR⟩))::.lit (.pointer (jS ⟨c,0,jR⟩))::.any::.lit (.pointer (jS ⟨f,0,jR⟩))::A10 (.any::XW G r m::A10 (A5 [])))),[.dead,.dead,.res (Bh a [.lit (.map (jS m))]),.res (Bh c [.lit v]),.res (ER (b9 .i64) A m),.res (rowR v 3 tInt d),.dead,.res (Bh f [.lit (.int .i64 r)])]⟩ (AU) ?_;have aw:OkT G A r:=⟨E,(q.mov r).1,(q.mov r).2,(q.lik r).1,(q.lik r).2,(q.cl r).1,(q.cl r).2,ak⟩
  obtain⟨Y,af,ae⟩:=YM (Gu G A r) (Ei G A r);obtain⟨stop,U⟩:∃x,x=(Ei G A r).findIdx (Gu G A r):=⟨_,rfl⟩
  rw[<-U]at Y af ae;obtain⟨pp,ab⟩:∃x,x=(Ei G A r).getD stop 0:=⟨_,rfl⟩
  have ba:A.length < cF:=by have:=al;unfold cF;omega
  refine Acp (N:=(Ei G A r).length) (stop:=stop) (Φ:=λR=>Am6 R m (mapK (b9 .i64) A)) (encs:=λk=>[.lit (.int .i64 ((Ei G A r).getD k 0))]) 1 (λ_=>[.dead,.dead,.res (Bh a [.lit (.map (jS m))]),.res (Bh c [.lit v]),.res (ER (b9 .i64) A m),.res (rowR v 3 tInt d),.dead,.res (Bh f [.lit (.int .i64 r)])]) [.dead,.dead,.res (Bh a [.lit (.map (jS m))]),.res (Bh c [.lit v]),.res (ER (b9 .i64) (Cf A r pp) m),.res (rowR v 3 tInt d),.dead,.res (Bh f [.lit (.int .i64 r)])] az V V V ?_ (λ_=>rfl) V V (λ_=>rfl) (λ_=>rfl) (Zu G A r m stop aw) (λS bg w bf p=>Aif (Φ:=λW=>Ni W m (mapK (b9 .i64) A)) 4 V (λ_ _ h=>h) p) ?_ ?_ ?_ ?_
  ·exact⟨.dead (.dead (.cons (.cons (.cons (.cons (.dead (.cons (.nil _)))))))),λb B=>cO.1 (show bdH [.dead,.dead,.res (Bh a [.lit (.map (jS m))]),.res (Bh c [.lit v]),.res (ER (b9 .i64) A m),.res (rowR v 3 tInt d),.dead,.res (Bh f [.lit (.int .i64 r)])]=aZ from V) b B⟩
  ·intro j av au be aj;obtain⟨y,e⟩:∃x,(Ei G A r)[j]? =jS x:=⟨_,eC av⟩
   have Z:Ci y:=Xq q (fN e);have ad:Gu G A r y=aL:=ae j y au e;rw[show(Ei G A r).getD j 0=y by rw[dZ,e];rfl];refine Df (t':=(A2 (.bp (Ko Bf) G 0::.any::.lit (.pointer (jS ⟨a,0,jR⟩))::.lit (.pointer (jS ⟨c,0,jR⟩))::.any::.lit (.pointer (jS ⟨f,0,jR⟩))::A10 (.any::XW G r m::.lit (.int .i64 y)::A10 (A4 []))))) (h':=[.dead,.dead,.res (Bh a [.lit (.map (jS m))]),.res (Bh c [.lit v]),.res (ER (b9 .i64) A m),.res (rowR v 3 tInt d),.dead,.res (Bh f [.lit (.int .i64 r)])]) V V ?_;refine wRE (hx:=by(refine sA ?_ (AX.assign V (Aq (Aq Gt))) (Au GS);exact C1 V)) ?_;refine As λbc ai=>?_
   refine Ah ?_;refine wR (hx:=by(refine sA ?_ (AI V FD V) (Au (Au Gv));refine sA ?_ (Bc (i:=7) (g:=f) V GY V V V) (Au (Au Hh));refine sA ?_ (AX.move V (Aq IL)) (Au (Au GR));refine sA ?_ (Bc (i:=2) (g:=a) V Gt V V V) (Au (Au (Au GS)));refine sA (hq:=CR V (SD G A r y E Z (q.near r) (q.nearl r)) (.cons (.cl V) (.cons (.cl V) (.cons (.cl V) (.cons (Nj.map (i:=4) V) .nil))))) (ht:=(Au (Au (Au JX)))) (hk:=?_);exact C1 V)) (hk:=?_);refine Am V (λo=>?_) (λo=>?_)
   ·exfalso;rw[show Gu G A r y=aZ from o]at ad;cases ad
   ·refine Ao ?_;refine abN ?_;exact⟨rfl,(),⟨.dead (.dead (.cons (.cons (.cons (.cons (.dead (.cons (.nil _)))))))),λb B=>cO.1 (show bdH [.dead,.dead,.res (Bh a [.lit (.map (jS m))]),.res (Bh c [.lit v]),.res (ER (b9 .i64) A m),.res (rowR v 3 tInt d),.dead,.res (Bh f [.lit (.int .i64 r)])]=aZ from V) b B⟩⟩
  ·intro H be aj;obtain⟨y,e,F,I⟩:=Y H;have Z:Ci y:=Xq q (fN e);have X:pp=y:=by rw[ab,dZ,e];rfl
   rw[show(Ei G A r).getD stop 0=y by rw[dZ,e];rfl];refine Df (t':=(A2 (.bp (Ko Bf) G 0::.any::.lit (.pointer (jS ⟨a,0,jR⟩))::.lit (.pointer (jS ⟨c,0,jR⟩))::.any::.lit (.pointer (jS ⟨f,0,jR⟩))::A10 (.any::XW G r m::.lit (.int .i64 y)::A10 (A4 []))))) (h':=[.dead,.dead,.res (Bh a [.lit (.map (jS m))]),.res (Bh c [.lit v]),.res (ER (b9 .i64) A m),.res (rowR v 3 tInt d),.dead,.res (Bh f [.lit (.int .i64 r)])]) V V ?_;refine wRE (hx:=by(refine sA ?_ (AX.assign V (Aq (Aq Gt))) (Au GS);exact C1 V)) ?_;refine As λbc ai=>?_
   refine Ah ?_;refine wR (hx:=by(refine sA ?_ (AI V FD V) (Au (Au Gv));refine sA ?_ (Bc (i:=7) (g:=f) V GY V V V) (Au (Au Hh));refine sA ?_ (AX.move V (Aq IL)) (Au (Au GR));refine sA ?_ (Bc (i:=2) (g:=a) V Gt V V V) (Au (Au (Au GS)));refine sA (hq:=CR V (SD G A r y E Z (q.near r) (q.nearl r)) (.cons (.cl V) (.cons (.cl V) (.cons (.cl V) (.cons (Nj.map (i:=4) V) .nil))))) (ht:=(Au (Au (Au JX)))) (hk:=?_);exact C1 V)) (hk:=?_);refine Am V (λo=>?_) (λo=>?_)
   ·refine wR (hx:=by(refine sA ?_ (Bc (i:=2) (g:=a) V Gt V V V) (Au (Au (Au KP)));refine sA ?_ (Bc (i:=7) (g:=f) V GY V V V) (Au (Au (Au I8)));refine sA ?_ (AX.move V (Aq IL)) (Au (Au (Au JW)));(refine AH V (Kk 4 V Tryz.underlying51 V V V E ba V ?_);refine DS ?_ QA);exact C1 V)) (hk:=?_);refine AA ?_;refine exO (by decide) ?_;rw[X];exact⟨rfl,(),⟨.dead (.dead (.cons (.cons (.cons (.cons (.dead (.cons (.nil _)))))))),λb B=>cO.1 (show bdH [.dead,.dead,.res (Bh a [.lit (.map (jS m))]),.res (Bh c [.lit v]),.res (ER (b9 .i64) (Cf A r y) m),.res (rowR v 3 tInt d),.dead,.res (Bh f [.lit (.int .i64 r)])]=aZ from V) b B⟩⟩
   ·exfalso;rw[show Gu G A r y=aL from o]at F;cases F
  ·intro H;have z:MO G A r=jR:=af H;have K:EP G (A,d) r=(A,d++[r]):=by
    show(match MO G A r with|some p=>(Cf A r p,d)|none=>(A,d++[r]))=_;rw[z]
   rw[K];have am:EM (d.length+ [r].length) 8=aZ:=by
    unfold EM;simp only[zag,zai];unfold cF;omega
   refine h8 _ ?_;refine nT ?_;refine AAk λbj ah=>?_
   refine sA ?_ (Bc (i:=3) (g:=c) V Fu V V V) (Au (Au (Au Gv)));refine sA ?_ (Bc (i:=7) (g:=f) V GY V V V) (Au (Au (Au Hh)));refine sA ?_ (Cm (T:=tInt) V V V (by rfl) (by decide) (Fit.int E)) (Au (Au (Au GR)));refine AH V (V2 5 V V (Aq (Aq (Aq Fu))) V (Aq (Aq (Aq GY))) am λv'=>?_);refine DS ?_ (Av GS);refine AH V (IH (i:=3) (g:=c) (new:=[.lit v']) V Fu V (Qd.one (Mu (i:=5) V)) V V (i8 V) ?_);refine DS ?_ QA;refine Ax (ah _ ?_);refine abN ?_;refine⟨rfl,v',?_⟩;simp only[K];exact⟨.dead (.dead (.cons (.cons (.cons (.cons (.dead (.nil _))))))),λb B=>cO.1 (show bdH [.dead,.dead,.res (Bh a [.lit (.map (jS m))]),.res (Bh c [.lit v']),.res (ER (b9 .i64) A m),.res (rowR v' 3 tInt (d++[r])),.dead]=aZ from V) b B⟩
  ·intro H;obtain⟨y,e,F,I⟩:=Y H;have X:pp=y:=by rw[ab,dZ,e];rfl
   have z:MO G A r=jS pp:=by rw[X];exact I
   have K:EP G (A,d) r=(Cf A r pp,d):=by
    show(match MO G A r with|some p=>(Cf A r p,d)|none=>(A,d++[r]))=_;rw[z]
   rw[K];repeat(first|refine BF ?_|refine exO (by decide) ?_|refine asE ?_)
   refine exN ?_;exact⟨rfl,v,⟨.dead (.dead (.cons (.cons (.cons (.cons (.dead (.nil _))))))),λb B=>cO.1 (show bdH [.dead,.dead,.res (Bh a [.lit (.map (jS m))]),.res (Bh c [.lit v]),.res (ER (b9 .i64) (Cf A r pp) m),.res (rowR v 3 tInt d),.dead]=aZ from V) b B⟩⟩
 ·rintro _ rfl v D;have L:=MP G out;rw[<-hl]at L;rw[L];refine h4 _ ?_;refine AN ⟨(A2 (.bp (Ko Bf) G 0::.any::.lit (.pointer (jS ⟨a,0,jR⟩))::.lit (.pointer (jS ⟨c,0,jR⟩))::A20 (A9 []))),[.res (Bq [D]),.dead,.res (Bh a [.lit (.map (jS m))]),.res (Bh c [.lit v]),.res (ER (b9 .i64) (BJ G out).1 m),.res (rowR v 3 tInt (BJ G out).2),.dead]⟩ (AU) ?_;refine AN ⟨[.any,.any,.bp (Ko Bf) G 0,.any,.lit (.pointer (jS ⟨a,0,jR⟩)),.lit (.pointer (jS ⟨c,0,jR⟩)),.any,.any,.any,.any,.any,.any,.any,.any,.any,.any,.any,.any,.any,.any,.any,.any,.any,.any,.any,.any,.any,.any,.any,.any,.any,.any,.any,.any,.any],[.res (Bq [D]),.dead,.res (Bh a [.lit (.map (jS m))]),.res (Bh c [.lit v]),.res (ER (b9 .i64) (BJ G out).1 m),.res (rowR v 3 tInt (BJ G out).2),.dead]⟩ AU ?_;refine Ae λbh aa=>?_
  refine Fr (n:=4) () (λ(i:Unit) (b:Nat->Bool)=>⟨[.any,.any,.bp (Ko Bf) G 0,.any,.lit (.pointer (jS ⟨a,0,jR⟩)),.lit (.pointer (jS ⟨c,0,jR⟩)),.any,.any,.any,.any,.any,.any,.any,.any,.any,.any,.any,.any,.any,.any,.any,.any,.any,.any,.any,.any,.any,.any,.any,.any,.any,.any,.any,(bif b 0 then .lit (.map (jS m))else .any),(bif b 1 then .lit v else .any)],[.res (Bq [D]),.dead,.res (Bh a [.lit (.map (jS m))]),.res (Bh c [.lit v]),.res (ER (b9 .i64) (BJ G out).1 m),.res (rowR v 3 tInt (BJ G out).2),.dead]⟩) ?_ ?_ ?_ ?_ ?_
  ·rfl
  ·kernel_rfl
  ·kernel_rfl
  ·refine AP (λi b B ha hc=>?_) ?_
   ·try dsimp only
    refine Ba (Bc (i:=2) (g:=a) V Gt V V V) ?_;exact⟨i,i6⟩
   refine AP (λi b B ha hc=>?_) ?_
   ·try dsimp only
    refine Ba (Bc (i:=3) (g:=c) V Fu V V V) ?_;exact⟨i,i6⟩
   refine AP (λi b B ha hc=>?_) ?_
   ·have h0:b 0=aZ:=ha 0 _ V V;try dsimp only
    refine IH (i:=2) (g:=a) (new:=[.lit (.map (jS m))]) V Gt V (Qd.at ((Aw GH).trans (BL h0 _ _)) (Qd.one (One.lit V))) V V (i8 V) ?_;refine⟨i,?_⟩;exact i6
   refine AP (λi b B ha hc=>?_) ?_
   ·have h1:b 1=aZ:=ha 0 _ V V;try dsimp only
    refine IH (i:=3) (g:=c) (new:=[.lit v]) V Fu V (Qd.at ((Aw FD).trans (BL h1 _ _)) (Qd.one (Mu (i:=5) V))) V V (i8 V) ?_;refine⟨i,?_⟩;exact i6
   exact ND
  intro i;refine aa _ ?_;refine AN ⟨[.any,.any,.bp (Ko Bf) G 0,.any,.lit (.pointer (jS ⟨a,0,jR⟩)),.lit (.pointer (jS ⟨c,0,jR⟩)),.any,.any,.any,.any,.any,.any,.any,.any,.any,.any,.any,.any,.any,.any,.any,.any,.any,.any,.any,.any,.any,.any,.any,.any,.any,.any,.any,.lit (.map (jS m)),.lit v],[.res (Bq [D]),.dead,.res (Bh a [.lit (.map (jS m))]),.res (Bh c [.lit v]),.res (ER (b9 .i64) (BJ G out).1 m),.res (rowR v 3 tInt (BJ G out).2),.dead]⟩ i6 ?_;refine AN _ (DP 4 5 (by decide) V V) ?_;exact Az ⟨.inr V,[D],a,c,2,3,4,(m,v),.map (jS m),v,rfl,rfl,by decide,by decide,by decide,rfl,rfl,rfl,rfl,rfl,rfl⟩
theorem Ny{G:g9}{Q:Int->Prop}:∀(n:Nat) {E:List (Int×Int)} {l:List Int},Em E->(∀x,(getK E x).isSome=aZ->Q x)->(∀x∈l,Q x)->∀x∈DX G n E l,Q x
 |0,E,l,_,_,a=>a
 |n+1,E,l,c,hk,a=>by
  unfold DX;cases d:LP G E with
  |none=>exact a
  |some r=>
   have b:=LO d;refine Ny n (Lu c b).1 (λx hx=>hk x ?_) λx hx=>?_
   ·rw[G9 c]at hx;simp only[aI]at hx;exact hx.1
   ·rcases fC.1 hx with h|h
    ·exact a x h
    ·rw[fT.1 h];exact hk r b
theorem MV(a:OkG G)(out:List (Int×Int))(x:Int)(h:(getK (Iq G out) x).isSome=aZ):x∈G.regs/\(getK out x).getD 0=0:=by
 have h0:=L5 out a.regs;have h2:=(Gg G h0 (keysK (EN G.regs out)) (Cv h0.1) λq hq=>hq).2.1 x;have hk:(getK (EN G.regs out) x).isSome=aZ:=by
  rw[show Iq G out=(keysK (EN G.regs out)).foldl (SK G) (EN G.regs out)from V,h2]at h;split at h
  ·rw[jP]at h;exact h
  ·exact h
 rw[Py out a.regs x]at hk;split at hk
 ·assumption
 ·cases hk
theorem Io(a:OkG G):∀x∈C5 G out,x∈G.regs/\(getK out x).getD 0=0:=
 Ny _ (Js (out:=out) a).asc (MV a out) λx hx=>by cases hx
def Akv(G:g9)(out:List (Int×Int)):List (Int×Int):=(BJ G out).2.foldl (λo r=>Cf o r 1) out
def DW(G:g9):Nat->List (Int×Int)
 |0=>[]
 |n+1=>Akv G (DW G n)
theorem Re{G:g9}:∀(l:List Int) (s:List (Int×Int)×List Int) (x:Int),x∈(l.foldl (EP G) s).2->x∈s.2\/x∈l
 | [],s,x,h=>.inl h
 |r::l,s,x,h=>by
  rcases Re l (EP G s r) x h with h1|h1
  ·unfold EP at h1;cases a:MO G s.1 r with
   |some p=>rw[a]at h1;exact .inl h1
   |none=>
    rw[a]at h1;rcases fC.1 h1 with h2|h2
    ·exact .inl h2
    ·exact .inr (by rw[fT.1 h2];exact fH)
  ·exact .inr (fG _ h1)
theorem J1(a:OkG G)(h:x∈(BJ G out).2):x∈G.regs/\(getK out x).getD 0=0:=by
 rcases Re _ _ x h with h1|h1
 ·cases h1
 ·exact Io a x (fS.1 h1)
theorem LM:∀{o:List (Int×Int)},Em o->∀x,getK (l.foldl (λo r=>Cf o r 1) o) x=if x∈l then jS 1 else getK o x:=by
 induction l with
 |nil=>intro o h x;rfl
 |cons r l a=>
  intro o h x;show getK (l.foldl (λo r=>Cf o r 1) (Cf o r 1)) x=_;rw[a (h.put r 1) x,BM h];by_cases h1:x∈l
  ·rw[if_pos h1,if_pos (fG _ h1)]
  ·rw[if_neg h1];by_cases h2:x=r
   ·rw[if_pos h2,if_pos (by rw[h2];exact fH)]
   ·rw[if_neg h2,if_neg λh3=>by
     rcases fF.1 h3 with h3|h3
     ·exact h2 h3
     ·exact h1 h3]
def N5(G:g9)(out:List (Int×Int)):Nat:=(G.regs.filter λx=>(getK out x).getD 0 ==0).length
theorem UZ{b:Type}{p q:b->Bool}:∀{l:List b},(∀x∈l,q x=aZ->p x=aZ)->(∃x∈l,p x=aZ/\q x=aL)->(l.filter q).length < (l.filter p).length
 | [],_,⟨x,hx,_⟩=>by cases hx
 |y::l,h,⟨x,hx,h1,h2⟩=>by
  have f:(l.filter q).length<=(l.filter p).length:=by
   rw[<-dA,<-dA];exact List.countP_mono_left λz a=>h z (fG _ a)
  rcases fF.1 hx with e|hx
  ·subst e;rw[dP h1,dO (by rw[h2];decide),eQ];omega
  ·have d:=UZ (p:=p) (q:=q) (l:=l) (λz a=>h z (fG _ a)) ⟨x,hx,h1,h2⟩;cases hq:q y with
   |true=>
    rw[dP hq,dP (h y fH hq),eQ,eQ];omega
   |false=>
    rw[dO (by rw[hq];decide)];refine Nat.lt_of_lt_of_le d ?_;cases c:p y with
    |true=>rw[dP c,eQ];omega
    |false=>rw[dO (by rw[c];decide)];exact jA _
theorem Afn(b:OkG G)(a:Em out)(h:(BJ G out).2≠[]):N5 G (Akv G out) < N5 G out:=by
 unfold N5 Akv;refine UZ (λx hx hq=>?_) ?_
 ·rw[LM a]at hq;split at hq
  ·cases hq
  ·exact hq
 ·obtain⟨x,hx⟩:=dJ _ h;obtain⟨h1,h2⟩:=J1 b hx;refine⟨x,h1,by rw[h2];rfl,?_⟩;rw[LM a,if_pos hx];rfl
theorem Afb:∀{o:List (Int×Int)},okK o->(∀r∈l,Ci r)->okK (l.foldl (λo r=>Cf o r 1) o):=by
 induction l with
 |nil=>intro o h _;exact h
 |cons r l b=>intro o h a;exact b (h.put (a r fH) 1) λx hx=>a x (fG _ hx)
theorem Ap0(a:OkG G)(c:okK out):okK (Akv G out):=Afb c λr b=>a.regs r (J1 a b).1
theorem Gy{G:g9}(a:OkG G):∀n,okK (DW G n)
 |0=>okK.nil
 |n+1=>Ap0 a (Gy a n)
theorem Afm(b:OkG G)(a:Em out)(h:∀x∈keysK out,x∈G.regs):∀x∈keysK (Akv G out),x∈G.regs:=λx hx=>by
 have h1:=CW.1 hx;unfold Akv at h1;rw[LM a]at h1;split at h1
 ·rename_i h2;exact(J1 b h2).1
 ·exact h x (CW.2 h1)
theorem Xn(b:OkG G):∃n,(BJ G (DW G n)).2= []/\n<=N5 G []:=by
 have a:∀n,(∀k,k < n->(BJ G (DW G k)).2≠[])->N5 G (DW G n)+n<=N5 G []:=by
  intro n;induction n with
  |zero=>intro _;exact jA _
  |succ n c=>
   intro h;have h1:=c λk hk=>h k (by omega)
   have h2:=Afn b (Gy b n).1 (h n (jD n));show N5 G (Akv G (DW G n))+(n+1)<=_;omega
 refine a7 λd=>?_
 have:=a (N5 G []+1) λk hk e=>d ⟨k,e,by omega⟩
 omega
def LX(G:g9)(r:Int):List Int:=(getK G.near r).getD []
def QN(G:g9)(r:Int):List Int:=(getK G.cls r).getD []
structure SymG(G:CGraph):Prop where
 sym:∀a b,b∈LX G a->a∈LX G b
 irr:∀a,a∉LX G a
def Azv(G:g9)(A:List (Int×Int)):Prop:=∀a p,getK A a=jS p->∀b,b∈LX G a->getK A b≠jS p
theorem JB:Gu G A r p=aZ↔∀k∈LX G r,getK A k≠jS p:=by
 unfold Gu;rw[aR,cQ];constructor
 ·intro h k hk e;refine h k hk ?_;unfold freeP;rw[e];simp
 ·intro h k hk a;unfold freeP at a;rw[aI]at a;obtain⟨v,b⟩:=jO.1 a.1;refine h k hk ?_;rw[b]at a⊢;rw[eq_of_beq a.2];rfl
theorem Azv.put(g:SymG G)(k:Em A)(h:Azv G A)(f:Gu G A r p=aZ):Azv G (Cf A r p):=by
 rw[JB]at f;intro a q c b d;rw[BM k]at c⊢;by_cases j:a=r
 ·subst j;rw[if_pos V]at c;cases c;rw[if_neg λe:b=a=>g.irr a (by rw[e]at d;exact d)];exact f b d
 ·rw[if_neg j]at c;by_cases i:b=r
  ·subst i;rw[if_pos V];intro e;cases e;exact f a (g.sym a b d) c
  ·rw[if_neg i];exact h a q c b d
structure PntQ(G:CGraph)(s:List (Int×Int)×List Int)(Q:Int->Prop):Prop where
 asc:Em s.1
 nocl:Azv G s.1
 cl:∀r p,getK s.1 r=some p->p∈QN G r
 key:∀r,(getK s.1 r).isSome=true->Q r
 all:∀r,Q r->(getK s.1 r).isSome=true\/r∈s.2
theorem PntQ.next(f:SymG G){s:List (Int×Int)×List Int}(h:PntQ G s Q)(r:Int):PntQ G (EP G s r) λx=>Q x\/x=r:=by
 unfold EP;cases b:MO G s.1 r with
 |none=>
  refine⟨h.asc,h.nocl,h.cl,λx hx=>.inl (h.key x hx),λx hx=>?_⟩;rcases hx with hx|rfl
  ·rcases h.all x hx with h1|h1
   ·exact .inl h1
   ·exact .inr (fD _ h1)
  ·exact .inr (fE _ (fT.2 V))
 |some p=>
  have d:Gu G s.1 r p=aZ:=List.find?_some b;have c:=Ub b;unfold Ei at c;have hc:=(fJ.1 c).2;rw[cY]at hc;have hg:∀x,getK (Cf s.1 r p) x=if x=r then jS p else getK s.1 x:=λx=>BM h.asc _ _ _
  refine⟨h.asc.put r p,h.nocl.put f h.asc d,λx q hx=>?_,λx hx=>?_,λx hx=>?_⟩
  ·have a:getK (Cf s.1 r p) x=jS q:=hx;clear hx;rw[hg x]at a;split at a
   ·rename_i e;subst e;cases a;exact hc
   ·exact h.cl x q a
  ·have hx:(getK (Cf s.1 r p) x).isSome=aZ:=hx;rw[hg]at hx;split at hx
   ·rename_i e;exact .inr e
   ·exact .inl (h.key x hx)
  ·show(getK (Cf s.1 r p) x).isSome=aZ\/x∈s.2;rw[hg];split
   ·exact .inl V
   ·rename_i e;exact h.all x (hx.resolve_right e)
theorem Ant{G:g9}(b:SymG G):∀(l:List Int) {s:List (Int×Int)×List Int} {Q:Int->Prop},PntQ G s Q->PntQ G (l.foldl (EP G) s) λx=>Q x\/x∈l
 | [],s,Q,h=>⟨h.asc,h.nocl,h.cl,λr a=>.inl (h.key r a),λr a=>h.all r (a.resolve_right λh=>by cases h)⟩
 |r::l,s,Q,h=>by
  have h1:=Ant b l (h.next b r);exact⟨h1.asc,h1.nocl,h1.cl,λx hx=>by
   rcases h1.key x hx with(h2|h2)|h2
   ·exact .inl h2
   ·exact .inr (h2▸fH)
   ·exact .inr (fG _ h2),λx hx=>h1.all x (by
   rcases hx with hx|hx
   ·exact .inl (.inl hx)
   ·rcases fF.1 hx with hx|hx
    ·exact .inl (.inr hx)
    ·exact .inr hx)⟩
theorem Aks{E:List (Int×Int)}(hk:∀x,(getK E x).isSome=aZ->x∈G.regs)(c:E≠[])(d:Em E):∃r,LP G E=jS r:=by
 unfold LP;cases h1:G.regs.find? (Ri G E)with
 |some r=>exact⟨r,rfl⟩
 |none=>
  show∃r,(G.cheap++G.regs).find? (λr=>(getK E r).isSome)=jS r;obtain⟨p,b⟩:=dJ _ c;have a:(getK E p.1).isSome=aZ:=by rw[(CS d).2 b];rfl
  cases h2:(G.cheap++G.regs).find? λr=>(getK E r).isSome with
  |some r=>exact⟨r,rfl⟩
  |none=>
   rw[dU]at h2;exact absurd a (h2 p.1 (fE _ (hk _ a)))
theorem Pe{G:g9}:∀(n:Nat) (E:List (Int×Int)) (l:List Int) (x:Int),x∈l->x∈DX G n E l
 |0,E,l,x,h=>h
 |n+1,E,l,x,h=>by
  unfold DX;cases LP G E with
  |none=>exact h
  |some r=>exact Pe n _ _ x (fD _ h)
theorem Pg{G:g9}:∀(n:Nat) {E:List (Int×Int)} {l:List Int},E.length=n->Em E->(∀x,(getK E x).isSome=aZ->x∈G.regs)->∀x,(getK E x).isSome=aZ->x∈DX G n E l
 |0,E,l,a,_,_,x,hx=>by
  rw[dH a]at hx;cases hx
 |n+1,E,l,a,b,hk,x,hx=>by
  obtain⟨r,d⟩:=Aks hk (λe=>by rw[e]at a;cases a) b;have f:=LO d;obtain⟨h1,h2⟩:=Lu (G:=G) b f;unfold DX;rw[d];by_cases e:x=r
  ·exact Pe n _ _ x (by rw[e];simp)
  ·refine Pg n (by omega) h1 (λy c=>hk y ?_) x ?_
   ·rw[G9 b,aI]at c;exact c.1
   ·rw[G9 b,hx];simpa using e
theorem Agj(b:OkG G)(out:List (Int×Int))(hx:x∈G.regs)(h0:(getK out x).getD 0=0):(getK (Iq G out) x).isSome=aZ:=by
 have h1:=L5 out b.regs;have h2:=(Gg G h1 (keysK (EN G.regs out)) (Cv h1.1) λq hq=>hq).2.1 x;have a:=Py out b.regs x;rw[if_pos ⟨hx,h0⟩]at a;rw[show Iq G out=(keysK (EN G.regs out)).foldl (SK G) (EN G.regs out)from V,h2];split
 ·rw[a];rfl
 ·rw[a];rfl
theorem Rh(a:OkG G):x∈C5 G out↔x∈G.regs/\(getK out x).getD 0=0:=
 ⟨Io a x,λh=>Pg _ V (Js (out:=out) a).asc (λy b=>(MV a out y b).1) x (Agj a out h.1 h.2)⟩
theorem Yi(c:OkG G)(d:SymG G)(out:List (Int×Int)):PntQ G (BJ G out) λx=>x∈G.regs/\(getK out x).getD 0=0:=by
 have h:=Ant d (C5 G out).reverse (s:=([],[])) (Q:=λ_=>False) ⟨Em.nil,λa p h=>(by cases h),λr p h=>(by cases h),λr h=>(by cases h),λr h=>h.elim⟩;refine⟨h.asc,h.nocl,h.cl,λr b=>?_,λr b=>?_⟩
 ·rcases h.key r b with h1|h1
  ·exact h1.elim
  ·exact(Rh c).1 (fS.1 h1)
 ·exact h.all r (.inr (fS.2 ((Rh c).2 b)))
structure SltQ(G:CGraph)(s:List (Int×Int)×Int)(Q:Int->Prop):Prop where
 asc:Em s.1
 nocl:Azv G s.1
 cl:∀r p,getK s.1 r=some p->p∈QN G r\/(32<=p/\p < 32+s.2)
 key:∀r,(getK s.1 r).isSome=true↔Q r
 pos:0<=s.2
 use:∀z:Int,32<=z->z < 32+s.2->∃r,getK s.1 r=some z
theorem SltQ.next(o:SymG G){s:List (Int×Int)×Int}(h:SltQ G s Q)(j:¬Q r):SltQ G (I2 G s r) λx=>Q x\/x=r:=by
 obtain⟨h1,h2,i⟩:=ME G s.1 r;have m:getK s.1 r=jR:=by
  cases e:getK s.1 r with
  |none=>rfl
  |some v=>exact absurd ((h.key r).1 (by rw[e];rfl)) j
 unfold I2;obtain⟨n,g⟩:∃n,n=slotN G s.1 r:=⟨_,rfl⟩
 rw[<-g]at h1 h2 i⊢;have hg:∀x,getK (Cf s.1 r (32+(n:Int))) x=if x=r then jS (32+(n:Int))else getK s.1 x:=λx=>BM h.asc _ _ _
 have B:=h.pos;refine⟨h.asc.put _ _,h.nocl.put o h.asc h2,λx q hx=>?_,λx=>?_,?_,λz d b=>?_⟩
 ·have c:getK (Cf s.1 r (32+(n:Int))) x=jS q:=hx;clear hx;rw[hg]at c;show q∈QN G x\/(32<=q/\q < 32+max s.2 ((n:Int)+1));split at c
  ·cases c;exact .inr (by omega)
  ·rcases h.cl x q c with h4|h4
   ·exact .inl h4
   ·exact .inr (by omega)
 ·show(getK (Cf s.1 r (32+(n:Int))) x).isSome=aZ↔_;rw[hg];split
  ·rename_i e;exact⟨λ_=>.inr e,λ_=>rfl⟩
  ·rename_i e;rw[h.key x];exact⟨.inl,λk=>k.resolve_right e⟩
 ·show 0<=max s.2 ((n:Int)+1);omega
 ·show∃x,getK (Cf s.1 r (32+(n:Int))) x=jS z;have b:z < 32+max s.2 ((n:Int)+1):=b;have a:(∃x,getK s.1 x=jS z)->∃x,getK (Cf s.1 r (32+(n:Int))) x=jS z:=λ⟨x,hx⟩=>⟨x,by rw[hg,if_neg λe=>by rw[e,m]at hx;cases hx];exact hx⟩
  by_cases y:z < 32+s.2
  ·exact a (h.use z d y)
  ·by_cases w:z=32+(n:Int)
   ·exact⟨r,by rw[hg,if_pos V,w]⟩
   ·have h4:=i (z - 32).toNat (by omega);rw[show 32+(((z - 32).toNat:Nat):Int)=z by omega]at h4;refine a ?_;refine a7 λf=>?_
    rw[JB.2 λk _ e=>f ⟨k,e⟩]at h4;cases h4
theorem Aun{G:g9}(b:SymG G):∀(l:List Int) {s:List (Int×Int)×Int} {Q:Int->Prop},SltQ G s Q->l.Nodup->(∀x∈l,¬Q x)->SltQ G (l.foldl (I2 G) s) λx=>Q x\/x∈l
 | [],s,Q,h,_,_=>⟨h.asc,h.nocl,h.cl,λr=>by simpa using h.key r,h.pos,h.use⟩
 |r::l,s,Q,h,a,hq=>by
  rw[fX]at a;have h1:=Aun b l (h.next b (hq r fH)) a.2 λx hx hh=>by
   rcases hh with hh|hh
   ·exact hq x (fG _ hx) hh
   ·exact a.1 (hh▸hx)
  refine⟨h1.asc,h1.nocl,h1.cl,λx=>?_,h1.pos,h1.use⟩;rw[dX,h1.key x,fF,or_assoc]
theorem Aee(i:OkG G)(c:SymG G)(g:Em out)(h1:∀x v,getK out x=jS v->v=1)(f:∀x∈keysK out,x∈G.regs)(h0:(BJ G out).2= []):SltQ G (I0 G out (BJ G out).1) λx=>x∈G.regs:=by
 have a:=Yi i c out;have hq:SltQ G ((BJ G out).1,0) λx=>x∈G.regs/\(getK out x).getD 0=0:=⟨a.asc,a.nocl,λr p h=>.inl (a.cl r p h),λr=>⟨a.key r,λh=>(a.all r h).resolve_right λh=>by rw[h0]at h;cases h⟩,cH 0,λz h2 d=>by have d:z < 32+0:=d;omega⟩
 have hk:∀x,x∈keysK out->(getK out x).getD 0≠0:=λx hx=>by
  obtain⟨v,b⟩:=jO.1 (CW.1 hx);rw[b,h1 x v b];decide
 have h:=Aun c (keysK out) hq (Cv g) λx hx hh=>hk x hx hh.2
 refine⟨h.asc,h.nocl,h.cl,λx=>?_,h.pos,h.use⟩;show(getK (((keysK out).foldl (I2 G) ((BJ G out).1,0))).1 x).isSome=aZ↔_;rw[h.key x];constructor
 ·rintro(h2|h2)
  ·exact h2.1
  ·exact f x h2
 ·intro h2;by_cases e:x∈keysK out
  ·exact .inr e
  ·refine .inl ⟨h2,?_⟩;cases j:getK out x with
   |none=>rfl
   |some v=>exact absurd (CW.2 (by rw[j];rfl)) e
theorem LT{G:g9}(a:OkG G):∀n x v,getK (DW G n) x=jS v->v=1
 |0,x,v,h=>by cases h
 |n+1,x,v,h=>by
  have h:getK (Akv G (DW G n)) x=jS v:=h;unfold Akv at h;rw[LM (Gy a n).1]at h;split at h
  ·cases h;rfl
  ·exact LT a n x v h
theorem J3{G:g9}(a:OkG G):∀n,∀x∈keysK (DW G n),x∈G.regs
 |0,x,h=>by cases h
 |n+1,x,h=>Afm a (Gy a n).1 (J3 a n) x h
theorem Yf(e:OkG G)(b:okK out)(d:∀x∈keysK out,x∈G.regs)(c:∀x∈l,x∈G.regs):(l.foldl (λo r=>Cf o r 1) out).length<=G.regs.length:=by
 have h1:=Afb (l:=l) b λx hx=>e.regs x (c x hx)
 have h2:=Dq (Cv h1.1) (m:=G.regs) λx hx=>by
  have a:=CW.1 hx;rw[LM b.1]at a;split at a
  ·rename_i f;exact c x f
  ·exact d x (CW.2 a)
 simpa[keysK]using h2
theorem Akr(f:(QN G r).Nodup)(g:(LX G r).length < (QN G r).length):∃p,MO G A r=jS p:=by
 unfold MO;cases d:(Ei G A r).find? (Gu G A r)with
 |some p=>exact⟨p,rfl⟩
 |none=>
  rw[dU]at d;have c:=Fg (m:=(LX G r).map λx=>(getK A x).getD 0) f λp a=>by
   have hc:p∈Ei G A r:=by
    unfold Ei Zt;refine fJ.2 ⟨?_,cY.2 a⟩;simp only[fC];exact .inr a
   have h1:=d p hc;refine a7 λb=>h1 (JB.2 λk hk e=>b ?_)
   exact fM.2 ⟨k,hk,by rw[e];rfl⟩
  rw[eT]at c;omega
theorem Ue{G:g9}(b:∀r∈G.regs,(QN G r).Nodup/\(LX G r).length < (QN G r).length):∀(l:List Int),(∀x∈l,x∈G.regs)->∀(s:List (Int×Int)×List Int),(l.foldl (EP G) s).2=s.2
 | [],_,s=>rfl
 |r::l,a,s=>by
  obtain⟨h1,h2⟩:=b r (a r fH);obtain⟨p,c⟩:=Akr (A:=s.1) h1 h2;rw[dX,Ue b l (λx hx=>a x (fG _ hx))];unfold EP;rw[c]
theorem Z2(b:OkG G)(a:∀r∈G.regs,(QN G r).Nodup/\(LX G r).length < (QN G r).length)(out:List (Int×Int)):(BJ G out).2= []:=
 Ue a _ (λx hx=>(Io b x (fS.1 hx)).1) _
theorem Lg(d:C.std)(i j:Nat){l:List (Int×Int)}{g:Nat}(hi:h[i]? =jS (.res (ER (b9 .i64) l g)))(c:t[j]? =jS (.lit (.map (jS g)))):St.le C ⟨t,h⟩ ⟨t.set j (.tv tMapI l),h.set i .dead⟩:=
 HV i j hi V V c (UN d hi V) λS ψ w v H b=>by
  obtain⟨_,a⟩:=H.blk i _ hi;unfold gY at b⊢;rw[b];exact tMapI.keepS (Rk (S:=λk=>k=g) a V) (λ_ _=>rfl) λk hk=>.inr hk
theorem JN(f:C.std)(i j:Nat){v:bZ}(hi:h[i]? =jS (.res (rowR v 3 tInt l)))(e:t[j]? =jS (.lit v)):St.le C ⟨t,h⟩ ⟨t.set j (.bs tInt l),h.set i .dead⟩:=
 HV i j hi V V e (UN f hi V) λS ψ w u H b=>by
  obtain⟨_,a⟩:=H.blk i _ hi;unfold gY at b⊢;rw[b];obtain⟨h1,h2⟩:=Od a;refine Dh (T:=tInt) h1 (λj d c=>?_) λg hg=>.inr (AY hg)
  show tInt.RS w _ (((l.map (b9 .i64)).drop (j * 1)).take 1) d;have hi:(l.map (b9 .i64))[j]? =jS (.int .i64 d):=by rw[eF,c];rfl
  rw[jI,gT,eO,hi];exact DR.2 ⟨rfl,h2 d (fN c)⟩
end Mu
namespace Mu
open Go Go.RowKit Go.Proofs
section
variable{P:bS}{C:Ctx}{t:List AV}{h:List gV}{o:bP}{ι:Type}{Rs:ι->Res}{val:ι->bZ}
theorem JU{f:FuncId}{args:Array bR}{b:Array bY}{xs:List AV}{K:St->Prop}
 (d:o.op= .call {callee:=.value (.func f),args:=args,argTypes:=b})(i:Nk P f xs Rs val)(q:∀p w S S',(Rs p).R w S->(Rs p).R w S')(k:∀p,(Rs p).mrk= [])(hx:LendWs h (args.toList.map (evA t)) xs)
 (y:∀p,K ⟨Br t o.dst (.lit (val p)),h++[.res (Rs p)]⟩):AOp P C o ⟨t,h⟩ K:=by
 refine C8 k (λS ψ w ρ H a=>?_) y;have h1:ρ (.func f)= .func (.func f) #[] #[]:=by
  have:=a (.func f) (by rw[d];exact aC.2 (.inl (by simp)));simpa[evA,gY]using this
 rw[CC d i.1 ρ w h1];refine⟨rfl,?_⟩;have h2:Ak w S h ψ (args.toList.map (evA t)) (args.toList.map ρ):=Ck λx c=>a x (by rw[d];exact aC.2 (.inr (aD.1 c)))
 have z:=i.2 w _ (args.toList.map ρ) (λ_ h=>h) (hx.rel H h2);rw[show(args.map ρ)=(args.toList.map ρ).toArray from(by rw[<-aE])];refine z.mono ?_;rintro e w' ⟨v,m,hg,p,j,s,g⟩;exact⟨v,m,hg,p,j,q p w' _ _ s,g⟩
end
open Go.Maps
variable{l:List Int}
theorem Agh(h:l= []):((l.length:Int) ==0)=aZ:=by subst h;rfl
theorem Yz(h:l≠[]):((l.length:Int) ==0)=aL:=by
 cases l with
 |nil=>exact absurd V h
 |cons x l=>rw[eQ];exact beq_false_of_ne (by omega)
theorem Xl(f:iE)(b:Fn bV 11 [.agg (An f)] (.lit (.bool aL))):
 Fn bV 9 [.agg (An f)] (.tup [.agg (BS ⟨aL,0,[]⟩),.lit (.int .i64 2)]):=by
 refine Ll bT V (by kernel_rfl) V (by kernel_rfl:RG bV 29=jS (aZ,3)) bU λC c=>?_
 simp only[Nat.reduceAdd,Nat.reduceSub,zaa];refine wR ?_;refine Ae λd h2=>?_
 refine wR (hx:=by((repeat(first|refine sA ?_ (AO V V b V V)|refine sA ?_|refine AR ?_|refine sAG ?_|refine Bt ?_));exact C1 V)) ?_;refine Am V (λa=>?_) (λa=>?_)
 ·refine wR (hx:=by((repeat(first|refine sA ?_ (BT (rs:=[.lit (.bool false),.lit (.int .i64 0),.lit (.slice none 0 0)]) V Ans V V)|refine sA ?_|refine AR ?_|refine sAG ?_|refine Bt ?_));exact C1 V)) (hk:=?_);exact Az ⟨.inr V,1,_,rfl,rfl,rfl,Fin.weak V (λ_ _ _ H=>Up.rel (AAc (.cons (QP (.cons (.refl _) (.cons (.refl _) (.cons (.nil _) .nil)))) (.cons (.refl _) .nil))) H)⟩
 ·exact absurd a (by decide)
theorem Xm(f:iE)(e:Fn bV 11 [.agg (An f)] (.lit (.bool aZ)))(i:g9)(q:iZ)(b:Fn bV 24 [.agg (An f)] (.lit (.bool aZ)))
 (k:Fn bV 25 [.agg (An f),.lit (.bool aZ)] (.bp Bf i 0))(m:iT i)(h0:(BJ i []).2= [])
 (j:Fn bV 27 [.agg (An f),.tv tMapI (BJ i []).1,.lit (.bool aZ),.lit (.int .i64 0)] (.agg (BS q))):
 Fn bV 9 [.agg (An f)] (.tup [.agg (BS q),.lit (.int .i64 0)]):=by
 refine Ll bT V (by kernel_rfl) V (by kernel_rfl:RG bV 29=jS (aZ,3)) bU λC s=>?_
 simp only[Nat.reduceAdd,Nat.reduceSub,zaa];refine wR ?_;refine Ae λz h2=>?_
 refine wR (hx:=by((repeat(first|refine sA ?_ (AO V V e V V)|refine sA ?_|refine AR ?_|refine sAG ?_|refine Bt ?_));exact C1 V)) ?_;refine Am V (λd=>?_) (λd=>?_)
 ·exact absurd d (by decide)
 ·refine Ao ?_;refine h2 _ ?_;refine nT ?_;refine Ae λy w=>?_
  refine wR (hx:=by((repeat(first|refine sA ?_ (AO V V b V V)|refine sA ?_|refine AR ?_|refine sAG ?_|refine Bt ?_));exact C1 V)) ?_;refine Am V (λc=>?_) (λc=>?_)
  ·refine wRK λv g=>?_
   refine sA ?_ (AW V GH V V) (Au (Au (JW)));refine sA ?_ (AO V (Pu (Aq (Aq (Gt))) V) k V V) (Au (Au (Gv)));refine AH V (JU V (Pc i [] m) Oi (λ_=>rfl) (.cons (.cl V) (.cons NR .nil)) λp=>?_);refine DS ?_ (Au (Au (Hh)));refine sA ?_ (AX.move V V) (Au (Au (I8)));refine sA ?_ (BY V V V) (Au (Au (GR)));refine sA ?_ (BY V V V) (Au (Au (Au (GS))));refine sA ?_ (AX.assign V V) (JW);refine sA ?_ (AX.assign V V) (Gv);refine Ax (g _ ?_);refine AN _ (EX 2 V) ?_;refine nT ?_;refine AN _ (JN s 3 5 V V) ?_;refine nT ?_;refine wR ?_;refine Am V (λa=>?_) (λa=>?_)
   ·refine AN _ (Lg s 2 4 V V) ?_;refine nT ?_;refine wR (hx:=by((repeat(first|refine sA ?_ (AO V V j V V)|refine sA ?_|refine AR ?_|refine sAG ?_|refine Bt ?_));exact C1 V)) ?_;exact Az ⟨.inr V,1,_,rfl,rfl,rfl,iC V⟩
   ·rw[h0]at a;exact absurd a (by decide)
  ·exact absurd c (by decide)
theorem Vd(f:iE)(L:Fn bV 11 [.agg (An f)] (.lit (.bool aZ)))(Y a:g9)(lf:Bool)(n:Nat)(p0:iZ)(E:Fn bV 24 [.agg (An f)] (.lit (.bool lf)))
 (z:lf=aZ->Fn bV 25 [.agg (An f),.lit (.bool aZ)] (.bp Bf Y 0))(ag:iT Y)(h1:lf=aZ->(BJ Y []).2≠[])
 (af:Fn bV 25 [.agg (An f),.lit (.bool aL)] (.bp Bf a 0))(b:iT a)
 (hn:(BJ a (DW a n)).2= [])(ad:∀k,k < n->(BJ a (DW a k)).2≠[])
 (F:Fn bV 27 [.agg (An f),.tv tMapI (I0 a (DW a n) (BJ a (DW a n)).1).1,.lit (.bool aL),.lit (.int .i64 (I0 a (DW a n) (BJ a (DW a n)).1).2)] (.agg (BS p0))):
 Fn bV 9 [.agg (An f)] (.tup [.agg (BS p0),.lit (.int .i64 0)]):=by
 refine Ll bT V (by kernel_rfl) V (by kernel_rfl:RG bV 29=jS (aZ,3)) bU λC X=>?_
 simp only[Nat.reduceAdd,Nat.reduceSub,zaa];refine wR ?_;refine Ae λK2 h2=>?_
 refine wR (hx:=by((repeat(first|refine sA ?_ (AO V V L V V)|refine sA ?_|refine AR ?_|refine sAG ?_|refine Bt ?_));exact C1 V)) ?_;refine Am V (λK=>?_) (λK=>?_)
 ·exact absurd K (by decide)
 ·refine Ao ?_;refine h2 _ ?_;refine nT ?_;refine Tc ⟨(.agg (An f)::.ptr 0 0::.ptr 1 0::A40 (A10 (A7 []))),[.box (An f),.box [.lit (.bool aL),.lit (.int .i64 0),.lit (.slice jR 0 0)]]⟩ ?_ ?_
  ·refine wR (hx:=by((repeat(first|refine sA ?_ (AO V V E V V)|refine sA ?_|refine AR ?_|refine sAG ?_|refine Bt ?_));exact C1 V)) ?_;refine Am V (λJ=>?_) (λJ=>?_)
   ·have I:lf=aZ:=J;have z:=z I;refine wRK λav U=>?_
    refine sA ?_ (AW V GH V V) (Au (Au (JW)));refine sA ?_ (AO V (Pu (Aq (Aq (Gt))) V) z V V) (Au (Au (Gv)));refine AH V (JU V (Pc Y [] ag) Oi (λ_=>rfl) (.cons (.cl V) (.cons NR .nil)) λp=>?_);refine DS ?_ (Au (Au (Hh)));refine sA ?_ (AX.move V V) (Au (Au (I8)));refine sA ?_ (BY V V V) (Au (Au (GR)));refine sA ?_ (BY V V V) (Au (Au (Au (GS))));refine sA ?_ (AX.assign V V) (JW);refine sA ?_ (AX.assign V V) (Gv);refine Ax (U _ ?_);refine AN _ (EX 2 V) ?_;refine nT ?_;refine AN _ (JN X 3 5 V V) ?_;refine nT ?_;refine wR ?_;refine Am V (λv=>?_) (λv=>?_)
    ·exact absurd v (by rw[Yz (h1 I)];decide)
    ·refine Ao ?_;exact Ky (hc:=.cons (.cons (.nil _)))
   ·refine Ao ?_;exact Ky (hc:=.cons (.cons (.nil _)))
  ·refine wRK λau T=>?_
   refine sA ?_ (AW V GH V V) (Au (Au (Au (GR))));refine sA (hq:=AO V (Pu (Aq (Aq (Aq (GY)))) V) af V V) (ht:=(Av (GS))) (hk:=?_);refine AH V (Kl (b9 .i64) V λm=>?_);refine DS ?_ (Av (JX));refine sA ?_ (AX.assign V V) (Hh);refine sA ?_ (AX.assign V V) (GR);refine Ax (T _ ?_);refine Ah ?_;refine AJ (λk:Nat=>⟨(.agg (An f)::.ptr 0 0::.ptr 1 0::A3 (.bp Bf a 0::.lit (.map (jS m))::A40 (A10 (A2 [])))),[.box (An f),.box [.lit (.bool aL),.lit (.int .i64 0),.lit (.slice jR 0 0)],.res (ER (b9 .i64) (DW a k) m)]⟩) (λk=>k<=n) (λk=>n - k) 0 (jL _) (AU) ?_;rintro k hk;have hk:k<=n:=hk;obtain⟨out,c⟩:∃x,x=DW a k:=⟨_,rfl⟩
   have y:okK out:=by rw[c];exact Gy b.toOkG k
   have H:∀x∈keysK out,x∈a.regs:=by rw[c];exact J3 b.toOkG k
   have ab:out.length<=1073741824:=jB (Yf b.toOkG y H (l:=[]) λx hx=>by cases hx) b.len;have w:=J2 b out _ (jA _);rw[MP]at w;have al:=Rg b.toOkG (out:=out);have aa:=w.len;have B:∀x∈(BJ a out).2,x∈a.regs:=λx hx=>(J1 b.toOkG hx).1
   rw[<-c];refine Ah ?_;refine wRK λar S=>?_
   refine sA ?_ (AX.move V V) (Av (I8));refine sA ?_ (AX.move V V) (Av (JW));refine AH V (JU V (Pc a out b) Oi (λ_=>rfl) (.cons (.cl V) (.cons (Nj.map (i:=2) V) .nil)) λp=>?_);refine DS ?_ (Av (Gv));refine sA ?_ (AX.move V V) (Av (KP));refine sA ?_ (BY V V V) (Av (Hh));refine sA ?_ (BY V V V) (Av (GR));refine sA ?_ (AX.assign V V) (Au (GS));refine sA ?_ (AX.assign V V) (Au (JX));refine Ax (S _ ?_);refine AN _ (EX 3 V) ?_;refine nT ?_;refine AN _ (JN X 4 9 V V) ?_;refine nT ?_;refine Ae λaq ak=>?_
   refine wR ?_;refine Am V (λg=>?_) (λg=>?_)
   ·have D:(BJ a out).2= []:=by
     refine a7 λac=>?_
     have W:(((BJ a out).2.length:Int) ==0)=aZ:=g;rw[Yz ac]at W;cases W
    obtain rfl:k=n:=by
     refine i7 hk (Nat.not_lt.1 λs=>ad k s ?_);rw[<-c];exact D
    refine AN _ (Lg X 2 7 V V) ?_;refine nT ?_;refine wRK λap O=>?_
    refine sA ?_ (AX.move V V) (Au (Av (I8)));refine sA ?_ (AX.move V V) (Au (Av (JW)));refine sA ?_ (AX.move V V) (Au (Av (Gv)));refine AH V (BW (i:=3) V V (ZI a out (BJ a out).1 p.1 b y ab w.asc (by omega)) (λ_=>rfl) V V λ_=>?_);refine DS ?_ (Au (Av (Hh)));refine sA ?_ (AX.assign V V) (Au (KP));refine Ax (O _ ?_);refine AN _ (Lg X 3 8 V V) ?_;refine nT ?_;rw[<-c]at F;refine wR (hx:=by((repeat(first|refine sA ?_ (AO V V F V V)|refine sA ?_|refine AR ?_|refine sAG ?_|refine Bt ?_));exact C1 V)) ?_;exact Az ⟨.inr V,1,_,rfl,rfl,rfl,iC V⟩
   ·have D:(BJ a out).2≠[]:=λe=>by
     have W:(((BJ a out).2.length:Int) ==0)=aL:=g;rw[Agh e]at W;cases W
    have ae:k < n:=Nat.lt_of_le_of_ne hk λe=>D (by rw[c,e];exact hn)
    obtain⟨N,hN⟩:∃x,x=(BJ a out).2:=⟨_,rfl⟩
    rw[<-hN]at B aa;rw[<-hN];refine Ao ?_;refine ak _ ?_;refine nT ?_;refine wR ?_;refine Ah ?_;refine AJ (λj:Nat=>⟨(.agg (An f)::.ptr 0 0::.ptr 1 0::A3 (.bp Bf a 0::.lit (.map (jS m))::A40 (A3 (.bs tInt N::.lit (.int .i64 (N.length:Int))::.lit (.int .i64 (j:Int))::A6 [])))),[.box (An f),.box [.lit (.bool aL),.lit (.int .i64 0),.lit (.slice jR 0 0)],.res (ER (b9 .i64) ((N.take j).foldl (λo r=>Cf o r 1) out) m)]⟩) (λj=>j<=N.length) (λj=>N.length - j) 0 (jL _) (Ky (hc:=.cons (.cons (.cons (.nil _))))) ?_;rintro j hj;refine wR ?_;refine Ae λao aj=>?_
    refine Am V (λd=>?_) (λd=>?_)
    ·have s:j < N.length:=by simpa using d
     obtain⟨r,hr⟩:∃q,N[j]? =jS q:=⟨_,eC s⟩
     have Z:wfB .i64 r=aZ:=b.regs r (B r (fN hr));have am:=Yf b.toOkG y H (l:=N.take j) λx hx=>B x (fO hx)
     have ah:((N.take j).foldl (λo r=>Cf o r 1) out).length < cF:=by
      have:=b.len;unfold cF;omega
     refine Ao ?_;refine aj _ ?_;refine nT ?_;refine Ae λan ai=>?_
     refine Ah ?_;refine wR ?_;refine wRE (hx:=by((repeat(first|(refine AH V (Kk 2 V Tryz.underlying51 V V V Z ah V ?_);refine sNt ?_)|refine sA ?_|refine AR ?_|refine sAG ?_|refine Bt ?_));exact C1 V)) (hk:=?_);refine ai _ ?_;refine nT ?_;refine wRE ?_;refine As ⟨j+1,s,by omega,?_⟩;try dsimp only
     rw[gP,hr,dW];exact AU
    ·obtain rfl:j=N.length:=by have:¬j < N.length:=(by simpa using d);have hj:j<=N.length:=hj;omega
     refine AA ?_;repeat(first|refine BF ?_|refine exO (by decide) ?_|refine asE ?_)
     refine exN ?_;repeat(first|refine abN ?_|refine asN ?_)
     refine As ⟨k+1,ae,by omega,?_⟩;try dsimp only
     rw[show DW a (k+1)=(N.take N.length).foldl (λo r=>Cf o r 1) out by rw[gQ,hN,c];rfl];exact AU
open Go.Shelf
variable{cv:List (Int×bZ)}{l:List Int}{vs:List (Int×(bZ×List Int))}
structure MRowsH(m:Nat)(cv:List (Int×Value))(vs:List (Int×(Value×List Int)))(w:World):Prop where
 map:Ni w m cv
 ok:okK vs
 row:∀(k:Int) (v:Value) (l:List Int),getK vs k=some (v,l)->Gp w 0 v l/\Bj l
 dis:∀(j k:Int) (v v':Value) (l l':List Int) (g:Nat),j≠k->getK vs j=some (v,l)->getK vs k=some (v',l')->v.ownBlock=some g->v'.ownBlock≠some g
 out:∀(k:Int) (v:Value) (l:List Int),getK vs k=some (v,l)->v.ownBlock≠some m
def mrF(m:Nat)(vs:List (Int×(bZ×List Int)))(g:Nat):Prop:=g=m\/∃k v l,getK vs k=jS (v,l)/\v.ownBlock=jS g
def Be(m:Nat)(cv:List (Int×bZ))(vs:List (Int×(bZ×List Int))):Res where
 mrk:=[]
 F:=mrF m vs
 R:=λw _=>MRowsH m cv vs w
 keep:=λH hk _ _=>⟨H.map.keep (hk m (.inl V)),H.ok,λk v l h=>⟨(H.row k v l h).1.keepB λg hg=>hk g (.inr ⟨k,v,l,h,hg⟩),(H.row k v l h).2⟩,H.dis,H.out⟩
def Dx(m:Nat)(E:List (Int×List Int)):Res where
 mrk:=[]
 F:=λg=>g=m
 R:=λw S=>okK E/\∃vs,Ni w m vs/\Ao4 tInt.slice w S vs E
 keep:=λ⟨h0,vs,h1,h2,c⟩ hk b a=>⟨h0,vs,h1.keep (hk m V),h2,λk v x e d=>tInt.slice.keepS (c k v x e d) b a⟩
def nilR:Res:=⟨[],λ_=>False,λ_ _=>True,λ_ _ _ _=>trivial⟩
theorem HU{C:Ctx}{t:List AV}{h:List gV}:St.le C ⟨t,h⟩ ⟨t,h++[.res nilR]⟩:=λa w ⟨c,S,ψ,H,b⟩=>by
 have X:Ext w S h ψ w S (h++[.res nilR]) (Bs ψ h.length undef):=Ext.push _ _ λ_ _=>rfl
 have d:H8 C.N w S (h++[.res nilR]) (Bs ψ h.length undef) undef (.res nilR):=⟨λg hg=>hg.elim,trivial⟩
 refine⟨?_,S,_,H.push (Below.refl _ _) d (λg hg=>hg.elim),AE X _ _ b⟩;rw[c];show mkD h=mkD (h++[_]);rw[Ip];rfl
section
variable{C:Ctx}{t:List AV}{h:List gV}{o:bP}{K:St->Prop}{ty e:bY}{x y z:bR}{m:Nat}{k:Int}
theorem II(i:Nat)(Rs:Nat->Res)(d:∀m,(Rs m).mrk= [])(s:∀m g,(Rs m).F g->g=m)(j:∀(w:cC) S,(Rs w.heap.size).R (w.alloc (.map #[] 0)) S)(c:o.op= .makeMap ty jR)(hi:h[i]? =jS (.res nilR))
 (q:∀m,K ⟨Br t o.dst (.lit (.map (jS m))),h.set i (.res (Rs m))⟩):AOp bV C o ⟨t,h⟩ K:=by
 refine gX (ι:=Nat) (Rs:=Rs) (val:=λm=>.map (jS m)) hi (λm=>d m) (λS ψ w ρ H _ _ b=>?_) q;have f:(cD ρ o).run bV w= .ok (.value (.map (jS w.heap.size))) (w.alloc (.map #[] 0)):=by simp[cD,c,run_makeMap]
 rw[f];have a:=(Below.refl w.heap.size w).alloc (jA _) (.map #[] 0);refine⟨⟨a.os,a.tape,a.output,a.size,λk hk _=>a.block k hk⟩,w.heap.size,rfl,j w S,λk hk=>?_⟩;have hk:=s _ _ hk;subst hk;exact⟨.inr (jA _),by simp⟩
theorem Sq(w:cC)(S:Nat->Prop):(Be w.heap.size [] []).R (w.alloc (.map #[] 0)) S:=⟨MU w,okK.nil,λk v l h=>(by cases h),λj k v v' l l' g _ h=>(by cases h),λk v l h=>(by cases h)⟩
theorem Pr(m g:Nat)(h:(Be m [] []).F g):g=m:=by
 rcases h with h|⟨k,v,l,h,_⟩
 ·exact h
 ·cases h
theorem WL(w:cC)(S:Nat->Prop):(Dx w.heap.size []).R (w.alloc (.map #[] 0)) S:=⟨okK.nil,[],MU w,λ_=>rfl,λk v x h=>by cases h⟩
theorem Acd(i:Nat)(c:o.op= .lookup ty x y aL)(a:bV.underlying ty=jS (.map 3 27))(hx:evA t x= .lit (.map (jS m)))(b:evA t y= .lit (.int .i64 k))(hk:wfB .i64 k=aZ)(hi:h[i]? =jS (.res (Be m cv vs))):
 AX bV C t h o (.lit ((getK cv k).getD (.slice jR 0 0))):=Li i c a OD hx b hk hi λ_ _ H=>H.map
theorem VW(i:Nat){v:bZ}(f:o.op= .mapUpdate ty x y z)(a:bV.underlying ty=jS (.map 3 27))(hx:evA t x= .lit (.map (jS m)))(d:evA t y= .lit (.int .i64 k))(c:evA t z= .lit v)(hk:wfB .i64 k=aZ)(j:cv.length < cF)(hi:h[i]? =jS (.res (Be m cv vs)))
 (q:K ⟨Br t o.dst (.lit undef),h.set i (.res (Be m (Cf cv k v) vs))⟩):AOp bV C o ⟨t,h⟩ K:=
 Zl (l:=cv) (R':=Be m (Cf cv k v) vs) i f a hx d c hk j hi ⟨λ_ _ H=>H.map,rfl,.inl V,λ_ h=>h,λw w' T H hq b=>⟨b,H.ok,λk v l h=>⟨(H.row k v l h).1.keepB λg hg=>hq g (λe=>H.out k v l h (e▸hg)) ((H.row k v l h).1.lt g hg).2,(H.row k v l h).2⟩,H.dis,H.out⟩⟩ q
theorem Aja(i:Nat){E:List (Int×List Int)}(F:o.op= .mapUpdate ty x y z)(I:bV.underlying ty=jS (.map 3 27))(hx:evA t x= .lit (.map (jS m)))(Y:evA t y= .lit (.int .i64 k))(X:evA t z= .bs tInt l)(hk:wfB .i64 k=aZ)(U:E.length < cF)(hi:h[i]? =jS (.res (Dx m E)))
 (hK:K ⟨Br t o.dst (.lit undef),h.set i (.res (Dx m (Cf E k l)))⟩):AOp bV C o ⟨t,h⟩ K:=by
 refine gX (ι:=Unit) (Rs:=λ_=>Dx m (Cf E k l)) (val:=λ_=>undef) hi (λ_=>rfl) (λT ψ w ρ H O N a=>?_) (λ_=>hK);have h1:=a x (by simp[F,bO]);have h2:=a y (by simp[F,bO]);have S:=a z (by simp[F,bO]);rw[hx]at h1;rw[Y]at h2;rw[X]at S;unfold gY at h1 h2 S;obtain⟨h0,vs,f,c,J⟩:=O;have Z:vs.length=E.length:=by
  have hs:∀q,q∈keysK vs↔q∈keysK E:=λq=>by
   have:∀{β:Type} (l:List (Int×β)),(getK l q).isSome=aZ↔q∈keysK l:=λl=>by
    unfold keysK getK;rw[jP,List.find?_isSome];simp
   rw[<-this vs,<-this E,c q]
  have d:∀{β:Type} {l:List (Int×β)},Em l->(keysK l).Nodup:=λh=>gD.2 (h.imp λac e=>by omega)
  have:=((List.perm_ext_iff_of_nodup (d f.1.1) (d h0.1)).2 hs).length_eq;simpa[keysK]using this
 obtain⟨w',b,L,hg,aa⟩:=f.put I (by omega) hk (ρ z);have he:(cD ρ o).run bV w= .ok .skip w':=by
  simp[cD,F,h1,h2,b,bX]
 rw[he];have ab:=f.lt;refine⟨⟨hg.os,hg.tape,hg.output,hg.size,λq hq U=>hg.block q hq λe=>U (by cases e;rfl)⟩,(),rfl,⟨h0.put hk l,_,L,λq=>?_,λq v u D B=>?_⟩,λg s=>⟨.inl s,by have:=N g s;omega⟩⟩
 ·rw[BM f.1.1,BM h0.1];split
  ·rfl
  ·exact c q
 ·rw[BM f.1.1]at D;rw[BM h0.1]at B;have W:∀g,T g->w'.heap[g]? =w.heap[g]?:=λg j=>hg.block g (H.lt g j) λe=>by
   cases e;exact((H.blk i _ hi).1 m V).2.1 j
  by_cases hq:q=k
  ·rw[if_pos hq]at D B;cases D;cases B;exact tInt.slice.keepS S W λ_ h=>h
  ·rw[if_neg hq]at D B;exact tInt.slice.keepS (J q v u D B) W λ_ h=>h
theorem Qr(i:Nat){bytes:Nat}{u:bZ}{D:List Int}(ho:o.op= .call {callee:=.builtin .append,args:=#[x,y],argTypes:=#[ty,ty]})(hT:NZ bV ty=jS (3,1,bytes))
 (hx:evA t x= .lit u)(hi:h[i]? =jS (.res (Be m cv vs)))(hy:evA t y= .bs tInt D)(hk:wfB .i64 k=aZ)(hu:(getK vs k).getD (.slice jR 0 0,[])=(u,l))(hb:EM (l.length+D.length) bytes=aZ)
 (hK:∀v':bZ,K ⟨Br t o.dst (.lit v'),h.set i (.res (Be m cv (Cf vs k (v',l++D))))⟩):AOp bV C o ⟨t,h⟩ K:=by
 refine gX (ι:=bZ) (Rs:=λv'=>Be m cv (Cf vs k (v',l++D))) (val:=λv'=>v') hi (λ_=>rfl) (λS ψ w ρ H hR ad Y=>?_) hK;have B:MRowsH m cv vs w:=hR;have O:=Y x (by rw[ho];exact aC.2 (.inr (by simp)));have E:=Y y (by rw[ho];exact aC.2 (.inr (by simp)));rw[hx]at O;rw[hy]at E;unfold gY at O E;have N:(getK vs k=jS (u,l))\/(getK vs k=jR/\u= .slice jR 0 0/\l= []):=by
  cases hg:getK vs k with
  |none=>rw[hg]at hu;cases hu;exact .inr ⟨rfl,rfl,rfl⟩
  |some p=>rw[hg]at hu;cases hu;exact .inl V
 obtain⟨ac,ai⟩:Gp w 0 u l/\Bj l:=by
  rcases N with h1|⟨_,rfl,rfl⟩
  ·exact B.row k u l h1
  ·exact⟨Gp.nil _ _,λx hx=>by cases hx⟩
 obtain⟨h1,ti,zz,h2,h3,h4,h5,h6⟩:=Dk hT;obtain⟨A,c,Z⟩:=Cn E;rw[Z]at E;obtain⟨news,aj,aa,al,am⟩:=I6 E λcs d ar=>J5 _ _ _ _ ar
 have I:news=D.map (b9 .i64)/\Bj D:=by
  have ae:news.length=D.length:=by rw[aj];exact jI _
  have hg:∀j d,D[j]? =jS d->news[j]? =jS (b9 .i64 d)/\wfI .i64 d:=λj d hd=>by
   have:=al j d hd;rw[show tInt.size=1 from V,jI,gT,eO]at this;have ao:j < news.length:=by rw[ae];exact(eE.1 hd).1
   rw[eC ao]at this⊢;obtain⟨W,h8⟩:=DR.1 this;exact⟨by simpa using W,h8⟩
  refine⟨dK λj=>?_,λr hr=>?_⟩
  ·rw[eF];cases hd:D[j]? with
   |none=>rw[eD (by rw[ae];exact List.getElem?_eq_none_iff.1 hd)];rfl
   |some d=>exact(hg j d hd).1
  ·obtain⟨j,hj⟩:=eG hr;exact(hg j r hj).2
 have J:=hb;unfold EM at J;simp only[zag]at J;obtain⟨v',w',ab,T,f,au⟩:=LC (P:=bV) (ty:=o.type) (c:=c) (base:=0) h1 h2 h3 h4 h5 h6 (Nat.zero_lt_one) ac (aa w λ_ _=>rfl) am J.1 J.2 (jL _);have aq:(cD ρ o).run bV w= .ok (.value v') w':=by
  unfold cD;simp only[ho,resolve,invoke,builtin,List.map_toArray,fA,fB,O,Z,ab,zan]
 rw[aq];have F:Gp w' 0 v' (l++D):=Gp.of (n:=l.length+D.length) T (by simp) (by rw[eZ,I.1]);have s:∀g,u.ownBlock=jS g->getK vs k=jS (u,l):=λg hg=>by
  rcases N with W|⟨_,rfl,_⟩
  ·exact W
  ·cases hg
 have an:m < w.heap.size:=ad m (.inl V);have b:∀g,v'.ownBlock=jS g->u.ownBlock=jS g\/g=w.heap.size:=λg hg=>by
  rcases au with e1|e1
  ·exact .inl (e1▸hg)
  ·rw[e1]at hg;cases hg;exact .inr V
 have a:∀(q:Int) (v:bZ) (r:List Int),getK (Cf vs k (v',l++D)) q=jS (v,r)->(q=k/\v=v'/\r=l++D)\/(q≠k/\getK vs q=jS (v,r)):=λq v r hq=>by
  rw[BM B.ok.1]at hq;by_cases e:q=k
  ·rw[if_pos e]at hq;cases hq;exact .inl ⟨e,rfl,rfl⟩
  ·rw[if_neg e]at hq;exact .inr ⟨e,hq⟩
 refine⟨⟨f.os,f.tape,f.output,f.size,λq hq hn=>f.block q hq λe=>hn (.inr ⟨k,u,l,s q e.symm,e.symm⟩)⟩,v',rfl,⟨?_,B.ok.put hk _,λq v r hq=>?_,λj q v X r r2 g ag hj hq hg=>?_,λq v r hq=>?_⟩,λg hg=>?_⟩
 ·exact B.map.keep (f.block m an λe=>B.out k u l (s m e.symm) e.symm)
 ·rcases a q v r hq with⟨rfl,rfl,rfl⟩|⟨ak,hq⟩
  ·exact⟨F,λr hr=>(fC.1 hr).elim (ai r) (I.2 r)⟩
  ·obtain⟨W,h8⟩:=B.row q v r hq;exact⟨W.keepB λg hg=>f.block g (W.lt g hg).2 λe=>B.dis q k v u r l g ak hq (s g e.symm) hg e.symm,h8⟩
 ·rcases a j v r hj with⟨rfl,rfl,rfl⟩|⟨ap,U⟩
  ·rcases a q X r2 hq with⟨rfl,_⟩|⟨af,L⟩
   ·exact absurd V ag
   ·rcases b g hg with e1|e1
    ·exact B.dis j q u X l r2 g (jM af) (s g e1) L e1
    ·intro e2;have:=((B.row q X r2 L).1.lt g e2).2;omega
  ·rcases a q X r2 hq with⟨rfl,rfl,rfl⟩|⟨af,L⟩
   ·intro e2;rcases b g e2 with e1|e1
    ·exact B.dis j q v u r l g ap U (s g e1) hg e1
    ·have:=((B.row j v r U).1.lt g hg).2;omega
   ·exact B.dis j q v X r r2 g ag U L hg
 ·rcases a q v r hq with⟨rfl,rfl,rfl⟩|⟨_,hq⟩
  ·intro e2;rcases b m e2 with e1|e1
   ·exact B.out q u l (s m e1) e1
   ·omega
  ·exact B.out q v r hq
 ·have av:w.heap.size<=w'.heap.size:=f.size;rcases hg with hg|⟨q,v,r,hq,hg⟩
  ·subst hg;exact⟨.inl (.inl V),by omega⟩
  ·rcases a q v r hq with⟨rfl,rfl,rfl⟩|⟨_,hq⟩
   ·have ah:=(F.lt g hg).2;rcases b g hg with e1|e1
    ·exact⟨.inl (.inr ⟨q,u,l,s g e1,e1⟩),ah⟩
    ·exact⟨.inr (by omega),ah⟩
   ·exact⟨.inl (.inr ⟨q,v,r,hq,hg⟩),by have:=ad g (.inr ⟨q,v,r,hq,hg⟩);omega⟩
end
open Go.ChangeMaps
variable{E:List (Int×List Int)}{S:Nat->Prop}{g i:Nat}{ob:Obj}
section
variable{H:Type}{P:bS}{w:cC}{t k e:bY}{R:bZ->Option (DataW H×List MemPlace)}{b:Nat}{es:Array bL}{clock:Nat}
theorem Arq(K:Keyed P k)(ht:P.underlying t=jS (.map k e)){z:bZ}(hz:∀u:cC,(zeroValue e).run P u= .ok z u)(B:w.heap[b]? =jS (.map es clock))(F:WideElems.Fit P k R es clock){key:bZ}{kl:Lit}(a:keyOf P k key=jS kl):
 ∃(Z:bZ) (W:Nat) (N:Array bL) (c:Nat),(bC t (.map (jS b)) key).run P w= .ok (.tuple #[Z,goInt W]) (setBlock w b (.map N c))/\
  ∀(J:cC) (val:bZ),J.heap[b]? =jS (.map N c)->∃O d,(bB t (.map (jS b)) (goInt W) val).run P J= .ok () (setBlock J b (.map O d))/\(bD t (.map (jS b)) key val).run P w= .ok () (setBlock w b (.map O d)):=by
 obtain⟨s1,X,_⟩:=F.stamped;rcases K.find w a es.toList F.keys with⟨L,I⟩|⟨j,e0,L,I,T⟩
 ·refine⟨z,clock,es.push ⟨key,z,clock⟩,clock+1,?_,λJ val f=>⟨es.push ⟨key,val,clock⟩,clock+1,?_,?_⟩⟩
  ·simp[bC,cG ht,bM B,K.check w aL a,L,hz,bN _ B,bX,setBlock]
  ·have hn:(((es.push ⟨key,z,clock⟩).toList).map (·.born)).Nodup:=by
    rw[aG,eZ,fW];refine⟨X,by simp,λp hp q hq e1=>?_⟩;obtain⟨x,hx,rfl⟩:=fM.1 hp;have:=s1 x hx;have:q=clock:=by simpa using hq
    omega
   have v:(es.push ⟨key,z,clock⟩).findIdx? (λe=>((e.born:Nat):Int) ==((clock:Nat):Int))=jS es.size:=by
    rw[cA];exact cB (e0:=⟨key,z,clock⟩) hn (by simp)
   have s:(es.push ⟨key,z,clock⟩).modify es.size (λe=>{e with val:=val})=es.push ⟨key,val,clock⟩:=by
    apply aA;rw[aF,aG,aG,<-Array.length_toList,WideElems.modify_last]
   simp[bB,bM f,asInt,asIntOf,goInt,v,s,bN _ f,bX,setBlock]
  ·simp[bD,cG ht,bM B,K.check w aL a,L,bN _ B,bX,setBlock]
 ·have Y:es[j]? =jS e0:=by simpa using I
  have D:es.modify j (λe=>{e with key:=key})=es:=by
   apply aA;rw[aF,modify_eq_set _ _ _ _ I];have:({e0 with key:=key}:bL)=e0:=by rw[<-T]
   rw[this];exact WideElems.set_self _ _ _ I
  refine⟨e0.val,e0.born,es,clock,?_,λJ val f=>⟨es.modify j (λU=>{U with key:=key,val:=val}),clock,?_,?_⟩⟩
  ·simp[bC,cG ht,bM B,K.check w aL a,L,Y,T,K.stays w a,D,bN _ B,bX,setBlock]
  ·have v:es.findIdx? (λe=>((e.born:Nat):Int) ==((e0.born:Nat):Int))=jS j:=by
    rw[cA];exact cB X I
   have s:es.modify j (λe=>{e with val:=val})=es.modify j (λU=>{U with key:=key,val:=val}):=by
    apply aA;rw[aF,aF,modify_eq_set _ _ _ _ I,modify_eq_set _ _ _ _ I,<-T]
   simp[bB,bM f,asInt,asIntOf,goInt,v,s,bN _ f,bX,setBlock]
  ·simp[bD,cG ht,bM B,K.check w aL a,L,Y,T,K.stays w a,bN _ B,bX,setBlock]
end
structure RowsK(m:Nat)(vs:List (Int×(Value×List Int)))(w:World):Prop where
 ok:okK vs
 row:∀(k:Int) (v:Value) (l:List Int),getK vs k=some (v,l)->Gp w 0 v l/\Bj l
 dis:∀(j k:Int) (v v':Value) (l l':List Int) (g:Nat),j≠k->getK vs j=some (v,l)->getK vs k=some (v',l')->v.ownBlock=some g->v'.ownBlock≠some g
 out:∀(k:Int) (v:Value) (l:List Int),getK vs k=some (v,l)->v.ownBlock≠some m
theorem RowsK.keep{m:Nat}{vs:List (Int×(bZ×List Int))}{w w':cC}(H:RowsK m vs w)(hk:∀g,mrF m vs g->g≠m->w'.heap[g]? =w.heap[g]?):RowsK m vs w':=
 ⟨H.ok,λk v l h=>⟨(H.row k v l h).1.keepB λg hg=>hk g (.inr ⟨k,v,l,h,hg⟩) λe=>H.out k v l h (e▸hg),(H.row k v l h).2⟩,H.dis,H.out⟩
def Ak9(m:Nat)(cv:List (Int×bZ))(vs:List (Int×(bZ×List Int)))(ty:bY)(k:Int)(c:Nat):Res where
 mrk:=[]
 F:=mrF m vs
 R:=λw _=>RowsK m vs w/\∃es clock,w.heap[m]? =jS (.map es clock)/\∀(a:cC) (v:bZ),a.heap[m]? =jS (.map es clock)->∃ob,(bB ty (.map (jS m)) (goInt c) v).run bV a= .ok () (setBlock a m ob)/\Ni (setBlock a m ob) m (Cf cv k v)
 keep:=λ⟨H,es,clock,h1,h2⟩ hk _ _=>⟨H.keep λg hg _=>hk g hg,es,clock,(hk m (.inl V)).trans h1,h2⟩
theorem Ii{w:cC}{m:Nat}(a:m < w.heap.size):(setBlock w m ob).heap[m]? =jS ob:=by simp[setBlock,a]
theorem E6{w:cC}{m:Nat}(hg:g≠m):(setBlock w m ob).heap[g]? =w.heap[g]?:=by simp[setBlock,Array.getElem?_setIfInBounds,jM hg]
section
variable{C:Ctx}{t:List AV}{h:List gV}{o:bP}{K:St->Prop}{ty e:bY}{x y z:bR}{m:Nat}{k:Int}{cv:List (Int×bZ)}{vs:List (Int×(bZ×List Int))}
theorem Ajf(i:Nat)(O:o.op= .mapEntry ty x y)(s:bV.underlying ty=jS (.map 3 27))(hx:evA t x= .lit (.map (jS m)))(hy:evA t y= .lit (.int .i64 k))(hk:wfB .i64 k=aZ)(hn:cv.length < cF)(hi:h[i]? =jS (.res (Be m cv vs)))
 (hK:∀(J:bZ) (d:Nat),K ⟨Br t o.dst (.lit (.tuple #[J,goInt d])),h.set i (.res (Ak9 m cv vs ty k d))⟩):AOp bV C o ⟨t,h⟩ K:=by
 refine gX (ι:=bZ×Nat) (Rs:=λp=>Ak9 m cv vs ty k p.2) (val:=λp=>.tuple #[p.1,goInt p.2]) hi (λ_=>rfl) (λT ψ w ρ H Y X f=>?_) (λp=>hK p.1 p.2);have h1:=f x (by simp[O,bO]);have h2:=f y (by simp[O,bO]);rw[hx]at h1;rw[hy]at h2;unfold gY at h1 h2;have c:MRowsH m cv vs w:=Y;have D:=c.map.lt;obtain⟨h0,es,clock,hb,F,_⟩:=id c.map;obtain⟨J,d,I,a,B,N⟩:=Arq QC s OD hb F (keyOf_int_mk Tryz.underlying3 hk);have he:(cD ρ o).run bV w= .ok (.value (.tuple #[J,goInt d])) (setBlock w m (.map I a)):=by
  simp[cD,O,h1,h2,B,bX]
 rw[he];refine⟨⟨rfl,rfl,rfl,by simp[setBlock],λq hq U=>E6 λe=>U (.inl e)⟩,(J,d),rfl,⟨RowsK.keep ⟨c.ok,c.row,c.dis,c.out⟩ λg _ hg=>E6 hg,I,a,Ii D,λZ v j=>?_⟩,λg hg=>⟨.inl hg,by have:=X g hg;simpa[setBlock]using this⟩⟩;obtain⟨aa,L,h3,h4⟩:=N Z v j;obtain⟨w',h5,h6,_⟩:=c.map.put s hn hk v;rw[h4]at h5;cases h5;have W:m < Z.heap.size:=(aB.1 j).1;exact⟨_,h3,h6.keep ((Ii W).trans (Ii D).symm)⟩
theorem Aje(i:Nat){v:bZ}{I:Nat}(f:o.op= .entryStore ty x y z)(hx:evA t x= .lit (.map (jS m)))(L:evA t y= .lit (goInt I))(J:evA t z= .lit v)(hi:h[i]? =jS (.res (Ak9 m cv vs ty k I)))
 (W:K ⟨Br t o.dst (.lit undef),h.set i (.res (Be m (Cf cv k v) vs))⟩):AOp bV C o ⟨t,h⟩ K:=by
 refine gX (ι:=Unit) (Rs:=λ_=>Be m (Cf cv k v) vs) (val:=λ_=>undef) hi (λ_=>rfl) (λT ψ w ρ H D B c=>?_) (λ_=>W);have h1:=c x (by simp[f,bO]);have h2:=c y (by simp[f,bO]);have F:=c z (by simp[f,bO]);rw[hx]at h1;rw[L]at h2;rw[J]at F;unfold gY at h1 h2 F;obtain⟨X,es,clock,U,j⟩:=D;obtain⟨ob,d,N⟩:=j w v U;have O:(cD ρ o).run bV w= .ok .skip (setBlock w m ob):=by
  simp[cD,f,h1,h2,F,d,bX]
 rw[O];have a:RowsK m vs (setBlock w m ob):=X.keep λg _ hg=>E6 hg
 exact⟨⟨rfl,rfl,rfl,by simp[setBlock],λq hq s=>E6 λe=>s (.inl e)⟩,(),rfl,⟨N,a.ok,a.row,a.dis,a.out⟩,λg hg=>⟨.inl hg,by have:=B g hg;simpa[setBlock]using this⟩⟩
end
theorem MR{w:cC}{m:Nat}{vs:List (Int×(bZ×List Int))}(H:MRowsH m (mapK (·.1) vs) vs w)(f:∀g,mrF m vs g->S g):KL.RS w S [.map (jS m)] (mapK (·.2) vs):=by
 refine⟨H.ok.map _,.inr ⟨m,_,rfl,f m (.inl V),H.map,λk=>by rw[CH,CH,jP,jP],λk v x h1 h2=>?_⟩⟩;rw[CH]at h1 h2;obtain⟨p,a,rfl⟩:=jQ.1 h1;rw[a]at h2;cases h2;obtain⟨s,q⟩:=H.row k p.1 p.2 a;refine Dh (T:=tInt) s (λj d c=>?_) λg hg=>f g (.inr ⟨k,p.1,p.2,a,hg⟩)
 show tInt.RS w S (((p.2.map (b9 .i64)).drop (j * 1)).take 1) d;have hi:(p.2.map (b9 .i64))[j]? =jS (.int .i64 d):=by rw[eF,c];rfl
 rw[jI,gT,eO,hi];exact DR.2 ⟨rfl,q d (fN c)⟩
theorem Aaj{w:cC}{S':Nat->Prop}{m:Nat}(H:(Dx m E).R w S)(a:S' m)(c:∀g,S g->S' g):KL.RS w S' [.map (jS m)] E:=by
 obtain⟨h0,vs,h1,h2,d⟩:=H;exact⟨h0,.inr ⟨m,vs,rfl,a,h1,h2,λk v x j f=>tInt.slice.keepS (d k v x j f) (λ_ _=>rfl) c⟩⟩
theorem Acm{h:List gV}{j1 j2 j3 j4 L J I F:Nat}{regs d:List Int}{D B s:List (Int×(bZ×List Int))}(hm:mkD h= [])
 (hi:h[i]? =jS (.res (Bh g [.bs tInt regs,.lit (.map (jS L)),.lit (.map (jS J)),.lit (.map (jS I)),.lit (.map (jS F)),.bs tInt d])))(h1:h[j1]? =jS (.res (Dx L E)))
 (h2:h[j2]? =jS (.res (Be J (mapK (·.1) D) D)))(h3:h[j3]? =jS (.res (Be I (mapK (·.1) B) B)))(h4:h[j4]? =jS (.res (Be F (mapK (·.1) s) s))):
 Fin h (.lit (.pointer (jS ⟨g,0,jR⟩))) (.bp Bf ⟨regs,E,mapK (·.2) D,mapK (·.2) B,mapK (·.2) s,d⟩ 0):=⟨hm,λC S ψ w v j H Z=>by
 unfold gY at Z;subst Z;have B0:=H.blk i _ hi;obtain⟨cs,e,Y,X⟩:=B0.2;have W:=H.blk j1 _ h1;have U:=H.blk j2 _ h2;have T:=H.blk j3 _ h3;have O:=H.blk j4 _ h4;obtain⟨S',c⟩:∃S':Nat->Prop,S'=λk=>S k\/k=g\/(Dx L E).F k\/mrF J D k\/mrF I B k\/mrF F s k:=⟨_,rfl⟩
 have f:∀k,S k->S' k:=λk hk=>by rw[c];exact .inl hk
 have N:g < w.heap.size:=(aB.1 Y).1;refine⟨S',f,λk hk=>?_,λk hk=>?_,?_⟩
 ·rw[c]at hk;rcases hk with hk|rfl|hk|hk|hk|hk
  ·exact .inl hk
  ·exact .inr (i9 λa=>(B0.1 k V).1 (j _ a))
  ·exact .inr (i9 λa=>(W.1 k hk).1 (j k a))
  ·exact .inr (i9 λa=>(U.1 k hk).1 (j k a))
  ·exact .inr (i9 λa=>(T.1 k hk).1 (j k a))
  ·exact .inr (i9 λa=>(O.1 k hk).1 (j k a))
 ·rw[c]at hk;rcases hk with hk|rfl|hk|hk|hk|hk
  ·exact H.lt k hk
  ·exact N
  ·exact(W.1 k hk).2.2
  ·exact(U.1 k hk).2.2
  ·exact(T.1 k hk).2.2
  ·exact(O.1 k hk).2.2
 ·unfold gY;simp only[Ak,gY]at X;obtain⟨c0,_,rfl,r0,c1,_,rfl,rfl,c2,_,rfl,rfl,c3,_,rfl,rfl,c4,_,rfl,rfl,c5,_,rfl,r5,rfl⟩:=X;refine⟨g,0,rfl,by rw[c];exact .inr (.inl V),_,OJ.2 ⟨c0,_,_,_,_,c5,rfl,tInt.slice.keepS r0 (λ_ _=>rfl) f,Aaj W.2 (by rw[c];exact .inr (.inr (.inl V))) f,MR U.2 (λq hq=>by rw[c];exact .inr (.inr (.inr (.inl hq)))),MR T.2 (λq hq=>by rw[c];exact .inr (.inr (.inr (.inr (.inl hq))))),MR O.2 (λq hq=>by rw[c];exact .inr (.inr (.inr (.inr (.inr hq))))),tInt.slice.keepS r5 (λ_ _=>rfl) f⟩,λq u hq=>?_⟩;unfold World.cell?;simp[Y,hq]⟩
section
variable{P:bS}{C:Ctx}{t:List AV}{h:List gV}{o:bP}{K:St->Prop}
theorem Acy(i:Nat){a:bY}{x:bR}{cells:List AV}(j:o.op= .box a x)(hi:h[i]? =jS (.res nilR))(hx:evA t x= .agg cells)(hc:Bl cells=aZ)
 (s:∀g,K ⟨Br t o.dst (.lit (.pointer (jS ⟨g,0,jR⟩))),h.set i (.res (Bh g cells))⟩):AOp P C o ⟨t,h⟩ K:=by
 refine gX (ι:=Nat) (Rs:=λg=>Bh g cells) (val:=λg=>.pointer (jS ⟨g,0,jR⟩)) hi (λ_=>rfl) (λS ψ w ρ H _ _ d=>?_) s;have h1:=d x (by simp[j,bO]);rw[hx]at h1;unfold gY at h1;obtain⟨cs,e,f⟩:=h1;have q:(cD ρ o).run P w= .ok (.value (.pointer (jS ⟨w.heap.size,0,jR⟩))) (w.alloc (.cells cs.toArray a)):=by
  simp[cD,j,Instr.box,Go.newVar,Go.newRow,e,Value.cells]
 rw[q];have c:=(Below.refl w.heap.size w).alloc (jA _) (.cells cs.toArray a);refine⟨⟨c.os,c.tape,c.output,c.size,λk hk _=>c.block k hk⟩,w.heap.size,rfl,⟨cs,a,cE w _,?_⟩,λk hk=>?_⟩
 ·exact AE (Ext.grow [] ψ0 (λk hk=>c.block k (H.lt k hk)) λ_ h=>h) _ _ (Bn _ _ hc f)
 ·have hk:k=w.heap.size:=hk;subst hk;exact⟨.inr (jA _),by simp⟩
theorem MA{ι:Type}{Rs:ι->Res}{val:ι->bZ}{R:Res}{f:FuncId}{x:bR}{args:Array bR}{c:Array bY}{xs:List AV}(hi:h[i]? =jS (.res R))
 (j:o.op= .call {callee:=.value x,args:=args,argTypes:=c})(v:evA t x= .lit (.func (.func f) #[] #[]))(s:DU P f R xs Rs val)(B:∀p,(Rs p).mrk=R.mrk)(hx:args.toList.map (evA t)=xs)(hc:Bl xs=aZ)
 (I:∀p,K ⟨Br t o.dst (.lit (val p)),h.set i (.res (Rs p))⟩):AOp P C o ⟨t,h⟩ K:=by
 refine gX hi B (λS ψ w ρ H F q a=>?_) I;have h1:=a x (by rw[j];exact aC.2 (.inl (by simp)));rw[v]at h1;unfold gY at h1;rw[OV (cs:=#[]) j s.1 ρ w h1];refine⟨rfl,?_⟩;have h2:Ak w S h ψ xs (args.toList.map ρ):=by
  rw[<-hx];exact Ck λx d=>a x (by rw[j];exact aC.2 (.inr (aD.1 d)))
 rw[show(args.map ρ++(#[]:Array bZ))=(args.toList.map ρ).toArray from(by rw[Array.append_empty,<-aE])];exact s.2 w S (args.toList.map ρ) (λk hk=>⟨H.lt k hk,λD=>((H.blk i _ hi).1 k D).2.1 hk⟩) q F (Bn _ _ hc h2)
end
end Mu
namespace Mu
open Go Go.RowKit Go.Proofs Go.Maps
variable{E:List (Int×List Int)}{X:gV}{cv:List (Int×bZ)}{l:List iY}{m:Nat}{x:iY}{α:Type}
def Qx(E:List (Int×List Int))(x:iY):List (Int×List Int):=Cf (Cf E x.a (((getK E x.a).getD [])++[x.b])) x.b (((getK E x.b).getD [])++[x.a])
def Mo(l:List iY):List (Int×List Int):=l.foldl Qx []
theorem Af6(vs:List (Int×(bZ×List Int)))(k:Int):(getK vs k).getD (.slice jR 0 0,[])=((getK (mapK (·.1) vs) k).getD (.slice jR 0 0),(getK (mapK (·.2) vs) k).getD []):=by
 rw[CH,CH];cases getK vs k <;> rfl
theorem Ari{l:List (Int×α)}(h:Em l){a b:Int}(c:a≠b)(v:α):getK (Cf l a v) b=getK l b:=by
 rw[BM h,if_neg (jM c)]
theorem mr3{a b c d e:Bool}{Y Z:gV}{q j f:List (Int×(bZ×List Int))}(hc:c=aL)(s:b=aL)(v:a=aL):
 ∃vs,(bif a then X else(bif b then Y else(bif c then Z else(bif d then(gW (Be m cv q))else(bif e then(gW (Be m cv j))else .res (Be m cv f))))))=gW (Be m cv vs):=by
 subst v s hc;cases d <;> cases e <;> exact⟨_,rfl⟩
theorem Lj{C:Ctx}{t:List AV}{h:List gV}{o:bP}{ty:bY}{x y:bR}{k:Int}{u:bZ}(i:Nat)(f:o.op= .lookup ty x y aL)(a:bV.underlying ty=jS (.map 3 27))(hx:evA t x= .lit (.map (jS m)))(c:evA t y= .lit (.int .i64 k))(hk:wfB .i64 k=aZ)(j:∃vs,X= .res (Be m cv vs))(hi:h[i]? =jS X)(d:(getK cv k).getD (.slice none 0 0)=u:=by rfl):
 AX bV C t h o (.lit u):=by
 obtain⟨vs,rfl⟩:=j;subst d;exact Acd i f a hx c hk hi
theorem Ad1(E:List (Int×List Int))(x:iY):(Qx E x).length<=E.length+2:=by
 unfold Qx;have h1:=E9 (l:=E) x.a (((getK E x.a).getD [])++[x.b]);have h2:=E9 (l:=Cf E x.a (((getK E x.a).getD [])++[x.b])) x.b (((getK E x.b).getD [])++[x.a]);omega
theorem Ad3(h:Em E)(x:iY):Em (Qx E x):=(h.put _ _).put _ _
theorem Ad2(h:Em E)(hx:x.a≠x.b)(k:Int):(getK (Qx E x) k).getD []=(getK E k).getD []++(if k=x.a then [x.b]else if k=x.b then [x.a]else []):=by
 unfold Qx;rw[BM (h.put _ _),BM h];by_cases c:k=x.b
 ·have a:¬k=x.a:=λe=>hx (e.symm.trans c)
  rw[if_pos c,if_neg a,if_pos c,c];rfl
 ·by_cases a:k=x.a
  ·rw[if_neg c,if_pos a,if_pos a,a];rfl
  ·rw[if_neg c,if_neg a,if_neg a,if_neg c,cV]
theorem Alx(l:List iY)(a:∀x∈l,x.a≠x.b)(k:Int):∀{E:List (Int×List Int)},Em E->(getK (l.foldl Qx E) k).getD []=(getK E k).getD []++l.flatMap λx=>if k=x.a then [x.b]else if k=x.b then [x.a]else []:=by
 induction l with
 |nil=>intro E h;simp
 |cons x l c=>
  intro E h;rw[dX,c (λy d=>a y (fG _ d)) (Ad3 h x),Ad2 h (a x fH),dV,cT]
theorem PV(a:∀x∈l,x.a≠x.b)(k:Int):(getK (Mo l) k).getD []=l.flatMap λx=>if k=x.a then [x.b]else if k=x.b then [x.a]else []:=by
 have:=Alx l a k Em.nil;rw[show(getK ([]:List (Int×List Int)) k).getD []= []from V,fV]at this;exact this
theorem Vn(a:∀x∈l,x.a≠x.b)(k:Int):((getK (Mo l) k).getD []).length<=l.length:=by
 rw[PV a];clear a;induction l with
 |nil=>simp
 |cons x l c=>
  rw[dV,eP,eQ];have:(if k=x.a then [x.b]else if k=x.b then [x.a]else []).length<=1:=by
   split
   ·simp
   ·split <;> simp
  omega
theorem Ab2(l:List iY):(Mo l).length<=2 * l.length:=by
 have:∀E:List (Int×List Int),(l.foldl Qx E).length<=E.length+2 * l.length:=by
  induction l with
  |nil=>intro E;simp
  |cons x l a=>
   intro E;rw[dX,eQ];have h1:=a (Qx E x);have h2:=Ad1 E x;omega
 have:=this [];simpa[Mo]using this
theorem Ab1{k:Nat}(h:l[k]? =jS x):Mo (l.take (k+1))=Qx (Mo (l.take k)) x:=by
 unfold Mo;rw[gP,h];simp[dW]
theorem L2{β:Type}(e:α->β)(l:List (Int×α)):(mapK e l).length=l.length:=by simp[mapK]
abbrev Am7(l:List iY):Prop:=∀x∈l,Ci x.a/\Ci x.b/\x.a≠x.b
theorem Vm(l:List iY)(m:Nat)(hl:l.length<=1073741824)(hg:Am7 l):DU bV 49 (Be m [] []) [.bs CI l,.lit (.map (jS m))] (λp:{vs:List (Int×(bZ×List Int)) // mapK (·.2) vs=Mo l}=>Be m (mapK (·.1) p.1) p.1) (λ_=>.tuple #[]):=by
 refine D9 Tryz.func49 V (by kernel_rfl) V Tryz.ntmps49 V (λ_ _ _ _ h=>h) λC=>?_
 simp only[Nat.reduceAdd,Nat.reduceSub,zaa];refine wR ?_;refine Ah ?_;refine AJ (λp:Nat×List (Int×(bZ×List Int))=>⟨(.any::.lit (.map (jS m))::A4 (.bs CI l::.lit (.int .i64 (l.length:Int))::.lit (.int .i64 (p.1:Int))::A20 (A8 []))),[.res (Be m (mapK (·.1) p.2) p.2)]⟩) (λp=>p.1<=l.length/\okK p.2/\mapK (·.2) p.2=Mo (l.take p.1)) (λp=>l.length - p.1) (0,[]) ⟨jL _,okK.nil,rfl⟩ (AU) ?_;rintro⟨k,vs⟩ ⟨hk,U,Z⟩;have Z:mapK (·.2) vs=Mo (l.take k):=Z;have U:okK vs:=U;have hk:k<=l.length:=hk;refine wR ?_;refine Ae λK4 h4=>?_
 refine Am V (λY=>?_) (λY=>?_)
 ·have aa:k < l.length:=by simpa using Y
  obtain⟨x,hx⟩:∃x,l[k]? =jS x:=⟨_,eC aa⟩
  obtain⟨N,L,ai⟩:=hg x (fN hx);have ad:Em vs:=U.1;have ab:∀y∈l.take k,y.a≠y.b:=λy hy=>(hg y (fO hy)).2.2
  have ag:EM (((getK (mapK (·.2) vs) x.a).getD []).length+ [x.b].length) 8=aZ:=by
   have h1:=Vn ab x.a;have h2:(l.take k).length<=l.length:=by rw[eY];omega
   rw[Z];unfold EM;simp only[zag,zai];unfold cF;omega
  have af:EM (((getK (mapK (·.2) vs) x.b).getD []).length+ [x.a].length) 8=aZ:=by
   have h1:=Vn ab x.b;have h2:(l.take k).length<=l.length:=by rw[eY];omega
   rw[Z];unfold EM;simp only[zag,zai];unfold cF;omega
  have av:vs.length<=2 * l.length:=by
   have h1:=Ab2 (l.take k);have h2:(l.take k).length<=l.length:=by rw[eY];omega
   rw[<-Z,L2]at h1;omega
  have ah:(mapK (·.1) vs).length < cF:=by rw[L2];unfold cF;omega
  have ac:∀v:bZ,(Cf (mapK (·.1) vs) x.a v).length < cF:=λv=>by have:=E9 (l:=mapK (·.1) vs) x.a v;rw[L2]at this;unfold cF;omega
  refine Ao ?_;refine h4 _ ?_;refine nT ?_;refine Ae λK6 h6=>?_
  refine Ah ?_;refine wR ?_;refine AN ⟨.any::.lit (.map (jS m))::A3 (.ptr 1 0::.bs CI l::.lit (.int .i64 (l.length:Int))::.lit (.int .i64 (k:Int))::A20 (A8 [])),[.res (Be m (mapK (·.1) vs) vs),.box (CK x)]⟩ AU ?_;refine Fr (n:=26) (undef,undef,0,undef) (λ(i:bZ×bZ×Nat×bZ) (b:Nat->Bool)=>⟨.any::.lit (.map (jS m))::A3 (.ptr 1 0::.bs CI l::.lit (.int .i64 (l.length:Int))::.lit (.int .i64 (k:Int))::A3 [(bif b 0 then .lit (.map (jS m))else .any),(bif b 1 then .ptr 1 0 else .any),(bif b 2 then .lit (.int .i64 x.a)else .any),(bif b 3 then .lit (.map (jS m))else .any),(bif b 4 then .ptr 1 1 else .any),(bif b 5 then .lit (.int .i64 x.b)else .any),(bif b 6 then .lit (.map (jS m))else .any),(bif b 7 then .ptr 1 0 else .any),(bif b 8 then .lit (.int .i64 x.a)else .any),(bif b 9 then .lit ((getK (mapK (·.1) vs) x.a).getD (.slice jR 0 0))else .any),(bif b 10 then .ptr 1 1 else .any),(bif b 11 then .lit (.int .i64 x.b)else .any),(bif b 12 then .bs tInt [x.b]else .any),(bif b 13 then .lit i.1 else .any),(bif b 14 then .lit (.map (jS m))else .any),(bif b 15 then .ptr 1 1 else .any),(bif b 16 then .lit (.int .i64 x.b)else .any),(bif b 17 then .lit ((getK (mapK (·.1) vs) x.b).getD (.slice jR 0 0))else .any),(bif b 18 then .ptr 1 0 else .any),(bif b 19 then .lit (.int .i64 x.a)else .any),(bif b 20 then .bs tInt [x.a]else .any),(bif b 21 then .lit i.2.1 else .any),(bif b 22 then .lit (.tuple #[i.2.2.2,goInt i.2.2.1])else .any),(bif b 23 then .lit (goInt i.2.2.1)else .any),.any]),[(bif b 25 then(gW (Be m (Cf (Cf (mapK (·.1) vs) x.a i.1) x.b i.2.1) (Cf (Cf vs x.a (i.1,((getK (mapK (·.2) vs) x.a).getD [])++[x.b])) x.b (i.2.1,((getK (mapK (·.2) vs) x.b).getD [])++[x.a]))))else(bif b 24 then(gW (Be m (Cf (mapK (·.1) vs) x.a i.1) (Cf (Cf vs x.a (i.1,((getK (mapK (·.2) vs) x.a).getD [])++[x.b])) x.b (i.2.1,((getK (mapK (·.2) vs) x.b).getD [])++[x.a]))))else(bif b 22 then(gW (Ak9 m (mapK (·.1) vs) (Cf (Cf vs x.a (i.1,((getK (mapK (·.2) vs) x.a).getD [])++[x.b])) x.b (i.2.1,((getK (mapK (·.2) vs) x.b).getD [])++[x.a])) 77 x.a i.2.2.1))else(bif b 21 then(gW (Be m (mapK (·.1) vs) (Cf (Cf vs x.a (i.1,((getK (mapK (·.2) vs) x.a).getD [])++[x.b])) x.b (i.2.1,((getK (mapK (·.2) vs) x.b).getD [])++[x.a]))))else(bif b 13 then(gW (Be m (mapK (·.1) vs) (Cf vs x.a (i.1,((getK (mapK (·.2) vs) x.a).getD [])++[x.b]))))else .res (Be m (mapK (·.1) vs) vs)))))),.box (CK x)]⟩) ?_ ?_ ?_ ?_ ?_
  ·rfl
  ·kernel_rfl
  ·kernel_rfl
  ·refine AP (λi b c a hc=>?_) ?_
   ·try dsimp only
    refine Ba (AX.move V GH) ?_;exact⟨i,i6⟩
   refine AP (λi b c a hc=>?_) ?_
   ·try dsimp only
    refine Ba (Bu V Fu V) ?_;exact⟨i,i6⟩
   refine AP (λi b c a hc=>?_) ?_
   ·have h1:b 1=aZ:=a 0 _ V V;try dsimp only
    refine Ba (Bi V ((Aq Fu).trans (BL h1 _ _)) V V) ?_;exact⟨i,i6⟩
   refine AP (λi b c a hc=>?_) ?_
   ·try dsimp only
    refine Ba (AX.move V GH) ?_;exact⟨i,i6⟩
   refine AP (λi b c a hc=>?_) ?_
   ·try dsimp only
    refine Ba (Bu V Fu V) ?_;exact⟨i,i6⟩
   refine AP (λi b c a hc=>?_) ?_
   ·have h4:b 4=aZ:=a 0 _ V V;try dsimp only
    refine Ba (Bi V ((Aq (Aq IL)).trans (BL h4 _ _)) V V) ?_;exact⟨i,i6⟩
   refine AP (λi b c a hc=>?_) ?_
   ·try dsimp only
    refine Ba (AX.move V GH) ?_;exact⟨i,i6⟩
   refine AP (λi b c a hc=>?_) ?_
   ·try dsimp only
    refine Ba (Bu V Fu V) ?_;exact⟨i,i6⟩
   refine AP (λi b c a hc=>?_) ?_
   ·have h7:b 7=aZ:=a 0 _ V V;try dsimp only
    refine Ba (Bi V ((Aq (Aq FQ)).trans (BL h7 _ _)) V V) ?_;exact⟨i,i6⟩
   refine AP (λi b c a hc=>?_) ?_
   ·have h6:b 6=aZ:=a 0 _ V V;have h8:b 8=aZ:=a 1 _ V V;have O:b 13=aL:=AZ hc (i:=9) (j:=13) (k:=0) V V V V c;have s:b 22=aL:=AZ hc (i:=13) (j:=22) (k:=16) V V V V O;have f:b 24=aL:=AZ hc (i:=9) (j:=24) (k:=13) V V V V c;have d:b 25=aL:=AZ hc (i:=9) (j:=25) (k:=13) V V V V c;try dsimp only
    refine Ba (Lj (u:=((getK (mapK (·.1) vs) x.a).getD (.slice jR 0 0))) 0 V bW ((Aq (Aq FD)).trans (BL h6 _ _)) ((Aq (Aq Gt)).trans (BL h8 _ _)) N (mr3 s f d) V) ?_;exact⟨i,i6⟩
   refine AP (λi b c a hc=>?_) ?_
   ·try dsimp only
    refine Ba (Bu V Fu V) ?_;exact⟨i,i6⟩
   refine AP (λi b c a hc=>?_) ?_
   ·have au:b 10=aZ:=a 0 _ V V;try dsimp only
    refine Ba (Bi V ((Aq (Aq G8)).trans (BL au _ _)) V V) ?_;exact⟨i,i6⟩
   refine AP (λi b c a hc=>?_) ?_
   ·have ar:b 11=aZ:=a 0 _ V V;try dsimp only
    refine Ba (Cm (T:=tInt) V V V (by rfl) (by decide) (Fit.of_eq ((Aq (Aq GY)).trans (BL ar _ _)) (Fit.int L))) ?_;exact⟨i,i6⟩
   refine AP (λi b c a hc=>?_) ?_
   ·have h9:b 9=aZ:=a 0 _ V V;have aq:b 12=aZ:=a 1 _ V V;have d:b 25=aL:=AZ hc (i:=13) (j:=25) (k:=17) V V V V c;have f:b 24=aL:=AZ hc (i:=13) (j:=24) (k:=2) V V V V c;have s:b 22=aL:=AZ hc (i:=13) (j:=22) (k:=16) V V V V c;have F:b 21=aL:=AZ hc (i:=13) (j:=21) (k:=2) V V V V c;have B:b 23=aL:=AZ hc (i:=22) (j:=23) (k:=0) V V V V s;have ae:upd b 13 21=aL:=F;have W:upd b 13 22=aL:=s;have I:upd b 13 24=aL:=f;have D:upd b 13 25=aL:=d;have J:upd b 13 23=aL:=B;try dsimp only
    refine Qr (k:=x.a) 0 V V ((Aq (Aq Fu)).trans (BL h9 _ _)) (congrArg jS (((((C3 d _ _).trans (C3 f _ _)).trans (C3 s _ _)).trans (C3 F _ _)).trans (C3 c _ _))) ((Aq (Aq (Aq IL))).trans (BL aq _ _)) N (Af6 vs x.a) ag λv=>?_
    refine⟨(v,i.2),?_⟩;simp only[F,ae,cond_false,s,W,cond_false,B,J,cond_false,f,I,cond_false,d,D,cond_false];exact i6
   refine AP (λi b c a hc=>?_) ?_
   ·try dsimp only
    refine Ba (AX.move V GH) ?_;exact⟨i,i6⟩
   refine AP (λi b c a hc=>?_) ?_
   ·try dsimp only
    refine Ba (Bu V Fu V) ?_;exact⟨i,i6⟩
   refine AP (λi b c a hc=>?_) ?_
   ·have ao:b 15=aZ:=a 0 _ V V;try dsimp only
    refine Ba (Bi V ((Aq (Aq (Aq FQ))).trans (BL ao _ _)) V V) ?_;exact⟨i,i6⟩
   refine AP (λi b c a hc=>?_) ?_
   ·have ap:b 14=aZ:=a 0 _ V V;have an:b 16=aZ:=a 1 _ V V;have s:b 22=aL:=AZ hc (i:=17) (j:=22) (k:=20) V V V V c;have f:b 24=aL:=AZ hc (i:=17) (j:=24) (k:=21) V V V V c;have d:b 25=aL:=AZ hc (i:=17) (j:=25) (k:=21) V V V V c;try dsimp only
    refine Ba (Lj (u:=((getK (mapK (·.1) vs) x.b).getD (.slice jR 0 0))) 0 V bW ((Aq (Aq (Aq FD))).trans (BL ap _ _)) ((Aq (Aq (Aq Gt))).trans (BL an _ _)) L (mr3 s f d) V) ?_;exact⟨i,i6⟩
   refine AP (λi b c a hc=>?_) ?_
   ·try dsimp only
    refine Ba (Bu V Fu V) ?_;exact⟨i,i6⟩
   refine AP (λi b c a hc=>?_) ?_
   ·have al:b 18=aZ:=a 0 _ V V;try dsimp only
    refine Ba (Bi V ((Aq (Aq (Aq G8))).trans (BL al _ _)) V V) ?_;exact⟨i,i6⟩
   refine AP (λi b c a hc=>?_) ?_
   ·have ak:b 19=aZ:=a 0 _ V V;try dsimp only
    refine Ba (Cm (T:=tInt) V V V (by rfl) (by decide) (Fit.of_eq ((Aq (Aq (Aq GY))).trans (BL ak _ _)) (Fit.int N))) ?_;exact⟨i,i6⟩
   refine AP (λi b c a hc=>?_) ?_
   ·have am:b 17=aZ:=a 0 _ V V;have aj:b 20=aZ:=a 1 _ V V;have d:b 25=aL:=AZ hc (i:=21) (j:=25) (k:=2) V V V V c;have f:b 24=aL:=AZ hc (i:=21) (j:=24) (k:=25) V V V V c;have s:b 22=aL:=AZ hc (i:=21) (j:=22) (k:=2) V V V V c;have O:b 13=aZ:=a 2 _ V V;have B:b 23=aL:=AZ hc (i:=22) (j:=23) (k:=0) V V V V s;have W:upd b 21 22=aL:=s;have I:upd b 21 24=aL:=f;have D:upd b 21 25=aL:=d;have J:upd b 21 23=aL:=B;try dsimp only
    refine Qr (k:=x.b) 0 V V ((Aq (Aq (Aq Fu))).trans (BL am _ _)) (congrArg jS (((((C3 d _ _).trans (C3 f _ _)).trans (C3 s _ _)).trans (C3 c _ _)).trans (SM O _ _))) ((Aw IL).trans (BL aj _ _)) L ((congrArg (λq=>Option.getD q (.slice jR 0 0,[])) (Ari ad ai _)).trans (Af6 vs x.b)) af λv=>?_
    refine⟨(i.1,v,i.2.2),?_⟩;simp only[s,W,cond_false,B,J,cond_false,f,I,cond_false,d,D,cond_false];exact i6
   refine AP (λi b c a hc=>?_) ?_
   ·have h0:b 0=aZ:=a 0 _ V V;have h2:b 2=aZ:=a 1 _ V V;have d:b 25=aL:=AZ hc (i:=22) (j:=25) (k:=26) V V V V c;have f:b 24=aL:=AZ hc (i:=22) (j:=24) (k:=3) V V V V c;have F:b 21=aZ:=a 2 _ V V;have B:b 23=aL:=AZ hc (i:=22) (j:=23) (k:=0) V V V V c;have I:upd b 22 24=aL:=f;have D:upd b 22 25=aL:=d;have J:upd b 22 23=aL:=B;try dsimp only
    refine Ajf 0 V bW ((Aq Gt).trans (BL h0 _ _)) ((Aq G8).trans (BL h2 _ _)) N ah (congrArg jS ((((C3 d _ _).trans (C3 f _ _)).trans (C3 c _ _)).trans (SM F _ _))) λv st=>?_
    refine⟨(i.1,i.2.1,st,v),?_⟩;simp only[B,J,cond_false,f,I,cond_false,d,D,cond_false];exact i6
   refine AP (λi b c a hc=>?_) ?_
   ·have s:b 22=aZ:=a 0 _ V V;try dsimp only
    refine Ba (BY V ((Aw FD).trans (BL s _ _)) V) ?_;exact⟨i,i6⟩
   refine AP (λi b c a hc=>?_) ?_
   ·have h0:b 0=aZ:=a 0 _ V V;have O:b 13=aZ:=a 2 _ V V;have B:b 23=aZ:=a 1 _ V V;have d:b 25=aL:=AZ hc (i:=24) (j:=25) (k:=3) V V V V c;have s:b 22=aZ:=a 3 _ V V;have D:upd b 24 25=aL:=d;try dsimp only
    refine Aje 0 V ((Aq Gt).trans (BL h0 _ _)) ((Aw FQ).trans (BL B _ _)) ((Aq (Aq (Aq GH))).trans (BL O _ _)) (congrArg jS (((C3 d _ _).trans (C3 c _ _)).trans (SM s _ _))) ?_;refine⟨i,?_⟩;simp only[d,D,cond_false];exact i6
   refine AP (λi b c a hc=>?_) ?_
   ·have h3:b 3=aZ:=a 0 _ V V;have h5:b 5=aZ:=a 1 _ V V;have F:b 21=aZ:=a 2 _ V V;have f:b 24=aZ:=a 3 _ V V;try dsimp only
    refine VW 0 V bW ((Aq GY).trans (BL h3 _ _)) ((Aq (Aq GH)).trans (BL h5 _ _)) ((Aw GH).trans (BL F _ _)) L (ac _) (congrArg jS ((C3 c _ _).trans (SM f _ _))) ?_;refine⟨i,?_⟩;exact i6
   exact ND
  intro i;refine qVia ⟨.any::.lit (.map (jS m))::A3 (.ptr 1 0::.bs CI l::.lit (.int .i64 (l.length:Int))::.lit (.int .i64 (k:Int))::A3 [.lit (.map (jS m)),.ptr 1 0,.lit (.int .i64 x.a),.lit (.map (jS m)),.ptr 1 1,.lit (.int .i64 x.b),.lit (.map (jS m)),.ptr 1 0,.lit (.int .i64 x.a),.lit ((getK (mapK (·.1) vs) x.a).getD (.slice jR 0 0)),.ptr 1 1,.lit (.int .i64 x.b),.bs tInt [x.b],.lit i.1,.lit (.map (jS m)),.ptr 1 1,.lit (.int .i64 x.b),.lit ((getK (mapK (·.1) vs) x.b).getD (.slice jR 0 0)),.ptr 1 0,.lit (.int .i64 x.a),.bs tInt [x.a],.lit i.2.1,.lit (.tuple #[i.2.2.2,goInt i.2.2.1]),.lit (goInt i.2.2.1),.any]),[.res (Be m (Cf (Cf (mapK (·.1) vs) x.a i.1) x.b i.2.1) (Cf (Cf vs x.a (i.1,((getK (mapK (·.2) vs) x.a).getD [])++[x.b])) x.b (i.2.1,((getK (mapK (·.2) vs) x.b).getD [])++[x.a]))),.box (CK x)]⟩ V ?_;refine h6 _ ?_;refine nT ?_;refine AN ⟨(.any::.lit (.map (jS m))::A4 (.bs CI l::.lit (.int .i64 (l.length:Int))::.lit (.int .i64 (k:Int))::A20 (A8 []))),[.res (Be m (mapK (·.1) (Cf (Cf vs x.a (i.1,((getK (mapK (·.2) vs) x.a).getD [])++[x.b])) x.b (i.2.1,((getK (mapK (·.2) vs) x.b).getD [])++[x.a]))) (Cf (Cf vs x.a (i.1,((getK (mapK (·.2) vs) x.a).getD [])++[x.b])) x.b (i.2.1,((getK (mapK (·.2) vs) x.b).getD [])++[x.a])))]⟩ (by rw[GD,GD];exact Ky (.cons (iA _))) ?_;refine wRE ?_;refine As ⟨(k+1,Cf (Cf vs x.a (i.1,((getK (mapK (·.2) vs) x.a).getD [])++[x.b])) x.b (i.2.1,((getK (mapK (·.2) vs) x.b).getD [])++[x.a])),⟨aa,(U.put N _).put L _,?_⟩,by show l.length - (k+1) < l.length - k;omega,AU⟩;dsimp only;rw[GD,GD,Ab1 hx,Z];rfl
 ·obtain rfl:k=l.length:=by have:¬k < l.length:=(by simpa using Y);omega
  refine AA ?_;exact⟨.inl V,⟨vs,by rw[Z,gQ]⟩,rfl,rfl⟩
end Mu
namespace Mu
open Go Go.RowKit Go.Proofs
def Sj(leaf:Bool):Int:=if leaf then 8 else 24
def Ain(own:Int)(n:Nat):List iF:=(gE n).map λ(r:Nat)=>⟨(r:Int),own+(r:Int)⟩
def Na(l:List Int)(k:Nat):List iF:=(gE k).map λ(j:Nat)=>⟨l.getD j 0,8+(j:Int)⟩
def ET(own:Int)(x:Ins):List iF:=if x.op ==10 then [⟨x.a,own⟩]else if x.op ==5 then⟨x.d,8⟩::Na x.args (x.args.take 6).length else []
def Jv(own:Int)(b:g8):List iF:=b.ins.flatMap (ET own)
def Cg(f:iE)(leaf:Bool):List iF:=Ain (Sj leaf) (argsK f)++f.blocks.flatMap (Jv (Sj leaf))
theorem Aim(own:Int)(n:Nat):Ain own (n+1)=Ain own n++[⟨(n:Int),own+(n:Int)⟩]:=by unfold Ain;rw[gI,eZ];rfl
theorem SW(own:Int)(n:Nat):(Ain own n).length=n:=by simp[Ain]
theorem Ab0{l:List Int}{k:Nat}{a:Int}(h:l[k]? =jS a):Na l (k+1)=Na l k++[⟨a,8+(k:Int)⟩]:=by
 unfold Na;rw[gI,eZ];simp only[fA,fB,dZ,h,jN]
theorem Vh(l:List Int)(k:Nat):(Na l k).length=k:=by simp[Na]
theorem Ag3(own:Int)(x:Ins):(ET own x).length<=7:=by
 unfold ET;split
 ·simp
 ·split
  ·rw[eQ,Vh,eY];omega
  ·simp
theorem Aa3(own:Int)(l:List Ins):(l.flatMap (ET own)).length<=7 * l.length:=by
 induction l with
 |nil=>simp
 |cons x l a=>
  have:=Ag3 own x;rw[dV,eP,eQ];omega
def RF(f:iE):List Ins:=f.blocks.flatMap (·.ins)
theorem Aau(own:Int)(f:iE):(f.blocks.flatMap (Jv own)).length<=7 *(RF f).length:=by
 have:=Aa3 own (RF f);unfold RF at *;rw[List.flatMap_assoc]at this;exact this
theorem Aat(f:iE)(leaf:Bool)(ho:okFunc f)(hs:smallF f)(hI:(RF f).length<=2097152):Fn bV 51 [.agg (An f),.lit (.bool leaf)] (.bs Gq (Cg f leaf)):=by
 have cf:=hs.blocks;have cd:=(GM f).2;refine AT Tryz.func51 V (by kernel_rfl) V Tryz.ntmps51 λC hC=>?_
 refine nS ?_;refine rCS ?_;refine rCS ?_;refine Ae λK3 h3=>?_
 have ac:∀s':St,St.le C s' ⟨(A2 (.ptr 0 0::A2 (.lit (.int .i64 (Sj leaf))::A80 []))),[.box (An f)]⟩->K3 s':=by
  intro s' an;refine h3 _ (AN _ an ?_);have ay:8<=Sj leaf/\Sj leaf<=24:=by unfold Sj;split <;> omega
  have aa:∀j:Nat,j<=6->wfI .i64 (Sj leaf+(j:Int)):=λj hj=>by
   have:wfI .i64 (((Sj leaf).toNat+j:Nat):Int):=LY (by omega);rwa [show(((Sj leaf).toNat+j:Nat):Int)=Sj leaf+(j:Int)by omega]at this
  have O:wfI .i64 (Sj leaf):=by have:=aa 0 (by omega);rwa [show Sj leaf+((0:Nat):Int)=Sj leaf by omega]at this
  have ae:=Aau (Sj leaf) f;generalize ah:Sj leaf=own at ay aa O ae;have ap:Cg f leaf=Ain own (argsK f)++f.blocks.flatMap (Jv own):=by unfold Cg;rw[ah]
  rw[ap];have w8:wfI .i64 8:=(by decide:(Lit.int .i64 (8:Int)).wf=aZ)
  refine rCS ?_;refine Ae λK7 h7=>?_
  refine Ae λK8 h8=>?_
  (refine gZ ?_;(repeat(first|refine sQ ?_ (AX.call V (Vw f) V V V)|refine sQ ?_ (AB V V V V)|refine sQ ?_ (Ay V V V V)|refine sQ ?_|refine AR ?_|refine sG ?_|refine Bt ?_));refine Ax ?_)
  refine h8 _ ?_;refine nT ?_;refine Ah ?_;refine AJ (λp:Nat×Nat=>⟨(A2 (.ptr 0 0::A2 (.lit (.int .i64 own)::.own 1 p.2::A9 (.lit (.int .i64 (argsK f:Int))::.lit (.int .i64 (p.1:Int))::A40 (A20 (A8 [])))))),[.box (An f),.row p.2 84 Gq (Ain own p.1)]⟩) (λp=>p.1<=argsK f) (λp=>argsK f - p.1) (0,0) (jL _) ((CG 6 84 Gq V (by decide)).trans (B6)) ?_;rintro⟨k,ver⟩ hk
  (try dsimp only at hk);(try dsimp only)
  refine rCS ?_;refine Ae λcw bx=>?_
  refine Am V (λJ=>?_) (λJ=>?_)
  ·have am:k < argsK f:=by simpa using J
   have hw:=LY (k:=k) (by omega);have av:=aa k (by omega);have L:=SW own k;have af:=Aim own k;generalize bj:Ain own k=L0 at L af⊢;have aj:L0.length+ [(⟨(k:Int),own+(k:Int)⟩:iF)].length<=cF:=by simp[cF];omega
   have ai:(L0.length+ [(⟨(k:Int),own+(k:Int)⟩:iF)].length) * 16<=140737488355328:=by simp;omega
   refine Ao ?_;refine bx _ ?_;refine nT ?_;refine Ae λcu bw=>?_
   refine Ah ?_;refine rCS ?_
   (refine gZ ?_;(repeat(first|refine sQ ?_ (Mt (rs:=[.lit (.int .i64 (k:Int)),.lit (.int .i64 (own+(k:Int)))]) V Yh V V)|refine sQ ?_ (Cm (T:=Gq) V V V (by rfl) (by decide) (Ot hw av))|refine sQ ?_ (AB V V V V)|refine sQ ?_ (Ay V V V V)|refine sQ ?_|refine AR ?_|refine sG ?_|refine Bt ?_));refine Ax ?_)
   refine bw _ ?_;refine nT ?_;refine rC ?_;refine As ⟨(k+1,ver+1),by dsimp only;omega,by dsimp only;omega,?_⟩;try dsimp only
   rw[af];exact B6
  ·have bb:k=argsK f:=by
    have:¬k < argsK f:=by simpa using J
    omega
   subst bb;have L:=SW own (argsK f);generalize bk:Ain own (argsK f)=A0 at L⊢;refine AA ?_;refine h7 _ ?_;refine nT ?_;refine Ae λct bv=>?_
   refine rCS ?_;refine Ah ?_;refine AJ (λp:Nat×Nat=>⟨(A2 (.ptr 0 0::A2 (.lit (.int .i64 own)::.own 1 p.2::A20 (A3 (.bs Ct f.blocks::.lit (.int .i64 (f.blocks.length:Int))::.lit (.int .i64 (p.1:Int))::A40 (A10 (A3 []))))))),[.box (An f),.row p.2 84 Gq (A0++(f.blocks.take p.1).flatMap (Jv own))]⟩) (λp=>p.1<=f.blocks.length) (λp=>f.blocks.length - p.1) (0,ver) (jL _) (by rw[show A0++(f.blocks.take (0,ver).1).flatMap (Jv own)=A0 by simp];exact B6) ?_;rintro⟨b,ver⟩ hb
   (try dsimp only at hb);(try dsimp only)
   refine rCS ?_;refine Ae λcs bu=>?_
   refine Am V (λI=>?_) (λI=>?_)
   ·have am:b < f.blocks.length:=by simpa using I
    obtain⟨d,v⟩:∃d,f.blocks[b]? =jS d:=⟨_,eC am⟩
    have N:=fN v;have az:=ho.blocks d N;have ag:=hs.all d N;have ce:=ag.ins;have bg:=Dz (g:=Jv own) v;refine Ao ?_;refine bu _ ?_;refine nT ?_;refine Ae λcr bt=>?_
    refine Ah ?_;refine rCS ?_;refine rCS ?_;refine Ah ?_;refine AJ (λp:Nat×Nat=>⟨(A2 (.ptr 0 0::A2 (.lit (.int .i64 own)::.own 1 p.2::A20 (A3 (.bs Ct f.blocks::.lit (.int .i64 (f.blocks.length:Int))::.lit (.int .i64 (b:Int))::A4 (.bs Et d.ins::.lit (.int .i64 (d.ins.length:Int))::.lit (.int .i64 (p.1:Int))::A40 (A6 []))))))),[.box (An f),.row p.2 84 Gq (A0++(f.blocks.take b).flatMap (Jv own)++(d.ins.take p.1).flatMap (ET own))]⟩) (λp=>p.1<=d.ins.length) (λp=>d.ins.length - p.1) (0,ver) (jL _) (by rw[show A0++(f.blocks.take b).flatMap (Jv own)++(d.ins.take (0,ver).1).flatMap (ET own)=A0++(f.blocks.take b).flatMap (Jv own)by simp];exact Ky (.cons (.cons (iA _)))) ?_;rintro⟨i,ver⟩ hi
    (try dsimp only at hi);(try dsimp only)
    refine rCS ?_;refine Ae λcq br=>?_
    refine Am V (λF=>?_) (λF=>?_)
    ·have ao:i < d.ins.length:=by simpa using F
     obtain⟨x,hx⟩:∃x,d.ins[i]? =jS x:=⟨_,eC ao⟩
     have ad:=fN hx;have U:=az.ins x ad;have bz:x.args.length<=2097152:=by have:=ag.all x ad;omega
     have au:=Dz (g:=ET own) hx;have an:=SG (g:=ET own) v hx;have cg:(f.blocks.flatMap λc=>c.ins.flatMap (ET own)).length<=14680064:=by
      have:(f.blocks.flatMap λc=>c.ins.flatMap (ET own))=f.blocks.flatMap (Jv own):=rfl;rw[this];omega
     have hL:(A0++(f.blocks.take b).flatMap (Jv own)++(d.ins.take i).flatMap (ET own)).length+(ET own x).length<=14680070:=by
      rw[eP,eP,L];have:((f.blocks.take b).flatMap (Jv own)).length=((f.blocks.take b).flatMap λc=>c.ins.flatMap (ET own)).length:=rfl;omega
     have q:A0++(f.blocks.take b).flatMap (Jv own)++(d.ins.take (i+1)).flatMap (ET own)=(A0++(f.blocks.take b).flatMap (Jv own)++(d.ins.take i).flatMap (ET own))++ET own x:=by rw[au,cT _ _ (ET own x)]
     generalize bj:A0++(f.blocks.take b).flatMap (Jv own)++(d.ins.take i).flatMap (ET own)=L0 at hL q⊢;have ci:L0.length<=14680070:=by omega
     refine Ao ?_;refine br _ ?_;refine nT ?_;refine Ae λcp ab=>?_
     refine Ah ?_;refine rCS ?_;refine rCS ?_;refine Ah ?_;refine rCS ?_;refine Am V (λs=>?_) (λs=>?_)
     ·have e:ET own x= [⟨x.a,own⟩]:=by unfold ET;rw[if_pos s]
      have aj:L0.length+ [(⟨x.a,own⟩:iF)].length<=cF:=by simp[cF];omega
      have ai:(L0.length+ [(⟨x.a,own⟩:iF)].length) * 16<=140737488355328:=by simp;omega
      (refine gZ ?_;(repeat(first|refine sQ ?_ (Mt (rs:=[.lit (.int .i64 x.a),.lit (.int .i64 own)]) V Yh V V)|refine sQ ?_ (Cm (T:=Gq) V V V (by rfl) (by decide) (Ot U.a O))|refine sQ ?_ (AB V V V V)|refine sQ ?_ (Ay V V V V)|refine sQ ?_|refine AR ?_|refine sG ?_|refine Bt ?_));refine Ax ?_)
      refine ab _ ?_;refine nT ?_;refine rC ?_;refine As ⟨(i+1,ver+1),by dsimp only;omega,by dsimp only;omega,?_⟩;try dsimp only
      rw[q,e];exact Ky (.cons (.cons (iA _)))
     ·refine rCS ?_;refine Am V (λD=>?_) (λD=>?_)
      ·have e:ET own x=⟨x.d,8⟩::Na x.args (x.args.take 6).length:=by unfold ET;rw[if_neg (by rw[s];simp),if_pos D]
       have aj:L0.length+ [(⟨x.d,8⟩:iF)].length<=cF:=by simp[cF];omega
       have ai:(L0.length+ [(⟨x.d,8⟩:iF)].length) * 16<=140737488355328:=by simp;omega
       refine Ae λco bq=>?_
       (refine gZ ?_;(repeat(first|refine sQ ?_ (Mt (rs:=[.lit (.int .i64 x.d),.lit (.int .i64 8)]) V Yh V V)|refine sQ ?_ (Cm (T:=Gq) V V V (by rfl) (by decide) (Ot U.d w8))|refine sQ ?_ (AB V V V V)|refine sQ ?_ (Ay V V V V)|refine sQ ?_|refine AR ?_|refine sG ?_|refine Bt ?_));refine Ax ?_)
       refine bq _ ?_;refine nT ?_;refine Ae λcn bo=>?_
       have al:(if(6:Int) < (x.args.length:Int)then(6:Int)else(x.args.length:Int))=((x.args.take 6).length:Int):=by rw[eY];split <;> omega
       have ak:(x.args.take 6).length<=x.args.length:=by rw[eY];omega
       have ba:(x.args.take 6).length<=6:=by rw[eY];omega
       (refine gZ ?_;(repeat(first|refine sQ ?_ (P9 (l:=0) (m:=(x.args.take 6).length) V V V V ⟨_,congrArg (λz=>AV.lit (b9 .i64 z)) al⟩ (jL _) ak)|refine sQ ?_ (AB V V V V)|refine sQ ?_ (Ay V V V V)|refine sQ ?_|refine AR ?_|refine sG ?_|refine Bt ?_));refine Ax ?_)
       have Y:((x.args.take (x.args.take 6).length).drop 0).length=(x.args.take 6).length:=by rw[eR,eY];omega
       have Z:∀j,j < (x.args.take 6).length->((x.args.take (x.args.take 6).length).drop 0)[j]? =x.args[j]?:=λj hj=>by rw[dG,List.getElem?_take_of_lt hj]
       generalize cc:(x.args.take 6).length=m at ak ba Y Z e⊢;generalize ch:(x.args.take m).drop 0=S at Y Z⊢;refine bo _ ?_;refine nT ?_;refine Ah ?_;refine AJ (λp:Nat×Nat=>⟨(A2 (.ptr 0 0::A2 (.lit (.int .i64 own)::.own 1 p.2::A20 (A3 (.bs Ct f.blocks::.lit (.int .i64 (f.blocks.length:Int))::.lit (.int .i64 (b:Int))::A4 (.bs Et d.ins::.lit (.int .i64 (d.ins.length:Int))::.lit (.int .i64 (i:Int))::A20 (A8 (.bs tInt S::.lit (.int .i64 (S.length:Int))::.lit (.int .i64 (p.1:Int))::A10 (A5 []))))))))),[.box (An f),.row p.2 84 Gq (L0++[⟨x.d,8⟩]++Na x.args p.1)]⟩) (λp=>p.1<=S.length) (λp=>S.length - p.1) (0,ver+1) (jL _) (by rw[show L0++[⟨x.d,8⟩]++Na x.args (0,ver+1).1=L0++[⟨x.d,8⟩]by simp[Na]];exact Ky (.cons (.cons (iA _)))) ?_;rintro⟨j,ver⟩ hj
       (try dsimp only at hj);(try dsimp only)
       refine rCS ?_;refine Ae λcm bn=>?_
       refine Am V (λB=>?_) (λB=>?_)
       ·have bc:j < S.length:=by simpa using B
        obtain⟨a,ha⟩:∃a,S[j]? =jS a:=⟨_,eC bc⟩
        have ar:x.args[j]? =jS a:=by rw[<-Z j (by omega)];exact ha
        have aw:=U.args a (fN ar);have ax:wfI .i64 (8+(j:Int)):=by
         have:wfI .i64 ((8+j:Nat):Int):=LY (by omega);rwa [show((8+j:Nat):Int)=8+(j:Int)by omega]at this
        have aq:=Ab0 ar;have bh:=Vh x.args j;generalize cj:Na x.args j=C0 at aq bh⊢;have cb:(L0++[(⟨x.d,8⟩:iF)]++C0).length+ [(⟨a,8+(j:Int)⟩:iF)].length<=cF:=by simp[cF];omega
        have ca:((L0++[(⟨x.d,8⟩:iF)]++C0).length+ [(⟨a,8+(j:Int)⟩:iF)].length) * 16<=140737488355328:=by simp;omega
        refine Ao ?_;refine bn _ ?_;refine nT ?_;refine Ae λck bm=>?_
        refine Ah ?_;refine rCS ?_
        (refine gZ ?_;(repeat(first|refine sQ ?_ (Mt (rs:=[.lit (.int .i64 a),.lit (.int .i64 (8+(j:Int)))]) V Yh V V)|refine sQ ?_ (Cm (T:=Gq) V V V (by rfl) (by decide) (Ot aw ax))|refine sQ ?_ (AB V V V V)|refine sQ ?_ (Ay V V V V)|refine sQ ?_|refine AR ?_|refine sG ?_|refine Bt ?_));refine Ax ?_)
        refine bm _ ?_;refine nT ?_;refine rC ?_;refine As ⟨(j+1,ver+1),by dsimp only;omega,by dsimp only;omega,?_⟩;try dsimp only
        rw[aq,<-cT];exact B6
       ·have be:j=S.length:=by
         have:¬j < S.length:=by simpa using B
         omega
        subst be;refine AA ?_;refine ab _ ?_;refine nT ?_;refine rC ?_;refine As ⟨(i+1,ver),by dsimp only;omega,by dsimp only;omega,?_⟩;try dsimp only
        rw[q,e,Y,cT L0];exact B6
      ·have e:ET own x= []:=by unfold ET;rw[if_neg (by rw[s];simp),if_neg (by rw[D];simp)]
       refine Ao ?_;refine ab _ ?_;refine nT ?_;refine rC ?_;refine As ⟨(i+1,ver),by dsimp only;omega,by dsimp only;omega,?_⟩;try dsimp only
       rw[q,e,cV];exact Ky (.cons (.cons (iA _)))
    ·have bf:i=d.ins.length:=by
      have:¬i < d.ins.length:=by simpa using F
      omega
     subst bf;rw[gQ];refine AA ?_;refine bt _ ?_;refine nT ?_;refine rC ?_;refine As ⟨(b+1,ver),by dsimp only;omega,by dsimp only;omega,?_⟩;try dsimp only
     rw[bg,<-cT];exact B6
   ·have bi:b=f.blocks.length:=by
     have:¬b < f.blocks.length:=by simpa using I
     omega
    subst bi;rw[gQ];refine AA ?_;refine bv _ ?_;refine nT ?_;refine rCS ?_;refine Az ?_;subst bk;exact⟨.inr V,Fin.own V⟩
 refine rCS ?_;refine Am V (λW=>?_) (λW=>?_)
 ·subst W;refine rC ?_;refine ac _ ?_;exact B6
 ·subst W;refine Ao ?_;refine ac _ ?_;exact B6
open Go.Maps
def clsE(z:List (Int×List Int)):List (Int×List Int):=z.foldl (λE p=>Cf E p.1 p.2) []
def NW(E:List (Int×List Int))(h:iF):List (Int×List Int):=Cf E h.r (((getK E h.r).getD [])++[h.at_])
def N6(l:List iF):List (Int×List Int):=l.foldl NW []
def Cz(f:iE)(leaf:Bool)(ch:List Int):g9:=⟨regsB f,clsE ((regsB f).zip (CM f leaf (regsB f))),Mo (Cp f),N6 (Cg f leaf),Mo (mvL f),ch⟩
theorem Ah6{z:List (Int×List Int)}{k:Nat}{p:Int×List Int}(h:z[k]? =jS p):clsE (z.take (k+1))=Cf (clsE (z.take k)) p.1 p.2:=by
 unfold clsE;rw[gP,h];simp[dW]
theorem Ami(z:List (Int×List Int)):(clsE z).length<=z.length:=by
 have:∀E:List (Int×List Int),(z.foldl (λE p=>Cf E p.1 p.2) E).length<=E.length+z.length:=by
  induction z with
  |nil=>intro E;simp
  |cons x l a=>
   intro E;rw[dX,eQ];have h1:=a (Cf E x.1 x.2);have h2:=E9 (l:=E) x.1 x.2;omega
 have:=this [];simpa[clsE]using this
theorem Aav{l:List iF}{k:Nat}{x:iF}(h:l[k]? =jS x):N6 (l.take (k+1))=NW (N6 (l.take k)) x:=by
 unfold N6;rw[gP,h];simp[dW]
theorem Ag4(l:List iF):(N6 l).length<=l.length:=by
 have:∀E:List (Int×List Int),(l.foldl NW E).length<=E.length+l.length:=by
  induction l with
  |nil=>intro E;simp
  |cons x l a=>
   intro E;rw[dX,eQ];have h1:=a (NW E x);have h2:=E9 (l:=E) x.r (((getK E x.r).getD [])++[x.at_]);unfold NW at h1⊢;omega
 have:=this [];simpa[N6]using this
theorem UI(l:List iF)(k:Int):((getK (N6 l) k).getD []).length<=l.length:=by
 have:∀E:List (Int×List Int),Em E->((getK (l.foldl NW E) k).getD []).length<=((getK E k).getD []).length+l.length:=by
  induction l with
  |nil=>intro E _;simp
  |cons x l a=>
   intro E h;rw[dX,eQ];have h1:=a (NW E x) (h.put _ _);have h2:((getK (NW E x) k).getD []).length<=((getK E k).getD []).length+1:=by
    unfold NW;rw[BM h];by_cases e:k=x.r
    ·rw[if_pos e,e];simp
    ·rw[if_neg e];omega
   omega
 have:=this [] Em.nil;simpa[N6,getK]using this
def AAt(E:List (Int×List Int)):{vs:List (Int×(bZ×List Int)) // mapK (·.2) vs=E}:=⟨mapK (λl=>(undef,l)) E,by unfold mapK;rw[List.map_map];exact(List.map_congr_left (g:=id) λ_ _=>rfl).trans (List.map_id E)⟩
theorem mr2{m:Nat}{cv:List (Int×bZ)}{a b:Bool}{X Y:gV}{c:List (Int×(bZ×List Int))}(d:b=aL)(f:a=aL):
 ∃vs,(bif a then X else(bif b then Y else .res (Be m cv c)))=gW (Be m cv vs):=by
 subst f d;exact⟨_,rfl⟩
theorem Akq:EB bV 79=jS [(0,1),(1,1),(2,1),(3,1),(4,1),(5,1)]:=by kernel_rfl
instance Ayj:ZC bV 79 [.slice jR 0 0,.map jR,.map jR,.map jR,.map jR,.slice jR 0 0]:=⟨by kernel_rfl⟩
theorem Aaz(f:iE)(leaf:Bool)(ch:List Int)(J:iD f)(hr:(regsB f).length<=1073741824)(bc:Fn bV 48 [.agg (An f)] (.bs tInt ch))(av:(Cp f).length<=1073741824)(aq:(mvL f).length<=1073741824)(au:Am7 (Cp f))(ar:Am7 (mvL f))
 (hI:(RF f).length<=2097152)(bq:(Cg f leaf).length<=1073741824)(hh:∀x∈Cg f leaf,Ci x.r/\Ci x.at_)(an:∀r∈regsB f,Ci r):Fn bV 25 [.agg (An f),.lit (.bool leaf)] (.bp Bf (Cz f leaf ch) 0):=by
 have ad:=LI f J.ok J.small J.all;have bb:=NG f leaf J.ok J.small J.reads J.ins J.all;have ba:=YX f J.ok J.small J.reads J.all J.ins;have ay:=Ak7 f J.ok J.small J.reads J.all J.ins;have az:=Aat f leaf J.ok J.small hI;refine AT Tryz.func25 V (by kernel_rfl) V Tryz.ntmps25 λC hC=>?_
 simp only[Nat.reduceAdd,Nat.reduceSub,zaa];refine wR ?_;refine AN _ (HU.trans (HU.trans (HU.trans (HU.trans HU)))) ?_;refine AN ⟨.agg (An f)::.lit (.bool leaf)::.ptr 0 0::.any::.lit (.pointer jR)::A80 (A3 []),[.box (An f),.res nilR,.res nilR,.res nilR,.res nilR,.res nilR]⟩ AU ?_;refine Ae λbr ap=>?_
 refine Fr (n:=11) (0,0,0,0,0) (λ(i:Nat×Nat×Nat×Nat×Nat) (b:Nat->Bool)=>⟨.agg (An f)::.lit (.bool leaf)::.ptr 0 0::.any::.lit (.pointer jR)::(bif b 10 then .lit (.pointer (jS ⟨i.2.2.2.2,0,jR⟩))else .any)::A6 ((bif b 0 then .agg (An f)else .any)::(bif b 1 then .bs tInt (regsB f)else .any)::(bif b 2 then .lit (.map (jS i.1))else .any)::(bif b 3 then .lit (.map (jS i.2.1))else .any)::(bif b 4 then .lit (.map (jS i.2.2.1))else .any)::(bif b 5 then .lit (.map (jS i.2.2.2.1))else .any)::(bif b 6 then .agg (An f)else .any)::(bif b 7 then .bs tInt ch else .any)::(bif b 8 then .agg [.bs tInt (regsB f),.lit (.map (jS i.1)),.lit (.map (jS i.2.1)),.lit (.map (jS i.2.2.1)),.lit (.map (jS i.2.2.2.1)),.bs tInt ch]else .any)::(bif b 9 then .lit (.pointer (jS ⟨i.2.2.2.2,0,jR⟩))else .any)::.any::.any::.any::.any::.any::.any::.any::.any::.any::.any::.any::.any::.any::.any::.any::.any::.any::.any::.any::.any::.any::.any::.any::.any::.any::.any::.any::.any::.any::.any::.any::.any::.any::.any::.any::.any::.any::.any::.any::.any::.any::.any::.any::.any::.any::.any::.any::.any::.any::.any::.any::.any::.any::.any::.any::.any::.any::.any::.any::.any::.any::.any::.any::.any::.any::.any::[]),[.box (An f),(bif b 2 then(gW (Dx i.1 []))else .res nilR),(bif b 3 then(gW (Be i.2.1 [] []))else .res nilR),(bif b 4 then(gW (Be i.2.2.1 [] []))else .res nilR),(bif b 5 then(gW (Be i.2.2.2.1 [] []))else .res nilR),(bif b 9 then(gW (Bh i.2.2.2.2 [.bs tInt (regsB f),.lit (.map (jS i.1)),.lit (.map (jS i.2.1)),.lit (.map (jS i.2.2.1)),.lit (.map (jS i.2.2.2.1)),.bs tInt ch]))else .res nilR)]⟩) ?_ ?_ ?_ ?_ ?_
 ·rfl
 ·kernel_rfl
 ·kernel_rfl
 ·refine AP (λi b d a hc=>?_) ?_
  ·try dsimp only
   refine Ba (AW V FD V V) ?_;exact⟨i,i6⟩
  refine AP (λi b d a hc=>?_) ?_
  ·have h0:b 0=aZ:=a 0 _ V V;try dsimp only
   refine Ba (AO V (Pu ((Aq Gt).trans (BL h0 _ _)) V) ad V V) ?_;exact⟨i,i6⟩
  refine AP (λi b d a hc=>?_) ?_
  ·have F:b 8=aL:=AZ hc (i:=2) (j:=8) (k:=1) V V V V d;have L:b 9=aL:=AZ hc (i:=8) (j:=9) (k:=0) V V V V F;have u8:upd b 2 8=aL:=F;have u9:upd b 2 9=aL:=L;try dsimp only
   refine II 1 (λm=>Dx m []) (λ_=>rfl) (λ_ _ h=>h) WL V (congrArg jS (C3 d _ _)) λm=>?_
   refine⟨(m,i.2),?_⟩;simp only[F,u8,cond_false,L,u9,cond_false];exact i6
  refine AP (λi b d a hc=>?_) ?_
  ·have F:b 8=aL:=AZ hc (i:=3) (j:=8) (k:=2) V V V V d;have L:b 9=aL:=AZ hc (i:=8) (j:=9) (k:=0) V V V V F;have u8:upd b 3 8=aL:=F;have u9:upd b 3 9=aL:=L;try dsimp only
   refine II 2 (λm=>Be m [] []) (λ_=>rfl) Pr Sq V (congrArg jS (C3 d _ _)) λm=>?_
   refine⟨(i.1,m,i.2.2),?_⟩;simp only[F,u8,cond_false,L,u9,cond_false];exact i6
  refine AP (λi b d a hc=>?_) ?_
  ·have F:b 8=aL:=AZ hc (i:=4) (j:=8) (k:=3) V V V V d;have L:b 9=aL:=AZ hc (i:=8) (j:=9) (k:=0) V V V V F;have u8:upd b 4 8=aL:=F;have u9:upd b 4 9=aL:=L;try dsimp only
   refine II 3 (λm=>Be m [] []) (λ_=>rfl) Pr Sq V (congrArg jS (C3 d _ _)) λm=>?_
   refine⟨(i.1,i.2.1,m,i.2.2.2),?_⟩;simp only[F,u8,cond_false,L,u9,cond_false];exact i6
  refine AP (λi b d a hc=>?_) ?_
  ·have F:b 8=aL:=AZ hc (i:=5) (j:=8) (k:=4) V V V V d;have L:b 9=aL:=AZ hc (i:=8) (j:=9) (k:=0) V V V V F;have u8:upd b 5 8=aL:=F;have u9:upd b 5 9=aL:=L;try dsimp only
   refine II 4 (λm=>Be m [] []) (λ_=>rfl) Pr Sq V (congrArg jS (C3 d _ _)) λm=>?_
   refine⟨(i.1,i.2.1,i.2.2.1,m,i.2.2.2.2),?_⟩;simp only[F,u8,cond_false,L,u9,cond_false];exact i6
  refine AP (λi b d a hc=>?_) ?_
  ·try dsimp only
   refine Ba (AW V FD V V) ?_;exact⟨i,i6⟩
  refine AP (λi b d a hc=>?_) ?_
  ·have h6:b 6=aZ:=a 0 _ V V;try dsimp only
   refine Ba (AO V (Pu ((Aq (Aq FD)).trans (BL h6 _ _)) V) bc V V) ?_;exact⟨i,i6⟩
  refine AP (λi b d a hc=>?_) ?_
  ·have h1:b 1=aZ:=a 0 _ V V;have h2:b 2=aZ:=a 1 _ V V;have h3:b 3=aZ:=a 2 _ V V;have h4:b 4=aZ:=a 3 _ V V;have h5:b 5=aZ:=a 4 _ V V;have h7:b 7=aZ:=a 5 _ V V;try dsimp only
   refine Ba (XL V Akq (Pu ((Aq Fu).trans (BL h1 _ _)) (Pu ((Aq G8).trans (BL h2 _ _)) (Pu ((Aq GY).trans (BL h3 _ _)) (Pu ((Aq (Aq IL)).trans (BL h4 _ _)) (Pu ((Aq (Aq GH)).trans (BL h5 _ _)) (Pu ((Aq (Aq FQ)).trans (BL h7 _ _)) V)))))) V V) ?_;exact⟨i,i6⟩
  refine AP (λi b d a hc=>?_) ?_
  ·have F:b 8=aZ:=a 0 _ V V;have W:b 10=aL:=AZ hc (i:=9) (j:=10) (k:=0) V V V V d;have ak:upd b 9 10=aL:=W;try dsimp only
   refine Acy 5 V (congrArg jS (C3 d _ _)) ((Aq (Aq Gt)).trans (BL F _ _)) V λg=>?_
   refine⟨(i.1,i.2.1,i.2.2.1,i.2.2.2.1,g),?_⟩;simp only[W,ak,cond_false];exact i6
  refine AP (λi b d a hc=>?_) ?_
  ·have L:b 9=aZ:=a 0 _ V V;try dsimp only
   refine Ba (AX.assign V ((Aq (Aq Fu)).trans (BL L _ _))) ?_;exact⟨i,i6⟩
  exact ND
 intro i;refine ap _ ?_;refine AN ⟨.agg (An f)::.lit (.bool leaf)::.ptr 0 0::.any::.lit (.pointer jR)::.lit (.pointer (jS ⟨i.2.2.2.2,0,jR⟩))::A6 (.agg (An f)::.bs tInt (regsB f)::.lit (.map (jS i.1))::.lit (.map (jS i.2.1))::.lit (.map (jS i.2.2.1))::.lit (.map (jS i.2.2.2.1))::.agg (An f)::.bs tInt ch::.agg [.bs tInt (regsB f),.lit (.map (jS i.1)),.lit (.map (jS i.2.1)),.lit (.map (jS i.2.2.1)),.lit (.map (jS i.2.2.2.1)),.bs tInt ch]::.lit (.pointer (jS ⟨i.2.2.2.2,0,jR⟩))::.any::.any::.any::.any::.any::.any::.any::.any::.any::.any::.any::.any::.any::.any::.any::.any::.any::.any::.any::.any::.any::.any::.any::.any::.any::.any::.any::.any::.any::.any::.any::.any::.any::.any::.any::.any::.any::.any::.any::.any::.any::.any::.any::.any::.any::.any::.any::.any::.any::.any::.any::.any::.any::.any::.any::.any::.any::.any::.any::.any::.any::.any::.any::.any::.any::.any::[]),[.box (An f),.res (Dx i.1 []),.res (Be i.2.1 [] []),.res (Be i.2.2.1 [] []),.res (Be i.2.2.2.1 [] []),.res (Bh i.2.2.2.2 [.bs tInt (regsB f),.lit (.map (jS i.1)),.lit (.map (jS i.2.1)),.lit (.map (jS i.2.2.1)),.lit (.map (jS i.2.2.2.1)),.bs tInt ch])]⟩ i6 ?_;obtain⟨D,B,q,s,g⟩:=i;dsimp only;refine AN ⟨(.any::.lit (.bool leaf)::.ptr 0 0::A2 (.lit (.pointer (jS ⟨g,0,jR⟩))::A80 (A2 []))),[.box (An f),.res (Dx D []),.res (Be B [] []),.res (Be q [] []),.res (Be s [] []),.res (Bh g [.bs tInt (regsB f),.lit (.map (jS D)),.lit (.map (jS B)),.lit (.map (jS q)),.lit (.map (jS s)),.bs tInt ch])]⟩ (AU) ?_;obtain⟨G,hG⟩:∃G,G= [AV.bs tInt (regsB f),.lit (.map (jS D)),.lit (.map (jS B)),.lit (.map (jS q)),.lit (.map (jS s)),.bs tInt ch]:=⟨_,rfl⟩
 obtain⟨z,hz⟩:∃z,z=(regsB f).zip (CM f leaf (regsB f)):=⟨_,rfl⟩
 have bn:z.length=(regsB f).length:=by rw[hz,List.length_zip];simp[CM]
 refine wR (hx:=by((repeat(first|refine sA ?_ (AO V V bb V V)|refine sA ?_|refine AR ?_|refine sAG ?_|refine Bt ?_));exact C1 V)) ?_;refine Ae λK4 h4=>?_
 refine wR (hx:=by((repeat(first|refine sA ?_ (E1 V V)|refine sA ?_ (DD V V)|refine sA ?_ (Bc (i:=5) (g:=g) V V V V V)|refine sA ?_|refine AR ?_|refine sAG ?_|refine Bt ?_));exact C1 V)) (hk:=?_);refine Ah ?_;refine AJ (λk:Nat=>⟨(.any::.lit (.bool leaf)::.ptr 0 0::A2 (.lit (.pointer (jS ⟨g,0,jR⟩))::.bs tInt.slice (CM f leaf (regsB f))::A20 (.any::.bs tInt (regsB f)::.lit (.int .i64 ((regsB f).length:Int))::.lit (.int .i64 (k:Int))::A40 (A10 (A7 []))))),[.box (An f),.res (Dx D (clsE (z.take k))),.res (Be B [] []),.res (Be q [] []),.res (Be s [] []),.res (Bh g [.bs tInt (regsB f),.lit (.map (jS D)),.lit (.map (jS B)),.lit (.map (jS q)),.lit (.map (jS s)),.bs tInt ch])]⟩) (λk=>k<=(regsB f).length) (λk=>(regsB f).length - k) 0 (jL _) (AU) ?_;rintro k hk;refine wR ?_;refine Ae λK8 F=>?_
 refine Am V (λac=>?_) (λac=>?_)
 ·have U:k < (regsB f).length:=by simpa using ac
  obtain⟨r,ah⟩:∃r,(regsB f)[k]? =jS r:=⟨_,eC U⟩
  have ae:=an r (fN ah);obtain⟨c,ax⟩:∃c,(CM f leaf (regsB f))[k]? =jS c:=⟨_,eC (by simpa[CM]using U)⟩
  have al:z[k]? =jS (r,c):=by rw[hz,eM];exact⟨ah,ax⟩
  have ai:(clsE (z.take k)).length < cF:=by have h1:=Ami (z.take k);have h2:(z.take k).length<=z.length:=(by rw[eY];omega);unfold cF;omega
  refine Ao ?_;refine F _ ?_;refine nT ?_;refine Ae λbw W=>?_
  refine Ah ?_;refine wR ?_;refine wDE 9 (hq:=by((repeat(first|refine qA ?_ (E1 V V)|refine qA ?_ (DD V V)|refine qA ?_ (Bc (i:=5) (g:=g) V V V V V)|refine qA ?_|refine Hp ?_|refine qAG (hk:=?_)));exact Aur V)) (hx:=by((repeat(first|refine sA ?_ (E1 V V)|refine sA ?_ (DD V V)|refine sA ?_ (Bc (i:=5) (g:=g) V V V V V)|(refine AH V (Aja 1 V Tryz.underlying77 V V V ae ai V ?_);refine sNt ?_)|refine sA ?_|refine AR ?_|refine sAG ?_|refine Bt ?_));exact C1 V)) (hk:=?_);refine W _ ?_;refine nT ?_;refine wRE ?_;refine As ⟨k+1,U,by omega,?_⟩;rw[Ah6 al];exact AU
 ·obtain rfl:k=(regsB f).length:=by have:¬k < (regsB f).length:=(by simpa using ac);omega
  rw[gR (by omega)];refine AA ?_;refine h4 _ ?_;refine nT ?_;refine wR ?_;refine AN ⟨.any::.lit (.bool leaf)::.ptr 0 0::A2 (.lit (.pointer (jS ⟨g,0,jR⟩))::A3 (.lit (.func (.func 49) #[] #[])::A40 (A20 (A10 (A8 []))))),[.box (An f),.res (Dx D (clsE z)),.res (Be B [] []),.res (Be q [] []),.res (Be s [] []),.res (Bh g [.bs tInt (regsB f),.lit (.map (jS D)),.lit (.map (jS B)),.lit (.map (jS q)),.lit (.map (jS s)),.bs tInt ch])]⟩ AU ?_;refine Ae λbm ag=>?_
  refine Fr (n:=8) (AAt _) (λ(i:{vs:List (Int×(bZ×List Int)) // mapK (·.2) vs=Mo (Cp f)}) (b:Nat->Bool)=>⟨.any::.lit (.bool leaf)::.ptr 0 0::A2 (.lit (.pointer (jS ⟨g,0,jR⟩))::A3 (.lit (.func (.func 49) #[] #[])::A20 (A10 (A5 ((bif b 0 then .lit (.func (.func 49) #[] #[])else .any)::(bif b 1 then .agg (An f)else .any)::(bif b 2 then .bs CI (Cp f)else .any)::(bif b 3 then .lit (.pointer (jS ⟨g,0,jR⟩))else .any)::(bif b 4 then .lit (.pointer (jS ⟨g,0,jR⟩))else .any)::(bif b 5 then .lit (.pointer (jS ⟨g,2,jR⟩))else .any)::(bif b 6 then .lit (.map (jS B))else .any)::(bif b 7 then .lit (.tuple #[])else .any)::A20 (A10 (A5 []))))))),[.box (An f),.res (Dx D (clsE z)),(bif b 7 then(gW (Be B (mapK (·.1) i.1) i.1))else .res (Be B [] [])),.res (Be q [] []),.res (Be s [] []),.res (Bh g [.bs tInt (regsB f),.lit (.map (jS D)),.lit (.map (jS B)),.lit (.map (jS q)),.lit (.map (jS s)),.bs tInt ch])]⟩) ?_ ?_ ?_ ?_ ?_
  ·rfl
  ·kernel_rfl
  ·kernel_rfl
  ·refine AP (λi b d a hc=>?_) ?_
   ·try dsimp only
    refine Ba (AX.move V (Aq GH)) ?_;exact⟨i,i6⟩
   refine AP (λi b d a hc=>?_) ?_
   ·try dsimp only
    refine Ba (AW V FD V V) ?_;exact⟨i,i6⟩
   refine AP (λi b d a hc=>?_) ?_
   ·have h1:b 1=aZ:=a 0 _ V V;try dsimp only
    refine Ba (AO V (Pu ((Aw (Aq G8)).trans (BL h1 _ _)) V) ba V V) ?_;exact⟨i,i6⟩
   refine AP (λi b d a hc=>?_) ?_
   ·try dsimp only
    refine Ba (AX.move V Fu) ?_;exact⟨i,i6⟩
   refine AP (λi b d a hc=>?_) ?_
   ·have h3:b 3=aZ:=a 0 _ V V;try dsimp only
    refine Ba (E1 V ((Aw (Aq (Aq IL))).trans (BL h3 _ _))) ?_;exact⟨i,i6⟩
   refine AP (λi b d a hc=>?_) ?_
   ·have h4:b 4=aZ:=a 0 _ V V;try dsimp only
    refine Ba (DD V ((Aw (Aq (Aq GH))).trans (BL h4 _ _))) ?_;exact⟨i,i6⟩
   refine AP (λi b d a hc=>?_) ?_
   ·have h5:b 5=aZ:=a 0 _ V V;try dsimp only
    refine Ba (Bc (i:=5) (g:=g) V ((Aw (Aq (Aq FD))).trans (BL h5 _ _)) V V V) ?_;exact⟨i,i6⟩
   refine AP (λi b d a hc=>?_) ?_
   ·have h0:b 0=aZ:=a 0 _ V V;have h2:b 2=aZ:=a 1 _ V V;have h6:b 6=aZ:=a 2 _ V V;try dsimp only
    refine MA (i:=2) (congrArg jS (C3 d _ _)) V ((Aw (Aq Fu)).trans (BL h0 _ _)) (Vm (Cp f) B av au) (λ_=>rfl) (Pu ((Aw (Aq GY)).trans (BL h2 _ _)) (Pu ((Aw (Aq (Aq FQ))).trans (BL h6 _ _)) V)) V λv=>?_
    refine⟨v,?_⟩;exact i6
   exact ND
  intro I;refine ag _ ?_;refine AN ⟨.any::.lit (.bool leaf)::.ptr 0 0::A2 (.lit (.pointer (jS ⟨g,0,jR⟩))::A3 (.lit (.func (.func 49) #[] #[])::A20 (A10 (A5 (.lit (.func (.func 49) #[] #[])::.agg (An f)::.bs CI (Cp f)::.lit (.pointer (jS ⟨g,0,jR⟩))::.lit (.pointer (jS ⟨g,0,jR⟩))::.lit (.pointer (jS ⟨g,2,jR⟩))::.lit (.map (jS B))::.lit (.tuple #[])::A20 (A10 (A5 []))))))),[.box (An f),.res (Dx D (clsE z)),.res (Be B (mapK (·.1) I.1) I.1),.res (Be q [] []),.res (Be s [] []),.res (Bh g [.bs tInt (regsB f),.lit (.map (jS D)),.lit (.map (jS B)),.lit (.map (jS q)),.lit (.map (jS s)),.bs tInt ch])]⟩ i6 ?_;refine AN ⟨.any::.lit (.bool leaf)::.ptr 0 0::A2 (.lit (.pointer (jS ⟨g,0,jR⟩))::A3 (.lit (.func (.func 49) #[] #[])::A40 (A20 (A10 (A8 []))))),[.box (An f),.res (Dx D (clsE z)),.res (Be B (mapK (·.1) I.1) I.1),.res (Be q [] []),.res (Be s [] []),.res (Bh g [.bs tInt (regsB f),.lit (.map (jS D)),.lit (.map (jS B)),.lit (.map (jS q)),.lit (.map (jS s)),.bs tInt ch])]⟩ AU ?_;refine Ae λbl af=>?_
  refine Fr (n:=8) (AAt _) (λ(i:{vs:List (Int×(bZ×List Int)) // mapK (·.2) vs=Mo (mvL f)}) (b:Nat->Bool)=>⟨.any::.lit (.bool leaf)::.ptr 0 0::A2 (.lit (.pointer (jS ⟨g,0,jR⟩))::A3 (.lit (.func (.func 49) #[] #[])::A40 (A3 ((bif b 0 then .lit (.func (.func 49) #[] #[])else .any)::(bif b 1 then .agg (An f)else .any)::(bif b 2 then .bs CI (mvL f)else .any)::(bif b 3 then .lit (.pointer (jS ⟨g,0,jR⟩))else .any)::(bif b 4 then .lit (.pointer (jS ⟨g,0,jR⟩))else .any)::(bif b 5 then .lit (.pointer (jS ⟨g,4,jR⟩))else .any)::(bif b 6 then .lit (.map (jS s))else .any)::(bif b 7 then .lit (.tuple #[])else .any)::A20 (A7 []))))),[.box (An f),.res (Dx D (clsE z)),.res (Be B (mapK (·.1) I.1) I.1),.res (Be q [] []),(bif b 7 then(gW (Be s (mapK (·.1) i.1) i.1))else .res (Be s [] [])),.res (Bh g [.bs tInt (regsB f),.lit (.map (jS D)),.lit (.map (jS B)),.lit (.map (jS q)),.lit (.map (jS s)),.bs tInt ch])]⟩) ?_ ?_ ?_ ?_ ?_
  ·rfl
  ·kernel_rfl
  ·kernel_rfl
  ·refine AP (λi b d a hc=>?_) ?_
   ·try dsimp only
    refine Ba (AX.move V (Aq GH)) ?_;exact⟨i,i6⟩
   refine AP (λi b d a hc=>?_) ?_
   ·try dsimp only
    refine Ba (AW V FD V V) ?_;exact⟨i,i6⟩
   refine AP (λi b d a hc=>?_) ?_
   ·have h1:b 1=aZ:=a 0 _ V V;try dsimp only
    refine Ba (AO V (Pu ((Aw (Aq (Aq G8))).trans (BL h1 _ _)) V) ay V V) ?_;exact⟨i,i6⟩
   refine AP (λi b d a hc=>?_) ?_
   ·try dsimp only
    refine Ba (AX.move V Fu) ?_;exact⟨i,i6⟩
   refine AP (λi b d a hc=>?_) ?_
   ·have h3:b 3=aZ:=a 0 _ V V;try dsimp only
    refine Ba (E1 V ((Aw (Aq (Aq (Aq IL)))).trans (BL h3 _ _))) ?_;exact⟨i,i6⟩
   refine AP (λi b d a hc=>?_) ?_
   ·have h4:b 4=aZ:=a 0 _ V V;try dsimp only
    refine Ba (DD V ((Aw (Aq (Aq (Aq GH)))).trans (BL h4 _ _))) ?_;exact⟨i,i6⟩
   refine AP (λi b d a hc=>?_) ?_
   ·have h5:b 5=aZ:=a 0 _ V V;try dsimp only
    refine Ba (Bc (i:=5) (g:=g) V ((Aw (Aq (Aq (Aq FD)))).trans (BL h5 _ _)) V V V) ?_;exact⟨i,i6⟩
   refine AP (λi b d a hc=>?_) ?_
   ·have h0:b 0=aZ:=a 0 _ V V;have h2:b 2=aZ:=a 1 _ V V;have h6:b 6=aZ:=a 2 _ V V;try dsimp only
    refine MA (i:=4) (congrArg jS (C3 d _ _)) V ((Aw (Aq (Aq Fu))).trans (BL h0 _ _)) (Vm (mvL f) s aq ar) (λ_=>rfl) (Pu ((Aw (Aq (Aq GY))).trans (BL h2 _ _)) (Pu ((Aw (Aq (Aq (Aq FQ)))).trans (BL h6 _ _)) V)) V λv=>?_
    refine⟨v,?_⟩;exact i6
   exact ND
  intro O;refine af _ ?_;refine AN ⟨.any::.lit (.bool leaf)::.ptr 0 0::A2 (.lit (.pointer (jS ⟨g,0,jR⟩))::A3 (.lit (.func (.func 49) #[] #[])::A40 (A3 (.lit (.func (.func 49) #[] #[])::.agg (An f)::.bs CI (mvL f)::.lit (.pointer (jS ⟨g,0,jR⟩))::.lit (.pointer (jS ⟨g,0,jR⟩))::.lit (.pointer (jS ⟨g,4,jR⟩))::.lit (.map (jS s))::.lit (.tuple #[])::A20 (A7 []))))),[.box (An f),.res (Dx D (clsE z)),.res (Be B (mapK (·.1) I.1) I.1),.res (Be q [] []),.res (Be s (mapK (·.1) O.1) O.1),.res (Bh g [.bs tInt (regsB f),.lit (.map (jS D)),.lit (.map (jS B)),.lit (.map (jS q)),.lit (.map (jS s)),.bs tInt ch])]⟩ i6 ?_;refine Ae λbv N=>?_
  refine wR (hx:=by((repeat(first|refine sA ?_ (AO V V az V V)|refine sA ?_|refine AR ?_|refine sAG ?_|refine Bt ?_));exact C1 V)) ?_;refine Ah ?_;refine AJ (λp:Nat×List (Int×(bZ×List Int))=>⟨(A5 (.lit (.pointer (jS ⟨g,0,jR⟩))::A40 (A10 (A7 (.bs Gq (Cg f leaf)::.lit (.int .i64 ((Cg f leaf).length:Int))::.lit (.int .i64 (p.1:Int))::A20 (A2 [])))))),[.box (An f),.res (Dx D (clsE z)),.res (Be B (mapK (·.1) I.1) I.1),.res (Be q (mapK (·.1) p.2) p.2),.res (Be s (mapK (·.1) O.1) O.1),.res (Bh g [.bs tInt (regsB f),.lit (.map (jS D)),.lit (.map (jS B)),.lit (.map (jS q)),.lit (.map (jS s)),.bs tInt ch])]⟩) (λp=>p.1<=(Cg f leaf).length/\okK p.2/\mapK (·.2) p.2=N6 ((Cg f leaf).take p.1)) (λp=>(Cg f leaf).length - p.1) (0,[]) ⟨jL _,okK.nil,rfl⟩ (AU) ?_;rintro⟨k,vs⟩ ⟨hk,ab,hE⟩;have hE:mapK (·.2) vs=N6 ((Cg f leaf).take k):=hE;have ab:okK vs:=ab;have hk:k<=(Cg f leaf).length:=hk;refine wR ?_;refine Ae λbu bf=>?_
  refine Am V (λY=>?_) (λY=>?_)
  ·have U:k < (Cg f leaf).length:=by simpa using Y
   obtain⟨x,hx⟩:∃x,(Cg f leaf)[k]? =jS x:=⟨_,eC U⟩
   obtain⟨Z,am⟩:=hh x (fN hx);have bo:((Cg f leaf).take k).length<=(Cg f leaf).length:=by rw[eY];omega
   have ao:EM (((getK (mapK (·.2) vs) x.r).getD []).length+ [x.at_].length) 8=aZ:=by
    have h1:=UI ((Cg f leaf).take k) x.r;rw[hE];unfold EM;simp only[zag,zai];unfold cF;omega
   have aw:(mapK (·.1) vs).length < cF:=by
    have h1:=Ag4 ((Cg f leaf).take k);rw[<-hE,L2]at h1;rw[L2];unfold cF;omega
   refine Ao ?_;refine bf _ ?_;refine nT ?_;refine Ae λbt be=>?_
   refine Ah ?_;refine wR ?_;refine AN ⟨A5 (.lit (.pointer (jS ⟨g,0,jR⟩))::A5 (.ptr 6 0::A40 (A10 (.any::.bs Gq (Cg f leaf)::.lit (.int .i64 ((Cg f leaf).length:Int))::.lit (.int .i64 (k:Int))::A20 (A2 []))))),[.box (An f),.res (Dx D (clsE z)),.res (Be B (mapK (·.1) I.1) I.1),.res (Be q (mapK (·.1) vs) vs),.res (Be s (mapK (·.1) O.1) O.1),.res (Bh g [.bs tInt (regsB f),.lit (.map (jS D)),.lit (.map (jS B)),.lit (.map (jS q)),.lit (.map (jS s)),.bs tInt ch]),.box (G3 x)]⟩ AU ?_;refine Fr (n:=18) undef (λ(i:bZ) (b:Nat->Bool)=>⟨A5 (.lit (.pointer (jS ⟨g,0,jR⟩))::A5 (.ptr 6 0::A40 (A10 (.any::.bs Gq (Cg f leaf)::.lit (.int .i64 ((Cg f leaf).length:Int))::.lit (.int .i64 (k:Int))::A3 ((bif b 0 then .lit (.pointer (jS ⟨g,0,jR⟩))else .any)::(bif b 1 then .lit (.pointer (jS ⟨g,0,jR⟩))else .any)::(bif b 2 then .lit (.pointer (jS ⟨g,3,jR⟩))else .any)::(bif b 3 then .lit (.map (jS q))else .any)::(bif b 4 then .ptr 6 0 else .any)::(bif b 5 then .lit (.int .i64 x.r)else .any)::(bif b 6 then .lit (.pointer (jS ⟨g,0,jR⟩))else .any)::(bif b 7 then .lit (.pointer (jS ⟨g,0,jR⟩))else .any)::(bif b 8 then .lit (.pointer (jS ⟨g,3,jR⟩))else .any)::(bif b 9 then .lit (.map (jS q))else .any)::(bif b 10 then .ptr 6 0 else .any)::(bif b 11 then .lit (.int .i64 x.r)else .any)::(bif b 12 then .lit ((getK (mapK (·.1) vs) x.r).getD (.slice jR 0 0))else .any)::(bif b 13 then .ptr 6 1 else .any)::(bif b 14 then .lit (.int .i64 x.at_)else .any)::(bif b 15 then .bs tInt [x.at_]else .any)::(bif b 16 then .lit i else .any)::A2 []))))),[.box (An f),.res (Dx D (clsE z)),.res (Be B (mapK (·.1) I.1) I.1),(bif b 17 then(gW (Be q (Cf (mapK (·.1) vs) x.r i) (Cf vs x.r (i,((getK (mapK (·.2) vs) x.r).getD [])++[x.at_]))))else(bif b 16 then(gW (Be q (mapK (·.1) vs) (Cf vs x.r (i,((getK (mapK (·.2) vs) x.r).getD [])++[x.at_]))))else .res (Be q (mapK (·.1) vs) vs))),.res (Be s (mapK (·.1) O.1) O.1),.res (Bh g [.bs tInt (regsB f),.lit (.map (jS D)),.lit (.map (jS B)),.lit (.map (jS q)),.lit (.map (jS s)),.bs tInt ch]),.box (G3 x)]⟩) ?_ ?_ ?_ ?_ ?_
   ·rfl
   ·kernel_rfl
   ·kernel_rfl
   ·refine AP (λi b d a hc=>?_) ?_
    ·try dsimp only
     refine Ba (AX.move V Fu) ?_;exact⟨i,i6⟩
    refine AP (λi b d a hc=>?_) ?_
    ·have h0:b 0=aZ:=a 0 _ V V;try dsimp only
     refine Ba (E1 V ((Aw (Aw Fu)).trans (BL h0 _ _))) ?_;exact⟨i,i6⟩
    refine AP (λi b d a hc=>?_) ?_
    ·have h1:b 1=aZ:=a 0 _ V V;try dsimp only
     refine Ba (DD V ((Aw (Aw G8)).trans (BL h1 _ _))) ?_;exact⟨i,i6⟩
    refine AP (λi b d a hc=>?_) ?_
    ·have h2:b 2=aZ:=a 0 _ V V;try dsimp only
     refine Ba (Bc (i:=5) (g:=g) V ((Aw (Aw GY)).trans (BL h2 _ _)) V V V) ?_;exact⟨i,i6⟩
    refine AP (λi b d a hc=>?_) ?_
    ·try dsimp only
     refine Ba (Bu V (Aq FQ) V) ?_;exact⟨i,i6⟩
    refine AP (λi b d a hc=>?_) ?_
    ·have h4:b 4=aZ:=a 0 _ V V;try dsimp only
     refine Ba (Bi V ((Aw (Aw (Aq GH))).trans (BL h4 _ _)) V V) ?_;exact⟨i,i6⟩
    refine AP (λi b d a hc=>?_) ?_
    ·try dsimp only
     refine Ba (AX.move V Fu) ?_;exact⟨i,i6⟩
    refine AP (λi b d a hc=>?_) ?_
    ·have h6:b 6=aZ:=a 0 _ V V;try dsimp only
     refine Ba (E1 V ((Aw (Aw (Aq FQ))).trans (BL h6 _ _))) ?_;exact⟨i,i6⟩
    refine AP (λi b d a hc=>?_) ?_
    ·have h7:b 7=aZ:=a 0 _ V V;try dsimp only
     refine Ba (DD V ((Aw (Aw (Aq Gt))).trans (BL h7 _ _))) ?_;exact⟨i,i6⟩
    refine AP (λi b d a hc=>?_) ?_
    ·have F:b 8=aZ:=a 0 _ V V;try dsimp only
     refine Ba (Bc (i:=5) (g:=g) V ((Aw (Aw (Aq Fu))).trans (BL F _ _)) V V V) ?_;exact⟨i,i6⟩
    refine AP (λi b d a hc=>?_) ?_
    ·try dsimp only
     refine Ba (Bu V (Aq FQ) V) ?_;exact⟨i,i6⟩
    refine AP (λi b d a hc=>?_) ?_
    ·have W:b 10=aZ:=a 0 _ V V;try dsimp only
     refine Ba (Bi V ((Aw (Aw (Aq GY))).trans (BL W _ _)) V V) ?_;exact⟨i,i6⟩
    refine AP (λi b d a hc=>?_) ?_
    ·have L:b 9=aZ:=a 0 _ V V;have bk:b 11=aZ:=a 1 _ V V;have aa:b 16=aL:=AZ hc (i:=12) (j:=16) (k:=0) V V V V d;have N:b 17=aL:=AZ hc (i:=12) (j:=17) (k:=16) V V V V d;try dsimp only
     refine Ba (Lj (u:=((getK (mapK (·.1) vs) x.r).getD (.slice jR 0 0))) 3 V bW ((Aw (Aw (Aq G8))).trans (BL L _ _)) ((Aw (Aw (Aq (Aq IL)))).trans (BL bk _ _)) Z (mr2 aa N) V) ?_;exact⟨i,i6⟩
    refine AP (λi b d a hc=>?_) ?_
    ·try dsimp only
     refine Ba (Bu V (Aq FQ) V) ?_;exact⟨i,i6⟩
    refine AP (λi b d a hc=>?_) ?_
    ·have bi:b 13=aZ:=a 0 _ V V;try dsimp only
     refine Ba (Bi V ((Aw (Aw (Aq (Aq FD)))).trans (BL bi _ _)) V V) ?_;exact⟨i,i6⟩
    refine AP (λi b d a hc=>?_) ?_
    ·have bh:b 14=aZ:=a 0 _ V V;try dsimp only
     refine Ba (Cm (T:=tInt) V V V (by rfl) (by decide) (Fit.of_eq ((Aw (Aw (Aq (Aq FQ)))).trans (BL bh _ _)) (Fit.int am))) ?_;exact⟨i,i6⟩
    refine AP (λi b d a hc=>?_) ?_
    ·have bj:b 12=aZ:=a 0 _ V V;have bg:b 15=aZ:=a 1 _ V V;have N:b 17=aL:=AZ hc (i:=16) (j:=17) (k:=2) V V V V d;have aj:upd b 16 17=aL:=N;try dsimp only
     refine Qr (k:=x.r) 3 V V ((Aw (Aw (Aq (Aq GH)))).trans (BL bj _ _)) (congrArg jS ((C3 N _ _).trans (C3 d _ _))) ((Aw (Aw (Aq (Aq Gt)))).trans (BL bg _ _)) Z (Af6 vs x.r) ao λv=>?_
     refine⟨v,?_⟩;simp only[N,aj,cond_false];exact i6
    refine AP (λi b d a hc=>?_) ?_
    ·have h3:b 3=aZ:=a 0 _ V V;have h5:b 5=aZ:=a 1 _ V V;have aa:b 16=aZ:=a 2 _ V V;try dsimp only
     refine VW 3 V bW ((Aw (Aw (Aq IL))).trans (BL h3 _ _)) ((Aw (Aw (Aq FD))).trans (BL h5 _ _)) ((Aw (Aw (Aq (Aq Fu)))).trans (BL aa _ _)) Z aw (congrArg jS ((C3 d _ _).trans (SM aa _ _))) ?_;refine⟨i,?_⟩;exact i6
    exact ND
   intro i;refine qVia ⟨A5 (.lit (.pointer (jS ⟨g,0,jR⟩))::A5 (.ptr 6 0::A40 (A10 (.any::.bs Gq (Cg f leaf)::.lit (.int .i64 ((Cg f leaf).length:Int))::.lit (.int .i64 (k:Int))::A3 (.lit (.pointer (jS ⟨g,0,jR⟩))::.lit (.pointer (jS ⟨g,0,jR⟩))::.lit (.pointer (jS ⟨g,3,jR⟩))::.lit (.map (jS q))::.ptr 6 0::.lit (.int .i64 x.r)::.lit (.pointer (jS ⟨g,0,jR⟩))::.lit (.pointer (jS ⟨g,0,jR⟩))::.lit (.pointer (jS ⟨g,3,jR⟩))::.lit (.map (jS q))::.ptr 6 0::.lit (.int .i64 x.r)::.lit ((getK (mapK (·.1) vs) x.r).getD (.slice jR 0 0))::.ptr 6 1::.lit (.int .i64 x.at_)::.bs tInt [x.at_]::.lit i::A2 []))))),[.box (An f),.res (Dx D (clsE z)),.res (Be B (mapK (·.1) I.1) I.1),.res (Be q (Cf (mapK (·.1) vs) x.r i) (Cf vs x.r (i,((getK (mapK (·.2) vs) x.r).getD [])++[x.at_]))),.res (Be s (mapK (·.1) O.1) O.1),.res (Bh g [.bs tInt (regsB f),.lit (.map (jS D)),.lit (.map (jS B)),.lit (.map (jS q)),.lit (.map (jS s)),.bs tInt ch]),.box (G3 x)]⟩ V ?_;refine be _ ?_;refine nT ?_;refine AN ⟨(A5 (.lit (.pointer (jS ⟨g,0,jR⟩))::A40 (A10 (A7 (.bs Gq (Cg f leaf)::.lit (.int .i64 ((Cg f leaf).length:Int))::.lit (.int .i64 (k:Int))::A20 (A2 [])))))),[.box (An f),.res (Dx D (clsE z)),.res (Be B (mapK (·.1) I.1) I.1),.res (Be q (mapK (·.1) (Cf vs x.r (i,((getK (mapK (·.2) vs) x.r).getD [])++[x.at_]))) (Cf vs x.r (i,((getK (mapK (·.2) vs) x.r).getD [])++[x.at_]))),.res (Be s (mapK (·.1) O.1) O.1),.res (Bh g [.bs tInt (regsB f),.lit (.map (jS D)),.lit (.map (jS B)),.lit (.map (jS q)),.lit (.map (jS s)),.bs tInt ch])]⟩ (by rw[GD];exact Ky (.cons (.cons (.cons (.cons (.cons (.cons (iA _)))))))) ?_;refine wRE ?_;refine As ⟨(k+1,Cf vs x.r (i,((getK (mapK (·.2) vs) x.r).getD [])++[x.at_])),⟨U,ab.put Z _,?_⟩,by show(Cg f leaf).length - (k+1) < (Cg f leaf).length - k;omega,AU⟩;dsimp only;rw[GD,Aav hx,hE];rfl
  ·obtain rfl:k=(Cg f leaf).length:=by have:¬k < (Cg f leaf).length:=(by simpa using Y);omega
   rw[gQ]at hE;refine AA ?_;refine N _ ?_;refine nT ?_;refine wR ?_;have e:Cz f leaf ch=⟨regsB f,clsE z,mapK (·.2) I.1,mapK (·.2) vs,mapK (·.2) O.1,ch⟩:=by unfold Cz;rw[I.2,O.2,hE,hz]
   rw[e];exact Az ⟨.inr V,Acm (i:=5) (j1:=1) (j2:=2) (j3:=3) (j4:=4) V V V V V V⟩
end Mu
namespace Mu
open Go Go.RowKit Go.Proofs
variable{f:iE}{k:Nat}{l:List Int}{p:iZ}{r:Bool}{x:Int}
def I4(p:iZ)(z:Int):Bool:=a8 (z≥32)&&a8 (bF.wrap (z - 32) < p.slots)
def GP(p:iZ)(k:Nat):Int->Bool:=λz=>((p.at_.take k).filter (I4 p)).contains z
theorem Ao8(p:iZ):GP p 0=λ_=>aL:=by
 funext z;simp[GP]
theorem Zr(hx:p.at_[k]? =jS x)(h:I4 p x=aZ):GP p (k+1)=Air (GP p k) x:=by
 funext z;unfold GP Air;rw[gP,hx];simp[dL,h,List.contains_eq_mem];try grind
theorem XR(hx:p.at_[k]? =jS x)(h:I4 p x=aL):GP p (k+1)=GP p k:=by
 funext z;unfold GP;rw[gP,hx];simp[dL,h]
theorem RY(p:iZ)(k:Nat):InR (CE p.at_) (GP p k):=⟨λx _ a=>by
 refine((EQ _).2 x).2 ?_;unfold GP at a;rw[cY]at a;exact fO (fJ.1 a).1⟩
def cardC(p:iZ):Nat:=((CE p.at_).filter (GP p p.at_.length)).length
def atC(f:iE)(p:iZ)(k:Nat)(x:Int):Bool:=if(regsB f).contains (k:Int)then I4 p x||((CM f p.leaf (regsB f)).getD ((regsB f).countP (· < (k:Int))) []).contains x else x == -1
def Ul(f:iE)(p:iZ):Bool:=((((!Ht f)||((p.at_.length:Int) !=f.regs))||decide (p.slots < 0))||(p.leaf&&((!leaf f.blocks)||decide (p.slots > 0))))
def Nt(p:iZ)(x:iY):Bool:=ixD p.at_ x.a ==ixD p.at_ x.b
def CT(f:iE)(p:iZ):Bool:=!Ul f p&&((gE p.at_.length).all λj=>atC f p j (p.at_.getD j 0))&&(((cardC p:Int) ==p.slots)&&!((Cp f).any (Nt p)))
theorem Q2(hx:p.at_[k]? =jS x)(h:atC f p k x=aL):CT f p=aL:=by
 have hk:=(eE.1 hx).1;have:((gE p.at_.length).all λj=>atC f p j (p.at_.getD j 0))=aL:=by
  rw[List.all_eq_false];refine⟨k,fQ.2 hk,?_⟩;rw[dZ,hx];simpa using h
 unfold CT;rw[this];simp
theorem OY(h0:Ul f p=aL)(h:∀j x,p.at_[j]? =jS x->atC f p j x=aZ):CT f p=(((cardC p:Int) ==p.slots)&&!((Cp f).any (Nt p))):=by
 have:((gE p.at_.length).all λj=>atC f p j (p.at_.getD j 0))=aZ:=by
  rw[cO];intro j c;have a:=fQ.1 c;exact h j _ (by rw[dZ,eC a];rfl)
 unfold CT;rw[this,h0];simp
theorem Vu(h:Asc l)(hx:x∈l):l[l.countP (· < x)]? =jS x:=by
 induction l with
 |nil=>cases hx
 |cons y l a=>
  unfold Asc at h;rw[gB]at h;rcases fF.1 hx with rfl|hx
  ·have:(x::l).countP (· < x)=0:=by
    rw[dB];intro z hz;rcases fF.1 hz with rfl|hz
    ·simp
    ·have:=h.1 z hz;simp;omega
   rw[this];rfl
  ·have c:=h.1 x hx;rw[cZ (by simpa using c)];simpa using a h.2 hx
theorem Akc(f:iE)(p:iZ)(q:iD f)(an:Dg.bulk f<=2097152)(hp:okPlan p)(hw:∀x∈p.at_,Ci x)(aj:p.at_.length<=2147483648)(hr:(regsB f).length<=2147483648)(am:∀c∈CM f p.leaf (regsB f),c.length<=2147483648)(al:(Cp f).length<=2147483648)
 (hE:Ht f=aZ->∀x∈Cp f,(0<=x.a/\x.a < f.regs)/\(0<=x.b/\x.b < f.regs)):Fn bV 16 [.agg (An f),.agg (BS p)] (.lit (.bool (CT f p))):=by
 have au:=Af9 f q hr;have ao:=NH (f:=f) (Ag (by rw[aI];exact⟨BG.2 q,decide_eq_true an⟩) (Al _));have Z:=LI f q.ok q.small q.all;have ap:=NG f p.leaf q.ok q.small q.reads q.ins q.all;have ah:=YX f q.ok q.small q.reads q.all q.ins;have aa:RegsR (CE p.at_):=⟨(EQ _).1,λx hx=>hw x (((EQ _).2 x).1 hx),jB (Dw _) aj⟩
 refine AT Tryz.func16 V (by kernel_rfl) V Tryz.ntmps16 λC hC=>?_
 simp only[Nat.reduceAdd,Nat.reduceSub,zaa];refine wR ?_;refine Ae λK2 h2=>?_
 refine wR ?_;refine Am V (λY=>?_) (λY=>?_)
 ·refine wR ?_;have e:CT f p=aL:=by unfold CT;rw[show Ul f p=aZ from Y];rfl
  rw[e];exact Az ⟨.inr V,iC V⟩
 ·have h0:Ul f p=aL:=Y;refine Ao ?_;refine h2 _ ?_;refine nT ?_;refine AN ⟨.agg (An f)::.agg (BS p)::.ptr 0 0::.ptr 1 0::.lit (.bool aL)::A80 (A10 (A6 [])),[.box (An f),.box (BS p)]⟩ (AU) ?_;refine Ae λK7 h7=>?_
  refine Fr (n:=10) 0 (λ(m:Nat) (b:Nat->Bool)=>⟨.agg (An f)::.agg (BS p)::.ptr 0 0::.ptr 1 0::.lit (.bool aL)::(bif b 7 then .bs tInt (regsB f)else .any)::(bif b 8 then .bs tInt.slice (CM f p.leaf (regsB f))else .any)::(bif b 9 then .lit (.map (jS m))else .any)::A20 (A10 (A4 ((bif b 0 then .agg (An f)else .any)::(bif b 1 then .bs tInt (regsB f)else .any)::(bif b 2 then .agg (An f)else .any)::(bif b 3 then .ptr 1 0 else .any)::(bif b 4 then .lit (.bool p.leaf)else .any)::(bif b 5 then .bs tInt.slice (CM f p.leaf (regsB f))else .any)::(bif b 6 then .lit (.map (jS m))else .any)::A40 (A10 (A2 []))))),bif b 6 then [.box (An f),.box (BS p),.res (IT (λ_=>aL) m)]else [.box (An f),.box (BS p)]⟩) V (by kernel_rfl) (by kernel_rfl) ?_ (λm=>h7 _ ?_)
  ·refine AP (λm b O d hc=>?_) ?_
   ·try dsimp only
    refine Ba (AW V FD (by cases b 6 <;> rfl) V) ?_;exact⟨m,i6⟩
   refine AP (λm b O d hc=>?_) ?_
   ·try dsimp only
    have h0:b 0=aZ:=d 0 _ V V;refine Ba (AO V (Pu ((Aw (Aq FD)).trans (BL h0 _ _)) V) Z V V) ?_;exact⟨m,i6⟩
   refine AP (λm b O d hc=>?_) ?_
   ·try dsimp only
    refine Ba (AW V FD (by cases b 6 <;> rfl) V) ?_;exact⟨m,i6⟩
   refine AP (λm b O d hc=>?_) ?_
   ·try dsimp only
    refine Ba (Bu V FQ (by cases b 6 <;> rfl)) ?_;exact⟨m,i6⟩
   refine AP (λm b O d hc=>?_) ?_
   ·try dsimp only
    have h3:b 3=aZ:=d 0 _ V V;refine Ba (Bi V ((Aw (Aq Fu)).trans (BL h3 _ _)) (by cases b 6 <;> rfl) V) ?_;exact⟨m,i6⟩
   refine AP (λm b O d hc=>?_) ?_
   ·try dsimp only
    have h2:b 2=aZ:=d 0 _ V V;have h4:b 4=aZ:=d 1 _ V V;refine Ba (AO V (Pu ((Aw (Aq Gt)).trans (BL h2 _ _)) (Pu ((Aw (Aq G8)).trans (BL h4 _ _)) V)) ap V V) ?_;exact⟨m,i6⟩
   refine AP (λm b O d hc=>?_) ?_
   ·try dsimp only
    have h9:b 9=aL:=AZ hc (i:=6) (j:=9) (k:=0) V V V V O;have e7:∀m1:Nat,(bif b 9 then AV.lit (.map (jS m))else .any)=(bif upd b 6 9 then AV.lit (.map (jS m1))else .any):=λm1=>by rw[show upd b 6 9=b 9 from V,h9];rfl
    rw[O];refine Qm V λm1=>⟨m1,?_⟩
    rw[e7 m1];exact i6
   refine AP (λm b O d hc=>?_) ?_
   ·try dsimp only
    have h1:b 1=aZ:=d 0 _ V V;refine Ba (AX.assign V ((Aw (Aq FQ)).trans (BL h1 _ _))) ?_;exact⟨m,i6⟩
   refine AP (λm b O d hc=>?_) ?_
   ·try dsimp only
    have h5:b 5=aZ:=d 0 _ V V;refine Ba (AX.assign V ((Aw (Aq GY)).trans (BL h5 _ _))) ?_;exact⟨m,i6⟩
   refine AP (λm b O d hc=>?_) ?_
   ·try dsimp only
    have h6:b 6=aZ:=d 0 _ V V;refine Ba (AX.assign V ((Aw (Aq (Aq IL))).trans (BL h6 _ _))) ?_;exact⟨m,i6⟩
   exact ND
  refine Ae λK8 h8=>?_
  refine wR ?_;refine Ah ?_;refine AJ (λk:Nat=>⟨(A2 (.ptr 0 0::.ptr 1 0::.any::.bs tInt (regsB f)::.bs tInt.slice (CM f p.leaf (regsB f))::.lit (.map (jS m))::A40 (A2 (.bs tInt p.at_::.lit (.int .i64 (p.at_.length:Int))::.lit (.int .i64 (k:Int))::A40 (A8 []))))),[.box (An f),.box (BS p),.res (IT (GP p k) m)]⟩) (λk=>k<=p.at_.length/\∀j x,j < k->p.at_[j]? =jS x->atC f p j x=aZ) (λk=>p.at_.length - k) 0 ⟨jL _,λj x h=>by omega⟩ (by rw[Ao8];exact AU) ?_;rintro k ⟨hk,a⟩;refine wR ?_;refine Ae λaw aq=>?_
  refine Am V (λN=>?_) (λN=>?_)
  ·have ak:k < p.at_.length:=by simpa using N
   obtain⟨x,hx⟩:∃x,p.at_[k]? =jS x:=⟨_,eC ak⟩
   have hS:=OT (regsB f) (k:Int) (Jg f) hr;have ai:=hw x (fN hx);refine Ao ?_;refine aq _ ?_;refine nT ?_;refine Ae λav ab=>?_
   refine Ah ?_;refine wR ?_;refine wR (hx:=by((repeat(first|refine sA ?_ (AO V V hS V V)|refine sA ?_|refine AR ?_|refine sAG (hq:=by(intro hg;(try simp only[zah]at hg);(try simp only[hg,zal,zaj]);exact AO V V hS V V)) ?_|refine sAG ?_|refine Bt ?_));exact C1 V)) (hk:=?_);refine Ah ?_;refine wR ?_;refine Am V (λJ=>?_) (λJ=>?_)
   ·have ac:(regsB f).contains (k:Int)=aL:=by simpa using J
    refine wR ?_;refine Am V (λs=>?_) (λs=>?_)
    ·refine wR ?_;have e:CT f p=aL:=Q2 hx (by unfold atC;rw[if_neg (by rw[ac];simp)];simpa using s);rw[e];exact Az ⟨.inr V,iC V⟩
    ·have T:atC f p k x=aZ:=by unfold atC;rw[if_neg (by rw[ac];simp)];simpa using s
     have D:GP p (k+1)=GP p k:=XR hx (by
      have:x= -1:=by simpa using s
      subst this;unfold I4;rfl)
     refine Ao ?_;refine ab _ ?_;refine nT ?_;refine wRE ?_;refine As ⟨k+1,⟨by omega,λj y hj B=>?_⟩,by omega,?_⟩
     ·rcases jC j k with hj'|hj'
      ·exact a j y hj' B
      ·obtain rfl:j=k:=by omega
       rw[hx]at B;cases B;exact T
     ·rw[D];exact AU
   ·have U:(regsB f).contains (k:Int)=aZ:=by simpa using J
    refine wR ?_;refine Am V (λI=>?_) (λI=>?_)
    ·have v:I4 p x=aZ:=I;have T:atC f p k x=aZ:=by unfold atC;rw[if_pos U,v];rfl
     have D:=Zr hx v;refine wRE (hx:=by((repeat(first|(refine AH V (Zk (R:=CE p.at_) 2 V Tryz.underlying51 V V V V aa (RY p k) ai ?_);refine sNt ?_)|refine sA ?_|refine AR ?_|refine sAG ?_|refine Bt ?_));exact C1 V)) (hk:=?_);refine ab _ ?_;refine nT ?_;refine wRE ?_;refine As ⟨k+1,⟨by omega,λj y hj B=>?_⟩,by omega,?_⟩
     ·rcases jC j k with hj'|hj'
      ·exact a j y hj' B
      ·obtain rfl:j=k:=by omega
       rw[hx]at B;cases B;exact T
     ·rw[D];exact AU
    ·have v:I4 p x=aL:=I;have D:=XR hx v;have ae:=Vu (Jg f) (cY.1 U);have hc:(CM f p.leaf (regsB f))[(regsB f).countP (· < (k:Int))]? =jS (BD (B9 f) k p.leaf):=by unfold CM;rw[eF,ae];rfl
     have af:=JH (BD (B9 f) k p.leaf) x (am _ (fN hc));have ag:(CM f p.leaf (regsB f)).getD ((regsB f).countP (· < (k:Int))) []=BD (B9 f) k p.leaf:=by rw[dZ,hc];rfl
     refine wR (hx:=by((repeat(first|refine sA ?_ (AO V V af V V)|refine sA ?_|refine AR ?_|refine sAG (hq:=by(intro hg;(try simp only[zah]at hg);(try simp only[hg,zal,zaj]);exact AO V V af V V)) ?_|refine sAG ?_|refine Bt ?_));exact C1 V)) (hk:=?_);refine Am V (λF=>?_) (λF=>?_)
     ·refine wR ?_;have e:CT f p=aL:=Q2 hx (by unfold atC;rw[if_pos U,v,ag];simpa using F);rw[e];exact Az ⟨.inr V,iC V⟩
     ·have T:atC f p k x=aZ:=by unfold atC;rw[if_pos U,v,ag];simpa using F
      refine Ao ?_;refine ab _ ?_;refine nT ?_;refine wRE ?_;refine As ⟨k+1,⟨by omega,λj y hj B=>?_⟩,by omega,?_⟩
      ·rcases jC j k with hj'|hj'
       ·exact a j y hj' B
       ·obtain rfl:j=k:=by omega
        rw[hx]at B;cases B;exact T
      ·rw[D];exact AU
  ·refine AA ?_;refine h8 _ ?_;refine nT ?_;obtain rfl:k=p.at_.length:=by have:¬k < p.at_.length:=(by simpa using N);omega
   have ad:Ht f=aZ:=by
    have h1:=h0;unfold Ul at h1;simp only[aV]at h1;simpa using h1.1.1.1
   have ar:(p.at_.length:Int)=f.regs:=by
    have h1:=h0;unfold Ul at h1;simp only[aV]at h1;simpa using h1.1.1.2
   have W:=Ar4 (Cp f) al 42 [.bp Tp p 0] V (Nt p) λx hx=>by
    obtain⟨⟨h1,h2⟩,h3,h4⟩:=hE ad x hx;exact N8 (Ag (BK.2 ⟨h1,by omega⟩) (Ag (BK.2 ⟨h3,by omega⟩) (Al _)))
   refine wR (hx:=by((repeat(first|refine sA ?_ (H5 (i:=2) (L:=CE p.at_) V Tryz.underlying51 V V (λ_ _ h=>h) aa (RY p _))|refine sA ?_ (AO V V ah V V)|refine sA (hq:=CR V W (.cons (.cl V) (.cons (.fn (.cons (Yy V hp) .nil)) .nil))) (hk:=?_)|refine sA ?_|refine AR ?_|refine sAG (hq:=by(intro hg;(try simp only[zah]at hg);(try simp only[hg,zal,zaj]);exact H5 (i:=2) (L:=CE p.at_) V Tryz.underlying51 V V (λ_ _ h=>h) aa (RY p _))) ?_|refine sAG (hq:=by(intro hg;(try simp only[zah]at hg);(try simp only[hg,zal,zaj]);exact AO V V ah V V)) ?_|refine sAG (hq:=by(intro hg;(try simp only[zah]at hg);(try simp only[hg,zal,zaj]);exact CR V W (.cons (.cl V) (.cons (.fn (.cons (Yy V hp) .nil)) .nil)))) (hk:=?_)|refine sAG ?_|refine Bt ?_));exact C1 V)) (hk:=?_);rw[OY h0 λj x h=>a j x (eE.1 h).1 h];exact Az ⟨.inr V,iC V⟩
noncomputable section
def Ji(l:List Int)(n:Int):Int->M (Int⊕((Unit)⊕(Bool))):=λa=>iI (a8 (a < (l.length:Int))) (iH (Cd l a) (iI ((ixD l a) ==n) (iQ (.inr (.inr aZ))) (iQ (.inl (bF.wrap (a+1)))))) (iQ (.inr (.inl ())))
def O2(l:List Int)(n:Int):M Bool:=iJ (iM (Ji l n) 0) λ_=>iQ aL
theorem Og{n:Int}(H:(O2 l n).to r):Fn bV 35 [.bs tInt l,.lit (.int .i64 n)] (.lit (.bool r)):=by
 delta O2 at H;try dsimp only at H
 refine AT Tryz.func35 V (by kernel_rfl) V Tryz.ntmps35 λC Y=>?_
 simp only[Nat.reduceAdd,Nat.reduceSub,zaa];refine wS (sT (wN ?_));obtain⟨N,F,D,B⟩:=CF H;refine Bk (β:=(Unit)×(Unit)) (λI=>N= .inl I.1) (λI=>⟨A10 (A8 []),[]⟩) ?_ ?_
 ·refine wS (sT (wN ?_));refine Ah ?_;refine By F (λO Z=>⟨.bs tInt l::.lit (.int .i64 n)::A3 (.lit (.int .i64 O)::A10 (A2 [])),[]⟩) () (?_) ?_
  ·try dsimp only
   exact AU
  ·rintro W _ U H j;try dsimp only
   dsimp only[Ji]at H;refine Ae λL s=>?_
   refine wS (sT (sT (sT (sT (wN ?_)))));refine Am V (λc=>?_) (λc=>?_)
   ·have H:=AK c H;refine Ao ?_;refine s _ ?_;refine nT ?_;refine Ae λJ q=>?_
    refine Ah ?_;obtain⟨T,H⟩:=Aj.1 H;refine wS (sT (sT (sX T (sT (sT (sT (wN ?_)))))));refine Am V (λa=>?_) (λa=>?_)
    ·have H:=AK a H;refine wS (sT (wN ?_));have H:=Af.2 (B _ (j _ (Af.1 H).symm).symm);obtain rfl:=Af.1 H;exact Az ⟨.inr V,iC V⟩
    ·have H:=AL a H;refine Ao ?_;refine q _ ?_;refine nT ?_;refine wSE (sT (sT (sT (wN ?_))));have v:=Af.1 H;repeat(first|refine abN ?_|refine asN ?_)
     refine As ⟨_,(),v.symm,?_⟩;try dsimp only
     exact AU
   ·have H:=AL c H;refine AA ?_;repeat(first|refine BF ?_|refine exO (by decide) ?_|refine asE ?_)
    refine exN ?_;have v:=j _ (Af.1 H).symm;repeat(first|refine abN ?_|refine asN ?_)
    refine As ⟨(_,()),v.symm,?_⟩;try dsimp only
    exact AU
 ·rintro⟨_,_⟩ d;try dsimp only at d
  have H:=D _ d;try dsimp only
  refine wS (sT (wN ?_));obtain rfl:=Af.1 H;exact Az ⟨.inr V,iC V⟩
def F7(f:iE)(r3:List Int):Int->M (Int⊕((Unit)⊕(Bool))):=λa=>iI (a8 (a < (r3.length:Int))) (iH (Cd r3 a) (iH (!(!(a8 ((ixD r3 a) < 0)))||(Cd r3 a)) (iI ((a8 ((ixD r3 a) < 0))||(a8 ((ixD r3 a)≥f.regs))) (iQ (.inr (.inr aL))) (iQ (.inl (bF.wrap (a+1))))))) (iQ (.inr (.inl ())))
def O4(f:iE):M Bool:=iI (((((a8 (f.regs < 0))||(a8 (f.regs > 4096)))||(a8 (f.args < 0)))||(a8 (f.args > 6)))||(a8 (f.args > f.regs))) (iQ aL) (iG (Oh f) λr3=>iJ (iM (F7 f r3) 0) λ_=>iQ aZ)
theorem Ae7(H:(O4 f).to r):Fn bV 12 [.agg (An f)] (.lit (.bool r)):=by
 delta O4 at H;try dsimp only at H
 refine AT Tryz.func12 V (by kernel_rfl) V Tryz.ntmps12 λC hC=>?_
 simp only[Nat.reduceAdd,Nat.reduceSub,zaa];refine wS (sB (sT (wN ?_)));refine Ae λW D=>?_
 refine wS (sT (sT (sT (sT ?_))));refine sGf V ?_;refine sGf V ?_;refine sGf V (sT (sT ?_));refine sGf V ?_;refine sGf V ?_;refine sGf V (sT (sT ?_));refine sGf V ?_;refine sGf V ?_;refine sGf V (sT (sT ?_));refine sGf V ?_;refine sGf V ?_;refine sGf V ?_;refine sGf V ?_;refine sGf V (sT (wN ?_));refine Am V (λd=>?_) (λd=>?_)
 ·have H:=AK d H;refine wS (sT (wN ?_));obtain rfl:=Af.1 H;exact Az ⟨.inr V,iC V⟩
 ·have H:=AL d H;refine Ao ?_;refine D _ ?_;refine nT ?_;obtain⟨r3,s,H⟩:=Ar.1 H;have s:=Q5 s;refine wS (sT (sC s (sT (wN ?_))));obtain⟨Y,N,L,J⟩:=CF H;refine Bk (β:=(Unit)×(Unit)) (λO=>Y= .inl O.1) (λO=>⟨A40 (A10 (A2 [])),[.dead]⟩) ?_ ?_
  ·refine wS (sT (wN ?_));refine Ah ?_;refine By N (λZ b5=>⟨.any::.ptr 0 0::.any::.bs tInt r3::.lit (.int .i64 Z)::A40 (A7 []),[.box (An f)]⟩) () (?_) ?_
   ·try dsimp only
    exact AU
   ·rintro i4 _ x5 H q;try dsimp only
    dsimp only[F7]at H;refine Ae λU B=>?_
    refine wS (sT (sT (sT (sT (wN ?_)))));refine Am V (λc=>?_) (λc=>?_)
    ·have H:=AK c H;refine Ao ?_;refine B _ ?_;refine nT ?_;refine Ae λT v=>?_
     refine Ah ?_;obtain⟨c9,H⟩:=Aj.1 H;obtain⟨I,H⟩:=Aj.1 H;refine dS 14 (hq:=?_);refine qT (qT (qX c9 (qT (qT (qT ?_)))));refine qGf V ?_;refine qGf V ?_;refine qG (g:=(!(a8 ((ixD r3 i4) < 0)))) (hg:=Aha V) (hq:=λhg=>EK V ((Aw (Aq Gt)).trans (BL hg _ _)) ((Aw (Aq Fu)).trans (BL hg _ _)) V (Ro I hg)) (ht:=(Av (Au Hh))) ?_;refine qGf V ?_;refine qGf V ?_;refine qGf V ?_;refine qGf V (qT (qN (wN ?_)));refine Am V (λa=>?_) (λa=>?_)
     ·have H:=AK a H;refine wS (sT (wN ?_));have H:=Af.2 (J _ (q _ (Af.1 H).symm).symm);obtain rfl:=Af.1 H;exact Az ⟨.inr V,iC V⟩
     ·have H:=AL a H;refine Ao ?_;refine v _ ?_;refine nT ?_;refine wSE (sT (sT (sT (wN ?_))));have F:=Af.1 H;repeat(first|refine abN ?_|refine asN ?_)
      refine As ⟨_,(),F.symm,?_⟩;try dsimp only
      exact AU
    ·have H:=AL c H;refine AA ?_;repeat(first|refine BF ?_|refine exO (by decide) ?_|refine asE ?_)
     refine exN ?_;have F:=q _ (Af.1 H).symm;repeat(first|refine abN ?_|refine asN ?_)
     refine As ⟨(_,()),F.symm,?_⟩;try dsimp only
     exact leC (hZ (iA _))
  ·rintro⟨_,_⟩ j;try dsimp only at j
   have H:=L _ j;try dsimp only
   refine wS (sT (wN ?_));obtain rfl:=Af.1 H;exact Az ⟨.inr V,iC V⟩
def Jh(f:iE)(p:iZ)(a:Int):M Bool:=iH (Cd p.at_ a) (iI (a8 ((ixD p.at_ a)≥32)) (iQ ((!p.leaf)&&(a8 ((bF.wrap ((ixD p.at_ a) - 32)) < p.slots)))) (iG (Q6 f a p.leaf) λr4=>iG (O2 r4 (ixD p.at_ a)) λc=>iQ c))
theorem Wr{c:Int}(H:(Jh f p c).to r):Fn bV 36 [.agg (An f),.agg (BS p),.lit (.int .i64 c)] (.lit (.bool r)):=by
 delta Jh at H;try dsimp only at H
 refine AT Tryz.func36 V (by kernel_rfl) V Tryz.ntmps36 λC D=>?_
 simp only[Nat.reduceAdd,Nat.reduceSub,zaa];refine wS (sB (sB (sT (wN ?_))));obtain⟨v,H⟩:=Aj.1 H;refine wS (sT (sT (sT (sX v (sT (sT (wN ?_)))))));refine Ae λs q=>?_
 refine wS (sT (sT (wN ?_)));refine Am V (λa=>?_) (λa=>?_)
 ·have H:=AK a H;refine wS (sT (sT (sT (sT ?_))));refine sGt V ?_;refine sGt V ?_;refine sGt V ?_;refine sGt V ?_;refine sGt V (sT (sT (wN ?_)));obtain rfl:=Af.1 H;exact Az ⟨.inr V,iC V⟩
 ·have H:=AL a H;refine Ao ?_;refine q _ ?_;refine nT ?_;obtain⟨r4,j,H⟩:=Ar.1 H;have j:=TV j;obtain⟨B,d,H⟩:=Ar.1 H;have d:=Og d;refine wS (sT (sT (sT (sT (sC j (sT (sC d (sT (wN ?_)))))))));obtain rfl:=Af.1 H;exact Az ⟨.inr V,iC V⟩
def Ez(f:iE)(p:iZ)(q:List Int):Int->M (Int⊕((Unit)⊕(Bool))):=λa=>iI (a8 (a < f.regs)) (iG (O2 q a) λc=>iH (!(!c)||(Cd p.at_ a)) (iG (M.whn (!((!c)&&((ixD p.at_ a) !=(-1)))) aL (O2 q a)) λd=>iG (M.whn ((!((!c)&&((ixD p.at_ a) !=(-1))))&&d) aL (Jh f p a)) λj=>iI (((!c)&&((ixD p.at_ a) !=(-1)))||(d&&(!j))) (iQ (.inr (.inr aL))) (iQ (.inl (bF.wrap (a+1)))))) (iQ (.inr (.inl ())))
def Ey(p:iZ):Int->M (Int⊕((Unit)⊕(Bool))):=λa=>iI (a8 (a < p.slots)) (iG (O2 p.at_ (bF.wrap (32+a))) λc=>iI (!c) (iQ (.inr (.inr aL))) (iQ (.inl (bF.wrap (a+1))))) (iQ (.inr (.inl ())))
def Ew(f:iE)(p:iZ)(d:List Int)(q:List (List (List Int)))(c:Int):Int->M (Int⊕((Unit)⊕((Int)⊕((Unit)⊕(Bool))))):=λa=>iI (a8 (a < c)) (iH (Cd d c) (iH (Cd p.at_ (ixD d c)) (iH (Cd d a) (iH (Cd p.at_ (ixD d a)) (iH (!((ixD p.at_ (ixD d c)) ==(ixD p.at_ (ixD d a)))||(Cd d c)) (iH (!((ixD p.at_ (ixD d c)) ==(ixD p.at_ (ixD d a)))||(Cd d a)) (iG (M.whn ((ixD p.at_ (ixD d c)) ==(ixD p.at_ (ixD d a))) aL (JZ f q (ixD d c) (ixD d a))) λj=>iI (((ixD p.at_ (ixD d c)) ==(ixD p.at_ (ixD d a)))&&j) (iQ (.inr (.inr (.inr (.inr aL))))) (iQ (.inl (bF.wrap (a+1))))))))))) (iQ (.inr (.inl ())))
def Ex(f:iE)(p:iZ)(c:List Int)(d:List (List (List Int))):Int->M (Int⊕((Unit)⊕(Bool))):=λa=>iI (a8 (a < (c.length:Int))) (iJ (iM (Ew f p c d a) 0) λ_=>iQ (.inl (bF.wrap (a+1)))) (iQ (.inr (.inl ())))
def F6(f:iE)(p:iZ):M Bool:=iG (O4 f) λr2=>iG (M.whn ((!((((!r2)||((p.at_.length:Int) !=f.regs))||(a8 (p.slots < 0)))||(a8 (p.slots > f.regs))))&&p.leaf) aL (Sb f)) λr3=>iI (((((!r2)||((p.at_.length:Int) !=f.regs))||(a8 (p.slots < 0)))||(a8 (p.slots > f.regs)))||(p.leaf&&((!r3)||(p.slots !=0)))) (iQ aL) (iG (Oh f) λa=>iG (Wu f) λc=>iJ (iM (Ez f p a) 0) λ_=>iJ (iM (Ey p) 0) λ_=>iJ (iM (Ex f p a c) 0) λ_=>iQ aZ)
theorem O3(H:(F6 f p).to r):Fn bV 15 [.agg (An f),.agg (BS p)] (.lit (.bool r)):=by
 delta F6 at H;try dsimp only at H
 refine AT Tryz.func15 V (by kernel_rfl) V Tryz.ntmps15 λC hC=>?_
 simp only[Nat.reduceAdd,Nat.reduceSub,zaa];refine wS (sB (sB (sT (wN ?_))));refine Ae λcj bo=>?_
 obtain⟨r2,k2,H⟩:=Ar.1 H;have k2:=Ae7 k2;obtain⟨r3,k3,H⟩:=Ar.1 H;refine wS (sT (sC k2 (sT (sT ?_))));refine sGf V ?_;refine sGf V ?_;refine sGf V ?_;refine sGf V ?_;refine sGf V ?_;refine sGf V (sT (sT ?_));refine sGf V ?_;refine sGf V ?_;refine sGf V (sT (sT ?_));refine sGf V ?_;refine sGf V ?_;refine sGf V ?_;refine sGf V ?_;refine sGf V (sT (sT ?_));refine sGf V ?_;refine sGf V ?_;refine sGf V ?_;refine sG (g:=((!((((!r2)||((p.at_.length:Int) !=f.regs))||(a8 (p.slots < 0)))||(a8 (p.slots > f.regs))))&&p.leaf)) (hg:=Mf V V) (hq:=λhg=>by(have a:=HT hg;exact AW V FD V V)) (ht:=(Av Hh)) (hk:=?_);refine sG (g:=((!((((!r2)||((p.at_.length:Int) !=f.regs))||(a8 (p.slots < 0)))||(a8 (p.slots > f.regs))))&&p.leaf)) (hg:=Mf V V) (hq:=λhg=>by(have a:=HT hg;(try simp only[BL hg,BL a]);(try simp only[Qu hg,Qu a]);exact AO V V (ZU (iR k3 hg)) V V)) (ht:=(Av GR)) (hk:=?_);refine sG (g:=((!((((!r2)||((p.at_.length:Int) !=f.regs))||(a8 (p.slots < 0)))||(a8 (p.slots > f.regs))))&&p.leaf)) (hg:=Mf V V) (hq:=λhg=>by(have a:=HT hg;exact Cu V ((Aw GY).trans (BL hg _ _)))) (ht:=(Av (Au GS))) (hk:=?_);refine sG (g:=((!((((!r2)||((p.at_.length:Int) !=f.regs))||(a8 (p.slots < 0)))||(a8 (p.slots > f.regs))))&&p.leaf)) (hg:=Mf V V) (hq:=λhg=>by(have a:=HT hg;exact AX.move V ((Aw (Aq IL)).trans (BL hg _ _)))) (ht:=(Av (Au JX))) (hk:=?_);refine sG (g:=(((!((((!r2)||((p.at_.length:Int) !=f.regs))||(a8 (p.slots < 0)))||(a8 (p.slots > f.regs))))&&p.leaf)&&(!(!r3)))) (hg:=Arj V V) (hq:=λhg=>by(have a:=HT hg;have T:=HT a;exact Bu V FQ V)) (ht:=(Av (Au KP))) (hk:=?_);refine sG (g:=(((!((((!r2)||((p.at_.length:Int) !=f.regs))||(a8 (p.slots < 0)))||(a8 (p.slots > f.regs))))&&p.leaf)&&(!(!r3)))) (hg:=Arj V V) (hq:=λhg=>by(have a:=HT hg;have T:=HT a;exact Bi V ((Aw (Aq FD)).trans (BL hg _ _)) V V)) (ht:=(Av (Au I8))) (hk:=?_);refine sG (g:=(((!((((!r2)||((p.at_.length:Int) !=f.regs))||(a8 (p.slots < 0)))||(a8 (p.slots > f.regs))))&&p.leaf)&&(!(!r3)))) (hg:=Arj V V) (hq:=λhg=>by(have a:=HT hg;have T:=HT a;exact CN V ((Aw (Aq FQ)).trans (BL hg _ _)) Ac2 V)) (ht:=(Av (Au JW))) (hk:=?_);refine sG (g:=((!((((!r2)||((p.at_.length:Int) !=f.regs))||(a8 (p.slots < 0)))||(a8 (p.slots > f.regs))))&&p.leaf)) (hg:=Mf V V) (hq:=λhg=>by(have a:=HT hg;exact IC V ((Aw (Aq GH)).trans (BL hg _ _)) Ac2 ((Aw (Aq Gt)).trans (Qu hg _ _)))) (ht:=(Av (Au Gv))) (hk:=?_);refine sG (g:=(!((((!r2)||((p.at_.length:Int) !=f.regs))||(a8 (p.slots < 0)))||(a8 (p.slots > f.regs))))) (hg:=Aha V) (hq:=λhg=>D7 V ((Aw Fu).trans (BL hg _ _)) ((Aw (Aq Fu)).trans (Qu hg _ _)) Ac2) (ht:=(Av (Au Hh))) (hk:=?_);refine sT (wN ?_);refine Am V (λac=>?_) (λac=>?_)
 ·have H:=AK ac H;refine wS (sT (wN ?_));obtain rfl:=Af.1 H;exact Az ⟨.inr V,iC V⟩
 ·have H:=AL ac H;refine Ao ?_;refine bo _ ?_;refine nT ?_;obtain⟨d,k5,H⟩:=Ar.1 H;have k5:=Q5 k5;obtain⟨r6,k6,H⟩:=Ar.1 H;have k6:=TY k6;refine dS 6 (hq:=?_);refine qT (qC k5 (qT (qC k6 (qT (qT (qN (wN ?_)))))));obtain⟨z8,ch,cg,cf⟩:=CF H;refine Bk (β:=(Unit)×(Unit)) (λq8=>z8= .inl q8.1) (λq8=>⟨A2 (.ptr 0 0::.ptr 1 0::.any::.bs tInt d::.bs tInt.slice.slice r6::A80 (A40 (A8 []))),[.box (An f),.box (BS p)]⟩) ?_ ?_
  ·refine wS (sT (wN ?_));refine Ah ?_;refine By ch (λs8 b8=>⟨A2 (.ptr 0 0::.ptr 1 0::.any::.bs tInt d::.bs tInt.slice.slice r6::.lit (.int .i64 s8)::A80 (A40 (A7 []))),[.box (An f),.box (BS p)]⟩) () (?_) ?_
   ·try dsimp only
    exact AU
   ·rintro Z _ x8 H ar;try dsimp only
    dsimp only[Ez]at H;refine Ae λci bn=>?_
    refine wS (sT (sT (sT (sT (wN ?_)))));refine Am V (λI=>?_) (λI=>?_)
    ·have H:=AK I H;refine Ao ?_;refine bn _ ?_;refine nT ?_;refine Ae λce aq=>?_
     refine Ah ?_;obtain⟨c,ab,H⟩:=Ar.1 H;have ab:=Og ab;obtain⟨bx,H⟩:=Aj.1 H;obtain⟨j,bm,H⟩:=Ar.1 H;obtain⟨cr,bl,H⟩:=Ar.1 H;refine wS (sT (sT (sC ab (sT (sT ?_)))));refine sGt V ?_;refine sGt V ?_;refine sGt V ?_;refine Aph V bx ?_;refine sGt V ?_;refine sGt V (sT (sT ?_));refine sGf V ?_;refine sGf V ?_;refine sG (g:=(!((!c)&&((ixD p.at_ Z) !=(-1))))) (hg:=Aha V) (hq:=λhg=>by((try simp only[BL hg]);(try simp only[Qu hg]);exact AO V V (Og (iR bm hg)) V V)) (ht:=(Av (Av (Au JX)))) ?_;refine sGf V ?_;refine sG (g:=((!((!c)&&((ixD p.at_ Z) !=(-1))))&&j)) (hg:=Mf V V) (hq:=λhg=>by(have a:=HT hg;exact AW V FD V V)) (ht:=(Av (Av (Au I8)))) (hk:=?_);refine sG (g:=((!((!c)&&((ixD p.at_ Z) !=(-1))))&&j)) (hg:=Mf V V) (hq:=λhg=>by(have a:=HT hg;exact AW V FQ V V)) (ht:=(Av (Av (Au JW)))) (hk:=?_);refine sG (g:=((!((!c)&&((ixD p.at_ Z) !=(-1))))&&j)) (hg:=Mf V V) (hq:=λhg=>by(have a:=HT hg;exact AX.move V GY)) (ht:=(Av (Av (Au Gv)))) (hk:=?_);refine sG (g:=((!((!c)&&((ixD p.at_ Z) !=(-1))))&&j)) (hg:=Mf V V) (hq:=λhg=>by(have a:=HT hg;(try simp only[BL hg,BL a]);(try simp only[Qu hg,Qu a]);exact AO V V (Wr (iR bl hg)) V V)) (ht:=(Av (Av (Au Hh)))) (hk:=?_);refine sG (g:=((!((!c)&&((ixD p.at_ Z) !=(-1))))&&j)) (hg:=Mf V V) (hq:=λhg=>by(have a:=HT hg;exact Cu V ((Aw (Aw (Aq G8))).trans (BL hg _ _)))) (ht:=(Av (Av (Au GR)))) (hk:=?_);refine sG (g:=(!((!c)&&((ixD p.at_ Z) !=(-1))))) (hg:=Aha V) (hq:=λhg=>D7 V ((Aw (Aw (Aq FD))).trans (BL hg _ _)) ((Aw (Aw (Aq GY))).trans (Qu hg _ _)) Ac2) (ht:=(Av (Av (Au (Au GS))))) ?_;refine sT (wN ?_);refine Am V (λF=>?_) (λF=>?_)
     ·have H:=AK F H;refine wS (sT (wN ?_));have H:=Af.2 (cf _ (ar _ (Af.1 H).symm).symm);obtain rfl:=Af.1 H;exact Az ⟨.inr V,iC V⟩
     ·have H:=AL F H;refine Ao ?_;refine aq _ ?_;refine nT ?_;refine wSE (sT (sT (sT (wN ?_))));have e8:=Af.1 H;repeat(first|refine abN ?_|refine asN ?_)
      refine As ⟨_,(),e8.symm,?_⟩;try dsimp only
      exact AU
    ·have H:=AL I H;refine AA ?_;repeat(first|refine BF ?_|refine exO (by decide) ?_|refine asE ?_)
     refine exN ?_;have e8:=ar _ (Af.1 H).symm;repeat(first|refine abN ?_|refine asN ?_)
     refine As ⟨(_,()),e8.symm,?_⟩;try dsimp only
     exact AU
  ·rintro⟨_,_⟩ ak;try dsimp only at ak
   have H:=cg _ ak;try dsimp only
   obtain⟨bg,bc,az,aw⟩:=CF H;refine Bk (β:=(Unit)×(Unit)) (λai=>bg= .inl ai.1) (λai=>⟨A2 (.ptr 0 0::.ptr 1 0::.any::.bs tInt d::.bs tInt.slice.slice r6::A80 (A40 (A8 []))),[.box (An f),.box (BS p)]⟩) ?_ ?_
   ·refine wS (sT (wN ?_));refine Ah ?_;refine By bc (λbj cu=>⟨A2 (.ptr 0 0::.ptr 1 0::.any::.bs tInt d::.bs tInt.slice.slice r6::.any::.lit (.int .i64 bj)::A80 (A40 (A6 []))),[.box (An f),.box (BS p)]⟩) () (?_) ?_
    ·try dsimp only
     exact AU
    ·rintro co _ cn H Y;try dsimp only
     dsimp only[Ey]at H;refine Ae λcd ap=>?_
     refine wS (sT (sT (sT (sT (wN ?_)))));refine Am V (λD=>?_) (λD=>?_)
     ·have H:=AK D H;refine Ao ?_;refine ap _ ?_;refine nT ?_;refine Ae λcc ao=>?_
      refine Ah ?_;obtain⟨cq,aa,H⟩:=Ar.1 H;have aa:=Og aa;refine wS (sT (sT (sT (sT (sC aa (sT (wN ?_)))))));refine Am V (λB=>?_) (λB=>?_)
      ·have H:=AK B H;refine wS (sT (wN ?_));have H:=Af.2 (aw _ (Y _ (Af.1 H).symm).symm);obtain rfl:=Af.1 H;exact Az ⟨.inr V,iC V⟩
      ·have H:=AL B H;refine Ao ?_;refine ao _ ?_;refine nT ?_;refine wSE (sT (sT (sT (wN ?_))));have af:=Af.1 H;repeat(first|refine abN ?_|refine asN ?_)
       refine As ⟨_,(),af.symm,?_⟩;try dsimp only
       exact AU
     ·have H:=AL D H;refine AA ?_;repeat(first|refine BF ?_|refine exO (by decide) ?_|refine asE ?_)
      refine exN ?_;have af:=Y _ (Af.1 H).symm;repeat(first|refine abN ?_|refine asN ?_)
      refine As ⟨(_,()),af.symm,?_⟩;try dsimp only
      exact AU
   ·rintro⟨_,_⟩ O;try dsimp only at O
    have H:=az _ O;try dsimp only
    obtain⟨bf,bb,ay,av⟩:=CF H;refine Bk (β:=(Unit)×(Unit)) (λah=>bf= .inl ah.1) (λah=>⟨A80 (A40 (A10 (A5 []))),[.dead,.dead]⟩) ?_ ?_
    ·refine wS (sT (wN ?_));refine Ah ?_;refine By bb (λbi ct=>⟨A2 (.ptr 0 0::.ptr 1 0::.any::.bs tInt d::.bs tInt.slice.slice r6::A2 (.lit (.int .i64 bi)::A80 (A40 (A5 [])))),[.box (An f),.box (BS p)]⟩) () (?_) ?_
     ·try dsimp only
      exact AU
     ·rintro J _ cm H W;try dsimp only
      dsimp only[Ex]at H;refine Ae λcb an=>?_
      refine wS (sT (sT (sT (sT (wN ?_)))));refine Am V (λv=>?_) (λv=>?_)
      ·have H:=AK v H;refine Ao ?_;refine an _ ?_;refine nT ?_;obtain⟨be,ba,ax,au⟩:=CF H;refine Bk (β:=(Unit)×(Unit)) (λag=>be= .inl ag.1) (λag=>⟨A2 (.ptr 0 0::.ptr 1 0::.any::.bs tInt d::.bs tInt.slice.slice r6::A2 (.lit (.int .i64 J)::A80 (A40 (A5 [])))),[.box (An f),.box (BS p)]⟩) ?_ ?_
       ·refine Ah ?_;refine wS (sT (wN ?_));refine Ah ?_;refine By ba (λbh cs=>⟨A2 (.ptr 0 0::.ptr 1 0::.any::.bs tInt d::.bs tInt.slice.slice r6::A2 (.lit (.int .i64 J)::.lit (.int .i64 bh)::A80 (A40 (A4 [])))),[.box (An f),.box (BS p)]⟩) () (?_) ?_
        ·try dsimp only
         exact AU
        ·rintro aj _ ck H U;try dsimp only
         dsimp only[Ew]at H;refine Ae λca am=>?_
         refine wS (sT (sT (sT (wN ?_))));refine Am V (λs=>?_) (λs=>?_)
         ·have H:=AK s H;refine Ao ?_;refine am _ ?_;refine nT ?_;refine Ae λbz al=>?_
          refine Ah ?_;obtain⟨bw,H⟩:=Aj.1 H;obtain⟨bv,H⟩:=Aj.1 H;obtain⟨bu,H⟩:=Aj.1 H;obtain⟨bt,H⟩:=Aj.1 H;obtain⟨br,H⟩:=Aj.1 H;obtain⟨bq,H⟩:=Aj.1 H;obtain⟨cp,bk,H⟩:=Ar.1 H;refine dS 30 (hq:=?_);refine qT (qT (qT (qT (qX bw (qT (qX bv (qT (qT (qT (qT (qT ?_)))))))))));refine qX bu (qT (qX bt (qT (qT (qT ?_)))));refine qG (g:=((ixD p.at_ (ixD d J)) ==(ixD p.at_ (ixD d aj)))) (hg:=Oq V) (hq:=λhg=>AW V FD V V) (ht:=(Av (Av (Av (Au (Au (Au I8))))))) (hk:=?_);refine qGt V ?_;refine qGt V ?_;refine qGt V ?_;refine Ash V br ?_;refine qGt V ?_;refine qGt V ?_;refine qGt V ?_;refine Ash V bq ?_;refine qGt V ?_;refine qG (g:=((ixD p.at_ (ixD d J)) ==(ixD p.at_ (ixD d aj)))) (hg:=Oq V) (hq:=λhg=>by((try simp only[BL hg]);(try simp only[Qu hg]);exact AO V V (Q7 (iR bk hg)) V V)) (ht:=(Av (Av (Av (Av Gv))))) ?_;refine qT (qN (wN ?_));refine Am V (λq=>?_) (λq=>?_)
          ·have H:=AK q H;refine wS (sT (wN ?_));have H:=Af.2 (au _ (U _ (Af.1 H).symm).symm);have H:=Af.2 (av _ (W _ (Af.1 H).symm).symm);obtain rfl:=Af.1 H;exact Az ⟨.inr V,iC V⟩
          ·have H:=AL q H;refine Ao ?_;refine al _ ?_;refine nT ?_;refine wSE (sT (sT (sT (wN ?_))));have ad:=Af.1 H;repeat(first|refine abN ?_|refine asN ?_)
           refine As ⟨_,(),ad.symm,?_⟩;try dsimp only
           exact AU
         ·have H:=AL s H;refine AA ?_;repeat(first|refine BF ?_|refine exO (by decide) ?_|refine asE ?_)
          refine exN ?_;have ad:=U _ (Af.1 H).symm;repeat(first|refine abN ?_|refine asN ?_)
          refine As ⟨(_,()),ad.symm,?_⟩;try dsimp only
          exact AU
       ·rintro⟨_,_⟩ L;try dsimp only at L
        have H:=ax _ L;try dsimp only
        refine wSE (sT (sT (sT (wN ?_))));have ae:=Af.1 H;repeat(first|refine abN ?_|refine asN ?_)
        refine As ⟨_,(),ae.symm,?_⟩;try dsimp only
        exact AU
      ·have H:=AL v H;refine AA ?_;repeat(first|refine BF ?_|refine exO (by decide) ?_|refine asE ?_)
       refine exN ?_;have ae:=W _ (Af.1 H).symm;repeat(first|refine abN ?_|refine asN ?_)
       refine As ⟨(_,()),ae.symm,?_⟩;try dsimp only
       exact leC (hZ (hZ (iA _)))
    ·rintro⟨_,_⟩ N;try dsimp only at N
     have H:=ay _ N;try dsimp only
     refine wS (sT (wN ?_));obtain rfl:=Af.1 H;exact Az ⟨.inr V,iC V⟩
end
noncomputable section
end
end Mu
namespace Mu
open Go Go.RowKit
theorem G2{h:List gV}{x:Ins}(hk:Ff x=aZ):Fit h Et (.agg (B8 x)) x:=Mx (enc:=B8) λ_ _ _ _ H=>MN (DK.1 hk) H
theorem Ahk{h:List gV}{x:g8}(hk:LU x=aZ):Fit h Ct (.agg (Ed x)) x:=Mx (enc:=Ed) λ_ _ _ _ H=>Afa (Jp.1 hk).name H
section
variable{w:cC}{S:Nat->Prop}{h:List gV}{ψ:Nat->bZ}{cs:List bZ}
end
open Go.Proofs
variable{a:Int}{c:Bool}{ρ:Type}{d:ρ}{i k:Nat}{l:List Int}{n:Nat}{p:iZ}{q:Ins×List Int}{r:Int}{v:ρ}{z:Int}{α:Type}
noncomputable section
def Fk(f:iE)(p:iZ):M Bool:=iH (Mi f&&a8 (Dg.bulk f<=2097152)&&WI p&&p.at_.all (wfB .i64)&&a8 (p.at_.length<=2147483648)&&a8 ((regsB f).length<=2147483648)&&(CM f p.leaf (regsB f)).all (λc=>decide (c.length<=2147483648))&&a8 ((Cp f).length<=2147483648)&&(!Ht f||(Cp f).all λx=>decide ((0<=x.a/\x.a < f.regs)/\(0<=x.b/\x.b < f.regs)))) (iQ (CT f p))
theorem G5{f:iE}{r:Bool}(H:(Fk f p).to r):Fn bV 16 [.agg (An f),.agg (BS p)] (.lit (.bool r)):=by
 obtain⟨c,H⟩:=Aj.1 H;obtain rfl:=Af.1 H;simp only[aI,aW,aR,cO,decide_eq_true_eq]at c;obtain⟨⟨⟨⟨⟨⟨⟨⟨h1,h2⟩,J⟩,I⟩,F⟩,D⟩,B⟩,s⟩,h9⟩:=c;exact Akc f p (BG.1 h1) h2 (Z8 J) (λx hx=>FA (I x hx)) F D B s λj=>by
  rcases h9 with h9|h9
  ·rw[h9]at j;cases j
  ·exact h9
end
theorem w23(hk:k < n)(j:n<=10000000):bF.wrap ((k:Int)+1)=((k+1:Nat):Int):=by
 rw[bJ _ (by omega)];rfl
theorem MZ{l:List α}(h:k < l.length):Cd l (k:Int)=aZ:=BK.2 ⟨by omega,by rw[cI];exact h⟩
theorem Ank{b:Nat}(j:n<=100000000)(s:b<=1000):EM n b=aZ:=by
 unfold EM cF;rw[aI,decide_eq_true_eq,decide_eq_true_eq];refine⟨by omega,?_⟩;have:=jG j s;omega
theorem Uz{step:Int->M (Int⊕(Unit⊕ρ))}{p:Nat->Bool}
 (h:∀k,k < n->(step (k:Int)).to (if p k then .inr (.inr v)else .inl ((k+1:Nat):Int)))(F:(step (n:Int)).to (.inr (.inl ()))):(iM step 0).to (if(gE n).any p then .inr v else .inl ()):=by
 have B:∀(d k:Nat),k+d=n->(iM step (k:Int)).to (if(gF k d).any p then .inr v else .inl ()):=by
  intro d;induction d with
  |zero=>
   intro k hk;have:k=n:=by omega
   subst this;exact iP F
  |succ d D=>
   intro k hk;have j:=h k (by omega);rw[gG,cP];by_cases s:p k=aZ
   ·rw[s]at j⊢;exact iP j
   ·have s:p k=aL:=by simpa using s
    rw[s]at j⊢;rw[aO];exact iN j (D (k+1) (by omega))
 have:=B n 0 (by omega);rwa [<-gH]at this
theorem Ayr{x:M (Unit⊕ρ)}(h:x.to (if c then .inr v else .inl ())):(iJ x λ_=>iQ d).to (if c then v else d):=by
 cases c
 ·exact iK h (Al _)
 ·exact iL h
theorem Az4(c:Bool):(if c then aZ else aL)=c:=by cases c <;> rfl
theorem FI{l:List α}(h:k < l.length):Cd l (k:Int)=aZ:=BK.2 ⟨by omega,by rw[cI];exact h⟩
theorem Aoo(hk:k < n)(j:n<=4611686018427387904):bF.wrap ((k:Int)+1)=((k+1:Nat):Int):=by rw[bJ _ ⟨by omega,by omega⟩];omega
theorem Uu{f:iE}:q∈stepsL f↔∃b i,b < f.blocks.length/\(Cq f b)[i]? =jS q.1/\q.2=Do f (BE f) b (i+1):=by
 constructor
 ·intro h;unfold stepsL at h;obtain⟨b,j,hq⟩:=fK.1 h;obtain⟨i,hi⟩:=fL.1 hq;unfold EO at hi;obtain⟨h1,h2⟩:=eM.1 hi;rw[List.getElem?_drop,Nat.add_comm]at h2;unfold Ce at h2;rw[eF]at h2;obtain⟨k,s,F⟩:=jQ.1 h2;have B:=(eE.1 s).1;rw[eU]at B;rw[eH B]at s;cases s;exact⟨b,i,fQ.1 j,h1,F.symm⟩
 ·rintro⟨b,i,j,hx,D⟩;have hi:=(eE.1 hx).1;refine fN (Tw j hx (l:=q.2) ?_);unfold Ce;rw[eF,eH (by omega),D];rfl
theorem Pt{x:iY}:x∈Xb q↔∃r∈q.2,M6 q r=aZ/\x∈Dp q.1.d r:=by
 unfold Xb;simp only[fK,fJ,and_assoc]
theorem WC(a:Int):Dp a a= []:=if_pos V
theorem WD(a b:Int):Dp a b=Dp b a:=by
 unfold Dp;rw[Int.min_comm,Int.max_comm];by_cases h:a=b
 ·rw[if_pos h,if_pos h.symm]
 ·rw[if_neg h,if_neg (jM h)]
theorem Uv{x:iY}:x∈edgeF l↔∃a∈l,∃b∈l,x∈Dp a b:=by
 have s:∀(i j:Nat) (a b:Int),j < i->l[i]? =jS a->l[j]? =jS b->x∈Dp a b->x∈edgeF l:=λi j a b I F B hx=>by
  unfold edgeF;refine fK.2 ⟨i,fQ.2 (eE.1 F).1,fK.2 ⟨b,?_,by rw[F];exact hx⟩⟩;exact fN (i:=j) (by rw[List.getElem?_take,if_pos I];exact B)
 constructor
 ·intro h;unfold edgeF at h;obtain⟨i,hi,h⟩:=fK.1 h;obtain⟨b,B,h⟩:=fK.1 h;have hi:=fQ.1 hi;rw[eC hi]at h;exact⟨_,eN hi,b,fO B,h⟩
 ·rintro⟨a,F,b,B,hx⟩;obtain⟨i,hi⟩:=fL.1 F;obtain⟨j,D⟩:=fL.1 B;rcases jE i j with h|h|h
  ·exact s j i b a h D hi (by rw[WD];exact hx)
  ·subst h;rw[hi]at D;cases D;rw[WC]at hx;cases hx
  ·exact s i j a b h hi D hx
theorem Aba{f:iE}{x:iY}:HC f x=aZ↔(∃q∈stepsL f,x∈Xb q)\/x∈edgeF (C6 f):=by
 unfold HC HE;rw[P1,P1,gQ,fK];simp
theorem Abb(f:iE):Ao6 (Cp f):=PZ (CU f).1
section
variable{f:iE}{b:Nat}{bl:g8}{x:Ins}(hb:f.blocks[b]? =jS bl)(hne:bl.ins≠[])(hw:Bg x=aL)
include hb hne hw
end
section
variable{P:bS}{C:Ctx}{t:List AV}{h:List gV}{o:bP}
end
theorem Akg(l:List Ins):(l.flatMap BC).length<=D5 Et.bulk l:=by
 induction l with
 |nil=>simp[D5]
 |cons x l j=>
  have h1:=KT x;have h2:=SO x;have B:=Eq WG x.args;have s:(BC x).length<=(readsC x).length+1:=by
   unfold BC;rw[eP];split <;> simp
  simp only[dV,eP,D5];omega
theorem Wm(l:List g8):(l.flatMap λb=>b.ins.flatMap BC).length<=D5 Ct.bulk l:=by
 induction l with
 |nil=>simp[D5]
 |cons b l j=>
  have h1:=Akg b.ins;have h2:=HN b;simp only[dV,eP,D5];omega
theorem Aip{f:iE}(h:Dg.bulk f<=2097152):(NK f).length<=2097152:=by
 have h1:=Wm f.blocks;have h2:=Mn f;have e:(NK f).length=(f.blocks.flatMap λb=>b.ins.flatMap BC).length:=rfl;omega
theorem Ahl{f:iE}(j:okFunc f)(h:Dg.bulk f<=2097152):iD f:=⟨j,ZH h,ZS h,Aip h,Agv h⟩
theorem Aiq{f:iE}{b:Nat}(hb:b < f.blocks.length):ixD (Ng f) (b:Int)=Ce f b:=BV (by unfold Ng;rw[eF,eH hb];rfl)
theorem Aid{f:iE}{b:Nat}(hi:i < (Cq f b).length):(Ce f b)[i+1]? =jS (Do f (BE f) b (i+1)):=by
 unfold Ce;rw[eF,eH (by omega)];rfl
theorem Sy{step:Int->M (Int⊕(Unit⊕ρ))}{p:Nat->Bool}
 (h:∀k,k < n->(step (k:Int)).to (if p k then .inr (.inr v)else .inl ((k+1:Nat):Int)))(F:(step (n:Int)).to (.inr (.inl ()))):(iM step 0).to (if(gE n).any p then .inr v else .inl ()):=by
 have B:∀(d k:Nat),k+d=n->(iM step (k:Int)).to (if(gF k d).any p then .inr v else .inl ()):=by
  intro d;induction d with
  |zero=>
   intro k hk;have:k=n:=by omega
   subst this;exact iP F
  |succ d D=>
   intro k hk;have j:=h k (by omega);rw[gG,cP];by_cases s:p k=aZ
   ·rw[s]at j⊢;exact iP j
   ·have s:p k=aL:=by simpa using s
    rw[s]at j⊢;rw[aO];exact iN j (D (k+1) (by omega))
 have:=B n 0 (by omega);rwa [<-gH]at this
theorem W8{x:M (Unit⊕ρ)}(h:x.to (if c then .inr v else .inl ())):(iJ x λ_=>iQ d).to (if c then v else d):=by
 cases c
 ·exact iK h (Al _)
 ·exact iL h
theorem Ar3{l:List α}{p:Nat->Bool}{q:α->Bool}(h:∀k x,l[k]? =jS x->p k=q x):(gE l.length).any p=l.any q:=by
 rw[aK,cR,cR];constructor
 ·rintro⟨k,hk,j⟩;have hk:=fQ.1 hk;exact⟨l[k],eN hk,by rw[<-h k _ (eC hk)];exact j⟩
 ·rintro⟨x,hx,hq⟩;obtain⟨k,hk⟩:=fL.1 hx;exact⟨k,fQ.2 (eE.1 hk).1,by rw[h k x hk];exact hq⟩
theorem Aev{n:Int}(j:l.length<=4611686018427387904):(O5 l n).to (l.contains n):=by
 have h:=Sy (step:=Jj l n) (p:=λk=>l.getD k 0 ==n) (v:=aZ) (n:=l.length) (λk hk=>?_) ?_
 ·unfold O5;have h2:=W8 (d:=aL) h;rw[Ar3 (q:=λx=>x ==n) λk x hx=>by rw[dY,hx];rfl]at h2;have e:(if(l.any λx=>x ==n)=aZ then aZ else aL)=l.contains n:=by
   rw[show l.contains n=l.any λx=>x ==n by rw[List.contains_eq_any_beq];congr 1;funext x;exact aJ ..];cases l.any λx=>x ==n <;> rfl
  rwa [e]at h2
 ·obtain⟨x,hx⟩:∃x,l[k]? =jS x:=⟨_,eC hk⟩
  have s:l.getD k 0=x:=by rw[dY,hx];rfl
  unfold Jj;rw[BV hx,s,Aoo hk j];refine AM (decide_eq_true (by omega)) (Ag (FI hk) ?_);by_cases h:(x ==n)=aZ
  ·rw[h];exact AM V (Al _)
  ·have h:(x ==n)=aL:=by simpa using h
   rw[h];exact AF V (Al _)
 ·unfold Jj;exact AF (decide_eq_false (by omega)) (Al _)
def Anv(a b:Int)(q:Ins×List Int):Bool:=Bg q.1&&(q.1.d ==a)&&q.2.contains b&&!((q.1.op ==2)&&(q.1.a ==b))
def Pi(f:iE)(a b:Int):Bool:=(stepsL f).any (Anv a b)
theorem Ap2{f:iE}{b:Int}:((gE f.blocks.length).any λk=>(gE (Cq f k).length).any λi=>Anv a b ((Cq f k).getD i default,Do f (BE f) k (i+1)))=Pi f a b:=by
 unfold Pi;rw[aK,cR,cR];constructor
 ·rintro⟨k,hk,h⟩;obtain⟨i,hi,h⟩:=cR.1 h;have hi:=fQ.1 hi;refine⟨_,Uu.2 ⟨k,i,fQ.1 hk,?_,rfl⟩,h⟩;try dsimp only
  rw[dY,eC hi];rfl
 ·rintro⟨q,hq,h⟩;obtain⟨k,i,hk,hx,j⟩:=Uu.1 hq;refine⟨k,fQ.2 hk,cR.2 ⟨i,fQ.2 (eE.1 hx).1,?_⟩⟩;rw[dY,hx,<-j];exact h
theorem Wy{f:iE}(c:iD f)(b i:Nat):(Do f (BE f) b i).length<=2097152:=jB (eS _ _) (jB (Dw _) c.reads)
theorem Ac8{x:Ins}(j:okIns x):(MM x).to (if Bg x then x.d else 0,Bg x):=Ag (DK.2 j) (Al _)
theorem Yp{f:iE}(c:iD f)(a b:Int):(MK f (Ng f) a b).to (Pi f a b):=by
 have O:=c.small.blocks;have h:=Sy (step:=Hn f (Ng f) a b) (p:=λk=>(gE (Cq f k).length).any λi=>Anv a b ((Cq f k).getD i default,Do f (BE f) k (i+1))) (v:=aZ) (n:=f.blocks.length) (λk hk=>?_) ?_
 ·unfold MK;have h2:=W8 (d:=aL) h;rw[Ap2]at h2;have e:(if Pi f a b=aZ then aZ else aL)=Pi f a b:=by cases Pi f a b <;> rfl
  rwa [e]at h2
 ·obtain⟨bl,hb⟩:∃bl,f.blocks[k]? =jS bl:=⟨_,eC hk⟩
  have s:Cq f k=bl.ins:=by unfold Cq;rw[hb]
  have L:=c.ins bl (fN hb);have I:ixD f.blocks (k:Int)=bl:=BV hb;have F:Cd f.blocks (k:Int)=aZ:=FI hk;have hi:=Sy (step:=F8 f (Ng f) a b (k:Int)) (p:=λi=>Anv a b ((Cq f k).getD i default,Do f (BE f) k (i+1))) (v:=(Sum.inr (Sum.inr aZ):Int⊕(Unit⊕Bool))) (n:=bl.ins.length) (λi hi=>?_) ?_
  ·unfold Hn;rw[Aoo hk (by omega)];refine AM (decide_eq_true (by omega)) ?_;rw[s];rw[s]at hi;have T:=W8 (d:=(Sum.inl ((k+1:Nat):Int):Int⊕(Unit⊕Bool))) hi;exact T
  ·obtain⟨x,hx⟩:∃x,bl.ins[i]? =jS x:=⟨_,eC hi⟩
   have N:(Cq f k).getD i default=x:=by rw[s,dY,hx];rfl
   have U:ixD bl.ins (i:Int)=x:=BV hx;have W:Cd bl.ins (i:Int)=aZ:=FI hi;have B:=(c.ok.blocks bl (fN hb)).ins x (fN hx);have h1:=Aiq hk;have j:=Aid (f:=f) (b:=k) (i:=i) (by rw[s];exact hi);have h2:ixD (Ce f k) ((i+1:Nat):Int)=Do f (BE f) k (i+1):=BV j;have Z:Cd (Ng f) (k:Int)=aZ:=FI (by unfold Ng;simpa using hk);have Y:Cd (Ce f k) ((i+1:Nat):Int)=aZ:=FI (eE.1 j).1;have J:=Aev (l:=Do f (BE f) k (i+1)) (n:=b) (by have:=Wy c k (i+1);omega);rw[N];unfold F8;rw[I,U,Aoo hi (by omega),h1,h2];refine Ag F (AM (decide_eq_true (by omega)) (Ag F (Ag W (Ap (Ac8 B) ?_))));try dsimp only
   generalize hg:(Bg x&&((if Bg x=aZ then x.d else 0) ==a))=g;have D:(Bg x&&(x.d ==a))=g:=by
    rw[<-hg];cases Bg x <;> rfl
   refine Ag (by rw[Z,aY]) (Ag (by rw[Y,aY]) (Ap (a:=g&&(Do f (BE f) k (i+1)).contains b) ?_ ?_))
   ·cases g
    ·exact iS V
    ·exact BX V J
   ·have e:Anv a b (x,Do f (BE f) k (i+1))=((g&&(g&&(Do f (BE f) k (i+1)).contains b))&&(!((x.op ==2)&&(x.a ==b)))):=by
     unfold Anv;try dsimp only
     rw[D];cases g <;> simp
    rw[e];generalize ((g&&(g&&(Do f (BE f) k (i+1)).contains b))&&(!((x.op ==2)&&(x.a ==b))))=z;cases z
    ·exact AF V (Al _)
    ·exact AM V (Al _)
  ·unfold F8;rw[I];exact Ag F (AF (decide_eq_false (by omega)) (Al _))
 ·unfold Hn;exact AF (decide_eq_false (by omega)) (Al _)
def DT(f:iE)(a b:Int):Bool:=!(a ==b)&&(Pi f a b||Pi f b a||(a8 (0 < f.blocks.length)&&(C6 f).contains a&&(C6 f).contains b))
theorem UY{f:iE}(h:0 < f.blocks.length):(Ce f 0)[0]? =jS (C6 f):=by
 unfold C6;rw[if_neg (by omega),GL];rfl
theorem Aa5{f:iE}(c:iD f):(C6 f).length<=2097152:=by
 unfold C6;split
 ·simp
 ·rw[GL];exact jB (eS _ _) (jB (Dw _) c.reads)
theorem O9{f:iE}(c:iD f)(a b:Int):(JZ f (Ng f) a b).to (DT f a b):=by
 unfold JZ DT;by_cases j:(a ==b)=aZ
 ·rw[j];exact AM V (Al _)
 ·have j:(a ==b)=aL:=by simpa using j
  rw[j];refine AF V (Ap (Yp c a b) (Ap (a:=!Pi f a b&&Pi f b a) ?_ ?_))
  ·cases Pi f a b
   ·exact BX V (Yp c b a)
   ·exact iS V
  ·by_cases h1:(Pi f a b||Pi f b a)=aZ
   ·rw[h1];refine AM ?_ (Al _);revert h1;cases Pi f a b <;> cases Pi f b a <;> simp
   ·have h1:(Pi f a b||Pi f b a)=aL:=by simpa using h1
    rw[h1];refine AF ?_ ?_
    ·revert h1;cases Pi f a b <;> cases Pi f b a <;> simp
    have F:(Ng f).length=f.blocks.length:=by simp[Ng]
    by_cases h0:0 < f.blocks.length
    ·have e:a8 (((Ng f).length:Int) > 0)=aZ:=decide_eq_true (by omega);have s:a8 (0 < f.blocks.length)=aZ:=decide_eq_true h0;have D:ixD (Ng f) 0=Ce f 0:=Aiq h0;have B:ixD (Ce f 0) 0=C6 f:=BV (k:=0) (UY h0);have J:Cd (Ng f) 0=aZ:=FI (k:=0) (by omega);have I:Cd (Ce f 0) 0=aZ:=FI (k:=0) (eE.1 (UY h0)).1;have L:=Aa5 c;rw[e,s,D,B,J,I];refine Ag V (Ag V (Ap (BX V (Aev (by omega))) (Ag (aY _) (Ag (aY _) (Ap (a:=(C6 f).contains a&&(C6 f).contains b) ?_ ?_)))))
     ·cases(C6 f).contains a
      ·exact iS V
      ·exact BX V (Aev (by omega))
     ·refine Af.2 ?_;cases(C6 f).contains a <;> rfl
    ·have e:a8 (((Ng f).length:Int) > 0)=aL:=decide_eq_false (by omega);have s:a8 (0 < f.blocks.length)=aL:=decide_eq_false h0;rw[e,s];exact Ag V (Ag V (Ap (iS V) (Ag V (Ag V (Ap (iS V) (Al _))))))
theorem Apj{b:Nat}(j:n<=4398046511104)(hb:b<=16):EM n b=aZ:=by
 unfold EM;rw[aI];refine⟨decide_eq_true (by unfold cF;omega),decide_eq_true ?_⟩;have:n * b<=4398046511104 * 16:=jG j hb;omega
theorem Z9{b:Int}(j:Ci a)(hb:Ci b):Jo ⟨a,b⟩=aZ:=by
 unfold Jo;rw[aI];exact⟨j,hb⟩
theorem Aa9{f:iE}(c:iD f)(hi:(AC f)[i]? =jS a):∀(d k:Nat) (l:List iY),k+d=(AC f).length->l.length+d<=4398046511104->
 (iM (Da f (AC f) (Ng f) (i:Int)) ((k:Int),l)).to (l++(((AC f).drop k).map λb=>(⟨a,b⟩:iY)).filter λx=>DT f x.a x.b):=by
 have hw:=LJ c.ok;have L:=Hm c.all;intro d;induction d with
 |zero=>
  intro k l hk J;rw[dF (by omega),fB,dT,cV];refine iP ?_;unfold Da;exact AF (decide_eq_false (by omega)) (Al _)
 |succ d I=>
  intro k l hk J;have j:k < (AC f).length:=by omega
  obtain⟨b,hb⟩:∃b,(AC f)[k]? =jS b:=⟨_,eC j⟩
  have B:(AC f)[k]=b:=by rw[eC j]at hb;exact jT hb
  have F:Cd (AC f) (i:Int)=aZ:=FI (eE.1 hi).1;have D:Cd (AC f) (k:Int)=aZ:=FI j;rw[dE j,B,fA,dN];try dsimp only
  by_cases s:DT f a b=aZ
  ·rw[if_pos s];have:=I (k+1) (l++[⟨a,b⟩]) (by omega) (by simp only[zat];omega);rw[cT]at this;refine iN (s':=(((k+1:Nat):Int),l++[⟨a,b⟩])) ?_ this;unfold Da;try dsimp only
   rw[BV hi,BV hb,Aoo j (by omega)];refine AM (decide_eq_true (by omega)) (Ap (Ag F (Ag D (Ap (O9 c a b) (AM s (Ag F (Ag D (Ag (Z9 (hw _ (fN hi)) (hw _ (fN hb))) (Ag (Apj (by simp only[zai];omega) (by omega)) (Al _))))))))) (Al _))
  ·rw[if_neg s];refine iN (s':=(((k+1:Nat):Int),l)) ?_ (I (k+1) l (by omega) (by omega));unfold Da;try dsimp only
   rw[BV hi,BV hb,Aoo j (by omega)];exact AM (decide_eq_true (by omega)) (Ap (Ag F (Ag D (Ap (O9 c a b) (AF (by simpa using s) (Al _))))) (Al _))
theorem W9{f:iE}(c:iD f):∀(d i:Nat) (l:List iY),i+d=(AC f).length->l.length+(Dc ((AC f).drop i)).length<=4398046511104->
 (iM (Fe f (AC f) (Ng f)) ((i:Int),l)).to (l++(Dc ((AC f).drop i)).filter λx=>DT f x.a x.b):=by
 have L:=Hm c.all;intro d;induction d with
 |zero=>
  intro i l hi s;rw[dF (by omega)];refine iP ?_;unfold Fe;have:=AF (c:=a8 ((i:Int) < ((AC f).length:Int))) (x:=(iG (iM (Da f (AC f) (Ng f) (i:Int)) (bF.wrap ((i:Int)+1),l)) λB=>iQ (.inl (bF.wrap ((i:Int)+1),B)):M ((Int×List iY)⊕List iY))) (decide_eq_false (by omega)) (Al (.inr l));simpa[Dc]using this
 |succ d J=>
  intro i l hi s;have j:i < (AC f).length:=by omega
  obtain⟨a,I⟩:∃a,(AC f)[i]? =jS a:=⟨_,eC j⟩
  have F:(AC f)[i]=a:=by rw[eC j]at I;exact jT I
  rw[dE j,F]at s⊢;unfold Dc at s⊢;rw[eP,eT]at s;rw[dL,<-cT];have D:=Aa9 c I (d:=(AC f).length - (i+1)) (i+1) l (by omega) (by rw[eR]at s;omega);refine iN (s':=(((i+1:Nat):Int),_)) ?_ (J (i+1) (l++((dD (i+1) (AC f)).map λb=>(⟨a,b⟩:iY)).filter λx=>DT f x.a x.b) (by omega) ?_)
  ·unfold Fe;try dsimp only
   rw[Aoo j (by omega)];exact AM (decide_eq_true (by omega)) (Ap D (Al _))
  ·rw[eP];have:=eS (λx:iY=>DT f x.a x.b) ((dD (i+1) (AC f)).map λb=>(⟨a,b⟩:iY));rw[eT]at this;omega
theorem Z1{f:iE}(c:iD f):(Dc (AC f)).length<=4398046511104:=(PO c.all).lens
theorem Abc{f:iE}(c:iD f):(Ho f).to ((Dc (AC f)).filter λx=>DT f x.a x.b):=by
 have j:=BG.2 c;unfold Ho;refine Ap (Ag j (Al (AC f))) (Ap (Ag j (Al (Ng f))) (Ap (a:=(Dc (AC f)).filter λx=>DT f x.a x.b) ?_ (Al _)));have:=W9 c (AC f).length 0 [] (by omega) (by have:=Z1 c;simpa using this);simpa using this
theorem Akz{f:iE}{b:Int}:Pi f a b=aZ↔∃q∈stepsL f,Bg q.1=aZ/\q.1.d=a/\b∈q.2/\M6 q b=aZ:=by
 unfold Pi;rw[cR];constructor
 ·rintro⟨q,hq,h⟩;unfold Anv at h;simp only[aI,beq_iff_eq,cY,aR,aH,beq_eq_false_iff_ne]at h;obtain⟨⟨⟨h1,h2⟩,j⟩,h4⟩:=h;refine⟨q,hq,h1,h2,j,?_⟩;unfold M6;simp only[h1,a6,aW,bne_iff_ne,ne_eq];rcases h4 with h4|h4
  ·exact .inl h4
  ·exact .inr λe=>h4 e.symm
 ·rintro⟨q,hq,h1,h2,j,h4⟩;refine⟨q,hq,?_⟩;unfold Anv;simp only[aI,beq_iff_eq,cY,aR,aH,beq_eq_false_iff_ne];refine⟨⟨⟨h1,h2⟩,j⟩,?_⟩;unfold M6 at h4;simp only[h1,a6,aW,bne_iff_ne,ne_eq]at h4;rcases h4 with h4|h4
  ·exact .inl h4
  ·exact .inr λe=>h4 e.symm
theorem Hs{b:Int}{x:iY}(hx:x.a < x.b):x∈Dp a b↔(x.a=a/\x.b=b)\/(x.a=b/\x.b=a):=by
 unfold Dp;obtain⟨u,v⟩:=x
 (try dsimp only at hx);(try dsimp only)
 by_cases h:a=b
 ·rw[if_pos h];simp only[fZ,false_iff];omega
 ·rw[if_neg h];simp only[or_false,Pair.mk.injEq,zak];rw[Int.min_def,Int.max_def];split <;> omega
theorem Uc{f:iE}{x:iY}(hx:x.a < x.b):DT f x.a x.b=HC f x:=by
 have hne:x.a≠x.b:=by omega
 rw[aK,Aba];unfold DT;have e:(x.a ==x.b)=aL:=by simpa using hne
 rw[e];simp only[aS,a6,aW,aI,decide_eq_true_eq,cY,Akz];constructor
 ·rintro((⟨q,hq,h1,h2,J,I⟩|⟨q,hq,h1,h2,J,I⟩)|⟨⟨_,h1⟩,h2⟩)
  ·exact .inl ⟨q,hq,Pt.2 ⟨x.b,J,I,(Hs hx).2 (.inl ⟨h2.symm,rfl⟩)⟩⟩
  ·exact .inl ⟨q,hq,Pt.2 ⟨x.a,J,I,(Hs hx).2 (.inr ⟨rfl,h2.symm⟩)⟩⟩
  ·exact .inr (Uv.2 ⟨x.a,h1,x.b,h2,(Hs hx).2 (.inl ⟨rfl,rfl⟩)⟩)
 ·rintro(⟨q,hq,h⟩|h)
  ·obtain⟨r,L,B,F⟩:=Pt.1 h;have hw:Bg q.1=aZ:=by unfold M6 at B;rw[aI]at B;exact B.1
   rcases(Hs hx).1 F with⟨s,j⟩|⟨s,j⟩
   ·exact .inl (.inl ⟨q,hq,hw,s.symm,by rw[j];exact L,by rw[j];exact B⟩)
   ·exact .inl (.inr ⟨q,hq,hw,j.symm,by rw[s];exact L,by rw[s];exact B⟩)
  ·obtain⟨a,D,b,hb,F⟩:=Uv.1 h;have h0:0 < f.blocks.length:=by
    rcases Nat.eq_zero_or_pos f.blocks.length with h0|h0
    ·unfold C6 at D;rw[if_pos h0]at D;cases D
    ·exact h0
   rcases(Hs hx).1 F with⟨s,j⟩|⟨s,j⟩
   ·exact .inr ⟨⟨h0,by rw[s];exact D⟩,by rw[j];exact hb⟩
   ·exact .inr ⟨⟨h0,by rw[s];exact hb⟩,by rw[j];exact D⟩
theorem Rv(f:iE):((Dc (AC f)).filter λx=>DT f x.a x.b)=Cp f:=by
 unfold Cp Ej;refine dM λx hx=>?_
 exact Uc ((Eg (CU f).1).1 hx).2.2
theorem KW{f:iE}{b:Int}:DT f a b=DT f b a:=by
 unfold DT;rw[show(a ==b)=(b ==a)from aJ ..];cases(b ==a) <;> cases Pi f a b <;> cases Pi f b a <;> cases a8 (0 < f.blocks.length) <;> cases(C6 f).contains a <;> cases(C6 f).contains b <;> rfl
theorem Xa{f:iE}(c:iD f):(Ho f).to (Cp f):=by
 have:=Abc c;rwa [Rv]at this
theorem Vy{q:Int->Bool}:((gE l.length).any λi=>q (l.getD i default))=l.any q:=by
 rw[aK,cR,cR];constructor
 ·rintro⟨k,hk,j⟩;have hk:=fQ.1 hk;refine⟨l[k],eN hk,?_⟩;rw[dY,eC hk]at j;exact j
 ·rintro⟨x,hx,hq⟩;obtain⟨k,hk⟩:=fL.1 hx;refine⟨k,fQ.2 (eE.1 hk).1,?_⟩;rw[dY,hk];exact hq
theorem WT(j:l.length<=10000000){n:Int}:(O2 l n).to (l.contains n):=by
 have h:=Uz (step:=Ji l n) (p:=λi=>(l.getD i default) ==n) (v:=aZ) (n:=l.length) (λi hi=>?_) ?_
 ·have h2:=Ayr (d:=aL) h;rw[Az4,Vy (q:=λy=>y ==n)]at h2;have e:(l.any λy=>y ==n)=l.contains n:=by
   rw[aK,cR,cY];constructor
   ·rintro⟨x,hx,hq⟩;rw[<-eq_of_beq hq];exact hx
   ·intro hx;exact⟨n,hx,beq_self_eq_true n⟩
  rw[e]at h2;exact h2
 ·obtain⟨x,hx⟩:∃x,l[i]? =jS x:=⟨_,eC hi⟩
  have s:l.getD i default=x:=by rw[dY,hx];rfl
  unfold Ji;rw[BV hx,w23 hi j];simp only[s];refine AM (decide_eq_true (by omega)) (Ag (MZ hi) ?_);cases hc:(x ==n)with
  |true=>exact AM V (Al _)
  |false=>exact AF V (Al _)
 ·unfold Ji;exact AF (decide_eq_false (by omega)) (Al _)
def Aab(f:iE)(r:Int):Bool:=a8 (r < 0)||decide (r≥f.regs)
theorem Ala{f:iE}(c:iD f)(s:(regsB f).length<=10000000):(O4 f).to (Ht f):=by
 have D:(Oh f).to (regsB f):=Ag (BG.2 c) (Al _);have j:(((((a8 (f.regs < 0))||(a8 (f.regs > 4096)))||(a8 (f.args < 0)))||(a8 (f.args > 6)))||(a8 (f.args > f.regs)))=Ak3 f:=by
  unfold Ak3;rw[Bool.or_assoc _ (a8 (f.args > 6))];congr 1;rw[aK];simp only[zau];split <;> omega
 unfold O4 Ht;rw[j];cases h:Ak3 f with
 |true=>exact AM V (Al _)
 |false=>
  refine AF V (Ap D ?_);have h:=Uz (step:=F7 f (regsB f)) (p:=λi=>Aab f ((regsB f).getD i default)) (v:=aL) (n:=(regsB f).length) (λi hi=>?_) ?_
  ·have h2:=Ayr (d:=aZ) h;rw[Vy (q:=Aab f)]at h2;have e:(!false&&!((regsB f).any λr=>decide (r < 0)||decide (r≥f.regs)))=if(regsB f).any (Aab f)then aL else aZ:=by
    show(aZ&&!((regsB f).any (Aab f)))=_;cases(regsB f).any (Aab f) <;> rfl
   rw[e];exact h2
  ·obtain⟨x,hx⟩:∃x,(regsB f)[i]? =jS x:=⟨_,eC hi⟩
   have B:(regsB f).getD i default=x:=by rw[dY,hx];rfl
   unfold F7;rw[BV hx,w23 hi s];simp only[B];refine AM (decide_eq_true (by omega)) (Ag (MZ hi) (Ag (by rw[MZ hi,aY]) ?_));unfold Aab;cases hc:(a8 (x < 0)||decide (x≥f.regs))with
   |true=>exact AM V (Al _)
   |false=>exact AF V (Al _)
  ·unfold F7;exact AF (decide_eq_false (by omega)) (Al _)
theorem KV(cross:List Int)(r:Int)(leaf:Bool):(BD cross r leaf).length<=100:=by
 rw[Db];split
 ·decide
 split
 ·decide
 ·decide
theorem ZX{cross:List Int}{leaf:Bool}(h:z∈BD cross r leaf):z < 32/\z≠-1:=by
 have j:∀y∈YS++Jt,y < 32/\y≠-1:=by decide
 rw[Db]at h;refine j z ?_;split at h
 ·exact fD _ h
 split at h
 ·exact fE _ h
 ·exact h
def O8(f:iE)(p:iZ)(r:Int):Bool:=if a8 (ixD p.at_ r≥32)then(!p.leaf)&&(a8 ((bF.wrap ((ixD p.at_ r) - 32)) < p.slots))else(BD (B9 f) r p.leaf).contains (ixD p.at_ r)
theorem ZZ{f:iE}(c:iD f)(j:Cd p.at_ r=aZ):(Jh f p r).to (O8 f p r):=by
 unfold Jh O8;refine Ag j ?_;cases h:a8 (ixD p.at_ r≥32)with
 |true=>
  rw[if_pos V];exact AM V (Al _)
 |false=>
  rw[if_neg (by simp)];exact AF V (Ap (Ag (BG.2 c) (Al _)) (Ap (WT (by have:=KV (B9 f) r p.leaf;omega)) (Al _)))
def Aih(f:iE)(p:iZ)(k:Nat):Bool:=(!(regsB f).contains (k:Int)&&(ixD p.at_ (k:Int) != -1))||((regsB f).contains (k:Int)&&!O8 f p (k:Int))
theorem Aey{f:iE}(c:iD f)(B:(regsB f).length<=10000000)(D:(p.at_.length:Int)=f.regs)(s:p.at_.length<=10000000):(iM (Ez f p (regsB f)) 0).to (if(gE p.at_.length).any (Aih f p)then .inr aL else .inl ()):=by
 refine Uz (λk hk=>?_) ?_
 ·have j:=MZ (l:=p.at_) hk;have hc:=WT B (n:=(k:Int));unfold Ez;rw[w23 hk s];refine AM (decide_eq_true (by omega)) (Ap hc (Ag (by rw[j,aY]) ?_));unfold Aih;cases h1:(regsB f).contains (k:Int)with
  |true=>
   rw[h1]at hc;refine Ap (BX V hc) (Ap (BX V (ZZ c j)) ?_);cases h2:O8 f p (k:Int)with
   |true=>exact AF V (Al _)
   |false=>exact AM V (Al _)
  |false=>
   rw[h1]at hc;cases F:(ixD p.at_ (k:Int) != -1)with
   |true=>exact Ap (iS V) (Ap (iS V) (AM V (Al _)))
   |false=>exact Ap (BX V hc) (Ap (iS V) (AF V (Al _)))
 ·unfold Ez;exact AF (decide_eq_false (by omega)) (Al _)
theorem ZK(j:p.at_.length<=10000000)(h0:0<=p.slots)(B:p.slots<=10000000):(iM (Ey p) 0).to (if(gE p.slots.toNat).any (λs=>!p.at_.contains (32+(s:Int)))then .inr aL else .inl ()):=by
 refine Uz (λk hk=>?_) ?_
 ·have hc:=WT j (n:=32+(k:Int));have hw:bF.wrap (32+(k:Int))=32+(k:Int):=bJ _ (by omega);unfold Ey;rw[w23 hk (by omega),hw];refine AM (decide_eq_true (by omega)) (Ap hc ?_);cases p.at_.contains (32+(k:Int))with
  |true=>exact AF V (Al _)
  |false=>exact AM V (Al _)
 ·unfold Ey;exact AF (decide_eq_false (by omega)) (Al _)
def Mm(f:iE)(p:iZ)(i k:Nat):Bool:=(ixD p.at_ ((regsB f).getD i 0) ==ixD p.at_ ((regsB f).getD k 0))&&DT f ((regsB f).getD i 0) ((regsB f).getD k 0)
theorem Aqb{D:Type}{step:Int->M (Int⊕(Unit⊕(D⊕(Unit⊕ρ))))}{p:Nat->Bool}{v:Unit⊕(D⊕(Unit⊕ρ))}
 (h:∀k,k < n->(step (k:Int)).to (if p k then .inr v else .inl ((k+1:Nat):Int)))(I:(step (n:Int)).to (.inr (.inl ()))):(iM step 0).to (if(gE n).any p then v else .inl ()):=by
 have B:∀(d k:Nat),k+d=n->(iM step (k:Int)).to (if(gF k d).any p then v else .inl ()):=by
  intro d;induction d with
  |zero=>
   intro k hk;have:k=n:=by omega
   subst this;exact iP I
  |succ d F=>
   intro k hk;have j:=h k (by omega);rw[gG,cP];by_cases s:p k=aZ
   ·rw[s]at j⊢;exact iP j
   ·have s:p k=aL:=by simpa using s
    rw[s]at j⊢;rw[aO];exact iN j (F (k+1) (by omega))
 have:=B n 0 (by omega);rwa [<-gH]at this
theorem Abt{f:iE}(c:iD f)(L:(regsB f).length<=10000000)(s:∀r∈regsB f,Cd p.at_ r=aZ):(iM (Ex f p (regsB f) (Ng f)) 0).to (if(gE (regsB f).length).any (λi=>(gE i).any (Mm f p i))then .inr aL else .inl ()):=by
 refine Uz (λi hi=>?_) ?_
 ·obtain⟨x,hx⟩:∃x,(regsB f)[i]? =jS x:=⟨_,eC hi⟩
  have J:(regsB f).getD i 0=x:=by rw[dZ,hx];rfl
  have F:=s x (fN hx);have j:(iM (Ew f p (regsB f) (Ng f) (i:Int)) 0).to (if(gE i).any (Mm f p i)then .inr (.inr (.inr aL))else .inl ()):=by
   refine Aqb (λk hk=>?_) ?_
   ·obtain⟨y,B⟩:∃y,(regsB f)[k]? =jS y:=⟨_,eC (by omega)⟩
    have I:(regsB f).getD k 0=y:=by rw[dZ,B];rfl
    have D:=s y (fN B);unfold Ew Mm;rw[BV hx,BV B,w23 hk (by omega),J,I];refine AM (decide_eq_true (by omega)) (Ag (MZ hi) (Ag F (Ag (MZ (by omega)) (Ag D (Ag (by rw[MZ hi,aY]) (Ag (by rw[MZ (l:=regsB f) (k:=k) (by omega),aY]) ?_))))));cases h1:(ixD p.at_ x ==ixD p.at_ y)with
    |true=>
     refine Ap (BX V (O9 c x y)) ?_;cases DT f x y with
     |true=>exact AM V (Al _)
     |false=>exact AF V (Al _)
    |false=>exact Ap (iS V) (AF V (Al _))
   ·unfold Ew;exact AF (decide_eq_false (by omega)) (Al _)
  unfold Ex;rw[w23 hi L];refine AM (decide_eq_true (by omega)) ?_;cases h:(gE i).any (Mm f p i)with
  |true=>
   rw[h]at j;exact iL j
  |false=>
   rw[h]at j;exact iK j (Al _)
 ·unfold Ex;exact AF (decide_eq_false (by omega)) (Al _)
def Um(f:iE)(p:iZ):Bool:=((((!Ht f)||((p.at_.length:Int) !=f.regs))||decide (p.slots < 0))||decide (p.slots > f.regs))
theorem Adi:GP p p.at_.length z=aZ↔z∈p.at_/\I4 p z=aZ:=by
 unfold GP;rw[gQ,cY,fJ]
theorem I3(j:Ci z):I4 p z=aZ↔32<=z/\z < 32+p.slots:=by
 have hw:wfI .i64 z:=j;simp[wfI,Lit.wf,bH,bG,bI,bE]at hw;unfold I4;simp only[zag];constructor
 ·rintro⟨h1,h2⟩;rw[bJ _ (by omega)]at h2;omega
 ·rintro⟨h1,h2⟩;refine⟨h1,?_⟩;rw[bJ _ (by omega)];omega
def NX(p:iZ):List Int:=(gE p.slots.toNat).map λ(s:Nat)=>32+(s:Int)
theorem LA(h0:0<=p.slots):z∈NX p↔32<=z/\z < 32+p.slots:=by
 unfold NX;rw[fM];constructor
 ·rintro⟨s,j,rfl⟩;have:=fQ.1 j;omega
 ·rintro⟨h1,h2⟩;exact⟨(z - 32).toNat,fQ.2 (by omega),by omega⟩
theorem Wf(p:iZ):(NX p).Nodup:=by
 unfold NX;exact gD.2 (cM (λh e=>h (by omega)) List.nodup_range)
theorem OG(hw:∀x∈p.at_,Ci x):z∈(CE p.at_).filter (GP p p.at_.length)↔z∈p.at_/\32<=z/\z < 32+p.slots:=by
 rw[fJ,Adi,(EQ _).2 z];constructor
 ·rintro⟨h1,_,j⟩;exact⟨h1,(I3 (hw z h1)).1 j⟩
 ·rintro⟨h1,h2⟩;exact⟨h1,h1,(I3 (hw z h1)).2 h2⟩
theorem OF(p:iZ):((CE p.at_).filter (GP p p.at_.length)).Nodup:=(cM (λh=>by omega) (EQ p.at_).1:(CE p.at_).Nodup).filter _
theorem AAn:∀(A B:List Int),A.Nodup->(∀a∈A,a∈B)->B.length<=A.length->∀b∈B,b∈A
 | [],B,_,_,I,b,hb=>by
  have:B= []:=dH (by simpa using I);subst this;cases hb
 |a::A,B,D,J,I,b,hb=>by
  rw[fX]at D;have s:=J a (by simp);have F:=List.length_erase_of_mem s;have L:0 < B.length:=List.length_pos_of_mem s;by_cases j:b=a
  ·simp[j]
  ·have:=AAn A (B.erase a) D.2 (λx hx=>(fI (λe=>D.1 (by rw[<-e];exact hx))).2 (J x (by simp[hx]))) (by rw[F];simp only[eQ]at I;omega) b ((fI j).2 hb);simp[this]
theorem SN(hw:∀x∈p.at_,Ci x)(h0:0<=p.slots):((cardC p:Int) ==p.slots)= !((gE p.slots.toNat).any λs=>!p.at_.contains (32+(s:Int))):=by
 have F:(NX p).length=p.slots.toNat:=by simp[NX]
 have j:∀z∈(CE p.at_).filter (GP p p.at_.length),z∈NX p:=λz B=>(LA h0).2 ((OG hw).1 B).2
 rw[aK];simp only[beq_iff_eq,aR,cQ,fQ,Bool.not_eq_true,aP,cY];constructor
 ·intro h s D;have hc:(NX p).length<=((CE p.at_).filter (GP p p.at_.length)).length:=by
   show _<=cardC p;omega
  have:=AAn _ _ (OF p) j hc (32+(s:Int)) ((LA h0).2 (by omega));simpa using((OG hw).1 this).1
 ·intro h;have h1:=Dq (OF p) j;have h2:=Dq (Wf p) (m:=(CE p.at_).filter (GP p p.at_.length)) λz B=>by
   have B:=(LA h0).1 B;refine(OG hw).2 ⟨?_,B⟩;have:=h (z - 32).toNat (by omega);have e:32+(((z - 32).toNat:Nat):Int)=z:=by omega
   rw[e]at this;simpa using this
  have:cardC p=(NX p).length:=i7 h1 h2;omega
theorem Zb{f:iE}(hw:∀x∈p.at_,Ci x)(s:p.leaf=aZ->p.slots=0)(hk:k < p.at_.length):atC f p k (p.at_.getD k 0)= !Aih f p k:=by
 obtain⟨x,hx⟩:∃x,p.at_[k]? =jS x:=⟨_,eC hk⟩
 have N:p.at_.getD k 0=x:=by rw[dZ,hx];rfl
 have F:=hw x (fN hx);unfold atC Aih;rw[N,BV hx];cases hc:(regsB f).contains (k:Int)with
 |false=>
  rw[if_neg (by simp)];cases hb:(x == -1) <;> simp[bne,hb]
 |true=>
  rw[if_pos V];have B:=cY.1 hc;have D:=Vu (Jg f) B;have J:(CM f p.leaf (regsB f)).getD ((regsB f).countP (· < (k:Int))) []=BD (B9 f) k p.leaf:=by
   rw[dZ];unfold CM;rw[eF,D];rfl
  rw[J];unfold O8;rw[BV hx];by_cases j:x≥32
  ·rw[if_pos (decide_eq_true j)];have L:(BD (B9 f) k p.leaf).contains x=aL:=by
    cases h:(BD (B9 f) k p.leaf).contains x with
    |false=>rfl
    |true=>have:=(ZX (cY.1 h)).1;omega
   rw[L];unfold I4;rw[decide_eq_true j];cases I:p.leaf with
   |false=>simp
   |true=>
    have O:=s I;have:I4 p x=aL:=by
     cases h:I4 p x with
     |false=>rfl
     |true=>have:=(I3 F).1 h;omega
    unfold I4 at this;rw[decide_eq_true j]at this;simpa using this
  ·rw[if_neg (by rw[decide_eq_false j];simp)];unfold I4;rw[decide_eq_false j];simp
theorem B7{f:iE}(h:r∈AC f):r∈regsB f:=Jf.2 (fE _ (((CU f).2 r).1 h))
theorem Hz{f:iE}{x:iY}:x∈Cp f↔x.a∈AC f/\x.b∈AC f/\x.a < x.b/\DT f x.a x.b=aZ:=by
 rw[<-Rv,fJ,Eg (CU f).1];constructor
 ·rintro⟨⟨h1,h2,s⟩,j⟩;exact⟨h1,h2,s,j⟩
 ·rintro⟨h1,h2,s,j⟩;exact⟨⟨h1,h2,s⟩,j⟩
theorem E7{f:iE}(j:okFunc f)(h:r∈regsB f):Ci r:=Ae5 j r (Jf.1 h)
theorem Ah9{f:iE}(c:iD f):((Cp f).any (Nt p))=(gE (regsB f).length).any λi=>(gE i).any (Mm f p i):=by
 have j:=Jg f;unfold Asc at j;rw[gC]at j;rw[aK,cR,cR];constructor
 ·rintro⟨x,hx,I⟩;obtain⟨h1,h2,O,N⟩:=Hz.1 hx;obtain⟨k,hk⟩:=fL.1 (B7 h1);obtain⟨i,hi⟩:=fL.1 (B7 h2);obtain⟨B,T⟩:=eE.1 hk;obtain⟨s,U⟩:=eE.1 hi;have D:k < i:=by
   rcases jC k i with h|h
   ·exact h
   ·rcases Nat.eq_or_lt_of_le h with h|h
    ·subst h;omega
    ·have:=j i k s B h;omega
  refine⟨i,fQ.2 s,cR.2 ⟨k,fQ.2 D,?_⟩⟩;unfold Mm;rw[dZ,dZ,hk,hi];show((ixD p.at_ x.b ==ixD p.at_ x.a)&&DT f x.b x.a)=aZ;rw[KW,N,Bool.and_true];unfold Nt at I;rw[eq_of_beq I];exact beq_self_eq_true _
 ·rintro⟨i,hi,h⟩;obtain⟨k,hk,h⟩:=cR.1 h;have s:=fQ.1 hi;have D:=fQ.1 hk;have B:k < (regsB f).length:=by omega
  have F:=j k i B s D;unfold Mm at h;rw[dZ,dZ,eC s,eC B,aI]at h;obtain⟨h1,h2⟩:=h;have h2:DT f (regsB f)[k] (regsB f)[i]=aZ:=by rw[KW];exact h2
  have L:HC f ⟨(regsB f)[k],(regsB f)[i]⟩=aZ:=by rw[<-Uc F];exact h2
  have J:=(PO c.all).mem ⟨(regsB f)[k],(regsB f)[i]⟩ L;refine⟨⟨(regsB f)[k],(regsB f)[i]⟩,Hz.2 ⟨J.1,J.2.1,F,h2⟩,?_⟩;unfold Nt;have h1:(ixD p.at_ (regsB f)[i] ==ixD p.at_ (regsB f)[k])=aZ:=h1;rw[eq_of_beq h1];exact beq_self_eq_true _
theorem Uw{f:iE}(h:Ht f=aZ)(j:r∈regsB f):0<=r/\r < f.regs:=by
 unfold Ht at h;rw[aI,aR,aR,cQ]at h;have:=h.2 r j;simp at this;omega
theorem ZO{f:iE}(c:iD f)(aa:Dg.bulk f<=2097152)(hw:∀x∈p.at_,Ci x)(hp:p.at_.length<=10000000)(U:(regsB f).length<=10000000):(F6 f p).to (CT f p):=by
 have Y:=BG.2 c;have hM:=Ala c U;have ab:(Sb f).to (leaf f.blocks):=Ag (by rw[Y,decide_eq_true aa];rfl) (Al _);have Z:cardC p<=p.at_.length:=jB (eS _ _) (Dw _);unfold F6;refine Ap hM ?_;cases ho:Um f p with
 |true=>
  have e:CT f p=aL:=by
   unfold Um at ho;rw[aW]at ho;rcases ho with ho|ho
   ·have:Ul f p=aZ:=by unfold Ul;rw[ho];rfl
    unfold CT;rw[this];rfl
   ·have hs:=of_decide_eq_true ho;cases h0:Ul f p with
    |true=>unfold CT;rw[h0];rfl
    |false=>
     have h1:=h0;unfold Ul at h1;simp only[aV]at h1;have F:(p.at_.length:Int)=f.regs:=by simpa using h1.1.1.2
     have:((cardC p:Int) ==p.slots)=aL:=by
      cases h:((cardC p:Int) ==p.slots)with
      |false=>rfl
      |true=>have:=eq_of_beq h;omega
     unfold CT;rw[this];simp
  rw[e];unfold Um at ho;exact Ap (iS (by rw[ho];rfl)) (AM (by rw[ho];rfl) (Al _))
 |false=>
  have I:=ho;unfold Um at I;simp only[aV,decide_eq_false_iff_not]at I;obtain⟨⟨⟨g1,g2⟩,g3⟩,g4⟩:=I;have D:Ht f=aZ:=by simpa using g1
  have F:(p.at_.length:Int)=f.regs:=by simpa using g2
  have W:∀r∈regsB f,Cd p.at_ r=aZ:=λr hr=>by
   have:=Uw D hr;exact BK.2 ⟨this.1,by omega⟩
  unfold Um at ho;refine Ap (a:=bif p.leaf then leaf f.blocks else aL) ?_ ?_
  ·rw[ho];cases p.leaf
   ·exact iS V
   ·exact BX V ab
  rw[ho,aO];cases hq:(p.leaf&&((!bif p.leaf then leaf f.blocks else aL)||(p.slots !=0)))with
  |true=>
   have e:CT f p=aL:=by
    have:Ul f p=aZ:=by
     rw[aI]at hq;obtain⟨q1,q2⟩:=hq;rw[q1,cond_true,aW]at q2;unfold Ul;rw[q1,a6];rcases q2 with q2|q2
     ·rw[q2];simp
     ·have:a8 (p.slots > 0)=aZ:=decide_eq_true (by simp at q2;omega);rw[this];simp
    unfold CT;rw[this];rfl
   rw[e];exact AM V (Al _)
  |false=>
   have h0:Ul f p=aL:=by
    unfold Ul;rw[D];have e1:((p.at_.length:Int) !=f.regs)=aL:=g2;rw[e1,decide_eq_false g3];cases J:p.leaf with
    |false=>rfl
    |true=>
     rw[J,a6,aV,cond_true]at hq;rw[hq.1];have:p.slots=0:=by simpa using hq.2
     rw[this];rfl
   have B:p.leaf=aZ->p.slots=0:=λJ=>by
    rw[J,a6,aV]at hq;simpa using hq.2
   refine AF V (Ap (Ag Y (Al _)) (Ap (Ag Y (Al _)) ?_));have e:CT f p=(!((gE p.at_.length).any (Aih f p))&&(!((gE p.slots.toNat).any λs=>!p.at_.contains (32+(s:Int)))&&!((gE (regsB f).length).any λi=>(gE i).any (Mm f p i)))):=by
    unfold CT;rw[h0,SN hw (by omega),Ah9 c];have:((gE p.at_.length).all λj=>atC f p j (p.at_.getD j 0))= !((gE p.at_.length).any (Aih f p)):=by
     rw[List.not_any_eq_all_not];rw[aK,cO,cO];constructor
     ·intro h j L;rw[<-Zb hw B (fQ.1 L)];exact h j L
     ·intro h j L;rw[Zb hw B (fQ.1 L)];exact h j L
    rw[this];rfl
   rw[e];have T:=Aey c U F hp;have O:=ZK hp (p:=p) (by omega) (by omega);have N:=Abt c (p:=p) U W;cases b1:(gE p.at_.length).any (Aih f p)with
   |true=>rw[b1]at T;exact iL T
   |false=>
    rw[b1]at T;refine iK T ?_;cases b2:(gE p.slots.toNat).any λs=>!p.at_.contains (32+(s:Int))with
    |true=>rw[b2]at O;exact iL O
    |false=>
     rw[b2]at O;refine iK O ?_;cases b3:(gE (regsB f).length).any λi=>(gE i).any (Mm f p i)with
     |true=>rw[b3]at N;exact iL N
     |false=>
      rw[b3]at N;exact iK N (Al _)
theorem Adx:∀{l:List Nat} {n:Nat},n∈l->n<=l.sum
 | [],_,h=>by cases h
 |m::l,n,h=>by
  rw[gO];rcases fF.1 h with rfl|h
  ·omega
  ·have:=Adx h;omega
theorem UL{f:iE}(h:CJ f=aL){b:g8}(hb:b∈f.blocks):b.ins.length<=250:=by
 unfold CJ at h;rw[aV]at h;have h1:=h.1;unfold Jz at h1;rw[aV,decide_eq_false_iff_not,decide_eq_false_iff_not]at h1;have ht:f.blocks.take 60=f.blocks:=gR (by omega);have h2:=h1.2;unfold sumB at h2;rw[ht]at h2;have:=Adx (fM.2 ⟨b,hb,rfl⟩:b.ins.length+Tv b.ins 200∈f.blocks.map λbl=>bl.ins.length+Tv bl.ins 200);omega
theorem NC{f:iE}(h:CJ f=aL):f.blocks.length<=40:=by
 unfold CJ at h;rw[aV]at h;have h1:=h.1;unfold Jz at h1;rw[aV,decide_eq_false_iff_not,decide_eq_false_iff_not]at h1;omega
theorem Hj{f:iE}(h:CJ f=aL):(regsB f).length<=126:=by
 have h1:(AC f).length<=60:=by
  unfold CJ at h;rw[aV]at h;have:=of_decide_eq_false h.2;omega
 rw[<-Hl];unfold MH;have h2:=(List.takeWhile_sublist (λr:Int=>decide (r < 0)) (l:=AC f)).length_le;have s:=Yw f 6;have j:=eS (λr:Int=>decide (r > 5)) (AC f);simp only[eP];omega
theorem R8{f:iE}(c:iD f)(j:Dg.bulk f<=2097152)(g:CJ f=aL)(B:okPlan p)(hw:∀x∈p.at_,Ci x)(I:p.at_.length<=10000000):(Fk f p).to (CT f p):=by
 have F:=Hj g;have D:(Cp f).length<=2147483648:=by
  have h1:(AC f).length<=60:=by
   have h:=g;unfold CJ at h;rw[aV,decide_eq_false_iff_not]at h;omega
  refine jB (eS _ _) (jB (Im _) ?_);have:(AC f).length *(AC f).length<=60 * 60:=jG h1 h1;omega
 refine Ag ?_ (Al _);simp only[aI,aW,aR,cO,decide_eq_true_eq];refine⟨⟨⟨⟨⟨⟨⟨⟨BG.2 c,j⟩,?_⟩,λx hx=>hw x hx⟩,by omega⟩,by omega⟩,λq hq=>?_⟩,D⟩,?_⟩
 ·exact B.slots
 ·obtain⟨r,_,rfl⟩:=fM.1 hq;have:=KV (B9 f) r p.leaf;omega
 ·cases s:Ht f with
  |false=>exact .inl V
  |true=>exact .inr λx hx=>⟨Uw s (B7 (Hz.1 hx).1),Uw s (B7 (Hz.1 hx).2.1)⟩
section
variable{P:bS}{w:cC}
end
section
variable{P:bS}{C:Ctx}{t:List AV}{h:List gV}{o:bP}
end
theorem Ag2{f:iE}{leaf:Bool}{q:iF}(hq:q∈Cg f leaf):q.r∈regsB f/\∃n:Nat,q.at_=(n:Int)/\n < 30/\(8<=n/\n<=13\/24<=n/\n<=29):=by
 have O:=(GM f).2;have s:∀k:Nat,k<=5->∃n:Nat,Sj leaf+(k:Int)=(n:Int)/\n < 30/\(8<=n/\n<=13\/24<=n/\n<=29):=λk hk=>by
  unfold Sj;cases leaf
  ·exact⟨24+k,by simp,by omega,by omega⟩
  ·exact⟨8+k,by simp,by omega,by omega⟩
 unfold Cg at hq;rcases fC.1 hq with hm|hm
 ·unfold Ain at hm;obtain⟨k,hk,rfl⟩:=fM.1 hm;have hk:=fQ.1 hk;exact⟨Jf.2 (fD _ (fM.2 ⟨k,fQ.2 hk,rfl⟩)),s k (by omega)⟩
 ·obtain⟨b,hb,hm⟩:=fK.1 hm;obtain⟨x,hx,hm⟩:=fK.1 hm;have D:∀r∈BC x,r∈regsB f:=λr N=>Jf.2 (fE _ (fK.2 ⟨b,hb,fK.2 ⟨x,hx,N⟩⟩))
  suffices L:q.r∈BC x/\∃n:Nat,q.at_=(n:Int)/\n < 30/\(8<=n/\n<=13\/24<=n/\n<=29)from⟨D _ L.1,L.2⟩
  unfold ET at hm;split at hm
  ·rename_i B;have B:x.op=10:=by simpa using B
   simp only[or_false,zak]at hm;subst hm;refine⟨?_,?_⟩
   ·unfold BC readsC;rw[B];exact fD _ (by simp[Ic])
   ·have:=s 0 (by omega);simpa using this
  ·split at hm
   ·rename_i F;have F:x.op=5:=by simpa using F
    rcases fF.1 hm with hm|hm
    ·subst hm;refine⟨?_,8,rfl,by omega,by omega⟩;unfold BC Bg;rw[F];exact fE _ (by simp[Ic])
    ·unfold Na at hm;obtain⟨j,J,rfl⟩:=fM.1 hm;have J:=fQ.1 J;rw[eY]at J;refine⟨?_,8+j,by dsimp only;omega,by omega,by omega⟩;have I:j < x.args.length:=by omega
     show x.args.getD j 0∈BC x;rw[dZ,eC I];unfold BC readsC;rw[F];exact fD _ (fE _ (by simp[Ic]))
   ·cases hm
theorem Ua(cross:List Int)(r:Int)(leaf:Bool):(leaf=aZ/\BD cross r leaf=IP [0])\/(leaf=aL/\cross.contains r=aZ/\BD cross r leaf=IP [1,2])\/(leaf=aL/\cross.contains r=aL/\BD cross r leaf=IP [0,1,2]):=by
 unfold BD;cases leaf
 ·cases cross.contains r
  ·exact .inr (.inr ⟨rfl,rfl,rfl⟩)
  ·exact .inr (.inl ⟨rfl,rfl,rfl⟩)
 ·exact .inl ⟨rfl,rfl⟩
theorem O7(cross:List Int)(r:Int)(leaf:Bool):7<=(BD cross r leaf).length/\(BD cross r leaf).length<=24/\(BD cross r leaf).Nodup:=by
 rcases Ua cross r leaf with⟨_,h2⟩|⟨_,_,h2⟩|⟨_,_,h2⟩ <;> rw[h2] <;> decide
end Mu
namespace Mu
open Go Go.RowKit Go.Proofs Go.Maps
variable{A:List (Int×Int)}{G:g9}{a b:Int}{j k:Nat}{l:List iY}{n:Nat}
def So(l:List iY)(k:Int):List Int:=l.flatMap λx=>if k=x.a then [x.b]else if k=x.b then [x.a]else []
theorem Pp:b∈So l a↔∃x∈l,(a=x.a/\b=x.b)\/(a≠x.a/\a=x.b/\b=x.a):=by
 unfold So;rw[fK];constructor
 ·rintro⟨x,hx,h⟩;refine⟨x,hx,?_⟩;split at h
  ·rename_i e;exact .inl ⟨e,fT.1 h⟩
  ·rename_i e;split at h
   ·rename_i s;exact .inr ⟨e,s,fT.1 h⟩
   ·cases h
 ·rintro⟨x,hx,⟨e,h⟩|⟨e,s,h⟩⟩
  ·exact⟨x,hx,by rw[if_pos e,h];exact fT.2 V⟩
  ·exact⟨x,hx,by rw[if_neg e,if_pos s,h];exact fT.2 V⟩
theorem Pq(k:Int):∀(l:List iY),(So l k).length<=l.length
 | []=>jA _
 |x::l=>by
  have h:=Pq k l;unfold So at h⊢;rw[dV,eP,eQ];have:(if k=x.a then [x.b]else if k=x.b then [x.a]else []).length<=1:=by
   split
   ·exact jA _
   ·split
    ·exact jA _
    ·exact jL _
  omega
theorem WK(J:∀x∈l,x.a < x.b)(F:Ao6 l)(k:Int):(So l k).Nodup:=by
 induction l with
 |nil=>exact fY
 |cons x l N=>
  unfold Ao6 at F;rw[gB]at F;have h1:=N (λy D=>J y (fG _ D)) F.2;have hx:=J x fH;show((if k=x.a then [x.b]else if k=x.b then [x.a]else [])++So l k).Nodup;refine fW.2 ⟨?_,h1,λp s q hq e=>?_⟩
  ·split
   ·simp
   ·split <;> simp
  ·subst e;obtain⟨y,D,B⟩:=Pp.1 hq;have I:=F.1 y D;have O:=J y (fG _ D);unfold ltP at I;split at s
   ·rename_i U;have s:=fT.1 s;rcases B with⟨h2,L⟩|⟨h2,L,T⟩ <;> omega
   ·split at s
    ·have s:=fT.1 s;rcases B with⟨h2,L⟩|⟨h2,L,T⟩ <;> omega
    ·cases s
theorem Ls{x:Int}(h:-1<=x/\x<=4294967296):Ci x:=by
 have h1:wfB .i64 x=aZ:=by
  unfold wfB;simp[Lit.wf,bH,bG,bI,bE];omega
 exact h1
theorem Jk{cross:List Int}{r:Int}{leaf:Bool}{z:Int}(h:z∈BD cross r leaf):4<=z/\z < 32:=by
 have s:∀y∈YS++Jt,4<=y/\y < 32:=by decide
 rw[Db]at h;refine s z ?_;split at h
 ·exact fD _ h
 split at h
 ·exact fE _ h
 ·exact h
theorem Aro{f:iE}(g:CJ f=aL):(AC f).length<=60:=by
 unfold CJ at g;rw[aV,decide_eq_false_iff_not]at g;omega
theorem Jl{f:iE}(g:CJ f=aL)(S:iY->Bool):(Ej (AC f) S).length<=3600:=by
 refine jB (eS _ _) (jB (Im _) ?_);have:(AC f).length *(AC f).length<=60 * 60:=jG (Aro g) (Aro g);omega
theorem Eb{f:iE}{S:iY->Bool}{x:iY}(hx:x∈Ej (AC f) S):x.a∈AC f/\x.b∈AC f/\x.a < x.b:=(Eg (CU f).1).1 (fJ.1 hx).1
theorem Rc{f:iE}(c:iD f)(S:iY->Bool):Am7 (Ej (AC f) S):=λx hx=>by
 obtain⟨h1,h2,s⟩:=Eb hx;exact⟨E7 c.ok (B7 h1),E7 c.ok (B7 h2),by omega⟩
theorem Or{α β:Type}(n:Nat)(F:α->List β):∀(l:List α),(∀x∈l,(F x).length<=n)->(l.flatMap F).length<=n * l.length
 | [],_=>jL _
 |x::l,h=>by
  rw[dV,eP,eQ,jF];have h1:=Or n F l λy s=>h y (fG _ s)
  have h2:=h x fH;omega
theorem Rp{f:iE}(g:CJ f=aL)(leaf:Bool):(Cg f leaf).length<=1000000:=by
 have hb:=NC g;unfold Cg;rw[eP,SW];have B:=(GM f).2;have h1:=Or 1750 (Jv (Sj leaf)) f.blocks λb s=>by
  have hi:=UL g s;unfold Jv;have h2:=Or 7 (ET (Sj leaf)) b.ins λx _=>by
   unfold ET;split
   ·exact i8 V
   ·split
    ·unfold Na;rw[eQ,eT,eU,eY];omega
    ·exact jL _
  omega
 omega
theorem YG(k:Int):∀(l:List iF) {E:List (Int×List Int)},Em E->∀z∈(getK (l.foldl NW E) k).getD [],z∈(getK E k).getD []\/∃h∈l,z=h.at_
 | [],_,_,z,s=>.inl s
 |h::l,E,B,z,s=>by
  rcases YG k l (E:=NW E h) (B.put _ _) z s with h1|⟨q,hq,e⟩
  ·unfold NW at h1;rw[BM B]at h1;split at h1
   ·rename_i e;rcases fC.1 h1 with h2|h2
    ·exact .inl (by rw[e];exact h2)
    ·exact .inr ⟨h,fH,fT.1 h2⟩
   ·exact .inl h1
  ·exact .inr ⟨q,fG _ hq,e⟩
theorem Y3(F:Int->List Int)(r:Int):∀(l:List Int) {E:List (Int×List Int)},Em E->getK ((l.zip (l.map F)).foldl (λE p=>Cf E p.1 p.2) E) r=if r∈l then jS (F r)else getK E r
 | [],E,_=>by simp
 |x::l,E,s=>by
  rw[fA,List.zip_cons_cons,dX,Y3 F r l (s.put _ _),BM s];by_cases h1:r∈l
  ·rw[if_pos h1,if_pos (fG _ h1)]
  ·rw[if_neg h1];by_cases h2:r=x
   ·rw[if_pos h2,if_pos (by rw[h2];exact fH),h2]
   ·rw[if_neg h2,if_neg λh=>by
     rcases fF.1 h with h|h
     ·exact h2 h
     ·exact h1 h]
section
variable{f:iE}{lf:Bool}{ch:List Int}
theorem HI(r:Int):QN (Cz f lf ch) r=if r∈regsB f then BD (B9 f) r lf else []:=by
 unfold QN;have h:=Y3 (λr=>BD (B9 f) r lf) r (regsB f) (E:=[]) Em.nil;show(getK (clsE ((regsB f).zip (CM f lf (regsB f)))) r).getD []=_;unfold clsE CM;rw[h];split
 ·rfl
 ·rfl
theorem J8(r:Int):LX (Cz f lf ch) r=So (Cp f) r:=by
 unfold LX So;exact PV (λx hx=>by have:=(Eb hx).2.2;omega) r
theorem J7:b∈LX (Cz f lf ch) a↔(⟨a,b⟩:iY)∈Cp f\/(⟨b,a⟩:iY)∈Cp f:=by
 rw[J8,Pp];constructor
 ·rintro⟨x,hx,⟨rfl,rfl⟩|⟨_,rfl,rfl⟩⟩
  ·exact .inl hx
  ·exact .inr hx
 ·rintro(h|h)
  ·exact⟨_,h,.inl ⟨rfl,rfl⟩⟩
  ·refine⟨_,h,.inr ⟨?_,rfl,rfl⟩⟩;have:=(Eb h).2.2;dsimp only at this⊢;omega
theorem Adv:SymG (Cz f lf ch) where
 sym:=λa b h=>J7.2 (J7.1 h).symm
 irr:=λa h=>by
  rcases J7.1 h with h|h <;> exact absurd (Eb h).2.2 (by dsimp only;omega)
theorem Af5(r:Int):(LX (Cz f lf ch) r).length<=((regsB f).filter λy=>DT f r y).length:=by
 rw[J8];refine Dq (WK (λx hx=>(Eb hx).2.2) (Abb f) r) λb hb=>?_
 rw[<-J8 (lf:=lf) (ch:=ch)]at hb;rw[fJ];rcases J7.1 hb with h|h
 ·obtain⟨_,h2,_,s⟩:=Hz.1 h;exact⟨B7 h2,s⟩
 ·obtain⟨h1,_,_,s⟩:=Hz.1 h;exact⟨B7 h1,by rw[KW];exact s⟩
theorem Ak1(c:iD f)(g:CJ f=aL)(B:∀r∈ch,r∈AC f)(D:ch.length<=1000):iT (Cz f lf ch) where
 regs:=λr s=>E7 c.ok s
 len:=by
  have:=Hj g;show(regsB f).length<=_;omega
 cheap:=by
  show ch.length<=_;omega
 cheapw:=λr s=>E7 c.ok (B7 (B r s))
 near:=λr k hk=>by
  rcases J7.1 hk with h|h
  ·exact E7 c.ok (B7 (Eb h).2.1)
  ·exact E7 c.ok (B7 (Eb h).1)
 nearl:=λr=>by
  show(LX (Cz f lf ch) r).length<=_;rw[J8];have h1:=Pq r (Cp f);have h2:=Jl g (HC f);have e:Cp f=Ej (AC f) (HC f):=rfl;rw[<-e]at h2;omega
 mov:=λr=>by
  have e:(getK (Cz f lf ch).moves r).getD []=So (mvL f) r:=PV (λx hx=>by have:=(Eb hx).2.2;omega) r;rw[e];have h1:=Pq r (mvL f);have h2:=Jl g (mvK f (stepsL f).length);have F:mvL f=Ej (AC f) (mvK f (stepsL f).length):=rfl;rw[<-F]at h2;refine⟨λk hk=>?_,by omega⟩;obtain⟨x,hx,⟨_,rfl⟩|⟨_,_,rfl⟩⟩:=Pp.1 hk
  ·exact E7 c.ok (B7 (Eb hx).2.1)
  ·exact E7 c.ok (B7 (Eb hx).1)
 lik:=λr=>by
  show(∀k∈(getK (N6 (Cg f lf)) r).getD [],Ci k)/\((getK (N6 (Cg f lf)) r).getD []).length<=_;refine⟨λk hk=>?_,?_⟩
  ·rcases YG r (Cg f lf) (E:=[]) Em.nil k hk with h|⟨q,hq,rfl⟩
   ·cases h
   ·obtain⟨_,n,e,h1,_⟩:=Ag2 hq;rw[e];exact Ls ⟨by omega,by omega⟩
  ·have h1:=UI (Cg f lf) r;have h2:=Rp g lf;omega
 cl:=λr=>by
  show(∀k∈QN (Cz f lf ch) r,Ci k)/\(QN (Cz f lf ch) r).length<=_;rw[HI];split
  ·have h1:=KV (B9 f) r lf;refine⟨λk hk=>?_,by omega⟩;exact Ls (by have:=Jk hk;omega)
  ·exact⟨λk hk=>(by cases hk),jL _⟩
end
theorem X4{G:g9}(hc:∀r,∀p∈QN G r,p < 32)(D:SymG G):∀(l:List Int) {s:List (Int×Int)×Int} {Q:Int->Prop},SltQ G s Q->l.Nodup->(∀x∈l,¬Q x)->(l.foldl (I2 G) s).2<=s.2+(l.length:Int)
 | [],s,Q,_,_,_=>by simp
 |r::l,s,Q,h,B,hq=>by
  rw[fX]at B;have h1:=X4 hc D l (h.next D (hq r fH)) B.2 λx hx hh=>by
   rcases hh with hh|hh
   ·exact hq x (fG _ hx) hh
   ·exact B.1 (hh▸hx)
  have h2:(I2 G s r).2<=s.2+1:=by
   obtain⟨_,_,J⟩:=ME G s.1 r;have L:=h.pos;show max s.2 ((slotN G s.1 r:Int)+1)<=_;have N:(slotN G s.1 r:Int)<=s.2:=by
    refine Int.not_lt.1 λI=>?_
    have F:=J s.2.toNat (by omega);rw[JB.2 λk _ e=>?_]at F
    ·cases F
    ·rcases h.cl k _ e with h6|h6
     ·have:=hc k _ h6;omega
     ·omega
   omega
  rw[dX,eQ];omega
theorem Aem{l:List (Int×Int)}(h:Em l)(r p:Int):l.length<=(Cf l r p).length:=by
 have h1:=Dq (Cv h) (m:=keysK (Cf l r p)) λx hx=>by
  refine CW.2 ?_;rw[BM h];split
  ·rfl
  ·exact CW.1 hx
 simpa[keysK]using h1
theorem Rd{G:g9}(N:SymG G)(m:Nat)(J:∀r∈G.regs,(QN G r).Nodup/\m<=(QN G r).length):∀(l:List Int),(∀x∈l,x∈G.regs)->∀{s:List (Int×Int)×List Int} {Q:Int->Prop},PntQ G s Q->(s.2= []\/m<=s.1.length)->((l.foldl (EP G) s).2= []\/m<=(l.foldl (EP G) s).1.length)
 | [],_,s,Q,_,h=>h
 |r::l,L,s,Q,D,h=>by
  refine Rd N m J l (λx hx=>L x (fG _ hx)) (D.next N r) ?_;unfold EP;cases hk:MO G s.1 r with
  |some p=>
   rcases h with h|h
   ·exact .inl h
   ·exact .inr (jB h (Aem D.asc r p))
  |none=>
   refine .inr ?_;show m<=s.1.length;obtain⟨h1,h2⟩:=J r (L r fH);unfold MO at hk;rw[dU]at hk;have I:=Dq h1 (m:=s.1.map (·.2)) λp B=>by
    have hc:p∈Ei G s.1 r:=by
     unfold Ei Zt;refine fJ.2 ⟨?_,cY.2 B⟩;simp only[fC];exact .inr B
    have O:=hk p hc;refine a7 λF=>O (JB.2 λk _ e=>F ?_)
    exact fM.2 ⟨(k,p),(CS D.asc).1 e,rfl⟩
   rw[eT]at I;omega
theorem WE(D:iT G)(I:SymG G)(m:Nat)(F:∀r∈G.regs,(QN G r).Nodup/\m<=(QN G r).length)(out:List (Int×Int)):(BJ G out).2= []\/m+(BJ G out).2.length<=(C5 G out).length:=by
 have h:=Rd I m F (C5 G out).reverse (λx hx=>(Io D.toOkG x (fS.1 hx)).1) (s:=([],[])) (Q:=λ_=>False) ⟨Em.nil,λa p h=>(by cases h),λr p h=>(by cases h),λr h=>(by cases h),λr h=>h.elim⟩ (.inl V);have B:=(J2 D out _ (jA _)).len;rw[MP]at B;rcases h with h|h
 ·exact .inl h
 ·have h:m<=(BJ G out).1.length:=h;exact .inr (by omega)
theorem Agi(s:OkG G)(out:List (Int×Int)):(Iq G out).length<=N5 G out:=by
 have h0:=L5 out s.regs;have h1:=Gg G h0 (keysK (EN G.regs out)) (Cv h0.1) λq hq=>hq
 have h2:=Dq (Cv (show Em (Iq G out)from h1.1.1)) (m:=G.regs.filter λx=>(getK out x).getD 0 ==0) λx hx=>by
  obtain⟨D,B⟩:=MV s out x (CW.1 hx);exact fJ.2 ⟨D,by rw[B];rfl⟩
 simpa[keysK,N5]using h2
theorem Aku{out:List (Int×Int)}(D:Em out)(h1:∀x v,getK out x=jS v->v=1)(B:∀x∈keysK out,x∈G.regs):out.length+N5 G out<=G.regs.length:=by
 have h2:=Dq (Cv D) (m:=G.regs.filter λx=>!((getK out x).getD 0 ==0)) λx hx=>by
  obtain⟨v,s⟩:=jO.1 (CW.1 hx);refine fJ.2 ⟨B x hx,?_⟩;rw[s,h1 x v s];rfl
 have I:out.length=(keysK out).length:=by simp[keysK]
 rw[<-I]at h2;have F:∀(l:List Int),(l.filter λx=>(getK out x).getD 0 ==0).length+(l.filter λx=>!((getK out x).getD 0 ==0)).length=l.length:=by
  intro l;induction l with
  |nil=>rfl
  |cons x l J=>
   rw[dN,dN,eQ];cases(getK out x).getD 0 ==0
   ·simp only[aS,zaz];simp only[aN,if_false];omega
   ·simp only[aU,zaz];simp only[aN,if_false];omega
 have L:=F G.regs;unfold N5;omega
theorem Afc(l:List Int):∀(o:List (Int×Int)),(l.foldl (λo r=>Cf o r 1) o).length<=o.length+l.length:=by
 induction l with
 |nil=>intro o;exact jA _
 |cons r l s=>
  intro o;have h1:=s (Cf o r 1);have h2:=E9 (l:=o) r 1;rw[dX,eQ];omega
theorem Apz(s:iT G)(D:SymG G)(m:Nat)(B:∀r∈G.regs,(QN G r).Nodup/\m<=(QN G r).length):∀n,(∀k,k < n->(BJ G (DW G k)).2≠[])->DW G n= []\/(DW G n).length+m<=G.regs.length
 |0,_=>.inl V
 |n+1,h=>.inr (by
  have h1:=(WE s D m B (DW G n)).resolve_left (h n (jD n));have h2:=KX (G:=G) (Iq G (DW G n)).length (Iq G (DW G n)) [];have L:=Agi s.toOkG (DW G n);have J:=Aku (Gy s.toOkG n).1 (LT s.toOkG n) (J3 s.toOkG n);have I:(DW G (n+1)).length<=_:=Afc (BJ G (DW G n)).2 (DW G n);have F:(C5 G (DW G n)).length<=(Iq G (DW G n)).length:=by
   unfold C5;simpa using h2
  omega)
def atP(n:Nat)(A:List (Int×Int)):List Int:=(gE n).map λ(k:Nat)=>(getK A (k:Int)).getD (-1)
theorem Xw(n:Nat)(A:List (Int×Int)):(atP n A).length=n:=by simp[atP]
theorem Xx(h:k < n):(atP n A)[k]? =jS ((getK A (k:Int)).getD (-1)):=by
 unfold atP;rw[eF,eH h];rfl
def atK(n:Nat)(A:List (Int×Int))(j:Nat):List Int:=(gE n).map λ(k:Nat)=>if k < j then(getK A (k:Int)).getD (-1)else 0
theorem Lc(n:Nat)(A:List (Int×Int))(j:Nat):(atK n A j).length=n:=by simp[atK]
theorem SU(h:k < n):(atK n A j)[k]? =jS (if k < j then(getK A (k:Int)).getD (-1)else 0):=by
 unfold atK;rw[eF,eH h];rfl
theorem Amu(n:Nat)(A:List (Int×Int)):gJ n (0:Int)=atK n A 0:=by
 refine dK λk=>?_
 by_cases h:k < n
 ·rw[SU h,eI,if_pos h];rfl
 ·rw[eD (by simp;omega),eD (by rw[Lc];omega)]
theorem Ar2(n:Nat)(A:List (Int×Int)):atK n A n=atP n A:=by
 refine dK λk=>?_
 by_cases h:k < n
 ·rw[SU h,Xx h,if_pos h]
 ·rw[eD (by rw[Lc];omega),eD (by rw[Xw];omega)]
theorem Ar1(s:j < n):(atK n A j).set j ((getK A (j:Int)).getD (-1))=atK n A (j+1):=by
 refine dK λk=>?_
 by_cases h:k < n
 ·rw[SU h];by_cases e:j=k
  ·subst e;rw[eL (by rw[Lc];exact s),if_pos (jD _)]
  ·rw[eK e,SU h];by_cases h1:k < j
   ·rw[if_pos h1,if_pos (by omega)]
   ·rw[if_neg h1,if_neg (by omega)]
 ·rw[eD (by rw[eX,Lc];omega),eD (by rw[Lc];omega)]
theorem Afj{f:iE}{lf:Bool}{slots:Int}(h0:0<=f.regs)(h1:f.regs<=4096)(F:∀r p,getK A r=jS p->Ci p):(Ix f A lf slots).to ⟨lf,slots,atP f.regs.toNat A⟩:=by
 obtain⟨n,B⟩:∃n,n=f.regs.toNat:=⟨_,rfl⟩
 unfold Ix;rw[<-B];refine Ag (by unfold V3 cF;simp only[zag];omega) (Ap (a:=atP n A) ?_ (Al _));have e0:((0:Int),gJ n (0:Int))=(((0:Nat):Int),atK n A 0):=by rw[<-Amu];rfl
 rw[e0];refine BZ (λk:Nat=>((k:Int),atK n A k)) n (λk hk=>?_) ?_ (jL _)
 ·have D:Cd (atK n A k) (k:Int)=aZ:=MZ (by rw[Lc];exact hk);have s:Cd ((atK n A k).set (Int.toNat (k:Int)) (-1)) (k:Int)=aZ:=MZ (by rw[eX,Lc];exact hk);simp only[Fa];rw[<-B];refine AM (decide_eq_true (by rw[eV];omega)) (Ap (a:=atK n A (k+1)) (Ag D (Ag (Ls ⟨by omega,by omega⟩) ?_)) ?_)
  ·rw[cI,<-Ar1 hk];cases hg:getK A (k:Int)with
   |none=>exact AF V (Al _)
   |some p=>
    refine AM V (Ag s (Ag (F _ p hg) ?_));rw[gN];exact Al _
  ·rw[w23 hk (by omega)];exact Al _
 ·simp only[Fa];rw[<-B,<-Ar2];exact AF (decide_eq_false (by rw[eV];omega)) (Al _)
structure RightP(f:Func)(p:Plan):Prop where
 may:Ht f=true
 len:(p.at_.length:Int)=f.regs
 pos:0<=p.slots
 lf:p.leaf=true->leaf f.blocks=true/\p.slots=0
 reg:∀(j:Nat) x,p.at_[j]? =some x->(j:Int)∈regsB f->x∈BD (B9 f) (j:Int) p.leaf\/(32<=x/\x < 32+p.slots)
 non:∀(j:Nat) x,p.at_[j]? =some x->(j:Int)∉regsB f->x= -1
 use:∀z,32<=z->z < 32+p.slots->z∈p.at_
 apart:∀x∈Cp f,ixD p.at_ x.a≠ixD p.at_ x.b
theorem OX{f:iE}{p:iZ}(hw:∀x∈p.at_,Ci x):CT f p=aZ↔RightP f p:=by
 constructor
 ·intro h;have h0:=h;unfold CT at h0;simp only[aI,aR,cO,fQ]at h0;obtain⟨⟨B,I⟩,D,U⟩:=h0;have aa:=B;unfold Ul at B;simp only[aV,aH,aP,decide_eq_false_iff_not]at B;obtain⟨⟨⟨h1,h2⟩,h3⟩,W⟩:=B;have J:0<=p.slots:=by omega
  have F:p.leaf=aZ->leaf f.blocks=aZ/\p.slots=0:=λL=>by
   rcases W with W|⟨h5,h6⟩
   ·rw[L]at W;cases W
   ·exact⟨h5,by omega⟩
  have N:∀j,j < p.at_.length->Aih f p j=aL:=λj hj=>by
   have:=Zb (f:=f) hw (λL=>(F L).2) hj;rw[I j hj]at this;simpa using this.symm
  refine⟨h1,by simpa using h2,J,F,λj x hx Z=>?_,λj x hx Z=>?_,λz ad ac=>?_,λx hx e=>?_⟩
  ·have hb:=N j (eE.1 hx).1;unfold Aih O8 at hb;rw[BV hx,cY.2 Z]at hb;simp only[aU,aM,aO,a6,aP]at hb;have Y:Ci x:=hw x (fN hx);split at hb
   ·rename_i O;rw[aI,decide_eq_true_eq]at hb;have O:=of_decide_eq_true O;exact .inr ((I3 Y).1 (by unfold I4;rw[aI,decide_eq_true_eq,decide_eq_true_eq];exact⟨O,hb.2⟩))
   ·exact .inl (cY.1 hb)
  ·have hb:=N j (eE.1 hx).1;unfold Aih at hb;have hc:(regsB f).contains (j:Int)=aL:=by
    cases e:(regsB f).contains (j:Int)with
    |false=>rfl
    |true=>exact absurd (cY.1 e) Z
   rw[BV hx,hc]at hb;simpa using hb
  ·rw[SN hw J,aR,cQ]at D;have:=D (z - 32).toNat (fQ.2 (by omega));rw[show 32+(((z - 32).toNat:Nat):Int)=z by omega]at this;simpa using this
  ·rw[cQ]at U;refine U x hx ?_;unfold Nt;rw[e];simp
 ·intro H;have B:Ul f p=aL:=by
   unfold Ul;rw[H.may,decide_eq_false (by have:=H.pos;omega:¬p.slots < 0),show((p.at_.length:Int) !=f.regs)=aL by rw[H.len];simp];cases L:p.leaf with
   |false=>rfl
   |true=>
    rw[(H.lf L).1,(H.lf L).2];rfl
  refine(OY B λj x hx=>?_).trans ?_
  ·have ab:=(eE.1 hx).1;have I:=Zb (f:=f) hw (λL=>(H.lf L).2) ab;rw[show p.at_.getD j 0=x by rw[dZ,hx];rfl]at I;rw[I];unfold Aih O8;rw[BV hx];cases hc:(regsB f).contains (j:Int)with
   |false=>
    rw[H.non j x hx λh=>by rw[cY.2 h]at hc;cases hc];rfl
   |true=>
    rcases H.reg j x hx (cY.1 hc)with h1|h1
    ·have:=Jk h1;rw[decide_eq_false (by omega:¬x≥32)];have h1:=cY.2 h1;simp only[aU,aM,aO,a6,aN,if_false,aT];exact h1
    ·have F:p.leaf=aL:=by
      cases e:p.leaf with
      |false=>rfl
      |true=>have:=(H.lf e).2;omega
     have h2:=(I3 (hw x (fN hx))).2 h1;unfold I4 at h2;rw[aI]at h2;rw[h2.1,h2.2,F];rfl
  ·rw[SN hw H.pos,aI,aR,aR,cQ,cQ];refine⟨λs T=>?_,λx hx T=>?_⟩
   ·have T:=fQ.1 T;have:=H.use (32+(s:Int)) (by omega) (by have:=H.pos;omega);simpa using this
   ·unfold Nt at T;exact H.apart x hx (eq_of_beq T)
theorem Q9{f:iE}{lf:Bool}{ch:List Int}{slots:Int}(Y:Ht f=aZ)(H:SltQ (Cz f lf ch) (A,slots) λx=>x∈regsB f)(hl:lf=aZ->leaf f.blocks=aZ/\slots=0)(hs:slots<=100000):
 CT f ⟨lf,slots,atP f.regs.toNat A⟩=aZ/\∀x∈atP f.regs.toNat A,Ci x:=by
 have U:0<=f.regs/\f.regs<=4096:=by
  have h:=Y;unfold Ht Ak3 at h;simp only[zap]at h;omega
 have N:0<=slots:=H.pos;have L:∀r p,getK A r=jS p->-1<=p/\p<=4294967296:=λr p h=>by
  rcases H.cl r p h with h1|h1
  ·rw[HI]at h1;split at h1
   ·have:=Jk h1;omega
   ·cases h1
  ·have h1:32<=p/\p < 32+slots:=h1;omega
 have J:∀x∈atP f.regs.toNat A,Ci x:=λx hx=>by
  obtain⟨k,_,rfl⟩:=fM.1 hx;cases hg:getK A (k:Int)with
  |none=>exact Ls ⟨by simp,by simp⟩
  |some p=>exact Ls (L _ p hg)
 refine⟨?_,J⟩;have D:∀r,r∈regsB f->∃p,getK A r=jS p/\(atP f.regs.toNat A)[r.toNat]? =jS p/\0<=r/\r.toNat < f.regs.toNat:=λr s=>by
  obtain⟨h1,h2⟩:=Uw Y s;obtain⟨p,B⟩:=jO.1 ((H.key r).2 s);refine⟨p,B,?_,h1,by omega⟩;rw[Xx (by omega),show((r.toNat:Nat):Int)=r by omega,B];rfl
 have F:∀(j:Nat) x,(atP f.regs.toNat A)[j]? =jS x->x=(getK A (j:Int)).getD (-1):=λj x hx=>by
  have Z:=(eE.1 hx).1;rw[Xw]at Z;rw[Xx Z]at hx;exact(jT hx).symm
 refine(OX J).2 ⟨Y,?_,N,hl,λj x hx s=>?_,λj x hx s=>?_,λz T O=>?_,λx hx e=>?_⟩
 ·show((atP f.regs.toNat A).length:Int)=_;rw[Xw];omega
 ·obtain⟨p,B,_⟩:=D _ s;have e:=F j x hx;rw[B]at e;have e:x=p:=e;subst e;rcases H.cl _ _ B with h1|h1
  ·rw[HI,if_pos s]at h1;exact .inl h1
  ·exact .inr h1
 ·have e:=F j x hx;cases hg:getK A (j:Int)with
  |none=>rw[hg]at e;exact e
  |some v=>exact absurd ((H.key (j:Int)).1 (by show(getK A (j:Int)).isSome=aZ;rw[hg];rfl)) s
 ·obtain⟨r,s⟩:=H.use z T O;have s:getK A r=jS z:=s;obtain⟨p,B,I,_⟩:=D r ((H.key r).1 (by show(getK A r).isSome=aZ;rw[s];rfl));rw[s]at B;cases B;exact fN I
 ·obtain⟨h1,h2,h3⟩:=Eb hx;obtain⟨p,B,I,ab,_⟩:=D x.a (B7 h1);obtain⟨q,hq,W,aa,_⟩:=D x.b (B7 h2);have e:ixD (atP f.regs.toNat A) x.a=ixD (atP f.regs.toNat A) x.b:=e;rw[show ixD (atP f.regs.toNat A) x.a=p by rw[show x.a=((x.a.toNat:Nat):Int)by omega];exact BV I,show ixD (atP f.regs.toNat A) x.b=q by rw[show x.b=((x.b.toNat:Nat):Int)by omega];exact BV W]at e;subst e;exact H.nocl x.a p B x.b (J7.2 (.inl hx)) hq
end Mu
namespace Mu
open Go Go.RowKit Go.Proofs
variable{at':Nat}{h:Int}{ks l:List Int}{n:Nat}{ord:List Int}{p:Int->Bool}{r1:List Int}{x:Int}{α:Type}
noncomputable section
end
inductive RchF(f:Func)(no:Int):Int->Prop
 |start:no≠0->0 < f.blocks.length->RchF f no 0
 |step {a b:Int}:RchF f no a->b∈nextL f a->b≠no->RchF f no b
theorem RchF.lt{f:iE}{no b:Int}(h:RchF f no b):0<=b/\b.toNat < f.blocks.length:=by
 cases h with
 |start _ h=>exact⟨by omega,by simpa using h⟩
 |step _ h _=>exact E8 h
theorem YC{l:List Bool}{k b:Int}(hk:0<=k)(s:k.toNat < l.length)(hb:0<=b):ixD (l.set k.toNat aZ) b=(a8 (b=k)||ixD l b):=by
 unfold ixD;rw[dZ,dZ,eJ];by_cases h:b=k
 ·subst h;rw[if_pos V,if_pos s];simp
 ·rw[if_neg (by omega)];simp[h]
structure Dfs(f:Func)(no:Int)(come:List Bool)(st:List FStep)(left:List Int):Prop where
 len:come.length=f.blocks.length
 els:∀e∈st,∃d,nextL f e.b=d++e.next/\∀k∈d,k=no\/ixD come k=true
 mem:∀b:Int,0<=b->(ixD come b=true↔b∈left\/b∈st.map (·.b))
 rch:∀b,b∈left\/b∈st.map (·.b)->RchF f no b
 nod:(left++st.map (·.b)).Nodup
 done:∀b∈left,∀k∈nextL f b,k=no\/ixD come k=true
 par:∀b∈left,b=0\/∃k,b∈nextL f k/\(k∈st.map (·.b)\/∃l1 l2 l3,left=l1++b::(l2++k::l3))
 chain:∀s e1 e2 s',st=s++e1::e2::s'->e2.b∈nextL f e1.b
 bot:∀e s,st=e::s->e.b=0
 zero:ixD come 0=true
variable{f:iE}{no:Int}{come:List Bool}{s:List iB}{left:List Int}{b k:Int}{r:List Int}
theorem Dfs.pop(H:Dfs f no come (s++[⟨b,[]⟩]) left):Dfs f no come s (left++[b]):=by
 have D:(s++[(⟨b,[]⟩:iB)]).map (·.b)=s.map (·.b)++[b]:=by simp
 have T:=H.mem;have L:=H.rch;have O:=H.nod;have N:=H.par;rw[D]at T L O N;refine⟨H.len,λe Z=>H.els e (fD _ Z),λc hc=>?_,λc hc=>L c ?_,?_,λc hc=>?_,λc hc=>?_,λt F e2 t' e=>H.chain t F e2 (t'++[⟨b,[]⟩]) (by rw[e];simp),λe t ht=>H.bot e (t++[⟨b,[]⟩]) (by rw[ht];simp),H.zero⟩
 ·rw[T c hc];simp only[fC,fT];constructor
  ·rintro(h|h|h)
   ·exact .inl (.inl h)
   ·exact .inr h
   ·exact .inl (.inr h)
  ·rintro((h|h)|h)
   ·exact .inl h
   ·exact .inr (.inr h)
   ·exact .inr (.inl h)
 ·simp only[fC,fT]at hc⊢;rcases hc with(h|h)|h
  ·exact .inl h
  ·exact .inr (.inr h)
  ·exact .inr (.inl h)
 ·rw[cT];exact(List.Perm.append_left left (List.perm_append_comm)).nodup_iff.1 O
 ·rcases fC.1 hc with h|h
  ·exact H.done c h
  ·rw[fT]at h;subst h;obtain⟨d,h1,h2⟩:=H.els ⟨c,[]⟩ (by simp);intro j U;rw[show nextL f c=d from by simpa using h1]at U;exact h2 j U
 ·rcases fC.1 hc with h|h
  ·rcases N c h with h0|⟨q,h1,h2⟩
   ·exact .inl h0
   ·refine .inr ⟨q,h1,?_⟩;rcases h2 with h2|⟨J,I,Y,e⟩
    ·rcases fC.1 h2 with h2|h2
     ·exact .inl h2
     ·rw[fT]at h2;subst h2;obtain⟨J,I,e⟩:=List.append_of_mem h;exact .inr ⟨J,I,[],by rw[e];simp⟩
    ·exact .inr ⟨J,I,Y++[b],by rw[e];simp⟩
  ·rw[fT]at h;subst h;rcases dI s with B|⟨W,F,B⟩
   ·exact .inl (H.bot ⟨c,[]⟩ [] (by rw[B];rfl))
   ·rw[cW]at B;refine .inr ⟨F.b,H.chain W F ⟨c,[]⟩ [] (by rw[B];simp),.inl (by rw[B];simp)⟩
theorem Dfs.skip(H:Dfs f no come (s++[⟨b,k::r⟩]) left)(hk:k=no\/ixD come k=aZ):Dfs f no come (s++[⟨b,r⟩]) left:=by
 have B:(s++[(⟨b,k::r⟩:iB)]).map (·.b)=(s++[(⟨b,r⟩:iB)]).map (·.b):=by simp
 have T:=H.mem;have L:=H.rch;have O:=H.nod;have N:=H.par;rw[B]at T L O N;refine⟨H.len,λe U=>?_,T,L,O,H.done,N,λt D F t' e=>?_,λe t ht=>?_,H.zero⟩
 ·rcases fC.1 U with h|h
  ·exact H.els e (fD _ h)
  ·rw[fT]at h;subst h;obtain⟨d,h1,h2⟩:=H.els ⟨b,k::r⟩ (by simp);refine⟨d++[k],by rw[h1];simp,λj hj=>?_⟩;rcases fC.1 hj with hj|hj
   ·exact h2 j hj
   ·rw[fT]at hj;subst hj;exact hk
 ·rcases dI t' with ht|⟨J,W,ht⟩
  ·subst ht;have I:s++[(⟨b,r⟩:iB)]=(t++[D])++[F]:=by rw[e];simp
   obtain⟨h1,h2⟩:=cU I V;cases h2;exact H.chain t D ⟨b,k::r⟩ [] (by rw[h1];simp)
  ·rw[cW]at ht;subst ht;have I:s++[(⟨b,r⟩:iB)]=(t++D::F::J)++[W]:=by rw[e];simp
   obtain⟨h1,h2⟩:=cU I V;exact H.chain t D F (J++[⟨b,k::r⟩]) (by rw[h1];simp)
 ·cases s with
  |nil=>
   cases ht;exact H.bot ⟨b,k::r⟩ [] V
  |cons e0 s=>
   cases ht;exact H.bot e (s++[⟨b,k::r⟩]) V
theorem Dfs.push(H:Dfs f no come (s++[⟨b,k::r⟩]) left)(hc:ixD come k=aL)(Z:k≠no):Dfs f no (come.set k.toNat aZ) (s++[⟨b,r⟩]++[⟨k,nextL f k⟩]) left:=by
 obtain⟨Y,J,ab⟩:=H.els ⟨b,k::r⟩ (by simp);have I:k∈nextL f b:=by rw[show nextL f b=Y++k::r from J];simp
 have hk:=E8 I;have aa:k.toNat < come.length:=by rw[H.len];exact hk.2
 have F:∀c:Int,0<=c->ixD (come.set k.toNat aZ) c=(a8 (c=k)||ixD come c):=λc h=>YC hk.1 aa h
 have B:∀c a:Int,c∈nextL f a->(c=no\/ixD come c=aZ)->c=no\/ixD (come.set k.toNat aZ) c=aZ:=λc a ha h=>by
  rcases h with h|h
  ·exact .inl h
  ·refine .inr ?_;rw[F c (E8 ha).1,h,aY]
 have D:(s++[(⟨b,r⟩:iB)]++[(⟨k,nextL f k⟩:iB)]).map (·.b)=(s++[(⟨b,k::r⟩:iB)]).map (·.b)++[k]:=by simp
 have ac:RchF f no b:=H.rch b (.inr (by simp));refine⟨by rw[eX];exact H.len,λe he=>?_,λc h0=>?_,λc h=>?_,?_,λc h j hj=>B j c hj (H.done c h j hj),λc h=>?_,λt N W t' e=>?_,λe t ht=>?_,?_⟩
 ·rcases fC.1 he with he|he
  ·rcases fC.1 he with he|he
   ·obtain⟨d,h1,h2⟩:=H.els e (fD _ he);exact⟨d,h1,λj hj=>B j e.b (by rw[h1];exact fD _ hj) (h2 j hj)⟩
   ·rw[fT]at he;subst he;refine⟨Y++[k],by rw[show nextL f b=Y++k::r from J];simp,λj hj=>?_⟩;rcases fC.1 hj with hj|hj
    ·exact B j b (by rw[show nextL f b=Y++k::r from J];exact fD _ hj) (ab j hj)
    ·rw[fT]at hj;subst hj;exact .inr (by rw[F j hk.1];simp)
  ·rw[fT]at he;subst he;exact⟨[],rfl,λj hj=>by cases hj⟩
 ·rw[F c h0,D];by_cases O:c=k
  ·subst O;simp
  ·have:=H.mem c h0;simp only[O,decide_false,aO,fC,fT,or_false]at this⊢;exact this
 ·rw[D]at h;rcases h with h|h
  ·exact H.rch c (.inl h)
  ·rcases fC.1 h with h|h
   ·exact H.rch c (.inr h)
   ·rw[fT]at h;subst h;exact ac.step I Z
 ·rw[D,<-cT];refine fW.2 ⟨H.nod,by simp,λa ha c T=>?_⟩;rw[fT]at T;subst T;intro e;subst e;have:=(H.mem a hk.1).2 (fC.1 ha);rw[hc]at this;cases this
 ·rcases H.par c h with h0|⟨q,h1,h2⟩
  ·exact .inl h0
  ·refine .inr ⟨q,h1,?_⟩;rcases h2 with h2|h2
   ·exact .inl (by rw[D];exact fD _ h2)
   ·exact .inr h2
 ·rcases dI t' with ht|⟨t0,e3,ht⟩
  ·subst ht;have e':(s++[(⟨b,r⟩:iB)])++[⟨k,nextL f k⟩]=(t++[N])++[W]:=by rw[e];simp
   obtain⟨h1,h2⟩:=cU e' V;obtain⟨_,U⟩:=cU h1 V;cases h2;cases U;exact I
  ·rw[cW]at ht;subst ht;have e':(s++[(⟨b,r⟩:iB)])++[⟨k,nextL f k⟩]=(t++N::W::t0)++[e3]:=by rw[e];simp
   obtain⟨h1,_⟩:=cU e' V;rcases dI t0 with ht|⟨t1,e4,ht⟩
   ·subst ht;have L:s++[(⟨b,r⟩:iB)]=(t++[N])++[W]:=by rw[h1];simp
    obtain⟨U,h4⟩:=cU L V;cases h4;exact H.chain t N ⟨b,k::r⟩ [] (by rw[U];simp)
   ·rw[cW]at ht;subst ht;have L:s++[(⟨b,r⟩:iB)]=(t++N::W::t1)++[e4]:=by rw[h1];simp
    obtain⟨U,_⟩:=cU L V;exact H.chain t N W (t1++[⟨b,k::r⟩]) (by rw[U];simp)
 ·cases s with
  |nil=>
   cases ht;exact H.bot ⟨b,k::r⟩ [] V
  |cons e0 s=>
   cases ht;exact H.bot e (s++[⟨b,k::r⟩]) V
 ·rw[F 0 (cH 0),H.zero,aY]
def muD(q:List Bool×List iB×List Int):Nat:=4 *(q.1.filter λc=>!c).length+(q.2.1.map λe=>e.next.length+1).sum
theorem Hu(D:l.Nodup)(B:∀b∈l,0<=b/\b.toNat < n):l.length<=n:=by
 have:=Fg (m:=(gE n).map Int.ofNat) D λb hb=>by
  obtain⟨h0,h1⟩:=B b hb;exact fM.2 ⟨b.toNat,fQ.2 h1,by show((b.toNat:Nat):Int)=b;omega⟩
 simpa using this
theorem Dfs.few(H:Dfs f no come s left):left.length+s.length<=f.blocks.length:=by
 have:=Hu H.nod λc hc=>(H.rch c (fC.1 hc)).lt
 simpa using this
theorem YN:∀{l:List Bool} {i:Nat},l[i]? =jS aL->((l.set i aZ).filter λc=>!c).length+1=(l.filter λc=>!c).length
 | [],i,h=>by simp at h
 |c::l,0,h=>by
  simp at h;subst h;simp
 |c::l,i+1,h=>by
  have B:=YN (l:=l) (i:=i) (by simpa using h);cases c <;> simp[B]
theorem Agr{l:List Bool}{k:Int}(h:k.toNat < l.length)(hc:ixD l k=aL):l[k.toNat]? =jS aL:=by
 unfold ixD at hc;rw[dZ,eC h]at hc;rw[eC h];exact congrArg jS hc
structure WalkP(f:Func)(no:Int)(l:List Int):Prop where
 nod:l.Nodup
 mem:∀b,b∈l↔RchF f no b
 par:∀b∈l,b=0\/∃k,b∈nextL f k/\∃l1 l2 l3,l=l1++b::(l2++k::l3)
theorem Dfs.fin(H:Dfs f no come [] left):WalkP f no left:=by
 have B:=(H.mem 0 (cH 0)).1 H.zero;simp only[fB,fZ,or_false]at B;refine⟨by simpa using H.nod,λb=>⟨λh=>H.rch b (.inl h),λh=>?_⟩,λb hb=>?_⟩
 ·induction h with
  |start _ _=>exact B
  |@step a b h1 h2 F D=>
   rcases H.done a D b h2 with e|e
   ·exact absurd e F
   ·have:=(H.mem b (E8 h2).1).1 e;simpa using this
 ·rcases H.par b hb with h|⟨k,h1,h2⟩
  ·exact .inl h
  ·rcases h2 with h2|h2
   ·simp at h2
   ·exact .inr ⟨k,h1,h2⟩
theorem Azy{s:List α}{e:α}(h:s.length<=2097152):bF.wrap ((((s++[e]).length:Nat):Int) - 1)=(s.length:Int):=by
 rw[bJ _ (by simp;omega)];simp
theorem Alj[Inhabited α](s:List α)(e:α):ixD (s++[e]) (s.length:Int)=e:=BV (k:=s.length) (by simp)
theorem Adg(c:iD f):∀q,Dfs f no q.1 q.2.1 q.2.2->∃r,(iM (FK f no) q).to r/\WalkP f no r:=by
 refine iO (λq=>Dfs f no q.1 q.2.1 q.2.2) muD (WalkP f no) ?_;rintro⟨come,st,left⟩ H;have H:Dfs f no come st left:=H;have hn:=c.small.blocks;rcases dI st with O|⟨s,e,O⟩
 ·subst O;refine⟨.inr left,AF (by simp) (Al _),(λs' h=>by cases h),λr h=>?_⟩;cases h;exact H.fin
 ·rw[cW]at O;subst O;have B:=H.few;have U:s.length<=2097152:=by simp at B;omega
  have hw:=Azy (s:=s) (e:=e) U;have hl:=Alj s e;have D:Cd (s++[e]) (s.length:Int)=aZ:=Fh (by simp);have L:∀e':iB,(s++[e]).set s.length e'=s++[e']:=λe'=>by simp
  obtain⟨b,nx⟩:=e;have W:RchF f no b:=H.rch b (.inr (by simp));have ad:=W.lt;have I:wfB .i64 b=aZ:=by
   unfold wfB;simp[Lit.wf,bH,bG,bI,bE];omega
  simp only[FK];rw[hw,hl,cI];simp only[L];cases nx with
  |nil=>
   refine⟨.inl (come,s,left++[b]),AM (by simp) (Ag D (AM (by simp) (Ag I (Ag ?_ (Ag ?_ ?_))))),λs' h=>?_,(λr h=>by cases h)⟩
   ·unfold EM cF;simp at B⊢;omega
   ·unfold slB;simp
   ·rw[List.take_left' V];exact Al _
   ·cases h;refine⟨H.pop,?_⟩;simp[muD]
  |cons k r=>
   obtain⟨d0,aa,_⟩:=H.els ⟨b,k::r⟩ (by simp);have Z:k∈nextL f b:=by rw[show nextL f b=d0++k::r from aa];simp
   have hk:=E8 Z;have h0:ixD (k::r) 0=k:=rfl;have J:slD (k::r) 1 (((k::r).length:Nat):Int)=r:=by
    unfold slD;simp
   have N:Cd come k=aZ:=BK.2 ⟨hk.1,by rw[H.len];exact hk.2⟩;have Y:Gz ⟨b,r⟩=aZ:=I;have T:wfB .i64 k=aZ:=by
    unfold wfB;simp[Lit.wf,bH,bG,bI,bE];omega
   have F:∀{x:M ((List Bool×List iB×List Int)⊕List Int)} {y},x.to y->(iH (Cd (k::r) 0) (iH (slB (k::r) 1 (((k::r).length:Nat):Int)) (iH (Gz ⟨b,r⟩) (iH (Cd come k) x)))).to y:=λhx=>
    Ag V (Ag (by unfold slB;simp;omega) (Ag Y (Ag N hx)))
   simp only[h0,J];cases hc:(!(ixD come k)&&(k !=no))with
   |false=>
    have ab:k=no\/ixD come k=aZ:=by
     cases h1:ixD come k with
     |true=>exact .inr V
     |false=>rw[h1]at hc;simp at hc;exact .inl hc
    refine⟨.inl (come,s++[⟨b,r⟩],left),AM (by simp) (Ag D (AF (by simp;omega) (F (AF V (Al _))))),λs' h=>?_,(λr h=>by cases h)⟩;cases h;refine⟨H.skip ab,?_⟩;simp[muD]
   |true=>
    simp only[bne_iff_ne,ne_eq,zas]at hc;refine⟨.inl (come.set k.toNat aZ,s++[⟨b,r⟩]++[⟨k,nextL f k⟩],left),AM (by simp) (Ag D (AF (by simp;omega) (F (AM V (Ag N (Ap (Ag (BG.2 c) (Al _)) (Ag T (Ag ?_ (Al _))))))))),λs' h=>?_,(λr h=>by cases h)⟩
    ·unfold EM cF;simp at B⊢;omega
    ·cases h;refine⟨H.push hc.1 hc.2,?_⟩;have hf:=YN (Agr (by rw[H.len];exact hk.2) hc.1);have ac:=Ur f k;simp[muD];omega
theorem Adf(c:iD f)(no:Int):∃l,(Fi f no).to l/\WalkP f no l:=by
 unfold Fi;have L:=c.small.blocks;cases hc:(((f.blocks.length:Int) ==0)||(no ==0))with
 |true=>
  refine⟨[],AM V (Al _),fY,λb=>⟨(λh=>by cases h),λh=>?_⟩,(λb hb=>by cases hb)⟩;exfalso;induction h with
  |start h1 h2=>
   simp only[aW,beq_iff_eq]at hc;rcases hc with h|h
   ·omega
   ·exact h1 h
  |step _ _ _ J=>exact J
 |false=>
  simp only[aV,beq_eq_false_iff_ne,ne_eq]at hc;have B:0 < f.blocks.length:=by omega
  have D:∀b:Int,ixD (gJ f.blocks.length aL) b=aL:=λb=>by
   unfold ixD;rw[dZ,eI];split <;> rfl
  have F:∀b:Int,0<=b->ixD ((gJ f.blocks.length aL).set (0:Int).toNat aZ) b=a8 (b=0):=λb hb=>by
   rw[YC (cH 0) (by simpa using B) hb,D,aX]
  obtain⟨l,h1,h2⟩:=Adg (no:=no) c ((gJ f.blocks.length aL).set (0:Int).toNat aZ,[⟨0,nextL f 0⟩],[]) ⟨by simp,λe I=>by
   rw[fT]at I;subst I;exact⟨[],rfl,λk hk=>by cases hk⟩,(λb hb=>by rw[F b hb];simp),λb hb=>by
   simp at hb;subst hb;exact .start hc.2 B,by simp,λb hb=>by simp at hb,λb hb=>by simp at hb,λs O N s' e=>by
   have:=congrArg List.length e;simp at this;omega,λe s I=>by cases I;rfl,by rw[F 0 (cH 0)];rfl⟩
  refine⟨l,AF V (Ag ?_ (Ag ?_ (Ap (Ag (BG.2 c) (Al _)) (Ag V (Ap ?_ (Al _)))))),h2⟩
  ·unfold V3 cF;simp;omega
  ·exact BK.2 ⟨by omega,by simpa using B⟩
  ·rw[cI];exact h1
def IX(n:Nat)(l:List Int)(k:Nat):List Bool:=(gE n).map λ(b:Nat)=>(l.take k).contains (b:Int)
theorem OH(n:Nat)(l:List Int)(k:Nat):(IX n l k).length=n:=by simp[IX]
theorem Apa(n:Nat)(l:List Int):IX n l 0=gJ n aL:=by
 unfold IX;refine dK λb=>?_
 rw[eF,eI];by_cases hb:b < n
 ·rw[eH hb,if_pos hb];simp
 ·rw[eD (by simpa using hb),if_neg hb];rfl
theorem Adp{k:Nat}(hx:l[k]? =jS x)(h0:0<=x)(B:x.toNat < n):(IX n l k).set x.toNat aZ=IX n l (k+1):=by
 refine dK λb=>?_
 rw[eJ,OH];have ht:l.take (k+1)=l.take k++[x]:=by rw[gP,hx];rfl
 by_cases e:x.toNat=b
 ·rw[if_pos e,if_pos (by omega)];unfold IX;rw[eF,eH (by omega),ht];have:(b:Int)=x:=by omega
  simp[this]
 ·rw[if_neg e];unfold IX;rw[eF,eF,ht];by_cases hb:b < n
  ·rw[eH hb];have:(b:Int)≠x:=by omega
   simp[this]
  ·rw[eD (by simpa using hb)];rfl
theorem Ajv{b:Nat}(hb:b < n):ixD (IX n l l.length) (b:Int)=l.contains (b:Int):=by
 unfold IX;exact BV (k:=b) (by rw[eF,eH hb,gQ];rfl)
theorem ZT(c:iD f):∃l,(Fi f (-1)).to l/\WalkP f (-1) l/\(GI f).to (IX f.blocks.length l l.length):=by
 obtain⟨l,h1,h2⟩:=Adf c (-1);have F:=c.small.blocks;have D:l.length<=f.blocks.length:=Hu h2.nod λb hb=>((h2.mem b).1 hb).lt
 refine⟨l,h1,h2,Ag (by unfold V3 cF;simp;omega) (Ap h1 (Ap ?_ (Al _)))⟩;rw[cI,<-Apa f.blocks.length l];refine BZ (λk:Nat=>((k:Int),IX f.blocks.length l k)) l.length (λk hk=>?_) ?_ (jL _)
 ·obtain⟨x,hx⟩:∃x,l[k]? =jS x:=⟨_,eC hk⟩
  have B:=((h2.mem x).1 (fN hx)).lt;simp only[EF,BV hx];rw[bJ _ (by omega),show((k:Int)+1)=((k+1:Nat):Int)by omega,Adp hx B.1 B.2];exact AM (decide_eq_true (by omega)) (Ag (Fh hk) (Ag (BK.2 ⟨B.1,by rw[OH];exact B.2⟩) (Al _)))
 ·simp only[EF];exact AF (decide_eq_false (by omega)) (Al _)
theorem Akw(c:iD f):∃l,(Fi f (-1)).to l/\WalkP f (-1) l/\(Kb f).to l.reverse:=by
 obtain⟨l,h1,h2⟩:=Adf c (-1);have D:=c.small.blocks;have B:l.length<=f.blocks.length:=Hu h2.nod λb hb=>((h2.mem b).1 hb).lt
 exact⟨l,h1,h2,Ap h1 (Ag (decide_eq_true (by omega)) (Al _))⟩
def IR(o:Int->List Int)(ks:List Int):List Int:=
 match ks.filter λk=>!(o k).isEmpty with
 | []=>[]
 |k::r=>r.foldl (λl j=>l.filter λx=>(o j).contains x) (o k)
theorem Ys{o:Int->List Int}{x:Int}:∀{r l:List Int},x∈r.foldl (λl j=>l.filter λx=>(o j).contains x) l↔x∈l/\∀j∈r,x∈o j
 | [],l=>by simp
 |j::r,l=>by
  rw[dX,Ys (r:=r),fJ];simp only[cY,fF,forall_eq_or_imp];exact and_assoc
theorem Yr{o:Int->List Int}(h:∃k∈ks,o k≠[]):x∈IR o ks↔∀k∈ks,o k≠[]->x∈o k:=by
 have B:∀k,k∈(ks.filter λk=>!(o k).isEmpty)↔k∈ks/\o k≠[]:=λk=>by
  rw[fJ];simp
 unfold IR;generalize (ks.filter λk=>!(o k).isEmpty)=fs at B;cases fs with
 |nil=>
  obtain⟨k,h1,h2⟩:=h;exact absurd ((B k).2 ⟨h1,h2⟩) (by simp)
 |cons a r=>
  simp only;rw[Ys];constructor
  ·rintro⟨h1,h2⟩ k hk hne;rcases fF.1 ((B k).2 ⟨hk,hne⟩)with rfl|h3
   ·exact h1
   ·exact h2 k h3
  ·intro h1;exact⟨h1 a ((B a).1 (by simp)).1 ((B a).1 (by simp)).2,λj D=>h1 j ((B j).1 (fG _ D)).1 ((B j).1 (fG _ D)).2⟩
def Agu(l:List Int)(b:Int):List Int:=l.filter (λx=>decide (x < b))++b::l.filter λx=>decide (b < x)
theorem L1{b:Int}:x∈Agu l b↔x=b\/x∈l:=by
 unfold Agu;simp only[fC,fF,fJ,decide_eq_true_eq];constructor
 ·rintro(⟨h,_⟩|h|⟨h,_⟩)
  ·exact .inr h
  ·exact .inl h
  ·exact .inr h
 ·rintro(h|h)
  ·exact .inr (.inl h)
  ·rcases Int.lt_trichotomy x b with h1|h1|h1
   ·exact .inl ⟨h,h1⟩
   ·exact .inr (.inl h1)
   ·exact .inr (.inr ⟨h,h1⟩)
theorem WQ{b:Int}:Agu l b≠[]:=by unfold Agu;simp
def Th(o:Int->List Int)(B:Int->List Int)(b:Int):List Int:=Agu (if b=0 then []else IR o (B b)) b
structure DomI(f:Func)(bf:Int->List Int)(o:Int->List Int):Prop where
 self:∀b,o b≠[]->b∈o b
 reach:∀b,o b≠[]->RchF f (-1) b
 all:∀b,o b≠[]->∀x,¬RchF f x b->x∈o b
 low:∀b,b≠0->o b≠[]->∀x,(∀k∈bf b,o k≠[]->x∈o k)->x∈o b
 has:∀b,b≠0->o b≠[]->∃k∈bf b,o k≠[]
section
variable{f:iE}{bf:Int->List Int}{o:Int->List Int}{b:Int}
def Ao9(o:Int->List Int)(b:Int)(l:List Int):Int->List Int:=λc=>if c=b then l else o c
theorem DomI.step(H:DomI f bf o)(W:∀b k,k∈bf b↔RchF f (-1) k/\b∈nextL f k\/(k∈bf b/\¬RchF f (-1) k))(hb:RchF f (-1) b)(hk:b≠0->∃k∈bf b,o k≠[]):DomI f bf (Ao9 o b (Th o bf b))/\(o b≠[]->∀x∈Th o bf b,x∈o b):=by
 have T:∀k,k∈bf b->o k≠[]->b∈nextL f k:=λk h1 h2=>by
  rcases(W b k).1 h1 with h|h
  ·exact h.2
  ·exact absurd (H.reach k h2) h.2
 have B:∀x,x∈Th o bf b↔x=b\/(b≠0/\∀k∈bf b,o k≠[]->x∈o k):=λx=>by
  unfold Th;rw[L1];by_cases h0:b=0
  ·rw[if_pos h0];simp[h0]
  ·rw[if_neg h0,Yr (hk h0)];simp[h0]
 have J:o b≠[]->∀x∈Th o bf b,x∈o b:=λhne x hx=>by
  rcases(B x).1 hx with h|⟨h0,h⟩
  ·subst h;exact H.self x hne
  ·exact H.low b h0 hne x h
 have hne:Th o bf b≠[]:=WQ;have I:∀c,Ao9 o b (Th o bf b) c=if c=b then Th o bf b else o c:=λ_=>rfl
 have L:∀c,o c≠[]->Ao9 o b (Th o bf b) c≠[]:=λc hc=>by
  rw[I];split
  ·exact hne
  ·exact hc
 refine⟨⟨λc hc=>?_,λc hc=>?_,λc hc x hx=>?_,λc h0 hc x hx=>?_,λc h0 hc=>?_⟩,J⟩
 ·rw[I]at hc⊢;split
  ·rename_i e;subst e;exact(B c).2 (.inl V)
  ·rename_i e;rw[if_neg e]at hc;exact H.self c hc
 ·rw[I]at hc;by_cases e:c=b
  ·subst e;exact hb
  ·rw[if_neg e]at hc;exact H.reach c hc
 ·rw[I]at hc⊢;by_cases e:c=b
  ·subst e;rw[if_pos V];by_cases F:x=c
   ·exact(B x).2 (.inl F)
   ·refine(B x).2 (.inr ⟨λh0=>?_,λk U D=>H.all k D x λY=>hx (Y.step (T k U D) λe=>F e.symm)⟩);subst h0;cases hb with
    |start _ Z=>exact hx (.start F Z)
    |step _ hn _=>exact hx (.start F (by have:=E8 hn;omega))
  ·rw[if_neg e]at hc⊢;exact H.all c hc x hx
 ·have N:∀k,o k≠[]->∀y∈Ao9 o b (Th o bf b) k,y∈o k:=λk D y O=>by
   rw[I]at O;split at O
   ·rename_i e;rw[e]at D⊢;exact J D y O
   ·exact O
  by_cases e:c=b
  ·subst e;rw[I,if_pos V];exact(B x).2 (.inr ⟨h0,λk h1 h2=>N k h2 x (hx k h1 (L k h2))⟩)
  ·rw[I,if_neg e]at hc⊢;exact H.low c h0 hc x λk h1 h2=>N k h2 x (hx k h1 (L k h2))
 ·rw[I]at hc;obtain⟨k,h1,h2⟩:∃k∈bf c,o k≠[]:=by
   by_cases e:c=b
   ·subst e;exact hk h0
   ·rw[if_neg e]at hc;exact H.has c h0 hc
  exact⟨k,h1,L k h2⟩
theorem DomI.fin(H:DomI f bf o)(L:∀b k,RchF f (-1) k->b∈nextL f k->k∈bf b)(B:∀b,RchF f (-1) b->o b≠[])(D:∀b,RchF f (-1) b->Th o bf b=o b)(hb:RchF f (-1) b):∀x,x∈o b↔¬RchF f x b:=λx=>by
 refine⟨λhx T=>?_,λh=>H.all b (B b hb) x h⟩;revert hx;induction T with
 |start h0 N=>
  intro hx;rw[<-D 0 hb]at hx;unfold Th at hx;rw[if_pos V,L1]at hx;rcases hx with h|h
  ·exact h0 h
  ·cases h
 |@step a c h1 h2 O I=>
  intro hx;have J:RchF f (-1) a:=by
   clear I hx h2 O hb;induction h1 with
   |start _ N=>exact .start (by decide) N
   |@step p q _ hq _ I=>exact I.step hq (by have:=E8 hq;omega)
  rw[<-D c hb]at hx;unfold Th at hx;rw[L1]at hx;rcases hx with h|h
  ·exact O h.symm
  ·split at h
   ·cases h
   ·have F:=L c a J h2;exact I J ((Yr ⟨a,F,B a J⟩).1 h a F (B a J))
end
theorem PY(h:Asc l):l.Nodup:=h.imp λh=>by omega
theorem Nf(h:Asc l):Asc (l.filter p):=cL p h
theorem Zc{b:Int}(h:Asc l):Asc (Agu l b):=by
 unfold Agu Asc;rw[List.pairwise_append];refine⟨Nf h,gB.2 ⟨λx hx=>by simpa using(fJ.1 hx).2,Nf h⟩,λx hx y hy=>?_⟩;have h1:x < b:=by simpa using(fJ.1 hx).2
 rcases fF.1 hy with rfl|hy
 ·exact h1
 ·have h2:b < y:=by simpa using(fJ.1 hy).2
  omega
theorem Aqh{b:Int}(h:Asc l)(hb:b∈l):Agu l b=l:=G7 (Zc h) h λx=>by
 rw[L1];exact⟨λe=>e.elim (λe=>e▸hb) id,.inr⟩
theorem Vt:∀{l:List Int} {b:Int},Asc l->l.take (l.countP (· < b))=l.filter (λx=>decide (x < b))/\l.drop (l.countP (· < b))=l.filter λx=>!decide (x < b)
 | [],b,_=>by simp
 |x::l,b,h=>by
  unfold Asc at h;rw[gB]at h;obtain⟨h1,h2⟩:=Vt (b:=b) h.2;by_cases hx:x < b
  ·rw[cZ (by simpa using hx),List.take_succ_cons,List.drop_succ_cons,h1,h2];simp[hx]
  ·have B:∀y∈l,¬y < b:=λy hy=>by have:=h.1 y hy;omega
   rw[List.countP_cons_of_neg (by simpa using hx),dB.2 (λy hy=>by simpa using B y hy)];refine⟨?_,?_⟩
   ·rw[List.take_zero,dQ.2];intro y hy;rcases fF.1 hy with rfl|hy
    ·simpa using hx
    ·simpa using B y hy
   ·rw[dG,dR.2];intro y hy;rcases fF.1 hy with rfl|hy
    ·simpa using hx
    ·simpa using B y hy
theorem Alo{b:Int}(h:Asc l)(hb:b∉l):l.take (l.countP (· < b))++b::l.drop (l.countP (· < b))=Agu l b:=by
 obtain⟨h1,h2⟩:=Vt (b:=b) h;rw[h1,h2];unfold Agu;congr 2;refine dM λx hx=>?_
 have:x≠b:=λe=>hb (e▸hx)
 by_cases B:x < b
 ·rw[decide_eq_true B,decide_eq_false (by omega)];rfl
 ·rw[decide_eq_false B,decide_eq_true (by omega)];rfl
theorem Xy{m:List Int}(D:Asc l)(B:Asc m)(h:∀x∈l,x∈m)(hne:l≠m):l.length < m.length:=by
 have e:l=m.filter λx=>l.contains x:=G7 D (Nf B) λx=>by
  rw[fJ,cY];exact⟨λhx=>⟨h x hx,hx⟩,λhx=>hx.2⟩
 have h1:=eS (λx=>l.contains x) m;rw[<-e]at h1;rcases Nat.lt_or_eq_of_le h1 with h2|h2
 ·exact h2
 ·rw[e]at h2;have F:=List.length_filter_eq_length_iff.1 h2;exact absurd (e.trans (dR.2 F)) hne
theorem Ajq{k:Nat}(h:k < n)(B:n<=2147483648):bF.wrap ((k:Int)+1)=((k+1:Nat):Int):=by
 rw[bJ _ (by omega)];omega
theorem Al5(a b:List Int)(O:a.length<=2147483648):(Cy a b).to (a ==b):=by
 unfold Cy;by_cases L:a.length=b.length
 ·refine AF (by simp[L]) ?_;have J:∀k,k<=a.length->a.take k=b.take k->(∃z,(iM (BR a b) (k:Int)).to z/\((z= .inl ()/\a=b)\/(z= .inr aL/\a≠b))):=by
   intro k hk;generalize T:a.length - k=m;induction m generalizing k with
   |zero=>
    intro I;refine⟨.inl (),iP ?_,.inl ⟨rfl,?_⟩⟩
    ·simp only[BR];exact AF (decide_eq_false (by omega)) (Al _)
    ·rw[gR (by omega),gR (by omega)]at I;exact I
   |succ m N=>
    intro I;have D:k < a.length:=by omega
    obtain⟨x,hx⟩:∃x,a[k]? =jS x:=⟨_,eC D⟩
    obtain⟨y,F⟩:∃y,b[k]? =jS y:=⟨_,eC (by omega)⟩
    by_cases B:x=y
    ·obtain⟨z,h1,h2⟩:=N (k+1) (by omega) (by omega) (by rw[gP,gP,I,hx,F,B]);refine⟨z,iN ?_ h1,h2⟩;simp only[BR,BV hx,BV F];refine AM (decide_eq_true (by omega)) (Ag (Fh D) (Ag (Fh (by omega)) (AF (by simp[B]) ?_)));rw[Ajq D O];exact Al _
    ·refine⟨.inr aL,iP ?_,.inr ⟨rfl,λe=>B ?_⟩⟩
     ·simp only[BR,BV hx,BV F];exact AM (decide_eq_true (by omega)) (Ag (Fh D) (Ag (Fh (by omega)) (AM (by simp[B]) (Al _))))
     ·subst e;rw[hx]at F;exact jT F
  obtain⟨z,h1,h2⟩:=J 0 (jL _) V;rcases h2 with⟨rfl,e⟩|⟨rfl,e⟩
  ·rw[show(a ==b)=aZ from beq_iff_eq.2 e];exact iK h1 (Al _)
  ·rw[show(a ==b)=aL from beq_eq_false_iff_ne.2 e];exact iL h1
 ·rw[show(a ==b)=aL from beq_eq_false_iff_ne.2 λe=>L (by rw[e])];exact AM (by simp;omega) (Al _)
theorem Ade(h:-9223372036854775808<=x/\x<=9223372036854775807):wfB .i64 x=aZ:=by
 unfold wfB;simp[Lit.wf,bH,bG,bI,bE];omega
theorem TI(n:Int)(h:Asc l)(B:l.length<=2147483648):(C9 l n).to (((l.countP (· < n):Nat):Int),l.contains n):=
 Ag (by rw[aI];exact⟨SV.2 h,decide_eq_true B⟩) (Al _)
theorem Ah3{a b:List Int}(J:a.length<=2147483648)(hb:Asc b)(F:b.length<=2147483648)(I:∀x∈a,wfB .i64 x=aZ):(Ga a b).to (a.filter λx=>b.contains x):=by
 unfold Ga;refine Ap ?_ (Al _);have D:=BZ (step:=D3 a b) (λk:Nat=>((k:Int),(a.take k).filter λx=>b.contains x)) a.length (r:=a.filter λx=>b.contains x) (λk hk=>?_) ?_ (j:=0) (jL _)
 ·simpa using D
 ·obtain⟨x,hx⟩:∃x,a[k]? =jS x:=⟨_,eC hk⟩
  simp only[D3,BV hx];have B:=eS (λx=>b.contains x) (a.take k);rw[eY]at B;refine AM (decide_eq_true (by omega)) (Ap (a:=(a.take (k+1)).filter λx=>b.contains x) (Ag (Fh hk) (Ap (TI x hb F) ?_)) ?_)
  ·rw[gP,hx,dL];cases hc:b.contains x with
   |true=>
    refine AM V (Ag (I x (fN hx)) (Ag ?_ ?_))
    ·generalize ((a.take k).filter λx=>b.contains x).length=q at B;unfold EM cF;simp;omega
    ·simp only[jU,dN,hc,if_true,dT];exact Al _
   |false=>
    refine AF V ?_;simp only[jU,dN,hc,dT,cV,aN,if_false];exact Al _
  ·rw[Ajq hk J];exact Al _
 ·simp only[D3,gQ];exact AF (decide_eq_false (by omega)) (Al _)
def Ee(out:List (List Int))(b:Int):List Int:=if 0<=b then out.getD b.toNat []else []
def Kf(f:iE)(b:Int):List Int:=if 0<=b/\b.toNat < f.blocks.length then SR f b.toNat else []
theorem Af1{f:iE}{k:Int}{x:Blk f}(h:x∈Hq f k):0<=k:=by
 unfold Hq at h;split at h
 ·assumption
 ·cases h
theorem EJ{f:iE}{b k:Int}:k∈Kf f b↔b∈nextL f k:=by
 unfold Kf;constructor
 ·intro h;split at h
  ·rename_i hb;obtain⟨D,⟨x,hx,e⟩,rfl⟩:=(Ke hb.2 k).1 h;refine fM.2 ⟨x,hx,?_⟩;show(x.1:Int)=b;omega
  ·cases h
 ·intro h;have B:=E8 h;rw[if_pos B];obtain⟨x,hx,e⟩:=fM.1 h;have hk:=Af1 hx;refine(Ke B.2 k).2 ⟨k.toNat,⟨x,?_,?_⟩,by omega⟩
  ·rw[cJ hk];exact hx
  ·have:(x.1:Int)=b:=e;omega
structure RowsA(f:Func)(out:List (List Int)):Prop where
 len:out.length=f.blocks.length
 asc:∀r∈out,Asc r
 rng:∀r∈out,∀x∈r,0<=x/\x.toNat < f.blocks.length
section
variable{f:iE}{out:List (List Int)}
theorem MG{b:Int}(h0:0<=b):Ee out b=ixD out b:=by unfold Ee ixD;rw[if_pos h0];rfl
theorem X8{b:Int}(h:Ee out b≠[]):Ee out b∈out:=by
 unfold Ee at h⊢;split
 ·rename_i h0;rw[if_pos h0]at h;rw[dZ]at h⊢;cases e:out[b.toNat]? with
  |none=>rw[e]at h;exact absurd V h
  |some r=>exact fN e
 ·rename_i h0;rw[if_neg h0]at h;exact absurd V h
theorem LE(H:RowsA f out)(b:Int):Asc (Ee out b):=by
 by_cases h:Ee out b= []
 ·rw[h];exact cN
 ·exact H.asc _ (X8 h)
theorem R7(H:RowsA f out){b:Int}(hx:x∈Ee out b):0<=x/\x.toNat < f.blocks.length:=H.rng _ (X8 (fU hx)) x hx
theorem Aj5{b:Int}(h0:0<=b)(hb:b.toNat < out.length):Ee (out.set b.toNat l)=Ao9 (Ee out) b l:=by
 funext c;show Ee (out.set b.toNat l) c=if c=b then l else Ee out c
 unfold Ee;by_cases hc:c=b
 ·subst hc;rw[if_pos h0,if_pos V,dZ,eL hb];rfl
 ·rw[if_neg hc];by_cases h1:0<=c
  ·rw[if_pos h1,if_pos h1,dZ,eK (by omega),<-dZ]
  ·rw[if_neg h1,if_neg h1]
theorem RowsA.set(H:RowsA f out){b:Nat}(D:Asc l)(B:∀x∈l,0<=x/\x.toNat < f.blocks.length):RowsA f (out.set b l):=
 ⟨by simp[H.len],λr h=>(fP h).elim (H.asc r) λe=>e▸D,λr h=>(fP h).elim (H.rng r) λe=>e▸B⟩
theorem YJ{o:Int->List Int}:∀(r l:List Int),(r.foldl (λl j=>l.filter λx=>(o j).contains x) l).Sublist l
 | [],_=>List.Sublist.refl _
 |_::r,_=>(YJ r _).trans List.filter_sublist
theorem Yu{o:Int->List Int}(ks:List Int):IR o ks= []\/∃k∈ks,(IR o ks).Sublist (o k):=by
 unfold IR;cases e:ks.filter λk=>!(o k).isEmpty with
 |nil=>exact .inl V
 |cons k r=>exact .inr ⟨k,(fJ.1 (e▸fH:k∈ks.filter λk=>!(o k).isEmpty)).1,YJ r _⟩
theorem Sr(H:RowsA f out)(ks:List Int):Asc (IR (Ee out) ks):=by
 rcases Yu (o:=Ee out) ks with h|⟨k,_,h⟩
 ·rw[h];exact cN
 ·exact(LE H k).sublist h
theorem On(H:RowsA f out)(hx:x∈IR (Ee out) ks):0<=x/\x.toNat < f.blocks.length:=by
 rcases Yu (o:=Ee out) ks with h|⟨k,_,h⟩
 ·rw[h]at hx;cases hx
 ·exact R7 H (h.subset hx)
theorem Af8{o:Int->List Int}{k:Int}:IR o (ks++[k])=if(o k).isEmpty then IR o ks else if ks.any (λk=>!(o k).isEmpty)then(IR o ks).filter (λx=>(o k).contains x)else o k:=by
 unfold IR;rw[dL];cases hk:(o k).isEmpty with
 |true=>simp[hk]
 |false=>
  simp only[dN,hk,aS,if_true,dT,aN,if_false];cases e:ks.filter λk=>!(o k).isEmpty with
  |nil=>
   rw[show ks.any (λk=>!(o k).isEmpty)=aL from ?_]
   ·simp
   ·rw[cQ];exact dQ.1 e
  |cons a r=>
   rw[show ks.any (λk=>!(o k).isEmpty)=aZ from ?_]
   ·simp
   ·have:a∈ks.filter λk=>!(o k).isEmpty:=e▸fH
    exact cR.2 ⟨a,(fJ.1 this).1,(fJ.1 this).2⟩
theorem Ld(h:Asc l)(B:∀x∈l,0<=x/\x.toNat < n):l.length<=n:=Hu (PY h) B
theorem Ap8(c:iD f)(H:RowsA f out){r2:List (List Int)}{i:Int}(J:ixD r2 (ixD r1 i)=ks)(hk:∀k∈ks,0<=k/\k.toNat < f.blocks.length)(T:ks.length<=2147483648):
 (iM (Dl r1 r2 out i) ([],aL,0)).to (IR (Ee out) ks):=by
 have U:=c.small.blocks;have L:=BZ (step:=Dl r1 r2 out i) (λk:Nat=>(IR (Ee out) (ks.take k),(ks.take k).any (λk=>!(Ee out k).isEmpty),(k:Int))) ks.length (r:=IR (Ee out) ks) (λk D=>?_) ?_ (j:=0) (jL _)
 ·exact L
 ·obtain⟨x,hx⟩:∃x,ks[k]? =jS x:=⟨_,eC D⟩
  have B:=hk x (fN hx);have F:Cd out x=aZ:=BK.2 ⟨B.1,by rw[H.len];exact B.2⟩;simp only[Dl,J,BV hx,<-MG (out:=out) B.1];refine AM (decide_eq_true (by omega)) (Ap (Ag (Fh D) (Ag F (a:=(IR (Ee out) (ks.take (k+1)),(ks.take (k+1)).any (λk=>!(Ee out k).isEmpty))) ?_)) ?_)
  ·rw[gP,hx,jU,Af8,List.any_append];cases O:(Ee out x).isEmpty with
   |true=>
    refine AM V ?_;simp only[if_true,cP,O,aU,List.any_nil,aX];exact Al _
   |false=>
    refine AF V ?_;simp only[aN,if_false,cP,O,aS,Bool.true_or,aY];cases W:(ks.take k).any (λk=>!(Ee out k).isEmpty)with
    |false=>
     simp only[aN,if_false];exact AM V (Ag F (Al _))
    |true=>
     simp only[if_true];have N:=Sr H (ks.take k);refine AF V (Ag F (Ap (Ah3 ?_ (LE H x) ?_ λy I=>?_) (Al _)))
     ·have:=Ld N λy I=>On H I
      omega
     ·have:=Ld (LE H x) λy I=>R7 H I
      omega
     ·have:=On H I;exact Ade (by omega)
  ·rw[Ajq D T];exact Al _
 ·simp only[Dl,J,gQ];exact AF (decide_eq_false (by omega)) (Al _)
def CO(f:iE)(out:List (List Int))(b:Int):List Int:=Th (Ee out) (Kf f) b
theorem TA(H:RowsA f out)(b:Int):Asc (CO f out b):=by
 unfold CO Th;refine Zc ?_;split
 ·exact cN
 ·exact Sr H _
theorem Tz(H:RowsA f out){b:Int}(h0:0<=b/\b.toNat < f.blocks.length)(hx:x∈CO f out b):0<=x/\x.toNat < f.blocks.length:=by
 unfold CO Th at hx;rcases L1.1 hx with h|h
 ·rw[h];exact h0
 ·split at h
  ·cases h
  ·exact On H h
theorem Ayt(c:iD f)(H:RowsA f out){k:Nat}{b:Int}{more:Bool}(hb:r1[k]? =jS b)(W:r1.length<=2147483648)(h0:0<=b/\b.toNat < f.blocks.length):
 (CP r1 (G6 f f.blocks.length) (more,(k:Int),out)).to (.inl (more||(CO f out b !=Ee out b),((k+1:Nat):Int),out.set b.toNat (CO f out b))):=by
 have hn:=c.small.blocks;have hk:=(eE.1 hb).1;have T:ixD r1 (k:Int)=b:=BV hb;have U:ixD (G6 f f.blocks.length) b=Kf f b:=by
  unfold Kf;rw[if_pos h0];rfl
 have D:Cd out b=aZ:=BK.2 ⟨h0.1,by rw[H.len];exact h0.2⟩;have I:Cd (G6 f f.blocks.length) b=aZ:=BK.2 ⟨h0.1,by rw[Gi];exact h0.2⟩;have aa:∀x∈Kf f b,0<=x/\x.toNat < f.blocks.length:=λx hx=>by
  unfold Kf at hx;rw[if_pos h0]at hx;obtain⟨k',O,rfl⟩:=(Ke h0.2 x).1 hx;exact⟨by omega,by simpa using(Iw O).1⟩
 have ab:(Kf f b).length<=2147483648:=by
  have:Kf f b∈G6 f f.blocks.length:=by
   rw[<-U];exact fN (BN I)
  have:=SQ f f.blocks.length _ this;omega
 have Z:=Ap8 c H (r1:=r1) (r2:=G6 f f.blocks.length) (i:=(k:Int)) (ks:=Kf f b) (by rw[T,U]) aa ab;have hL:∀l,l=(if b=0 then []else IR (Ee out) (Kf f b))->Asc l/\l.length<=2147483648:=λl W=>by
  have h1:Asc l:=by
   rw[W];split
   ·exact cN
   ·exact Sr H _
  refine⟨h1,?_⟩;have:=Ld (n:=f.blocks.length) h1 λx hx=>by
   rw[W]at hx;split at hx
   ·cases hx
   ·exact On H hx
  omega
 obtain⟨l,B⟩:∃l,l=(if b=0 then []else IR (Ee out) (Kf f b)):=⟨_,rfl⟩
 obtain⟨N,L⟩:=hL l B;have J:CO f out b=Agu l b:=by unfold CO Th;rw[B]
 have hne:CO f out b≠[]:=by rw[J];exact WQ
 have Y:=TA H b;have ad:=Ld Y λx hx=>Tz H h0 hx
 simp only[CP,T];refine AM (decide_eq_true (by omega)) (Ap (Ag (Fh hk) (Ag I (Ap Z (Ap (a:=l) ?_ (Ap (TI b N L) (Ap (a:=CO f out b) ?_ (Ag D (Ap (a:=(CO f out b ==Ee out b)) ?_ (b:=(more||(CO f out b !=Ee out b),out.set b.toNat (CO f out b))) ?_)))))))) ?_)
 ·by_cases F:b=0
  ·rw[B,if_pos F];exact AM (by simp[F]) (Al _)
  ·rw[B,if_neg F];exact AF (by simp[F]) (Al _)
 ·cases hc:l.contains b with
  |true=>
   refine AF V ?_;rw[J,Aqh N (cY.1 hc)];exact Al _
  |false=>
   have ac:l.countP (λx=>decide (x < b))<=l.length:=dC;refine AM V (Ap (Ag (decide_eq_true L) (Al _)) (Ag (Ade (by omega)) (Ag ?_ (Ag (decide_eq_true L) ?_))))
   ·exact decide_eq_true ⟨by simp only;omega,by simp only[cI];exact ac⟩
   ·simp only[cI];rw[J,<-Alo N (λe=>by rw[cY.2 e]at hc;cases hc)];exact Al _
 ·rw[MG h0.1];exact Al5 _ _ (by omega)
 ·cases O:(CO f out b ==Ee out b)with
  |true=>
   refine AF V ?_;have e:CO f out b=Ee out b:=beq_iff_eq.1 O;rw[show(CO f out b !=Ee out b)=aL from by unfold bne;rw[O];rfl,aX];rw[show out.set b.toNat (CO f out b)=out from ?_]
   ·exact Al _
   ·rw[e,MG h0.1];have hg:=BN D;refine dK λj=>?_
    rw[eJ];split
    ·rename_i hj;subst hj;rw[if_pos (BK.1 D).2,hg]
    ·rfl
  |false=>
   refine AM V (Ag D (Ag ?_ ?_))
   ·cases hs:CO f out b with
    |nil=>exact absurd hs hne
    |cons _ _=>rfl
   ·rw[show(CO f out b !=Ee out b)=aZ from by unfold bne;rw[O];rfl,aY];exact Al _
 ·rw[Ajq hk W];exact Al _
end
theorem Adw{α:Type}{g:α->Nat}:∀{l:List α} {i:Nat} {x y:α},l[i]? =jS x->((l.set i y).map g).sum+g x=(l.map g).sum+g y
 | [],_,_,_,h=>by simp at h
 |a::l,0,x,y,h=>by
  simp at h;subst h;simp only[List.set_cons_zero,fA,gO];omega
 |a::l,i+1,x,y,h=>by
  have:=Adw (g:=g) (l:=l) (i:=i) (x:=x) (y:=y) (by simpa using h);simp only[List.set_cons_succ,fA,gO];omega
section
variable{f:iE}
def muA(f:iE)(out:List (List Int)):Nat:=(out.map λl=>if l.isEmpty then f.blocks.length+1 else l.length).sum
structure OrdP(f:Func)(ord:List Int):Prop where
 len:ord.length<=f.blocks.length
 mem:∀b,b∈ord↔RchF f (-1) b
 par:∀(j:Nat) (b:Int),ord[j]? =some b->b=0\/∃(k:Int) (i:Nat),i < j/\ord[i]? =some k/\b∈nextL f k
theorem Auu(H:WalkP f (-1) l):OrdP f l.reverse:=by
 refine⟨?_,λb=>by rw[fS];exact H.mem b,λj b N=>?_⟩
 ·rw[eW];exact Hu H.nod λb hb=>((H.mem b).1 hb).lt
 ·have hb:b∈l:=fS.1 (fN N);rcases H.par b hb with h|⟨k,h1,W,D,B,h2⟩
  ·exact .inl h
  ·refine .inr ⟨k,B.length,?_,?_,h1⟩
   ·have F:l.reverse.Nodup:=List.pairwise_reverse.2 (H.nod.imp λh=>h.symm);have U:l.reverse[B.length+1+D.length]? =jS b:=by
     rw[h2];simp only[gK,gL,cT,cX,fV];rw[eB (by simp;omega)];simp only[eW];rw[show B.length+1+D.length - B.length=D.length+1 by omega,List.getElem?_cons_succ,eB (by simp)];simp
    have Y:j=B.length+1+D.length:=by
     obtain⟨J,T⟩:=eE.1 N;obtain⟨I,O⟩:=eE.1 U;have L:=gC.1 F;rcases jE j (B.length+1+D.length)with h|h|h
     ·exact absurd (T.trans O.symm) (L _ _ J I h)
     ·exact h
     ·exact absurd (O.trans T.symm) (L _ _ I J h)
    omega
   ·rw[h2];simp only[gK,gL,cT,cX,fV];rw[eB (by simp)];simp
structure RndI(f:Func)(ord:List Int)(out0:List (List Int))(more:Bool)(k:Nat)(out:List (List Int)):Prop where
 rows:RowsA f out
 dom:DomI f (Kf f) (Ee out)
 known:∀(j:Nat) (b:Int),j < k->ord[j]? =some b->Ee out b≠[]
 same:more=false->out=out0/\∀(j:Nat) (b:Int),j < k->ord[j]? =some b->CO f out b=Ee out b
 le:muA f out<=muA f out0
 lt:more=true->muA f out < muA f out0
theorem AA5(f:iE)(b k:Int):k∈Kf f b↔RchF f (-1) k/\b∈nextL f k\/(k∈Kf f b/\¬RchF f (-1) k):=by
 by_cases h:RchF f (-1) k
 ·rw[EJ];exact⟨λe=>.inl ⟨h,e⟩,λe=>e.elim (·.2) λe=>absurd h e.2⟩
 ·exact⟨λe=>.inr ⟨e,h⟩,λe=>e.elim (λe=>absurd e.1 h) (·.1)⟩
theorem RndI.next{F out:List (List Int)}{more:Bool}{k:Nat}{b:Int}(O:OrdP f ord)(H:RndI f ord F more k out)(hb:ord[k]? =jS b):RndI f ord F (more||(CO f out b !=Ee out b)) (k+1) (out.set b.toNat (CO f out b)):=by
 have hr:=(O.mem b).1 (fN hb);have Y:=hr.lt;have W:b.toNat < out.length:=by rw[H.rows.len];exact Y.2
 have hk:b≠0->∃k∈Kf f b,Ee out k≠[]:=λh0=>by
  rcases O.par k b hb with h|⟨q,i,hi,hq,hn⟩
  ·exact absurd h h0
  ·exact⟨q,EJ.2 hn,H.known i q hi hq⟩
 obtain⟨hD,hS⟩:=H.dom.step (AA5 f) hr hk;have D:=Aj5 (out:=out) (l:=CO f out b) Y.1 W;have N:=TA H.rows b;have T:∀x∈CO f out b,0<=x/\x.toNat < f.blocks.length:=λx hx=>Tz H.rows Y hx
 have hne:CO f out b≠[]:=by unfold CO Th;exact WQ
 have I:out[b.toNat]? =jS (Ee out b):=by
  rw[MG Y.1];exact BN (BK.2 ⟨Y.1,W⟩)
 have aa:=Adw (g:=λl:List Int=>if l.isEmpty then f.blocks.length+1 else l.length) (y:=CO f out b) I;have B:(if(CO f out b).isEmpty then f.blocks.length+1 else(CO f out b).length)=(CO f out b).length:=by
  cases hs:CO f out b with
  |nil=>exact absurd hs hne
  |cons _ _=>rfl
 have ac:=Ld N T;simp only[B]at aa;have Z:CO f out b≠Ee out b->(CO f out b).length < (if(Ee out b).isEmpty then f.blocks.length+1 else(Ee out b).length):=λJ=>by
  cases ho:Ee out b with
  |nil=>simp;omega
  |cons x l=>
   have h1:Ee out b≠[]:=by rw[ho];simp
   have:=Xy N (LE H.rows b) (hS h1) J;rw[ho]at this;exact this
 have ab:∀c,Ee out c≠[]->Ee (out.set b.toNat (CO f out b)) c≠[]:=λc hc=>by
  rw[D];unfold Ao9;split
  ·exact hne
  ·exact hc
 have U:muA f (out.set b.toNat (CO f out b))<=muA f out/\(CO f out b≠Ee out b->muA f (out.set b.toNat (CO f out b)) < muA f out):=by
  by_cases J:CO f out b=Ee out b
  ·have:(CO f out b).length=(if(Ee out b).isEmpty then f.blocks.length+1 else(Ee out b).length):=by rw[<-J,B]
   exact⟨by unfold muA;omega,λh=>absurd J h⟩
  ·have:=Z J;exact⟨by unfold muA;omega,λ_=>by unfold muA;omega⟩
 have L:CO f out b=Ee out b->out.set b.toNat (CO f out b)=out:=λe=>by
  rw[e];refine dK λj=>?_
  rw[eJ];split
  ·rename_i hj;subst hj;exact I.symm
  ·rfl
 have ad:=H.le;refine⟨H.rows.set N T,by rw[D];exact hD,λj c hj hc=>?_,λhm=>?_,by omega,λhm=>?_⟩
 ·by_cases e:j=k
  ·subst e;rw[hb]at hc;cases hc;rw[D];unfold Ao9;rw[if_pos V];exact hne
  ·exact ab c (H.known j c (by omega) hc)
 ·rw[aV]at hm;have J:CO f out b=Ee out b:=by simpa using hm.2
  obtain⟨h1,h2⟩:=H.same hm.1;rw[L J];refine⟨h1,λj c hj hc=>?_⟩;by_cases e:j=k
  ·subst e;rw[hb]at hc;cases hc;exact J
  ·exact h2 j c (by omega) hc
 ·rw[aW]at hm;rcases hm with hm|hm
  ·have:=H.lt hm;omega
  ·have:=U.2 (by simpa using hm);omega
theorem Aj8(c:iD f)(O:OrdP f ord){B:List (List Int)}(h0:RowsA f B)(L:DomI f (Kf f) (Ee B)):
 ∃r,(iM (CP ord (G6 f f.blocks.length)) (aL,0,B)).to r/\RndI f ord B r.1 ord.length r.2:=by
 have N:=c.small.blocks;have J:=O.len;refine iO (step:=CP ord (G6 f f.blocks.length)) (λq=>∃k:Nat,q.2.1=(k:Int)/\k<=ord.length/\RndI f ord B q.1 k q.2.2) (λq=>ord.length - q.2.1.toNat) (λr=>RndI f ord B r.1 ord.length r.2) ?_ _ ⟨0,rfl,jL _,h0,L,(λj b F=>absurd F (jJ _)),λ_=>⟨rfl,λj b F=>absurd F (jJ _)⟩,jA _,λe=>by cases e⟩;rintro⟨more,i,out⟩ ⟨k,e,hk,H⟩;have e:i=(k:Int):=e;subst e;by_cases D:k < ord.length
 ·obtain⟨b,hb⟩:∃b,ord[k]? =jS b:=⟨_,eC D⟩
  have I:=((O.mem b).1 (fN hb)).lt;refine⟨_,Ayt c H.rows hb (by omega) I,λs' h=>?_,λr h=>by cases h⟩;cases h;exact⟨⟨k+1,rfl,D,H.next O hb⟩,by simp only[cI];omega⟩
 ·have:k=ord.length:=by omega
  subst this;refine⟨.inr (more,out),?_,(λs' h=>by cases h),λr h=>by cases h;exact H⟩;simp only[CP];exact AF (decide_eq_false (by omega)) (Al _)
structure AboveP(f:Func)(out:List (List Int)):Prop where
 rows:RowsA f out
 mem:∀b x,x∈Ee out b↔RchF f (-1) b/\¬RchF f x b
theorem Amz(c:iD f):∃out,(Dm f).to out/\AboveP f out:=by
 have hn:=c.small.blocks;obtain⟨l,_,hw,W⟩:=Akw c;have O:=Auu hw;have B:∀b,Ee (gJ f.blocks.length ([]:List Int)) b= []:=λb=>by
  unfold Ee;split
  ·rw[dZ,eI];split <;> rfl
  ·rfl
 obtain⟨out,h1,h2⟩:=iO (step:=It l.reverse (G6 f f.blocks.length)) (λq=>RowsA f q.2/\DomI f (Kf f) (Ee q.2)/\(q.1=aL->∀b,RchF f (-1) b->Ee q.2 b≠[]/\CO f q.2 b=Ee q.2 b)) (λq=>if q.1 then muA f q.2+1 else 0) (λout=>AboveP f out) (by
  rintro⟨more,out⟩ ⟨I,J,U⟩;have I:RowsA f out:=I;cases more with
  |true=>
   obtain⟨⟨T,L⟩,Z,H⟩:=Aj8 c O I J;refine⟨.inl (T,L),AM V (Ap Z (Al _)),λs' h=>?_,λr h=>by cases h⟩;cases h;refine⟨⟨H.rows,H.dom,λY b hb=>?_⟩,?_⟩
   ·obtain⟨j,N⟩:=eG ((O.mem b).2 hb);have F:=(eE.1 N).1;exact⟨H.known j b F N,(H.same Y).2 j b F N⟩
   ·cases T with
    |true=>
     have:muA f L < muA f out:=H.lt V;simp only[if_true];show muA f L+1 < muA f out+1;omega
    |false=>simp
  |false=>
   refine⟨.inr out,AF V (Al _),(λs' h=>by cases h),λr h=>?_⟩;cases h;have D:=U V;refine⟨I,λb x=>⟨λhx=>?_,λh=>?_⟩⟩
   ·have hb:=J.reach b (fU hx);exact⟨hb,(J.fin (λb k _ h=>EJ.2 h) (λb hb=>(D b hb).1) (λb hb=>(D b hb).2) hb x).1 hx⟩
   ·exact(J.fin (λb k _ h=>EJ.2 h) (λb hb=>(D b hb).1) (λb hb=>(D b hb).2) h.1 x).2 h.2)
  (aZ,gJ f.blocks.length []) ⟨⟨by simp,λr h=>by rw[(fR.1 h).2];exact cN,λr h x hx=>by rw[(fR.1 h).2]at hx;cases hx⟩,
   ⟨λb h=>absurd (B b) h,λb h=>absurd (B b) h,λb h=>absurd (B b) h,λb _ h=>absurd (B b) h,λb _ h=>absurd (B b) h⟩,λh=>by cases h⟩
 refine⟨out,Ap W (Ap (Ag (BG.2 c) (Al _)) (Ag ?_ (Ap ?_ (Al _)))),h2⟩
 ·unfold V3 cF;simp;omega
 ·rw[cI];exact h1
end
section
variable{f:iE}{out:List (List Int)}
theorem Po{b k:Int}(h:b∈nextL f k):0<=k/\k.toNat < f.blocks.length:=by
 have hb:=E8 h;have h1:=(EJ (f:=f)).2 h;unfold Kf at h1;rw[if_pos hb]at h1;obtain⟨q,h2,rfl⟩:=(Ke hb.2 k).1 h1;exact⟨by omega,by simpa using(Iw h2).1⟩
def FF(f:iE)(out:List (List Int))(h:Int):List Int:=(Kf f h).filter λz=>(Ee out z).contains h
theorem Oa(H:AboveP f out){b:Int}:b∈FF f out h↔h∈nextL f b/\RchF f (-1) b/\¬RchF f h b:=by
 unfold FF;rw[fJ,EJ,cY,H.mem]
theorem Ox(b:Int):(Kf f b).length<=2 * f.blocks.length:=by
 unfold Kf;split
 ·unfold SR;rw[dZ];cases h:(G6 f f.blocks.length)[b.toNat]? with
  |none=>simp
  |some l=>exact SQ f _ l (fN h)
 ·simp
theorem Aig(h0:0<=h)(B:h.toNat < f.blocks.length):Cd (G6 f f.blocks.length) h=aZ/\ixD (G6 f f.blocks.length) h=Kf f h:=by
 refine⟨BK.2 ⟨h0,by rw[Gi];exact B⟩,?_⟩;unfold Kf SR ixD;rw[if_pos ⟨h0,B⟩];rfl
theorem Vo(c:iD f):(Gb f).to (G6 f f.blocks.length):=Ag (BG.2 c) (Al _)
theorem La{n:Int}(h:l.length<=2147483648):(Eu l n).to (l.contains n):=Ag (decide_eq_true h) (Al _)
theorem wfN(h0:0<=h)(D:h.toNat < n)(B:n<=4611686018427387904):wfB .i64 h=aZ:=by
 unfold wfB;simp[Lit.wf,bH,bG,bI,bE];omega
theorem Arf{k:Nat}(hk:k < n)(B:n<=4611686018427387904):bF.wrap ((k:Int)+1)=((k+1:Nat):Int):=by rw[bJ _ ⟨by omega,by omega⟩];omega
theorem XX(c:iD f)(I:(Dm f).to out)(H:AboveP f out)(h:Int):(FU f h).to (FF f out h):=by
 have J:=c.small.blocks;unfold FU;by_cases hh:0<=h/\h.toNat < f.blocks.length
 ·obtain⟨h1,h2⟩:=Aig hh.1 hh.2;have D:(Kf f h).length<=2147483648:=by have:=Ox (f:=f) h;omega
  refine AF (by simp;omega) (Ap I (Ap (Vo c) (Ag h1 ?_)));rw[h2];refine Ap (Ag (decide_eq_true D) (Al _)) (Ag (wfN hh.1 hh.2 (by omega)) (Ag (decide_eq_true D) (Ag (cO.2 λz B=>?_) ?_)))
  ·have:=Po (EJ.1 B);exact wfN this.1 this.2 (by omega)
  ·have e:FF f out h=(Kf f h).filter λz=>!!((Ee out z).contains h):=by unfold FF;simp only[aT]
   rw[e];refine Ap (Ahp λz B=>?_) (Al _);have B:=Po (EJ.1 B);rw[MG B.1];have F:(ixD out z).length<=2147483648:=by
    rw[<-MG B.1];have:=Ld (LE H.rows z) λx hx=>R7 H.rows hx
    omega
   exact Ag (BK.2 ⟨B.1,by rw[H.rows.len];exact B.2⟩) (Ap (La F) (Al _))
 ·have e:FF f out h= []:=by unfold FF Kf;rw[if_neg hh];rfl
  rw[e];refine AM ?_ (Al _);simp only[zau];omega
def Aoy(f:iE):List Int:=(gE f.blocks.length).map λk:Nat=>(k:Int)
theorem Yt{b:Int}:b∈Aoy f↔0<=b/\b.toNat < f.blocks.length:=by
 unfold Aoy;simp only[fM,fQ];constructor
 ·rintro⟨k,hk,rfl⟩;exact⟨by omega,by simpa using hk⟩
 ·rintro⟨h0,h1⟩;exact⟨b.toNat,h1,by omega⟩
theorem Ae6(n:Nat):Asc ((gE n).map λk:Nat=>(k:Int)):=by
 unfold Asc;rw[gD];exact List.pairwise_lt_range.imp λh=>by omega
theorem Amq(f:iE):Asc (Aoy f):=Ae6 _
theorem Amp(f:iE):(Aoy f).length=f.blocks.length:=by simp[Aoy]
def Jw(f:iE)(out:List (List Int)):List Int:=(Aoy f).filter λh=>!(FF f out h).isEmpty
theorem Ahn{k:Nat}:(((gE (k+1)).map λk:Nat=>(k:Int)).filter p)=(((gE k).map λk:Nat=>(k:Int)).filter p)++(if p (k:Int)then [(k:Int)]else []):=by
 rw[gI,eZ,dL];simp[dN]
theorem Al3{k:Nat}:(((gE k).map λk:Nat=>(k:Int)).filter p).length<=k:=by
 have:=eS p ((gE k).map λk:Nat=>(k:Int));simpa using this
theorem Aj7(h:n<=8796093022208):EM n 8=aZ:=by
 unfold EM cF;simp;omega
theorem Als(c:iD f)(B:(Dm f).to out)(H:AboveP f out):(HF f).to (Jw f out):=by
 have D:=c.small.blocks;unfold HF;refine Ap (a:=Jw f out) (BZ (λk:Nat=>((k:Int),((gE k).map λk:Nat=>(k:Int)).filter λh=>!(FF f out h).isEmpty)) f.blocks.length (λk hk=>?_) ?_ (jL _)) (Al _)
 ·simp only[FM];refine AM (decide_eq_true (by omega)) (Ap (a:=((gE (k+1)).map λk:Nat=>(k:Int)).filter λh=>!(FF f out h).isEmpty) (Ap (XX c B H _) ?_) ?_)
  ·rw[Ahn];cases ht:FF f out (k:Int)with
   |nil=>simp;exact Al _
   |cons x l=>
    simp only[List.isEmpty_cons,aS,if_true];have:=Al3 (p:=λh=>!(FF f out h).isEmpty) (k:=k);exact AM (decide_eq_true (by simp only[eQ];omega)) (Ag (wfN (by omega) (n:=f.blocks.length) (by simpa using hk) (by omega)) (Ag (Aj7 (by simp only[zai];omega)) (Al _)))
  ·rw[Arf hk (by omega)];exact Al _
 ·simp only[FM];exact AF (decide_eq_false (by omega)) (Al _)
inductive LoopI(f:Func)(h:Int):Int->Prop
 |tail {b:Int}:b≠h->h∈nextL f b->RchF f (-1) b->¬RchF f h b->LoopI f h b
 |step {b k:Int}:b≠h->RchF f (-1) b->k∈nextL f b->k≠h->LoopI f h k->LoopI f h b
theorem LoopI.rch{b:Int}(H:LoopI f h b):RchF f (-1) b:=by cases H <;> assumption
open Classical in
noncomputable def EC(f:iE)(out:List (List Int))(h:Int):List Int:=if(FF f out h).isEmpty then []else(Aoy f).filter λb=>decide (b=h\/LoopI f h b)
theorem L4(h:Int):Asc (EC f out h):=by
 unfold EC;split
 ·exact cN
 ·exact(Amq f).filter _
theorem XY{b:Int}(hb:b∈FF f out h):0<=h/\h.toNat < f.blocks.length:=by
 unfold FF Kf at hb;split at hb
 ·assumption
 ·cases hb
theorem Agd{b:Int}(ht:FF f out h≠[]):b∈EC f out h↔b=h\/LoopI f h b:=by
 unfold EC;rw[if_neg (by simpa using ht),fJ,Yt];simp only[decide_eq_true_eq];refine⟨(·.2),λe=>⟨?_,e⟩⟩;rcases e with e|e
 ·obtain⟨x,hx⟩:=dJ _ ht;rw[e];exact XY hx
 ·exact e.rch.lt
structure LoopS(f:Func)(out:List (List Int))(h:Int)(at':Nat)(wait o:List Int):Prop where
 head:h∈o
 nod:o.Nodup
 inn:∀b∈o,b≠h->LoopI f h b
 rng:∀b∈o,0<=b/\b.toNat < f.blocks.length
 wrng:∀b∈wait,0<=b/\b.toNat < f.blocks.length
 win:∀b∈wait,RchF f (-1) b->b≠h->LoopI f h b
 tls:∀b∈FF f out h,b∈wait
 bef:∀k∈o,k≠h->∀b∈Kf f k,b∈wait
 done:∀(j:Nat) (b:Int),j < at'->wait[j]? =some b->RchF f (-1) b->b∈o
 le:at'<=wait.length
 few:wait.length<=2 * f.blocks.length * o.length
theorem LoopS.fin{B o:List Int}(H:AboveP f out)(S:LoopS f out h B.length B o):∀b,b∈o↔b=h\/LoopI f h b:=λb=>by
 have hw:∀b∈B,RchF f (-1) b->b∈o:=λb hb L=>by
  obtain⟨j,I⟩:=eG hb;exact S.done j b (eE.1 I).1 I L
 constructor
 ·intro hb;by_cases e:b=h
  ·exact .inl e
  ·exact .inr (S.inn b hb e)
 ·rintro(e|e)
  ·rw[e];exact S.head
  ·induction e with
   |tail h1 h2 D F=>exact hw _ (S.tls _ ((Oa H).2 ⟨h2,D,F⟩)) D
   |step h1 h2 D F _ J=>exact hw _ (S.bef _ J F _ (EJ.2 D)) h2
theorem LoopS.skip{b:Int}{B o:List Int}(S:LoopS f out h at' B o)(hb:B[at']? =jS b)(F:RchF f (-1) b->b∈o):LoopS f out h (at'+1) B o:=
 ⟨S.head,S.nod,S.inn,S.rng,S.wrng,S.win,S.tls,S.bef,λj c I hc D=>by
  by_cases e:j=at'
  ·subst e;rw[hb]at hc;cases hc;exact F D
  ·exact S.done j c (by omega) hc D,(eE.1 hb).1,S.few⟩
theorem LoopS.add{b:Int}{B o:List Int}(S:LoopS f out h at' B o)(hb:B[at']? =jS b)(L:RchF f (-1) b)(N:b∉o):LoopS f out h (at'+1) (B++Kf f b) (o++[b]):=by
 have D:b≠h:=λe=>N (e▸S.head)
 have O:=S.win b (fN hb) L D;have I:=(eE.1 hb).1;refine⟨fD _ S.head,?_,λc hc hne=>?_,λc hc=>?_,λc hc=>?_,λc hc h1 h2=>?_,λc hc=>fD _ (S.tls c hc),λk hk J c hc=>?_,λj c U hc F=>?_,by rw[eP];omega,?_⟩
 ·rw[fW];exact⟨S.nod,by simp,λx hx y T=>by rw[fT.1 T];exact λe=>N (e▸hx)⟩
 ·rcases fC.1 hc with hc|hc
  ·exact S.inn c hc hne
  ·rw[fT.1 hc];exact O
 ·rcases fC.1 hc with hc|hc
  ·exact S.rng c hc
  ·rw[fT.1 hc];exact L.lt
 ·rcases fC.1 hc with hc|hc
  ·exact S.wrng c hc
  ·exact Po (EJ.1 hc)
 ·rcases fC.1 hc with hc|hc
  ·exact S.win c hc h1 h2
  ·exact .step h2 h1 (EJ.1 hc) D O
 ·rcases fC.1 hk with hk|hk
  ·exact fD _ (S.bef k hk J c hc)
  ·rw[fT.1 hk]at hc;exact fE _ hc
 ·by_cases e:j=at'
  ·subst e;rw[eA I,hb]at hc;cases hc;exact fE _ (by simp)
  ·rw[eA (by omega)]at hc;exact fD _ (S.done j c (by omega) hc F)
 ·have h1:=S.few;have h2:=Ox (f:=f) b;rw[eP,eP,jF];simp only[zai];omega
theorem Un{o:List Int}(h:o.Nodup)(B:∀b∈o,0<=b/\b.toNat < n):o.length<=n:=Hu h B
theorem Aqa(c:iD f)(ho:(Dm f).to out)(H:AboveP f out)(h:Int):(JG f h).to (EC f out h):=by
 have hn:=c.small.blocks;unfold JG;refine Ap (XX c ho H h) ?_;by_cases ht:FF f out h= []
 ·rw[ht];have:EC f out h= []:=by unfold EC;rw[ht];rfl
  rw[this];exact AM V (Al _)
 ·obtain⟨x,hx⟩:=dJ _ ht;have Z:=XY hx;obtain⟨l,_,W,Y⟩:=ZT c;refine AF (by simpa using ht) (Ap (Vo c) (Ap Y (Ag (wfN Z.1 Z.2 (by omega)) ?_)));have O:∀b:Int,0<=b->b.toNat < f.blocks.length->(ixD (IX f.blocks.length l l.length) b=aZ↔RchF f (-1) b):=λb h0 h1=>by
   have:=Ajv (l:=l) h1;rw[cJ h0]at this;rw[this,cY,W.mem]
  have q1:∀b∈FF f out h,0<=b/\b.toNat < f.blocks.length:=λb hb=>((Oa H).1 hb).2.1.lt
  have q2:∀b∈FF f out h,RchF f (-1) b->b≠h->LoopI f h b:=λb hb J hne=>.tail hne ((Oa H).1 hb).1 J ((Oa H).1 hb).2.2
  have q3:(FF f out h).length<=2 * f.blocks.length * [h].length:=by
   have h3:=Ox (f:=f) h;have h4:(FF f out h).length<=(Kf f h).length:=eS _ _;simp only[jK,jI,zai];exact jB h4 h3
  obtain⟨r,h1,h2⟩:=iO (step:=FL (G6 f f.blocks.length) (IX f.blocks.length l l.length)) (λq=>∃k:Nat,q.1=(k:Int)/\LoopS f out h k q.2.1 q.2.2) (λq=>(f.blocks.length+1 - q.2.2.length) *(2 * f.blocks.length+1)+(q.2.1.length - q.1.toNat)) (λr=>r=EC f out h) (by
   rintro⟨i,B,o⟩ ⟨k,e,S⟩;have e:i=(k:Int):=e;subst e;have S:LoopS f out h k B o:=S;have aa:=Un S.nod S.rng;have af:B.length<=2 * f.blocks.length * f.blocks.length:=jB S.few (jH _ aa);have ag:2 * f.blocks.length * f.blocks.length<=2 * 2097152 * 2097152:=jG (by omega) hn;simp only[FL];by_cases hk:k=B.length
   ·subst hk;refine⟨.inr (o.mergeSort λx y=>decide (x<=y)),AM (by simp) (Ag (decide_eq_true (by omega)) (Al _)),(λs' e=>by cases e),λr e=>?_⟩;cases e;refine G7 (Oy S.nod) (L4 h) λb=>?_
    rw[List.mem_mergeSort,S.fin H,Agd ht]
   ·have N:k < B.length:=by have:=S.le;omega
    obtain⟨b,hb⟩:∃b,B[k]? =jS b:=⟨_,eC N⟩
    have F:=S.wrng b (fN hb);have ac:ixD B (k:Int)=b:=BV hb;rw[ac];have T:Cd (IX f.blocks.length l l.length) b=aZ:=BK.2 ⟨F.1,by rw[OH];exact F.2⟩;by_cases I:RchF f (-1) b/\b∉o
    ·have U:=S.add hb I.1 I.2;have L:=Un U.nod U.rng;rw[eP]at L;simp only[zai]at L;obtain⟨g1,g2⟩:=Aig F.1 F.2;have ae:B.length+(Kf f b).length<=2 * f.blocks.length * f.blocks.length:=by
      have:=U.few;rw[eP,eP]at this;exact jB this (jH _ L)
     have ah:=Ox (f:=f) b;have D:=(O b F.1 F.2).2 I.1;refine⟨.inl (((k+1:Nat):Int),B++Kf f b,o++[b]),AF (by simp;omega) (Ap (a:=(B++Kf f b,o++[b])) (Ag (Fh N) (Ag T (Ap (BX D (La (by omega))) (AM (by rw[D];simpa using I.2) (Ag (wfN F.1 F.2 (by omega)) (Ag (Aj7 (by simp only[zai];omega)) (Ag g1 ?_))))))) ?_),λs' e=>?_,λr e=>by cases e⟩
     ·rw[g2];exact Ag (Aj7 (by omega)) (Al _)
     ·rw[Arf N (by omega)];exact Al _
     ·cases e;refine⟨⟨k+1,rfl,U⟩,?_⟩;have h5:f.blocks.length+1 - o.length=(f.blocks.length+1 - (o.length+1))+1:=by omega
      simp only[cI,jK,zat];rw[h5,Nat.add_mul];omega
    ·refine⟨.inl (((k+1:Nat):Int),B,o),AF (by simp;omega) (Ap (a:=(B,o)) (Ag (Fh N) (Ag T ?_)) ?_),λs' e=>?_,λr e=>by cases e⟩
     ·by_cases J:RchF f (-1) b
      ·have D:=(O b F.1 F.2).2 J;have ad:b∈o:=a7 λe=>I ⟨J,e⟩
       exact Ap (BX D (La (by omega))) (AF (by rw[D];simpa using ad) (Al _))
      ·have D:ixD (IX f.blocks.length l l.length) b=aL:=by
        cases e:ixD (IX f.blocks.length l l.length) b with
        |false=>rfl
        |true=>exact absurd ((O b F.1 F.2).1 e) J
       exact Ap (iS D) (AF (by rw[D];rfl) (Al _))
     ·rw[Arf N (by omega)];exact Al _
     ·cases e;refine⟨⟨k+1,rfl,S.skip hb λJ=>a7 λe=>I ⟨J,e⟩⟩,?_⟩;simp only[cI];omega)
   (0,FF f out h,[h]) ⟨0,rfl,⟨by simp,by simp,λb hb hne=>absurd (fT.1 hb) hne,λb hb=>by rw[fT.1 hb];exact Z,q1,q2,λb hb=>hb,λk hk ab=>absurd (fT.1 hk) ab,λj b hj=>absurd hj (jJ _),jL _,q3⟩⟩
  rw[<-h2];exact h1
end
theorem snoc_ind{B:List α->Prop}(nil:B [])(append_singleton:∀l x,B l->B (l++[x]))(l:List α):B l:=by
 have h:∀l:List α,B l.reverse:=λl=>by
  induction l with
  |nil=>exact nil
  |cons x l D=>rw[gL];exact append_singleton _ _ D
 have:=h l.reverse;rwa [List.reverse_reverse]at this
section
variable{f:iE}
end
section
variable{f:iE}{out:List (List Int)}
theorem YH:(Jw f out).length<=f.blocks.length:=by
 unfold Jw;have:=eS (λh=>!(FF f out h).isEmpty) (Aoy f);rwa [Amp]at this
def WS(l:List Int)(L:List Int):List Int:=L.foldl (λl b=>l.set b.toNat (ixD l b+1)) l
theorem PD{L:List Int}{b:Int}:WS l (L++[b])=(WS l L).set b.toNat (ixD (WS l L) b+1):=by
 unfold WS;rw[dW];rfl
theorem Sz:∀L:List Int,(WS l L).length=l.length:=λL=>by
 induction L using snoc_ind with
 |nil=>rfl
 |append_singleton L b B=>rw[PD,eX,B]
theorem Agx(hx:0<=x):∀{L:List Int},L.Nodup->(∀b∈L,0<=b/\b.toNat < l.length)->ixD (WS l L) x=ixD l x+if x∈L then 1 else 0:=by
 intro L;induction L using snoc_ind with
 |nil=>intro _ _;simp[WS]
 |append_singleton L b N=>
  intro O J;have D:=fW.1 O;have B:=N D.1 λc hc=>J c (fD _ hc)
  have I:=J b (by simp);rw[PD];by_cases e:x=b
  ·subst e;have F:x∉L:=λh=>D.2.2 x h x (by simp) V
   rw[if_neg F]at B;unfold ixD at B⊢;rw[dZ,eL (by rw[Sz];exact I.2),if_pos (by simp)];simp only[jN];omega
  ·have h1:x∈L++[b]↔x∈L:=by simp[e]
   simp only[h1];rw[<-B];unfold ixD;rw[dZ,eK (by omega),dZ]
noncomputable def depthK(f:iE)(out:List (List Int))(k:Nat):List Int:=((Jw f out).take k).foldl (λl h=>WS l (EC f out h)) (gJ f.blocks.length 0)
noncomputable def Di(f:iE)(out:List (List Int)):List Int:=depthK f out (Jw f out).length
theorem PP{k:Nat}(hk:(Jw f out)[k]? =jS h):depthK f out (k+1)=WS (depthK f out k) (EC f out h):=by
 unfold depthK;rw[gP,hk,dW];rfl
theorem Kc(k:Nat):(depthK f out k).length=f.blocks.length:=by
 unfold depthK;generalize (Jw f out).take k=L;induction L using snoc_ind with
 |nil=>simp
 |append_singleton L b B=>rw[dW];simp only[dX,List.foldl_nil];rw[Sz,B]
theorem L3{b:Int}(hb:b∈EC f out h):0<=b/\b.toNat < f.blocks.length:=by
 unfold EC at hb;split at hb
 ·cases hb
 ·exact Yt.1 (fJ.1 hb).1
theorem Age(h:Int):(EC f out h).length<=f.blocks.length:=Ld (L4 h) λx hx=>L3 hx
theorem Ahw(hx:0<=x)(B:x.toNat < f.blocks.length):∀k,k<=(Jw f out).length->ixD (depthK f out k) x=((((Jw f out).take k).countP λh=>(EC f out h).contains x:Nat):Int):=by
 intro k;induction k with
 |zero=>
  intro _;unfold depthK ixD;simp[eI,B]
 |succ k D=>
  intro hk;obtain⟨h,hh⟩:∃h,(Jw f out)[k]? =jS h:=⟨_,eC hk⟩
  rw[PP hh,Agx hx (PY (L4 h)) (λb hb=>by rw[Kc];exact L3 hb),D (by omega),gP,hh,List.countP_append];simp only[jU,List.countP_cons,List.countP_nil,cY,jK];split <;> simp
theorem U6(hx:0<=x)(B:x.toNat < f.blocks.length){k:Nat}(hk:k<=(Jw f out).length):0<=ixD (depthK f out k) x/\ixD (depthK f out k) x<=(k:Int):=by
 rw[Ahw hx B k hk];have:=dC (p:=λh=>(EC f out h).contains x) (l:=(Jw f out).take k);rw[eY]at this;omega
theorem Agw(c:iD f){k q:Nat}(hk:k < (Jw f out).length)(hq:(EC f out h)[q]? =jS x):
 Cd (WS (depthK f out k) ((EC f out h).take q)) x=aZ/\wfB .i64 (bF.wrap (ixD (WS (depthK f out k) ((EC f out h).take q)) x+1))=aZ/\
  (WS (depthK f out k) ((EC f out h).take q)).set (Int.toNat x) (bF.wrap (ixD (WS (depthK f out k) ((EC f out h).take q)) x+1))=WS (depthK f out k) ((EC f out h).take (q+1)):=by
 have N:=c.small.blocks;have B:=L3 (fN hq);have L:=YH (f:=f) (out:=out);have O:=U6 (f:=f) (out:=out) B.1 B.2 (k:=k) (by omega);have D:=PY (L4 (f:=f) (out:=out) h);have I:(EC f out h).take (q+1)=(EC f out h).take q++[x]:=by rw[gP,hq];rfl
 have J:x∉(EC f out h).take q:=λe=>by
  have h2:((EC f out h).take (q+1)).Nodup:=D.sublist (gU _ _);rw[I]at h2;exact(fW.1 h2).2.2 x e x (by simp) V
 have F:=Agx (l:=depthK f out k) B.1 (D.sublist (gU q _)) λb hb=>by rw[Kc];exact L3 (fO hb)
 rw[if_neg J,Int.add_zero]at F;have hw:bF.wrap (ixD (depthK f out k) x+1)=ixD (depthK f out k) x+1:=bJ _ (by omega);refine⟨BK.2 ⟨B.1,by rw[Sz,Kc];exact B.2⟩,?_,?_⟩
 ·rw[F,hw];exact wfN (n:=f.blocks.length+2) (by omega) (by omega) (by omega)
 ·rw[I,PD,F,hw]
theorem Al8(c:iD f)(B:(Dm f).to out)(H:AboveP f out):(HG f).to (Di f out):=by
 have J:=c.small.blocks;have F:=YH (f:=f) (out:=out);unfold HG;refine Ag (by unfold V3 cF;simp;omega) (Ap (Als c B H) (Ap (a:=Di f out) (BZ (step:=EH f (Jw f out)) (λk:Nat=>((k:Int),depthK f out k)) (Jw f out).length (λk hk=>?_) ?_ (jL _)) (Al _)))
 ·obtain⟨h,hh⟩:∃h,(Jw f out)[k]? =jS h:=⟨_,eC hk⟩
  simp only[EH,BV hh];have D:=Age (f:=f) (out:=out) h;refine AM (decide_eq_true (by omega)) (Ag (Fh hk) (Ap (Aqa c B H h) (Ap (a:=depthK f out (k+1)) ?_ (by rw[Aoo hk (by omega)];exact Al _))));rw[PP hh];refine BZ (step:=D4 (EC f out h)) (λq:Nat=>((q:Int),WS (depthK f out k) ((EC f out h).take q))) (EC f out h).length (λq hq=>?_) ?_ (jL _)
  ·obtain⟨x,hx⟩:∃x,(EC f out h)[q]? =jS x:=⟨_,eC hq⟩
   obtain⟨h1,h2,I⟩:=Agw c hk hx;simp only[D4,BV hx];refine AM (decide_eq_true (by omega)) (Ag (Fh hq) (Ag h1 (Ag h2 ?_)));rw[I,Aoo hq (by omega)];exact Al _
  ·rw[gQ];simp only[D4];exact AF (decide_eq_false (by omega)) (Al _)
 ·simp only[EH];exact AF (decide_eq_false (by omega)) (Al _)
end
end Mu
